/- Several texts in one: FoB, FoC, FoD, FoT. -/
import Derived.Test.YtlooaipipmiijaaGreatZU31
namespace Go.Proofs.YtlooaipipmiijaaGreat
set_option linter.unusedVariables false
set_option linter.unusedSimpArgs false
open Go.RowKit
def edV (a b : Nat) (x : Int) (t : Bool) : Value := .agg #[.int .i64 (a : Int), .int .i64 (b : Int), .int .i64 x, .bool t]
theorem Tryz.zeroEdge (w : World) : (zeroValue 117).run Tryz.prog w = .ok (.agg #[.int .i64 0, .int .i64 0, .int .i64 0, .bool false]) w := by kernel_rfl
def cutE (E : Nat → Nat → Prop) (x y : Nat) : Nat → Nat → Prop := fun u v => E u v ∧ ¬ (u = x ∧ v = y) ∧ ¬ (u = y ∧ v = x)
def lnkE (E : Nat → Nat → Prop) (x y : Nat) : Nat → Nat → Prop := fun u v => E u v ∨ (u = x ∧ v = y) ∨ (u = y ∧ v = x)
structure FoLo (w : World) (b : Nat) (f : FoG) (s x y : Nat) (ex : Int) (e : Ending) (w' : World) : Prop where
  val : e = .returned (.tuple #[])
  out : FoS b f w { f with E := cutE (cutE f.E (s + 1) (f.S + x + 1)) (s + 1) (f.S + y + 1), fm := (fun j => if j = (s : Int) then some (edV x y ex false) else f.fm j), tr := f.tr - 1 } w'
structure FlI (w : World) (b : Nat) (f : FoG) (z : Nat) (cs : List Value) (fk : FoG) (W : World) : Prop where
  st : FoS b f w fk W
  bz : Blk W z 117 cs
  nz : ¬ fk.foot b z
  zs : w.heap.size ≤ z
theorem FlI.start {w : World} {b : Nat} {f : FoG} (h : FoM w b f) (cs : List Value) : FlI w b f w.heap.size cs f (w.alloc (.cells cs.toArray 117)) :=
  ⟨(FoS.refl h).below (bel_alloc w _), Blk.new w _ cs, fun e => by have := h.foot_lt _ e; omega, Nat.le_refl _⟩
theorem FlI.below {w W W1 : World} {b z : Nat} {f fk : FoG} {cs : List Value} (h : FlI w b f z cs fk W) (hb : Below W.heap.size W W1) : FlI w b f z cs fk W1 := ⟨h.st.below hb, h.bz.below hb h.bz.lt, h.nz, h.zs⟩
theorem FlI.step {w W W1 : World} {b z : Nat} {f fk f2 : FoG} {cs : List Value} (h : FlI w b f z cs fk W) (k : FoS b fk W f2 W1) : FlI w b f z cs f2 W1 :=
  ⟨h.st.trans k, (k.box h.bz h.nz).1, (k.box h.bz h.nz).2, h.zs⟩
theorem FlI.set {w W : World} {b z : Nat} {f fk : FoG} {cs : List Value} (h : FlI w b f z cs fk W) (j : Nat) (v : Value) : FlI w b f z (cs.set j v) fk (W.setCell ⟨z, j, none⟩ v) := by
  have m : Mod (fun x => x = z) W (W.setCell ⟨z, j, none⟩ v) := (Mod.refl (fun x => x = z) W).setCell ⟨z, j, none⟩ (fun _ => rfl) v
  refine ⟨⟨h.st.mem.mod m (fun k hk e => h.nz (by rw [← show k = z from e]; exact hk)), h.st.mod.trans m (fun x hx e => by have := h.zs; have e' : x = z := e; omega), h.st.ft⟩, h.bz.set j v, h.nz, h.zs⟩
set_option maxHeartbeats 4000000 in
set_option maxRecDepth 100000 in
theorem fo_loosen (w : World) (b : Nat) (f : FoG) (h : FoM w b f) (s x y : Nat) (ex : Int) (hs : s < f.S) (hx : x < f.V) (hy : y < f.V) (hxy : x ≠ y) (hm : f.fm (s : Int) = some (edV x y ex true)) (e1 : f.E (s + 1) (f.S + x + 1)) (e2 : f.E (s + 1) (f.S + y + 1)) (hsz : f.S ≤ 65536 ∧ f.V ≤ 65536) (hc : f.c < maxLen) (ht : 0 ≤ f.tr ∧ f.tr ≤ 65536) :
    Calls Tryz.prog 57 #[.pointer (some ⟨b, 0, none⟩), .int .i64 (s : Int)] w (FoLo w b f s x y ex) := by
  have H := Lib.hid h
  have HM := Lib.hid hm
  have c1 := h.s1
  have c2 := h.s2
  have c4 := h.s4
  have hlk := h.map.look Tryz.underlying3 Tryz.underlying113 (Tryz.zeroEdge w) (i := (s : Int)) (wf_i64K (by omega) (by omega))
  rw [hm] at hlk
  have hlk2 : (Instr.lookup 113 (.map (some f.mb)) (.int .i64 (s : Int)) false).run Tryz.prog w = .ok (.agg #[.int .i64 (x : Int), .int .i64 (y : Int), .int .i64 ex, .bool true]) w := hlk
  clear hlk
  clear h hm
  go_enter Tryz.func57, Tryz.ntmps57
  go_upto_region 1 with fail
  have HI1 := Lib.hid (FlI.start H.out [.int .i64 (x : Int), .int .i64 (y : Int), .int .i64 ex, .bool true])
  generalize w.alloc (.cells #[.int .i64 (x : Int), .int .i64 (y : Int), .int .i64 ex, .bool true] 117) = w1 at *
  generalize w.heap.size = z at *
  have hwx : IntKind.i64.wrap ((f.S : Int) + (x : Int)) = ((f.S + x : Nat) : Int) := by rw [IntWalk.i64_in _ (by omega)]; omega
  have hwy : IntKind.i64.wrap ((f.S : Int) + (y : Int)) = ((f.S + y : Nat) : Int) := by rw [IntWalk.i64_in _ (by omega)]; omega
  have hwt : IntKind.i64.wrap (f.tr - 1) = f.tr - 1 := IntWalk.i64_in _ (by omega)
  clear hlk2 c1 c2 c4
  refine region_tailD 13 (by kernel_rfl) (by kernel_rfl) ?_
  intro w2 hw2
  have HI2 := Lib.hid (HI1.out.below hw2.self)
  clear hw2 HI1
  have c1 := HI2.out.st.mem.s1
  have c2 := HI2.out.st.mem.s2
  have z0 := HI2.out.bz.cell (i := 0) rfl
  have z1 := HI2.out.bz.cell (i := 1) rfl
  have HCT : Hid (Calls Tryz.prog 98 #[.pointer (some ⟨f.lp, 0, none⟩), .int .i64 (s : Int), .int .i64 ((f.S + x : Nat) : Int)] w2 (LcChg w2 f.lp f.lg (f.S + f.V) (cutE f.E (s + 1) (f.S + x + 1)) f.key)) := by
    obtain ⟨N, ed, h1, h2⟩ := HI2.out.st.mem.lct
    exact lc_cut w2 f.lp f.lg (f.S + f.V) f.E f.key N ed h1 h2 s (f.S + x) (by omega) (by omega) e1
  simp only [List.take_succ_cons, List.take_zero, List.drop_succ_cons, List.drop_zero]
  repeat still_step
  refine wpStill_nil ?_
  clear z0 z1 c1 c2
  go_wp2_with (go_at_call 98; refine HCT.out.mono ?_; rintro e w3 ⟨rfl, ho, hmd⟩; have HO := Lib.hid ho; have HMD := Lib.hid hmd; clear ho hmd)
  obtain ⟨N3, ed3, ho3, hl3⟩ := HO.out
  have HI3 := Lib.hid (HI2.out.step (HI2.out.st.mem.sLct HMD.out ⟨N3, ed3, ho3, hl3⟩))
  clear HI2 HO HMD HCT ho3 hl3
  refine region_tailD 13 (by kernel_rfl) (by kernel_rfl) ?_
  intro w4 hw4
  have HI4 := Lib.hid (HI3.out.below hw4.self)
  clear hw4 HI3
  have c1 := HI4.out.st.mem.s1
  have c2 := HI4.out.st.mem.s2
  have z0 := HI4.out.bz.cell (i := 0) rfl
  have z1 := HI4.out.bz.cell (i := 1) rfl
  have HCT : Hid (Calls Tryz.prog 98 #[.pointer (some ⟨f.lp, 0, none⟩), .int .i64 (s : Int), .int .i64 ((f.S + y : Nat) : Int)] w4 (LcChg w4 f.lp f.lg (f.S + f.V) (cutE (cutE f.E (s + 1) (f.S + x + 1)) (s + 1) (f.S + y + 1)) f.key)) := by
    obtain ⟨N, ed, h1, h2⟩ := HI4.out.st.mem.lct
    exact lc_cut w4 f.lp f.lg (f.S + f.V) (cutE f.E (s + 1) (f.S + x + 1)) f.key N ed h1 h2 s (f.S + y) (by omega) (by omega) ⟨e2, by omega, by omega⟩
  simp only [List.take_succ_cons, List.take_zero, List.drop_succ_cons, List.drop_zero]
  repeat still_step
  refine wpStill_nil ?_
  clear z0 z1 c1 c2
  have fz3 : Hid (Blk w4 z 117 [.int .i64 (x : Int), .int .i64 (y : Int), .int .i64 ex, .bool true]) := HI4.out.bz
  go_upto_region 3 with (go_at_call 98; refine HCT.out.mono ?_; rintro e w5 ⟨rfl, ho, hmd⟩; have HO := Lib.hid ho; have HMD := Lib.hid hmd; clear ho hmd)
  obtain ⟨N5, ed5, ho5, hl5⟩ := HO.out
  have HI5 := Lib.hid (HI4.out.step (HI4.out.st.mem.sLct HMD.out ⟨N5, ed5, ho5, hl5⟩))
  clear HI4 HO HMD HCT ho5 hl5 fz3
  have d3 := HI5.out.bz.cell (i := 3) rfl
  have f3 := HI5.out.bz.free 3
  go_upto_region 4 with fail
  have HI6 := Lib.hid (HI5.out.set 3 (.bool false))
  clear d3 f3 HI5
  generalize w5.setCell ⟨z, 3, none⟩ (.bool false) = w6 at *
  refine region_tailD 6 (by kernel_rfl) (by kernel_rfl) ?_
  intro w7 hw7
  have HI7 := Lib.hid (HI6.out.below hw7.self)
  clear hw7 HI6
  have c4 := HI7.out.st.mem.s4
  have z0 := HI7.out.bz.cell (i := 0) rfl
  have z1 := HI7.out.bz.cell (i := 1) rfl
  have z2 := HI7.out.bz.cell (i := 2) rfl
  have z3 := HI7.out.bz.cell (i := 3) rfl
  simp only [List.take_succ_cons, List.take_zero, List.drop_succ_cons, List.drop_zero]
  repeat still_step
  refine wpStill_nil ?_
  clear z0 z1 z2 z3 c4
  refine wpList_storeK rfl _ _ _ rfl Tryz.underlying3 Tryz.underlying113 rfl HI7.out.st.mem.map hc (i := (s : Int)) (wf_i64K (by omega) (by omega)) (c' := f.c) (by rw [HM.out]; rfl) (edV x y ex false) rfl rfl ?_
  intro w8 hmk hmd
  have HI8 := Lib.hid (HI7.out.step (HI7.out.st.mem.sMap hmd hmk))
  clear HI7 hmk hmd
  have c5 := HI8.out.st.mem.s5
  have fz := HI8.out.st.mem.box.free 5
  have HI9 := Lib.hid (HI8.out.step (HI8.out.st.mem.sTr (f.tr - 1)))
  clear HI8
  go_wp2_with fail
  go_end0
  exact ⟨rfl, HI9.out.st⟩
structure FoFa (w : World) (b : Nat) (f : FoG) (s x y : Nat) (ex : Int) (e : Ending) (w' : World) : Prop where
  val : e = .returned (.tuple #[])
  out : FoS b f w { f with E := lnkE (lnkE f.E (s + 1) (f.S + x + 1)) (s + 1) (f.S + y + 1), key := (fun u => if u = s + 1 then ex else f.key u), fm := (fun j => if j = (s : Int) then some (edV x y ex true) else f.fm j), tr := f.tr + 1 } w'
set_option maxHeartbeats 4000000 in
set_option maxRecDepth 100000 in
theorem fo_fasten (w : World) (b : Nat) (f : FoG) (h : FoM w b f) (s x y : Nat) (ex : Int) (hs : s < f.S) (hx : x < f.V) (hy : y < f.V) (hxy : x ≠ y) (hm : f.fm (s : Int) = some (edV x y ex false)) (e1 : ¬ Rch f.E (s + 1) (f.S + x + 1)) (e2 : ¬ Rch (lnkE f.E (s + 1) (f.S + x + 1)) (s + 1) (f.S + y + 1)) (hsz : f.S ≤ 65536 ∧ f.V ≤ 65536) (hc : f.c < maxLen) (ht : 0 ≤ f.tr ∧ f.tr ≤ 65536) :
    Calls Tryz.prog 95 #[.pointer (some ⟨b, 0, none⟩), .int .i64 (s : Int)] w (FoFa w b f s x y ex) := by
  have H := Lib.hid h
  have HM := Lib.hid hm
  have c1 := h.s1
  have c2 := h.s2
  have c4 := h.s4
  have hlk := h.map.look Tryz.underlying3 Tryz.underlying113 (Tryz.zeroEdge w) (i := (s : Int)) (wf_i64K (by omega) (by omega))
  rw [hm] at hlk
  have hlk2 : (Instr.lookup 113 (.map (some f.mb)) (.int .i64 (s : Int)) false).run Tryz.prog w = .ok (.agg #[.int .i64 (x : Int), .int .i64 (y : Int), .int .i64 ex, .bool false]) w := hlk
  clear hlk
  clear h hm
  go_enter Tryz.func95, Tryz.ntmps95
  go_upto_region 1 with fail
  have HI1 := Lib.hid (FlI.start H.out [.int .i64 (x : Int), .int .i64 (y : Int), .int .i64 ex, .bool false])
  generalize w.alloc (.cells #[.int .i64 (x : Int), .int .i64 (y : Int), .int .i64 ex, .bool false] 117) = w1 at *
  generalize w.heap.size = z at *
  have hwx : IntKind.i64.wrap ((f.S : Int) + (x : Int)) = ((f.S + x : Nat) : Int) := by rw [IntWalk.i64_in _ (by omega)]; omega
  have hwy : IntKind.i64.wrap ((f.S : Int) + (y : Int)) = ((f.S + y : Nat) : Int) := by rw [IntWalk.i64_in _ (by omega)]; omega
  have hwt : IntKind.i64.wrap (f.tr + 1) = f.tr + 1 := IntWalk.i64_in _ (by omega)
  clear hlk2 c1 c2 c4
  refine region_tailD 8 (by kernel_rfl) (by kernel_rfl) ?_
  intro wa hwa
  have HIa := Lib.hid (HI1.out.below hwa.self)
  clear hwa HI1
  have c2 := HIa.out.st.mem.s2
  have z2 := HIa.out.bz.cell (i := 2) rfl
  have HST : Hid (∃ ed, Calls Tryz.prog 83 #[.pointer (some ⟨f.lp, 0, none⟩), .int .i64 (s : Int), .int .i64 ex] wa (LcInt wa f.lp f.lg (f.S + f.V) f.E (fun u => if u = s + 1 then ex else f.key u) ed (.int .i64 0))) := by
    obtain ⟨N, ed, h1, h2⟩ := HIa.out.st.mem.lct
    exact ⟨ed, lc_set wa f.lp f.lg (f.S + f.V) f.E f.key N ed h1 h2 s (by omega) ex⟩
  obtain ⟨edS, hst⟩ := HST.out
  have HST2 := Lib.hid hst
  clear HST hst
  simp only [List.take_succ_cons, List.take_zero, List.drop_succ_cons, List.drop_zero]
  repeat still_step
  refine wpStill_nil ?_
  clear z2 c2
  go_upto_region 2 with (go_at_call 83; refine HST2.out.mono ?_; rintro e wb ⟨rfl, ho, hmd⟩; have HO := Lib.hid ho; have HMD := Lib.hid hmd; clear ho hmd)
  obtain ⟨Nb, hob, hlb⟩ := HO.out
  have HI1 := Lib.hid (HIa.out.step (HIa.out.st.mem.sLct (HMD.out.mono (fun k _ e => .inl e)) ⟨Nb, edS, hob, hlb⟩))
  clear HIa HO HMD HST2 hob hlb
  refine region_tailD 13 (by kernel_rfl) (by kernel_rfl) ?_
  intro w2 hw2
  have HI2 := Lib.hid (HI1.out.below hw2.self)
  clear hw2 HI1
  have c1 := HI2.out.st.mem.s1
  have c2 := HI2.out.st.mem.s2
  have z0 := HI2.out.bz.cell (i := 0) rfl
  have z1 := HI2.out.bz.cell (i := 1) rfl
  have HCT : Hid (Calls Tryz.prog 128 #[.pointer (some ⟨f.lp, 0, none⟩), .int .i64 (s : Int), .int .i64 ((f.S + x : Nat) : Int)] w2 (LcChg w2 f.lp f.lg (f.S + f.V) (lnkE f.E (s + 1) (f.S + x + 1)) (fun u => if u = s + 1 then ex else f.key u))) := by
    obtain ⟨N, ed, h1, h2⟩ := HI2.out.st.mem.lct
    exact lc_link w2 f.lp f.lg (f.S + f.V) f.E (fun u => if u = s + 1 then ex else f.key u) N ed h1 h2 s (f.S + x) (by omega) (by omega) e1
  simp only [List.take_succ_cons, List.take_zero, List.drop_succ_cons, List.drop_zero]
  repeat still_step
  refine wpStill_nil ?_
  clear z0 z1 c1 c2
  go_wp2_with (go_at_call 128; refine HCT.out.mono ?_; rintro e w3 ⟨rfl, ho, hmd⟩; have HO := Lib.hid ho; have HMD := Lib.hid hmd; clear ho hmd)
  obtain ⟨N3, ed3, ho3, hl3⟩ := HO.out
  have HI3 := Lib.hid (HI2.out.step (HI2.out.st.mem.sLct HMD.out ⟨N3, ed3, ho3, hl3⟩))
  clear HI2 HO HMD HCT ho3 hl3
  refine region_tailD 13 (by kernel_rfl) (by kernel_rfl) ?_
  intro w4 hw4
  have HI4 := Lib.hid (HI3.out.below hw4.self)
  clear hw4 HI3
  have c1 := HI4.out.st.mem.s1
  have c2 := HI4.out.st.mem.s2
  have z0 := HI4.out.bz.cell (i := 0) rfl
  have z1 := HI4.out.bz.cell (i := 1) rfl
  have HCT : Hid (Calls Tryz.prog 128 #[.pointer (some ⟨f.lp, 0, none⟩), .int .i64 (s : Int), .int .i64 ((f.S + y : Nat) : Int)] w4 (LcChg w4 f.lp f.lg (f.S + f.V) (lnkE (lnkE f.E (s + 1) (f.S + x + 1)) (s + 1) (f.S + y + 1)) (fun u => if u = s + 1 then ex else f.key u))) := by
    obtain ⟨N, ed, h1, h2⟩ := HI4.out.st.mem.lct
    exact lc_link w4 f.lp f.lg (f.S + f.V) (lnkE f.E (s + 1) (f.S + x + 1)) (fun u => if u = s + 1 then ex else f.key u) N ed h1 h2 s (f.S + y) (by omega) (by omega) e2
  simp only [List.take_succ_cons, List.take_zero, List.drop_succ_cons, List.drop_zero]
  repeat still_step
  refine wpStill_nil ?_
  clear z0 z1 c1 c2
  have fz3 : Hid (Blk w4 z 117 [.int .i64 (x : Int), .int .i64 (y : Int), .int .i64 ex, .bool false]) := HI4.out.bz
  go_upto_region 4 with (go_at_call 128; refine HCT.out.mono ?_; rintro e w5 ⟨rfl, ho, hmd⟩; have HO := Lib.hid ho; have HMD := Lib.hid hmd; clear ho hmd)
  obtain ⟨N5, ed5, ho5, hl5⟩ := HO.out
  have HI5 := Lib.hid (HI4.out.step (HI4.out.st.mem.sLct HMD.out ⟨N5, ed5, ho5, hl5⟩))
  clear HI4 HO HMD HCT ho5 hl5 fz3
  have d3 := HI5.out.bz.cell (i := 3) rfl
  have f3 := HI5.out.bz.free 3
  go_upto_region 5 with fail
  have HI6 := Lib.hid (HI5.out.set 3 (.bool true))
  clear d3 f3 HI5
  generalize w5.setCell ⟨z, 3, none⟩ (.bool true) = w6 at *
  refine region_tailD 6 (by kernel_rfl) (by kernel_rfl) ?_
  intro w7 hw7
  have HI7 := Lib.hid (HI6.out.below hw7.self)
  clear hw7 HI6
  have c4 := HI7.out.st.mem.s4
  have z0 := HI7.out.bz.cell (i := 0) rfl
  have z1 := HI7.out.bz.cell (i := 1) rfl
  have z2 := HI7.out.bz.cell (i := 2) rfl
  have z3 := HI7.out.bz.cell (i := 3) rfl
  simp only [List.take_succ_cons, List.take_zero, List.drop_succ_cons, List.drop_zero]
  repeat still_step
  refine wpStill_nil ?_
  clear z0 z1 z2 z3 c4
  refine wpList_storeK rfl _ _ _ rfl Tryz.underlying3 Tryz.underlying113 rfl HI7.out.st.mem.map hc (i := (s : Int)) (wf_i64K (by omega) (by omega)) (c' := f.c) (by rw [HM.out]; rfl) (edV x y ex true) rfl rfl ?_
  intro w8 hmk hmd
  have HI8 := Lib.hid (HI7.out.step (HI7.out.st.mem.sMap hmd hmk))
  clear HI7 hmk hmd
  have c5 := HI8.out.st.mem.s5
  have fz := HI8.out.st.mem.box.free 5
  have HI9 := Lib.hid (HI8.out.step (HI8.out.st.mem.sTr (f.tr + 1)))
  clear HI8
  go_wp2_with fail
  go_end0
  exact ⟨rfl, HI9.out.st⟩
end Go.Proofs.YtlooaipipmiijaaGreat

namespace Go.Proofs.YtlooaipipmiijaaGreat
set_option linter.unusedVariables false
set_option linter.unusedSimpArgs false
open Go.RowKit
noncomputable def fmF (g : Nat → GE) (L F : Nat → Prop) (i : Int) : Option Value := open Classical in if 0 ≤ i ∧ L i.toNat then some (edV (g i.toNat).a (g i.toNat).b (g i.toNat).exp (decide (F i.toNat))) else none
theorem fmF_yes {g : Nat → GE} {L F : Nat → Prop} {s : Nat} (h : L s) (k : F s) : fmF g L F (s : Int) = some (edV (g s).a (g s).b (g s).exp true) := by
  unfold fmF
  rw [if_pos ⟨by omega, h⟩]
  simp [k]
theorem fmF_no {g : Nat → GE} {L F : Nat → Prop} {s : Nat} (h : L s) (k : ¬ F s) : fmF g L F (s : Int) = some (edV (g s).a (g s).b (g s).exp false) := by
  unfold fmF
  rw [if_pos ⟨by omega, h⟩]
  simp [k]
theorem fmF_out {g : Nat → GE} {L F : Nat → Prop} {s : Nat} (h : ¬ L s) : fmF g L F (s : Int) = none := by
  unfold fmF
  rw [if_neg (fun e => h e.2)]
theorem fmF_up {g g' : Nat → GE} {L L' F F' : Nat → Prop} {s : Nat} {v : Option Value} (hv : fmF g' L' F' (s : Int) = v) (h : ∀ t, t ≠ s → g' t = g t ∧ (L' t ↔ L t) ∧ (F' t ↔ F t)) (i : Int) : (if i = (s : Int) then v else fmF g L F i) = fmF g' L' F' i := by
  by_cases c : i = (s : Int)
  · rw [if_pos c, c, hv]
  · rw [if_neg c]
    unfold fmF
    by_cases d : 0 ≤ i
    · obtain ⟨h1, h2, h3⟩ := h i.toNat (by omega)
      by_cases l : L i.toNat
      · rw [if_pos ⟨d, l⟩, if_pos ⟨d, h2.2 l⟩, h1]
        by_cases k : F i.toNat
        · simp [k, h3.2 k]
        · have k2 : ¬ F' i.toNat := fun e => k (h3.1 e)
          simp [k, k2]
      · rw [if_neg (fun e => l e.2), if_neg (fun e => l (h2.1 e.2))]
    · rw [if_neg (fun e => d e.1), if_neg (fun e => d e.1)]
structure FoP0 (f : FoG) (g : Nat → GE) (L F : Nat → Prop) : Prop where
  ls : ∀ s, L s → s < f.S ∧ (g s).a < f.V ∧ (g s).b < f.V ∧ (g s).a ≠ (g s).b ∧ (g s).exp ≤ 9223372036854775807
  FL : ∀ s, F s → L s
  eE : ∀ x y, f.E x y ↔ EF f.S g F x y
  ke : ∀ s, F s → f.key (s + 1) = (g s).exp
  kv : ∀ v, v < f.V → f.key (f.S + v + 1) = 9223372036854775807
  fm : ∀ i, f.fm i = fmF g L F i
  que : ∀ i k, (i, k) ∈ f.Q ↔ ∃ s : Nat, i = (s : Int) ∧ L s ∧ k = (g s).exp
  tr : f.tr = (cntP F f.S : Int)
  c : f.c = cntP L f.S
  sz : f.S ≤ 16384 ∧ f.V ≤ 4096
structure FoP (f : FoG) (g : Nat → GE) (L F : Nat → Prop) : Prop extends FoP0 f g L F where
  span : Span g L F
section
variable {f : FoG} {g : Nat → GE} {L F : Nat → Prop} {w : World} {b : Nat}
theorem FoP0.fg (h : FoP0 f g L F) (m : FoM w b f) : ∃ N ed, LObj w f.lp f.lg (f.S + f.V) N ed ∧ FG f.S f.V g F N ∧ LG (f.S + f.V) f.E f.key N := by
  obtain ⟨N, ed, h1, h2⟩ := m.lct
  refine ⟨N, ed, h1, ⟨fun s hs => ?_, f.key, ?_, h.ke, h.kv⟩, h2⟩
  · obtain ⟨a1, a2, a3, a4, a5⟩ := h.ls s (h.FL s hs)
    exact ⟨a1, a2, a3, a4, a5⟩
  · have : f.E = EF f.S g F := funext fun x => funext fun y => propext (h.eE x y)
    rw [← this]; exact h2
theorem FoP0.trb (h : FoP0 f g L F) : 0 ≤ f.tr ∧ f.tr ≤ 16384 := by
  have := cntP_le (P := F) f.S
  have := h.sz.1
  rw [h.tr]; omega
theorem FoP0.cb (h : FoP0 f g L F) : f.c < maxLen := by
  have := cntP_le (P := L) f.S
  have := h.sz.1
  rw [h.c]; unfold maxLen; omega
theorem FoP0.rch (h : FoP0 f g L F) {u v : Nat} : Rch f.E (f.S + u + 1) (f.S + v + 1) ↔ Rch (Lnk g F) u v := by
  have : f.E = EF f.S g F := funext fun x => funext fun y => propext (h.eE x y)
  rw [this]
  exact ef_rch fun s hs => (h.ls s (h.FL s hs)).1
theorem FoP.conn (h : FoP f g L F) {u v : Nat} : Rch (Lnk g F) u v ↔ Rch (Lnk g L) u v :=
  ⟨fun k => k.mono (Lnk.mono h.FL), fun k => h.span.all k⟩
end
section
variable {g : Nat → GE} {X : Nat → Prop} {e : Nat} {G : GE}
theorem ef_up {S : Nat} (hX : ¬ X e) : ∀ x y, EF S (upF g e G) X x y ↔ EF S g X x y := fun x y => by
  constructor
  · rintro ⟨s, hs, k⟩
    have : s ≠ e := fun c => hX (c ▸ hs)
    rw [uF_ne _ _ this] at k
    exact ⟨s, hs, k⟩
  · rintro ⟨s, hs, k⟩
    have : s ≠ e := fun c => hX (c ▸ hs)
    exact ⟨s, hs, by rw [uF_ne _ _ this]; exact k⟩
theorem nb_up {s t : Nat} (hs : s ≠ e) (ht : t ≠ e) : Nb (upF g e G) s t ↔ Nb g s t := by
  unfold Nb
  rw [uF_ne _ _ hs, uF_ne _ _ ht]
theorem span_up {L F : Nat → Prop} (h : Span g L F) (hL : ¬ L e) (hF : ¬ F e) : Span (upF g e G) L F := fun s hs => by
  have hse : s ≠ e := fun c => hL (c ▸ hs)
  have k := h s hs
  rw [uF_ne _ _ hse]
  refine k.mono ?_
  rintro u v ⟨t, ⟨ht, hn⟩, k2⟩
  have hte : t ≠ e := fun c => hF (c ▸ ht)
  exact ⟨t, ⟨ht, (nb_up hte hse).2 hn⟩, by rw [uF_ne _ _ hte]; exact k2⟩
theorem ef_add {S : Nat} {e : Nat} (hX : ∀ s, X s → s < S) (he : e < S) (hn : ¬ X e) (hc : ¬ Rch (Lnk g X) (g e).a (g e).b) {E : Nat → Nat → Prop} (hE : ∀ x y, E x y ↔ EF S g X x y) :
    ¬ Rch E (e + 1) (S + (g e).a + 1) ∧ ¬ Rch (lnkE E (e + 1) (S + (g e).a + 1)) (e + 1) (S + (g e).b + 1) ∧ ∀ x y, lnkE (lnkE E (e + 1) (S + (g e).a + 1)) (e + 1) (S + (g e).b + 1) x y ↔ EF S g (fun s => X s ∨ s = e) x y := by
  have eE : E = EF S g X := funext fun x => funext fun y => propext (hE x y)
  subst eE
  have no : ∀ y, ¬ EF S g X (e + 1) y := by
    rintro y ⟨s, hs, k⟩
    have := hX s hs
    rcases k with ⟨k1, _⟩ | ⟨_, k2⟩
    · exact hn (by rw [show e = s by omega]; exact hs)
    · rcases k2 with k2 | k2 <;> omega
  refine ⟨fun k => ?_, fun k => ?_, fun x y => ⟨?_, ?_⟩⟩
  · have := k.stay (S := fun y => y = e + 1) (fun x y hx hy => absurd (hx ▸ hy) (no y)) rfl
    have h2 : S + (g e).a + 1 = e + 1 := this
    omega
  · have := k.stay (S := fun y => y = e + 1 ∨ Rch (EF S g X) (S + (g e).a + 1) y) (fun x y hx hy => by
      rcases hy with hy | ⟨_, hy⟩ | ⟨_, hy⟩
      · rcases hx with hx | hx
        · exact absurd (hx ▸ hy) (no y)
        · exact .inr (.step hx hy)
      · rw [hy]; exact .inr .refl
      · exact .inl hy) (.inl rfl)
    rcases this with k2 | k2
    · omega
    · exact hc ((ef_rch hX).1 k2)
  · rintro ((⟨s, hs, k⟩ | ⟨k1, k2⟩ | ⟨k1, k2⟩) | ⟨k1, k2⟩ | ⟨k1, k2⟩)
    · exact ⟨s, .inl hs, k⟩
    · exact ⟨e, .inr rfl, .inl ⟨k1, .inl k2⟩⟩
    · exact ⟨e, .inr rfl, .inr ⟨k2, .inl k1⟩⟩
    · exact ⟨e, .inr rfl, .inl ⟨k1, .inr k2⟩⟩
    · exact ⟨e, .inr rfl, .inr ⟨k2, .inr k1⟩⟩
  · rintro ⟨s, hs | hs, k⟩
    · exact .inl (.inl ⟨s, hs, k⟩)
    · subst hs
      rcases k with ⟨k1, k2 | k2⟩ | ⟨k1, k2 | k2⟩
      · exact .inl (.inr (.inl ⟨k1, k2⟩))
      · exact .inr (.inl ⟨k1, k2⟩)
      · exact .inl (.inr (.inr ⟨k2, k1⟩))
      · exact .inr (.inr ⟨k2, k1⟩)
theorem ef_del {S : Nat} {m : Nat} (hX : ∀ s, X s → s < S ∧ (g s).a ≠ (g s).b) (hm : X m) {E : Nat → Nat → Prop} (hE : ∀ x y, E x y ↔ EF S g X x y) :
    E (m + 1) (S + (g m).a + 1) ∧ E (m + 1) (S + (g m).b + 1) ∧ ∀ x y, cutE (cutE E (m + 1) (S + (g m).a + 1)) (m + 1) (S + (g m).b + 1) x y ↔ EF S g (fun s => X s ∧ s ≠ m) x y := by
  have hm1 := (hX m hm).1
  refine ⟨(hE _ _).2 ⟨m, hm, .inl ⟨rfl, .inl rfl⟩⟩, (hE _ _).2 ⟨m, hm, .inl ⟨rfl, .inr rfl⟩⟩, fun x y => ⟨?_, ?_⟩⟩
  · rintro ⟨⟨h1, h2, h3⟩, h4, h5⟩
    obtain ⟨s, hs, k⟩ := (hE x y).1 h1
    refine ⟨s, ⟨hs, fun c => ?_⟩, k⟩
    subst c
    rcases k with ⟨k1, k2 | k2⟩ | ⟨k1, k2 | k2⟩
    · exact h2 ⟨k1, k2⟩
    · exact h4 ⟨k1, k2⟩
    · exact h3 ⟨k2, k1⟩
    · exact h5 ⟨k2, k1⟩
  · rintro ⟨s, ⟨hs, hne⟩, k⟩
    have hs1 := (hX s hs).1
    refine ⟨⟨(hE x y).2 ⟨s, hs, k⟩, ?_, ?_⟩, ?_, ?_⟩
    · rintro ⟨h1, h2⟩; rcases k with ⟨k1, _⟩ | ⟨k1, k2 | k2⟩ <;> omega
    · rintro ⟨h1, h2⟩; rcases k with ⟨k1, k2 | k2⟩ | ⟨k1, k2⟩ <;> omega
    · rintro ⟨h1, h2⟩; rcases k with ⟨k1, _⟩ | ⟨k1, k2 | k2⟩ <;> omega
    · rintro ⟨h1, h2⟩; rcases k with ⟨k1, k2 | k2⟩ | ⟨k1, k2⟩ <;> omega
end
theorem cnt_more {P : Nat → Prop} {e n : Nat} (he : e < n) (h : ¬ P e) : cntP (fun s => P s ∨ s = e) n = cntP P n + 1 := by
  have e1 := cntP_sub (P := fun s => s = e) (Q := fun s => P s ∨ s = e) n fun x _ k => .inr k
  have e2 : cntP (fun s => s = e) n = 1 := cntP_one n he fun x _ => Iff.rfl
  have e3 : cntP (fun x => (P x ∨ x = e) ∧ ¬ x = e) n = cntP P n := cntP_congr n fun x _ => ⟨fun k => k.1.resolve_right k.2, fun k => ⟨.inl k, fun c => h (c ▸ k)⟩⟩
  omega
theorem cnt_less {P : Nat → Prop} {e n : Nat} (he : e < n) (h : P e) : cntP (fun s => P s ∧ s ≠ e) n + 1 = cntP P n := by
  have e1 := cntP_sub (P := fun s => s = e) (Q := P) n fun x _ k => by rw [k]; exact h
  have e2 : cntP (fun s => s = e) n = 1 := cntP_one n he fun x _ => Iff.rfl
  have e3 : cntP (fun x => P x ∧ ¬ x = e) n = cntP (fun s => P s ∧ s ≠ e) n := cntP_congr n fun x _ => Iff.rfl
  omega
end Go.Proofs.YtlooaipipmiijaaGreat

namespace Go.Proofs.YtlooaipipmiijaaGreat
set_option linter.unusedVariables false
set_option linter.unusedSimpArgs false
open Go.RowKit
section
variable {f : FoG} {g : Nat → GE} {L F : Nat → Prop}
theorem FoP0.put (h : FoP0 f g L F) {e a b : Nat} {ex : Int} (he : e < f.S) (ha : a < f.V) (hb : b < f.V) (hab : a ≠ b) (hx : ex ≤ 9223372036854775807) (hn : ¬ L e) (qg : HG) (col : Nat → Nat) :
    FoP0 { f with Q := ins ((e : Int), ex) f.Q, qg := qg, col := col, c := f.c + 1, fm := (fun j => if j = (e : Int) then some (edV a b ex false) else f.fm j) } (upF g e ⟨a, b, ex⟩) (fun s => L s ∨ s = e) F := by
  have hF : ¬ F e := fun k => hn (h.FL e k)
  have ne : ∀ s, L s → s ≠ e := fun s hs c => hn (c ▸ hs)
  refine ⟨fun s hs => ?_, fun s hs => .inl (h.FL s hs), fun x y => (h.eE x y).trans (ef_up hF x y).symm, fun s hs => ?_, h.kv, fun i => ?_, fun i k => ?_, h.tr, ?_, h.sz⟩
  · rcases hs with hs | hs
    · rw [uF_ne _ _ (ne s hs)]; exact h.ls s hs
    · rw [hs, uF_same]; exact ⟨he, ha, hb, hab, hx⟩
  · rw [uF_ne _ _ (ne s (h.FL s hs))]; exact h.ke s hs
  · show (if i = (e : Int) then some (edV a b ex false) else f.fm i) = _
    rw [h.fm i]
    refine fmF_up (s := e) ?_ (fun t ht => ⟨uF_ne _ _ ht, ⟨fun k => k.resolve_right ht, .inl⟩, Iff.rfl⟩) i
    rw [fmF_no (.inr rfl) hF, uF_same]
  · show (i, k) ∈ ins ((e : Int), ex) f.Q ↔ _
    rw [(ins_perm _ _).mem_iff, List.mem_cons]
    constructor
    · rintro (c | c)
      · injection c with c1 c2
        exact ⟨e, c1, .inr rfl, by rw [uF_same]; exact c2⟩
      · obtain ⟨s, h1, h2, h3⟩ := (h.que i k).1 c
        exact ⟨s, h1, .inl h2, by rw [uF_ne _ _ (ne s h2)]; exact h3⟩
    · rintro ⟨s, h1, h2 | h2, h3⟩
      · rw [uF_ne _ _ (ne s h2)] at h3
        exact .inr ((h.que i k).2 ⟨s, h1, h2, h3⟩)
      · rw [h2, uF_same] at h3
        exact .inl (by rw [h1, h3, h2])
  · show f.c + 1 = cntP (fun s => L s ∨ s = e) f.S
    rw [cnt_more he hn, h.c]
theorem FoP0.fasten (h : FoP0 f g L F) {e : Nat} (hL : L e) (hF : ¬ F e) (hc : ¬ Rch (Lnk g F) (g e).a (g e).b) :
    FoP0 { f with E := lnkE (lnkE f.E (e + 1) (f.S + (g e).a + 1)) (e + 1) (f.S + (g e).b + 1), key := (fun u => if u = e + 1 then (g e).exp else f.key u), fm := (fun j => if j = (e : Int) then some (edV (g e).a (g e).b (g e).exp true) else f.fm j), tr := f.tr + 1 } g L (fun s => F s ∨ s = e) := by
  have hes := (h.ls e hL).1
  refine ⟨h.ls, fun s hs => ?_, (ef_add (fun s hs => (h.ls s (h.FL s hs)).1) hes hF hc h.eE).2.2, fun s hs => ?_, fun v hv => ?_, fun i => ?_, h.que, ?_, h.c, h.sz⟩
  · rcases hs with hs | hs
    · exact h.FL s hs
    · rw [hs]; exact hL
  · show (if s + 1 = e + 1 then (g e).exp else f.key (s + 1)) = (g s).exp
    rcases hs with hs | hs
    · have : s ≠ e := fun c => hF (c ▸ hs)
      rw [if_neg (by omega)]; exact h.ke s hs
    · rw [hs, if_pos rfl]
  · show (if f.S + v + 1 = e + 1 then (g e).exp else f.key (f.S + v + 1)) = _
    rw [if_neg (by omega)]; exact h.kv v hv
  · show (if i = (e : Int) then some (edV (g e).a (g e).b (g e).exp true) else f.fm i) = _
    rw [h.fm i]
    exact fmF_up (s := e) (fmF_yes hL (.inr rfl)) (fun t ht => ⟨rfl, Iff.rfl, ⟨fun k => k.resolve_right ht, .inl⟩⟩) i
  · show f.tr + 1 = (cntP (fun s => F s ∨ s = e) f.S : Int)
    rw [cnt_more hes hF, h.tr]; omega
theorem FoP0.loosen (h : FoP0 f g L F) {m : Nat} (hF : F m) :
    FoP0 { f with E := cutE (cutE f.E (m + 1) (f.S + (g m).a + 1)) (m + 1) (f.S + (g m).b + 1), fm := (fun j => if j = (m : Int) then some (edV (g m).a (g m).b (g m).exp false) else f.fm j), tr := f.tr - 1 } g L (fun s => F s ∧ s ≠ m) := by
  have hL := h.FL m hF
  have hms := (h.ls m hL).1
  refine ⟨h.ls, fun s hs => h.FL s hs.1, (ef_del (fun s hs => ⟨(h.ls s (h.FL s hs)).1, (h.ls s (h.FL s hs)).2.2.2.1⟩) hF h.eE).2.2, fun s hs => h.ke s hs.1, h.kv, fun i => ?_, h.que, ?_, h.c, h.sz⟩
  · show (if i = (m : Int) then some (edV (g m).a (g m).b (g m).exp false) else f.fm i) = _
    rw [h.fm i]
    exact fmF_up (s := m) (fmF_no hL (fun k => k.2 rfl)) (fun t ht => ⟨rfl, Iff.rfl, ⟨fun k => k.1, fun k => ⟨k, ht⟩⟩⟩) i
  · show f.tr - 1 = (cntP (fun s => F s ∧ s ≠ m) f.S : Int)
    have := cnt_less hms hF
    rw [h.tr]; omega
theorem FoP0.drop (h : FoP0 f g L F) {e : Nat} {k : Int} {Q' : List Ent} (hQ : f.Q = ((e : Int), k) :: Q') (hs : Sorted f.Q) (hF : ¬ F e) (qg : HG) (col : Nat → Nat) :
    FoP0 { f with Q := Q', qg := qg, col := col, c := f.c - 1, fm := (fun j => if j = (e : Int) then none else f.fm j) } g (fun s => L s ∧ s ≠ e) F := by
  obtain ⟨e', h1, hL, h3⟩ := (h.que (e : Int) k).1 (by rw [hQ]; exact List.mem_cons_self)
  have : e' = e := by omega
  subst this
  have hes := (h.ls e' hL).1
  rw [hQ] at hs
  refine ⟨fun s hs => h.ls s hs.1, fun s hs => ⟨h.FL s hs, fun c => hF (c ▸ hs)⟩, h.eE, h.ke, h.kv, fun i => ?_, fun i j => ?_, h.tr, ?_, h.sz⟩
  · show (if i = (e' : Int) then none else f.fm i) = _
    rw [h.fm i]
    exact fmF_up (s := e') (fmF_out (fun k => k.2 rfl)) (fun t ht => ⟨rfl, ⟨fun k => k.1, fun k => ⟨k, ht⟩⟩, Iff.rfl⟩) i
  · show (i, j) ∈ Q' ↔ _
    have hm := h.que i j
    rw [hQ, List.mem_cons] at hm
    constructor
    · intro c
      obtain ⟨s, k1, k2, k3⟩ := hm.1 (.inr c)
      refine ⟨s, k1, ⟨k2, fun d => ?_⟩, k3⟩
      subst d
      have := (List.pairwise_cons.1 hs).1 _ c
      rw [k1, k3, h3] at this
      unfold elt at this
      simp at this
    · rintro ⟨s, k1, ⟨k2, k4⟩, k3⟩
      rcases hm.2 ⟨s, k1, k2, k3⟩ with c | c
      · injection c with c1 c2
        omega
      · exact c
  · show f.c - 1 = cntP (fun s => L s ∧ s ≠ e') f.S
    have := cnt_less hes hL
    rw [h.c]; omega
theorem FoP0.first (h : FoP0 f g L F) {e : Nat} {k : Int} {Q' : List Ent} (hQ : f.Q = ((e : Int), k) :: Q') (hs : Sorted f.Q) : L e ∧ k = (g e).exp ∧ ∀ s, L s → Nb g s e := by
  obtain ⟨e', h1, hL, h3⟩ := (h.que (e : Int) k).1 (by rw [hQ]; exact List.mem_cons_self)
  have : e' = e := by omega
  subst this
  refine ⟨hL, h3, fun s hs' => ?_⟩
  have hm := (h.que (s : Int) (g s).exp).2 ⟨s, rfl, hs', rfl⟩
  rw [hQ, List.mem_cons] at hm
  rcases hm with c | c
  · injection c with c1 c2
    have : s = e' := by omega
    subst this
    exact Nb.refl g s
  · rw [hQ] at hs
    have := (List.pairwise_cons.1 hs).1 _ c
    unfold elt at this
    simp only at this
    rw [h3] at this
    unfold Nb
    omega
end
end Go.Proofs.YtlooaipipmiijaaGreat

namespace Go.Proofs.YtlooaipipmiijaaGreat
set_option linter.unusedVariables false
set_option linter.unusedSimpArgs false
open Go.RowKit
structure FoTr (w : World) (b : Nat) (f : FoG) (g : Nat → GE) (L F' : Nat → Prop) (e : Ending) (w' : World) : Prop where
  val : e = .returned (.tuple #[])
  out : ∃ f', FoS b f w f' w' ∧ FoP0 f' g L F' ∧ f'.V = f.V ∧ f'.S = f.S ∧ f'.Q = f.Q ∧ f'.mb = f.mb ∧ f'.lp = f.lp ∧ f'.lg = f.lg ∧ f'.qb = f.qb
theorem fo_fastenP (w : World) (b : Nat) (f : FoG) (g : Nat → GE) (L F : Nat → Prop) (h : FoM w b f) (hp : FoP0 f g L F) {s : Nat} (hL : L s) (hF : ¬ F s) (hc : ¬ Rch (Lnk g F) (g s).a (g s).b) :
    Calls Tryz.prog 95 #[.pointer (some ⟨b, 0, none⟩), .int .i64 (s : Int)] w (FoTr w b f g L (fun t => F t ∨ t = s)) := by
  obtain ⟨h1, h2, h3, h4, h5⟩ := hp.ls s hL
  obtain ⟨e1, e2, _⟩ := ef_add (fun s hs => (hp.ls s (hp.FL s hs)).1) h1 hF hc hp.eE
  have hz := hp.sz
  have ht := hp.trb
  refine (fo_fasten w b f h s (g s).a (g s).b (g s).exp h1 h2 h3 h4 ((hp.fm s).trans (fmF_no hL hF)) e1 e2 (by omega) hp.cb (by omega)).mono ?_
  rintro e w' ⟨rfl, ho⟩
  exact ⟨rfl, _, ho, hp.fasten hL hF hc, rfl, rfl, rfl, rfl, rfl, rfl, rfl⟩
theorem fo_loosenP (w : World) (b : Nat) (f : FoG) (g : Nat → GE) (L F : Nat → Prop) (h : FoM w b f) (hp : FoP0 f g L F) {m : Nat} (hF : F m) :
    Calls Tryz.prog 57 #[.pointer (some ⟨b, 0, none⟩), .int .i64 (m : Int)] w (FoTr w b f g L (fun t => F t ∧ t ≠ m)) := by
  have hL := hp.FL m hF
  obtain ⟨h1, h2, h3, h4, h5⟩ := hp.ls m hL
  obtain ⟨e1, e2, _⟩ := ef_del (fun s hs => ⟨(hp.ls s (hp.FL s hs)).1, (hp.ls s (hp.FL s hs)).2.2.2.1⟩) hF hp.eE
  have hz := hp.sz
  have ht := hp.trb
  refine (fo_loosen w b f h m (g m).a (g m).b (g m).exp h1 h2 h3 h4 ((hp.fm m).trans (fmF_yes hL hF)) e1 e2 (by omega) hp.cb (by omega)).mono ?_
  rintro e w' ⟨rfl, ho⟩
  exact ⟨rfl, _, ho, hp.loosen hF, rfl, rfl, rfl, rfl, rfl, rfl, rfl⟩
structure FoMi (w : World) (b : Nat) (f : FoG) (g : Nat → GE) (F : Nat → Prop) (x y : Nat) (e : Ending) (w' : World) : Prop where
  yes : Rch (Lnk g F) x y → ∃ m : Nat, e = .returned (.tuple #[.int .i64 (m : Int), .bool true]) ∧ F m ∧ Rch (Lnk g fun t => F t ∧ Nb g t m) x y ∧ ¬ Rch (Lnk g fun t => F t ∧ t ≠ m) x y
  no : ¬ Rch (Lnk g F) x y → e = .returned (.tuple #[.int .i64 0, .bool false])
  st : FoS b f w f w'
theorem fo_min (w : World) (b : Nat) (f : FoG) (g : Nat → GE) (L F : Nat → Prop) (h : FoM w b f) (hp : FoP0 f g L F) {x y : Nat} (hx : x < f.V) (hy : y < f.V) (hxy : x ≠ y) :
    Calls Tryz.prog 64 #[.pointer (some ⟨f.lp, 0, none⟩), .int .i64 ((f.S + x : Nat) : Int), .int .i64 ((f.S + y : Nat) : Int)] w (FoMi w b f g F x y) := by
  obtain ⟨N, ed, h1, h2, h3⟩ := hp.fg h
  refine (lc_min w f.lp f.lg (f.S + f.V) f.E f.key N ed h1 h3 (f.S + x) (f.S + y) (by omega) (by omega)).mono ?_
  rintro e w' ⟨hyes, hno, ⟨N', ho1, ho2⟩, hmd⟩
  refine ⟨fun k => ?_, fun k => hno (fun c => k (hp.rch.1 c)), h.sLct (hmd.mono (fun k _ e => .inl e)) ⟨N', ed, ho1, ho2⟩⟩
  obtain ⟨m, hw, he⟩ := hyes (hp.rch.2 k)
  have hE : f.E = EF f.S g F := funext fun x => funext fun y => propext (hp.eE x y)
  rw [hE] at hw
  obtain ⟨s, q1, q2, q3, q4⟩ := h2.way ⟨hp.ke, hp.kv⟩ hx hy hxy hw
  obtain rfl : m = s := by omega
  exact ⟨m, he, q2, q3, q4⟩
end Go.Proofs.YtlooaipipmiijaaGreat
