/- Several texts in one: ShelfP, StG, StH. -/
import Derived.Test.YtlooaipipmiijaaGreatZX21
import Derived.Test.YtlooaipipmiijaaGreatZX22
import Derived.Shelf.SlSortCmp.NoneTotal
import Derived.Shelf.SlGeneric
import Derived.Shelf.SlMaps.Clone
import Derived.Shelf.Slices.Cells
import Derived.Ground.SlsfProg
import Derived.Ground.SlmcProg
import Derived.Ground.Names2Prog
import Derived.Test.YtlooaipipmiijaaGreatProg
namespace Go.Proofs
open Go.Shelf
def Tryz.sortLive_ren : Go.Shelf.Ren := ⟨fun | 6 => 115 | 15 => 136 | 14 => 135 | 28 => 155 | 29 => 156 | 20 => 147 | 21 => 148 | 22 => 149 | 23 => 150 | 24 => 151 | 25 => 152 | 26 => 153 | 27 => 154 | 46 => 160 | 47 => 161 | 48 => 162 | 49 => 163 | 50 => 164 | 57 => 168 | n => n, fun | 22 => 79 | 24 => 63 | 25 => 192 | 3 => 3 | 39 => 204 | 0 => 0 | 53 => 217 | 55 => 25 | 4 => 4 | 46 => 211 | 45 => 210 | 50 => 60 | 5 => 5 | 9 => 9 | 66 => 220 | 70 => 224 | 76 => 228 | 77 => 229 | n => n, fun | n => n⟩
theorem Tryz.sortLive : Go.Proofs.SlLaysF0.n6 Tryz.prog Tryz.sortLive_ren := {
  mixed := by kernel_rfl
  f6 := ⟨Tryz.f115.name, by decide, Tryz.func115.trans (congrArg some (by kernel_rfl))⟩
  f14 := ⟨Tryz.f135.name, by decide, Tryz.func135.trans (congrArg some (by kernel_rfl))⟩
  f15 := Tryz.func136.trans (congrArg some (by kernel_rfl))
  f20 := ⟨Tryz.f147.name, by decide, Tryz.func147.trans (congrArg some (by kernel_rfl))⟩
  f21 := ⟨Tryz.f148.name, by decide, Tryz.func148.trans (congrArg some (by kernel_rfl))⟩
  f22 := ⟨Tryz.f149.name, by decide, Tryz.func149.trans (congrArg some (by kernel_rfl))⟩
  f23 := ⟨Tryz.f150.name, by decide, Tryz.func150.trans (congrArg some (by kernel_rfl))⟩
  f24 := ⟨Tryz.f151.name, by decide, Tryz.func151.trans (congrArg some (by kernel_rfl))⟩
  f25 := ⟨Tryz.f152.name, by decide, Tryz.func152.trans (congrArg some (by kernel_rfl))⟩
  f26 := ⟨Tryz.f153.name, by decide, Tryz.func153.trans (congrArg some (by kernel_rfl))⟩
  f27 := ⟨Tryz.f154.name, by decide, Tryz.func154.trans (congrArg some (by kernel_rfl))⟩
  f28 := Tryz.func155.trans (congrArg some (by kernel_rfl))
  f29 := Tryz.func156.trans (congrArg some (by kernel_rfl))
  f46 := ⟨Tryz.f160.name, by decide, Tryz.func160.trans (congrArg some (by kernel_rfl))⟩
  f47 := Tryz.func161.trans (congrArg some (by kernel_rfl))
  f48 := Tryz.func162.trans (congrArg some (by kernel_rfl))
  f49 := ⟨Tryz.f163.name, by decide, Tryz.func163.trans (congrArg some (by kernel_rfl))⟩
  f50 := ⟨Tryz.f164.name, by decide, Tryz.func164.trans (congrArg some (by kernel_rfl))⟩
  f57 := ⟨Tryz.f168.name, by decide, Tryz.func168.trans (congrArg some (by kernel_rfl))⟩
  t0 := Tryz.underlying0
  a0 := Tryz.isAgg0
  z0 := Tryz.sizeOf0
  v0 := Tryz.zeroValue0
  t3 := Tryz.underlying3
  a3 := Tryz.isAgg3
  z3 := Tryz.sizeOf3
  v3 := Tryz.zeroValue3
  t4 := Tryz.underlying4
  a4 := Tryz.isAgg4
  z4 := Tryz.sizeOf4
  v4 := Tryz.zeroValue4
  t5 := Tryz.underlying5
  a5 := Tryz.isAgg5
  z5 := Tryz.sizeOf5
  v5 := Tryz.zeroValue5
  t9 := Tryz.underlying9
  a9 := Tryz.isAgg9
  z9 := Tryz.sizeOf9
  v9 := Tryz.zeroValue9
  t22 := Tryz.underlying79
  a22 := Tryz.isAgg79
  z22 := Tryz.sizeOf79
  v22 := Tryz.zeroValue79
  t25 := Tryz.underlying192
  a25 := Tryz.isAgg192
  z25 := Tryz.sizeOf192
  v25 := Tryz.zeroValue192
  t39 := Tryz.underlying204
  a39 := Tryz.isAgg204
  z39 := Tryz.sizeOf204
  v39 := Tryz.zeroValue204
  t45 := Tryz.underlying210
  a45 := Tryz.isAgg210
  z45 := Tryz.sizeOf210
  v45 := Tryz.zeroValue210
  t46 := Tryz.underlying211
  a46 := Tryz.isAgg211
  z46 := Tryz.sizeOf211
  v46 := Tryz.zeroValue211
  t50 := Tryz.underlying60
  a50 := Tryz.isAgg60
  z50 := Tryz.sizeOf60
  v50 := Tryz.zeroValue60
  t53 := Tryz.underlying217
  a53 := Tryz.isAgg217
  z53 := Tryz.sizeOf217
  v53 := Tryz.zeroValue217
  t55 := Tryz.underlying25
  a55 := Tryz.isAgg25
  z55 := Tryz.sizeOf25
  v55 := Tryz.zeroValue25
  t66 := Tryz.underlying220
  a66 := Tryz.isAgg220
  z66 := Tryz.sizeOf220
  v66 := Tryz.zeroValue220
  t70 := Tryz.underlying224
  a70 := Tryz.isAgg224
  z70 := Tryz.sizeOf224
  v70 := Tryz.zeroValue224
  t76 := Tryz.underlying228
  a76 := Tryz.isAgg228
  z76 := Tryz.sizeOf228
  v76 := Tryz.zeroValue228
  t77 := Tryz.underlying229
  a77 := Tryz.isAgg229
  z77 := Tryz.sizeOf229
  v77 := Tryz.zeroValue229 }
def Tryz.cloneInc_ren : Go.Shelf.Ren := ⟨fun | 5 => 68 | 7 => 107 | n => n, fun | 23 => 121 | 25 => 25 | 3 => 58 | 4 => 4 | 20 => 20 | n => n, fun | n => n⟩
theorem Tryz.cloneInc : Go.Proofs.SlLaysW.n5 Tryz.prog Tryz.cloneInc_ren := {
  mixed := by kernel_rfl
  f5 := ⟨Tryz.f68.name, by decide, Tryz.func68.trans (congrArg some (by kernel_rfl))⟩
  f7 := Tryz.func107.trans (congrArg some (by kernel_rfl))
  t4 := Tryz.underlying4
  a4 := Tryz.isAgg4
  z4 := Tryz.sizeOf4
  v4 := Tryz.zeroValue4
  t20 := Tryz.underlying20
  a20 := Tryz.isAgg20
  z20 := Tryz.sizeOf20
  v20 := Tryz.zeroValue20
  t23 := Tryz.underlying121
  a23 := Tryz.isAgg121
  z23 := Tryz.sizeOf121
  v23 := Tryz.zeroValue121 }
def Tryz.cloneEdg_ren : Go.Shelf.Ren := ⟨fun | 5 => 72 | 7 => 107 | n => n, fun | 23 => 113 | 25 => 3 | 3 => 117 | 4 => 4 | 20 => 20 | n => n, fun | n => n⟩
theorem Tryz.cloneEdg : Go.Proofs.SlLaysW.n5 Tryz.prog Tryz.cloneEdg_ren := {
  mixed := by kernel_rfl
  f5 := ⟨Tryz.f72.name, by decide, Tryz.func72.trans (congrArg some (by kernel_rfl))⟩
  f7 := Tryz.func107.trans (congrArg some (by kernel_rfl))
  t4 := Tryz.underlying4
  a4 := Tryz.isAgg4
  z4 := Tryz.sizeOf4
  v4 := Tryz.zeroValue4
  t20 := Tryz.underlying20
  a20 := Tryz.isAgg20
  z20 := Tryz.sizeOf20
  v20 := Tryz.zeroValue20
  t23 := Tryz.underlying113
  a23 := Tryz.isAgg113
  z23 := Tryz.sizeOf113
  v23 := Tryz.zeroValue113 }
def Tryz.delInt_ren : Go.Shelf.Ren := ⟨fun | 23 => 61 | n => n, fun | 22 => 58 | 3 => 3 | 4 => 4 | 0 => 0 | n => n, fun | n => n⟩
theorem Tryz.delInt : Go.Proofs.Lays2.n23 Tryz.prog Tryz.delInt_ren := {
  mixed := by kernel_rfl
  f23 := Tryz.func61.trans (congrArg some (by kernel_rfl))
  t0 := Tryz.underlying0
  a0 := Tryz.isAgg0
  z0 := Tryz.sizeOf0
  v0 := Tryz.zeroValue0
  t3 := Tryz.underlying3
  a3 := Tryz.isAgg3
  z3 := Tryz.sizeOf3
  v3 := Tryz.zeroValue3
  t4 := Tryz.underlying4
  a4 := Tryz.isAgg4
  z4 := Tryz.sizeOf4
  v4 := Tryz.zeroValue4
  t22 := Tryz.underlying58
  a22 := Tryz.isAgg58
  z22 := Tryz.sizeOf58
  v22 := Tryz.zeroValue58
  i3 := by kernel_rfl }
end Go.Proofs

namespace Go.Proofs.YtlooaipipmiijaaGreat
set_option linter.unusedVariables false
set_option linter.unusedSimpArgs false
open Go.RowKit Go.Shelf
theorem erase_at : ∀ {l : List Nat} {i x : Nat}, l[i]? = some x → (∀ j, j < i → l[j]? ≠ some x) → l.erase x = l.eraseIdx i
  | [], _, _, h, _ => by cases h
  | y :: l, 0, x, h, _ => by
    have e : y = x := by simpa using h
    rw [e, List.erase_cons_head]; rfl
  | y :: l, i + 1, x, h, hn => by
    have hne : y ≠ x := fun e => hn 0 (by omega) (by rw [e]; rfl)
    rw [List.erase_cons_tail (by simpa using hne)]
    show y :: l.erase x = y :: l.eraseIdx i
    rw [erase_at (l := l) (i := i) (by simpa using h) (fun j hj => by have := hn (j + 1) (by omega); simpa using this)]
theorem natV64_get {l : List Nat} {i x : Nat} (h : l[i]? = some x) : (natV64 l)[i]? = some (.int .i64 (x : Int)) := by unfold natV64; rw [List.getElem?_map, h]; rfl
theorem natV64_len (l : List Nat) : (natV64 l).length = l.length := by unfold natV64; rw [List.length_map]
structure IxR (w : World) (l : List Nat) (x : Nat) (e : Ending) (w' : World) : Prop where
  ex : ∃ i, e = .returned (.int .i64 ((i : Nat) : Int)) ∧ l[i]? = some x ∧ ∀ j, j < i → l[j]? ≠ some x
  wld : w = w'
set_option maxHeartbeats 2000000 in
theorem ix_ok (w : World) (gb cap : Nat) (l : List Nat) (h : w.ownsRow 0 3 1 (.slice (some ⟨gb, 0, none⟩) l.length cap) l.length (natV64 l)) (x : Nat) (hx : x ∈ l) (hl : l.length ≤ 1048576) :
    Calls Tryz.prog 60 #[.slice (some ⟨gb, 0, none⟩) l.length cap, .int .i64 (x : Int)] w (IxR w l x) := by
  have HC : Hid (∀ i y : Nat, l[i]? = some y → w.cell? ⟨gb, i, none⟩ = some (.int .i64 (y : Int))) := fun i y e => (h.cellAt i (by have := (List.getElem?_eq_some_iff.1 e).1; omega)).trans (natV64_get e)
  have HX := Lib.hid hx
  clear h hx
  generalize hn : l.length = n at *
  have HN := Lib.hid hn
  clear hn
  go_enter Tryz.func60, Tryz.ntmps60
  go_wp2_with fail
  go_loop [8] (fun s8 => ∃ i : Nat, i < n ∧ s8 = .int .i64 (i : Int) ∧ Hid (∀ j, j < i → l[j]? ≠ some x)) (fun s8 => n - (intOf s8).toNat)
  case atStart =>
    refine ⟨0, ?_, rfl, fun j hj => absurd hj (Nat.not_lt_zero j)⟩
    rw [← HN.out]
    exact List.length_pos_of_mem HX.out
  case round =>
    obtain ⟨i, hi, rfl, HI⟩ := hrel
    have hgi : ∃ y, l[i]? = some y := ⟨l[i]'(by rw [HN.out]; exact hi), List.getElem?_eq_getElem (by rw [HN.out]; exact hi)⟩
    obtain ⟨y, hy⟩ := hgi
    have c1 := HC.out i y hy
    have HY := Lib.hid hy
    have HII := Lib.hid hi
    have hwi : IntKind.i64.wrap ((i : Int) + 1) = (i : Int) + 1 := IntWalk.i64_in _ (by omega)
    have t1 : decide ((i : Int) < (n : Int)) = true := decide_eq_true (by omega)
    have t2 : decide (i < n) = true := decide_eq_true hi
    have ti : (i : Int) < (n : Int) := by omega
    clear hy
    by_cases e : y = x
    · subst e
      have t3 : ((y : Int) == (y : Int)) = true := by simp
      go_wp2_with fail
      go_ret
      exact ⟨⟨i, rfl, HY.out, HI.out⟩, rfl⟩
    · have t3 : ((x : Int) == (y : Int)) = false := by rw [beq_eq_false_iff_ne]; omega
      have HNE : Hid (∀ j, j < i + 1 → l[j]? ≠ some x) := fun j hj => by
        by_cases c : j = i
        · rw [c, HY.out]; intro q; injection q with q; exact e q
        · exact HI.out j (by omega)
      have HL1 : Hid (i + 1 < n) := by
        show _ < _
        apply Classical.byContradiction
        intro hc
        obtain ⟨k, hk⟩ := List.getElem?_of_mem HX.out
        have hk1 := (List.getElem?_eq_some_iff.1 hk).1
        have hk2 : k < n := by rw [← HN.out]; exact hk1
        exact HNE.out k (by omega) hk
      clear e
      go_wp2_with fail
      go_round
      case rel => exact ⟨i + 1, HL1.out, by go_num, HNE⟩
      case measure => have := HII.out; simp [intOf]; omega
theorem owns_shrink {w : World} {base : Nat} {e : TypeId} {size g n m cap : Nat} {xs : List Value} (h : w.ownsRow base e size (.slice (some ⟨g, 0, none⟩) n cap) n xs) (hm : m ≤ n) : w.ownsRow base e size (.slice (some ⟨g, 0, none⟩) m cap) m (xs.take (m * size)) := by
  have hms : m * size ≤ n * size := Nat.mul_le_mul_right _ hm
  refine ⟨by rw [List.length_take, h.1]; omega, ?_⟩
  rcases h.2 with ⟨h', _⟩ | ⟨g', cap', cur, h', hb, hg, h1, h2, hs, htake⟩
  · simp at h'
  · simp only [Value.slice.injEq, Option.some.injEq, Addr.mk.injEq, and_true, true_and] at h'
    obtain ⟨rfl, rfl⟩ := h'
    refine .inr ⟨g, cap, cur, rfl, hb, hg, by omega, h2, hs, ?_⟩
    rw [← htake, List.take_take, Nat.min_eq_left hms]
theorem setL_all (vs xs : List Value) (h : vs.length = xs.length) : setL xs 0 vs = vs := by
  apply List.ext_getElem?
  intro q
  rw [setL_get _ _ _ _ (by omega)]
  by_cases c : q < vs.length
  · rw [if_pos (by omega)]; rfl
  · rw [if_neg (by omega), List.getElem?_eq_none (by omega), List.getElem?_eq_none (by omega)]
structure DeR (w : World) (gb cap : Nat) (l : List Nat) (e : Ending) (w' : World) : Prop where
  val : e = .returned (.slice (some ⟨gb, 0, none⟩) l.length cap)
  own : w'.ownsRow 0 3 1 (.slice (some ⟨gb, 0, none⟩) l.length cap) l.length (natV64 l)
  mod : Mod (fun k => k = gb) w w'
theorem de_ok (w : World) (gb cap : Nat) (l : List Nat) (h : w.ownsRow 0 3 1 (.slice (some ⟨gb, 0, none⟩) l.length cap) l.length (natV64 l)) (i : Nat) (hi : i < l.length) :
    Calls Tryz.prog 61 #[.slice (some ⟨gb, 0, none⟩) l.length cap, .int .i64 (i : Int), .int .i64 ((i + 1 : Nat) : Int)] w (DeR w gb cap (l.eraseIdx i)) := by
  obtain ⟨g', cap', hv, hcap, hm, hgl, hcell, hfr⟩ := owns_form h (by omega)
  injection hv with e1 _ e3
  injection e1 with e1
  injection e1 with e1
  subst e1 e3
  have hle : (l.eraseIdx i).length = l.length - 1 := by rw [List.length_eraseIdx, if_pos hi]
  have hcon := Any.slices_Delete_int_cells Tryz.delInt gb 0 l.length cap i (i + 1) (l.map fun (x : Nat) => (x : Int)) w (by simp) hcap (by unfold maxLen at hm; omega) (by omega) (by omega) (fun j hj => by
    rw [List.length_map] at hj
    rw [Nat.zero_add, hcell j (by omega), natV64_get (List.getElem?_eq_getElem hj), List.getD_eq_getElem?_getD, List.getElem?_map, List.getElem?_eq_getElem hj]; rfl) (fun j hj => hfr _)
  refine hcon.mono fun e w' q => ?_
  obtain ⟨q1, qn, q2⟩ := q
  have hz : ((((l.map fun (x : Nat) => (x : Int)).take l.length).take i ++ ((l.map fun (x : Nat) => (x : Int)).take l.length).drop (i + 1) ++ List.replicate (i + 1 - i) 0).map (Value.int .i64)) = natV64 (l.eraseIdx i) ++ [.int .i64 0] := by
    rw [List.take_of_length_le (i := l.length) (l := l.map fun (x : Nat) => (x : Int)) (by rw [List.length_map]; exact Nat.le_refl _), show i + 1 - i = 1 by omega, List.map_append, List.eraseIdx_eq_take_drop_succ, List.map_append]
    unfold natV64
    rw [List.map_append, List.map_take, List.map_take, List.map_drop, List.map_drop, List.map_map]
    rfl
  rw [hz] at q2
  have hlen : (natV64 (l.eraseIdx i) ++ [Value.int .i64 0]).length = (natV64 l).length := by
    rw [List.length_append, natV64_len, natV64_len, hle]
    show _ + 1 = _
    omega
  have ho := owns_setCells (natV64 (l.eraseIdx i) ++ [Value.int .i64 0]) (natV64 l) (w.drewN qn) 0 (owns_same h (fun k e => rfl)) (by rw [hlen, natV64_len]; omega)
  rw [setL_all _ _ hlen] at ho
  have ho2 := owns_shrink ho (m := l.length - 1) (by omega)
  subst q2
  refine ⟨by rw [q1, hle, show l.length - (i + 1 - i) = l.length - 1 by omega], ?_, Mod.setCells _ 0 (Mod.refl (fun k => k = gb) w |>.drewN qn) (fun _ => rfl)⟩
  rw [hle]
  have e : (natV64 (l.eraseIdx i) ++ [Value.int .i64 0]).take ((l.length - 1) * 1) = natV64 (l.eraseIdx i) := by
    rw [List.take_append_of_le_length (by rw [natV64_len, hle]; omega), List.take_of_length_le (by rw [natV64_len, hle]; omega)]
  rw [e] at ho2
  exact ho2
end Go.Proofs.YtlooaipipmiijaaGreat

namespace Go.Proofs.YtlooaipipmiijaaGreat
set_option linter.unusedVariables false
set_option linter.unusedSimpArgs false
open Go.RowKit
structure RmB (w : World) (b : Nat) (g : SG) (z : Nat) (W : World) (g1 : SG) : Prop where
  st : StS b g w g1 W
  bz : Blk W z 63 (lrL lr0)
  nz : ¬ g1.foot b z
  zs : w.heap.size = z
theorem RmB.step {w W W' : World} {b z : Nat} {g g1 g2 : SG} (h : RmB w b g z W g1) (k : StS b g1 W g2 W') : RmB w b g z W' g2 :=
  ⟨h.st.trans k, (k.box h.bz h.nz).1, (k.box h.bz h.nz).2, h.zs⟩
theorem RmB.below {w W W' : World} {b z : Nat} {g g1 : SG} (h : RmB w b g z W g1) (k : Below W.heap.size W W') : RmB w b g z W' g1 :=
  ⟨h.st.below k, h.bz.below k h.bz.lt, h.nz, h.zs⟩
structure RmE (w : World) (b : Nat) (g : SG) (z eb : Nat) (r : Lr) (W : World) (g1 : SG) : Prop where
  ib : RmB w b g z W g1
  be : Blk W eb 63 (lrL r)
  ne : ¬ g1.foot b eb
theorem RmE.step {w W W' : World} {b z eb : Nat} {g g1 g2 : SG} {r : Lr} (h : RmE w b g z eb r W g1) (k : StS b g1 W g2 W') : RmE w b g z eb r W' g2 :=
  ⟨h.ib.step k, (k.box h.be h.ne).1, (k.box h.be h.ne).2⟩
def IncR (g : SG) (u v slot k : Nat) (id s : Nat) : Prop := Ends g id s ∧ ¬ (s = slot ∧ (1 ≤ k ∧ id = u ∨ 2 ≤ k ∧ id = v))
structure AfR (g g1 : SG) (slot k : Nat) : Prop where
  V : g1.V = g.V
  E : g1.E = g.E
  last : g1.last = g.last
  Lv : g1.Lv = (fun x => g.Lv x ∧ x ≠ slot)
  nl : g1.nl = g.nl
  R : ∀ s, s ≠ slot → g1.R s = g.R s
  lg : StLg g1 (IncR g (g.R slot).u (g.R slot).v slot k)
  keep : ∀ i, g1.LvT i → g.LvT i ∧ g1.D i = g.D i
theorem AfR.inc {g g1 : SG} {slot k : Nat} (h : AfR g g1 slot k) (hl : StL g) (hs : g.Lv slot) (hk : k < 2) : IncR g (g.R slot).u (g.R slot).v slot k (idK (g.R slot).u (g.R slot).v k) slot := by
  have huv := (hl.own slot hs).2.1
  unfold idK
  refine ⟨⟨hs, ?_⟩, ?_⟩
  · by_cases c : k = 0
    · rw [if_pos c]; exact .inl rfl
    · rw [if_neg c]; exact .inr rfl
  · rintro ⟨_, e⟩
    by_cases c : k = 0
    · omega
    · rw [if_neg c] at e
      rcases e with ⟨_, e⟩ | ⟨e, _⟩
      · exact huv e.symm
      · omega
theorem AfR.next {g g1 g2 : SG} {slot k : Nat} (h : AfR g g1 slot k) (hl : StL g) (hs : g.Lv slot) (hk : k < 2) (hp : Del2 g1 (idK (g.R slot).u (g.R slot).v k) slot g2) (e1 : g2.E = g1.E) (e2 : g2.last = g1.last) (e3 : g2.Lv = g1.Lv) (e4 : g2.nl = g1.nl) (e5 : g2.R = g1.R) : AfR g g2 slot (k + 1) := by
  obtain ⟨p1, p2⟩ := h.lg.del hp (h.inc hl hs hk)
  refine ⟨hp.V.trans h.V, e1.trans h.E, e2.trans h.last, e3.trans h.Lv, e4.trans h.nl, fun s hs => by rw [e5]; exact h.R s hs, p1.mono fun id s => ?_, fun i hi => ?_⟩
  · unfold IncR idK
    constructor
    · rintro ⟨⟨a, c⟩, d⟩
      refine ⟨a, ?_⟩
      rintro ⟨f1, f2⟩
      by_cases k0 : k = 0
      · rw [if_pos k0] at d
        rcases f2 with f2 | f2
        · exact d ⟨f2.2, f1⟩
        · omega
      · rw [if_neg k0] at d
        rcases f2 with f2 | f2
        · exact c ⟨f1, .inl ⟨by omega, f2.2⟩⟩
        · exact d ⟨f2.2, f1⟩
    · rintro ⟨a, c⟩
      refine ⟨⟨a, fun ⟨f1, f2⟩ => c ⟨f1, by omega⟩⟩, fun ⟨f1, f2⟩ => c ⟨f2, ?_⟩⟩
      by_cases k0 : k = 0
      · rw [if_pos k0] at f1; exact .inl ⟨by omega, f1⟩
      · rw [if_neg k0] at f1; exact .inr ⟨by omega, f1⟩
  · obtain ⟨q1, q2⟩ := p2 i hi
    obtain ⟨q3, q4⟩ := h.keep i q1
    exact ⟨q3, q2.trans q4⟩
theorem AfR.last2 {g g1 : SG} {slot : Nat} (h : AfR g g1 slot 2) (hl : StL g) (hs : g.Lv slot) : StL g1 := by
  have hlv : ∀ s, g1.Lv s ↔ g.Lv s ∧ s ≠ slot := fun s => by rw [h.Lv]
  refine ⟨h.lg.mono fun id s => ?_, fun s hs' => ?_, fun s t hs' ht e => ?_, fun s hs' => ?_, fun s hs' => ?_, by rw [h.nl]; exact hl.nl, by rw [h.V, h.E]; exact hl.szs⟩
  · unfold IncR Ends
    rw [hlv]
    constructor
    · rintro ⟨⟨a, c⟩, d⟩
      have hne : s ≠ slot := fun e => d ⟨e, by subst e; rcases c with c | c <;> rw [← c] <;> simp⟩
      exact ⟨⟨a, hne⟩, by rw [h.R s hne]; exact c⟩
    · rintro ⟨⟨a, c⟩, d⟩
      rw [h.R s c] at d
      exact ⟨⟨a, d⟩, fun e => c e.1⟩
  · obtain ⟨a, c⟩ := (hlv s).1 hs'
    rw [h.R s c, h.last]; exact hl.own s a
  · obtain ⟨a, c⟩ := (hlv s).1 hs'
    obtain ⟨a2, c2⟩ := (hlv t).1 ht
    rw [h.R s c, h.R t c2] at e
    exact hl.seq s t a a2 e
  · rw [h.nl]; exact hl.lvn s ((hlv s).1 hs').1
  · rw [h.E]; exact hl.lvE s ((hlv s).1 hs').1
structure StRm (w : World) (b : Nat) (g : SG) (slot : Nat) (e : Ending) (w' : World) : Prop where
  ex : ∃ g', e = .returned (.tuple #[.agg (lrL (g.R slot)).toArray, .int .i64 0]) ∧ StS b g w g' w' ∧ StL g' ∧ g'.V = g.V ∧ g'.E = g.E ∧ g'.last = g.last ∧ g'.Lv = (fun x => g.Lv x ∧ x ≠ slot) ∧ (∀ s, s ≠ slot → g'.R s = g.R s) ∧ ∀ i, g'.LvT i → g.LvT i ∧ g'.D i = g.D i
theorem RmB.tight {w W : World} {b z : Nat} {g g1 : SG} (h : RmB w b g z W g1) : ∃ g2, RmB w b g z W g2 ∧ (∀ k, g2.foot b k → k < W.heap.size) ∧ g2.V = g1.V ∧ g2.E = g1.E ∧ g2.last = g1.last ∧ g2.Lv = g1.Lv ∧ g2.nl = g1.nl ∧ g2.R = g1.R ∧ g2.KI = g1.KI ∧ g2.LvT = g1.LvT ∧ g2.D = g1.D ∧ g2.inc = g1.inc ∧ g2.c = g1.c := by
  refine ⟨{ g1 with FA := fun k => g1.FA k ∧ k < W.heap.size, FT := fun k => g1.FT k ∧ k < W.heap.size }, ⟨h.st.tight, h.bz, fun e => h.nz ?_, h.zs⟩, tight_lt h.st.mem, rfl, rfl, rfl, rfl, rfl, rfl, rfl, rfl, rfl, rfl, rfl⟩
  rcases e with e | e | e | e | e | e
  · exact .inl e
  · exact .inr (.inl e.1)
  · exact .inr (.inr (.inl e.1))
  · exact .inr (.inr (.inr (.inl e)))
  · exact .inr (.inr (.inr (.inr (.inl e))))
  · exact .inr (.inr (.inr (.inr (.inr e))))
theorem StM.mapG {w w2 : World} {b : Nat} {g : SG} (h : StM w b g) {id : Nat} (hid : g.KI id) (hm : Mod (fun k => k = g.gb id) w w2) : MapK .u64 w2 Tryz.prog 25 g.mb g.c g.fm ∧ Blk w2 b 123 [.int .i64 (g.V : Int), .int .i64 (g.E : Int), .int .u64 (g.last : Int), .pointer (some ⟨g.ab, 0, none⟩), .pointer (some ⟨g.tb, 0, none⟩), g.lv, .map (some g.mb)] := by
  have hmc : Mod (fun k => g.col k = 5 + id) w w2 := hm.mono (fun k _ e => by rw [e]; exact h.k5 id hid)
  exact ⟨h.mMap hmc (by omega), h.mBox hmc (by omega)⟩
theorem rm_keep {w w2 : World} {b : Nat} {g : SG} (h : StM w b g) {id slot i : Nat} (hid : g.KI id) (hi : (g.inc id)[i]? = some slot) (hn : ∀ j, j < i → (g.inc id)[j]? ≠ some slot) (hd : DeR w (g.gb id) (g.gc id) ((g.inc id).eraseIdx i) (.returned (.slice (some ⟨g.gb id, 0, none⟩) ((g.inc id).eraseIdx i).length (g.gc id))) w2) (hl : 0 < ((g.inc id).eraseIdx i).length) {w3 : World}
    (hmap : MapK .u64 w3 Tryz.prog 25 g.mb g.c (fun j => if j = (id : Int) then some (.slice (some ⟨g.gb id, 0, none⟩) ((g.inc id).eraseIdx i).length (g.gc id)) else g.fm j)) (hm3 : Mod (fun x => x = g.mb) w2 w3) :
    ∃ g2, StS b g w g2 w3 ∧ Del2 g id slot g2 ∧ g2.E = g.E ∧ g2.last = g.last ∧ g2.Lv = g.Lv ∧ g2.nl = g.nl ∧ g2.R = g.R := by
  have he := erase_at hi hn
  obtain ⟨gb', gc', _, hs⟩ := h.sMap (v := g.val id) (l := g.inc id) (.inl ⟨hid, rfl, rfl⟩) hl (hd.mod.mono (fun k _ e => by rw [e]; rfl)) hd.own (fun k e => .inl e) (by rw [SG.fm_yes hid]; exact hmap) hm3
  refine ⟨_, hs, ⟨rfl, ⟨fun x hx => ?_, fun _ => ?_⟩, .inl ⟨?_, ?_, rfl, rfl, ?_⟩⟩, rfl, rfl, rfl, rfl, rfl⟩
  · show upF g.inc id _ x = _
    exact uF_ne _ _ hx
  · show upF g.inc id _ id = _
    rw [uF_same, he]
  · rw [he]; exact List.ne_nil_of_length_pos hl
  · funext x
    show (g.KI x ∨ x = id) = g.KI x
    exact propext ⟨fun e => e.elim (fun e => e) (fun e => by rw [e]; exact hid), .inl⟩
  · show (if (g.fm (id : Int)).isSome then g.c else g.c + 1) = _
    rw [SG.fm_yes hid]; rfl
theorem rm_del {w w2 w4 : World} {b : Nat} {g : SG} {Inc : Nat → Nat → Prop} (hl : StLg g Inc) {id slot i : Nat} (hid : g.KI id) (hi : (g.inc id)[i]? = some slot) (hn : ∀ j, j < i → (g.inc id)[j]? ≠ some slot) (h0 : (g.inc id).eraseIdx i = []) {e : Ending}
    (h3 : StS b g w { g with KI := fun x => g.KI x ∧ x ≠ id, c := g.c - 1 } w2) (hd : InDl w2 g.tb g.V g.LvT g.D g.FT id e w4) :
    (∃ v, e = .returned v) ∧ ∃ g2, StS b g w g2 w4 ∧ Del2 g id slot g2 ∧ g2.E = g.E ∧ g2.last = g.last ∧ g2.Lv = g.Lv ∧ g2.nl = g.nl ∧ g2.R = g.R := by
  obtain ⟨j, j1, j2⟩ := (hl.table id).1 hid
  obtain ⟨e1, e2, e3⟩ := hd.yes j j1 j2
  have hs := h3.trans (h3.mem.sTb e3 (e2.wide (fun k e => .inl e)))
  have he := erase_at hi hn
  exact ⟨⟨_, e1⟩, _, hs, ⟨rfl, ⟨fun x hx => rfl, fun hk => absurd rfl hk.2⟩, .inr ⟨by rw [he]; exact h0, fun x => Iff.rfl, j, j1, j2, rfl, rfl, rfl⟩⟩, rfl, rfl, rfl, rfl, rfl⟩
set_option maxHeartbeats 8000000 in
set_option maxRecDepth 100000 in
theorem st_remove (w : World) (b : Nat) (g : SG) (h : StM w b g) (hl : StL g) (slot : Nat) (hs : g.Lv slot) :
    Calls Tryz.prog 25 #[.pointer (some ⟨b, 0, none⟩), .int .i64 (slot : Int)] w (StRm w b g slot) := by
  have HL := Lib.hid hl
  have HS := Lib.hid hs
  have H := Lib.hid h
  have hsn := hl.lvn slot hs
  have hnl := hl.nl
  clear h hl hs
  go_enter Tryz.func25, Tryz.ntmps25
  go_upto_region 1 with (with_reducible refine wpList_allocB _ Tryz.zeroLive ?_)
  intro w1 B1 hb1
  obtain ⟨z, HZ⟩ : ∃ z, Hid (w.heap.size = z) := ⟨_, rfl⟩
  have BZ : Hid (Blk w1 z 63 (lrL lr0)) := by rw [← HZ.out]; exact B1
  have HB1 := Lib.hid hb1
  simp only [HZ.out]
  clear B1 hb1
  have HI1 : Hid (RmB w b g z w1 { g with FA := fun k => g.FA k ∧ k < w.heap.size, FT := fun k => g.FT k ∧ k < w.heap.size }) :=
    ⟨((StS.refl H.out).tight).below HB1.out, BZ.out, fun e => by have := tight_lt H.out _ e; have := HZ.out; omega, HZ.out⟩
  have HV := Lib.hid (st_valid b g.mb w1 HI1.out.st.mem.s6)
  have HFR := Lib.hid (ar_free w1 g.ab g.E g.beg slot g.Lv _ HI1.out.st.mem.ar HS.out)
  have c3 := HI1.out.st.mem.s3
  clear BZ HB1 HZ
  go_upto_region 6 with (first | (go_at_call 58; refine HV.out.mono ?_; rintro e w' ⟨rfl, rfl⟩) | (go_at_call 59; refine HFR.out.mono ?_; rintro e w2 ⟨rfl, hao, hmd⟩; have HAO := Lib.hid hao; have HMD := Lib.hid hmd; clear hao hmd))
  clear c3 HV HFR
  obtain ⟨g1, HI2, HA2, HR2, HNL⟩ : ∃ g1, Hid (RmB w b g z w2 g1) ∧ Hid (AfR g g1 slot 0) ∧ Hid (g1.R slot = g.R slot) ∧ Hid (g1.nl = g.nl ∧ ∀ k, g1.foot b k → k < w2.heap.size) := by
    obtain ⟨g2, q1, q2, q3, q4, q5, q6, q7, q8, q9, q10, q11, q12, q13⟩ := (HI1.out.step (HI1.out.st.mem.sAr HMD.out (HAO.out.wide (fun k e => .inl e)))).tight
    refine ⟨g2, q1, ⟨q3, q4, q5, q6, q7, fun _ _ => by rw [q8], ?_, fun i hi => ⟨by rw [q10] at hi; exact hi, by rw [q11]⟩⟩, by rw [q8]; rfl, q7, q2⟩
    refine StLg.mono (Inc := Ends g) (HL.out.ids.congr q9 q10 q11 q12 q13 q3) fun id s => ⟨fun e => ⟨e, fun k => by omega⟩, fun e => e.1⟩
  clear HI1 HAO HMD
  obtain ⟨lb, cap, hlv, _, _, _, _, hfz⟩ := owns_form HI2.out.st.mem.row (by rw [HNL.out.1]; omega)
  have c5 := HI2.out.st.mem.s5
  rw [hlv, HNL.out.1] at c5
  have HLV := Lib.hid hlv
  have HRW := HI2.out.st.mem.row
  rw [hlv] at HRW
  have HRG : Hid (w2.rangeAt lb (slot * 7) (lrL (g.R slot))) := by
    intro j y hy
    have hj : j < 7 := (List.getElem?_eq_some_iff.1 hy).1
    rw [HRW.cellAt (slot * 7 + j) (by rw [HNL.out.1]; omega), lrRow_get (by rw [HNL.out.1]; omega) hj, HR2.out, ← lrL_get _ hj]
    exact hy
  have ti : (slot : Int) < (g.nl : Int) := by omega
  clear hlv hfz HRW
  generalize hr : g.R slot = r at *
  have HRR := Lib.hid hr
  clear hr
  go_upto_region 7 with (first | (with_reducible refine wpList_load_mid rfl 63 _ rfl lb (slot * 7) rfl (lrL r) _ HRG.out Tryz.underlying63 rfl (by kernel_rfl) ?_) | (with_reducible refine wpList_allocB _ Tryz.zeroLive ?_))
  intro w3 B3 hb3
  have HB3 := Lib.hid hb3
  have BE3 : Hid (Blk w3 w2.heap.size 63 (lrL lr0)) := B3
  clear B3 hb3 c5
  go_upto_region 7 with (with_reducible refine wpList_storeBlk w2.heap.size 63 (lrL lr0) (lrL r) rfl rfl BE3.out rfl (by kernel_rfl) (lrL_one _) ?_)
  intro w4 B4 hm4
  obtain ⟨eb, HEB⟩ : ∃ eb, Hid (w2.heap.size = eb) := ⟨_, rfl⟩
  have HB4 : Hid (Below w2.heap.size w2 w4) := HB3.out.trans (hm4.below HB3.out.size (fun k hk => by omega))
  have HI4 : Hid (RmE w b g z eb r w4 g1) := ⟨HI2.out.below HB4.out, by rw [← HEB.out]; exact B4, fun e => by have := HNL.out.2 eb e; have := HEB.out; omega⟩
  simp only [HEB.out]
  clear B4 hm4 HB3 BE3 HB4 HI2 HRG
  go_upto_region 7 with fail
  have hbz : ∀ w, (Instr.build 63 #[]).run Tryz.prog w = .ok (.agg #[.int .i64 0, .int .u64 0, .int .u64 0, .int .u64 0, .int .i64 0, .int .i64 0, .int .i64 0]) w := fun w => by kernel_rfl
  have c5 := HI4.out.ib.st.mem.s5
  rw [HLV.out, HNL.out.1] at c5
  have HTH : Hid (w4.there lb (slot * 7) 7) := by
    intro i hi
    have hrw := HI4.out.ib.st.mem.row
    rw [HLV.out] at hrw
    refine ⟨?_, hrw.frozenAt _⟩
    rw [hrw.cellAt (slot * 7 + i) (by rw [HNL.out.1]; omega), lrRow_get (by rw [HNL.out.1]; omega) hi]; rfl
  go_upto_region 8 with (refine wpList_store_mid rfl 63 _ _ rfl lb (slot * 7) (lrL lr0).toArray rfl rfl HTH.out (by kernel_rfl) (all_oneCell_toArray (lrL_one _)) ?_)
  simp only [Act.put]
  obtain ⟨g2, HI5, HA5⟩ : ∃ g2, Hid (RmE w b g z eb r (w4.setCells lb (slot * 7) (lrL lr0)) g2) ∧ Hid (AfR g g2 slot 0) := by
    refine ⟨_, HI4.out.step (HI4.out.ib.st.mem.sSet (i := slot) (lb := lb) (cap := cap) (by rw [HLV.out, HNL.out.1]) (by rw [HNL.out.1]; exact hsn) lr0), ⟨HA2.out.V, HA2.out.E, HA2.out.last, HA2.out.Lv, HA2.out.nl, fun s hs => ?_, HA2.out.lg.congr rfl rfl rfl rfl rfl rfl, HA2.out.keep⟩⟩
    show upF g1.R slot lr0 s = _
    rw [uF_ne _ _ hs]
    exact HA2.out.R s hs
  clear HI4 HA2 HLV HTH c5 hbz ti
  generalize World.setCells w4 _ _ _ = w5 at *
  have y2 := HI5.out.be.cell (i := 2) rfl
  have y3 := HI5.out.be.cell (i := 3) rfl
  go_wp2_with fail
  clear y2 y3
  go_loopw [47] (fun s47 wr => ∃ k gk, k ≤ 2 ∧ s47 = .int .i64 ((k : Nat) : Int) ∧ RmE w b g z eb r wr gk ∧ AfR g gk slot k) (fun s47 _ => 2 - (intOf s47).toNat)
  case atStart => exact ⟨0, g2, by omega, rfl, HI5.out, HA5.out⟩
  case round =>
    obtain ⟨k, gk, hk, rfl, hi, ha⟩ := hrel
    have HIk := Lib.hid hi
    have HAk := Lib.hid ha
    clear hi ha HI5 HA5
    by_cases hk2 : k < 2
    · have t1 : decide ((k : Int) < 2) = true := decide_eq_true (by omega)
      have ii : ∀ w, (Instr.index 125 (.agg #[.int .u64 r.u, .int .u64 r.v]) (.int .i64 (k : Int))).run Tryz.prog w = .ok (.int .u64 ((idK r.u r.v k : Nat) : Int)) w := by
        have hcs : k = 0 ∨ k = 1 := by omega
        rcases hcs with rfl | rfl <;> exact fun _ => rfl
      have HINC := HAk.out.inc HL.out HS.out hk2
      have HK2 := Lib.hid hk2
      have hown := HL.out.own slot HS.out
      rw [HRR.out] at hown
      obtain ⟨id, HIE⟩ : ∃ id, Hid (idK r.u r.v k = id) := ⟨_, rfl⟩
      have hidb : id < 18446744073709551616 := by rw [← HIE.out]; unfold idK; split <;> omega
      have HIE0 : Hid (idK (g.R slot).u (g.R slot).v k = id) := by show _ = _; rw [HRR.out]; exact HIE.out
      rw [HIE0.out] at HINC
      simp only [HIE.out] at ii
      have HKI : Hid (gk.KI id) := (HAk.out.lg.known id).2 ⟨slot, HINC⟩
      have HMEM : Hid (slot ∈ gk.inc id) := (HAk.out.lg.inc id HKI.out slot).2 HINC
      have hlk := HIk.out.ib.st.mem.map.look Tryz.underlying25 Tryz.underlying121 (Tryz.zeroInts wr) (i := (id : Int)) (wf_u64K (by omega) (by omega))
      rw [SG.fm_yes HKI.out] at hlk
      have hlk2 : (Instr.lookup 121 (.map (some gk.mb)) (.int .u64 (id : Int)) false).run Tryz.prog wr = .ok (.slice (some ⟨gk.gb id, 0, none⟩) (gk.inc id).length (gk.gc id)) wr := hlk
      have HLL : Hid ((gk.inc id).length ≤ 65536) := by
        have hnd := HAk.out.lg.nod id HKI.out
        have hmm : ∀ s, s ∈ gk.inc id → s < 65536 := fun s hs => by
          have e := (HAk.out.lg.inc id HKI.out s).1 hs
          have := HL.out.lvE s e.1.1; have := HL.out.szs; omega
        exact pig 65536 _ (fun i => (gk.inc id).getD i 0) (fun i hi => hmm _ (by
          rw [List.getD_eq_getElem?_getD, List.getElem?_eq_getElem hi]
          exact List.getElem_mem hi)) (fun i j hi hj e => by
          have e' : (gk.inc id).getD i 0 = (gk.inc id).getD j 0 := e
          rw [List.getD_eq_getElem?_getD, List.getD_eq_getElem?_getD, List.getElem?_eq_getElem hi, List.getElem?_eq_getElem hj] at e'
          exact (List.getElem_inj hnd).1 e')
      have HIX := Lib.hid (ix_ok wr (gk.gb id) (gk.gc id) (gk.inc id) (HIk.out.ib.st.mem.rows id HKI.out) slot HMEM.out (by have := HLL.out; omega))
      have c6 := HIk.out.ib.st.mem.s6
      have HIDB := Lib.hid hidb
      clear hlk hown hidb hk2 HINC
      go_upto_region 13 with (go_at_call 60; refine HIX.out.mono ?_; rintro e w6 ⟨⟨i, rfl, hi1, hi2⟩, rfl⟩; have HI1 := Lib.hid hi1; have HIN := Lib.hid hi2; clear hi1 hi2)
      have hil : i < (gk.inc id).length := (List.getElem?_eq_some_iff.1 HI1.out).1
      have HDE := Lib.hid (de_ok wr (gk.gb id) (gk.gc id) (gk.inc id) (HIk.out.ib.st.mem.rows id HKI.out) i hil)
      have t2 : decide ((0 : Int) ≤ (i : Int)) = true := decide_eq_true (by omega)
      have hwi : IntKind.i64.wrap ((i : Int) + 1) = (i : Int) + 1 := IntWalk.i64_in _ (by have := HLL.out; omega)
      clear ii hlk2 HIX c6 t1 hil
      by_cases h0 : (gk.inc id).eraseIdx i = []
      · have HR0 : Hid (∀ w7, DeR wr (gk.gb id) (gk.gc id) [] (.returned (.slice (some ⟨gk.gb id, 0, none⟩) 0 (gk.gc id))) w7 → MapK .u64 w7 Tryz.prog 25 gk.mb gk.c gk.fm ∧ Blk w7 b 123 [.int .i64 (gk.V : Int), .int .i64 (gk.E : Int), .int .u64 (gk.last : Int), .pointer (some ⟨gk.ab, 0, none⟩), .pointer (some ⟨gk.tb, 0, none⟩), gk.lv, .map (some gk.mb)]) := fun w7 hd => HIk.out.ib.st.mem.mapG HKI.out hd.mod
        have H0 := Lib.hid h0
        rw [h0] at HDE
        clear h0
        go_upto_region 15 with (go_at_call 61; refine HDE.out.mono ?_; rintro e w7 ⟨rfl, hd2, hd3⟩; have HD : Hid (DeR wr (gk.gb id) (gk.gc id) [] (.returned (.slice (some ⟨gk.gb id, 0, none⟩) 0 (gk.gc id))) w7) := ⟨rfl, hd2, hd3⟩; clear hd2 hd3)
        obtain ⟨hmp, hbx⟩ := HR0.out w7 HD.out
        have HMP := Lib.hid hmp
        have c6 := hbx.cell (i := 6) rfl
        have HB7 := Lib.hid hbx
        clear hmp hbx HR0 t2 hwi
        go_upto_region 18 with (at_delete; refine wpList_dropK rfl _ _ rfl Tryz.underlying25 Tryz.underlying121 rfl HMP.out (i := (id : Int)) (wf_u64K (by omega) (by have := HIDB.out; omega)) (c' := gk.c - 1) (by rw [SG.fm_yes HKI.out]; rfl) rfl ?_)
        intro w8 hm8 hmd8
        have HS8 := Lib.hid (HIk.out.ib.st.mem.sDrop HKI.out HD.out.mod hm8 hmd8)
        have HDL := Lib.hid (in_del w8 gk.tb gk.V gk.LvT gk.D gk.FT HS8.out.mem.tb id)
        have c4 := HS8.out.mem.s4
        have c4' : w8.cell? ⟨b, 4, none⟩ = some (.pointer (some ⟨gk.tb, 0, none⟩)) := c4
        clear hm8 hmd8 c6 c4
        go_wp2_with (go_at_call 62; refine HDL.out.mono ?_; rintro e w9 hdl; obtain ⟨⟨vd, rfl⟩, g9, hs9, hd9, q1, q2, q3, q4, q5⟩ := rm_del HAk.out.lg HKI.out HI1.out HIN.out H0.out HS8.out hdl; have HI9 := Lib.hid (HIk.out.step hs9); have HA9 := Lib.hid (HAk.out.next HL.out HS.out HK2.out (by rw [HIE0.out]; exact hd9) q1 q2 q3 q4 q5); clear hdl hs9 hd9 q1 q2 q3 q4 q5)
        go_roundw
        case rel => exact ⟨k + 1, g9, by have := HK2.out; omega, by go_num, HI9.out, HA9.out⟩
        case measure => have := HK2.out; simp [intOf]; omega
      · have HLP : Hid (0 < ((gk.inc id).eraseIdx i).length) := List.length_pos_iff.2 h0
        have hlp := HLP.out
        have t3 : decide ((0 : Int) < (((gk.inc id).eraseIdx i).length : Int)) = true := decide_eq_true (by omega)
        have t4 : decide (0 < ((gk.inc id).eraseIdx i).length) = true := decide_eq_true hlp
        have HKP : Hid (∀ w7 w8, DeR wr (gk.gb id) (gk.gc id) ((gk.inc id).eraseIdx i) (.returned (.slice (some ⟨gk.gb id, 0, none⟩) ((gk.inc id).eraseIdx i).length (gk.gc id))) w7 → MapK .u64 w8 Tryz.prog 25 gk.mb gk.c (fun j => if j = (id : Int) then some (.slice (some ⟨gk.gb id, 0, none⟩) ((gk.inc id).eraseIdx i).length (gk.gc id)) else gk.fm j) → Mod (fun x => x = gk.mb) w7 w8 → _) := fun w7 w8 hd hm hm3 => rm_keep HIk.out.ib.st.mem HKI.out HI1.out HIN.out hd HLP.out hm hm3
        have HR0 : Hid (∀ w7, DeR wr (gk.gb id) (gk.gc id) ((gk.inc id).eraseIdx i) (.returned (.slice (some ⟨gk.gb id, 0, none⟩) ((gk.inc id).eraseIdx i).length (gk.gc id))) w7 → MapK .u64 w7 Tryz.prog 25 gk.mb gk.c gk.fm ∧ Blk w7 b 123 [.int .i64 (gk.V : Int), .int .i64 (gk.E : Int), .int .u64 (gk.last : Int), .pointer (some ⟨gk.ab, 0, none⟩), .pointer (some ⟨gk.tb, 0, none⟩), gk.lv, .map (some gk.mb)]) := fun w7 hd => HIk.out.ib.st.mem.mapG HKI.out hd.mod
        have HCC : Hid (gk.c < maxLen) := by
          show _ < _
          rw [HAk.out.lg.cnt]
          have h1 := cntP_le (P := gk.LvT) gk.V
          have h2 := HL.out.szs.1
          have h3 := HAk.out.V
          unfold maxLen
          omega
        clear h0 hlp
        obtain ⟨L2, HL2⟩ : ∃ L2, Hid ((gk.inc id).eraseIdx i = L2) := ⟨_, rfl⟩
        rw [HL2.out] at HDE HKP HR0 t3 t4
        go_upto_region 15 with (go_at_call 61; refine HDE.out.mono ?_; rintro e w7 ⟨rfl, hd2, hd3⟩; have HD : Hid (DeR wr (gk.gb id) (gk.gc id) L2 (.returned (.slice (some ⟨gk.gb id, 0, none⟩) L2.length (gk.gc id))) w7) := ⟨rfl, hd2, hd3⟩; clear hd2 hd3)
        obtain ⟨hmp, hbx⟩ := HR0.out w7 HD.out
        have HMP := Lib.hid hmp
        have c6 := hbx.cell (i := 6) rfl
        clear hmp hbx HR0 t2 hwi
        go_upto_region 19 with (at_mapUpdate; refine wpList_storeK rfl _ _ _ rfl Tryz.underlying25 Tryz.underlying121 rfl HMP.out HCC.out (i := (id : Int)) (wf_u64K (by omega) (by have := HIDB.out; omega)) (c' := gk.c) (by rw [SG.fm_yes HKI.out]; rfl) (.slice (some ⟨gk.gb id, 0, none⟩) L2.length (gk.gc id)) rfl rfl ?_)
        intro w8 hm8 hmd8
        obtain ⟨g9, hs9, hd9, q1, q2, q3, q4, q5⟩ := HKP.out w7 w8 HD.out hm8 hmd8
        have HI9 := Lib.hid (HIk.out.step hs9)
        have HA9 := Lib.hid (HAk.out.next HL.out HS.out HK2.out (by rw [HIE0.out]; exact hd9) q1 q2 q3 q4 q5)
        clear hm8 hmd8 c6 hs9 hd9 q1 q2 q3 q4 q5 t3 t4
        go_wp2_with fail
        go_roundw
        case rel => exact ⟨k + 1, g9, by have := HK2.out; omega, by go_num, HI9.out, HA9.out⟩
        case measure => have := HK2.out; simp [intOf]; omega
    · obtain rfl : k = 2 := by omega
      have t1 : decide (((2 : Nat) : Int) < 2) = false := rfl
      have FIN : Hid (∀ w9, Mod (fun x => x = z) wr w9 → StRm w b g slot (.returned (.tuple #[.agg (lrL r).toArray, .int .i64 0])) w9) := fun w9 hm9 => by
        have hz := HIk.out.ib.zs
        have hs1 := HIk.out.ib.st
        exact ⟨gk, by rw [HRR.out], ⟨hs1.mem.mod hm9 (fun k e e2 => HIk.out.ib.nz (e2 ▸ e)), hs1.mod.trans hm9 (fun x hx e => by omega), hs1.ft⟩, HAk.out.last2 HL.out HS.out, HAk.out.V, HAk.out.E, HAk.out.last, HAk.out.Lv, HAk.out.R, HAk.out.keep⟩
      have HBE := Lib.hid HIk.out.be
      have HBY := Lib.hid HIk.out.ib.bz
      clear hk2
      go_wp2_with (first | (with_reducible refine wpList_loadBlk eb 63 (lrL r) _ rfl HBE.out Tryz.underlying63 rfl (by kernel_rfl) ?_) | (refine wpList_storeBlk z 63 (lrL lr0) (lrL r) rfl rfl HBY.out rfl (by kernel_rfl) (lrL_one _) ?_))
      intro w9 B9 hm9
      have HF9 := Lib.hid (FIN.out w9 hm9)
      have HB9 := Lib.hid B9
      clear B9 hm9 FIN
      go_wp2_with fail
      exact bodyPost_ret (results_cs rfl (y := .int .i64 0) rfl rfl HB9.out Tryz.underlying63 rfl (by kernel_rfl)) rfl HF9.out
end Go.Proofs.YtlooaipipmiijaaGreat
