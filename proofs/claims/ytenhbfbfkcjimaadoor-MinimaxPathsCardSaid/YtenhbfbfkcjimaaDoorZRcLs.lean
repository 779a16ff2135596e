/- recon.leasts: its conditions. -/
import Derived.Test.YtenhbfbfkcjimaaDoorZRcIn
namespace Go.Proofs.YtenhbfbfkcjimaaDoor
set_option linter.unusedVariables false
set_option linter.unusedSimpArgs false
open Go.RowKit

set_option maxHeartbeats 1000000 in
set_option maxRecDepth 100000 in
theorem cond1_ok (w : World) (A : TA) (t : Tr) (tb : Nat) (hb : TBox w tb A t) (ht : TreeAt w A t) (hl : LensOk t) (x : Nat) (hx : x < t.par.length) :
    Calls Tryd.prog 82 #[.int .i64 x, .pointer (some ⟨tb, 0, none⟩)] w (RetB (.bool (decide (t.lv ≤ x ∨ LeafAt t x))) w) := by
  have HT := Lib.hid ht
  have HL := Lib.hid hl
  have hx1 := ht.ln.2.2.1
  have c0 := hb.c0
  have c1 := hb.c1
  have c2 := hb.c2
  have c3 := hb.c3
  have c4 := hb.c4
  have c5 := hb.c5
  obtain ⟨k1, k2⟩ := ht.lw
  clear hb ht hl
  by_cases hlv : t.lv ≤ x
  · have t1 : decide (t.lv ≤ (x : Int)) = true := by simp [hlv]
    have HR : Hid (decide (t.lv ≤ x ∨ LeafAt t x) = true) := by show _ = _; rw [decide_eq_true_eq]; exact .inl hlv
    clear hlv
    go_enter Tryd.func82, Tryd.ntmps82
    go_wp2_with fail
    go_ret
    exact ⟨ret_bool HR.out.symm, Below.refl _ _⟩
  · have t1 : decide (t.lv ≤ (x : Int)) = false := by simp; omega
    have HR : Hid (decide (t.lv ≤ x ∨ LeafAt t x) = leafB t x) := by
      show _ = _
      rw [Bool.eq_iff_iff]
      unfold leafB
      simp only [decide_eq_true_eq]
      exact ⟨fun h => h.resolve_left hlv, .inr⟩
    clear hlv
    go_enter Tryd.func82, Tryd.ntmps82
    go_wp2_with fail
    obtain ⟨q1, q2, q3, q4⟩ := HL.out
    with_reducible refine (leaf_ok w A t HT.out x (by omega) (by omega) (by omega) (by omega)).mono ?_
    rintro e w' ⟨rfl, hb'⟩
    have HB := Lib.hid hb'
    clear hb' q1 q2 q3 q4
    go_wp2_with fail
    go_ret
    exact ⟨ret_bool HR.out.symm, HB.out⟩

set_option maxHeartbeats 1000000 in
set_option maxRecDepth 100000 in
theorem cond2_ok (w : World) (A : TA) (t : Tr) (tb lp lb m : Nat) (hb : TBox w tb A t) (ht : TreeAt w A t) (hl : LensOk t) (h0 : 0 ≤ t.lv) (x : Nat) (hx : x < t.par.length) (hxm : x < m) (hm : m ≤ 9223372036854775807)
    (hp : w.cell? ⟨lp, 0, none⟩ = some (.slice (some ⟨lb, 0, none⟩) m m)) (ls : List Nat) (hls : ∀ y, y < x → w.cell? ⟨lb, y, none⟩ = some (.int .i64 ((ls.getD y 0 : Nat) : Int))) :
    Calls Tryd.prog 84 #[.int .i64 x, .pointer (some ⟨tb, 0, none⟩), .pointer (some ⟨lp, 0, none⟩)] w (RetB (.bool (decide ((x : Int) < t.lv ∨ InnAt t ls x))) w) := by
  have HT := Lib.hid ht
  have HL := Lib.hid hl
  have HLS := Lib.hid hls
  have H0 := Lib.hid h0
  have hx1 := ht.ln.2.2.1
  have c0 := hb.c0
  have c1 := hb.c1
  have c2 := hb.c2
  have c3 := hb.c3
  have c4 := hb.c4
  have c5 := hb.c5
  obtain ⟨k1, k2⟩ := ht.lw
  clear hb ht hl hls
  by_cases hlv : (x : Int) < t.lv
  · have t1 : decide ((x : Int) < t.lv) = true := by simp [hlv]
    have HR : Hid (decide ((x : Int) < t.lv ∨ InnAt t ls x) = true) := by show _ = _; rw [decide_eq_true_eq]; exact .inl hlv
    clear hlv h0
    go_enter Tryd.func84, Tryd.ntmps84
    go_wp2_with fail
    go_ret
    exact ⟨ret_bool HR.out.symm, Below.refl _ _⟩
  · have t1 : decide ((x : Int) < t.lv) = false := by simp; omega
    have HV : Hid (t.lv ≤ x) := by show _ ≤ _; omega
    have HR : Hid (decide ((x : Int) < t.lv ∨ InnAt t ls x) = innB t ls x) := by
      show _ = _
      rw [Bool.eq_iff_iff]
      unfold innB
      simp only [decide_eq_true_eq]
      exact ⟨fun h => h.resolve_left hlv, .inr⟩
    clear hlv h0
    go_enter Tryd.func84, Tryd.ntmps84
    go_wp2_with fail
    with_reducible refine (inner_ok w A t HT.out HL.out x hx H0.out HV.out ls lb m hxm hm HLS.out).mono ?_
    rintro e w' ⟨rfl, hb'⟩
    have HB := Lib.hid hb'
    clear hb'
    go_wp2_with fail
    go_ret
    exact ⟨ret_bool HR.out.symm, HB.out⟩

set_option maxHeartbeats 1000000 in
set_option maxRecDepth 100000 in
theorem cond3_ok (w : World) (A : TA) (t : Tr) (tb : Nat) (hb : TBox w tb A t) (ht : TreeAt w A t) (hl : LensOk t) (x : Nat) (hx : x < t.par.length) :
    Calls Tryd.prog 86 #[.int .i64 x, .pointer (some ⟨tb, 0, none⟩)] w (RetB (.bool (belB t x)) w) := by
  have HT := Lib.hid ht
  have HL := Lib.hid hl
  have c0 := hb.c0
  have c1 := hb.c1
  have c2 := hb.c2
  have c3 := hb.c3
  have c4 := hb.c4
  have c5 := hb.c5
  clear hb ht hl
  go_enter Tryd.func86, Tryd.ntmps86
  go_wp2_with fail
  with_reducible refine (below_ok w A t HT.out HL.out x hx).mono ?_
  rintro e w' ⟨rfl, hb'⟩
  have HB := Lib.hid hb'
  clear hb'
  go_wp2_with fail
  go_ret
  exact ⟨rfl, HB.out⟩

/-- What 'holds' reads. -/
structure LsEnv (w : World) (A : TA) (t : Tr) (tb cb sb lp lb m : Nat) : Prop where
  box : TBox w tb A t
  tree : TreeAt w A t
  c : Blk w cb 138 [.slice (some ⟨sb, 0, none⟩) 3 3]
  s : Blk w sb 82 [.func (.func 82) #[] #[.pointer (some ⟨tb, 0, none⟩)], .func (.func 84) #[] #[.pointer (some ⟨tb, 0, none⟩), .pointer (some ⟨lp, 0, none⟩)], .func (.func 86) #[] #[.pointer (some ⟨tb, 0, none⟩)]]
  p : Blk w lp 35 [.slice (some ⟨lb, 0, none⟩) m m]

theorem LsEnv.mod {F : Nat → Prop} {w w' : World} {A : TA} {t : Tr} {tb cb sb lp lb m : Nat} (h : LsEnv w A t tb cb sb lp lb m) (hm : Mod F w w') (hA : ∀ k, A.has t k → ¬ F k) (h1 : ¬ F tb) (h2 : ¬ F cb) (h3 : ¬ F sb) (h4 : ¬ F lp) : LsEnv w' A t tb cb sb lp lb m :=
  ⟨Blk.mod h.box hm h1, h.tree.mod hm hA, h.c.mod hm h2, h.s.mod hm h3, h.p.mod hm h4⟩

theorem LsEnv.below {w w' : World} {A : TA} {t : Tr} {tb cb sb lp lb m : Nat} (h : LsEnv w A t tb cb sb lp lb m) (hb : Below w.heap.size w w') : LsEnv w' A t tb cb sb lp lb m :=
  h.mod (Mod.of_below (F := fun _ => False) hb) (fun _ _ e => e) id id id id

def okB (t : Tr) (ls : List Nat) (x : Nat) : Bool := decide (OkAt t ls x)
theorem okB_eq (t : Tr) (ls : List Nat) (x : Nat) : okB t ls x = (decide (t.lv ≤ x ∨ LeafAt t x) && (decide ((x : Int) < t.lv ∨ InnAt t ls x) && belB t x)) := by
  unfold okB OkAt belB
  rw [Bool.eq_iff_iff]
  simp only [Bool.and_eq_true, decide_eq_true_eq]
  exact decide_eq_true_iff

set_option maxHeartbeats 4000000 in
set_option maxRecDepth 100000 in
theorem holds_ok (w : World) (A : TA) (t : Tr) (tb cb sb lp lb m : Nat) (he : LsEnv w A t tb cb sb lp lb m) (hl : LensOk t) (h0 : 0 ≤ t.lv) (x : Nat) (hx : x < t.par.length) (hxm : x < m) (hm : m ≤ 9223372036854775807)
    (ls : List Nat) (hls : ∀ y, y < x → w.cell? ⟨lb, y, none⟩ = some (.int .i64 ((ls.getD y 0 : Nat) : Int))) :
    Calls Tryd.prog 88 #[.int .i64 x, .pointer (some ⟨cb, 0, none⟩)] w (RetB (.bool (okB t ls x)) w) := by
  have HE := Lib.hid he
  have HL := Lib.hid hl
  have HLS := Lib.hid hls
  have H0 := Lib.hid h0
  have HV := Lib.hid (okB_eq t ls x)
  have c0 := he.c.cell (i := 0) rfl
  clear he hl hls h0
  generalize okB t ls x = R at *
  obtain ⟨v1, HV1⟩ : ∃ v, Hid (decide (t.lv ≤ x ∨ LeafAt t x) = v) := ⟨_, rfl⟩
  obtain ⟨v2, HV2⟩ : ∃ v, Hid (decide ((x : Int) < t.lv ∨ InnAt t ls x) = v) := ⟨_, rfl⟩
  obtain ⟨v3, HV3⟩ : ∃ v, Hid (belB t x = v) := ⟨_, rfl⟩
  have HVV : Hid (R = (v1 && (v2 && v3))) := by show _ = _; rw [← HV1.out, ← HV2.out, ← HV3.out]; exact HV.out
  clear HV
  go_enter Tryd.func88, Tryd.ntmps88
  go_wp2_with fail
  go_loopw [8] (fun s wr => ∃ i : Nat, i ≤ 3 ∧ s = .int .i64 i ∧ Below w.heap.size w wr ∧ (0 < i → v1 = true) ∧ (1 < i → v2 = true) ∧ (2 < i → v3 = true)) (fun s _ => 3 - (intOf s).toNat)
  case atStart => exact ⟨0, by omega, rfl, Below.refl _ _, by omega, by omega, by omega⟩
  case round =>
    obtain ⟨i, hi, rfl, hb, g1, g2, g3⟩ := hrel
    have HB := Lib.hid hb
    have HE2 := Lib.hid (HE.out.below hb)
    have HLS2 : Hid (∀ y, y < x → wr.cell? ⟨lb, y, none⟩ = some (.int .i64 ((ls.getD y 0 : Nat) : Int))) := fun y hy => (hb.cell (World.block_lt_of_cell? w _ (HLS.out y hy))).trans (HLS.out y hy)
    have G1 := Lib.hid g1
    have G2 := Lib.hid g2
    have G3 := Lib.hid g3
    have s0 := HE2.out.s.cell (i := 0) rfl
    have s1 := HE2.out.s.cell (i := 1) rfl
    have s2 := HE2.out.s.cell (i := 2) rfl
    clear hb g1 g2 g3 c0
    have hi4 : i = 0 ∨ i = 1 ∨ i = 2 ∨ i = 3 := by omega
    rcases hi4 with rfl | rfl | rfl | rfl
    · go_wp2_with fail
      with_reducible refine (cond1_ok wr A t tb HE2.out.box HE2.out.tree HL.out x hx).mono ?_
      rintro e w' ⟨rfl, hb'⟩
      have HB' := Lib.hid (bel_then HB.out hb')
      clear hb'
      rw [HV1.out]
      cases v1 with
      | false =>
        go_wp2_with fail
        go_ret
        exact ⟨ret_bool (by rw [HVV.out]; rfl), HB'.out⟩
      | true =>
        go_wp2_with fail
        go_roundw
        case rel => exact ⟨1, by omega, rfl, HB'.out, fun _ => by trivial, by omega, by omega⟩
        case measure => simp [intOf]
    · go_wp2_with fail
      with_reducible refine (cond2_ok wr A t tb lp lb m HE2.out.box HE2.out.tree HL.out H0.out x hx hxm hm (HE2.out.p.cell (i := 0) rfl) ls HLS2.out).mono ?_
      rintro e w' ⟨rfl, hb'⟩
      have HB' := Lib.hid (bel_then HB.out hb')
      clear hb'
      rw [HV2.out]
      cases v2 with
      | false =>
        go_wp2_with fail
        go_ret
        exact ⟨ret_bool (by rw [HVV.out]; simp), HB'.out⟩
      | true =>
        go_wp2_with fail
        go_roundw
        case rel => exact ⟨2, by omega, rfl, HB'.out, fun _ => G1.out (by omega), fun _ => by trivial, by omega⟩
        case measure => simp [intOf]
    · go_wp2_with fail
      with_reducible refine (cond3_ok wr A t tb HE2.out.box HE2.out.tree HL.out x hx).mono ?_
      rintro e w' ⟨rfl, hb'⟩
      have HB' := Lib.hid (bel_then HB.out hb')
      clear hb'
      rw [HV3.out]
      cases v3 with
      | false =>
        go_wp2_with fail
        go_ret
        exact ⟨ret_bool (by rw [HVV.out]; simp), HB'.out⟩
      | true =>
        go_wp2_with fail
        go_roundw
        case rel => exact ⟨3, by omega, rfl, HB'.out, fun _ => G1.out (by omega), fun _ => G2.out (by omega), fun _ => by trivial⟩
        case measure => simp [intOf]
    · have r1 := G1.out (by omega)
      have r2 := G2.out (by omega)
      have r3 := G3.out (by omega)
      have HF : Hid (R = true) := by show _ = _; rw [HVV.out, r1, r2, r3]; rfl
      clear r1 r2 r3
      go_wp2_with fail
      go_ret
      exact ⟨ret_bool HF.out.symm, HB.out⟩

end Go.Proofs.YtenhbfbfkcjimaaDoor
