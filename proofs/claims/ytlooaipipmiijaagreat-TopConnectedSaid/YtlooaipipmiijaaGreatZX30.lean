/- Several texts in one: LcX, LcY, CopyP. -/
import Derived.Test.YtlooaipipmiijaaGreatZX04
import Derived.Test.YtlooaipipmiijaaGreatZX17
import Derived.Test.YtlooaipipmiijaaGreatZX29
namespace Go.Proofs.YtlooaipipmiijaaGreat
set_option linter.unusedVariables false
set_option linter.unusedSimpArgs false
open Go.RowKit
structure LcChg (w : World) (p g n : Nat) (E : Nat → Nat → Prop) (key : Nat → Int) (e : Ending) (w' : World) : Prop where
  val : e = .returned (.int .i64 0)
  obj : ∃ N' ed', LObj w' p g n N' ed' ∧ LG n E key N'
  mod : Mod (fun x => x = g ∨ x = p) w w'
set_option maxHeartbeats 8000000 in
set_option maxRecDepth 100000 in
theorem lc_link (w : World) (p g n : Nat) (E : Nat → Nat → Prop) (key : Nat → Int) (N : NS) (ed : Int) (h : LObj w p g n N ed) (hl : LG n E key N) (a b : Nat) (ha : a < n) (hb : b < n) (hc : ¬ Rch E (a + 1) (b + 1)) :
    Calls Tryz.prog 128 #[.pointer (some ⟨p, 0, none⟩), .int .i64 (a : Int), .int .i64 (b : Int)] w (LcChg w p g n (fun x y => E x y ∨ (x = a + 1 ∧ y = b + 1) ∨ (x = b + 1 ∧ y = a + 1)) key) := by
  have hn := h.nb
  have hab : a ≠ b := fun e => hc (by rw [e]; exact .refl)
  have HNC := Lib.hid hc
  have HL := Lib.hid hl
  have hwa : IntKind.i64.wrap ((a : Int) + 1) = (a : Int) + 1 := IntWalk.i64_in _ (by omega)
  have hwb : IntKind.i64.wrap ((b : Int) + 1) = (b : Int) + 1 := IntWalk.i64_in _ (by omega)
  have t1 : ((a : Int) == (b : Int)) = false := by simp; omega
  have t1' : decide (a = b) = false := decide_eq_false hab
  have t1'' : (a == b) = false := by simpa using hab
  have hba : Below w.heap.size w (w.alloc (.cells #[.int .i64 (a : Int), .int .i64 (b : Int)] 3)) := bel_alloc w _
  have HBA := Lib.hid hba
  have HOA := Lib.hid (h.below hba)
  have qv0 := (Blk.new w 3 [.int .i64 (a : Int), .int .i64 (b : Int)]).cell (i := 0) rfl
  have qv1 := (Blk.new w 3 [.int .i64 (a : Int), .int .i64 (b : Int)]).cell (i := 1) rfl
  clear h hl hba hc hab
  go_enter Tryz.func128, Tryz.ntmps128
  go_wp2_with fail
  have hcon := lc_check _ p g n N ed HOA.out w.heap.size 2 [a, b] rfl (by omega) (fun q hq => by
    have : q = 0 ∨ q = 1 := by omega
    rcases this with rfl | rfl
    · exact ⟨qv0, ha⟩
    · exact ⟨qv1, hb⟩)
  with_reducible refine hcon.mono ?_
  rintro e w1 ⟨rfl, hb1⟩
  have HO1 := Lib.hid (HOA.out.below hb1)
  have HM1 : Hid (Mod (fun x => x = g ∨ x = p) w w1) := Mod.of_below (bel_then HBA.out hb1)
  clear hb1 hcon qv0 qv1 HOA HBA
  go_wp2_with fail
  with_reducible refine (lc_connected w1 p g n E key N ed HO1.out HL.out a b ha hb).mono ?_
  rintro e w2 ⟨⟨c, rfl, hcc⟩, ⟨N1, ho1, hl1⟩, hm1⟩
  obtain rfl : c = false := by cases c; rfl; exact absurd (hcc.1 rfl) HNC.out
  have HO2 := Lib.hid ho1
  have HM2 : Hid (Mod (fun x => x = g ∨ x = p) w w2) := HM1.out.trans hm1 (fun _ _ e => .inl e)
  obtain ⟨N2, r2, N3, r3, e2, e3, _, _, _, p0, p1, _, l4⟩ := hl1.link (a := a + 1) (b := b + 1) ⟨by omega, by omega⟩ ⟨by omega, by omega⟩ HNC.out
  have HP0 := Lib.hid p0
  have HP1 := Lib.hid p1
  have HL4 := Lib.hid l4
  have HAB : Hid (a + 1 ≠ b + 1) := fun e => HNC.out (by rw [show a = b by omega]; exact .refl)
  clear ho1 hl1 hm1 hcc HO1 HM1 p0 p1 l4
  go_wp2_with fail
  have hcon := lc_lead w2 p g n N1 ed HO2.out (a + 1) (by omega) N2 r2 e2
  rw [show ((a + 1 : Nat) : Int) = (a : Int) + 1 from rfl] at hcon
  with_reducible refine hcon.mono ?_
  rintro e w3 ⟨rfl, ho, hm⟩
  have HO3 := Lib.hid ho
  have HM3 : Hid (Mod (fun x => x = g ∨ x = p) w w3) := HM2.out.trans hm (fun _ _ e => .inl e)
  clear ho hm hcon HO2 HM2
  go_wp2_with fail
  have hcon := lc_expose w3 p g n _ ed HO3.out (b + 1) (by omega) N3 r3 e3
  rw [show ((b + 1 : Nat) : Int) = (b : Int) + 1 from rfl] at hcon
  with_reducible refine hcon.mono ?_
  rintro e w4 ⟨rfl, ho, hm⟩
  have HO4 := Lib.hid ho
  have HM4 : Hid (Mod (fun x => x = g ∨ x = p) w w4) := HM3.out.trans hm (fun _ _ e => .inl e)
  clear ho hm hcon HO3 HM3
  obtain ⟨cap1, c1⟩ := HO4.out.c1
  obtain ⟨u2, q2⟩ : ∃ u2 : Nat, w4.cell? ⟨g, (a + 1) * 9 + 2, none⟩ = some (.int .i64 (u2 : Int)) := ⟨_, HO4.out.at_ (by omega) 2 (by omega)⟩
  have f2 : w4.frozen? ⟨g, (a + 1) * 9 + 2, none⟩ = false := HO4.out.fr _
  have HO5 : Hid (LObj (w4.setCell ⟨g, (a + 1) * 9 + 2, none⟩ (.int .i64 ((b : Int) + 1))) p g n (updN N3 (a + 1) { N3 (a + 1) with up := b + 1 }) ed) := by
    obtain ⟨b0, b1, b2, b3⟩ := HO4.out.bd (a + 1) (by omega)
    exact HO4.out.set (j := 2) (v := { N3 (a + 1) with up := b + 1 }) (by omega) (by omega) ⟨b0, b1, by show b + 1 ≤ n; omega, b3⟩ (fun r hr hne => match r, hr, hne with
      | 0, _, _ => rfl
      | 1, _, _ => rfl
      | 3, _, _ => rfl
      | 4, _, _ => rfl
      | 5, _, _ => rfl
      | 6, _, _ => rfl
      | 7, _, _ => rfl
      | 8, _, _ => rfl) rfl
  have HM5 : Hid (Mod (fun x => x = g ∨ x = p) w (w4.setCell ⟨g, (a + 1) * 9 + 2, none⟩ (.int .i64 ((b : Int) + 1)))) := HM4.out.setCell ⟨g, (a + 1) * 9 + 2, none⟩ (fun _ => .inl rfl) _
  have ga1 : (a : Int) + 1 < (n + 1 : Nat) := by omega
  have ga2 : (0 : Int) ≤ (a : Int) + 1 := by omega
  have ga3 : (a : Int) + 1 < (n : Int) + 1 := by omega
  have ga4 : a + 1 < n + 1 := by omega
  have gb1 : (b : Int) + 1 < (n + 1 : Nat) := by omega
  have gb2 : (0 : Int) ≤ (b : Int) + 1 := by omega
  have gb3 : (b : Int) + 1 < (n : Int) + 1 := by omega
  have gb4 : b + 1 < n + 1 := by omega
  go_upto_region 11 with fail
  clear c1 q2 f2 HO4 HM4
  generalize w4.setCell ⟨g, (a + 1) * 9 + 2, none⟩ (.int .i64 ((b : Int) + 1)) = w5 at *
  have eB : updN N3 (a + 1) { N3 (a + 1) with up := b + 1 } (b + 1) = N3 (b + 1) := uN_ne _ _ (fun e => HAB.out e.symm)
  obtain ⟨cap1, c1⟩ := HO5.out.c1
  have q7 : w5.cell? ⟨g, (b + 1) * 9 + 7, none⟩ = some (.int .i64 (N3 (b + 1)).lt) := by have := HO5.out.at_ (i := b + 1) (by omega) 7 (by omega); rw [eB] at this; exact this
  have q8 : w5.cell? ⟨g, (a + 1) * 9 + 8, none⟩ = some (.int .i64 (N3 (a + 1)).tot) := by have := HO5.out.at_ (i := a + 1) (by omega) 8 (by omega); rw [uN_same] at this; exact this
  have f7 : w5.frozen? ⟨g, (b + 1) * 9 + 7, none⟩ = false := HO5.out.fr _
  obtain ⟨z, HZ⟩ : ∃ z, Hid (w64 ((N3 (b + 1)).lt + (N3 (a + 1)).tot) = z) := ⟨_, rfl⟩
  have hz : IntKind.i64.wrap ((N3 (b + 1)).lt + (N3 (a + 1)).tot) = z := HZ.out
  have HO6 : Hid (∀ W, Mod (fun _ => False) w5 W → LObj (W.setCell ⟨g, (b + 1) * 9 + 7, none⟩ (.int .i64 z)) p g n (updN (updN N3 (a + 1) { N3 (a + 1) with up := b + 1 }) (b + 1) { N3 (b + 1) with lt := z }) ed) := fun W hW => by
    have hbd := HO5.out.bd (b + 1) (by omega)
    rw [eB] at hbd
    exact (HO5.out.mod hW (fun e => e) (fun e => e)).set (j := 7) (v := { N3 (b + 1) with lt := z }) (by omega) (by omega) hbd (by rw [eB]; exact fun r hr hne => match r, hr, hne with
      | 0, _, _ => rfl
      | 1, _, _ => rfl
      | 2, _, _ => rfl
      | 3, _, _ => rfl
      | 4, _, _ => rfl
      | 5, _, _ => rfl
      | 6, _, _ => rfl
      | 8, _, _ => rfl) rfl
  generalize (N3 (b + 1)).lt = x7 at q7 hz
  generalize (N3 (a + 1)).tot = x8 at q8 hz
  clear eB
  refine region_tailD 21 (by kernel_rfl) (by kernel_rfl) ?_
  intro W6 hW6
  replace c1 := hW6.cell c1
  replace q7 := hW6.cell q7
  replace q8 := hW6.cell q8
  replace f7 := hW6.frozen f7
  have HMW := Lib.hid (hW6.mod (Mod.refl (fun _ => False) w5))
  clear hW6
  simp only [List.take_succ_cons, List.take_zero, List.drop_succ_cons, List.drop_zero]
  repeat still_step
  refine wpStill_nil ?_
  have HO7 := Lib.hid (HO6.out W6 HMW.out)
  have HM7 : Hid (Mod (fun x => x = g ∨ x = p) w (W6.setCell ⟨g, (b + 1) * 9 + 7, none⟩ (.int .i64 z))) := (HM5.out.trans HMW.out (fun _ _ e => e.elim)).setCell ⟨g, (b + 1) * 9 + 7, none⟩ (fun _ => .inl rfl) _
  go_upto_region 12 with fail
  clear c1 q7 q8 f7 hz HO6 HMW HO5 HM5
  generalize W6.setCell ⟨g, (b + 1) * 9 + 7, none⟩ (.int .i64 z) = w7 at *
  go_wp2_with fail
  have hcon := lc_refresh w7 p g n _ ed HO7.out (b + 1) (by omega) (by rw [uN_same]; exact HP0.out) (by rw [uN_same]; exact HP1.out)
  rw [show ((b + 1 : Nat) : Int) = (b : Int) + 1 from rfl] at hcon
  with_reducible refine hcon.mono ?_
  rintro e w8 ⟨rfl, ho8, hm8⟩
  have HO8 : Hid (LObj w8 p g n (lnkN N3 (a + 1) (b + 1)) ed) := by
    show LObj _ _ _ _ _ _
    unfold lnkN
    rw [HZ.out]
    exact ho8
  have HM8 : Hid (Mod (fun x => x = g ∨ x = p) w w8) := HM7.out.trans hm8 (fun _ _ e => .inl e)
  clear ho8 hm8 hcon HO7 HM7
  have c2 := HO8.out.c2
  have fp : w8.frozen? ⟨p, 2, none⟩ = false := HO8.out.pfr 2
  obtain ⟨ed2, hed⟩ : ∃ x, IntKind.i64.wrap (ed + 1) = x := ⟨_, rfl⟩
  have HO9 := Lib.hid (HO8.out.setEd ed2)
  have HM9 : Hid (Mod (fun x => x = g ∨ x = p) w (w8.setCell ⟨p, 2, none⟩ (.int .i64 ed2))) := HM8.out.setCell ⟨p, 2, none⟩ (fun _ => .inr rfl) _
  clear HO8 HM8
  go_wp2_with fail
  go_ret
  exact ⟨rfl, ⟨_, _, HO9.out, HL4.out⟩, HM9.out⟩
set_option maxHeartbeats 8000000 in
set_option maxRecDepth 100000 in
theorem lc_cut (w : World) (p g n : Nat) (E : Nat → Nat → Prop) (key : Nat → Int) (N : NS) (ed : Int) (h : LObj w p g n N ed) (hl : LG n E key N) (a b : Nat) (ha : a < n) (hb : b < n) (hE : E (a + 1) (b + 1)) :
    Calls Tryz.prog 98 #[.pointer (some ⟨p, 0, none⟩), .int .i64 (a : Int), .int .i64 (b : Int)] w (LcChg w p g n (fun x y => E x y ∧ ¬ (x = a + 1 ∧ y = b + 1) ∧ ¬ (x = b + 1 ∧ y = a + 1)) key) := by
  have hn := h.nb
  have HEE := Lib.hid hE
  have HL := Lib.hid hl
  have hwa : IntKind.i64.wrap ((a : Int) + 1) = (a : Int) + 1 := IntWalk.i64_in _ (by omega)
  have hwb : IntKind.i64.wrap ((b : Int) + 1) = (b : Int) + 1 := IntWalk.i64_in _ (by omega)
  have hba : Below w.heap.size w (w.alloc (.cells #[.int .i64 (a : Int), .int .i64 (b : Int)] 3)) := bel_alloc w _
  have HBA := Lib.hid hba
  have HOA := Lib.hid (h.below hba)
  have qv0 := (Blk.new w 3 [.int .i64 (a : Int), .int .i64 (b : Int)]).cell (i := 0) rfl
  have qv1 := (Blk.new w 3 [.int .i64 (a : Int), .int .i64 (b : Int)]).cell (i := 1) rfl
  clear h hl hba hE
  go_enter Tryz.func98, Tryz.ntmps98
  go_wp2_with fail
  have hcon := lc_check _ p g n N ed HOA.out w.heap.size 2 [a, b] rfl (by omega) (fun q hq => by
    have : q = 0 ∨ q = 1 := by omega
    rcases this with rfl | rfl
    · exact ⟨qv0, ha⟩
    · exact ⟨qv1, hb⟩)
  with_reducible refine hcon.mono ?_
  rintro e w1 ⟨rfl, hb1⟩
  have HO1 := Lib.hid (HOA.out.below hb1)
  have HM1 : Hid (Mod (fun x => x = g ∨ x = p) w w1) := Mod.of_below (bel_then HBA.out hb1)
  clear hb1 hcon qv0 qv1 HOA HBA
  go_wp2_with fail
  with_reducible refine (lc_dist w1 p g n E key N ed HO1.out HL.out a b ha hb HEE.out).mono ?_
  rintro e w2 ⟨rfl, ⟨N1, ho1, hl1⟩, hm1⟩
  have HO2 := Lib.hid ho1
  have HM2 : Hid (Mod (fun x => x = g ∨ x = p) w w2) := HM1.out.trans hm1 (fun _ _ e => .inl e)
  obtain ⟨N2, r2, N3, r3, e2, e3, _, _, _, p1, hne, l4⟩ := hl1.cut HEE.out
  have HP1 := Lib.hid p1
  have HL4 := Lib.hid l4
  have HAB : Hid (a + 1 ≠ b + 1) := hne
  clear ho1 hl1 hm1 HO1 HM1 p1 l4 hne
  go_wp2_with fail
  have hcon := lc_path w2 p g n N1 ed HO2.out (a + 1) (b + 1) (by omega) (by omega) N2 N3 r2 r3 e2 e3
  rw [show ((a + 1 : Nat) : Int) = (a : Int) + 1 from rfl, show ((b + 1 : Nat) : Int) = (b : Int) + 1 from rfl] at hcon
  with_reducible refine hcon.mono ?_
  rintro e w3 ⟨rfl, ho, hm⟩
  have HO3 := Lib.hid ho
  have HM3 : Hid (Mod (fun x => x = g ∨ x = p) w w3) := HM2.out.trans hm (fun _ _ e => .inl e)
  clear ho hm hcon HO2 HM2
  obtain ⟨cap1, c1⟩ := HO3.out.c1
  obtain ⟨u2, q2⟩ : ∃ u2 : Nat, w3.cell? ⟨g, (a + 1) * 9 + 2, none⟩ = some (.int .i64 (u2 : Int)) := ⟨_, HO3.out.at_ (by omega) 2 (by omega)⟩
  have f2 : w3.frozen? ⟨g, (a + 1) * 9 + 2, none⟩ = false := HO3.out.fr _
  have HO4 : Hid (LObj (w3.setCell ⟨g, (a + 1) * 9 + 2, none⟩ (.int .i64 0)) p g n (updN N3 (a + 1) { N3 (a + 1) with up := 0 }) ed) := by
    obtain ⟨b0, b1, b2, b3⟩ := HO3.out.bd (a + 1) (by omega)
    exact HO3.out.set (j := 2) (v := { N3 (a + 1) with up := 0 }) (by omega) (by omega) ⟨b0, b1, Nat.zero_le _, b3⟩ (fun r hr hne => match r, hr, hne with
      | 0, _, _ => rfl
      | 1, _, _ => rfl
      | 3, _, _ => rfl
      | 4, _, _ => rfl
      | 5, _, _ => rfl
      | 6, _, _ => rfl
      | 7, _, _ => rfl
      | 8, _, _ => rfl) rfl
  have HM4 : Hid (Mod (fun x => x = g ∨ x = p) w (w3.setCell ⟨g, (a + 1) * 9 + 2, none⟩ (.int .i64 0))) := HM3.out.setCell ⟨g, (a + 1) * 9 + 2, none⟩ (fun _ => .inl rfl) _
  have ga1 : (a : Int) + 1 < (n + 1 : Nat) := by omega
  have ga2 : (0 : Int) ≤ (a : Int) + 1 := by omega
  have ga3 : (a : Int) + 1 < (n : Int) + 1 := by omega
  have ga4 : a + 1 < n + 1 := by omega
  have gb1 : (b : Int) + 1 < (n + 1 : Nat) := by omega
  have gb2 : (0 : Int) ≤ (b : Int) + 1 := by omega
  have gb3 : (b : Int) + 1 < (n : Int) + 1 := by omega
  have gb4 : b + 1 < n + 1 := by omega
  go_upto_region 8 with fail
  clear c1 q2 f2 HO3 HM3
  generalize w3.setCell ⟨g, (a + 1) * 9 + 2, none⟩ (.int .i64 0) = w4 at *
  have eB : updN N3 (a + 1) { N3 (a + 1) with up := 0 } (b + 1) = N3 (b + 1) := uN_ne _ _ (fun e => HAB.out e.symm)
  obtain ⟨cap1, c1⟩ := HO4.out.c1
  obtain ⟨u0, q0⟩ : ∃ u0 : Nat, w4.cell? ⟨g, (b + 1) * 9, none⟩ = some (.int .i64 (u0 : Int)) := ⟨_, HO4.out.at_ (i := b + 1) (by omega) 0 (by omega)⟩
  have f0 : w4.frozen? ⟨g, (b + 1) * 9, none⟩ = false := HO4.out.fr _
  have HO5 : Hid (LObj (w4.setCell ⟨g, (b + 1) * 9, none⟩ (.int .i64 0)) p g n (updN (updN N3 (a + 1) { N3 (a + 1) with up := 0 }) (b + 1) { N3 (b + 1) with k0 := 0 }) ed) := by
    have hbd := HO4.out.bd (b + 1) (by omega)
    rw [eB] at hbd
    exact HO4.out.set (i := b + 1) (j := 0) (v := { N3 (b + 1) with k0 := 0 }) (by omega) (by omega) ⟨Nat.zero_le _, hbd.2⟩ (by rw [eB]; exact fun r hr hne => match r, hr, hne with
      | 1, _, _ => rfl
      | 2, _, _ => rfl
      | 3, _, _ => rfl
      | 4, _, _ => rfl
      | 5, _, _ => rfl
      | 6, _, _ => rfl
      | 7, _, _ => rfl
      | 8, _, _ => rfl) rfl
  have HM5 : Hid (Mod (fun x => x = g ∨ x = p) w (w4.setCell ⟨g, (b + 1) * 9, none⟩ (.int .i64 0))) := HM4.out.setCell ⟨g, (b + 1) * 9, none⟩ (fun _ => .inl rfl) _
  clear eB
  go_upto_region 9 with fail
  clear c1 q0 f0 HO4 HM4
  generalize w4.setCell ⟨g, (b + 1) * 9, none⟩ (.int .i64 0) = w5 at *
  go_wp2_with fail
  have hcon := lc_refresh w5 p g n _ ed HO5.out (b + 1) (by omega) (by rw [uN_same]; show 0 ≠ b + 1; omega) (by rw [uN_same]; exact HP1.out)
  rw [show ((b + 1 : Nat) : Int) = (b : Int) + 1 from rfl] at hcon
  with_reducible refine hcon.mono ?_
  rintro e w8 ⟨rfl, ho8, hm8⟩
  have HO8 : Hid (LObj w8 p g n (cutN N3 (a + 1) (b + 1)) ed) := ho8
  have HM8 : Hid (Mod (fun x => x = g ∨ x = p) w w8) := HM5.out.trans hm8 (fun _ _ e => .inl e)
  clear ho8 hm8 hcon HO5 HM5
  have c2 := HO8.out.c2
  have fp : w8.frozen? ⟨p, 2, none⟩ = false := HO8.out.pfr 2
  obtain ⟨ed2, hed⟩ : ∃ x, IntKind.i64.wrap (ed - 1) = x := ⟨_, rfl⟩
  have HO9 := Lib.hid (HO8.out.setEd ed2)
  have HM9 : Hid (Mod (fun x => x = g ∨ x = p) w (w8.setCell ⟨p, 2, none⟩ (.int .i64 ed2))) := HM8.out.setCell ⟨p, 2, none⟩ (fun _ => .inr rfl) _
  clear HO8 HM8
  go_wp2_with fail
  go_ret
  exact ⟨rfl, ⟨_, _, HO9.out, HL4.out⟩, HM9.out⟩
end Go.Proofs.YtlooaipipmiijaaGreat

namespace Go.Proofs.YtlooaipipmiijaaGreat
set_option linter.unusedVariables false
set_option linter.unusedSimpArgs false
open Go.RowKit
set_option maxRecDepth 100000 in
theorem Tryz.infoNode : (Tryz.prog.info? 171).map (fun i => (i.zero, i.size, i.bytes)) = some (some (.agg #[.int .i64 0, .int .i64 0, .int .i64 0, .bool false, .int .i64 0, .int .i64 0, .int .i64 0, .int .i64 0, .int .i64 0]), 9, 72) := by kernel_rfl
theorem madeCells_nd (n : Nat) : (madeCells #[.int .i64 0, .int .i64 0, .int .i64 0, .bool false, .int .i64 0, .int .i64 0, .int .i64 0, .int .i64 0, .int .i64 0] (n * 9)).toList = ndCells n (fun _ => nd00) := by
  unfold madeCells ndCells
  rw [Array.toList_map, Array.toList_range]
  refine List.map_congr_left fun q hq => ?_
  have h9 : q % 9 < 9 := by omega
  show (#[Value.int .i64 0, .int .i64 0, .int .i64 0, .bool false, .int .i64 0, .int .i64 0, .int .i64 0, .int .i64 0, .int .i64 0] : Array Value)[q % 9]! = ndc nd00 (q % 9)
  generalize q % 9 = r at h9
  match r, h9 with
  | 0, _ => rfl
  | 1, _ => rfl
  | 2, _ => rfl
  | 3, _ => rfl
  | 4, _ => rfl
  | 5, _ => rfl
  | 6, _ => rfl
  | 7, _ => rfl
  | 8, _ => rfl
theorem wpList_makeNd {P : Program} {ops : Array Oper} {rest : List Oper} {d : Tmp} {t ty : TypeId} {l c : Operand} {pos : String} {aft : Array Edge} {a : Act} {Q : Exit → Act → World → Prop} {w : World}
    (e : TypeId) (h1 : P.underlying t = some (.slice e)) (hz : (P.info? e).map (fun i => (i.zero, i.size, i.bytes)) = some (some (.agg #[.int .i64 0, .int .i64 0, .int .i64 0, .bool false, .int .i64 0, .int .i64 0, .int .i64 0, .int .i64 0, .int .i64 0]), 9, 72))
    (kl kc : IntKind) (L C : Int) (n : Nat) (hl : a.eval l = .int kl L) (hc : a.eval c = .int kc C) (hL : L = (n : Int)) (hC : C = (n : Int)) (b2 : 72 * n ≤ 281474976710656) (b3 : n ≤ maxLen)
    (h : ∀ w1, Blk w1 w.heap.size e (ndCells n (fun _ => nd00)) → Below w.heap.size w w1 → wpList P ops Q rest (a.put (some d) (.slice (some ⟨w.heap.size, 0, none⟩) n n)) w1) :
    wpList P ops Q (⟨some d, .makeSlice t l c, ty, pos, aft, none⟩ :: rest) a w := by
  obtain ⟨i, hi, hz0, hz1, hz2⟩ := info_parts hz
  refine wpList_make_full w rfl l c t rfl 0 e i _ 9 h1 hi hz0 hz1 kl kc L C n hl hc hL hC (by rw [hz2]; exact b2) b3 (Nat.zero_le _) ?_
  intro w' ho hg
  refine h w' ?_ ⟨hg.os, hg.tape, hg.output, hg.size, fun k hk => hg.block k hk (by simp)⟩
  have := Blk.of_owns ho
  have e2 : (Value.agg #[.int .i64 0, .int .i64 0, .int .i64 0, .bool false, .int .i64 0, .int .i64 0, .int .i64 0, .int .i64 0, .int .i64 0]).cells = #[.int .i64 0, .int .i64 0, .int .i64 0, .bool false, .int .i64 0, .int .i64 0, .int .i64 0, .int .i64 0, .int .i64 0] := rfl
  rw [e2, madeCells_nd] at this
  exact this
def iniK (k : Nat) : NS := fun x => if 1 ≤ x ∧ x ≤ k then ⟨0, 0, 0, false, 0, 1, x, 0, 1⟩ else nd00
theorem iniK_succ (k : Nat) : refN (iniK k) (k + 1) = iniK (k + 1) := by
  funext x
  by_cases e : x = k + 1
  · subst e
    have h1 : iniK k (k + 1) = nd00 := if_neg (by omega)
    have h2 : iniK (k + 1) (k + 1) = ⟨0, 0, 0, false, 0, 1, k + 1, 0, 1⟩ := if_pos ⟨by omega, Nat.le_refl _⟩
    rw [h2]
    unfold refN
    rw [uN_same]
    unfold frsh
    rw [h1]
    rfl
  · rw [ref_ne _ e]
    show (if 1 ≤ x ∧ x ≤ k then _ else _) = if 1 ≤ x ∧ x ≤ k + 1 then _ else _
    by_cases c : 1 ≤ x ∧ x ≤ k
    · rw [if_pos c, if_pos ⟨c.1, by omega⟩]
    · rw [if_neg c, if_neg (by omega)]
structure LcNew (w : World) (n : Nat) (e : Ending) (w' : World) : Prop where
  ex : ∃ p g, e = .returned (.tuple #[.pointer (some ⟨p, 0, none⟩), .int .i64 0]) ∧ LcO w' p g n (fun _ _ => False) (fun _ => 0) ∧ w.heap.size ≤ p ∧ w.heap.size ≤ g
  bel : Below w.heap.size w w'
set_option maxHeartbeats 8000000 in
set_option maxRecDepth 100000 in
theorem lc_new (w : World) (n : Nat) (hn : n ≤ 65536) : Calls Tryz.prog 82 #[.int .i64 (n : Int)] w (LcNew w n) := by
  have t1 : decide ((n : Int) < 0) = false := decide_eq_false (by omega)
  have t2 : decide ((65536 : Int) < (n : Int)) = false := decide_eq_false (by omega)
  have t2' : decide (65536 < n) = false := decide_eq_false (by omega)
  have hw : IntKind.i64.wrap ((n : Int) + 1) = ((n + 1 : Nat) : Int) := by rw [IntWalk.i64_in _ (by omega)]; rfl
  go_enter Tryz.func82, Tryz.ntmps82
  go_wp2_with (at_make; refine wpList_makeNd 171 Tryz.underlying172 Tryz.infoNode _ _ _ _ (n + 1) rfl rfl (by first | rfl | omega) (by first | rfl | omega) (by omega) (by unfold maxLen; omega) ?_)
  intro w1 hb1 hbel1
  obtain ⟨g, HG⟩ : ∃ g, Hid (w.heap.size = g) := ⟨_, rfl⟩
  rw [HG.out] at hb1
  simp only [HG.out]
  have HR1 := Lib.hid hb1
  have HB1 := Lib.hid hbel1
  have hba : Below w1.heap.size w1 (w1.alloc (.cells #[.pointer none, .slice (some ⟨g, 0, none⟩) (n + 1) (n + 1), .int .i64 0] 174)) := bel_alloc w1 _
  have HX := Lib.hid (Blk.new w1 174 [.pointer none, .slice (some ⟨g, 0, none⟩) (n + 1) (n + 1), .int .i64 0])
  have HR2 := Lib.hid (hb1.below hba hb1.lt)
  have HB2 := Lib.hid (bel_then hbel1 hba)
  have hgl := hb1.lt
  clear hb1 hbel1 hba HR1
  go_upto_region 4 with fail
  obtain ⟨p, HP⟩ : ∃ p, Hid (w1.heap.size = p) := ⟨_, rfl⟩
  rw [HP.out] at HX hgl
  simp only [HP.out]
  generalize (w1.alloc (.cells #[.pointer none, .slice (some ⟨g, 0, none⟩) (n + 1) (n + 1), .int .i64 0] 174)) = w2 at *
  have HO3 : Hid (LObj (w2.setCell ⟨p, 0, none⟩ (.pointer (some ⟨p, 0, none⟩))) p g n (iniK 0) 0) := by
    have e0 : iniK 0 = fun _ => nd00 := by funext x; exact if_neg (by omega)
    refine ⟨⟨n + 1, [], HX.out.set 0 _, ?_, by simp, by unfold maxLen; omega⟩, by omega, ?_, by omega⟩
    · rw [List.append_nil, e0]
      exact HR2.out.other ⟨p, 0, none⟩ _ (by show g ≠ p; omega)
    · rw [e0]
      exact fun x _ => ⟨Nat.zero_le _, Nat.zero_le _, Nat.zero_le _, Nat.zero_le _⟩
  have hpw : w.heap.size ≤ p := by have := HB1.out.size; have := HP.out; omega
  have HB3 : Hid (Below w.heap.size w (w2.setCell ⟨p, 0, none⟩ (.pointer (some ⟨p, 0, none⟩)))) := bel_mod HB2.out ((Mod.refl (fun x => x = p) w2).setCell ⟨p, 0, none⟩ (fun _ => rfl) _) (fun x e => by rw [e]; exact hpw)
  have d0 := HX.out.cell (i := 0) rfl
  have f0 := HX.out.free 0
  clear HX HR2 HB2
  go_upto_region 5 with fail
  clear d0 f0
  generalize w2.setCell ⟨p, 0, none⟩ (.pointer (some ⟨p, 0, none⟩)) = w3 at *
  go_wp2_with fail
  go_loopw [22] (fun s wr => ∃ k : Nat, k ≤ n ∧ s = .int .i64 (k : Int) ∧ LObj wr p g n (iniK k) 0 ∧ Below w.heap.size w wr) (fun s _ => n - (intOf s).toNat)
  case atStart => exact ⟨0, Nat.zero_le _, rfl, HO3.out, HB3.out⟩
  case round =>
    obtain ⟨k, hk, rfl, hor, hbr⟩ := hrel
    clear HO3 HB3
    have HOR := Lib.hid hor
    have HBR := Lib.hid hbr
    clear hor hbr
    by_cases hkn : k < n
    · have hwk : IntKind.i64.wrap ((k : Int) + 1) = (k : Int) + 1 := IntWalk.i64_in _ (by omega)
      have t3 : decide ((k : Int) < (n : Int)) = true := decide_eq_true (by omega)
      have t3' : decide (k < n) = true := decide_eq_true hkn
      have hk0 : iniK k (k + 1) = nd00 := if_neg (by omega)
      have hcon := lc_refresh wr p g n (iniK k) 0 HOR.out (k + 1) (by omega) (by rw [hk0]; show 0 ≠ k + 1; omega) (by rw [hk0]; show 0 ≠ k + 1; omega)
      rw [show ((k + 1 : Nat) : Int) = (k : Int) + 1 from rfl, iniK_succ] at hcon
      clear hk0
      go_wp2_with fail
      with_reducible refine hcon.mono ?_
      rintro e w4 ⟨rfl, ho4, hm4⟩
      have HO4 := Lib.hid ho4
      have HB4 := Lib.hid (bel_mod HBR.out hm4 (fun x e => by rw [e]; exact Nat.le_of_eq HG.out))
      clear ho4 hm4 hcon
      go_wp2_with fail
      go_roundw
      case rel => exact ⟨k + 1, by omega, by go_num, HO4.out, HB4.out⟩
      case measure => simp [intOf]; omega
    · obtain rfl : k = n := by omega
      have t3 : decide ((k : Int) < (k : Int)) = false := decide_eq_false (by omega)
      have e : iniK k = ini k := rfl
      go_wp2_with fail
      go_ret2
      exact ⟨⟨p, g, rfl, ⟨iniK k, 0, HOR.out, by rw [e]; exact LG.init (by omega)⟩, hpw, Nat.le_of_eq HG.out⟩, HBR.out⟩
end Go.Proofs.YtlooaipipmiijaaGreat

namespace Go.Proofs.YtlooaipipmiijaaGreat
set_option linter.unusedVariables false
set_option linter.unusedSimpArgs false
open Go.RowKit
def plTo (pl : Nat → Nat) (i : Nat) : Nat → Nat := fun x => if x < 64 * i then pl x else 0
structure CStart (w : World) (g : HG) (c : Nat) (v : Value) (pb : Nat) (W : World) : Prop where
  blk : Blk W c 183 [.pointer none, .int .i64 (g.slots : Nat), v, .slice (some ⟨pb, 0, none⟩) g.np g.np]
  row : W.ownsRow 0 99 2 v g.it.length (ents g.it)
  prow : Blk W pb 185 (List.replicate g.np (.pointer none))
  bel : Below w.heap.size w W
  nc : w.heap.size ≤ c
  nv : ∀ k, v.ownBlock = some k → w.heap.size ≤ k ∧ k ≠ c ∧ k ≠ pb
  npb : w.heap.size ≤ pb
  ne : c ≠ pb
structure CInv (w : World) (g : HG) (c i : Nat) (g' : HG) (W : World) : Prop where
  rep : HRep W g'
  bel : Below w.heap.size w W
  it : g'.it = g.it
  slots : g'.slots = g.slots
  b : g'.b = c
  pl : g'.pl = plTo g.pl i
  foot : ∀ k, g'.foot k → w.heap.size ≤ k
theorem CInv.np {w W : World} {g g' : HG} {c i : Nat} (h : CInv w g c i g' W) : g'.np = g.np := by unfold HG.np; rw [h.slots]
theorem CStart.inv {w W : World} {g : HG} {c : Nat} {v : Value} {pb : Nat} (h : CStart w g c v pb W) (hs : g.slots ≤ 65536) :
    CInv w g c 0 ⟨c, g.slots, v, g.it, pb, fun _ => none, fun _ => 0⟩ (W.setCell ⟨c, 0, none⟩ (.pointer (some ⟨c, 0, none⟩))) := by
  have hrow : (W.setCell ⟨c, 0, none⟩ (.pointer (some ⟨c, 0, none⟩))).ownsRow 0 99 2 v g.it.length (ents g.it) :=
    owns_same h.row (fun k hk => Below.heap_setCell _ _ _ _ (h.nv k hk).2.1)
  refine ⟨⟨h.blk.set 0 _, hrow, ?_, fun j q _ e => (by cases e), fun j _ _ k _ => rfl, hs, h.ne, fun e => (h.nv c e).2.1 rfl, fun e => (h.nv pb e).2.2 rfl, fun j q _ e => (by cases e), fun j j' q _ _ e => (by cases e)⟩, ?_, rfl, rfl, rfl, ?_, ?_⟩
  · have e : tbRow (HG.np ⟨c, g.slots, v, g.it, pb, fun _ => none, fun _ => 0⟩) (fun _ => none) = List.replicate g.np (.pointer none) := by
      apply List.ext_getElem?
      intro j
      unfold tbRow HG.np
      by_cases hj : j < (g.slots + 63) / 64
      · simp [hj]
      · simp [hj]
    show Blk _ pb _ (tbRow _ _)
    rw [e]
    exact h.prow.other _ _ (fun e => h.ne e.symm)
  · exact h.bel.trans (((Mod.refl (fun k => k = c) W).setCell _ (fun _ => rfl) _).below h.bel.size (fun k hk => by rw [hk]; exact h.nc))
  · funext x; unfold plTo; simp
  · rintro k (hk | hk | hk | ⟨j, _, hk⟩)
    · rw [hk]; exact h.nc
    · exact (h.nv k hk).1
    · rw [hk]; exact h.npb
    · cases hk
theorem CInv.skip {w W : World} {g g' : HG} {c i : Nat} (h : CInv w g c i g' W) (hz : ∀ k, k < 64 → g.pl (64 * i + k) = 0) : CInv w g c (i + 1) g' W := by
  refine ⟨h.rep, h.bel, h.it, h.slots, h.b, ?_, h.foot⟩
  rw [h.pl]
  funext x
  unfold plTo
  by_cases h1 : x < 64 * i
  · rw [if_pos h1, if_pos (by omega)]
  · rw [if_neg h1]
    by_cases h2 : x < 64 * (i + 1)
    · rw [if_pos h2]
      have := hz (x - 64 * i) (by omega)
      rw [show 64 * i + (x - 64 * i) = x by omega] at this
      exact this.symm
    · rw [if_neg h2]
theorem plRow_plTo (pl : Nat → Nat) (i : Nat) : plRow (plTo pl (i + 1)) i = plRow pl i := by
  unfold plRow
  apply List.map_congr_left
  intro k hk
  rw [List.mem_range] at hk
  unfold plTo
  rw [if_pos (by omega)]
theorem plRow_plTo_other (pl : Nat → Nat) (i j : Nat) (h : j ≠ i) : plRow (plTo pl (i + 1)) j = plRow (plTo pl i) j := by
  unfold plRow
  apply List.map_congr_left
  intro k hk
  rw [List.mem_range] at hk
  unfold plTo
  by_cases h1 : j < i
  · rw [if_pos (by omega), if_pos (by omega)]
  · rw [if_neg (by omega), if_neg (by omega)]
theorem CInv.copied {w W W2 : World} {g g' : HG} {c i : Nat} (h : CInv w g c i g' W) (hi : i < g.np) (hb : Below W.heap.size W W2) (B : Blk W2 W.heap.size 187 (plRow g.pl i)) :
    CInv w g c (i + 1) { g' with tb := fun k => if k = i then some W.heap.size else g'.tb k, pl := plTo g.pl (i + 1) } (W2.setCell ⟨g'.pb, i, none⟩ (.pointer (some ⟨W.heap.size, 0, none⟩))) := by
  have hr := h.rep.below hb
  have hlt := h.rep.foot_lt
  have hpb : g'.pb < W.heap.size := hlt _ (.inr (.inr (.inl rfl)))
  have hsz := h.bel.size
  refine ⟨⟨hr.hb.other _ _ h.rep.d1, ?_, ?_, ?_, ?_, hr.hs, hr.d1, hr.d2, hr.d3, ?_, ?_⟩, ?_, h.it, h.slots, h.b, rfl, ?_⟩
  · exact owns_same hr.hi (fun k hk => Below.heap_setCell _ _ _ _ (fun e => hr.d3 (by have e' : k = g'.pb := e; rw [← e']; exact hk)))
  · have := hr.hp.set i (.pointer (some ⟨W.heap.size, 0, none⟩))
    rw [tbRow_set] at this
    exact this
  · intro j q hj e
    simp only at e
    by_cases ej : j = i
    · subst ej
      rw [if_pos rfl] at e
      injection e with e
      subst e
      show Blk _ _ _ (plRow (plTo g.pl (j + 1)) j)
      rw [plRow_plTo]
      exact B.other _ _ (by simp only; omega)
    · rw [if_neg ej] at e
      have h1 := hr.ht j q hj e
      rw [h.pl] at h1
      show Blk _ _ _ (plRow (plTo g.pl (i + 1)) j)
      rw [plRow_plTo_other _ _ _ ej]
      exact h1.other _ _ (hr.d4 j q hj e).2.1
  · intro j hj e k hk
    simp only at e ⊢
    by_cases ej : j = i
    · subst ej; rw [if_pos rfl] at e; cases e
    · rw [if_neg ej] at e
      have h1 := hr.hn j hj e k hk
      rw [h.pl] at h1
      unfold plTo at h1 ⊢
      by_cases h2 : j < i
      · rw [if_pos (by omega)] at h1 ⊢; exact h1
      · rw [if_neg (by omega)]
  · intro j q hj e
    simp only at e ⊢
    by_cases ej : j = i
    · subst ej
      rw [if_pos rfl] at e
      injection e with e
      subst e
      refine ⟨fun e => ?_, fun e => ?_, fun e => ?_⟩
      · have := hlt _ (.inl rfl : g'.foot g'.b); omega
      · omega
      · have := hlt _ (.inr (.inl e) : g'.foot _); omega
    · rw [if_neg ej] at e
      exact hr.d4 j q hj e
  · intro j j' q hj hj' e e'
    simp only at e e'
    by_cases ej : j = i <;> by_cases ej' : j' = i
    · omega
    · rw [if_pos ej] at e; rw [if_neg ej'] at e'
      injection e with e
      have := hlt _ (.inr (.inr (.inr ⟨j', hj', e'⟩)) : g'.foot q)
      omega
    · rw [if_neg ej] at e; rw [if_pos ej'] at e'
      injection e' with e'
      have := hlt _ (.inr (.inr (.inr ⟨j, hj, e⟩)) : g'.foot q)
      omega
    · rw [if_neg ej] at e; rw [if_neg ej'] at e'
      exact hr.d5 j j' q hj hj' e e'
  · have hp := h.foot g'.pb (.inr (.inr (.inl rfl)))
    exact (h.bel.trans (hb.mono hsz)).trans (((Mod.refl (fun k => k = g'.pb) W2).setCell _ (fun _ => rfl) _).below (Nat.le_trans hsz hb.size) (fun k hk => by rw [hk]; exact hp))
  · rintro k (hk | hk | hk | ⟨j, hj, hk⟩)
    · exact h.foot k (.inl hk)
    · exact h.foot k (.inr (.inl hk))
    · exact h.foot k (.inr (.inr (.inl hk)))
    · simp only at hk
      by_cases ej : j = i
      · rw [if_pos ej] at hk; injection hk with hk; omega
      · rw [if_neg ej] at hk; exact h.foot k (.inr (.inr (.inr ⟨j, hj, hk⟩)))
theorem CInv.done {w W : World} {g g' : HG} {c slots b : Nat} {S : List Ent} (h : CInv w g c g.np g' W) (ho : HObj w b slots S g) : HObj W c slots S g' := by
  have hs := ho.hs
  have hpl : ∀ x, x < slots → g'.pl x = g.pl x := by
    intro x hx
    rw [h.pl]
    unfold plTo HG.np
    rw [if_pos (by omega)]
  refine ⟨h.rep, ⟨fun p hp => ?_, fun i hi hne => ?_⟩, by rw [h.it]; exact ho.heapy, h.b, h.slots.trans ho.hs, by rw [h.it]; exact ho.perm, ho.sorted⟩
  · rw [h.it] at hp ⊢
    obtain ⟨i, h1, h2, h3⟩ := ho.good.pos p hp
    exact ⟨i, h1, by rw [h.slots]; exact h2, by rw [hpl i (by omega)]; exact h3⟩
  · rw [h.slots] at hi
    rw [hpl i (by omega)] at hne ⊢
    obtain ⟨p, h1, h2, h3⟩ := ho.good.back i hi hne
    exact ⟨p, by rw [h.it]; exact h1, h2, by rw [h.it]; exact h3⟩
theorem cstartA {w w1 : World} {g : HG} {v : Value} {np : Nat} (hnp : g.np = np) (h : ENewRow w.drew g.it v w1) :
    CStart w g (w1.heap.size + 1) v w1.heap.size ((w1.alloc (.cells (List.replicate np (.pointer none)).toArray 185)).alloc (.cells #[.pointer none, .int .i64 (g.slots : Nat), v, .slice (some ⟨w1.heap.size, 0, none⟩) np np] 183)) := by
  subst hnp
  have hb : Below w.heap.size w w1 := (Below.refl _ _).drew.trans h.bel
  have hs := hb.size
  refine ⟨Blk.new' (w1.alloc _) _ [_, _, _, _] (by simp), (h.own.alloc _).alloc _, (Blk.new w1 _ _).alloc _, (hb.alloc hs _).alloc (by simp; omega) _, by omega, fun k hk => ?_, hs, by omega⟩
  have h1 := h.new k hk
  have h2 := (h.own.lt k hk).2
  have h3 : w.drew.heap.size = w.heap.size := rfl
  exact ⟨by omega, by omega, by omega⟩
theorem cstartB {w w1 : World} {g : HG} {v : Value} {np : Nat} (hnp : g.np = np) (h : ENewRow (w.drew.alloc (.cells (List.replicate np (.pointer none)).toArray 185)) g.it v w1) :
    CStart w g w1.heap.size v w.heap.size (w1.alloc (.cells #[.pointer none, .int .i64 (g.slots : Nat), v, .slice (some ⟨w.heap.size, 0, none⟩) np np] 183)) := by
  subst hnp
  have h0 : Below w.heap.size w (w.drew.alloc (.cells (List.replicate g.np (.pointer none)).toArray 185)) := (Below.refl _ _).drew.alloc (Nat.le_refl _) _
  have hb : Below w.heap.size w w1 := h0.trans (h.bel.mono h0.size)
  have hs := hb.size
  have hs1 := h.bel.size
  have h4 : (w.drew.alloc (.cells (List.replicate g.np (.pointer none)).toArray 185)).heap.size = w.heap.size + 1 := by simp
  have B0 : Blk (w.drew.alloc (.cells (List.replicate g.np (.pointer none)).toArray 185)) w.heap.size 185 (List.replicate g.np (.pointer none)) := Blk.new w.drew _ _
  refine ⟨Blk.new w1 _ [_, _, _, _], h.own.alloc _, (B0.below h.bel B0.lt).alloc _, hb.alloc hs _, hs, fun k hk => ?_, Nat.le_refl _, by omega⟩
  have h1 := h.new k hk
  have h2 := (h.own.lt k hk).2
  exact ⟨by omega, by omega, by omega⟩
end Go.Proofs.YtlooaipipmiijaaGreat
