/- ExpiryTwice: the walk. -/
import Derived.Test.YtebclbpibafkdaaKeepsW
import Derived.Test.YtebclbpibafkdaaTwo
import Derived.Test.YtebclbpibafkdaaApp
namespace Go.Proofs.Ytebclbpibafkdaa
set_option linter.unusedVariables false
set_option linter.unusedSimpArgs false
open Go.RowKit

/-- A row of ints that lies apart from two objects. -/
structure RowX (W : World) (v : Value) (z : List Int) (g h : HG) : Prop where
  own : W.ownsRow 0 3 1 v z.length (z.map fun x => .int .i64 x)
  a : ∀ x, v.ownBlock = some x → ¬ g.foot x
  b : ∀ x, v.ownBlock = some x → ¬ h.foot x

theorem owns_mod {F : Nat → Prop} {w w' : World} {e : TypeId} {size n : Nat} {v : Value} {xs : List Value} (h : w.ownsRow 0 e size v n xs) (m : Mod F w w') (hF : ∀ x, v.ownBlock = some x → ¬ F x) : w'.ownsRow 0 e size v n xs := by
  refine ⟨h.1, ?_⟩
  rcases h.2 with h2 | ⟨g, cap, cur, rfl, h1, hg, hr⟩
  · exact .inl h2
  · refine .inr ⟨g, cap, cur, rfl, h1, ?_, hr⟩
    rw [m.block g (Array.getElem?_eq_some_iff.1 hg).1 (hF g rfl)]
    exact hg

theorem RowX.swap {W : World} {v : Value} {z : List Int} {g h : HG} (x : RowX W v z g h) : RowX W v z h g := ⟨x.own, x.b, x.a⟩

theorem RowX.step {W W' : World} {v : Value} {z : List Int} {g g' h : HG} (x : RowX W v z g h) (hm : Mod g.foot W W') (hf : ∀ k, g'.foot k → g.foot k ∨ W.heap.size ≤ k) : RowX W' v z g' h := by
  refine ⟨owns_mod x.own hm x.a, fun k hk h2 => ?_, x.b⟩
  rcases hf k h2 with h3 | h3
  · exact x.a k hk h3
  · have := (x.own.lt k hk).2; omega

theorem RowX.below {W W' : World} {v : Value} {z : List Int} {g h : HG} (x : RowX W v z g h) (k : Below W.heap.size W W') : RowX W' v z g h :=
  ⟨owns_mod x.own (Mod.of_below (F := fun _ => False) k) (fun _ _ h => h), x.a, x.b⟩

theorem RowX.sl {W : World} {v : Value} {z : List Int} {g h : HG} (x : RowX W v z g h) : IntSl W v z := IntSl.of_owns x.own

/-- The row that Due returns. -/
theorem RowX.due {w : World} {s : Nat} {S : List Ent} {q : Nat} {g : HG} {t : Nat} {T : List Ent} {r : Nat} {h : HG} {W : World} (x : Two w s S q g t T r h W) {g' : HG} {W' : World} {v : Value} {N : Nat} (hN : N ≤ S.length)
    (hrow : W'.ownsRow 0 3 1 v N ((S.take N).map fun e => .int .i64 e.1)) (hv : ∀ x, v.ownBlock = some x → ¬ g'.foot x ∧ x ≠ s ∧ W.heap.size ≤ x) : RowX W' v ((S.take N).map (·.1)) g' h := by
  have hl : ((S.take N).map (·.1)).length = N := by simp; omega
  refine ⟨?_, fun k hk => (hv k hk).1, fun k hk h2 => ?_⟩
  · rw [hl, List.map_map]; exact hrow
  · have h3 := x.b.obj.lt k (.inl h2)
    have := (hv k hk).2.2
    omega

theorem grown_below {w w' : World} {row : Option Nat} {B : Nat} (hg : w.grownBy w' row) (hr : ∀ k, row = some k → B ≤ k) (hB : B ≤ w.heap.size) : Below B w w' :=
  ((Mod.refl (fun k => row = some k) w).grown hg (fun k hk _ => hk)).below hB hr

theorem owns_empty (w : World) (T : TypeId) : (w.alloc (.cells #[] T)).ownsRow 0 T 1 (.slice (some ⟨w.heap.size, 0, none⟩) 0 0) 0 [] :=
  ⟨rfl, .inr ⟨w.heap.size, 0, #[], rfl, Nat.zero_le _, heap_alloc_new w _, Nat.le_refl _, by unfold maxLen; omega, rfl, rfl⟩⟩

theorem keepIt {p : Prop} (h : Hid p) : p := h.out

theorem one_ints (z : List Int) : ∀ u ∈ z.map (fun x => Value.int .i64 x), u.oneCell' = true := by
  intro u hu
  obtain ⟨x, _, rfl⟩ := List.mem_map.1 hu
  rfl

set_option maxHeartbeats 4000000 in
set_option maxRecDepth 100000 in
theorem twice_long (ao : Option Addr) (len cap : Nat) (x y : Int) (w : World) (hl : 300 < len) (hm : len ≤ 9223372036854775807) :
    Calls Try.prog 8 #[.slice ao len cap, .int .i64 x, .int .i64 y] w (RetB (.bool true) w) := by
  go_enter Try.func8, Try.ntmps8
  go_wp2_with fail
  with_reducible refine (works35 _).mono ?_
  rintro e w' ⟨rfl, hb⟩
  have HB := Lib.hid hb
  clear hb
  go_wp2_with fail
  go_ret
  exact ⟨rfl, HB.out⟩

set_option maxHeartbeats 8000000 in
set_option maxRecDepth 100000 in
theorem twice_lo (ao : Option Addr) (len cap b off : Nat) (z : List Int) (lo hi : Int) (w : World) (hz : InRow .i64 w ao len b off z) (hl : len ≤ 300) (hlh : lo < hi) :
    Calls Try.prog 8 #[.slice ao len cap, .int .i64 lo, .int .i64 hi] w (RetB (.bool true) w) := by
  have HZ := Lib.hid hz
  clear hz
  have hd300 : decide (300 < (len : Int)) = false := by simp; omega
  go_enter Try.func8, Try.ntmps8
  go_wp2_with fail
  with_reducible refine (filled35 ao len cap b off z false w HZ.out hl).mono ?_
  rintro e w1 ⟨s, q, g, hf, rfl⟩
  have F := Lib.hid hf
  clear hf
  go_wp2_with fail
  with_reducible refine (filled35 ao len cap b off z true w1 (HZ.out.below F.out.bel) hl).mono ?_
  rintro e w2 ⟨t, r, gt, hf, rfl⟩
  have T2 := Lib.hid (Two.start F.out hf)
  have hLl : (sortE (pairs z)).length = len := by rw [sortE_pairs_length, HZ.out.size]
  have HL := Lib.hid (show (sortE (pairs z)).length ≤ 300 by omega)
  clear hf F HZ hLl
  generalize sortE (pairs z) = S at T2 HL
  go_wp2_with fail
  with_reducible refine (edue_ok w2 s 300 S q g T2.out.a.obj lo).mono ?_
  rintro e w3 ⟨v1, g3, rfl, ho, hrow, hm, hf, hv⟩
  have T3 := Lib.hid (T2.out.step ho hm hf)
  have R3 := Lib.hid (RowX.due T2.out (dueN_le S lo) hrow hv)
  have HS1 := Lib.hid (due_twice S (a := lo) (b := hi) (by omega))
  have HN1 := Lib.hid (due_none S (a := lo) (b := lo) (by omega))
  have HN2 := Lib.hid (due_none S (a := lo) (b := hi) (by omega))
  clear ho hm hf hrow hv T2
  go_wp2_with fail
  with_reducible refine (edue_ok w3 s 300 _ q g3 T3.out.a.obj lo).mono ?_
  rintro e w4 ⟨v2, g4, rfl, ho, hrow, hm, hf, hv⟩
  rw [HN1.out] at ho hrow
  rw [List.drop_zero] at ho
  obtain ⟨o2, c2, rfl⟩ := owns_slice hrow
  have T4 := Lib.hid (T3.out.step ho hm hf)
  have R4 := Lib.hid (R3.out.step hm hf)
  clear ho hm hf hrow hv T3 R3
  go_wp2_with fail
  with_reducible refine (edue_ok w4 s 300 _ q g4 T4.out.a.obj hi).mono ?_
  rintro e w5 ⟨v3, g5, rfl, ho, hrow, hm, hf, hv⟩
  have T5 := T4.out.step ho hm hf
  have R5 := Lib.hid (R4.out.step hm hf)
  have Q5 := Lib.hid (RowX.due T4.out (dueN_le _ hi) hrow hv)
  rw [HS1.out.2] at T5
  have T5 := Lib.hid T5
  clear ho hm hf hrow hv T4 R4
  go_wp2_with fail
  with_reducible refine (edue_ok w5 s 300 _ q g5 T5.out.a.obj lo).mono ?_
  rintro e w6 ⟨v4, g6, rfl, ho, hrow, hm, hf, hv⟩
  rw [HN2.out] at ho hrow
  rw [List.drop_zero] at ho
  obtain ⟨o4, c4, rfl⟩ := owns_slice hrow
  have T6 := Lib.hid (T5.out.step ho hm hf)
  have R6 := Lib.hid (R5.out.step hm hf)
  have Q6 := Lib.hid (Q5.out.step hm hf)
  clear ho hm hf hrow hv T5 R5 Q5
  have hz1 : ((List.take (dueN S lo) S).map (·.1)).length ≤ 300 := by have := HL.out; simp; omega
  have hz3 : ((List.take (dueN (List.drop (dueN S lo) S) hi) (List.drop (dueN S lo) S)).map (·.1)).length ≤ 300 := by have := HL.out; simp; omega
  obtain ⟨yy, hyy⟩ : ∃ yy, yy = (List.take (dueN S hi) S).map (·.1) := ⟨_, rfl⟩
  have HEQ : Hid ((List.take (dueN S lo) S).map (·.1) ++ (List.take (dueN (List.drop (dueN S lo) S) hi) (List.drop (dueN S lo) S)).map (·.1) = yy) := by
    exact Lib.hid (by rw [← List.map_append, HS1.out.1, hyy])
  have HYY := Lib.hid hyy
  clear hyy
  clear HS1 HN1 HN2
  generalize (List.take (dueN S lo) S).map (·.1) = z1 at R6 hz1 HEQ
  generalize (List.take (dueN (List.drop (dueN S lo) S) hi) (List.drop (dueN S lo) S)).map (·.1) = z3 at Q6 hz3 HEQ
  have hb7 : Below w6.heap.size w6 (w6.alloc (.cells #[] 3)) := (Below.refl _ _).alloc (Nat.le_refl _) _
  have R7 := Lib.hid (R6.out.below hb7)
  have Q7 := Lib.hid (Q6.out.below hb7)
  have E7 := Lib.hid (owns_empty w6 3)
  have HB7 := Lib.hid hb7
  clear hb7 R6
  go_wp2_with (at_builtin; apply keepIt)
  apply Lib.hid
  refine wpList_appendR rfl 3 (.int .i64 0) 1 8 Try.underlying40 Try.infoInt rfl (by decide) _ 0 [] rfl E7.out _ z1.length _ rfl R7.out.own (one_ints _) (by unfold maxLen; omega) (by omega) ?_
  intro v5 w8 ho8 hg8 hk8
  have X8 : Hid (w8.ownsRow 0 3 1 v5 z1.length (z1.map fun x => .int .i64 x)) := by rw [Nat.zero_add, List.nil_append] at ho8; exact ho8
  have HB8 := Lib.hid (HB7.out.trans (grown_below hg8 (fun k hk => by cases hk; exact Nat.le_refl _) HB7.out.size))
  have HK8 : Hid (∀ k, v5.ownBlock = some k → w6.heap.size ≤ k) := fun k hk => by
    have := HB7.out.size
    rcases hk8 k hk with h1 | h1
    · cases h1; exact Nat.le_refl _
    · omega
  have Q8 := Lib.hid (Q6.out.below HB8.out)
  clear ho8 hg8 hk8 HB7 Q7 R7 E7
  go_wp2_with (at_builtin; apply keepIt)
  apply Lib.hid
  refine wpList_appendR rfl 3 (.int .i64 0) 1 8 Try.underlying40 Try.infoInt rfl (by decide) _ z1.length _ rfl X8.out _ z3.length _ rfl Q8.out.own (one_ints _) (by unfold maxLen; omega) (by omega) ?_
  intro v6 w9 ho9 hg9 hk9
  have HB9 := Lib.hid (HB8.out.trans (grown_below hg9 HK8.out HB8.out.size))
  have T9 := Lib.hid (T6.out.below HB9.out).swap
  have X9 : Hid (RowX w9 v6 ((List.take (dueN S hi) S).map (·.1)) gt g6) := by
    rw [← HYY.out, ← HEQ.out]
    have hK9 : ∀ k, v6.ownBlock = some k → w6.heap.size ≤ k := fun k hk => by
      have := HB8.out.size
      rcases hk9 k hk with h1 | h1
      · exact HK8.out k h1
      · omega
    refine ⟨by rw [List.length_append, List.map_append]; exact ho9, fun k hk h1 => ?_, fun k hk h1 => ?_⟩
    · have h2 := hK9 k hk
      have h3 := T6.out.b.obj.lt k (.inl h1)
      omega
    · have h2 := hK9 k hk
      have h3 := T6.out.a.obj.lt k (.inl h1)
      omega
  have HYL : Hid (((List.take (dueN S hi) S).map (·.1)).length ≤ 1000000) := by have := HL.out; exact Lib.hid (by simp; omega)
  clear ho9 hg9 hk9 HB8 HK8 Q8 X8 Q6 HB9 T6 HEQ HYY hz1 hz3
  go_wp2_with fail
  with_reducible refine (edue_ok w9 t 300 S r gt T9.out.a.obj hi).mono ?_
  rintro e w10 ⟨v7, g10, rfl, ho, hrow, hm, hf, hv⟩
  have T10 := Lib.hid (T9.out.step ho hm hf)
  have R10 := Lib.hid (RowX.due T9.out (dueN_le S hi) hrow hv)
  have X10 := Lib.hid (X9.out.step hm hf)
  clear ho hm hf hrow hv T9 X9
  go_wp2_with fail
  with_reducible refine (same35 w10 v6 v7 _ _ X10.out.sl R10.out.sl HYL.out HYL.out).mono ?_
  rintro e w11 ⟨rfl, hb11⟩
  have T11 := T10.out.below hb11
  have HD : Hid (∀ e l, S.drop (dueN S hi) = e :: l → hi < e.2) := fun e l h => due_head h
  have hsm : sameB ((List.take (dueN S hi) S).map (·.1)) ((List.take (dueN S hi) S).map (·.1)) = true := by simp [sameB]
  rw [hsm]
  clear hb11 T10 X10 R10 HYL hsm
  generalize S.drop (dueN S hi) = D at T11 HD
  have T11 := Lib.hid T11
  go_wp2_with fail
  with_reducible refine (elen_ok w11 s 300 D q g6 T11.out.b.obj).mono ?_
  rintro e w' ⟨rfl, rfl⟩
  go_wp2_with fail
  with_reducible refine (elen_ok w11 t 300 D r g10 T11.out.a.obj).mono ?_
  rintro e w' ⟨rfl, rfl⟩
  obtain ⟨e0, e1, p, hV, hp⟩ : ∃ e0 e1 p, headV D = .tuple #[.agg #[.int .i64 e0, .int .i64 e1], .bool p] ∧ (p = true → hi < e1) := by
    cases D with
    | nil => exact ⟨0, 0, false, rfl, fun h => by cases h⟩
    | cons e l => exact ⟨e.1, e.2, true, rfl, fun _ => HD.out e l rfl⟩
  have HV := Lib.hid hV
  clear hV
  go_wp2_with fail
  with_reducible refine (enext_any w11 s 300 D q g6 T11.out.b.obj).mono ?_
  rintro e w12 ⟨rfl, hb12⟩
  rw [HV.out]
  have T12 := T11.out.below hb12
  have T13 := Lib.hid (T12.below ((Below.refl _ _).alloc (Nat.le_refl _) (.cells #[.int .i64 e0, .int .i64 e1] 28)))
  have B13 := Blk.new w12 28 [.int .i64 e0, .int .i64 e1]
  have hx0 := B13.cell (i := 0) rfl
  have hx1 := B13.cell (i := 1) rfl
  clear hb12 T12 T11 B13
  go_wp2_with fail
  generalize w12.alloc (.cells #[.int .i64 e0, .int .i64 e1] 28) = W13 at *
  with_reducible refine (enext_any W13 t 300 D r g10 T13.out.a.obj).mono ?_
  rintro e w14 ⟨rfl, hb14⟩
  rw [HV.out]
  have T14 := T13.out.below hb14
  have T15 := Lib.hid (T14.below ((Below.refl _ _).alloc (Nat.le_refl _) (.cells #[.int .i64 e0, .int .i64 e1] 28)))
  have B15 := Blk.new w14 28 [.int .i64 e0, .int .i64 e1]
  have hy0 := B15.cell (i := 0) rfl
  have hy1 := B15.cell (i := 1) rfl
  have hx0' := (hb14.cell (World.block_lt_of_cell? W13 _ hx0)).trans hx0
  have hx1' := (hb14.cell (World.block_lt_of_cell? W13 _ hx1)).trans hx1
  have hlt : w12.heap.size < w14.heap.size := World.block_lt_of_cell? w14 _ hx0'
  clear hb14 T14 T13 hx0 hx1 B15 hy0 hy1
  cases p with
  | false =>
    go_wp2_with fail
    with_reducible refine (works35 _).mono ?_
    rintro e w16 ⟨rfl, hb16⟩
    have HB16 := Lib.hid (T15.out.a.bel.trans (hb16.mono T15.out.a.bel.size))
    clear hb16 T15
    go_wp2_with fail
    go_ret
    exact ⟨rfl, HB16.out⟩
  | true =>
    have t9 : decide (hi < e1) = true := decide_eq_true (hp rfl)
    clear hp
    go_wp2_with fail
    with_reducible refine (works35 _).mono ?_
    rintro e w16 ⟨rfl, hb16⟩
    have HB16 := Lib.hid (T15.out.a.bel.trans (hb16.mono T15.out.a.bel.size))
    clear hb16 T15
    go_wp2_with fail
    go_ret
    exact ⟨rfl, HB16.out⟩

set_option maxHeartbeats 8000000 in
set_option maxRecDepth 100000 in
theorem twice_hi (ao : Option Addr) (len cap b off : Nat) (z : List Int) (lo hi : Int) (w : World) (hz : InRow .i64 w ao len b off z) (hl : len ≤ 300) (hlh : lo < hi) :
    Calls Try.prog 8 #[.slice ao len cap, .int .i64 hi, .int .i64 lo] w (RetB (.bool true) w) := by
  have HZ := Lib.hid hz
  clear hz
  have hd300 : decide (300 < (len : Int)) = false := by simp; omega
  go_enter Try.func8, Try.ntmps8
  go_wp2_with fail
  with_reducible refine (filled35 ao len cap b off z false w HZ.out hl).mono ?_
  rintro e w1 ⟨s, q, g, hf, rfl⟩
  have F := Lib.hid hf
  clear hf
  go_wp2_with fail
  with_reducible refine (filled35 ao len cap b off z true w1 (HZ.out.below F.out.bel) hl).mono ?_
  rintro e w2 ⟨t, r, gt, hf, rfl⟩
  have T2 := Lib.hid (Two.start F.out hf)
  have hLl : (sortE (pairs z)).length = len := by rw [sortE_pairs_length, HZ.out.size]
  have HL := Lib.hid (show (sortE (pairs z)).length ≤ 300 by omega)
  clear hf F HZ hLl
  generalize sortE (pairs z) = S at T2 HL
  go_wp2_with fail
  with_reducible refine (edue_ok w2 s 300 S q g T2.out.a.obj lo).mono ?_
  rintro e w3 ⟨v1, g3, rfl, ho, hrow, hm, hf, hv⟩
  have T3 := Lib.hid (T2.out.step ho hm hf)
  have R3 := Lib.hid (RowX.due T2.out (dueN_le S lo) hrow hv)
  have HS1 := Lib.hid (due_twice S (a := lo) (b := hi) (by omega))
  have HN1 := Lib.hid (due_none S (a := lo) (b := lo) (by omega))
  have HN2 := Lib.hid (due_none S (a := lo) (b := hi) (by omega))
  clear ho hm hf hrow hv T2
  go_wp2_with fail
  with_reducible refine (edue_ok w3 s 300 _ q g3 T3.out.a.obj lo).mono ?_
  rintro e w4 ⟨v2, g4, rfl, ho, hrow, hm, hf, hv⟩
  rw [HN1.out] at ho hrow
  rw [List.drop_zero] at ho
  obtain ⟨o2, c2, rfl⟩ := owns_slice hrow
  have T4 := Lib.hid (T3.out.step ho hm hf)
  have R4 := Lib.hid (R3.out.step hm hf)
  clear ho hm hf hrow hv T3 R3
  go_wp2_with fail
  with_reducible refine (edue_ok w4 s 300 _ q g4 T4.out.a.obj hi).mono ?_
  rintro e w5 ⟨v3, g5, rfl, ho, hrow, hm, hf, hv⟩
  have T5 := T4.out.step ho hm hf
  have R5 := Lib.hid (R4.out.step hm hf)
  have Q5 := Lib.hid (RowX.due T4.out (dueN_le _ hi) hrow hv)
  rw [HS1.out.2] at T5
  have T5 := Lib.hid T5
  clear ho hm hf hrow hv T4 R4
  go_wp2_with fail
  with_reducible refine (edue_ok w5 s 300 _ q g5 T5.out.a.obj lo).mono ?_
  rintro e w6 ⟨v4, g6, rfl, ho, hrow, hm, hf, hv⟩
  rw [HN2.out] at ho hrow
  rw [List.drop_zero] at ho
  obtain ⟨o4, c4, rfl⟩ := owns_slice hrow
  have T6 := Lib.hid (T5.out.step ho hm hf)
  have R6 := Lib.hid (R5.out.step hm hf)
  have Q6 := Lib.hid (Q5.out.step hm hf)
  clear ho hm hf hrow hv T5 R5 Q5
  have hz1 : ((List.take (dueN S lo) S).map (·.1)).length ≤ 300 := by have := HL.out; simp; omega
  have hz3 : ((List.take (dueN (List.drop (dueN S lo) S) hi) (List.drop (dueN S lo) S)).map (·.1)).length ≤ 300 := by have := HL.out; simp; omega
  obtain ⟨yy, hyy⟩ : ∃ yy, yy = (List.take (dueN S hi) S).map (·.1) := ⟨_, rfl⟩
  have HEQ : Hid ((List.take (dueN S lo) S).map (·.1) ++ (List.take (dueN (List.drop (dueN S lo) S) hi) (List.drop (dueN S lo) S)).map (·.1) = yy) := by
    exact Lib.hid (by rw [← List.map_append, HS1.out.1, hyy])
  have HYY := Lib.hid hyy
  clear hyy
  clear HS1 HN1 HN2
  generalize (List.take (dueN S lo) S).map (·.1) = z1 at R6 hz1 HEQ
  generalize (List.take (dueN (List.drop (dueN S lo) S) hi) (List.drop (dueN S lo) S)).map (·.1) = z3 at Q6 hz3 HEQ
  have hb7 : Below w6.heap.size w6 (w6.alloc (.cells #[] 3)) := (Below.refl _ _).alloc (Nat.le_refl _) _
  have R7 := Lib.hid (R6.out.below hb7)
  have Q7 := Lib.hid (Q6.out.below hb7)
  have E7 := Lib.hid (owns_empty w6 3)
  have HB7 := Lib.hid hb7
  clear hb7 R6
  go_wp2_with (at_builtin; apply keepIt)
  apply Lib.hid
  refine wpList_appendR rfl 3 (.int .i64 0) 1 8 Try.underlying40 Try.infoInt rfl (by decide) _ 0 [] rfl E7.out _ z1.length _ rfl R7.out.own (one_ints _) (by unfold maxLen; omega) (by omega) ?_
  intro v5 w8 ho8 hg8 hk8
  have X8 : Hid (w8.ownsRow 0 3 1 v5 z1.length (z1.map fun x => .int .i64 x)) := by rw [Nat.zero_add, List.nil_append] at ho8; exact ho8
  have HB8 := Lib.hid (HB7.out.trans (grown_below hg8 (fun k hk => by cases hk; exact Nat.le_refl _) HB7.out.size))
  have HK8 : Hid (∀ k, v5.ownBlock = some k → w6.heap.size ≤ k) := fun k hk => by
    have := HB7.out.size
    rcases hk8 k hk with h1 | h1
    · cases h1; exact Nat.le_refl _
    · omega
  have Q8 := Lib.hid (Q6.out.below HB8.out)
  clear ho8 hg8 hk8 HB7 Q7 R7 E7
  go_wp2_with (at_builtin; apply keepIt)
  apply Lib.hid
  refine wpList_appendR rfl 3 (.int .i64 0) 1 8 Try.underlying40 Try.infoInt rfl (by decide) _ z1.length _ rfl X8.out _ z3.length _ rfl Q8.out.own (one_ints _) (by unfold maxLen; omega) (by omega) ?_
  intro v6 w9 ho9 hg9 hk9
  have HB9 := Lib.hid (HB8.out.trans (grown_below hg9 HK8.out HB8.out.size))
  have T9 := Lib.hid (T6.out.below HB9.out).swap
  have X9 : Hid (RowX w9 v6 ((List.take (dueN S hi) S).map (·.1)) gt g6) := by
    rw [← HYY.out, ← HEQ.out]
    have hK9 : ∀ k, v6.ownBlock = some k → w6.heap.size ≤ k := fun k hk => by
      have := HB8.out.size
      rcases hk9 k hk with h1 | h1
      · exact HK8.out k h1
      · omega
    refine ⟨by rw [List.length_append, List.map_append]; exact ho9, fun k hk h1 => ?_, fun k hk h1 => ?_⟩
    · have h2 := hK9 k hk
      have h3 := T6.out.b.obj.lt k (.inl h1)
      omega
    · have h2 := hK9 k hk
      have h3 := T6.out.a.obj.lt k (.inl h1)
      omega
  have HYL : Hid (((List.take (dueN S hi) S).map (·.1)).length ≤ 1000000) := by have := HL.out; exact Lib.hid (by simp; omega)
  clear ho9 hg9 hk9 HB8 HK8 Q8 X8 Q6 HB9 T6 HEQ HYY hz1 hz3
  go_wp2_with fail
  with_reducible refine (edue_ok w9 t 300 S r gt T9.out.a.obj hi).mono ?_
  rintro e w10 ⟨v7, g10, rfl, ho, hrow, hm, hf, hv⟩
  have T10 := Lib.hid (T9.out.step ho hm hf)
  have R10 := Lib.hid (RowX.due T9.out (dueN_le S hi) hrow hv)
  have X10 := Lib.hid (X9.out.step hm hf)
  clear ho hm hf hrow hv T9 X9
  go_wp2_with fail
  with_reducible refine (same35 w10 v6 v7 _ _ X10.out.sl R10.out.sl HYL.out HYL.out).mono ?_
  rintro e w11 ⟨rfl, hb11⟩
  have T11 := T10.out.below hb11
  have HD : Hid (∀ e l, S.drop (dueN S hi) = e :: l → hi < e.2) := fun e l h => due_head h
  have hsm : sameB ((List.take (dueN S hi) S).map (·.1)) ((List.take (dueN S hi) S).map (·.1)) = true := by simp [sameB]
  rw [hsm]
  clear hb11 T10 X10 R10 HYL hsm
  generalize S.drop (dueN S hi) = D at T11 HD
  have T11 := Lib.hid T11
  go_wp2_with fail
  with_reducible refine (elen_ok w11 s 300 D q g6 T11.out.b.obj).mono ?_
  rintro e w' ⟨rfl, rfl⟩
  go_wp2_with fail
  with_reducible refine (elen_ok w11 t 300 D r g10 T11.out.a.obj).mono ?_
  rintro e w' ⟨rfl, rfl⟩
  obtain ⟨e0, e1, p, hV, hp⟩ : ∃ e0 e1 p, headV D = .tuple #[.agg #[.int .i64 e0, .int .i64 e1], .bool p] ∧ (p = true → hi < e1) := by
    cases D with
    | nil => exact ⟨0, 0, false, rfl, fun h => by cases h⟩
    | cons e l => exact ⟨e.1, e.2, true, rfl, fun _ => HD.out e l rfl⟩
  have HV := Lib.hid hV
  clear hV
  go_wp2_with fail
  with_reducible refine (enext_any w11 s 300 D q g6 T11.out.b.obj).mono ?_
  rintro e w12 ⟨rfl, hb12⟩
  rw [HV.out]
  have T12 := T11.out.below hb12
  have T13 := Lib.hid (T12.below ((Below.refl _ _).alloc (Nat.le_refl _) (.cells #[.int .i64 e0, .int .i64 e1] 28)))
  have B13 := Blk.new w12 28 [.int .i64 e0, .int .i64 e1]
  have hx0 := B13.cell (i := 0) rfl
  have hx1 := B13.cell (i := 1) rfl
  clear hb12 T12 T11 B13
  go_wp2_with fail
  generalize w12.alloc (.cells #[.int .i64 e0, .int .i64 e1] 28) = W13 at *
  with_reducible refine (enext_any W13 t 300 D r g10 T13.out.a.obj).mono ?_
  rintro e w14 ⟨rfl, hb14⟩
  rw [HV.out]
  have T14 := T13.out.below hb14
  have T15 := Lib.hid (T14.below ((Below.refl _ _).alloc (Nat.le_refl _) (.cells #[.int .i64 e0, .int .i64 e1] 28)))
  have B15 := Blk.new w14 28 [.int .i64 e0, .int .i64 e1]
  have hy0 := B15.cell (i := 0) rfl
  have hy1 := B15.cell (i := 1) rfl
  have hx0' := (hb14.cell (World.block_lt_of_cell? W13 _ hx0)).trans hx0
  have hx1' := (hb14.cell (World.block_lt_of_cell? W13 _ hx1)).trans hx1
  have hlt : w12.heap.size < w14.heap.size := World.block_lt_of_cell? w14 _ hx0'
  clear hb14 T14 T13 hx0 hx1 B15 hy0 hy1
  cases p with
  | false =>
    go_wp2_with fail
    with_reducible refine (works35 _).mono ?_
    rintro e w16 ⟨rfl, hb16⟩
    have HB16 := Lib.hid (T15.out.a.bel.trans (hb16.mono T15.out.a.bel.size))
    clear hb16 T15
    go_wp2_with fail
    go_ret
    exact ⟨rfl, HB16.out⟩
  | true =>
    have t9 : decide (hi < e1) = true := decide_eq_true (hp rfl)
    clear hp
    go_wp2_with fail
    with_reducible refine (works35 _).mono ?_
    rintro e w16 ⟨rfl, hb16⟩
    have HB16 := Lib.hid (T15.out.a.bel.trans (hb16.mono T15.out.a.bel.size))
    clear hb16 T15
    go_wp2_with fail
    go_ret
    exact ⟨rfl, HB16.out⟩

set_option maxHeartbeats 8000000 in
set_option maxRecDepth 100000 in
theorem twice_eq (ao : Option Addr) (len cap b off : Nat) (z : List Int) (lo : Int) (w : World) (hz : InRow .i64 w ao len b off z) (hl : len ≤ 300) :
    Calls Try.prog 8 #[.slice ao len cap, .int .i64 lo, .int .i64 lo] w (RetB (.bool true) w) := by
  have HZ := Lib.hid hz
  clear hz
  have hd300 : decide (300 < (len : Int)) = false := by simp; omega
  go_enter Try.func8, Try.ntmps8
  go_wp2_with fail
  with_reducible refine (filled35 ao len cap b off z false w HZ.out hl).mono ?_
  rintro e w1 ⟨s, q, g, hf, rfl⟩
  have F := Lib.hid hf
  clear hf
  go_wp2_with fail
  with_reducible refine (filled35 ao len cap b off z true w1 (HZ.out.below F.out.bel) hl).mono ?_
  rintro e w2 ⟨t, r, gt, hf, rfl⟩
  have T2 := Lib.hid (Two.start F.out hf)
  have hLl : (sortE (pairs z)).length = len := by rw [sortE_pairs_length, HZ.out.size]
  have HL := Lib.hid (show (sortE (pairs z)).length ≤ 300 by omega)
  clear hf F HZ hLl
  generalize sortE (pairs z) = S at T2 HL
  go_wp2_with fail
  with_reducible refine (edue_ok w2 s 300 S q g T2.out.a.obj lo).mono ?_
  rintro e w3 ⟨v1, g3, rfl, ho, hrow, hm, hf, hv⟩
  have T3 := Lib.hid (T2.out.step ho hm hf)
  have R3 := Lib.hid (RowX.due T2.out (dueN_le S lo) hrow hv)
  have HS1 := Lib.hid (due_twice S (a := lo) (b := lo) (Int.le_refl _))
  have HN1 := Lib.hid (due_none S (a := lo) (b := lo) (Int.le_refl _))
  have HN2 := Lib.hid (due_none S (a := lo) (b := lo) (Int.le_refl _))
  clear ho hm hf hrow hv T2
  go_wp2_with fail
  with_reducible refine (edue_ok w3 s 300 _ q g3 T3.out.a.obj lo).mono ?_
  rintro e w4 ⟨v2, g4, rfl, ho, hrow, hm, hf, hv⟩
  rw [HN1.out] at ho hrow
  rw [List.drop_zero] at ho
  obtain ⟨o2, c2, rfl⟩ := owns_slice hrow
  have T4 := Lib.hid (T3.out.step ho hm hf)
  have R4 := Lib.hid (R3.out.step hm hf)
  clear ho hm hf hrow hv T3 R3
  go_wp2_with fail
  with_reducible refine (edue_ok w4 s 300 _ q g4 T4.out.a.obj lo).mono ?_
  rintro e w5 ⟨v3, g5, rfl, ho, hrow, hm, hf, hv⟩
  have T5 := T4.out.step ho hm hf
  have R5 := Lib.hid (R4.out.step hm hf)
  have Q5 := Lib.hid (RowX.due T4.out (dueN_le _ lo) hrow hv)
  rw [HS1.out.2] at T5
  have T5 := Lib.hid T5
  clear ho hm hf hrow hv T4 R4
  go_wp2_with fail
  with_reducible refine (edue_ok w5 s 300 _ q g5 T5.out.a.obj lo).mono ?_
  rintro e w6 ⟨v4, g6, rfl, ho, hrow, hm, hf, hv⟩
  rw [HN2.out] at ho hrow
  rw [List.drop_zero] at ho
  obtain ⟨o4, c4, rfl⟩ := owns_slice hrow
  have T6 := Lib.hid (T5.out.step ho hm hf)
  have R6 := Lib.hid (R5.out.step hm hf)
  have Q6 := Lib.hid (Q5.out.step hm hf)
  clear ho hm hf hrow hv T5 R5 Q5
  have hz1 : ((List.take (dueN S lo) S).map (·.1)).length ≤ 300 := by have := HL.out; simp; omega
  have hz3 : ((List.take (dueN (List.drop (dueN S lo) S) lo) (List.drop (dueN S lo) S)).map (·.1)).length ≤ 300 := by have := HL.out; simp; omega
  obtain ⟨yy, hyy⟩ : ∃ yy, yy = (List.take (dueN S lo) S).map (·.1) := ⟨_, rfl⟩
  have HEQ : Hid ((List.take (dueN S lo) S).map (·.1) ++ (List.take (dueN (List.drop (dueN S lo) S) lo) (List.drop (dueN S lo) S)).map (·.1) = yy) := by
    exact Lib.hid (by rw [← List.map_append, HS1.out.1, hyy])
  have HYY := Lib.hid hyy
  clear hyy
  clear HS1 HN1 HN2
  generalize (List.take (dueN S lo) S).map (·.1) = z1 at R6 hz1 HEQ
  generalize (List.take (dueN (List.drop (dueN S lo) S) lo) (List.drop (dueN S lo) S)).map (·.1) = z3 at Q6 hz3 HEQ
  have hb7 : Below w6.heap.size w6 (w6.alloc (.cells #[] 3)) := (Below.refl _ _).alloc (Nat.le_refl _) _
  have R7 := Lib.hid (R6.out.below hb7)
  have Q7 := Lib.hid (Q6.out.below hb7)
  have E7 := Lib.hid (owns_empty w6 3)
  have HB7 := Lib.hid hb7
  clear hb7 R6
  go_wp2_with (at_builtin; apply keepIt)
  apply Lib.hid
  refine wpList_appendR rfl 3 (.int .i64 0) 1 8 Try.underlying40 Try.infoInt rfl (by decide) _ 0 [] rfl E7.out _ z1.length _ rfl R7.out.own (one_ints _) (by unfold maxLen; omega) (by omega) ?_
  intro v5 w8 ho8 hg8 hk8
  have X8 : Hid (w8.ownsRow 0 3 1 v5 z1.length (z1.map fun x => .int .i64 x)) := by rw [Nat.zero_add, List.nil_append] at ho8; exact ho8
  have HB8 := Lib.hid (HB7.out.trans (grown_below hg8 (fun k hk => by cases hk; exact Nat.le_refl _) HB7.out.size))
  have HK8 : Hid (∀ k, v5.ownBlock = some k → w6.heap.size ≤ k) := fun k hk => by
    have := HB7.out.size
    rcases hk8 k hk with h1 | h1
    · cases h1; exact Nat.le_refl _
    · omega
  have Q8 := Lib.hid (Q6.out.below HB8.out)
  clear ho8 hg8 hk8 HB7 Q7 R7 E7
  go_wp2_with (at_builtin; apply keepIt)
  apply Lib.hid
  refine wpList_appendR rfl 3 (.int .i64 0) 1 8 Try.underlying40 Try.infoInt rfl (by decide) _ z1.length _ rfl X8.out _ z3.length _ rfl Q8.out.own (one_ints _) (by unfold maxLen; omega) (by omega) ?_
  intro v6 w9 ho9 hg9 hk9
  have HB9 := Lib.hid (HB8.out.trans (grown_below hg9 HK8.out HB8.out.size))
  have T9 := Lib.hid (T6.out.below HB9.out).swap
  have X9 : Hid (RowX w9 v6 ((List.take (dueN S lo) S).map (·.1)) gt g6) := by
    rw [← HYY.out, ← HEQ.out]
    have hK9 : ∀ k, v6.ownBlock = some k → w6.heap.size ≤ k := fun k hk => by
      have := HB8.out.size
      rcases hk9 k hk with h1 | h1
      · exact HK8.out k h1
      · omega
    refine ⟨by rw [List.length_append, List.map_append]; exact ho9, fun k hk h1 => ?_, fun k hk h1 => ?_⟩
    · have h2 := hK9 k hk
      have h3 := T6.out.b.obj.lt k (.inl h1)
      omega
    · have h2 := hK9 k hk
      have h3 := T6.out.a.obj.lt k (.inl h1)
      omega
  have HYL : Hid (((List.take (dueN S lo) S).map (·.1)).length ≤ 1000000) := by have := HL.out; exact Lib.hid (by simp; omega)
  clear ho9 hg9 hk9 HB8 HK8 Q8 X8 Q6 HB9 T6 HEQ HYY hz1 hz3
  go_wp2_with fail
  with_reducible refine (edue_ok w9 t 300 S r gt T9.out.a.obj lo).mono ?_
  rintro e w10 ⟨v7, g10, rfl, ho, hrow, hm, hf, hv⟩
  have T10 := Lib.hid (T9.out.step ho hm hf)
  have R10 := Lib.hid (RowX.due T9.out (dueN_le S lo) hrow hv)
  have X10 := Lib.hid (X9.out.step hm hf)
  clear ho hm hf hrow hv T9 X9
  go_wp2_with fail
  with_reducible refine (same35 w10 v6 v7 _ _ X10.out.sl R10.out.sl HYL.out HYL.out).mono ?_
  rintro e w11 ⟨rfl, hb11⟩
  have T11 := T10.out.below hb11
  have HD : Hid (∀ e l, S.drop (dueN S lo) = e :: l → lo < e.2) := fun e l h => due_head h
  have hsm : sameB ((List.take (dueN S lo) S).map (·.1)) ((List.take (dueN S lo) S).map (·.1)) = true := by simp [sameB]
  rw [hsm]
  clear hb11 T10 X10 R10 HYL hsm
  generalize S.drop (dueN S lo) = D at T11 HD
  have T11 := Lib.hid T11
  go_wp2_with fail
  with_reducible refine (elen_ok w11 s 300 D q g6 T11.out.b.obj).mono ?_
  rintro e w' ⟨rfl, rfl⟩
  go_wp2_with fail
  with_reducible refine (elen_ok w11 t 300 D r g10 T11.out.a.obj).mono ?_
  rintro e w' ⟨rfl, rfl⟩
  obtain ⟨e0, e1, p, hV, hp⟩ : ∃ e0 e1 p, headV D = .tuple #[.agg #[.int .i64 e0, .int .i64 e1], .bool p] ∧ (p = true → lo < e1) := by
    cases D with
    | nil => exact ⟨0, 0, false, rfl, fun h => by cases h⟩
    | cons e l => exact ⟨e.1, e.2, true, rfl, fun _ => HD.out e l rfl⟩
  have HV := Lib.hid hV
  clear hV
  go_wp2_with fail
  with_reducible refine (enext_any w11 s 300 D q g6 T11.out.b.obj).mono ?_
  rintro e w12 ⟨rfl, hb12⟩
  rw [HV.out]
  have T12 := T11.out.below hb12
  have T13 := Lib.hid (T12.below ((Below.refl _ _).alloc (Nat.le_refl _) (.cells #[.int .i64 e0, .int .i64 e1] 28)))
  have B13 := Blk.new w12 28 [.int .i64 e0, .int .i64 e1]
  have hx0 := B13.cell (i := 0) rfl
  have hx1 := B13.cell (i := 1) rfl
  clear hb12 T12 T11 B13
  go_wp2_with fail
  generalize w12.alloc (.cells #[.int .i64 e0, .int .i64 e1] 28) = W13 at *
  with_reducible refine (enext_any W13 t 300 D r g10 T13.out.a.obj).mono ?_
  rintro e w14 ⟨rfl, hb14⟩
  rw [HV.out]
  have T14 := T13.out.below hb14
  have T15 := Lib.hid (T14.below ((Below.refl _ _).alloc (Nat.le_refl _) (.cells #[.int .i64 e0, .int .i64 e1] 28)))
  have B15 := Blk.new w14 28 [.int .i64 e0, .int .i64 e1]
  have hy0 := B15.cell (i := 0) rfl
  have hy1 := B15.cell (i := 1) rfl
  have hx0' := (hb14.cell (World.block_lt_of_cell? W13 _ hx0)).trans hx0
  have hx1' := (hb14.cell (World.block_lt_of_cell? W13 _ hx1)).trans hx1
  have hlt : w12.heap.size < w14.heap.size := World.block_lt_of_cell? w14 _ hx0'
  clear hb14 T14 T13 hx0 hx1 B15 hy0 hy1
  cases p with
  | false =>
    go_wp2_with fail
    with_reducible refine (works35 _).mono ?_
    rintro e w16 ⟨rfl, hb16⟩
    have HB16 := Lib.hid (T15.out.a.bel.trans (hb16.mono T15.out.a.bel.size))
    clear hb16 T15
    go_wp2_with fail
    go_ret
    exact ⟨rfl, HB16.out⟩
  | true =>
    have t9 : decide (lo < e1) = true := decide_eq_true (hp rfl)
    clear hp
    go_wp2_with fail
    with_reducible refine (works35 _).mono ?_
    rintro e w16 ⟨rfl, hb16⟩
    have HB16 := Lib.hid (T15.out.a.bel.trans (hb16.mono T15.out.a.bel.size))
    clear hb16 T15
    go_wp2_with fail
    go_ret
    exact ⟨rfl, HB16.out⟩

end Go.Proofs.Ytebclbpibafkdaa
