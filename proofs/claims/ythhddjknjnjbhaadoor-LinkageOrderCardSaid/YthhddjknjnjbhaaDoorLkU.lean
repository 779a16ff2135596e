/- linkage: merged, Labels. -/
import Derived.Test.YthhddjknjnjbhaaDoorLkS
import Derived.Test.YthhddjknjnjbhaaDoorLkG
namespace Go.Proofs.YthhddjknjnjbhaaDoor
set_option linter.unusedVariables false
set_option linter.unusedSimpArgs false
open Go.RowKit

def ident (n : Nat) : List Int := (List.range n).map fun i : Nat => (i : Int)
def szOf (now : List Int) : List Int := (List.range 128).map fun i : Nat => (now.count (i : Int) : Int)
def relab (A B : Int) (now : List Int) : List Int := now.map fun y => if y = B then A else y
def relabTo (A B : Int) (now : List Int) (x : Nat) : List Int := relab A B (now.take x) ++ now.drop x

def mbad (n : Nat) (now : List Int) (x : Mg) : Prop := x.A < 0 ∨ x.B ≤ x.A ∨ (n : Int) ≤ x.B ∨ now.count x.A = 0 ∨ now.count x.B = 0 ∨ x.S ≠ (now.count x.A : Int) + (now.count x.B : Int)
instance (n : Nat) (now : List Int) (x : Mg) : Decidable (mbad n now x) := by unfold mbad; infer_instance
def mstep (n : Nat) (now : List Int) (x : Mg) : Option (List Int) := if mbad n now x then none else some (relab x.A x.B now)
def mrunTo (n : Nat) (ms : List Mg) : Nat → Option (List Int)
  | 0 => some (ident n)
  | k + 1 => (mrunTo n ms k).bind fun now => mstep n now (ms.getD k mg0)

theorem mrunTo_none {n : Nat} {ms : List Mg} {k : Nat} (h : mrunTo n ms k = none) : ∀ j, mrunTo n ms (k + j) = none
  | 0 => h
  | j + 1 => by rw [← Nat.add_assoc, mrunTo, mrunTo_none h j]; rfl

theorem mrunTo_take {n : Nat} {ms : List Mg} {c : Nat} : ∀ k, k ≤ c → mrunTo n (ms.take c) k = mrunTo n ms k
  | 0, _ => rfl
  | k + 1, h => by
    rw [mrunTo, mrunTo, mrunTo_take k (by omega)]
    have : (ms.take c).getD k mg0 = ms.getD k mg0 := by
      rw [List.getD_eq_getElem?_getD, List.getD_eq_getElem?_getD, List.getElem?_take, if_pos (by omega)]
    rw [this]

theorem relab_length (A B : Int) (now : List Int) : (relab A B now).length = now.length := by simp [relab]

theorem mrunTo_length {n : Nat} {ms : List Mg} : ∀ {k : Nat} {now : List Int}, mrunTo n ms k = some now → now.length = n
  | 0, now, h => by injection h with h; rw [← h]; simp [ident]
  | k + 1, now, h => by
    rw [mrunTo] at h
    obtain ⟨prev, h1, h2⟩ := Option.bind_eq_some_iff.1 h
    unfold mstep at h2
    split at h2
    · cases h2
    · injection h2 with h2
      rw [← h2, relab_length]
      exact mrunTo_length h1

theorem count_relab {a b : Int} (hab : a ≠ b) (i : Int) (now : List Int) : (relab a b now).count i = if i = b then 0 else if i = a then now.count a + now.count b else now.count i := by
  induction now with
  | nil => simp [relab]
  | cons y l ih =>
    have e : relab a b (y :: l) = (if y = b then a else y) :: relab a b l := rfl
    rw [e, List.count_cons, ih, List.count_cons, List.count_cons, List.count_cons]
    by_cases hy : y = b
    · subst hy
      by_cases hi : i = y
      · subst hi; simp [hab]
      · by_cases hia : i = a
        · subst hia; simp [hi, Ne.symm hi]; omega
        · simp [hi, hia, Ne.symm hi, Ne.symm hia]
    · by_cases hi : i = b
      · subst hi; simp [hy]
      · by_cases hia : i = a
        · subst hia; simp [hi, hy]; omega
        · simp [hi, hia, hy]

theorem szOf_length (now : List Int) : (szOf now).length = 128 := by simp [szOf]

theorem szOf_get {now : List Int} {i : Nat} (h : i < 128) : (szOf now)[i]? = some (now.count (i : Int) : Int) := by
  simp [szOf, List.getElem?_range h]

theorem szOf_getD {now : List Int} {i : Nat} (h : i < 128) : (szOf now).getD i 0 = (now.count (i : Int) : Int) := by
  rw [List.getD_eq_getElem?_getD, szOf_get h]; rfl

theorem szOf_step {now : List Int} {a b : Nat} (ha : a < 128) (hb : b < 128) (hab : a ≠ b) : ((szOf now).set a ((now.count (a : Int) : Int) + (now.count (b : Int) : Int))).set b 0 = szOf (relab a b now) := by
  apply List.ext_getElem?
  intro i
  by_cases hi : i < 128
  · rw [szOf_get hi, count_relab (by omega)]
    by_cases e1 : i = b
    · subst e1
      rw [List.getElem?_set_self (by simp [szOf_length]; omega), if_pos rfl]; rfl
    · rw [List.getElem?_set_ne (by omega), if_neg (by omega)]
      by_cases e2 : i = a
      · subst e2
        rw [List.getElem?_set_self (by simp [szOf_length]; omega), if_pos rfl]; simp
      · rw [List.getElem?_set_ne (by omega), if_neg (by omega), szOf_get hi]
  · rw [List.getElem?_eq_none (by simp [szOf_length]; omega), List.getElem?_eq_none (by simp [szOf_length]; omega)]

theorem count_ident (i n : Nat) : (ident n).count (i : Int) = if i < n then 1 else 0 := by
  induction n with
  | zero => simp [ident]
  | succ n ih =>
    have e : ident (n + 1) = ident n ++ [(n : Int)] := by simp [ident, List.range_succ]
    rw [e, List.count_append, ih, List.count_singleton]
    by_cases h : i = n
    · subst h; simp
    · have h2 : ((n : Int) == (i : Int)) = false := by simp; omega
      by_cases h3 : i < n
      · simp [h3, h2, show i < n + 1 by omega]
      · have h4 : ¬ i < n + 1 := by omega
        simp [h3, h2, h4]

theorem szOf_ident {n : Nat} (hn : n ≤ 128) : szOf (ident n) = onesTo n := by
  apply List.ext_getElem?
  intro i
  by_cases hi : i < 128
  · rw [szOf_get hi, count_ident]
    unfold onesTo
    by_cases h : i < n
    · rw [List.getElem?_append_left (by simp; omega), if_pos h]; simp [h]
    · rw [List.getElem?_append_right (by simp; omega), if_neg h]; simp [List.getElem?_replicate]; omega
  · rw [List.getElem?_eq_none (by simp [szOf_length]; omega), List.getElem?_eq_none (by simp [onesTo]; omega)]

def identTo (n k : Nat) : List Int := (List.range k).map (fun i : Nat => (i : Int)) ++ List.replicate (n - k) 0

theorem identTo_step {n k : Nat} (h : k < n) : (identTo n k).set k (k : Int) = identTo n (k + 1) := by
  unfold identTo
  rw [List.set_append_right _ _ (by simp), show k - ((List.range k).map (fun i : Nat => (i : Int))).length = 0 by simp, show n - k = (n - (k + 1)) + 1 by omega, List.replicate_succ, List.set_cons_zero, List.range_succ, List.map_append, List.append_assoc]
  rfl

theorem identTo_end (n : Nat) : identTo n n = ident n := by simp [identTo, ident]

theorem onesTo_step' {k : Nat} (hk : k < 128) : (onesTo k).set k 1 = onesTo (k + 1) := by
  unfold onesTo
  rw [List.set_append_right _ _ (by simp), List.length_replicate, Nat.sub_self, show 128 - k = (128 - (k + 1)) + 1 by omega, List.replicate_succ, List.set_cons_zero, List.replicate_succ', List.append_assoc]
  rfl

theorem relabTo_length (A B : Int) (now : List Int) {x : Nat} (h : x ≤ now.length) : (relabTo A B now x).length = now.length := by
  simp [relabTo, relab]; omega

theorem relabTo_at (A B : Int) {now : List Int} {x : Nat} (h : x < now.length) : (relabTo A B now x)[x]? = now[x]? := by
  unfold relabTo
  rw [List.getElem?_append_right (by simp [relab]; omega)]
  simp [relab, Nat.min_eq_left (Nat.le_of_lt h)]

theorem relabTo_step (A B : Int) {now : List Int} {x : Nat} (h : x < now.length) : relabTo A B now (x + 1) = if now.getD x 0 = B then (relabTo A B now x).set x A else relabTo A B now x := by
  unfold relabTo
  have e1 : now.take (x + 1) = now.take x ++ [now[x]] := List.take_succ_eq_append_getElem h
  have e2 : now.drop x = now[x] :: now.drop (x + 1) := List.drop_eq_getElem_cons h
  have e3 : now.getD x 0 = now[x] := by rw [List.getD_eq_getElem?_getD, List.getElem?_eq_getElem h]; rfl
  have e4 : relab A B (now.take x ++ [now[x]]) = relab A B (now.take x) ++ [if now[x] = B then A else now[x]] := by simp only [relab, List.map_append, List.map_cons, List.map_nil]
  have e5 : (relab A B (now.take x)).length = x := by simp [relab]; omega
  rw [e1, e2, e3, e4, List.append_assoc]
  split
  · rw [List.set_append_right _ _ (by omega), e5, Nat.sub_self, List.set_cons_zero]; rfl
  · rfl

theorem relabTo_end (A B : Int) (now : List Int) : relabTo A B now now.length = relab A B now := by simp [relabTo]

theorem map_set_int (l : List Int) (i : Nat) (x : Int) : (l.map fun y => Value.int .i64 y).set i (.int .i64 x) = (l.set i x).map fun y => Value.int .i64 y := by rw [List.map_set]

theorem blk_set_int {w : World} {b : Nat} {T : TypeId} {l : List Int} (h : Blk w b T (l.map fun y => .int .i64 y)) (i : Nat) (x : Int) : Blk (w.setCell ⟨b, i, none⟩ (.int .i64 x)) b T ((l.set i x).map fun y => .int .i64 y) := by
  rw [← map_set_int]; exact h.set i _

theorem blk_int {w : World} {b : Nat} {T : TypeId} {l : List Int} (h : Blk w b T (l.map fun y => .int .i64 y)) {i : Nat} (hi : i < l.length) : w.cell? ⟨b, i, none⟩ = some (.int .i64 (l.getD i 0)) :=
  h.cell (by simp [hi])

/-- What merged returns. -/
structure MgPost (n : Nat) (r : Option (List Int)) (w : World) (e : Ending) (w' : World) : Prop where
  no : r = none → e = .returned (.tuple #[.slice none 0 0, .bool false])
  yes : ∀ now, r = some now → ∃ b, e = .returned (.tuple #[.slice (some ⟨b, 0, none⟩) n n, .bool true]) ∧ Blk w' b 3 (now.map fun y => .int .i64 y) ∧ w.heap.size ≤ b
  bel : Below w.heap.size w w'

theorem Tryd.infoInt : (Tryd.prog.info? 3).map (fun i => (i.zero, i.size, i.bytes)) = some (some (.int .i64 0), 1, 8) := by kernel_rfl
theorem Tryd.zero128 : (Tryd.prog.info? 62).bind (·.zero) = some (.agg (List.replicate 128 (.int .i64 0)).toArray) := by kernel_rfl

set_option maxHeartbeats 8000000 in
set_option maxRecDepth 100000 in
theorem merged_ok (w : World) (n : Nat) (hn : n ≤ 128) (ao : Option Addr) (len cap b off : Nat) (ms : List Mg) (hr : MRow w ao len b off ms) (hl : len ≤ 1000000000) (hS : ∀ x ∈ ms, I64 x.A ∧ I64 x.B ∧ I64 x.S) :
    Calls Tryd.prog 25 #[.int .i64 n, .slice ao len cap] w (MgPost n (mrunTo n ms len) w) := by
  have HR := Lib.hid hr
  have HS := Lib.hid hS
  have HBW : Hid (0 < len → b < w.heap.size) := fun h => hr.lt h
  clear hr hS
  go_enter Tryd.func25, Tryd.ntmps25
  go_wp2_with (first | (at_make; refine wpList_makeB 3 (.int .i64 0) 8 Tryd.underlying31 Tryd.infoInt rfl _ _ _ _ n rfl rfl rfl rfl (by omega) (by unfold maxLen; omega) ?_; intro w1 B1 hb1) | (with_reducible refine wpList_allocB _ Tryd.zero128 ?_; intro w2 B2 hb2))
  have HL0 : Hid (Blk w2 w.heap.size 3 ((identTo n 0).map fun y => .int .i64 y) ∧ Blk w2 w1.heap.size 62 ((onesTo 0).map fun y => .int .i64 y) ∧ Below w.heap.size w w2) := by
    refine ⟨?_, ?_, hb1.trans (hb2.mono hb1.size)⟩
    · have := B1.below hb2 B1.lt
      simpa [identTo] using this
    · have e : (onesTo 0).map (fun y => Value.int .i64 y) = List.replicate 128 (.int .i64 0) := by simp [onesTo]
      rw [e]; exact B2
  have hne : ¬ (w1.heap.size = w.heap.size) := by have := B1.lt; omega
  have hne' : ¬ (w.heap.size = w1.heap.size) := fun e => hne e.symm
  have HSB : Hid (w.heap.size < w1.heap.size) := B1.lt
  generalize w1.heap.size = sb at *
  clear B1 B2 hb1 hb2
  go_loopw [19] (fun s wr => ∃ k : Nat, k ≤ n ∧ s = .int .i64 k ∧ Blk wr w.heap.size 3 ((identTo n k).map fun y => .int .i64 y) ∧ Blk wr sb 62 ((onesTo k).map fun y => .int .i64 y) ∧ Below w.heap.size w wr) (fun s _ => n - (intOf s).toNat)
  case atStart => exact ⟨0, Nat.zero_le _, rfl, HL0.out⟩
  case round =>
    obtain ⟨k, hk, rfl, b1, b2, hbl⟩ := hrel
    have HB1 := Lib.hid b1
    have HB2 := Lib.hid b2
    have HBL := Lib.hid hbl
    clear b1 b2 hbl
    by_cases hkn : k < n
    · have c1 := blk_int HB1.out (i := k) (by simp [identTo]; omega)
      have c2 := blk_int HB2.out (i := k) (by simp [onesTo]; omega)
      have f1 := HB1.out.free k
      have f2 := HB2.out.free k
      have t1 : (k : Int) < (n : Int) := by omega
      have t2 : (k : Int) < 128 := by omega
      generalize (identTo n k).getD k 0 = x1 at c1
      generalize (onesTo k).getD k 0 = x2 at c2
      go_wp2_with fail
      go_roundw
      case rel =>
        refine ⟨k + 1, by omega, by go_num, ?_, ?_, ?_⟩
        · rw [← identTo_step hkn]
          exact (blk_set_int HB1.out k k).other _ _ (by simpa using hne')
        · rw [← onesTo_step' (by omega)]
          exact blk_set_int (HB2.out.other _ _ (by simpa using hne)) k 1
        · exact HBL.out.trans (Mod.below (F := fun x => x = w.heap.size ∨ x = sb) (((Mod.refl _ _).setCell ⟨w.heap.size, k, none⟩ (fun _ => .inl rfl) _).setCell ⟨sb, k, none⟩ (fun _ => .inr rfl) _) HBL.out.size (fun x hx => by have h1 := HSB.out; rcases hx with e | e <;> omega))
      case measure => simp [intOf]; omega
    · obtain rfl : n = k := by omega
      go_wp2_with fail
      clear HL0
      obtain ⟨wq, rfl⟩ : ∃ wq : World, wq = wr := ⟨_, rfl⟩
      go_loopw [31] (fun s wr => ∃ k : Nat, k ≤ len ∧ s = .int .i64 k ∧ ∃ now, mrunTo n ms k = some now ∧ Blk wr w.heap.size 3 (now.map fun y => .int .i64 y) ∧ Blk wr sb 62 ((szOf now).map fun y => .int .i64 y) ∧ Below w.heap.size w wr) (fun s _ => len - (intOf s).toNat)
      case atStart => exact ⟨0, Nat.zero_le _, rfl, ident n, rfl, by rw [← identTo_end]; exact HB1.out, by rw [szOf_ident hn]; exact HB2.out, HBL.out⟩
      case round =>
        clear HB1 HB2 HBL
        obtain ⟨k, hk, rfl, now, hnow, b1, b2, hbl⟩ := hrel
        have HNOW := Lib.hid hnow
        have HB1 := Lib.hid b1
        have HB2 := Lib.hid b2
        have HBL := Lib.hid hbl
        have HLN := Lib.hid (mrunTo_length hnow)
        clear b1 b2 hbl hnow
        by_cases hkl : k < len
        · obtain rfl := HR.out.adr (by omega)
          have hbw := HBW.out (by omega)
          obtain ⟨m0, m1, m2, m3, m4⟩ := HR.out.cell k hkl
          have p0 := (HBL.out.cell (p := ⟨b, off + k * 5, none⟩) hbw).trans m0
          have p1 := (HBL.out.cell (p := ⟨b, off + k * 5 + 1, none⟩) hbw).trans m1
          have p2 := (HBL.out.cell (p := ⟨b, off + k * 5 + 2, none⟩) hbw).trans m2
          have p3 := (HBL.out.cell (p := ⟨b, off + k * 5 + 3, none⟩) hbw).trans m3
          have p4 := (HBL.out.cell (p := ⟨b, off + k * 5 + 4, none⟩) hbw).trans m4
          have HST : Hid (mrunTo n ms (k + 1) = mstep n now (ms.getD k mg0)) := by show _ = _; rw [mrunTo, HNOW.out]; rfl
          have hxi := HS.out (ms.getD k mg0) (by rw [List.getD_eq_getElem?_getD, List.getElem?_eq_getElem (by rw [HR.out.size]; exact hkl)]; exact List.getElem_mem _)
          generalize ms.getD k mg0 = x at p0 p1 p2 p3 p4 hxi HST
          obtain ⟨A, B, N, D, Z⟩ := x
          dsimp only at p0 p1 p2 p3 p4 hxi
          unfold I64 at hxi
          clear m0 m1 m2 m3 m4
          have HBAD : Hid (mbad n now ⟨A, B, N, D, Z⟩ → mrunTo n ms len = none) := fun hb => by
            have h1 : mrunTo n ms (k + 1) = none := by rw [HST.out]; unfold mstep; rw [if_pos hb]
            have := mrunTo_none h1 (len - (k + 1))
            rwa [show k + 1 + (len - (k + 1)) = len by omega] at this
          have t0 : (k : Int) < (len : Int) := by omega
          have HAL : Hid (Below wr.heap.size wr (wr.alloc (.cells #[.int .i64 A, .int .i64 B, .int .i64 N, .int .i64 D, .int .i64 Z] 35))) := (Below.refl _ _).alloc (Nat.le_refl _) _
          have HBX := Lib.hid (Blk.new wr 35 [.int .i64 A, .int .i64 B, .int .i64 N, .int .i64 D, .int .i64 Z])
          go_wp2_with fail
          have HX1 := Lib.hid (HB1.out.below HAL.out HB1.out.lt)
          have HX2 := Lib.hid (HB2.out.below HAL.out HB2.out.lt)
          have HBELX := Lib.hid (HBL.out.trans (HAL.out.mono HBL.out.size))
          have hst1 : ¬ (wr.heap.size = w.heap.size) := by have := HB1.out.lt; omega
          have hst2 : ¬ (wr.heap.size = sb) := by have := HB2.out.lt; omega
          generalize hw4 : World.alloc wr _ = w4 at *
          generalize wr.heap.size = st at *
          clear hw4 p0 p1 p2 p3 p4 HAL HB1 HB2 HBL t0
          have q0 := HBX.out.cell (i := 0) rfl
          have q1 := HBX.out.cell (i := 1) rfl
          go_quiet (fail)
          go_wp2_with fail
          have HX5 : Hid (Blk (w4.drewN nq) w.heap.size 3 (now.map fun y => .int .i64 y) ∧ Blk (w4.drewN nq) sb 62 ((szOf now).map fun y => .int .i64 y) ∧ Below w.heap.size w (w4.drewN nq) ∧ Blk (w4.drewN nq) st 35 [.int .i64 A, .int .i64 B, .int .i64 N, .int .i64 D, .int .i64 Z]) :=
            ⟨HX1.out.drewN _, HX2.out.drewN _, bel_drewN HBELX.out _, HBX.out.drewN _⟩
          generalize w4.drewN nq = w5 at *
          clear q0 q1 HX1 HX2 HBX HBELX
          by_cases h1 : A < 0
          · have t1 : decide (A < 0) = true := by simp [h1]
            have H1 := Lib.hid h1
            clear h1
            go_quiet (fail)
            go_wp2_with fail
            go_ret2
            exact ⟨fun _ => rfl, (fun now' h => by rw [HBAD.out (.inl H1.out)] at h; cases h), bel_drewN HX5.out.2.2.1 _⟩
          · have t1 : decide (A < 0) = false := by simp; omega
            obtain ⟨a, rfl⟩ := Int.eq_ofNat_of_zero_le (show 0 ≤ A by omega)
            by_cases h2 : B ≤ (a : Int)
            · have t2 : decide (B ≤ (a : Int)) = true := by simp [h2]
              have H2 := Lib.hid h2
              clear h1 h2
              go_quiet (fail)
              go_wp2_with fail
              go_ret2
              exact ⟨fun _ => rfl, (fun now' h => by rw [HBAD.out (.inr (.inl H2.out))] at h; cases h), bel_drewN HX5.out.2.2.1 _⟩
            · obtain ⟨bb, rfl⟩ := Int.eq_ofNat_of_zero_le (show 0 ≤ B by omega)
              have t2 : decide (bb ≤ a) = false := by simp; omega
              by_cases h3 : n ≤ bb
              · have t3 : decide (n ≤ bb) = true := by simp [h3]
                have H3 := Lib.hid h3
                clear h1 h2 h3
                go_quiet (fail)
                go_wp2_with fail
                go_ret2
                exact ⟨fun _ => rfl, (fun now' h => by rw [HBAD.out (.inr (.inr (.inl (by have := H3.out; simp; omega))))] at h; cases h), bel_drewN HX5.out.2.2.1 _⟩
              · have t3 : decide (n ≤ bb) = false := by simp; omega
                have hab : a < bb := by omega
                have hbn : bb < n := by omega
                clear h1 h2 h3
                have i1 : (a : Int) < 128 := by omega
                have i2 : (bb : Int) < 128 := by omega
                have s1 := blk_int HX5.out.2.1 (i := a) (by rw [szOf_length]; omega)
                have s2 := blk_int HX5.out.2.1 (i := bb) (by rw [szOf_length]; omega)
                rw [szOf_getD (by omega)] at s1 s2
                have l1 : now.count (a : Int) ≤ 128 := Nat.le_trans (List.count_le_length) (by rw [HLN.out]; exact hn)
                have l2 : now.count (bb : Int) ≤ 128 := Nat.le_trans (List.count_le_length) (by rw [HLN.out]; exact hn)
                obtain ⟨ca, HCA⟩ : ∃ ca, Hid (now.count (a : Int) = ca) := ⟨_, rfl⟩
                obtain ⟨cb, HCB⟩ : ∃ cb, Hid (now.count (bb : Int) = cb) := ⟨_, rfl⟩
                rw [HCA.out] at s1 l1
                rw [HCB.out] at s2 l2
                by_cases h4 : ca = 0
                · have t4 : ((ca : Int) == 0) = true := by simp [h4]
                  have H4 := Lib.hid h4
                  clear h4
                  go_quiet (fail)
                  go_wp2_with fail
                  go_ret2
                  exact ⟨fun _ => rfl, (fun now' h => by rw [HBAD.out (.inr (.inr (.inr (.inl (HCA.out.trans H4.out)))))] at h; cases h), bel_drewN HX5.out.2.2.1 _⟩
                · have t4 : ((ca : Int) == 0) = false := by simp; omega
                  by_cases h5 : cb = 0
                  · have t5 : ((cb : Int) == 0) = true := by simp [h5]
                    have H5 := Lib.hid h5
                    clear h5
                    go_quiet (fail)
                    go_wp2_with fail
                    go_ret2
                    exact ⟨fun _ => rfl, (fun now' h => by rw [HBAD.out (.inr (.inr (.inr (.inr (.inl (HCB.out.trans H5.out))))))] at h; cases h), bel_drewN HX5.out.2.2.1 _⟩
                  · have t5 : ((cb : Int) == 0) = false := by simp; omega
                    have q3 := HX5.out.2.2.2.cell (i := 4) rfl
                    by_cases h6 : Z = (ca : Int) + (cb : Int)
                    · have t6 : (Z != (ca : Int) + (cb : Int)) = false := by simp [h6]
                      have H6 := Lib.hid h6
                      clear h6
                      have HGOOD : Hid (mrunTo n ms (k + 1) = some (relab a bb now)) := by
                        show _ = _
                        rw [HST.out]
                        unfold mstep
                        rw [if_neg]
                        unfold mbad
                        simp only [HCA.out, HCB.out]
                        have h6 := H6.out
                        omega
                      go_quiet (fail)
                      have HX6 : Hid (Blk (w5.drewN nq) w.heap.size 3 (now.map fun y => .int .i64 y) ∧ Blk (w5.drewN nq) sb 62 ((szOf now).map fun y => .int .i64 y) ∧ Below w.heap.size w (w5.drewN nq) ∧ Blk (w5.drewN nq) st 35 [.int .i64 a, .int .i64 bb, .int .i64 N, .int .i64 D, .int .i64 Z]) :=
                        ⟨HX5.out.1.drewN _, HX5.out.2.1.drewN _, bel_drewN HX5.out.2.2.1 _, HX5.out.2.2.2.drewN _⟩
                      generalize w5.drewN nq = w6 at *
                      clear s1 s2 q3 HX5 t1 t2 t3 t4 t5 t6
                      have s1 := blk_int HX6.out.2.1 (i := a) (by rw [szOf_length]; omega)
                      have s2 := blk_int HX6.out.2.1 (i := bb) (by rw [szOf_length]; omega)
                      have f1 := HX6.out.2.1.free a
                      have f2 := HX6.out.2.1.free bb
                      have q3 := HX6.out.2.2.2.cell (i := 4) rfl
                      have nab : ¬ (bb = a) := by omega
                      have nab' : ¬ (a = bb) := by omega
                      generalize (szOf now).getD a 0 = x1 at s1
                      generalize (szOf now).getD bb 0 = x2 at s2
                      have HY : Hid (Blk ((w6.setCell ⟨sb, a, none⟩ (.int .i64 Z)).setCell ⟨sb, bb, none⟩ (.int .i64 0)) w.heap.size 3 ((relabTo a bb now 0).map fun y => .int .i64 y) ∧ Blk ((w6.setCell ⟨sb, a, none⟩ (.int .i64 Z)).setCell ⟨sb, bb, none⟩ (.int .i64 0)) sb 62 ((szOf (relab a bb now)).map fun y => .int .i64 y) ∧ Below w.heap.size w ((w6.setCell ⟨sb, a, none⟩ (.int .i64 Z)).setCell ⟨sb, bb, none⟩ (.int .i64 0))) := by
                        refine ⟨?_, ?_, ?_⟩
                        · exact (HX6.out.1.other _ _ (by simpa using hne')).other _ _ (by simpa using hne')
                        · rw [← szOf_step (by omega) (by omega) (by omega)]
                          have e : Z = (now.count (a : Int) : Int) + (now.count (bb : Int) : Int) := by rw [HCA.out, HCB.out]; exact H6.out
                          rw [← e]
                          exact blk_set_int (blk_set_int HX6.out.2.1 a Z) bb 0
                        · exact HX6.out.2.2.1.trans (Mod.below (F := fun x => x = sb) (((Mod.refl (fun x => x = sb) _).setCell ⟨sb, a, none⟩ (fun _ => rfl) _).setCell ⟨sb, bb, none⟩ (fun _ => rfl) _) HX6.out.2.2.1.size (fun x hx => by have h1 := HSB.out; have h2 : x = sb := hx; omega))
                      go_wp2_with fail
                      generalize (w6.setCell ⟨sb, a, none⟩ (.int .i64 Z)).setCell ⟨sb, bb, none⟩ (.int .i64 0) = w7 at *
                      clear s1 s2 f1 f2 q3 HX6
                      obtain ⟨wq, rfl⟩ : ∃ wq : World, wq = wr := ⟨_, rfl⟩
                      go_loopw [83] (fun s wr => ∃ x : Nat, x ≤ n ∧ s = .int .i64 x ∧ Blk wr w.heap.size 3 ((relabTo a bb now x).map fun y => .int .i64 y) ∧ Blk wr sb 62 ((szOf (relab a bb now)).map fun y => .int .i64 y) ∧ Below w.heap.size w wr) (fun s _ => n - (intOf s).toNat)
                      case atStart => exact ⟨0, Nat.zero_le _, rfl, HY.out⟩
                      case round =>
                        obtain ⟨x, hx, rfl, b1, b2, hbl⟩ := hrel
                        have HB1 := Lib.hid b1
                        have HB2 := Lib.hid b2
                        have HBL := Lib.hid hbl
                        clear b1 b2 hbl HY
                        by_cases hxn : x < n
                        · have hxl : x < now.length := by rw [HLN.out]; exact hxn
                          have c1 := HB1.out.cell (i := x) (v := .int .i64 (now.getD x 0)) (by rw [List.getElem?_map, relabTo_at _ _ hxl, List.getD_eq_getElem?_getD, List.getElem?_eq_getElem hxl]; rfl)
                          have f1 := HB1.out.free x
                          have t7 : (x : Int) < (n : Int) := by omega
                          obtain ⟨y, HYX⟩ : ∃ y, Hid (now.getD x 0 = y) := ⟨_, rfl⟩
                          rw [HYX.out] at c1
                          by_cases hy : y = (bb : Int)
                          · have t8 : (y == (bb : Int)) = true := by simp [hy]
                            have HYY := Lib.hid hy
                            clear hy
                            go_wp2_with fail
                            go_roundw
                            case rel =>
                              refine ⟨x + 1, by omega, by go_num, ?_, HB2.out.other _ _ (by simpa using hne), ?_⟩
                              · rw [relabTo_step _ _ hxl, if_pos (HYX.out.trans HYY.out)]
                                exact blk_set_int HB1.out x a
                              · exact HBL.out.trans (Mod.below (F := fun k => k = w.heap.size) ((Mod.refl (fun k => k = w.heap.size) _).setCell ⟨w.heap.size, x, none⟩ (fun _ => rfl) _) HBL.out.size (fun k hk => by have h2 : k = w.heap.size := hk; omega))
                            case measure => simp [intOf]; omega
                          · have t8 : (y == (bb : Int)) = false := by simp [hy]
                            have HYY := Lib.hid hy
                            clear hy
                            go_wp2_with fail
                            go_roundw
                            case rel =>
                              refine ⟨x + 1, by omega, by go_num, ?_, HB2.out, HBL.out⟩
                              rw [relabTo_step _ _ hxl, if_neg (by rw [HYX.out]; exact HYY.out)]
                              exact HB1.out
                            case measure => simp [intOf]; omega
                        · obtain rfl : n = x := by omega
                          have HE : Hid (relabTo a bb now n = relab a bb now) := by
                            show _ = _
                            have := relabTo_end (a : Int) (bb : Int) now
                            rw [HLN.out] at this
                            exact this
                          go_wp2_with fail
                          go_roundw
                          case rel => exact ⟨k + 1, by omega, by go_num, _, HGOOD.out, by rw [← HE.out]; exact HB1.out, HB2.out, HBL.out⟩
                          case measure => simp [intOf]; omega
                    · have t6 : (Z != (ca : Int) + (cb : Int)) = true := by simp [h6]
                      have H6 := Lib.hid h6
                      clear h6
                      go_quiet (fail)
                      go_wp2_with fail
                      go_ret2
                      exact ⟨fun _ => rfl, (fun now' h => by rw [HBAD.out (.inr (.inr (.inr (.inr (.inr (by rw [HCA.out, HCB.out]; exact H6.out))))))] at h; cases h), bel_drewN HX5.out.2.2.1 _⟩
        · obtain rfl : len = k := by omega
          go_wp2_with fail
          go_ret2
          exact ⟨(fun h => by rw [HNOW.out] at h; cases h), (fun now' h => by rw [HNOW.out] at h; injection h with h; subst h; exact ⟨w.heap.size, rfl, HB1.out, Nat.le_refl _⟩), HBL.out⟩

/-- What Labels returns: the error and the labels. -/
def labL (n : Int) (ms : List Mg) (count : Int) : Int × List Int :=
  if n < 0 ∨ 128 < n then (2, []) else match mrunTo n.toNat ms ms.length with
  | none => (2, [])
  | some _ => if count < 0 ∨ (ms.length : Int) < count then (3, []) else (0, (mrunTo n.toNat ms count.toNat).getD [])

structure LbPost (r : Int × List Int) (w : World) (e : Ending) (w' : World) : Prop where
  out : ∃ ao len cap b, e = .returned (.tuple #[.slice ao len cap, .int .i64 r.1]) ∧ InRow .i64 w' ao len b 0 r.2 ∧ len ≤ 1000000000
  bel : Below w.heap.size w w'

theorem LbPost.bad {r : Int × List Int} {k : Int} (h : r = (k, [])) {w w' : World} (hb : Below w.heap.size w w') : LbPost r w (.returned (.tuple #[.slice none 0 0, .int .i64 k])) w' := by
  subst h
  exact ⟨⟨none, 0, 0, 0, rfl, ⟨rfl, by omega, by omega⟩, by omega⟩, hb⟩

theorem MRow.take {w : World} {ao : Option Addr} {len b off : Nat} {ms : List Mg} (h : MRow w ao len b off ms) {c : Nat} (hc : c ≤ len) : MRow w ao c b off (ms.take c) := by
  refine ⟨by simp [h.size]; omega, fun h0 => h.adr (by omega), fun i hi => ?_⟩
  have e : (ms.take c).getD i mg0 = ms.getD i mg0 := by
    rw [List.getD_eq_getElem?_getD, List.getD_eq_getElem?_getD, List.getElem?_take, if_pos hi]
  rw [e]
  exact h.cell i (by omega)

theorem mrunTo_some {n : Nat} {ms : List Mg} {k j : Nat} {now : List Int} (h : mrunTo n ms (k + j) = some now) : ∃ now', mrunTo n ms k = some now' := by
  cases hk : mrunTo n ms k with
  | none => rw [mrunTo_none hk j] at h; cases h
  | some x => exact ⟨x, rfl⟩

set_option maxHeartbeats 4000000 in
theorem labels_ok (w : World) (n : Int) (ao : Option Addr) (len cap b off : Nat) (ms : List Mg) (hr : MRow w ao len b off ms) (hl : len ≤ 1000000000) (hcap : len ≤ cap ∧ cap ≤ 9223372036854775807) (hao : ao = none → cap = 0) (hS : ∀ x ∈ ms, I64 x.A ∧ I64 x.B ∧ I64 x.S) (count : Int) (hn64 : I64 n) (hc64 : I64 count) :
    Calls Tryd.prog 14 #[.int .i64 n, .slice ao len cap, .int .i64 count] w (LbPost (labL n ms count) w) := by
  have HL : Hid (ms.length = len) := hr.size
  by_cases h1 : n < 0
  · have t1 : decide (n < 0) = true := by simp [h1]
    have HE : Hid (labL n ms count = (2, [])) := by show _ = _; unfold labL; rw [if_pos (.inl h1)]
    clear h1 hr hS
    go_enter Tryd.func14, Tryd.ntmps14
    go_wp2_with fail
    go_ret2
    exact LbPost.bad HE.out (Below.refl _ _)
  · have t1 : decide (n < 0) = false := by simp; omega
    by_cases h2 : 128 < n
    · have t2 : decide (128 < n) = true := by simp [h2]
      have HE : Hid (labL n ms count = (2, [])) := by show _ = _; unfold labL; rw [if_pos (.inr h2)]
      clear h1 h2 hr hS
      go_enter Tryd.func14, Tryd.ntmps14
      go_wp2_with fail
      go_ret2
      exact LbPost.bad HE.out (Below.refl _ _)
    · obtain ⟨k, rfl⟩ := Int.eq_ofNat_of_zero_le (show 0 ≤ n by omega)
      have t2 : decide (128 < (k : Int)) = false := by simp; omega
      have hk : k ≤ 128 := by omega
      have HR := Lib.hid hr
      have HS := Lib.hid hS
      have HE : Hid (labL k ms count = match mrunTo k ms ms.length with | none => (2, []) | some _ => if count < 0 ∨ (ms.length : Int) < count then (3, []) else (0, (mrunTo k ms count.toNat).getD [])) := by
        show _ = _; unfold labL; rw [if_neg (by omega)]; rfl
      clear h1 h2 hr hS
      go_enter Tryd.func14, Tryd.ntmps14
      go_wp2_with fail
      with_reducible refine (merged_ok w k hk ao len cap b off ms HR.out hl HS.out).mono ?_
      rintro e w1 ⟨hno, hyes, hb1⟩
      have HB1 := Lib.hid hb1
      cases hm : mrunTo k ms len with
      | none =>
        have he := hno hm
        subst he
        have HE2 : Hid (labL k ms count = (2, [])) := by show _ = _; rw [HE.out, HL.out, hm]
        clear hno hyes hb1 hm
        go_wp2_with fail
        go_ret2
        exact LbPost.bad HE2.out HB1.out
      | some now =>
        obtain ⟨b1, he, B1, hb1w⟩ := hyes now hm
        subst he
        have HE2 : Hid (labL k ms count = if count < 0 ∨ (len : Int) < count then (3, []) else (0, (mrunTo k ms count.toNat).getD [])) := by show _ = _; rw [HE.out, HL.out, hm]
        have HMM := Lib.hid hm
        clear hno hyes hb1 hm B1
        by_cases h3 : count < 0
        · have t3 : decide (count < 0) = true := by simp [h3]
          have HE3 : Hid (labL k ms count = (3, [])) := by show _ = _; rw [HE2.out, if_pos (.inl h3)]
          clear h3
          go_wp2_with fail
          go_ret2
          exact LbPost.bad HE3.out HB1.out
        · have t3 : decide (count < 0) = false := by simp; omega
          by_cases h4 : (len : Int) < count
          · have t4 : decide ((len : Int) < count) = true := by simp [h4]
            have HE3 : Hid (labL k ms count = (3, [])) := by show _ = _; rw [HE2.out, if_pos (.inr h4)]
            clear h3 h4
            go_wp2_with fail
            go_ret2
            exact LbPost.bad HE3.out HB1.out
          · obtain ⟨c, rfl⟩ := Int.eq_ofNat_of_zero_le (show 0 ≤ count by omega)
            have hcl : c ≤ len := by omega
            have t4 : decide (len < c) = false := by simp; omega
            obtain ⟨now', hnow'⟩ := mrunTo_some (k := c) (j := len - c) (now := now) (by rw [show c + (len - c) = len by omega]; exact HMM.out)
            have HE3 : Hid (labL k ms c = (0, now')) := by show _ = _; rw [HE2.out, if_neg (by omega), Int.toNat_natCast, hnow']; rfl
            have HT : Hid (mrunTo k (ms.take c) c = some now') := (mrunTo_take c (Nat.le_refl _)).trans hnow'
            have HLN := Lib.hid (mrunTo_length hnow')
            clear h3 h4 hnow'
            have u1 : (c : Int) ≤ (cap : Int) := by omega
            cases ao with
            | none =>
              have hc0 := hao rfl
              subst hc0
              obtain rfl : c = 0 := by omega
              obtain rfl : len = 0 := by omega
              go_wp2_with fail
              with_reducible refine (merged_ok w1 k hk none 0 0 b off (ms.take 0) ((HR.out.below HB1.out).take (Nat.le_refl _)) (by omega) (fun x hx => HS.out x (List.mem_of_mem_take hx))).mono ?_
              rintro e w2 ⟨_, hyes, hb2⟩
              obtain ⟨b2, he, B2, hb2w⟩ := hyes now' HT.out
              subst he
              have HB2 := Lib.hid B2
              have HBB := Lib.hid (bel_then HB1.out hb2)
              clear hyes hb2 B2
              go_wp2_with fail
              go_ret2
              refine ⟨⟨some ⟨b2, 0, none⟩, k, k, b2, (congrArg (fun r : Int × List Int => Ending.returned (.tuple #[.slice (some ⟨b2, 0, none⟩) k k, .int .i64 r.1])) HE3.out).symm, ?_, by omega⟩, HBB.out⟩
              have := InRow.of_blk HB2.out
              rw [HLN.out] at this
              rw [HE3.out]
              exact this
            | some ad =>
              go_wp2_with fail
              with_reducible refine (merged_ok w1 k hk (some ad) c cap b off (ms.take c) ((HR.out.below HB1.out).take hcl) (by omega) (fun x hx => HS.out x (List.mem_of_mem_take hx))).mono ?_
              rintro e w2 ⟨_, hyes, hb2⟩
              obtain ⟨b2, he, B2, hb2w⟩ := hyes now' HT.out
              subst he
              have HB2 := Lib.hid B2
              have HBB := Lib.hid (bel_then HB1.out hb2)
              clear hyes hb2 B2
              go_wp2_with fail
              go_ret2
              refine ⟨⟨some ⟨b2, 0, none⟩, k, k, b2, (congrArg (fun r : Int × List Int => Ending.returned (.tuple #[.slice (some ⟨b2, 0, none⟩) k k, .int .i64 r.1])) HE3.out).symm, ?_, by omega⟩, HBB.out⟩
              have := InRow.of_blk HB2.out
              rw [HLN.out] at this
              rw [HE3.out]
              exact this

end Go.Proofs.YthhddjknjnjbhaaDoor
