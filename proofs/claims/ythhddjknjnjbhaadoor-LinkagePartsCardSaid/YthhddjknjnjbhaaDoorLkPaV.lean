/- LinkageParts: the sets, and the numbers that the law computes. -/
import Derived.Test.YthhddjknjnjbhaaDoorLkPb
import Derived.Test.YthhddjknjnjbhaaDoorLkStW
import Derived.Test.YthhddjknjnjbhaaDoorLkPaP
namespace Go.Proofs.YthhddjknjnjbhaaDoor
set_option linter.unusedVariables false
set_option linter.unusedSimpArgs false
open Go.RowKit

/-- Which set a point is put into. -/
def pickP (z : List Int) (i : Nat) : Nat := if z.length = 0 then 0 else (z.getD (i % z.length) 0).toNat % 3

/-- The set s of the points before t, the last one first. -/
def setP (z : List Int) (s : Nat) : Nat → List Nat
  | 0 => []
  | t + 1 => if pickP z t = s then t :: setP z s t else setP z s t

theorem pickP_lt (z : List Int) (i : Nat) : pickP z i < 3 := by
  unfold pickP
  split
  · omega
  · exact Nat.mod_lt _ (by omega)

theorem setP_mem {z : List Int} {s : Nat} : ∀ {t x : Nat}, x ∈ setP z s t → x < t ∧ pickP z x = s
  | 0, x, h => by simp [setP] at h
  | t + 1, x, h => by
    rw [setP] at h
    split at h
    · rename_i hp
      rcases List.mem_cons.1 h with rfl | h
      · exact ⟨by omega, hp⟩
      · have := setP_mem h; exact ⟨by omega, this.2⟩
    · have := setP_mem h; exact ⟨by omega, this.2⟩

theorem setP_nodup (z : List Int) (s : Nat) : ∀ t, (setP z s t).Nodup
  | 0 => by simp [setP]
  | t + 1 => by
    rw [setP]
    split
    · exact List.nodup_cons.2 ⟨fun h => by have := (setP_mem h).1; omega, setP_nodup z s t⟩
    · exact setP_nodup z s t

theorem setP_apart (z : List Int) {s s' : Nat} (h : s ≠ s') (t : Nat) : (setP z s t ++ setP z s' t).Nodup := by
  rw [List.nodup_append]
  refine ⟨setP_nodup z s t, setP_nodup z s' t, fun a ha b hb e => ?_⟩
  subst e
  have := (setP_mem ha).2
  have := (setP_mem hb).2
  omega

theorem setP_len (z : List Int) (s : Nat) : ∀ t, (setP z s t).length ≤ t
  | 0 => by simp [setP]
  | t + 1 => by
    have := setP_len z s t
    rw [setP]
    split
    · simp; omega
    · omega

theorem bel_grown {w w1 w2 : World} {row : Option Nat} (h : Below w.heap.size w w1) (hg : w1.grownBy w2 row) (hr : ∀ k, row = some k → w.heap.size ≤ k) : Below w.heap.size w w2 :=
  ⟨hg.os.trans h.os, hg.tape.trans h.tape, hg.output.trans h.output, Nat.le_trans h.size hg.size, fun k hk =>
    (hg.block k (Nat.lt_of_lt_of_le hk h.size) (fun e => by have := hr k e.symm; omega)).trans (h.block k hk)⟩

/-- The three sets in the array's cells. -/
structure SetsAt (w : World) (sb : Nat) (V : Nat → Value) (L : Nat → List Nat) : Prop where
  blk : Blk w sb 54 [V 0, V 1, V 2]
  row : ∀ s, s < 3 → w.ownsRow 0 3 1 (V s) (zI (L s)).length ((zI (L s)).map fun x => .int .i64 x)
  ne : ∀ s, s < 3 → ∀ g, (V s).ownBlock = some g → g ≠ sb

theorem SetsAt.below {w w' : World} {sb : Nat} {V : Nat → Value} {L : Nat → List Nat} (h : SetsAt w sb V L) (hb : Below w.heap.size w w') : SetsAt w' sb V L :=
  ⟨h.blk.below hb h.blk.lt, fun s hs => owns_mod (h.row s hs) (Mod.of_below (F := fun _ => False) hb) (fun _ _ h => h), h.ne⟩

theorem SetsAt.cell {w : World} {sb : Nat} {V : Nat → Value} {L : Nat → List Nat} (h : SetsAt w sb V L) {s : Nat} (hs : s < 3) : w.cell? ⟨sb, s, none⟩ = some (V s) := by
  have : s = 0 ∨ s = 1 ∨ s = 2 := by omega
  rcases this with rfl | rfl | rfl
  · exact h.blk.cell rfl
  · exact h.blk.cell rfl
  · exact h.blk.cell rfl

theorem SetsAt.put {w w' : World} {sb : Nat} {V : Nat → Value} {L : Nat → List Nat} (h : SetsAt w sb V L) (hb : Below w.heap.size w w') {s : Nat} (hs : s < 3) {v : Value} {l : List Nat}
    (ho : w'.ownsRow 0 3 1 v (zI l).length ((zI l).map fun x => .int .i64 x)) (hv : ∀ g, v.ownBlock = some g → w.heap.size ≤ g) :
    SetsAt (w'.setCell ⟨sb, s, none⟩ v) sb (fun t => if t = s then v else V t) (fun t => if t = s then l else L t) := by
  have k := h.below hb
  have hlt := h.blk.lt
  refine ⟨?_, fun t ht => ?_, fun t ht g hg => ?_⟩
  · have := k.blk.set s v
    have e : s = 0 ∨ s = 1 ∨ s = 2 := by omega
    rcases e with rfl | rfl | rfl
    · exact this
    · exact this
    · exact this
  · by_cases e : t = s
    · simp only [if_pos e]
      exact owns_mod ho ((Mod.refl (fun x => x = sb) w').setCell _ (fun _ => rfl) _) (fun x hx => by have := hv x hx; omega)
    · simp only [if_neg e]
      exact owns_mod (k.row t ht) ((Mod.refl (fun x => x = sb) w').setCell _ (fun _ => rfl) _) (fun x hx => k.ne t ht x hx)
  · by_cases e : t = s
    · simp only [if_pos e] at hg
      have := hv g hg
      omega
    · simp only [if_neg e] at hg
      exact h.ne t ht g hg

theorem SetsAt.next {w w' : World} {sb : Nat} {V : Nat → Value} {z : List Int} {t : Nat} (h : SetsAt w sb V fun s => setP z s t) (hb : Below w.heap.size w w') {v : Value}
    (ho : w'.ownsRow 0 3 1 v (zI (t :: setP z (pickP z t) t)).length ((zI (t :: setP z (pickP z t) t)).map fun x => .int .i64 x)) (hv : ∀ g, v.ownBlock = some g → w.heap.size ≤ g) :
    ∃ V', SetsAt (w'.setCell ⟨sb, pickP z t, none⟩ v) sb V' fun s => setP z s (t + 1) := by
  have := h.put hb (pickP_lt z t) ho hv
  have e : (fun s => if s = pickP z t then t :: setP z (pickP z t) t else setP z s t) = fun s => setP z s (t + 1) := by
    funext s
    rw [setP]
    by_cases e : s = pickP z t
    · rw [if_pos e, if_pos e.symm, e]
    · rw [if_neg e, if_neg (fun h => e h.symm)]
  rw [e] at this
  exact ⟨_, this⟩

theorem owns_in {w : World} {e : TypeId} {o : Option Addr} {c : Nat} {z : List Int} (h : w.ownsRow 0 e 1 (.slice o z.length c) z.length (z.map fun x => .int .i64 x)) : ∃ b, InRow .i64 w o z.length b 0 z := by
  obtain ⟨ao, cap, b, h1, h2, _⟩ := owns_row h
  injection h1 with h3 h4 h5
  exact ⟨b, by rw [h3]; exact h2⟩

theorem nodup3 {A B C : List Nat} (h1 : (B ++ C).Nodup) (h2 : (A ++ C).Nodup) (h3 : (B ++ A).Nodup) : (B ++ A ++ C).Nodup := by
  rw [List.nodup_append] at *
  refine ⟨List.nodup_append.2 h3, h1.2.1, fun a ha b hb => ?_⟩
  rcases List.mem_append.1 ha with h | h
  · exact h1.2.2 a h b hb
  · exact h2.2.2 a h b hb

theorem nodup_le {k : Nat} {l : List Nat} (h : l.Nodup) (hb : ∀ x ∈ l, x < k) : l.length ≤ k := by
  have := nodup_len k (zI l) (zI_nodup h) (fun x hx => by
    obtain ⟨y, hy, rfl⟩ := List.mem_map.1 hx
    have := hb y hy
    omega)
  rwa [zI_length] at this

theorem parts12 {k : Nat} {m : Int} {d : List Int} (hc : checkL k d = 0) (hm : m = 1 ∨ m = 2) {A B C : List Nat} (hA : A ≠ []) (hB : B ≠ []) (hC : C ≠ []) :
    (lowD (gap m k d A C) (den m A C) = 1 ∧ lowD (gap m k d B C) (den m B C) = 1 ∧ lowD (gap m k d (B ++ A) C) (den m (B ++ A) C) = 1) ∧
      lowN (gap m k d (B ++ A) C) (den m (B ++ A) C) = mixE m (lowN (gap m k d B C) (den m B C)) (lowN (gap m k d A C) (den m A C)) := by
  have hm3 : m = 1 ∨ m = 2 ∨ m = 3 := by omega
  have h3 : m ≠ 3 := by omega
  have hU : B ++ A ≠ [] := by simp [hB]
  have d1 : ∀ X Y, den m X Y = 1 := fun X Y => by unfold den; rw [if_neg h3]
  have g1 := low_one (gap_le_den hm3 (DOk.of_check hc) hA hC).1
  have g2 := low_one (gap_le_den hm3 (DOk.of_check hc) hB hC).1
  have g3 := low_one (gap_le_den hm3 (DOk.of_check hc) hU hC).1
  rw [d1, d1, d1, g1.1, g1.2, g2.1, g2.2, g3.1, g3.2, gap_append hB hA hC]
  exact ⟨⟨rfl, rfl, rfl⟩, rfl⟩

theorem lessB_one (x y : Int) : lessB (x, 1) (y, 1) = decide (x < y) := by unfold lessB; simp

/-- The average: the numbers that the law computes. -/
theorem parts3 {k : Nat} {d : List Int} (hc : checkL k d = 0) {A B C : List Nat} (hA : A ≠ []) (hB : B ≠ []) (hC : C ≠ []) (hAl : A.length ≤ 14) (hBl : B.length ≤ 14) (hCl : C.length ≤ 14)
    {N1 D1 N2 D2 N3 D3 : Int} (e1 : lowN (gap 3 k d A C) (den 3 A C) = N1) (f1 : lowD (gap 3 k d A C) (den 3 A C) = D1) (e2 : lowN (gap 3 k d B C) (den 3 B C) = N2) (f2 : lowD (gap 3 k d B C) (den 3 B C) = D2)
    (e3 : lowN (gap 3 k d (B ++ A) C) (den 3 (B ++ A) C) = N3) (f3 : lowD (gap 3 k d (B ++ A) C) (den 3 (B ++ A) C) = D3) :
    ∃ P1 P2 P3 T1 T2 T3 G1 G2 : Int, (A.length : Int) * (C.length : Int) = P1 ∧ (B.length : Int) * (C.length : Int) = P2 ∧ ((A.length : Int) + (B.length : Int)) * (C.length : Int) = P3 ∧
      P1 / D1 = T1 ∧ P2 / D2 = T2 ∧ P3 / D3 = T3 ∧ P1 % D1 = 0 ∧ P2 % D2 = 0 ∧ P3 % D3 = 0 ∧ N1 * T1 = G1 ∧ N2 * T2 = G2 ∧ N3 * T3 = G1 + G2 ∧
      (0 ≤ P1 ∧ P1 ≤ 196 ∧ 0 ≤ P2 ∧ P2 ≤ 196 ∧ 0 ≤ P3 ∧ P3 ≤ 392) ∧ (0 ≤ T1 ∧ T1 ≤ 196 ∧ 0 ≤ T2 ∧ T2 ≤ 196 ∧ 0 ≤ T3 ∧ T3 ≤ 392) ∧ (0 ≤ G1 ∧ G1 ≤ 215504279044096 ∧ 0 ≤ G2 ∧ G2 ≤ 215504279044096) := by
  have hm3 : (3 : Int) = 1 ∨ (3 : Int) = 2 ∨ (3 : Int) = 3 := by omega
  have hd := DOk.of_check hc
  have hU : B ++ A ≠ [] := by simp [hB]
  have E1 : den 3 A C = (A.length : Int) * (C.length : Int) := rfl
  have E2 : den 3 B C = (B.length : Int) * (C.length : Int) := rfl
  have E3 : den 3 (B ++ A) C = ((A.length : Int) + (B.length : Int)) * (C.length : Int) := by
    show ((B ++ A).length : Int) * (C.length : Int) = _
    rw [List.length_append, Int.natCast_add, Int.add_comm]
  have g1 := gap_le_den hm3 hd hA hC
  have g2 := gap_le_den hm3 hd hB hC
  have g3 := gap_le_den hm3 hd hU hC
  have p1 := den_pos (m := 3) hA hC
  have p2 := den_pos (m := 3) hB hC
  have p3 := den_pos (m := 3) hU hC
  have l1 := low_parts g1.1 p1
  have l2 := low_parts g2.1 p2
  have l3 := low_parts g3.1 p3
  have s1 := (low_same g1.1 p1).2.2.1
  have s2 := (low_same g2.1 p2).2.2.1
  have s3 := (low_same g3.1 p3).2.2.1
  rw [gap_append hB hA hC] at l3 g3
  rw [gap_append hB hA hC] at e3 f3 s3
  rw [e1, f1] at l1
  rw [e2, f2] at l2
  rw [e3, f3] at l3
  rw [f1] at s1
  rw [f2] at s2
  rw [f3] at s3
  have hmx : mixE 3 (gap 3 k d B C) (gap 3 k d A C) = gap 3 k d B C + gap 3 k d A C := rfl
  rw [hmx] at l3
  have b1 : den 3 A C ≤ 196 := by
    rw [E1, ← Int.natCast_mul]
    have := Nat.mul_le_mul hAl hCl
    omega
  have b2 : den 3 B C ≤ 196 := by
    rw [E2, ← Int.natCast_mul]
    have := Nat.mul_le_mul hBl hCl
    omega
  have b3 : den 3 (B ++ A) C = den 3 A C + den 3 B C := by rw [E1, E2, E3, Int.add_mul]
  refine ⟨den 3 A C, den 3 B C, den 3 (B ++ A) C, _, _, _, _, _, E1.symm, E2.symm, E3.symm, rfl, rfl, rfl, l1.2, l2.2, l3.2, l1.1, l2.1, by rw [l3.1, Int.add_comm], ⟨by omega, b1, by omega, b2, by omega, by omega⟩, ⟨Int.ediv_nonneg (by omega) (by omega), ?_, Int.ediv_nonneg (by omega) (by omega), ?_, Int.ediv_nonneg (by omega) (by omega), ?_⟩, ⟨g1.1, by omega, g2.1, by omega⟩⟩
  · exact Int.le_trans (Int.ediv_le_self _ (by omega)) b1
  · exact Int.le_trans (Int.ediv_le_self _ (by omega)) b2
  · exact Int.le_trans (Int.ediv_le_self _ (by omega)) (by omega)

theorem Tryd.zeroSets : (Tryd.prog.info? 54).bind (·.zero) = some (.agg #[.slice none 0 0, .slice none 0 0, .slice none 0 0]) := by kernel_rfl

theorem owns_one (w : World) (T : TypeId) (v : Value) : (w.alloc (.cells #[v] T)).ownsRow 0 T 1 (.slice (some ⟨w.heap.size, 0, none⟩) 1 1) 1 [v] :=
  ⟨rfl, .inr ⟨w.heap.size, 1, #[v], rfl, Nat.zero_le _, heap_alloc_new w _, Nat.le_refl _, by unfold maxLen; omega, rfl, rfl⟩⟩

end Go.Proofs.YthhddjknjnjbhaaDoor
