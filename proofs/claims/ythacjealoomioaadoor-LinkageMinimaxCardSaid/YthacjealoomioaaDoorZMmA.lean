/- minimax: the arms of the vertices in a map; the finder in memory. -/
import Derived.Test.YthacjealoomioaaDoorZMgG
import Derived.Test.YthacjealoomioaaDoorZMgH
import Derived.Test.YthacjealoomioaaDoorZRcBx
namespace Go.Proofs.YthacjealoomioaaDoor
set_option linter.unusedVariables false
set_option linter.unusedSimpArgs false
open Go.RowKit

/-- An edge as the vertex v sees it: its index and its other end. -/
def armsOf (l : List Ed) (v i : Nat) : List (Nat × Nat) := if uN l i = v then [(i, vN l i)] else if vN l i = v then [(i, uN l i)] else []
def arTo (l : List Ed) (F : List Nat) (v : Nat) : List (Nat × Nat) := F.flatMap (armsOf l v)
def amCells (L : List (Nat × Nat)) : List Value := L.flatMap fun a => [.int .i64 (a.1 : Int), .int .i64 (a.2 : Int)]
theorem amCells_app (L M : List (Nat × Nat)) : amCells (L ++ M) = amCells L ++ amCells M := by simp [amCells]
theorem amCells_one (L : List (Nat × Nat)) : ∀ u ∈ amCells L, u.oneCell' = true := by
  intro u hu
  obtain ⟨a, _, ha⟩ := List.mem_flatMap.1 hu
  simp only [List.mem_cons, List.not_mem_nil, or_false] at ha
  rcases ha with rfl | rfl <;> rfl
theorem amCells_len (L : List (Nat × Nat)) : (amCells L).length = L.length * 2 := by
  induction L with
  | nil => rfl
  | cons a L ih => rw [amCells, List.flatMap_cons, List.length_append, List.length_cons]; unfold amCells at ih; rw [ih]; simp; omega
theorem amCells_at : ∀ (L : List (Nat × Nat)) (k : Nat), k < L.length → (amCells L)[2 * k]? = some (.int .i64 ((L.getD k (0, 0)).1 : Int)) ∧ (amCells L)[2 * k + 1]? = some (.int .i64 ((L.getD k (0, 0)).2 : Int))
  | [], k, h => by cases h
  | a :: L, 0, _ => ⟨rfl, rfl⟩
  | a :: L, k + 1, h => by
    have ih := amCells_at L k (by simpa using h)
    have e : amCells (a :: L) = [Value.int .i64 (a.1 : Int), .int .i64 (a.2 : Int)] ++ amCells L := rfl
    rw [e, List.getElem?_append_right (by simp; omega), List.getElem?_append_right (by simp; omega)]
    simp only [List.length_cons, List.length_nil]
    rw [show 2 * (k + 1) - (0 + 1 + 1) = 2 * k by omega, show 2 * (k + 1) + 1 - (0 + 1 + 1) = 2 * k + 1 by omega]
    exact ih
theorem arTo_len (l : List Ed) (v : Nat) : ∀ F : List Nat, (arTo l F v).length ≤ F.length
  | [] => Nat.le_refl _
  | i :: F => by
    have ih := arTo_len l v F
    have e : arTo l (i :: F) v = armsOf l v i ++ arTo l F v := rfl
    rw [e, List.length_append, List.length_cons]
    have : (armsOf l v i).length ≤ 1 := by
      unfold armsOf
      split
      · simp
      · split <;> simp
    omega
theorem arTo_snoc (l : List Ed) (F : List Nat) (i v : Nat) : arTo l (F ++ [i]) v = arTo l F v ++ armsOf l v i := by simp [arTo]
theorem arTo_mem {l : List Ed} {F : List Nat} {v e y : Nat} : (e, y) ∈ arTo l F v → e ∈ F ∧ Arm l e v y := by
  intro h
  obtain ⟨i, hi, hm⟩ := List.mem_flatMap.1 h
  unfold armsOf at hm
  split at hm
  · rename_i h1
    simp only [List.mem_cons, List.not_mem_nil, or_false, Prod.mk.injEq] at hm
    obtain ⟨rfl, rfl⟩ := hm
    exact ⟨hi, .inl ⟨h1, rfl⟩⟩
  · split at hm
    · rename_i h2
      simp only [List.mem_cons, List.not_mem_nil, or_false, Prod.mk.injEq] at hm
      obtain ⟨rfl, rfl⟩ := hm
      exact ⟨hi, .inr ⟨h2, rfl⟩⟩
    · cases hm
theorem arTo_has {l : List Ed} {F : List Nat} {v e y : Nat} (he : e ∈ F) (ha : Arm l e v y) (hne : uN l e ≠ vN l e) : (e, y) ∈ arTo l F v := by
  refine List.mem_flatMap.2 ⟨e, he, ?_⟩
  unfold armsOf
  rcases ha with ⟨h1, h2⟩ | ⟨h1, h2⟩
  · rw [if_pos h1, h2]; simp
  · rw [if_neg (by omega), if_pos h1, h2]; simp

/-- The arms while the map is filled; tb: the block of the tree. -/
structure ArS (w0 W : World) (n mp cnt tb : Nat) (cs : List Value) (V : Nat → Value) (L : Nat → List (Nat × Nat)) : Prop where
  map : ∃ F, MapV W Tryd.prog 3 mp cnt F ∧ ∀ v : Nat, v < n → (F v).getD (.slice none 0 0) = V v
  row : ∀ v, v < n → W.ownsRow 0 98 2 (V v) (L v).length (amCells (L v))
  ne : ∀ v, v < n → ∀ g, (V v).ownBlock = some g → g ≠ mp ∧ g ≠ tb ∧ w0.heap.size ≤ g
  dis : ∀ u v, u < n → v < n → u ≠ v → ∀ g, (V u).ownBlock = some g → (V v).ownBlock ≠ some g
  tre : Blk W tb 95 cs
  bel : Below w0.heap.size w0 W
  mpn : w0.heap.size ≤ mp ∧ w0.heap.size ≤ tb ∧ tb ≠ mp

theorem ArS.congr {w0 W : World} {n mp cnt tb : Nat} {cs : List Value} {V : Nat → Value} {L L' : Nat → List (Nat × Nat)} (h : ArS w0 W n mp cnt tb cs V L) (e : ∀ v, v < n → L v = L' v) : ArS w0 W n mp cnt tb cs V L' :=
  ⟨h.map, fun v hv => by rw [← e v hv]; exact h.row v hv, h.ne, h.dis, h.tre, h.bel, h.mpn⟩

theorem ArS.put {w0 W W1 W2 : World} {n mp cnt tb : Nat} {cs : List Value} {V : Nat → Value} {L L' : Nat → List (Nat × Nat)} {F : Int → Option Value} {u : Nat} {v' : Value} (h : ArS w0 W n mp cnt tb cs V L) (hu : u < n) (hF : ∀ v : Nat, v < n → (F v).getD (.slice none 0 0) = V v)
    (hm1 : Mod (fun g => (V u).ownBlock = some g) W W1) (ho : W1.ownsRow 0 98 2 v' (L' u).length (amCells (L' u))) (hL : ∀ x, x < n → x ≠ u → L' x = L x) (hv : ∀ g, v'.ownBlock = some g → (V u).ownBlock = some g ∨ W.heap.size ≤ g)
    (hm2 : MapV W2 Tryd.prog 3 mp (cnt + 1) (fun j => if j = (u : Int) then some v' else F j)) (hmod : Mod (fun g => g = mp) W1 W2) :
    ArS w0 W2 n mp (cnt + 1) tb cs (fun x => if x = u then v' else V x) L' := by
  have hmp : mp < W.heap.size := h.map.choose_spec.1.lt
  have htb := h.tre.lt
  have hs := h.bel.size
  have hvn : ∀ g, v'.ownBlock = some g → g ≠ mp ∧ g ≠ tb ∧ w0.heap.size ≤ g := fun g hg => by
    rcases hv g hg with e | e
    · exact h.ne u hu g e
    · exact ⟨by omega, by omega, by omega⟩
  have hvo : ∀ x, x < n → x ≠ u → ∀ g, v'.ownBlock = some g → (V x).ownBlock ≠ some g := fun x hx hne g hg e => by
    rcases hv g hg with e' | e'
    · exact h.dis u x hu hx (fun e => hne e.symm) g e' e
    · have := ((h.row x hx).lt g e).2; omega
  refine ⟨⟨_, hm2, fun x hx => ?_⟩, fun x hx => ?_, fun x hx g hg => ?_, fun x y hx hy hne g hg hg' => ?_, (h.tre.mod hm1 (fun e => (h.ne u hu _ e).2.1 rfl)).mod hmod h.mpn.2.2, ?_, h.mpn⟩
  · by_cases e : x = u
    · rw [if_pos e, if_pos (by omega)]; rfl
    · rw [if_neg e, if_neg (by omega)]; exact hF x hx
  · by_cases e : x = u
    · simp only [if_pos e]
      rw [e]
      exact owns_mod ho hmod (fun g hg => (hvn g hg).1)
    · simp only [if_neg e]
      rw [hL x hx e]
      exact owns_mod (owns_mod (h.row x hx) hm1 (fun g hg e' => h.dis u x hu hx (fun e'' => e e''.symm) g e' hg)) hmod (fun g hg => (h.ne x hx g hg).1)
  · by_cases e : x = u
    · simp only [if_pos e] at hg; exact hvn g hg
    · simp only [if_neg e] at hg; exact h.ne x hx g hg
  · by_cases e : x = u
    · simp only [if_pos e] at hg
      simp only [if_neg (fun e' : y = u => hne (e.trans e'.symm))] at hg'
      exact hvo y hy (fun e' => hne (e.trans e'.symm)) g hg hg'
    · simp only [if_neg e] at hg
      by_cases e2 : y = u
      · simp only [if_pos e2] at hg'
        exact hvo x hx e g hg' hg
      · simp only [if_neg e2] at hg'
        exact h.dis x y hx hy hne g hg hg'
  · exact bel_mod (bel_mod h.bel hm1 (fun g hg => (h.ne u hu g hg).2.2)) hmod (fun g e => by rw [e]; exact h.mpn.1)

/-- Where a finder lies. -/
structure MB where
  f : Nat
  tr : Nat
  lb : LB
  ta : TA
  fo : Option Addr
  fc : Nat
  fb : Nat
  mp : Nat
  V : Nat → Value

abbrev MB.cells (M : MB) (n m F : Nat) : List Value :=
  [.pointer (some ⟨M.lb.p, 0, none⟩), .int .i64 (n : Int), .slice M.ta.l.o m M.ta.l.c, .slice M.ta.r.o m M.ta.r.c, .slice M.ta.p.o m M.ta.p.c, .slice M.ta.h.o m M.ta.h.c, .slice M.ta.s.o m M.ta.s.c, .slice M.fo F M.fc, .map (some M.mp)]

/-- A finder in memory. -/
structure MObj (W : World) (M : MB) (n : Nat) (l : List Ed) : Prop where
  fin : Blk W M.f 100 [.pointer (some ⟨M.tr, 0, none⟩)]
  tre : Blk W M.tr 95 (M.cells n (n + FN n l) (FN n l))
  tab : LtObj W M.lb (bdL n l) (n + FN n l)
  tree : TreeAt W M.ta (bdL n l)
  frow : InRow .i64 W M.fo (FN n l) M.fb 0 (nI (forL n l))
  map : ∃ cnt F, MapV W Tryd.prog 3 M.mp cnt F ∧ ∀ v : Nat, v < n → (F v).getD (.slice none 0 0) = M.V v
  row : ∀ v, v < n → W.ownsRow 0 98 2 (M.V v) (arTo l (forL n l) v).length (amCells (arTo l (forL n l) v))

theorem MObj.below {W W' : World} {M : MB} {n : Nat} {l : List Ed} (h : MObj W M n l) (hb : Below W.heap.size W W') : MObj W' M n l := by
  obtain ⟨cnt, F, hm, hF⟩ := h.map
  exact ⟨h.fin.below hb h.fin.lt, h.tre.below hb h.tre.lt, h.tab.below hb, h.tree.below hb, h.frow.below hb, ⟨cnt, F, hm.below hb hm.lt, hF⟩, fun v hv => owns_mod (h.row v hv) (Mod.of_below (F := fun _ => False) hb) (fun _ _ e => e)⟩

end Go.Proofs.YthacjealoomioaaDoor
