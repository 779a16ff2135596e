/- linkage: only the order of the distances counts. No program in sight. -/
import Derived.Test.YthhddjknjnjbhaaDoorLkSt
import Derived.Test.YthhddjknjnjbhaaDoorLkV
namespace Go.Proofs.YthhddjknjnjbhaaDoor
set_option linter.unusedVariables false
set_option linter.unusedSimpArgs false

def addN (acc : List Int) (x : Int) : List Int := if acc.contains x then acc else acc ++ [x]
/-- The different numbers of a list. -/
def dif (l : List Int) : List Int := l.foldl addN []

theorem dif_snoc (l : List Int) (x : Int) : dif (l ++ [x]) = addN (dif l) x := by simp [dif, List.foldl_append]

theorem addN_mem {acc : List Int} {x y : Int} : y ∈ addN acc x ↔ y ∈ acc ∨ y = x := by
  unfold addN
  by_cases h : acc.contains x = true
  · rw [if_pos h]
    constructor
    · exact fun h => .inl h
    · rintro (h1 | h1)
      · exact h1
      · rw [h1]; exact List.contains_iff_mem.1 h
  · rw [if_neg h]; simp

theorem dif_fold_mem : ∀ (l acc : List Int) (x : Int), x ∈ l.foldl addN acc ↔ x ∈ acc ∨ x ∈ l
  | [], acc, x => by simp
  | y :: l, acc, x => by
    rw [List.foldl_cons, dif_fold_mem l, addN_mem]
    simp [or_assoc]

theorem dif_mem {l : List Int} {x : Int} : x ∈ dif l ↔ x ∈ l := by
  unfold dif
  rw [dif_fold_mem]
  simp

theorem fold_filter (p : Int → Bool) : ∀ (l acc : List Int), (l.filter p).foldl addN (acc.filter p) = (l.foldl addN acc).filter p
  | [], acc => rfl
  | y :: l, acc => by
    rw [List.foldl_cons, ← fold_filter p l (addN acc y)]
    have e : (addN acc y).filter p = if p y then addN (acc.filter p) y else acc.filter p := by
      unfold addN
      by_cases h : acc.contains y = true
      · rw [if_pos h]
        by_cases hp : p y = true
        · rw [if_pos hp, if_pos]
          rw [List.contains_iff_mem, List.mem_filter]
          exact ⟨List.contains_iff_mem.1 h, hp⟩
        · rw [if_neg hp]
      · rw [if_neg h, List.filter_append]
        by_cases hp : p y = true
        · rw [if_pos hp, if_neg]
          · simp [hp]
          · rw [List.contains_iff_mem, List.mem_filter]
            intro hh
            exact h (List.contains_iff_mem.2 hh.1)
        · rw [if_neg hp]; simp [hp]
    rw [e, List.filter_cons]
    by_cases hp : p y = true
    · rw [if_pos hp, if_pos hp, List.foldl_cons]
    · rw [if_neg hp, if_neg hp]

theorem dif_filter (p : Int → Bool) (l : List Int) : dif (l.filter p) = (dif l).filter p := fold_filter p l []

/-- How many different numbers of d are smaller. -/
def rankN (d : List Int) (x : Int) : Nat := (dif (d.filter fun y => decide (y < x))).length

theorem rank_eq (d : List Int) (x : Int) : rankN d x = (dif d).countP fun y => decide (y < x) := by
  unfold rankN
  rw [dif_filter, List.countP_eq_length_filter]

theorem rank_mono (d : List Int) {x y : Int} (h : x ≤ y) : rankN d x ≤ rankN d y := by
  rw [rank_eq, rank_eq]
  apply List.countP_mono_left
  intro z _ hz
  rw [decide_eq_true_eq] at hz ⊢
  omega

theorem countP_lt {α : Type} {p q : α → Bool} : ∀ {l : List α}, (∀ x ∈ l, p x = true → q x = true) → (∃ x ∈ l, q x = true ∧ p x = false) → l.countP p < l.countP q
  | [], _, h => by obtain ⟨x, hx, _⟩ := h; simp at hx
  | y :: l, h1, h2 => by
    have hm : l.countP p ≤ l.countP q := List.countP_mono_left fun z hz => h1 z (List.mem_cons_of_mem _ hz)
    obtain ⟨x, hx, hq, hp⟩ := h2
    rw [List.countP_cons, List.countP_cons]
    rcases List.mem_cons.1 hx with rfl | hx
    · rw [if_pos hq, if_neg (by rw [hp]; exact Bool.false_ne_true)]; omega
    · have := countP_lt (fun z hz => h1 z (List.mem_cons_of_mem _ hz)) ⟨x, hx, hq, hp⟩
      have hy := h1 y (by simp)
      by_cases hpy : p y = true
      · rw [if_pos hpy, if_pos (hy hpy)]; omega
      · rw [if_neg hpy]; split <;> omega

theorem rank_strict {d : List Int} {x y : Int} (hx : x ∈ d) (h : x < y) : rankN d x < rankN d y := by
  rw [rank_eq, rank_eq]
  refine countP_lt (fun z _ hz => ?_) ⟨x, dif_mem.2 hx, ?_, ?_⟩
  · rw [decide_eq_true_eq] at hz ⊢; omega
  · rw [decide_eq_true_eq]; exact h
  · rw [decide_eq_false_iff_not]; omega

theorem addN_len (acc : List Int) (x : Int) : (addN acc x).length ≤ acc.length + 1 := by
  unfold addN
  split
  · omega
  · simp

theorem fold_len : ∀ (l acc : List Int), (l.foldl addN acc).length ≤ acc.length + l.length
  | [], acc => by simp
  | y :: l, acc => by
    rw [List.foldl_cons]
    have := fold_len l (addN acc y)
    have := addN_len acc y
    simp only [List.length_cons]
    omega

theorem rank_le (d : List Int) (x : Int) : rankN d x ≤ d.length := by
  unfold rankN dif
  have h1 := fold_len (d.filter fun y => decide (y < x)) []
  have h2 := List.length_filter_le (fun y => decide (y < x)) d
  simp only [List.length_nil] at h1
  omega

theorem rank_zero {d : List Int} (h : ∀ x ∈ d, 0 ≤ x) : rankN d 0 = 0 := by
  unfold rankN
  have : d.filter (fun y => decide (y < 0)) = [] := List.filter_eq_nil_iff.2 fun x hx => by
    rw [decide_eq_true_eq]; have := h x hx; omega
  rw [this]
  rfl

def rankI (d : List Int) (x : Int) : Int := (rankN d x : Int)

theorem mixE_rank {m : Int} (hm : m = 1 ∨ m = 2) (d : List Int) (x y : Int) : mixE m (rankI d x) (rankI d y) = rankI d (mixE m x y) := by
  unfold rankI mixE
  rcases hm with rfl | rfl
  · rw [if_pos rfl, if_pos rfl]
    rcases Int.le_total x y with h | h
    · have := rank_mono d h; rw [Int.min_eq_left h, Int.min_eq_left (by omega)]
    · have := rank_mono d h; rw [Int.min_eq_right h, Int.min_eq_right (by omega)]
  · have e : ∀ u v : Int, (if (2 : Int) = 1 then min u v else if (2 : Int) = 2 then max u v else u + v) = max u v := fun u v => by rw [if_neg (by decide), if_pos rfl]
    rw [e, e]
    rcases Int.le_total x y with h | h
    · have := rank_mono d h; rw [Int.max_eq_right h, Int.max_eq_right (by omega)]
    · have := rank_mono d h; rw [Int.max_eq_left h, Int.max_eq_left (by omega)]

theorem at2_mem {n : Nat} {d : List Int} (hd : DOk n d) (hn : 0 < n) (i j : Nat) : at2 n d i j ∈ d := by
  unfold at2
  by_cases h : i * n + j < d.length
  · rw [List.getD_eq_getElem?_getD, List.getElem?_eq_getElem h]; exact List.getElem_mem h
  · rw [List.getD_eq_getElem?_getD, List.getElem?_eq_none (by omega)]
    have h0 := hd.zero 0 hn
    unfold at2 at h0
    have hl : 0 * n + 0 < d.length := by rw [hd.len]; have := Nat.mul_pos hn hn; omega
    rw [List.getD_eq_getElem?_getD, List.getElem?_eq_getElem hl] at h0
    have := List.getElem_mem hl
    simp only [Option.getD_some] at h0
    rw [h0] at this
    exact this

theorem gap_mem {n : Nat} {m : Int} {d : List Int} (hd : DOk n d) (hn : 0 < n) (hm : m = 1 ∨ m = 2) {A B : List Nat} (hA : A ≠ []) (hB : B ≠ []) : gap m n d A B ∈ d := by
  have := agg_mem (m := m) hm _ (cross_ne (n := n) (d := d) hA hB)
  obtain ⟨i, _, j, _, e⟩ := cross_mem' this
  unfold gap
  rw [e]
  exact at2_mem hd hn i j

theorem check_rank {n : Nat} {d : List Int} (hn : n ≤ 1000) (h : checkL n d = 0) : checkL n (d.map (rankI d)) = 0 := by
  have hd := DOk.of_check h
  have hnn : ∀ x ∈ d, 0 ≤ x := fun x hx => by
    obtain ⟨i, hi⟩ := List.getElem?_of_mem hx
    have := (hd.lim 0 i).1
    unfold at2 at this
    rw [Nat.zero_mul, Nat.zero_add, List.getD_eq_getElem?_getD, hi] at this
    exact this
  have h0 : rankI d 0 = 0 := by unfold rankI; rw [rank_zero hnn]; rfl
  have hl : (d.map (rankI d)).length = n * n := by rw [List.length_map, hd.len]
  refine checkL_ok hl hd.hn (symTo_of (fun i j hi hj => by rw [at2_map h0, at2_map h0, hd.sym i j hi hj]) (fun i hi => by rw [at2_map h0, hd.zero i hi, h0]) n (Nat.le_refl _)) (fun i hi => ?_)
  rw [List.getD_eq_getElem?_getD, List.getElem?_map]
  cases hx : d[i]? with
  | none => simp
  | some x =>
    have := rank_le d x
    have h2 : n * n ≤ 1000 * 1000 := Nat.mul_le_mul hn hn
    rw [hd.len] at this
    simp only [Option.map_some, Option.getD_some]
    unfold rankI
    omega

/-- The i-th merges of the distances and of their ranks. -/
theorem order_at {n : Nat} {m : Int} {d : List Int} (hn : n ≤ 1000) (h : checkL n d = 0) (hm : m = 1 ∨ m = 2) {i : Nat} (hi : i + 1 < n) :
    ∃ a b N s : Int, (runL n m d).getD i mg0 = ⟨a, b, N, 1, s⟩ ∧ (runL n m (d.map (rankI d))).getD i mg0 = ⟨a, b, rankI d N, 1, s⟩ ∧ N ∈ d := by
  have hd := DOk.of_check h
  have hd' := DOk.of_check (check_rank hn h)
  have hm3 : m = 1 ∨ m = 2 ∨ m = 3 := by omega
  have hnn : ∀ x ∈ d, 0 ≤ x := fun x hx => by
    obtain ⟨i, hi⟩ := List.getElem?_of_mem hx
    have := (hd.lim 0 i).1
    unfold at2 at this
    rw [Nat.zero_mul, Nat.zero_add, List.getD_eq_getElem?_getD, hi] at this
    exact this
  have h0 : rankI d 0 = 0 := by unfold rankI; rw [rank_zero hnn]; rfl
  have hg : ∀ A B : List Nat, A ≠ [] → B ≠ [] → gap m n (d.map (rankI d)) A B = rankI d (gap m n d A B) := fun A B hA hB => gap_map h0 (mixE_rank hm d) hA hB
  have hden : ∀ A B : List Nat, den m A B = 1 := fun A B => by unfold den; rw [if_neg (by omega)]
  have hless : ∀ A B C D : List Nat, A ≠ [] → B ≠ [] → C ≠ [] → D ≠ [] → lessB (fr n m (d.map (rankI d)) A B) (fr n m (d.map (rankI d)) C D) = lessB (fr n m d A B) (fr n m d C D) := by
    intro A B C D hA hB hC hD
    unfold fr lessB
    simp only [hg A B hA hB, hg C D hC hD, hden, Int.mul_one]
    have m1 := gap_mem hd (by omega) hm hA hB
    by_cases hlt : gap m n d A B < gap m n d C D
    · have := rank_strict m1 hlt
      rw [decide_eq_true hlt, decide_eq_true]
      unfold rankI
      omega
    · have := rank_mono d (x := gap m n d C D) (y := gap m n d A B) (by omega)
      rw [decide_eq_false hlt, decide_eq_false]
      unfold rankI
      omega
  obtain ⟨a, b, A, B, hA, hB, hl, e1, e2⟩ := alike_at hd hd' hm3 hless hi
  have one : ∀ g : Int, lowN g 1 = g ∧ lowD g 1 = 1 := fun g => by unfold lowN lowD; simp
  rw [hden, (one _).1, (one _).2] at e1 e2
  rw [hg A B hA hB] at e2
  exact ⟨a, b, _, _, e1, e2, gap_mem hd (by omega) hm hA hB⟩

end Go.Proofs.YthhddjknjnjbhaaDoor
