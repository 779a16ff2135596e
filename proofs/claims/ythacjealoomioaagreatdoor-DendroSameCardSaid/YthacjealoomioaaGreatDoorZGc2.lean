/- DnS, DnT, DnU, DnI, DnK, DnV, DnY, DnW. -/
import Derived.Test.YthacjealoomioaaGreatDoorZGc
import Derived.Lib.ParseIntBTie
import Derived.Lib.ParseIntBCases
/- Stable sorting by symmetric merges: places and orders. No program in sight. -/
namespace Go.Proofs.YthacjealoomioaaGreatDoor
set_option linter.unusedVariables false
set_option linter.unusedSimpArgs false

/-- The row of the first N values. -/
def rowF (N : Nat) (f : Nat → Nat) : List Nat := (List.range N).map f
theorem rowF_len (N : Nat) (f : Nat → Nat) : (rowF N f).length = N := by unfold rowF; rw [List.length_map, List.length_range]
theorem rowF_getD {N : Nat} {f : Nat → Nat} {x : Nat} (h : x < N) : (rowF N f).getD x 0 = f x := by
  unfold rowF
  rw [List.getD_eq_getElem?_getD, List.getElem?_map, List.getElem?_range h]; rfl
theorem rowF_congr {N : Nat} {f g : Nat → Nat} (h : ∀ x, x < N → f x = g x) : rowF N f = rowF N g := by
  unfold rowF
  exact List.map_congr_left fun x hx => h x (List.mem_range.1 hx)
def putF (f : Nat → Nat) (p v x : Nat) : Nat := if x = p then v else f x
theorem rowF_set {N : Nat} {f : Nat → Nat} {p v : Nat} : (rowF N f).set p v = rowF N (putF f p v) := by
  unfold rowF putF
  apply List.ext_getElem (by rw [List.length_set, List.length_map, List.length_map])
  intro x h1 h2
  rw [List.getElem_set]
  simp only [List.getElem_map, List.getElem_range]
  by_cases e : p = x
  · rw [if_pos e, if_pos e.symm]
  · rw [if_neg e, if_neg (fun q => e q.symm)]

/-- A change of places within a segment. -/
structure Sg (a b : Nat) (s : Nat → Nat) : Prop where
  out : ∀ x, ¬ (a ≤ x ∧ x < b) → s x = x
  inn : ∀ x, a ≤ x → x < b → a ≤ s x ∧ s x < b
  inj : ∀ x y, s x = s y → x = y
theorem Sg.id (a b : Nat) : Sg a b fun x => x := ⟨fun _ _ => rfl, fun _ h1 h2 => ⟨h1, h2⟩, fun _ _ h => h⟩
theorem Sg.mono {a b c d : Nat} {s : Nat → Nat} (h : Sg a b s) (h1 : c ≤ a) (h2 : b ≤ d) : Sg c d s := by
  refine ⟨fun x hx => h.out x (by omega), fun x h3 h4 => ?_, h.inj⟩
  by_cases e : a ≤ x ∧ x < b
  · have := h.inn x e.1 e.2; omega
  · rw [h.out x e]; exact ⟨h3, h4⟩
theorem Sg.comp {a b : Nat} {s t : Nat → Nat} (h : Sg a b s) (k : Sg a b t) : Sg a b fun x => s (t x) := by
  refine ⟨fun x hx => by rw [k.out x hx, h.out x hx], fun x h1 h2 => ?_, fun x y e => k.inj _ _ (h.inj _ _ e)⟩
  have := k.inn x h1 h2
  exact h.inn _ this.1 this.2
theorem Sg.perm {N a b : Nat} {s : Nat → Nat} (h : Sg a b s) (hb : b ≤ N) (f : Nat → Nat) : (rowF N fun x => f (s x)).Perm (rowF N f) := by
  have lt : ∀ x, x < N → s x < N := fun x hx => by
    by_cases e : a ≤ x ∧ x < b
    · have := h.inn x e.1 e.2; omega
    · rw [h.out x e]; exact hx
  have nd : ((List.range N).map s).Nodup := by
    rw [List.nodup_iff_pairwise_ne, List.pairwise_map]
    exact (List.nodup_iff_pairwise_ne.1 List.nodup_range).imp fun {x y} hne e => hne (h.inj x y e)
  have p : ((List.range N).map s).Perm (List.range N) := by
    refine (List.perm_ext_iff_of_nodup nd List.nodup_range).2 fun v => ⟨fun hy => ?_, fun hv => ?_⟩
    · obtain ⟨x, hx, rfl⟩ := List.mem_map.1 hy
      exact List.mem_range.2 (lt x (List.mem_range.1 hx))
    · apply Classical.byContradiction
      intro hno
      have hb := nodup_bound N (v :: (List.range N).map s) (List.nodup_cons.2 ⟨hno, nd⟩) (fun w hw => by
        rcases List.mem_cons.1 hw with rfl | hw
        · exact List.mem_range.1 hv
        · obtain ⟨x, hx, rfl⟩ := List.mem_map.1 hw
          exact lt x (List.mem_range.1 hx))
      rw [List.length_cons, List.length_map, List.length_range] at hb
      omega
  have := p.map f
  rw [List.map_map] at this
  exact this

/-- The strict order of (key, number). -/
def kl (key : Nat → Int) (x y : Nat) : Prop := key x < key y ∨ (key x = key y ∧ x < y)
def Srt (key : Nat → Int) (f : Nat → Nat) (a b : Nat) : Prop := ∀ i j, a ≤ i → i < j → j < b → kl key (f i) (f j)
def Crs (f : Nat → Nat) (a m b : Nat) : Prop := ∀ i j, a ≤ i → i < m → m ≤ j → j < b → f i < f j
theorem Srt.congr {key : Nat → Int} {f g : Nat → Nat} {a b : Nat} (h : Srt key f a b) (e : ∀ x, a ≤ x → x < b → g x = f x) : Srt key g a b := fun i j h1 h2 h3 => by
  rw [e i h1 (by omega), e j (by omega) h3]
  exact h i j h1 h2 h3

/-- What a merge makes of f: the places change within the segment, which is sorted then. -/
structure Mrg (key : Nat → Int) (a b : Nat) (f g : Nat → Nat) : Prop where
  ex : ∃ s, Sg a b s ∧ ∀ x, g x = f (s x)
  srt : Srt key g a b
theorem Mrg.ge {key : Nat → Int} {a b : Nat} {f g : Nat → Nat} (h : Mrg key a b f g) {x : Nat} (hx : ¬ (a ≤ x ∧ x < b)) : g x = f x := by
  obtain ⟨s, h1, h2⟩ := h.ex
  rw [h2, h1.out x hx]
theorem Mrg.refl {key : Nat → Int} {a b : Nat} {f : Nat → Nat} (h : Srt key f a b) : Mrg key a b f f := ⟨⟨fun x => x, Sg.id a b, fun _ => rfl⟩, h⟩
theorem Mrg.congr {key : Nat → Int} {a b : Nat} {f f' g : Nat → Nat} (h : Mrg key a b f g) (e : ∀ x, f x = f' x) : Mrg key a b f' g := by
  obtain ⟨⟨s, h1, h2⟩, h3⟩ := h
  exact ⟨⟨s, h1, fun x => by rw [h2, e]⟩, h3⟩

/-- Two neighbouring segments are exchanged. -/
def ro (a m b x : Nat) : Nat := if a ≤ x ∧ x < a + (b - m) then x - a + m else if a + (b - m) ≤ x ∧ x < b then x - (b - m) else x
theorem ro_sg {a m b : Nat} (h1 : a ≤ m) (h2 : m ≤ b) : Sg a b (ro a m b) := by
  refine ⟨fun x hx => ?_, fun x h3 h4 => ?_, fun x y e => ?_⟩
  · unfold ro
    rw [if_neg (by omega), if_neg (by omega)]
  · unfold ro
    split
    · omega
    · split <;> omega
  · unfold ro at e
    split at e
    · split at e
      · omega
      · split at e <;> omega
    · split at e
      · split at e
        · omega
        · split at e <;> omega
      · split at e
        · omega
        · split at e <;> omega
/-- Two segments that are apart are exchanged: the first n of each. -/
def sw (a b n x : Nat) : Nat := if a ≤ x ∧ x < a + n then x - a + b else if b ≤ x ∧ x < b + n then x - b + a else x
def ex (p q x : Nat) : Nat := if x = p then q else if x = q then p else x
theorem sw_zero (a b x : Nat) : sw a b 0 x = x := by unfold sw; rw [if_neg (by omega), if_neg (by omega)]
theorem sw_succ {a b n : Nat} (h : a + (n + 1) ≤ b) (x : Nat) : sw a b (n + 1) x = sw a b n (ex (a + n) (b + n) x) := by
  unfold sw ex
  by_cases e1 : x = a + n
  · rw [if_pos e1, if_pos (by omega), if_neg (by omega), if_neg (by omega)]; omega
  · rw [if_neg e1]
    by_cases e2 : x = b + n
    · rw [if_pos e2, if_neg (by omega), if_pos (by omega), if_neg (by omega), if_neg (by omega)]; omega
    · rw [if_neg e2]
      by_cases c1 : a ≤ x ∧ x < a + n
      · rw [if_pos c1, if_pos (by omega)]
      · rw [if_neg c1, if_neg (by omega)]
        by_cases c2 : b ≤ x ∧ x < b + n
        · rw [if_pos c2, if_pos (by omega)]
        · rw [if_neg c2, if_neg (by omega)]
theorem ro_gt {m i j x : Nat} (him : i ≤ m) (h : j < i) : ro (m - i) m (m + j) x = sw (m - i) m j (ro (m - (i - j)) m (m + j) x) := by
  unfold ro
  by_cases c1 : m - i ≤ x ∧ x < m - i + (m + j - m)
  · rw [if_pos c1, if_neg (by omega), if_neg (by omega)]
    unfold sw
    rw [if_pos (by omega)]
  · rw [if_neg c1]
    by_cases c2 : m - i + (m + j - m) ≤ x ∧ x < m + j
    · rw [if_pos c2]
      by_cases c3 : m - (i - j) ≤ x ∧ x < m - (i - j) + (m + j - m)
      · rw [if_pos c3]
        unfold sw
        rw [if_neg (by omega), if_pos (by omega)]
        omega
      · rw [if_neg c3, if_pos (by omega)]
        unfold sw
        rw [if_neg (by omega), if_neg (by omega)]
    · rw [if_neg c2, if_neg (by omega), if_neg (by omega)]
      unfold sw
      rw [if_neg (by omega), if_neg (by omega)]
theorem ro_lt {m i j x : Nat} (him : i ≤ m) (h : i < j) : ro (m - i) m (m + j) x = sw (m - i) (m + j - i) i (ro (m - i) m (m + (j - i)) x) := by
  unfold ro
  by_cases c1 : m - i ≤ x ∧ x < m - i + (m + j - m)
  · rw [if_pos c1]
    by_cases c3 : m - i ≤ x ∧ x < m - i + (m + (j - i) - m)
    · rw [if_pos c3]
      unfold sw
      rw [if_neg (by omega), if_neg (by omega)]
    · rw [if_neg c3]
      by_cases c4 : m - i + (m + (j - i) - m) ≤ x ∧ x < m + (j - i)
      · rw [if_pos c4]
        unfold sw
        rw [if_pos (by omega)]
        omega
      · omega
  · rw [if_neg c1]
    by_cases c2 : m - i + (m + j - m) ≤ x ∧ x < m + j
    · rw [if_pos c2, if_neg (by omega)]
      by_cases c4 : m - i + (m + (j - i) - m) ≤ x ∧ x < m + (j - i)
      · omega
      · rw [if_neg c4]
        unfold sw
        rw [if_neg (by omega), if_pos (by omega)]
        omega
    · rw [if_neg c2, if_neg (by omega), if_neg (by omega)]
      unfold sw
      rw [if_neg (by omega), if_neg (by omega)]
theorem ro_eq {m i x : Nat} (him : i ≤ m) : ro (m - i) m (m + i) x = sw (m - i) m i x := by
  unfold ro sw
  by_cases c1 : m - i ≤ x ∧ x < m - i + i
  · rw [if_pos (by omega), if_pos c1]
  · rw [if_neg (by omega), if_neg c1]
    by_cases c2 : m ≤ x ∧ x < m + i
    · rw [if_pos (by omega), if_pos c2]; omega
    · rw [if_neg (by omega), if_neg c2]
theorem ro_none {a m b : Nat} (h : a = m ∨ m = b) (h1 : a ≤ m) (h2 : m ≤ b) (x : Nat) : ro a m b x = x := by
  unfold ro
  split
  · omega
  · split <;> omega

/-- Where the segments part: c is before s as long as the mirrored one is not smaller. -/
structure Cut (key : Nat → Int) (f : Nat → Nat) (s0 r0 p s r : Nat) : Prop where
  lo : s0 ≤ s
  sr : s ≤ r
  hi : r ≤ r0
  a : ∀ c, s0 ≤ c → c < s → key (f c) ≤ key (f (p - c))
  b : ∀ c, r ≤ c → c < r0 → key (f (p - c)) < key (f c)

/-- Both halves behind the exchange, and how they lie to each other. -/
theorem split_ok {key : Nat → Int} {f : Nat → Nat} {a m b mid s : Nat} (ham : a < m) (hmb : m < b) (hmid : mid = (a + b) / 2) (h1 : Srt key f a m) (h2 : Srt key f m b) (h3 : Crs f a m b)
    (hc : Cut key f (if mid < m then mid + m - b else a) (if mid < m then mid else m) (mid + m - 1) s s) :
    a ≤ s ∧ s ≤ m ∧ m ≤ mid + m - s ∧ mid + m - s ≤ b ∧ s ≤ mid ∧ mid ≤ mid + m - s ∧
    (Srt key (fun x => f (ro s m (mid + m - s) x)) a s ∧ Srt key (fun x => f (ro s m (mid + m - s) x)) s mid ∧ Crs (fun x => f (ro s m (mid + m - s) x)) a s mid) ∧
    (Srt key (fun x => f (ro s m (mid + m - s) x)) mid (mid + m - s) ∧ Srt key (fun x => f (ro s m (mid + m - s) x)) (mid + m - s) b ∧ Crs (fun x => f (ro s m (mid + m - s) x)) mid (mid + m - s) b) ∧
    (∀ i j, a ≤ i → i < mid → mid ≤ j → j < b → kl key (f (ro s m (mid + m - s) i)) (f (ro s m (mid + m - s) j))) := by
  obtain ⟨c1, _, c3, c4, c5⟩ := hc
  have b1 : a ≤ s := by split at c1 <;> omega
  have b2 : s ≤ m := by split at c3 <;> omega
  have b3 : m ≤ mid + m - s := by split at c3 <;> omega
  have b4 : mid + m - s ≤ b := by split at c1 <;> omega
  have b5 : s ≤ mid := by omega
  have b6 : mid ≤ mid + m - s := by omega
  obtain ⟨E, hE⟩ : ∃ E, mid + m - s = E := ⟨_, rfl⟩
  have hmE : mid + m = s + E := by omega
  -- the boundary
  have left : ∀ i j, a ≤ i → i < s → E ≤ j → j < b → kl key (f i) (f j) := fun i j i1 i2 j1 j2 => by
    have hlt := h3 i j i1 (by omega) (by omega) j2
    have hk : key (f (s - 1)) ≤ key (f E) := by
      have := c4 (s - 1) (by split at c1 <;> split <;> omega) (by omega)
      rw [show mid + m - 1 - (s - 1) = E by omega] at this
      exact this
    have k1 : key (f i) ≤ key (f (s - 1)) := by
      by_cases e : i = s - 1
      · rw [e]; exact Int.le_refl _
      · have := h1 i (s - 1) i1 (by omega) (by omega); unfold kl at this; omega
    have k2 : key (f E) ≤ key (f j) := by
      by_cases e : E = j
      · rw [e]; exact Int.le_refl _
      · have := h2 E j (by omega) (by omega) j2; unfold kl at this; omega
    unfold kl; omega
  have right : ∀ i j, m ≤ i → i < E → s ≤ j → j < m → kl key (f i) (f j) := fun i j i1 i2 j1 j2 => by
    have hk : key (f (E - 1)) < key (f s) := by
      have := c5 s (Nat.le_refl _) (by split at c3 <;> split <;> omega)
      rw [show mid + m - 1 - s = E - 1 by omega] at this
      exact this
    have k1 : key (f i) ≤ key (f (E - 1)) := by
      by_cases e : i = E - 1
      · rw [e]; exact Int.le_refl _
      · have := h2 i (E - 1) i1 (by omega) (by omega); unfold kl at this; omega
    have k2 : key (f s) ≤ key (f j) := by
      by_cases e : s = j
      · rw [e]; exact Int.le_refl _
      · have := h1 s j b1 (by omega) j2; unfold kl at this; omega
    unfold kl; omega
  have r1 : ∀ x, x < s → ro s m E x = x := fun x hx => by unfold ro; rw [if_neg (by omega), if_neg (by omega)]
  have r2 : ∀ x, s ≤ x → x < mid → ro s m E x = x - s + m := fun x h4 h5 => by unfold ro; rw [if_pos (by omega)]
  have r3 : ∀ x, mid ≤ x → x < E → ro s m E x = x - (E - m) := fun x h4 h5 => by unfold ro; rw [if_neg (by omega), if_pos (by omega)]
  have r4 : ∀ x, E ≤ x → ro s m E x = x := fun x h4 => by unfold ro; rw [if_neg (by omega), if_neg (by omega)]
  rw [hE]
  rw [hE] at b3 b4 b6
  refine ⟨b1, b2, b3, b4, b5, b6, ⟨fun i j i1 i2 i3 => ?_, fun i j i1 i2 i3 => ?_, fun i j i1 i2 i3 i4 => ?_⟩, ⟨fun i j i1 i2 i3 => ?_, fun i j i1 i2 i3 => ?_, fun i j i1 i2 i3 i4 => ?_⟩, fun i j i1 i2 i3 i4 => ?_⟩
  · simp only; rw [r1 i (by omega), r1 j i3]; exact h1 i j i1 i2 (by omega)
  · simp only; rw [r2 i i1 (by omega), r2 j (by omega) i3]; exact h2 _ _ (by omega) (by omega) (by omega)
  · simp only; rw [r1 i i2, r2 j i3 i4]; exact h3 _ _ i1 (by omega) (by omega) (by omega)
  · simp only; rw [r3 i i1 (by omega), r3 j (by omega) i3]; exact h1 _ _ (by omega) (by omega) (by omega)
  · simp only; rw [r4 i i1, r4 j (by omega)]; exact h2 _ _ (by omega) i2 i3
  · simp only; rw [r3 i i1 i2, r4 j i3]; exact h3 _ _ (by omega) (by omega) (by omega) i4
  · by_cases e1 : i < s
    · rw [r1 i e1]
      by_cases e2 : j < E
      · rw [r3 j i3 e2]; exact h1 _ _ i1 (by omega) (by omega)
      · rw [r4 j (by omega)]; exact left i j i1 e1 (by omega) i4
    · rw [r2 i (by omega) i2]
      by_cases e2 : j < E
      · rw [r3 j i3 e2]; exact right _ _ (by omega) (by omega) (by omega) (by omega)
      · rw [r4 j (by omega)]; exact h2 _ _ (by omega) (by omega) i4

/-- Both halves merged: the whole. -/
theorem join_ok {key : Nat → Int} {f g1 g2 : Nat → Nat} {a mid b : Nat} (h1 : a ≤ mid) (h2 : mid ≤ b) (hx : ∀ i j, a ≤ i → i < mid → mid ≤ j → j < b → kl key (f i) (f j)) (m1 : Mrg key a mid f g1) (m2 : Mrg key mid b g1 g2) : Mrg key a b f g2 := by
  obtain ⟨⟨s, s1, s2⟩, s3⟩ := m1
  obtain ⟨⟨t, t1, t2⟩, t3⟩ := m2
  refine ⟨⟨fun x => s (t x), (s1.mono (Nat.le_refl _) h2).comp (t1.mono h1 (Nat.le_refl _)), fun x => by rw [t2, s2]⟩, fun i j i1 i2 i3 => ?_⟩
  by_cases e1 : j < mid
  · rw [t2, t2, t1.out i (by omega), t1.out j (by omega)]
    exact s3 i j i1 i2 e1
  · by_cases e2 : mid ≤ i
    · exact t3 i j e2 i2 i3
    · rw [t2, t2, t1.out i (by omega), s2, s2]
      have hi := s1.inn i i1 (by omega)
      have hj := t1.inn j (by omega) i3
      rw [s1.out (t j) (by omega)]
      exact hx _ _ hi.1 hi.2 hj.1 hj.2
theorem pre_ok {key : Nat → Int} {f g : Nat → Nat} {s : Nat → Nat} {a b : Nat} (hs : Sg a b s) (m : Mrg key a b (fun x => f (s x)) g) : Mrg key a b f g := by
  obtain ⟨⟨t, t1, t2⟩, t3⟩ := m
  exact ⟨⟨fun x => s (t x), hs.comp t1, fun x => by rw [t2]⟩, t3⟩

/-- One element goes to its place among those behind it. -/
def fw (a i x : Nat) : Nat := if a ≤ x ∧ x + 1 < i then x + 1 else if x + 1 = i ∧ a ≤ x then a else x
theorem fw_sg {a i b : Nat} (h : i ≤ b) : Sg a b (fw a i) := by
  refine ⟨fun x hx => ?_, fun x h1 h2 => ?_, fun x y e => ?_⟩
  · unfold fw; rw [if_neg (by omega), if_neg (by omega)]
  · unfold fw
    split
    · omega
    · split <;> omega
  · unfold fw at e
    split at e
    · split at e
      · omega
      · split at e <;> omega
    · split at e
      · split at e
        · omega
        · split at e <;> omega
      · split at e
        · omega
        · split at e <;> omega
theorem fw_start (a x : Nat) : fw a (a + 1) x = x := by
  unfold fw
  rw [if_neg (by omega)]
  split <;> omega
theorem fw_succ {a k : Nat} (h : a ≤ k) (x : Nat) : fw a (k + 2) x = fw a (k + 1) (ex k (k + 1) x) := by
  unfold ex
  by_cases e1 : x = k
  · rw [if_pos e1]
    unfold fw
    rw [if_pos (by omega), if_neg (by omega), if_neg (by omega)]; omega
  · rw [if_neg e1]
    by_cases e2 : x = k + 1
    · rw [if_pos e2]
      unfold fw
      rw [if_neg (by omega), if_pos (by omega), if_neg (by omega), if_pos (by omega)]
    · rw [if_neg e2]
      unfold fw
      by_cases c : a ≤ x ∧ x + 1 < k + 2
      · rw [if_pos c, if_pos (by omega)]
      · rw [if_neg c, if_neg (by omega), if_neg (by omega), if_neg (by omega)]
theorem fw_ok {key : Nat → Int} {f : Nat → Nat} {a b i : Nat} (hab : a + 1 ≤ i) (hi : i ≤ b) (h2 : Srt key f (a + 1) b) (h3 : Crs f a (a + 1) b)
    (lo : ∀ h, a + 1 ≤ h → h < i → key (f h) < key (f a)) (hi2 : ∀ h, i ≤ h → h < b → key (f a) ≤ key (f h)) : Mrg key a b f fun x => f (fw a i x) := by
  refine ⟨⟨_, fw_sg hi, fun _ => rfl⟩, fun p q p1 p2 p3 => ?_⟩
  have f1 : ∀ x, a ≤ x → x + 1 < i → fw a i x = x + 1 := fun x h h' => by unfold fw; rw [if_pos ⟨h, h'⟩]
  have f2 : fw a i (i - 1) = a := by unfold fw; rw [if_neg (by omega), if_pos (by omega)]
  have f3 : ∀ x, i ≤ x → fw a i x = x := fun x h => by unfold fw; rw [if_neg (by omega), if_neg (by omega)]
  by_cases c1 : p + 1 < i
  · rw [f1 p p1 c1]
    by_cases d1 : q + 1 < i
    · rw [f1 q (by omega) d1]; exact h2 _ _ (by omega) (by omega) (by omega)
    · by_cases d2 : q + 1 = i
      · obtain rfl : q = i - 1 := by omega
        rw [f2]; exact .inl (lo _ (by omega) c1)
      · rw [f3 q (by omega)]; exact h2 _ _ (by omega) (by omega) p3
  · by_cases c2 : p + 1 = i
    · obtain rfl : p = i - 1 := by omega
      rw [f2, f3 q (by omega)]
      have k1 := hi2 q (by omega) p3
      have k2 := h3 a q (Nat.le_refl _) (by omega) (by omega) p3
      unfold kl; omega
    · rw [f3 p (by omega), f3 q (by omega)]; exact h2 _ _ (by omega) p2 p3
/-- One element goes to its place among those before it. -/
def bw (i m x : Nat) : Nat := if x = i ∧ i ≤ m then m else if i < x ∧ x ≤ m then x - 1 else x
theorem bw_sg {i m b : Nat} {a : Nat} (h0 : a ≤ i) (h : m < b) : Sg a b (bw i m) := by
  refine ⟨fun x hx => ?_, fun x h1 h2 => ?_, fun x y e => ?_⟩
  · unfold bw; rw [if_neg (by omega), if_neg (by omega)]
  · unfold bw
    split
    · omega
    · split <;> omega
  · unfold bw at e
    split at e
    · split at e
      · omega
      · split at e <;> omega
    · split at e
      · split at e
        · omega
        · split at e <;> omega
      · split at e
        · omega
        · split at e <;> omega
theorem bw_start (m x : Nat) : bw m m x = x := by
  unfold bw
  split
  · omega
  · rw [if_neg (by omega)]
theorem bw_succ {k m : Nat} (h : k + 1 ≤ m) (x : Nat) : bw k m x = bw (k + 1) m (ex (k + 1) k x) := by
  unfold ex
  by_cases e1 : x = k + 1
  · rw [if_pos e1]
    unfold bw
    rw [if_neg (by omega), if_pos (by omega), if_neg (by omega), if_neg (by omega)]; omega
  · rw [if_neg e1]
    by_cases e2 : x = k
    · rw [if_pos e2]
      unfold bw
      rw [if_pos (by omega), if_pos (by omega)]
    · rw [if_neg e2]
      unfold bw
      by_cases c : k < x ∧ x ≤ m
      · rw [if_neg (by omega), if_pos c, if_neg (by omega), if_pos (by omega)]
      · rw [if_neg (by omega), if_neg c, if_neg (by omega), if_neg (by omega)]
theorem bw_ok {key : Nat → Int} {f : Nat → Nat} {a m i : Nat} (hab : a ≤ i) (hi : i ≤ m) (h2 : Srt key f a m) (h3 : Crs f a m (m + 1))
    (lo : ∀ h, a ≤ h → h < i → key (f h) ≤ key (f m)) (hi2 : ∀ h, i ≤ h → h < m → key (f m) < key (f h)) : Mrg key a (m + 1) f fun x => f (bw i m x) := by
  refine ⟨⟨_, bw_sg hab (Nat.lt_succ_self m), fun _ => rfl⟩, fun p q p1 p2 p3 => ?_⟩
  have f1 : ∀ x, x < i → bw i m x = x := fun x h => by unfold bw; rw [if_neg (by omega), if_neg (by omega)]
  have f2 : bw i m i = m := by unfold bw; rw [if_pos ⟨rfl, hi⟩]
  have f3 : ∀ x, i < x → x ≤ m → bw i m x = x - 1 := fun x h h' => by unfold bw; rw [if_neg (by omega), if_pos ⟨h, h'⟩]
  by_cases c1 : p < i
  · rw [f1 p c1]
    by_cases d1 : q < i
    · rw [f1 q d1]; exact h2 _ _ p1 p2 (by omega)
    · by_cases d2 : q = i
      · subst d2
        rw [f2]
        have k1 := lo p p1 c1
        have k2 := h3 p m p1 (by omega) (Nat.le_refl _) (by omega)
        unfold kl; omega
      · rw [f3 q (by omega) (by omega)]; exact h2 _ _ p1 (by omega) (by omega)
  · by_cases c2 : p = i
    · subst c2
      rw [f2, f3 q (by omega) (by omega)]
      exact .inl (hi2 _ (by omega) (by omega))
    · rw [f3 p (by omega) (by omega), f3 q (by omega) (by omega)]; exact h2 _ _ (by omega) (by omega) (by omega)

end Go.Proofs.YthacjealoomioaaGreatDoor

/- The library's stable sort: blocks that grow (plain). -/
namespace Go.Proofs.YthacjealoomioaaGreatDoor
set_option linter.unusedVariables false
set_option linter.unusedSimpArgs false

/-- A block: its indexes are its own, and it is sorted. -/
structure Qb (key : Nat → Int) (f : Nat → Nat) (a b : Nat) : Prop where
  srt : Srt key f a b
  inn : ∀ x, a ≤ x → x < b → a ≤ f x ∧ f x < b
theorem Qb.congr {key : Nat → Int} {f g : Nat → Nat} {a b : Nat} (h : Qb key f a b) (e : ∀ x, a ≤ x → x < b → g x = f x) : Qb key g a b :=
  ⟨h.srt.congr e, fun x h1 h2 => by rw [e x h1 h2]; exact h.inn x h1 h2⟩
theorem Qb.crs {key : Nat → Int} {f : Nat → Nat} {a m b : Nat} (h1 : Qb key f a m) (h2 : Qb key f m b) : Crs f a m b := fun i j i1 i2 i3 i4 => by
  have := h1.inn i i1 i2
  have := h2.inn j i3 i4
  omega
theorem Qb.merge {key : Nat → Int} {f g : Nat → Nat} {a m b : Nat} (h1 : Qb key f a m) (h2 : Qb key f m b) (ham : a ≤ m) (hmb : m ≤ b) (hm : Mrg key a b f g) : Qb key g a b := by
  obtain ⟨⟨s, s1, s2⟩, s3⟩ := hm
  refine ⟨s3, fun x x1 x2 => ?_⟩
  rw [s2]
  have := s1.inn x x1 x2
  by_cases e : s x < m
  · have := h1.inn (s x) this.1 e; omega
  · have := h2.inn (s x) (by omega) this.2; omega
theorem Qb.of_id {key : Nat → Int} {f g : Nat → Nat} {a b : Nat} (hf : ∀ x, a ≤ x → x < b → f x = x) (hm : Mrg key a b f g) : Qb key g a b := by
  obtain ⟨⟨s, s1, s2⟩, s3⟩ := hm
  refine ⟨s3, fun x x1 x2 => ?_⟩
  have := s1.inn x x1 x2
  rw [s2, hf _ this.1 this.2]
  exact this

/-- Blocks of B from s on. -/
inductive Bks (key : Nat → Int) (N B : Nat) (f : Nat → Nat) : Nat → Prop
  | done {s : Nat} (h : N ≤ s) : Bks key N B f s
  | cons {s : Nat} (h : s < N) (q : Qb key f s (min (s + B) N)) (r : Bks key N B f (s + B)) : Bks key N B f s
/-- Blocks of B up to s. -/
inductive Pre (key : Nat → Int) (B : Nat) (f : Nat → Nat) : Nat → Prop
  | start : Pre key B f 0
  | snoc {s : Nat} (p : Pre key B f s) (q : Qb key f s (s + B)) : Pre key B f (s + B)

theorem Bks.congr {key : Nat → Int} {N B : Nat} {f g : Nat → Nat} {s : Nat} (h : Bks key N B f s) (e : ∀ x, s ≤ x → g x = f x) : Bks key N B g s := by
  induction h with
  | done h => exact .done h
  | cons h q r ih => exact .cons h (q.congr fun x h1 _ => e x h1) (ih fun x hx => e x (by omega))
theorem Pre.congr {key : Nat → Int} {B : Nat} {f g : Nat → Nat} {s : Nat} (h : Pre key B f s) (e : ∀ x, x < s → g x = f x) : Pre key B g s := by
  induction h with
  | start => exact .start
  | snoc p q ih => exact .snoc (ih fun x hx => e x (by omega)) (q.congr fun x _ h2 => e x h2)
theorem Pre.bks {key : Nat → Int} {N B : Nat} {f : Nat → Nat} {s : Nat} (hB : 0 < B) (h : Pre key B f s) (hs : s ≤ N) (k : Bks key N B f s) : Bks key N B f 0 := by
  induction h with
  | start => exact k
  | snoc p q ih =>
    refine ih (by omega) (.cons (by omega) ?_ k)
    rw [Nat.min_eq_left hs]; exact q
theorem Mrg.below {key : Nat → Int} {a b : Nat} {f g : Nat → Nat} (h : Mrg key a b f g) : ∀ x, x < a → g x = f x := fun x hx => h.ge (by omega)
theorem Mrg.above {key : Nat → Int} {a b : Nat} {f g : Nat → Nat} (h : Mrg key a b f g) : ∀ x, b ≤ x → g x = f x := fun x hx => h.ge (by omega)
theorem Mrg.sg {key : Nat → Int} {a b N : Nat} {f g : Nat → Nat} (h : Mrg key a b f g) (hb : b ≤ N) (hf : Sg 0 N f) : Sg 0 N g := by
  obtain ⟨⟨s, s1, s2⟩, _⟩ := h
  have hg : g = fun x => f (s x) := funext s2
  rw [hg]
  exact hf.comp (s1.mono (Nat.zero_le _) hb)
theorem Bks.two {key : Nat → Int} {N B : Nat} {f : Nat → Nat} {a : Nat} (h : Bks key N B f a) (hB : 0 < B) (hn : a + B < N) : Qb key f a (a + B) ∧ Qb key f (a + B) (min (a + B + B) N) ∧ Bks key N B f (a + B + B) := by
  cases h with
  | done h => omega
  | cons h q r =>
    rw [Nat.min_eq_left (by omega)] at q
    cases r with
    | done h => omega
    | cons h q2 r2 => exact ⟨q, q2, r2⟩
theorem Bks.grow {key : Nat → Int} {N B : Nat} {f : Nat → Nat} {a : Nat} (h : Bks key N B f a) (hn : N ≤ a + B) : Bks key N (B + B) f a := by
  cases h with
  | done h => exact .done h
  | cons h q r =>
    rw [Nat.min_eq_right hn] at q
    refine .cons h ?_ (.done (by omega))
    rw [Nat.min_eq_right (by omega)]; exact q
/-- Two blocks are one now, in the middle. -/
theorem Pre.step {key : Nat → Int} {N B : Nat} {f g : Nat → Nat} {a : Nat} (p : Pre key (B + B) f a) (h : Bks key N B f a) (hB : 0 < B) (hn : a + (B + B) ≤ N) (hm : Mrg key a (a + (B + B)) f g) : Pre key (B + B) g (a + (B + B)) ∧ Bks key N B g (a + (B + B)) := by
  obtain ⟨q1, q2, r⟩ := h.two hB (by omega)
  rw [Nat.min_eq_left (by omega), Nat.add_assoc] at q2
  rw [Nat.add_assoc] at r
  exact ⟨.snoc (p.congr hm.below) (q1.merge q2 (by omega) (by omega) hm), r.congr hm.above⟩
/-- .. at the end. -/
theorem Pre.last {key : Nat → Int} {N B : Nat} {f g : Nat → Nat} {a : Nat} (p : Pre key (B + B) f a) (h : Bks key N B f a) (hB : 0 < B) (h1 : a + B < N) (h2 : N < a + (B + B)) (hm : Mrg key a N f g) : Bks key N (B + B) g 0 := by
  obtain ⟨q1, q2, r⟩ := h.two hB h1
  rw [Nat.min_eq_right (by omega)] at q2
  refine (p.congr hm.below).bks (by omega) (by omega) (.cons (by omega) ?_ (.done (by omega)))
  rw [Nat.min_eq_right (by omega)]
  exact q1.merge q2 (by omega) (by omega) hm
theorem Pre.none {key : Nat → Int} {N B : Nat} {f : Nat → Nat} {a : Nat} (p : Pre key (B + B) f a) (h : Bks key N B f a) (hB : 0 < B) (ha : a ≤ N) (h1 : N ≤ a + B) : Bks key N (B + B) f 0 := p.bks (by omega) ha (h.grow h1)
/-- The first blocks. -/
theorem Pre.first {key : Nat → Int} {B : Nat} {f g : Nat → Nat} {a : Nat} (p : Pre key B f a) (hf : ∀ x, a ≤ x → f x = x) (hm : Mrg key a (a + B) f g) : Pre key B g (a + B) ∧ ∀ x, a + B ≤ x → g x = x :=
  ⟨.snoc (p.congr hm.below) (.of_id (fun x h1 _ => hf x h1) hm), fun x hx => by rw [hm.above x hx]; exact hf x (by omega)⟩
theorem Pre.firstLast {key : Nat → Int} {N B : Nat} {f g : Nat → Nat} {a : Nat} (p : Pre key B f a) (hB : 0 < B) (ha : a ≤ N) (h2 : N < a + B) (hf : ∀ x, a ≤ x → f x = x) (hm : Mrg key a N f g) : Bks key N B g 0 := by
  refine (p.congr hm.below).bks hB ha ?_
  by_cases e : a < N
  · refine .cons e ?_ (.done (by omega))
    rw [Nat.min_eq_right (by omega)]
    exact .of_id (fun x h1 _ => hf x h1) hm
  · exact .done (by omega)
theorem Bks.srt {key : Nat → Int} {N B : Nat} {f : Nat → Nat} (h : Bks key N B f 0) (hN : N ≤ B) : Srt key f 0 N := by
  cases h with
  | done h => exact fun i j h1 h2 h3 => by omega
  | cons h q r =>
    rw [Nat.min_eq_right (by omega)] at q
    exact q.srt

end Go.Proofs.YthacjealoomioaaGreatDoor

/- The stable sort gives the joints' order; their places. No program in sight. -/
namespace Go.Proofs.YthacjealoomioaaGreatDoor
set_option linter.unusedVariables false
set_option linter.unusedSimpArgs false

def keyJ (J : List Jt) (x : Nat) : Int := (JA J x).h
theorem rowF_id (N : Nat) : (rowF N fun x => x) = List.range N := by unfold rowF; exact List.map_id' _
theorem sort_ord {J : List Jt} {g : Nat → Nat} (hs : Sg 0 J.length g) (h : Srt (keyJ J) g 0 J.length) : rowF J.length g = ordJ J := by
  refine ord_unique ?_ ?_
  · have := hs.perm (Nat.le_refl _) fun x => x
    rw [rowF_id] at this
    rw [hsE_len]
    exact this
  · unfold rowF
    rw [List.pairwise_map, List.pairwise_iff_getElem]
    intro i j hi hj hij
    rw [List.length_range] at hi hj
    simp only [List.getElem_range]
    have h1 := h i j (Nat.zero_le _) hij hj
    have a := hs.inn i (Nat.zero_le _) hi
    have b := hs.inn j (Nat.zero_le _) hj
    unfold kl keyJ at h1
    unfold olt
    rw [hsE_w a.2, hsE_w b.2]
    exact h1

/-- Where the joints go: the first k of the order are placed. -/
def plF (n : Nat) (J : List Jt) (k i : Nat) : Nat := if rkJ J i < k then n + rkJ J i else 0
theorem plF_zero (n : Nat) (J : List Jt) : rowF J.length (plF n J 0) = List.replicate J.length 0 := by
  unfold rowF plF
  apply List.ext_getElem (by simp)
  intro i h1 h2
  simp
theorem plF_step {n k : Nat} {J : List Jt} (hk : k < J.length) : (rowF J.length (plF n J k)).set ((ordJ J).getD k 0) (n + k) = rowF J.length (plF n J (k + 1)) := by
  rw [rowF_set]
  refine rowF_congr fun x hx => ?_
  unfold putF plF
  by_cases e : x = (ordJ J).getD k 0
  · rw [if_pos e, e, rk_at hk, if_pos (Nat.lt_succ_self k)]
  · rw [if_neg e]
    have : rkJ J x ≠ k := fun e2 => e (by rw [← e2, at_rk hx])
    by_cases c : rkJ J x < k
    · rw [if_pos c, if_pos (by omega)]
    · rw [if_neg c, if_neg (by omega)]
end Go.Proofs.YthacjealoomioaaGreatDoor

/- The reader machine keeps its bounds. No program in sight. -/
namespace Go.Proofs.YthacjealoomioaaGreatDoor
set_option linter.unusedVariables false
set_option linter.unusedSimpArgs false

/-- What holds of the reader when p bytes were read. -/
structure RI (p : Nat) (st : RdS) : Prop where
  w : st.want ≤ 5
  j : 3 ≤ st.want → 0 < st.joints.length
  b : st.bg ≤ p
  l : st.leaves ≤ p
  jl : st.joints.length ≤ p
  sl : st.stack.length ≤ p
theorem RI.start : RI 0 rd0 := ⟨by decide, by decide, by decide, by decide, by decide, by decide⟩
theorem setLast_len (l : List Jt) (h : Int) : (setLast l h).length = l.length := by unfold setLast; rw [List.length_set]

theorem RI.dg {p : Nat} {st : RdS} (h : RI p st) (m : Bool) : RI (p + 1) (dgR st p m).1 := by
  unfold dgR
  split
  · exact ⟨by simp, by simp, Nat.le_succ p, by have := h.l; simp only; omega, by have := h.jl; simp only; omega, by have := h.sl; simp only; omega⟩
  · split
    · rename_i h4
      exact ⟨by simp, fun _ => h.j (by omega), Nat.le_succ p, by have := h.l; simp only; omega, by have := h.jl; simp only; omega, by have := h.sl; simp only; omega⟩
    · exact ⟨h.w, h.j, by have := h.b; simp only; omega, by have := h.l; simp only; omega, by have := h.jl; simp only; omega, by have := h.sl; simp only; omega⟩

/-- Behind a number: one leaf more at most. -/
theorem numR_keep (st : RdS) (ds : List UInt8) : (numR st ds).1.want = st.want ∧ (numR st ds).1.bg = st.bg ∧ (numR st ds).1.leaves ≤ st.leaves + 1 ∧ (numR st ds).1.joints.length = st.joints.length ∧ (numR st ds).1.stack = st.stack := by
  unfold numR
  split
  · split
    · exact ⟨rfl, rfl, Nat.le_refl _, rfl, rfl⟩
    · split
      · exact ⟨rfl, rfl, Nat.le_succ _, setLast_len _ _, rfl⟩
      · exact ⟨rfl, rfl, Nat.le_succ _, rfl, rfl⟩
  · exact ⟨rfl, rfl, Nat.le_succ _, rfl, rfl⟩

theorem RI.cls {p : Nat} {st : RdS} (hw : st.want ≤ 5) (hb : st.bg ≤ p) (hl : st.leaves ≤ p + 1) (hj : st.joints.length ≤ p) (hs : st.stack.length ≤ p) (c : Int) : RI (p + 1) (clsR st c).1 := by
  unfold clsR
  split
  · exact ⟨by simp, by simp, by simp only; omega, by simp only; omega, by simp only; omega, by simp only; omega⟩
  · split
    · refine ⟨by simp, by simp, by simp only; omega, by simp only; omega, by simp only; omega, ?_⟩
      simp only [List.length_set]; omega
    · refine ⟨by simp, fun _ => ?_, by simp only; omega, by simp only; omega, ?_, ?_⟩
      · simp
      · simp; omega
      · simp only [List.length_take]; omega

theorem RI.step {s : List UInt8} {p : Nat} {st : RdS} (h : RI p st) (c : Int) (hf : (stepR s p c st).2 = true) : RI (p + 1) (stepR s p c st).1 := by
  have hb := h.b; have hl := h.l; have hj := h.jl; have hs := h.sl
  unfold stepR at hf ⊢
  split
  · exact h.dg _
  · rename_i c1
    rw [if_neg c1] at hf
    split
    · refine ⟨by simp, by simp, by simp only; omega, by simp only; omega, by simp only; omega, ?_⟩
      simp; omega
    · rename_i c2
      rw [if_neg c2] at hf
      split
      · rename_i c3
        rw [if_pos c3] at hf
        have h3 : st.want = 3 := of_decide_eq_true hf
        exact ⟨by simp, fun _ => h.j (by omega), by simp only; omega, by simp only; omega, by simp only; omega, by simp only; omega⟩
      · rename_i c3
        rw [if_neg c3] at hf
        split
        · obtain ⟨k1, k2, k3, k4, k5⟩ := numR_keep st (_root_.Go.Proofs.YthacjealoomioaaGreatDoor.sl s st.bg p)
          exact RI.cls (by rw [k1]; exact h.w) (by rw [k2]; exact hb) (by omega) (by rw [k4]; exact hj) (by rw [k5]; exact hs) c
        · rename_i c4
          rw [if_neg c4] at hf
          exact absurd hf c4

end Go.Proofs.YthacjealoomioaaGreatDoor

/- What the reader has read is fit to be made a tree. No program in sight. -/
namespace Go.Proofs.YthacjealoomioaaGreatDoor
set_option linter.unusedVariables false
set_option linter.unusedSimpArgs false

/-- A code of a child, of m joints. -/
def CdOk (m : Nat) (c : Int) : Prop := (c < 0 → jx c < m) ∧ c < 4096
theorem CdOk.mono {m k : Nat} {c : Int} (h : CdOk m c) (hm : m ≤ k) : CdOk k c := ⟨fun h1 => Nat.lt_of_lt_of_le (h.1 h1) hm, h.2⟩
theorem CdOk.zero (m : Nat) : CdOk m 0 := ⟨fun h => by omega, by omega⟩
theorem CdOk.last {m : Nat} (h : 0 < m) : CdOk m (-(m : Int)) := ⟨fun _ => by unfold jx; omega, by omega⟩
def halves (l : List (Int × Bool)) : Nat := l.countP fun o => o.2
def HtOk (h : Int) : Prop := -9223372036854775808 ≤ h ∧ h < 9223372036854775808

theorem last_app {α : Type} (d : α) {l : List α} (h : l.length ≠ 0) : l = l.take (l.length - 1) ++ [l.getD (l.length - 1) d] := by
  apply List.ext_getElem?
  intro i
  rw [List.getElem?_append, List.length_take]
  by_cases e : i < l.length - 1
  · rw [if_pos (by omega), List.getElem?_take, if_pos e]
  · rw [if_neg (by omega)]
    by_cases e2 : i = l.length - 1
    · subst e2
      rw [show l.length - 1 - min (l.length - 1) l.length = 0 by omega, List.getD_eq_getElem?_getD, List.getElem?_eq_getElem (by omega)]
      rfl
    · rw [List.getElem?_eq_none (by omega), List.getElem?_eq_none (by simp; omega)]
theorem last_set {α : Type} (x : α) {l : List α} (h : l.length ≠ 0) : l.set (l.length - 1) x = l.take (l.length - 1) ++ [x] := by
  apply List.ext_getElem?
  intro i
  rw [List.getElem?_append, List.length_take, List.getElem?_set]
  by_cases e : i < l.length - 1
  · rw [if_neg (by omega), if_pos (by omega), List.getElem?_take, if_pos e]
  · by_cases e2 : i = l.length - 1
    · subst e2
      rw [if_pos rfl, if_pos (by omega), if_neg (by omega), show l.length - 1 - min (l.length - 1) l.length = 0 by omega]
      rfl
    · rw [if_neg (by omega), if_neg (by omega), List.getElem?_eq_none (by omega), List.getElem?_eq_none (by simp; omega)]
theorem halves_app (l r : List (Int × Bool)) : halves (l ++ r) = halves l + halves r := List.countP_append
theorem halves_set {l : List (Int × Bool)} {x : Int} (h : l.length ≠ 0) (hl : (l.getD (l.length - 1) (0, false)).2 = false) : halves (l.set (l.length - 1) (x, true)) = halves l + 1 := by
  rw [last_set _ h, halves_app]
  conv => rhs; rw [last_app (0, false) h, halves_app]
  unfold halves
  rw [List.countP_cons_of_pos (by rfl), List.countP_cons_of_neg (by rw [hl]; decide)]
  simp
theorem halves_take {l : List (Int × Bool)} (h : l.length ≠ 0) (hl : ¬ (l.getD (l.length - 1) (0, false)).2 = false) : halves (l.take (l.length - 1)) + 1 = halves l := by
  conv => rhs; rw [last_app (0, false) h, halves_app]
  unfold halves
  rw [List.countP_cons_of_pos (p := fun o : Int × Bool => o.2) (l := []) (by simpa using hl)]
  simp

structure RJ (s : List UInt8) (p : Nat) (st : RdS) : Prop where
  cn : st.joints.length + halves st.stack + (if 3 ≤ st.want then 1 else 0) ≤ st.leaves
  lv : st.leaves ≤ 4096
  jl : ∀ j ∈ st.joints, CdOk st.joints.length j.l
  jr : ∀ j ∈ st.joints, CdOk st.joints.length j.r
  jh : ∀ j ∈ st.joints, HtOk j.h
  sk : ∀ o ∈ st.stack, CdOk st.joints.length o.1
  nd : CdOk st.joints.length st.node
  dg : st.want = 2 → st.bg < p ∧ ∃ c, s[st.bg]? = some c ∧ c.toNat ≠ 45
theorem RJ.start (s : List UInt8) : RJ s 0 rd0 := ⟨by decide, by decide, fun j h => (by cases h), fun j h => (by cases h), fun j h => (by cases h), fun o h => (by cases h), CdOk.zero _, fun h => (by cases h)⟩

theorem sl_head {s : List UInt8} {a b : Nat} (h : a < b) {c : UInt8} (hc : s[a]? = some c) : ∃ r, _root_.Go.Proofs.YthacjealoomioaaGreatDoor.sl s a b = c :: r := by
  unfold _root_.Go.Proofs.YthacjealoomioaaGreatDoor.sl
  have : ((s.take b).drop a)[0]? = some c := by
    rw [List.getElem?_drop, List.getElem?_take, if_pos (by omega)]; exact hc
  cases hl : (s.take b).drop a with
  | nil => rw [hl] at this; cases this
  | cons x r => rw [hl] at this; injection this with this; subst this; exact ⟨r, rfl⟩
theorem ok_nonneg {l : List UInt8} {c : UInt8} {r : List UInt8} {v : Int} (hl : l = c :: r) (hc : c.toNat ≠ 45) (h : Lib.parseIntB 64 l = .ok v) : 0 ≤ v := by
  subst hl
  unfold Lib.parseIntB at h
  simp only [hc] at h
  split at h
  · cases h
  · cases h
  · split at h
    · cases h
    · split at h
      · rename_i hx
        exact absurd hx.1 (by simp)
      · injection h with h
        rw [if_neg (by simp)] at h
        omega

/-- Behind a number: a node is complete. -/
structure RN (st : RdS) : Prop where
  cn : st.joints.length + halves st.stack + 1 ≤ st.leaves
  lv : st.leaves ≤ 4096
  jl : ∀ j ∈ st.joints, CdOk st.joints.length j.l
  jr : ∀ j ∈ st.joints, CdOk st.joints.length j.r
  jh : ∀ j ∈ st.joints, HtOk j.h
  sk : ∀ o ∈ st.stack, CdOk st.joints.length o.1
  nd : CdOk st.joints.length st.node

theorem setLast_mem {l : List Jt} {v : Int} {j : Jt} (h : l.length ≠ 0) (hj : j ∈ setLast l v) : j ∈ l ∨ ∃ k ∈ l, j = ⟨k.l, k.r, v⟩ := by
  unfold setLast at hj
  rcases List.mem_or_eq_of_mem_set hj with hj | hj
  · exact .inl hj
  · refine .inr ⟨l.getD (l.length - 1) jt0, ?_, hj⟩
    rw [List.getD_eq_getElem?_getD, List.getElem?_eq_getElem (by omega)]
    exact List.getElem_mem _
theorem RJ.num {s : List UInt8} {p : Nat} {st : RdS} (h : RJ s p st) (hi : RI p st) (hf : (numR st (_root_.Go.Proofs.YthacjealoomioaaGreatDoor.sl s st.bg p)).2 = true) : RN (numR st (_root_.Go.Proofs.YthacjealoomioaaGreatDoor.sl s st.bg p)).1 := by
  have hcn := h.cn
  have hlv := h.lv
  unfold numR at hf ⊢
  cases hp : Lib.parseIntB 64 (_root_.Go.Proofs.YthacjealoomioaaGreatDoor.sl s st.bg p) with
  | ok v =>
    rw [hp] at hf
    simp only at hf ⊢
    have hb : HtOk v := by
      have := Lib.parseIntB_bounds hp
      unfold HtOk
      simpa using this
    by_cases e2 : st.want = 2
    · rw [if_pos e2] at hf ⊢
      simp only [Bool.and_eq_true, decide_eq_true_eq] at hf
      obtain ⟨g1, c, g2, g3⟩ := h.dg e2
      obtain ⟨r, hr⟩ := sl_head g1 g2
      have hv := ok_nonneg hr g3 hp
      rw [if_neg (by omega)] at hcn
      exact ⟨by simp only; omega, hf.2, h.jl, h.jr, h.jh, h.sk, fun h => by simp only at h; omega, hf.1⟩
    · rw [if_neg e2] at hf ⊢
      by_cases e5 : st.want = 5
      · rw [if_pos e5] at hf ⊢
        have hj := hi.j (by omega)
        rw [if_pos (by omega)] at hcn
        refine ⟨?_, hlv, fun j hm => ?_, fun j hm => ?_, fun j hm => ?_, fun o ho => ?_, ?_⟩
        · simp only [setLast_len]; exact hcn
        · simp only [setLast_len]
          rcases setLast_mem (by omega) hm with hm | ⟨k, hk, rfl⟩
          · exact h.jl j hm
          · exact h.jl k hk
        · simp only [setLast_len]
          rcases setLast_mem (by omega) hm with hm | ⟨k, hk, rfl⟩
          · exact h.jr j hm
          · exact h.jr k hk
        · rcases setLast_mem (by omega) hm with hm | ⟨k, hk, rfl⟩
          · exact h.jh j hm
          · exact hb
        · simp only [setLast_len]
          exact h.sk o ho
        · simp only [setLast_len]
          exact CdOk.last hj
      · rw [if_neg e5] at hf; cases hf
  | _ => rw [hp] at hf; cases hf
theorem RN.cls {st : RdS} (h : RN st) {s : List UInt8} {p : Nat} (c : Int) : RJ s p (clsR st c).1 := by
  have hcn := h.cn
  unfold clsR
  by_cases e1 : st.stack.length = 0
  · rw [if_pos e1]
    exact ⟨by simp only; rw [if_neg (by omega)]; omega, h.lv, h.jl, h.jr, h.jh, h.sk, h.nd, fun h => by cases h⟩
  · rw [if_neg e1]
    by_cases e2 : (st.stack.getD (st.stack.length - 1) (0, false)).2 = false
    · rw [if_pos e2]
      have hh := halves_set (x := st.node) e1 e2
      refine ⟨by simp only; rw [if_neg (by omega), hh]; omega, h.lv, h.jl, h.jr, h.jh, fun o ho => ?_, h.nd, fun h => by cases h⟩
      rcases List.mem_or_eq_of_mem_set ho with ho | rfl
      · exact h.sk o ho
      · exact h.nd
    · rw [if_neg e2]
      have hh := halves_take e1 e2
      have hm : st.stack.getD (st.stack.length - 1) (0, false) ∈ st.stack := by
        rw [List.getD_eq_getElem?_getD, List.getElem?_eq_getElem (by omega)]
        exact List.getElem_mem _
      have key : ∀ c, CdOk st.joints.length c → CdOk (st.joints ++ [(⟨(st.stack.getD (st.stack.length - 1) (0, false)).1, st.node, 0⟩ : Jt)]).length c := fun c hc => hc.mono (by simp)
      refine ⟨?_, h.lv, fun j hj => ?_, fun j hj => ?_, fun j hj => ?_, fun o ho => ?_, ?_, fun h => by cases h⟩
      · simp only
        rw [if_pos (by omega), List.length_append]
        simp only [List.length_singleton]
        omega
      · rcases List.mem_append.1 hj with hj | hj
        · exact key _ (h.jl j hj)
        · rw [List.mem_singleton] at hj; subst hj
          exact key _ (h.sk _ hm)
      · rcases List.mem_append.1 hj with hj | hj
        · exact key _ (h.jr j hj)
        · rw [List.mem_singleton] at hj; subst hj
          exact key _ h.nd
      · rcases List.mem_append.1 hj with hj | hj
        · exact h.jh j hj
        · rw [List.mem_singleton] at hj; subst hj
          exact ⟨by show (-9223372036854775808 : Int) ≤ 0; omega, by show (0 : Int) < 9223372036854775808; omega⟩
      · exact key _ (h.sk o (List.mem_of_mem_take ho))
      · exact key _ h.nd

theorem RJ.step {s : List UInt8} {p : Nat} {st : RdS} (h : RJ s p st) (hi : RI p st) {c : UInt8} (hc : s[p]? = some c) (hf : (stepR s p (c.toNat : Int) st).2 = true) : RJ s (p + 1) (stepR s p (c.toNat : Int) st).1 := by
  have hcn := h.cn
  unfold stepR at hf ⊢
  by_cases c1 : (48 ≤ (c.toNat : Int) ∧ (c.toNat : Int) ≤ 57) ∨ (c.toNat : Int) = 45
  · rw [if_pos c1] at hf ⊢
    unfold dgR at hf ⊢
    by_cases e1 : st.want = 0 ∨ st.want = 1
    · rw [if_pos e1] at hf ⊢
      simp only [Bool.not_eq_true', decide_eq_false_iff_not] at hf
      rw [if_neg (by omega)] at hcn
      exact ⟨by simp only; rw [if_neg (by omega)]; exact hcn, h.lv, h.jl, h.jr, h.jh, h.sk, h.nd, fun _ => ⟨Nat.lt_succ_self p, c, hc, by omega⟩⟩
    · rw [if_neg e1] at hf ⊢
      by_cases e4 : st.want = 4
      · rw [if_pos e4] at hf ⊢
        rw [if_pos (by omega)] at hcn
        exact ⟨by simp only; rw [if_pos (by omega)]; exact hcn, h.lv, h.jl, h.jr, h.jh, h.sk, h.nd, fun h => by cases h⟩
      · rw [if_neg e4]
        exact ⟨hcn, h.lv, h.jl, h.jr, h.jh, h.sk, h.nd, fun e => by obtain ⟨a, b⟩ := h.dg e; exact ⟨Nat.lt_succ_of_lt a, b⟩⟩
  · rw [if_neg c1] at hf ⊢
    by_cases c2 : (c.toNat : Int) = 40
    · rw [if_pos c2] at hf ⊢
      simp only [Bool.and_eq_true, decide_eq_true_eq] at hf
      rw [if_neg (by omega)] at hcn
      refine ⟨?_, h.lv, h.jl, h.jr, h.jh, fun o ho => ?_, h.nd, fun h => by cases h⟩
      · simp only
        rw [if_neg (by omega), halves_app]
        exact hcn
      · rcases List.mem_append.1 ho with ho | ho
        · exact h.sk o ho
        · rw [List.mem_singleton] at ho; subst ho; exact CdOk.zero _
    · rw [if_neg c2] at hf ⊢
      by_cases c3 : (c.toNat : Int) = 58
      · rw [if_pos c3] at hf ⊢
        have h3 : st.want = 3 := of_decide_eq_true hf
        rw [if_pos (by omega)] at hcn
        exact ⟨by simp only; rw [if_pos (by omega)]; exact hcn, h.lv, h.jl, h.jr, h.jh, h.sk, h.nd, fun h => by cases h⟩
      · rw [if_neg c3] at hf ⊢
        by_cases c4 : (numR st (_root_.Go.Proofs.YthacjealoomioaaGreatDoor.sl s st.bg p)).2 = true
        · rw [if_pos c4]
          exact (h.num hi c4).cls _
        · rw [if_neg c4] at hf
          exact absurd hf c4

end Go.Proofs.YthacjealoomioaaGreatDoor

/- The reader's rounds. No program in sight. -/
namespace Go.Proofs.YthacjealoomioaaGreatDoor
set_option linter.unusedVariables false
set_option linter.unusedSimpArgs false

theorem run_step {l : List UInt8} {p : Nat} {st : RdS} {c : UInt8} (hc : l[p]? = some c) : runB l p (l.drop p) st = if (stepR l p (c.toNat : Int) st).2 = true then runB l (p + 1) (l.drop (p + 1)) (stepR l p (c.toNat : Int) st).1 else stepR l p (c.toNat : Int) st := by
  obtain ⟨hp, e⟩ := List.getElem?_eq_some_iff.1 hc
  rw [List.drop_eq_getElem_cons hp, e, runB]

/-- p bytes were read. -/
structure RP (l : List UInt8) (p : Nat) (st : RdS) : Prop where
  run : runB l 0 l rd0 = runB l p (l.drop p) st
  ri : RI p st
  rj : RJ l p st
  pl : p ≤ l.length
/-- The reader's answer. -/
structure RdEnd (l : List UInt8) (st : RdS) (b : Bool) : Prop where
  tr : b = true → runB l 0 l rd0 = (st, true) ∧ st.want = 0 ∧ RJ l l.length st
  fl : b = false → progT (runB l 0 l rd0) = none

theorem RP.start (l : List UInt8) : RP l 0 rd0 := ⟨rfl, RI.start, RJ.start l, Nat.zero_le _⟩
theorem RP.step {l : List UInt8} {p : Nat} {st : RdS} (h : RP l p st) {c : UInt8} (hc : l[p]? = some c) (hf : (stepR l p (c.toNat : Int) st).2 = true) : RP l (p + 1) (stepR l p (c.toNat : Int) st).1 := by
  obtain ⟨hp, _⟩ := List.getElem?_eq_some_iff.1 hc
  refine ⟨?_, h.ri.step _ hf, h.rj.step h.ri hc hf, hp⟩
  rw [h.run, run_step hc, if_pos hf]
theorem progT_bad {r : RdS × Bool} (h : r.2 = false) : progT r = none := by
  unfold progT
  rw [if_neg (by rw [h]; simp)]
theorem RP.fail {l : List UInt8} {p : Nat} {st : RdS} (h : RP l p st) {c : UInt8} (hc : l[p]? = some c) (hf : (stepR l p (c.toNat : Int) st).2 = false) (st' : RdS) : RdEnd l st' false :=
  ⟨fun e => (by cases e), fun _ => by
    rw [h.run, run_step hc, if_neg (by rw [hf]; simp)]
    exact progT_bad hf⟩
theorem RP.last {l : List UInt8} {p : Nat} {st : RdS} (h : RP l p st) (hp : p = l.length) : RdEnd l st (decide (st.want = 0)) := by
  have hr := h.run
  subst hp
  rw [List.drop_length, runB] at hr
  refine ⟨fun e => ⟨hr, of_decide_eq_true e, h.rj⟩, fun e => ?_⟩
  rw [hr]
  have := of_decide_eq_false e
  unfold progT
  rw [if_neg (fun x => this x.2)]
theorem cls_high {st : RdS} {c : Int} (h : 128 ≤ c) : (clsR st c).2 = false := by
  unfold clsR
  split
  · exact decide_eq_false (by omega)
  · split
    · exact decide_eq_false (by omega)
    · exact decide_eq_false (by omega)
/-- What is no digit, no bracket and no colon. -/
theorem step_else {l : List UInt8} {p : Nat} {st : RdS} {c : Int} (h1 : ¬ ((48 ≤ c ∧ c ≤ 57) ∨ c = 45)) (h2 : ¬ c = 40) (h3 : ¬ c = 58) : stepR l p c st = if (numR st (sl l st.bg p)).2 = true then clsR (numR st (sl l st.bg p)).1 c else numR st (sl l st.bg p) := by
  unfold stepR
  rw [if_neg h1, if_neg h2, if_neg h3]
theorem RP.high {l : List UInt8} {p : Nat} {st : RdS} (h : RP l p st) {c : UInt8} (hc : l[p]? = some c) (h8 : 128 ≤ c.toNat) (st' : RdS) : RdEnd l st' false := by
  refine h.fail hc ?_ st'
  rw [step_else (by omega) (by omega) (by omega)]
  split
  · exact cls_high (by omega)
  · rename_i hf
    simpa using hf
theorem RdEnd.any {l : List UInt8} {st st' : RdS} (h : RdEnd l st false) : RdEnd l st' false := ⟨fun e => (by cases e), h.fl⟩

end Go.Proofs.YthacjealoomioaaGreatDoor

/- The program's rounds over the joints. No program in sight. -/
namespace Go.Proofs.YthacjealoomioaaGreatDoor
set_option linter.unusedVariables false
set_option linter.unusedSimpArgs false

theorem treeTo_none {n : Nat} {J : List Jt} {i : Nat} (h : treeTo n J i = none) : ∀ m, i ≤ m → treeTo n J m = none
  | 0, hm => by
    obtain rfl : i = 0 := by omega
    exact h
  | m + 1, hm => by
    by_cases e : i = m + 1
    · subst e; exact h
    · rw [treeTo, treeTo_none h m (by omega)]
theorem treeTo_stop {n : Nat} {J : List Jt} {i : Nat} {t : Tr} (h : treeTo n J i = some t) (hs : n + J.length ≤ max (nd n J (JA J i).l) (nd n J (JA J i).r)) (hi : i < J.length) : treeTo n J J.length = none := by
  refine treeTo_none (i := i + 1) ?_ _ hi
  rw [treeTo, h]
  simp only
  rw [if_pos hs]
theorem treeTo_next {n : Nat} {J : List Jt} {i : Nat} {t : Tr} (h : treeTo n J i = some t) (hs : ¬ n + J.length ≤ max (nd n J (JA J i).l) (nd n J (JA J i).r)) : treeTo n J (i + 1) = some (putJ n J t i) := by
  rw [treeTo, h]
  simp only
  rw [if_neg hs]
/-- The arrays' lengths. -/
structure TLen (M : Nat) (t : Tr) : Prop where
  l : t.left.length = M
  r : t.right.length = M
  p : t.par.length = M
  h : t.hgt.length = M
  s : t.siz.length = M
theorem treeTo_len {n : Nat} {J : List Jt} : ∀ {i : Nat} {t : Tr}, treeTo n J i = some t → TLen (n + J.length) t ∧ t.lv = n
  | 0, t, h => by
    injection h with h
    subst h
    exact ⟨⟨by simp [t0P], by simp [t0P], by simp [t0P], by simp [t0P], by simp [t0P]⟩, rfl⟩
  | i + 1, t, h => by
    rw [treeTo] at h
    cases hp : treeTo n J i with
    | none => rw [hp] at h; cases h
    | some t0 =>
      rw [hp] at h
      simp only at h
      split at h
      · cases h
      · injection h with h
        subst h
        obtain ⟨⟨a, b, c, d, e⟩, f⟩ := treeTo_len hp
        exact ⟨⟨by simp [putJ, a], by simp [putJ, b], by simp [putJ, c], by simp [putJ, d], by simp [putJ, e]⟩, f⟩
theorem treeTo_h64 {n : Nat} {J : List Jt} (hJ : ∀ j ∈ J, HtOk j.h) : ∀ {i : Nat} {t : Tr}, i ≤ J.length → treeTo n J i = some t → Hgt64 t
  | 0, t, hi, h => by
    injection h with h
    subst h
    intro x hx
    unfold t0P at hx ⊢
    simp only [List.length_replicate] at hx
    simp only
    rw [gi_rep hx]
    unfold In64
    omega
  | i + 1, t, hi, h => by
    rw [treeTo] at h
    cases hp : treeTo n J i with
    | none => rw [hp] at h; cases h
    | some t0 =>
      rw [hp] at h
      simp only at h
      split at h
      · cases h
      · injection h with h
        subst h
        have ih := treeTo_h64 hJ (by omega) hp
        intro x hx
        unfold putJ at hx ⊢
        simp only [List.length_set] at hx ⊢
        have hj : HtOk (JA J i).h := hJ _ (by
          unfold JA
          rw [List.getD_eq_getElem?_getD, List.getElem?_eq_getElem (by omega)]
          exact List.getElem_mem _)
        by_cases e : n + rkJ J i = x
        · subst e
          rw [gi_set_self hx]
          unfold HtOk at hj
          unfold In64
          omega
        · rw [gi_set_ne e]
          exact ih x hx
theorem RJ.prog64 {s : List UInt8} {p : Nat} {st : RdS} {b : Bool} (h : RJ s p st) {t : Tr} (ht : progT (st, b) = some t) : Hgt64 t := by
  unfold progT at ht
  split at ht
  · exact treeTo_h64 h.jh (Nat.le_refl _) ht
  · cases ht

end Go.Proofs.YthacjealoomioaaGreatDoor

/- The example of the chapter. No program in sight. -/
namespace Go.Proofs.YthacjealoomioaaGreatDoor
set_option linter.unusedVariables false
set_option linter.unusedSimpArgs false

def wF : List BT := [.node (.leaf 0) (.node (.leaf 1) (.leaf 2) 3) 4, .leaf 3]
def wS : List UInt8 := [40, 48, 44, 40, 49, 44, 50, 41, 58, 51, 41, 58, 52, 59, 51, 59]
def vF : List BT := [.node (.leaf 1) (.leaf 0) 5]
def vS : List UInt8 := [40, 49, 44, 48, 41, 58, 53, 59]
theorem itoa_dig {u : Nat} (h : u < 10) : Lib.itoa (u : Int) = [UInt8.ofNat (48 + u)] := by
  unfold Lib.itoa
  rw [if_neg (by omega), Int.toNat_natCast, Lib.decDigits, dif_pos h]
theorem wS_txt : wS = fTxt wF := by
  have d0 := itoa_dig (u := 0) (by omega)
  have d1 := itoa_dig (u := 1) (by omega)
  have d2 := itoa_dig (u := 2) (by omega)
  have d3 := itoa_dig (u := 3) (by omega)
  have d4 := itoa_dig (u := 4) (by omega)
  have e3 : (3 : Int) = ((3 : Nat) : Int) := rfl
  have e4 : (4 : Int) = ((4 : Nat) : Int) := rfl
  unfold wF fTxt
  simp only [List.flatMap_cons, List.flatMap_nil, BT.txt]
  rw [e3, e4, d0, d1, d2, d3, d4]
  rfl
theorem vS_txt : vS = fTxt vF := by
  have d0 := itoa_dig (u := 0) (by omega)
  have d1 := itoa_dig (u := 1) (by omega)
  have d5 := itoa_dig (u := 5) (by omega)
  have e5 : (5 : Int) = ((5 : Nat) : Int) := rfl
  unfold vF fTxt
  simp only [List.flatMap_cons, List.flatMap_nil, BT.txt]
  rw [e5, d0, d1, d5]
  rfl
def wJ : List Jt := [⟨1, 2, 3⟩, ⟨0, -1, 4⟩]
def vJ : List Jt := [⟨1, 0, 5⟩]
theorem wJ_ord : ordJ wJ = [0, 1] := (ord_unique (l := hsE wJ) (by decide) (by unfold olt; decide)).symm
theorem vJ_ord : ordJ vJ = [0] := (ord_unique (l := hsE vJ) (by decide) (by simp)).symm
theorem w_r0 : rkJ wJ 0 = 0 := by unfold rkJ; rw [wJ_ord]; rfl
theorem w_r1 : rkJ wJ 1 = 1 := by unfold rkJ; rw [wJ_ord]; rfl
theorem v_r0 : rkJ vJ 0 = 0 := by unfold rkJ; rw [vJ_ord]; rfl
def wT : Tr := ⟨4, [-1, -1, -1, -1, 1, 0], [-1, -1, -1, -1, 2, 4], [5, 4, 4, -1, 5, -1], [0, 0, 0, 0, 3, 4], [1, 1, 1, 1, 2, 3]⟩
def vT : Tr := ⟨2, [-1, -1, 1], [-1, -1, 0], [2, 2, -1], [0, 0, 5], [1, 1, 2]⟩
theorem w_tree : treeTo 4 wJ 2 = some wT := by
  have n1 : nd 4 wJ (JA wJ 0).l = 1 := rfl
  have n2 : nd 4 wJ (JA wJ 0).r = 2 := rfl
  have n3 : nd 4 wJ (JA wJ 1).l = 0 := rfl
  have n4 : nd 4 wJ (JA wJ 1).r = 4 := by
    have : nd 4 wJ (JA wJ 1).r = 4 + rkJ wJ 0 := rfl
    rw [this, w_r0]
  have p0 : putJ 4 wJ (t0P 4 2) 0 = ⟨4, [-1, -1, -1, -1, 1, -1], [-1, -1, -1, -1, 2, -1], [-1, 4, 4, -1, -1, -1], [0, 0, 0, 0, 3, 0], [1, 1, 1, 1, 2, 0]⟩ := by
    unfold putJ
    rw [n1, n2, w_r0]
    rfl
  have p1 : putJ 4 wJ ⟨4, [-1, -1, -1, -1, 1, -1], [-1, -1, -1, -1, 2, -1], [-1, 4, 4, -1, -1, -1], [0, 0, 0, 0, 3, 0], [1, 1, 1, 1, 2, 0]⟩ 1 = wT := by
    unfold putJ
    rw [n3, n4, w_r1]
    rfl
  rw [treeTo, treeTo, treeTo]
  simp only
  rw [n1, n2, if_neg (by decide)]
  simp only
  rw [n3, n4, if_neg (by decide), show wJ.length = 2 from rfl, p0, p1]
theorem v_tree : treeTo 2 vJ 1 = some vT := by
  have n1 : nd 2 vJ (JA vJ 0).l = 1 := rfl
  have n2 : nd 2 vJ (JA vJ 0).r = 0 := rfl
  have p0 : putJ 2 vJ (t0P 2 1) 0 = vT := by
    unfold putJ
    rw [n1, n2, v_r0]
    rfl
  rw [treeTo, treeTo]
  simp only
  rw [n1, n2, if_neg (by decide), show vJ.length = 1 from rfl, p0]
theorem w_ls : lsL wT = some [0, 1, 2, 3, 1, 0] := by decide
theorem v_ls : lsL vT = none := by decide
theorem run_w : progT (runB wS 0 wS rd0) = some wT := by
  obtain ⟨st, r1, r2, r3, r4⟩ := run_forest wF wS [] [] rd0 (by rw [wS_txt]; simp) rfl rfl (by
    intro b hb
    simp only [wF, List.mem_cons, List.not_mem_nil, or_false] at hb
    rcases hb with rfl | rfl
    · exact ⟨by simp [BT.Fit, In64], by decide⟩
    · exact ⟨by simp [BT.Fit], by decide⟩) (by decide)
  rw [← wS_txt] at r1
  have e : runB wS 0 wS rd0 = (st, true) := r1
  rw [e]
  unfold progT
  rw [if_pos ⟨rfl, r2⟩]
  simp only
  have e3 : st.leaves = 4 := r3
  have e4 : st.joints = wJ := r4
  rw [e3, e4]
  exact w_tree
theorem run_v : progT (runB vS 0 vS rd0) = some vT := by
  obtain ⟨st, r1, r2, r3, r4⟩ := run_forest vF vS [] [] rd0 (by rw [vS_txt]; simp) rfl rfl (by
    intro b hb
    simp only [vF, List.mem_cons, List.not_mem_nil, or_false] at hb
    subst hb
    exact ⟨by simp [BT.Fit, In64], by decide⟩) (by decide)
  rw [← vS_txt] at r1
  have e : runB vS 0 vS rd0 = (st, true) := r1
  rw [e]
  unfold progT
  rw [if_pos ⟨rfl, r2⟩]
  simp only
  have e3 : st.leaves = 2 := r3
  have e4 : st.joints = vJ := r4
  rw [e3, e4]
  exact v_tree
theorem w_txt : txtO wT = some wS := by
  unfold txtO
  rw [w_ls]
  simp only
  rw [wS_txt]
  rfl
theorem w_keep : keepT wS (progT (runB wS 0 wS rd0)) = some wT := by
  rw [run_w]
  unfold keepT
  simp only
  rw [if_pos w_txt]
theorem v_keep : keepT vS (progT (runB vS 0 vS rd0)) = none := by
  rw [run_v]
  unfold keepT
  simp only
  rw [if_neg]
  unfold txtO
  rw [v_ls]
  simp

end Go.Proofs.YthacjealoomioaaGreatDoor
