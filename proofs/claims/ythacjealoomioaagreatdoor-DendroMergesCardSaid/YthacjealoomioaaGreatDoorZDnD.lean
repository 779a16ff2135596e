/- DnD. -/
import Derived.Test.YthacjealoomioaaGreatDoorZGb
/- dsu: the sizes of the sets. No program in sight. -/
namespace Go.Proofs.YthacjealoomioaaGreatDoor
set_option linter.unusedVariables false
set_option linter.unusedSimpArgs false

/-- How many elements have a label. -/
def cls (n : Nat) (k : List Nat) (c : Nat) : Nat := (List.range n).countP fun v => decide (k.getD v 0 = c)

structure SzI (n : Nat) (k up : List Nat) (sz : List Int) (cnt : Int) : Prop where
  sz : ∀ r, r < n → up.getD r 0 = r → sz.getD r 0 = ((cls n k (k.getD r 0) : Nat) : Int)
  cnt : cnt = ((roots n k : Nat) : Int)

theorem cls_le (n : Nat) (k : List Nat) (c : Nat) : cls n k c ≤ n := by
  unfold cls
  have := List.countP_le_length (p := fun v => decide (k.getD v 0 = c)) (l := List.range n)
  rw [List.length_range] at this
  exact this

theorem cls_start {n r : Nat} (hr : r < n) : cls n (List.range n) r = 1 := by
  unfold cls
  have e : (List.range n).countP (fun v => decide ((List.range n).getD v 0 = r)) = (List.range n).countP (fun v => v == r) := by
    refine List.countP_congr fun v hv => ?_
    rw [List.mem_range] at hv
    rw [List.getD_eq_getElem?_getD, List.getElem?_range hv]
    simp
  rw [e]
  have := (List.nodup_range (n := n)).count (a := r)
  rw [if_pos (List.mem_range.2 hr)] at this
  exact this

theorem SzI.start (n : Nat) : SzI n (List.range n) (List.range n) (List.replicate n 1) n := by
  refine ⟨fun r hr _ => ?_, by rw [roots_start]⟩
  have e : (List.range n).getD r 0 = r := by rw [List.getD_eq_getElem?_getD, List.getElem?_range hr]; rfl
  rw [e, cls_start hr, List.getD_eq_getElem?_getD, List.getElem?_replicate, if_pos hr]
  rfl

/-- Each element has a root. -/
theorem DInv.root {n : Nat} {k up : List Nat} {h : Nat → Nat} {H : Nat} (d : DInv n k up h H) : ∀ s x, x < n → H - h x ≤ s → ∃ r, r < n ∧ up.getD r 0 = r ∧ k.getD r 0 = k.getD x 0
  | 0, x, hx, hs => by
    by_cases e : up.getD x 0 = x
    · exact ⟨x, hx, e, rfl⟩
    · have h1 := d.dec x hx e
      have h2 := d.bd _ (d.lt x hx)
      omega
  | s + 1, x, hx, hs => by
    by_cases e : up.getD x 0 = x
    · exact ⟨x, hx, e, rfl⟩
    · have h1 := d.dec x hx e
      have h2 := d.bd _ (d.lt x hx)
      obtain ⟨r, r1, r2, r3⟩ := d.root s (up.getD x 0) (d.lt x hx) (by omega)
      exact ⟨r, r1, r2, by rw [r3, d.lab x hx]⟩

theorem SzI.keep {n : Nat} {k up up1 : List Nat} {sz : List Int} {cnt : Int} {h : Nat → Nat} {H : Nat} (s : SzI n k up sz cnt) (d : DInv n k up h H) (d1 : DInv n k up1 h H) (hk : ∀ r, up.getD r 0 = r → up1.getD r 0 = r) : SzI n k up1 sz cnt := by
  refine ⟨fun r hr e => ?_, s.cnt⟩
  obtain ⟨r0, h1, h2, h3⟩ := d.root (H - h r) r hr (Nat.le_refl _)
  have := d1.one r0 r h1 hr (hk r0 h2) e h3
  subst this
  exact s.sz _ h1 h2

theorem countP_or {α : Type} {p q r : α → Bool} : ∀ {l : List α}, (∀ x ∈ l, r x = (p x || q x)) → (∀ x ∈ l, ¬ (p x = true ∧ q x = true)) → l.countP r = l.countP p + l.countP q
  | [], _, _ => rfl
  | a :: l, h1, h2 => by
    have ih := countP_or (l := l) (fun x hx => h1 x (List.mem_cons_of_mem _ hx)) (fun x hx => h2 x (List.mem_cons_of_mem _ hx))
    have e := h1 a List.mem_cons_self
    have f := h2 a List.mem_cons_self
    rw [List.countP_cons, List.countP_cons, List.countP_cons, ih, e]
    cases hp : p a with
    | true =>
      cases hq : q a with
      | true => exact absurd ⟨hp, hq⟩ f
      | false => simp; omega
    | false =>
      cases hq : q a with
      | true => simp; omega
      | false => simp

theorem cls_lo {n : Nat} {k : List Nat} {lo hi : Nat} (hk : k.length = n) (hne : lo ≠ hi) : cls n (relN k lo hi) lo = cls n k lo + cls n k hi := by
  unfold cls
  refine countP_or (fun v hv => ?_) (fun v hv => ?_)
  · rw [List.mem_range] at hv
    rw [relN_at (by omega)]
    generalize k.getD v 0 = y
    by_cases c : y = hi
    · rw [if_pos c]; simp [c]
    · rw [if_neg c]; simp [c]
  · simp only [decide_eq_true_eq]
    rintro ⟨h1, h2⟩
    exact hne (h1.symm.trans h2)
theorem cls_other {n : Nat} {k : List Nat} {lo hi c : Nat} (hk : k.length = n) (h1 : c ≠ lo) (h2 : c ≠ hi) : cls n (relN k lo hi) c = cls n k c := by
  unfold cls
  refine List.countP_congr fun v hv => ?_
  rw [List.mem_range] at hv
  rw [relN_at (by omega)]
  by_cases c' : k.getD v 0 = hi
  · rw [if_pos c']
    simp only [decide_eq_true_eq]
    omega
  · rw [if_neg c']

theorem SzI.join {n : Nat} {k up : List Nat} {sz : List Int} {cnt : Int} {h : Nat → Nat} {H : Nat} (s : SzI n k up sz cnt) (d : DInv n k up h H) (ko : KOk n k) (hul : up.length = n) (hzl : sz.length = n) (hn : n ≤ 65536) {x y : Nat} (hx : x < n) (hy : y < n) (ex : up.getD x 0 = x) (ey : up.getD y 0 = y) {lo hi : Nat}
    (hl : (k.getD x 0 = lo ∧ k.getD y 0 = hi) ∨ (k.getD x 0 = hi ∧ k.getD y 0 = lo)) (hlt : lo < hi) :
    SzI n (relN k lo hi) (up.set y x) (sz.set x (IntKind.i64.wrap (sz.getD x 0 + sz.getD y 0))) (IntKind.i64.wrap (cnt - 1)) := by
  have hkl := ko.len
  have hxy : x ≠ y := fun e => by subst e; omega
  have zx := s.sz x hx ex
  have zy := s.sz y hy ey
  have hsum : cls n (relN k lo hi) lo = cls n k (k.getD x 0) + cls n k (k.getD y 0) := by
    rw [cls_lo hkl (by omega)]
    rcases hl with ⟨h1, h2⟩ | ⟨h1, h2⟩
    · rw [h1, h2]
    · rw [h1, h2]; omega
  have b1 := cls_le n k (k.getD x 0)
  have b2 := cls_le n k (k.getD y 0)
  have hs : (up.set y x).getD y 0 = x := getD_set_self (by omega)
  have ho : ∀ z, z ≠ y → (up.set y x).getD z 0 = up.getD z 0 := fun z hz => getD_set_ne (fun e => hz e.symm)
  have hr : ∀ z, z < n → (relN k lo hi).getD z 0 = if k.getD z 0 = hi then lo else k.getD z 0 := fun z hz => relN_at (by omega)
  have hlo : lo < n ∧ k.getD lo 0 = lo := by
    rcases hl with ⟨h1, _⟩ | ⟨_, h2⟩
    · rw [← h1]; exact ⟨by have := ko.le x hx; omega, ko.idem x hx⟩
    · rw [← h2]; exact ⟨by have := ko.le y hy; omega, ko.idem y hy⟩
  have hhi : hi < n ∧ k.getD hi 0 = hi := by
    rcases hl with ⟨_, h2⟩ | ⟨h1, _⟩
    · rw [← h2]; exact ⟨by have := ko.le y hy; omega, ko.idem y hy⟩
    · rw [← h1]; exact ⟨by have := ko.le x hx; omega, ko.idem x hx⟩
  refine ⟨fun r hrn er => ?_, ?_⟩
  · have ry : r ≠ y := fun e => by rw [e, hs] at er; exact hxy er
    rw [ho r ry] at er
    have zr := s.sz r hrn er
    rw [hr r hrn]
    by_cases c : r = x
    · subst c
      have e1 : (sz.set r (IntKind.i64.wrap (sz.getD r 0 + sz.getD y 0))).getD r 0 = IntKind.i64.wrap (sz.getD r 0 + sz.getD y 0) := by
        rw [List.getD_eq_getElem?_getD, List.getElem?_set_self (by omega)]; rfl
      have e2 : (if k.getD r 0 = hi then lo else k.getD r 0) = lo := by
        rcases hl with ⟨h1, h2⟩ | ⟨h1, h2⟩
        · rw [h1, if_neg (by omega)]
        · rw [h1, if_pos rfl]
      rw [e1, e2, hsum, zr, zy, IntWalk.i64_in _ (by omega)]
      omega
    · have e1 : (sz.set x (IntKind.i64.wrap (sz.getD x 0 + sz.getD y 0))).getD r 0 = sz.getD r 0 := by
        rw [List.getD_eq_getElem?_getD, List.getElem?_set_ne (fun e => c e.symm), ← List.getD_eq_getElem?_getD]
      have k1 : k.getD r 0 ≠ k.getD x 0 := fun e => c (d.one r x hrn hx er ex e)
      have k2 : k.getD r 0 ≠ k.getD y 0 := fun e => ry (d.one r y hrn hy er ey e)
      have k3 : k.getD r 0 ≠ lo ∧ k.getD r 0 ≠ hi := by
        rcases hl with ⟨h1, h2⟩ | ⟨h1, h2⟩
        · rw [← h1, ← h2]; exact ⟨k1, k2⟩
        · rw [← h1, ← h2]; exact ⟨k2, k1⟩
      rw [e1, if_neg k3.2, cls_other hkl k3.1 k3.2, zr]
  · have hrj := roots_join ko hlo.1 hhi.1 hlo.2 hhi.2 hlt
    have hrn : roots n k ≤ n := by
      unfold roots
      have := List.countP_le_length (p := fun v => decide (k.getD v 0 = v)) (l := List.range n)
      rw [List.length_range] at this
      exact this
    rw [s.cnt, IntWalk.i64_in _ (by omega)]
    omega

/- Groups: where each class begins. -/
/-- The sum of the sizes of the classes with labels below c. -/
def bas (n : Nat) (k : List Nat) : Nat → Nat
  | 0 => 0
  | c + 1 => bas n k c + if k.getD c 0 = c then cls n k c else 0
/-- How many of the first i elements have a label. -/
def fil (k : List Nat) (i c : Nat) : Nat := (List.range i).countP fun v => decide (k.getD v 0 = c)
theorem bas_eq {n : Nat} {k : List Nat} (ko : KOk n k) : ∀ c, c ≤ n → bas n k c = (List.range n).countP fun v => decide (k.getD v 0 < c)
  | 0, _ => by
    have : (List.range n).countP (fun v => decide (k.getD v 0 < 0)) = 0 := by
      rw [List.countP_eq_zero]; intro a _; simp
    rw [this]; rfl
  | c + 1, hc => by
    rw [bas, bas_eq ko c (by omega)]
    by_cases e : k.getD c 0 = c
    · rw [if_pos e]
      unfold cls
      refine (countP_or (fun v _ => ?_) (fun v _ => ?_)).symm
      · generalize k.getD v 0 = y
        by_cases q : y = c
        · simp [q]
        · have : (y < c + 1) ↔ y < c := by omega
          simp [q, this]
      · simp only [decide_eq_true_eq]; omega
    · rw [if_neg e, Nat.add_zero]
      refine List.countP_congr fun v hv => ?_
      rw [List.mem_range] at hv
      simp only [decide_eq_true_eq]
      have : k.getD v 0 ≠ c := fun q => e (by rw [← q]; exact ko.idem v hv)
      omega
theorem bas_add {n : Nat} {k : List Nat} (ko : KOk n k) {c : Nat} (hc : c < n) (e : k.getD c 0 = c) : bas n k c + cls n k c ≤ n := by
  have h := bas_eq ko (c + 1) hc
  rw [bas, if_pos e] at h
  rw [h]
  have := List.countP_le_length (p := fun v => decide (k.getD v 0 < c + 1)) (l := List.range n)
  rw [List.length_range] at this
  exact this
theorem bas_le {n : Nat} {k : List Nat} (ko : KOk n k) {c : Nat} (hc : c ≤ n) : bas n k c ≤ n := by
  rw [bas_eq ko c hc]
  have := List.countP_le_length (p := fun v => decide (k.getD v 0 < c)) (l := List.range n)
  rw [List.length_range] at this
  exact this
theorem fil_succ (k : List Nat) (i c : Nat) : fil k (i + 1) c = fil k i c + if k.getD i 0 = c then 1 else 0 := by
  unfold fil
  rw [List.range_succ, List.countP_append]
  by_cases h : k.getD i 0 = c
  · rw [if_pos h, List.countP_cons_of_pos (by rw [decide_eq_true_eq]; exact h)]; rfl
  · rw [if_neg h, List.countP_cons_of_neg (by rw [decide_eq_true_eq]; exact h)]; rfl
theorem fil_lt {n : Nat} {k : List Nat} {i : Nat} (hi : i < n) : fil k i (k.getD i 0) < cls n k (k.getD i 0) := by
  have h1 := fil_succ k i (k.getD i 0)
  rw [if_pos rfl] at h1
  have h2 : fil k (i + 1) (k.getD i 0) ≤ cls n k (k.getD i 0) := by
    unfold fil cls
    have : List.range n = List.range (i + 1) ++ List.range' (i + 1) (n - (i + 1)) := by
      rw [List.range_eq_range', List.range_eq_range']
      have := List.range'_append_1 (s := 0) (m := i + 1) (n := n - (i + 1))
      rw [Nat.zero_add] at this
      rw [this]
      congr 1
      omega
    rw [this, List.countP_append]
    omega
  omega
/-- Where the next element of a label goes, when the first i elements are placed. -/
def nxV (n : Nat) (k : List Nat) (i c : Nat) : Nat := if k.getD c 0 = c ∧ c < i then bas n k c + fil k i c else 0
def nxG (n : Nat) (k : List Nat) (i : Nat) : List Nat := (List.range n).map (nxV n k i)
theorem nxG_len (n : Nat) (k : List Nat) (i : Nat) : (nxG n k i).length = n := by simp [nxG]
theorem nxG_at {n : Nat} {k : List Nat} {i c : Nat} (hc : c < n) : (nxG n k i).getD c 0 = nxV n k i c := by
  unfold nxG
  rw [List.getD_eq_getElem?_getD, List.getElem?_map, List.getElem?_range hc]; rfl
theorem nxG_zero (n : Nat) (k : List Nat) : nxG n k 0 = List.replicate n 0 := by
  refine list_ext (nxG_len n k 0) (by simp) fun c hc => ?_
  rw [nxG_at hc, nxV, if_neg (by omega), List.getD_eq_getElem?_getD, List.getElem?_replicate, if_pos hc]; rfl
theorem fil_self {n : Nat} {k : List Nat} (ko : KOk n k) {i : Nat} (hi : i ≤ n) : fil k i i = 0 := by
  unfold fil
  rw [List.countP_eq_zero]
  intro v hv
  rw [List.mem_range] at hv
  have := ko.le v (by omega)
  simp only [decide_eq_true_eq]
  omega
/-- A root is met: its class begins. -/
theorem nxG_root {n : Nat} {k : List Nat} (ko : KOk n k) {i : Nat} (hi : i < n) (e : k.getD i 0 = i) : ((nxG n k i).set i (bas n k i)).set i (bas n k i + 1) = nxG n k (i + 1) := by
  refine list_ext (n := n) (by simp [nxG_len]) (nxG_len _ _ _) fun c hc => ?_
  rw [nxG_at hc]
  by_cases q : c = i
  · subst q
    rw [getD_set_self (by rw [List.length_set, nxG_len]; exact hc), nxV, if_pos ⟨e, by omega⟩, fil_succ, if_pos e, fil_self ko (by omega)]
  · rw [getD_set_ne (fun h => q h.symm), getD_set_ne (fun h => q h.symm), nxG_at hc]
    unfold nxV
    rw [fil_succ k i c, if_neg (show ¬ k.getD i 0 = c from fun h => q (h.symm.trans e)), Nat.add_zero]
    by_cases p : k.getD c 0 = c ∧ c < i
    · rw [if_pos p, if_pos ⟨p.1, by omega⟩, Nat.add_zero]
    · rw [if_neg p, if_neg (fun h => p ⟨h.1, by omega⟩)]
/-- Another element is placed. -/
theorem nxG_step {n : Nat} {k : List Nat} (ko : KOk n k) {i : Nat} (hi : i < n) (e : k.getD i 0 ≠ i) : (nxG n k i).set (k.getD i 0) (nxV n k i (k.getD i 0) + 1) = nxG n k (i + 1) := by
  have hle := ko.le i hi
  have hid := ko.idem i hi
  refine list_ext (n := n) (by simp [nxG_len]) (nxG_len _ _ _) fun c hc => ?_
  rw [nxG_at hc]
  by_cases q : c = k.getD i 0
  · rw [← q, getD_set_self (by rw [nxG_len]; exact hc), nxV, nxV, q, if_pos ⟨hid, by omega⟩, if_pos ⟨hid, by omega⟩, fil_succ, if_pos rfl]
    omega
  · rw [getD_set_ne (fun h => q h.symm), nxG_at hc]
    unfold nxV
    rw [fil_succ k i c, if_neg (show ¬ k.getD i 0 = c from fun h => q h.symm), Nat.add_zero]
    by_cases p : k.getD c 0 = c ∧ c < i
    · rw [if_pos p, if_pos ⟨p.1, by omega⟩, Nat.add_zero]
    · rw [if_neg p, if_neg (fun h => p ⟨h.1, by
        have : c ≠ i := fun e' => e (by rw [← e']; exact h.1)
        omega⟩)]
theorem nxV_lt {n : Nat} {k : List Nat} (ko : KOk n k) {i : Nat} (hi : i < n) (e : k.getD i 0 ≠ i) : nxV n k i (k.getD i 0) < n := by
  have hle := ko.le i hi
  have hid := ko.idem i hi
  unfold nxV
  rw [if_pos ⟨hid, by omega⟩]
  have h1 := fil_lt (k := k) hi
  have h2 := bas_add ko (c := k.getD i 0) (by omega) hid
  omega
theorem cls_pos {n : Nat} {k : List Nat} {i : Nat} (hi : i < n) (e : k.getD i 0 = i) : 0 < cls n k i := by
  have := fil_lt (k := k) hi
  rw [e] at this
  omega
/-- How many roots there are below i. -/
def rtN (k : List Nat) (i : Nat) : Nat := (List.range i).countP fun v => decide (k.getD v 0 = v)
theorem rtN_succ (k : List Nat) (i : Nat) : rtN k (i + 1) = rtN k i + if k.getD i 0 = i then 1 else 0 := by
  unfold rtN
  rw [List.range_succ, List.countP_append]
  by_cases h : k.getD i 0 = i
  · rw [if_pos h, List.countP_cons_of_pos (by rw [decide_eq_true_eq]; exact h)]; rfl
  · rw [if_neg h, List.countP_cons_of_neg (by rw [decide_eq_true_eq]; exact h)]; rfl
theorem rtN_le (k : List Nat) (i : Nat) : rtN k i ≤ i := by
  unfold rtN
  have := List.countP_le_length (p := fun v => decide (k.getD v 0 = v)) (l := List.range i)
  rw [List.length_range] at this
  exact this
theorem rtN_end (n : Nat) (k : List Nat) : rtN k n = roots n k := rfl

end Go.Proofs.YthacjealoomioaaGreatDoor
