/- linkage: the program's rounds and the reference's. No program in sight. -/
import Derived.Test.YthhddjknjnjbhaaLkRc
namespace Go.Proofs.Ythhddjknjnjbhaa
set_option linter.unusedVariables false
set_option linter.unusedSimpArgs false

def lvf (l : List Nat) : Bool := !l.isEmpty
/-- The clusters that are there, in order. -/
def lv (cl : List (List Nat)) : List (List Nat) := cl.filter lvf
def pos (cl : List (List Nat)) (a : Nat) : Nat := ((cl.take a).filter lvf).length

def rdl (m : Int) (n : Nat) (d : List Int) (L : List (List Nat)) (i j : Nat) : Int × Int := distR m n d (L.getD i []) (L.getD j [])

def rRow (m : Int) (n : Nat) (d : List Int) (L : List (List Nat)) (s : Bs) (i : Nat) : Nat → Bs
  | 0 => s
  | j + 1 => if i < j then (rRow m n d L s i j).upd i j (rdl m n d L i j) else rRow m n d L s i j

def rTo (m : Int) (n : Nat) (d : List Int) (L : List (List Nat)) : Nat → Bs
  | 0 => Bs.none
  | i + 1 => rRow m n d L (rTo m n d L i) i L.length

theorem rRow_start (m : Int) (n : Nat) (d : List Int) (L : List (List Nat)) (s : Bs) (i : Nat) : ∀ j, j ≤ i + 1 → rRow m n d L s i j = s
  | 0, _ => rfl
  | j + 1, h => by
    rw [rRow, if_neg (by omega)]
    exact rRow_start m n d L s i j (by omega)

theorem lvf_true {l : List Nat} (h : l ≠ []) : lvf l = true := by cases l with | nil => exact absurd rfl h | cons => rfl
theorem lvf_false {l : List Nat} (h : l = []) : lvf l = false := by rw [h]; rfl

theorem CL_get {cl : List (List Nat)} {a : Nat} (h : a < cl.length) : cl[a] = CL cl a := by
  unfold CL; rw [List.getD_eq_getElem?_getD, List.getElem?_eq_getElem h]; rfl

theorem pos_succ {cl : List (List Nat)} {a : Nat} (h : a < cl.length) : pos cl (a + 1) = pos cl a + if CL cl a = [] then 0 else 1 := by
  unfold pos
  rw [List.take_succ_eq_append_getElem h, List.filter_append, List.length_append, CL_get h]
  by_cases e : CL cl a = []
  · rw [if_pos e]; simp [List.filter_cons, lvf_false e]
  · rw [if_neg e]; simp [List.filter_cons, lvf_true e]

theorem pos_end (cl : List (List Nat)) : pos cl cl.length = (lv cl).length := by simp [pos, lv]

theorem pos_mono {cl : List (List Nat)} {a : Nat} : ∀ {b : Nat}, a ≤ b → b ≤ cl.length → pos cl a ≤ pos cl b
  | 0, h, _ => by rw [show a = 0 by omega]; exact Nat.le_refl _
  | b + 1, h, hb => by
    by_cases e : a = b + 1
    · rw [e]; exact Nat.le_refl _
    · have := pos_mono (cl := cl) (a := a) (b := b) (by omega) (by omega)
      rw [pos_succ (by omega)]
      omega

theorem pos_lt {cl : List (List Nat)} {a b : Nat} (hab : a < b) (hb : b ≤ cl.length) (ha : CL cl a ≠ []) : pos cl a < pos cl b := by
  have h1 := pos_succ (cl := cl) (a := a) (by omega)
  rw [if_neg ha] at h1
  have h2 := pos_mono (cl := cl) (a := a + 1) (b := b) hab hb
  omega

theorem lv_get {cl : List (List Nat)} {a : Nat} (h : CL cl a ≠ []) : (lv cl).getD (pos cl a) [] = CL cl a := by
  have hl := CL_lt h
  have e : cl = cl.take a ++ CL cl a :: cl.drop (a + 1) := by rw [← CL_get hl, ← List.drop_eq_getElem_cons hl]; simp
  have e2 : lv cl = (cl.take a).filter lvf ++ CL cl a :: (cl.drop (a + 1)).filter lvf := by
    have : lv cl = (cl.take a ++ CL cl a :: cl.drop (a + 1)).filter lvf := by rw [← e]; rfl
    rw [this, List.filter_append, List.filter_cons, if_pos (lvf_true h)]
  rw [e2, List.getD_eq_getElem?_getD]
  unfold pos
  rw [List.getElem?_append_right (Nat.le_refl _), Nat.sub_self]
  rfl

theorem low_one (x : Int) (hx : 0 ≤ x) : lowN x 1 = x ∧ lowD x 1 = 1 := by
  unfold lowN lowD
  have : Nat.gcd x.toNat (1 : Int).toNat = 1 := by simp
  rw [this]
  simp

theorem low_mul {x y : Int} (hx : 0 ≤ x) (hy : 0 < y) : x = (Nat.gcd x.toNat y.toNat : Int) * lowN x y ∧ y = (Nat.gcd x.toNat y.toNat : Int) * lowD x y ∧ 0 < (Nat.gcd x.toNat y.toNat : Int) ∧ 0 ≤ lowN x y ∧ 0 < lowD x y := by
  obtain ⟨a, rfl⟩ := Int.eq_ofNat_of_zero_le hx
  obtain ⟨b, rfl⟩ := Int.eq_ofNat_of_zero_le (Int.le_of_lt hy)
  have hb : 0 < b := by omega
  have hg : 0 < Nat.gcd a b := Nat.gcd_pos_of_pos_right a hb
  unfold lowN lowD
  simp only [Int.toNat_natCast]
  have e1 := Nat.mul_div_cancel' (Nat.gcd_dvd_left a b)
  have e2 := Nat.mul_div_cancel' (Nat.gcd_dvd_right a b)
  have hq : 0 < b / Nat.gcd a b := Nat.div_pos (Nat.gcd_le_right a hb) hg
  rw [← Int.natCast_ediv, ← Int.natCast_ediv]
  refine ⟨?_, ?_, Int.natCast_pos.2 hg, Int.natCast_nonneg _, Int.natCast_pos.2 hq⟩
  · rw [← Int.natCast_mul, e1]
  · rw [← Int.natCast_mul, e2]

theorem less_low {x y p q : Int} (hx : 0 ≤ x) (hy : 0 < y) (hp : 0 ≤ p) (hq : 0 < q) : lessB (lowN x y, lowD x y) (lowN p q, lowD p q) = lessB (x, y) (p, q) := by
  obtain ⟨h1, h2, h3, _, _⟩ := low_mul hx hy
  obtain ⟨h4, h5, h6, _, _⟩ := low_mul hp hq
  unfold lessB
  simp only []
  generalize (Nat.gcd x.toNat y.toNat : Int) = g at *
  generalize (Nat.gcd p.toNat q.toNat : Int) = h at *
  generalize lowN x y = a at *
  generalize lowD x y = b at *
  generalize lowN p q = c at *
  generalize lowD p q = e at *
  have k : 0 < g * h := Int.mul_pos h3 h6
  have e1 : x * q = (g * h) * (a * e) := by rw [h1, h5]; simp only [Int.mul_assoc, Int.mul_left_comm, Int.mul_comm]
  have e2 : p * y = (g * h) * (c * b) := by rw [h4, h2]; simp only [Int.mul_assoc, Int.mul_left_comm, Int.mul_comm]
  rw [e1, e2]
  congr 1
  exact propext ⟨fun hh => Int.mul_lt_mul_of_pos_left hh k, fun hh => Int.lt_of_mul_lt_mul_left hh (Int.le_of_lt k)⟩

/-- The search, in the reference's numbers. -/
def mapB (cl : List (List Nat)) (s : Bs) : Bs := if s.a < 0 then Bs.none else ⟨pos cl s.a.toNat, pos cl s.b.toNat, lowN s.n s.d, lowD s.n s.d⟩

theorem dist_low {n : Nat} {m : Int} {d : List Int} {k : Nat} {sz bt : List Int} {cl : List (List Nat)} (hd : DOk n d) (h : LInv n m d k sz bt cl) {a b : Nat} (hp : PL n sz a b) :
    rdl m n d (lv cl) (pos cl a) (pos cl b) = (lowN (distL n m sz bt a b).1 (distL n m sz bt a b).2, lowD (distL n m sz bt a b).1 (distL n m sz bt a b).2) := by
  obtain ⟨ha, hb⟩ := h.ne_of_PL hp
  unfold rdl distL
  rw [lv_get ha, lv_get hb, h.btE a b (by have := hp.1; have := hp.2.1; omega) hp.2.1 (by have := hp.1; omega) ha hb]
  unfold distR
  by_cases h3 : m = 3
  · rw [if_pos h3, if_pos h3, h.szE, h.szE, h3]
    simp only [Int.natCast_mul]
  · rw [if_neg h3, if_neg h3]
    have := low_one (gap m n d (CL cl a) (CL cl b)) (gap_lim hd (by have := h.len1 a; have := hd.hn; omega) (by have := h.len1 b; have := hd.hn; omega)).1
    rw [this.1, this.2]

theorem num_pos {n : Nat} {m : Int} {sz bt : List Int} (hg : Good n m sz bt) {a b : Nat} (hp : PL n sz a b) : 0 ≤ (distL n m sz bt a b).1 ∧ 0 < (distL n m sz bt a b).2 := by
  have := hg.num a b hp.1 hp.2.1 hp.2.2.1 hp.2.2.2
  exact ⟨this.1, this.2.2.1⟩

theorem map_upd {n : Nat} {m : Int} {d : List Int} {k : Nat} {sz bt : List Int} {cl : List (List Nat)} (hd : DOk n d) (h : LInv n m d k sz bt cl) {s : Bs} (hs : BOk n m sz bt s) {a b : Nat} (hp : PL n sz a b) :
    mapB cl (s.upd a b (distL n m sz bt a b)) = (mapB cl s).upd (pos cl a) (pos cl b) (rdl m n d (lv cl) (pos cl a) (pos cl b)) := by
  have hg := h.good hd
  rw [dist_low hd h hp]
  have hn := num_pos hg hp
  generalize distL n m sz bt a b = f at *
  have e0 : mapB cl ⟨a, b, f.1, f.2⟩ = ⟨pos cl a, pos cl b, lowN f.1 f.2, lowD f.1 f.2⟩ := by
    unfold mapB; rw [if_neg (by simp)]; simp
  rcases hs with rfl | ⟨a0, b0, hp0, rfl⟩
  · have e1 : mapB cl Bs.none = Bs.none := by unfold mapB; rw [if_pos (by decide)]
    rw [e1]
    unfold Bs.upd
    rw [if_pos (.inl (by decide)), if_pos (.inl (by decide)), e0]
  · have hn0 := num_pos hg hp0
    generalize distL n m sz bt a0 b0 = f0 at *
    have e1 : mapB cl ⟨a0, b0, f0.1, f0.2⟩ = ⟨pos cl a0, pos cl b0, lowN f0.1 f0.2, lowD f0.1 f0.2⟩ := by
      unfold mapB; rw [if_neg (by simp)]; simp
    have hl : lessB (lowN f.1 f.2, lowD f.1 f.2) (lowN f0.1 f0.2, lowD f0.1 f0.2) = lessB f (f0.1, f0.2) := less_low hn.1 hn.2 hn0.1 hn0.2
    unfold Bs.upd
    rw [e1]
    simp only [hl]
    by_cases hc : lessB f (f0.1, f0.2) = true
    · rw [if_pos (.inr hc), if_pos (.inr hc), e0]
    · rw [if_neg (by rintro (hh | hh); omega; exact hc hh), if_neg (by rintro (hh | hh); omega; exact hc hh), e1]

theorem map_row {n : Nat} {m : Int} {d : List Int} {k : Nat} {sz bt : List Int} {cl : List (List Nat)} (hd : DOk n d) (h : LInv n m d k sz bt cl) {s : Bs} (hs : BOk n m sz bt s) {a : Nat} (ha : CL cl a ≠ []) :
    ∀ b, b ≤ n → mapB cl (bestRow n m sz bt s a b) = rRow m n d (lv cl) (mapB cl s) (pos cl a) (pos cl b)
  | 0, _ => by
    have : pos cl 0 = 0 := by simp [pos]
    rw [this]; rfl
  | b + 1, hb => by
    have ih := map_row hd h hs ha b (by omega)
    have hal : a < cl.length := CL_lt ha
    have hla := h.len
    have ha0 : sz.getD a 0 ≠ 0 := by
      rw [h.szE]
      have := List.length_pos_iff.2 ha
      omega
    rw [bestRow]
    by_cases hl : CL cl b = []
    · have h0 : sz.getD b 0 = 0 := by rw [h.szE, hl]; rfl
      rw [if_neg (by omega), ih, pos_succ (by omega), if_pos hl]
      rfl
    · have h0 : 0 < sz.getD b 0 := by
        rw [h.szE]
        have := List.length_pos_iff.2 hl
        omega
      rw [pos_succ (by omega), if_neg hl, rRow]
      by_cases hab : a < b
      · rw [if_pos ⟨hab, h0⟩, if_pos (pos_lt hab (by omega) ha), map_upd hd h (bestRow_ok ha0 hs b (by omega)) ⟨hab, by omega, ha0, h0⟩, ih]
      · have : pos cl b ≤ pos cl a := pos_mono (by omega) (by omega)
        rw [if_neg (by omega), if_neg (by omega), ih]

theorem map_to {n : Nat} {m : Int} {d : List Int} {k : Nat} {sz bt : List Int} {cl : List (List Nat)} (hd : DOk n d) (h : LInv n m d k sz bt cl) :
    ∀ a, a ≤ n → mapB cl (bestTo n m sz bt a) = rTo m n d (lv cl) (pos cl a)
  | 0, _ => by
    have : pos cl 0 = 0 := by simp [pos]
    rw [this]
    unfold mapB bestTo rTo
    rw [if_pos (by decide)]
  | a + 1, ha => by
    have ih := map_to hd h a (by omega)
    have hla := h.len
    rw [bestTo, pos_succ (by omega)]
    by_cases hl : CL cl a = []
    · rw [if_pos (by rw [h.szE, hl]; rfl), if_pos hl]
      exact ih
    · have ha0 : sz.getD a 0 ≠ 0 := by
        rw [h.szE]
        have := List.length_pos_iff.2 hl
        omega
      rw [if_neg ha0, if_neg hl, rTo, map_row hd h (bestTo_ok n m sz bt a) hl n (Nat.le_refl _), ih]
      congr 1
      rw [← hla, pos_end]

theorem map_best {n : Nat} {m : Int} {d : List Int} {k : Nat} {sz bt : List Int} {cl : List (List Nat)} (hd : DOk n d) (h : LInv n m d k sz bt cl) : rTo m n d (lv cl) (lv cl).length = mapB cl (bestTo n m sz bt n) := by
  have := map_to hd h n (Nat.le_refl _)
  rw [this, ← pos_end, h.len]

theorem lv_clU {cl : List (List Nat)} {a b : Nat} (hab : a < b) (hb : b < cl.length) (ha0 : CL cl a ≠ []) (hb0 : CL cl b ≠ []) :
    lv (clU cl a b) = (((lv cl).set (pos cl a) (CL cl a ++ CL cl b)).take (pos cl b)) ++ ((lv cl).set (pos cl a) (CL cl a ++ CL cl b)).drop (pos cl b + 1) := by
  obtain ⟨l1, A, l2, B, l3, rfl, h1, h2⟩ := split2 hab hb
  have hs := CL_split (A := A) (B := B) (l3 := l3) h1 h2 hab
  rw [hs.2.2, hs.1, hs.2.1]
  rw [hs.1] at ha0
  rw [hs.2.1] at hb0
  have eA := lvf_true ha0
  have eB := lvf_true hb0
  have eAB : lvf (A ++ B) = true := lvf_true (by simp [ha0])
  have eN : lvf ([] : List Nat) = false := rfl
  have p1 : pos (l1 ++ A :: (l2 ++ B :: l3)) a = (l1.filter lvf).length := by
    unfold pos
    rw [List.take_append_of_le_length (by omega), List.take_of_length_le (by omega)]
  have p2 : pos (l1 ++ A :: (l2 ++ B :: l3)) b = (l1.filter lvf).length + 1 + (l2.filter lvf).length := by
    unfold pos
    have : (l1 ++ A :: (l2 ++ B :: l3)).take b = l1 ++ A :: l2 := by
      rw [List.take_append, List.take_of_length_le (by omega), show b - l1.length = (b - a - 1) + 1 by omega, List.take_succ_cons, List.take_append_of_le_length (by omega), List.take_of_length_le (by omega)]
    rw [this, List.filter_append, List.filter_cons, if_pos eA]
    simp; omega
  have e1 : lv (l1 ++ A :: (l2 ++ B :: l3)) = l1.filter lvf ++ A :: (l2.filter lvf ++ B :: l3.filter lvf) := by
    unfold lv; simp [List.filter_append, List.filter_cons, eA, eB]
  have e2 : lv (l1 ++ (A ++ B) :: (l2 ++ [] :: l3)) = l1.filter lvf ++ (A ++ B) :: (l2.filter lvf ++ l3.filter lvf) := by
    unfold lv; simp [List.filter_append, List.filter_cons, eAB, eN]
  rw [p1, p2, e1, e2]
  generalize l1.filter lvf = f1
  generalize l2.filter lvf = f2
  generalize l3.filter lvf = f3
  rw [List.set_append_right _ _ (Nat.le_refl _), Nat.sub_self, List.set_cons_zero]
  have t1 : (f1 ++ (A ++ B) :: (f2 ++ B :: f3)).take (f1.length + 1 + f2.length) = f1 ++ (A ++ B) :: f2 := by
    rw [List.take_append, List.take_of_length_le (by omega), show f1.length + 1 + f2.length - f1.length = f2.length + 1 by omega, List.take_succ_cons, List.take_append_of_le_length (Nat.le_refl _), List.take_length]
  have t2 : (f1 ++ (A ++ B) :: (f2 ++ B :: f3)).drop (f1.length + 1 + f2.length + 1) = f3 := by
    rw [List.drop_append, List.drop_of_length_le (by omega), show f1.length + 1 + f2.length + 1 - f1.length = f2.length + 1 + 1 by omega, List.drop_succ_cons, List.drop_append, List.drop_of_length_le (by omega), show f2.length + 1 - f2.length = 1 by omega]
    rfl
  rw [t1, t2]
  simp

end Go.Proofs.Ythhddjknjnjbhaa
