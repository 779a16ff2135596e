/- linkage: the distances of unions. No program in sight. -/
import Derived.Test.YthacjealoomioaaZLkSt
import Derived.Test.YthacjealoomioaaZMgT
namespace Go.Proofs.Ythacjealoomioaa.Lk
set_option linter.unusedVariables false
set_option linter.unusedSimpArgs false

def zI (l : List Nat) : List Int := l.map fun x : Nat => (x : Int)

theorem toN_zI (l : List Nat) : toN (zI l) = l := by
  unfold toN zI
  rw [List.map_map]
  have : (Int.toNat ∘ fun x : Nat => (x : Int)) = id := by funext x; simp
  rw [this, List.map_id]

theorem zI_length (l : List Nat) : (zI l).length = l.length := by simp [zI]

theorem zI_append (a b : List Nat) : zI (a ++ b) = zI a ++ zI b := by simp [zI]

theorem zI_nodup {l : List Nat} (h : l.Nodup) : (zI l).Nodup := by
  unfold zI
  rw [List.nodup_iff_pairwise_ne] at h ⊢
  rw [List.pairwise_map]
  exact h.imp fun hab e => hab (by omega)

theorem low_one {g : Int} (hg : 0 ≤ g) : lowN g 1 = g ∧ lowD g 1 = 1 := by
  unfold lowN lowD
  simp

/-- What Between returns for two lists of different points. -/
theorem bet_val {k : Nat} {m : Int} {d : List Int} (hc : checkL k d = 0) (hm : m = 1 ∨ m = 2 ∨ m = 3) {A C : List Nat} (hA : ∀ x ∈ A, x < k) (hC : ∀ x ∈ C, x < k) (hn : (A ++ C).Nodup) :
    betL k d m (zI A) (zI C) = if A = [] ∨ C = [] then (0, 0, 2) else (lowN (gap m k d A C) (den m A C), lowD (gap m k d A C) (den m A C), 0) := by
  have iA : inB k (zI A) := fun x hx => by
    obtain ⟨y, hy, rfl⟩ := List.mem_map.1 hx
    have := hA y hy
    omega
  have iC : inB k (zI C) := fun x hx => by
    obtain ⟨y, hy, rfl⟩ := List.mem_map.1 hx
    have := hC y hy
    omega
  by_cases he : A = [] ∨ C = []
  · rw [if_pos he]
    have h2 : disL k (zI A) (zI C) = 2 := disL_empty iA iC (by
      rcases he with rfl | rfl
      · exact .inl rfl
      · exact .inr rfl)
    rw [betL_d hm hc (by rw [h2]; decide), h2]
  · rw [if_neg he]
    have hA0 : A ≠ [] := fun e => he (.inl e)
    have hC0 : C ≠ [] := fun e => he (.inr e)
    have h0 : disL k (zI A) (zI C) = 0 := disL_ok iA iC (by
      rw [zI_length, zI_length]
      have := List.length_pos_iff.2 hA0
      have := List.length_pos_iff.2 hC0
      omega) (by rw [← zI_append]; exact zI_nodup hn)
    by_cases h3 : m = 3
    · subst h3
      rw [betL_3 hc h0, toN_zI, toN_zI, zI_length, zI_length]
      unfold den
      rw [if_pos rfl, ← Int.natCast_mul]
    · rw [betL_1 hm h3 hc h0, toN_zI, toN_zI]
      have hg := gap_le_den hm (DOk.of_check hc) hA0 hC0
      have hl := low_one hg.1
      unfold den
      rw [if_neg h3, hl.1, hl.2]

theorem fr_comm {n : Nat} {m : Int} {d : List Int} (hd : DOk n d) {A B : List Nat} (hA : ∀ x ∈ A, x < n) (hB : ∀ x ∈ B, x < n) : gap m n d A B = gap m n d B A ∧ den m A B = den m B A :=
  ⟨gap_comm fun x hx y hy => hd.sym x y (hA x hx) (hB y hy), den_comm m A B⟩

/-- Both ways the same. -/
theorem bet_comm {k : Nat} {m : Int} {d : List Int} (hc : checkL k d = 0) (hm : m = 1 ∨ m = 2 ∨ m = 3) {A C : List Nat} (hA : ∀ x ∈ A, x < k) (hC : ∀ x ∈ C, x < k) (hn : (A ++ C).Nodup) :
    betL k d m (zI C) (zI A) = betL k d m (zI A) (zI C) := by
  have hn' : (C ++ A).Nodup := (List.perm_append_comm.nodup_iff).1 hn
  rw [bet_val hc hm hA hC hn, bet_val hc hm hC hA hn']
  obtain ⟨e1, e2⟩ := fr_comm (m := m) (DOk.of_check hc) hC hA
  rw [e1, e2]
  by_cases h : A = [] ∨ C = []
  · rw [if_pos h, if_pos h.symm]
  · rw [if_neg h, if_neg (fun e => h e.symm)]

/-- The parts of a fraction in lowest terms. -/
theorem low_parts {g e : Int} (hg : 0 ≤ g) (he : 0 < e) : lowN g e * (e / lowD g e) = g ∧ e % lowD g e = 0 := by
  obtain ⟨h1, _, h3, _⟩ := low_same hg he
  have hd : lowD g e ∣ e := by
    unfold lowD
    have hz : 0 < (Nat.gcd g.toNat e.toNat : Int) := by
      have : 0 < Nat.gcd g.toNat e.toNat := Nat.gcd_pos_of_pos_right _ (by omega)
      omega
    have hdv : (Nat.gcd g.toNat e.toNat : Int) ∣ e := by
      have := Nat.gcd_dvd_right g.toNat e.toNat
      have h2 := Int.natCast_dvd_natCast.2 this
      rwa [Int.toNat_of_nonneg (by omega)] at h2
    exact ⟨(Nat.gcd g.toNat e.toNat : Int), (Int.ediv_mul_cancel hdv).symm⟩
  refine ⟨?_, Int.emod_eq_zero_of_dvd hd⟩
  obtain ⟨t, ht⟩ := hd
  have hD : lowD g e ≠ 0 := by omega
  have : e / lowD g e = t := Int.ediv_eq_of_eq_mul_right hD ht
  rw [this]
  have h4 : lowN g e * t * lowD g e = g * lowD g e := by
    rw [Int.mul_assoc, Int.mul_comm t, ← ht, h1]
  exact Int.eq_of_mul_eq_mul_right hD h4

end Go.Proofs.Ythacjealoomioaa.Lk
