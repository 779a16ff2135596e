/- The reference of layer 23: count, Labels. -/
import Derived.Test.YthhddjknjnjbhaaLkU
import Derived.Test.YthhddjknjnjbhaaApp
namespace Go.Proofs.Ythhddjknjnjbhaa
set_option linter.unusedVariables false
set_option linter.unusedSimpArgs false
open Go.RowKit

theorem count_take {z : List Int} {x : Int} {k : Nat} (h : k < z.length) : (z.take (k + 1)).count x = (z.take k).count x + if z.getD k 0 = x then 1 else 0 := by
  have : z.getD k 0 = z[k] := by rw [List.getD_eq_getElem?_getD, List.getElem?_eq_getElem h]; rfl
  rw [List.take_succ_eq_append_getElem h, List.count_append, List.count_singleton, this]
  by_cases e : z[k] = x
  · simp [e]
  · simp [e]

set_option maxHeartbeats 2000000 in
theorem rcount_ok (w : World) (ao : Option Addr) (len cap b off : Nat) (z : List Int) (hz : InRow .i64 w ao len b off z) (hl : len ≤ 1000000000) (x : Int) :
    Calls Try.prog 29 #[.slice ao len cap, .int .i64 x] w (Ret (.int .i64 (z.count x : Nat)) w) := by
  have HZ := Lib.hid hz
  clear hz
  go_enter Try.func29, Try.ntmps29
  go_wp2_with fail
  go_loopw [5, 6] (fun s5 s6 wr => ∃ k : Nat, k ≤ len ∧ s6 = .int .i64 k ∧ s5 = .int .i64 ((z.take k).count x : Nat) ∧ wr = w) (fun _ s _ => len - (intOf s).toNat)
  case atStart => exact ⟨0, Nat.zero_le _, rfl, by simp, rfl⟩
  case round =>
    obtain ⟨k, hk, rfl, rfl, hwr⟩ := hrel
    subst hwr
    by_cases hkl : k < len
    · obtain rfl := HZ.out.adr (by omega)
      have c1 := HZ.out.cell k hkl
      have t1 : (k : Int) < (len : Int) := by omega
      have hct := count_take (x := x) (show k < z.length by rw [HZ.out.size]; exact hkl)
      have hle : (z.take k).count x ≤ k := Nat.le_trans List.count_le_length (by simp; omega)
      have HCT := Lib.hid hct
      obtain ⟨y, HY⟩ : ∃ y, Hid (z.getD k 0 = y) := ⟨_, rfl⟩
      obtain ⟨cn, HCN⟩ : ∃ cn, Hid ((z.take k).count x = cn) := ⟨_, rfl⟩
      rw [HY.out] at c1
      rw [HCN.out] at hle ⊢
      clear hct
      by_cases hy : y = x
      · have t2 : (y == x) = true := by simp [hy]
        have H := Lib.hid hy
        clear hy
        go_wp2_with fail
        go_roundw
        case rel =>
          refine ⟨k + 1, by omega, by go_num, ?_, by first | rfl | trivial⟩
          rw [HCT.out, HCN.out, if_pos (HY.out.trans H.out)]
          go_num
        case measure => simp [intOf]; omega
      · have t2 : (y == x) = false := by simp [hy]
        have H := Lib.hid hy
        clear hy
        go_wp2_with fail
        go_roundw
        case rel =>
          refine ⟨k + 1, by omega, by go_num, ?_, by first | rfl | trivial⟩
          rw [HCT.out, HCN.out, if_neg (by rw [HY.out]; exact H.out)]; rfl
        case measure => simp [intOf]; omega
    · obtain rfl : len = k := by omega
      have e : z.take len = z := List.take_of_length_le (by rw [HZ.out.size]; exact Nat.le_refl _)
      rw [e]
      go_wp2_with fail
      go_ret
      exact ⟨rfl, rfl⟩

def inBz (n : Nat) (l : List Int) : Prop := ∀ x ∈ l, 0 ≤ x ∧ x < (n : Int)

theorem mrunTo_in {n : Nat} {ms : List Mg} : ∀ {k : Nat} {now : List Int}, mrunTo n ms k = some now → inBz n now
  | 0, now, h => by
    injection h with h
    rw [← h]
    intro x hx
    obtain ⟨i, hi, rfl⟩ := List.mem_map.1 hx
    have := List.mem_range.1 hi
    omega
  | k + 1, now, h => by
    rw [mrunTo] at h
    obtain ⟨prev, h1, h2⟩ := Option.bind_eq_some_iff.1 h
    unfold mstep at h2
    split at h2
    · cases h2
    · rename_i hb
      injection h2 with h2
      rw [← h2]
      intro x hx
      obtain ⟨y, hy, rfl⟩ := List.mem_map.1 hx
      have hin := mrunTo_in h1 y hy
      unfold mbad at hb
      split
      · omega
      · exact hin

theorem mbad_iff {n : Nat} {now : List Int} (h : inBz n now) (x : Mg) : mbad n now x ↔ (x.B ≤ x.A ∨ now.count x.A = 0 ∨ now.count x.B = 0 ∨ x.S ≠ (now.count x.A : Int) + (now.count x.B : Int)) := by
  unfold mbad
  constructor
  · rintro (h1 | h1 | h1 | h1 | h1 | h1)
    · exact .inr (.inl (List.count_eq_zero.2 fun hh => by have := h _ hh; omega))
    · exact .inl h1
    · exact .inr (.inr (.inl (List.count_eq_zero.2 fun hh => by have := h _ hh; omega)))
    · exact .inr (.inl h1)
    · exact .inr (.inr (.inl h1))
    · exact .inr (.inr (.inr h1))
  · rintro (h1 | h1 | h1 | h1)
    · exact .inr (.inl h1)
    · exact .inr (.inr (.inr (.inl h1)))
    · exact .inr (.inr (.inr (.inr (.inl h1))))
    · exact .inr (.inr (.inr (.inr (.inr h1))))

end Go.Proofs.Ythhddjknjnjbhaa
