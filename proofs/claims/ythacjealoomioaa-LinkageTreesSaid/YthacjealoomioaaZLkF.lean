/- linkage: pairs, the iterator over the pairs of clusters. -/
import Derived.Test.YthacjealoomioaaZMgS
import Derived.Test.YthacjealoomioaaZRange
namespace Go.Proofs.Ythacjealoomioaa.Lk
set_option linter.unusedVariables false
set_option linter.unusedSimpArgs false
open Go.RowKit Go.Shelf
attribute [local go_sem] Oper.semAt_some

set_option maxHeartbeats 400000 in
theorem pairs_any (c : Nat) (w : World) :
    Calls Try.prog 14 #[.pointer (some ⟨c, 0, none⟩)] w
      (Ret (.func (.func 35) #[] #[.pointer (some ⟨w.heap.size, 0, none⟩)]) (w.alloc (.cells #[.pointer (some ⟨c, 0, none⟩)] 55))) := by
  go_enter Try.func14, Try.ntmps14
  go_wp2
  go_ret
  exact ⟨rfl, rfl⟩

set_option maxHeartbeats 4000000 in
set_option maxRecDepth 100000 in
theorem pairs1_in (F : Nat) (c n : Nat) (m : Int) (sz : List Int) (v : Value) (bt : List Int) (pb L : Nat) (hn : n ≤ 128) (I : Bs → World → Prop)
    (hI : ∀ s W, I s W → W.cell? ⟨pb, 0, none⟩ = some (.pointer (some ⟨c, 0, none⟩)) ∧ CObj W c n m sz v bt) (W : World) (h : I Bs.none W)
    (hY : ∀ a b s W1, a < b → b < n → sz.getD a 0 ≠ 0 → 0 < sz.getD b 0 → I s W1 → YieldAt Fence.wide (F - 1) Try.prog L #[.int .i64 (a : Nat), .int .i64 (b : Nat)] W1
      fun e W' => e = .returned (.bool true) ∧ I (s.upd a b (distL n m sz bt a b)) W') :
    CallsIn Fence.wide F Try.prog 35 #[.func (.yield L) #[] #[], .pointer (some ⟨pb, 0, none⟩)] W
      fun e W' => (∃ v, e = .returned v) ∧ I (bestTo n m sz bt n) W' := by
  have H := Lib.hid h
  have HY := Lib.hid hY
  have HI := Lib.hid hI
  have c1 := (hI _ _ h).1
  have c0 := (hI _ _ h).2.c0
  clear h hY hI
  refine callsIn_of_wp Try.func35 rfl trivial ?_ rfl
  simp only [Try.ntmps35, List.size_toArray, List.length_cons, List.length_nil, Nat.reduceAdd, Nat.reduceSub, Array.replicate_succ, Array.replicate_zero, List.push_toArray, List.append_toArray, List.nil_append, List.cons_append]
  gi_wp2_with fail
  clear c1 c0
  gi_loopw [9] (fun s wr => ∃ a : Nat, a ≤ n ∧ s = .int .i64 a ∧ I (bestTo n m sz bt a) wr) (fun s _ => n - (intOf s).toNat)
  case atStart => exact ⟨0, Nat.zero_le _, rfl, H.out⟩
  case round =>
    obtain ⟨a, ha, rfl, hi⟩ := hrel
    have HA := Lib.hid hi
    have c1 := (HI.out _ _ hi).1
    have c0 := (HI.out _ _ hi).2.c0
    clear hi
    by_cases hak : a < n
    · have s1 := (HI.out _ _ HA.out).2.cs (i := a) (by omega)
      have i128 : (a : Int) < 128 := by omega
      obtain ⟨sa, HSA⟩ : ∃ sa, Hid (sz.getD a 0 = sa) := ⟨_, rfl⟩
      rw [HSA.out] at s1
      by_cases h0 : sa = 0
      · have t1 : (sa == 0) = true := by simp [h0]
        have H0 := Lib.hid h0
        clear h0
        gi_wp2_with fail
        go_roundw
        case rel => exact ⟨a + 1, by omega, by go_num, by rw [bestTo, if_pos (HSA.out.trans H0.out)]; exact HA.out⟩
        case measure => simp [intOf]; omega
      · have t1 : (sa == 0) = false := by simp [h0]
        have H0 := Lib.hid h0
        clear h0
        gi_wp2_with fail
        obtain ⟨wq, rfl⟩ : ∃ wq : World, wq = wr := ⟨_, rfl⟩
        clear c1 c0 s1
        gi_loopw [4] (fun s wr => ∃ b : Nat, a < b ∧ b ≤ n ∧ s = .int .i64 b ∧ I (bestRow n m sz bt (bestTo n m sz bt a) a b) wr) (fun s _ => n - (intOf s).toNat)
        case atStart => exact ⟨a + 1, by omega, by omega, by go_num, by rw [bestRow_start _ _ _ _ _ _ _ (Nat.le_refl _)]; exact HA.out⟩
        case round =>
          obtain ⟨b, hab, hb, rfl, hi⟩ := hrel
          have HB := Lib.hid hi
          have c1 := (HI.out _ _ hi).1
          have c0 := (HI.out _ _ hi).2.c0
          clear hi
          by_cases hbk : b < n
          · have s2 := (HI.out _ _ HB.out).2.cs (i := b) (by omega)
            have j128 : (b : Int) < 128 := by omega
            obtain ⟨sb, HSB⟩ : ∃ sb, Hid (sz.getD b 0 = sb) := ⟨_, rfl⟩
            rw [HSB.out] at s2
            by_cases h1 : 0 < sb
            · have t2 : decide (0 < sb) = true := by simp [h1]
              have H1 := Lib.hid h1
              clear h1
              obtain ⟨fn, tmps, assign, body, hy, hR⟩ := HY.out a b _ wr hab hbk (by rw [HSA.out]; exact H0.out) (by rw [HSB.out]; exact H1.out) HB.out
              have HR := Lib.hid hR
              clear hR
              gi_wp2_with fail
              refine ⟨fun h => by simp [Fence.wide] at h, HR.out.mono ?_⟩
              rintro e w5 ⟨rfl, hi5⟩
              have HI5 := Lib.hid hi5
              clear hi5 hy c1 c0 s2
              gi_wp2_with fail
              go_roundw
              case rel => exact ⟨b + 1, by omega, by omega, by go_num, by rw [bestRow, if_pos ⟨hab, by rw [HSB.out]; exact H1.out⟩]; exact HI5.out⟩
              case measure => simp [intOf]; omega
            · have t2 : decide (0 < sb) = false := by simp; omega
              have H1 := Lib.hid h1
              clear h1
              gi_wp2_with fail
              refine ⟨nofun, ?_⟩
              gi_wp2_with fail
              go_roundw
              case rel => exact ⟨b + 1, by omega, by omega, by go_num, by rw [bestRow, if_neg (fun hh => by have h1 := H1.out; have h2 := hh.2; rw [HSB.out] at h2; omega)]; exact HB.out⟩
              case measure => simp [intOf]; omega
          · obtain rfl : b = n := by omega
            gi_wp2_with fail
            go_roundw
            case rel => exact ⟨a + 1, by omega, by go_num, by rw [bestTo, if_neg (by rw [HSA.out]; exact H0.out)]; exact HB.out⟩
            case measure => simp [intOf]; omega
    · obtain rfl : a = n := by omega
      gi_wp2_with fail
      exact ⟨rfl, _, results_none rfl _ _ _, ⟨_, rfl⟩, HA.out⟩

end Go.Proofs.Ythacjealoomioaa.Lk
