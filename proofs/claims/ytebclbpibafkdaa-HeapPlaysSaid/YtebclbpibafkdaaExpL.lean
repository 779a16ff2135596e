/- The statements' helpers of layer 35: same, works, filled. -/
import Derived.Test.YtebclbpibafkdaaDue2
import Derived.Test.YtebclbpibafkdaaHeapI
namespace Go.Proofs.Ytebclbpibafkdaa
set_option linter.unusedVariables false
set_option linter.unusedSimpArgs false
open Go.RowKit

/-- A slice of ints that reads as a list. -/
structure IntSl (w : World) (v : Value) (z : List Int) : Prop where
  frm : ∃ ao cap, v = .slice ao z.length cap
  cell : ∀ ao cap, v = .slice ao z.length cap → 0 < z.length → ∃ b, ao = some ⟨b, 0, none⟩ ∧ ∀ i, i < z.length → w.cell? ⟨b, i, none⟩ = some (.int .i64 (z.getD i 0))

theorem IntSl.of_owns {w : World} {e : TypeId} {v : Value} {z : List Int} (h : w.ownsRow 0 e 1 v z.length (z.map fun x => .int .i64 x)) : IntSl w v z := by
  refine ⟨owns_slice h, fun ao cap hv hl => ?_⟩
  obtain ⟨g, cap', hv', _, _, _, hc, _⟩ := owns_form h hl
  rw [hv] at hv'
  simp only [Value.slice.injEq] at hv'
  refine ⟨g, hv'.1, fun i hi => ?_⟩
  rw [hc i (by omega)]
  simp [hi]

theorem IntSl.of_blk {w : World} {e : TypeId} {b : Nat} {z : List Int} (h : Blk w b e (z.map fun x => .int .i64 x)) : IntSl w (.slice (some ⟨b, 0, none⟩) z.length z.length) z := by
  refine ⟨⟨_, _, rfl⟩, fun ao cap hv hl => ?_⟩
  simp only [Value.slice.injEq] at hv
  refine ⟨b, hv.1.symm, fun i hi => ?_⟩
  exact h.cell (by simp [hi])

def sameB (y z : List Int) : Bool := decide (y = z)

set_option maxHeartbeats 2000000 in
set_option maxRecDepth 100000 in
theorem same35 (w : World) (u v : Value) (y z : List Int) (hu : IntSl w u y) (hv : IntSl w v z) (hy : y.length ≤ 1000000) (hz : z.length ≤ 1000000) :
    Calls Try.prog 28 #[u, v] w (RetB (.bool (sameB y z)) w) := by
  obtain ⟨ao, cap, rfl⟩ := hu.frm
  obtain ⟨bo, dap, rfl⟩ := hv.frm
  have HU := Lib.hid hu
  have HV := Lib.hid hv
  clear hu hv
  by_cases hl : y.length = z.length
  · have t0 : ((y.length : Int) != (z.length : Int)) = false := by simp; omega
    have HL := Lib.hid hl
    obtain ⟨n, hn⟩ : ∃ n, n = y.length := ⟨_, rfl⟩
    have hn2 : n = z.length := hn.trans hl
    rw [← hn] at hy t0 ⊢
    rw [← hn2] at hz t0 ⊢
    have HN := Lib.hid hn
    have HN2 := Lib.hid hn2
    clear hl hn hn2
    go_enter Try.func28, Try.ntmps28
    go_wp2_with fail
    go_loopw [5] (fun s wr => ∃ k : Nat, k ≤ n ∧ s = .int .i64 k ∧ (∀ i, i < k → y.getD i 0 = z.getD i 0) ∧ Mod (fun _ => False) w wr) (fun s _ => n - (intOf s).toNat)
    case atStart => exact ⟨0, Nat.zero_le _, rfl, fun i hi => by omega, Mod.refl _ _⟩
    case round =>
      obtain ⟨k, hk, rfl, hall, hm⟩ := hrel
      have HA := Lib.hid hall
      have HM := Lib.hid hm
      clear hall
      by_cases hkn : k < n
      · obtain ⟨b, rfl, hc⟩ := HU.out.cell ao cap (by rw [← HN.out]) (by rw [← HN.out]; omega)
        obtain ⟨d, rfl, hd⟩ := HV.out.cell bo dap (by rw [← HN2.out]) (by rw [← HN2.out]; omega)
        have c1 := hc k (by rw [← HN.out]; exact hkn)
        have c2 := hd k (by rw [← HN2.out]; exact hkn)
        have c1' := (hm.cell (p := ⟨b, k, none⟩) (World.block_lt_of_cell? w _ c1) (fun h => h)).trans c1
        have c2' := (hm.cell (p := ⟨d, k, none⟩) (World.block_lt_of_cell? w _ c2) (fun h => h)).trans c2
        have HE : Hid (∀ p, p = y.getD k 0 → ∀ q, q = z.getD k 0 → (p = q → y.getD k 0 = z.getD k 0) ∧ (p ≠ q → y ≠ z)) := by
          rintro p rfl q rfl
          exact ⟨id, fun hne e => hne (by rw [e])⟩
        generalize hp : y.getD k 0 = p at c1' 
        generalize hq : z.getD k 0 = q at c2'
        have HP := Lib.hid hp
        have HQ := Lib.hid hq
        clear hp hq hc hd c1 c2 hm
        have t1 : (k : Int) < (n : Int) := by omega
        by_cases he : p = q
        · have t2 : (p != q) = false := by simp [he]
          have HEQ := Lib.hid he
          clear he
          go_wp2_with fail
          go_quiet (fail)
          go_wp2_with fail
          go_roundw
          case rel => exact ⟨k + 1, by omega, by go_num, fun i hi => by
            by_cases e : i < k
            · exact HA.out i e
            · obtain rfl : i = k := by omega
              rw [HP.out, HQ.out]; exact HEQ.out, HM.out.drewN _⟩
          case measure => simp [intOf]; omega
        · have t2 : (p != q) = true := by simp [he]
          have HNE := Lib.hid he
          clear he
          go_wp2_with fail
          go_quiet (fail)
          go_wp2_with fail
          go_ret
          refine ⟨ret_bool ?_, (HM.out.drewN _).below (Nat.le_refl _) (fun _ h => h.elim)⟩
          have : y ≠ z := fun e => HNE.out (by rw [← HP.out, ← HQ.out, e])
          simp [sameB, this]
      · obtain rfl : k = n := by omega
        clear hm
        go_wp2_with fail
        go_ret
        refine ⟨ret_bool ?_, HM.out.below (Nat.le_refl _) (fun _ h => h.elim)⟩
        have : y = z := by
          apply List.ext_getElem HL.out
          intro i h1 h2
          have := HA.out i (by rw [HN.out]; exact h1)
          simpa [h1, h2] using this
        simp [sameB, this]
  · have t0 : ((y.length : Int) != (z.length : Int)) = true := by rw [bne_iff_ne]; omega
    have HL := Lib.hid hl
    clear hl
    go_enter Try.func28, Try.ntmps28
    go_wp2_with fail
    go_ret
    have : y ≠ z := fun e => HL.out (by rw [e])
    exact ⟨ret_bool (by simp [sameB, this]), Below.refl _ _⟩

end Go.Proofs.Ytebclbpibafkdaa
