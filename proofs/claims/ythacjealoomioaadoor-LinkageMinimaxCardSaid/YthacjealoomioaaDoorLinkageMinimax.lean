/- the heights of single linkage over a graph's minimax distances are the weights of its forest, and the labels at a threshold are the graph's -/
import Derived.Test.YthacjealoomioaaDoorZLkMx
import Derived.Test.YthacjealoomioaaDoorRows
import Derived.WalkKit
import Derived.ProofKit
import Derived.OpenShut
import Derived.ShutString
import Derived.ChangeOld
import Derived.Below
import Derived.SevenTiedAt
import Derived.Test.YthacjealoomioaaDoorZMgV
namespace Go.Proofs.YthacjealoomioaaDoor.linkageMinimax
open Go.ChangeShapes Go.WideShapes Go.ChangeAt Go.RowKit
open Go.ChangeMaps (open_string shut_string)
set_option linter.unusedVariables false

theorem own : ownKnob Tryd.prog.godebug = none := by kernel_rfl
theorem laidOut : laidOutB Tryd.prog = true := by kernel_rfl

theorem flat5 : Flat Tryd.prog 5 [.u8] := Flat.int Tryd.underlying5 (by kernel_rfl)

theorem flat31 : Flat Tryd.prog 31 [.u32] := Flat.int Tryd.underlying31 (by kernel_rfl)

theorem flat33 : Flat Tryd.prog 33 [.u8, .u8, .u32] := by
  refine Flat.struct [[.u8], [.u8], [.u32]] Tryd.underlying33 rfl (by kernel_rfl) (fun i f ks hf hk => ?_)
  match i with
  | 0 => cases hf; cases hk; exact ⟨flat5, rfl⟩
  | 1 => cases hf; cases hk; exact ⟨flat5, rfl⟩
  | 2 => cases hf; cases hk; exact ⟨flat31, rfl⟩
  | n + 3 => simp at hk

theorem walk (a0 : Option Addr) (len0 cap0 b0 off0 : Nat) (F0 : Nat → Nat → Int) (a1 : Option Addr) (len1 cap1 b1 off1 : Nat) (F1 : Nat → Nat → Int) (a2 : Int) (w : World) (hM : Mets w) (w0 : FRow w a0 len0 cap0 b0 off0 [.u8, .u8, .u32] F0) (w1 : FRow w a1 len1 cap1 b1 off1 [.u8, .u8, .u32] F1) (w2 : (Lit.int .u32 a2).wf = true) :
    Calls Tryd.prog 4 #[.slice a0 len0 cap0, .slice a1 len1 cap1, .int .u32 a2] w fun e w' => e = .returned (.bool true) ∧ Below w.heap.size w w' := by
  obtain ⟨th, rfl, hth⟩ := Lk.u32_natM w2
  exact (Lk.minimax_law w hM a0 len0 cap0 b0 off0 _ _ _ (Lk.lrow_of w0) a1 len1 cap1 b1 off1 _ _ _ (Lk.lrow_of w1) th hth).mono fun e w' ⟨h1, h2⟩ => ⟨h1, h2⟩

set_option maxRecDepth 100000 in
theorem lifted (os : Os) (started : os.Started) (H : Type) (enc : TypeId × Value → H) :
    ReturnsInHanded {} Tryd.checked os 4 .any (fun w args => (Rows.linkageMinimaxSpec.pre enc Tryd.prog Tryd.f4 [] false w args ∧ laidMetH Tryd.prog laidMs w) ∧ sizedMet enc Tryd.prog Tryd.f4 (OpenSpec.ofChange Rows.linkageMinimaxSpec) false w args) (Rows.linkageMinimaxSpec.post enc Tryd.prog Tryd.f4 false true false false) := by
  refine returnsInHanded_of_change_and (C := Tryd.checked) (X := fun w _ => laidMetH Tryd.prog laidMs w) (fun _ _ _ hh h => h.of_heap hh) own started (by kernel_rfl) Tryd.func4
    (ChangeSpec.witness_shaped (enc := enc) (C := Tryd.checked) (os := os) (X := fun w _ => laidMetH Tryd.prog laidMs w) false (World.doorLaid Tryd.prog 400 os) #[.slice none 0 0, .slice none 0 0, .int .u32 0] 8 rfl (World.shaped_of_RefB (by kernel_rfl) (by kernel_rfl)) (by kernel_rfl) (by kernel_rfl) (by kernel_rfl) (door_met os _)) ?_
  intro W base args ds gs before hval0 hW _ _ hL _
  have hval : ∀ (j : Nat) t v, Tryd.f4.params[j]? = some t → args[j]? = some v → Value.okWide Tryd.prog W .any base t v := hval0
  have hW' := hW
  obtain ⟨p, q, hA0, hV, rfl, hfz, hnd⟩ := hW
  have hA : DataW.TrodAll enc Tryd.prog W 0 (fun _ => true) true Tryd.f4.params.toList args.toList ds p := hA0
  rw [Tryd.params4] at hA hval
  obtain ⟨v0, vs0, d0, ds0, p0, q0, hargs, rfl, rfl, h0, r0⟩ := trodAll_cons hA
  obtain ⟨v1, vs1, d1, ds1, p1, q1, rfl, rfl, rfl, h1, r1⟩ := trodAll_cons r0
  obtain ⟨v2, vs2, d2, ds2, p2, q2, rfl, rfl, rfl, h2, r2⟩ := trodAll_cons r1
  obtain ⟨rfl, rfl, rfl⟩ := trodAll_nil r2
  obtain rfl : args = #[v0, v1, v2] := by cases args; simp_all
  obtain ⟨rfl, rfl⟩ := trodVars_none hV
  obtain ⟨a0, len0, cap0, rfl⟩ := okWide_slice Tryd.underlying30 (hval 0 30 v0 rfl rfl)
  have k0 := h0
  have lt0 : ∀ x ∈ p0, x.block < W.heap.size := by obtain ⟨m, hm⟩ := k0; exact DataW.trod_lt m _ _ _ hm
  obtain ⟨b0, off0, F0, w0⟩ : ∃ b off F, FRow W a0 len0 cap0 b off [.u8, .u8, .u32] F := by
    obtain ⟨fuel, hf⟩ := h0
    exact frow_of Tryd.underlying30 flat33 (by decide) hf
  obtain ⟨a1, len1, cap1, rfl⟩ := okWide_slice Tryd.underlying30 (hval 1 30 v1 rfl rfl)
  have k1 := h1
  have lt1 : ∀ x ∈ p1, x.block < W.heap.size := by obtain ⟨m, hm⟩ := k1; exact DataW.trod_lt m _ _ _ hm
  obtain ⟨b1, off1, F1, w1⟩ : ∃ b off F, FRow W a1 len1 cap1 b off [.u8, .u8, .u32] F := by
    obtain ⟨fuel, hf⟩ := h1
    exact frow_of Tryd.underlying30 flat33 (by decide) hf
  obtain ⟨a2, rfl, rfl, rfl, w2⟩ := open_int Tryd.underlying31 (hval 2 31 v2 rfl rfl) h2
  clear hA0 hval0
  refine (walk a0 len0 cap0 b0 off0 F0 a1 len1 cap1 b1 off1 F1 a2 W (mets_of_laid hL) w0 w1 w2).mono fun e W' ⟨he, bel⟩ => ?_
  subst he
  exact ⟨_, rfl, _, _, _, [], _, [], hW', trodAll_mk1 (shut_bool Tryd.underlying4 _), (trodAll_cons_mk (Below.trod laidOut (by kernel_rfl) (of_decide_eq_true (by kernel_rfl)) k0 bel lt0) (trodAll_cons_mk (Below.trod laidOut (by kernel_rfl) (of_decide_eq_true (by kernel_rfl)) k1 bel lt1) (trodAll_cons_mk (shut_int Tryd.underlying31 w2) trodAll_mk0))), rfl, bel.frame _, fun h => by cases h⟩

theorem over : Rows.linkageMinimaxRow.holds Tryd.pinned (OpenSpec.ofChange Rows.linkageMinimaxSpec) :=
  OpenClaim.holds_of_wide 4 Tryd.f4 rfl rfl rfl rfl rfl rfl rfl ⟨rfl, rfl, rfl, rfl, rfl⟩ rfl rfl rfl rfl rfl (by kernel_rfl) Tryd.func4 (by kernel_rfl)
    (of_decide_eq_true (by kernel_rfl)) (by unfold Func.isWrapper; first | (rw [if_pos (by decide +kernel)]; kernel_rfl) | (rw [if_neg (by decide +kernel)]; exact ⟨rfl, rfl⟩))
    (fun os started H enc _ => lifted os started H enc)

theorem proved : Rows.LinkageMinimaxCardSaid :=
  Claim7.holds_tied_plain_at .later [] [.data, .data] true (true, "8513ca9d03b72850fc4e7a213a4a37dc3ada005bea12b25793107da57b776be4") false
    over (fun _ h => by cases h) (by kernel_rfl) (fun _ h => by cases h) linkageMinimax_row_tie rfl ⟨rfl, rfl⟩ (by kernel_rfl) rfl
    (fun f fn hf hfn => by
      obtain rfl : f = 4 := Option.some.inj ((show Tryd.prog.funcNamed "seepage/seepagelaw23.LinkageMinimax" = some 4 by kernel_rfl).symm.trans hf) |>.symm
      obtain rfl : fn = Tryd.f4 := (Option.some.inj (Tryd.func4.symm.trans hfn)).symm
      exact ⟨by kernel_rfl, fun j t ht => by
        rw [Tryd.params4] at ht
        match j, ht with
        | 0, ht => (obtain rfl : t = 30 := (Option.some.inj ht).symm; exact (show Tryd.prog.wantsStandIn 30 = false by kernel_rfl))
        | 1, ht => (obtain rfl : t = 30 := (Option.some.inj ht).symm; exact (show Tryd.prog.wantsStandIn 30 = false by kernel_rfl))
        | 2, ht => (obtain rfl : t = 31 := (Option.some.inj ht).symm; exact (show Tryd.prog.wantsStandIn 31 = false by kernel_rfl))
        | k + 3, ht => simp at ht⟩)
    (by kernel_rfl)
end Go.Proofs.YthacjealoomioaaDoor.linkageMinimax
