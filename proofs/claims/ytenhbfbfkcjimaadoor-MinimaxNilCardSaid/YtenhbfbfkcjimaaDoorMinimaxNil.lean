/- Finders that are nil, or were not made by New. -/
import Derived.Test.YtenhbfbfkcjimaaDoorZMmI
import Derived.Test.YtenhbfbfkcjimaaDoorZMmIn
import Derived.Test.YtenhbfbfkcjimaaDoorRows
import Derived.WalkKit
import Derived.ProofKit
import Derived.OpenShut
import Derived.ShutString
import Derived.ChangeOld
import Derived.Below
import Derived.SevenTiedAt
import Derived.Test.YtenhbfbfkcjimaaDoorZMmLaid
namespace Go.Proofs.YtenhbfbfkcjimaaDoor.minimaxNil
open Go.ChangeShapes Go.WideShapes Go.ChangeAt Go.RowKit
open Go.ChangeMaps (open_string shut_string)
set_option linter.unusedVariables false

theorem own : ownKnob Tryd.prog.godebug = none := by kernel_rfl
theorem laidOut : laidOutB Tryd.prog = true := by kernel_rfl

theorem flat3 : Flat Tryd.prog 3 [.i64] := Flat.int Tryd.underlying3 (by kernel_rfl)

theorem flat2 : Flat Tryd.prog 2 [.i64] := Flat.int Tryd.underlying2 (by kernel_rfl)

theorem flat33 : Flat Tryd.prog 33 [.i64, .i64, .i64] := by
  refine Flat.struct [[.i64], [.i64], [.i64]] Tryd.underlying33 rfl (by kernel_rfl) (fun i f ks hf hk => ?_)
  match i with
  | 0 => cases hf; cases hk; exact ⟨flat3, rfl⟩
  | 1 => cases hf; cases hk; exact ⟨flat3, rfl⟩
  | 2 => cases hf; cases hk; exact ⟨flat2, rfl⟩
  | n + 3 => simp at hk

theorem walk (a0x a0y a0z : Int) (w : World) (hM : Mets w) (w0x : (Lit.int .i64 a0x).wf = true) (w0y : (Lit.int .i64 a0y).wf = true) (w0z : (Lit.int .i64 a0z).wf = true) :
    Calls Tryd.prog 12 #[.agg #[.int .i64 a0x, .int .i64 a0y, .int .i64 a0z]] w fun e w' => e = .returned (.bool true) ∧ Below w.heap.size w w' := by
  exact (nil_law w hM a0x a0y a0z).mono fun e w' ⟨h1, h2⟩ => ⟨h1, h2⟩

set_option maxRecDepth 100000 in
theorem lifted (os : Os) (started : os.Started) (H : Type) (enc : TypeId × Value → H) :
    ReturnsInHanded {} Tryd.checked os 12 .any (fun w args => (Rows.minimaxNilSpec.pre enc Tryd.prog Tryd.f12 [] false w args ∧ laidMetH Tryd.prog laidMs w) ∧ sizedMet enc Tryd.prog Tryd.f12 (OpenSpec.ofChange Rows.minimaxNilSpec) false w args) (Rows.minimaxNilSpec.post enc Tryd.prog Tryd.f12 false true false false) := by
  refine returnsInHanded_of_change_and (C := Tryd.checked) (X := fun w _ => laidMetH Tryd.prog laidMs w) (fun _ _ _ hh h => h.of_heap hh) own started (by kernel_rfl) Tryd.func12
    (ChangeSpec.witness_shaped (enc := enc) (C := Tryd.checked) (os := os) (X := fun w _ => laidMetH Tryd.prog laidMs w) false (World.doorLaid Tryd.prog 400 os) #[.agg #[.int .i64 0, .int .i64 0, .int .i64 0]] 8 rfl (World.shaped_of_RefB (by kernel_rfl) (by kernel_rfl)) (by kernel_rfl) (by kernel_rfl) (by kernel_rfl) (door_met os _)) ?_
  intro W base args ds gs before hval0 hW _ _ hL _
  have hval : ∀ (j : Nat) t v, Tryd.f12.params[j]? = some t → args[j]? = some v → Value.okWide Tryd.prog W .any base t v := hval0
  have hW' := hW
  obtain ⟨p, q, hA0, hV, rfl, hfz, hnd⟩ := hW
  have hA : DataW.TrodAll enc Tryd.prog W 0 (fun _ => true) true Tryd.f12.params.toList args.toList ds p := hA0
  rw [Tryd.params12] at hA hval
  obtain ⟨v0, vs0, d0, ds0, p0, q0, hargs, rfl, rfl, h0, r0⟩ := trodAll_cons hA
  obtain ⟨rfl, rfl, rfl⟩ := trodAll_nil r0
  obtain rfl : args = #[v0] := by cases args; simp_all
  obtain ⟨rfl, rfl⟩ := trodVars_none hV
  have k0 := h0
  have lt0 : ∀ x ∈ p0, x.block < W.heap.size := by obtain ⟨m, hm⟩ := k0; exact DataW.trod_lt m _ _ _ hm
  obtain ⟨a0x, a0y, a0z, rfl, w0x, w0y, w0z⟩ := three (flat_struct Tryd.underlying33 flat33 (hval 0 33 v0 rfl rfl) h0)
  clear hA0 hval0
  refine (walk a0x a0y a0z W (mets_of_laid hL) w0x w0y w0z).mono fun e W' ⟨he, bel⟩ => ?_
  subst he
  exact ⟨_, rfl, _, _, _, [], _, [], hW', trodAll_mk1 (shut_bool Tryd.underlying4 _), (trodAll_cons_mk (Below.trod laidOut (by kernel_rfl) (of_decide_eq_true (by kernel_rfl)) k0 bel lt0) trodAll_mk0), rfl, bel.frame _, fun h => by cases h⟩

theorem over : Rows.minimaxNilRow.holds Tryd.pinned (OpenSpec.ofChange Rows.minimaxNilSpec) :=
  OpenClaim.holds_of_wide 12 Tryd.f12 rfl rfl rfl rfl rfl rfl rfl ⟨rfl, rfl, rfl, rfl, rfl⟩ rfl rfl rfl rfl rfl (by kernel_rfl) Tryd.func12 (by kernel_rfl)
    (of_decide_eq_true (by kernel_rfl)) (by unfold Func.isWrapper; first | (rw [if_pos (by decide +kernel)]; kernel_rfl) | (rw [if_neg (by decide +kernel)]; exact ⟨rfl, rfl⟩))
    (fun os started H enc _ => lifted os started H enc)

theorem proved : Rows.MinimaxNilCardSaid :=
  Claim7.holds_tied_plain_at .later [] [.data, .data] true (true, "331ad125ebec1de1ee0c9bd4bec8b68366ca910acec41f1240a87d96512d4b32") false
    over (fun _ h => by cases h) (by kernel_rfl) (fun _ h => by cases h) minimaxNil_row_tie rfl ⟨rfl, rfl⟩ (by kernel_rfl) rfl
    (fun f fn hf hfn => by
      obtain rfl : f = 12 := Option.some.inj ((show Tryd.prog.funcNamed "seepage/seepagelaw20.MinimaxNil" = some 12 by kernel_rfl).symm.trans hf) |>.symm
      obtain rfl : fn = Tryd.f12 := (Option.some.inj (Tryd.func12.symm.trans hfn)).symm
      exact ⟨by kernel_rfl, fun j t ht => by
        rw [Tryd.params12] at ht
        match j, ht with
        | 0, ht => (obtain rfl : t = 33 := (Option.some.inj ht).symm; exact (show Tryd.prog.wantsStandIn 33 = false by kernel_rfl))
        | k + 1, ht => simp at ht⟩)
    (by kernel_rfl)
end Go.Proofs.YtenhbfbfkcjimaaDoor.minimaxNil
