/- for at most 24 vertices and 60 edges, the path between any two vertices in the minimum spanning forest is that of the document's finder -/
import Derived.Test.YtenhbfbfkcjimaaDoorZMmPw
import Derived.Test.YtenhbfbfkcjimaaDoorRows
import Derived.WalkKit
import Derived.ProofKit
import Derived.OpenShut
import Derived.ShutString
import Derived.ChangeOld
import Derived.Below
import Derived.SevenTiedAt
import Derived.Test.YtenhbfbfkcjimaaDoorZMmLaid
namespace Go.Proofs.YtenhbfbfkcjimaaDoor.minimaxPaths
open Go.ChangeShapes Go.WideShapes Go.ChangeAt Go.RowKit
open Go.ChangeMaps (open_string shut_string)
set_option linter.unusedVariables false

theorem own : ownKnob Tryd.prog.godebug = none := by kernel_rfl
theorem laidOut : laidOutB Tryd.prog = true := by kernel_rfl

theorem flat3 : Flat Tryd.prog 3 [.i64] := Flat.int Tryd.underlying3 (by kernel_rfl)

theorem flat2 : Flat Tryd.prog 2 [.i64] := Flat.int Tryd.underlying2 (by kernel_rfl)

theorem flat45 : Flat Tryd.prog 45 [.i64, .i64, .i64] := by
  refine Flat.struct [[.i64], [.i64], [.i64]] Tryd.underlying45 rfl (by kernel_rfl) (fun i f ks hf hk => ?_)
  match i with
  | 0 => cases hf; cases hk; exact ⟨flat3, rfl⟩
  | 1 => cases hf; cases hk; exact ⟨flat3, rfl⟩
  | 2 => cases hf; cases hk; exact ⟨flat2, rfl⟩
  | n + 3 => simp at hk

theorem flat33 : Flat Tryd.prog 33 [.i64, .i64, .i64] := by
  refine Flat.struct [[.i64], [.i64], [.i64]] Tryd.underlying33 rfl (by kernel_rfl) (fun i f ks hf hk => ?_)
  match i with
  | 0 => cases hf; cases hk; exact ⟨flat3, rfl⟩
  | 1 => cases hf; cases hk; exact ⟨flat3, rfl⟩
  | 2 => cases hf; cases hk; exact ⟨flat2, rfl⟩
  | n + 3 => simp at hk

theorem walk (a0 : Int) (a1 : Option Addr) (len1 cap1 b1 off1 : Nat) (F1 : Nat → Nat → Int) (a2x a2y a2z : Int) (w : World) (hM : Mets w) (w0 : (Lit.int .i64 a0).wf = true) (w1 : FRow w a1 len1 cap1 b1 off1 [.i64, .i64, .i64] F1) (w2x : (Lit.int .i64 a2x).wf = true) (w2y : (Lit.int .i64 a2y).wf = true) (w2z : (Lit.int .i64 a2z).wf = true) :
    Calls Tryd.prog 4 #[.int .i64 a0, .slice a1 len1 cap1, .agg #[.int .i64 a2x, .int .i64 a2y, .int .i64 a2z]] w fun e w' => e = .returned (.bool true) ∧ Below w.heap.size w w' := by
  exact (paths_law w hM a0 a1 len1 cap1 b1 off1 _ (erow_in w1) w1.lim w1.nil (i64_b w0) (wok_in w1) a2x a2y a2z).mono fun e w' ⟨h1, h2⟩ => ⟨h1, h2⟩

set_option maxRecDepth 100000 in
theorem lifted (os : Os) (started : os.Started) (H : Type) (enc : TypeId × Value → H) :
    ReturnsInHanded {} Tryd.checked os 4 .any (fun w args => (Rows.minimaxPathsSpec.pre enc Tryd.prog Tryd.f4 [] false w args ∧ laidMetH Tryd.prog laidMs w) ∧ sizedMet enc Tryd.prog Tryd.f4 (OpenSpec.ofChange Rows.minimaxPathsSpec) false w args) (Rows.minimaxPathsSpec.post enc Tryd.prog Tryd.f4 false true false false) := by
  refine returnsInHanded_of_change_and (C := Tryd.checked) (X := fun w _ => laidMetH Tryd.prog laidMs w) (fun _ _ _ hh h => h.of_heap hh) own started (by kernel_rfl) Tryd.func4
    (ChangeSpec.witness_shaped (enc := enc) (C := Tryd.checked) (os := os) (X := fun w _ => laidMetH Tryd.prog laidMs w) false (World.doorLaid Tryd.prog 400 os) #[.int .i64 0, .slice none 0 0, .agg #[.int .i64 0, .int .i64 0, .int .i64 0]] 8 rfl (World.shaped_of_RefB (by kernel_rfl) (by kernel_rfl)) (by kernel_rfl) (by kernel_rfl) (by kernel_rfl) (door_met os _)) ?_
  intro W base args ds gs before hval0 hW _ _ hL _
  have hval : ∀ (j : Nat) t v, Tryd.f4.params[j]? = some t → args[j]? = some v → Value.okWide Tryd.prog W .any base t v := hval0
  have hW' := hW
  obtain ⟨p, q, hA0, hV, rfl, hfz, hnd⟩ := hW
  have hA : DataW.TrodAll enc Tryd.prog W 0 (fun _ => true) true Tryd.f4.params.toList args.toList ds p := hA0
  rw [Tryd.params4] at hA hval
  obtain ⟨v0, vs0, d0, ds0, p0, q0, hargs, rfl, rfl, h0, r0⟩ := trodAll_cons hA
  obtain ⟨v1, vs1, d1, ds1, p1, q1, rfl, rfl, rfl, h1, r1⟩ := trodAll_cons r0
  obtain ⟨v2, vs2, d2, ds2, p2, q2, rfl, rfl, rfl, h2, r2⟩ := trodAll_cons r1
  obtain ⟨rfl, rfl, rfl⟩ := trodAll_nil r2
  obtain rfl : args = #[v0, v1, v2] := by cases args; simp_all
  obtain ⟨rfl, rfl⟩ := trodVars_none hV
  obtain ⟨a0, rfl, rfl, rfl, w0⟩ := open_int Tryd.underlying3 (hval 0 3 v0 rfl rfl) h0
  obtain ⟨a1, len1, cap1, rfl⟩ := okWide_slice Tryd.underlying22 (hval 1 22 v1 rfl rfl)
  have k1 := h1
  have lt1 : ∀ x ∈ p1, x.block < W.heap.size := by obtain ⟨m, hm⟩ := k1; exact DataW.trod_lt m _ _ _ hm
  obtain ⟨b1, off1, F1, w1⟩ : ∃ b off F, FRow W a1 len1 cap1 b off [.i64, .i64, .i64] F := by
    obtain ⟨fuel, hf⟩ := h1
    exact frow_of Tryd.underlying22 flat45 (by decide) hf
  have k2 := h2
  have lt2 : ∀ x ∈ p2, x.block < W.heap.size := by obtain ⟨m, hm⟩ := k2; exact DataW.trod_lt m _ _ _ hm
  obtain ⟨a2x, a2y, a2z, rfl, w2x, w2y, w2z⟩ := three (flat_struct Tryd.underlying33 flat33 (hval 2 33 v2 rfl rfl) h2)
  clear hA0 hval0
  refine (walk a0 a1 len1 cap1 b1 off1 F1 a2x a2y a2z W (mets_of_laid hL) w0 w1 w2x w2y w2z).mono fun e W' ⟨he, bel⟩ => ?_
  subst he
  exact ⟨_, rfl, _, _, _, [], _, [], hW', trodAll_mk1 (shut_bool Tryd.underlying4 _), (trodAll_cons_mk (shut_int Tryd.underlying3 w0) (trodAll_cons_mk (Below.trod laidOut (by kernel_rfl) (of_decide_eq_true (by kernel_rfl)) k1 bel lt1) (trodAll_cons_mk (Below.trod laidOut (by kernel_rfl) (of_decide_eq_true (by kernel_rfl)) k2 bel lt2) trodAll_mk0))), rfl, bel.frame _, fun h => by cases h⟩

theorem over : Rows.minimaxPathsRow.holds Tryd.pinned (OpenSpec.ofChange Rows.minimaxPathsSpec) :=
  OpenClaim.holds_of_wide 4 Tryd.f4 rfl rfl rfl rfl rfl rfl rfl ⟨rfl, rfl, rfl, rfl, rfl⟩ rfl rfl rfl rfl rfl (by kernel_rfl) Tryd.func4 (by kernel_rfl)
    (of_decide_eq_true (by kernel_rfl)) (by unfold Func.isWrapper; first | (rw [if_pos (by decide +kernel)]; kernel_rfl) | (rw [if_neg (by decide +kernel)]; exact ⟨rfl, rfl⟩))
    (fun os started H enc _ => lifted os started H enc)

theorem proved : Rows.MinimaxPathsCardSaid :=
  Claim7.holds_tied_plain_at .later [] [.data, .data] true (true, "331ad125ebec1de1ee0c9bd4bec8b68366ca910acec41f1240a87d96512d4b32") false
    over (fun _ h => by cases h) (by kernel_rfl) (fun _ h => by cases h) minimaxPaths_row_tie rfl ⟨rfl, rfl⟩ (by kernel_rfl) rfl
    (fun f fn hf hfn => by
      obtain rfl : f = 4 := Option.some.inj ((show Tryd.prog.funcNamed "seepage/seepagelaw20.MinimaxPaths" = some 4 by kernel_rfl).symm.trans hf) |>.symm
      obtain rfl : fn = Tryd.f4 := (Option.some.inj (Tryd.func4.symm.trans hfn)).symm
      exact ⟨by kernel_rfl, fun j t ht => by
        rw [Tryd.params4] at ht
        match j, ht with
        | 0, ht => (obtain rfl : t = 3 := (Option.some.inj ht).symm; exact (show Tryd.prog.wantsStandIn 3 = false by kernel_rfl))
        | 1, ht => (obtain rfl : t = 22 := (Option.some.inj ht).symm; exact (show Tryd.prog.wantsStandIn 22 = false by kernel_rfl))
        | 2, ht => (obtain rfl : t = 33 := (Option.some.inj ht).symm; exact (show Tryd.prog.wantsStandIn 33 = false by kernel_rfl))
        | k + 3, ht => simp at ht⟩)
    (by kernel_rfl)
end Go.Proofs.YtenhbfbfkcjimaaDoor.minimaxPaths
