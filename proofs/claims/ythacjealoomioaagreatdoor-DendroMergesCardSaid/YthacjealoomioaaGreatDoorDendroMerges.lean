/- each merge joins two clusters, named by their least vertices, into one of the size of both; heights do not decrease; the numbers of clusters are told by the merges -/
import Derived.Test.YthacjealoomioaaGreatDoorZDlM
import Derived.Test.YthacjealoomioaaGreatDoorZRlN
import Derived.Test.YthacjealoomioaaGreatDoorRows
import Derived.WalkKit
import Derived.ProofKit
import Derived.OpenShut
import Derived.ShutString
import Derived.ChangeOld
import Derived.Below
import Derived.SevenTiedAt
import Derived.Test.YthacjealoomioaaGreatDoorZDmLaid
namespace Go.Proofs.YthacjealoomioaaGreatDoor.dendroMerges
open Go.ChangeShapes Go.WideShapes Go.ChangeAt Go.RowKit
open Go.ChangeMaps (open_string shut_string)
set_option linter.unusedVariables false

theorem own : ownKnob Tryz.prog.godebug = none := by kernel_rfl
theorem laidOut : laidOutB Tryz.prog = true := by kernel_rfl

theorem flat5 : Flat Tryz.prog 5 [.u8] := Flat.int Tryz.underlying5 (by kernel_rfl)

theorem flat142 : Flat Tryz.prog 142 [.u8, .u8, .u8] := Flat.array (n := 3) (ks := [.u8]) Tryz.underlying142 flat5 (by kernel_rfl)

theorem walk (a0 : Int) (a1 : Option Addr) (len1 cap1 b1 off1 : Nat) (F1 : Nat → Nat → Int) (a2 : Int) (w : World) (hM : Mets w) (w0 : (Lit.int .u8 a0).wf = true) (w1 : FRow w a1 len1 cap1 b1 off1 [.u8, .u8, .u8] F1) (w2 : (Lit.int .i8 a2).wf = true) :
    Calls Tryz.prog 11 #[.int .u8 a0, .slice a1 len1 cap1, .int .i8 a2] w fun e w' => e = .returned (.bool true) ∧ Below w.heap.size w w' := by
  obtain ⟨sz, rfl, hsz⟩ := u8_nat w0
  exact (merges_law w hM.err hM.pow hM.tab sz hsz a1 len1 cap1 b1 off1 _ (brow_of w1) a2 (i8_bd w2)).mono fun e w' ⟨h1, h2⟩ => ⟨h1, h2⟩

set_option maxRecDepth 100000 in
theorem lifted (os : Os) (started : os.Started) (H : Type) (enc : TypeId × Value → H) :
    ReturnsInHanded {} Tryz.checked os 11 .any (fun w args => (Rows.dendroMergesSpec.pre enc Tryz.prog Tryz.f11 [] false w args ∧ laidMetH Tryz.prog laidMs w) ∧ sizedMet enc Tryz.prog Tryz.f11 (OpenSpec.ofChange Rows.dendroMergesSpec) false w args) (Rows.dendroMergesSpec.post enc Tryz.prog Tryz.f11 false true false false) := by
  refine returnsInHanded_of_change_and (C := Tryz.checked) (X := fun w _ => laidMetH Tryz.prog laidMs w) (fun _ _ _ hh h => h.of_heap hh) own started (by kernel_rfl) Tryz.func11
    (ChangeSpec.witness_shaped (enc := enc) (C := Tryz.checked) (os := os) (X := fun w _ => laidMetH Tryz.prog laidMs w) false (World.doorLaid Tryz.prog 400 os) #[.int .u8 0, .slice none 0 0, .int .i8 0] 8 rfl (World.shaped_of_RefB (by kernel_rfl) (by kernel_rfl)) (by kernel_rfl) (by kernel_rfl) (by kernel_rfl) (door_met os _)) ?_
  intro W base args ds gs before hval0 hW _ _ hL _
  have hval : ∀ (j : Nat) t v, Tryz.f11.params[j]? = some t → args[j]? = some v → Value.okWide Tryz.prog W .any base t v := hval0
  have hW' := hW
  obtain ⟨p, q, hA0, hV, rfl, hfz, hnd⟩ := hW
  have hA : DataW.TrodAll enc Tryz.prog W 0 (fun _ => true) true Tryz.f11.params.toList args.toList ds p := hA0
  rw [Tryz.params11] at hA hval
  obtain ⟨v0, vs0, d0, ds0, p0, q0, hargs, rfl, rfl, h0, r0⟩ := trodAll_cons hA
  obtain ⟨v1, vs1, d1, ds1, p1, q1, rfl, rfl, rfl, h1, r1⟩ := trodAll_cons r0
  obtain ⟨v2, vs2, d2, ds2, p2, q2, rfl, rfl, rfl, h2, r2⟩ := trodAll_cons r1
  obtain ⟨rfl, rfl, rfl⟩ := trodAll_nil r2
  obtain rfl : args = #[v0, v1, v2] := by cases args; simp_all
  obtain ⟨rfl, rfl⟩ := trodVars_none hV
  obtain ⟨a0, rfl, rfl, rfl, w0⟩ := open_int Tryz.underlying5 (hval 0 5 v0 rfl rfl) h0
  obtain ⟨a1, len1, cap1, rfl⟩ := okWide_slice Tryz.underlying38 (hval 1 38 v1 rfl rfl)
  have k1 := h1
  have lt1 : ∀ x ∈ p1, x.block < W.heap.size := by obtain ⟨m, hm⟩ := k1; exact DataW.trod_lt m _ _ _ hm
  obtain ⟨b1, off1, F1, w1⟩ : ∃ b off F, FRow W a1 len1 cap1 b off [.u8, .u8, .u8] F := by
    obtain ⟨fuel, hf⟩ := h1
    exact frow_of Tryz.underlying38 flat142 (by decide) hf
  obtain ⟨a2, rfl, rfl, rfl, w2⟩ := open_int Tryz.underlying65 (hval 2 65 v2 rfl rfl) h2
  clear hA0 hval0
  refine (walk a0 a1 len1 cap1 b1 off1 F1 a2 W (mets_of_laid hL) w0 w1 w2).mono fun e W' ⟨he, bel⟩ => ?_
  subst he
  exact ⟨_, rfl, _, _, _, [], _, [], hW', trodAll_mk1 (shut_bool Tryz.underlying4 _), (trodAll_cons_mk (shut_int Tryz.underlying5 w0) (trodAll_cons_mk (Below.trod laidOut (by kernel_rfl) (of_decide_eq_true (by kernel_rfl)) k1 bel lt1) (trodAll_cons_mk (shut_int Tryz.underlying65 w2) trodAll_mk0))), rfl, bel.frame _, fun h => by cases h⟩

theorem over : Rows.dendroMergesRow.holds Tryz.pinned (OpenSpec.ofChange Rows.dendroMergesSpec) :=
  OpenClaim.holds_of_wide 11 Tryz.f11 rfl rfl rfl rfl rfl rfl rfl ⟨rfl, rfl, rfl, rfl, rfl⟩ rfl rfl rfl rfl rfl (by kernel_rfl) Tryz.func11 (by kernel_rfl)
    (of_decide_eq_true (by kernel_rfl)) (by unfold Func.isWrapper; first | (rw [if_pos (by decide +kernel)]; kernel_rfl) | (rw [if_neg (by decide +kernel)]; exact ⟨rfl, rfl⟩))
    (fun os started H enc _ => lifted os started H enc)

theorem proved : Rows.DendroMergesCardSaid :=
  Claim7.holds_tied_plain_at .later [] [.data, .data, .data, .sentinel, .sentinel] true (true, "00a60023d4600dc04620715f6300da6bb63077c184a05d3044491660a0b76dec") true
    over (fun _ h => by cases h) (by kernel_rfl) (fun _ h => by cases h) dendroMerges_row_tie rfl ⟨rfl, rfl⟩ (by kernel_rfl) rfl
    (fun f fn hf hfn => by
      obtain rfl : f = 11 := Option.some.inj ((show Tryz.prog.funcNamed "seepage/seepagelaw22.DendroMerges" = some 11 by kernel_rfl).symm.trans hf) |>.symm
      obtain rfl : fn = Tryz.f11 := (Option.some.inj (Tryz.func11.symm.trans hfn)).symm
      exact ⟨by kernel_rfl, fun j t ht => by
        rw [Tryz.params11] at ht
        match j, ht with
        | 0, ht => (obtain rfl : t = 5 := (Option.some.inj ht).symm; exact (show Tryz.prog.wantsStandIn 5 = false by kernel_rfl))
        | 1, ht => (obtain rfl : t = 38 := (Option.some.inj ht).symm; exact (show Tryz.prog.wantsStandIn 38 = false by kernel_rfl))
        | 2, ht => (obtain rfl : t = 65 := (Option.some.inj ht).symm; exact (show Tryz.prog.wantsStandIn 65 = false by kernel_rfl))
        | k + 3, ht => simp at ht⟩)
    (by kernel_rfl)
end Go.Proofs.YthacjealoomioaaGreatDoor.dendroMerges
