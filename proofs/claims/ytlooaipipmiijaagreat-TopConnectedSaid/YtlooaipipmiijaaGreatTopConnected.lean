/- TopConnected returns true for every configuration, script and pair of ids, and changes none of its arguments. -/
import Derived.Test.YtlooaipipmiijaaGreatZX43
import Derived.Test.YtlooaipipmiijaaGreatRows
import Derived.WalkKit
import Derived.ProofKit
import Derived.OpenShut
import Derived.ShutString
import Derived.ChangeOld
import Derived.Below
namespace Go.Proofs.YtlooaipipmiijaaGreat.topConnected
open Go.ChangeShapes Go.WideShapes Go.ChangeAt Go.RowKit
open Go.ChangeMaps (open_string shut_string)
set_option linter.unusedVariables false

theorem own : ownKnob Tryz.prog.godebug = none := by kernel_rfl
theorem laidOut : laidOutB Tryz.prog = true := by kernel_rfl

theorem flat2 : Flat Tryz.prog 2 [.i64] := Flat.int Tryz.underlying2 (by kernel_rfl)

theorem flat3 : Flat Tryz.prog 3 [.i64] := Flat.int Tryz.underlying3 (by kernel_rfl)

theorem flat23 : Flat Tryz.prog 23 [.i64, .i64, .i64, .i64] := by
  refine Flat.struct [[.i64], [.i64], [.i64], [.i64]] Tryz.underlying23 rfl (by kernel_rfl) (fun i f ks hf hk => ?_)
  match i with
  | 0 => cases hf; cases hk; exact ⟨flat2, rfl⟩
  | 1 => cases hf; cases hk; exact ⟨flat3, rfl⟩
  | 2 => cases hf; cases hk; exact ⟨flat3, rfl⟩
  | 3 => cases hf; cases hk; exact ⟨flat3, rfl⟩
  | n + 4 => simp at hk

theorem flat25 : Flat Tryz.prog 25 [.u64] := Flat.int Tryz.underlying25 (by kernel_rfl)

theorem flat33 : Flat Tryz.prog 33 [.u64, .u64, .i64, .i64] := by
  refine Flat.struct [[.u64], [.u64], [.i64], [.i64]] Tryz.underlying33 rfl (by kernel_rfl) (fun i f ks hf hk => ?_)
  match i with
  | 0 => cases hf; cases hk; exact ⟨flat25, rfl⟩
  | 1 => cases hf; cases hk; exact ⟨flat25, rfl⟩
  | 2 => cases hf; cases hk; exact ⟨flat2, rfl⟩
  | 3 => cases hf; cases hk; exact ⟨flat2, rfl⟩
  | n + 4 => simp at hk

theorem walk (a0x a0y a0z a0u : Int) (a1 : Option Addr) (len1 cap1 b1 off1 : Nat) (F1 : Nat → Stp) (a2 : Int) (a3 : Int) (w : World) (w0x : (Lit.int .i64 a0x).wf = true) (w0y : (Lit.int .i64 a0y).wf = true) (w0z : (Lit.int .i64 a0z).wf = true) (w0u : (Lit.int .i64 a0u).wf = true) (w1 : SRow w a1 len1 cap1 b1 off1 F1) (w2 : (Lit.int .u64 a2).wf = true) (w3 : (Lit.int .u64 a3).wf = true) :
    Calls Tryz.prog 4 #[.agg #[.int .i64 a0x, .int .i64 a0y, .int .i64 a0z, .int .i64 a0u], .slice a1 len1 cap1, .int .u64 a2, .int .u64 a3] w fun e w' => e = .returned (.bool true) ∧ Below w.heap.size w w' := by
  obtain ⟨u, rfl, _⟩ := wf_u64N w2
  obtain ⟨v, rfl, _⟩ := wf_u64N w3
  have hx := wf_i64N w0x
  by_cases h : CfgO a0x a0y a0z a0u
  · obtain ⟨E, rfl⟩ : ∃ E : Nat, a0y = (E : Int) := ⟨a0y.toNat, by have := h.2.1; omega⟩
    obtain ⟨V, rfl⟩ : ∃ V : Nat, a0z = (V : Int) := ⟨a0z.toNat, by have := h.2.2.2.1; omega⟩
    exact (connected_yes w a0x a0u E V h hx.2 a1 len1 cap1 b1 off1 F1 w1 u v).mono fun e w' k => ⟨k.1, k.2⟩
  · exact (connected_no w a0x a0y a0z a0u h a1 len1 cap1 u v).mono fun e w' k => ⟨k.1, k.2⟩

set_option maxRecDepth 100000 in
theorem lifted (os : Os) (started : os.Started) (H : Type) (enc : TypeId × Value → H) :
    ReturnsInHanded {} Tryz.checked os 4 .any (Rows.topConnectedSpec.pre6 enc Tryz.prog Tryz.f4 Rows.topConnectedRow.domain false) (Rows.topConnectedSpec.post enc Tryz.prog Tryz.f4 false true false false) := by
  refine returnsInHanded_of_change (C := Tryz.checked) own started (by kernel_rfl) Tryz.func4
    (ChangeSpec.witness6 (enc := enc) (C := Tryz.checked) false ⟨#[], #[.agg #[.int .i64 0, .int .i64 0, .int .i64 0, .int .i64 0], .slice none 0 0, .int .u64 0, .int .u64 0], []⟩ 8 (by kernel_rfl) (by kernel_rfl) (by kernel_rfl) (by kernel_rfl)) ?_
  intro W base args ds gs before hval0 hW hcnd _
  have hval : ∀ (j : Nat) t v, Tryz.f4.params[j]? = some t → args[j]? = some v → Value.okWide Tryz.prog W .any base t v := hval0
  have hW' := hW
  obtain ⟨p, q, hA0, hV, rfl, hfz, hnd⟩ := hW
  have hA : DataW.TrodAll enc Tryz.prog W 0 (fun _ => true) true Tryz.f4.params.toList args.toList ds p := hA0
  rw [Tryz.params4] at hA hval
  obtain ⟨v0, vs0, d0, ds0, p0, q0, hargs, rfl, rfl, h0, r0⟩ := trodAll_cons hA
  obtain ⟨v1, vs1, d1, ds1, p1, q1, rfl, rfl, rfl, h1, r1⟩ := trodAll_cons r0
  obtain ⟨v2, vs2, d2, ds2, p2, q2, rfl, rfl, rfl, h2, r2⟩ := trodAll_cons r1
  obtain ⟨v3, vs3, d3, ds3, p3, q3, rfl, rfl, rfl, h3, r3⟩ := trodAll_cons r2
  obtain ⟨rfl, rfl, rfl⟩ := trodAll_nil r3
  obtain rfl : args = #[v0, v1, v2, v3] := by cases args; simp_all
  obtain ⟨rfl, rfl⟩ := trodVars_none hV
  have k0 := h0
  have lt0 : ∀ x ∈ p0, x.block < W.heap.size := by obtain ⟨m, hm⟩ := k0; exact DataW.trod_lt m _ _ _ hm
  obtain ⟨a0x, a0y, a0z, a0u, rfl, w0x, w0y, w0z, w0u⟩ := four (flat_struct Tryz.underlying23 flat23 (hval 0 23 v0 rfl rfl) h0)
  obtain ⟨a1, len1, cap1, rfl⟩ := okWide_slice Tryz.underlying24 (hval 1 24 v1 rfl rfl)
  have k1 := h1
  have lt1 : ∀ x ∈ p1, x.block < W.heap.size := by obtain ⟨m, hm⟩ := k1; exact DataW.trod_lt m _ _ _ hm
  obtain ⟨b1, off1, F1, w1⟩ : ∃ b off F, SRow W a1 len1 cap1 b off F := by
    obtain ⟨fuel, hf⟩ := h1
    exact srow_of Tryz.underlying24 (by kernel_rfl) (fun n cs y hy => step_cells Tryz.underlying35 rfl rfl Tryz.underlying4 (by kernel_rfl) rfl flat33 rfl (by kernel_rfl) enc W _ _ _ n cs y hy) hf
  obtain ⟨a2, rfl, rfl, rfl, w2⟩ := open_int Tryz.underlying25 (hval 2 25 v2 rfl rfl) h2
  obtain ⟨a3, rfl, rfl, rfl, w3⟩ := open_int Tryz.underlying25 (hval 3 25 v3 rfl rfl) h3
  clear hA0 hval0
  refine (walk a0x a0y a0z a0u a1 len1 cap1 b1 off1 F1 a2 a3 W w0x w0y w0z w0u w1 w2 w3).mono fun e W' ⟨he, bel⟩ => ?_
  subst he
  exact ⟨_, rfl, _, _, _, [], _, [], hW', trodAll_mk1 (shut_bool Tryz.underlying4 _), (trodAll_cons_mk (Below.trod laidOut (by kernel_rfl) (of_decide_eq_true (by kernel_rfl)) k0 bel lt0) (trodAll_cons_mk (Below.trod laidOut (by kernel_rfl) (of_decide_eq_true (by kernel_rfl)) k1 bel lt1) (trodAll_cons_mk (shut_int Tryz.underlying25 w2) (trodAll_cons_mk (shut_int Tryz.underlying25 w3) trodAll_mk0)))), rfl, bel.frame _, fun h => by cases h⟩

theorem over : Rows.topConnectedRow.holds Tryz.pinned (OpenSpec.ofChange Rows.topConnectedSpec) :=
  OpenClaim.holds_of_wide 4 Tryz.f4 rfl rfl rfl rfl rfl rfl rfl ⟨rfl, rfl, rfl, rfl, rfl⟩ rfl rfl rfl rfl rfl (by kernel_rfl) Tryz.func4 (by kernel_rfl)
    (of_decide_eq_true (by kernel_rfl)) (by unfold Func.isWrapper; first | (rw [if_pos (by decide +kernel)]; kernel_rfl) | (rw [if_neg (by decide +kernel)]; exact ⟨rfl, rfl⟩))
    (fun os started H enc _ => lifted os started H enc)

theorem proved : Rows.TopConnectedSaid := over
end Go.Proofs.YtlooaipipmiijaaGreat.topConnected
