/- The heap's swap, above, below. -/
import Derived.Test.YtebclbpibafkdaaHeapA
import Derived.BigRegion
namespace Go.Proofs.Ytebclbpibafkdaa
set_option linter.unusedVariables false
set_option linter.unusedSimpArgs false
open Go.RowKit

theorem swap_world {w : World} {g : HG} {ib cap p q : Nat} (hr : HRep w g) (hv : g.iv = .slice (some ⟨ib, 0, none⟩) g.it.length cap) (hp : p < g.it.length) (hq : q < g.it.length) :
    HRep ((((w.setCell ⟨ib, p * 2, none⟩ (.int .i64 (ent g.it q).1)).setCell ⟨ib, p * 2 + 1, none⟩ (.int .i64 (ent g.it q).2)).setCell ⟨ib, q * 2, none⟩ (.int .i64 (ent g.it p).1)).setCell ⟨ib, q * 2 + 1, none⟩ (.int .i64 (ent g.it p).2)).drew { g with it := swapL g.it p q } ∧
    Mod g.foot w ((((w.setCell ⟨ib, p * 2, none⟩ (.int .i64 (ent g.it q).1)).setCell ⟨ib, p * 2 + 1, none⟩ (.int .i64 (ent g.it q).2)).setCell ⟨ib, q * 2, none⟩ (.int .i64 (ent g.it p).1)).setCell ⟨ib, q * 2 + 1, none⟩ (.int .i64 (ent g.it p).2)).drew := by
  have hf : g.foot ib := .inr (.inl (by rw [hv]; rfl))
  have ho := hr.hi
  rw [hv] at ho
  have h4 := owns_set (owns_set (owns_set (owns_set ho (p * 2) (by omega) (.int .i64 (ent g.it q).1)) (p * 2 + 1) (by omega) (.int .i64 (ent g.it q).2)) (q * 2) (by omega) (.int .i64 (ent g.it p).1)) (q * 2 + 1) (by omega) (.int .i64 (ent g.it p).2)
  rw [ents_set, ents_set] at h4
  refine ⟨hr.items ?_ ?_, ((((Mod.refl _ _).setCell _ (fun _ => hf) _).setCell _ (fun _ => hf) _).setCell _ (fun _ => hf) _).setCell _ (fun _ => hf) _ |>.drew⟩
  · rw [swapL_length, hv]; exact h4
  · intro k _ hne
    have hk : k ≠ ib := fun e => hne (by rw [hv, e]; rfl)
    show (World.setCell _ _ _).heap[k]? = _
    rw [Below.heap_setCell _ _ _ _ hk, Below.heap_setCell _ _ _ _ hk, Below.heap_setCell _ _ _ _ hk, Below.heap_setCell _ _ _ _ hk]

/-- The indexes are those of the heap; their number is limited. -/
def InRange (g : HG) : Prop := ∀ p, p < g.it.length → ∃ i : Nat, (ent g.it p).1 = (i : Int) ∧ i < g.slots

set_option maxRecDepth 100000 in
set_option maxHeartbeats 2000000 in
theorem swap_rep (w : World) (g : HG) (hr : HRep w g) (hin : InRange g) (hlen : g.it.length ≤ 65536) (p q : Nat) (hp : p < g.it.length) (hq : q < g.it.length) :
    Calls Try.prog 89 #[.pointer (some ⟨g.b, 0, none⟩), .int .i64 p, .int .i64 q] w
      (HDoes (.tuple #[]) g w (fun g' => g'.it = swapL g.it p q ∧ g'.pl = upd (upd g.pl (ent g.it q).1.toNat (p + 1)) (ent g.it p).1.toNat (q + 1))) := by
  obtain ⟨ib, cap, hv, hc1, hc2, hlt, hcell, hfree⟩ := owns_form hr.hi (by omega)
  obtain ⟨i, hi, hil⟩ := hin p hp
  obtain ⟨j, hj, hjl⟩ := hin q hq
  have h0 := hr.hb.cell (i := 2) rfl
  rw [hv] at h0
  have p0 := (hcell (p * 2) (by omega)).trans (ents_get0 _ _ hp)
  have p1 := (hcell (p * 2 + 1) (by omega)).trans (ents_get1 _ _ hp)
  have q0 := (hcell (q * 2) (by omega)).trans (ents_get0 _ _ hq)
  have q1 := (hcell (q * 2 + 1) (by omega)).trans (ents_get1 _ _ hq)
  have f1 := hfree (p * 2)
  have f2 := hfree (p * 2 + 1)
  have f3 := hfree (q * 2)
  have f4 := hfree (q * 2 + 1)
  obtain ⟨hrep, hmod⟩ := swap_world hr hv hp hq
  have HR := Lib.hid hrep
  have HM := Lib.hid hmod
  have HV := Lib.hid hv
  have HI := Lib.hid hi
  have HJ := Lib.hid hj
  have HRR := Lib.hid hr
  have hbi : g.b ≠ ib := fun e => hr.d2 (by rw [hv, e]; rfl)
  obtain ⟨v1, s1⟩ := cell?_setCell_some (w := w) (p := ⟨ib, p * 2, none⟩) (x := .int .i64 (ent g.it q).1) (q := ⟨ib, q * 2, none⟩) q0
  obtain ⟨v2, s2⟩ := cell?_setCell_some (w := w) (p := ⟨ib, p * 2, none⟩) (x := .int .i64 (ent g.it q).1) (q := ⟨ib, q * 2 + 1, none⟩) q1
  obtain ⟨v3, s3⟩ := cell?_setCell_some (p := ⟨ib, p * 2 + 1, none⟩) (x := .int .i64 (ent g.it q).2) s2
  clear s2
  have ep : (ent (swapL g.it p q) p).1 = (j : Int) := by
    rw [ent_swapL hp hq]
    by_cases e : p = q
    · subst e; rw [if_pos rfl]; exact hj
    · rw [if_neg e, if_pos rfl]; exact hj
  have eq : (ent (swapL g.it p q) q).1 = (i : Int) := by
    rw [ent_swapL hp hq, if_pos rfl]; exact hi
  have Ep := Lib.hid ep
  have Eq := Lib.hid eq
  have Ex : Hid ((ent g.it p).1.toNat = i) := by show _ = _; omega
  have Ey : Hid ((ent g.it q).1.toNat = j) := by show _ = _; omega
  clear hrep hmod hv hcell hfree hr hi hj ep eq
  generalize ent g.it p = x at *
  generalize ent g.it q = y at *
  go_enter Try.func89, Try.ntmps89
  go_wp2_with fail
  go_region
  generalize hW : World.drew _ = W at HR HM ⊢
  clear hW p0 p1 q0 q1 s1 s3 f1 f2 f3 f4 h0
  have hr1 := HR.out
  have hl1 : (swapL g.it p q).length = g.it.length := swapL_length _ _ _
  have h0 := hr1.hb.cell (i := 2) (v := .slice (some ⟨ib, 0, none⟩) g.it.length cap) (congrArg some HV.out)
  have c1 : W.cell? ⟨ib, p * 2, none⟩ = some (.int .i64 (j : Nat)) := by
    have ho := hr1.hi
    simp only [HV.out, hl1] at ho
    rw [ho.cellAt _ (by omega), ents_get0 _ _ (by omega), Ep.out]
  clear hl1 hr1
  go_wp2_with fail
  refine (put_rep W _ HR.out j hjl (p + 1) (by omega) p (by omega)).mono ?_
  rintro e w2 ⟨rfl, g2, st2, e2, e2v, e2'⟩
  have h2 := st2.rep.hb.cell (i := 2) (v := .slice (some ⟨ib, 0, none⟩) g.it.length cap) (congrArg some (e2v.trans HV.out))
  have c2 : w2.cell? ⟨ib, q * 2, none⟩ = some (.int .i64 (i : Nat)) := by
    have ho := st2.rep.hi
    rw [e2, e2v] at ho
    simp only [HV.out, swapL_length] at ho
    rw [ho.cellAt _ (by omega), ents_get0 _ _ (by rw [swapL_length]; omega), Eq.out]
  have hb2 : g2.b = g.b := st2.b
  rw [hb2] at h2
  have ST2 := Lib.hid st2
  have E2 := Lib.hid e2
  have E2' := Lib.hid e2'
  have HB2 := Lib.hid hb2
  have hs2 : i < g2.slots := by rw [st2.slots]; exact hil
  clear st2 e2 e2v e2' hb2 h0 c1
  go_wp2_with fail
  rw [← HB2.out]
  refine (put_rep w2 g2 ST2.out.rep i hs2 (q + 1) (by omega) q (by omega)).mono ?_
  rintro e w3 ⟨rfl, g3, st3, e3, e3v, e3'⟩
  have FIN : Hid (HDoes (.tuple #[]) g w (fun g' => g'.it = swapL g.it p q ∧ g'.pl = upd (upd g.pl y.1.toNat (p + 1)) x.1.toNat (q + 1)) (.returned (.tuple #[])) w3) := by
    refine ⟨rfl, g3, HStep.trans (g1 := { g with it := swapL g.it p q }) ⟨HR.out, HM.out, rfl, rfl, fun k hk => .inl hk⟩ (ST2.out.trans st3), e3.trans E2.out, ?_⟩
    rw [e3', E2'.out, Ex.out, Ey.out]
  clear st3 e3 e3v e3' h2 c2
  go_wp2_with fail
  go_end0
  exact FIN.out

end Go.Proofs.Ytebclbpibafkdaa
