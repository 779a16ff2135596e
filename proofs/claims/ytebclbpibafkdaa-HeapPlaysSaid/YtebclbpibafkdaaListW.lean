/- heap.List: the entries in order. -/
import Derived.Test.YtebclbpibafkdaaShelfP
import Derived.Test.YtebclbpibafkdaaSortR
import Derived.Test.YtebclbpibafkdaaOrderL
import Derived.Test.YtebclbpibafkdaaClone
namespace Go.Proofs.Ytebclbpibafkdaa
set_option linter.unusedVariables false
set_option linter.unusedSimpArgs false
open Go.RowKit Go.Shelf Go.Lib Go.Sort

def encE (e : Ent) : List Value := [.int .i64 e.1, .int .i64 e.2]

theorem ents_encs (l : List Ent) : ents l = encs encE l := rfl

theorem ltOrd (a b : Ent) : ltOf ordI a b = decide (elt a b) := by
  unfold ltOf
  by_cases h : elt a b
  · rw [decide_eq_true h]; exact decide_eq_true ((ordI_neg a b).2 h)
  · rw [decide_eq_false h]; exact decide_eq_false (fun e => h ((ordI_neg a b).1 e))

theorem swoOrd : SWO (ltOf ordI) where
  irrefl x := by rw [ltOrd]; exact decide_eq_false (elt_irrefl x)
  trans x y z h1 h2 := by
    rw [ltOrd] at *
    exact decide_eq_true (elt_trans (of_decide_eq_true h1) (of_decide_eq_true h2))
  ntrans x y z h1 h2 := by
    rw [ltOrd] at *
    exact decide_eq_false (nelt_trans (of_decide_eq_false h1) (of_decide_eq_false h2))

theorem totOrd (x y : Ent) (h1 : ltOf ordI x y = false) (h2 : ltOf ordI y x = false) : x = y := by
  rw [ltOrd] at *
  exact Classical.byContradiction fun hne => of_decide_eq_false h2 (elt_of_ne (of_decide_eq_false h1) hne)

theorem merge_sorted {S it : List Ent} (hs : Sorted S) (hp : S.Perm it) : (it.mergeSort fun x y => !ltOf ordI y x) = S := by
  have h1 : (it.mergeSort fun x y => !ltOf ordI y x).Perm it := List.mergeSort_perm _ _
  have h2 := List.pairwise_mergeSort (le := fun x y => !ltOf ordI y x) (fun a b c hab hbc => by
      simp only [ltOrd, Bool.not_eq_true', decide_eq_false_iff_not] at *
      exact nelt_trans hbc hab) (fun a b => by
      simp only [ltOrd, Bool.or_eq_true, Bool.not_eq_true', decide_eq_false_iff_not]
      by_cases h : elt b a
      · exact .inr (elt_asymm h)
      · exact .inl h) it
  have hnd : (it.mergeSort fun x y => !ltOf ordI y x).Nodup := by
    refine (h1.trans hp.symm).nodup_iff.2 ?_
    exact List.Pairwise.imp (S := fun a b => a ≠ b) (fun {a b} (hab : elt a b) (e : a = b) => elt_irrefl a (by rw [← e] at hab; exact hab)) hs
  refine sorted_eq ?_ hs (h1.trans hp.symm)
  refine List.Pairwise.imp₂ (R := fun a b => (!ltOf ordI b a) = true) (S := fun a b => a ≠ b) (fun a b hab hne => ?_) h2 hnd
  simp only [ltOrd, Bool.not_eq_true', decide_eq_false_iff_not] at hab
  exact elt_of_ne hab (fun e => hne e.symm)

theorem cmpOrd (blk off size : Nat) (w : World) : CmpLays Try.prog 76 #[] encE 2 ordI blk off size w :=
  fun _ _ _ _ x y => order_lays x.1 y.1 x.2 y.2 _

set_option maxHeartbeats 1000000 in
set_option maxRecDepth 100000 in
/-- The library's sort, of a row of entries of the program's own. -/
theorem sort_ok (w : World) (v : Value) (it S : List Ent) (h : w.ownsRow 0 28 2 v it.length (ents it)) (hl : it.length ≤ 65536) (hs : Sorted S) (hp : S.Perm it) :
    Calls Try.prog 75 #[v, .func (.func 76) #[] #[]] w (fun e w' => e = .returned (.tuple #[]) ∧ w'.ownsRow 0 28 2 v S.length (ents S) ∧ Mod (fun x => v.ownBlock = some x) w w') := by
  obtain ⟨ao, cap, rfl⟩ := owns_slice h
  by_cases h0 : it.length = 0
  · have hcon := AnyF.slices_SortFunc_none Try.sortEntry ao cap (.func (.func 76) #[] #[]) w
    change Calls Try.prog 75 _ _ _ at hcon
    have hi : it = [] := List.eq_nil_of_length_eq_zero h0
    subst hi
    have hS : S = [] := hp.eq_nil
    subst hS
    refine hcon.mono ?_
    rintro e w' ⟨rfl, rfl⟩
    exact ⟨rfl, h, Mod.refl _ _⟩
  · obtain ⟨g, cap', hv, h1, h2, h3, h4, h5⟩ := owns_form h (by omega)
    injection hv with e1 _ e3
    subst e1; subst e3
    have eg : ∀ args w, (callFunc 76 args).run Try.prog w = .ok (.enter 76 args) w := enters_of Try.func76 (by kernel_rfl) rfl
    have hcon := AnyQ.slices_SortFunc_total Try.sortEntry 2 Try.isAgg28 Try.sizeOf28 encE (fun _ => rfl) (fun x v hv => by simp [encE] at hv; rcases hv with rfl | rfl <;> rfl) ordI swoOrd 76 #[] g 0 cap it.toArray w eg (cmpOrd g 0 _ w)
      (holdsK_of (enc := encE) (k := 2) (fun _ => rfl) h) h3 (by simp; omega) totOrd
    change Calls Try.prog 75 _ _ _ at hcon
    rw [List.size_toArray] at hcon
    refine hcon.mono ?_
    rintro e w' ⟨rfl, n, os, rfl⟩
    rw [List.toList_toArray, merge_sorted hs hp]
    have := owns_sorted (enc := encE) (k := 2) (fun _ => rfl) h (l' := S) hp.length_eq n os
    refine ⟨rfl, ?_, (mod_sorted w g n _ os).mono (fun x _ hx => by rw [hx]; rfl)⟩
    rw [← hp.length_eq]
    exact this

set_option maxHeartbeats 1000000 in
set_option maxRecDepth 100000 in
theorem list_ok (w : World) (b slots : Nat) (S : List Ent) (g : HG) (h : HObj w b slots S g) :
    Calls Try.prog 42 #[.pointer (some ⟨b, 0, none⟩)] w (RRow w S) := by
  have HO := Lib.hid h
  obtain rfl := h.hb
  have c0 := h.rep.hb.cell (i := 0) rfl
  have c2 := h.rep.hb.cell (i := 2) rfl
  obtain ⟨ao, cp, hiv⟩ := owns_slice h.rep.hi
  have hlen : g.it.length ≤ 65536 := Nat.le_trans h.good.len h.rep.hs
  have HR0 := h.rep.hi
  rw [hiv] at c2 HR0
  have HR := Lib.hid HR0
  clear h hiv HR0
  go_enter Try.func42, Try.ntmps42
  go_wp2_with (first
    | (go_at_call 59; refine (valid_ok g.b w c0).mono ?_; rintro e w' ⟨rfl, rfl⟩)
    | (go_at_call 74; refine (clone_ok w _ g.it HR.out hlen).mono ?_; rintro e w1 ⟨v, rfl, hrow⟩; have HROW := Lib.hid hrow; clear hrow))
  with_reducible refine (sort_ok w1 v g.it S HROW.out.own hlen HO.out.sorted HO.out.perm).mono ?_
  rintro e w2 ⟨rfl, ho, hm⟩
  have FIN : Hid (ENewRow w S v w2) := ⟨ho, HROW.out.bel.trans (hm.below HROW.out.bel.size HROW.out.new), HROW.out.new⟩
  clear ho hm
  go_wp2_with fail
  go_ret
  exact ⟨_, rfl, FIN.out⟩

end Go.Proofs.Ytebclbpibafkdaa
