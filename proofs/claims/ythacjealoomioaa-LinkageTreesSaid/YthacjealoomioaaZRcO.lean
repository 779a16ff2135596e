/- The library's sort of a row of numbers by a function of the program's. -/
import Derived.Test.YthacjealoomioaaZShelfP
import Derived.Test.YthacjealoomioaaZRcK
namespace Go.Proofs.Ythacjealoomioaa
set_option linter.unusedVariables false
set_option linter.unusedSimpArgs false
open Go.RowKit Go.Shelf Go.Lib Go.Sort

theorem owns_blk {w : World} {b : Nat} {T : TypeId} {cs : List Value} (h : Blk w b T cs) (hl : cs.length ≤ 1000000000) : w.ownsRow 0 T 1 (.slice (some ⟨b, 0, none⟩) cs.length cs.length) cs.length cs :=
  ⟨by simp, .inr ⟨b, cs.length, cs.toArray, rfl, Nat.zero_le _, h, Nat.le_refl _, by unfold maxLen; omega, by simp, by simp⟩⟩

def encS (L : List Nat) (x : {x // x ∈ L}) : Value := .int .i64 ((x.1 : Nat) : Int)

theorem mod_sorted1 {α : Type} [Inhabited α] {enc : α → Value} (w : World) (g n : Nat) (d : Array α) (os : Array Obj) : Mod (fun x => x = g) w (sortWorld enc w g 0 n d os) := by
  refine ⟨rfl, rfl, rfl, ?_, fun x hx hne => ?_⟩
  · unfold sortWorld grow; simp [Go.Sort.ahead]
  · unfold sortWorld grow putRow mapBlock
    simp only
    rw [Array.getElem?_append_left (by simpa [Go.Sort.ahead] using hx), Array.getElem?_modify, if_neg (fun e => hne e.symm)]
    rfl

/-- Behind the sort the row is the program's own, and holds what the sort laid. -/
theorem owns_sorted1 {α : Type} [Inhabited α] {enc : α → Value} {w : World} {e : TypeId} {g n cap : Nat} {xs : List Value} (h : w.ownsRow 0 e 1 (.slice (some ⟨g, 0, none⟩) n cap) n xs) (l' : List α)
    (hl : l'.length = n) (q : Nat) (os : Array Obj) : (sortWorld enc w g 0 q l'.toArray os).ownsRow 0 e 1 (.slice (some ⟨g, 0, none⟩) n cap) n (l'.map enc) := by
  refine ⟨by simp [hl], ?_⟩
  rcases h.2 with ⟨h', _⟩ | ⟨g', cap', cur, h', hb, hg, hnc, hcm, hs, htake⟩
  · simp at h'
  · simp only [Value.slice.injEq, Option.some.injEq, Addr.mk.injEq, and_true, true_and] at h'
    obtain ⟨rfl, rfl⟩ := h'
    have hlt : g < w.heap.size := (Array.getElem?_eq_some_iff.1 hg).1
    refine .inr ⟨g, cap, putCells enc 0 l'.toArray cur, rfl, hb, ?_, by omega, hcm, by simp [putCells, hs], ?_⟩
    · unfold sortWorld grow putRow mapBlock
      simp only
      rw [Array.getElem?_append_left (by simpa [Go.Sort.ahead] using hlt), Array.getElem?_modify, if_pos rfl]
      have : (Go.Sort.ahead w q).heap[g]? = some (Obj.cells cur e (0, 0)) := hg
      rw [this]; rfl
    · apply List.ext_getElem?
      intro j
      rw [List.getElem?_take]
      by_cases hj : j < n * 1
      · have hj' : j < l'.length := by omega
        have hjc : j < cur.size := by omega
        rw [if_pos hj, List.getElem?_map, List.getElem?_eq_getElem hj']
        simp [putCells, Array.getElem?_mapIdx, hjc, hj']
      · rw [if_neg hj, List.getElem?_eq_none (by simp; omega)]

set_option maxHeartbeats 1000000 in
theorem sortN_ok (w : World) (g n cap : Nat) (L : List Nat) (hown : w.ownsRow 0 3 1 (.slice (some ⟨g, 0, none⟩) n cap) n (natV L)) (hL : L.length = n) (h0 : 0 < n) (hn : n ≤ 1000000000)
    (R : Nat → Nat → Prop) [DecidableRel R] (irr : ∀ a, ¬ R a a) (tr : ∀ a b c, R a b → R b c → R a c) (tot : ∀ x ∈ L, ∀ y ∈ L, ¬ R x y → ¬ R y x → x = y)
    (cf : Nat → Nat → Int) (hcf : ∀ x ∈ L, ∀ y ∈ L, cf x y < 0 ↔ R x y) (fk : Nat) (cb : Array Value) (eg : ∀ args w, (callFunc fk args).run Try.prog w = .ok (.enter fk args) w)
    (hcmp : ∀ W, Mod (fun x => x = g) w W → ∀ x ∈ L, ∀ y ∈ L, Calls Try.prog fk (#[.int .i64 (x : Int), .int .i64 (y : Int)] ++ cb) W fun e w' => e = .returned (.int .i64 (cf x y)) ∧ ∃ q os', w' = grow (W.drewN q) os')
    (S : List Nat) (hp : S.Perm L) (hs : S.Pairwise R) :
    Calls Try.prog 24 #[.slice (some ⟨g, 0, none⟩) n cap, .func (.func fk) #[] cb] w (fun e w' => e = .returned (.tuple #[]) ∧ w'.ownsRow 0 3 1 (.slice (some ⟨g, 0, none⟩) n cap) n (natV S) ∧ Mod (fun x => x = g) w w') := by
  obtain ⟨g', cap', hv, _, _, hgl, hcell, hfr⟩ := owns_form hown h0
  injection hv with e1 _ e3
  injection e1 with e1
  injection e1 with e1
  subst e1
  have hne : ∃ x, x ∈ L := ⟨L[0]'(by omega), List.getElem_mem _⟩
  obtain ⟨x0, hx0⟩ := hne
  letI : Inhabited {x // x ∈ L} := ⟨⟨x0, hx0⟩⟩
  have hlt : ∀ x y : {x // x ∈ L}, ltOf (fun x y : {x // x ∈ L} => cf x.1 y.1) x y = decide (R x.1 y.1) := fun x y => by
    unfold ltOf
    by_cases h : R x.1 y.1
    · rw [decide_eq_true h]; exact decide_eq_true ((hcf _ x.2 _ y.2).2 h)
    · rw [decide_eq_false h]; exact decide_eq_false (fun e => h ((hcf _ x.2 _ y.2).1 e))
  have hswo : SWO (ltOf (fun x y : {x // x ∈ L} => cf x.1 y.1)) := by
    refine ⟨fun x => ?_, fun x y z h1 h2 => ?_, fun x y z h1 h2 => ?_⟩
    · rw [hlt]; exact decide_eq_false (irr _)
    · rw [hlt] at *; exact decide_eq_true (tr _ _ _ (of_decide_eq_true h1) (of_decide_eq_true h2))
    · rw [hlt] at *
      have a1 := of_decide_eq_false h1
      have a2 := of_decide_eq_false h2
      refine decide_eq_false fun h3 => ?_
      by_cases c : R y.1 x.1
      · by_cases c2 : R z.1 y.1
        · exact irr _ (tr _ _ _ h3 (tr _ _ _ c2 c))
        · have := tot _ y.2 _ z.2 a2 c2
          rw [← this] at h3
          exact a1 h3
      · have := tot _ x.2 _ y.2 a1 c
        rw [this] at h3
        exact a2 h3
  have hT : ∀ x y : {x // x ∈ L}, ltOf (fun x y : {x // x ∈ L} => cf x.1 y.1) x y = false → ltOf (fun x y : {x // x ∈ L} => cf x.1 y.1) y x = false → x = y := fun x y h1 h2 => by
    rw [hlt] at *
    exact Subtype.ext (tot _ x.2 _ y.2 (of_decide_eq_false h1) (of_decide_eq_false h2))
  have hH : Holds (encS L) w g 0 L.attach.toArray := by
    intro j hj
    have hj' : j < n := by simpa [hL] using hj
    rw [Nat.zero_add]
    refine ⟨?_, hfr j⟩
    rw [hcell j (by omega), natV_get (by omega), getElem!_pos _ j hj]
    have hjL : j < L.length := by omega
    simp [encS, hjL]
  have hcon := Any.slices_SortFunc_total Try.sortInt (encS L) (fun _ => rfl) (fun x y : {x // x ∈ L} => cf x.1 y.1) hswo fk cb g 0 cap L.attach.toArray w eg
    (fun m os dk _ x y => hcmp _ (mod_sorted1 w g m dk os) x.1 x.2 y.1 y.2) hH hgl (by simp; omega) hT
  change Calls Try.prog 24 _ _ _ at hcon
  rw [List.size_toArray, List.length_attach, hL] at hcon
  refine hcon.mono ?_
  rintro e w' ⟨rfl, q, os, rfl⟩
  have hms : ((L.attach.mergeSort fun x y => !ltOf (fun x y : {x // x ∈ L} => cf x.1 y.1) y x).map Subtype.val) = S := by
    have p1 : (L.attach.mergeSort fun x y => !ltOf (fun x y : {x // x ∈ L} => cf x.1 y.1) y x).Perm L.attach := List.mergeSort_perm _ _
    have p2 : ((L.attach.mergeSort fun x y => !ltOf (fun x y : {x // x ∈ L} => cf x.1 y.1) y x).map Subtype.val).Perm L := by
      have := p1.map Subtype.val
      rw [List.attach_map_subtype_val] at this
      exact this
    refine strict_unique irr tr ?_ hs (p2.trans hp.symm)
    have h2 := List.pairwise_mergeSort (le := fun x y => !ltOf (fun x y : {x // x ∈ L} => cf x.1 y.1) y x) (fun a b c hab hbc => by
        simp only [Bool.not_eq_true'] at *
        exact hswo.ntrans _ _ _ hbc hab) (fun a b => by
        simp only [hlt, Bool.or_eq_true, Bool.not_eq_true', decide_eq_false_iff_not]
        by_cases h : R b.1 a.1
        · exact .inr (fun h' => irr _ (tr _ _ _ h h'))
        · exact .inl h) L.attach
    have hSn : S.Nodup := List.Pairwise.imp (S := fun a b => a ≠ b) (fun {a b} hab e => irr a (by rw [← e] at hab; exact hab)) hs
    have hnd : ((L.attach.mergeSort fun x y => !ltOf (fun x y : {x // x ∈ L} => cf x.1 y.1) y x).map Subtype.val).Nodup := (p2.trans hp.symm).nodup_iff.2 hSn
    rw [List.nodup_iff_pairwise_ne, List.pairwise_map] at hnd
    rw [List.pairwise_map]
    refine List.Pairwise.imp₂ (R := fun a b => (!ltOf (fun x y : {x // x ∈ L} => cf x.1 y.1) b a) = true) (S := fun a b => a.1 ≠ b.1) (fun a b hab hne => ?_) h2 hnd
    simp only [hlt, Bool.not_eq_true', decide_eq_false_iff_not] at hab
    exact Classical.byContradiction fun hc => hne (tot _ a.2 _ b.2 hc hab)
  have hlen : (L.attach.mergeSort fun x y => !ltOf (fun x y : {x // x ∈ L} => cf x.1 y.1) y x).length = n := by rw [List.length_mergeSort, List.length_attach, hL]
  have ho := owns_sorted1 (enc := encS L) hown _ hlen q os
  have hval : ((L.attach.mergeSort fun x y => !ltOf (fun x y : {x // x ∈ L} => cf x.1 y.1) y x).map (encS L)) = natV S := by
    rw [← hms]
    unfold natV
    rw [List.map_map]
    rfl
  rw [hval] at ho
  rw [List.toList_toArray]
  exact ⟨rfl, ho, mod_sorted1 w g q _ os⟩

set_option maxHeartbeats 400000 in
theorem sortN_none (w : World) (ao : Option Addr) (cap : Nat) (fv : Value) : Calls Try.prog 24 #[.slice ao 0 cap, fv] w (fun e w' => e = .returned (.tuple #[]) ∧ w' = w) := by
  have hcon := AnyF.slices_SortFunc_none Try.sortInt0 ao cap fv w
  change Calls Try.prog 24 _ _ _ at hcon
  exact hcon

end Go.Proofs.Ythacjealoomioaa
