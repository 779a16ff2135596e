/- RfN, RfP, RfO, RfG, RfH. -/
import Derived.Test.YthacjealoomioaaGreatDoorZGg
import Derived.Test.YthacjealoomioaaGreatDoorZGj
import Derived.Test.YthacjealoomioaaGreatDoorZGi
import Derived.RegionTactic
import Derived.BigRegion
/- Reference of layer 13: New. -/
namespace Go.Proofs.YthacjealoomioaaGreatDoor
set_option linter.unusedVariables false
set_option linter.unusedSimpArgs false
open Go.RowKit

/-- A graph of the reference's. -/
structure RGObj (w : World) (g n : Nat) (l : List Ed) : Prop where
  ex : ∃ ao cap b, Blk w g 118 [.bool true, .int .i64 n, .slice ao l.length cap] ∧ ERow w ao l.length b 0 l ∧ (ao = none → cap = 0)

theorem owns_nilcap {w : World} {B e size n cap : Nat} {ao : Option Addr} {xs : List Value} (h : w.ownsRow B e size (.slice ao n cap) n xs) : ao = none → cap = 0 := fun e => by
  subst e
  rcases h.2 with ⟨h', _⟩ | ⟨g, c, cur, h', _⟩
  · injection h' with _ _ h3
  · injection h' with h1; cases h1

theorem RGObj.below {w w' : World} {g n : Nat} {l : List Ed} (h : RGObj w g n l) (hb : Below w.heap.size w w') : RGObj w' g n l := by
  obtain ⟨ao, cap, b, h1, h2, h3⟩ := h.ex
  exact ⟨ao, cap, b, h1.below hb h1.lt, h2.below hb, h3⟩

structure RnPost (w : World) (n : Int) (l : List Ed) (e : Ending) (w' : World) : Prop where
  out : ∃ p, e = .returned (.tuple #[.pointer p, .int .i64 (newErr n l)]) ∧ (newErr n l ≠ 0 → p = none) ∧ (newErr n l = 0 → ∃ g, p = some ⟨g, 0, none⟩ ∧ RGObj w' g n.toNat l)
  bel : Below w.heap.size w w'
theorem RnPost.bad {w w' : World} {n : Int} {l : List Ed} {k : Int} (h : newErr n l = k) (hk : k ≠ 0) (hb : Below w.heap.size w w') : RnPost w n l (.returned (.tuple #[.pointer none, .int .i64 k])) w' :=
  ⟨⟨none, by rw [h], fun _ => rfl, fun h' => absurd (h.symm.trans h') hk⟩, hb⟩
theorem RnPost.ok {w w' : World} {n : Int} {l : List Ed} {g : Nat} (h : newErr n l = 0) (hg : RGObj w' g n.toNat l) (hb : Below w.heap.size w w') : RnPost w n l (.returned (.tuple #[.pointer (some ⟨g, 0, none⟩), .int .i64 0])) w' :=
  ⟨⟨_, by rw [h], fun h' => absurd h h', fun _ => ⟨g, rfl, hg⟩⟩, hb⟩

set_option maxHeartbeats 4000000 in
set_option maxRecDepth 100000 in
theorem rnew_ok (w : World) (n : Int) (ao : Option Addr) (m cap b off : Nat) (l : List Ed) (he : ERow w ao m b off l) (hm : m ≤ 9223372036854775807) (hnil : ao = none → cap = 0) (hn64 : -9223372036854775808 ≤ n ∧ n ≤ 9223372036854775807) :
    Calls Tryz.prog 35 #[.int .i64 n, .slice ao m cap] w (RnPost w n l) := by
  have HE := Lib.hid he
  have HS := Lib.hid he.size
  have HNIL := Lib.hid hnil
  clear he hnil
  by_cases h1 : n < 0
  · have t1 : decide (n < 0) = true := by simp [h1]
    have HF : Hid (newErr n l = 2) := by show _ = _; unfold newErr; rw [if_pos (.inl h1)]
    clear h1
    go_enter Tryz.func35, Tryz.ntmps35
    go_wp2_with fail
    go_ret2
    exact RnPost.bad HF.out (by decide) (Below.refl _ _)
  by_cases h2 : 4096 < n
  · have t1 : decide (n < 0) = false := by simp; omega
    have t2 : decide (4096 < n) = true := by simp [h2]
    have HF : Hid (newErr n l = 2) := by show _ = _; unfold newErr; rw [if_pos (.inr (.inl h2))]
    clear h1 h2
    go_enter Tryz.func35, Tryz.ntmps35
    go_wp2_with fail
    go_ret2
    exact RnPost.bad HF.out (by decide) (Below.refl _ _)
  have t1 : decide (n < 0) = false := by simp; omega
  have t2 : decide (4096 < n) = false := by simp; omega
  by_cases h3 : 16384 < m
  · have t3 : decide (16384 < m) = true := by simp [h3]
    have t3' : decide ((16384 : Int) < (m : Int)) = true := by simp; omega
    have HF : Hid (newErr n l = 2) := by show _ = _; unfold newErr; rw [if_pos (.inr (.inr (by rw [HS.out]; exact h3)))]
    clear h1 h2 h3
    go_enter Tryz.func35, Tryz.ntmps35
    go_wp2_with fail
    go_ret2
    exact RnPost.bad HF.out (by decide) (Below.refl _ _)
  have t3 : decide (16384 < m) = false := by simp; omega
  have t3' : decide ((16384 : Int) < (m : Int)) = false := by simp; omega
  have HF := Lib.hid (newErr_from (n := n) (l := l) (by rw [HS.out]; omega))
  have hm2 : m ≤ 16384 := by omega
  have hn2 : 0 ≤ n := by omega
  have hn3 : n ≤ 4096 := by omega
  clear h1 h2 h3
  go_enter Tryz.func35, Tryz.ntmps35
  go_wp2_with fail
  clear t1 t2 t3 t3'
  go_loopw [6] (fun s wr => ∃ t : Nat, t ≤ m ∧ s = .int .i64 t ∧ Below w.heap.size w wr ∧ newErr n l = errFrom n (l.drop t)) (fun s _ => m - (intOf s).toNat)
  case atStart => exact ⟨0, Nat.zero_le _, rfl, Below.refl _ _, HF.out⟩
  case round =>
    obtain ⟨t, ht, rfl, hb, hf⟩ := hrel
    have HB := Lib.hid hb
    have HF' := Lib.hid hf
    clear hb hf HF
    by_cases htm : t < m
    · obtain ⟨c0, c1, c2⟩ := (HE.out.below HB.out).cell t htm
      obtain rfl := HE.out.adr (by omega)
      have hd := Lib.hid (HF'.out.trans (errFrom_drop (by rw [HS.out]; exact htm)))
      generalize EA l t = ed at *
      obtain ⟨U, V, W⟩ := ed
      simp only at c0 c1 c2
      by_cases h1 : U < 0
      · have t1 : decide (U < 0) = true := by simp [h1]
        have HR : Hid (newErr n l = 3) := hd.out.trans (err_then (by unfold edErr; exact if_pos (.inl h1)) (by decide))
        clear h1 hd
        go_wp2_with fail
        go_ret2
        exact RnPost.bad HR.out (by decide) HB.out
      have t1 : decide (U < 0) = false := by simp; omega
      by_cases h2 : n ≤ U
      · have t2 : decide (n ≤ U) = true := by simp [h2]
        have HR : Hid (newErr n l = 3) := hd.out.trans (err_then (by unfold edErr; exact if_pos (.inr (.inl h2))) (by decide))
        clear h1 h2 hd
        go_wp2_with fail
        go_ret2
        exact RnPost.bad HR.out (by decide) HB.out
      have t2 : decide (n ≤ U) = false := by simp; omega
      by_cases h3 : V < 0
      · have t3 : decide (V < 0) = true := by simp [h3]
        have HR : Hid (newErr n l = 3) := hd.out.trans (err_then (by unfold edErr; exact if_pos (.inr (.inr (.inl h3)))) (by decide))
        clear h1 h2 h3 hd
        go_wp2_with fail
        go_ret2
        exact RnPost.bad HR.out (by decide) HB.out
      have t3 : decide (V < 0) = false := by simp; omega
      by_cases h4 : n ≤ V
      · have t4 : decide (n ≤ V) = true := by simp [h4]
        have HR : Hid (newErr n l = 3) := hd.out.trans (err_then (by unfold edErr; exact if_pos (.inr (.inr (.inr h4)))) (by decide))
        clear h1 h2 h3 h4 hd
        go_wp2_with fail
        go_ret2
        exact RnPost.bad HR.out (by decide) HB.out
      have t4 : decide (n ≤ V) = false := by simp; omega
      clear h1 h2 h3 h4
      have h12 : 0 ≤ U ∧ U < n ∧ 0 ≤ V ∧ V < n := by simp at t1 t2 t3 t4; omega
      have H12 := Lib.hid h12
      clear h12
      go_wp2_with fail
      clear t1 t2 t3 t4
      by_cases h5 : U = V
      · have t5 : (U == V) = true := by simp [h5]
        have HR : Hid (newErr n l = 9) := hd.out.trans (err_then (by unfold edErr; rw [if_neg (by simp only; have := H12.out; omega)]; exact if_pos h5) (by decide))
        clear h5 hd
        go_quiet (fail)
        have HBQ := Lib.hid (bel_drewN HB.out nq)
        go_wp2_with fail
        go_ret2
        exact RnPost.bad HR.out (by decide) HBQ.out
      have t5 : (U == V) = false := by simp [h5]
      have HR : Hid (newErr n l = errFrom n (l.drop (t + 1))) := by
        show _ = _
        rw [hd.out]
        have : edErr n ⟨U, V, W⟩ = 0 := edErr_zero.2 (by simp only; have := H12.out; omega)
        rw [this, if_pos rfl]
      clear h5 hd
      go_quiet (fail)
      have HBQ := Lib.hid (bel_drewN HB.out nq)
      go_wp2_with fail
      go_roundw
      case rel => exact ⟨t + 1, by omega, by go_num, HBQ.out, HR.out⟩
      case measure => simp [intOf]; omega
    · have htm3 : ¬ (t : Int) < (m : Int) := by omega
      have HZ : Hid (newErr n l = 0) := by
        show _ = _
        rw [HF'.out, List.drop_of_length_le (by rw [HS.out]; omega)]; rfl
      obtain ⟨k, hk, hg⟩ := GOk.of_err HZ.out
      have HG := Lib.hid hg
      obtain rfl := hk
      have HSR := Lib.hid (Src.of_edges (HE.out.below HB.out) HNIL.out)
      clear HF' hg
      have HEM := Lib.hid (owns_empty2 wr 82 3)
      have HB0 := Lib.hid ((Below.refl wr.heap.size wr).alloc (Nat.le_refl _) (.cells #[] 82))
      cases ao with
      | none =>
        obtain ⟨rfl, rfl⟩ := HSR.out.nil rfl
        have hl0 : l = [] := List.eq_nil_of_length_eq_zero HS.out
        subst hl0
        go_wp2_with (at_builtin; apply keepIt)
        apply Lib.hid
        refine wpList_appendR (by first | rfl | decide) 82 (.agg #[.int .i64 0, .int .i64 0, .int .i64 0]) 3 24 Tryz.underlying22 Tryz.infoEdge rfl (by decide) _ 0 [] rfl HEM.out (.slice none 0 0) 0 [] rfl (World.ownsRow_nil _ _ _ _) (by simp) (by unfold maxLen; omega) (by omega) ?_
        intro v2 w2 ho2 hg2 hn2'
        have hnr := new_row ho2 hg2 hn2'
        have ho := hnr.own
        obtain ⟨ao2, cap2, b2, e2, he2, _⟩ := ERow.of_owns (l := []) ho
        subst e2
        have HE2 := Lib.hid he2
        have HNC := Lib.hid (owns_nilcap ho)
        have HB2 := Lib.hid (bel_then HB.out hnr.bel)
        clear hnr ho he2 ho2 hg2 hn2'
        go_wp2_with fail
        go_ret2
        exact RnPost.ok HZ.out ⟨_, _, _, Blk.new _ _ _, HE2.out.below (Below.alloc (Below.refl _ _) (Nat.le_refl _) _), HNC.out⟩ (HB2.out.alloc HB2.out.size _)
      | some ad =>
        have HSB := Lib.hid (HSR.out.below HB0.out)
        go_wp2_with (at_builtin; apply keepIt)
        apply Lib.hid
        refine wpList_appendB 82 (.agg #[.int .i64 0, .int .i64 0, .int .i64 0]) 3 24 Tryz.underlying22 Tryz.infoEdge rfl (by decide) _ 0 [] rfl HEM.out ad m cap (edCells l) rfl HSB.out.len (HSB.out.cell ad rfl) HSB.out.one (by unfold maxLen; omega) (by omega) ?_
        intro v2 w2 ho2 hg2 hn2'
        have hnr := new_row ho2 hg2 hn2'
        have ho := hnr.own
        rw [← HS.out] at ho
        obtain ⟨ao2, cap2, b2, e2, he2, _⟩ := ERow.of_owns ho
        subst e2
        have HE2 := Lib.hid he2
        have HNC := Lib.hid (owns_nilcap ho)
        have HB2 := Lib.hid (bel_then HB.out hnr.bel)
        clear hnr ho he2 ho2 hg2 hn2'
        go_wp2_with fail
        go_ret2
        exact RnPost.ok HZ.out ⟨_, _, _, Blk.new _ _ _, HE2.out.below (Below.alloc (Below.refl _ _) (Nat.le_refl _) _), HNC.out⟩ (HB2.out.alloc HB2.out.size _)

end Go.Proofs.YthacjealoomioaaGreatDoor

/- Reference of layers 17 and 18, plainly: an insertion sort; the tree that grows node by node. No program in sight. -/
namespace Go.Proofs.YthacjealoomioaaGreatDoor
set_option linter.unusedVariables false
set_option linter.unusedSimpArgs false
open Go.RowKit

/- The insertion sort. -/
/-- The number i has come down to the place j: what is behind it is greater. -/
structure InsAt (l : List Ed) (i j : Nat) (out : List Nat) : Prop where
  ex : ∃ A B, out = A ++ i :: B ∧ A.length = j ∧ (A ++ B).Pairwise (olt l) ∧ (A ++ B).Perm (List.range i) ∧ ∀ b ∈ B, olt l i b

structure SrtAt (l : List Ed) (i : Nat) (out : List Nat) : Prop where
  srt : out.Pairwise (olt l)
  perm : out.Perm (List.range i)

theorem SrtAt.nil (l : List Ed) : SrtAt l 0 [] := ⟨List.Pairwise.nil, by simp⟩
theorem SrtAt.len {l : List Ed} {i : Nat} {out : List Nat} (h : SrtAt l i out) : out.length = i := by rw [h.perm.length_eq, List.length_range]
theorem SrtAt.mem {l : List Ed} {i : Nat} {out : List Nat} (h : SrtAt l i out) {x : Nat} (hx : x ∈ out) : x < i := List.mem_range.1 (h.perm.mem_iff.1 hx)
theorem SrtAt.all {l : List Ed} {out : List Nat} (h : SrtAt l l.length out) : out = ordL l := ord_unique h.perm h.srt
theorem SrtAt.ins {l : List Ed} {i : Nat} {out : List Nat} (h : SrtAt l i out) : InsAt l i i (out ++ [i]) := by
  refine ⟨out, [], by simp, h.len, by rw [List.append_nil]; exact h.srt, by rw [List.append_nil]; exact h.perm, by simp⟩

theorem InsAt.len {l : List Ed} {i j : Nat} {out : List Nat} (h : InsAt l i j out) : out.length = i + 1 := by
  obtain ⟨A, B, rfl, _, _, hp, _⟩ := h.ex
  have := hp.length_eq
  simp only [List.length_append, List.length_range, List.length_cons] at this ⊢
  omega
theorem InsAt.le {l : List Ed} {i j : Nat} {out : List Nat} (h : InsAt l i j out) : j ≤ i := by
  obtain ⟨A, B, rfl, rfl, _, hp, _⟩ := h.ex
  have := hp.length_eq
  simp only [List.length_append, List.length_range] at this
  omega
theorem getD_mid {A B : List Nat} {x : Nat} : (A ++ x :: B).getD A.length 0 = x := by
  rw [List.getD_eq_getElem?_getD, List.getElem?_append_right (Nat.le_refl _)]; simp
theorem InsAt.self {l : List Ed} {i j : Nat} {out : List Nat} (h : InsAt l i j out) : out.getD j 0 = i := by
  obtain ⟨A, B, rfl, rfl, _, _, _⟩ := h.ex
  exact getD_mid
theorem split_last {A : List Nat} {j : Nat} (h : A.length = j + 1) : ∃ A' x, A = A' ++ [x] ∧ A'.length = j := by
  have hne : A ≠ [] := by intro e; subst e; cases h
  refine ⟨A.dropLast, A.getLast hne, (List.dropLast_concat_getLast hne).symm, ?_⟩
  rw [List.length_dropLast, h]; rfl
theorem InsAt.lt {l : List Ed} {i j : Nat} {out : List Nat} (h : InsAt l i j out) {y : Nat} (hy : y < i + 1) : out.getD y 0 ≤ i := by
  have hl := h.len
  obtain ⟨A, B, rfl, rfl, _, hp, _⟩ := h.ex
  have hm : (A ++ i :: B).getD y 0 ∈ A ++ i :: B := by
    rw [List.getD_eq_getElem?_getD, List.getElem?_eq_getElem (by omega)]
    exact List.getElem_mem _
  generalize (A ++ i :: B).getD y 0 = z at *
  rcases List.mem_append.1 hm with h1 | h1
  · have := List.mem_range.1 (hp.mem_iff.1 (List.mem_append_left B h1)); omega
  · rcases List.mem_cons.1 h1 with h1 | h1
    · omega
    · have := List.mem_range.1 (hp.mem_iff.1 (List.mem_append_right A h1)); omega
/-- One exchange. -/
theorem InsAt.swap {l : List Ed} {i j : Nat} {out : List Nat} (h : InsAt l i (j + 1) out) (hlt : wI l i < wI l (out.getD j 0)) : InsAt l i j ((out.set (j + 1) (out.getD j 0)).set j i) := by
  obtain ⟨A, B, rfl, hA, hs, hp, hB⟩ := h.ex
  obtain ⟨A', x, rfl, rfl⟩ := split_last hA
  have e0 : (A' ++ [x] ++ i :: B).getD A'.length 0 = x := by rw [List.append_assoc]; exact getD_mid
  rw [e0] at hlt ⊢
  refine ⟨A', x :: B, ?_, rfl, by simpa using hs, by simpa using hp, fun b hb => ?_⟩
  · rw [List.append_assoc, List.set_append_right _ _ (by omega), show A'.length + 1 - A'.length = 1 by omega, List.set_append_right _ _ (Nat.le_refl _), Nat.sub_self]
    rfl
  · rcases List.mem_cons.1 hb with e | hb
    · subst e; exact .inl hlt
    · exact hB b hb
/-- The place is found. -/
theorem InsAt.done {l : List Ed} {i j : Nat} {out : List Nat} (h : InsAt l i j out) (hge : j = 0 ∨ ¬ wI l i < wI l (out.getD (j - 1) 0)) : SrtAt l (i + 1) out := by
  obtain ⟨A, B, rfl, hA, hs, hp, hB⟩ := h.ex
  have hpp : (A ++ i :: B).Perm (List.range (i + 1)) := by
    rw [List.range_succ]
    exact List.perm_middle.trans ((List.Perm.cons i hp).trans (List.perm_append_singleton i (List.range i)).symm)
  refine ⟨?_, hpp⟩
  obtain ⟨hsA, hsB, hAB⟩ := List.pairwise_append.1 hs
  have hAi : ∀ a ∈ A, olt l a i := by
    rcases Nat.eq_zero_or_pos j with h0 | h0
    · subst h0
      have : A = [] := List.eq_nil_of_length_eq_zero hA
      subst this
      intro a ha; cases ha
    · obtain ⟨k, rfl⟩ : ∃ k, j = k + 1 := ⟨j - 1, by omega⟩
      obtain ⟨A', x, rfl, rfl⟩ := split_last hA
      have e0 : (A' ++ [x] ++ i :: B).getD (A'.length + 1 - 1) 0 = x := by rw [List.append_assoc, Nat.add_sub_cancel]; exact getD_mid
      rw [e0] at hge
      have hge' : ¬ wI l i < wI l x := by rcases hge with h | h; (· omega); (· exact h)
      have hx : x < i := List.mem_range.1 (hp.mem_iff.1 (List.mem_append_left B (List.mem_append_right A' (List.mem_singleton.2 rfl))))
      have hxi : olt l x i := by unfold olt; omega
      intro a ha
      rcases List.mem_append.1 ha with ha | ha
      · exact olt_trans ((List.pairwise_append.1 hsA).2.2 a ha x (List.mem_singleton.2 rfl)) hxi
      · rw [List.mem_singleton.1 ha]; exact hxi
  refine List.pairwise_append.2 ⟨hsA, List.pairwise_cons.2 ⟨hB, hsB⟩, fun a ha b hb => ?_⟩
  rcases List.mem_cons.1 hb with e | hb
  · subst e; exact hAi a ha
  · exact hAB a ha b hb

/- The tree that grows. -/
/-- The first c nodes. -/
def trT (t : Tr) (c : Nat) : Tr := ⟨t.lv, t.left.take c, t.right.take c, t.par.take c, t.hgt.take c, t.siz.take c⟩
theorem gi_take {l : List Int} {c x : Nat} (h : x < c) : gi (l.take c) x = gi l x := by
  unfold gi; rw [List.getD_eq_getElem?_getD, List.getElem?_take_of_lt h, ← List.getD_eq_getElem?_getD]

theorem grow_up {n m : Nat} {s : Bd} {cur : Nat} {ls : List Nat} (h : BInv n m s cur ls) (h2 : BInv2 n s cur ls) : ∀ d x, x < cur → cur - x ≤ d → Up (trT s.t cur) cur x (s.top.getD (s.k.getD (ls.getD x 0) 0) 0)
  | 0, x, hx, hd => by omega
  | d + 1, x, hx, hd => by
    rcases h.par1 x hx with e | ⟨p, e, h3, h4, h5⟩
    · rw [h2.r x hx e]
      exact .root hx (by show gi (s.t.par.take cur) x = -1; rw [gi_take hx]; exact e)
    · have hi := h.inn p h3 h4
      have hxp : x < p := by
        have := hi.1.1
        have := hi.1.2.1
        rcases h5 with h5 | h5 <;> omega
      have hk := h2.p x hx p e
      have := grow_up h h2 d p h4 (by omega)
      rw [hk] at this
      exact .step hx (by show gi (s.t.par.take cur) x = p; rw [gi_take hx]; exact e) hxp this

theorem grow_low {n m : Nat} {s : Bd} {cur : Nat} {ls : List Nat} (h : BInv n m s cur ls) : ∀ d x, x < cur → x ≤ d → Low (trT s.t cur) n cur x (ls.getD x 0) := by
  intro d
  induction d with
  | zero =>
    intro x hx hd
    have hx0 : x = 0 := by omega
    by_cases hn : x < n
    · rw [h.ls0 x hn]; exact .leaf hn
    · have hi := (h.inn x (by omega) hx).1.1
      omega
  | succ d ih =>
    intro x hx hd
    by_cases hn : x < n
    · rw [h.ls0 x hn]; exact .leaf hn
    · have hi := h.inn x (by omega) hx
      have hl : gi s.t.left x = (lc s.t x : Int) := by unfold lc; have := hi.1.1; omega
      have hr : gi s.t.right x = (rc s.t x : Int) := by unfold rc; have := hi.1.2.1; omega
      have h1 : lc s.t x < x := by have := hi.1.1; omega
      have h2 : rc s.t x < x := by have := hi.1.2.1; omega
      have := Low.node (t := trT s.t cur) (n := n) (m := cur) (by omega) hx (show gi (s.t.left.take cur) x = (lc s.t x : Int) by rw [gi_take hx]; exact hl) (show gi (s.t.right.take cur) x = (rc s.t x : Int) by rw [gi_take hx]; exact hr)
        (ih _ (by omega) (by omega)) (ih _ (by omega) (by omega))
      rw [Nat.min_eq_left (Nat.le_of_lt hi.2.1.2.2), ← h.ls1 x (by omega) hx] at this
      exact this

/-- The root above a vertex, and the least leaf below it. -/
theorem grow_root {n m : Nat} {s : Bd} {cur : Nat} {ls : List Nat} (h : BInv n m s cur ls) (h2 : BInv2 n s cur ls) {x : Nat} (hx : x < n) :
    Up (trT s.t cur) cur x (s.top.getD (s.k.getD x 0) 0) ∧ s.top.getD (s.k.getD x 0) 0 < cur ∧ Low (trT s.t cur) n cur (s.top.getD (s.k.getD x 0) 0) (s.k.getD x 0) := by
  have hc := h.nc
  have h1 := grow_up h h2 cur x (by omega) (by omega)
  rw [h.ls0 x hx] at h1
  have hk := h.kok.idem x hx
  have hkn : s.k.getD x 0 < n := by have := h.kok.le x hx; omega
  obtain ⟨t1, t2, t3⟩ := h.top _ hkn hk
  have h3 := grow_low h cur _ t1 (Nat.le_of_lt t1)
  rw [t3] at h3
  exact ⟨h1, t1, h3⟩

theorem take_set_snoc {l : List Int} {c : Nat} {v : Int} (h : c < l.length) : (l.set c v).take (c + 1) = l.take c ++ [v] := by
  rw [List.take_succ_eq_append_getElem (by rw [List.length_set]; exact h), List.take_set_of_le (Nat.le_refl _), List.getElem_set_self]
theorem take_snocI {l : List Int} {c : Nat} (h : c < l.length) : l.take (c + 1) = l.take c ++ [gi l c] := by
  rw [List.take_succ_eq_append_getElem h]
  unfold gi
  rw [List.getD_eq_getElem?_getD, List.getElem?_eq_getElem h]; rfl

/-- A node is added. -/
theorem grow_step {n m : Nat} {s : Bd} {cur : Nat} {ls : List Nat} (h : BInv n m s cur ls) (hc : cur < m) (l : List Ed) (i : Nat) {a b : Nat} (ha : s.lf l i = a) (hb : s.rg l i = b) (h1 : a < cur) (h2 : b < cur) {w z : Int} (hw : wI l i = w) (hz : gi (trT s.t cur).siz a + gi (trT s.t cur).siz b = z) :
    trT (s.step l cur i).t (cur + 1) = ⟨(trT s.t cur).lv, (trT s.t cur).left ++ [(a : Int)], (trT s.t cur).right ++ [(b : Int)], (((trT s.t cur).par ++ [-1]).set a (cur : Int)).set b (cur : Int), (trT s.t cur).hgt ++ [w], (trT s.t cur).siz ++ [z]⟩ := by
  have e1 := h.ll
  have e2 := h.rl
  have e3 := h.pl
  have e4 := h.hl
  have e5 := h.sl
  unfold trT Bd.step
  simp only [ha, hb, hw]
  rw [take_set_snoc (by omega), take_set_snoc (by omega), take_set_snoc (by omega), take_set_snoc (by omega)]
  have ep : ((s.t.par.set a (cur : Int)).set b (cur : Int)).take (cur + 1) = ((s.t.par.take cur ++ [-1]).set a (cur : Int)).set b (cur : Int) := by
    rw [List.take_set, List.take_set, take_snocI (by omega), h.par0 cur (Nat.le_refl _) hc]
  have es : s.t.siz.getD a 0 + s.t.siz.getD b 0 = z := by
    rw [← hz]
    show gi s.t.siz a + gi s.t.siz b = gi (s.t.siz.take cur) a + gi (s.t.siz.take cur) b
    rw [gi_take h1, gi_take h2]
  rw [ep, es]

/-- i leaves. -/
def lvT (n i : Nat) : Tr := ⟨n, List.replicate i (-1), List.replicate i (-1), List.replicate i (-1), List.replicate i 0, List.replicate i 1⟩
theorem lvT_succ (n i : Nat) : lvT n (i + 1) = ⟨(lvT n i).lv, (lvT n i).left ++ [-1], (lvT n i).right ++ [-1], (lvT n i).par ++ [-1], (lvT n i).hgt ++ [0], (lvT n i).siz ++ [1]⟩ := by
  unfold lvT
  simp only [List.replicate_succ']
theorem grow_zero (n m : Nat) : trT (bd0 n m).t n = lvT n n := by
  unfold trT bd0 lvT
  simp only [List.take_replicate, List.take_append, List.length_replicate]
  simp
theorem grow_end {n m : Nat} {s : Bd} {ls : List Nat} (h : BInv n m s m ls) : trT s.t m = s.t := by
  unfold trT
  rw [List.take_of_length_le (by rw [h.ll]; exact Nat.le_refl _), List.take_of_length_le (by rw [h.rl]; exact Nat.le_refl _), List.take_of_length_le (by rw [h.pl]; exact Nat.le_refl _), List.take_of_length_le (by rw [h.hl]; exact Nat.le_refl _), List.take_of_length_le (by rw [h.sl]; exact Nat.le_refl _)]

/-- Which of the two is the left one. -/
theorem grow_sides {l : List Ed} {n : Nat} {s : Bd} {i : Nat} :
    (s.k.getD (vN l i) 0 < s.k.getD (uN l i) 0 → s.lf l i = s.top.getD (s.k.getD (vN l i) 0) 0 ∧ s.rg l i = s.top.getD (s.k.getD (uN l i) 0) 0) ∧
    (¬ s.k.getD (vN l i) 0 < s.k.getD (uN l i) 0 → s.lf l i = s.top.getD (s.k.getD (uN l i) 0) 0 ∧ s.rg l i = s.top.getD (s.k.getD (vN l i) 0) 0) := by
  unfold Bd.lf Bd.rg Bd.lo Bd.hi
  constructor
  · intro h
    rw [Nat.min_eq_right (Nat.le_of_lt h), Nat.max_eq_left (Nat.le_of_lt h)]; exact ⟨rfl, rfl⟩
  · intro h
    rw [Nat.min_eq_left (by omega), Nat.max_eq_right (by omega)]; exact ⟨rfl, rfl⟩

end Go.Proofs.YthacjealoomioaaGreatDoor

/- Reference of layer 17: Order. -/
namespace Go.Proofs.YthacjealoomioaaGreatDoor
set_option linter.unusedVariables false
set_option linter.unusedSimpArgs false
open Go.RowKit

theorem owns_drewN {w : World} {B e size n : Nat} {v : Value} {xs : List Value} (h : w.ownsRow B e size v n xs) (q : Nat) : (w.drewN q).ownsRow B e size v n xs := h
theorem natV_snoc (l : List Nat) (x : Nat) : natV (l ++ [x]) = natV l ++ [.int .i64 (x : Int)] := by simp [natV]

/-- What an append of one number leaves. -/
theorem app_one {B : Nat} {wr w6 : World} {T : TypeId} {o : Obj} {v v6 : Value} {n : Nat} {xs : List Nat} {x : Nat} (hv : ∀ k, v.ownBlock = some k → B ≤ k) (hB : B ≤ wr.heap.size) (ho : w6.ownsRow 0 T 1 v6 (n + 1) (natV xs ++ [.int .i64 (x : Int)])) (hg : (wr.alloc o).grownBy w6 v.ownBlock)
    (hn : ∀ k, v6.ownBlock = some k → v.ownBlock = some k ∨ (wr.alloc o).heap.size ≤ k) : w6.ownsRow 0 T 1 v6 (n + 1) (natV (xs ++ [x])) ∧ (∀ k, v6.ownBlock = some k → B ≤ k) ∧ Below B wr w6 := by
  refine ⟨by rw [natV_snoc]; exact ho, fun k hk => ?_, ((Below.refl _ _).alloc hB o).trans (grown_below hg hv (by simp; omega))⟩
  rcases hn k hk with e | e
  · exact hv k e
  · simp at e; omega

set_option maxHeartbeats 4000000 in
set_option maxRecDepth 100000 in
theorem rorder_ok (w : World) (ao : Option Addr) (m cap b off : Nat) (l : List Ed) (he : ERow w ao m b off l) (hm : m ≤ 16384) :
    Calls Tryz.prog 105 #[.slice ao m cap] w (RowPost w 3 1 m (natV (ordL l))) := by
  have HE := Lib.hid he
  have HS := Lib.hid he.size
  clear he
  go_enter Tryz.func105, Tryz.ntmps105
  go_wp2_with fail
  go_loopw [3, 4] (fun v s wr => ∃ (i : Nat) (out : List Nat), i ≤ m ∧ s = .int .i64 i ∧ SrtAt l i out ∧ wr.ownsRow 0 3 1 v i (natV out) ∧ (∀ k, v.ownBlock = some k → w.heap.size ≤ k) ∧ Below w.heap.size w wr) (fun _ s _ => m - (intOf s).toNat)
  case atStart => exact ⟨0, [], Nat.zero_le _, rfl, SrtAt.nil l, World.ownsRow_nil _ _ _ _, fun k hk => (by cases hk), Below.refl _ _⟩
  case round =>
    obtain ⟨i, out, hi, rfl, hsr, hv, hvn, hb⟩ := hrel
    have HSR := Lib.hid hsr
    have HVR := Lib.hid hv
    have HVN := Lib.hid hvn
    have HBR := Lib.hid hb
    clear hsr hv hvn hb
    by_cases him : i < m
    · have HOW := Lib.hid (HVR.out.alloc (.cells #[.int .i64 i] 3))
      have HNW := Lib.hid (news_new wr 3 [.int .i64 i])
      go_wp2_with (at_builtin; apply keepIt)
      apply Lib.hid
      refine wpList_appendB 3 (.int .i64 0) 1 8 Tryz.underlying24 Tryz.infoInt rfl (by decide) _ i _ rfl HOW.out ⟨wr.heap.size, 0, none⟩ 1 1 [.int .i64 i] rfl rfl HNW.out (by simp [Value.oneCell']) (by unfold maxLen; omega) (by omega) ?_
      intro v6 w6 ho6 hg6 hn6
      obtain ⟨hv6, hvn6, hb6⟩ := app_one HVN.out HBR.out.size ho6 hg6 hn6
      obtain ⟨N, HN⟩ : ∃ N, Hid (i + 1 = N) := ⟨_, rfl⟩
      have hiN : i < N := by have := HN.out; omega
      have hN1 : N ≤ 16384 := by have := HN.out; omega
      rw [HN.out] at hv6
      obtain ⟨g, cp, rfl, hcp, hcm, _⟩ := owns_form hv6 (by omega)
      have HB6 := Lib.hid (HBR.out.trans hb6)
      have HV6 := Lib.hid hv6
      have HG6 := Lib.hid (hvn6 g rfl)
      have HI6 := Lib.hid HSR.out.ins
      clear ho6 hg6 hn6 hv6 hvn6 hb6 hcm
      have HG7 : Hid (∀ k, (Value.slice (some ⟨g, 0, none⟩) N cp).ownBlock = some k → w.heap.size ≤ k) := fun k hk => by injection hk with hk; rw [← hk]; exact HG6.out
      go_wp2_with fail
      go_loopw [5] (fun s wz => ∃ (j : Nat) (out' : List Nat), s = .int .i64 j ∧ InsAt l i j out' ∧ wz.ownsRow 0 3 1 (.slice (some ⟨g, 0, none⟩) N cp) N (natV out') ∧ Below w.heap.size w wz) (fun s _ => (intOf s).toNat)
      case atStart => exact ⟨i, _, rfl, HI6.out, HV6.out, HB6.out⟩
      case round =>
        obtain ⟨j, out', rfl, hin, hv, hb⟩ := hrel
        clear HB6 HV6 HI6
        have HIN := Lib.hid hin
        have HV := Lib.hid hv
        have HB := Lib.hid hb
        have hji := hin.le
        have HLEN := Lib.hid (hin.len.trans HN.out)
        clear hin hv hb
        by_cases h0 : j = 0
        · have HD := Lib.hid (HIN.out.done (.inl h0))
          subst h0
          go_wp2_with fail
          go_quiet (fail)
          go_wp2_with fail
          go_roundw
          case rel => exact ⟨i + 1, out', by omega, by go_num, HD.out, by (rw [HN.out]; exact owns_drewN HV.out nq), HG7.out, bel_drewN HB.out nq⟩
          case measure => simp [intOf]; omega
        · obtain ⟨k, rfl⟩ : ∃ k, j = k + 1 := ⟨j - 1, by omega⟩
          clear h0
          obtain ⟨j, HJ⟩ : ∃ j, Hid (k + 1 = j) := ⟨_, rfl⟩
          have hjk : k < j := by have := HJ.out; omega
          have hself := HIN.out.self
          have hxl := HIN.out.lt (y := k) (by omega)
          rw [HJ.out] at hself
          obtain ⟨c1, f1⟩ := ownN HV.out HLEN.out (i := j) (by have := HJ.out; have := HN.out; omega)
          obtain ⟨c2, f2⟩ := ownN HV.out HLEN.out (i := k) (by have := HJ.out; have := HN.out; omega)
          rw [hself] at c1
          obtain ⟨x, hx⟩ : ∃ x, out'.getD k 0 = x := ⟨_, rfl⟩
          rw [hx] at c2 hxl
          have HX := Lib.hid hx
          clear hself hx
          have hER := HE.out.below HB.out
          obtain ⟨_, _, d1⟩ := hER.cell i him
          obtain ⟨_, _, d2⟩ := hER.cell x (by omega)
          obtain rfl := HE.out.adr (by omega)
          have s1 : IntKind.i64.wrap ((j : Int) - 1) = (k : Int) := by have := HJ.out; rw [IntWalk.i64_in _ (by omega)]; omega
          have g0 : (0 : Int) ≤ (k : Int) := by omega
          have g1 : (j : Int) < (N : Int) := by have := HJ.out; have := HN.out; omega
          have g2 : (k : Int) < (N : Int) := by omega
          have g5 : (0 : Int) ≤ (j : Int) := by omega
          have g6 : (0 : Int) < (j : Int) := by omega
          have tj : decide (0 < j) = true := by simp; omega
          rw [HJ.out]
          have g3 : (i : Int) < (m : Int) := by omega
          have g4 : (x : Int) < (m : Int) := by omega
          clear hER
          by_cases hlt : wI l i < wI l x
          · have tl : decide ((EA l i).W < (EA l x).W) = true := decide_eq_true hlt
            have HSW : Hid (InsAt l i k ((out'.set j x).set k i)) := by
              have := HIN.out.swap (by rw [HX.out]; exact hlt)
              rw [HX.out, HJ.out] at this
              exact this
            go_wp2_with fail
            go_quiet (fail)
            have HV2 := Lib.hid (owns_drewN HV.out nq)
            have HB2 := Lib.hid (bel_drewN HB.out nq)
            replace c1 : (wr.drewN nq).cell? ⟨g, j, none⟩ = some (.int .i64 (i : Int)) := c1
            replace c2 : (wr.drewN nq).cell? ⟨g, k, none⟩ = some (.int .i64 (x : Int)) := c2
            replace f1 : (wr.drewN nq).frozen? ⟨g, j, none⟩ = false := f1
            replace f2 : (wr.drewN nq).frozen? ⟨g, k, none⟩ = false := f2
            clear HV HB d1 d2
            generalize wr.drewN nq = w8 at *
            go_wp2_with fail
            have HV10 := Lib.hid ((ownN_set (ownN_set HV2.out (i := j) (by omega) x) (i := k) (by omega) i).drew)
            have HB10 := Lib.hid ((bel_set (i := k) (v := .int .i64 (i : Int)) (bel_set (i := j) (v := .int .i64 (x : Int)) HB2.out HG6.out) HG6.out).drew)
            go_region
            all_goals
              go_wp2_with fail
              go_roundw
              case rel => exact ⟨k, _, by first | rfl | (have := HJ.out; congr 1; omega), HSW.out, HV10.out, HB10.out⟩
              case measure => simp [intOf]; omega
          · have tl : decide ((EA l i).W < (EA l x).W) = false := decide_eq_false hlt
            have HD := Lib.hid (HIN.out.done (.inr (by rw [Nat.add_sub_cancel, HX.out]; exact hlt)))
            go_wp2_with fail
            go_quiet (fail)
            go_wp2_with fail
            go_roundw
            case rel => exact ⟨i + 1, out', by omega, by go_num, HD.out, by (rw [HN.out]; exact owns_drewN HV.out nq), HG7.out, bel_drewN HB.out nq⟩
            case measure => simp [intOf]; omega
    · obtain rfl : i = m := by omega
      go_wp2_with fail
      go_ret
      have hso := HSR.out
      rw [← HS.out] at hso
      have e := hso.all
      rw [← e]
      exact ⟨⟨_, rfl, HVR.out, HBR.out, HVN.out⟩⟩

end Go.Proofs.YthacjealoomioaaGreatDoor

/- Reference of layer 17: joined, grown, Forest. -/
namespace Go.Proofs.YthacjealoomioaaGreatDoor
set_option linter.unusedVariables false
set_option linter.unusedSimpArgs false
open Go.RowKit

theorem relN_take {k : List Nat} {lo hi i : Nat} (h : i < k.length) : relN (k.take (i + 1)) lo hi = relN (k.take i) lo hi ++ [if k.getD i 0 = hi then lo else k.getD i 0] := by
  rw [take_snocN h]; unfold relN; rw [List.map_append]; rfl

set_option maxHeartbeats 4000000 in
set_option maxRecDepth 100000 in
theorem rjoin_ok (w : World) (ao : Option Addr) (n cap b off : Nat) (k : List Nat) (hr : InRow .i64 w ao n b off (nI k)) (hn : n ≤ 65536) (u v : Nat) (hu : u < n) (hv : v < n) :
    Calls Tryz.prog 106 #[.slice ao n cap, .int .i64 u, .int .i64 v] w (RowPost w 3 1 n (natV (relN k (min (k.getD u 0) (k.getD v 0)) (max (k.getD u 0) (k.getD v 0))))) := by
  have HR := Lib.hid hr
  have hl := hr.size
  rw [nI_len] at hl
  have HL := Lib.hid hl
  have c1 := hr.cell u hu
  have c2 := hr.cell v hv
  rw [nI_at (by omega)] at c1 c2
  obtain rfl := hr.adr (by omega)
  clear hr
  have t1 : (u : Int) < (n : Int) := by omega
  have t2 : (v : Int) < (n : Int) := by omega
  have t3 : (0 : Int) ≤ (u : Int) := by omega
  have t4 : (0 : Int) ≤ (v : Int) := by omega
  generalize k.getD u 0 = ku at *
  generalize k.getD v 0 = kv at *
  obtain ⟨lo, HLO⟩ : ∃ lo, Hid (min ku kv = lo) := ⟨_, rfl⟩
  obtain ⟨hi, HHI⟩ : ∃ hi, Hid (max ku kv = hi) := ⟨_, rfl⟩
  rw [HLO.out, HHI.out]
  go_enter Tryz.func106, Tryz.ntmps106
  go_wp2_with fail
  go_quiet (fail)
  have HR2 : Hid (InRow .i64 (w.drewN nq) (some ⟨b, off, none⟩) n b off (nI k)) := HR.out.below (bel_drewN (Below.refl _ _) nq)
  have HB2 : Hid (Below w.heap.size w (w.drewN nq)) := bel_drewN (Below.refl _ _) nq
  clear c1 c2 HR hl t1 t2 t3 t4
  generalize w.drewN nq = w2 at *
  have hlo := HLO.out
  have hhi := HHI.out
  by_cases hk : kv < ku
  · have tk : decide (kv < ku) = true := decide_eq_true hk
    obtain rfl : lo = kv := by omega
    obtain rfl : hi = ku := by omega
    clear hk hlo hhi HLO HHI
    go_wp2_with fail
    clear tk
    go_loopw [9, 10] (fun x s wr => ∃ i : Nat, i ≤ n ∧ s = .int .i64 i ∧ wr.ownsRow 0 3 1 x i (natV (relN (k.take i) lo hi)) ∧ (∀ y, x.ownBlock = some y → w2.heap.size ≤ y) ∧ Below w2.heap.size w2 wr) (fun _ s _ => n - (intOf s).toNat)
    case atStart => exact ⟨0, Nat.zero_le _, rfl, by rw [List.take_zero]; exact World.ownsRow_nil _ _ _ _, fun y hy => (by cases hy), Below.refl _ _⟩
    case round =>
      obtain ⟨i, hi', rfl, hx, hxn, hb⟩ := hrel
      have HX := Lib.hid hx
      have HXN := Lib.hid hxn
      have HB := Lib.hid hb
      clear hx hxn hb
      by_cases hin : i < n
      · have ci := (HR2.out.below HB.out).cell i hin
        rw [nI_at (by rw [HL.out]; exact hin)] at ci
        have HT := Lib.hid (relN_take (k := k) (lo := lo) (hi := hi) (i := i) (by rw [HL.out]; exact hin))
        generalize k.getD i 0 = ki at *
        by_cases hc : ki = hi
        · have tc : ((ki : Int) == (hi : Int)) = true := by simp [hc]
          rw [if_pos hc] at HT
          clear hc
          have HOW := Lib.hid (HX.out.alloc (.cells #[.int .i64 lo] 3))
          have HNW := Lib.hid (news_new wr 3 [.int .i64 lo])
          go_wp2_with (at_builtin; apply keepIt)
          apply Lib.hid
          refine wpList_appendB 3 (.int .i64 0) 1 8 Tryz.underlying24 Tryz.infoInt rfl (by decide) _ i _ rfl HOW.out ⟨wr.heap.size, 0, none⟩ 1 1 [.int .i64 lo] rfl rfl HNW.out (by simp [Value.oneCell']) (by unfold maxLen; omega) (by omega) ?_
          intro v6 w6 ho6 hg6 hn6
          obtain ⟨hv6, hvn6, hb6⟩ := app_one HXN.out HB.out.size ho6 hg6 hn6
          rw [← HT.out] at hv6
          have HB6 := Lib.hid (HB.out.trans hb6)
          have HV6 := Lib.hid hv6
          have HN6 := Lib.hid hvn6
          clear ho6 hg6 hn6 hv6 hvn6 hb6 tc ci
          go_wp2_with fail
          go_roundw
          case rel => exact ⟨i + 1, by omega, by go_num, HV6.out, HN6.out, HB6.out⟩
          case measure => simp [intOf]; omega
        · have tc : ((ki : Int) == (hi : Int)) = false := by simp; omega
          rw [if_neg hc] at HT
          clear hc
          have HOW := Lib.hid (HX.out.alloc (.cells #[.int .i64 ki] 3))
          have HNW := Lib.hid (news_new wr 3 [.int .i64 ki])
          go_wp2_with (at_builtin; apply keepIt)
          apply Lib.hid
          refine wpList_appendB 3 (.int .i64 0) 1 8 Tryz.underlying24 Tryz.infoInt rfl (by decide) _ i _ rfl HOW.out ⟨wr.heap.size, 0, none⟩ 1 1 [.int .i64 ki] rfl rfl HNW.out (by simp [Value.oneCell']) (by unfold maxLen; omega) (by omega) ?_
          intro v6 w6 ho6 hg6 hn6
          obtain ⟨hv6, hvn6, hb6⟩ := app_one HXN.out HB.out.size ho6 hg6 hn6
          rw [← HT.out] at hv6
          have HB6 := Lib.hid (HB.out.trans hb6)
          have HV6 := Lib.hid hv6
          have HN6 := Lib.hid hvn6
          clear ho6 hg6 hn6 hv6 hvn6 hb6 tc ci
          go_wp2_with fail
          go_roundw
          case rel => exact ⟨i + 1, by omega, by go_num, HV6.out, HN6.out, HB6.out⟩
          case measure => simp [intOf]; omega
      · obtain rfl : i = n := by omega
        go_wp2_with fail
        go_ret
        have hx := HX.out
        rw [List.take_of_length_le (by rw [HL.out]; exact Nat.le_refl _)] at hx
        exact ⟨⟨_, rfl, hx, bel_then HB2.out HB.out, fun y hy => Nat.le_trans HB2.out.size (HXN.out y hy)⟩⟩
  · have tk : decide (kv < ku) = false := decide_eq_false hk
    obtain rfl : lo = ku := by omega
    obtain rfl : hi = kv := by omega
    clear hk hlo hhi HLO HHI
    go_wp2_with fail
    clear tk
    go_loopw [9, 10] (fun x s wr => ∃ i : Nat, i ≤ n ∧ s = .int .i64 i ∧ wr.ownsRow 0 3 1 x i (natV (relN (k.take i) lo hi)) ∧ (∀ y, x.ownBlock = some y → w2.heap.size ≤ y) ∧ Below w2.heap.size w2 wr) (fun _ s _ => n - (intOf s).toNat)
    case atStart => exact ⟨0, Nat.zero_le _, rfl, by rw [List.take_zero]; exact World.ownsRow_nil _ _ _ _, fun y hy => (by cases hy), Below.refl _ _⟩
    case round =>
      obtain ⟨i, hi', rfl, hx, hxn, hb⟩ := hrel
      have HX := Lib.hid hx
      have HXN := Lib.hid hxn
      have HB := Lib.hid hb
      clear hx hxn hb
      by_cases hin : i < n
      · have ci := (HR2.out.below HB.out).cell i hin
        rw [nI_at (by rw [HL.out]; exact hin)] at ci
        have HT := Lib.hid (relN_take (k := k) (lo := lo) (hi := hi) (i := i) (by rw [HL.out]; exact hin))
        generalize k.getD i 0 = ki at *
        by_cases hc : ki = hi
        · have tc : ((ki : Int) == (hi : Int)) = true := by simp [hc]
          rw [if_pos hc] at HT
          clear hc
          have HOW := Lib.hid (HX.out.alloc (.cells #[.int .i64 lo] 3))
          have HNW := Lib.hid (news_new wr 3 [.int .i64 lo])
          go_wp2_with (at_builtin; apply keepIt)
          apply Lib.hid
          refine wpList_appendB 3 (.int .i64 0) 1 8 Tryz.underlying24 Tryz.infoInt rfl (by decide) _ i _ rfl HOW.out ⟨wr.heap.size, 0, none⟩ 1 1 [.int .i64 lo] rfl rfl HNW.out (by simp [Value.oneCell']) (by unfold maxLen; omega) (by omega) ?_
          intro v6 w6 ho6 hg6 hn6
          obtain ⟨hv6, hvn6, hb6⟩ := app_one HXN.out HB.out.size ho6 hg6 hn6
          rw [← HT.out] at hv6
          have HB6 := Lib.hid (HB.out.trans hb6)
          have HV6 := Lib.hid hv6
          have HN6 := Lib.hid hvn6
          clear ho6 hg6 hn6 hv6 hvn6 hb6 tc ci
          go_wp2_with fail
          go_roundw
          case rel => exact ⟨i + 1, by omega, by go_num, HV6.out, HN6.out, HB6.out⟩
          case measure => simp [intOf]; omega
        · have tc : ((ki : Int) == (hi : Int)) = false := by simp; omega
          rw [if_neg hc] at HT
          clear hc
          have HOW := Lib.hid (HX.out.alloc (.cells #[.int .i64 ki] 3))
          have HNW := Lib.hid (news_new wr 3 [.int .i64 ki])
          go_wp2_with (at_builtin; apply keepIt)
          apply Lib.hid
          refine wpList_appendB 3 (.int .i64 0) 1 8 Tryz.underlying24 Tryz.infoInt rfl (by decide) _ i _ rfl HOW.out ⟨wr.heap.size, 0, none⟩ 1 1 [.int .i64 ki] rfl rfl HNW.out (by simp [Value.oneCell']) (by unfold maxLen; omega) (by omega) ?_
          intro v6 w6 ho6 hg6 hn6
          obtain ⟨hv6, hvn6, hb6⟩ := app_one HXN.out HB.out.size ho6 hg6 hn6
          rw [← HT.out] at hv6
          have HB6 := Lib.hid (HB.out.trans hb6)
          have HV6 := Lib.hid hv6
          have HN6 := Lib.hid hvn6
          clear ho6 hg6 hn6 hv6 hvn6 hb6 tc ci
          go_wp2_with fail
          go_roundw
          case rel => exact ⟨i + 1, by omega, by go_num, HV6.out, HN6.out, HB6.out⟩
          case measure => simp [intOf]; omega
      · obtain rfl : i = n := by omega
        go_wp2_with fail
        go_ret
        have hx := HX.out
        rw [List.take_of_length_le (by rw [HL.out]; exact Nat.le_refl _)] at hx
        exact ⟨⟨_, rfl, hx, bel_then HB2.out HB.out, fun y hy => Nat.le_trans HB2.out.size (HXN.out y hy)⟩⟩

end Go.Proofs.YthacjealoomioaaGreatDoor

/- Reference of layer 17: grown, Forest. -/
namespace Go.Proofs.YthacjealoomioaaGreatDoor
set_option linter.unusedVariables false
set_option linter.unusedSimpArgs false
open Go.RowKit

theorem own_rowN {w : World} {T : TypeId} {v : Value} {n : Nat} {l : List Nat} (h : w.ownsRow 0 T 1 v n (natV l)) (hl : l.length = n) : ∃ ao cap b, v = .slice ao n cap ∧ InRow .i64 w ao n b 0 (nI l) ∧ ∀ k, v.ownBlock = some k → k = b := by
  rw [natV_nI] at h
  subst hl
  have h' : w.ownsRow 0 T 1 v (nI l).length ((nI l).map fun x => .int .i64 x) := by rw [nI_len]; exact h
  have := owns_row h'
  rw [nI_len] at this
  exact this

/-- The rows of the sets and of the forest, and the order. -/
structure GrAt (B : Nat) (W : World) (n : Nat) (l : List Ed) (s : Fo) (kv ov v7 : Value) : Prop where
  k : W.ownsRow 0 3 1 kv n (natV s.k)
  o : W.ownsRow 0 3 1 ov s.out.length (natV s.out)
  q : W.ownsRow 0 3 1 v7 l.length (natV (ordL l))
  kn : ∀ x, kv.ownBlock = some x → B ≤ x ∧ x < W.heap.size
  on : ∀ x, ov.ownBlock = some x → B ≤ x
  qn : ∀ x, v7.ownBlock = some x → x < W.heap.size
  ko : ∀ x, ov.ownBlock = some x → kv.ownBlock ≠ some x
  qo : ∀ x, ov.ownBlock = some x → v7.ownBlock ≠ some x

theorem own_lt {w : World} {T size n : Nat} {v : Value} {xs : List Value} (h : w.ownsRow 0 T size v n xs) {k : Nat} (hk : v.ownBlock = some k) : k < w.heap.size := by
  rcases h.2 with ⟨rfl, _⟩ | ⟨g, cap, cur, rfl, _, hg, _⟩
  · cases hk
  · injection hk with hk
    subst hk
    exact (Array.getElem?_eq_some_iff.1 hg).1

theorem GrAt.mod {F : Nat → Prop} {B : Nat} {W W' : World} {n : Nat} {l : List Ed} {s : Fo} {kv ov v7 : Value} (h : GrAt B W n l s kv ov v7) (m : Mod F W W') (hF : ∀ x, x < W.heap.size → ¬ F x) : GrAt B W' n l s kv ov v7 :=
  ⟨owns_mod h.k m (fun x hx => hF x (own_lt h.k hx)), owns_mod h.o m (fun x hx => hF x (own_lt h.o hx)), owns_mod h.q m (fun x hx => hF x (own_lt h.q hx)), fun x hx => ⟨(h.kn x hx).1, Nat.lt_of_lt_of_le (h.kn x hx).2 m.size⟩, h.on,
    fun x hx => Nat.lt_of_lt_of_le (h.qn x hx) m.size, h.ko, h.qo⟩

theorem GrAt.below {B : Nat} {W W' : World} {n : Nat} {l : List Ed} {s : Fo} {kv ov v7 : Value} (h : GrAt B W n l s kv ov v7) (m : Below W.heap.size W W') : GrAt B W' n l s kv ov v7 := h.mod (Mod.of_below (F := fun _ => False) m) (fun _ _ h => h)

/-- A number is appended to the forest. -/
theorem GrAt.app {B : Nat} {W W6 : World} {n : Nat} {l : List Ed} {s : Fo} {kv ov v7 v6 : Value} (h : GrAt B W n l s kv ov v7) {o : Obj} {x : Nat} (hB : B ≤ W.heap.size) (ho : W6.ownsRow 0 3 1 v6 (s.out.length + 1) (natV s.out ++ [.int .i64 (x : Int)])) (hg : (W.alloc o).grownBy W6 ov.ownBlock)
    (hn : ∀ k, v6.ownBlock = some k → ov.ownBlock = some k ∨ (W.alloc o).heap.size ≤ k) : GrAt B W6 n l ⟨s.k, s.out ++ [x]⟩ kv v6 v7 ∧ Below B W W6 ∧ Mod (fun k => ov.ownBlock = some k) W W6 := by
  obtain ⟨a1, a2, a3⟩ := app_one h.on hB ho hg hn
  have m : Mod (fun k => ov.ownBlock = some k) W W6 := ((Mod.refl (fun k => ov.ownBlock = some k) W).alloc o).grown hg (fun k hk _ => hk)
  have hz : ∀ k, v6.ownBlock = some k → ov.ownBlock = some k ∨ W.heap.size ≤ k := fun k hk => by
    rcases hn k hk with e | e
    · exact .inl e
    · simp at e; exact .inr (by omega)
  refine ⟨⟨owns_mod h.k m (fun y hy e => h.ko y e hy), by simp only [List.length_append, List.length_singleton]; exact a1, owns_mod h.q m (fun y hy e => h.qo y e hy), fun y hy => ⟨(h.kn y hy).1, Nat.lt_of_lt_of_le (h.kn y hy).2 m.size⟩, a2, fun y hy => Nat.lt_of_lt_of_le (h.qn y hy) m.size, fun y hy e => ?_, fun y hy e => ?_⟩, a3, m⟩
  · rcases hz y hy with q | q
    · exact h.ko y q e
    · have := (h.kn y e).2; omega
  · rcases hz y hy with q | q
    · exact h.qo y q e
    · have := h.qn y e; omega

/-- The labels anew. -/
theorem GrAt.lab {B : Nat} {W W6 : World} {n : Nat} {l : List Ed} {s : Fo} {kv ov v7 v6 : Value} (h : GrAt B W n l s kv ov v7) {k' : List Nat} (hB : B ≤ W.heap.size) (hr : NewRow W 3 1 n (natV k') v6 W6) : GrAt B W6 n l ⟨k', s.out⟩ v6 ov v7 :=
  ⟨hr.own, owns_mod h.o (Mod.of_below (F := fun _ => False) hr.bel) (fun _ _ h => h), owns_mod h.q (Mod.of_below (F := fun _ => False) hr.bel) (fun _ _ h => h), fun y hy => ⟨Nat.le_trans hB (hr.new y hy), own_lt hr.own hy⟩, h.on,
    fun y hy => Nat.lt_of_lt_of_le (h.qn y hy) hr.bel.size, fun y hy e => by have := hr.new y e; have := own_lt h.o hy; omega, h.qo⟩

set_option maxHeartbeats 4000000 in
set_option maxRecDepth 100000 in
theorem rgrown_ok (w : World) (n : Nat) (ao : Option Addr) (m cap b off : Nat) (l : List Ed) (he : ERow w ao m b off l) (hg : GOk n l) :
    Calls Tryz.prog 68 #[.int .i64 n, .slice ao m cap] w (RowPost w 3 1 (forL n l).length (natV (forL n l))) := by
  have HE := Lib.hid he
  have HS := Lib.hid he.size
  have HG := Lib.hid hg
  have hm : m ≤ 16384 := by have := hg.hl; have := he.size; omega
  have hn : n ≤ 4096 := hg.hn
  clear he hg
  go_enter Tryz.func68, Tryz.ntmps68
  go_wp2_with fail
  go_loopw [5, 6] (fun x s wr => ∃ i : Nat, i ≤ n ∧ s = .int .i64 i ∧ wr.ownsRow 0 3 1 x i (natV (List.range i)) ∧ (∀ y, x.ownBlock = some y → w.heap.size ≤ y) ∧ Below w.heap.size w wr) (fun _ s _ => n - (intOf s).toNat)
  case atStart => exact ⟨0, Nat.zero_le _, rfl, World.ownsRow_nil _ _ _ _, fun y hy => (by cases hy), Below.refl _ _⟩
  case round =>
    obtain ⟨i, hi, rfl, hx, hxn, hb⟩ := hrel
    have HX := Lib.hid hx
    have HXN := Lib.hid hxn
    have HB := Lib.hid hb
    clear hx hxn hb
    by_cases hin : i < n
    · have HOW := Lib.hid (HX.out.alloc (.cells #[.int .i64 i] 3))
      have HNW := Lib.hid (news_new wr 3 [.int .i64 i])
      go_wp2_with (at_builtin; apply keepIt)
      apply Lib.hid
      refine wpList_appendB 3 (.int .i64 0) 1 8 Tryz.underlying24 Tryz.infoInt rfl (by decide) _ i _ rfl HOW.out ⟨wr.heap.size, 0, none⟩ 1 1 [.int .i64 i] rfl rfl HNW.out (by simp [Value.oneCell']) (by unfold maxLen; omega) (by omega) ?_
      intro v6 w6 ho6 hg6 hn6
      obtain ⟨hv6, hvn6, hb6⟩ := app_one HXN.out HB.out.size ho6 hg6 hn6
      rw [← List.range_succ] at hv6
      have HB6 := Lib.hid (HB.out.trans hb6)
      have HV6 := Lib.hid hv6
      have HN6 := Lib.hid hvn6
      clear ho6 hg6 hn6 hv6 hvn6 hb6
      go_wp2_with fail
      go_roundw
      case rel => exact ⟨i + 1, by omega, by go_num, HV6.out, HN6.out, HB6.out⟩
      case measure => simp [intOf]; omega
    · obtain rfl : i = n := by omega
      go_wp2_with fail
      with_reducible refine (rorder_ok wr ao m cap b off l (HE.out.below HB.out) hm).mono ?_
      rintro e w2 ⟨v7, rfl, hnr⟩
      have hq := hnr.own
      rw [← HS.out] at hq
      have HGR : Hid (GrAt w.heap.size w2 i l (foTo i l 0) (u5 : Value) (.slice none 0 0) v7) :=
        ⟨owns_mod HX.out (Mod.of_below (F := fun _ => False) hnr.bel) (fun _ _ h => h), World.ownsRow_nil _ _ _ _, hq, fun y hy => ⟨HXN.out y hy, Nat.lt_of_lt_of_le (own_lt HX.out hy) hnr.bel.size⟩, fun y hy => (by cases hy), fun y hy => own_lt hq hy, fun y hy => (by cases hy), fun y hy => (by cases hy)⟩
      have HB2 := Lib.hid (bel_then HB.out hnr.bel)
      obtain ⟨a7, c7, b7, rfl, _, _⟩ := own_rowN hnr.own (by rw [ord_length]; exact HS.out)
      clear hnr hq HX HXN HB
      go_wp2_with fail
      go_loopw [5, 8, 9] (fun kv ov s wr => ∃ t : Nat, t ≤ m ∧ s = .int .i64 t ∧ GrAt w.heap.size wr i l (foTo i l t) kv ov (.slice a7 m c7) ∧ Below w.heap.size w wr) (fun _ _ s _ => m - (intOf s).toNat)
      case atStart => exact ⟨0, Nat.zero_le _, rfl, HGR.out, HB2.out⟩
      case round =>
        obtain ⟨t, ht, rfl, hgr, hb⟩ := hrel
        clear HGR HB2
        have HGR := Lib.hid hgr
        have HB := Lib.hid hb
        clear hgr hb
        by_cases htm : t < m
        · obtain ⟨a', c', b', e', hin7, _⟩ := own_rowN (w := wr) (v := .slice a7 m c7) (n := m) (l := ordL l) (by have := HGR.out.q; rw [HS.out] at this; exact this) (by rw [ord_length]; exact HS.out)
          injection e' with e1 _ e2
          subst e1 e2
          have H7 := Lib.hid hin7
          clear hin7
          have c7 := H7.out.cell t htm
          rw [nI_at (by rw [ord_length, HS.out]; exact htm), Nat.zero_add] at c7
          have hi0 := ord_at (l := l) (t := t) (by rw [HS.out]; exact htm)
          obtain ⟨x, hx⟩ : ∃ x, (ordL l).getD t 0 = x := ⟨_, rfl⟩
          have HST : Hid (foTo i l (t + 1) = (foTo i l t).step l x) := by show _ = _; rw [← hx]; rfl
          have HOK := Lib.hid (foTo_ok HG.out t (by rw [HS.out]; omega))
          rw [hx] at c7 hi0
          have HXO := Lib.hid hx
          clear hx
          obtain ⟨d0, d1, d2⟩ := (HE.out.below HB.out).cell x (by rw [← HS.out]; exact hi0)
          obtain ⟨hu, hv, huv, eU, eV⟩ := HG.out.uv hi0
          rw [eU] at d0
          rw [eV] at d1
          have hxm : x < m := by rw [← HS.out]; exact hi0
          obtain rfl := HE.out.adr (by omega)
          obtain rfl := H7.out.adr (by omega)
          have t1 : (x : Int) < (m : Int) := by omega
          have t2 : (0 : Int) ≤ (x : Int) := by omega
          have t3 : (t : Int) < (m : Int) := by omega
          have t4 : (0 : Int) ≤ (t : Int) := by omega
          have t5 : (uN l x : Int) < (i : Int) := by omega
          have t6 : (vN l x : Int) < (i : Int) := by omega
          obtain ⟨ak, ck, bk, ek, hink, _⟩ := own_rowN HGR.out.k HOK.out.len
          obtain rfl := ek
          have HK := Lib.hid hink
          have k1 := hink.cell _ hu
          have k2 := hink.cell _ hv
          rw [nI_at (by rw [HOK.out.len]; exact hu), Nat.zero_add] at k1
          rw [nI_at (by rw [HOK.out.len]; exact hv), Nat.zero_add] at k2
          obtain rfl := hink.adr (by omega)
          clear hink eU eV
          have HS1 : Hid ((foTo i l t).step l x = if (foTo i l t).k.getD (uN l x) 0 = (foTo i l t).k.getD (vN l x) 0 then foTo i l t else ⟨relN (foTo i l t).k (min ((foTo i l t).k.getD (uN l x) 0) ((foTo i l t).k.getD (vN l x) 0)) (max ((foTo i l t).k.getD (uN l x) 0) ((foTo i l t).k.getD (vN l x) 0)), (foTo i l t).out ++ [x]⟩) := rfl
          have HOL : Hid ((foTo i l t).out.length ≤ i) := by have := foTo_roots HG.out t (by rw [HS.out]; omega); show _ ≤ _; omega
          generalize foTo i l t = s0 at *
          generalize uN l x = u at *
          generalize vN l x = v at *
          generalize (EA l x).W = we at *
          obtain ⟨ku, hku⟩ : ∃ q, s0.k.getD u 0 = q := ⟨_, rfl⟩
          obtain ⟨kv, hkv⟩ : ∃ q, s0.k.getD v 0 = q := ⟨_, rfl⟩
          rw [hku] at k1
          rw [hkv] at k2
          rw [hku, hkv] at HS1
          have HKA := Lib.hid hku
          have HKB := Lib.hid hkv
          clear hku hkv
          have t7 : (0 : Int) ≤ (u : Int) := by omega
          have t8 : (0 : Int) ≤ (v : Int) := by omega
          have HBX := Lib.hid ((Below.refl wr.heap.size wr).alloc (Nat.le_refl _) (.cells #[.int .i64 u, .int .i64 v, .int .i64 we] 82))
          have k1' : (wr.alloc (.cells #[.int .i64 u, .int .i64 v, .int .i64 we] 82)).cell? ⟨bk, u, none⟩ = some (.int .i64 ku) := (HBX.out.cell (p := ⟨bk, u, none⟩) (World.block_lt_of_cell? wr _ k1)).trans k1
          have k2' : (wr.alloc (.cells #[.int .i64 u, .int .i64 v, .int .i64 we] 82)).cell? ⟨bk, v, none⟩ = some (.int .i64 kv) := (HBX.out.cell (p := ⟨bk, v, none⟩) (World.block_lt_of_cell? wr _ k2)).trans k2
          have c7' : (wr.alloc (.cells #[.int .i64 u, .int .i64 v, .int .i64 we] 82)).cell? ⟨b', t, none⟩ = some (.int .i64 x) := (HBX.out.cell (p := ⟨b', t, none⟩) (World.block_lt_of_cell? wr _ c7)).trans c7
          clear k1 k2
          by_cases hc : ku = kv
          · have tc : ((ku : Int) != (kv : Int)) = false := by simp [hc]
            rw [if_pos hc] at HS1
            have HE1 : Hid (foTo i l (t + 1) = s0) := HST.out.trans HS1.out
            clear hc
            go_wp2_with fail
            go_quiet (fail)
            have HB3 := Lib.hid (bel_drewN (HB.out.alloc HB.out.size (.cells #[.int .i64 u, .int .i64 v, .int .i64 we] 82)) nq)
            have HGR3 := Lib.hid (HGR.out.below (bel_drewN ((Below.refl _ wr).alloc (Nat.le_refl _) (.cells #[.int .i64 u, .int .i64 v, .int .i64 we] 82)) nq))
            go_wp2_with fail
            go_roundw
            case rel => exact ⟨t + 1, by omega, by go_num, by rw [HE1.out]; exact HGR3.out, HB3.out⟩
            case measure => simp [intOf]; omega
          · have tc : ((ku : Int) != (kv : Int)) = true := by simp; omega
            rw [if_neg hc] at HS1
            have HE1 := Lib.hid (HST.out.trans HS1.out)
            clear hc
            go_wp2_with fail
            go_quiet (fail)
            have HB3 := Lib.hid (bel_drewN (HB.out.alloc HB.out.size (.cells #[.int .i64 u, .int .i64 v, .int .i64 we] 82)) nq)
            have HBW := Lib.hid (bel_drewN ((Below.refl _ wr).alloc (Nat.le_refl _) (.cells #[.int .i64 u, .int .i64 v, .int .i64 we] 82)) nq)
            have HGR3 := Lib.hid (HGR.out.below HBW.out)
            replace c7' : ((wr.alloc (.cells #[.int .i64 u, .int .i64 v, .int .i64 we] 82)).drewN nq).cell? ⟨b', t, none⟩ = some (.int .i64 x) := c7'
            have x0 : ((wr.alloc (.cells #[.int .i64 u, .int .i64 v, .int .i64 we] 82)).drewN nq).cell? ⟨wr.heap.size, 0, none⟩ = some (.int .i64 u) := (Blk.new wr 82 [.int .i64 u, .int .i64 v, .int .i64 we]).cell (i := 0) rfl
            have x1 : ((wr.alloc (.cells #[.int .i64 u, .int .i64 v, .int .i64 we] 82)).drewN nq).cell? ⟨wr.heap.size, 1, none⟩ = some (.int .i64 v) := (Blk.new wr 82 [.int .i64 u, .int .i64 v, .int .i64 we]).cell (i := 1) rfl
            have HOX : Hid (∀ k, u8.ownBlock = some k → k < wr.heap.size) := fun k hk => own_lt HGR.out.o hk
            have HXW : Hid (wr.heap.size < ((wr.alloc (.cells #[.int .i64 u, .int .i64 v, .int .i64 we] 82)).drewN nq).heap.size) := by show _ < (wr.alloc _).heap.size; simp
            clear k1' k2' c7 d0 d1 d2 tc t5 t6 t7 t8 HBX HGR HB HBW
            generalize wr.heap.size = xb at *
            generalize (wr.alloc (.cells #[.int .i64 u, .int .i64 v, .int .i64 we] 82)).drewN nq = w3 at *
            have HOW := Lib.hid (HGR3.out.o.alloc (.cells #[.int .i64 x] 3))
            have HNW := Lib.hid (news_new w3 3 [.int .i64 x])
            go_wp2_with (at_builtin; apply keepIt)
            apply Lib.hid
            refine wpList_appendB 3 (.int .i64 0) 1 8 Tryz.underlying24 Tryz.infoInt rfl (by decide) _ s0.out.length _ rfl HOW.out ⟨w3.heap.size, 0, none⟩ 1 1 [.int .i64 x] rfl rfl HNW.out (by simp [Value.oneCell']) (by have := HOL.out; unfold maxLen; omega) (by have := HOL.out; omega) ?_
            intro v6 w6 ho6 hg6 hn6
            obtain ⟨hgr6, hb6, hm6⟩ := HGR3.out.app HB3.out.size ho6 hg6 hn6
            have HGR6 := Lib.hid hgr6
            have HB6 := Lib.hid (HB3.out.trans hb6)
            have hne : ¬ (u8.ownBlock = some xb) := fun e => by have := HOX.out xb e; omega
            have y0 := (hm6.cell (p := ⟨xb, 0, none⟩) HXW.out hne).trans x0
            have y1 := (hm6.cell (p := ⟨xb, 1, none⟩) HXW.out hne).trans x1
            obtain ⟨a9, c9, b9, e9, hin9, _⟩ := own_rowN hgr6.k HOK.out.len
            injection e9 with e1 _ e2
            subst e1 e2
            have HI9 := Lib.hid hin9
            clear ho6 hg6 hn6 hgr6 hb6 hm6 hne x0 x1 c7' HOW HNW hin9 HGR3 HB3 HOX HXW
            go_wp2_with fail
            with_reducible refine (rjoin_ok w6 (some ⟨bk, 0, none⟩) i ck b9 0 s0.k HI9.out (by omega) u v hu hv).mono ?_
            rintro e w7 ⟨v9, rfl, hnr⟩
            rw [HKA.out, HKB.out] at hnr
            have HGR7 := Lib.hid (HGR6.out.lab HB6.out.size hnr)
            have HB7 := Lib.hid (HB6.out.trans (hnr.bel.mono HB6.out.size))
            clear hnr
            go_wp2_with fail
            go_roundw
            case rel => exact ⟨t + 1, by omega, by go_num, by rw [HE1.out]; exact HGR7.out, HB7.out⟩
            case measure => simp [intOf]; omega
        · obtain rfl : t = m := by omega
          go_wp2_with fail
          go_ret
          have HF : Hid ((foTo i l t).out = forL i l) := by show _ = _; unfold forL; rw [HS.out]
          have ho := HGR.out.o
          rw [HF.out] at ho
          exact ⟨⟨_, rfl, ho, HB.out, HGR.out.on⟩⟩

set_option maxHeartbeats 4000000 in
set_option maxRecDepth 100000 in
theorem rforest_ok (w : World) (n : Int) (ao : Option Addr) (m cap b off : Nat) (l : List Ed) (he : ERow w ao m b off l) (hm : m ≤ 9223372036854775807) (hnil : ao = none → cap = 0) (hn64 : -9223372036854775808 ≤ n ∧ n ≤ 9223372036854775807) :
    Calls Tryz.prog 36 #[.int .i64 n, .slice ao m cap] w (FoPost w n l) := by
  have HE := Lib.hid he
  clear he
  go_enter Tryz.func36, Tryz.ntmps36
  go_wp2_with fail
  with_reducible refine (rnew_ok w n ao m cap b off l HE.out hm hnil hn64).mono ?_
  rintro e w2 ⟨⟨p, rfl, _, _⟩, hb⟩
  have HB := Lib.hid hb
  clear hb hnil
  by_cases h0 : newErr n l = 0
  · obtain ⟨k, rfl, hg⟩ := GOk.of_err h0
    have HG := Lib.hid hg
    have H0 := Lib.hid h0
    rw [h0]
    clear h0 hg
    go_wp2_with fail
    with_reducible refine (rgrown_ok w2 k ao m cap b off l (HE.out.below HB.out) HG.out).mono ?_
    rintro e w3 ⟨v, rfl, hnr⟩
    have HNR := Lib.hid hnr
    clear hnr
    go_wp2_with fail
    go_ret2
    refine ⟨fun h => absurd H0.out h, fun _ => ⟨v, rfl, ?_, fun y hy => Nat.le_trans HB.out.size (HNR.out.new y hy)⟩, bel_then HB.out HNR.out.bel⟩
    rw [Int.toNat_natCast]
    exact HNR.out.own
  · have H0 := Lib.hid h0
    have t0 : (newErr n l != 0) = true := by simpa using h0
    clear h0
    go_wp2_with fail
    go_ret2
    exact ⟨fun _ => rfl, fun h => absurd h H0.out, HB.out⟩

end Go.Proofs.YthacjealoomioaaGreatDoor
