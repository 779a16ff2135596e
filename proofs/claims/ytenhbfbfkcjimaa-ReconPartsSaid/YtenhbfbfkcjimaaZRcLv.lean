/- recon.Labels. -/
import Derived.Test.YtenhbfbfkcjimaaZRcTp
import Derived.Test.YtenhbfbfkcjimaaZRound
namespace Go.Proofs.Ytenhbfbfkcjimaa
set_option linter.unusedVariables false
set_option linter.unusedSimpArgs false
open Go.RowKit Go.Shelf
attribute [local go_sem] Oper.semAt_some

theorem Blk.ne_obj {W : World} {b L : Nat} {T : TypeId} {cs : List Value} {o : Obj} (h : Blk W b T cs) (hL : W.heap[L]? = some o) (ho : o.isCells = false) : b ≠ L := fun e => by
  unfold Blk at h
  rw [e, hL] at h
  injection h with h
  rw [h] at ho
  cases ho

theorem owns_ne_obj {w : World} {e : TypeId} {size n : Nat} {v : Value} {xs : List Value} (h : w.ownsRow 0 e size v n xs) {D : Nat} {o : Obj} (hD : w.heap[D]? = some o) (ho : o.isCells = false) : v.ownBlock ≠ some D := fun e => by
  rcases h.2 with ⟨rfl, _⟩ | ⟨g', cap, cur, rfl, _, hg', _⟩
  · cases e
  · have : g' = D := by simpa [Value.ownBlock] using e
    subst this
    rw [hD] at hg'
    cases hg'
    cases ho

/-- While the nodes are gone over. -/
structure RgInv (w : World) (A : TA) (t : Tr) (tb tb2 vp hp L D m : Nat) (v : Value) (Tv Th Tb : TypeId) (hv : List Value) (r : Loop) (cs : List Value) (W : World) : Prop where
  box : TBox W tb A t
  box2 : TBox W tb2 A t
  tree : TreeAt W A t
  xv : Blk W vp Tv [v]
  xh : Blk W hp Th hv
  xb : W.ownsRow 0 Tb 1 v m cs
  lp : W.heap[L]? = some (.loop r)
  df : W.heap[D]? = some (.deferred (some []))
  bel : Below w.heap.size w W
  nv : ∀ k, v.ownBlock = some k → k ≠ tb ∧ k ≠ tb2 ∧ k ≠ vp ∧ k ≠ hp ∧ w.heap.size ≤ k
  n6 : w.heap.size ≤ L
  aw : ∀ k, A.has t k → k < w.heap.size

theorem RgInv.turn {w : World} {A : TA} {t : Tr} {tb tb2 vp hp L D m : Nat} {v : Value} {Tv Th Tb : TypeId} {hv : List Value} {r : Loop} {cs : List Value} {W : World} (h : RgInv w A t tb tb2 vp hp L D m v Tv Th Tb hv r cs W) (r' : Loop) :
    RgInv w A t tb tb2 vp hp L D m v Tv Th Tb hv r' cs (W.putObj L (.loop r')) := by
  have hm : Mod (fun k => k = L) W (W.putObj L (.loop r')) := (Mod.refl _ _).putObj _ _ (fun _ => rfl)
  have hl := (Array.getElem?_eq_some_iff.1 h.lp).1
  have hdl : D ≠ L := fun e => by have h1 := h.df; rw [e, h.lp] at h1; cases h1
  refine ⟨Blk.mod h.box hm (Blk.ne_obj h.box h.lp rfl), Blk.mod h.box2 hm (Blk.ne_obj h.box2 h.lp rfl), h.tree.mod hm (fun k hk e => by have := h.aw k hk; have := h.n6; omega), h.xv.mod hm (Blk.ne_obj h.xv h.lp rfl), h.xh.mod hm (Blk.ne_obj h.xh h.lp rfl), owns_mod h.xb hm (fun x hx e => owns_ne_obj h.xb h.lp rfl (by rw [← e]; exact hx)), ?_, ?_, ?_, h.nv, h.n6, h.aw⟩
  · simp [World.putObj, hl]
  · rw [hm.block D (Array.getElem?_eq_some_iff.1 h.df).1 hdl]; exact h.df
  · exact bel_mod h.bel hm (fun x e => by rw [e]; exact h.n6)

theorem RgInv.set {w : World} {A : TA} {t : Tr} {tb tb2 vp hp L D m : Nat} {v : Value} {Tv Th Tb : TypeId} {hv : List Value} {r : Loop} {cs : List Value} {W : World} (h : RgInv w A t tb tb2 vp hp L D m v Tv Th Tb hv r cs W) {g cap : Nat} (hvv : v = .slice (some ⟨g, 0, none⟩) m cap) {i : Nat} (hi : i < m) (u : Value) :
    RgInv w A t tb tb2 vp hp L D m v Tv Th Tb hv r (cs.set i u) (W.setCell ⟨g, i, none⟩ u) := by
  subst hvv
  have hm : Mod (fun k => k = g) W (W.setCell ⟨g, i, none⟩ u) := Mod.setCell (Mod.refl (fun k => k = g) W) ⟨g, i, none⟩ (fun _ => rfl) u
  obtain ⟨k1, k2, k3, k4, k5⟩ := h.nv g rfl
  refine ⟨Blk.mod h.box hm (fun e => k1 e.symm), Blk.mod h.box2 hm (fun e => k2 e.symm), h.tree.mod hm (fun k hk e => by have := h.aw k hk; omega), h.xv.mod hm (fun e => k3 e.symm), h.xh.mod hm (fun e => k4 e.symm), owns_set h.xb i (by omega) u, ?_, ?_, ?_, h.nv, h.n6, h.aw⟩
  · rw [hm.block L (Array.getElem?_eq_some_iff.1 h.lp).1 (fun e => owns_ne_obj h.xb h.lp rfl (by rw [e]; rfl))]; exact h.lp
  · rw [hm.block D (Array.getElem?_eq_some_iff.1 h.df).1 (fun e => owns_ne_obj h.xb h.df rfl (by rw [e]; rfl))]; exact h.df
  · exact bel_mod h.bel hm (fun x e => by rw [e]; exact k5)

theorem RgInv.drew {w : World} {A : TA} {t : Tr} {tb tb2 vp hp L D m : Nat} {v : Value} {Tv Th Tb : TypeId} {hv : List Value} {r : Loop} {cs : List Value} {W W2 : World} (h : RgInv w A t tb tb2 vp hp L D m v Tv Th Tb hv r cs W) (hd : DrewOf W W2) :
    RgInv w A t tb tb2 vp hp L D m v Tv Th Tb hv r cs W2 := by
  unfold DrewOf at hd
  subst hd
  exact ⟨h.box, h.box2, h.tree.below ((Below.refl _ _).drew), h.xv, h.xh, h.xb, h.lp, h.df, h.bel.drew, h.nv, h.n6, h.aw⟩

theorem Src.of_take {w : World} {T : TypeId} {vo : Option Addr} {m vc n : Nat} {l : List Nat} (h : w.ownsRow 0 T 1 (.slice vo m vc) m (natV l)) (hn : n ≤ m) : Src w vo n vc 1 (natV (l.take n)) := by
  have hl : l.length = m := by have := h.1; rw [natV_len] at this; omega
  refine ⟨by rw [natV_len, List.length_take]; omega, fun ad he j u hu => ?_, fun he => ?_, natV_one _⟩
  · subst he
    rcases h.2 with ⟨h', _⟩ | ⟨g, cap, cur, h', hb, hg, _⟩
    · simp at h'
    · injection h' with e1 _ e3
      injection e1 with e1
      subst e1 e3
      refine owns_cells h j u ?_
      unfold natV at hu ⊢
      rw [List.map_take, List.getElem?_take] at hu
      split at hu
      · exact hu
      · cases hu
  · rcases h.2 with ⟨h', h0⟩ | ⟨g, cap, cur, h', _⟩
    · injection h' with _ _ e; exact ⟨by omega, by omega⟩
    · injection h' with e; rw [he] at e; cases e

/-- What Labels returns. -/
def labsO (t : Tr) (th : Int) : Option (List Nat) := match lsL t with | none => none | some ls => some (labelsL t t.lv.toNat t.par.length ls th)
theorem labsO_none {t : Tr} {th : Int} (h : lsL t = none) : labsO t th = none := by unfold labsO; rw [h]
theorem labsO_some {t : Tr} {th : Int} {ls : List Nat} (h : lsL t = some ls) : labsO t th = some (labelsL t t.lv.toNat t.par.length ls th) := by unfold labsO; rw [h]

structure LbPost (w : World) (t : Tr) (th : Int) (e : Ending) (w' : World) : Prop where
  bad : labsO t th = none → e = .returned (.tuple #[.slice none 0 0, .int .i64 2])
  ok : ∀ l, labsO t th = some l → ∃ v, e = .returned (.tuple #[v, .int .i64 0]) ∧ w'.ownsRow 0 3 1 v l.length (natV l) ∧ ∀ k, v.ownBlock = some k → w.heap.size ≤ k
  bel : Below w.heap.size w w'

set_option maxHeartbeats 4000000 in
set_option maxRecDepth 100000 in
theorem labels_ok (w : World) (A : TA) (t : Tr) (ht : TreeAt w A t) (th : Int) : Calls Try.prog 18 #[A.agg t, .int .i64 th] w (LbPost w t th) := by
  refine (callsIn_wide (n := 3)).1 ?_
  have hb := bel_alloc w (.cells #[.int .i64 t.lv, .slice A.l.o t.left.length A.l.c, .slice A.r.o t.right.length A.r.c, .slice A.p.o t.par.length A.p.c, .slice A.h.o t.hgt.length A.h.c, .slice A.s.o t.siz.length A.s.c] 27)
  have HW := Lib.hid (hb.alloc hb.size (.cells #[.int .i64 th] 2))
  have HB := Lib.hid (Blk.alloc (TBox.new w A t) (.cells #[.int .i64 th] 2))
  have HT2 := Lib.hid (ht.below HW.out)
  have HH := Lib.hid (Blk.new' (w.alloc (.cells #[.int .i64 t.lv, .slice A.l.o t.left.length A.l.c, .slice A.r.o t.right.length A.r.c, .slice A.p.o t.par.length A.p.c, .slice A.h.o t.hgt.length A.h.c, .slice A.s.o t.siz.length A.s.c] 27)) 2 [.int .i64 th] (n := w.heap.size + 1) (by simp))
  have HAW : Hid (∀ k, A.has t k → k < w.heap.size) := fun k hk => ht.lt hk
  have HLN := Lib.hid ht.ln
  have c0 := TBox.c0 HB.out
  have c1 := TBox.c1 HB.out
  have c2 := TBox.c2 HB.out
  have c3 := TBox.c3 HB.out
  have c4 := TBox.c4 HB.out
  have c5 := TBox.c5 HB.out
  clear ht hb
  show CallsIn _ _ _ _ #[.agg #[.int .i64 t.lv, .slice A.l.o t.left.length A.l.c, .slice A.r.o t.right.length A.r.c, .slice A.p.o t.par.length A.p.c, .slice A.h.o t.hgt.length A.h.c, .slice A.s.o t.siz.length A.s.c], _] _ _
  generalize hpo : A.p.o = po at *
  generalize hho : A.h.o = ho at *
  have HPO := Lib.hid hpo
  have HHO := Lib.hid hho
  clear hpo hho
  refine callsIn_of_wp_marks Try.func18 rfl trivial ?_ rfl
  simp only [Try.ntmps18, List.size_toArray, List.length_cons, List.length_nil, Nat.reduceAdd, Nat.reduceSub, Array.replicate_succ, Array.replicate_zero, List.push_toArray, List.append_toArray, List.nil_append, List.cons_append]
  gi_wp2_with fail
  have hcon := leasts_ok _ A t HT2.out
  rw [TA.agg, HPO.out, HHO.out] at hcon
  refine ⟨trivial, CallsIn.mono (callsIn_wide.2 hcon) ?_⟩
  rintro e w2 ⟨hbad, hgood, hb⟩
  have HW2 := Lib.hid (bel_then HW.out hb)
  have HB2 := Lib.hid (Blk.below HB.out hb (Blk.lt HB.out))
  have HH2 := Lib.hid (HH.out.below hb HH.out.lt)
  have HT3 := Lib.hid (HT2.out.below hb)
  have HS2 := Lib.hid hb.size
  clear hb hcon c0 c1 c2 c3 c4 c5
  cases hl : lsL t with
  | none =>
    obtain rfl := hbad hl
    have HC := Lib.hid (labsO_none (th := th) hl)
    clear hl hbad hgood
    gi_wp2_with fail
    refine ⟨_, results_tmp2 rfl _ _ _, ?_⟩
    exact ⟨fun _ => rfl, (fun l e => by (rw [HC.out] at e; cases e)), HW2.out⟩
  | some ls =>
    obtain ⟨lb, rfl, hlb, hlbn⟩ := hgood ls hl
    obtain ⟨n, hn, hv⟩ := tv_of hl
    have HC : Hid (labsO t th = some (labelsL t n t.par.length ls th)) := by show _ = _; rw [labsO_some hl, hn, Int.toNat_natCast]
    have HV := Lib.hid hv
    have HN := Lib.hid hn
    have hn4 := hv.hn
    have hm2 := hv.two
    have HLL := Lib.hid hv.lsl
    have HLB := Lib.hid hlb
    have HLBN := Lib.hid hlbn
    have HLS0 : Hid (natV ls = (nI ls).map fun x => .int .i64 x) := natV_nI ls
    clear hl hbad hgood hv hn hlb hlbn
    gi_wp2_with fail
    have hsrc : Src w2 (some ⟨lb, 0, none⟩) ls.length ls.length 1 (natV ls) := by
      have := Src.of_row (rowN HLB.out) (cap := ls.length) (fun e => by cases e)
      rw [← HLS0.out] at this
      exact this
    refine ⟨trivial, CallsIn.mono (callsIn_wide.2 (cloneI_ok w2 _ ls.length ls.length (natV ls) hsrc (by have := HLL.out; omega))) ?_⟩
    rintro e w3 ⟨v, rfl, hrow, hb3, hnew⟩
    obtain ⟨vo, vc, rfl⟩ := owns_slice hrow
    have HROW := Lib.hid hrow
    have HNEW := Lib.hid hnew
    have HW3 := Lib.hid (bel_then HW2.out hb3)
    have HB3 := Lib.hid (Blk.below HB2.out hb3 (Blk.lt HB2.out))
    have HH3 := Lib.hid (HH2.out.below hb3 HH2.out.lt)
    have HT4 := Lib.hid (HT3.out.below hb3)
    clear hrow hnew hb3 hsrc
    have HX3 := Lib.hid (bel_alloc w3 (.cells #[.slice vo ls.length vc] 24))
    have HB4 := Lib.hid (Blk.alloc HB3.out (.cells #[.slice vo ls.length vc] 24))
    have c0 := TBox.c0 HB4.out
    have c1 := TBox.c1 HB4.out
    have c2 := TBox.c2 HB4.out
    have c3 := TBox.c3 HB4.out
    have c4 := TBox.c4 HB4.out
    have c5 := TBox.c5 HB4.out
    rw [HPO.out] at c3
    rw [HHO.out] at c4
    gi_wp2_with fail
    have hdn := down_any A t (w3.alloc (.cells #[.slice vo ls.length vc] 24))
    rw [TA.agg, HPO.out, HHO.out] at hdn
    refine ⟨trivial, CallsIn.mono (callsIn_wide.2 hdn) ?_⟩
    rintro e w4 ⟨rfl, rfl⟩
    gi_wp2_with fail
    clear c0 c1 c2 c3 c4 c5
    have HBT : Hid (TBox ((w3.alloc (.cells #[.slice vo ls.length vc] 24)).alloc (.cells #[.int .i64 t.lv, .slice A.l.o t.left.length A.l.c, .slice A.r.o t.right.length A.r.c, .slice po t.par.length A.p.c, .slice ho t.hgt.length A.h.c, .slice A.s.o t.siz.length A.s.c] 27)) (w3.heap.size + 1) A t) := by
      have := TBox.new (w3.alloc (.cells #[.slice vo ls.length vc] 24)) A t
      rw [HPO.out, HHO.out] at this
      show TBox _ _ _ _
      simpa using this
    have HINV : Hid (∀ r : Loop, RgInv w A t w.heap.size (w3.heap.size + 1) w3.heap.size (w.heap.size + 1) (w3.heap.size + 1 + 1 + 1) (w3.heap.size + 1 + 1) ls.length (.slice vo ls.length vc) 24 2 3 [.int .i64 th] r (natV (lbTo t t.par.length ls th t.par.length))
        ((((w3.alloc (.cells #[.slice vo ls.length vc] 24)).alloc (.cells #[.int .i64 t.lv, .slice A.l.o t.left.length A.l.c, .slice A.r.o t.right.length A.r.c, .slice po t.par.length A.p.c, .slice ho t.hgt.length A.h.c, .slice A.s.o t.siz.length A.s.c] 27)).alloc (.deferred (some []))).alloc (.loop r))) := by
      intro r
      rw [lbTo_end HLL.out]
      have hs := HW3.out.size
      have hs1 := HB3.out.lt
      have hs2 := HH3.out.lt
      have hbb := (((HX3.out.alloc HX3.out.size (.cells #[.int .i64 t.lv, .slice A.l.o t.left.length A.l.c, .slice A.r.o t.right.length A.r.c, .slice po t.par.length A.p.c, .slice ho t.hgt.length A.h.c, .slice A.s.o t.siz.length A.s.c] 27)).alloc (by simp; omega) (.deferred (some []))).alloc (by simp; omega) (.loop r))
      refine ⟨((Blk.alloc HB4.out _).alloc _).alloc _, (Blk.alloc HBT.out _).alloc _, HT4.out.below hbb, (((Blk.new w3 24 [.slice vo ls.length vc]).alloc _).alloc _).alloc _, (((HH3.out.alloc _).alloc _).alloc _).alloc _, (((HROW.out.alloc _).alloc _).alloc _).alloc _, ?_, ?_, bel_then HW3.out hbb, fun k hk => ?_, by omega, HAW.out⟩
      · have := World.alloc_heap_new (((w3.alloc (.cells #[.slice vo ls.length vc] 24)).alloc (.cells #[.int .i64 t.lv, .slice A.l.o t.left.length A.l.c, .slice A.r.o t.right.length A.r.c, .slice po t.par.length A.p.c, .slice ho t.hgt.length A.h.c, .slice A.s.o t.siz.length A.s.c] 27)).alloc (.deferred (some []))) (.loop r)
        simpa using this
      · rw [Below.heap_alloc _ _ _ (by simp)]
        have := World.alloc_heap_new ((w3.alloc (.cells #[.slice vo ls.length vc] 24)).alloc (.cells #[.int .i64 t.lv, .slice A.l.o t.left.length A.l.c, .slice A.r.o t.right.length A.r.c, .slice po t.par.length A.p.c, .slice ho t.hgt.length A.h.c, .slice A.s.o t.siz.length A.s.c] 27)) (.deferred (some []))
        simpa using this
      · have h1 := HNEW.out k hk
        have h2 := (HROW.out.lt k hk).2
        have h3 := HW2.out.size
        have h4 := HH2.out.lt
        have h5 := HB2.out.lt
        exact ⟨by omega, by omega, by omega, by omega, by omega⟩
    clear HBT HB4 HX3 HB3 HH3 HT4 HB2 HT3 HT2 HB HH HROW
    refine wp_range (gf := 67) (lb := #[.pointer (some ⟨w3.heap.size + 1, 0, none⟩)]) rfl (enters_of Try.func67 (by kernel_rfl) rfl)
      (fun W2 => ∃ r, RgInv w A t w.heap.size (w3.heap.size + 1) w3.heap.size (w.heap.size + 1) (w3.heap.size + 1 + 1 + 1) (w3.heap.size + 1 + 1) ls.length (.slice vo ls.length vc) 24 2 3 [.int .i64 th] r (natV (lbTo t t.par.length ls th 0)) W2) ?call ?done
    case call =>
      intro fn
      simp only [World.size_alloc, List.append_toArray, List.cons_append, List.nil_append]
      refine CallsIn.mono (down1_in 2 (w3.heap.size + 1) A t (w3.heap.size + 1 + 1 + 1) HLN.out.2.2.1 (fun j X => RgInv w A t w.heap.size (w3.heap.size + 1) w3.heap.size (w.heap.size + 1) (w3.heap.size + 1 + 1 + 1) (w3.heap.size + 1 + 1) ls.length (.slice vo ls.length vc) 24 2 3 [.int .i64 th] _ (natV (lbTo t t.par.length ls th j)) X) ?_ _ (HINV.out _) ?_) ?_
      · intro j X hX
        exact ⟨hX.box2, hX.tree.p⟩
      · intro j X hj hX
        refine yieldAt_of hX.lp rfl ?a1 ?asg ?bd
        case asg =>
          intro K hK
          gi_wp2
          exact hK
        case bd =>
          intro r rb Wb hr hWb
          rw [hr] at hX ⊢
          have hX2 := hX.turn rb
          rw [← hWb] at hX2
          clear hX hWb hr
          have HX := Lib.hid hX2
          clear hX2
          obtain ⟨hst1, hst2⟩ := lbTo_step HV.out (th := th) hj
          have HSA := Lib.hid hst1
          have HSB := Lib.hid hst2
          clear hst1 hst2
          have t1 : (0 : Int) ≤ (j : Int) := by omega
          have t2 : (j : Int) < (ls.length : Int) := by have := HLL.out; omega
          have c4 := TBox.c4 HX.out.box
          have ch := HX.out.xh.cell (i := 0) rfl
          have cv := HX.out.xv.cell (i := 0) rfl
          rw [HHO.out] at c4
          rcases HV.out.par hj with e | ⟨p, e, h1, h2, h3, _⟩
          · have HE : Hid (lbTo t t.par.length ls th (j + 1) = lbTo t t.par.length ls th j) := HSB.out (.inl (by omega))
            rw [e]
            clear e
            gi_wp2_with fail
            refine region_tailIn 10 (by kernel_rfl) (by kernel_rfl) (by kernel_rfl) ?_
            intro w6 hw6
            have HX6 := Lib.hid (HX.out.drew hw6)
            clear hw6 HX c4 ch cv
            simp only [List.take_succ_cons, List.take_zero, List.drop_succ_cons, List.drop_zero]
            repeat still_step
            refine wpStill_nil ?_
            go_wp2_with fail
            refine ⟨rfl, ?_⟩
            gi_wp2_with fail
            exact ⟨HX6.out.lp, rfl, by rw [← HE.out]; exact HX6.out.turn r⟩
          · obtain ⟨e4, l4⟩ := HX.out.tree.h.get (i := p) (by rw [HV.out.hl]; exact h3)
            rw [HHO.out] at e4
            subst e4
            obtain ⟨g, cap, hvv, hcap, _, _, hcell, hfr⟩ := owns_form HX.out.xb (by omega)
            injection hvv with e1 _ e3
            subst e1 e3
            have HSE : Hid (gi t.hgt p ≤ th → (lbTo t t.par.length ls th (j + 1)).set j ((lbTo t t.par.length ls th (j + 1)).getD p 0) = lbTo t t.par.length ls th j) := HSA.out p e
            have HSN : Hid (¬ gi t.hgt p ≤ th → lbTo t t.par.length ls th (j + 1) = lbTo t t.par.length ls th j) := fun hh => HSB.out (.inr ⟨p, e, hh⟩)
            have cj := hcell j (by omega)
            have cp := hcell p (by have := HLL.out; omega)
            have fj := hfr j
            rw [natV_get (by rw [lbTo_length]; exact hj)] at cj
            rw [natV_get (by rw [lbTo_length]; exact h3)] at cp
            rw [e]
            have t3 : (0 : Int) ≤ (p : Int) := by omega
            have t4 : (p : Int) < (t.hgt.length : Int) := by rw [HV.out.hl]; omega
            have t5 : (p : Int) < (ls.length : Int) := by have := HLL.out; omega
            have t6 : j < ls.length := by omega
            clear e hcell hfr hcap
            generalize gi t.hgt p = hp at *
            generalize (lbTo t t.par.length ls th (j + 1)).getD p 0 = x at *
            by_cases hc : hp ≤ th
            · have HSE2 := Lib.hid (HSE.out hc)
              have t7 : decide (hp ≤ th) = true := by simp [hc]
              clear hc
              gi_wp2_with fail
              refine region_tailIn 10 (by kernel_rfl) (by kernel_rfl) (by kernel_rfl) ?_
              intro w6 hw6
              have HX6 := Lib.hid (HX.out.drew hw6)
              replace c4 := hw6.cell c4
              replace ch := hw6.cell ch
              replace cv := hw6.cell cv
              replace l4 := hw6.cell l4
              replace cj := hw6.cell cj
              replace cp := hw6.cell cp
              replace fj := hw6.frozen fj
              clear hw6 HX
              simp only [List.take_succ_cons, List.take_zero, List.drop_succ_cons, List.drop_zero]
              repeat still_step
              refine wpStill_nil ?_
              go_wp2_with fail
              refine ⟨rfl, ?_⟩
              gi_wp2_with fail
              refine region_tailIn 7 (by kernel_rfl) (by kernel_rfl) (by kernel_rfl) ?_
              intro w7 hw7
              have HX7 := Lib.hid ((HX6.out.drew hw7).set rfl t6 (.int .i64 (x : Int)))
              replace cv := hw7.cell cv
              replace cj := hw7.cell cj
              replace cp := hw7.cell cp
              replace fj := hw7.frozen fj
              clear hw7 HX6 c4 ch l4
              simp only [List.take_succ_cons, List.take_zero, List.drop_succ_cons, List.drop_zero]
              repeat still_step
              refine wpStill_nil ?_
              go_wp2_with fail
              refine ⟨rfl, ?_⟩
              have HX8 := HX7.out
              rw [natV_set, HSE2.out] at HX8
              have HX9 := Lib.hid HX8
              clear HX7 HX8 cv cj cp fj
              gi_wp2_with fail
              exact ⟨HX9.out.lp, rfl, HX9.out.turn r⟩
            · have HE := Lib.hid (HSN.out hc)
              have t7 : decide (hp ≤ th) = false := by simp; omega
              clear hc
              gi_wp2_with fail
              refine region_tailIn 10 (by kernel_rfl) (by kernel_rfl) (by kernel_rfl) ?_
              intro w6 hw6
              have HX6 := Lib.hid (HX.out.drew hw6)
              replace c4 := hw6.cell c4
              replace ch := hw6.cell ch
              replace l4 := hw6.cell l4
              clear hw6 HX cv cj cp fj
              simp only [List.take_succ_cons, List.take_zero, List.drop_succ_cons, List.drop_zero]
              repeat still_step
              refine wpStill_nil ?_
              go_wp2_with fail
              refine ⟨rfl, ?_⟩
              gi_wp2_with fail
              exact ⟨HX6.out.lp, rfl, by rw [← HE.out]; exact HX6.out.turn r⟩
      · rintro e W2 ⟨hv, hi⟩
        exact ⟨hv, hi.lp, hi.df, _, hi⟩
    case done =>
      rintro W2 r' ⟨r, hi⟩
      simp only [World.size_alloc]
      have hi3 := hi.turn r'
      generalize World.putObj W2 _ _ = W3 at hi3 ⊢
      clear hi
      have HI := Lib.hid hi3
      clear hi3
      have c0 := TBox.c0 HI.out.box
      have cv := HI.out.xv.cell (i := 0) rfl
      rw [HN.out] at c0
      have hnm := HV.out.nm
      have hnl : n ≤ ls.length := by have := HLL.out; omega
      have hlv : ls.length ≤ vc := by
        rcases HI.out.xb.2 with ⟨e, e2⟩ | ⟨g, cap, cur, e, _, _, h2, _⟩
        · injection e with _ _ e; omega
        · injection e with _ _ e; omega
      have hvm : vc ≤ 9223372036854775807 := by
        rcases HI.out.xb.2 with ⟨e, e2⟩ | ⟨g, cap, cur, e, _, _, _, h2, _⟩
        · injection e with _ _ e; omega
        · injection e with _ _ e; unfold maxLen at h2; omega
      gi_wp2_with fail
      have hsrc := Src.of_take HI.out.xb hnl
      rw [lbTo_zero hnm] at hsrc
      refine ⟨trivial, CallsIn.mono (callsIn_wide.2 (cloneI_ok W3 _ n vc _ hsrc (by omega))) ?_⟩
      rintro e w8 ⟨v8, rfl, hrow, hb8, hnew⟩
      have HD8 : Hid (w8.heap[w3.heap.size + 1 + 1]? = some (.deferred (some []))) := by
        show _ = _
        rw [hb8.block _ (Array.getElem?_eq_some_iff.1 HI.out.df).1]; exact HI.out.df
      have HROW := Lib.hid hrow
      have HNEW := Lib.hid hnew
      have HW8 := Lib.hid (bel_then HI.out.bel hb8)
      clear hrow hnew hb8 hsrc c0 cv
      gi_wp2_with fail
      refine ⟨by simp, .inl ⟨_, _, rfl, run_takeDeferred HD8.out, ?_⟩⟩
      have hm : Mod (fun x => x = w3.heap.size + 1 + 1) w8 (w8.putObj (w3.heap.size + 1 + 1) (.deferred none)) := (Mod.refl _ _).putObj _ _ (fun _ => rfl)
      refine ⟨_, results_tmp2 rfl _ _ _, ?_⟩
      have hs3 := HW3.out.size
      refine ⟨(fun e => by (rw [HC.out] at e; cases e)), fun l e => ?_, bel_mod HW8.out hm (fun x e => by omega)⟩
      rw [HC.out] at e
      injection e with e
      subst e
      have hlen : (labelsL t n t.par.length ls th).length = n := by simp [labelsL]
      rw [hlen]
      refine ⟨v8, rfl, owns_mod HROW.out hm (fun x hx e => owns_ne_obj HROW.out HD8.out rfl (by rw [← e]; exact hx)), fun k hk => ?_⟩
      have h1 := HNEW.out k hk
      have h2 := HI.out.bel.size
      omega

end Go.Proofs.Ytenhbfbfkcjimaa
