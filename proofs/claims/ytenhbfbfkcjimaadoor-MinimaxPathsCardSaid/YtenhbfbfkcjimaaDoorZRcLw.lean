/- recon.Leaves. -/
import Derived.Test.YtenhbfbfkcjimaaDoorZRcLv
namespace Go.Proofs.YtenhbfbfkcjimaaDoor
set_option linter.unusedVariables false
set_option linter.unusedSimpArgs false
open Go.RowKit Go.Shelf
attribute [local go_sem] Oper.semAt_some

theorem Tryd.infoBool : (Tryd.prog.info? 4).map (fun i => (i.zero, i.size, i.bytes)) = some (some (.bool false), 1, 1) := by kernel_rfl

/-- What Leaves returns. -/
def leavesO (t : Tr) (node : Int) : Option (List Nat) :=
  match lsL t with | none => none | some ls => if node < 0 ∨ (t.par.length : Int) ≤ node then none else some (leavesL t t.lv.toNat t.par.length node.toNat)
theorem leavesO_none {t : Tr} {node : Int} (h : lsL t = none) : leavesO t node = none := by unfold leavesO; rw [h]
theorem leavesO_out {t : Tr} {node : Int} (h : node < 0 ∨ (t.par.length : Int) ≤ node) : leavesO t node = none := by
  unfold leavesO
  split
  · rfl
  · exact if_pos h
theorem leavesO_some {t : Tr} {node : Int} {ls : List Nat} (h : lsL t = some ls) (h2 : ¬ (node < 0 ∨ (t.par.length : Int) ≤ node)) : leavesO t node = some (leavesL t t.lv.toNat t.par.length node.toNat) := by
  unfold leavesO; rw [h]; exact if_neg h2

def boV (l : List Bool) : List Value := l.map Value.bool
theorem boV_len (l : List Bool) : (boV l).length = l.length := by simp [boV]
theorem boV_get {l : List Bool} {i : Nat} {b : Bool} (h : l[i]? = some b) : (boV l)[i]? = some (.bool b) := by unfold boV; rw [List.getElem?_map, h]; rfl
theorem boV_set (l : List Bool) (i : Nat) (b : Bool) : (boV l).set i (.bool b) = boV (l.set i b) := by unfold boV; rw [List.map_set]

theorem bl_start {t : Tr} {m node : Nat} (h : node < m) : (List.replicate m (Value.bool false)).set node (.bool true) = boV (blTo t m node m) := by
  rw [blTo_end]
  unfold boV
  apply List.ext_getElem?
  intro i
  rw [List.getElem?_map, List.getElem?_map]
  by_cases hi : i < m
  · rw [List.getElem?_range hi]
    by_cases e : i = node
    · subst e
      rw [List.getElem?_set_self (by simp; omega)]
      simp
    · rw [List.getElem?_set_ne (fun e' => e e'.symm), List.getElem?_replicate, if_pos hi]
      simp [e]
  · rw [List.getElem?_eq_none (by simp; omega), List.getElem?_eq_none (by simp; omega)]; rfl

theorem owns_free {w : World} {e : TypeId} {size g cap n : Nat} {xs : List Value} (h : w.ownsRow 0 e size (.slice (some ⟨g, 0, none⟩) n cap) n xs) (j : Nat) : w.frozen? ⟨g, j, none⟩ = false := by
  rcases h.2 with ⟨h', _⟩ | ⟨g', cap', cur, h', _, hg, _⟩
  · simp at h'
  · simp only [Value.slice.injEq, Option.some.injEq, Addr.mk.injEq, and_true, true_and] at h'
    obtain ⟨rfl, rfl⟩ := h'
    simp [World.frozen?, hg]

/-- The leaves below node among the first i. -/
def lvTo (t : Tr) (m node i : Nat) : List Nat := (List.range i).filter fun v => bl t m node v
theorem lvTo_succ (t : Tr) (m node i : Nat) : lvTo t m node (i + 1) = if bl t m node i = true then lvTo t m node i ++ [i] else lvTo t m node i := by
  unfold lvTo
  rw [List.range_succ, List.filter_append]
  by_cases h : bl t m node i = true
  · rw [if_pos h]; simp [h]
  · rw [if_neg h]; simp [h]
theorem lvTo_len (t : Tr) (m node i : Nat) : (lvTo t m node i).length ≤ i := by
  have := List.length_filter_le (fun v => bl t m node v) (List.range i)
  rw [List.length_range] at this
  exact this

set_option maxHeartbeats 4000000 in
set_option maxRecDepth 100000 in
theorem leaves_ok (w : World) (A : TA) (t : Tr) (ht : TreeAt w A t) (node : Int) : Calls Tryd.prog 58 #[A.agg t, .int .i64 node] w (LnPost w (leavesO t node)) := by
  refine (callsIn_wide (n := 3)).1 ?_
  have HW := Lib.hid (bel_alloc w (.cells #[.int .i64 t.lv, .slice A.l.o t.left.length A.l.c, .slice A.r.o t.right.length A.r.c, .slice A.p.o t.par.length A.p.c, .slice A.h.o t.hgt.length A.h.c, .slice A.s.o t.siz.length A.s.c] 61))
  have HB := Lib.hid (TBox.new w A t)
  have HT2 := Lib.hid (ht.below HW.out)
  have HAW : Hid (∀ k, A.has t k → k < w.heap.size) := fun k hk => ht.lt hk
  have HLN := Lib.hid ht.ln
  have c0 := TBox.c0 HB.out
  have c1 := TBox.c1 HB.out
  have c2 := TBox.c2 HB.out
  have c3 := TBox.c3 HB.out
  have c4 := TBox.c4 HB.out
  have c5 := TBox.c5 HB.out
  clear ht
  show CallsIn _ _ _ _ #[.agg #[.int .i64 t.lv, .slice A.l.o t.left.length A.l.c, .slice A.r.o t.right.length A.r.c, .slice A.p.o t.par.length A.p.c, .slice A.h.o t.hgt.length A.h.c, .slice A.s.o t.siz.length A.s.c], _] _ _
  refine callsIn_of_wp_marks Tryd.func58 rfl trivial ?_ rfl
  simp only [Tryd.ntmps58, List.size_toArray, List.length_cons, List.length_nil, Nat.reduceAdd, Nat.reduceSub, Array.replicate_succ, Array.replicate_zero, List.push_toArray, List.append_toArray, List.nil_append, List.cons_append]
  gi_wp2_with fail
  refine ⟨trivial, CallsIn.mono (callsIn_wide.2 (leasts_ok _ A t HT2.out)) ?_⟩
  rintro e w2 ⟨hbad, hgood, hb⟩
  have HW2 := Lib.hid (bel_then HW.out hb)
  have HB2 := Lib.hid (Blk.below HB.out hb (Blk.lt HB.out))
  have HT3 := Lib.hid (HT2.out.below hb)
  clear hb c0 c1 c2 c3 c4 c5
  cases hl : lsL t with
  | none =>
    obtain rfl := hbad hl
    have HC := Lib.hid (leavesO_none (node := node) hl)
    clear hl hbad hgood
    gi_wp2_with fail
    refine ⟨_, results_tmp rfl _ _ _, ?_⟩
    exact ⟨fun _ => rfl, (fun l e => by (rw [HC.out] at e; cases e)), HW2.out⟩
  | some ls =>
    obtain ⟨lb, rfl, _, _⟩ := hgood ls hl
    obtain ⟨n, hn, hv⟩ := tv_of hl
    have HV := Lib.hid hv
    have HN := Lib.hid hn
    have hn4 := hv.hn
    have hnm := hv.nm
    have hm2 := hv.two
    have c3 := TBox.c3 HB2.out
    by_cases h1 : node < 0
    · have t1 : decide (node < 0) = true := by simp [h1]
      have HC := Lib.hid (leavesO_out (t := t) (.inl h1))
      clear hl hbad hgood hv hn h1
      gi_wp2_with fail
      refine ⟨_, results_tmp rfl _ _ _, ?_⟩
      exact ⟨fun _ => rfl, (fun l e => by (rw [HC.out] at e; cases e)), HW2.out⟩
    by_cases h2 : (t.par.length : Int) ≤ node
    · have t1 : decide (node < 0) = false := by simp; omega
      have t2 : decide ((t.par.length : Int) ≤ node) = true := by simp [h2]
      have HC := Lib.hid (leavesO_out (t := t) (.inr h2))
      clear hl hbad hgood hv hn h1 h2
      gi_wp2_with fail
      refine ⟨_, results_tmp rfl _ _ _, ?_⟩
      exact ⟨fun _ => rfl, (fun l e => by (rw [HC.out] at e; cases e)), HW2.out⟩
    have hC := leavesO_some hl (fun h => h.elim h1 h2)
    obtain ⟨nd, rfl⟩ := Int.eq_ofNat_of_zero_le (show 0 ≤ node by omega)
    have hnd : nd < t.par.length := by omega
    rw [hn, Int.toNat_natCast, Int.toNat_natCast] at hC
    have HC := Lib.hid hC
    have t2 : decide (t.par.length ≤ nd) = false := by simp; omega
    have t3 : nd < t.par.length := hnd
    clear hl hbad hgood hv hn h1 h2 hC
    obtain ⟨w3, hmk, hb3, hbw3⟩ : ∃ w3, (Instr.makeSlice 46 (.int .i64 (t.par.length : Int)) (.int .i64 (t.par.length : Int))).run Tryd.prog w2 = .ok (.slice (some ⟨w2.heap.size, 0, none⟩) t.par.length t.par.length) w3 ∧ Blk w3 w2.heap.size 4 (List.replicate t.par.length (.bool false)) ∧ Below w2.heap.size w2 w3 :=
      ⟨_, run_makeE 46 4 (.bool false) 1 Tryd.underlying46 Tryd.infoBool rfl .i64 .i64 t.par.length (by omega) (by unfold maxLen; omega) w2, Blk.new _ _ _, bel_alloc _ _⟩
    have HB3 := Lib.hid hb3
    have HBW3 := Lib.hid hbw3
    have hlt := hb3.lt
    clear hb3 hbw3
    have hw2 := HW2.out.size
    have HW3 := Lib.hid (bel_then HW2.out HBW3.out)
    have HBX3 := Lib.hid (Blk.below HB2.out HBW3.out (Blk.lt HB2.out))
    have HT4 := Lib.hid (HT3.out.below HBW3.out)
    have HBB : Hid (w.heap.size < w2.heap.size) := Blk.lt HB2.out
    generalize w2.heap.size = bb at *
    have HB4 := Lib.hid (HB3.out.alloc (.cells #[.slice (some ⟨bb, 0, none⟩) t.par.length t.par.length] 46))
    have cb := HB4.out.cell (i := nd) (v := .bool false) (by rw [List.getElem?_replicate, if_pos hnd])
    have fb := HB4.out.free nd
    have HX5 : Hid (TBox ((w3.setCell ⟨bb, nd, none⟩ (.bool true)).alloc (.cells #[.slice (some ⟨bb, 0, none⟩) t.par.length t.par.length] 46)) w.heap.size A t) := (Blk.other HBX3.out ⟨bb, nd, none⟩ _ (by show w.heap.size ≠ bb; have := HBB.out; omega)).alloc _
    have hm5 : Mod (fun k => k = bb) w3 ((w3.setCell ⟨bb, nd, none⟩ (.bool true)).alloc (.cells #[.slice (some ⟨bb, 0, none⟩) t.par.length t.par.length] 46)) := ((Mod.refl (fun k => k = bb) w3).setCell ⟨bb, nd, none⟩ (fun _ => rfl) _).alloc _
    have HT5 := Lib.hid (HT4.out.mod hm5 (fun k hk e => by have := HAW.out k hk; have := HBB.out; omega))
    have HW5 := Lib.hid (bel_mod HW3.out hm5 (fun x e => by have := HBB.out; omega))
    have HV5 : Hid (Blk ((w3.setCell ⟨bb, nd, none⟩ (.bool true)).alloc (.cells #[.slice (some ⟨bb, 0, none⟩) t.par.length t.par.length] 46)) w3.heap.size 46 [.slice (some ⟨bb, 0, none⟩) t.par.length t.par.length]) := Blk.new' _ _ _ (by simp)
    have HO5 : Hid (Blk ((w3.setCell ⟨bb, nd, none⟩ (.bool true)).alloc (.cells #[.slice (some ⟨bb, 0, none⟩) t.par.length t.par.length] 46)) bb 4 (boV (blTo t t.par.length nd t.par.length))) := by
      show Blk _ _ _ _
      rw [← bl_start hnd]
      exact (HB3.out.set nd (.bool true)).alloc _
    have c0 := TBox.c0 HX5.out
    have c1 := TBox.c1 HX5.out
    have c2 := TBox.c2 HX5.out
    have c3' := TBox.c3 HX5.out
    have c4 := TBox.c4 HX5.out
    have c5 := TBox.c5 HX5.out
    gi_wp2_with fail
    clear cb fb hmk hm5 HB4 HBX3 HT4 c3
    generalize ((w3.setCell ⟨bb, nd, none⟩ (.bool true)).alloc (.cells #[.slice (some ⟨bb, 0, none⟩) t.par.length t.par.length] 46)) = w5 at *
    refine ⟨trivial, CallsIn.mono (callsIn_wide.2 (down_any A t w5)) ?_⟩
    rintro e w4 ⟨rfl, rfl⟩
    gi_wp2_with fail
    clear c0 c1 c2 c3' c4 c5
    have HINV : Hid (∀ r : Loop, RgInv w A t w.heap.size (w5.heap.size) w3.heap.size w3.heap.size (w5.heap.size + 1 + 1) (w5.heap.size + 1) t.par.length (.slice (some ⟨bb, 0, none⟩) t.par.length t.par.length) 46 46 4 [.slice (some ⟨bb, 0, none⟩) t.par.length t.par.length] r (boV (blTo t t.par.length nd t.par.length)) (((w5.alloc (.cells #[.int .i64 t.lv, .slice A.l.o t.left.length A.l.c, .slice A.r.o t.right.length A.r.c, .slice A.p.o t.par.length A.p.c, .slice A.h.o t.hgt.length A.h.c, .slice A.s.o t.siz.length A.s.c] 61)).alloc (.deferred (some []))).alloc (.loop r))) := by
      intro r
      have hs := HW5.out.size
      have hs1 := HX5.out.lt
      have hs2 := HV5.out.lt
      have hs3 := HO5.out.lt
      have hbb := (((bel_alloc w5 (.cells #[.int .i64 t.lv, .slice A.l.o t.left.length A.l.c, .slice A.r.o t.right.length A.r.c, .slice A.p.o t.par.length A.p.c, .slice A.h.o t.hgt.length A.h.c, .slice A.s.o t.siz.length A.s.c] 61)).alloc (by simp) (.deferred (some []))).alloc (by simp; omega) (.loop r))
      refine ⟨((Blk.alloc HX5.out _).alloc _).alloc _, (Blk.alloc (TBox.new w5 A t) _).alloc _, HT5.out.below hbb, ((HV5.out.alloc _).alloc _).alloc _, ((HV5.out.alloc _).alloc _).alloc _, ?_, ?_, ?_, bel_then HW5.out hbb, fun k hk => ?_, by omega, HAW.out⟩
      · have := owns_blk (((HO5.out.alloc (.cells #[.int .i64 t.lv, .slice A.l.o t.left.length A.l.c, .slice A.r.o t.right.length A.r.c, .slice A.p.o t.par.length A.p.c, .slice A.h.o t.hgt.length A.h.c, .slice A.s.o t.siz.length A.s.c] 61)).alloc (.deferred (some []))).alloc (.loop r)) (by rw [boV_len, blTo_length]; omega)
        rw [boV_len, blTo_length] at this
        exact this
      · have := World.alloc_heap_new ((w5.alloc (.cells #[.int .i64 t.lv, .slice A.l.o t.left.length A.l.c, .slice A.r.o t.right.length A.r.c, .slice A.p.o t.par.length A.p.c, .slice A.h.o t.hgt.length A.h.c, .slice A.s.o t.siz.length A.s.c] 61)).alloc (.deferred (some []))) (.loop r)
        simpa using this
      · rw [Below.heap_alloc _ _ _ (by simp)]
        have := World.alloc_heap_new (w5.alloc (.cells #[.int .i64 t.lv, .slice A.l.o t.left.length A.l.c, .slice A.r.o t.right.length A.r.c, .slice A.p.o t.par.length A.p.c, .slice A.h.o t.hgt.length A.h.c, .slice A.s.o t.siz.length A.s.c] 61)) (.deferred (some []))
        simpa using this
      · have e : bb = k := by simpa [Value.ownBlock] using hk
        have h4 := HBB.out
        have h5 := HB3.out.lt
        exact ⟨by omega, by omega, by omega, by omega, by omega⟩
    refine wp_range (gf := 89) (lb := #[.pointer (some ⟨w5.heap.size, 0, none⟩)]) rfl (enters_of Tryd.func89 (by kernel_rfl) rfl)
      (fun W2 => ∃ r, RgInv w A t w.heap.size (w5.heap.size) w3.heap.size w3.heap.size (w5.heap.size + 1 + 1) (w5.heap.size + 1) t.par.length (.slice (some ⟨bb, 0, none⟩) t.par.length t.par.length) 46 46 4 [.slice (some ⟨bb, 0, none⟩) t.par.length t.par.length] r (boV (blTo t t.par.length nd 0)) W2) ?call ?done
    case call =>
      intro fn
      simp only [World.size_alloc, List.append_toArray, List.cons_append, List.nil_append]
      refine CallsIn.mono (down1_in 2 w5.heap.size A t (w5.heap.size + 1 + 1) HLN.out.2.2.1 (fun j X => RgInv w A t w.heap.size (w5.heap.size) w3.heap.size w3.heap.size (w5.heap.size + 1 + 1) (w5.heap.size + 1) t.par.length (.slice (some ⟨bb, 0, none⟩) t.par.length t.par.length) 46 46 4 [.slice (some ⟨bb, 0, none⟩) t.par.length t.par.length] _ (boV (blTo t t.par.length nd j)) X) ?_ _ (HINV.out _) ?_) ?_
      · intro j X hX
        exact ⟨hX.box2, hX.tree.p⟩
      · intro j X hj hX
        refine yieldAt_of hX.lp rfl ?a1 ?asg ?bd
        case asg =>
          intro K hK
          gi_wp2
          exact hK
        case bd =>
          intro r rb Wb hr hWb
          rw [hr] at hX ⊢
          have hX2 := hX.turn rb
          rw [← hWb] at hX2
          clear hX hWb hr
          have HX := Lib.hid hX2
          clear hX2
          obtain ⟨hst1, hst2⟩ := blTo_step HV.out (node := nd) hj
          have HSA := Lib.hid hst1
          have HSB := Lib.hid hst2
          clear hst1 hst2
          have t1 : (0 : Int) ≤ (j : Int) := by omega
          have t2 : (j : Int) < (t.par.length : Int) := by omega
          have cv := HX.out.xv.cell (i := 0) rfl
          rcases HV.out.par hj with e | ⟨p, e, h1, h2, h3, _⟩
          · have HE : Hid (blTo t t.par.length nd (j + 1) = blTo t t.par.length nd j) := HSB.out (.inl (by omega))
            rw [e]
            clear e
            gi_wp2_with fail
            exact ⟨HX.out.lp, rfl, by rw [← HE.out]; exact HX.out.turn r⟩
          · obtain ⟨b, hbv⟩ : ∃ b, (blTo t t.par.length nd (j + 1))[p]? = some b := ⟨_, blTo_get h3⟩
            have cp := (owns_cells HX.out.xb) p _ (boV_get hbv)
            rw [add_mk, Nat.zero_add] at cp
            have hj' : ∃ b, (blTo t t.par.length nd (j + 1))[j]? = some b := ⟨_, blTo_get hj⟩
            obtain ⟨bj, hbj⟩ := hj'
            have cj := (owns_cells HX.out.xb) j _ (boV_get hbj)
            rw [add_mk, Nat.zero_add] at cj
            have fj := owns_free HX.out.xb j
            rw [e]
            have HE := Lib.hid e
            have t3 : (0 : Int) ≤ (p : Int) := by omega
            have t4 : (p : Int) < (t.par.length : Int) := by omega
            have HBV := Lib.hid hbv
            clear e hbv hbj
            cases b with
            | false =>
              have HE2 : Hid (blTo t t.par.length nd (j + 1) = blTo t t.par.length nd j) := HSB.out (.inr ⟨p, HE.out, HBV.out⟩)
              gi_wp2_with fail
              exact ⟨HX.out.lp, rfl, by rw [← HE2.out]; exact HX.out.turn r⟩
            | true =>
              have HE2 := Lib.hid (HSA.out p HE.out HBV.out)
              have HX7 := HX.out.set rfl hj (.bool true)
              rw [boV_set, HE2.out] at HX7
              have HX8 := Lib.hid HX7
              clear HX7
              gi_wp2_with fail
              exact ⟨HX8.out.lp, rfl, HX8.out.turn r⟩
      · rintro e W2 ⟨hv, hi⟩
        exact ⟨hv, hi.lp, hi.df, _, hi⟩
    case done =>
      rintro W2 r' ⟨r, hi⟩
      simp only [World.size_alloc]
      have hi3 := hi.turn r'
      generalize World.putObj W2 _ _ = W3 at hi3 ⊢
      clear hi
      have HI := Lib.hid hi3
      clear hi3
      have c0 := TBox.c0 HI.out.box
      rw [HN.out] at c0
      have HMZ : Hid (w5.heap.size + 1 < W3.heap.size) := (Array.getElem?_eq_some_iff.1 HI.out.df).1
      gi_wp2_with fail
      clear c0
      gi_loopw [10, 54] (fun v s wr => ∃ i : Nat, i ≤ n ∧ s = .int .i64 i ∧ wr.ownsRow 0 3 1 v (lvTo t t.par.length nd i).length (natV (lvTo t t.par.length nd i)) ∧ (∀ x, v.ownBlock = some x → W3.heap.size ≤ x) ∧ Below W3.heap.size W3 wr) (fun _ s _ => n - (intOf s).toNat)
      case atStart => exact ⟨0, Nat.zero_le _, rfl, World.ownsRow_nil _ _ _ _, fun x hx => (by cases hx), Below.refl _ _⟩
      case round =>
        obtain ⟨i, hi, rfl, hv, hvn, hb⟩ := hrel
        have HVR := Lib.hid hv
        have HVN := Lib.hid hvn
        have HBR := Lib.hid hb
        clear hv hvn hb
        by_cases hin : i < n
        · have him : i < t.par.length := by omega
          have cv := (HI.out.xv.below HBR.out HI.out.xv.lt).cell (i := 0) rfl
          have ci := owns_cells HI.out.xb i _ (boV_get (blTo_get him))
          rw [add_mk, Nat.zero_add, if_pos (Nat.zero_le _)] at ci
          have HL := Lib.hid (lvTo_succ t t.par.length nd i)
          have ci2 := (HBR.out.cell (World.block_lt_of_cell? W3 _ ci)).trans ci
          have hlt := lvTo_len t t.par.length nd i
          have t1 : (i : Int) < (t.par.length : Int) := by omega
          have t2 : (0 : Int) ≤ (i : Int) := by omega
          have t4 : (i : Int) < (n : Int) := by omega
          clear ci
          obtain ⟨b, HBL⟩ : ∃ b, Hid (bl t t.par.length nd i = b) := ⟨_, rfl⟩
          rw [HBL.out] at ci2 HL
          generalize hT : lvTo t t.par.length nd i = T at *
          generalize hT' : lvTo t t.par.length nd (i + 1) = T' at *
          have HT' := Lib.hid hT'
          clear hT hT'
          cases b with
          | true =>
            have HTT : Hid (T' = T ++ [i]) := HL.out.trans (if_pos rfl)
            have HOW := Lib.hid (HVR.out.alloc (.cells #[.int .i64 i] 3))
            have HNW := Lib.hid (news_new wr 3 [.int .i64 i])
            obtain ⟨vo, vc, rfl⟩ := owns_slice HVR.out
            gi_wp2_with (gi_at_builtin; with_reducible refine wpListIn_appendB 3 (.int .i64 0) 1 8 Tryd.underlying35 Tryd.infoInt rfl (by decide) (.slice vo T.length vc) T.length (natV T) rfl HOW.out ⟨wr.heap.size, 0, none⟩ 1 1 [.int .i64 i] rfl rfl HNW.out (by simp [Value.oneCell']) (by unfold maxLen; omega) (by omega) ?_)
            intro v6 w6 ho6 hg6 hn6
            have hwr := HBR.out.size
            have HB6 : Hid (Below W3.heap.size W3 w6) := (HBR.out.alloc (by omega) _).trans (grown_below hg6 (fun k hk => HVN.out k hk) (by simp; omega))
            have HV6 : Hid (w6.ownsRow 0 3 1 v6 T'.length (natV T')) := by
              show World.ownsRow _ _ _ _ _ _ _
              rw [HTT.out, List.length_append]
              have e : natV (T ++ [i]) = natV T ++ [.int .i64 (i : Int)] := by simp [natV]
              rw [e]
              exact ho6
            have HN6 : Hid (∀ x, v6.ownBlock = some x → W3.heap.size ≤ x) := fun x hx => by
              rcases hn6 x hx with e | e
              · exact HVN.out x e
              · omega
            clear ho6 hg6 hn6
            gi_wp2_with fail
            go_roundw
            case rel => exact ⟨i + 1, by omega, by go_num, by rw [HT'.out]; exact HV6.out, HN6.out, HB6.out⟩
            case measure => simp [intOf]; omega
          | false =>
            have HTT : Hid (T' = T) := HL.out.trans (if_neg (by decide))
            gi_wp2_with fail
            go_roundw
            case rel => exact ⟨i + 1, by omega, by go_num, by rw [HT'.out, HTT.out]; exact HVR.out, HVN.out, HBR.out⟩
            case measure => simp [intOf]; omega
        · obtain rfl : i = n := by omega
          have t4 : ¬ (i : Int) < (i : Int) := by omega
          have HD8 : Hid (wr.heap[w5.heap.size + 1]? = some (.deferred (some []))) := by
            show _ = _
            rw [HBR.out.block _ HMZ.out]; exact HI.out.df
          gi_wp2_with fail
          refine ⟨by simp, .inl ⟨_, _, rfl, run_takeDeferred HD8.out, ?_⟩⟩
          have hm : Mod (fun x => x = w5.heap.size + 1) wr (wr.putObj (w5.heap.size + 1) (.deferred none)) := (Mod.refl _ _).putObj _ _ (fun _ => rfl)
          refine ⟨_, results_tmp rfl _ _ _, ?_⟩
          have hs5 := HW5.out.size
          have hsi := HI.out.bel.size
          refine ⟨(fun e => by (rw [HC.out] at e; cases e)), fun l e => ?_, bel_mod (bel_then HI.out.bel HBR.out) hm (fun x e => by omega)⟩
          rw [HC.out] at e
          injection e with e
          subst e
          refine ⟨_, rfl, owns_mod HVR.out hm (fun x hx e => owns_ne_obj HVR.out HD8.out rfl (by rw [← e]; exact hx)), fun k hk => ?_⟩
          have h1 := HVN.out k hk
          omega

end Go.Proofs.YtenhbfbfkcjimaaDoor
