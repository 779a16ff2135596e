/- Several texts in one: WnF, WnH, WnK, WnL. -/
import Derived.Test.YtlooaipipmiijaaGreatZU35
namespace Go.Proofs.YtlooaipipmiijaaGreat
set_option linter.unusedVariables false
set_option linter.unusedSimpArgs false
open Go.RowKit
def WnV (b : Nat) (G : WnG) (w w' : World) : Prop := ∃ col, WnS b G w { G with col := col } w'
theorem WnV.below {b : Nat} {G : WnG} {w w' : World} (h : WnM w b G) (hb : Below w.heap.size w w') : WnV b G w w' := ⟨G.col, (WnS.refl h).below hb⟩
theorem WnL.col {G : WnG} {all : List Rcd} (h : WnL G all) (col : Nat → Nat) : WnL { G with col := col } all := by
  obtain ⟨⟨ge, F, he⟩, h2, h3, h4, h5⟩ := h
  exact ⟨⟨ge, F, he.same rfl rfl rfl rfl rfl rfl⟩, h2, h3, h4, h5⟩
set_option maxHeartbeats 1000000 in
theorem wn_ends_yes (w : World) (b : Nat) (G : WnG) (h : WnM w b G) (u v i j : Nat) (hi : gix G.g.LvT G.g.D u = some i) (hj : gix G.g.LvT G.g.D v = some j) :
    Calls Tryz.prog 26 #[.pointer (some ⟨b, 0, none⟩), .int .u64 (u : Int), .int .u64 (v : Int)] w (RetB (.tuple #[.int .i64 (i : Int), .int .i64 (j : Int), .int .i64 0]) w) := by
  have HV := Lib.hid (wn_valid b G.cp w h.c4)
  have HI := st_index w G.sp G.g h.sto u
  rw [hi] at HI
  replace HI := Lib.hid HI
  have H := Lib.hid h
  have HJ : Hid (∀ w1, Below w.heap.size w w1 → Calls Tryz.prog 50 #[.pointer (some ⟨G.sp, 0, none⟩), .int .u64 (v : Int)] w1 (RetB (.tuple #[.int .i64 (j : Int), .bool true]) w1)) := by
    show ∀ w1, _
    intro w1 hb
    have := st_index w1 G.sp G.g (h.below hb).sto v
    rw [hj] at this
    exact this
  have c5 := h.c5
  clear h hi hj
  go_enter Tryz.func26, Tryz.ntmps26
  go_upto_region 4 with (first | (go_at_call 18; refine HV.out.mono ?_; rintro e w' ⟨rfl, rfl⟩) | (go_at_call 50; refine HI.out.mono ?_; rintro e w1 ⟨rfl, hb⟩; have HB1 := Lib.hid hb; clear hb))
  replace c5 := (H.out.below HB1.out).c5
  have HJ2 := Lib.hid (HJ.out w1 HB1.out)
  go_wp2_with (go_at_call 50; refine HJ2.out.mono ?_; rintro e w2 ⟨rfl, hb⟩; have HB2 := Lib.hid (bel_next HB1.out hb); clear hb)
  go_ret3
  exact ⟨rfl, HB2.out⟩
set_option maxHeartbeats 1000000 in
theorem wn_ends_no (w : World) (b : Nat) (G : WnG) (h : WnM w b G) (u v : Nat) (hn : (gix G.g.LvT G.g.D u).isSome = false ∨ (gix G.g.LvT G.g.D v).isSome = false) :
    Calls Tryz.prog 26 #[.pointer (some ⟨b, 0, none⟩), .int .u64 (u : Int), .int .u64 (v : Int)] w (RetB (.tuple #[.int .i64 0, .int .i64 0, .int .i64 13]) w) := by
  have HV := Lib.hid (wn_valid b G.cp w h.c4)
  have HI := Lib.hid (st_index w G.sp G.g h.sto u)
  have H := Lib.hid h
  have HJ : Hid (∀ w1, Below w.heap.size w w1 → Calls Tryz.prog 50 #[.pointer (some ⟨G.sp, 0, none⟩), .int .u64 (v : Int)] w1 (RetB (.tuple #[.int .i64 (((gix G.g.LvT G.g.D v).getD 0 : Nat) : Int), .bool (gix G.g.LvT G.g.D v).isSome]) w1)) := by
    show ∀ w1, _
    intro w1 hb
    exact st_index w1 G.sp G.g (h.below hb).sto v
  have c5 := h.c5
  clear h
  have HN := Lib.hid hn
  clear hn
  generalize (gix G.g.LvT G.g.D u).isSome = bu at *
  generalize (gix G.g.LvT G.g.D v).isSome = bv at *
  generalize (gix G.g.LvT G.g.D u).getD 0 = iu at *
  generalize (gix G.g.LvT G.g.D v).getD 0 = iv at *
  go_enter Tryz.func26, Tryz.ntmps26
  go_upto_region 4 with (first | (go_at_call 18; refine HV.out.mono ?_; rintro e w' ⟨rfl, rfl⟩) | (go_at_call 50; refine HI.out.mono ?_; rintro e w1 ⟨rfl, hb⟩; have HB1 := Lib.hid hb; clear hb))
  replace c5 := (H.out.below HB1.out).c5
  have HJ2 := Lib.hid (HJ.out w1 HB1.out)
  clear HJ HI HV
  have hn := HN.out
  cases bu
  · go_wp2_with (go_at_call 50; refine HJ2.out.mono ?_; rintro e w2 ⟨rfl, hb⟩; have HB2 := Lib.hid (bel_next HB1.out hb); clear hb)
    go_ret3
    exact ⟨rfl, HB2.out⟩
  · obtain rfl : bv = false := by rcases hn with hn | hn; cases hn; exact hn
    go_wp2_with (go_at_call 50; refine HJ2.out.mono ?_; rintro e w2 ⟨rfl, hb⟩; have HB2 := Lib.hid (bel_next HB1.out hb); clear hb)
    go_ret3
    exact ⟨rfl, HB2.out⟩
end Go.Proofs.YtlooaipipmiijaaGreat

namespace Go.Proofs.YtlooaipipmiijaaGreat
set_option linter.unusedVariables false
set_option linter.unusedSimpArgs false
open Go.RowKit
theorem WnV.trans {b : Nat} {G : WnG} {w w1 w2 : World} (h : WnM w b G) (hb : Below w.heap.size w w1) (k : FoS G.fp G.f w1 G.f w2) : WnV b G w w2 :=
  ⟨_, ((WnS.refl h).below hb).trans (((WnS.refl h).below hb).mem.sFo k)⟩
theorem WnE.lt {G : WnG} {ge : Nat → GE} {F : Nat → Prop} (h : WnE G ge F) {i : Nat} (hi : G.g.LvT i) : i < G.f.V := by
  rw [h.fV, ← h.gV]; exact h.stl.ids.lvT i hi
structure WnCo (w : World) (b : Nat) (G : WnG) (R : Prop) (e : Ending) (w' : World) : Prop where
  val : ∃ c : Bool, e = .returned (.tuple #[.bool c, .int .i64 0]) ∧ (c = true ↔ R)
  st : WnV b G w w'
structure WnRt (w : World) (b : Nat) (G : WnG) (v : Value) (e : Ending) (w' : World) : Prop where
  val : e = .returned v
  st : WnV b G w w'
set_option maxHeartbeats 1000000 in
theorem wn_connected (w : World) (b : Nat) (G : WnG) (h : WnM w b G) {ge : Nat → GE} {F : Nat → Prop} (he : WnE G ge F) (u v i j : Nat) (hi : gix G.g.LvT G.g.D u = some i) (hj : gix G.g.LvT G.g.D v = some j) :
    Calls Tryz.prog 13 #[.pointer (some ⟨b, 0, none⟩), .int .u64 (u : Int), .int .u64 (v : Int)] w (WnCo w b G (Rch (Lnk ge G.g.Lv) i j)) := by
  have H := Lib.hid h
  have HE := Lib.hid (wn_ends_yes w b G h u v i j hi hj)
  have HC : Hid (∀ w1, Below w.heap.size w w1 → Calls Tryz.prog 33 #[.pointer (some ⟨G.fp, 0, none⟩), .int .i64 (i : Int), .int .i64 (j : Int)] w1 (FoCo w1 G.fp G.f (Rch (Lnk ge G.g.Lv) i j))) :=
    fun w1 hb => fo_connected w1 G.fp G.f ge G.g.Lv F (h.below hb).fo he.fo i j (he.lt (gix_is hi).1) (he.lt (gix_is hj).1)
  clear h he hi hj
  go_enter Tryz.func13, Tryz.ntmps13
  go_upto_region 4 with (go_at_call 26; refine HE.out.mono ?_; rintro e w1 ⟨rfl, hb⟩; have HB1 := Lib.hid hb; clear hb)
  have c7 := (H.out.below HB1.out).c7
  have HC2 := Lib.hid (HC.out w1 HB1.out)
  go_wp2_with (go_at_call 33; refine HC2.out.mono ?_; rintro e w2 ⟨⟨c, rfl, hc⟩, hst⟩; have HCC := Lib.hid hc; have HST := Lib.hid (WnV.trans H.out HB1.out hst); clear hc hst)
  go_ret2
  exact ⟨⟨_, rfl, HCC.out⟩, HST.out⟩
set_option maxHeartbeats 1000000 in
theorem wn_connected_no (w : World) (b : Nat) (G : WnG) (h : WnM w b G) (u v : Nat) (hn : (gix G.g.LvT G.g.D u).isSome = false ∨ (gix G.g.LvT G.g.D v).isSome = false) :
    Calls Tryz.prog 13 #[.pointer (some ⟨b, 0, none⟩), .int .u64 (u : Int), .int .u64 (v : Int)] w (WnRt w b G (.tuple #[.bool false, .int .i64 13])) := by
  have H := Lib.hid h
  have HE := Lib.hid (wn_ends_no w b G h u v hn)
  clear h hn
  go_enter Tryz.func13, Tryz.ntmps13
  go_wp2_with (go_at_call 26; refine HE.out.mono ?_; rintro e w1 ⟨rfl, hb⟩; have HB1 := Lib.hid hb; clear hb)
  go_ret2
  exact ⟨rfl, WnV.below H.out HB1.out⟩
structure WnUn (w : World) (b : Nat) (G : WnG) (ge : Nat → GE) (i j : Nat) (e : Ending) (w' : World) : Prop where
  yes : i ≠ j → Rch (Lnk ge G.g.Lv) i j → ∃ ex, e = .returned (.tuple #[.int .i64 ex, .bool true, .int .i64 0]) ∧ (∃ m, G.g.Lv m ∧ ex = (ge m).exp) ∧ Rch (Lnk ge fun s => G.g.Lv s ∧ ex ≤ (ge s).exp) i j ∧ ¬ Rch (Lnk ge fun s => G.g.Lv s ∧ ex < (ge s).exp) i j
  no : i = j ∨ ¬ Rch (Lnk ge G.g.Lv) i j → e = .returned (.tuple #[.int .i64 0, .bool false, .int .i64 0])
  st : WnV b G w w'
set_option maxHeartbeats 1000000 in
theorem wn_until (w : World) (b : Nat) (G : WnG) (h : WnM w b G) {ge : Nat → GE} {F : Nat → Prop} (he : WnE G ge F) (u v i j : Nat) (hi : gix G.g.LvT G.g.D u = some i) (hj : gix G.g.LvT G.g.D v = some j) :
    Calls Tryz.prog 10 #[.pointer (some ⟨b, 0, none⟩), .int .u64 (u : Int), .int .u64 (v : Int)] w (WnUn w b G ge i j) := by
  have H := Lib.hid h
  have HE := Lib.hid (wn_ends_yes w b G h u v i j hi hj)
  have hil := he.lt (gix_is hi).1
  have hjl := he.lt (gix_is hj).1
  by_cases hij : i = j
  · subst hij
    have HC : Hid (∀ w1, Below w.heap.size w w1 → Calls Tryz.prog 27 #[.pointer (some ⟨G.fp, 0, none⟩), .int .i64 (i : Int), .int .i64 (i : Int)] w1 (Ret (.tuple #[.int .i64 0, .bool false]) w1)) :=
      fun w1 hb => fo_until_eq w1 G.fp G.f (h.below hb).fo i hil
    clear h he hi hj hil hjl
    go_enter Tryz.func10, Tryz.ntmps10
    go_upto_region 4 with (go_at_call 26; refine HE.out.mono ?_; rintro e w1 ⟨rfl, hb⟩; have HB1 := Lib.hid hb; clear hb)
    have c7 := (H.out.below HB1.out).c7
    have HC2 := Lib.hid (HC.out w1 HB1.out)
    go_wp2_with (go_at_call 27; refine HC2.out.mono ?_; rintro e w2 ⟨rfl, rfl⟩)
    go_ret3
    exact ⟨fun k => absurd rfl k, fun _ => rfl, WnV.below H.out HB1.out⟩
  · have HC : Hid (∀ w1, Below w.heap.size w w1 → Calls Tryz.prog 27 #[.pointer (some ⟨G.fp, 0, none⟩), .int .i64 (i : Int), .int .i64 (j : Int)] w1 (FoUn w1 G.fp G.f ge G.g.Lv i j)) :=
      fun w1 hb => fo_until w1 G.fp G.f ge G.g.Lv F (h.below hb).fo he.fo i j hil hjl hij
    have HIJ := Lib.hid hij
    clear h he hi hj hil hjl hij
    by_cases hr : Rch (Lnk ge G.g.Lv) i j
    · have HR := Lib.hid hr
      clear hr
      go_enter Tryz.func10, Tryz.ntmps10
      go_upto_region 4 with (go_at_call 26; refine HE.out.mono ?_; rintro e w1 ⟨rfl, hb⟩; have HB1 := Lib.hid hb; clear hb)
      have c7 := (H.out.below HB1.out).c7
      have HC2 := Lib.hid (HC.out w1 HB1.out)
      go_wp2_with (go_at_call 27; refine HC2.out.mono ?_; rintro e w2 hu; obtain ⟨ex, rfl, hx⟩ := hu.yes HR.out; have HX := Lib.hid hx; have HST := Lib.hid (WnV.trans H.out HB1.out hu.st); clear hu hx)
      go_ret3
      exact ⟨fun _ _ => ⟨ex, rfl, HX.out⟩, fun k => by rcases k with k | k; exact absurd k HIJ.out; exact absurd HR.out k, HST.out⟩
    · have HR := Lib.hid hr
      clear hr
      go_enter Tryz.func10, Tryz.ntmps10
      go_upto_region 4 with (go_at_call 26; refine HE.out.mono ?_; rintro e w1 ⟨rfl, hb⟩; have HB1 := Lib.hid hb; clear hb)
      have c7 := (H.out.below HB1.out).c7
      have HC2 := Lib.hid (HC.out w1 HB1.out)
      go_wp2_with (go_at_call 27; refine HC2.out.mono ?_; rintro e w2 hu; obtain rfl := hu.no HR.out; have HST := Lib.hid (WnV.trans H.out HB1.out hu.st); clear hu)
      go_ret3
      exact ⟨fun _ k => absurd k HR.out, fun _ => rfl, HST.out⟩
set_option maxHeartbeats 1000000 in
theorem wn_until_no (w : World) (b : Nat) (G : WnG) (h : WnM w b G) (u v : Nat) (hn : (gix G.g.LvT G.g.D u).isSome = false ∨ (gix G.g.LvT G.g.D v).isSome = false) :
    Calls Tryz.prog 10 #[.pointer (some ⟨b, 0, none⟩), .int .u64 (u : Int), .int .u64 (v : Int)] w (WnRt w b G (.tuple #[.int .i64 0, .bool false, .int .i64 13])) := by
  have H := Lib.hid h
  have HE := Lib.hid (wn_ends_no w b G h u v hn)
  clear h hn
  go_enter Tryz.func10, Tryz.ntmps10
  go_wp2_with (go_at_call 26; refine HE.out.mono ?_; rintro e w1 ⟨rfl, hb⟩; have HB1 := Lib.hid hb; clear hb)
  go_ret3
  exact ⟨rfl, WnV.below H.out HB1.out⟩
end Go.Proofs.YtlooaipipmiijaaGreat

namespace Go.Proofs.YtlooaipipmiijaaGreat
set_option linter.unusedVariables false
set_option linter.unusedSimpArgs false
open Go.RowKit
structure WnCy (w : World) (G : WnG) (all : List Rcd) (e : Ending) (w' : World) : Prop where
  ex : ∃ c G', e = .returned (.pointer (some ⟨c, 0, none⟩)) ∧ WnM w' c G' ∧ WnL G' all ∧ CfgE G G' ∧ G'.now = G.now ∧ G'.add = G.add ∧ (∀ k, G'.foot c k → w.heap.size ≤ k)
  bel : Below w.heap.size w w'
structure WpS (w W : World) (c : Nat) (vs : List Value) : Prop where
  box : Blk W c 56 vs
  bel : Below w.heap.size w W
  cc : w.heap.size ≤ c
theorem WpS.up {w W W1 : World} {c : Nat} {vs : List Value} (h : WpS w W c vs) (hb : Below W.heap.size W W1) : WpS w W1 c vs :=
  ⟨h.box.below hb h.box.lt, bel_next h.bel hb, h.cc⟩
theorem WpS.set {w W : World} {c : Nat} {vs : List Value} (h : WpS w W c vs) (j : Nat) (v : Value) : WpS w (W.setCell ⟨c, j, none⟩ v) c (vs.set j v) :=
  ⟨h.box.set j v, h.bel.setCell h.cc v, h.cc⟩
theorem WpS.mod {w W : World} {c : Nat} {vs : List Value} (h : WpS w W c vs) (j : Nat) (v : Value) : Mod (fun x => x = c) W (W.setCell ⟨c, j, none⟩ v) := (Mod.refl (fun x => x = c) W).setCell ⟨c, j, none⟩ (fun _ => rfl) v
theorem WpS.new {w : World} {vs : List Value} : WpS w (w.alloc (.cells vs.toArray 56)) w.heap.size vs := ⟨Blk.new w _ vs, bel_alloc w _, Nat.le_refl _⟩
def SgI (sp : Nat) (g : SG) (lo hi : Nat) (W : World) : Prop := StM W sp g ∧ (∀ k, g.foot sp k → lo ≤ k ∧ k < hi) ∧ hi ≤ W.heap.size
def EgI (ep E : Nat) (Q : List Ent) (qp : Nat) (qg : HG) (lo hi : Nat) (W : World) : Prop := EObj W ep E Q qp qg ∧ (∀ k, (k = ep ∨ qg.foot k) → lo ≤ k ∧ k < hi) ∧ hi ≤ W.heap.size
def FgI (fp : Nat) (f : FoG) (lo hi : Nat) (W : World) : Prop := FoM W fp f ∧ (∀ k, f.foot fp k → lo ≤ k ∧ k < hi) ∧ hi ≤ W.heap.size
theorem wn_copied {w W : World} {G : WnG} {all : List Rcd} {c cp sp ep fp qp z1 z2 z3 z4 : Nat} {g' : SG} {qg : HG} {f' : FoG} (hl : WnL G all) {ge : Nat → GE} {F : Nat → Prop} (he : WnE G ge F) (hb : WpS w W c [.int .i64 G.W, .int .i64 (G.E : Int), .int .i64 (G.V : Int), .int .i64 G.D, .pointer (some ⟨cp, 0, none⟩), .pointer (some ⟨sp, 0, none⟩), .pointer (some ⟨ep, 0, none⟩), .pointer (some ⟨fp, 0, none⟩), .int .u64 (G.add : Int), .int .u64 (G.exp : Int)])
    (hc : ClkO W cp G.W G.now) (hs : SgI sp g' z1 z2 W) (hq : EgI ep G.E G.Q qp qg z2 z3 W) (hf : FgI fp f' z3 z4 W) (h1 : c < cp ∧ cp < z1) (h2 : z1 ≤ z2 ∧ z2 ≤ z3)
    (hg : StL g') (gs : g'.V = G.g.V ∧ g'.E = G.g.E ∧ g'.last = G.g.last ∧ g'.Lv = G.g.Lv ∧ g'.R = G.g.R ∧ g'.LvT = G.g.LvT ∧ g'.D = G.g.D) (hfp : FoP f' ge G.g.Lv F) (fs : f'.V = G.f.V ∧ f'.S = G.f.S ∧ f'.Q = G.f.Q) : WnCy w G all (.returned (.pointer (some ⟨c, 0, none⟩))) W := by
  have hcc := hb.cc
  obtain ⟨g1, g2, g3, g4, g5, g6, g7⟩ := gs
  obtain ⟨f1, f2, f3⟩ := fs
  obtain ⟨G', hG'⟩ : ∃ G' : WnG, G' = ⟨G.W, G.E, G.V, G.D, G.now, cp, sp, ep, qp, fp, g', G.Q, qg, f', G.add, G.exp, fun k => if k = c then 0 else if k < z1 then 1 else if k < z2 then 2 else if k < z3 then 3 else 4⟩ := ⟨_, rfl⟩
  refine ⟨⟨c, G', rfl, ?_, ?_, by rw [hG']; exact ⟨rfl, rfl, rfl, rfl⟩, by rw [hG'], by rw [hG'], ?_⟩, hb.bel⟩
  · refine ⟨by rw [hG']; exact hb.box, by rw [hG']; exact hc, by rw [hG']; exact hs.1, by rw [hG']; exact hq.1, by rw [hG']; exact hf.1, by rw [hG']; exact if_pos rfl, ?_, fun k hk => ?_, fun k hk => ?_, fun k hk => ?_⟩
    · rw [hG']
      show (if cp = c then 0 else if cp < z1 then 1 else if cp < z2 then 2 else if cp < z3 then 3 else 4) = 1
      rw [if_neg (by omega), if_pos (by omega)]
    · rw [hG'] at hk ⊢
      have := hs.2.1 k hk
      have h5 := hs.2.2
      refine ⟨by omega, ?_⟩
      show (if k = c then 0 else if k < z1 then 1 else if k < z2 then 2 else if k < z3 then 3 else 4) = 2
      rw [if_neg (by omega), if_neg (by omega), if_pos (by omega)]
    · rw [hG'] at hk ⊢
      have := hq.2.1 k hk
      show (if k = c then 0 else if k < z1 then 1 else if k < z2 then 2 else if k < z3 then 3 else 4) = 3
      rw [if_neg (by omega), if_neg (by omega), if_neg (by omega), if_pos (by omega)]
    · rw [hG'] at hk ⊢
      have := hf.2.1 k hk
      show (if k = c then 0 else if k < z1 then 1 else if k < z2 then 2 else if k < z3 then 3 else 4) = 4
      rw [if_neg (by omega), if_neg (by omega), if_neg (by omega), if_neg (by omega)]
  · rw [hG']
    refine ⟨⟨ge, F, ⟨hg, g1.trans he.gV, g2.trans he.gE, f1.trans he.fV, f2.trans he.fS, ?_, fun s hs' => ?_, fun s hs' => ?_, g3.trans he.last, he.cfg⟩⟩, hl.q.trans f3.symm, hl.now, fun s hs' => ?_, ?_⟩
    · show FoP f' ge g'.Lv F
      rw [g4]; exact hfp
    · have k : G.g.Lv s := by rw [← g4]; exact hs'
      show (ge s).exp = (g'.R s).ex ∧ (g'.LvT (ge s).a ∧ g'.D (ge s).a = (g'.R s).u) ∧ (g'.LvT (ge s).b ∧ g'.D (ge s).b = (g'.R s).v)
      rw [g5, g6, g7]; exact he.ge s k
    · have k : G.g.Lv s := by rw [← g4]; exact hs'
      show (g'.R s).ex = (g'.R s).t + G.W ∧ (g'.R s).ex ≤ 9223372036854775807
      rw [g5]; exact he.ex s k
    · have k : G.g.Lv s := by rw [← g4]; exact hs'
      show G.now < (g'.R s).ex
      rw [g5]; exact hl.live s k
    · show ∃ ss : List Nat, ss.Nodup ∧ (∀ s, s ∈ ss ↔ g'.Lv s) ∧ all = ss.map (fun s => (g'.R s).rcd)
      rw [g4, g5]; exact hl.all
  · rw [hG']
    rintro k (e | e | e | e | e)
    · omega
    · have e' : k = cp := e
      omega
    · have := hs.2.1 k e; omega
    · have := hq.2.1 k e; omega
    · have := hf.2.1 k e; omega
theorem sgi_mk {w w' : World} {sp : Nat} {g : SG} (h : StM w' sp g) (hf : ∀ k, g.foot sp k → w.heap.size ≤ k) : SgI sp { g with FA := fun k => g.FA k ∧ k < w'.heap.size, FT := fun k => g.FT k ∧ k < w'.heap.size } w.heap.size w'.heap.size w' :=
  ⟨h.tight, fun k hk => ⟨hf k (SG.tight_foot h k hk).2, (SG.tight_foot h k hk).1⟩, Nat.le_refl _⟩
theorem sgi_up {w w' : World} {sp lo hi : Nat} {g : SG} (h : SgI sp g lo hi w) (b : Below w.heap.size w w') : SgI sp g lo hi w' := ⟨h.1.below b, h.2.1, Nat.le_trans h.2.2 b.size⟩
theorem sgi_mod {w : World} {sp lo hi c j : Nat} {g : SG} {v : Value} (h : SgI sp g lo hi w) (hc : c < lo) : SgI sp g lo hi (w.setCell ⟨c, j, none⟩ v) :=
  ⟨h.1.mod ((Mod.refl (fun x => x = c) w).setCell ⟨c, j, none⟩ (fun _ => rfl) v) (fun k hk => by have := h.2.1 k hk; omega), h.2.1, by rw [World.size_setCell]; exact h.2.2⟩
theorem egi_mk {w w' : World} {ep E qp : Nat} {Q : List Ent} {qg : HG} (h : EFresh w ep E Q qp qg w') : EgI ep E Q qp qg w.heap.size w'.heap.size w' :=
  ⟨h.obj, fun k hk => ⟨by rcases hk with e | e; rw [e]; exact h.hs; exact h.foot k e, h.obj.lt k hk.symm⟩, Nat.le_refl _⟩
theorem egi_up {w w' : World} {ep E qp lo hi : Nat} {Q : List Ent} {qg : HG} (h : EgI ep E Q qp qg lo hi w) (b : Below w.heap.size w w') : EgI ep E Q qp qg lo hi w' := ⟨h.1.below b, h.2.1, Nat.le_trans h.2.2 b.size⟩
theorem egi_mod {w : World} {ep E qp lo hi c j : Nat} {Q : List Ent} {qg : HG} {v : Value} (h : EgI ep E Q qp qg lo hi w) (hc : c < lo) : EgI ep E Q qp qg lo hi (w.setCell ⟨c, j, none⟩ v) :=
  ⟨h.1.mod ((Mod.refl (fun x => x = c) w).setCell ⟨c, j, none⟩ (fun _ => rfl) v) (fun k hk => by have := h.2.1 k (.inr hk); omega) (by have := h.2.1 _ (.inl rfl); omega), h.2.1, by rw [World.size_setCell]; exact h.2.2⟩
theorem fgi_mk {w w' : World} {fp : Nat} {f : FoG} (h : FoM w' fp f) (hf : ∀ k, f.foot fp k → w.heap.size ≤ k) : FgI fp f w.heap.size w'.heap.size w' :=
  ⟨h, fun k hk => ⟨hf k hk, h.foot_lt k hk⟩, Nat.le_refl _⟩
theorem fgi_mod {w : World} {fp lo hi c j : Nat} {f : FoG} {v : Value} (h : FgI fp f lo hi w) (hc : c < lo) : FgI fp f lo hi (w.setCell ⟨c, j, none⟩ v) :=
  ⟨h.1.mod ((Mod.refl (fun x => x = c) w).setCell ⟨c, j, none⟩ (fun _ => rfl) v) (fun k hk => by have := h.2.1 k hk; omega), h.2.1, by rw [World.size_setCell]; exact h.2.2⟩
set_option maxHeartbeats 2000000 in
set_option maxRecDepth 100000 in
theorem wn_copy (w : World) (b : Nat) (G : WnG) (all : List Rcd) (h : WnM w b G) (hl : WnL G all) : Calls Tryz.prog 11 #[.pointer (some ⟨b, 0, none⟩)] w (WnCy w G all) := by
  have H := Lib.hid h
  have HL := Lib.hid hl
  obtain ⟨ge, F, he⟩ := hl.ed
  have HE := Lib.hid he
  have HV := Lib.hid (wn_valid b G.cp w h.c4)
  have HP0 := Lib.hid (WpS.new (w := w) (vs := [.int .i64 G.W, .int .i64 (G.E : Int), .int .i64 (G.V : Int), .int .i64 G.D, .pointer (some ⟨G.cp, 0, none⟩), .pointer (some ⟨G.sp, 0, none⟩), .pointer (some ⟨G.ep, 0, none⟩), .pointer (some ⟨G.fp, 0, none⟩), .int .u64 (G.add : Int), .int .u64 (G.exp : Int)]))
  have c0 := h.c0
  have c1 := h.c1
  have c2 := h.c2
  have c3 := h.c3
  have c4 := h.c4
  have c5 := h.c5
  have c6 := h.c6
  have c7 := h.c7
  have c8 := h.c8
  have c9 := h.c9
  clear h hl he
  go_enter Tryz.func11, Tryz.ntmps11
  go_upto_region 4 with (go_at_call 18; refine HV.out.mono ?_; rintro e w' ⟨rfl, rfl⟩)
  clear c0 c1 c2 c3 c4 c5 c6 c7 c8 c9 HV
  have HB0 := Lib.hid HP0.out.bel
  have HS0 : Hid ((w.alloc (.cells #[.int .i64 G.W, .int .i64 (G.E : Int), .int .i64 (G.V : Int), .int .i64 G.D, .pointer (some ⟨G.cp, 0, none⟩), .pointer (some ⟨G.sp, 0, none⟩), .pointer (some ⟨G.ep, 0, none⟩), .pointer (some ⟨G.fp, 0, none⟩), .int .u64 (G.add : Int), .int .u64 (G.exp : Int)] 56)).heap.size = w.heap.size + 1) := by show _ = _; simp
  generalize hW0 : w.alloc (.cells #[.int .i64 G.W, .int .i64 (G.E : Int), .int .i64 (G.V : Int), .int .i64 G.D, .pointer (some ⟨G.cp, 0, none⟩), .pointer (some ⟨G.sp, 0, none⟩), .pointer (some ⟨G.ep, 0, none⟩), .pointer (some ⟨G.fp, 0, none⟩), .int .u64 (G.add : Int), .int .u64 (G.exp : Int)] 56) = W0 at *
  generalize hcc : w.heap.size = c at *
  clear hW0
  have H0 := Lib.hid (H.out.below (by rw [hcc]; exact HB0.out))
  have c4 := H0.out.c4
  have HCC := Lib.hid (clk_copy W0 G.cp G.W G.now H0.out.clk)
  go_upto_region 5 with (go_at_call 28; refine HCC.out.mono ?_; rintro e w1 ⟨⟨cp, rfl, hco, hcs⟩, hb⟩; have HP1 := Lib.hid (HP0.out.up hb); have HCO := Lib.hid hco; have HCS := Lib.hid hcs; have HB1 := Lib.hid hb; have d4 := HP1.out.box.cell (i := 4) rfl; have f4 := HP1.out.box.free 4; clear hco hcs hb)
  clear c4 d4 f4
  have HP2 : Hid (WpS w (w1.setCell ⟨c, 4, none⟩ (.pointer (some ⟨cp, 0, none⟩))) c [.int .i64 G.W, .int .i64 (G.E : Int), .int .i64 (G.V : Int), .int .i64 G.D, .pointer (some ⟨cp, 0, none⟩), .pointer (some ⟨G.sp, 0, none⟩), .pointer (some ⟨G.ep, 0, none⟩), .pointer (some ⟨G.fp, 0, none⟩), .int .u64 (G.add : Int), .int .u64 (G.exp : Int)]) := Lib.hid (HP1.out.set 4 _)
  have HM1 := Lib.hid (HP1.out.mod 4 (.pointer (some ⟨cp, 0, none⟩)))
  have HK2 := Lib.hid (HCO.out.mod HM1.out (by have := HS0.out; have := HCS.out; omega))
  have HZ1 : Hid (c < cp ∧ cp < w1.heap.size) := by show _ ∧ _; have := HS0.out; have := HCS.out; have := HCO.out.box.lt; omega
  have HS2 : Hid ((w1.setCell ⟨c, 4, none⟩ (.pointer (some ⟨cp, 0, none⟩))).heap.size = w1.heap.size) := World.size_setCell _ _ _
  generalize hW2 : w1.setCell ⟨c, 4, none⟩ (.pointer (some ⟨cp, 0, none⟩)) = W2 at *
  clear hW2 HM1 HP1 HB1 HCO HCC HP0 HB0 H0 HS0 HCS
  have H2 := Lib.hid (H.out.below (by rw [hcc]; have := HP2.out.bel; rwa [hcc] at this))
  have c5 := H2.out.c5
  have HSC := Lib.hid (st_copy W2 G.sp G.g H2.out.sto HE.out.stl)
  go_upto_region 6 with (go_at_call 29; refine HSC.out.mono ?_; rintro e w3 hpo; obtain ⟨sp, g', he, hsm, hsl, q1, q2, q3, q4, q5, q6, q7, q8, q9, hsf, hss⟩ := hpo.ex; subst he; have hb := hpo.bel; have HP3 := Lib.hid (HP2.out.up hb); have HSI := Lib.hid (sgi_mk hsm hsf); have HSL := Lib.hid (hsl.tight (fun k => g'.FA k ∧ k < w3.heap.size) (fun k => g'.FT k ∧ k < w3.heap.size)); have HSE : Hid (g'.V = G.g.V ∧ g'.E = G.g.E ∧ g'.last = G.g.last ∧ g'.Lv = G.g.Lv ∧ g'.R = G.g.R ∧ g'.LvT = G.g.LvT ∧ g'.D = G.g.D) := ⟨q1, q2, q3, q4, q5, q6, q7⟩; have HB3 := Lib.hid hb; have d5 := HP3.out.box.cell (i := 5) rfl; have f5 := HP3.out.box.free 5; clear hsm hsl hsf hss hb hpo q1 q2 q3 q4 q5 q6 q7 q8 q9)
  clear c5 d5 f5
  have HP4 : Hid (WpS w (w3.setCell ⟨c, 5, none⟩ (.pointer (some ⟨sp, 0, none⟩))) c [.int .i64 G.W, .int .i64 (G.E : Int), .int .i64 (G.V : Int), .int .i64 G.D, .pointer (some ⟨cp, 0, none⟩), .pointer (some ⟨sp, 0, none⟩), .pointer (some ⟨G.ep, 0, none⟩), .pointer (some ⟨G.fp, 0, none⟩), .int .u64 (G.add : Int), .int .u64 (G.exp : Int)]) := Lib.hid (HP3.out.set 5 _)
  have HM3 := Lib.hid (HP3.out.mod 5 (.pointer (some ⟨sp, 0, none⟩)))
  have HK4 := Lib.hid ((HK2.out.below HB3.out).mod HM3.out (by have := HZ1.out; omega))
  have HI4 : Hid (SgI sp { g' with FA := fun k => g'.FA k ∧ k < w3.heap.size, FT := fun k => g'.FT k ∧ k < w3.heap.size } W2.heap.size w3.heap.size (w3.setCell ⟨c, 5, none⟩ (.pointer (some ⟨sp, 0, none⟩)))) := sgi_mod HSI.out (by have := HS2.out; have := HZ1.out; omega)
  have HZ3 : Hid (W2.heap.size ≤ w3.heap.size) := HB3.out.size
  have HS4 : Hid ((w3.setCell ⟨c, 5, none⟩ (.pointer (some ⟨sp, 0, none⟩))).heap.size = w3.heap.size) := World.size_setCell _ _ _
  generalize hW4 : w3.setCell ⟨c, 5, none⟩ (.pointer (some ⟨sp, 0, none⟩)) = W4 at *
  clear hW4 HM3 HP3 HB3 HSC HP2 H2 HK2 HSI
  have H4 := Lib.hid (H.out.below (by rw [hcc]; have := HP4.out.bel; rwa [hcc] at this))
  have c6 := H4.out.c6
  have HEC := Lib.hid (ecopy_ok W4 G.ep G.E G.Q G.qp G.qg H4.out.sch)
  go_upto_region 7 with (go_at_call 30; refine HEC.out.mono ?_; rintro e w5 hpo; obtain ⟨ep, qp, qg, hef, he⟩ := hpo.out; subst he; have HP5 := Lib.hid (HP4.out.up hef.bel); have HEI := Lib.hid (egi_mk hef); have HB5 := Lib.hid hef.bel; have d6 := HP5.out.box.cell (i := 6) rfl; have f6 := HP5.out.box.free 6; clear hef hpo)
  clear c6 d6 f6
  have HP6 : Hid (WpS w (w5.setCell ⟨c, 6, none⟩ (.pointer (some ⟨ep, 0, none⟩))) c [.int .i64 G.W, .int .i64 (G.E : Int), .int .i64 (G.V : Int), .int .i64 G.D, .pointer (some ⟨cp, 0, none⟩), .pointer (some ⟨sp, 0, none⟩), .pointer (some ⟨ep, 0, none⟩), .pointer (some ⟨G.fp, 0, none⟩), .int .u64 (G.add : Int), .int .u64 (G.exp : Int)]) := Lib.hid (HP5.out.set 6 _)
  have HM5 := Lib.hid (HP5.out.mod 6 (.pointer (some ⟨ep, 0, none⟩)))
  have HK6 := Lib.hid ((HK4.out.below HB5.out).mod HM5.out (by have := HZ1.out; omega))
  have HI6 := Lib.hid (sgi_mod (j := 6) (v := .pointer (some ⟨ep, 0, none⟩)) (c := c) (sgi_up HI4.out HB5.out) (by have := HS2.out; have := HZ1.out; omega))
  have HE6 : Hid (EgI ep G.E G.Q qp qg W4.heap.size w5.heap.size (w5.setCell ⟨c, 6, none⟩ (.pointer (some ⟨ep, 0, none⟩)))) := egi_mod HEI.out (by have := HS2.out; have := HZ1.out; have := HZ3.out; have := HS4.out; omega)
  have HZ5 : Hid (W4.heap.size ≤ w5.heap.size) := HB5.out.size
  have HS6 : Hid ((w5.setCell ⟨c, 6, none⟩ (.pointer (some ⟨ep, 0, none⟩))).heap.size = w5.heap.size) := World.size_setCell _ _ _
  generalize hW6 : w5.setCell ⟨c, 6, none⟩ (.pointer (some ⟨ep, 0, none⟩)) = W6 at *
  clear hW6 HM5 HP5 HB5 HEC HP4 H4 HK4 HI4 HEI
  have H6 := Lib.hid (H.out.below (by rw [hcc]; have := HP6.out.bel; rwa [hcc] at this))
  have c7 := H6.out.c7
  have HFC := Lib.hid (fo_copy W6 G.fp G.f ge G.g.Lv F H6.out.fo HE.out.fo)
  go_upto_region 8 with (go_at_call 31; refine HFC.out.mono ?_; rintro e w7 hpo; obtain ⟨fp, f', he, hfm, hfp, r1, r2, r3, hff, _⟩ := hpo.ex; subst he; have hb := hpo.bel; have HP7 := Lib.hid (HP6.out.up hb); have HFI := Lib.hid (fgi_mk hfm hff); have HFP := Lib.hid hfp; have HFE : Hid (f'.V = G.f.V ∧ f'.S = G.f.S ∧ f'.Q = G.f.Q) := ⟨r1, r2, r3⟩; have HB7 := Lib.hid hb; have d7 := HP7.out.box.cell (i := 7) rfl; have f7 := HP7.out.box.free 7; clear hfm hfp hff r1 r2 r3 hb hpo)
  clear c7 d7 f7
  have HP8 : Hid (WpS w (w7.setCell ⟨c, 7, none⟩ (.pointer (some ⟨fp, 0, none⟩))) c [.int .i64 G.W, .int .i64 (G.E : Int), .int .i64 (G.V : Int), .int .i64 G.D, .pointer (some ⟨cp, 0, none⟩), .pointer (some ⟨sp, 0, none⟩), .pointer (some ⟨ep, 0, none⟩), .pointer (some ⟨fp, 0, none⟩), .int .u64 (G.add : Int), .int .u64 (G.exp : Int)]) := Lib.hid (HP7.out.set 7 _)
  have HM7 := Lib.hid (HP7.out.mod 7 (.pointer (some ⟨fp, 0, none⟩)))
  have HK8 := Lib.hid ((HK6.out.below HB7.out).mod HM7.out (by have := HZ1.out; omega))
  have HI8 := Lib.hid (sgi_mod (j := 7) (v := .pointer (some ⟨fp, 0, none⟩)) (c := c) (sgi_up HI6.out HB7.out) (by have := HS2.out; have := HZ1.out; omega))
  have HE8 := Lib.hid (egi_mod (j := 7) (v := .pointer (some ⟨fp, 0, none⟩)) (c := c) (egi_up HE6.out HB7.out) (by have := HS2.out; have := HZ1.out; have := HZ3.out; have := HS4.out; omega))
  have HF8 := Lib.hid (fgi_mod (j := 7) (v := .pointer (some ⟨fp, 0, none⟩)) (c := c) HFI.out (by have := HS2.out; have := HZ1.out; have := HZ3.out; have := HS4.out; have := HS6.out; have := HZ5.out; omega))
  rw [HS4.out] at HE8
  rw [HS6.out] at HF8
  have HFIN := Lib.hid (wn_copied HL.out HE.out HP8.out HK8.out HI8.out HE8.out HF8.out (by have := HS2.out; rw [this]; exact HZ1.out) ⟨HZ3.out, by have := HS4.out; have := HZ5.out; omega⟩ HSL.out HSE.out HFP.out HFE.out)
  go_wp2_with fail
  go_ret
  exact HFIN.out
end Go.Proofs.YtlooaipipmiijaaGreat

namespace Go.Proofs.YtlooaipipmiijaaGreat
set_option linter.unusedVariables false
set_option linter.unusedSimpArgs false
open Go.RowKit
structure WlB (T : TypeId) (w : World) (b : Nat) (G : WnG) (z : Nat) (cs : List Value) (Gk : WnG) (W : World) : Prop where
  st : WnS b G w Gk W
  bz : Blk W z T cs
  nz : ¬ Gk.foot b z
  zs : w.heap.size ≤ z
theorem WlB.start {T : TypeId} {w W : World} {b : Nat} {G Gk : WnG} (h : WnS b G w Gk W) (cs : List Value) : WlB T w b G W.heap.size cs Gk (W.alloc (.cells cs.toArray T)) :=
  ⟨h.below (bel_alloc W _), Blk.new W _ cs, fun e => by have := h.mem.foot_lt _ e; omega, h.mod.size⟩
theorem WlB.below {T : TypeId} {w W W1 : World} {b z : Nat} {G Gk : WnG} {cs : List Value} (h : WlB T w b G z cs Gk W) (hb : Below W.heap.size W W1) : WlB T w b G z cs Gk W1 := ⟨h.st.below hb, h.bz.below hb h.bz.lt, h.nz, h.zs⟩
theorem WlB.drew {T : TypeId} {w W : World} {b z : Nat} {G Gk : WnG} {cs : List Value} (h : WlB T w b G z cs Gk W) : WlB T w b G z cs Gk W.drew := h.below ((Below.refl _ _).drew)
theorem WlB.step {T : TypeId} {w W W1 : World} {b z : Nat} {G Gk G2 : WnG} {cs : List Value} (h : WlB T w b G z cs Gk W) (k : WnS b Gk W G2 W1) : WlB T w b G z cs G2 W1 :=
  ⟨h.st.trans k, (k.box h.bz h.nz).1, (k.box h.bz h.nz).2, h.zs⟩
structure WnIn (w : World) (b : Nat) (G : WnG) (all : List Rcd) (r : Rcd) (e : Ending) (w' : World) : Prop where
  val : e = .returned (.tuple #[])
  out : ∃ G', WnS b G w G' w' ∧ CfgE G G' ∧ G'.now = G.now ∧ G'.add = G.add + 1 ∧ WnL G' (all ++ [r])
theorem WlB.alloc {T : TypeId} {w W : World} {b z : Nat} {G Gk : WnG} {cs : List Value} (h : WlB T w b G z cs Gk W) (o : Obj) : WlB T w b G z cs Gk (W.alloc o) := h.below (bel_alloc W o)
def WlZ (w : World) (b : Nat) (G : WnG) (z u v : Nat) (wt t : Int) (W : World) : Prop :=
  ∃ Gk, WlB 33 w b G z [.int .u64 (u : Int), .int .u64 (v : Int), .int .i64 wt, .int .i64 t] Gk W ∧ Gk.cp = G.cp ∧ Gk.sp = G.sp ∧ Gk.ep = G.ep ∧ Gk.fp = G.fp ∧ Gk.W = G.W ∧ Gk.now = G.now
theorem WlZ.mk {w W : World} {b z u v : Nat} {wt t : Int} {G : WnG} (h : WlB 33 w b G z [.int .u64 (u : Int), .int .u64 (v : Int), .int .i64 wt, .int .i64 t] G W) : WlZ w b G z u v wt t W := ⟨G, h, rfl, rfl, rfl, rfl, rfl, rfl⟩
theorem WlZ.below {w W W1 : World} {b z u v : Nat} {wt t : Int} {G : WnG} (h : WlZ w b G z u v wt t W) (hb : Below W.heap.size W W1) : WlZ w b G z u v wt t W1 := by
  obtain ⟨Gk, h1, h2⟩ := h
  exact ⟨Gk, h1.below hb, h2⟩
theorem WlZ.keep {w W : World} {b z u v : Nat} {wt t : Int} {G : WnG} (h : WlZ w b G z u v wt t W) :
    W.cell? ⟨b, 4, none⟩ = some (.pointer (some ⟨G.cp, 0, none⟩)) ∧ W.cell? ⟨b, 5, none⟩ = some (.pointer (some ⟨G.sp, 0, none⟩)) ∧ W.cell? ⟨b, 6, none⟩ = some (.pointer (some ⟨G.ep, 0, none⟩)) ∧ W.cell? ⟨b, 7, none⟩ = some (.pointer (some ⟨G.fp, 0, none⟩)) ∧ W.cell? ⟨z, 0, none⟩ = some (.int .u64 (u : Int)) ∧ W.cell? ⟨z, 1, none⟩ = some (.int .u64 (v : Int)) ∧ W.cell? ⟨z, 2, none⟩ = some (.int .i64 wt) ∧ W.cell? ⟨z, 3, none⟩ = some (.int .i64 t) ∧ WlZ w b G z u v wt t W := by
  have h0 := h
  obtain ⟨Gk, h1, h2, h3, h4, h5, _⟩ := h
  rw [← h2, ← h3, ← h4, ← h5]
  refine ⟨h1.st.mem.c4, h1.st.mem.c5, h1.st.mem.c6, h1.st.mem.c7, h1.bz.cell (i := 0) rfl, h1.bz.cell (i := 1) rfl, h1.bz.cell (i := 2) rfl, h1.bz.cell (i := 3) rfl, h0⟩
theorem StIn.lit {w : World} {b : Nat} {g : SG} {u v : Nat} {wt t ex : Int} {e : Ending} {w' : World} (h : StIn w b g u v wt t ex e w') : ∃ g' slot, slot < g.E ∧ ¬ g.Lv slot ∧ e = .returned (.tuple #[.agg #[.int .i64 (slot : Int), .int .u64 ((g.last + 1 : Nat) : Int), .int .u64 (u : Int), .int .u64 (v : Int), .int .i64 wt, .int .i64 t, .int .i64 ex], .int .i64 0]) ∧ StS b g w g' w' ∧ StL g' ∧ g'.V = g.V ∧ g'.E = g.E ∧ g'.last = g.last + 1 ∧ g'.Lv = (fun x => g.Lv x ∨ x = slot) ∧ (∀ s, g.Lv s → g'.R s = g.R s) ∧ g'.R slot = ⟨slot, g.last + 1, u, v, wt, t, ex⟩ ∧
    ∀ i, g.LvT i → g'.LvT i ∧ g'.D i = g.D i := h.ex
structure WiP (w : World) (b : Nat) (G : WnG) (z u v : Nat) (wt t x : Int) (W : World) (slot : Nat) (G2 : WnG) (e : Ending) (W' : World) : Prop where
  val : e = .returned (.tuple #[.agg #[.int .i64 (slot : Int), .int .u64 ((G.g.last + 1 : Nat) : Int), .int .u64 (u : Int), .int .u64 (v : Int), .int .i64 wt, .int .i64 t, .int .i64 x], .int .i64 0])
  st : WnS b G W G2 W'
  bx : WlB 33 w b G z [.int .u64 (u : Int), .int .u64 (v : Int), .int .i64 wt, .int .i64 t] G2 W'
  sl : slot < G.g.E ∧ ¬ G.g.Lv slot
  gs : StL G2.g ∧ G2.g.V = G.g.V ∧ G2.g.E = G.g.E ∧ G2.g.last = G.g.last + 1 ∧ G2.g.Lv = (fun x => G.g.Lv x ∨ x = slot) ∧ (∀ s, G.g.Lv s → G2.g.R s = G.g.R s) ∧ G2.g.R slot = ⟨slot, G.g.last + 1, u, v, wt, t, x⟩ ∧ ∀ i, G.g.LvT i → G2.g.LvT i ∧ G2.g.D i = G.g.D i
  same : G2.W = G.W ∧ G2.E = G.E ∧ G2.V = G.V ∧ G2.D = G.D ∧ G2.now = G.now ∧ G2.cp = G.cp ∧ G2.sp = G.sp ∧ G2.ep = G.ep ∧ G2.qp = G.qp ∧ G2.fp = G.fp ∧ G2.Q = G.Q ∧ G2.qg = G.qg ∧ G2.f = G.f ∧ G2.add = G.add
theorem wi_box {w2 w5 : World} {b : Nat} {G G2 : WnG} (h : WnM w2 b G) (hst : WnS b G (w2.alloc (.cells #[.int .i64 0, .int .u64 0, .int .u64 0, .int .u64 0, .int .i64 0, .int .i64 0, .int .i64 0] 63)).drew G2 w5) : Blk w5 w2.heap.size 63 [.int .i64 0, .int .u64 0, .int .u64 0, .int .u64 0, .int .i64 0, .int .i64 0, .int .i64 0] ∧ ¬ G2.foot b w2.heap.size := by
  have hb : Blk (w2.alloc (.cells #[.int .i64 0, .int .u64 0, .int .u64 0, .int .u64 0, .int .i64 0, .int .i64 0, .int .i64 0] 63)) w2.heap.size 63 [.int .i64 0, .int .u64 0, .int .u64 0, .int .u64 0, .int .i64 0, .int .i64 0, .int .i64 0] := Blk.new w2 _ [.int .i64 0, .int .u64 0, .int .u64 0, .int .u64 0, .int .i64 0, .int .i64 0, .int .i64 0]
  have hb2 : Blk (w2.alloc (.cells #[.int .i64 0, .int .u64 0, .int .u64 0, .int .u64 0, .int .i64 0, .int .i64 0, .int .i64 0] 63)).drew w2.heap.size 63 [.int .i64 0, .int .u64 0, .int .u64 0, .int .u64 0, .int .i64 0, .int .i64 0, .int .i64 0] := hb
  have hn : ¬ G.foot b w2.heap.size := fun e => absurd (h.foot_lt _ e) (Nat.lt_irrefl _)
  exact hst.box hb2 hn
theorem wi_insert {w W : World} {b z u v : Nat} {wt t x : Int} {G : WnG} (h : WlB 33 w b G z [.int .u64 (u : Int), .int .u64 (v : Int), .int .i64 wt, .int .i64 t] G W) (hl : StL G.g) (hu : u < 18446744073709551616) (hv : v < 18446744073709551616) (hla : G.g.last + 1 < 18446744073709551616) (hck : stChk G.g u v = 0) :
    Calls Tryz.prog 49 #[.pointer (some ⟨G.sp, 0, none⟩), .agg #[.int .u64 u, .int .u64 v, .int .i64 wt, .int .i64 t], .int .i64 x] W (fun e W' => ∃ slot G2, WiP w b G z u v wt t x W slot G2 e W') := by
  refine (st_insert W G.sp G.g h.st.mem.sto hl u v wt t x hu hv hla hck).mono ?_
  intro e W' hp
  obtain ⟨g', slot, h1, h2, h3, h4, h5, h6, h7, h8, h9, h10, h11, h12⟩ := hp.lit
  have k := h.st.mem.sSto h4
  exact ⟨slot, _, h3, k, h.step k, ⟨h1, h2⟩, ⟨h5.tight _ _, h6, h7, h8, h9, h10, h11, h12⟩, rfl, rfl, rfl, rfl, rfl, rfl, rfl, rfl, rfl, rfl, rfl, rfl, rfl, rfl⟩
theorem WlB.sets {T : TypeId} {w W : World} {b z : Nat} {G Gk : WnG} {cs : List Value} (h : WlB T w b G z cs Gk W) {q : Nat} (hq : ¬ Gk.foot b q) (hz : q ≠ z) (hw : w.heap.size ≤ q) (vs : List Value) (o : Nat) : WlB T w b G z cs Gk (W.setCells q o vs) := by
  have m : Mod (fun x => x = q) W (W.setCells q o vs) := Mod.setCells vs o (Mod.refl _ W) (fun _ => rfl)
  refine ⟨⟨h.st.mem.mod m (fun k hk e => hq (by rw [← show k = q from e]; exact hk)), h.st.mod.trans m (fun x hx e => by have e' : x = q := e; omega), h.st.ft⟩, h.bz.mod m (fun e => hz e.symm), h.nz, h.zs⟩
theorem WiP.wlz {w W W' W2 : World} {b z u v slot : Nat} {wt t x : Int} {G G2 : WnG} {e : Ending} (h : WiP w b G z u v wt t x W slot G2 e W') (k : WlB 33 w b G z [.int .u64 (u : Int), .int .u64 (v : Int), .int .i64 wt, .int .i64 t] G2 W2) : WlZ w b G z u v wt t W2 := by
  obtain ⟨s1, s2, s3, s4, s5, s6, s7, s8, s9, s10, _⟩ := h.same
  exact ⟨G2, k, s6, s7, s8, s10, s1, s5⟩
theorem WiP.setA {w w2 w5 : World} {b z u v slot : Nat} {wt t x : Int} {G G2 : WnG} {e : Ending} {v0 v1 v2 v3 v4 v5 v6 : Value} (hi : WlB 33 w b G z [.int .u64 (u : Int), .int .u64 (v : Int), .int .i64 wt, .int .i64 t] G w2) (h : WiP w b G z u v wt t x (w2.alloc (.cells #[.int .i64 0, .int .u64 0, .int .u64 0, .int .u64 0, .int .i64 0, .int .i64 0, .int .i64 0] 63)).drew slot G2 e w5) :
    WlB 33 w b G z [.int .u64 (u : Int), .int .u64 (v : Int), .int .i64 wt, .int .i64 t] G2 (((((((w5.setCell ⟨w2.heap.size, 0, none⟩ v0).setCell ⟨w2.heap.size, 1, none⟩ v1).setCell ⟨w2.heap.size, 2, none⟩ v2).setCell ⟨w2.heap.size, 3, none⟩ v3).setCell ⟨w2.heap.size, 4, none⟩ v4).setCell ⟨w2.heap.size, 5, none⟩ v5).setCell ⟨w2.heap.size, 6, none⟩ v6) :=
  h.bx.sets (q := w2.heap.size) (wi_box hi.st.mem h.st).2 (by have := hi.bz.lt; omega) (by have := hi.st.mod.size; omega) [_, _, _, _, _, _, _] 0
end Go.Proofs.YtlooaipipmiijaaGreat
