/- Several texts in one: WnP, WnQ, WnR. -/
import Derived.Test.YtlooaipipmiijaaGreatZX36
namespace Go.Proofs.YtlooaipipmiijaaGreat
set_option linter.unusedVariables false
set_option linter.unusedSimpArgs false
def LvR (g : SG) (all : List Rcd) : Prop := ∃ ss : List Nat, ss.Nodup ∧ (∀ s, s ∈ ss ↔ g.Lv s) ∧ all = ss.map (fun s => (g.R s).rcd)
section
variable {g : SG} {all : List Rcd}
theorem LvR.mem (hl : LvR g all) {r : Rcd} : r ∈ all ↔ ∃ s, g.Lv s ∧ (g.R s).rcd = r := by
  obtain ⟨ss, s1, s2, s3⟩ := hl
  rw [s3, List.mem_map]
  exact ⟨fun ⟨s, h1, h2⟩ => ⟨s, (s2 s).1 h1, h2⟩, fun ⟨s, h1, h2⟩ => ⟨s, (s2 s).2 h1, h2⟩⟩
theorem LvR.len (hl : LvR g all) (he : StL g) : cntP g.Lv g.E = all.length := by
  obtain ⟨ss, s1, s2, s3⟩ := hl
  rw [s3, List.length_map]
  exact cnt_names (D := fun s => s) s1 (fun x y _ _ _ _ e => e) fun y => by
    rw [s2]
    exact ⟨fun h => ⟨y, he.lvE y h, h, rfl⟩, fun ⟨x, _, h, e⟩ => e ▸ h⟩
theorem LvR.table (hl : LvR g all) (he : StL g) (x : Nat) : (∃ i, g.LvT i ∧ g.D i = x) ↔ x ∈ idsL all := by
  rw [← he.ids.table, he.ids.known, mem_idsL]
  constructor
  · rintro ⟨s, h1, h2⟩
    exact ⟨_, hl.mem.2 ⟨s, h1, rfl⟩, h2⟩
  · rintro ⟨r, h1, h2⟩
    obtain ⟨s, h3, rfl⟩ := hl.mem.1 h1
    exact ⟨s, h3, h2⟩
theorem LvR.ids (hl : LvR g all) (he : StL g) : cntP g.LvT g.V = (idsL all).length :=
  cnt_names (D := g.D) (nodup_idsL all) (fun x y _ _ hx hy e => he.ids.inj x y hx hy e) fun y => by
    rw [← hl.table he]
    exact ⟨fun ⟨i, h1, h2⟩ => ⟨i, he.ids.lvT i h1, h1, h2⟩, fun ⟨i, _, h1, h2⟩ => ⟨i, h1, h2⟩⟩
theorem LvR.known (hl : LvR g all) (he : StL g) {x : Nat} (h : x ∈ idsL all) : ∃ i, gix g.LvT g.D x = some i ∧ g.LvT i ∧ g.D i = x := by
  obtain ⟨i, h1, h2⟩ := (hl.table he x).2 h
  exact ⟨i, gix_some he.ids.inj h1 h2, h1, h2⟩
theorem LvR.unknown (hl : LvR g all) (he : StL g) {x : Nat} (h : x ∉ idsL all) : (gix g.LvT g.D x).isSome = false := by
  rw [gix_none fun i h1 h2 => h ((hl.table he x).1 ⟨i, h1, h2⟩)]; rfl
theorem LvR.chk (hl : LvR g all) (he : StL g) (r : Rcd) (hn : r.u ≠ r.v) : stChk g r.u r.v = chkL g.E g.V all r := by
  have new : ∀ x, newN g x = if x ∈ idsL all then 0 else 1 := fun x => by
    unfold newN
    by_cases c : x ∈ idsL all
    · obtain ⟨i, h, _⟩ := hl.known he c
      rw [h, if_pos c]; rfl
    · rw [hl.unknown he c, if_neg c]; rfl
  unfold stChk chkL
  rw [if_neg hn, hl.len he, hl.ids he, new, new, idsL_snoc]
  unfold addR
  rw [len_addI, len_addI]
  have e : (if r.v ∈ addI (idsL all) r.u then 0 else 1) = (if r.v ∈ idsL all then 0 else 1 : Nat) := by
    by_cases c : r.v ∈ idsL all
    · rw [if_pos c, if_pos (mem_addI.2 (.inl c))]
    · rw [if_neg c, if_neg]
      intro k
      rcases mem_addI.1 k with k | k
      · exact c k
      · exact hn k.symm
  rw [e]
end
section
variable {G : WnG} {all : List Rcd} {ge : Nat → GE} {F : Nat → Prop}
theorem WnL.lvr (hl : WnL G all) : LvR G.g all := hl.all
theorem WnL.mem (hl : WnL G all) {r : Rcd} : r ∈ all ↔ ∃ s, G.g.Lv s ∧ (G.g.R s).rcd = r := hl.lvr.mem
theorem WnL.times (hl : WnL G all) (he : WnE G ge F) {s : Nat} (hs : G.g.Lv s) : MINT < (G.g.R s).t := by
  have h1 := hl.live s hs
  have h2 := he.ex s hs
  have h3 := hl.now
  have h4 := he.cfg
  unfold MINT
  omega
theorem WnL.len (hl : WnL G all) (he : WnE G ge F) : cntP G.g.Lv G.g.E = all.length := hl.lvr.len he.stl
theorem WnL.table (hl : WnL G all) (he : WnE G ge F) (x : Nat) : (∃ i, G.g.LvT i ∧ G.g.D i = x) ↔ x ∈ idsL all := hl.lvr.table he.stl x
theorem WnL.ids (hl : WnL G all) (he : WnE G ge F) : cntP G.g.LvT G.g.V = (idsL all).length := hl.lvr.ids he.stl
theorem WnL.known (hl : WnL G all) (he : WnE G ge F) {x : Nat} (h : x ∈ idsL all) : ∃ i, gix G.g.LvT G.g.D x = some i ∧ G.g.LvT i ∧ G.g.D i = x := hl.lvr.known he.stl h
theorem WnL.unknown (hl : WnL G all) (he : WnE G ge F) {x : Nat} (h : x ∉ idsL all) : (gix G.g.LvT G.g.D x).isSome = false := hl.lvr.unknown he.stl h
def LvF (G : WnG) (t : Int) (s : Nat) : Prop := G.g.Lv s ∧ t ≤ (G.g.R s).t
theorem WnL.toId (hl : WnL G all) (he : WnE G ge F) {t : Int} {i j : Nat} (hi : G.g.LvT i) (h : Rch (Lnk ge (LvF G t)) i j) : G.g.LvT j ∧ Rch (RL all t) (G.g.D i) (G.g.D j) := by
  induction h with
  | refl => exact ⟨hi, .refl⟩
  | @step a b _ k ih =>
    obtain ⟨s, ⟨h1, h2⟩, k⟩ := k
    obtain ⟨_, ⟨h4, h5⟩, h6, h7⟩ := he.ge s h1
    have hm := hl.mem.2 ⟨s, h1, rfl⟩
    rcases k with ⟨e1, e2⟩ | ⟨e1, e2⟩
    · rw [e1] at h5
      rw [e2] at h6 h7
      exact ⟨h6, ih.2.step ⟨_, hm, h2, .inl ⟨h5.symm, h7.symm⟩⟩⟩
    · rw [e1] at h4 h5
      rw [e2] at h7
      exact ⟨h4, ih.2.step ⟨_, hm, h2, .inr ⟨h5.symm, h7.symm⟩⟩⟩
theorem WnL.toIx (hl : WnL G all) (he : WnE G ge F) {t : Int} {x y : Nat} (h : Rch (RL all t) x y) {i : Nat} (hi : G.g.LvT i) (hx : G.g.D i = x) : ∃ j, G.g.LvT j ∧ G.g.D j = y ∧ Rch (Lnk ge (LvF G t)) i j := by
  induction h with
  | refl => exact ⟨i, hi, hx, .refl⟩
  | @step a b _ k ih =>
    obtain ⟨j, h1, h2, h3⟩ := ih
    obtain ⟨r, hr, ht, k⟩ := k
    obtain ⟨s, hs, rfl⟩ := hl.mem.1 hr
    obtain ⟨_, ⟨h4, h5⟩, h6, h7⟩ := he.ge s hs
    have hinj := he.stl.ids.inj
    rcases k with ⟨e1, e2⟩ | ⟨e1, e2⟩
    · have e : (ge s).a = j := hinj _ _ h4 h1 (by rw [h5, h2]; exact e1)
      exact ⟨_, h6, by rw [h7]; exact e2, h3.step ⟨s, ⟨hs, ht⟩, .inl ⟨e, rfl⟩⟩⟩
    · have e : (ge s).b = j := hinj _ _ h6 h1 (by rw [h7, h2]; exact e2)
      exact ⟨_, h4, by rw [h5]; exact e1, h3.step ⟨s, ⟨hs, ht⟩, .inr ⟨rfl, e⟩⟩⟩
theorem WnL.rch (hl : WnL G all) (he : WnE G ge F) {t : Int} {i j : Nat} (hi : G.g.LvT i) (hj : G.g.LvT j) : Rch (Lnk ge (LvF G t)) i j ↔ Rch (RL all t) (G.g.D i) (G.g.D j) := by
  refine ⟨fun h => (hl.toId he hi h).2, fun h => ?_⟩
  obtain ⟨j', h1, h2, h3⟩ := hl.toIx he h hi rfl
  rw [← he.stl.ids.inj _ _ h1 hj h2]; exact h3
theorem WnL.lvF (hl : WnL G all) (he : WnE G ge F) : ∀ s, G.g.Lv s ↔ LvF G MINT s := fun s => ⟨fun h => ⟨h, Int.le_of_lt (hl.times he h)⟩, fun h => h.1⟩
theorem WnL.lnk (hl : WnL G all) (he : WnE G ge F) {i j : Nat} : Rch (Lnk ge G.g.Lv) i j ↔ Rch (Lnk ge (LvF G MINT)) i j :=
  ⟨fun h => h.mono (Lnk.mono fun s k => (hl.lvF he s).1 k), fun h => h.mono (Lnk.mono fun s k => k.1)⟩
theorem WnL.conn (hl : WnL G all) (he : WnE G ge F) {i j : Nat} (hi : G.g.LvT i) (hj : G.g.LvT j) : Rch (Lnk ge G.g.Lv) i j ↔ G.g.D j ∈ rchL all (G.g.D i) MINT := by
  rw [hl.lnk he, hl.rch he hi hj, mem_rchL]
theorem WnL.size (hl : WnL G all) (he : WnE G ge F) {i : Nat} (hi : G.g.LvT i) : cntP (fun x => Rch (Lnk ge G.g.Lv) i x) G.f.V = (rchL all (G.g.D i) MINT).length :=
  cnt_names (D := G.g.D) (nodup_rchL _ _ _) (fun x y _ _ hx hy e => by
    have h1 := (hl.toId he hi ((hl.lnk he).1 hx)).1
    have h2 := (hl.toId he hi ((hl.lnk he).1 hy)).1
    exact he.stl.ids.inj x y h1 h2 e) fun y => by
    rw [mem_rchL]
    constructor
    · intro h
      obtain ⟨j, h1, h2, h3⟩ := hl.toIx he h hi rfl
      exact ⟨j, he.lt h1, (hl.lnk he).2 h3, h2⟩
    · rintro ⟨j, _, h2, rfl⟩
      exact (hl.toId he hi ((hl.lnk he).1 h2)).2
theorem WnE.ends (he : WnE G ge F) {x y : Nat} (h : Rch (Lnk ge G.g.Lv) x y) : x = y ∨ (G.g.LvT x ∧ G.g.LvT y) := by
  induction h with
  | refl => exact .inl rfl
  | @step a b _ k ih =>
    obtain ⟨s, h1, k⟩ := k
    obtain ⟨_, ⟨h4, _⟩, h6, _⟩ := he.ge s h1
    have hab : G.g.LvT a ∧ G.g.LvT b := by
      rcases k with ⟨e1, e2⟩ | ⟨e1, e2⟩
      · rw [e1] at h4; rw [e2] at h6; exact ⟨h4, h6⟩
      · rw [e2] at h6; rw [e1] at h4; exact ⟨h6, h4⟩
    rcases ih with e | e
    · subst e; exact .inr hab
    · exact .inr ⟨e.1, hab.2⟩
theorem WnL.trees {w : World} {b : Nat} (hm : WnM w b G) (hl : WnL G all) (he : WnE G ge F) : (cntP G.g.LvT G.g.V : Int) - G.f.tr = (treesL all : Int) := by
  have hF : ∀ s, F s → s < G.f.S ∧ (ge s).a < G.f.V ∧ (ge s).b < G.f.V := fun s hs => by
    have := he.fo.ls s (he.fo.FL s hs)
    exact ⟨this.1, this.2.1, this.2.2.1⟩
  have e1 := parts_forest (S := G.f.S) (V := G.f.V) (fun s hs => (hF s hs).2) (he.fo.acyc hm.fo) G.f.S
  have e2 : parts G.f.V (Rch (Lnk ge fun s => F s ∧ s < G.f.S)) = parts G.f.V (Rch (Lnk ge G.g.Lv)) := parts_congr fun u v _ _ =>
    ⟨fun h => h.mono (Lnk.mono fun s k => he.fo.FL s k.1), fun h => (he.fo.span.all h).mono (Lnk.mono fun s k => ⟨k, (hF s k).1⟩)⟩
  have e3 := parts_list (V := G.f.V) (P := G.g.LvT) (R := Rch (Lnk ge G.g.Lv)) (R' := Rch (RL all MINT)) (D := G.g.D) (nodup_idsL all) he.stl.ids.inj (fun x hx => he.lt hx) (fun y => (hl.table he y).symm)
    (fun _ => .refl) (fun _ _ h => h.symm Lnk.sym) (fun _ _ _ h k => h.trans k) (fun _ => .refl) (fun _ _ h => h.symm RL.sym) (fun _ _ _ h k => h.trans k) (fun x y h => he.ends h) (fun x y hx hy => by rw [hl.lnk he, hl.rch he hx hy])
  have e4 : cntP (Lst fun a b => Rch (RL all MINT) ((idsL all).getD a 0) ((idsL all).getD b 0)) (idsL all).length = treesL all := cntP_congr _ fun i _ => by
    constructor
    · intro h k hk c
      rw [mem_rchL] at c
      exact h k hk (c.symm RL.sym)
    · intro h k hk c
      exact h k hk (mem_rchL.2 (c.symm RL.sym))
  rw [e2] at e1
  rw [e4] at e3
  rw [hl.ids he, he.fo.tr]
  omega
theorem WnL.chk (hl : WnL G all) (he : WnE G ge F) (r : Rcd) (hn : r.u ≠ r.v) : stChk G.g r.u r.v = chkL G.E G.V all r := by
  rw [hl.lvr.chk he.stl r hn, he.gE, he.gV]
theorem WnL.best (hl : WnL G all) (he : WnE G ge F) {i j : Nat} (hi : G.g.LvT i) (hj : G.g.LvT j) {ex : Int} (hm : ∃ m, G.g.Lv m ∧ ex = (ge m).exp) (h1 : Rch (Lnk ge fun s => G.g.Lv s ∧ ex ≤ (ge s).exp) i j) (h2 : ¬ Rch (Lnk ge fun s => G.g.Lv s ∧ ex < (ge s).exp) i j) :
    ex = bestL all (G.g.D i) (G.g.D j) + G.W := by
  obtain ⟨m, hm, rfl⟩ := hm
  have ee : ∀ s, G.g.Lv s → (ge s).exp = (G.g.R s).t + G.W := fun s hs => by rw [(he.ge s hs).1, (he.ex s hs).1]
  rw [ee m hm] at h1 h2 ⊢
  have hb : bestL all (G.g.D i) (G.g.D j) = (G.g.R m).t := by
    refine bst_fold all MINT (fun r hr hv => ?_) (Int.le_of_lt (hl.times he hm)) (.inr ⟨_, hl.mem.2 ⟨m, hm, rfl⟩, rfl, ?_⟩)
    · refine Classical.byContradiction fun c => ?_
      rw [mem_rchL, ← hl.rch he hi hj] at hv
      refine h2 (hv.mono (Lnk.mono fun s k => ⟨k.1, ?_⟩))
      rw [ee s k.1]
      have := k.2
      omega
    · rw [mem_rchL, ← hl.rch he hi hj]
      refine h1.mono (Lnk.mono fun s k => ⟨k.1, ?_⟩)
      have h := k.2
      rw [ee s k.1] at h
      show (G.g.R m).t ≤ _
      omega
  rw [hb]
end
end Go.Proofs.YtlooaipipmiijaaGreat

namespace Go.Proofs.YtlooaipipmiijaaGreat
set_option linter.unusedVariables false
set_option linter.unusedSimpArgs false
open Go.RowKit
theorem due_key {G0 : WnG} {all : List Rcd} {ge0 : Nat → GE} {F0 : Nat → Prop} {tt : Int} (h0 : WnL G0 all) (he0 : WnE G0 ge0 F0) (hs : Sorted G0.Q) {L : Nat → Prop} (hL : ∀ s, L s ↔ G0.g.Lv s ∧ ∀ i, i < dueN G0.Q tt → (ent G0.Q i).1 ≠ (s : Int)) : ∀ s, L s ↔ G0.g.Lv s ∧ tt < (G0.g.R s).ex := by
  obtain ⟨hf1, hf2⟩ := due_filter hs tt
  have hn : dueN G0.Q tt = (G0.Q.takeWhile (isDue tt)).length := rfl
  have htake : G0.Q.take (dueN G0.Q tt) = G0.Q.filter (isDue tt) := by
    rw [← hf1, hn]
    exact (List.prefix_iff_eq_take.1 (List.takeWhile_prefix _)).symm
  intro s
  rw [hL s]
  refine and_congr_right fun hs0 => ?_
  have hent := (he0.ent (i := (s : Int)) (k := (G0.g.R s).ex)).2 ⟨s, rfl, hs0, rfl⟩
  rw [← h0.q] at hent
  constructor
  · intro hno
    refine Classical.byContradiction fun c => ?_
    have hd : isDue tt ((s : Int), (G0.g.R s).ex) = true := by unfold isDue; exact decide_eq_true (by show (G0.g.R s).ex ≤ tt; omega)
    have hm : ((s : Int), (G0.g.R s).ex) ∈ G0.Q.take (dueN G0.Q tt) := by rw [htake]; exact List.mem_filter.2 ⟨hent, hd⟩
    obtain ⟨i, hi, hie⟩ := List.getElem_of_mem hm
    rw [List.length_take] at hi
    refine hno i (by omega) ?_
    rw [ent_eq (by omega)]
    rw [List.getElem_take] at hie
    rw [hie]
  · intro hlt i hi hie
    have hil : i < G0.Q.length := by have := dueN_le G0.Q tt; omega
    have hm : ent G0.Q i ∈ G0.Q.take (dueN G0.Q tt) := by
      rw [ent_eq hil]
      exact List.mem_take_iff_getElem.2 ⟨i, by omega, rfl⟩
    rw [htake, List.mem_filter] at hm
    obtain ⟨m1, m2⟩ := hm
    have m3 : ((ent G0.Q i).1, (ent G0.Q i).2) ∈ G0.f.Q := by rw [← h0.q]; exact m1
    obtain ⟨s', k1, k2, k3⟩ := he0.ent.1 m3
    have : s' = s := by omega
    subst this
    unfold isDue at m2
    have := of_decide_eq_true m2
    omega
structure RmP (G0 : WnG) (k : Nat) (g : SG) : Prop where
  stl : StL g
  V : g.V = G0.g.V
  E : g.E = G0.g.E
  Lv : ∀ s, g.Lv s ↔ G0.g.Lv s ∧ ∀ i, i < k → (ent G0.Q i).1 ≠ (s : Int)
  R : ∀ s, g.Lv s → g.R s = G0.g.R s
section
variable {G0 : WnG} {all : List Rcd} {ge : Nat → GE} {F : Nat → Prop} {k : Nat} {g : SG}
theorem RmP.next (h0 : WnL G0 all) (he : WnE G0 ge F) (hn : (G0.Q.map (·.1)).Nodup) (h : RmP G0 k g) (hk : k < G0.Q.length) : ∃ s : Nat, (ent G0.Q k).1 = (s : Int) ∧ g.Lv s := by
  have hm : ((ent G0.Q k).1, (ent G0.Q k).2) ∈ G0.f.Q := by rw [← h0.q, ent_eq hk]; exact List.getElem_mem hk
  obtain ⟨s, h1, h2, h3⟩ := he.ent.1 hm
  refine ⟨s, h1, (h.Lv s).2 ⟨h2, fun i hi e => ?_⟩⟩
  have hlen : (G0.Q.map (·.1)).length = G0.Q.length := List.length_map _
  have e' : (G0.Q.map (·.1))[i]'(by omega) = (G0.Q.map (·.1))[k]'(by omega) := by
    rw [List.getElem_map, List.getElem_map, ← ent_eq (by omega), ← ent_eq hk, e, h1]
  have := (List.getElem_inj hn).1 e'
  omega
theorem RmP.step (h : RmP G0 k g) {s : Nat} (hs : (ent G0.Q k).1 = (s : Int)) {g' : SG} (h1 : StL g') (h2 : g'.V = g.V) (h3 : g'.E = g.E) (h4 : g'.Lv = (fun x => g.Lv x ∧ x ≠ s)) (h5 : ∀ t, t ≠ s → g'.R t = g.R t) : RmP G0 (k + 1) g' := by
  refine ⟨h1, h2.trans h.V, h3.trans h.E, fun t => ?_, fun t ht => ?_⟩
  · rw [h4]
    show g.Lv t ∧ t ≠ s ↔ _
    rw [h.Lv t]
    constructor
    · rintro ⟨⟨a1, a2⟩, a3⟩
      refine ⟨a1, fun i hi => ?_⟩
      by_cases c : i = k
      · rw [c, hs]; omega
      · exact a2 i (by omega)
    · rintro ⟨a1, a2⟩
      refine ⟨⟨a1, fun i hi => a2 i (by omega)⟩, ?_⟩
      have := a2 k (by omega)
      rw [hs] at this
      omega
  · rw [h4] at ht
    rw [h5 t ht.2]; exact h.R t ht.1
theorem RmP.done {tt : Int} (h0 : WnL G0 all) (he : WnE G0 ge F) (hs : Sorted G0.Q) (h : RmP G0 (dueN G0.Q tt) g) (r : Rcd) (hr : r.u ≠ r.v) : stChk g r.u r.v = chkL G0.E G0.V (all.filter fun q => decide (tt < q.t + G0.W)) r := by
  have key := due_key h0 he hs h.Lv
  have hv : LvR g (all.filter fun q => decide (tt < q.t + G0.W)) := by
    obtain ⟨ss, s1, s2, s3⟩ := h0.all
    refine ⟨ss.filter (fun s => decide (tt < (G0.g.R s).ex)), s1.filter _, fun s => ?_, ?_⟩
    · rw [List.mem_filter, s2, decide_eq_true_eq, key s]
    · rw [s3, List.filter_map]
      have e1 : ss.filter ((fun r => decide (tt < r.t + G0.W)) ∘ fun s => (G0.g.R s).rcd) = ss.filter (fun s => decide (tt < (G0.g.R s).ex)) := by
        refine List.filter_congr fun s hs' => ?_
        show decide (tt < (G0.g.R s).t + G0.W) = _
        rw [(he.ex s ((s2 s).1 hs')).1]
      rw [e1]
      refine List.map_congr_left fun s hs' => ?_
      rw [List.mem_filter, s2, decide_eq_true_eq] at hs'
      rw [h.R s ((key s).2 hs')]
  rw [hv.chk h.stl r hr, h.V, h.E, he.gE, he.gV]
theorem none_due {tt : Int} (h0 : WnL G0 all) (he : WnE G0 ge F) (hs : Sorted G0.Q) (h : G0.Q = [] ∨ ∃ x T, G0.Q = x :: T ∧ tt < x.2) : (all.filter fun q => decide (tt < q.t + G0.W)) = all := by
  refine List.filter_eq_self.2 fun r hr => decide_eq_true ?_
  obtain ⟨s, hs1, rfl⟩ := h0.mem.1 hr
  have hent := (he.ent (i := (s : Int)) (k := (G0.g.R s).ex)).2 ⟨s, rfl, hs1, rfl⟩
  rw [← h0.q] at hent
  have hx := (he.ex s hs1).1
  show tt < (G0.g.R s).t + G0.W
  rw [← hx]
  rcases h with h | ⟨x, T, h, hlt⟩
  · rw [h] at hent; cases hent
  · rw [h] at hent hs
    rcases List.mem_cons.1 hent with c | c
    · rw [← c] at hlt; exact hlt
    · have := (List.pairwise_cons.1 hs).1 _ c
      unfold elt at this
      have h2 : x.2 ≤ (G0.g.R s).ex := by
        rcases this with k | k
        · exact Int.le_of_lt k
        · exact Int.le_of_eq k.1
      omega
end
structure RmI (w1 : World) (sp : Nat) (G0 : WnG) (n k : Nat) (v : Value) (g : SG) (W : World) : Prop where
  st : StM W sp g
  ff : ∀ x, g.foot sp x → w1.heap.size ≤ x
  bel : Below w1.heap.size w1 W
  row : W.ownsRow 0 3 1 v n ((G0.Q.take n).map fun e => .int .i64 e.1)
  nf : ∀ x, v.ownBlock = some x → ¬ g.foot sp x
  pl : RmP G0 k g
theorem RmI.step {w1 W W1 : World} {sp n k : Nat} {G0 : WnG} {v : Value} {g g' : SG} (h : RmI w1 sp G0 n k v g W) (k1 : StS sp g W g' W1) (hp : RmP G0 (k + 1) g') : RmI w1 sp G0 n (k + 1) v g' W1 := by
  refine ⟨k1.mem, fun x hx => ?_, h.bel.trans (k1.mod.below h.bel.size h.ff), owns_modL h.row k1.mod h.nf, fun x hx hf => ?_, hp⟩
  · rcases k1.ft x hx with a | a
    · exact h.ff x a
    · have := h.bel.size; omega
  · have := (h.row.lt x hx).2
    rcases k1.ft x hf with a | a
    · exact h.nf x hx a
    · omega
end Go.Proofs.YtlooaipipmiijaaGreat

namespace Go.Proofs.YtlooaipipmiijaaGreat
set_option linter.unusedVariables false
set_option linter.unusedSimpArgs false
open Go.RowKit
theorem ro_keep {w w1 W : World} {b z u v : Nat} {wt t : Int} {G : WnG} (h : Hid (WlB 33 w b G z [.int .u64 (u : Int), .int .u64 (v : Int), .int .i64 wt, .int .i64 t] G w1)) (hb : Below w1.heap.size w1 W) :
    W.cell? ⟨b, 5, none⟩ = some (.pointer (some ⟨G.sp, 0, none⟩)) ∧ W.cell? ⟨b, 6, none⟩ = some (.pointer (some ⟨G.ep, 0, none⟩)) ∧ W.cell? ⟨z, 0, none⟩ = some (.int .u64 (u : Int)) ∧ W.cell? ⟨z, 1, none⟩ = some (.int .u64 (v : Int)) ∧ W.cell? ⟨z, 2, none⟩ = some (.int .i64 wt) ∧ W.cell? ⟨z, 3, none⟩ = some (.int .i64 t) ∧ Below w1.heap.size w1 W := by
  have k := h.out.below hb
  exact ⟨k.st.mem.c5, k.st.mem.c6, k.bz.cell (i := 0) rfl, k.bz.cell (i := 1) rfl, k.bz.cell (i := 2) rfl, k.bz.cell (i := 3) rfl, hb⟩
def BlW (w W : World) : Prop := Below w.heap.size w W
theorem WnM.schNodup {w : World} {b : Nat} {G : WnG} (h : WnM w b G) : (G.Q.map (·.1)).Nodup := (h.sch.obj.perm.map _).nodup_iff.2 h.sch.obj.good.nodup
set_option maxHeartbeats 2000000 in
set_option maxRecDepth 100000 in
theorem wn_room (w : World) (b : Nat) (G : WnG) (all : List Rcd) (h : WnM w b G) (hl : WnL G all) (u v : Nat) (wt t : Int) (hn : u ≠ v) :
    Calls Tryz.prog 20 #[.pointer (some ⟨b, 0, none⟩), .agg #[.int .u64 (u : Int), .int .u64 (v : Int), .int .i64 wt, .int .i64 t]] w (RetB (.int .i64 ((chkL G.E G.V (all.filter fun q => decide (t < q.t + G.W)) ⟨u, v, wt, t⟩ : Nat) : Int)) w) := by
  have H := Lib.hid h
  have HL := Lib.hid hl
  obtain ⟨ge, F, he⟩ := hl.ed
  have HE := Lib.hid he
  have HN := Lib.hid hn
  have HB0 := Lib.hid (WlB.start (T := 33) (WnS.refl h) [.int .u64 (u : Int), .int .u64 (v : Int), .int .i64 wt, .int .i64 t])
  have HBW : Hid (∀ W, Below (w.alloc (.cells #[.int .u64 (u : Int), .int .u64 (v : Int), .int .i64 wt, .int .i64 t] 33)).heap.size (w.alloc (.cells #[.int .u64 (u : Int), .int .u64 (v : Int), .int .i64 wt, .int .i64 t] 33)) W → BlW w W) := fun W k => bel_next (bel_alloc w _) k
  have HSO : Hid (Sorted G.Q) := by show Sorted _; rw [hl.q]; exact h.fo.que.sorted
  have hck := hl.chk he ⟨u, v, wt, t⟩ hn
  obtain ⟨ck, HCK⟩ : ∃ ck : Nat, Hid (stChk G.g u v = ck) := ⟨_, rfl⟩
  have HCA : Hid (chkL G.E G.V all ⟨u, v, wt, t⟩ = ck) := by show _ = _; rw [← hck]; exact HCK.out
  obtain ⟨CH, HCH⟩ : ∃ CH : Nat, Hid (chkL G.E G.V (all.filter fun q => decide (t < q.t + G.W)) ⟨u, v, wt, t⟩ = CH) := ⟨_, rfl⟩
  rw [HCH.out]
  clear h hl he hck hn
  go_enter Tryz.func20, Tryz.ntmps20
  go_upto_region 1 with fail
  simp only [List.toArray] at HB0
  generalize w.alloc (.cells #[.int .u64 (u : Int), .int .u64 (v : Int), .int .i64 wt, .int .i64 t] 33) = w1 at *
  generalize w.heap.size = z at *
  have HC1 : Hid (∀ W, Below w1.heap.size w1 W → Calls Tryz.prog 46 #[.pointer (some ⟨G.sp, 0, none⟩), .agg #[.int .u64 (u : Int), .int .u64 (v : Int), .int .i64 wt, .int .i64 t]] W (RetB (.int .i64 (ck : Int)) W)) := by
    show ∀ W, _
    intro W hb
    have := st_check W G.sp G.g (HB0.out.below hb).st.mem.sto u v wt t
    rw [HCK.out] at this
    exact this
  go_cut [5] (fun s5 wx => s5 = .int .i64 (ck : Int) ∧ Below w1.heap.size w1 wx)
  case first =>
    go_region_held3 (fun w' => w'.cell? ⟨b, 5, none⟩ = some (.pointer (some ⟨G.sp, 0, none⟩)) ∧ w'.cell? ⟨b, 6, none⟩ = some (.pointer (some ⟨G.ep, 0, none⟩)) ∧ w'.cell? ⟨z, 0, none⟩ = some (.int .u64 (u : Int)) ∧ w'.cell? ⟨z, 1, none⟩ = some (.int .u64 (v : Int)) ∧ w'.cell? ⟨z, 2, none⟩ = some (.int .i64 wt) ∧ w'.cell? ⟨z, 3, none⟩ = some (.int .i64 t) ∧ Below w1.heap.size w1 w')
      (((try go_split_ands); refine ro_keep HB0 ?_; first | assumption | exact (Below.refl _ _) | exact (Below.refl _ _).drew | exact (Below.drew (by assumption))))
      ((go_at_call 46; (try go_split_ands); refine (HC1.out _ (by assumption)).mono ?_; rintro e w' ⟨rfl, hb⟩; have hbx := bel_next (by assumption) hb; clear hb))
    all_goals
      go_wp2_with fail
      go_meet
      exact ⟨rfl, by assumption⟩
  case rest =>
    obtain ⟨rfl, hb⟩ := hcut
    have HB2 := Lib.hid (HB0.out.below hb)
    have HBX2 := Lib.hid hb
    clear hb HC1 HB0
    generalize wc = w2 at *
    by_cases hz : ck = 0
    · have HR : Hid (chkL G.E G.V (all.filter fun q => decide (t < q.t + G.W)) ⟨u, v, wt, t⟩ = 0) := chk_mono (by rw [HCA.out]; exact hz) _
      have HR2 : Hid (CH = 0) := HCH.out.symm.trans HR.out
      obtain rfl : CH = 0 := HR2.out
      subst hz
      go_wp2_with fail
      go_ret
      exact ⟨rfl, HBW.out _ HBX2.out⟩
    · have HZ := Lib.hid hz
      have t1 : ((ck : Int) == 0) = false := by rw [beq_eq_false_iff_ne]; omega
      have t2 : decide ((ck : Int) = 0) = false := decide_eq_false (by omega)
      have c6 := HB2.out.st.mem.c6
      rcases hQ : G.Q with _ | ⟨⟨i0, k0⟩, T⟩
      · have HR : Hid (chkL G.E G.V (all.filter fun q => decide (t < q.t + G.W)) ⟨u, v, wt, t⟩ = ck) := by
          show _ = _
          rw [none_due HL.out HE.out HSO.out (.inl hQ)]; exact HCA.out
        obtain rfl : CH = ck := HCH.out.symm.trans HR.out
        have HNX := enext_any w2 G.ep G.E G.Q G.qp G.qg HB2.out.st.mem.sch
        rw [hQ] at HNX
        replace HNX : Hid (Calls Tryz.prog 47 #[.pointer (some ⟨G.ep, 0, none⟩)] w2 (RetB (.tuple #[.agg #[.int .i64 0, .int .i64 0], .bool false]) w2)) := HNX
        go_upto_region 5 with (go_at_call 47; refine HNX.out.mono ?_; rintro e w3 ⟨rfl, hb⟩; have HB3 := Lib.hid hb; clear hb)
        have HB4 := Lib.hid (HBW.out _ (bel_next HBX2.out (bel_next HB3.out (bel_alloc w3 (.cells #[.int .i64 0, .int .i64 0] 99)))))
        go_wp2_with fail
        go_ret
        exact ⟨rfl, HB4.out⟩
      · have HNX := enext_any w2 G.ep G.E G.Q G.qp G.qg HB2.out.st.mem.sch
        rw [hQ] at HNX
        replace HNX : Hid (Calls Tryz.prog 47 #[.pointer (some ⟨G.ep, 0, none⟩)] w2 (RetB (.tuple #[.agg #[.int .i64 i0, .int .i64 k0], .bool true]) w2)) := HNX
        go_upto_region 5 with (go_at_call 47; refine HNX.out.mono ?_; rintro e w3 ⟨rfl, hb⟩; have HB3 := Lib.hid hb; clear hb)
        have HBX4 := Lib.hid (bel_next HBX2.out (bel_next HB3.out (bel_alloc w3 (.cells #[.int .i64 i0, .int .i64 k0] 99))))
        have HB4 := Lib.hid (HB2.out.below (bel_next HB3.out (bel_alloc w3 (.cells #[.int .i64 i0, .int .i64 k0] 99))))
        have HBQ := Lib.hid (Blk.new w3 99 [.int .i64 i0, .int .i64 k0])
        simp only [List.toArray] at HBQ
        clear HB3 HNX HBX2 HB2
        generalize w3.alloc (.cells #[.int .i64 i0, .int .i64 k0] 99) = w4 at *
        generalize w3.heap.size = qz at *
        clear c6
        have q1 := HBQ.out.cell (i := 1) rfl
        have z3 := HB4.out.bz.cell (i := 3) rfl
        by_cases hk : t < k0
        · have HR : Hid (chkL G.E G.V (all.filter fun q => decide (t < q.t + G.W)) ⟨u, v, wt, t⟩ = ck) := by
            show _ = _
            rw [none_due HL.out HE.out HSO.out (.inr ⟨_, T, hQ, hk⟩)]; exact HCA.out
          obtain rfl : CH = ck := HCH.out.symm.trans HR.out
          have t3 : decide (t < k0) = true := decide_eq_true hk
          go_wp2_with fail
          go_ret
          exact ⟨rfl, HBW.out _ HBX4.out⟩
        · have t3 : decide (t < k0) = false := decide_eq_false hk
          clear hQ hk
          have c5 := HB4.out.st.mem.c5
          have HSC := Lib.hid (st_copy w4 G.sp G.g HB4.out.st.mem.sto HE.out.stl)
          go_upto_region 8 with (go_at_call 29; refine HSC.out.mono ?_; rintro e w5 hpo; obtain ⟨sp, g', he, hsm, hsl, r1, r2, r3, r4, r5, r6, r7, r8, r9, hsf, hss⟩ := hpo.ex; subst he; have HB5 := Lib.hid hpo.bel; have HSM := Lib.hid hsm.tight; have HSF : Hid (∀ k, ({ g' with FA := fun k => g'.FA k ∧ k < w5.heap.size, FT := fun k => g'.FT k ∧ k < w5.heap.size } : SG).foot sp k → w4.heap.size ≤ k ∧ k < w5.heap.size) := fun k hk => ⟨hsf k (SG.tight_foot hsm k hk).2, (SG.tight_foot hsm k hk).1⟩; have HPL : Hid (RmP G 0 { g' with FA := fun k => g'.FA k ∧ k < w5.heap.size, FT := fun k => g'.FT k ∧ k < w5.heap.size }) := ⟨hsl.tight _ _, r1, r2, fun s => by show g'.Lv s ↔ _; rw [r4]; exact ⟨fun k => ⟨k, fun i hi => absurd hi (Nat.not_lt_zero i)⟩, fun k => k.1⟩, fun s _ => by show g'.R s = _; rw [r5]⟩; clear hsm hsl r1 r2 r3 r4 r5 r6 r7 r8 r9 hsf hss hpo)
          generalize ({ g' with FA := fun k => g'.FA k ∧ k < w5.heap.size, FT := fun k => g'.FT k ∧ k < w5.heap.size } : SG) = g2 at *
          clear c5 HSC q1 z3
          have HB6 := Lib.hid (HB4.out.below HB5.out)
          have HEC : Hid (∀ W, Below w5.heap.size w5 W → Calls Tryz.prog 30 #[.pointer (some ⟨G.ep, 0, none⟩)] W (fun e w' => ∃ s q g, EObj w' s G.E G.Q q g ∧ e = .returned (.pointer (some ⟨s, 0, none⟩)) ∧ Below w5.heap.size w5 w' ∧ ∀ k, g.foot k → w5.heap.size ≤ k)) := fun W hb => (ecopy_ok W G.ep G.E G.Q G.qp G.qg (HB6.out.below hb).st.mem.sch).mono fun e w' ⟨s, q, g, hef, he⟩ => ⟨s, q, g, hef.obj, he, bel_next hb hef.bel, fun k hk => Nat.le_trans hb.size (hef.foot k hk)⟩
          go_cut [49, 50, 51] (fun s49 s50 s51 wx => ∃ ao cp, s49 = .slice ao (dueN G.Q t) cp ∧ s50 = .int .i64 (dueN G.Q t : Int) ∧ s51 = .int .i64 0 ∧ Below w5.heap.size w5 wx ∧ wx.ownsRow 0 3 1 (.slice ao (dueN G.Q t) cp) (dueN G.Q t) ((G.Q.take (dueN G.Q t)).map fun e => .int .i64 e.1) ∧ ∀ x, (Value.slice ao (dueN G.Q t) cp).ownBlock = some x → w5.heap.size ≤ x)
          case first =>
            go_region_held3 (fun w' => w'.cell? ⟨b, 5, none⟩ = some (.pointer (some ⟨G.sp, 0, none⟩)) ∧ w'.cell? ⟨b, 6, none⟩ = some (.pointer (some ⟨G.ep, 0, none⟩)) ∧ w'.cell? ⟨z, 0, none⟩ = some (.int .u64 (u : Int)) ∧ w'.cell? ⟨z, 1, none⟩ = some (.int .u64 (v : Int)) ∧ w'.cell? ⟨z, 2, none⟩ = some (.int .i64 wt) ∧ w'.cell? ⟨z, 3, none⟩ = some (.int .i64 t) ∧ Below w5.heap.size w5 w')
              (((try go_split_ands); refine ro_keep HB6 ?_; first | assumption | exact (Below.refl _ _) | exact (Below.refl _ _).drew | exact (Below.drew (by assumption))))
              (first | (go_at_call 30; (try go_split_ands); refine (HEC.out _ (by assumption)).mono ?_; rintro e w6 ⟨ep, qp, qg, hob, rfl, hbx, hff⟩; have HOB := Lib.hid hob; have HFF := Lib.hid hff; have HBX := Lib.hid hbx; clear hob hff) | (go_at_call 23; (try go_split_ands); refine (edue_ok _ _ _ _ _ _ HOB.out _).mono ?_; rintro e w7 hpo; obtain ⟨v7, qg', he, ho, hrow, hmd, hft, hnf⟩ := hpo.out; subst he; obtain ⟨ao, cp, rfl⟩ := owns_slice hrow; have hby := HBX.out.trans (hmd.below HBX.out.size HFF.out); have HRW := Lib.hid hrow; have HNF : Hid (∀ x, (Value.slice ao (dueN G.Q t) cp).ownBlock = some x → w5.heap.size ≤ x) := fun x hx => Nat.le_trans HBX.out.size (hnf x (by cases ao <;> exact hx)).2.2; clear hpo ho hrow hmd hft hnf))
            all_goals
              go_wp2_with fail
              go_meet
              exact ⟨_, _, rfl, rfl, rfl, by assumption, HRW.out, HNF.out⟩
          case rest =>
            obtain ⟨ao, cp, rfl, rfl, rfl, hb, hrow, hnf⟩ := hcut
            have HRI : Hid (RmI w4 sp G (dueN G.Q t) 0 (.slice ao (dueN G.Q t) cp) g2 wc) := ⟨HSM.out.below hb, fun x hx => (HSF.out x hx).1, bel_next HB5.out hb, hrow, fun x hx hf => by have h1 := hnf x hx; have h2 := (HSF.out x hf).2; omega, HPL.out⟩
            clear hb hrow hnf HB6 HEC HSM HSF HPL HB5
            have HDN : Hid (∀ g, RmP G (dueN G.Q t) g → stChk g u v = CH) := fun g hg => (hg.done HL.out HE.out HSO.out ⟨u, v, wt, t⟩ HN.out).trans HCH.out
            have HNL : Hid (dueN G.Q t ≤ G.Q.length) := dueN_le _ _
            have HNB : Hid (dueN G.Q t ≤ 65536) := by
              show _ ≤ _
              have h1 := HNL.out
              have h2 := H.out.sch.obj.good.len
              have h3 := H.out.sch.obj.perm.length_eq
              have h4 := H.out.sch.obj.hs
              have h5 := HE.out.cfg
              omega
            generalize dueN G.Q t = n at *
            generalize wc = w6 at *
            go_wp2_with fail
            go_loopw [51] (fun s51 wr => ∃ (k : Nat) (gk : SG), k ≤ n ∧ s51 = .int .i64 (k : Int) ∧ RmI w4 sp G n k (.slice ao n cp) gk wr) (fun s51 _ => n - (intOf s51).toNat)
            case atStart => exact ⟨0, _, Nat.zero_le _, rfl, HRI.out⟩
            case round =>
              obtain ⟨k, gk, hk, rfl, hri⟩ := hrel
              clear HRI
              have HRI := Lib.hid hri
              clear hri
              by_cases hlt : k < n
              · have t4 : decide ((k : Int) < (n : Int)) = true := decide_eq_true (by omega)
                have t5 : decide (k < n) = true := decide_eq_true hlt
                have hwk : IntKind.i64.wrap ((k : Int) + 1) = (k : Int) + 1 := IntWalk.i64_in _ (by have := HNB.out; omega)
                have hkl : k < G.Q.length := by have := HNL.out; omega
                obtain ⟨s, hs1, hs2⟩ := HRI.out.pl.next HL.out HE.out H.out.schNodup hkl
                obtain ⟨g3, cap3, hv3, _, _, hg3, hc3, _⟩ := owns_form HRI.out.row (by omega)
                injection hv3 with q1 _ q3
                subst q1 q3
                have cl : wr.cell? ⟨g3, k, none⟩ = some (.int .i64 (s : Int)) := by
                  rw [hc3 k (by omega), List.getElem?_map, List.getElem?_take, if_pos hlt]
                  rw [List.getElem?_eq_getElem hkl, ← ent_eq hkl]
                  show some (Value.int .i64 (ent G.Q k).1) = _
                  rw [hs1]
                have ti2 : (k : Int) < (n : Int) := by omega
                have HS1 := Lib.hid hs1
                have HKN := Lib.hid hlt
                have HRM := Lib.hid (st_remove wr sp gk HRI.out.st HRI.out.pl.stl s hs2)
                clear hs1 hs2 hc3 hg3 hlt hkl
                go_wp2_with (go_at_call 25; refine HRM.out.mono ?_; rintro e w7 hpo; obtain ⟨g', he, hst, hsl, hgV, hgE, hgl, hgLv, hgR, hgT⟩ := hpo.ex; subst he; have HRI2 := Lib.hid (HRI.out.step hst (HRI.out.pl.step HS1.out hsl hgV hgE hgLv hgR)); clear hst hsl hgV hgE hgl hgLv hgR hgT hpo)
                go_roundw
                case rel => exact ⟨k + 1, _, HKN.out, by go_num, HRI2.out⟩
                case measure => have := HKN.out; simp [intOf]; omega
              · have t4 : decide ((k : Int) < (n : Int)) = false := decide_eq_false (by omega)
                have t5 : decide (k < n) = false := decide_eq_false hlt
                obtain rfl : k = n := by omega
                have hbz := HB4.out.bz.below HRI.out.bel HB4.out.bz.lt
                have z0 := hbz.cell (i := 0) rfl
                have z1 := hbz.cell (i := 1) rfl
                have z2 := hbz.cell (i := 2) rfl
                have z3 := hbz.cell (i := 3) rfl
                have HCF := st_check wr sp gk HRI.out.st u v wt t
                rw [HDN.out gk HRI.out.pl] at HCF
                replace HCF := Lib.hid HCF
                have HBF : Hid (Below w1.heap.size w1 wr) := Lib.hid (bel_next HBX4.out HRI.out.bel)
                clear hbz
                go_wp2_with (go_at_call 46; refine HCF.out.mono ?_; rintro e w7 ⟨rfl, hb⟩; have HB7 := Lib.hid (HBW.out _ (bel_next HBF.out hb)); clear hb)
                go_ret
                exact ⟨rfl, HB7.out⟩
end Go.Proofs.YtlooaipipmiijaaGreat
