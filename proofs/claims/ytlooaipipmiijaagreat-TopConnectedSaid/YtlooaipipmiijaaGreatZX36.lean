/- Several texts in one: WnK, WnL, WnM, WnN. -/
import Derived.Test.YtlooaipipmiijaaGreatZX35
namespace Go.Proofs.YtlooaipipmiijaaGreat
set_option linter.unusedVariables false
set_option linter.unusedSimpArgs false
open Go.RowKit
structure WnCy (w : World) (G : WnG) (all : List Rcd) (e : Ending) (w' : World) : Prop where
  ex : ∃ c G', e = .returned (.pointer (some ⟨c, 0, none⟩)) ∧ WnM w' c G' ∧ WnL G' all ∧ CfgE G G' ∧ G'.now = G.now ∧ G'.add = G.add ∧ (∀ k, G'.foot c k → w.heap.size ≤ k)
  bel : Below w.heap.size w w'
structure WpS (w W : World) (c : Nat) (vs : List Value) : Prop where
  box : Blk W c 56 vs
  bel : Below w.heap.size w W
  cc : w.heap.size ≤ c
theorem WpS.up {w W W1 : World} {c : Nat} {vs : List Value} (h : WpS w W c vs) (hb : Below W.heap.size W W1) : WpS w W1 c vs :=
  ⟨h.box.below hb h.box.lt, bel_next h.bel hb, h.cc⟩
theorem WpS.set {w W : World} {c : Nat} {vs : List Value} (h : WpS w W c vs) (j : Nat) (v : Value) : WpS w (W.setCell ⟨c, j, none⟩ v) c (vs.set j v) :=
  ⟨h.box.set j v, h.bel.setCell h.cc v, h.cc⟩
def SgI (sp : Nat) (g : SG) (lo hi : Nat) (W : World) : Prop := StM W sp g ∧ (∀ k, g.foot sp k → lo ≤ k ∧ k < hi) ∧ hi ≤ W.heap.size
def EgI (ep E : Nat) (Q : List Ent) (qp : Nat) (qg : HG) (lo hi : Nat) (W : World) : Prop := EObj W ep E Q qp qg ∧ (∀ k, (k = ep ∨ qg.foot k) → lo ≤ k ∧ k < hi) ∧ hi ≤ W.heap.size
def FgI (fp : Nat) (f : FoG) (lo hi : Nat) (W : World) : Prop := FoM W fp f ∧ (∀ k, f.foot fp k → lo ≤ k ∧ k < hi) ∧ hi ≤ W.heap.size
theorem wn_copied {w W : World} {G : WnG} {all : List Rcd} {c cp sp ep fp qp z1 z2 z3 z4 : Nat} {g' : SG} {qg : HG} {f' : FoG} (hl : WnL G all) {ge : Nat → GE} {F : Nat → Prop} (he : WnE G ge F) (hb : WpS w W c [.int .i64 G.W, .int .i64 (G.E : Int), .int .i64 (G.V : Int), .int .i64 G.D, .pointer (some ⟨cp, 0, none⟩), .pointer (some ⟨sp, 0, none⟩), .pointer (some ⟨ep, 0, none⟩), .pointer (some ⟨fp, 0, none⟩), .int .u64 (G.add : Int), .int .u64 (G.exp : Int)])
    (hc : ClkO W cp G.W G.now) (hs : SgI sp g' z1 z2 W) (hq : EgI ep G.E G.Q qp qg z2 z3 W) (hf : FgI fp f' z3 z4 W) (h1 : c < cp ∧ cp < z1) (h2 : z1 ≤ z2 ∧ z2 ≤ z3)
    (hg : StL g') (gs : g'.V = G.g.V ∧ g'.E = G.g.E ∧ g'.last = G.g.last ∧ g'.Lv = G.g.Lv ∧ g'.R = G.g.R ∧ g'.LvT = G.g.LvT ∧ g'.D = G.g.D) (hfp : FoP f' ge G.g.Lv F) (fs : f'.V = G.f.V ∧ f'.S = G.f.S ∧ f'.Q = G.f.Q) : WnCy w G all (.returned (.pointer (some ⟨c, 0, none⟩))) W := by
  have hcc := hb.cc
  obtain ⟨g1, g2, g3, g4, g5, g6, g7⟩ := gs
  obtain ⟨f1, f2, f3⟩ := fs
  obtain ⟨G', hG'⟩ : ∃ G' : WnG, G' = ⟨G.W, G.E, G.V, G.D, G.now, cp, sp, ep, qp, fp, g', G.Q, qg, f', G.add, G.exp, fun k => if k = c then 0 else if k < z1 then 1 else if k < z2 then 2 else if k < z3 then 3 else 4⟩ := ⟨_, rfl⟩
  refine ⟨⟨c, G', rfl, ?_, ?_, by rw [hG']; exact ⟨rfl, rfl, rfl, rfl⟩, by rw [hG'], by rw [hG'], ?_⟩, hb.bel⟩
  · refine ⟨by rw [hG']; exact hb.box, by rw [hG']; exact hc, by rw [hG']; exact hs.1, by rw [hG']; exact hq.1, by rw [hG']; exact hf.1, by rw [hG']; exact if_pos rfl, ?_, fun k hk => ?_, fun k hk => ?_, fun k hk => ?_⟩
    · rw [hG']
      show (if cp = c then 0 else if cp < z1 then 1 else if cp < z2 then 2 else if cp < z3 then 3 else 4) = 1
      rw [if_neg (by omega), if_pos (by omega)]
    · rw [hG'] at hk ⊢
      have := hs.2.1 k hk
      have h5 := hs.2.2
      refine ⟨by omega, ?_⟩
      show (if k = c then 0 else if k < z1 then 1 else if k < z2 then 2 else if k < z3 then 3 else 4) = 2
      rw [if_neg (by omega), if_neg (by omega), if_pos (by omega)]
    · rw [hG'] at hk ⊢
      have := hq.2.1 k hk
      show (if k = c then 0 else if k < z1 then 1 else if k < z2 then 2 else if k < z3 then 3 else 4) = 3
      rw [if_neg (by omega), if_neg (by omega), if_neg (by omega), if_pos (by omega)]
    · rw [hG'] at hk ⊢
      have := hf.2.1 k hk
      show (if k = c then 0 else if k < z1 then 1 else if k < z2 then 2 else if k < z3 then 3 else 4) = 4
      rw [if_neg (by omega), if_neg (by omega), if_neg (by omega), if_neg (by omega)]
  · rw [hG']
    refine ⟨⟨ge, F, ⟨hg, g1.trans he.gV, g2.trans he.gE, f1.trans he.fV, f2.trans he.fS, ?_, fun s hs' => ?_, fun s hs' => ?_, g3.trans he.last, he.cfg⟩⟩, hl.q.trans f3.symm, hl.now, fun s hs' => ?_, ?_⟩
    · show FoP f' ge g'.Lv F
      rw [g4]; exact hfp
    · have k : G.g.Lv s := by rw [← g4]; exact hs'
      show (ge s).exp = (g'.R s).ex ∧ (g'.LvT (ge s).a ∧ g'.D (ge s).a = (g'.R s).u) ∧ (g'.LvT (ge s).b ∧ g'.D (ge s).b = (g'.R s).v)
      rw [g5, g6, g7]; exact he.ge s k
    · have k : G.g.Lv s := by rw [← g4]; exact hs'
      show (g'.R s).ex = (g'.R s).t + G.W ∧ (g'.R s).ex ≤ 9223372036854775807
      rw [g5]; exact he.ex s k
    · have k : G.g.Lv s := by rw [← g4]; exact hs'
      show G.now < (g'.R s).ex
      rw [g5]; exact hl.live s k
    · show ∃ ss : List Nat, ss.Nodup ∧ (∀ s, s ∈ ss ↔ g'.Lv s) ∧ all = ss.map (fun s => (g'.R s).rcd)
      rw [g4, g5]; exact hl.all
  · rw [hG']
    rintro k (e | e | e | e | e)
    · omega
    · have e' : k = cp := e
      omega
    · have := hs.2.1 k e; omega
    · have := hq.2.1 k e; omega
    · have := hf.2.1 k e; omega
theorem sgi_mk {w w' : World} {sp : Nat} {g : SG} (h : StM w' sp g) (hf : ∀ k, g.foot sp k → w.heap.size ≤ k) : SgI sp { g with FA := fun k => g.FA k ∧ k < w'.heap.size, FT := fun k => g.FT k ∧ k < w'.heap.size } w.heap.size w'.heap.size w' :=
  ⟨h.tight, fun k hk => ⟨hf k (SG.tight_foot h k hk).2, (SG.tight_foot h k hk).1⟩, Nat.le_refl _⟩
theorem sgi_up {w w' : World} {sp lo hi : Nat} {g : SG} (h : SgI sp g lo hi w) (b : Below w.heap.size w w') : SgI sp g lo hi w' := ⟨h.1.below b, h.2.1, Nat.le_trans h.2.2 b.size⟩
theorem sgi_mod {w : World} {sp lo hi c j : Nat} {g : SG} {v : Value} (h : SgI sp g lo hi w) (hc : c < lo) : SgI sp g lo hi (w.setCell ⟨c, j, none⟩ v) :=
  ⟨h.1.mod ((Mod.refl (fun x => x = c) w).setCell ⟨c, j, none⟩ (fun _ => rfl) v) (fun k hk => by have := h.2.1 k hk; omega), h.2.1, by rw [World.size_setCell]; exact h.2.2⟩
theorem egi_mk {w w' : World} {ep E qp : Nat} {Q : List Ent} {qg : HG} (h : EFresh w ep E Q qp qg w') : EgI ep E Q qp qg w.heap.size w'.heap.size w' :=
  ⟨h.obj, fun k hk => ⟨by rcases hk with e | e; rw [e]; exact h.hs; exact h.foot k e, h.obj.lt k hk.symm⟩, Nat.le_refl _⟩
theorem egi_up {w w' : World} {ep E qp lo hi : Nat} {Q : List Ent} {qg : HG} (h : EgI ep E Q qp qg lo hi w) (b : Below w.heap.size w w') : EgI ep E Q qp qg lo hi w' := ⟨h.1.below b, h.2.1, Nat.le_trans h.2.2 b.size⟩
theorem egi_mod {w : World} {ep E qp lo hi c j : Nat} {Q : List Ent} {qg : HG} {v : Value} (h : EgI ep E Q qp qg lo hi w) (hc : c < lo) : EgI ep E Q qp qg lo hi (w.setCell ⟨c, j, none⟩ v) :=
  ⟨h.1.mod ((Mod.refl (fun x => x = c) w).setCell ⟨c, j, none⟩ (fun _ => rfl) v) (fun k hk => by have := h.2.1 k (.inr hk); omega) (by have := h.2.1 _ (.inl rfl); omega), h.2.1, by rw [World.size_setCell]; exact h.2.2⟩
theorem fgi_mk {w w' : World} {fp : Nat} {f : FoG} (h : FoM w' fp f) (hf : ∀ k, f.foot fp k → w.heap.size ≤ k) : FgI fp f w.heap.size w'.heap.size w' :=
  ⟨h, fun k hk => ⟨hf k hk, h.foot_lt k hk⟩, Nat.le_refl _⟩
theorem fgi_mod {w : World} {fp lo hi c j : Nat} {f : FoG} {v : Value} (h : FgI fp f lo hi w) (hc : c < lo) : FgI fp f lo hi (w.setCell ⟨c, j, none⟩ v) :=
  ⟨h.1.mod ((Mod.refl (fun x => x = c) w).setCell ⟨c, j, none⟩ (fun _ => rfl) v) (fun k hk => by have := h.2.1 k hk; omega), h.2.1, by rw [World.size_setCell]; exact h.2.2⟩
end Go.Proofs.YtlooaipipmiijaaGreat

namespace Go.Proofs.YtlooaipipmiijaaGreat
set_option linter.unusedVariables false
set_option linter.unusedSimpArgs false
open Go.RowKit
structure WlB (T : TypeId) (w : World) (b : Nat) (G : WnG) (z : Nat) (cs : List Value) (Gk : WnG) (W : World) : Prop where
  st : WnS b G w Gk W
  bz : Blk W z T cs
  nz : ¬ Gk.foot b z
  zs : w.heap.size ≤ z
theorem WlB.start {T : TypeId} {w W : World} {b : Nat} {G Gk : WnG} (h : WnS b G w Gk W) (cs : List Value) : WlB T w b G W.heap.size cs Gk (W.alloc (.cells cs.toArray T)) :=
  ⟨h.below (bel_alloc W _), Blk.new W _ cs, fun e => by have := h.mem.foot_lt _ e; omega, h.mod.size⟩
theorem WlB.below {T : TypeId} {w W W1 : World} {b z : Nat} {G Gk : WnG} {cs : List Value} (h : WlB T w b G z cs Gk W) (hb : Below W.heap.size W W1) : WlB T w b G z cs Gk W1 := ⟨h.st.below hb, h.bz.below hb h.bz.lt, h.nz, h.zs⟩
theorem WlB.drew {T : TypeId} {w W : World} {b z : Nat} {G Gk : WnG} {cs : List Value} (h : WlB T w b G z cs Gk W) : WlB T w b G z cs Gk W.drew := h.below ((Below.refl _ _).drew)
theorem WlB.step {T : TypeId} {w W W1 : World} {b z : Nat} {G Gk G2 : WnG} {cs : List Value} (h : WlB T w b G z cs Gk W) (k : WnS b Gk W G2 W1) : WlB T w b G z cs G2 W1 :=
  ⟨h.st.trans k, (k.box h.bz h.nz).1, (k.box h.bz h.nz).2, h.zs⟩
structure WnIn (w : World) (b : Nat) (G : WnG) (all : List Rcd) (r : Rcd) (e : Ending) (w' : World) : Prop where
  val : e = .returned (.tuple #[])
  out : ∃ G', WnS b G w G' w' ∧ CfgE G G' ∧ G'.now = G.now ∧ G'.add = G.add + 1 ∧ WnL G' (all ++ [r])
theorem WlB.alloc {T : TypeId} {w W : World} {b z : Nat} {G Gk : WnG} {cs : List Value} (h : WlB T w b G z cs Gk W) (o : Obj) : WlB T w b G z cs Gk (W.alloc o) := h.below (bel_alloc W o)
def WlZ (w : World) (b : Nat) (G : WnG) (z u v : Nat) (wt t : Int) (W : World) : Prop :=
  ∃ Gk, WlB 33 w b G z [.int .u64 (u : Int), .int .u64 (v : Int), .int .i64 wt, .int .i64 t] Gk W ∧ Gk.cp = G.cp ∧ Gk.sp = G.sp ∧ Gk.ep = G.ep ∧ Gk.fp = G.fp ∧ Gk.W = G.W ∧ Gk.now = G.now
theorem WlZ.mk {w W : World} {b z u v : Nat} {wt t : Int} {G : WnG} (h : WlB 33 w b G z [.int .u64 (u : Int), .int .u64 (v : Int), .int .i64 wt, .int .i64 t] G W) : WlZ w b G z u v wt t W := ⟨G, h, rfl, rfl, rfl, rfl, rfl, rfl⟩
theorem WlZ.below {w W W1 : World} {b z u v : Nat} {wt t : Int} {G : WnG} (h : WlZ w b G z u v wt t W) (hb : Below W.heap.size W W1) : WlZ w b G z u v wt t W1 := by
  obtain ⟨Gk, h1, h2⟩ := h
  exact ⟨Gk, h1.below hb, h2⟩
theorem WlZ.keep {w W : World} {b z u v : Nat} {wt t : Int} {G : WnG} (h : WlZ w b G z u v wt t W) :
    W.cell? ⟨b, 4, none⟩ = some (.pointer (some ⟨G.cp, 0, none⟩)) ∧ W.cell? ⟨b, 5, none⟩ = some (.pointer (some ⟨G.sp, 0, none⟩)) ∧ W.cell? ⟨b, 6, none⟩ = some (.pointer (some ⟨G.ep, 0, none⟩)) ∧ W.cell? ⟨b, 7, none⟩ = some (.pointer (some ⟨G.fp, 0, none⟩)) ∧ W.cell? ⟨z, 0, none⟩ = some (.int .u64 (u : Int)) ∧ W.cell? ⟨z, 1, none⟩ = some (.int .u64 (v : Int)) ∧ W.cell? ⟨z, 2, none⟩ = some (.int .i64 wt) ∧ W.cell? ⟨z, 3, none⟩ = some (.int .i64 t) ∧ WlZ w b G z u v wt t W := by
  have h0 := h
  obtain ⟨Gk, h1, h2, h3, h4, h5, _⟩ := h
  rw [← h2, ← h3, ← h4, ← h5]
  refine ⟨h1.st.mem.c4, h1.st.mem.c5, h1.st.mem.c6, h1.st.mem.c7, h1.bz.cell (i := 0) rfl, h1.bz.cell (i := 1) rfl, h1.bz.cell (i := 2) rfl, h1.bz.cell (i := 3) rfl, h0⟩
theorem StIn.lit {w : World} {b : Nat} {g : SG} {u v : Nat} {wt t ex : Int} {e : Ending} {w' : World} (h : StIn w b g u v wt t ex e w') : ∃ g' slot, slot < g.E ∧ ¬ g.Lv slot ∧ e = .returned (.tuple #[.agg #[.int .i64 (slot : Int), .int .u64 ((g.last + 1 : Nat) : Int), .int .u64 (u : Int), .int .u64 (v : Int), .int .i64 wt, .int .i64 t, .int .i64 ex], .int .i64 0]) ∧ StS b g w g' w' ∧ StL g' ∧ g'.V = g.V ∧ g'.E = g.E ∧ g'.last = g.last + 1 ∧ g'.Lv = (fun x => g.Lv x ∨ x = slot) ∧ (∀ s, g.Lv s → g'.R s = g.R s) ∧ g'.R slot = ⟨slot, g.last + 1, u, v, wt, t, ex⟩ ∧
    ∀ i, g.LvT i → g'.LvT i ∧ g'.D i = g.D i := h.ex
structure WiP (w : World) (b : Nat) (G : WnG) (z u v : Nat) (wt t x : Int) (W : World) (slot : Nat) (G2 : WnG) (e : Ending) (W' : World) : Prop where
  val : e = .returned (.tuple #[.agg #[.int .i64 (slot : Int), .int .u64 ((G.g.last + 1 : Nat) : Int), .int .u64 (u : Int), .int .u64 (v : Int), .int .i64 wt, .int .i64 t, .int .i64 x], .int .i64 0])
  st : WnS b G W G2 W'
  bx : WlB 33 w b G z [.int .u64 (u : Int), .int .u64 (v : Int), .int .i64 wt, .int .i64 t] G2 W'
  sl : slot < G.g.E ∧ ¬ G.g.Lv slot
  gs : StL G2.g ∧ G2.g.V = G.g.V ∧ G2.g.E = G.g.E ∧ G2.g.last = G.g.last + 1 ∧ G2.g.Lv = (fun x => G.g.Lv x ∨ x = slot) ∧ (∀ s, G.g.Lv s → G2.g.R s = G.g.R s) ∧ G2.g.R slot = ⟨slot, G.g.last + 1, u, v, wt, t, x⟩ ∧ ∀ i, G.g.LvT i → G2.g.LvT i ∧ G2.g.D i = G.g.D i
  same : G2.W = G.W ∧ G2.E = G.E ∧ G2.V = G.V ∧ G2.D = G.D ∧ G2.now = G.now ∧ G2.cp = G.cp ∧ G2.sp = G.sp ∧ G2.ep = G.ep ∧ G2.qp = G.qp ∧ G2.fp = G.fp ∧ G2.Q = G.Q ∧ G2.qg = G.qg ∧ G2.f = G.f ∧ G2.add = G.add
theorem wi_box {w2 w5 : World} {b : Nat} {G G2 : WnG} (h : WnM w2 b G) (hst : WnS b G (w2.alloc (.cells #[.int .i64 0, .int .u64 0, .int .u64 0, .int .u64 0, .int .i64 0, .int .i64 0, .int .i64 0] 63)).drew G2 w5) : Blk w5 w2.heap.size 63 [.int .i64 0, .int .u64 0, .int .u64 0, .int .u64 0, .int .i64 0, .int .i64 0, .int .i64 0] ∧ ¬ G2.foot b w2.heap.size := by
  have hb : Blk (w2.alloc (.cells #[.int .i64 0, .int .u64 0, .int .u64 0, .int .u64 0, .int .i64 0, .int .i64 0, .int .i64 0] 63)) w2.heap.size 63 [.int .i64 0, .int .u64 0, .int .u64 0, .int .u64 0, .int .i64 0, .int .i64 0, .int .i64 0] := Blk.new w2 _ [.int .i64 0, .int .u64 0, .int .u64 0, .int .u64 0, .int .i64 0, .int .i64 0, .int .i64 0]
  have hb2 : Blk (w2.alloc (.cells #[.int .i64 0, .int .u64 0, .int .u64 0, .int .u64 0, .int .i64 0, .int .i64 0, .int .i64 0] 63)).drew w2.heap.size 63 [.int .i64 0, .int .u64 0, .int .u64 0, .int .u64 0, .int .i64 0, .int .i64 0, .int .i64 0] := hb
  have hn : ¬ G.foot b w2.heap.size := fun e => absurd (h.foot_lt _ e) (Nat.lt_irrefl _)
  exact hst.box hb2 hn
theorem wi_insert {w W : World} {b z u v : Nat} {wt t x : Int} {G : WnG} (h : WlB 33 w b G z [.int .u64 (u : Int), .int .u64 (v : Int), .int .i64 wt, .int .i64 t] G W) (hl : StL G.g) (hu : u < 18446744073709551616) (hv : v < 18446744073709551616) (hla : G.g.last + 1 < 18446744073709551616) (hck : stChk G.g u v = 0) :
    Calls Tryz.prog 49 #[.pointer (some ⟨G.sp, 0, none⟩), .agg #[.int .u64 u, .int .u64 v, .int .i64 wt, .int .i64 t], .int .i64 x] W (fun e W' => ∃ slot G2, WiP w b G z u v wt t x W slot G2 e W') := by
  refine (st_insert W G.sp G.g h.st.mem.sto hl u v wt t x hu hv hla hck).mono ?_
  intro e W' hp
  obtain ⟨g', slot, h1, h2, h3, h4, h5, h6, h7, h8, h9, h10, h11, h12⟩ := hp.lit
  have k := h.st.mem.sSto h4
  exact ⟨slot, _, h3, k, h.step k, ⟨h1, h2⟩, ⟨h5.tight _ _, h6, h7, h8, h9, h10, h11, h12⟩, rfl, rfl, rfl, rfl, rfl, rfl, rfl, rfl, rfl, rfl, rfl, rfl, rfl, rfl⟩
theorem WlB.sets {T : TypeId} {w W : World} {b z : Nat} {G Gk : WnG} {cs : List Value} (h : WlB T w b G z cs Gk W) {q : Nat} (hq : ¬ Gk.foot b q) (hz : q ≠ z) (hw : w.heap.size ≤ q) (vs : List Value) (o : Nat) : WlB T w b G z cs Gk (W.setCells q o vs) := by
  have m : Mod (fun x => x = q) W (W.setCells q o vs) := Mod.setCells vs o (Mod.refl _ W) (fun _ => rfl)
  refine ⟨⟨h.st.mem.mod m (fun k hk e => hq (by rw [← show k = q from e]; exact hk)), h.st.mod.trans m (fun x hx e => by have e' : x = q := e; omega), h.st.ft⟩, h.bz.mod m (fun e => hz e.symm), h.nz, h.zs⟩
theorem WiP.wlz {w W W' W2 : World} {b z u v slot : Nat} {wt t x : Int} {G G2 : WnG} {e : Ending} (h : WiP w b G z u v wt t x W slot G2 e W') (k : WlB 33 w b G z [.int .u64 (u : Int), .int .u64 (v : Int), .int .i64 wt, .int .i64 t] G2 W2) : WlZ w b G z u v wt t W2 := by
  obtain ⟨s1, s2, s3, s4, s5, s6, s7, s8, s9, s10, _⟩ := h.same
  exact ⟨G2, k, s6, s7, s8, s10, s1, s5⟩
theorem WiP.setA {w w2 w5 : World} {b z u v slot : Nat} {wt t x : Int} {G G2 : WnG} {e : Ending} {v0 v1 v2 v3 v4 v5 v6 : Value} (hi : WlB 33 w b G z [.int .u64 (u : Int), .int .u64 (v : Int), .int .i64 wt, .int .i64 t] G w2) (h : WiP w b G z u v wt t x (w2.alloc (.cells #[.int .i64 0, .int .u64 0, .int .u64 0, .int .u64 0, .int .i64 0, .int .i64 0, .int .i64 0] 63)).drew slot G2 e w5) :
    WlB 33 w b G z [.int .u64 (u : Int), .int .u64 (v : Int), .int .i64 wt, .int .i64 t] G2 (((((((w5.setCell ⟨w2.heap.size, 0, none⟩ v0).setCell ⟨w2.heap.size, 1, none⟩ v1).setCell ⟨w2.heap.size, 2, none⟩ v2).setCell ⟨w2.heap.size, 3, none⟩ v3).setCell ⟨w2.heap.size, 4, none⟩ v4).setCell ⟨w2.heap.size, 5, none⟩ v5).setCell ⟨w2.heap.size, 6, none⟩ v6) :=
  h.bx.sets (q := w2.heap.size) (wi_box hi.st.mem h.st).2 (by have := hi.bz.lt; omega) (by have := hi.st.mod.size; omega) [_, _, _, _, _, _, _] 0
end Go.Proofs.YtlooaipipmiijaaGreat

namespace Go.Proofs.YtlooaipipmiijaaGreat
set_option linter.unusedVariables false
set_option linter.unusedSimpArgs false
open Go.RowKit
theorem wl_insert {G G' : WnG} {all : List Rcd} {ge : Nat → GE} {F F' : Nat → Prop} {f' : FoG} {g' : SG} (hl : WnL G all) (he : WnE G ge F) {slot ia ib u v : Nat} {wt t x : Int} (hs : slot < G.g.E ∧ ¬ G.g.Lv slot)
    (gs : StL g' ∧ g'.V = G.g.V ∧ g'.E = G.g.E ∧ g'.last = G.g.last + 1 ∧ g'.Lv = (fun x => G.g.Lv x ∨ x = slot) ∧ (∀ s, G.g.Lv s → g'.R s = G.g.R s) ∧ g'.R slot = ⟨slot, G.g.last + 1, u, v, wt, t, x⟩ ∧ ∀ i, G.g.LvT i → g'.LvT i ∧ g'.D i = G.g.D i)
    (hf : FoP f' (upF ge slot ⟨ia, ib, x⟩) (fun t => G.g.Lv t ∨ t = slot) F') (fs : f'.V = G.f.V ∧ f'.S = G.f.S ∧ f'.Q = ins ((slot : Int), x) G.f.Q) (hia : g'.LvT ia ∧ g'.D ia = u) (hib : g'.LvT ib ∧ g'.D ib = v) (hx : x = t + G.W ∧ x ≤ 9223372036854775807) (ht : G.now = t)
    (e : G'.g = g' ∧ G'.f = f' ∧ G'.V = G.V ∧ G'.E = G.E ∧ G'.W = G.W ∧ G'.add = G.add + 1 ∧ G'.Q = ins ((slot : Int), x) G.Q ∧ G'.now = G.now) : WnL G' (all ++ [⟨u, v, wt, t⟩]) := by
  obtain ⟨g1, g2, g3, g4, g5, g6, g7, g8⟩ := gs
  obtain ⟨f1, f2, f3⟩ := fs
  obtain ⟨e1, e2, e3, e4, e5, e6, e7, e8⟩ := e
  have hcf := he.cfg
  refine ⟨⟨_, F', he.insert (r := ⟨slot, G.g.last + 1, u, v, wt, t, x⟩) hs.2 hf f1 f2 g1 g2 g3 g5 g6 g7 g8 hia hib hx e1 e2 e3 e4 e5 (by rw [g4, e6, he.last])⟩, by rw [e7, e2, f3, hl.q], by rw [e8]; exact hl.now, fun s k => ?_, ?_⟩
  · rw [e1] at k ⊢
    rw [g5] at k
    rw [e8]
    rcases k with k | k
    · rw [g6 s k]; exact hl.live s k
    · rw [k, g7]
      show G.now < x
      omega
  · obtain ⟨ss, s1, s2, s3⟩ := hl.all
    have hns : slot ∉ ss := fun c => hs.2 ((s2 slot).1 c)
    refine ⟨ss ++ [slot], nodup_snoc s1 hns, fun s => ?_, ?_⟩
    · rw [List.mem_append, List.mem_singleton, s2, e1, g5]
    · rw [List.map_append, s3, e1]
      have e9 : ss.map (fun s => (G.g.R s).rcd) = ss.map fun s => (g'.R s).rcd := List.map_congr_left fun s k => by rw [g6 s ((s2 s).1 k)]
      rw [e9]
      show _ = _ ++ [(g'.R slot).rcd]
      rw [g7]; rfl
structure WlR (w : World) (b : Nat) (G : WnG) (z u v : Nat) (wt t : Int) (q slot : Nat) (cs : List Value) (Gk : WnG) (W : World) : Prop where
  bx : WlB 33 w b G z [.int .u64 (u : Int), .int .u64 (v : Int), .int .i64 wt, .int .i64 t] Gk W
  bq : Blk W q 63 (.int .i64 (slot : Int) :: cs)
  nq : ¬ Gk.foot b q
theorem WlR.below {w W W1 : World} {b z u v q slot : Nat} {wt t : Int} {cs : List Value} {G Gk : WnG} (h : WlR w b G z u v wt t q slot cs Gk W) (hb : Below W.heap.size W W1) : WlR w b G z u v wt t q slot cs Gk W1 := ⟨h.bx.below hb, h.bq.below hb h.bq.lt, h.nq⟩
theorem WlR.step {w W W1 : World} {b z u v q slot : Nat} {wt t : Int} {cs : List Value} {G Gk G2 : WnG} (h : WlR w b G z u v wt t q slot cs Gk W) (k : WnS b Gk W G2 W1) : WlR w b G z u v wt t q slot cs G2 W1 :=
  ⟨h.bx.step k, (k.box h.bq h.nq).1, (k.box h.bq h.nq).2⟩
theorem WlR.keep {w w3 W : World} {b z u v q slot : Nat} {wt t : Int} {cs : List Value} {G Gk : WnG} (h : Hid (WlR w b G z u v wt t q slot cs Gk w3)) (hb : Below w3.heap.size w3 W) :
    W.cell? ⟨b, 4, none⟩ = some (.pointer (some ⟨Gk.cp, 0, none⟩)) ∧ W.cell? ⟨b, 5, none⟩ = some (.pointer (some ⟨Gk.sp, 0, none⟩)) ∧ W.cell? ⟨b, 6, none⟩ = some (.pointer (some ⟨Gk.ep, 0, none⟩)) ∧ W.cell? ⟨b, 7, none⟩ = some (.pointer (some ⟨Gk.fp, 0, none⟩)) ∧ W.cell? ⟨z, 0, none⟩ = some (.int .u64 (u : Int)) ∧ W.cell? ⟨z, 1, none⟩ = some (.int .u64 (v : Int)) ∧ W.cell? ⟨z, 2, none⟩ = some (.int .i64 wt) ∧ W.cell? ⟨z, 3, none⟩ = some (.int .i64 t) ∧ W.cell? ⟨q, 0, none⟩ = some (.int .i64 (slot : Int)) ∧ Below w3.heap.size w3 W := by
  have k := h.out.below hb
  exact ⟨k.bx.st.mem.c4, k.bx.st.mem.c5, k.bx.st.mem.c6, k.bx.st.mem.c7, k.bx.bz.cell (i := 0) rfl, k.bx.bz.cell (i := 1) rfl, k.bx.bz.cell (i := 2) rfl, k.bx.bz.cell (i := 3) rfl, k.bq.cell (i := 0) rfl, hb⟩
theorem WiP.rB {w W w5 : World} {b z u v slot : Nat} {wt t x : Int} {G G2 : WnG} {e : Ending} {cs : List Value} (h : WiP w b G z u v wt t x W slot G2 e w5) :
    WlR w b G z u v wt t w5.heap.size slot cs G2 (w5.alloc (.cells (.int .i64 (slot : Int) :: cs).toArray 63)) :=
  ⟨h.bx.alloc _, Blk.new w5 _ _, fun e => by have := h.bx.st.mem.foot_lt _ e; omega⟩
theorem WiP.rA {w w2 w5 : World} {b z u v slot : Nat} {wt t x : Int} {G G2 : WnG} {e : Ending} {v1 v2 v3 v4 v5 v6 : Value} (hi : WlB 33 w b G z [.int .u64 (u : Int), .int .u64 (v : Int), .int .i64 wt, .int .i64 t] G w2) (h : WiP w b G z u v wt t x (w2.alloc (.cells #[.int .i64 0, .int .u64 0, .int .u64 0, .int .u64 0, .int .i64 0, .int .i64 0, .int .i64 0] 63)).drew slot G2 e w5) :
    WlR w b G z u v wt t w2.heap.size slot [v1, v2, v3, v4, v5, v6] G2 (((((((w5.setCell ⟨w2.heap.size, 0, none⟩ (.int .i64 (slot : Int))).setCell ⟨w2.heap.size, 1, none⟩ v1).setCell ⟨w2.heap.size, 2, none⟩ v2).setCell ⟨w2.heap.size, 3, none⟩ v3).setCell ⟨w2.heap.size, 4, none⟩ v4).setCell ⟨w2.heap.size, 5, none⟩ v5).setCell ⟨w2.heap.size, 6, none⟩ v6) := by
  have hb := wi_box hi.st.mem h.st
  exact ⟨WiP.setA hi h, ((((((hb.1.set 0 (.int .i64 (slot : Int))).set 1 v1).set 2 v2).set 3 v3).set 4 v4).set 5 v5).set 6 v6, hb.2⟩
end Go.Proofs.YtlooaipipmiijaaGreat

namespace Go.Proofs.YtlooaipipmiijaaGreat
set_option linter.unusedVariables false
set_option linter.unusedSimpArgs false
open Go.RowKit
set_option maxHeartbeats 800000 in
set_option maxRecDepth 100000 in
theorem wn_insert (w : World) (b : Nat) (G : WnG) (all : List Rcd) (h : WnM w b G) (hl : WnL G all) (u v : Nat) (wt : Int) (hu : u < 18446744073709551616) (hv : v < 18446744073709551616) (hck : stChk G.g u v = 0) (hex : G.now + G.W ≤ 9223372036854775807) (had : G.add < 1000000) :
    Calls Tryz.prog 21 #[.pointer (some ⟨b, 0, none⟩), .agg #[.int .u64 (u : Int), .int .u64 (v : Int), .int .i64 wt, .int .i64 G.now]] w (WnIn w b G all ⟨u, v, wt, G.now⟩) := by
  have H := Lib.hid h
  have HL := Lib.hid hl
  obtain ⟨ge, F, he⟩ := hl.ed
  have HE := Lib.hid he
  have HU : Hid (u < 18446744073709551616 ∧ v < 18446744073709551616) := ⟨hu, hv⟩
  have HCK := Lib.hid hck
  have HEX : Hid (caddV G.now G.W = G.now + G.W ∧ G.now + G.W ≤ 9223372036854775807) := by
    refine ⟨?_, hex⟩
    have := hl.now
    have := he.cfg
    unfold caddV
    rw [if_pos (by omega)]
  have HAD := Lib.hid had
  have HNW := Lib.hid hl.now
  have HI0 := Lib.hid (WlB.start (T := 33) (WnS.refl h) [.int .u64 (u : Int), .int .u64 (v : Int), .int .i64 wt, .int .i64 G.now])
  generalize htt : G.now = t at *
  clear h hl he hu hv hck hex had
  go_enter Tryz.func21, Tryz.ntmps21
  go_upto_region 1 with fail
  simp only [List.toArray] at HI0
  generalize w.alloc (.cells #[.int .u64 (u : Int), .int .u64 (v : Int), .int .i64 wt, .int .i64 t] 33) = w1 at *
  generalize w.heap.size = z at *
  have HXP : Hid (∀ W, WlZ w b G z u v wt t W → Calls Tryz.prog 48 #[.pointer (some ⟨G.cp, 0, none⟩), .int .i64 t] W (fun e w' => e = .returned (.tuple #[.int .i64 (caddV t G.W), .int .i64 (caddE t G.W)]) ∧ w' = W)) := by
    show ∀ W, _
    rintro W ⟨Gk, h1, h2, h3, h4, h5, h6, h7⟩
    have := clk_expiry W Gk.cp Gk.W Gk.now t h1.st.mem.clk (by have := HNW.out; omega)
    rw [h2, h6] at this
    exact this
  generalize hx : caddV t G.W = x at *
  generalize caddE t G.W = y at *
  have HZ0 := Lib.hid (WlZ.mk HI0.out)
  go_cut [4, 5] (fun s4 s5 wx => s4 = .int .i64 x ∧ s5 = .int .i64 y ∧ WlB 33 w b G z [.int .u64 (u : Int), .int .u64 (v : Int), .int .i64 wt, .int .i64 t] G wx)
  case first =>
    go_region_held3 (fun w' => w'.cell? ⟨b, 4, none⟩ = some (.pointer (some ⟨G.cp, 0, none⟩)) ∧ w'.cell? ⟨b, 5, none⟩ = some (.pointer (some ⟨G.sp, 0, none⟩)) ∧ w'.cell? ⟨b, 6, none⟩ = some (.pointer (some ⟨G.ep, 0, none⟩)) ∧ w'.cell? ⟨b, 7, none⟩ = some (.pointer (some ⟨G.fp, 0, none⟩)) ∧ w'.cell? ⟨z, 0, none⟩ = some (.int .u64 (u : Int)) ∧ w'.cell? ⟨z, 1, none⟩ = some (.int .u64 (v : Int)) ∧ w'.cell? ⟨z, 2, none⟩ = some (.int .i64 wt) ∧ w'.cell? ⟨z, 3, none⟩ = some (.int .i64 t) ∧ WlZ w b G z u v wt t w')
      (((try go_split_ands); refine WlZ.keep ?_; first | with_reducible assumption | with_reducible exact HZ0.out | with_reducible exact WlZ.below HZ0.out ((Below.refl _ _).drew)))
      ((go_at_call 48; (try go_split_ands); refine (HXP.out _ (by assumption)).mono ?_; rintro e w' ⟨rfl, rfl⟩))
    all_goals
      go_wp2_with fail
      go_meet
      exact ⟨rfl, rfl, HI0.out.drew⟩
  case rest =>
    obtain ⟨rfl, rfl, hI⟩ := hcut
    have HI1 := Lib.hid hI
    clear hI
    generalize wc = w2 at *
    clear HZ0 HXP HI0
    go_upto_region 2 with fail
    have HIN : Hid (∀ W, WlB 33 w b G z [.int .u64 (u : Int), .int .u64 (v : Int), .int .i64 wt, .int .i64 t] G W → Calls Tryz.prog 49 #[.pointer (some ⟨G.sp, 0, none⟩), .agg #[.int .u64 u, .int .u64 v, .int .i64 wt, .int .i64 t], .int .i64 x] W (fun e W' => ∃ slot G2, WiP w b G z u v wt t x W slot G2 e W')) :=
      fun W hW => wi_insert hW HE.out.stl HU.out.1 HU.out.2 (by have := HE.out.last; have := HAD.out; omega) HCK.out
    have HZ1 := Lib.hid (WlZ.mk HI1.out)
    go_cut [6, 7] (fun s6 s7 wx => ∃ (q slot : Nat) (cs : List Value) (G2 : WnG), s6 = .pointer (some ⟨q, 0, none⟩) ∧ s7 = .int .i64 0 ∧ WlR w b G z u v wt t q slot cs G2 wx ∧ ∃ W e W', WiP w b G z u v wt t x W slot G2 e W')
    case first =>
      go_region_held3 (fun w' => w'.cell? ⟨b, 4, none⟩ = some (.pointer (some ⟨G.cp, 0, none⟩)) ∧ w'.cell? ⟨b, 5, none⟩ = some (.pointer (some ⟨G.sp, 0, none⟩)) ∧ w'.cell? ⟨b, 6, none⟩ = some (.pointer (some ⟨G.ep, 0, none⟩)) ∧ w'.cell? ⟨b, 7, none⟩ = some (.pointer (some ⟨G.fp, 0, none⟩)) ∧ w'.cell? ⟨z, 0, none⟩ = some (.int .u64 (u : Int)) ∧ w'.cell? ⟨z, 1, none⟩ = some (.int .u64 (v : Int)) ∧ w'.cell? ⟨z, 2, none⟩ = some (.int .i64 wt) ∧ w'.cell? ⟨z, 3, none⟩ = some (.int .i64 t) ∧ WlZ w b G z u v wt t w')
        (((try go_split_ands); refine WlZ.keep ?_; first | with_reducible assumption | with_reducible exact HZ1.out | with_reducible exact HSA.out _ _ _ _ _ _ _ | with_reducible exact WlZ.below HZ1.out ((Below.refl _ _).drew) | with_reducible exact WlZ.below (by with_reducible assumption) (bel_alloc _ _) | with_reducible exact WlZ.below (WlZ.below HZ1.out (bel_alloc _ _)) ((Below.refl _ _).drew)))
        (first | (go_at_call 49; (try go_split_ands); refine (HIN.out _ (by with_reducible exact HI1.out.drew)).mono ?_; rintro e w5 ⟨slot, G2, hpo⟩; have HPB := Lib.hid hpo; obtain ⟨hval, hst, hbx, _, _, hsm⟩ := hpo; subst hval; have hwz : WlZ w b G z u v wt t w5 := ⟨G2, hbx, hsm.2.2.2.2.2.1, hsm.2.2.2.2.2.2.1, hsm.2.2.2.2.2.2.2.1, hsm.2.2.2.2.2.2.2.2.2.1, hsm.1, hsm.2.2.2.2.1⟩;  clear hst hbx hsm) | (go_at_call 49; (try go_split_ands); refine (HIN.out _ (by with_reducible exact (HI1.out.alloc _).drew)).mono ?_; rintro e w5 ⟨slot, G2, hpo⟩; have HPA := Lib.hid hpo; obtain ⟨hval, hst, hbx, _, _, hsm⟩ := hpo; subst hval; have hwz : WlZ w b G z u v wt t w5 := ⟨G2, hbx, hsm.2.2.2.2.2.1, hsm.2.2.2.2.2.2.1, hsm.2.2.2.2.2.2.2.1, hsm.2.2.2.2.2.2.2.2.2.1, hsm.1, hsm.2.2.2.2.1⟩; have BQ := (wi_box HI1.out.st.mem hst).1; have q0 := BQ.cell (i := 0) rfl; have q1 := BQ.cell (i := 1) rfl; have q2 := BQ.cell (i := 2) rfl; have q3 := BQ.cell (i := 3) rfl; have q4 := BQ.cell (i := 4) rfl; have q5 := BQ.cell (i := 5) rfl; have q6 := BQ.cell (i := 6) rfl; have p0 := BQ.free 0; have p1 := BQ.free 1; have p2 := BQ.free 2; have p3 := BQ.free 3; have p4 := BQ.free 4; have p5 := BQ.free 5; have p6 := BQ.free 6; have HSA := Lib.hid (fun v0 v1 v2 v3 v4 v5 v6 => WiP.wlz HPA.out (WiP.setA (v0 := v0) (v1 := v1) (v2 := v2) (v3 := v3) (v4 := v4) (v5 := v5) (v6 := v6) HI1.out HPA.out)); clear hst hbx hsm))
      · go_wp2_with fail
        go_meet
        exact ⟨_, slot, _, G2, rfl, rfl, HPB.out.rB, _, _, _, HPB.out⟩
      · go_wp2_with fail
        go_meet
        exact ⟨_, slot, _, G2, rfl, rfl, HPA.out.rA HI1.out, _, _, _, HPA.out⟩
    case rest =>
      obtain ⟨q, slot, cs, G2, rfl, rfl, hr, _, _, _, hpo⟩ := hcut
      have HR3 := Lib.hid hr
      have HPO := Lib.hid hpo
      clear hr hpo HI1 HIN HZ1
      generalize wc = w3 at *
      go_upto_region 3 with fail
      obtain ⟨ia, HIA⟩ : ∃ i, Hid (G2.g.LvT i ∧ G2.g.D i = u) := by
        obtain ⟨g1, g2, g3, g4, g5, g6, g7, g8⟩ := HPO.out.gs
        exact end_known g1 (s := slot) ⟨by rw [g5]; exact .inr rfl, .inl (by rw [g7])⟩
      obtain ⟨ib, HIB⟩ : ∃ i, Hid (G2.g.LvT i ∧ G2.g.D i = v) := by
        obtain ⟨g1, g2, g3, g4, g5, g6, g7, g8⟩ := HPO.out.gs
        exact end_known g1 (s := slot) ⟨by rw [g5]; exact .inr rfl, .inr (by rw [g7])⟩
      have HIX : Hid (∀ W, Below w3.heap.size w3 W → Calls Tryz.prog 50 #[.pointer (some ⟨G2.sp, 0, none⟩), .int .u64 (u : Int)] W (RetB (.tuple #[.int .i64 (ia : Int), .bool true]) W)) := by
        show ∀ W, _
        intro W hb
        have := st_index W G2.sp G2.g (HR3.out.below hb).bx.st.mem.sto u
        rw [gix_some HPO.out.gs.1.ids.inj HIA.out.1 HIA.out.2] at this
        exact this
      go_cut [8, 9] (fun s8 s9 wx => s8 = .int .i64 (ia : Int) ∧ s9 = .bool true ∧ Below w3.heap.size w3 wx)
      case first =>
        go_region_held3 (fun w' => w'.cell? ⟨b, 4, none⟩ = some (.pointer (some ⟨G2.cp, 0, none⟩)) ∧ w'.cell? ⟨b, 5, none⟩ = some (.pointer (some ⟨G2.sp, 0, none⟩)) ∧ w'.cell? ⟨b, 6, none⟩ = some (.pointer (some ⟨G2.ep, 0, none⟩)) ∧ w'.cell? ⟨b, 7, none⟩ = some (.pointer (some ⟨G2.fp, 0, none⟩)) ∧ w'.cell? ⟨z, 0, none⟩ = some (.int .u64 (u : Int)) ∧ w'.cell? ⟨z, 1, none⟩ = some (.int .u64 (v : Int)) ∧ w'.cell? ⟨z, 2, none⟩ = some (.int .i64 wt) ∧ w'.cell? ⟨z, 3, none⟩ = some (.int .i64 t) ∧ w'.cell? ⟨q, 0, none⟩ = some (.int .i64 (slot : Int)) ∧ Below w3.heap.size w3 w')
          (((try go_split_ands); refine WlR.keep HR3 ?_; first | assumption | exact (Below.refl _ _) | exact (Below.refl _ _).drew | exact (Below.drew (by assumption))))
          ((go_at_call 50; (try go_split_ands); refine (HIX.out _ (by assumption)).mono ?_; rintro e w' ⟨rfl, hb⟩; have hbx := bel_next (by assumption) hb; clear hb))
        all_goals
          go_wp2_with fail
          go_meet
          exact ⟨rfl, rfl, by assumption⟩
      case rest =>
        obtain ⟨rfl, rfl, hb⟩ := hcut
        have HR4 := Lib.hid (HR3.out.below hb)
        clear hb HR3 HIX
        generalize wc = w4 at *
        go_upto_region 4 with fail
        have HIX : Hid (∀ W, Below w4.heap.size w4 W → Calls Tryz.prog 50 #[.pointer (some ⟨G2.sp, 0, none⟩), .int .u64 (v : Int)] W (RetB (.tuple #[.int .i64 (ib : Int), .bool true]) W)) := by
          show ∀ W, _
          intro W hb
          have := st_index W G2.sp G2.g (HR4.out.below hb).bx.st.mem.sto v
          rw [gix_some HPO.out.gs.1.ids.inj HIB.out.1 HIB.out.2] at this
          exact this
        go_cut [10, 11] (fun s8 s9 wx => s8 = .int .i64 (ib : Int) ∧ s9 = .bool true ∧ Below w4.heap.size w4 wx)
        case first =>
          go_region_held3 (fun w' => w'.cell? ⟨b, 4, none⟩ = some (.pointer (some ⟨G2.cp, 0, none⟩)) ∧ w'.cell? ⟨b, 5, none⟩ = some (.pointer (some ⟨G2.sp, 0, none⟩)) ∧ w'.cell? ⟨b, 6, none⟩ = some (.pointer (some ⟨G2.ep, 0, none⟩)) ∧ w'.cell? ⟨b, 7, none⟩ = some (.pointer (some ⟨G2.fp, 0, none⟩)) ∧ w'.cell? ⟨z, 0, none⟩ = some (.int .u64 (u : Int)) ∧ w'.cell? ⟨z, 1, none⟩ = some (.int .u64 (v : Int)) ∧ w'.cell? ⟨z, 2, none⟩ = some (.int .i64 wt) ∧ w'.cell? ⟨z, 3, none⟩ = some (.int .i64 t) ∧ w'.cell? ⟨q, 0, none⟩ = some (.int .i64 (slot : Int)) ∧ Below w4.heap.size w4 w')
            (((try go_split_ands); refine WlR.keep HR4 ?_; first | assumption | exact (Below.refl _ _) | exact (Below.refl _ _).drew | exact (Below.drew (by assumption))))
            ((go_at_call 50; (try go_split_ands); refine (HIX.out _ (by assumption)).mono ?_; rintro e w' ⟨rfl, hb⟩; have hbx := bel_next (by assumption) hb; clear hb))
          all_goals
            go_wp2_with fail
            go_meet
            exact ⟨rfl, rfl, by assumption⟩
        case rest =>
          obtain ⟨rfl, rfl, hb⟩ := hcut
          have HR5 := Lib.hid (HR4.out.below hb)
          clear hb HR4 HIX
          generalize wc = w5 at *
          go_upto_region 5 with fail
          refine region_tailD 7 (by kernel_rfl) (by kernel_rfl) ?_
          intro w6 hw6
          have HR6 := Lib.hid (HR5.out.below hw6.self)
          clear hw6 HR5
          have c6 := HR6.out.bx.st.mem.c6
          have q0 := HR6.out.bq.cell (i := 0) rfl
          have HSE : Hid (Calls Tryz.prog 51 #[.pointer (some ⟨G2.ep, 0, none⟩), .int .i64 (slot : Int), .int .i64 x] w6 (EDone (.int .i64 0) w6 G2.ep G2.E (ins ((slot : Int), x) G.Q) G2.qp G2.qg)) := by
            obtain ⟨s1, s2, s3, s4, s5, s6, s7, s8, s9, s10, s11, s12, s13, s14⟩ := HPO.out.same
            have := eset_ok w6 G2.ep G2.E G2.Q G2.qp G2.qg HR6.out.bx.st.mem.sch slot x (by have := HPO.out.sl.1; rw [HE.out.gE] at this; rw [s2]; exact this)
            rw [s11, del_self (fun e he => by
              obtain ⟨i, k⟩ := e
              rw [HL.out.q] at he
              obtain ⟨s, h1, h2, h3⟩ := HE.out.ent.1 he
              intro c
              have c' : i = (slot : Int) := c
              have : s = slot := by omega
              subst this
              exact HPO.out.sl.2 h2)] at this
            exact this
          simp only [List.take_succ_cons, List.take_zero, List.drop_succ_cons, List.drop_zero]
          repeat still_step
          refine wpStill_nil ?_
          clear c6 q0
          go_upto_region 6 with (go_at_call 51; refine HSE.out.mono ?_; rintro e w7 ⟨rfl, qg', ho, hmd, hft⟩; have HR7 := Lib.hid (HR6.out.step (HR6.out.bx.st.mem.sSch hmd ho hft)); clear ho hmd hft)
          clear HR6 HSE
          generalize hcol : reco w6 G2.col 3 = col at *
          clear hcol
          refine region_tailD 9 (by kernel_rfl) (by kernel_rfl) ?_
          intro w8 hw8
          have HR8 := Lib.hid (HR7.out.below hw8.self)
          clear hw8 HR7
          have c7 := HR8.out.bx.st.mem.c7
          have q0 := HR8.out.bq.cell (i := 0) rfl
          have HFA : Hid (Calls Tryz.prog 52 #[.pointer (some ⟨G2.fp, 0, none⟩), .int .i64 (slot : Int), .int .i64 (ia : Int), .int .i64 (ib : Int), .int .i64 x] w8 (FoAd w8 G2.fp G2.f ge G.g.Lv slot ia ib x)) := by
            obtain ⟨s1, s2, s3, s4, s5, s6, s7, s8, s9, s10, s11, s12, s13, s14⟩ := HPO.out.same
            obtain ⟨g1, g2, g3, g4, g5, g6, g7, g8⟩ := HPO.out.gs
            have huv : u ≠ v := by
              intro c
              have := HCK.out
              unfold stChk at this
              rw [if_pos c] at this
              cases this
            have hVV : ∀ i, G2.g.LvT i → i < G2.f.V := fun i k => by
              have := g1.ids.lvT i k
              rw [g2, HE.out.gV] at this
              rw [s13, HE.out.fV]; exact this
            refine fo_add w8 G2.fp G2.f ge G.g.Lv F HR8.out.bx.st.mem.fo (by rw [s13]; exact HE.out.fo) slot ia ib x ?_ (hVV _ HIA.out.1) (hVV _ HIB.out.1) ?_ ?_ HPO.out.sl.2
            · have := HPO.out.sl.1
              rw [HE.out.gE] at this
              rw [s13, HE.out.fS]; exact this
            · intro c
              rw [c] at HIA
              exact huv (HIA.out.2.symm.trans HIB.out.2)
            · have := HEX.out; omega
          simp only [List.take_succ_cons, List.take_zero, List.drop_succ_cons, List.drop_zero]
          repeat still_step
          refine wpStill_nil ?_
          clear c7 q0
          go_upto_region 7 with (go_at_call 52; refine HFA.out.mono ?_; rintro e w9 ⟨rfl, f', F', hst, hfp, hfs⟩; have HR9 := Lib.hid (HR8.out.step (HR8.out.bx.st.mem.sFo hst)); have HFP := Lib.hid hfp; have HFS := Lib.hid hfs; clear hst hfp hfs)
          clear HR8 HFA
          have c8 := HR9.out.bx.st.mem.c8
          have f8 := HR9.out.bx.st.mem.box.free 8
          have HSA := Lib.hid (HPO.out.same.2.2.2.2.2.2.2.2.2.2.2.2.2)
          have hwa : IntKind.u64.wrap ((G2.add : Int) + 1) = ((G2.add + 1 : Nat) : Int) := by
            have h1 := HSA.out
            have h2 := HAD.out
            show (_ : Int) % 18446744073709551616 = _
            omega
          have HFIN := Lib.hid (HR9.out.bx.st.trans (HR9.out.bx.st.mem.sAdd (G2.add + 1)))
          go_wp2_with fail
          go_end0
          obtain ⟨s1, s2, s3, s4, s5, s6, s7, s8, s9, s10, s11, s12, s13, s14⟩ := HPO.out.same
          have hfs := HFS.out
          rw [s13] at hfs
          refine ⟨rfl, _, HFIN.out, ⟨s1, s2, s3, s4⟩, s5, by rw [← s14], ?_⟩
          refine wl_insert HL.out HE.out HPO.out.sl HPO.out.gs HFP.out hfs HIA.out HIB.out ⟨HEX.out.1, by have := HEX.out; omega⟩ htt ⟨rfl, rfl, s3, s2, s1, by rw [← s14], ?_, s5⟩
          rfl
end Go.Proofs.YtlooaipipmiijaaGreat
