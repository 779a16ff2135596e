/- Several texts in one: TpT, TpU, TpY. -/
import Derived.Test.YtlooaipipmiijaaGreatZX41
namespace Go.Proofs.YtlooaipipmiijaaGreat
set_option linter.unusedVariables false
set_option linter.unusedSimpArgs false
open Go.RowKit
structure LpI (w1 : World) (b : Nat) (cW cD : Int) (E V k : Nat) (G : WnG) (all : List Rcd) (W : World) : Prop where
  fr : WnFr w1 b G all W
  cfg : G.W = cW ∧ G.E = E ∧ G.V = V ∧ G.D = cD
  add : G.add ≤ k
section
variable {w1 W W' : World} {b E V k : Nat} {cW cD : Int} {G : WnG} {all : List Rcd}
theorem LpI.below (h : LpI w1 b cW cD E V k G all W) (hb : Below W.heap.size W W') : LpI w1 b cW cD E V k G all W' := ⟨h.fr.below hb, h.cfg, h.add⟩
theorem LpI.quiet (h : LpI w1 b cW cD E V k G all W) (s : WnV b G W W') : ∃ G', WnS b G W G' W' ∧ LpI w1 b cW cD E V k G' all W' ∧ G'.now = G.now := by
  obtain ⟨col, s, hf⟩ := h.fr.quiet s
  exact ⟨_, s, ⟨hf, h.cfg, h.add⟩, rfl⟩
theorem LpI.added (h : LpI w1 b cW cD E V k G all W) {r : Rcd} {e : Ending} (hp : WnAd W b G all r e W') : ∃ G' all', WnS b G W G' W' ∧ LpI w1 b cW cD E V (k + 1) G' all' W' ∧ (addE G all r = 0 → all' = stay cW r.t all ++ [r] ∧ G'.now = r.t) ∧ (addE G all r ≠ 0 → all' = all ∧ G'.now = G.now) := by
  obtain ⟨G', hs, hc, ha, h1, h2⟩ := hp.out
  obtain ⟨c1, c2, c3, c4⟩ := h.cfg
  have hcf : G'.W = cW ∧ G'.E = E ∧ G'.V = V ∧ G'.D = cD := ⟨hc.W.trans c1, hc.E.trans c2, hc.V.trans c3, hc.D.trans c4⟩
  have hadd : G'.add ≤ k + 1 := by have := h.add; omega
  by_cases c : addE G all r = 0
  · obtain ⟨k1, k2⟩ := h1 c
    rw [c1] at k1
    exact ⟨G', _, hs, ⟨h.fr.step hs k1, hcf, hadd⟩, fun _ => ⟨rfl, k2⟩, fun k => absurd c k⟩
  · obtain ⟨k1, k2⟩ := h2 c
    exact ⟨G', all, hs, ⟨h.fr.step hs k1, hcf, hadd⟩, fun k => absurd k c, fun _ => ⟨rfl, k2⟩⟩
theorem LpI.ticked (h : LpI w1 b cW cD E V k G all W) {t : Int} {e : Ending} (hp : WnTk W b G all t e W') : ∃ G' all', WnS b G W G' W' ∧ LpI w1 b cW cD E V k G' all' W' ∧ (clkE cW G.now t = 0 → all' = stay cW t all ∧ G'.now = t) ∧ (clkE cW G.now t ≠ 0 → all' = all ∧ G'.now = G.now) := by
  obtain ⟨G', hs, hc, ha, h1, h2⟩ := hp.out
  obtain ⟨c1, c2, c3, c4⟩ := h.cfg
  have hcf : G'.W = cW ∧ G'.E = E ∧ G'.V = V ∧ G'.D = cD := ⟨hc.W.trans c1, hc.E.trans c2, hc.V.trans c3, hc.D.trans c4⟩
  rw [c1] at h1 h2
  by_cases c : clkE cW G.now t = 0
  · obtain ⟨k1, k2⟩ := h1 c
    exact ⟨G', _, hs, ⟨h.fr.step hs k1, hcf, by rw [ha]; exact h.add⟩, fun _ => ⟨rfl, k2⟩, fun k => absurd c k⟩
  · obtain ⟨k1, k2⟩ := h2 c
    exact ⟨G', all, hs, ⟨h.fr.step hs k1, hcf, by rw [ha]; exact h.add⟩, fun k => absurd k c, fun _ => ⟨rfl, k2⟩⟩
theorem LpI.next (h : LpI w1 b cW cD E V k G all W) : LpI w1 b cW cD E V (k + 1) G all W := ⟨h.fr, h.cfg, Nat.le_succ_of_le h.add⟩
end
end Go.Proofs.YtlooaipipmiijaaGreat

namespace Go.Proofs.YtlooaipipmiijaaGreat
set_option linter.unusedVariables false
set_option linter.unusedSimpArgs false
open Go.RowKit
def TopR (w : World) (e : Ending) (w' : World) : Prop := e = .returned (.bool true) ∧ Below w.heap.size w w'
theorem TopR.mk {w w1 w' : World} (hb : Below w.heap.size w w1) (k : Below w1.heap.size w1 w') : TopR w (.returned (.bool true)) w' := ⟨rfl, bel_next hb k⟩
end Go.Proofs.YtlooaipipmiijaaGreat

namespace Go.Proofs.YtlooaipipmiijaaGreat
set_option linter.unusedVariables false
set_option linter.unusedSimpArgs false
open Go.RowKit
structure LpR (w1 : World) (b : Nat) (cW cD : Int) (E V k : Nat) (G : WnG) (all : List Rcd) (va : Value) (ar : List Rcd) (W : World) : Prop where
  lp : LpI w1 b cW cD E V k G all W
  row : W.ownsRow 0 33 4 va ar.length (rcV ar)
  new : ∀ q, va.ownBlock = some q → w1.heap.size ≤ q
  nf : ∀ q, va.ownBlock = some q → ¬ G.foot b q
section
variable {w1 W W' : World} {b E V k : Nat} {cW cD : Int} {G : WnG} {all ar : List Rcd} {va : Value}
theorem LpR.start (h : LpI w1 b cW cD E V 0 G [] W) : LpR w1 b cW cD E V 0 G [] (.slice none 0 0) [] W :=
  ⟨h, World.ownsRow_nil _ _ _ _, fun q e => by simp [Value.ownBlock] at e, fun q e => by simp [Value.ownBlock] at e⟩
theorem LpR.slice (h : LpR w1 b cW cD E V k G all va ar W) : ∃ ao cp, va = .slice ao ar.length cp := by
  rcases h.row.2 with ⟨rfl, h0⟩ | ⟨g, cap, cur, rfl, _⟩
  · exact ⟨none, 0, by rw [h0]⟩
  · exact ⟨_, _, rfl⟩
theorem LpI.len (h : LpI w1 b cW cD E V k G all W) : all.length ≤ E := by
  obtain ⟨ge, F, he⟩ := h.fr.wl.ed
  rw [← h.fr.wl.len he, he.gE, h.cfg.2.1]
  exact cntP_le _
theorem LpR.below (h : LpR w1 b cW cD E V k G all va ar W) (hb : Below W.heap.size W W') : LpR w1 b cW cD E V k G all va ar W' :=
  ⟨h.lp.below hb, owns_below h.row hb, h.new, h.nf⟩
theorem LpR.step {G' : WnG} {all' : List Rcd} (h : LpR w1 b cW cD E V k G all va ar W) (s : WnS b G W G' W') {k' : Nat} (hl : LpI w1 b cW cD E V k' G' all' W') : LpR w1 b cW cD E V k' G' all' va ar W' :=
  ⟨hl, (s.row h.row h.nf).1, h.new, (s.row h.row h.nf).2⟩
structure LpB (w1 : World) (b : Nat) (cW cD : Int) (E V k : Nat) (G : WnG) (all : List Rcd) (va : Value) (ar : List Rcd) (z : Nat) (cs : List Value) (W : World) : Prop where
  lp : LpR w1 b cW cD E V k G all va ar W
  bz : Blk W z 33 cs
  nz : ¬ G.foot b z
  zs : w1.heap.size ≤ z
theorem LpR.box (h : LpR w1 b cW cD E V k G all va ar W) (u v : Nat) (wt t : Int) : LpB w1 b cW cD E V k G all va ar W.heap.size [.int .u64 (u : Int), .int .u64 (v : Int), .int .i64 wt, .int .i64 t] (W.alloc (.cells #[.int .u64 (u : Int), .int .u64 (v : Int), .int .i64 wt, .int .i64 t] 33)) :=
  ⟨h.below (bel_alloc W _), Blk.new W _ [_, _, _, _], fun e => absurd (h.lp.fr.mem.foot_lt _ e) (Nat.lt_irrefl _), h.lp.fr.bel.size⟩
theorem LpB.below {z : Nat} {cs : List Value} (h : LpB w1 b cW cD E V k G all va ar z cs W) (hb : Below W.heap.size W W') : LpB w1 b cW cD E V k G all va ar z cs W' := ⟨h.lp.below hb, h.bz.below hb h.bz.lt, h.nz, h.zs⟩
theorem LpB.step {z : Nat} {cs : List Value} {G' : WnG} {all' : List Rcd} (h : LpB w1 b cW cD E V k G all va ar z cs W) (s : WnS b G W G' W') {k' : Nat} (hl : LpI w1 b cW cD E V k' G' all' W') : LpB w1 b cW cD E V k' G' all' va ar z cs W' :=
  ⟨h.lp.step s hl, (s.box h.bz h.nz).1, (s.box h.bz h.nz).2, h.zs⟩
theorem LpB.row {z : Nat} {cs : List Value} {w6 : World} {vb : Value} {br : List Rcd} (h : LpB w1 b cW cD E V k G all va ar z cs W) (h6 : ∀ q, G.foot b q → q < w6.heap.size) (hs : w1.heap.size ≤ w6.heap.size) (hr : RcB w6 vb br W) : LpB w1 b cW cD E V k G all vb br z cs W :=
  ⟨⟨h.lp.lp, hr.own, fun q e => Nat.le_trans hs (hr.new q e), fun q e hf => by have h1 := hr.new q e; have h2 := h6 q hf; omega⟩, h.bz, h.nz, h.zs⟩
end
theorem bel_al {w W : World} (h : Below w.heap.size w W) (o : Obj) : Below w.heap.size w (W.alloc o) := h.alloc h.size o
theorem step_appR {P : Program} {ops : Array Oper} {d : Tmp} {t ty : TypeId} {s x : Operand} {po : String} {aft : Array Edge} {gd : Option (Nat × Bool)} {a : Act} {Q : Exit → Act → World → Prop} {K : Act → World → Prop} {w : World}
    (hgd : Region.wanted ⟨some d, .call { callee := .builtin .append, args := #[s, x], argTypes := #[t, t] }, ty, po, aft, gd⟩ (yielded ops a.tmps) = true)
    (e : TypeId) (z : Value) (size bytes : Nat) (ht : P.underlying t = some (.slice e)) (hz : (P.info? e).map (fun i => (i.zero, i.size, i.bytes)) = some (some z, size, bytes))
    (hzs : z.cells.size = size) (hsz : 0 < size) (v : Value) (n : Nat) (xs : List Value) (hs : a.eval s = v) (hown : w.ownsRow 0 e size v n xs)
    (u : Value) (m : Nat) (news : List Value) (hx : a.eval x = u) (hnews : w.ownsRow 0 e size u m news) (h1 : ∀ u ∈ news, u.oneCell' = true)
    (h63 : n + m ≤ maxLen) (hbytes : (n + m) * bytes ≤ 140737488355328)
    (h : ∀ v' w', w'.ownsRow 0 e size v' (n + m) (xs ++ news) → w.grownBy w' v.ownBlock → (∀ k, v'.ownBlock = some k → v.ownBlock = some k ∨ w.heap.size ≤ k) → K (a.put (some d) v') w') :
    if Region.wanted ⟨some d, .call { callee := .builtin .append, args := #[s, x], argTypes := #[t, t] }, ty, po, aft, gd⟩ (yielded ops a.tmps) = true then
      Oper.wp P ⟨some d, .call { callee := .builtin .append, args := #[s, x], argTypes := #[t, t] }, ty, po, aft, gd⟩ a w K Q else K (a.put (some d) undef) w := by
  have key : ∃ v' w', (Builtin.append_ #[t, t] ty #[v, u]).run P w = .ok v' w' ∧ w'.ownsRow 0 e size v' (n + m) (xs ++ news) ∧ w.grownBy w' v.ownBlock ∧ (∀ k, v'.ownBlock = some k → v.ownBlock = some k ∨ w.heap.size ≤ k) := by
    rcases hnews.2 with ⟨rfl, rfl⟩ | ⟨g, cap, cur, rfl, hr⟩
    · have hn0 : news = [] := List.eq_nil_of_length_eq_zero (by simpa using hnews.1)
      subst hn0
      rcases hown.2 with ⟨rfl, rfl⟩ | ⟨g, cap, cur, rfl, hbg, hgg, hnc, hcm, hcs, htake⟩
      · exact ⟨_, _, run_append_nil w t ty e z size bytes ht hz none 0 0 (Nat.le_refl _), by simpa using hown, World.grownBy.refl _ _, fun k hk => .inl hk⟩
      · exact ⟨_, _, run_append_nil w t ty e z size bytes ht hz _ _ _ hnc, by simpa using hown, World.grownBy.refl _ _, fun k hk => .inl hk⟩
    · exact run_appendB (P := P) w t ty e z size bytes ht hz hzs hsz v n xs hown ⟨g, 0, none⟩ m cap news hnews.1 (owns_cells hnews) h1 h63 hbytes
  obtain ⟨v', w', hr, h2, h3, h4⟩ := key
  rw [if_pos hgd]
  unfold Oper.wp execOp
  simp only [resolve, invoke, builtin, Sem.run_bind, Sem.run_pure, Result.andThen_ok, List.map_toArray, List.map_cons, List.map_nil, hs, hx, hr]
  exact h v' w' h2 h3 h4
theorem rcV_one (l : List Rcd) : ∀ v ∈ rcV l, v.oneCell' = true := by
  intro v hv
  unfold rcV encs at hv
  obtain ⟨r, _, hr⟩ := List.mem_flatMap.1 hv
  exact encC_one r v hr
theorem app_bel {w W W1 : World} {ad : Addr} {n cp : Nat} (h : Below w.heap.size w W) (hg : W.grownBy W1 (Value.slice (some ad) n cp).ownBlock) (ha : w.heap.size ≤ ad.block) : Below w.heap.size w W1 :=
  h.grown hg h.size fun q e => by
    have e' : some ad.block = some q := e
    injection e' with e'
    omega
theorem app_new {w W : World} {ad : Addr} {n cp : Nat} {v : Value} (h : w.heap.size ≤ W.heap.size) (hk : ∀ k, v.ownBlock = some k → (Value.slice (some ad) n cp).ownBlock = some k ∨ W.heap.size ≤ k) (ha : w.heap.size ≤ ad.block) : ∀ k, v.ownBlock = some k → w.heap.size ≤ k := fun k hv => by
  rcases hk k hv with e | e
  · have e' : some ad.block = some k := e
    injection e' with e'
    omega
  · omega
theorem own_other {w W1 : World} {e : TypeId} {size m n cp : Nat} {ad : Addr} {u : Value} {news : List Value} (h : w.ownsRow 0 e size u m news) (hg : w.grownBy W1 (Value.slice (some ad) n cp).ownBlock) (hn : ∀ x, u.ownBlock = some x → x ≠ ad.block) : W1.ownsRow 0 e size u m news :=
  owns_modL h ((Mod.refl (fun k => (Value.slice (some ad) n cp).ownBlock = some k) w).grown hg (fun k e _ => e)) fun x hx hF => by
    have e' : some ad.block = some x := hF
    injection e' with e'
    exact hn x hx e'.symm
theorem bel_drewT (w : World) (n : Nat) : Below w.heap.size w (w.drewN n) := by
  have h := Below.refl w.heap.size w
  exact ⟨h.os, h.tape, h.output, h.size, h.block⟩
theorem add_loop {G : WnG} {all : List Rcd} {u : Nat} {wt t : Int} : addE G all ⟨u, u, wt, t⟩ = 9 := if_pos rfl
theorem add_clk {G : WnG} {all : List Rcd} {r : Rcd} {cW : Int} (hW : G.W = cW) (hn : r.u ≠ r.v) (h : clkE cW G.now r.t ≠ 0) : addE G all r = clkE cW G.now r.t := by
  unfold addE
  rw [if_neg hn, hW, if_pos h]
theorem add_room {G : WnG} {all : List Rcd} {r : Rcd} {cW : Int} {E V : Nat} (hW : G.W = cW ∧ G.E = E ∧ G.V = V) (hn : r.u ≠ r.v) (h : clkE cW G.now r.t = 0) : addE G all r = (chkL E V (stay cW r.t all) r : Nat) := by
  unfold addE
  rw [if_neg hn, hW.1, hW.2.1, hW.2.2, if_neg (fun k => k h)]
theorem clk_cases {cW now t : Int} (hW : 1 ≤ cW) (hn : 0 ≤ now) : (t < now ∧ clkE cW now t = 10) ∨ (now ≤ t ∧ 9223372036854775807 - cW < t ∧ clkE cW now t = 7) ∨ (now ≤ t ∧ t ≤ 9223372036854775807 - cW ∧ clkE cW now t = 0) := by
  unfold clkE caddE
  by_cases c : t < now
  · exact .inl ⟨c, if_pos c⟩
  · right
    rw [if_neg c]
    by_cases d : 9223372036854775807 - cW < t
    · exact .inl ⟨by omega, d, by rw [if_neg (by omega)]⟩
    · exact .inr ⟨by omega, by omega, by rw [if_pos (by omega)]⟩
end Go.Proofs.YtlooaipipmiijaaGreat
