/- ExpiryPlays: the schedule and the reference's, step by step. -/
import Derived.Test.YtebclbpibafkdaaRefH
import Derived.Test.YtebclbpibafkdaaSetsP
namespace Go.Proofs.Ytebclbpibafkdaa
set_option linter.unusedVariables false
set_option linter.unusedSimpArgs false
open Go.RowKit

/-- A schedule and the reference's in the same state, both made since w. -/
structure PObj (w : World) (k s slots : Nat) (S : List Ent) (q : Nat) (g : HG) (r : Nat) (v : Value) (W : World) : Prop where
  eo : EFresh w s slots S q g W
  ro : RObj W r slots S v
  rn : w.heap.size ≤ r
  vn : ∀ x, v.ownBlock = some x → w.heap.size ≤ x
  ap : ∀ x, (g.foot x ∨ x = s) → (x = r ∨ v.ownBlock = some x) → False
  len : S.length ≤ k
  key : ∀ e ∈ S, I64 e.2

structure PState (w : World) (k : Nat) (sv rv : Value) (W : World) : Prop where
  bel : Below w.heap.size w W
  out : (sv = .pointer none ∧ rv = .pointer none) ∨ ∃ s slots S q g r v, sv = .pointer (some ⟨s, 0, none⟩) ∧ rv = .pointer (some ⟨r, 0, none⟩) ∧ PObj w k s slots S q g r v W

/-- A block beside them. -/
structure PX (w : World) (k : Nat) (sv rv : Value) (X : Nat) (cs : List Value) (W : World) : Prop where
  bel : Below w.heap.size w W
  xb : Blk W X 61 cs
  xn : w.heap.size ≤ X
  out : (sv = .pointer none ∧ rv = .pointer none) ∨ ∃ s slots S q g r v, sv = .pointer (some ⟨s, 0, none⟩) ∧ rv = .pointer (some ⟨r, 0, none⟩) ∧ PObj w k s slots S q g r v W ∧ (¬ g.foot X ∧ X ≠ s ∧ X ≠ r ∧ v.ownBlock ≠ some X)

theorem PObj.below {w : World} {k s slots : Nat} {S : List Ent} {q : Nat} {g : HG} {r : Nat} {v : Value} {W W' : World} (h : PObj w k s slots S q g r v W) (hb : Below W.heap.size W W') : PObj w k s slots S q g r v W' :=
  ⟨h.eo.below hb, h.ro.below hb, h.rn, h.vn, h.ap, h.len, h.key⟩

theorem PState.below {w : World} {k : Nat} {sv rv : Value} {W W' : World} (h : PState w k sv rv W) (hb : Below W.heap.size W W') : PState w k sv rv W' := by
  refine ⟨h.bel.trans (hb.mono h.bel.size), ?_⟩
  rcases h.out with h1 | ⟨s, slots, S, q, g, r, v, h1, h2, h3⟩
  · exact .inl h1
  · exact .inr ⟨s, slots, S, q, g, r, v, h1, h2, h3.below hb⟩

theorem PX.below {w : World} {k : Nat} {sv rv : Value} {X : Nat} {cs : List Value} {W W' : World} (h : PX w k sv rv X cs W) (hb : Below W.heap.size W W') : PX w k sv rv X cs W' := by
  refine ⟨h.bel.trans (hb.mono h.bel.size), h.xb.below hb h.xb.lt, h.xn, ?_⟩
  rcases h.out with h1 | ⟨s, slots, S, q, g, r, v, h1, h2, h3, h4⟩
  · exact .inl h1
  · exact .inr ⟨s, slots, S, q, g, r, v, h1, h2, h3.below hb, h4⟩

theorem PX.state {w : World} {k : Nat} {sv rv : Value} {X : Nat} {cs : List Value} {W : World} (h : PX w k sv rv X cs W) : PState w k sv rv W := by
  refine ⟨h.bel, ?_⟩
  rcases h.out with h1 | ⟨s, slots, S, q, g, r, v, h1, h2, h3, h4⟩
  · exact .inl h1
  · exact .inr ⟨s, slots, S, q, g, r, v, h1, h2, h3⟩

/-- A new block lies beside them. -/
theorem PState.with {w : World} {k : Nat} {sv rv : Value} {W : World} (h : PState w k sv rv W) (cs : List Value) : PX w k sv rv W.heap.size cs (W.alloc (.cells cs.toArray 61)) := by
  have hb : Below W.heap.size W (W.alloc (.cells cs.toArray 61)) := (Below.refl _ _).alloc (Nat.le_refl _) _
  refine ⟨h.bel.trans (hb.mono h.bel.size), Blk.new W _ _, h.bel.size, ?_⟩
  rcases h.out with h1 | ⟨s, slots, S, q, g, r, v, h1, h2, h3⟩
  · exact .inl h1
  · refine .inr ⟨s, slots, S, q, g, r, v, h1, h2, h3.below hb, fun e => ?_, fun e => ?_, fun e => ?_, fun e => ?_⟩
    · have := h3.eo.obj.lt _ (.inl e); omega
    · have := h3.eo.obj.lt _ (.inr rfl); omega
    · have := h3.ro.lt _ (.inl rfl); omega
    · have := h3.ro.lt _ (.inr e); omega

/-- The schedule's step; the reference's follows. -/
structure PMid (w : World) (k s slots : Nat) (S S' : List Ent) (q : Nat) (g : HG) (r : Nat) (v : Value) (X : Nat) (cs : List Value) (W : World) : Prop where
  eo : EFresh w s slots S' q g W
  ro : RObj W r slots S v
  rn : w.heap.size ≤ r
  vn : ∀ x, v.ownBlock = some x → w.heap.size ≤ x
  ap : ∀ x, (g.foot x ∨ x = s) → (x = r ∨ v.ownBlock = some x) → False
  xb : Blk W X 61 cs
  xn : w.heap.size ≤ X
  xa : ¬ g.foot X ∧ X ≠ s ∧ X ≠ r ∧ v.ownBlock ≠ some X

theorem PObj.mid {w : World} {k s slots : Nat} {S : List Ent} {q : Nat} {g : HG} {r : Nat} {v : Value} {W : World} (h : PObj w k s slots S q g r v W) {X : Nat} {cs : List Value} (xb : Blk W X 61 cs) (xn : w.heap.size ≤ X) (xa : ¬ g.foot X ∧ X ≠ s ∧ X ≠ r ∧ v.ownBlock ≠ some X)
    {S' : List Ent} {g' : HG} {W' : World} (ho : EObj W' s slots S' q g') (hm : Mod g.foot W W') (hf : ∀ k, g'.foot k → g.foot k ∨ W.heap.size ≤ k) : PMid w k s slots S S' q g' r v X cs W' := by
  refine ⟨h.eo.step ho hm hf, h.ro.mod hm (fun e => h.ap r (.inl e) (.inl rfl)) (fun x hx e => h.ap x (.inl e) (.inr hx)), h.rn, h.vn, fun x h1 h2 => ?_, xb.mod hm xa.1, xn, fun e => ?_, xa.2⟩
  · rcases h1 with h1 | h1
    · rcases hf x h1 with h3 | h3
      · exact h.ap x (.inl h3) h2
      · have := h.ro.lt x h2; omega
    · exact h.ap x (.inr h1) h2
  · rcases hf X e with h3 | h3
    · exact xa.1 h3
    · have := xb.lt; omega

theorem PMid.done {w : World} {k s slots : Nat} {S S' : List Ent} {q : Nat} {g : HG} {r : Nat} {v : Value} {X : Nat} {cs : List Value} {W : World} (h : PMid w k s slots S S' q g r v X cs W)
    {v' : Value} {W' : World} {k' : Nat} (ho : RObj W' r slots S' v') (hm : Mod (fun x => x = r) W W') (hn : ∀ x, v'.ownBlock = some x → v.ownBlock = some x ∨ W.heap.size ≤ x) (hl : S'.length ≤ k') (hkey : ∀ e ∈ S', I64 e.2) :
    PX w k' (.pointer (some ⟨s, 0, none⟩)) (.pointer (some ⟨r, 0, none⟩)) X cs W' := by
  have hsz := h.eo.bel.size
  have hb : Below w.heap.size w W' := h.eo.bel.trans (hm.below hsz (fun x hx => by rw [hx]; exact h.rn))
  refine ⟨hb, h.xb.mod hm h.xa.2.2.1, h.xn, .inr ⟨s, slots, S', q, g, r, v', rfl, rfl, ⟨⟨h.eo.obj.mod hm (fun x hx e => h.ap x (.inl hx) (.inl e)) (fun e => h.ap s (.inr rfl) (.inl e)), hb, h.eo.foot, h.eo.hs⟩, ho, h.rn, fun x hx => ?_, fun x h1 h2 => ?_, hl, hkey⟩, h.xa.1, h.xa.2.1, h.xa.2.2.1, fun e => ?_⟩⟩
  · rcases hn x hx with h1 | h1
    · exact h.vn x h1
    · omega
  · rcases h2 with h2 | h2
    · exact h.ap x h1 (.inl h2)
    · rcases hn x h2 with h3 | h3
      · exact h.ap x h1 (.inr h3)
      · have := h.eo.obj.lt x h1; omega
  · rcases hn X e with h3 | h3
    · exact h.xa.2.2.2 h3
    · have := h.xb.lt; omega

structure StepMid (e0 : Int) (M : World → Prop) (X : Nat) (cs : List Value) (e : Ending) (W : World) : Prop where
  val : e = .returned (.int .i64 e0)
  mid : M W
  xb : Blk W X 61 cs

structure StepEnd (e0 : Int) (w : World) (k : Nat) (sv rv : Value) (X : Nat) (cs : List Value) (e : Ending) (W : World) : Prop where
  val : e = .returned (.int .i64 e0)
  st : PX w k sv rv X cs W

theorem PX.more {w : World} {k k' : Nat} {sv rv : Value} {X : Nat} {cs : List Value} {W : World} (h : PX w k sv rv X cs W) (hk : k ≤ k') : PX w k' sv rv X cs W := by
  refine ⟨h.bel, h.xb, h.xn, ?_⟩
  rcases h.out with h1 | ⟨s, slots, S, q, g, r, v, h1, h2, h3, h4⟩
  · exact .inl h1
  · exact .inr ⟨s, slots, S, q, g, r, v, h1, h2, ⟨h3.eo, h3.ro, h3.rn, h3.vn, h3.ap, Nat.le_trans h3.len hk, h3.key⟩, h4⟩

theorem mem_del {i : Int} {L : List Ent} {e : Ent} (h : e ∈ del i L) : e ∈ L := by unfold del at h; exact (List.mem_filter.1 h).1

theorem del_length_le (i : Int) (L : List Ent) : (del i L).length ≤ L.length := by unfold del; exact List.length_filter_le _ _

theorem both_set {w : World} {k : Nat} {sv rv : Value} {X : Nat} {cs : List Value} {W : World} (h : PX w k sv rv X cs W) (hk : k < 65536) (slot at' : Int) (hat : I64 at') :
    ∃ (e0 : Int) (M : World → Prop), Calls Try.prog 37 #[sv, .int .i64 slot, .int .i64 at'] W (StepMid e0 M X cs) ∧
      ∀ W', M W' → Calls Try.prog 38 #[rv, .int .i64 slot, .int .i64 at'] W' (StepEnd e0 w (k + 1) sv rv X cs) := by
  rcases h.out with ⟨rfl, rfl⟩ | ⟨s, slots, S, q, g, r, v, rfl, rfl, h3, h4⟩
  · refine ⟨1, fun W' => PX w k (.pointer none) (.pointer none) X cs W', (eset_bad W _ ⟨.inl rfl⟩ slot at').mono fun e W' ⟨h1, h2⟩ => ?_, fun W' hM => (rset_nil W' slot at').mono fun e W'' ⟨h1, h2⟩ => ?_⟩
    · exact ⟨h1, h.below h2, (h.below h2).xb⟩
    · subst h2; exact ⟨h1, hM.more (by omega)⟩
  · by_cases hr : 0 ≤ slot ∧ slot < slots
    · obtain ⟨n, rfl⟩ := Int.eq_ofNat_of_zero_le hr.1
      refine ⟨0, fun W' => ∃ g', PMid w k s slots S (ins ((n : Int), at') (del (n : Int) S)) q g' r v X cs W', (eset_ok W s slots S q g h3.eo.obj n at' (by omega)).mono fun e W' ⟨h1, g', ho, hm, hf⟩ => ?_, fun W' ⟨g', hM⟩ => ?_⟩
      · have := h3.mid h.xb h.xn h4 ho hm hf
        exact ⟨h1, ⟨g', this⟩, this.xb⟩
      · refine (rset_ok W' r slots S v hM.ro n at' hr.1 hr.2 (by have := h3.len; omega)).mono fun e W'' ⟨h1, u, ho, hm, hn⟩ => ⟨h1, ?_⟩
        rw [wo_find h3.eo.obj.obj.nodupI] at ho
        refine hM.done ho hm (fun x hx => .inr (hn x hx)) ?_ ?_
        · rw [ins_length]; have := del_length_le (n : Int) S; have := h3.len; omega
        · intro e he
          rcases mem_ins.1 he with rfl | he
          · exact hat
          · exact h3.key e (mem_del he)
    · refine ⟨3, fun W' => PX w k (.pointer (some ⟨s, 0, none⟩)) (.pointer (some ⟨r, 0, none⟩)) X cs W' ∧ RObj W' r slots S v, (eset_range W s slots S q g h3.eo.obj slot at' hr).mono fun e W' ⟨h1, h2⟩ => ?_, fun W' ⟨hM, hR⟩ => (rset_range W' r slots S v hR slot at' hr).mono fun e W'' ⟨h1, h2⟩ => ?_⟩
      · exact ⟨h1, ⟨h.below h2, h3.ro.below h2⟩, (h.below h2).xb⟩
      · subst h2; exact ⟨h1, hM.more (by omega)⟩

theorem both_drop {w : World} {k : Nat} {sv rv : Value} {X : Nat} {cs : List Value} {W : World} (h : PX w k sv rv X cs W) (slot : Int) :
    ∃ (e0 : Int) (M : World → Prop), Calls Try.prog 35 #[sv, .int .i64 slot] W (StepMid e0 M X cs) ∧
      ∀ W', M W' → Calls Try.prog 39 #[rv, .int .i64 slot] W' (StepEnd e0 w (k + 1) sv rv X cs) := by
  rcases h.out with ⟨rfl, rfl⟩ | ⟨s, slots, S, q, g, r, v, rfl, rfl, h3, h4⟩
  · refine ⟨1, fun W' => PX w k (.pointer none) (.pointer none) X cs W', (edrop_bad W _ ⟨.inl rfl⟩ slot).mono fun e W' ⟨h1, h2⟩ => ?_, fun W' hM => (rdrop_nil W' slot).mono fun e W'' ⟨h1, h2⟩ => ?_⟩
    · exact ⟨h1, h.below h2, (h.below h2).xb⟩
    · subst h2; exact ⟨h1, hM.more (by omega)⟩
  · by_cases hr : 0 ≤ slot ∧ slot < slots
    · obtain ⟨n, rfl⟩ := Int.eq_ofNat_of_zero_le hr.1
      rcases rfind_cases (n : Int) S with ⟨p, hp, hf, he⟩ | ⟨hf, hno⟩
      · have hm' : ((n : Int), (ent S p).2) ∈ S := by rw [← he]; exact ent_mem hp
        refine ⟨0, fun W' => ∃ g', PMid w k s slots S (del (n : Int) S) q g' r v X cs W', (edrop_some W s slots S q g h3.eo.obj n (by omega) _ hm').mono fun e W' ⟨h1, g', ho, hm, hf⟩ => ?_, fun W' ⟨g', hM⟩ => ?_⟩
        · have := h3.mid h.xb h.xn h4 ho hm hf
          exact ⟨h1, ⟨g', this⟩, this.xb⟩
        · refine (rdrop_some W' r slots S v hM.ro n hr.1 hr.2 p hp hf).mono fun e W'' ⟨h1, u, ho, hm, hn⟩ => ⟨h1, ?_⟩
          rw [wo_del h3.eo.obj.obj.nodupI hp he] at ho
          refine hM.done ho hm (fun x hx => .inr (hn x hx)) ?_ (fun e he => h3.key e (mem_del he))
          have := del_length_le (n : Int) S; have := h3.len; omega
      · refine ⟨5, fun W' => PX w k (.pointer (some ⟨s, 0, none⟩)) (.pointer (some ⟨r, 0, none⟩)) X cs W' ∧ RObj W' r slots S v, (edrop_none W s slots S q g h3.eo.obj n (by omega) hno).mono fun e W' ⟨h1, h2⟩ => ?_, fun W' ⟨hM, hR⟩ => (rdrop_none W' r slots S v hR n hr.1 hr.2 hf).mono fun e W'' ⟨h1, h2⟩ => ?_⟩
        · exact ⟨h1, ⟨h.below h2, h3.ro.below h2⟩, (h.below h2).xb⟩
        · subst h2; exact ⟨h1, hM.more (by omega)⟩
    · refine ⟨3, fun W' => PX w k (.pointer (some ⟨s, 0, none⟩)) (.pointer (some ⟨r, 0, none⟩)) X cs W' ∧ RObj W' r slots S v, (edrop_range W s slots S q g h3.eo.obj slot hr).mono fun e W' ⟨h1, h2⟩ => ?_, fun W' ⟨hM, hR⟩ => (rdrop_range W' r slots S v hR slot hr).mono fun e W'' ⟨h1, h2⟩ => ?_⟩
      · exact ⟨h1, ⟨h.below h2, h3.ro.below h2⟩, (h.below h2).xb⟩
      · subst h2; exact ⟨h1, hM.more (by omega)⟩

structure DueMid (M : Value → World → Prop) (X : Nat) (cs : List Value) (e : Ending) (W : World) : Prop where
  out : ∃ v, e = .returned v ∧ M v W
  xb : Blk W X 61 cs

structure DueEnd (w : World) (k : Nat) (sv rv : Value) (X : Nat) (cs : List Value) (e : Ending) (W : World) : Prop where
  val : e = .returned (.bool true)
  st : PX w k sv rv X cs W

theorem same_nil (W : World) : Calls Try.prog 28 #[.slice none 0 0, .slice none 0 0] W (RetB (.bool true) W) := by
  have h : IntSl W (.slice none 0 0) [] := ⟨⟨none, 0, rfl⟩, fun ao cap _ h => by simp at h⟩
  exact same35 W _ _ [] [] h h (by simp) (by simp)

theorem both_due {w : World} {k : Nat} {sv rv : Value} {X : Nat} {cs : List Value} {W : World} (h : PX w k sv rv X cs W) (hk : k ≤ 65536) (now : Int) :
    ∃ (M : Value → World → Prop) (N : Value → Value → World → Prop), Calls Try.prog 29 #[sv, .int .i64 now] W (DueMid M X cs) ∧
      (∀ v W', M v W' → Calls Try.prog 40 #[rv, .int .i64 now] W' (DueMid (N v) X cs)) ∧
      ∀ v u W', N v u W' → Calls Try.prog 28 #[v, u] W' (DueEnd w k sv rv X cs) := by
  rcases h.out with ⟨rfl, rfl⟩ | ⟨s, slots, S, q, g, r, v, rfl, rfl, h3, h4⟩
  · refine ⟨fun v W' => v = .slice none 0 0 ∧ PX w k (.pointer none) (.pointer none) X cs W', fun v u W' => v = .slice none 0 0 ∧ u = .slice none 0 0 ∧ PX w k (.pointer none) (.pointer none) X cs W',
      (edue_bad W _ ⟨.inl rfl⟩ now).mono fun e W' ⟨h1, h2⟩ => ?_, fun v W' ⟨hv, hM⟩ => (rdue_nil W' now).mono fun e W'' ⟨h1, h2⟩ => ?_, fun v u W' ⟨hv, hu, hN⟩ => ?_⟩
    · subst h2; exact ⟨⟨_, h1, rfl, h⟩, h.xb⟩
    · subst h2; exact ⟨⟨_, h1, hv, rfl, hM⟩, hM.xb⟩
    · subst hv; subst hu
      exact (same_nil W').mono fun e W'' ⟨h1, h2⟩ => ⟨h1, hN.below h2⟩
  · refine ⟨fun vo W' => ∃ g', PMid w k s slots S (S.drop (dueN S now)) q g' r v X cs W' ∧ RowN W.heap.size W' vo ((S.take (dueN S now)).map (·.1)),
      fun vo uo W' => IntSl W' vo ((S.take (dueN S now)).map (·.1)) ∧ IntSl W' uo ((S.take (dueN S now)).map (·.1)) ∧ PX w k (.pointer (some ⟨s, 0, none⟩)) (.pointer (some ⟨r, 0, none⟩)) X cs W',
      (edue_ok W s slots S q g h3.eo.obj now).mono fun e W' ⟨vo, g', h1, ho, hrow, hm, hf, hv⟩ => ?_, fun vo W' ⟨g', hM, hR⟩ => (rdue_ok W' r slots S v hM.ro now).mono fun e W'' ⟨uo, u, h1, hi⟩ => ?_, fun vo uo W' ⟨i1, i2, hN⟩ => ?_⟩
    · have := h3.mid h.xb h.xn h4 ho hm hf
      exact ⟨⟨vo, h1, g', this, RowN.due (dueN_le S now) hrow hv⟩, this.xb⟩
    · have hl : ((S.take (dueN S now)).map (·.1)).length = dueN S now := by have := dueN_le S now; simp; omega
      have hP := hM.done hi.obj hi.mod hi.nu (k' := k) (by rw [List.length_drop]; have := h3.len; omega) (fun e he => h3.key e (List.mem_of_mem_drop he))
      refine ⟨⟨uo, h1, (hR.mod hi.mod (fun x hx => ?_)).sl, IntSl.of_owns (e := 3) (by rw [hl, List.map_map]; exact hi.row), hP⟩, hP.xb⟩
      rw [hx]; exact h3.ro.lt r (.inl rfl)
    · have hl : ((S.take (dueN S now)).map (·.1)).length ≤ 1000000 := by have := h3.len; simp; omega
      refine (same35 W' vo uo _ _ i1 i2 hl hl).mono fun e W'' ⟨h1, h2⟩ => ⟨?_, hN.below h2⟩
      rw [h1]; simp [sameB]

structure PEnd (b : Bool) (w : World) (k : Nat) (sv rv : Value) (X : Nat) (cs : List Value) (W W' : World) : Prop where
  st : PX w k sv rv X cs W'

theorem both_agree {w : World} {k : Nat} {sv rv : Value} {W : World} (h : PState w k sv rv W) (slot now : Int) (hnow : I64 now) :
    Calls Try.prog 32 #[sv, rv, .int .i64 slot, .int .i64 now] W (RetB (.bool true) W) := by
  rcases h.out with ⟨rfl, rfl⟩ | ⟨s, slots, S, q, g, r, v, rfl, rfl, h3⟩
  · exact agree_nil W slot now
  · exact agree_ok W s slots S q g h3.eo.obj r v h3.ro slot now h3.key hnow

structure CopyMid (M : Value → World → Prop) (X : Nat) (cs : List Value) (e : Ending) (W : World) : Prop where
  out : ∃ p, e = .returned (.pointer p) ∧ M (.pointer p) W

structure CopyEnd (w : World) (k : Nat) (sv : Value) (X : Nat) (cs : List Value) (e : Ending) (W : World) : Prop where
  out : ∃ p, e = .returned (.pointer p) ∧ PX w k sv (.pointer p) X cs W

theorem both_copy {w : World} {k : Nat} {sv rv : Value} {X : Nat} {cs : List Value} {W : World} (h : PX w k sv rv X cs W) :
    ∃ (M : Value → World → Prop), Calls Try.prog 36 #[sv] W (CopyMid M X cs) ∧
      ∀ v W', M v W' → Calls Try.prog 41 #[rv] W' (CopyEnd w k v X cs) := by
  rcases h.out with ⟨rfl, rfl⟩ | ⟨s, slots, S, q, g, r, v, rfl, rfl, h3, h4⟩
  · refine ⟨fun v W' => v = .pointer none ∧ PX w k (.pointer none) (.pointer none) X cs W', (ecopy_bad W _ ⟨.inl rfl⟩).mono fun e W' ⟨h1, h2⟩ => ?_, fun v W' ⟨hv, hM⟩ => (rcopy_nil W').mono fun e W'' ⟨h1, h2⟩ => ?_⟩
    · subst h2; exact ⟨none, h1, rfl, h⟩
    · subst h2; subst hv; exact ⟨none, h1, hM⟩
  · refine ⟨fun sv' W' => ∃ s' q' g', sv' = .pointer (some ⟨s', 0, none⟩) ∧ EFresh W s' slots S q' g' W' ∧ Below W.heap.size W W', (ecopy_ok W s slots S q g h3.eo.obj).mono fun e W' ⟨s', q', g', hf, h1⟩ => ?_, fun sv' W' ⟨s', q', g', h1, hf, hb⟩ => ?_⟩
    · exact ⟨_, h1, s', q', g', rfl, hf, hf.bel⟩
    · subst h1
      have hX := h.below hb
      refine (rcopy_ok W' r slots S v (h3.ro.below hb)).mono fun e W'' ⟨hb2, r', v', ho, hr', hv', he⟩ => ⟨_, he, ?_⟩
      have hX2 := hX.below hb2
      have hs1 := hb.size
      have hs2 := hb2.size
      have hs0 := h.bel.size
      have hf2 := hf.below hb2
      refine ⟨hX2.bel, hX2.xb, h.xn, .inr ⟨s', slots, S, q', g', r', v', rfl, rfl, ⟨hf2.rebase h.bel, ho, by omega, fun x hx => by have := hv' x hx; omega, fun x a1 a2 => ?_, h3.len, h3.key⟩, fun e => ?_, fun e => ?_, fun e => ?_, fun e => ?_⟩⟩
      · have a3 := hf.obj.lt x a1
        rcases a2 with a2 | a2
        · omega
        · have := hv' x a2; omega
      · have := hf.foot X e; have := h.xb.lt; omega
      · have := hf.hs; have := h.xb.lt; omega
      · have := h.xb.lt; omega
      · have := hv' X e; have := h.xb.lt; omega

structure EndMid (M : Value → World → Prop) (e : Ending) (W : World) : Prop where
  out : ∃ v, e = .returned v ∧ M v W

structure EndSame (Fin : World → Prop) (e : Ending) (W : World) : Prop where
  val : e = .returned (.bool true)
  fin : Fin W

/-- At the end all is due. -/
theorem both_end {w : World} {k : Nat} {sv rv : Value} {W : World} (h : PState w k sv rv W) (hk : k ≤ 65536) :
    ∃ (M : Value → World → Prop) (N : Value → Value → World → Prop) (Fin : World → Prop), Calls Try.prog 29 #[sv, .int .i64 9223372036854775807] W (EndMid M) ∧
      (∀ v W', M v W' → Calls Try.prog 40 #[rv, .int .i64 9223372036854775807] W' (EndMid (N v))) ∧
      (∀ v u W', N v u W' → Calls Try.prog 28 #[v, u] W' (EndSame Fin)) ∧
      (∀ W', Fin W' → Calls Try.prog 33 #[sv] W' (Ret (.int .i64 0) W')) ∧ ∀ W', Fin W' → Below w.heap.size w W' := by
  rcases h.out with ⟨rfl, rfl⟩ | ⟨s, slots, S, q, g, r, v, rfl, rfl, h3⟩
  · refine ⟨fun v W' => v = .slice none 0 0 ∧ Below w.heap.size w W', fun v u W' => v = .slice none 0 0 ∧ u = .slice none 0 0 ∧ Below w.heap.size w W', fun W' => Below w.heap.size w W',
      (edue_bad W _ ⟨.inl rfl⟩ _).mono fun e W' ⟨h1, h2⟩ => ?_, fun v W' ⟨hv, hM⟩ => (rdue_nil W' _).mono fun e W'' ⟨h1, h2⟩ => ?_, fun v u W' ⟨hv, hu, hN⟩ => ?_, fun W' _ => elen_bad W' _ ⟨.inl rfl⟩, fun W' h => h⟩
    · subst h2; exact ⟨_, h1, rfl, h.bel⟩
    · subst h2; exact ⟨_, h1, hv, rfl, hM⟩
    · subst hv; subst hu
      exact (same_nil W').mono fun e W'' ⟨h1, h2⟩ => ⟨h1, hN.trans (h2.mono hN.size)⟩
  · have hall : dueN S 9223372036854775807 = S.length := dueN_all (fun e he => (h3.key e he).2)
    refine ⟨fun vo W' => ∃ g', EFresh w s slots [] q g' W' ∧ RObj W' r slots S v ∧ (∀ x, (g'.foot x ∨ x = s) → (x = r ∨ v.ownBlock = some x) → False) ∧ RowN W.heap.size W' vo (S.map (·.1)),
      fun vo uo W' => IntSl W' vo (S.map (·.1)) ∧ IntSl W' uo (S.map (·.1)) ∧ ∃ g', EFresh w s slots [] q g' W', fun W' => ∃ g', EFresh w s slots [] q g' W',
      (edue_ok W s slots S q g h3.eo.obj _).mono fun e W' ⟨vo, g', h1, ho, hrow, hm, hf, hv⟩ => ?_, fun vo W' ⟨g', hE, hR, hap, hN⟩ => (rdue_ok W' r slots S v hR _).mono fun e W'' ⟨uo, u, h1, hi⟩ => ?_, fun vo uo W' ⟨i1, i2, g', hE⟩ => ?_, fun W' ⟨g', hE⟩ => elen_ok W' s slots [] q g' hE.obj, fun W' ⟨g', hE⟩ => hE.bel⟩
    · have hr := RowN.due (dueN_le S _) hrow hv
      rw [hall, List.take_length] at hr
      rw [hall, List.drop_length] at ho
      refine ⟨vo, h1, g', h3.eo.step ho hm hf, h3.ro.mod hm (fun e => h3.ap r (.inl e) (.inl rfl)) (fun x hx e => h3.ap x (.inl e) (.inr hx)), fun x a1 a2 => ?_, hr⟩
      rcases a1 with a1 | a1
      · rcases hf x a1 with a3 | a3
        · exact h3.ap x (.inl a3) a2
        · have := h3.ro.lt x a2; omega
      · exact h3.ap x (.inr a1) a2
    · have hrow := hi.row
      rw [hall, List.take_length] at hrow
      have hsz := hE.bel.size
      refine ⟨uo, h1, (hN.mod hi.mod (fun x hx => by rw [hx]; exact h3.ro.lt r (.inl rfl))).sl, IntSl.of_owns (e := 3) (by rw [List.length_map, List.map_map]; exact hrow), g', ?_⟩
      exact ⟨hE.obj.mod hi.mod (fun x hx e => hap x (.inl hx) (.inl e)) (fun e => hap s (.inr rfl) (.inl e)), hE.bel.trans (hi.mod.below hsz (fun x hx => by rw [hx]; exact h3.rn)), hE.foot, hE.hs⟩
    · have hl : (S.map (·.1)).length ≤ 1000000 := by have := h3.len; rw [List.length_map]; omega
      refine (same35 W' vo uo _ _ i1 i2 hl hl).mono fun e W'' ⟨h1, h2⟩ => ⟨?_, g', hE.below h2⟩
      rw [h1]; simp [sameB]

end Go.Proofs.Ytebclbpibafkdaa
