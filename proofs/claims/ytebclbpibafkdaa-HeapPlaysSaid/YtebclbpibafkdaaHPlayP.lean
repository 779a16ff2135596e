/- HeapPlays: the heap and the reference's, step by step. -/
import Derived.Test.YtebclbpibafkdaaAgree4
import Derived.Test.YtebclbpibafkdaaCopyW
namespace Go.Proofs.Ytebclbpibafkdaa
set_option linter.unusedVariables false
set_option linter.unusedSimpArgs false
open Go.RowKit

/-- A heap and the reference's in the same state, both made since w. -/
structure QObj (w : World) (k b slots : Nat) (S L : List Ent) (g : HG) (r : Nat) (v : Value) (W : World) : Prop where
  ho : HObj W b slots S g
  bel : Below w.heap.size w W
  foot : ∀ x, g.foot x → w.heap.size ≤ x
  ro : R4Obj W r slots L v
  perm : S.Perm L
  rn : w.heap.size ≤ r
  vn : ∀ x, v.ownBlock = some x → w.heap.size ≤ x
  ap : ∀ x, g.foot x → (x = r ∨ v.ownBlock = some x) → False
  len : L.length ≤ k

theorem QObj.below {w : World} {k b slots : Nat} {S L : List Ent} {g : HG} {r : Nat} {v : Value} {W W' : World} (h : QObj w k b slots S L g r v W) (hb : Below W.heap.size W W') : QObj w k b slots S L g r v W' :=
  ⟨h.ho.below hb, h.bel.trans (hb.mono h.bel.size), h.foot, h.ro.below hb, h.perm, h.rn, h.vn, h.ap, h.len⟩

structure QState (w : World) (k : Nat) (sv rv : Value) (W : World) : Prop where
  bel : Below w.heap.size w W
  out : (sv = .pointer none ∧ rv = .pointer none) ∨ ∃ b slots S L g r v, sv = .pointer (some ⟨b, 0, none⟩) ∧ rv = .pointer (some ⟨r, 0, none⟩) ∧ QObj w k b slots S L g r v W

/-- A block beside them. -/
structure QX (w : World) (k : Nat) (sv rv : Value) (X : Nat) (cs : List Value) (W : World) : Prop where
  bel : Below w.heap.size w W
  xb : Blk W X 85 cs
  xn : w.heap.size ≤ X
  out : (sv = .pointer none ∧ rv = .pointer none) ∨ ∃ b slots S L g r v, sv = .pointer (some ⟨b, 0, none⟩) ∧ rv = .pointer (some ⟨r, 0, none⟩) ∧ QObj w k b slots S L g r v W ∧ (¬ g.foot X ∧ X ≠ r ∧ v.ownBlock ≠ some X)

theorem QX.below {w : World} {k : Nat} {sv rv : Value} {X : Nat} {cs : List Value} {W W' : World} (h : QX w k sv rv X cs W) (hb : Below W.heap.size W W') : QX w k sv rv X cs W' := by
  refine ⟨h.bel.trans (hb.mono h.bel.size), h.xb.below hb h.xb.lt, h.xn, ?_⟩
  rcases h.out with h1 | ⟨b, slots, S, L, g, r, v, h1, h2, h3, h4⟩
  · exact .inl h1
  · exact .inr ⟨b, slots, S, L, g, r, v, h1, h2, h3.below hb, h4⟩

theorem QX.state {w : World} {k : Nat} {sv rv : Value} {X : Nat} {cs : List Value} {W : World} (h : QX w k sv rv X cs W) : QState w k sv rv W := by
  refine ⟨h.bel, ?_⟩
  rcases h.out with h1 | ⟨b, slots, S, L, g, r, v, h1, h2, h3, h4⟩
  · exact .inl h1
  · exact .inr ⟨b, slots, S, L, g, r, v, h1, h2, h3⟩

theorem QState.with {w : World} {k : Nat} {sv rv : Value} {W : World} (h : QState w k sv rv W) (cs : List Value) : QX w k sv rv W.heap.size cs (W.alloc (.cells cs.toArray 85)) := by
  have hb : Below W.heap.size W (W.alloc (.cells cs.toArray 85)) := (Below.refl _ _).alloc (Nat.le_refl _) _
  refine ⟨h.bel.trans (hb.mono h.bel.size), Blk.new W _ _, h.bel.size, ?_⟩
  rcases h.out with h1 | ⟨b, slots, S, L, g, r, v, h1, h2, h3⟩
  · exact .inl h1
  · refine .inr ⟨b, slots, S, L, g, r, v, h1, h2, h3.below hb, fun e => ?_, fun e => ?_, fun e => ?_⟩
    · have := h3.ho.rep.foot_lt _ e; omega
    · have := h3.ro.lt _ (.inl rfl); omega
    · have := h3.ro.lt _ (.inr e); omega

theorem QX.more {w : World} {k k' : Nat} {sv rv : Value} {X : Nat} {cs : List Value} {W : World} (h : QX w k sv rv X cs W) (hk : k ≤ k') : QX w k' sv rv X cs W := by
  refine ⟨h.bel, h.xb, h.xn, ?_⟩
  rcases h.out with h1 | ⟨b, slots, S, L, g, r, v, h1, h2, h3, h4⟩
  · exact .inl h1
  · exact .inr ⟨b, slots, S, L, g, r, v, h1, h2, ⟨h3.ho, h3.bel, h3.foot, h3.ro, h3.perm, h3.rn, h3.vn, h3.ap, Nat.le_trans h3.len hk⟩, h4⟩

/-- The heap's step; the reference's follows. -/
structure QMid (w : World) (b slots : Nat) (S' L : List Ent) (g : HG) (r : Nat) (v : Value) (X : Nat) (cs : List Value) (W : World) : Prop where
  ho : HObj W b slots S' g
  bel : Below w.heap.size w W
  foot : ∀ x, g.foot x → w.heap.size ≤ x
  ro : R4Obj W r slots L v
  rn : w.heap.size ≤ r
  vn : ∀ x, v.ownBlock = some x → w.heap.size ≤ x
  ap : ∀ x, g.foot x → (x = r ∨ v.ownBlock = some x) → False
  xb : Blk W X 85 cs
  xn : w.heap.size ≤ X
  xa : ¬ g.foot X ∧ X ≠ r ∧ v.ownBlock ≠ some X

theorem QMid.below {w : World} {b slots : Nat} {S' L : List Ent} {g : HG} {r : Nat} {v : Value} {X : Nat} {cs : List Value} {W W' : World} (h : QMid w b slots S' L g r v X cs W) (hb : Below W.heap.size W W') : QMid w b slots S' L g r v X cs W' :=
  ⟨h.ho.below hb, h.bel.trans (hb.mono h.bel.size), h.foot, h.ro.below hb, h.rn, h.vn, h.ap, h.xb.below hb h.xb.lt, h.xn, h.xa⟩

theorem QObj.mid {w : World} {k b slots : Nat} {S L : List Ent} {g : HG} {r : Nat} {v : Value} {W : World} (h : QObj w k b slots S L g r v W) {X : Nat} {cs : List Value} (xb : Blk W X 85 cs) (xn : w.heap.size ≤ X) (xa : ¬ g.foot X ∧ X ≠ r ∧ v.ownBlock ≠ some X)
    {S' : List Ent} {g' : HG} {W' : World} (ho : HObj W' b slots S' g') (hm : Mod g.foot W W') (hf : ∀ k, g'.foot k → g.foot k ∨ W.heap.size ≤ k) : QMid w b slots S' L g' r v X cs W' := by
  have hsz := h.bel.size
  refine ⟨ho, h.bel.trans (hm.below hsz h.foot), fun x hx => ?_, h.ro.mod hm (fun e => h.ap r e (.inl rfl)) (fun x hx e => h.ap x e (.inr hx)), h.rn, h.vn, fun x h1 h2 => ?_, xb.mod hm xa.1, xn, fun e => ?_, xa.2⟩
  · rcases hf x hx with a | a
    · exact h.foot x a
    · omega
  · rcases hf x h1 with h3 | h3
    · exact h.ap x h3 h2
    · have := h.ro.lt x h2; omega
  · rcases hf X e with h3 | h3
    · exact xa.1 h3
    · have := xb.lt; omega

theorem QMid.done {w : World} {b slots : Nat} {S' L L' : List Ent} {g : HG} {r : Nat} {v : Value} {X : Nat} {cs : List Value} {W : World} (h : QMid w b slots S' L g r v X cs W)
    {v' : Value} {W' : World} {k' : Nat} (ho : R4Obj W' r slots L' v') (hm : Mod (fun x => x = r ∨ v.ownBlock = some x) W W') (hn : ∀ x, v'.ownBlock = some x → v.ownBlock = some x ∨ W.heap.size ≤ x) (hp : S'.Perm L') (hl : L'.length ≤ k') :
    QX w k' (.pointer (some ⟨b, 0, none⟩)) (.pointer (some ⟨r, 0, none⟩)) X cs W' := by
  have hsz := h.bel.size
  have hb : Below w.heap.size w W' := h.bel.trans (hm.below hsz (fun x hx => by
    rcases hx with hx | hx
    · rw [hx]; exact h.rn
    · exact h.vn x hx))
  refine ⟨hb, h.xb.mod hm (fun e => by rcases e with e | e; exact h.xa.2.1 e; exact h.xa.2.2 e), h.xn, .inr ⟨b, slots, S', L', g, r, v', rfl, rfl, ⟨h.ho.mod hm (fun x hx e => h.ap x hx e), hb, h.foot, ho, hp, h.rn, fun x hx => ?_, fun x h1 h2 => ?_, hl⟩, h.xa.1, h.xa.2.1, fun e => ?_⟩⟩
  · rcases hn x hx with h1 | h1
    · exact h.vn x h1
    · omega
  · rcases h2 with h2 | h2
    · exact h.ap x h1 (.inl h2)
    · rcases hn x h2 with h3 | h3
      · exact h.ap x h1 (.inr h3)
      · have := h.ho.rep.foot_lt x h1; omega
  · rcases hn X e with h3 | h3
    · exact h.xa.2.2 h3
    · have := h.xb.lt; omega

structure StepMid4 (e0 : Int) (M : World → Prop) (X : Nat) (cs : List Value) (e : Ending) (W : World) : Prop where
  val : e = .returned (.int .i64 e0)
  mid : M W
  xb : Blk W X 85 cs

structure StepEnd4 (e0 : Int) (w : World) (k : Nat) (sv rv : Value) (X : Nat) (cs : List Value) (e : Ending) (W : World) : Prop where
  val : e = .returned (.int .i64 e0)
  st : QX w k sv rv X cs W

theorem same_mid {w : World} {k : Nat} {X : Nat} {cs : List Value} {W : World} {b r : Nat} (h : QX w k (.pointer (some ⟨b, 0, none⟩)) (.pointer (some ⟨r, 0, none⟩)) X cs W) (e0 : Int) (f1 f2 : FuncId) (a1 a2 : Array Value)
    (h1 : Calls Try.prog f1 a1 W (Ret (.int .i64 e0) W)) (h2 : Calls Try.prog f2 a2 W (Ret (.int .i64 e0) W)) :
    ∃ (e0 : Int) (M : World → Prop), Calls Try.prog f1 a1 W (StepMid4 e0 M X cs) ∧ ∀ W', M W' → Calls Try.prog f2 a2 W' (StepEnd4 e0 w (k + 1) (.pointer (some ⟨b, 0, none⟩)) (.pointer (some ⟨r, 0, none⟩)) X cs) := by
  refine ⟨e0, fun W' => W = W', h1.mono fun e W' ⟨x1, x2⟩ => ⟨x1, x2, by subst x2; exact h.xb⟩, fun W' hM => ?_⟩
  subst hM
  exact h2.mono fun e W' ⟨x1, x2⟩ => ⟨x1, by subst x2; exact h.more (by omega)⟩

theorem perm_mem_has {S L : List Ent} (hp : S.Perm L) {i : Int} {p : Nat} (hpl : p < L.length) (he : (ent L p).1 = i) : (i, (ent L p).2) ∈ S := by
  rw [← he]; exact hp.mem_iff.2 (ent_mem hpl)

theorem nodup_perm {w : World} {b slots : Nat} {S L : List Ent} {g : HG} (h : HObj w b slots S g) (hp : S.Perm L) : (L.map (·.1)).Nodup := (hp.map _).nodup_iff.1 h.nodupS

theorem both_push4 {w : World} {k : Nat} {sv rv : Value} {X : Nat} {cs : List Value} {W : World} (h : QX w k sv rv X cs W) (hk : k < 65536) (i key : Int) :
    ∃ (e0 : Int) (M : World → Prop), Calls Try.prog 49 #[sv, .int .i64 i, .int .i64 key] W (StepMid4 e0 M X cs) ∧
      ∀ W', M W' → Calls Try.prog 52 #[rv, .int .i64 i, .int .i64 key] W' (StepEnd4 e0 w (k + 1) sv rv X cs) := by
  rcases h.out with ⟨rfl, rfl⟩ | ⟨b, slots, S, L, g, r, v, rfl, rfl, h3, h4⟩
  · refine ⟨1, fun W' => W = W', (push_bad W _ ⟨.inl rfl⟩ i key).mono fun e W' ⟨h1, h2⟩ => ⟨h1, h2, by subst h2; exact h.xb⟩, fun W' hM => ?_⟩
    subst hM
    exact (r4push_nil W i key).mono fun e W' ⟨h1, h2⟩ => ⟨h1, by subst h2; exact h.more (by omega)⟩
  · by_cases hr : 0 ≤ i ∧ i < slots
    · rcases rfind_cases i L with ⟨p, hpl, hf, he⟩ | ⟨hf, hno⟩
      · have hm := perm_mem_has h3.perm hpl he
        obtain ⟨n, rfl⟩ := Int.eq_ofNat_of_zero_le hr.1
        exact same_mid h 6 _ _ _ _ (push_have W b slots S g h3.ho n key (by omega) ⟨_, hm, rfl⟩) (r4push_have W r slots L v h3.ro n key hr.1 hr.2 p hf)
      · have hno' : ∀ e ∈ S, e.1 ≠ i := fun e he => hno e (h3.perm.mem_iff.1 he)
        obtain ⟨n, rfl⟩ := Int.eq_ofNat_of_zero_le hr.1
        refine ⟨0, fun W' => ∃ g', QMid w b slots (ins ((n : Int), key) S) L g' r v X cs W', (push_ok W b slots S g h3.ho n key (by omega) hno').mono fun e W' ⟨h1, g', ho, hm, hff⟩ => ?_, fun W' ⟨g', hM⟩ => ?_⟩
        · have := h3.mid h.xb h.xn h4 ho hm hff
          exact ⟨h1, ⟨g', this⟩, this.xb⟩
        · refine (r4push_ok W' r slots L v hM.ro n key hr.1 hr.2 hf (by have := h3.len; omega)).mono fun e W'' ⟨h1, u, ho, hm, hn⟩ => ⟨h1, ?_⟩
          refine hM.done ho hm hn ?_ (by rw [List.length_append]; have := h3.len; simp only [List.length_cons, List.length_nil]; omega)
          exact (ins_perm _ _).trans ((h3.perm.cons _).trans (List.perm_append_singleton _ _).symm)
    · exact same_mid h 3 _ _ _ _ (push_range W b slots S g h3.ho i key hr) (r4push_range W r slots L v h3.ro i key hr)

theorem both_remove4 {w : World} {k : Nat} {sv rv : Value} {X : Nat} {cs : List Value} {W : World} (h : QX w k sv rv X cs W) (i : Int) :
    ∃ (e0 : Int) (M : World → Prop), Calls Try.prog 47 #[sv, .int .i64 i] W (StepMid4 e0 M X cs) ∧
      ∀ W', M W' → Calls Try.prog 54 #[rv, .int .i64 i] W' (StepEnd4 e0 w (k + 1) sv rv X cs) := by
  rcases h.out with ⟨rfl, rfl⟩ | ⟨b, slots, S, L, g, r, v, rfl, rfl, h3, h4⟩
  · refine ⟨1, fun W' => W = W', (remove_bad W _ ⟨.inl rfl⟩ i).mono fun e W' ⟨h1, h2⟩ => ⟨h1, h2, by subst h2; exact h.xb⟩, fun W' hM => ?_⟩
    subst hM
    exact (r4remove_nil W i).mono fun e W' ⟨h1, h2⟩ => ⟨h1, by subst h2; exact h.more (by omega)⟩
  · by_cases hr : 0 ≤ i ∧ i < slots
    · rcases rfind_cases i L with ⟨p, hpl, hf, he⟩ | ⟨hf, hno⟩
      · have hm0 := perm_mem_has h3.perm hpl he
        have hnd := nodup_perm h3.ho h3.perm
        obtain ⟨n, rfl⟩ := Int.eq_ofNat_of_zero_le hr.1
        refine ⟨0, fun W' => ∃ g', QMid w b slots (del (n : Int) S) L g' r v X cs W', (remove_some W b slots S g h3.ho n (by omega) _ hm0).mono fun e W' ⟨h1, g', ho, hm, hff⟩ => ?_, fun W' ⟨g', hM⟩ => ?_⟩
        · have := h3.mid h.xb h.xn h4 ho hm hff
          exact ⟨h1, ⟨g', this⟩, this.xb⟩
        · refine (r4remove_some W' r slots L v hM.ro n hr.1 hr.2 p hpl hf).mono fun e W'' ⟨h1, u, ho, hm, hn⟩ => ⟨h1, ?_⟩
          rw [wo_del hnd hpl he] at ho
          refine hM.done ho hm hn (h3.perm.filter _) ?_
          have : (del (n : Int) L).length ≤ L.length := by unfold del; exact List.length_filter_le _ _
          have := h3.len; omega
      · have hno' : ∀ e ∈ S, e.1 ≠ i := fun e he => hno e (h3.perm.mem_iff.1 he)
        obtain ⟨n, rfl⟩ := Int.eq_ofNat_of_zero_le hr.1
        exact same_mid h 5 _ _ _ _ (remove_none W b slots S g h3.ho n (by omega) hno') (r4remove_none W r slots L v h3.ro n hr.1 hr.2 hf)
    · exact same_mid h 3 _ _ _ _ (remove_range W b slots S g h3.ho i hr) (r4remove_range W r slots L v h3.ro i hr)

theorem both_change4 {w : World} {k : Nat} {sv rv : Value} {X : Nat} {cs : List Value} {W : World} (h : QX w k sv rv X cs W) (i key : Int) :
    ∃ (e0 : Int) (M : World → Prop), Calls Try.prog 48 #[sv, .int .i64 i, .int .i64 key] W (StepMid4 e0 M X cs) ∧
      ∀ W', M W' → Calls Try.prog 53 #[rv, .int .i64 i, .int .i64 key] W' (StepEnd4 e0 w (k + 1) sv rv X cs) := by
  rcases h.out with ⟨rfl, rfl⟩ | ⟨b, slots, S, L, g, r, v, rfl, rfl, h3, h4⟩
  · refine ⟨1, fun W' => W = W', (change_bad W _ ⟨.inl rfl⟩ i key).mono fun e W' ⟨h1, h2⟩ => ⟨h1, h2, by subst h2; exact h.xb⟩, fun W' hM => ?_⟩
    subst hM
    exact (r4change_nil W i key).mono fun e W' ⟨h1, h2⟩ => ⟨h1, by subst h2; exact h.more (by omega)⟩
  · by_cases hr : 0 ≤ i ∧ i < slots
    · rcases rfind_cases i L with ⟨p, hpl, hf, he⟩ | ⟨hf, hno⟩
      · have hm0 := perm_mem_has h3.perm hpl he
        have hnd := nodup_perm h3.ho h3.perm
        have hd := wo_del hnd hpl he
        obtain ⟨n, rfl⟩ := Int.eq_ofNat_of_zero_le hr.1
        refine ⟨0, fun W' => ∃ g', QMid w b slots (ins ((n : Int), key) (del (n : Int) S)) L g' r v X cs W', (change_some W b slots S g h3.ho n (by omega) _ key hm0).mono fun e W' ⟨h1, g', ho, hm, hff⟩ => ?_, fun W' ⟨g', hM⟩ => ?_⟩
        · have := h3.mid h.xb h.xn h4 ho hm hff
          exact ⟨h1, ⟨g', this⟩, this.xb⟩
        · refine (r4change_some W' r slots L v hM.ro n key hr.1 hr.2 p hpl hf hd).mono fun e W'' ⟨h1, u, ho, hm, hn⟩ => ⟨h1, ?_⟩
          refine hM.done ho hm hn ?_ ?_
          · exact (ins_perm _ _).trans (((h3.perm.filter _).cons _).trans (List.perm_append_singleton _ _).symm)
          · have : (del (n : Int) L).length ≤ L.length := by unfold del; exact List.length_filter_le _ _
            rw [List.length_append]; have := h3.len; simp only [List.length_cons, List.length_nil]; omega
      · have hno' : ∀ e ∈ S, e.1 ≠ i := fun e he => hno e (h3.perm.mem_iff.1 he)
        obtain ⟨n, rfl⟩ := Int.eq_ofNat_of_zero_le hr.1
        exact same_mid h 5 _ _ _ _ (change_none W b slots S g h3.ho n key (by omega) hno') (r4change_ret 5 (by omega) W _ n key (r4remove_none W r slots L v h3.ro n hr.1 hr.2 hf))
    · exact same_mid h 3 _ _ _ _ (change_range W b slots S g h3.ho i key hr) (r4change_ret 3 (by omega) W _ i key (r4remove_range W r slots L v h3.ro i hr))

structure PopMid4 (v : Value) (M : World → Prop) (F : Nat → Prop) (e : Ending) (W : World) : Prop where
  val : e = .returned v
  mid : M W
  lt : ∀ x, F x → x < W.heap.size

structure PopEnd4 (v : Value) (F : Nat → Prop) (w : World) (k : Nat) (sv rv : Value) (X : Nat) (cs : List Value) (W' : World) (e : Ending) (W : World) : Prop where
  val : e = .returned v
  st : QX w k sv rv X cs W
  mod : Mod F W' W

theorem del_head {x : Ent} {S : List Ent} (hn : ((x :: S).map (·.1)).Nodup) : del x.1 (x :: S) = S := by
  unfold del
  rw [List.filter_cons, if_neg (by simp), List.filter_eq_self]
  intro a ha
  rw [List.map_cons, List.nodup_cons] at hn
  simp only [bne_iff_ne, ne_eq]
  intro e
  exact hn.1 (List.mem_map.2 ⟨a, ha, e⟩)

/-- Pop of both. -/
theorem both_pop4 {w : World} {k : Nat} {sv rv : Value} {X : Nat} {cs : List Value} {W : World} (h : QX w k sv rv X cs W) :
    ∃ (a0 a1 : Int) (t : Bool) (M : World → Prop) (F : Nat → Prop), (∀ W' W'', M W' → Below W'.heap.size W' W'' → M W'') ∧
      Calls Try.prog 23 #[sv] W (PopMid4 (.tuple #[.agg #[.int .i64 a0, .int .i64 a1], .bool t]) M F) ∧
      ∀ W', M W' → Calls Try.prog 55 #[rv] W' (PopEnd4 (.tuple #[.agg #[.int .i64 a0, .int .i64 a1], .bool t]) F w (k + 1) sv rv X cs W') := by
  rcases h.out with ⟨rfl, rfl⟩ | ⟨b, slots, S, L, g, r, v, rfl, rfl, h3, h4⟩
  · refine ⟨0, 0, false, fun W' => QX w k (.pointer none) (.pointer none) X cs W', fun _ => False, fun W' W'' hM hb => hM.below hb, (pop_bad W _ ⟨.inl rfl⟩).mono fun e W' ⟨h1, h2⟩ => ⟨h1, h.below h2, fun _ e => e.elim⟩, fun W' hM => ?_⟩
    exact (r4pop_none W' _ (fun V _ => r4min_nil V)).mono fun e W'' ⟨h1, h2⟩ => ⟨h1, (hM.below h2).more (by omega), Mod.of_below h2⟩
  · cases S with
    | nil =>
      have hL : L = [] := h3.perm.symm.eq_nil
      subst hL
      refine ⟨0, 0, false, fun W' => QX w k (.pointer (some ⟨b, 0, none⟩)) (.pointer (some ⟨r, 0, none⟩)) X cs W' ∧ R4Obj W' r slots [] v, fun _ => False, fun W' W'' hM hb => ⟨hM.1.below hb, hM.2.below hb⟩,
        (pop_empty W b slots g h3.ho).mono fun e W' ⟨h1, h2⟩ => ⟨h1, ⟨h.below h2, h3.ro.below h2⟩, fun _ e => e.elim⟩, fun W' hM => ?_⟩
      exact (r4pop_none W' _ (fun V hV => r4min_any V r slots [] v (hM.2.below hV) [] List.Pairwise.nil (List.Perm.refl _))).mono fun e W'' ⟨h1, h2⟩ => ⟨h1, (hM.1.below h2).more (by omega), Mod.of_below h2⟩
    | cons x S =>
      have hs := h3.ho.sorted
      have hx := h3.ho.idx4 x List.mem_cons_self
      have hnd := h3.ho.nodupS
      have hndL := nodup_perm h3.ho h3.perm
      rcases rfind_cases x.1 L with ⟨p, hpl, hf, he⟩ | ⟨hf, hno⟩
      · refine ⟨x.1, x.2, true, fun W' => ∃ g', QMid w b slots S L g' r v X cs W', fun y => y = r ∨ v.ownBlock = some y, fun W' W'' ⟨g', hM⟩ hb => ⟨g', hM.below hb⟩,
          (pop_some W b slots x S g h3.ho).mono fun e W' ⟨h1, g', ho, hm, hff⟩ => ?_, fun W' ⟨g', hM⟩ => ?_⟩
        · have := h3.mid h.xb h.xn h4 ho hm hff
          exact ⟨h1, ⟨g', this⟩, fun y hy => this.ro.lt y hy⟩
        · refine (r4pop_some W' r slots L v hM.ro x S hs h3.perm hx.1 hx.2 p hpl hf).mono fun e W'' ⟨h1, u, ho, hm, hn⟩ => ⟨h1, ?_, hm⟩
          rw [wo_del hndL hpl he] at ho
          refine hM.done ho hm hn ?_ ?_
          · have := h3.perm.filter (fun e => e.1 != x.1)
            have e2 := del_head hnd
            unfold del at e2 ⊢
            rw [e2] at this
            exact this
          · have : (del x.1 L).length ≤ L.length := by unfold del; exact List.length_filter_le _ _
            have := h3.len; omega
      · exact absurd rfl (hno x (h3.perm.mem_iff.1 List.mem_cons_self))

theorem both_agree4 {w : World} {k : Nat} {sv rv : Value} {W : World} (h : QState w k sv rv W) (i : Int) :
    Calls Try.prog 46 #[sv, rv, .int .i64 i] W (RetB (.bool true) W) := by
  rcases h.out with ⟨rfl, rfl⟩ | ⟨b, slots, S, L, g, r, v, rfl, rfl, h3⟩
  · exact agree4_nil W i
  · exact agree4_ok W b slots S L g h3.ho r v h3.ro h3.perm i

structure CopyMid4 (M : Value → World → Prop) (e : Ending) (W : World) : Prop where
  out : ∃ p, e = .returned (.pointer p) ∧ M (.pointer p) W

structure CopyEnd4 (w : World) (k : Nat) (sv : Value) (X : Nat) (cs : List Value) (e : Ending) (W : World) : Prop where
  out : ∃ p, e = .returned (.pointer p) ∧ QX w k sv (.pointer p) X cs W

theorem both_copy4 {w : World} {k : Nat} {sv rv : Value} {X : Nat} {cs : List Value} {W : World} (h : QX w k sv rv X cs W) :
    ∃ (M : Value → World → Prop), Calls Try.prog 51 #[sv] W (CopyMid4 M) ∧
      ∀ v W', M v W' → Calls Try.prog 56 #[rv] W' (CopyEnd4 w k v X cs) := by
  rcases h.out with ⟨rfl, rfl⟩ | ⟨b, slots, S, L, g, r, v, rfl, rfl, h3, h4⟩
  · refine ⟨fun v W' => v = .pointer none ∧ QX w k (.pointer none) (.pointer none) X cs W', (copy_bad W _ ⟨.inl rfl⟩).mono fun e W' ⟨h1, h2⟩ => ?_, fun v W' ⟨hv, hM⟩ => (r4copy_nil W').mono fun e W'' ⟨h1, h2⟩ => ?_⟩
    · subst h2; exact ⟨none, h1, rfl, h⟩
    · subst h2; subst hv; exact ⟨none, h1, hM⟩
  · refine ⟨fun sv' W' => ∃ b' g', sv' = .pointer (some ⟨b', 0, none⟩) ∧ HObj W' b' slots S g' ∧ (∀ y, g'.foot y → W.heap.size ≤ y) ∧ Below W.heap.size W W', (copy_ok W b slots S g h3.ho).mono fun e W' ⟨hb, b', g', ho, hf, h1⟩ => ?_, fun sv' W' ⟨b', g', h1, ho, hf, hb⟩ => ?_⟩
    · exact ⟨_, h1, b', g', rfl, ho, hf, hb⟩
    · subst h1
      have hX := h.below hb
      refine (r4copy_ok W' r slots L v (h3.ro.below hb)).mono fun e W'' ⟨hb2, r', v', hro, hr', hv', he⟩ => ⟨_, he, ?_⟩
      have hX2 := hX.below hb2
      have hs1 := hb.size
      have hs2 := hb2.size
      have hs0 := h.bel.size
      refine ⟨hX2.bel, hX2.xb, h.xn, .inr ⟨b', slots, S, L, g', r', v', rfl, rfl, ⟨ho.below hb2, hX2.bel, fun y hy => by have := hf y hy; omega, hro, h3.perm, by omega, fun y hy => by have := hv' y hy; omega, fun y a1 a2 => ?_, h3.len⟩, fun e => ?_, fun e => ?_, fun e => ?_⟩⟩
      · have a3 := ho.rep.foot_lt y a1
        rcases a2 with a2 | a2
        · omega
        · have := hv' y a2; omega
      · have := hf X e; have := h.xb.lt; omega
      · have := h.xb.lt; omega
      · have := hv' X e; have := h.xb.lt; omega

end Go.Proofs.Ytebclbpibafkdaa
