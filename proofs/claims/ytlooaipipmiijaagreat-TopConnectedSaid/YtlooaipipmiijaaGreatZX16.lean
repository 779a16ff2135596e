/- Several texts in one: HeapG, HeapH, HeapJ, ExpA, ExpB. -/
import Derived.Test.YtlooaipipmiijaaGreatZX01
import Derived.Test.YtlooaipipmiijaaGreatZX15
namespace Go.Proofs.YtlooaipipmiijaaGreat
set_option linter.unusedVariables false
set_option linter.unusedSimpArgs false
open Go.RowKit
theorem HObj.below {w w' : World} {b slots : Nat} {S : List Ent} {g : HG} (h : HObj w b slots S g) (k : Below w.heap.size w w') : HObj w' b slots S g :=
  { h with rep := h.rep.below k }
theorem HObj.mod {F : Nat → Prop} {w w' : World} {b slots : Nat} {S : List Ent} {g : HG} (h : HObj w b slots S g) (m : Mod F w w') (hF : ∀ k, g.foot k → ¬ F k) : HObj w' b slots S g :=
  { h with rep := h.rep.mod m hF }
set_option maxHeartbeats 1000000 in
set_option maxRecDepth 100000 in
theorem min_empty (w : World) (b slots : Nat) (g : HG) (h : HObj w b slots [] g) :
    Calls Tryz.prog 88 #[.pointer (some ⟨b, 0, none⟩)] w (RetB (.tuple #[.agg #[.int .i64 0, .int .i64 0], .bool false]) w) := by
  have c0 := (h.rep.hb.alloc (.cells #[.int .i64 0, .int .i64 0] 99)).cell (i := 0) rfl
  have c2 := (h.rep.hb.alloc (.cells #[.int .i64 0, .int .i64 0] 99)).cell (i := 2) rfl
  have hl := h.perm.length_eq
  obtain ⟨ao, cp, hiv⟩ := owns_slice h.rep.hi
  rw [hiv, ← hl] at c2
  rw [h.hb] at c0 c2
  clear h hl hiv
  go_enter Tryz.func88, Tryz.ntmps88
  go_wp2_with (go_at_call 108; refine (valid_ok b _ c0).mono ?_; rintro e w' ⟨rfl, rfl⟩)
  exact bodyPost_ret (v := .tuple #[.agg #[.int .i64 0, .int .i64 0], .bool false]) (by simp [results, Tryz.results88, go_sem]) rfl ⟨rfl, (Below.refl _ _).alloc (Nat.le_refl _) _⟩
theorem HObj.first {w : World} {b slots : Nat} {e : Ent} {S : List Ent} {g : HG} (h : HObj w b slots (e :: S) g) : 0 < g.it.length ∧ ent g.it 0 = e := by
  have hl : 0 < g.it.length := by have := h.perm.length_eq; simp only [List.length_cons] at this; omega
  refine ⟨hl, ?_⟩
  obtain ⟨p, hp, he⟩ := mem_ent (h.perm.mem_iff.1 (List.mem_cons_self (a := e) (l := S)))
  have h1 := heapy_min h.heapy p hp
  rw [he] at h1
  have h2 : ent g.it 0 ∈ e :: S := h.perm.mem_iff.2 (ent_mem hl)
  rcases List.mem_cons.1 h2 with h3 | h3
  · exact h3
  · exact absurd ((List.pairwise_cons.1 h.sorted).1 _ h3) h1
set_option maxHeartbeats 1000000 in
set_option maxRecDepth 100000 in
theorem min_some (w : World) (b slots : Nat) (x : Ent) (S : List Ent) (g : HG) (h : HObj w b slots (x :: S) g) :
    Calls Tryz.prog 88 #[.pointer (some ⟨b, 0, none⟩)] w (RetB (.tuple #[.agg #[.int .i64 x.1, .int .i64 x.2], .bool true]) w) := by
  have hb1 : Below w.heap.size w (w.alloc (.cells #[.int .i64 0, .int .i64 0] 99)) := (Below.refl _ _).alloc (Nat.le_refl _) _
  obtain ⟨hl, he⟩ := h.first
  have hr := h.rep.below hb1
  obtain ⟨ib, cap, hv, hc1, hc2, hlt, h0, hcell⟩ := hr.at hl
  have c0 := hr.hb.cell (i := 0) rfl
  obtain ⟨k0, k1⟩ := hcell 0 hl
  rw [he] at k0 k1
  rw [h.hb] at c0 h0
  have hlen : g.it.length ≤ 65536 := Nat.le_trans h.good.len h.rep.hs
  generalize g.it.length = n at *
  have hne : ((n : Int) == 0) = false := beq_eq_false_iff_ne.2 (by omega)
  clear h hr hcell hv hb1 he
  go_enter Tryz.func88, Tryz.ntmps88
  go_wp2_with (go_at_call 108; refine (valid_ok b _ c0).mono ?_; rintro e w' ⟨rfl, rfl⟩)
  exact bodyPost_ret (v := .tuple #[.agg #[.int .i64 x.1, .int .i64 x.2], .bool true]) (by simp [results, Tryz.results88, go_sem]) rfl ⟨rfl, (Below.refl _ _).alloc (Nat.le_refl _) _⟩
structure PopPost (x : Ent) (w : World) (b slots : Nat) (S' : List Ent) (g : HG) (e : Ending) (w' : World) : Prop where
  val : e = .returned (.tuple #[.agg #[.int .i64 x.1, .int .i64 x.2], .bool true])
  out : ∃ g', HObj w' b slots S' g' ∧ Mod g.foot w w' ∧ ∀ k, g'.foot k → g.foot k ∨ w.heap.size ≤ k
set_option maxHeartbeats 1000000 in
set_option maxRecDepth 100000 in
theorem pop_some (w : World) (b slots : Nat) (x : Ent) (S : List Ent) (g : HG) (h : HObj w b slots (x :: S) g) :
    Calls Tryz.prog 56 #[.pointer (some ⟨b, 0, none⟩)] w (PopPost x w b slots S g) := by
  have hb1 : Below w.heap.size w (w.alloc (.cells #[.int .i64 0, .int .i64 0] 99)) := (Below.refl _ _).alloc (Nat.le_refl _) _
  have H1 := Lib.hid (h.below hb1)
  have HB1 := Lib.hid hb1
  have HLT := Lib.hid h.rep.foot_lt
  clear h hb1
  go_enter Tryz.func56, Tryz.ntmps56
  go_wp2_with fail
  refine (min_some _ b slots x S g H1.out).mono ?_
  rintro e w1 ⟨rfl, hb2⟩
  have B1 := (Blk.new w 99 [.int .i64 0, .int .i64 0]).below hb2 (by simp)
  have H2 := Lib.hid ((H1.out.below hb2).below ((Below.refl _ _).alloc (Nat.le_refl _) (.cells #[.int .i64 x.1, .int .i64 x.2] 99)))
  have hsz := hb2.size
  simp only [World.size_alloc] at hsz
  have hsz2 : w.heap.size < w1.heap.size := by omega
  have HB2 := Lib.hid ((HB1.out.trans (hb2.mono (by simp))).alloc (by omega) (.cells #[.int .i64 x.1, .int .i64 x.2] 99))
  have BB := Lib.hid (B1.alloc (.cells #[.int .i64 x.1, .int .i64 x.2] 99))
  have BX := Lib.hid (Blk.new w1 99 [.int .i64 x.1, .int .i64 x.2])
  clear hb2 B1 H1 HB1
  go_wp2_with fail
  generalize hW : World.alloc w1 _ = W at H2 HB2 BB BX ⊢
  clear hW
  refine (drop_at W g H2.out.hb H2.out.rep H2.out.good H2.out.heapy 0 H2.out.first.1).mono ?_
  rintro e w3 ⟨rfl, g3, st3, e3, e3h, e3p⟩
  have nf : ∀ k, w.heap.size ≤ k → ¬ g.foot k := fun k hk hf => by have := HLT.out k hf; omega
  have BB3 := BB.out.mod st3.mod (nf _ (Nat.le_refl _))
  have BX3 := BX.out.mod st3.mod (nf _ (by omega))
  have q0 := BB3.cell (i := 0) rfl
  have q1 := BB3.cell (i := 1) rfl
  have f0 := BB3.free 0
  have f1 := BB3.free 1
  have r0 := BX3.cell (i := 0) rfl
  have r1 := BX3.cell (i := 1) rfl
  have BBH := Lib.hid BB3
  have hbs := st3.b
  have hss := st3.slots
  have FIN : Hid (∃ g', HObj ((w3.setCell ⟨w.heap.size, 0, none⟩ (.int .i64 x.1)).setCell ⟨w.heap.size, 1, none⟩ (.int .i64 x.2)) b slots S g' ∧ Mod g.foot w ((w3.setCell ⟨w.heap.size, 0, none⟩ (.int .i64 x.1)).setCell ⟨w.heap.size, 1, none⟩ (.int .i64 x.2)) ∧ ∀ k, g'.foot k → g.foot k ∨ w.heap.size ≤ k) := by
    have hsW := HB2.out.size
    have hm : Mod g.foot w w3 := (Mod.of_below (F := g.foot) HB2.out).trans st3.mod (fun _ _ hf => hf)
    have hf3 : ∀ k, g3.foot k → g.foot k ∨ W.heap.size ≤ k := st3.foot
    have hnA : ¬ g3.foot w.heap.size := fun hf => by
      rcases hf3 _ hf with a | a
      · exact nf _ (Nat.le_refl _) a
      · have := BB.out.lt; omega
    have hp : S.Perm g3.it := by
      have a1 := H2.out.perm
      have a2 := H2.out.first.2
      rw [a2] at e3p
      exact (List.Perm.cons_inv (a1.trans e3p.symm))
    refine ⟨g3, ⟨?_, e3, e3h, hbs.trans H2.out.hb, hss.trans H2.out.hs, hp, (List.pairwise_cons.1 H2.out.sorted).2⟩, ?_, fun k hk => ?_⟩
    · exact st3.rep.same fun k hk => by
        have hne : k ≠ w.heap.size := fun e => hnA (e ▸ hk)
        rw [Below.heap_setCell _ _ _ _ hne, Below.heap_setCell _ _ _ _ hne]
    · exact (hm.setCell _ (fun hh => by simp only at hh; omega) _).setCell _ (fun hh => by simp only at hh; omega) _
    · rcases hf3 k hk with a | a
      · exact .inl a
      · exact .inr (by omega)
  clear st3 e3 e3h e3p BB3 BX3 hbs hss
  go_wp2_with fail
  have BW := ((BBH.out.set 0 (.int .i64 x.1)).set 1 (.int .i64 x.2))
  have d0 := BW.cell (i := 0) rfl
  have d1 := BW.cell (i := 1) rfl
  refine bodyPost_ret (v := .tuple #[.agg #[.int .i64 x.1, .int .i64 x.2], .bool true]) ?_ rfl ⟨rfl, FIN.out⟩
  simp [results, Tryz.results56, go_sem, d0, d1]
end Go.Proofs.YtlooaipipmiijaaGreat

namespace Go.Proofs.YtlooaipipmiijaaGreat
set_option linter.unusedVariables false
set_option linter.unusedSimpArgs false
open Go.RowKit
structure NewH (n : Nat) (w : World) (e : Ending) (w' : World) : Prop where
  bel : Below w.heap.size w w'
  out : ∃ b g, HObj w' b n [] g ∧ (∀ k, g.foot k → w.heap.size ≤ k) ∧ e = .returned (.tuple #[.pointer (some ⟨b, 0, none⟩), .int .i64 0])
theorem new_obj (n : Nat) (w : World) (h : n ≤ 65536) : Calls Tryz.prog 81 #[.int .i64 n] w (NewH n w) := by
  refine (new_ok n w h).mono ?_
  rintro e w' ⟨hb, g, hr, hs, hi, hl, hf, he⟩
  refine ⟨hb, g.b, g, ⟨hr, ⟨fun p hp => ?_, fun i _ h0 => ?_⟩, fun q q0 ql => ?_, rfl, hs, by rw [hi], List.Pairwise.nil⟩, hf, he⟩
  · rw [hi] at hp; simp at hp
  · rw [hl] at h0; exact absurd rfl h0
  · rw [hi] at ql; simp at ql
end Go.Proofs.YtlooaipipmiijaaGreat

namespace Go.Proofs.YtlooaipipmiijaaGreat
set_option linter.unusedVariables false
set_option linter.unusedSimpArgs false
open Go.RowKit
def del (i : Int) (S : List Ent) : List Ent := S.filter fun e => e.1 != i
theorem HObj.place {w : World} {b slots : Nat} {S : List Ent} {g : HG} (h : HObj w b slots S g) {i : Nat} (hi : i < slots) {k : Int} (hk : ((i : Int), k) ∈ S) :
    ∃ p, p < g.it.length ∧ g.pl i = p + 1 ∧ ent g.it p = ((i : Int), k) := by
  obtain ⟨p, hp, he⟩ := mem_ent (h.perm.mem_iff.1 hk)
  obtain ⟨j, a, _, c⟩ := h.good.pos p hp
  rw [he] at a
  have : j = i := by simp only at a; omega
  subst this
  exact ⟨p, hp, c, he⟩
set_option maxHeartbeats 1000000 in
theorem find_none (w : World) (b slots : Nat) (S : List Ent) (g : HG) (h : HObj w b slots S g) (i : Nat) (hi : i < slots) (hn : ∀ e ∈ S, e.1 ≠ (i : Int)) :
    Calls Tryz.prog 123 #[.pointer (some ⟨b, 0, none⟩), .int .i64 i] w (Ret (.tuple #[.int .i64 0, .int .i64 5]) w) := by
  have c0 := h.rep.hb.cell (i := 0) rfl
  have c1 := h.rep.hb.cell (i := 1) rfl
  rw [h.hb] at c0 c1
  rw [h.hs] at c1
  have hp0 := (h.pl_zero hi).2 hn
  have hpc : Hid (Calls Tryz.prog 126 #[.pointer (some ⟨b, 0, none⟩), .int .i64 i] w (Ret (.int .i64 (-1)) w)) := by
    have := place_at w g h.hb h.rep i (by rw [h.hs]; exact hi) (h.pl_le hi)
    rw [hp0] at this
    exact this
  have hhas : hasB (i : Int) (slots : Int) = true := by unfold hasB; simp; omega
  clear h hn hp0
  go_enter Tryz.func123, Tryz.ntmps123
  go_wp2_with (first
    | (go_at_call 108; refine (valid_ok b w c0).mono ?_; rintro e w' ⟨rfl, rfl⟩)
    | (go_at_call 125; refine (has_any b i slots w c1).mono ?_; rintro e w' ⟨rfl, rfl⟩)
    | (go_at_call 126; refine (hpc.out).mono ?_; rintro e w' ⟨rfl, rfl⟩))
  go_ret2
  exact ⟨rfl, rfl⟩
set_option maxHeartbeats 1000000 in
theorem find_some (w : World) (b slots : Nat) (S : List Ent) (g : HG) (h : HObj w b slots S g) (i p : Nat) (hi : i < slots) (hp : g.pl i = p + 1) :
    Calls Tryz.prog 123 #[.pointer (some ⟨b, 0, none⟩), .int .i64 i] w (Ret (.tuple #[.int .i64 p, .int .i64 0]) w) := by
  have c0 := h.rep.hb.cell (i := 0) rfl
  have c1 := h.rep.hb.cell (i := 1) rfl
  rw [h.hb] at c0 c1
  rw [h.hs] at c1
  have hpc : Hid (Calls Tryz.prog 126 #[.pointer (some ⟨b, 0, none⟩), .int .i64 i] w (Ret (.int .i64 p) w)) := by
    have := place_at w g h.hb h.rep i (by rw [h.hs]; exact hi) (h.pl_le hi)
    rw [hp, show (((p + 1 : Nat) : Int) - 1) = (p : Int) by omega] at this
    exact this
  have hhas : hasB (i : Int) (slots : Int) = true := by unfold hasB; simp; omega
  have hne : ((p : Int) == -1) = false := beq_eq_false_iff_ne.2 (by omega)
  clear h hp
  go_enter Tryz.func123, Tryz.ntmps123
  go_wp2_with (first
    | (go_at_call 108; refine (valid_ok b w c0).mono ?_; rintro e w' ⟨rfl, rfl⟩)
    | (go_at_call 125; refine (has_any b i slots w c1).mono ?_; rintro e w' ⟨rfl, rfl⟩)
    | (go_at_call 126; refine (hpc.out).mono ?_; rintro e w' ⟨rfl, rfl⟩))
  go_ret2
  exact ⟨rfl, rfl⟩
set_option maxHeartbeats 1000000 in
theorem key_none (w : World) (b slots : Nat) (S : List Ent) (g : HG) (h : HObj w b slots S g) (i : Nat) (hi : i < slots) (hn : ∀ e ∈ S, e.1 ≠ (i : Int)) :
    Calls Tryz.prog 122 #[.pointer (some ⟨b, 0, none⟩), .int .i64 i] w (Ret (.tuple #[.int .i64 0, .bool false]) w) := by
  have hf := Lib.hid (find_none w b slots S g h i hi hn)
  clear h hi hn
  go_enter Tryz.func122, Tryz.ntmps122
  go_wp2_with (go_at_call 123; refine (hf.out).mono ?_; rintro e w' ⟨rfl, rfl⟩)
  go_ret2
  exact ⟨rfl, rfl⟩
set_option maxHeartbeats 1000000 in
theorem key_some (w : World) (b slots : Nat) (S : List Ent) (g : HG) (h : HObj w b slots S g) (i : Nat) (hi : i < slots) (k : Int) (hk : ((i : Int), k) ∈ S) :
    Calls Tryz.prog 122 #[.pointer (some ⟨b, 0, none⟩), .int .i64 i] w (Ret (.tuple #[.int .i64 k, .bool true]) w) := by
  obtain ⟨p, hp, hpl, he⟩ := h.place hi hk
  have hf := Lib.hid (find_some w b slots S g h i p hi hpl)
  obtain ⟨ib, cap, hv, hc1, hc2, hlt, h0, hcell⟩ := h.rep.at hp
  have k1 := (hcell p hp).2
  rw [he] at k1
  rw [h.hb] at h0
  have hlen : g.it.length ≤ 65536 := Nat.le_trans h.good.len h.rep.hs
  clear h hk hpl he hv hcell
  generalize g.it.length = n at *
  go_enter Tryz.func122, Tryz.ntmps122
  go_wp2_with (go_at_call 123; refine (hf.out).mono ?_; rintro e w' ⟨rfl, rfl⟩)
  go_ret2
  exact ⟨rfl, rfl⟩
theorem HObj.uniq {w : World} {b slots : Nat} {S : List Ent} {g : HG} (h : HObj w b slots S g) {x y : Ent} (hx : x ∈ S) (hy : y ∈ S) (e : x.1 = y.1) : x = y := by
  obtain ⟨p, hp, rfl⟩ := mem_ent (h.perm.mem_iff.1 hx)
  obtain ⟨q, hq, rfl⟩ := mem_ent (h.perm.mem_iff.1 hy)
  rw [h.good.inj hp hq e]
theorem del_perm {S T : List Ent} {x : Ent} (hu : ∀ y ∈ S, y.1 = x.1 → y = x) (hn : S.Nodup) (hp : (x :: T).Perm S) : (del x.1 S).Perm T := by
  have h1 : (del x.1 (x :: T)).Perm (del x.1 S) := hp.filter _
  have h2 : del x.1 (x :: T) = T := by
    unfold del
    rw [List.filter_cons, if_neg (by simp), List.filter_eq_self]
    intro y hy
    have hy' : y ∈ S := hp.mem_iff.1 (List.mem_cons_of_mem _ hy)
    have hne : y ≠ x := fun e => by
      subst e
      exact (List.nodup_cons.1 (hp.nodup_iff.2 hn)).1 hy
    have : y.1 ≠ x.1 := fun e => hne (hu y hy' e)
    simpa using this
  rw [h2] at h1
  exact h1.symm
theorem HObj.nodup {w : World} {b slots : Nat} {S : List Ent} {g : HG} (h : HObj w b slots S g) : S.Nodup := by
  rw [List.nodup_iff_pairwise_ne]
  exact h.sorted.imp fun hl e => by subst e; exact elt_irrefl _ hl
theorem ent_set {it : List Ent} {p : Nat} (hp : p < it.length) (x : Ent) (k : Nat) : ent (it.set p x) k = if k = p then x else ent it k := by
  unfold ent
  simp only [List.getD_eq_getElem?_getD, List.getElem?_set]
  by_cases e : p = k
  · subst e; simp [hp]
  · have : k ≠ p := fun h => e h.symm
    simp [e, this]
theorem Good.changed {g : HG} (h : Good g) {p : Nat} (hp : p < g.it.length) {x : Ent} (hx : x.1 = (ent g.it p).1) : Good { g with it := g.it.set p x } := by
  have he : ∀ k, (ent (g.it.set p x) k).1 = (ent g.it k).1 := fun k => by
    rw [ent_set hp]
    split
    · rename_i e; subst e; exact hx
    · rfl
  refine ⟨fun q hq => ?_, fun i hi h0 => ?_⟩
  · have hq' : q < g.it.length := by simpa using hq
    obtain ⟨i, a, b, c⟩ := h.pos q hq'
    exact ⟨i, (he q).trans a, b, c⟩
  · obtain ⟨q, a, b, c⟩ := h.back i hi h0
    exact ⟨q, by simpa using a, b, (he q).trans c⟩
set_option maxRecDepth 100000 in
set_option maxHeartbeats 1000000 in
theorem change_some (w : World) (b slots : Nat) (S : List Ent) (g : HG) (h : HObj w b slots S g) (i : Nat) (hi : i < slots) (k key : Int) (hk : ((i : Int), k) ∈ S) :
    Calls Tryz.prog 93 #[.pointer (some ⟨b, 0, none⟩), .int .i64 i, .int .i64 key] w (HDone (.int .i64 0) w b slots (ins ((i : Int), key) (del (i : Int) S)) g) := by
  obtain ⟨p, hp, hpl, he⟩ := h.place hi hk
  have hf := Lib.hid (find_some w b slots S g h i p hi hpl)
  obtain ⟨ib, cap, hv, hc1, hc2, hlt, h0, hcell⟩ := h.rep.at hp
  have k1 := (hcell p hp).2
  have hob : g.iv.ownBlock = some ib := by rw [hv]; rfl
  have f1 : w.frozen? ⟨ib, p * 2 + 1, none⟩ = false := by
    obtain ⟨ib', cap', hv', _, _, _, _, hfr⟩ := owns_form h.rep.hi (by omega)
    rw [hv] at hv'
    simp only [Value.slice.injEq, Option.some.injEq, Addr.mk.injEq, and_true, true_and] at hv'
    obtain ⟨rfl, rfl⟩ := hv'
    exact hfr _
  rw [he] at k1
  rw [h.hb] at h0
  have hlen : g.it.length ≤ 65536 := Nat.le_trans h.good.len h.rep.hs
  have hr1 : HRep (w.setCell ⟨ib, p * 2 + 1, none⟩ (.int .i64 key)) { g with it := g.it.set p ((i : Int), key) } := by
    refine h.rep.items ?_ ?_
    · have ho := h.rep.hi
      rw [hv] at ho
      have := owns_set ho (p * 2 + 1) (by omega) (.int .i64 key)
      rw [ents_set1 _ p hp, he] at this
      rw [List.length_set, hv]
      exact this
    · intro x _ hne
      exact Below.heap_setCell _ _ _ _ (fun e => hne (by rw [hob, e]))
  have hg1 : Good { g with it := g.it.set p ((i : Int), key) } := h.good.changed hp (by rw [he])
  have hst : HStep g w { g with it := g.it.set p ((i : Int), key) } (w.setCell ⟨ib, p * 2 + 1, none⟩ (.int .i64 key)) :=
    ⟨hr1, (Mod.refl _ _).setCell _ (fun _ => .inr (.inl hob)) _, rfl, rfl, fun x hx => .inl hx⟩
  have hU : UpInv (g.it.set p ((i : Int), key)) p := by
    refine upInv_set h.heapy (by simp) (by simpa using hp) fun x hx hxp => ?_
    rw [ent_set hp, if_neg hxp]
  have hperm : (g.it.set p ((i : Int), key)).Perm (ins ((i : Int), key) (del (i : Int) S)) := by
    refine (set_perm g.it p hp _).trans (List.Perm.trans (List.Perm.cons _ ?_) (ins_perm _ _).symm)
    refine (del_perm (x := ((i : Int), k)) (fun y hy e => h.uniq hy hk e) h.nodup ?_).symm
    have := eraseIdx_perm g.it p hp
    rw [← ent_eq hp, he] at this
    exact (h.perm.trans this).symm
  have hsort : Sorted (ins ((i : Int), key) (del (i : Int) S)) := by
    refine ins_sorted (sorted_filter h.sorted _) fun hm => ?_
    have := (List.mem_filter.1 hm).2
    simp at this
  have HSO := Lib.hid hsort
  have HPE := Lib.hid hperm
  have HU := Lib.hid hU
  have HST := Lib.hid hst
  have HG1 := Lib.hid hg1
  have H := Lib.hid h
  have hpl' : p < (g.it.set p ((i : Int), key)).length := by simpa using hp
  have HPL := Lib.hid hpl'
  clear hpl' hsort hperm hU hst hg1 hr1 hpl he hv hob hcell hk h
  generalize g.it.length = n at *
  go_enter Tryz.func93, Tryz.ntmps93
  go_wp2_with (go_at_call 123; refine (hf.out).mono ?_; rintro e w' ⟨rfl, rfl⟩)
  generalize hW : World.setCell w _ _ = W at HST ⊢
  clear hW
  with_reducible refine (settle_at W _ (HST.out.b.trans H.out.hb) HST.out.rep HG1.out p HPL.out HU.out).mono ?_
  rintro e w4 ⟨rfl, g4, st4, e4, e4p, e4h⟩
  have FIN : Hid (HDone (.int .i64 0) w b slots (ins ((i : Int), key) (del (i : Int) S)) g (.returned (.int .i64 0)) w4) := by
    have st := HST.out.trans st4
    exact ⟨rfl, g4, ⟨st.rep, e4, e4h, st.b.trans H.out.hb, st.slots.trans H.out.hs, (e4p.trans HPE.out).symm, HSO.out⟩, st.mod, st.foot⟩
  clear st4 e4 e4p e4h
  go_wp2_with fail
  go_ret
  exact FIN.out
end Go.Proofs.YtlooaipipmiijaaGreat

namespace Go.Proofs.YtlooaipipmiijaaGreat
set_option linter.unusedVariables false
set_option linter.unusedSimpArgs false
open Go.RowKit
structure EObj (w : World) (s slots : Nat) (S : List Ent) (q : Nat) (g : HG) : Prop where
  blk : Blk w s 137 [.int .i64 (slots : Nat), .pointer (some ⟨q, 0, none⟩)]
  obj : HObj w q slots S g
  ns : ¬ g.foot s
theorem EObj.below {w w' : World} {s slots q : Nat} {S : List Ent} {g : HG} (h : EObj w s slots S q g) (k : Below w.heap.size w w') : EObj w' s slots S q g :=
  ⟨h.blk.below k h.blk.lt, h.obj.below k, h.ns⟩
theorem EObj.mod {F : Nat → Prop} {w w' : World} {s slots q : Nat} {S : List Ent} {g : HG} (h : EObj w s slots S q g) (m : Mod F w w') (hF : ∀ k, g.foot k → ¬ F k) (hs : ¬ F s) : EObj w' s slots S q g :=
  ⟨h.blk.mod m hs, h.obj.mod m hF, h.ns⟩
theorem EObj.lt {w : World} {s slots q : Nat} {S : List Ent} {g : HG} (h : EObj w s slots S q g) : ∀ k, (g.foot k ∨ k = s) → k < w.heap.size := by
  rintro k (hk | rfl)
  · exact h.obj.rep.foot_lt k hk
  · exact h.blk.lt
structure EDone (v : Value) (w : World) (s slots : Nat) (S' : List Ent) (q : Nat) (g : HG) (e : Ending) (w' : World) : Prop where
  val : e = .returned v
  out : ∃ g', EObj w' s slots S' q g' ∧ Mod g.foot w w' ∧ ∀ k, g'.foot k → g.foot k ∨ w.heap.size ≤ k
theorem EObj.step {w w' : World} {s slots q : Nat} {S S' : List Ent} {g g' : HG} (h : EObj w s slots S q g) (ho : HObj w' q slots S' g') (hm : Mod g.foot w w') (hf : ∀ k, g'.foot k → g.foot k ∨ w.heap.size ≤ k) : EObj w' s slots S' q g' :=
  ⟨h.blk.mod hm h.ns, ho, fun hh => by
    rcases hf _ hh with a | a
    · exact h.ns a
    · have := h.blk.lt; omega⟩
structure Gives (R : Int → World → Prop) (e : Ending) (w' : World) : Prop where
  out : ∃ k, e = .returned (.int .i64 k) ∧ R k w'
set_option maxHeartbeats 400000 in
theorem evalid_ok (s q : Nat) (w : World) (c1 : w.cell? ⟨s, 1, none⟩ = some (.pointer (some ⟨q, 0, none⟩))) :
    Calls Tryz.prog 53 #[.pointer (some ⟨s, 0, none⟩)] w (Ret (.bool true) w) := by
  go_enter Tryz.func53, Tryz.ntmps53
  go_wp2
  go_ret
  exact ⟨rfl, rfl⟩
set_option maxHeartbeats 1000000 in
theorem with_set (R : Int → World → Prop) (w : World) (s slots : Nat) (S : List Ent) (q : Nat) (g : HG) (h : EObj w s slots S q g) (slot v : Int) (h0 : 0 ≤ slot) (h1 : slot < slots) (sch : Bool) (p0 p1 p2 : Value)
    (hkey : Calls Tryz.prog 122 #[.pointer (some ⟨q, 0, none⟩), .int .i64 slot] w (Ret (.tuple #[.int .i64 v, .bool sch]) w))
    (hdo : Calls Tryz.prog 92 #[.bool sch, p0, p1, p2] w (Gives R)) :
    Calls Tryz.prog 91 #[.pointer (some ⟨s, 0, none⟩), .int .i64 slot, .func (.func 92) #[] #[p0, p1, p2]] w (Gives R) := by
  have c0 := h.blk.cell (i := 0) rfl
  have c1 := h.blk.cell (i := 1) rfl
  have HK := Lib.hid hkey
  have HD := Lib.hid hdo
  clear h hkey hdo
  have t1 : decide (slot < 0) = false := by simp; omega
  have t2 : decide ((slots : Int) ≤ slot) = false := by simp; omega
  go_enter Tryz.func91, Tryz.ntmps91
  go_wp2_with (first
    | (go_at_call 53; refine (evalid_ok s q w c1).mono ?_; rintro e w' ⟨rfl, rfl⟩)
    | (go_at_call 122; refine (HK.out).mono ?_; rintro e w' ⟨rfl, rfl⟩))
  with_reducible refine (HD.out).mono ?_
  rintro e w2 ⟨k, rfl, hR⟩
  have HR := Lib.hid hR
  clear hR
  go_wp2_with fail
  go_ret
  exact ⟨_, rfl, HR.out⟩
end Go.Proofs.YtlooaipipmiijaaGreat

namespace Go.Proofs.YtlooaipipmiijaaGreat
set_option linter.unusedVariables false
set_option linter.unusedSimpArgs false
open Go.RowKit
structure ENew (n : Nat) (w : World) (e : Ending) (w' : World) : Prop where
  bel : Below w.heap.size w w'
  out : ∃ s q g, EObj w' s n [] q g ∧ (∀ k, g.foot k → w.heap.size ≤ k) ∧ w.heap.size ≤ s ∧ e = .returned (.tuple #[.pointer (some ⟨s, 0, none⟩), .int .i64 0])
set_option maxHeartbeats 1000000 in
theorem enew_ok (n : Nat) (w : World) (h : n ≤ 65536) :
    Calls Tryz.prog 42 #[.int .i64 n] w (ENew n w) := by
  go_enter Tryz.func42, Tryz.ntmps42
  go_wp2_with fail
  with_reducible refine (new_obj n w h).mono ?_
  rintro e w1 ⟨hb1, q, g, ho, hf, rfl⟩
  have HO := Lib.hid ho
  have HB := Lib.hid hb1
  have HF := Lib.hid hf
  clear ho hb1 hf
  go_wp2_with fail
  go_ret2
  have hb2 : Below w1.heap.size w1 (w1.alloc (.cells #[.int .i64 (n : Nat), .pointer (some ⟨q, 0, none⟩)] 137)) := (Below.refl _ _).alloc (Nat.le_refl _) _
  refine ⟨HB.out.alloc HB.out.size _, w1.heap.size, q, g, ⟨Blk.new _ _ [_, _], HO.out.below hb2, fun hh => ?_⟩, HF.out, HB.out.size, rfl⟩
  have := HO.out.rep.foot_lt _ hh
  omega
def headV : List Ent → Value
  | [] => .tuple #[.agg #[.int .i64 0, .int .i64 0], .bool false]
  | x :: _ => .tuple #[.agg #[.int .i64 x.1, .int .i64 x.2], .bool true]
theorem min_any (w : World) (b slots : Nat) (S : List Ent) (g : HG) (h : HObj w b slots S g) :
    Calls Tryz.prog 88 #[.pointer (some ⟨b, 0, none⟩)] w (RetB (headV S) w) := by
  cases S with
  | nil => exact min_empty w b slots g h
  | cons x S => exact min_some w b slots x S g h
set_option maxHeartbeats 1000000 in
set_option maxRecDepth 100000 in
theorem enext_gen (w : World) (s slots : Nat) (S : List Ent) (q : Nat) (g : HG) (h : EObj w s slots S q g) (a b : Int) (t : Bool) (hv : headV S = .tuple #[.agg #[.int .i64 a, .int .i64 b], .bool t]) :
    Calls Tryz.prog 47 #[.pointer (some ⟨s, 0, none⟩)] w (RetB (.tuple #[.agg #[.int .i64 a, .int .i64 b], .bool t]) w) := by
  have hb1 : Below w.heap.size w (w.alloc (.cells #[.int .i64 0, .int .i64 0] 99)) := (Below.refl _ _).alloc (Nat.le_refl _) _
  have h1 := h.below hb1
  have c1 := h1.blk.cell (i := 1) rfl
  have hm := min_any _ q slots S g h1.obj
  rw [hv] at hm
  have HM := Lib.hid hm
  have HB1 := Lib.hid hb1
  clear h h1 hm hb1 hv
  go_enter Tryz.func47, Tryz.ntmps47
  go_wp2_with (go_at_call 53; refine (evalid_ok s q _ c1).mono ?_; rintro e w' ⟨rfl, rfl⟩)
  with_reducible refine (HM.out).mono ?_
  rintro e w1 ⟨rfl, hb2⟩
  have B1 := (Blk.new w 99 [.int .i64 0, .int .i64 0]).below hb2 (by simp)
  have a0 := B1.cell (i := 0) rfl
  have a1 := B1.cell (i := 1) rfl
  have f0 := B1.free 0
  have f1 := B1.free 1
  have HB2 := Lib.hid (HB1.out.trans (hb2.mono (by simp)))
  have BB := Lib.hid B1
  clear hb2 B1 HB1 c1
  go_wp2_with fail
  have BW := ((BB.out.set 0 (.int .i64 a)).set 1 (.int .i64 b))
  have d0 := BW.cell (i := 0) rfl
  have d1 := BW.cell (i := 1) rfl
  refine bodyPost_ret (v := .tuple #[.agg #[.int .i64 a, .int .i64 b], .bool t]) ?_ rfl ⟨rfl, ?_⟩
  · simp [results, Tryz.results47, go_sem, d0, d1]
  · exact (HB2.out.setCell (Nat.le_refl _) _).setCell (Nat.le_refl _) _
theorem enext_any (w : World) (s slots : Nat) (S : List Ent) (q : Nat) (g : HG) (h : EObj w s slots S q g) :
    Calls Tryz.prog 47 #[.pointer (some ⟨s, 0, none⟩)] w (RetB (headV S) w) := by
  cases S with
  | nil => exact enext_gen w s slots [] q g h 0 0 false rfl
  | cons x S => exact enext_gen w s slots (x :: S) q g h x.1 x.2 true rfl
theorem del_self {S : List Ent} {i : Int} (h : ∀ e ∈ S, e.1 ≠ i) : del i S = S := by
  unfold del
  rw [List.filter_eq_self]
  intro e he
  simpa using h e he
set_option maxHeartbeats 1000000 in
set_option maxRecDepth 100000 in
theorem set1_change (w : World) (s slots : Nat) (S : List Ent) (q : Nat) (g : HG) (h : EObj w s slots S q g) (b1 b2 b3 slot : Nat) (at' : Int) (hs : slot < slots)
    (c1 : w.cell? ⟨b1, 0, none⟩ = some (.pointer (some ⟨s, 0, none⟩))) (c2 : w.cell? ⟨b2, 0, none⟩ = some (.int .i64 slot)) (c3 : w.cell? ⟨b3, 0, none⟩ = some (.int .i64 at')) (k : Int) (hk : ((slot : Int), k) ∈ S) :
    Calls Tryz.prog 92 #[.bool true, .pointer (some ⟨b1, 0, none⟩), .pointer (some ⟨b2, 0, none⟩), .pointer (some ⟨b3, 0, none⟩)] w
      (HDone (.int .i64 0) w q slots (ins ((slot : Int), at') (del (slot : Int) S)) g) := by
  have c4 := h.blk.cell (i := 1) rfl
  have HO0 := Lib.hid h.obj
  have HK := Lib.hid hk
  clear hk
  clear h
  go_enter Tryz.func92, Tryz.ntmps92
  go_wp2_with fail
  refine region_tail 6 (by kernel_rfl) (by kernel_rfl) ?_
  intro w2 hw2
  have HO : Hid (HObj w2 q slots S g) := by rw [hw2]; exact HO0.out.below (Below.refl _ _).drew
  have HM : Hid (Mod (fun _ => False) w w2) := by rw [hw2]; exact (Mod.refl _ _).drew
  have d1 : w2.cell? ⟨b1, 0, none⟩ = some (.pointer (some ⟨s, 0, none⟩)) := by rw [hw2]; exact c1
  have d2 : w2.cell? ⟨b2, 0, none⟩ = some (.int .i64 slot) := by rw [hw2]; exact c2
  have d3 : w2.cell? ⟨b3, 0, none⟩ = some (.int .i64 at') := by rw [hw2]; exact c3
  have d4 : w2.cell? ⟨s, 1, none⟩ = some (.pointer (some ⟨q, 0, none⟩)) := by rw [hw2]; exact c4
  clear hw2 c1 c2 c3 c4
  simp only [List.take_succ_cons, List.take_zero, List.drop_succ_cons, List.drop_zero]
  repeat still_step
  refine wpStill_nil ?_
  clear d1 d2 d3 d4
  go_wp2_with fail
  with_reducible refine (change_some w2 q slots S g (HO.out) slot hs k at' HK.out).mono ?_
  rintro e w3 ⟨rfl, g3, ho3, hm3, hf3⟩
  have hsz := HM.out.size
  have FIN : Hid (HDone (.int .i64 0) w q slots (ins ((slot : Int), at') (del (slot : Int) S)) g (.returned (.int .i64 0)) w3) :=
    ⟨rfl, g3, ho3, (HM.out.mono (fun _ _ h => h.elim)).trans hm3 (fun _ _ h => h), fun k hk => (hf3 k hk).imp id (fun h => by omega)⟩
  clear ho3 hm3 hf3
  go_wp2_with fail
  go_ret
  exact FIN.out
set_option maxHeartbeats 1000000 in
set_option maxRecDepth 100000 in
theorem set1_push (w : World) (s slots : Nat) (S : List Ent) (q : Nat) (g : HG) (h : EObj w s slots S q g) (b1 b2 b3 slot : Nat) (at' : Int) (hs : slot < slots)
    (c1 : w.cell? ⟨b1, 0, none⟩ = some (.pointer (some ⟨s, 0, none⟩))) (c2 : w.cell? ⟨b2, 0, none⟩ = some (.int .i64 slot)) (c3 : w.cell? ⟨b3, 0, none⟩ = some (.int .i64 at')) (hn : ∀ e ∈ S, e.1 ≠ (slot : Int)) :
    Calls Tryz.prog 92 #[.bool false, .pointer (some ⟨b1, 0, none⟩), .pointer (some ⟨b2, 0, none⟩), .pointer (some ⟨b3, 0, none⟩)] w
      (HDone (.int .i64 0) w q slots (ins ((slot : Int), at') S) g) := by
  have c4 := h.blk.cell (i := 1) rfl
  have HO0 := Lib.hid h.obj
  have HN := Lib.hid hn
  clear hn
  clear h
  go_enter Tryz.func92, Tryz.ntmps92
  go_wp2_with fail
  refine region_tail 6 (by kernel_rfl) (by kernel_rfl) ?_
  intro w2 hw2
  have HO : Hid (HObj w2 q slots S g) := by rw [hw2]; exact HO0.out.below (Below.refl _ _).drew
  have HM : Hid (Mod (fun _ => False) w w2) := by rw [hw2]; exact (Mod.refl _ _).drew
  have d1 : w2.cell? ⟨b1, 0, none⟩ = some (.pointer (some ⟨s, 0, none⟩)) := by rw [hw2]; exact c1
  have d2 : w2.cell? ⟨b2, 0, none⟩ = some (.int .i64 slot) := by rw [hw2]; exact c2
  have d3 : w2.cell? ⟨b3, 0, none⟩ = some (.int .i64 at') := by rw [hw2]; exact c3
  have d4 : w2.cell? ⟨s, 1, none⟩ = some (.pointer (some ⟨q, 0, none⟩)) := by rw [hw2]; exact c4
  clear hw2 c1 c2 c3 c4
  simp only [List.take_succ_cons, List.take_zero, List.drop_succ_cons, List.drop_zero]
  repeat still_step
  refine wpStill_nil ?_
  clear d1 d2 d3 d4
  go_wp2_with fail
  with_reducible refine (push_ok w2 q slots S g (HO.out) slot at' hs HN.out).mono ?_
  rintro e w3 ⟨rfl, g3, ho3, hm3, hf3⟩
  have hsz := HM.out.size
  have FIN : Hid (HDone (.int .i64 0) w q slots (ins ((slot : Int), at') S) g (.returned (.int .i64 0)) w3) :=
    ⟨rfl, g3, ho3, (HM.out.mono (fun _ _ h => h.elim)).trans hm3 (fun _ _ h => h), fun k hk => (hf3 k hk).imp id (fun h => by omega)⟩
  clear ho3 hm3 hf3
  go_wp2_with fail
  go_ret
  exact FIN.out
def box3 (w : World) (s slot : Nat) (at' : Int) : World :=
  ((w.alloc (.cells #[.pointer (some ⟨s, 0, none⟩)] 53)).alloc (.cells #[.int .i64 (slot : Nat)] 3)).alloc (.cells #[.int .i64 at'] 2)
theorem box3_below (w : World) (s slot : Nat) (at' : Int) : Below w.heap.size w (box3 w s slot at') :=
  (((Below.refl _ _).alloc (Nat.le_refl _) _).alloc (by simp) _).alloc (by simp; omega) _
theorem box3_cells (w : World) (s slot : Nat) (at' : Int) :
    (box3 w s slot at').cell? ⟨w.heap.size, 0, none⟩ = some (.pointer (some ⟨s, 0, none⟩)) ∧ (box3 w s slot at').cell? ⟨w.heap.size + 1, 0, none⟩ = some (.int .i64 (slot : Nat)) ∧ (box3 w s slot at').cell? ⟨w.heap.size + 1 + 1, 0, none⟩ = some (.int .i64 at') :=
  ⟨(((Blk.new w 53 [_]).alloc _).alloc _).cell (i := 0) rfl, ((Blk.new' (w.alloc _) 3 [_] (by simp)).alloc _).cell (i := 0) rfl, (Blk.new' ((w.alloc _).alloc _) 2 [_] (by simp)).cell (i := 0) rfl⟩
theorem EObj.find {w : World} {s slots q : Nat} {S : List Ent} {g : HG} (h : EObj w s slots S q g) (slot : Nat) : (∃ k, ((slot : Int), k) ∈ S) ∨ ∀ e ∈ S, e.1 ≠ (slot : Int) := by
  by_cases hh : ∃ k, ((slot : Int), k) ∈ S
  · exact .inl hh
  · refine .inr fun e he ee => hh ⟨e.2, ?_⟩
    rw [← ee]; exact he
set_option maxHeartbeats 1000000 in
set_option maxRecDepth 100000 in
theorem eset_ok (w : World) (s slots : Nat) (S : List Ent) (q : Nat) (g : HG) (h : EObj w s slots S q g) (slot : Nat) (at' : Int) (hs : slot < slots) :
    Calls Tryz.prog 51 #[.pointer (some ⟨s, 0, none⟩), .int .i64 slot, .int .i64 at'] w (EDone (.int .i64 0) w s slots (ins ((slot : Int), at') (del (slot : Int) S)) q g) := by
  have hb := box3_below w s slot at'
  obtain ⟨c1, c2, c3⟩ := box3_cells w s slot at'
  have h1 := h.below hb
  have HW : Hid (Calls Tryz.prog 91 #[.pointer (some ⟨s, 0, none⟩), .int .i64 slot, .func (.func 92) #[] #[.pointer (some ⟨w.heap.size, 0, none⟩), .pointer (some ⟨w.heap.size + 1, 0, none⟩), .pointer (some ⟨w.heap.size + 1 + 1, 0, none⟩)]] (box3 w s slot at')
      (Gives (fun k w' => k = 0 ∧ ∃ g', EObj w' s slots (ins ((slot : Int), at') (del (slot : Int) S)) q g' ∧ Mod g.foot (box3 w s slot at') w' ∧ ∀ x, g'.foot x → g.foot x ∨ (box3 w s slot at').heap.size ≤ x))) := by
    rcases h.find slot with ⟨k, hk⟩ | hn
    · refine with_set _ _ s slots S q g h1 slot k (by omega) (by omega) true _ _ _ (key_some _ q slots S g h1.obj slot hs k hk) ?_
      refine (set1_change _ s slots S q g h1 _ _ _ slot at' hs c1 c2 c3 k hk).mono ?_
      rintro e w' ⟨rfl, g', a, b, c⟩
      exact ⟨0, rfl, rfl, g', h1.step a b c, b, c⟩
    · refine with_set _ _ s slots S q g h1 slot 0 (by omega) (by omega) false _ _ _ (key_none _ q slots S g h1.obj slot hs hn) ?_
      refine (set1_push _ s slots S q g h1 _ _ _ slot at' hs c1 c2 c3 hn).mono ?_
      rintro e w' ⟨rfl, g', a, b, c⟩
      rw [del_self hn]
      exact ⟨0, rfl, rfl, g', h1.step a b c, b, c⟩
  have HB := Lib.hid hb
  clear h h1 hb c1 c2 c3
  unfold box3 at HW HB
  go_enter Tryz.func51, Tryz.ntmps51
  go_wp2_with fail
  generalize hW : World.alloc (World.alloc (World.alloc w _) _) _ = W at HW HB ⊢
  clear hW
  with_reducible refine (HW.out).mono ?_
  rintro e w1 ⟨k, rfl, rfl, g1, ho1, hm1, hf1⟩
  have hsz := HB.out.size
  have FIN : Hid (EDone (.int .i64 0) w s slots (ins ((slot : Int), at') (del (slot : Int) S)) q g (.returned (.int .i64 0)) w1) :=
    ⟨rfl, g1, ho1, (Mod.of_below HB.out).trans hm1 (fun _ _ h => h), fun k hk => (hf1 k hk).imp id (fun h => by omega)⟩
  clear ho1 hm1 hf1
  go_wp2_with fail
  go_ret
  exact FIN.out
end Go.Proofs.YtlooaipipmiijaaGreat
