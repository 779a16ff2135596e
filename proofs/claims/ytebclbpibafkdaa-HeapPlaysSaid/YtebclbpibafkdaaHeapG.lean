/- The heap's Len, Min, Pop. -/
import Derived.Test.YtebclbpibafkdaaHeapF
namespace Go.Proofs.Ytebclbpibafkdaa
set_option linter.unusedVariables false
set_option linter.unusedSimpArgs false
open Go.RowKit

theorem HObj.below {w w' : World} {b slots : Nat} {S : List Ent} {g : HG} (h : HObj w b slots S g) (k : Below w.heap.size w w') : HObj w' b slots S g :=
  { h with rep := h.rep.below k }

theorem HObj.mod {F : Nat → Prop} {w w' : World} {b slots : Nat} {S : List Ent} {g : HG} (h : HObj w b slots S g) (m : Mod F w w') (hF : ∀ k, g.foot k → ¬ F k) : HObj w' b slots S g :=
  { h with rep := h.rep.mod m hF }

set_option maxHeartbeats 400000 in
theorem len_ok (w : World) (b slots : Nat) (S : List Ent) (g : HG) (h : HObj w b slots S g) :
    Calls Try.prog 24 #[.pointer (some ⟨b, 0, none⟩)] w (Ret (.int .i64 (S.length : Nat)) w) := by
  have c0 := h.rep.hb.cell (i := 0) rfl
  have c2 := h.rep.hb.cell (i := 2) rfl
  have hl := h.perm.length_eq
  obtain ⟨ao, cp, hiv⟩ := owns_slice h.rep.hi
  rw [hiv, ← hl] at c2
  rw [h.hb] at c0 c2
  clear h hl hiv
  go_enter Try.func24, Try.ntmps24
  go_wp2_with (go_at_call 59; refine (valid_ok b w c0).mono ?_; rintro e w' ⟨rfl, rfl⟩)
  go_ret
  exact ⟨rfl, rfl⟩

set_option maxHeartbeats 1000000 in
set_option maxRecDepth 100000 in
theorem min_empty (w : World) (b slots : Nat) (g : HG) (h : HObj w b slots [] g) :
    Calls Try.prog 57 #[.pointer (some ⟨b, 0, none⟩)] w (RetB (.tuple #[.agg #[.int .i64 0, .int .i64 0], .bool false]) w) := by
  have c0 := (h.rep.hb.alloc (.cells #[.int .i64 0, .int .i64 0] 28)).cell (i := 0) rfl
  have c2 := (h.rep.hb.alloc (.cells #[.int .i64 0, .int .i64 0] 28)).cell (i := 2) rfl
  have hl := h.perm.length_eq
  obtain ⟨ao, cp, hiv⟩ := owns_slice h.rep.hi
  rw [hiv, ← hl] at c2
  rw [h.hb] at c0 c2
  clear h hl hiv
  go_enter Try.func57, Try.ntmps57
  go_wp2_with (go_at_call 59; refine (valid_ok b _ c0).mono ?_; rintro e w' ⟨rfl, rfl⟩)
  exact bodyPost_ret (v := .tuple #[.agg #[.int .i64 0, .int .i64 0], .bool false]) (by simp [results, Try.results57, go_sem]) rfl ⟨rfl, (Below.refl _ _).alloc (Nat.le_refl _) _⟩

theorem HObj.first {w : World} {b slots : Nat} {e : Ent} {S : List Ent} {g : HG} (h : HObj w b slots (e :: S) g) : 0 < g.it.length ∧ ent g.it 0 = e := by
  have hl : 0 < g.it.length := by have := h.perm.length_eq; simp only [List.length_cons] at this; omega
  refine ⟨hl, ?_⟩
  obtain ⟨p, hp, he⟩ := mem_ent (h.perm.mem_iff.1 (List.mem_cons_self (a := e) (l := S)))
  have h1 := heapy_min h.heapy p hp
  rw [he] at h1
  have h2 : ent g.it 0 ∈ e :: S := h.perm.mem_iff.2 (ent_mem hl)
  rcases List.mem_cons.1 h2 with h3 | h3
  · exact h3
  · exact absurd ((List.pairwise_cons.1 h.sorted).1 _ h3) h1

set_option maxHeartbeats 1000000 in
set_option maxRecDepth 100000 in
theorem min_some (w : World) (b slots : Nat) (x : Ent) (S : List Ent) (g : HG) (h : HObj w b slots (x :: S) g) :
    Calls Try.prog 57 #[.pointer (some ⟨b, 0, none⟩)] w (RetB (.tuple #[.agg #[.int .i64 x.1, .int .i64 x.2], .bool true]) w) := by
  have hb1 : Below w.heap.size w (w.alloc (.cells #[.int .i64 0, .int .i64 0] 28)) := (Below.refl _ _).alloc (Nat.le_refl _) _
  obtain ⟨hl, he⟩ := h.first
  have hr := h.rep.below hb1
  obtain ⟨ib, cap, hv, hc1, hc2, hlt, h0, hcell⟩ := hr.at hl
  have c0 := hr.hb.cell (i := 0) rfl
  obtain ⟨k0, k1⟩ := hcell 0 hl
  rw [he] at k0 k1
  rw [h.hb] at c0 h0
  have hlen : g.it.length ≤ 65536 := Nat.le_trans h.good.len h.rep.hs
  generalize g.it.length = n at *
  have hne : ((n : Int) == 0) = false := beq_eq_false_iff_ne.2 (by omega)
  clear h hr hcell hv hb1 he
  go_enter Try.func57, Try.ntmps57
  go_wp2_with (go_at_call 59; refine (valid_ok b _ c0).mono ?_; rintro e w' ⟨rfl, rfl⟩)
  exact bodyPost_ret (v := .tuple #[.agg #[.int .i64 x.1, .int .i64 x.2], .bool true]) (by simp [results, Try.results57, go_sem]) rfl ⟨rfl, (Below.refl _ _).alloc (Nat.le_refl _) _⟩

set_option maxHeartbeats 1000000 in
set_option maxRecDepth 100000 in
theorem pop_empty (w : World) (b slots : Nat) (g : HG) (h : HObj w b slots [] g) :
    Calls Try.prog 23 #[.pointer (some ⟨b, 0, none⟩)] w (RetB (.tuple #[.agg #[.int .i64 0, .int .i64 0], .bool false]) w) := by
  have hb1 : Below w.heap.size w (w.alloc (.cells #[.int .i64 0, .int .i64 0] 28)) := (Below.refl _ _).alloc (Nat.le_refl _) _
  have H1 := Lib.hid (h.below hb1)
  have HB1 := Lib.hid hb1
  clear h hb1
  go_enter Try.func23, Try.ntmps23
  go_wp2_with fail
  refine (min_empty _ b slots g H1.out).mono ?_
  rintro e w1 ⟨rfl, hb2⟩
  have B1 := (Blk.new w 28 [.int .i64 0, .int .i64 0]).below hb2 (by simp)
  have hsz := hb2.size
  simp only [World.size_alloc] at hsz
  have hsz2 : w.heap.size < w1.heap.size := by omega
  have a0 := B1.cell (i := 0) rfl
  have a1 := B1.cell (i := 1) rfl
  have f0 := B1.free 0
  have f1 := B1.free 1
  have HB2 := Lib.hid (HB1.out.trans (hb2.mono (by simp)))
  have BB := Lib.hid B1
  clear hb2 B1 H1 HB1
  go_wp2_with fail
  have BW := (((BB.out.set 0 (.int .i64 0)).set 1 (.int .i64 0)).alloc (.cells #[.int .i64 0, .int .i64 0] 28))
  have d0 := BW.cell (i := 0) rfl
  have d1 := BW.cell (i := 1) rfl
  refine bodyPost_ret (v := .tuple #[.agg #[.int .i64 0, .int .i64 0], .bool false]) ?_ rfl ⟨rfl, ?_⟩
  · simp [results, Try.results23, go_sem, d0, d1]
  · exact ((HB2.out.setCell (Nat.le_refl _) _).setCell (Nat.le_refl _) _).alloc (by simp [World.setCell]; omega) _

structure PopPost (x : Ent) (w : World) (b slots : Nat) (S' : List Ent) (g : HG) (e : Ending) (w' : World) : Prop where
  val : e = .returned (.tuple #[.agg #[.int .i64 x.1, .int .i64 x.2], .bool true])
  out : ∃ g', HObj w' b slots S' g' ∧ Mod g.foot w w' ∧ ∀ k, g'.foot k → g.foot k ∨ w.heap.size ≤ k

set_option maxHeartbeats 1000000 in
set_option maxRecDepth 100000 in
theorem pop_some (w : World) (b slots : Nat) (x : Ent) (S : List Ent) (g : HG) (h : HObj w b slots (x :: S) g) :
    Calls Try.prog 23 #[.pointer (some ⟨b, 0, none⟩)] w (PopPost x w b slots S g) := by
  have hb1 : Below w.heap.size w (w.alloc (.cells #[.int .i64 0, .int .i64 0] 28)) := (Below.refl _ _).alloc (Nat.le_refl _) _
  have H1 := Lib.hid (h.below hb1)
  have HB1 := Lib.hid hb1
  have HLT := Lib.hid h.rep.foot_lt
  clear h hb1
  go_enter Try.func23, Try.ntmps23
  go_wp2_with fail
  refine (min_some _ b slots x S g H1.out).mono ?_
  rintro e w1 ⟨rfl, hb2⟩
  have B1 := (Blk.new w 28 [.int .i64 0, .int .i64 0]).below hb2 (by simp)
  have H2 := Lib.hid ((H1.out.below hb2).below ((Below.refl _ _).alloc (Nat.le_refl _) (.cells #[.int .i64 x.1, .int .i64 x.2] 28)))
  have hsz := hb2.size
  simp only [World.size_alloc] at hsz
  have hsz2 : w.heap.size < w1.heap.size := by omega
  have HB2 := Lib.hid ((HB1.out.trans (hb2.mono (by simp))).alloc (by omega) (.cells #[.int .i64 x.1, .int .i64 x.2] 28))
  have BB := Lib.hid (B1.alloc (.cells #[.int .i64 x.1, .int .i64 x.2] 28))
  have BX := Lib.hid (Blk.new w1 28 [.int .i64 x.1, .int .i64 x.2])
  clear hb2 B1 H1 HB1
  go_wp2_with fail
  generalize hW : World.alloc w1 _ = W at H2 HB2 BB BX ⊢
  clear hW
  refine (drop_at W g H2.out.hb H2.out.rep H2.out.good H2.out.heapy 0 H2.out.first.1).mono ?_
  rintro e w3 ⟨rfl, g3, st3, e3, e3h, e3p⟩
  have nf : ∀ k, w.heap.size ≤ k → ¬ g.foot k := fun k hk hf => by have := HLT.out k hf; omega
  have BB3 := BB.out.mod st3.mod (nf _ (Nat.le_refl _))
  have BX3 := BX.out.mod st3.mod (nf _ (by omega))
  have q0 := BB3.cell (i := 0) rfl
  have q1 := BB3.cell (i := 1) rfl
  have f0 := BB3.free 0
  have f1 := BB3.free 1
  have r0 := BX3.cell (i := 0) rfl
  have r1 := BX3.cell (i := 1) rfl
  have BBH := Lib.hid BB3
  have hbs := st3.b
  have hss := st3.slots
  have FIN : Hid (∃ g', HObj ((w3.setCell ⟨w.heap.size, 0, none⟩ (.int .i64 x.1)).setCell ⟨w.heap.size, 1, none⟩ (.int .i64 x.2)) b slots S g' ∧ Mod g.foot w ((w3.setCell ⟨w.heap.size, 0, none⟩ (.int .i64 x.1)).setCell ⟨w.heap.size, 1, none⟩ (.int .i64 x.2)) ∧ ∀ k, g'.foot k → g.foot k ∨ w.heap.size ≤ k) := by
    have hsW := HB2.out.size
    have hm : Mod g.foot w w3 := (Mod.of_below (F := g.foot) HB2.out).trans st3.mod (fun _ _ hf => hf)
    have hf3 : ∀ k, g3.foot k → g.foot k ∨ W.heap.size ≤ k := st3.foot
    have hnA : ¬ g3.foot w.heap.size := fun hf => by
      rcases hf3 _ hf with a | a
      · exact nf _ (Nat.le_refl _) a
      · have := BB.out.lt; omega
    have hp : S.Perm g3.it := by
      have a1 := H2.out.perm
      have a2 := H2.out.first.2
      rw [a2] at e3p
      exact (List.Perm.cons_inv (a1.trans e3p.symm))
    refine ⟨g3, ⟨?_, e3, e3h, hbs.trans H2.out.hb, hss.trans H2.out.hs, hp, (List.pairwise_cons.1 H2.out.sorted).2⟩, ?_, fun k hk => ?_⟩
    · exact st3.rep.same fun k hk => by
        have hne : k ≠ w.heap.size := fun e => hnA (e ▸ hk)
        rw [Below.heap_setCell _ _ _ _ hne, Below.heap_setCell _ _ _ _ hne]
    · exact (hm.setCell _ (fun hh => by simp only at hh; omega) _).setCell _ (fun hh => by simp only at hh; omega) _
    · rcases hf3 k hk with a | a
      · exact .inl a
      · exact .inr (by omega)
  clear st3 e3 e3h e3p BB3 BX3 hbs hss
  go_wp2_with fail
  have BW := ((BBH.out.set 0 (.int .i64 x.1)).set 1 (.int .i64 x.2))
  have d0 := BW.cell (i := 0) rfl
  have d1 := BW.cell (i := 1) rfl
  refine bodyPost_ret (v := .tuple #[.agg #[.int .i64 x.1, .int .i64 x.2], .bool true]) ?_ rfl ⟨rfl, FIN.out⟩
  simp [results, Try.results23, go_sem, d0, d1]

end Go.Proofs.Ytebclbpibafkdaa
