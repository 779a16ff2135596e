/- The heap's settle, Push, drop. -/
import Derived.Test.YtebclbpibafkdaaHeapD
namespace Go.Proofs.Ytebclbpibafkdaa
set_option linter.unusedVariables false
set_option linter.unusedSimpArgs false
open Go.RowKit

set_option maxRecDepth 100000 in
set_option maxHeartbeats 2000000 in
theorem settle_at {b : Nat} (w : World) (g : HG) (hb : g.b = b) (hr : HRep w g) (hg : Good g) (p : Nat) (hp : p < g.it.length) (hI : UpInv g.it p) :
    Calls Try.prog 82 #[.pointer (some ⟨b, 0, none⟩), .int .i64 p] w
      (HDoes (.tuple #[]) g w (fun g' => Good g' ∧ g'.it.Perm g.it ∧ Heapy g'.it)) := by
  subst hb
  have hlt := hr.foot_lt
  have HS : Hid (SRel g ((w.alloc (.cells #[.pointer (some ⟨g.b, 0, none⟩)] 24)).alloc (.cells #[.int .i64 (p : Nat)] 3)) (w.heap.size + 1) w.heap.size g p ((w.alloc (.cells #[.pointer (some ⟨g.b, 0, none⟩)] 24)).alloc (.cells #[.int .i64 (p : Nat)] 3))) := by
    have hbel : Below w.heap.size w ((w.alloc (.cells #[.pointer (some ⟨g.b, 0, none⟩)] 24)).alloc (.cells #[.int .i64 (p : Nat)] 3)) :=
      ((Below.refl _ _).alloc (Nat.le_refl _) _).alloc (by simp) _
    refine ⟨hr.below hbel, hg, List.Perm.refl _, rfl, rfl, fun _ h => .inl h, Mod.refl _ _, Blk.new' _ _ [_] (by simp), (Blk.new w _ [_]).alloc _, hp, fun h => ?_, fun h => ?_, by omega, by simp, by simp; omega⟩
    · have := hlt _ h; omega
    · have := hlt _ h; omega
  have HBL : Hid (Below w.heap.size w ((w.alloc (.cells #[.pointer (some ⟨g.b, 0, none⟩)] 24)).alloc (.cells #[.int .i64 (p : Nat)] 3))) := ((Below.refl _ _).alloc (Nat.le_refl _) _).alloc (by simp) _
  have HI := Lib.hid hI
  have HLT := Lib.hid hlt
  clear hr hg hI hlt
  go_enter Try.func82, Try.ntmps82
  go_wp2_with fail
  generalize hW : World.alloc (World.alloc w _) _ = W at HS HBL ⊢
  clear hW
  refine (sift_up g W (w.heap.size + 1) w.heap.size p HS.out HI.out).mono ?_
  rintro e w1 ⟨rfl, g1, p1, s1, i1⟩
  have c1 := s1.hb.cell (i := 0) rfl
  have S1 := Lib.hid s1
  have I1 := Lib.hid i1
  have B1 : Hid (g1.b = g.b) := s1.b
  have R1 : Hid (SRel g1 w1 (w.heap.size + 1) w.heap.size g1 p1 w1) := by
    have h2 := s1.nfoot
    have := s1.hb; rw [← s1.b] at this
    exact ⟨s1.rep, s1.good, List.Perm.refl _, rfl, rfl, fun _ h => .inl h, Mod.refl _ _, s1.pb, this, s1.lt, h2.1, h2.2, s1.ne, s1.pb.lt, s1.hb.lt⟩
  clear s1 i1
  go_wp2_with fail
  have hs2 := sift_down g1 w1 (w.heap.size + 1) w.heap.size p1 R1.out I1.out
  rw [B1.out] at hs2
  refine hs2.mono ?_
  rintro e w2 ⟨rfl, g2, p2, s2, i2⟩
  have FIN : Hid (HDoes (.tuple #[]) g w (fun g' => Good g' ∧ g'.it.Perm g.it ∧ Heapy g'.it) (.returned (.tuple #[])) w2) := by
    have s3 := S1.out.trans s2
    have hsz := HBL.out.size
    refine ⟨rfl, g2, ⟨s3.rep, ?_, s3.b, s3.slots, fun k hk => ?_⟩, s3.good, s3.perm, i2⟩
    · refine (Mod.of_below (F := g.foot) HBL.out).trans s3.mod fun x hx hf => ?_
      rcases hf with hf | hf
      · exact hf
      · omega
    · rcases s3.foot k hk with a | a
      · exact .inl a
      · exact .inr (by omega)
  clear s2 i2 hs2
  go_wp2_with fail
  go_end0
  exact FIN.out

/-- An entry more. -/
theorem HRep.appended {w w1 w2 : World} {g : HG} (hr : HRep w g) (hb : Below w.heap.size w w1) {v' : Value} {x : Ent}
    (ho : w2.ownsRow 0 28 2 v' (g.it.length + 1) (ents g.it ++ [.int .i64 x.1, .int .i64 x.2])) (hg : w1.grownBy w2 g.iv.ownBlock) (hk : ∀ k, v'.ownBlock = some k → g.iv.ownBlock = some k ∨ w1.heap.size ≤ k) :
    HStep g w { g with iv := v', it := g.it ++ [x] } (w2.setCell ⟨g.b, 2, none⟩ v') := by
  have hlt := hr.foot_lt
  have hsz := hb.size
  have heq : ∀ k, g.foot k → g.iv.ownBlock ≠ some k → w2.heap[k]? = w.heap[k]? := fun k hf hn =>
    (hg.block k (by have := hlt k hf; omega) (fun e => hn e.symm)).trans (hb.block k (hlt k hf))
  have hvb : v'.ownBlock ≠ some g.b := fun e => by
    rcases hk _ e with a | a
    · exact hr.d2 a
    · have := hlt g.b (.inl rfl); omega
  have heq2 : ∀ k, g.foot k → g.iv.ownBlock ≠ some k → k ≠ g.b → (w2.setCell ⟨g.b, 2, none⟩ v').heap[k]? = w.heap[k]? := fun k hf hn hkb =>
    (Below.heap_setCell _ _ _ _ hkb).trans (heq k hf hn)
  have hm : Mod g.foot w (w2.setCell ⟨g.b, 2, none⟩ v') := by
    refine Mod.setCell (Mod.grown (Mod.of_below hb) hg fun k e _ => .inr (.inl e)) _ (fun _ => .inl rfl) _
  refine ⟨⟨?_, ?_, ?_, ?_, hr.hn, hr.hs, hr.d1, hvb, ?_, ?_, hr.d5⟩, hm, rfl, rfl, ?_⟩
  · have h0 : Blk w2 g.b 90 [.pointer (some ⟨g.b, 0, none⟩), .int .i64 (g.slots : Nat), g.iv, .slice (some ⟨g.pb, 0, none⟩) g.np g.np] := by
      have := hr.hb; unfold Blk at *; rw [heq _ (.inl rfl) hr.d2]; exact this
    exact h0.set 2 v'
  · have e1 : ents (g.it ++ [x]) = ents g.it ++ [.int .i64 x.1, .int .i64 x.2] := by rw [ents_append]; rfl
    show World.ownsRow _ _ _ _ _ (g.it ++ [x]).length (ents (g.it ++ [x]))
    rw [e1, List.length_append]
    exact owns_same ho fun k e => Below.heap_setCell _ _ _ _ (fun ee => hvb (by rw [e, ee]))
  · have := hr.hp; unfold Blk at *; show (w2.setCell _ _).heap[g.pb]? = _; rw [heq2 _ (.inr (.inr (.inl rfl))) hr.d3 hr.d1.symm]; exact this
  · intro j q hj hq
    have := hr.ht j q hj hq
    have hd := hr.d4 j q hj hq
    unfold Blk at *
    rw [heq2 _ (.inr (.inr (.inr ⟨j, hj, hq⟩))) hd.2.2 hd.1]
    exact this
  · intro e
    rcases hk _ e with a | a
    · exact hr.d3 a
    · have a' : w1.heap.size ≤ g.pb := a
      have := hlt g.pb (.inr (.inr (.inl rfl))); omega
  · intro j q hj hq
    have hd := hr.d4 j q hj hq
    refine ⟨hd.1, hd.2.1, fun e => ?_⟩
    rcases hk _ e with a | a
    · exact hd.2.2 a
    · have := hlt q (.inr (.inr (.inr ⟨j, hj, hq⟩))); omega
  · rintro k (h | h | h | h)
    · exact .inl (.inl h)
    · rcases hk _ h with a | a
      · exact .inl (.inr (.inl a))
      · exact .inr (by omega)
    · exact .inl (.inr (.inr (.inl h)))
    · exact .inl (.inr (.inr (.inr h)))

/-- A heap object: its block, its slots, its entries in order. -/
structure HObj (w : World) (b slots : Nat) (S : List Ent) (g : HG) : Prop where
  rep : HRep w g
  good : Good g
  heapy : Heapy g.it
  hb : g.b = b
  hs : g.slots = slots
  perm : S.Perm g.it
  sorted : Sorted S

structure HDone (v : Value) (w : World) (b slots : Nat) (S' : List Ent) (g : HG) (e : Ending) (w' : World) : Prop where
  val : e = .returned v
  out : ∃ g', HObj w' b slots S' g' ∧ Mod g.foot w w' ∧ ∀ k, g'.foot k → g.foot k ∨ w.heap.size ≤ k

theorem HObj.pl_zero {w : World} {b slots : Nat} {S : List Ent} {g : HG} (h : HObj w b slots S g) {i : Nat} (hi : i < slots) : g.pl i = 0 ↔ ∀ e ∈ S, e.1 ≠ (i : Int) := by
  have hi' : i < g.slots := by rw [h.hs]; exact hi
  constructor
  · intro h0 e he ei
    obtain ⟨p, hp, rfl⟩ := mem_ent (h.perm.mem_iff.1 he)
    obtain ⟨j, a, _, c⟩ := h.good.pos p hp
    have : j = i := by omega
    subst this
    omega
  · intro hn
    apply Classical.byContradiction
    intro h0
    obtain ⟨p, hp, _, e⟩ := h.good.back i hi' h0
    exact hn _ (h.perm.mem_iff.2 (ent_mem hp)) e

theorem HObj.pl_le {w : World} {b slots : Nat} {S : List Ent} {g : HG} (h : HObj w b slots S g) {i : Nat} (hi : i < slots) : g.pl i ≤ 65537 := by
  by_cases h0 : g.pl i = 0
  · omega
  · obtain ⟨p, hp, e, _⟩ := h.good.back i (by rw [h.hs]; exact hi) h0
    have := h.good.len
    have := h.rep.hs
    omega

/-- A pushed entry: the state before it settles. -/
theorem Good.pushed {g g' : HG} (h : Good g) {i : Nat} {x : Ent} (hi : i < g.slots) (h0 : g.pl i = 0) (hx : x.1 = (i : Int)) (hs : g'.slots = g.slots) (hit : g'.it = g.it ++ [x]) (hl : g'.pl = upd g.pl i (g.it.length + 1)) : Good g' := by
  have hpl : ∀ k, g'.pl k = if k = i then g.it.length + 1 else g.pl k := by intro k; rw [hl]; rfl
  have hlen : g'.it.length = g.it.length + 1 := by rw [hit]; simp
  have hent : ∀ p, p < g.it.length → ent g'.it p = ent g.it p := fun p hp => by rw [hit]; simp [ent, List.getElem?_append, hp]
  have hent2 : ent g'.it g.it.length = x := by rw [hit]; simp [ent]
  refine ⟨fun p hp => ?_, fun k hk hk0 => ?_⟩
  · by_cases e : p < g.it.length
    · obtain ⟨j, a, b, c⟩ := h.pos p e
      have : j ≠ i := fun ee => by subst ee; omega
      exact ⟨j, by rw [hent p e]; exact a, by rw [hs]; exact b, by rw [hpl, if_neg this]; exact c⟩
    · obtain rfl : p = g.it.length := by omega
      exact ⟨i, by rw [hent2]; exact hx, by rw [hs]; exact hi, by rw [hpl, if_pos rfl]⟩
  · rw [hpl] at hk0 ⊢
    by_cases e : k = i
    · subst e
      exact ⟨g.it.length, by omega, by rw [if_pos rfl], by rw [hent2]; exact hx⟩
    · rw [if_neg e] at hk0 ⊢
      obtain ⟨p, hp, a, b⟩ := h.back k (by rw [← hs]; exact hk) hk0
      exact ⟨p, by omega, a, by rw [hent p hp]; exact b⟩

theorem Try.infoEntry : (Try.prog.info? 28).map (fun i => (i.zero, i.size, i.bytes)) = some (some (.agg #[.int .i64 0, .int .i64 0]), 2, 16) := by kernel_rfl

set_option maxRecDepth 100000 in
set_option maxHeartbeats 2000000 in
theorem push_ok (w : World) (b slots : Nat) (S : List Ent) (g : HG) (h : HObj w b slots S g) (i : Nat) (key : Int) (hi : i < slots) (hn : ∀ e ∈ S, e.1 ≠ (i : Int)) :
    Calls Try.prog 49 #[.pointer (some ⟨b, 0, none⟩), .int .i64 i, .int .i64 key] w
      (HDone (.int .i64 0) w b slots (ins ((i : Int), key) S) g) := by
  have hp0 := (h.pl_zero hi).2 hn
  have hple := h.pl_le hi
  obtain rfl := h.hb
  obtain rfl := h.hs
  have hs := h.rep.hs
  have hlen := h.good.len
  have c0 := h.rep.hb.cell (i := 0) rfl
  have c1 := h.rep.hb.cell (i := 1) rfl
  have c2 := h.rep.hb.cell (i := 2) rfl
  have f2 := h.rep.hb.free 2
  have hpc : Hid (Calls Try.prog 84 #[.pointer (some ⟨g.b, 0, none⟩), .int .i64 i] w (Ret (.int .i64 (-1)) w)) := by
    have := place_at w g rfl h.rep i hi hple
    rw [hp0] at this
    exact this
  have H := Lib.hid h
  have HN := Lib.hid hn
  have HP := Lib.hid hp0
  have hhas : hasB (i : Int) (g.slots : Int) = true := by unfold hasB; simp; omega
  obtain ⟨ao, cp, hiv⟩ := owns_slice h.rep.hi
  rw [hiv] at c2
  have HV := Lib.hid hiv
  have hlb := h.rep.foot_lt g.b (.inl rfl)
  clear h hn hp0 hiv
  obtain ⟨n, hnl⟩ : ∃ n, n = g.it.length := ⟨_, rfl⟩
  have HNL := Lib.hid hnl
  rw [← hnl] at c2 hlen
  clear hnl
  have hown : Hid ((w.alloc (.cells #[.int .i64 (i : Nat), .int .i64 key] 28)).ownsRow 0 28 2 (.slice ao n cp) n (ents g.it)) := by
    have := H.out.rep.hi.alloc (.cells #[.int .i64 (i : Nat), .int .i64 key] 28)
    rw [HV.out, ← HNL.out] at this
    exact this
  have hnews : Hid (∀ j u, [Value.int .i64 (i : Nat), Value.int .i64 key][j]? = some u → (w.alloc (.cells #[.int .i64 (i : Nat), .int .i64 key] 28)).cell? ((⟨w.heap.size, 0, none⟩ : Addr).add j) = some u) := news_new w _ _
  go_enter Try.func49, Try.ntmps49
  go_wp2_with (first
    | (go_at_call 59; refine (valid_ok g.b w c0).mono ?_; rintro e w' ⟨rfl, rfl⟩)
    | (go_at_call 83; refine (has_any g.b i g.slots w c1).mono ?_; rintro e w' ⟨rfl, rfl⟩)
    | (go_at_call 84; refine (hpc.out).mono ?_; rintro e w' ⟨rfl, rfl⟩)
    | (at_builtin; with_reducible refine wpList_appendB 28 (.agg #[.int .i64 0, .int .i64 0]) 2 16 Try.underlying68 Try.infoEntry rfl (by decide) (.slice ao n cp) n (ents g.it) rfl hown.out ⟨w.heap.size, 0, none⟩ 1 1 [.int .i64 (i : Nat), .int .i64 key] rfl rfl hnews.out (by simp [Value.oneCell']) (by unfold maxLen; omega) (by omega) ?_))
  intro v' w2 ho hg hk
  obtain ⟨ao', cp', rfl⟩ := owns_slice ho
  have STP : Hid (HStep g w { g with iv := .slice ao' (n + 1) cp', it := g.it ++ [((i : Int), key)] } (w2.setCell ⟨g.b, 2, none⟩ (.slice ao' (n + 1) cp'))) := by
    refine H.out.rep.appended ((Below.refl _ _).alloc (Nat.le_refl _) _) (by rw [← HNL.out]; exact ho) (by rw [HV.out, ← HNL.out]; exact hg) (fun k e => ?_)
    rw [HV.out, ← HNL.out]
    exact hk k e
  have d2 : ∃ x, w2.cell? ⟨g.b, 2, none⟩ = some x ∧ w2.frozen? ⟨g.b, 2, none⟩ = false := by
    have hne : (Value.slice ao n cp).ownBlock ≠ some g.b := by have := H.out.rep.d2; rw [HV.out, ← HNL.out] at this; exact this
    have e1 := hg.block g.b (by simp; omega) (fun e => hne e.symm)
    rw [Below.heap_alloc _ _ _ hlb] at e1
    exact ⟨_, (World.cell?_of_block (w := w) (a := ⟨g.b, 2, none⟩) e1).trans c2, (World.frozen?_of_block (w := w) (a := ⟨g.b, 2, none⟩) e1).trans f2⟩
  obtain ⟨x2, d2, d3⟩ := d2
  clear ho hg hk c0 c1 c2 f2 hown hnews
  go_wp2_with fail
  generalize hW : World.setCell w2 _ _ = W at STP ⊢
  clear hW d2 d3
  refine (put_at W _ STP.out.b STP.out.rep i hi (n + 1) (by omega) n (by omega)).mono ?_
  rintro e w3 ⟨rfl, g3, st3, e3, e3v, e3'⟩
  have hg3 : Good g3 := H.out.good.pushed (x := ((i : Int), key)) hi HP.out rfl st3.slots e3 (by rw [e3', HNL.out])
  have hu3 : UpInv g3.it n := by rw [e3, HNL.out]; exact upInv_append H.out.heapy _
  have hl3 : n < g3.it.length := by rw [e3, HNL.out]; simp
  have hp3 : Hid (g3.it.Perm (g.it ++ [((i : Int), key)])) := by rw [e3]; exact List.Perm.refl _
  have ST3 := Lib.hid (STP.out.trans st3)
  have HG3 := Lib.hid hg3
  have HU3 := Lib.hid hu3
  clear st3 e3 e3v e3' hg3 hu3
  go_wp2_with fail
  refine (settle_at w3 g3 ST3.out.b ST3.out.rep HG3.out n hl3 HU3.out).mono ?_
  rintro e w4 ⟨rfl, g4, st4, e4, e4p, e4h⟩
  have FIN : Hid (HDone (.int .i64 0) w g.b g.slots (ins ((i : Int), key) S) g (.returned (.int .i64 0)) w4) := by
    have st := ST3.out.trans st4
    refine ⟨rfl, g4, ⟨st.rep, e4, e4h, st.b, st.slots, ?_, ins_sorted H.out.sorted (fun hm => HN.out _ hm rfl)⟩, st.mod, st.foot⟩
    refine (ins_perm _ _).trans (List.Perm.trans ?_ (e4p.trans hp3.out).symm)
    exact ((H.out.perm.cons _).trans (List.perm_append_comm (l₁ := [((i : Int), key)]) (l₂ := g.it)))
  clear st4 e4 e4p e4h
  go_wp2_with fail
  go_ret
  exact FIN.out

end Go.Proofs.Ytebclbpibafkdaa
