/- Several texts in one: HeapD, HeapE, HeapF. -/
import Derived.Test.YtlooaipipmiijaaGreatZX14
namespace Go.Proofs.YtlooaipipmiijaaGreat
set_option linter.unusedVariables false
set_option linter.unusedSimpArgs false
open Go.RowKit
structure Good (g : HG) : Prop where
  pos : ∀ p, p < g.it.length → ∃ i : Nat, (ent g.it p).1 = (i : Int) ∧ i < g.slots ∧ g.pl i = p + 1
  back : ∀ i, i < g.slots → g.pl i ≠ 0 → ∃ p, p < g.it.length ∧ g.pl i = p + 1 ∧ (ent g.it p).1 = (i : Int)
theorem Good.inRange {g : HG} (h : Good g) : InRange g := fun p hp => let ⟨i, a, b, _⟩ := h.pos p hp; ⟨i, a, b⟩
theorem Good.inj {g : HG} (h : Good g) {p q : Nat} (hp : p < g.it.length) (hq : q < g.it.length) (e : (ent g.it p).1 = (ent g.it q).1) : p = q := by
  obtain ⟨i, a, _, b⟩ := h.pos p hp
  obtain ⟨j, c, _, d⟩ := h.pos q hq
  have : i = j := by omega
  subst this
  omega
theorem Good.nodup {g : HG} (h : Good g) : (g.it.map (·.1)).Nodup := by
  rw [List.nodup_iff_pairwise_ne, List.pairwise_iff_getElem]
  intro i j hi hj hij e
  simp only [List.length_map] at hi hj
  simp only [List.getElem_map] at e
  have := h.inj hi hj (by rw [ent_eq hi, ent_eq hj]; exact e)
  omega
theorem Good.len {g : HG} (h : Good g) : g.it.length ≤ g.slots := by
  have h1 := h.nodup
  have h2 : (g.it.map (·.1)) ⊆ (List.range g.slots).map (fun i : Nat => (i : Int)) := by
    intro x hx
    obtain ⟨e, he, rfl⟩ := List.mem_map.1 hx
    obtain ⟨p, hp, rfl⟩ := mem_ent he
    obtain ⟨i, a, b, _⟩ := h.pos p hp
    exact List.mem_map.2 ⟨i, List.mem_range.2 b, a.symm⟩
  have := h1.length_le_of_subset h2
  simpa using this
theorem Good.swap {g g' : HG} (h : Good g) {p q : Nat} (hp : p < g.it.length) (hq : q < g.it.length) (hs : g'.slots = g.slots) (hi : g'.it = swapL g.it p q)
    (hl : g'.pl = upd (upd g.pl (ent g.it q).1.toNat (p + 1)) (ent g.it p).1.toNat (q + 1)) : Good g' := by
  obtain ⟨i, ei, il, ip⟩ := h.pos p hp
  obtain ⟨j, ej, jl, jp⟩ := h.pos q hq
  have hlen : g'.it.length = g.it.length := by rw [hi, swapL_length]
  have e1 : (ent g.it p).1.toNat = i := by omega
  have e2 : (ent g.it q).1.toNat = j := by omega
  rw [e1, e2] at hl
  have hpl : ∀ k, g'.pl k = if k = i then q + 1 else if k = j then p + 1 else g.pl k := by intro k; rw [hl]; rfl
  refine ⟨fun r hr => ?_, fun k hk hk0 => ?_⟩
  · rw [hlen] at hr
    rw [hi, ent_swapL hp hq]
    by_cases e : r = q
    · subst e
      rw [if_pos rfl]
      exact ⟨i, ei, by rw [hs]; exact il, by rw [hpl, if_pos rfl]⟩
    · rw [if_neg e]
      by_cases e' : r = p
      · subst e'
        rw [if_pos rfl]
        have : j ≠ i := fun hh => e (h.inj hp hq (by omega))
        exact ⟨j, ej, by rw [hs]; exact jl, by rw [hpl, if_neg this, if_pos rfl]⟩
      · rw [if_neg e']
        obtain ⟨l, el, ll, lp⟩ := h.pos r hr
        have n1 : l ≠ i := fun hh => by subst hh; omega
        have n2 : l ≠ j := fun hh => by subst hh; omega
        exact ⟨l, el, by rw [hs]; exact ll, by rw [hpl, if_neg n1, if_neg n2]; exact lp⟩
  · rw [hs] at hk
    rw [hpl] at hk0 ⊢
    rw [hlen, hi]
    by_cases e : k = i
    · subst e
      rw [if_pos rfl]
      exact ⟨q, hq, rfl, by rw [ent_swapL hp hq, if_pos rfl]; exact ei⟩
    · rw [if_neg e] at hk0 ⊢
      by_cases e' : k = j
      · subst e'
        rw [if_pos rfl]
        refine ⟨p, hp, rfl, ?_⟩
        have : p ≠ q := fun hh => e (by subst hh; omega)
        rw [ent_swapL hp hq, if_neg this, if_pos rfl]; exact ej
      · rw [if_neg e'] at hk0 ⊢
        obtain ⟨r, hr, rp, re⟩ := h.back k hk hk0
        have n1 : r ≠ q := fun hh => by subst hh; omega
        have n2 : r ≠ p := fun hh => by subst hh; omega
        exact ⟨r, hr, rp, by rw [ent_swapL hp hq, if_neg n1, if_neg n2]; exact re⟩
structure SRel (g : HG) (w : World) (px hx : Nat) (g' : HG) (p' : Nat) (w' : World) : Prop where
  rep : HRep w' g'
  good : Good g'
  perm : g'.it.Perm g.it
  b : g'.b = g.b
  slots : g'.slots = g.slots
  foot : ∀ k, g'.foot k → g.foot k ∨ w.heap.size ≤ k
  mod : Mod (fun k => g.foot k ∨ k = px) w w'
  pb : Blk w' px 3 [.int .i64 (p' : Nat)]
  hb : Blk w' hx 112 [.pointer (some ⟨g.b, 0, none⟩)]
  lt : p' < g'.it.length
  npx : ¬ g.foot px
  nhx : ¬ g.foot hx
  ne : px ≠ hx
  lpx : px < w.heap.size
  lhx : hx < w.heap.size
theorem SRel.nfoot {g g' : HG} {w w' : World} {px hx p' : Nat} (h : SRel g w px hx g' p' w') : ¬ g'.foot px ∧ ¬ g'.foot hx := by
  refine ⟨fun hf => ?_, fun hf => ?_⟩
  · rcases h.foot _ hf with a | a
    · exact h.npx a
    · have := h.lpx; omega
  · rcases h.foot _ hf with a | a
    · exact h.nhx a
    · have := h.lhx; omega
theorem SRel.below {g g' : HG} {w w' w2 : World} {px hx p' : Nat} (h : SRel g w px hx g' p' w') (k : Below w'.heap.size w' w2) : SRel g w px hx g' p' w2 :=
  { h with rep := h.rep.below k, mod := h.mod.trans (Mod.of_below (F := fun _ => False) k) (fun _ _ e => e.elim), pb := h.pb.below k h.pb.lt, hb := h.hb.below k h.hb.lt }
theorem SRel.step {g g1 g2 : HG} {w w1 w2 : World} {px hx p' : Nat} (h : SRel g w px hx g1 p' w1) (k : HStep g1 w1 g2 w2) (hg : Good g2) (hp : g2.it.Perm g1.it) : SRel g w px hx g2 p' w2 := by
  have hs := h.mod.size
  refine { h with rep := k.rep, good := hg, perm := hp.trans h.perm, b := k.b.trans h.b, slots := k.slots.trans h.slots, foot := ?_, mod := ?_, pb := ?_, hb := ?_, lt := ?_ }
  · intro x hx'
    rcases k.foot x hx' with a | a
    · exact h.foot x a
    · exact .inr (by omega)
  · refine h.mod.trans k.mod fun x hx' hf => ?_
    rcases h.foot x hf with a | a
    · exact .inl a
    · omega
  · exact h.pb.mod k.mod h.nfoot.1
  · exact h.hb.mod k.mod h.nfoot.2
  · rw [hp.length_eq]; exact h.lt
theorem SRel.store {g g1 : HG} {w w1 : World} {px hx p' : Nat} (h : SRel g w px hx g1 p' w1) {q : Nat} (hq : q < g1.it.length) : SRel g w px hx g1 q (w1.setCell ⟨px, 0, none⟩ (.int .i64 (q : Nat))) := by
  have hn := h.nfoot
  refine { h with rep := ?_, mod := h.mod.setCell _ (fun _ => .inr rfl) _, pb := h.pb.set 0 _, hb := h.hb.other _ _ h.ne.symm, lt := hq }
  exact h.rep.same fun k hk => Below.heap_setCell _ _ _ _ (fun e => hn.1 (by simp only at e; rw [← e]; exact hk))
theorem SRel.trans {g g1 g2 : HG} {w w1 w2 : World} {px hx p1 p2 : Nat} (h : SRel g w px hx g1 p1 w1) (k : SRel g1 w1 px hx g2 p2 w2) : SRel g w px hx g2 p2 w2 := by
  have hs := h.mod.size
  refine { h with rep := k.rep, good := k.good, perm := k.perm.trans h.perm, b := k.b.trans h.b, slots := k.slots.trans h.slots, foot := ?_, mod := ?_, pb := k.pb, hb := ?_, lt := k.lt }
  · intro x hx'
    rcases k.foot x hx' with a | a
    · exact h.foot x a
    · exact .inr (by omega)
  · refine h.mod.trans k.mod fun x hx' hf => ?_
    rcases hf with hf | hf
    · rcases h.foot x hf with a | a
      · exact .inl a
      · omega
    · exact .inr hf
  · have := k.hb; rw [h.b] at this; exact this
structure SiftPost (g : HG) (w : World) (px hx : Nat) (I : List Ent → Nat → Prop) (e : Ending) (w' : World) : Prop where
  val : e = .returned (.tuple #[])
  out : ∃ g' p', SRel g w px hx g' p' w' ∧ I g'.it p'
theorem above_at {b : Nat} (w : World) (g : HG) (hb : g.b = b) (hr : HRep w g) (hlen : g.it.length ≤ 65536) (p : Nat) (hp : p < g.it.length) :
    Calls Tryz.prog 140 #[.pointer (some ⟨b, 0, none⟩), .int .i64 p] w (RetB (.int .i64 (aboveV g.it p)) w) := by
  subst hb; exact above_rep w g hr hlen p hp
theorem below_at {b : Nat} (w : World) (g : HG) (hb : g.b = b) (hr : HRep w g) (hlen : g.it.length ≤ 65536) (p : Nat) (hp : p < g.it.length) :
    Calls Tryz.prog 141 #[.pointer (some ⟨b, 0, none⟩), .int .i64 p] w (RetB (.int .i64 (belowV g.it p)) w) := by
  subst hb; exact below_rep w g hr hlen p hp
theorem swap_at {b : Nat} (w : World) (g : HG) (hb : g.b = b) (hr : HRep w g) (hin : InRange g) (hlen : g.it.length ≤ 65536) (p q : Nat) (hp : p < g.it.length) (hq : q < g.it.length) :
    Calls Tryz.prog 129 #[.pointer (some ⟨b, 0, none⟩), .int .i64 p, .int .i64 q] w
      (HDoes (.tuple #[]) g w (fun g' => g'.it = swapL g.it p q ∧ g'.pl = upd (upd g.pl (ent g.it q).1.toNat (p + 1)) (ent g.it p).1.toNat (q + 1))) := by
  subst hb; exact swap_rep w g hr hin hlen p q hp hq
theorem put_at {b : Nat} (w : World) (g : HG) (hb : g.b = b) (hr : HRep w g) (i : Nat) (hi : i < g.slots) (x : Nat) (hx : x ≤ 65537) (p : Int) (hp : p = (x : Int) - 1) :
    Calls Tryz.prog 127 #[.pointer (some ⟨b, 0, none⟩), .int .i64 i, .int .i64 p] w
      (HDoes (.tuple #[]) g w (fun g' => g'.it = g.it ∧ g'.iv = g.iv ∧ g'.pl = upd g.pl i x)) := by
  subst hb; exact put_rep w g hr i hi x hx p hp
theorem place_at {b : Nat} (w : World) (g : HG) (hb : g.b = b) (hr : HRep w g) (i : Nat) (hi : i < g.slots) (hpl : g.pl i ≤ 65537) :
    Calls Tryz.prog 126 #[.pointer (some ⟨b, 0, none⟩), .int .i64 i] w (Ret (.int .i64 ((g.pl i : Int) - 1)) w) := by
  subst hb; exact place_rep w g hr i hi hpl
def cellNat (w : World) (b : Nat) : Nat := match w.cell? ⟨b, 0, none⟩ with | some v => (intOf v).toNat | none => 0
theorem cellNat_of {w : World} {b n : Nat} (h : w.cell? ⟨b, 0, none⟩ = some (.int .i64 (n : Nat))) : cellNat w b = n := by simp [cellNat, h, intOf]
set_option maxRecDepth 100000 in
set_option maxHeartbeats 2000000 in
theorem sift_up (g : HG) (w : World) (px hx p : Nat) (h : SRel g w px hx g p w) (hI : UpInv g.it p) :
    Calls Tryz.prog 139 #[.func (.func 140) #[.pointer (some ⟨g.b, 0, none⟩)] #[], .pointer (some ⟨px, 0, none⟩), .pointer (some ⟨hx, 0, none⟩)] w
      (SiftPost g w px hx DownInv) := by
  have c0 := h.pb.cell (i := 0) rfl
  have H := Lib.hid h
  have HI := Lib.hid hI
  have hlen : g.it.length ≤ 65536 := Nat.le_trans h.good.len h.rep.hs
  clear h hI
  go_enter Tryz.func139, Tryz.ntmps139
  go_wp2_with fail
  refine (above_rep w g H.out.rep hlen p H.out.lt).mono ?_
  rintro e w1 ⟨rfl, hb1⟩
  have H1 := Lib.hid (H.out.below hb1)
  clear hb1 c0
  go_wp2_with fail
  go_loopw [4] (fun q wr => ∃ g' p', SRel g w px hx g' p' wr ∧ UpInv g'.it p' ∧ q = .int .i64 (aboveV g'.it p')) (fun _ wr => cellNat wr px)
  case atStart => exact ⟨g, p, H1.out, HI.out, rfl⟩
  case round =>
    obtain ⟨g', p', h, hI, rfl⟩ := hrel
    have hlen' : g'.it.length ≤ 65536 := Nat.le_trans h.good.len h.rep.hs
    have HH := Lib.hid h
    have c1 := h.pb.cell (i := 0) rfl
    have c2 := h.hb.cell (i := 0) rfl
    have cn : cellNat wr px = p' := cellNat_of c1
    have CN := Lib.hid cn
    by_cases hc : 0 < p' ∧ elt (ent g'.it p') (ent g'.it (par p'))
    · have hv : aboveV g'.it p' = ((par p' : Nat) : Int) := by unfold aboveV; rw [if_pos hc]
      have hq : par p' < g'.it.length := by have := h.lt; have := hc.1; unfold par; omega
      have NI : Hid (UpInv (swapL g'.it p' (par p')) (par p')) := by exact up_step h.lt hc.1 hc.2 hI
      have HM : Hid (par p' < p') := by show _ < _; have := hc.1; unfold par; omega
      rw [hv]
      generalize hqq : par p' = q at *
      clear hqq hv hc hI h cn
      have hne : ((q : Int) != -1) = true := by rw [bne_iff_ne]; omega
      go_wp2_with fail
      refine (swap_at wr g' HH.out.b HH.out.rep HH.out.good.inRange hlen' p' q HH.out.lt hq).mono ?_
      rintro e w2 ⟨rfl, g2, st, e2, e2'⟩
      have hg2 : Good g2 := HH.out.good.swap HH.out.lt hq st.slots e2 e2'
      have hp2 : g2.it.Perm g'.it := by rw [e2]; exact swapL_perm HH.out.lt hq
      have h2 := HH.out.step st hg2 hp2
      have hq2 : q < g2.it.length := by rw [hp2.length_eq]; exact hq
      have d1 := h2.pb.cell (i := 0) rfl
      have d2 := h2.pb.free 0
      have h3 := h2.store hq2
      have d3 := h3.pb.cell (i := 0) rfl
      have H3 := Lib.hid h3
      have NI2 : Hid (UpInv g2.it q) := by rw [← e2] at NI; exact NI
      have hlen2 : g2.it.length ≤ 65536 := by rw [hp2.length_eq]; exact hlen'
      have hle2 : Hid (g2.it.length = g'.it.length) := hp2.length_eq
      clear st hg2 hp2 h2 h3 e2 e2' c1 c2 NI
      go_wp2_with fail
      refine (above_at _ g2 H3.out.b H3.out.rep hlen2 q H3.out.lt).mono ?_
      rintro e w4 ⟨rfl, hb4⟩
      have H4 := Lib.hid (H3.out.below hb4)
      clear hb4 d1 d2 d3
      go_wp2_with fail
      go_roundw
      case rel => exact ⟨g2, q, H4.out, NI2.out, rfl⟩
      case measure =>
        rw [CN.out, cellNat_of (H4.out.pb.cell (i := 0) rfl)]
        exact HM.out
    · have hv : aboveV g'.it p' = -1 := by unfold aboveV; rw [if_neg hc]
      have NI : Hid (DownInv g'.it p') := by exact up_end hI hc
      rw [hv]
      clear hv hI h c1 c2 cn
      go_wp2_with fail
      go_end0
      exact ⟨rfl, g', p', HH.out, NI.out⟩
set_option maxRecDepth 100000 in
set_option maxHeartbeats 2000000 in
theorem sift_down (g : HG) (w : World) (px hx p : Nat) (h : SRel g w px hx g p w) (hI : DownInv g.it p) :
    Calls Tryz.prog 139 #[.func (.func 141) #[.pointer (some ⟨g.b, 0, none⟩)] #[], .pointer (some ⟨px, 0, none⟩), .pointer (some ⟨hx, 0, none⟩)] w
      (SiftPost g w px hx (fun it _ => Heapy it)) := by
  have c0 := h.pb.cell (i := 0) rfl
  have H := Lib.hid h
  have HI := Lib.hid hI
  have hlen : g.it.length ≤ 65536 := Nat.le_trans h.good.len h.rep.hs
  clear h hI
  go_enter Tryz.func139, Tryz.ntmps139
  go_wp2_with fail
  refine (below_rep w g H.out.rep hlen p H.out.lt).mono ?_
  rintro e w1 ⟨rfl, hb1⟩
  have H1 := Lib.hid (H.out.below hb1)
  clear hb1 c0
  go_wp2_with fail
  go_loopw [4] (fun q wr => ∃ g' p', SRel g w px hx g' p' wr ∧ DownInv g'.it p' ∧ q = .int .i64 (belowV g'.it p')) (fun _ wr => g.it.length - cellNat wr px)
  case atStart => exact ⟨g, p, H1.out, HI.out, rfl⟩
  case round =>
    obtain ⟨g', p', h, hI, rfl⟩ := hrel
    have hlen' : g'.it.length ≤ 65536 := Nat.le_trans h.good.len h.rep.hs
    have HH := Lib.hid h
    have c1 := h.pb.cell (i := 0) rfl
    have c2 := h.hb.cell (i := 0) rfl
    have cn : cellNat wr px = p' := cellNat_of c1
    have CN := Lib.hid cn
    by_cases hc : bel2 g'.it p' ≠ p'
    · have hv : belowV g'.it p' = ((bel2 g'.it p' : Nat) : Int) := by unfold belowV; rw [if_neg hc]
      have hq : bel2 g'.it p' < g'.it.length := by exact (bel_some hc).2.1
      have NI : Hid (DownInv (swapL g'.it p' (bel2 g'.it p')) (bel2 g'.it p')) := by obtain ⟨b1, b2, b3, b4, b5⟩ := bel_some hc; exact down_step h.lt b2 b1 b3 b4 b5 hI
      have HM : Hid (p' < bel2 g'.it p') := by show _ < _; obtain ⟨b1, _, b3, _⟩ := bel_some hc; unfold par at b3; omega
      rw [hv]
      generalize hqq : bel2 g'.it p' = q at *
      clear hqq hv hc hI h cn
      have hne : ((q : Int) != -1) = true := by rw [bne_iff_ne]; omega
      go_wp2_with fail
      refine (swap_at wr g' HH.out.b HH.out.rep HH.out.good.inRange hlen' p' q HH.out.lt hq).mono ?_
      rintro e w2 ⟨rfl, g2, st, e2, e2'⟩
      have hg2 : Good g2 := HH.out.good.swap HH.out.lt hq st.slots e2 e2'
      have hp2 : g2.it.Perm g'.it := by rw [e2]; exact swapL_perm HH.out.lt hq
      have h2 := HH.out.step st hg2 hp2
      have hq2 : q < g2.it.length := by rw [hp2.length_eq]; exact hq
      have d1 := h2.pb.cell (i := 0) rfl
      have d2 := h2.pb.free 0
      have h3 := h2.store hq2
      have d3 := h3.pb.cell (i := 0) rfl
      have H3 := Lib.hid h3
      have NI2 : Hid (DownInv g2.it q) := by rw [← e2] at NI; exact NI
      have hlen2 : g2.it.length ≤ 65536 := by rw [hp2.length_eq]; exact hlen'
      have hle2 : Hid (g2.it.length = g'.it.length) := hp2.length_eq
      clear st hg2 hp2 h2 h3 e2 e2' c1 c2 NI
      go_wp2_with fail
      refine (below_at _ g2 H3.out.b H3.out.rep hlen2 q H3.out.lt).mono ?_
      rintro e w4 ⟨rfl, hb4⟩
      have H4 := Lib.hid (H3.out.below hb4)
      clear hb4 d1 d2 d3
      go_wp2_with fail
      go_roundw
      case rel => exact ⟨g2, q, H4.out, NI2.out, rfl⟩
      case measure =>
        rw [CN.out, cellNat_of (H4.out.pb.cell (i := 0) rfl)]
        have := HM.out; have := H4.out.perm.length_eq; have h9 := hle2.out; have := H4.out.lt; omega
    · have hv : belowV g'.it p' = -1 := by unfold belowV; rw [if_pos (by omega)]
      have NI : Hid (Heapy g'.it) := by exact down_end hI (bel_none (by omega))
      rw [hv]
      clear hv hI h c1 c2 cn
      go_wp2_with fail
      go_end0
      exact ⟨rfl, g', p', HH.out, NI.out⟩
end Go.Proofs.YtlooaipipmiijaaGreat

namespace Go.Proofs.YtlooaipipmiijaaGreat
set_option linter.unusedVariables false
set_option linter.unusedSimpArgs false
open Go.RowKit
set_option maxRecDepth 100000 in
set_option maxHeartbeats 2000000 in
theorem settle_at {b : Nat} (w : World) (g : HG) (hb : g.b = b) (hr : HRep w g) (hg : Good g) (p : Nat) (hp : p < g.it.length) (hI : UpInv g.it p) :
    Calls Tryz.prog 124 #[.pointer (some ⟨b, 0, none⟩), .int .i64 p] w
      (HDoes (.tuple #[]) g w (fun g' => Good g' ∧ g'.it.Perm g.it ∧ Heapy g'.it)) := by
  subst hb
  have hlt := hr.foot_lt
  have HS : Hid (SRel g ((w.alloc (.cells #[.pointer (some ⟨g.b, 0, none⟩)] 112)).alloc (.cells #[.int .i64 (p : Nat)] 3)) (w.heap.size + 1) w.heap.size g p ((w.alloc (.cells #[.pointer (some ⟨g.b, 0, none⟩)] 112)).alloc (.cells #[.int .i64 (p : Nat)] 3))) := by
    have hbel : Below w.heap.size w ((w.alloc (.cells #[.pointer (some ⟨g.b, 0, none⟩)] 112)).alloc (.cells #[.int .i64 (p : Nat)] 3)) :=
      ((Below.refl _ _).alloc (Nat.le_refl _) _).alloc (by simp) _
    refine ⟨hr.below hbel, hg, List.Perm.refl _, rfl, rfl, fun _ h => .inl h, Mod.refl _ _, Blk.new' _ _ [_] (by simp), (Blk.new w _ [_]).alloc _, hp, fun h => ?_, fun h => ?_, by omega, by simp, by simp; omega⟩
    · have := hlt _ h; omega
    · have := hlt _ h; omega
  have HBL : Hid (Below w.heap.size w ((w.alloc (.cells #[.pointer (some ⟨g.b, 0, none⟩)] 112)).alloc (.cells #[.int .i64 (p : Nat)] 3))) := ((Below.refl _ _).alloc (Nat.le_refl _) _).alloc (by simp) _
  have HI := Lib.hid hI
  have HLT := Lib.hid hlt
  clear hr hg hI hlt
  go_enter Tryz.func124, Tryz.ntmps124
  go_wp2_with fail
  generalize hW : World.alloc (World.alloc w _) _ = W at HS HBL ⊢
  clear hW
  refine (sift_up g W (w.heap.size + 1) w.heap.size p HS.out HI.out).mono ?_
  rintro e w1 ⟨rfl, g1, p1, s1, i1⟩
  have c1 := s1.hb.cell (i := 0) rfl
  have S1 := Lib.hid s1
  have I1 := Lib.hid i1
  have B1 : Hid (g1.b = g.b) := s1.b
  have R1 : Hid (SRel g1 w1 (w.heap.size + 1) w.heap.size g1 p1 w1) := by
    have h2 := s1.nfoot
    have := s1.hb; rw [← s1.b] at this
    exact ⟨s1.rep, s1.good, List.Perm.refl _, rfl, rfl, fun _ h => .inl h, Mod.refl _ _, s1.pb, this, s1.lt, h2.1, h2.2, s1.ne, s1.pb.lt, s1.hb.lt⟩
  clear s1 i1
  go_wp2_with fail
  have hs2 := sift_down g1 w1 (w.heap.size + 1) w.heap.size p1 R1.out I1.out
  rw [B1.out] at hs2
  refine hs2.mono ?_
  rintro e w2 ⟨rfl, g2, p2, s2, i2⟩
  have FIN : Hid (HDoes (.tuple #[]) g w (fun g' => Good g' ∧ g'.it.Perm g.it ∧ Heapy g'.it) (.returned (.tuple #[])) w2) := by
    have s3 := S1.out.trans s2
    have hsz := HBL.out.size
    refine ⟨rfl, g2, ⟨s3.rep, ?_, s3.b, s3.slots, fun k hk => ?_⟩, s3.good, s3.perm, i2⟩
    · refine (Mod.of_below (F := g.foot) HBL.out).trans s3.mod fun x hx hf => ?_
      rcases hf with hf | hf
      · exact hf
      · omega
    · rcases s3.foot k hk with a | a
      · exact .inl a
      · exact .inr (by omega)
  clear s2 i2 hs2
  go_wp2_with fail
  go_end0
  exact FIN.out
theorem HRep.appended {w w1 w2 : World} {g : HG} (hr : HRep w g) (hb : Below w.heap.size w w1) {v' : Value} {x : Ent}
    (ho : w2.ownsRow 0 99 2 v' (g.it.length + 1) (ents g.it ++ [.int .i64 x.1, .int .i64 x.2])) (hg : w1.grownBy w2 g.iv.ownBlock) (hk : ∀ k, v'.ownBlock = some k → g.iv.ownBlock = some k ∨ w1.heap.size ≤ k) :
    HStep g w { g with iv := v', it := g.it ++ [x] } (w2.setCell ⟨g.b, 2, none⟩ v') := by
  have hlt := hr.foot_lt
  have hsz := hb.size
  have heq : ∀ k, g.foot k → g.iv.ownBlock ≠ some k → w2.heap[k]? = w.heap[k]? := fun k hf hn =>
    (hg.block k (by have := hlt k hf; omega) (fun e => hn e.symm)).trans (hb.block k (hlt k hf))
  have hvb : v'.ownBlock ≠ some g.b := fun e => by
    rcases hk _ e with a | a
    · exact hr.d2 a
    · have := hlt g.b (.inl rfl); omega
  have heq2 : ∀ k, g.foot k → g.iv.ownBlock ≠ some k → k ≠ g.b → (w2.setCell ⟨g.b, 2, none⟩ v').heap[k]? = w.heap[k]? := fun k hf hn hkb =>
    (Below.heap_setCell _ _ _ _ hkb).trans (heq k hf hn)
  have hm : Mod g.foot w (w2.setCell ⟨g.b, 2, none⟩ v') := by
    refine Mod.setCell (Mod.grown (Mod.of_below hb) hg fun k e _ => .inr (.inl e)) _ (fun _ => .inl rfl) _
  refine ⟨⟨?_, ?_, ?_, ?_, hr.hn, hr.hs, hr.d1, hvb, ?_, ?_, hr.d5⟩, hm, rfl, rfl, ?_⟩
  · have h0 : Blk w2 g.b 183 [.pointer (some ⟨g.b, 0, none⟩), .int .i64 (g.slots : Nat), g.iv, .slice (some ⟨g.pb, 0, none⟩) g.np g.np] := by
      have := hr.hb; unfold Blk at *; rw [heq _ (.inl rfl) hr.d2]; exact this
    exact h0.set 2 v'
  · have e1 : ents (g.it ++ [x]) = ents g.it ++ [.int .i64 x.1, .int .i64 x.2] := by rw [ents_append]; rfl
    show World.ownsRow _ _ _ _ _ (g.it ++ [x]).length (ents (g.it ++ [x]))
    rw [e1, List.length_append]
    exact owns_same ho fun k e => Below.heap_setCell _ _ _ _ (fun ee => hvb (by rw [e, ee]))
  · have := hr.hp; unfold Blk at *; show (w2.setCell _ _).heap[g.pb]? = _; rw [heq2 _ (.inr (.inr (.inl rfl))) hr.d3 hr.d1.symm]; exact this
  · intro j q hj hq
    have := hr.ht j q hj hq
    have hd := hr.d4 j q hj hq
    unfold Blk at *
    rw [heq2 _ (.inr (.inr (.inr ⟨j, hj, hq⟩))) hd.2.2 hd.1]
    exact this
  · intro e
    rcases hk _ e with a | a
    · exact hr.d3 a
    · have a' : w1.heap.size ≤ g.pb := a
      have := hlt g.pb (.inr (.inr (.inl rfl))); omega
  · intro j q hj hq
    have hd := hr.d4 j q hj hq
    refine ⟨hd.1, hd.2.1, fun e => ?_⟩
    rcases hk _ e with a | a
    · exact hd.2.2 a
    · have := hlt q (.inr (.inr (.inr ⟨j, hj, hq⟩))); omega
  · rintro k (h | h | h | h)
    · exact .inl (.inl h)
    · rcases hk _ h with a | a
      · exact .inl (.inr (.inl a))
      · exact .inr (by omega)
    · exact .inl (.inr (.inr (.inl h)))
    · exact .inl (.inr (.inr (.inr h)))
structure HObj (w : World) (b slots : Nat) (S : List Ent) (g : HG) : Prop where
  rep : HRep w g
  good : Good g
  heapy : Heapy g.it
  hb : g.b = b
  hs : g.slots = slots
  perm : S.Perm g.it
  sorted : Sorted S
structure HDone (v : Value) (w : World) (b slots : Nat) (S' : List Ent) (g : HG) (e : Ending) (w' : World) : Prop where
  val : e = .returned v
  out : ∃ g', HObj w' b slots S' g' ∧ Mod g.foot w w' ∧ ∀ k, g'.foot k → g.foot k ∨ w.heap.size ≤ k
theorem HObj.pl_zero {w : World} {b slots : Nat} {S : List Ent} {g : HG} (h : HObj w b slots S g) {i : Nat} (hi : i < slots) : g.pl i = 0 ↔ ∀ e ∈ S, e.1 ≠ (i : Int) := by
  have hi' : i < g.slots := by rw [h.hs]; exact hi
  constructor
  · intro h0 e he ei
    obtain ⟨p, hp, rfl⟩ := mem_ent (h.perm.mem_iff.1 he)
    obtain ⟨j, a, _, c⟩ := h.good.pos p hp
    have : j = i := by omega
    subst this
    omega
  · intro hn
    apply Classical.byContradiction
    intro h0
    obtain ⟨p, hp, _, e⟩ := h.good.back i hi' h0
    exact hn _ (h.perm.mem_iff.2 (ent_mem hp)) e
theorem HObj.pl_le {w : World} {b slots : Nat} {S : List Ent} {g : HG} (h : HObj w b slots S g) {i : Nat} (hi : i < slots) : g.pl i ≤ 65537 := by
  by_cases h0 : g.pl i = 0
  · omega
  · obtain ⟨p, hp, e, _⟩ := h.good.back i (by rw [h.hs]; exact hi) h0
    have := h.good.len
    have := h.rep.hs
    omega
theorem Good.pushed {g g' : HG} (h : Good g) {i : Nat} {x : Ent} (hi : i < g.slots) (h0 : g.pl i = 0) (hx : x.1 = (i : Int)) (hs : g'.slots = g.slots) (hit : g'.it = g.it ++ [x]) (hl : g'.pl = upd g.pl i (g.it.length + 1)) : Good g' := by
  have hpl : ∀ k, g'.pl k = if k = i then g.it.length + 1 else g.pl k := by intro k; rw [hl]; rfl
  have hlen : g'.it.length = g.it.length + 1 := by rw [hit]; simp
  have hent : ∀ p, p < g.it.length → ent g'.it p = ent g.it p := fun p hp => by rw [hit]; simp [ent, List.getElem?_append, hp]
  have hent2 : ent g'.it g.it.length = x := by rw [hit]; simp [ent]
  refine ⟨fun p hp => ?_, fun k hk hk0 => ?_⟩
  · by_cases e : p < g.it.length
    · obtain ⟨j, a, b, c⟩ := h.pos p e
      have : j ≠ i := fun ee => by subst ee; omega
      exact ⟨j, by rw [hent p e]; exact a, by rw [hs]; exact b, by rw [hpl, if_neg this]; exact c⟩
    · obtain rfl : p = g.it.length := by omega
      exact ⟨i, by rw [hent2]; exact hx, by rw [hs]; exact hi, by rw [hpl, if_pos rfl]⟩
  · rw [hpl] at hk0 ⊢
    by_cases e : k = i
    · subst e
      exact ⟨g.it.length, by omega, by rw [if_pos rfl], by rw [hent2]; exact hx⟩
    · rw [if_neg e] at hk0 ⊢
      obtain ⟨p, hp, a, b⟩ := h.back k (by rw [← hs]; exact hk) hk0
      exact ⟨p, by omega, a, by rw [hent p hp]; exact b⟩
theorem Tryz.infoEntry : (Tryz.prog.info? 99).map (fun i => (i.zero, i.size, i.bytes)) = some (some (.agg #[.int .i64 0, .int .i64 0]), 2, 16) := by kernel_rfl
set_option maxRecDepth 100000 in
set_option maxHeartbeats 2000000 in
theorem push_ok (w : World) (b slots : Nat) (S : List Ent) (g : HG) (h : HObj w b slots S g) (i : Nat) (key : Int) (hi : i < slots) (hn : ∀ e ∈ S, e.1 ≠ (i : Int)) :
    Calls Tryz.prog 94 #[.pointer (some ⟨b, 0, none⟩), .int .i64 i, .int .i64 key] w
      (HDone (.int .i64 0) w b slots (ins ((i : Int), key) S) g) := by
  have hp0 := (h.pl_zero hi).2 hn
  have hple := h.pl_le hi
  obtain rfl := h.hb
  obtain rfl := h.hs
  have hs := h.rep.hs
  have hlen := h.good.len
  have c0 := h.rep.hb.cell (i := 0) rfl
  have c1 := h.rep.hb.cell (i := 1) rfl
  have c2 := h.rep.hb.cell (i := 2) rfl
  have f2 := h.rep.hb.free 2
  have hpc : Hid (Calls Tryz.prog 126 #[.pointer (some ⟨g.b, 0, none⟩), .int .i64 i] w (Ret (.int .i64 (-1)) w)) := by
    have := place_at w g rfl h.rep i hi hple
    rw [hp0] at this
    exact this
  have H := Lib.hid h
  have HN := Lib.hid hn
  have HP := Lib.hid hp0
  have hhas : hasB (i : Int) (g.slots : Int) = true := by unfold hasB; simp; omega
  obtain ⟨ao, cp, hiv⟩ := owns_slice h.rep.hi
  rw [hiv] at c2
  have HV := Lib.hid hiv
  have hlb := h.rep.foot_lt g.b (.inl rfl)
  clear h hn hp0 hiv
  obtain ⟨n, hnl⟩ : ∃ n, n = g.it.length := ⟨_, rfl⟩
  have HNL := Lib.hid hnl
  rw [← hnl] at c2 hlen
  clear hnl
  have hown : Hid ((w.alloc (.cells #[.int .i64 (i : Nat), .int .i64 key] 99)).ownsRow 0 99 2 (.slice ao n cp) n (ents g.it)) := by
    have := H.out.rep.hi.alloc (.cells #[.int .i64 (i : Nat), .int .i64 key] 99)
    rw [HV.out, ← HNL.out] at this
    exact this
  have hnews : Hid (∀ j u, [Value.int .i64 (i : Nat), Value.int .i64 key][j]? = some u → (w.alloc (.cells #[.int .i64 (i : Nat), .int .i64 key] 99)).cell? ((⟨w.heap.size, 0, none⟩ : Addr).add j) = some u) := news_new w _ _
  go_enter Tryz.func94, Tryz.ntmps94
  go_wp2_with (first
    | (go_at_call 108; refine (valid_ok g.b w c0).mono ?_; rintro e w' ⟨rfl, rfl⟩)
    | (go_at_call 125; refine (has_any g.b i g.slots w c1).mono ?_; rintro e w' ⟨rfl, rfl⟩)
    | (go_at_call 126; refine (hpc.out).mono ?_; rintro e w' ⟨rfl, rfl⟩)
    | (at_builtin; with_reducible refine wpList_appendB 99 (.agg #[.int .i64 0, .int .i64 0]) 2 16 Tryz.underlying180 Tryz.infoEntry rfl (by decide) (.slice ao n cp) n (ents g.it) rfl hown.out ⟨w.heap.size, 0, none⟩ 1 1 [.int .i64 (i : Nat), .int .i64 key] rfl rfl hnews.out (by simp [Value.oneCell']) (by unfold maxLen; omega) (by omega) ?_))
  intro v' w2 ho hg hk
  obtain ⟨ao', cp', rfl⟩ := owns_slice ho
  have STP : Hid (HStep g w { g with iv := .slice ao' (n + 1) cp', it := g.it ++ [((i : Int), key)] } (w2.setCell ⟨g.b, 2, none⟩ (.slice ao' (n + 1) cp'))) := by
    refine H.out.rep.appended ((Below.refl _ _).alloc (Nat.le_refl _) _) (by rw [← HNL.out]; exact ho) (by rw [HV.out, ← HNL.out]; exact hg) (fun k e => ?_)
    rw [HV.out, ← HNL.out]
    exact hk k e
  have d2 : ∃ x, w2.cell? ⟨g.b, 2, none⟩ = some x ∧ w2.frozen? ⟨g.b, 2, none⟩ = false := by
    have hne : (Value.slice ao n cp).ownBlock ≠ some g.b := by have := H.out.rep.d2; rw [HV.out, ← HNL.out] at this; exact this
    have e1 := hg.block g.b (by simp; omega) (fun e => hne e.symm)
    rw [Below.heap_alloc _ _ _ hlb] at e1
    exact ⟨_, (World.cell?_of_block (w := w) (a := ⟨g.b, 2, none⟩) e1).trans c2, (World.frozen?_of_block (w := w) (a := ⟨g.b, 2, none⟩) e1).trans f2⟩
  obtain ⟨x2, d2, d3⟩ := d2
  clear ho hg hk c0 c1 c2 f2 hown hnews
  go_wp2_with fail
  generalize hW : World.setCell w2 _ _ = W at STP ⊢
  clear hW d2 d3
  refine (put_at W _ STP.out.b STP.out.rep i hi (n + 1) (by omega) n (by omega)).mono ?_
  rintro e w3 ⟨rfl, g3, st3, e3, e3v, e3'⟩
  have hg3 : Good g3 := H.out.good.pushed (x := ((i : Int), key)) hi HP.out rfl st3.slots e3 (by rw [e3', HNL.out])
  have hu3 : UpInv g3.it n := by rw [e3, HNL.out]; exact upInv_append H.out.heapy _
  have hl3 : n < g3.it.length := by rw [e3, HNL.out]; simp
  have hp3 : Hid (g3.it.Perm (g.it ++ [((i : Int), key)])) := by rw [e3]; exact List.Perm.refl _
  have ST3 := Lib.hid (STP.out.trans st3)
  have HG3 := Lib.hid hg3
  have HU3 := Lib.hid hu3
  clear st3 e3 e3v e3' hg3 hu3
  go_wp2_with fail
  refine (settle_at w3 g3 ST3.out.b ST3.out.rep HG3.out n hl3 HU3.out).mono ?_
  rintro e w4 ⟨rfl, g4, st4, e4, e4p, e4h⟩
  have FIN : Hid (HDone (.int .i64 0) w g.b g.slots (ins ((i : Int), key) S) g (.returned (.int .i64 0)) w4) := by
    have st := ST3.out.trans st4
    refine ⟨rfl, g4, ⟨st.rep, e4, e4h, st.b, st.slots, ?_, ins_sorted H.out.sorted (fun hm => HN.out _ hm rfl)⟩, st.mod, st.foot⟩
    refine (ins_perm _ _).trans (List.Perm.trans ?_ (e4p.trans hp3.out).symm)
    exact ((H.out.perm.cons _).trans (List.perm_append_comm (l₁ := [((i : Int), key)]) (l₂ := g.it)))
  clear st4 e4 e4p e4h
  go_wp2_with fail
  go_ret
  exact FIN.out
end Go.Proofs.YtlooaipipmiijaaGreat

namespace Go.Proofs.YtlooaipipmiijaaGreat
set_option linter.unusedVariables false
set_option linter.unusedSimpArgs false
open Go.RowKit
theorem owns_take {w : World} {base : Nat} {e : TypeId} {size g n cap : Nat} {xs : List Value} (h : w.ownsRow base e size (.slice (some ⟨g, 0, none⟩) n cap) n xs) (m : Nat) (hm : m ≤ n) :
    w.ownsRow base e size (.slice (some ⟨g, 0, none⟩) m cap) m (xs.take (m * size)) := by
  have hle : m * size ≤ n * size := Nat.mul_le_mul_right _ hm
  refine ⟨by rw [List.length_take, h.1]; omega, ?_⟩
  rcases h.2 with ⟨h', _⟩ | ⟨g', cap', cur, h', hb, hg, h1, h2, hs, htake⟩
  · simp at h'
  · simp only [Value.slice.injEq, Option.some.injEq, Addr.mk.injEq, and_true, true_and] at h'
    obtain ⟨rfl, rfl⟩ := h'
    refine .inr ⟨g, cap, cur, rfl, hb, hg, by omega, h2, hs, ?_⟩
    rw [← htake, List.take_take, Nat.min_eq_left hle]
theorem HRep.shorter {w : World} {g : HG} (hr : HRep w g) {b ib cap m : Nat} (hbb : g.b = b) (hv : g.iv = .slice (some ⟨ib, 0, none⟩) g.it.length cap) (hm : m ≤ g.it.length) :
    HStep g w { g with iv := .slice (some ⟨ib, 0, none⟩) m cap, it := g.it.take m } (w.setCell ⟨b, 2, none⟩ (.slice (some ⟨ib, 0, none⟩) m cap)) := by
  subst hbb
  have hob : g.iv.ownBlock = some ib := by rw [hv]; rfl
  have hlt := hr.foot_lt
  have d2 := hr.d2
  have d3 := hr.d3
  rw [hob] at d2 d3
  refine ⟨⟨hr.hb.set 2 _, ?_, hr.hp.other _ _ hr.d1.symm, ?_, hr.hn, hr.hs, hr.d1, d2, d3, ?_, hr.d5⟩, (Mod.refl _ _).setCell _ (fun _ => .inl rfl) _, rfl, rfl, ?_⟩
  · have ho := hr.hi
    rw [hv] at ho
    have h2 := owns_take ho m hm
    rw [ents_take] at h2
    have hl : (g.it.take m).length = m := by rw [List.length_take]; omega
    show World.ownsRow _ _ _ _ _ (g.it.take m).length _
    rw [hl]
    exact owns_same h2 fun k e => Below.heap_setCell _ _ _ _ (fun ee => d2 (by have e2 : k = g.b := ee; rw [← e2]; exact e))
  · intro j q hj hq
    exact (hr.ht j q hj hq).other _ _ (hr.d4 j q hj hq).1
  · intro j q hj hq
    have := hr.d4 j q hj hq
    rw [hob] at this
    exact this
  · rintro k (h | h | h | h)
    · exact .inl (.inl h)
    · exact .inl (.inr (.inl (by rw [hob]; exact h)))
    · exact .inl (.inr (.inr (.inl h)))
    · exact .inl (.inr (.inr (.inr h)))
theorem Good.popped {g g' : HG} (h : Good g) {m i : Nat} (hm : g.it.length = m + 1) (hi : (ent g.it m).1 = (i : Int)) (hs : g'.slots = g.slots) (hit : g'.it = g.it.take m) (hl : g'.pl = upd g.pl i 0) : Good g' := by
  have hpl : ∀ k, g'.pl k = if k = i then 0 else g.pl k := by intro k; rw [hl]; rfl
  have hlen : g'.it.length = m := by rw [hit, List.length_take]; omega
  have hent : ∀ p, p < m → ent g'.it p = ent g.it p := fun p hp => by rw [hit]; simp [ent, List.getElem?_take, hp]
  refine ⟨fun p hp => ?_, fun k hk hk0 => ?_⟩
  · rw [hlen] at hp
    obtain ⟨j, a, b, c⟩ := h.pos p (by omega)
    have : j ≠ i := fun e => by
      have := h.inj (p := p) (q := m) (by omega) (by omega) (by omega)
      omega
    exact ⟨j, by rw [hent p hp]; exact a, by rw [hs]; exact b, by rw [hpl, if_neg this]; exact c⟩
  · rw [hpl] at hk0 ⊢
    by_cases e : k = i
    · rw [if_pos e] at hk0; exact absurd rfl hk0
    · rw [if_neg e] at hk0 ⊢
      obtain ⟨p, hp, a, b⟩ := h.back k (by rw [← hs]; exact hk) hk0
      have : p ≠ m := fun ee => by subst ee; omega
      exact ⟨p, by omega, a, by rw [hent p (by omega)]; exact b⟩
set_option maxRecDepth 100000 in
set_option maxHeartbeats 2000000 in
theorem drop_at {b : Nat} (w : World) (g : HG) (hb : g.b = b) (hr : HRep w g) (hg : Good g) (hh : Heapy g.it) (p : Nat) (hp : p < g.it.length) :
    Calls Tryz.prog 97 #[.pointer (some ⟨b, 0, none⟩), .int .i64 p] w
      (HDoes (.tuple #[]) g w (fun g' => Good g' ∧ Heapy g'.it ∧ (ent g.it p :: g'.it).Perm g.it)) := by
  subst hb
  obtain ⟨m, hm⟩ : ∃ m, g.it.length = m + 1 := ⟨g.it.length - 1, by omega⟩
  have hlen := hg.len
  have hs := hr.hs
  obtain ⟨ib, cap, hv, hc1, hc2, hlt, h0, hcell⟩ := hr.at hp
  obtain ⟨i, hi, hil, _⟩ := hg.pos p hp
  rw [hm] at h0 hp hlen hc1
  have HR := Lib.hid hr
  have HGd := Lib.hid hg
  have HH := Lib.hid hh
  have HV := Lib.hid hv
  have HM := Lib.hid hm
  have HI := Lib.hid hi
  clear hcell hr hg hh hv hm hi
  go_enter Tryz.func97, Tryz.ntmps97
  go_wp2_with fail
  refine (swap_at w g rfl HR.out HGd.out.inRange (by rw [HM.out]; omega) p m (by rw [HM.out]; omega) (by rw [HM.out]; omega)).mono ?_
  rintro e w1 ⟨rfl, g1, st1, e1, e1'⟩
  have hpl : p < g.it.length := by rw [HM.out]; omega
  have hml : m < g.it.length := by rw [HM.out]; omega
  have hg1 : Good g1 := HGd.out.swap hpl hml st1.slots e1 e1'
  have hl1 : g1.it.length = m + 1 := by rw [e1, swapL_length]; exact HM.out
  have hent1 : (ent g1.it m) = ent g.it p := by rw [e1, ent_swapL hpl hml, if_pos rfl]
  obtain ⟨ib1, cap1, hv1, hd1, hd2, hlt1, h01, hcell1⟩ := st1.rep.at (p := m) (by omega)
  rw [st1.b, hl1] at h01
  have k1 := (hcell1 m (by omega)).1
  rw [hent1, HI.out] at k1
  have hil1 : i < g1.slots := by rw [st1.slots]; exact hil
  have ST1 := Lib.hid st1
  have HG1 := Lib.hid hg1
  have HL1 := Lib.hid hl1
  have HE1 : Hid (ent g1.it m = ent g.it p) := hent1
  have HV1 := Lib.hid hv1
  have E1 := Lib.hid e1
  have hd1' : m + 1 ≤ cap1 := by omega
  clear st1 hg1 hl1 hent1 hv1 hcell1 e1 e1' h0 hd1
  go_wp2_with fail
  refine (put_at w1 g1 ST1.out.b ST1.out.rep i hil1 0 (by omega) (-1) (by omega)).mono ?_
  rintro e w2 ⟨rfl, g2, st2, e2, e2v, e2'⟩
  have h02 := st2.rep.hb.cell (i := 2) rfl
  have f02 := st2.rep.hb.free 2
  rw [e2v, HV1.out, HL1.out, st2.b, ST1.out.b] at h02
  rw [st2.b, ST1.out.b] at f02
  have STT := Lib.hid (ST1.out.trans st2)
  have hv2 : g2.iv = .slice (some ⟨ib1, 0, none⟩) g2.it.length cap1 := by rw [e2v, HV1.out, e2]
  have st3 := st2.rep.shorter (m := m) (st2.b.trans ST1.out.b) hv2 (by rw [e2, HL1.out]; omega)
  have ST3 := Lib.hid (STT.out.trans st3)
  have hg3 : Good { g2 with iv := .slice (some ⟨ib1, 0, none⟩) m cap1, it := g2.it.take m } :=
    HG1.out.popped (m := m) (i := i) HL1.out (by rw [HE1.out]; exact HI.out) st2.slots (by show List.take m g2.it = _; rw [e2]) e2'
  have hperm3 : (ent g.it p :: g2.it.take m).Perm g.it := by
    have a1 : g1.it.Perm g.it := by rw [E1.out]; exact swapL_perm hpl hml
    have a2 := take_snoc_ent HL1.out
    rw [HE1.out] at a2
    rw [e2]
    refine List.Perm.trans (List.Perm.trans (List.perm_append_comm (l₁ := [ent g.it p]) (l₂ := g1.it.take m)) ?_) a1
    rw [← a2]
  have hlen3 : (g2.it.take m).length = m := by rw [List.length_take, e2, HL1.out]; omega
  have hk3 : ∀ k, k < (g2.it.take m).length → k ≠ p → ent (g2.it.take m) k = ent g.it k := by
    intro k hk hkp
    rw [hlen3] at hk
    have : ent (g2.it.take m) k = ent g1.it k := by rw [e2]; simp [ent, List.getElem?_take, hk]
    rw [this, E1.out, ent_swapL hpl hml, if_neg (by omega), if_neg hkp]
  have HG3 := Lib.hid hg3
  have HP3 := Lib.hid hperm3
  have HL3 := Lib.hid hlen3
  have HK3 := Lib.hid hk3
  clear st2 e2 e2v e2' hv2 st3 hg3 hperm3 hlen3 hk3 h01 k1
  by_cases hpm : p < m
  · have hU : Hid (UpInv (g2.it.take m) p) := upInv_set HH.out (by rw [HL3.out]; omega) (by rw [HL3.out]; exact hpm) HK3.out
    go_wp2_with fail
    generalize hW : World.setCell w2 _ _ = W at ST3 ⊢
    refine (settle_at W _ ST3.out.b ST3.out.rep HG3.out p (by show p < (g2.it.take m).length; rw [HL3.out]; exact hpm) hU.out).mono ?_
    rintro e w4 ⟨rfl, g4, st4, e4, e4p, e4h⟩
    have FIN : Hid (HDoes (.tuple #[]) g w (fun g' => Good g' ∧ Heapy g'.it ∧ (ent g.it p :: g'.it).Perm g.it) (.returned (.tuple #[])) w4) :=
      ⟨rfl, g4, ST3.out.trans st4, e4, e4h, (e4p.cons _).trans HP3.out⟩
    clear st4 e4 e4p e4h hW f02 h02
    go_wp2_with fail
    go_end0
    exact FIN.out
  · have hh3 : Hid (Heapy (g2.it.take m)) := by
      intro q q0 ql
      rw [HL3.out] at ql
      rw [HK3.out q (by rw [HL3.out]; exact ql) (by omega), HK3.out (par q) (by rw [HL3.out]; unfold par; omega) (by unfold par; omega)]
      exact HH.out q q0 (by omega)
    go_wp2_with fail
    go_end0
    exact ⟨rfl, _, ST3.out, HG3.out, hh3.out, HP3.out⟩
end Go.Proofs.YtlooaipipmiijaaGreat
