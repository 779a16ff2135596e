/- The heap's settle: an entry goes to where it belongs. -/
import Derived.Test.YtebclbpibafkdaaHeapC
namespace Go.Proofs.Ytebclbpibafkdaa
set_option linter.unusedVariables false
set_option linter.unusedSimpArgs false
open Go.RowKit

/-- The places and the entries tell the same. -/
structure Good (g : HG) : Prop where
  pos : ∀ p, p < g.it.length → ∃ i : Nat, (ent g.it p).1 = (i : Int) ∧ i < g.slots ∧ g.pl i = p + 1
  back : ∀ i, i < g.slots → g.pl i ≠ 0 → ∃ p, p < g.it.length ∧ g.pl i = p + 1 ∧ (ent g.it p).1 = (i : Int)

theorem Good.inRange {g : HG} (h : Good g) : InRange g := fun p hp => let ⟨i, a, b, _⟩ := h.pos p hp; ⟨i, a, b⟩

theorem Good.inj {g : HG} (h : Good g) {p q : Nat} (hp : p < g.it.length) (hq : q < g.it.length) (e : (ent g.it p).1 = (ent g.it q).1) : p = q := by
  obtain ⟨i, a, _, b⟩ := h.pos p hp
  obtain ⟨j, c, _, d⟩ := h.pos q hq
  have : i = j := by omega
  subst this
  omega

theorem Good.nodup {g : HG} (h : Good g) : (g.it.map (·.1)).Nodup := by
  rw [List.nodup_iff_pairwise_ne, List.pairwise_iff_getElem]
  intro i j hi hj hij e
  simp only [List.length_map] at hi hj
  simp only [List.getElem_map] at e
  have := h.inj hi hj (by rw [ent_eq hi, ent_eq hj]; exact e)
  omega

theorem Good.len {g : HG} (h : Good g) : g.it.length ≤ g.slots := by
  have h1 := h.nodup
  have h2 : (g.it.map (·.1)) ⊆ (List.range g.slots).map (fun i : Nat => (i : Int)) := by
    intro x hx
    obtain ⟨e, he, rfl⟩ := List.mem_map.1 hx
    obtain ⟨p, hp, rfl⟩ := mem_ent he
    obtain ⟨i, a, b, _⟩ := h.pos p hp
    exact List.mem_map.2 ⟨i, List.mem_range.2 b, a.symm⟩
  have := h1.length_le_of_subset h2
  simpa using this

theorem Good.swap {g g' : HG} (h : Good g) {p q : Nat} (hp : p < g.it.length) (hq : q < g.it.length) (hs : g'.slots = g.slots) (hi : g'.it = swapL g.it p q)
    (hl : g'.pl = upd (upd g.pl (ent g.it q).1.toNat (p + 1)) (ent g.it p).1.toNat (q + 1)) : Good g' := by
  obtain ⟨i, ei, il, ip⟩ := h.pos p hp
  obtain ⟨j, ej, jl, jp⟩ := h.pos q hq
  have hlen : g'.it.length = g.it.length := by rw [hi, swapL_length]
  have e1 : (ent g.it p).1.toNat = i := by omega
  have e2 : (ent g.it q).1.toNat = j := by omega
  rw [e1, e2] at hl
  have hpl : ∀ k, g'.pl k = if k = i then q + 1 else if k = j then p + 1 else g.pl k := by intro k; rw [hl]; rfl
  refine ⟨fun r hr => ?_, fun k hk hk0 => ?_⟩
  · rw [hlen] at hr
    rw [hi, ent_swapL hp hq]
    by_cases e : r = q
    · subst e
      rw [if_pos rfl]
      exact ⟨i, ei, by rw [hs]; exact il, by rw [hpl, if_pos rfl]⟩
    · rw [if_neg e]
      by_cases e' : r = p
      · subst e'
        rw [if_pos rfl]
        have : j ≠ i := fun hh => e (h.inj hp hq (by omega))
        exact ⟨j, ej, by rw [hs]; exact jl, by rw [hpl, if_neg this, if_pos rfl]⟩
      · rw [if_neg e']
        obtain ⟨l, el, ll, lp⟩ := h.pos r hr
        have n1 : l ≠ i := fun hh => by subst hh; omega
        have n2 : l ≠ j := fun hh => by subst hh; omega
        exact ⟨l, el, by rw [hs]; exact ll, by rw [hpl, if_neg n1, if_neg n2]; exact lp⟩
  · rw [hs] at hk
    rw [hpl] at hk0 ⊢
    rw [hlen, hi]
    by_cases e : k = i
    · subst e
      rw [if_pos rfl]
      exact ⟨q, hq, rfl, by rw [ent_swapL hp hq, if_pos rfl]; exact ei⟩
    · rw [if_neg e] at hk0 ⊢
      by_cases e' : k = j
      · subst e'
        rw [if_pos rfl]
        refine ⟨p, hp, rfl, ?_⟩
        have : p ≠ q := fun hh => e (by subst hh; omega)
        rw [ent_swapL hp hq, if_neg this, if_pos rfl]; exact ej
      · rw [if_neg e'] at hk0 ⊢
        obtain ⟨r, hr, rp, re⟩ := h.back k hk hk0
        have n1 : r ≠ q := fun hh => by subst hh; omega
        have n2 : r ≠ p := fun hh => by subst hh; omega
        exact ⟨r, hr, rp, by rw [ent_swapL hp hq, if_neg n1, if_neg n2]; exact re⟩

/-- What holds while an entry moves: the box of its place, the box of the heap. -/
structure SRel (g : HG) (w : World) (px hx : Nat) (g' : HG) (p' : Nat) (w' : World) : Prop where
  rep : HRep w' g'
  good : Good g'
  perm : g'.it.Perm g.it
  b : g'.b = g.b
  slots : g'.slots = g.slots
  foot : ∀ k, g'.foot k → g.foot k ∨ w.heap.size ≤ k
  mod : Mod (fun k => g.foot k ∨ k = px) w w'
  pb : Blk w' px 3 [.int .i64 (p' : Nat)]
  hb : Blk w' hx 24 [.pointer (some ⟨g.b, 0, none⟩)]
  lt : p' < g'.it.length
  npx : ¬ g.foot px
  nhx : ¬ g.foot hx
  ne : px ≠ hx
  lpx : px < w.heap.size
  lhx : hx < w.heap.size

theorem SRel.nfoot {g g' : HG} {w w' : World} {px hx p' : Nat} (h : SRel g w px hx g' p' w') : ¬ g'.foot px ∧ ¬ g'.foot hx := by
  refine ⟨fun hf => ?_, fun hf => ?_⟩
  · rcases h.foot _ hf with a | a
    · exact h.npx a
    · have := h.lpx; omega
  · rcases h.foot _ hf with a | a
    · exact h.nhx a
    · have := h.lhx; omega

theorem SRel.below {g g' : HG} {w w' w2 : World} {px hx p' : Nat} (h : SRel g w px hx g' p' w') (k : Below w'.heap.size w' w2) : SRel g w px hx g' p' w2 :=
  { h with rep := h.rep.below k, mod := h.mod.trans (Mod.of_below (F := fun _ => False) k) (fun _ _ e => e.elim), pb := h.pb.below k h.pb.lt, hb := h.hb.below k h.hb.lt }

theorem SRel.step {g g1 g2 : HG} {w w1 w2 : World} {px hx p' : Nat} (h : SRel g w px hx g1 p' w1) (k : HStep g1 w1 g2 w2) (hg : Good g2) (hp : g2.it.Perm g1.it) : SRel g w px hx g2 p' w2 := by
  have hs := h.mod.size
  refine { h with rep := k.rep, good := hg, perm := hp.trans h.perm, b := k.b.trans h.b, slots := k.slots.trans h.slots, foot := ?_, mod := ?_, pb := ?_, hb := ?_, lt := ?_ }
  · intro x hx'
    rcases k.foot x hx' with a | a
    · exact h.foot x a
    · exact .inr (by omega)
  · refine h.mod.trans k.mod fun x hx' hf => ?_
    rcases h.foot x hf with a | a
    · exact .inl a
    · omega
  · exact h.pb.mod k.mod h.nfoot.1
  · exact h.hb.mod k.mod h.nfoot.2
  · rw [hp.length_eq]; exact h.lt

theorem SRel.store {g g1 : HG} {w w1 : World} {px hx p' : Nat} (h : SRel g w px hx g1 p' w1) {q : Nat} (hq : q < g1.it.length) : SRel g w px hx g1 q (w1.setCell ⟨px, 0, none⟩ (.int .i64 (q : Nat))) := by
  have hn := h.nfoot
  refine { h with rep := ?_, mod := h.mod.setCell _ (fun _ => .inr rfl) _, pb := h.pb.set 0 _, hb := h.hb.other _ _ h.ne.symm, lt := hq }
  exact h.rep.same fun k hk => Below.heap_setCell _ _ _ _ (fun e => hn.1 (by simp only at e; rw [← e]; exact hk))

theorem SRel.trans {g g1 g2 : HG} {w w1 w2 : World} {px hx p1 p2 : Nat} (h : SRel g w px hx g1 p1 w1) (k : SRel g1 w1 px hx g2 p2 w2) : SRel g w px hx g2 p2 w2 := by
  have hs := h.mod.size
  refine { h with rep := k.rep, good := k.good, perm := k.perm.trans h.perm, b := k.b.trans h.b, slots := k.slots.trans h.slots, foot := ?_, mod := ?_, pb := k.pb, hb := ?_, lt := k.lt }
  · intro x hx'
    rcases k.foot x hx' with a | a
    · exact h.foot x a
    · exact .inr (by omega)
  · refine h.mod.trans k.mod fun x hx' hf => ?_
    rcases hf with hf | hf
    · rcases h.foot x hf with a | a
      · exact .inl a
      · omega
    · exact .inr hf
  · have := k.hb; rw [h.b] at this; exact this

structure SiftPost (g : HG) (w : World) (px hx : Nat) (I : List Ent → Nat → Prop) (e : Ending) (w' : World) : Prop where
  val : e = .returned (.tuple #[])
  out : ∃ g' p', SRel g w px hx g' p' w' ∧ I g'.it p'

theorem above_at {b : Nat} (w : World) (g : HG) (hb : g.b = b) (hr : HRep w g) (hlen : g.it.length ≤ 65536) (p : Nat) (hp : p < g.it.length) :
    Calls Try.prog 98 #[.pointer (some ⟨b, 0, none⟩), .int .i64 p] w (RetB (.int .i64 (aboveV g.it p)) w) := by
  subst hb; exact above_rep w g hr hlen p hp

theorem below_at {b : Nat} (w : World) (g : HG) (hb : g.b = b) (hr : HRep w g) (hlen : g.it.length ≤ 65536) (p : Nat) (hp : p < g.it.length) :
    Calls Try.prog 99 #[.pointer (some ⟨b, 0, none⟩), .int .i64 p] w (RetB (.int .i64 (belowV g.it p)) w) := by
  subst hb; exact below_rep w g hr hlen p hp

theorem swap_at {b : Nat} (w : World) (g : HG) (hb : g.b = b) (hr : HRep w g) (hin : InRange g) (hlen : g.it.length ≤ 65536) (p q : Nat) (hp : p < g.it.length) (hq : q < g.it.length) :
    Calls Try.prog 89 #[.pointer (some ⟨b, 0, none⟩), .int .i64 p, .int .i64 q] w
      (HDoes (.tuple #[]) g w (fun g' => g'.it = swapL g.it p q ∧ g'.pl = upd (upd g.pl (ent g.it q).1.toNat (p + 1)) (ent g.it p).1.toNat (q + 1))) := by
  subst hb; exact swap_rep w g hr hin hlen p q hp hq

theorem put_at {b : Nat} (w : World) (g : HG) (hb : g.b = b) (hr : HRep w g) (i : Nat) (hi : i < g.slots) (x : Nat) (hx : x ≤ 65537) (p : Int) (hp : p = (x : Int) - 1) :
    Calls Try.prog 85 #[.pointer (some ⟨b, 0, none⟩), .int .i64 i, .int .i64 p] w
      (HDoes (.tuple #[]) g w (fun g' => g'.it = g.it ∧ g'.iv = g.iv ∧ g'.pl = upd g.pl i x)) := by
  subst hb; exact put_rep w g hr i hi x hx p hp

theorem place_at {b : Nat} (w : World) (g : HG) (hb : g.b = b) (hr : HRep w g) (i : Nat) (hi : i < g.slots) (hpl : g.pl i ≤ 65537) :
    Calls Try.prog 84 #[.pointer (some ⟨b, 0, none⟩), .int .i64 i] w (Ret (.int .i64 ((g.pl i : Int) - 1)) w) := by
  subst hb; exact place_rep w g hr i hi hpl

def cellNat (w : World) (b : Nat) : Nat := match w.cell? ⟨b, 0, none⟩ with | some v => (intOf v).toNat | none => 0

theorem cellNat_of {w : World} {b n : Nat} (h : w.cell? ⟨b, 0, none⟩ = some (.int .i64 (n : Nat))) : cellNat w b = n := by simp [cellNat, h, intOf]

set_option maxRecDepth 100000 in
set_option maxHeartbeats 2000000 in
theorem sift_up (g : HG) (w : World) (px hx p : Nat) (h : SRel g w px hx g p w) (hI : UpInv g.it p) :
    Calls Try.prog 97 #[.func (.func 98) #[.pointer (some ⟨g.b, 0, none⟩)] #[], .pointer (some ⟨px, 0, none⟩), .pointer (some ⟨hx, 0, none⟩)] w
      (SiftPost g w px hx DownInv) := by
  have c0 := h.pb.cell (i := 0) rfl
  have H := Lib.hid h
  have HI := Lib.hid hI
  have hlen : g.it.length ≤ 65536 := Nat.le_trans h.good.len h.rep.hs
  clear h hI
  go_enter Try.func97, Try.ntmps97
  go_wp2_with fail
  refine (above_rep w g H.out.rep hlen p H.out.lt).mono ?_
  rintro e w1 ⟨rfl, hb1⟩
  have H1 := Lib.hid (H.out.below hb1)
  clear hb1 c0
  go_wp2_with fail
  go_loopw [4] (fun q wr => ∃ g' p', SRel g w px hx g' p' wr ∧ UpInv g'.it p' ∧ q = .int .i64 (aboveV g'.it p')) (fun _ wr => cellNat wr px)
  case atStart => exact ⟨g, p, H1.out, HI.out, rfl⟩
  case round =>
    obtain ⟨g', p', h, hI, rfl⟩ := hrel
    have hlen' : g'.it.length ≤ 65536 := Nat.le_trans h.good.len h.rep.hs
    have HH := Lib.hid h
    have c1 := h.pb.cell (i := 0) rfl
    have c2 := h.hb.cell (i := 0) rfl
    have cn : cellNat wr px = p' := cellNat_of c1
    have CN := Lib.hid cn
    by_cases hc : 0 < p' ∧ elt (ent g'.it p') (ent g'.it (par p'))
    · have hv : aboveV g'.it p' = ((par p' : Nat) : Int) := by unfold aboveV; rw [if_pos hc]
      have hq : par p' < g'.it.length := by have := h.lt; have := hc.1; unfold par; omega
      have NI : Hid (UpInv (swapL g'.it p' (par p')) (par p')) := by exact up_step h.lt hc.1 hc.2 hI
      have HM : Hid (par p' < p') := by show _ < _; have := hc.1; unfold par; omega
      rw [hv]
      generalize hqq : par p' = q at *
      clear hqq hv hc hI h cn
      have hne : ((q : Int) != -1) = true := by rw [bne_iff_ne]; omega
      go_wp2_with fail
      refine (swap_at wr g' HH.out.b HH.out.rep HH.out.good.inRange hlen' p' q HH.out.lt hq).mono ?_
      rintro e w2 ⟨rfl, g2, st, e2, e2'⟩
      have hg2 : Good g2 := HH.out.good.swap HH.out.lt hq st.slots e2 e2'
      have hp2 : g2.it.Perm g'.it := by rw [e2]; exact swapL_perm HH.out.lt hq
      have h2 := HH.out.step st hg2 hp2
      have hq2 : q < g2.it.length := by rw [hp2.length_eq]; exact hq
      have d1 := h2.pb.cell (i := 0) rfl
      have d2 := h2.pb.free 0
      have h3 := h2.store hq2
      have d3 := h3.pb.cell (i := 0) rfl
      have H3 := Lib.hid h3
      have NI2 : Hid (UpInv g2.it q) := by rw [← e2] at NI; exact NI
      have hlen2 : g2.it.length ≤ 65536 := by rw [hp2.length_eq]; exact hlen'
      have hle2 : Hid (g2.it.length = g'.it.length) := hp2.length_eq
      clear st hg2 hp2 h2 h3 e2 e2' c1 c2 NI
      go_wp2_with fail
      refine (above_at _ g2 H3.out.b H3.out.rep hlen2 q H3.out.lt).mono ?_
      rintro e w4 ⟨rfl, hb4⟩
      have H4 := Lib.hid (H3.out.below hb4)
      clear hb4 d1 d2 d3
      go_wp2_with fail
      go_roundw
      case rel => exact ⟨g2, q, H4.out, NI2.out, rfl⟩
      case measure =>
        rw [CN.out, cellNat_of (H4.out.pb.cell (i := 0) rfl)]
        exact HM.out
    · have hv : aboveV g'.it p' = -1 := by unfold aboveV; rw [if_neg hc]
      have NI : Hid (DownInv g'.it p') := by exact up_end hI hc
      rw [hv]
      clear hv hI h c1 c2 cn
      go_wp2_with fail
      go_end0
      exact ⟨rfl, g', p', HH.out, NI.out⟩

set_option maxRecDepth 100000 in
set_option maxHeartbeats 2000000 in
theorem sift_down (g : HG) (w : World) (px hx p : Nat) (h : SRel g w px hx g p w) (hI : DownInv g.it p) :
    Calls Try.prog 97 #[.func (.func 99) #[.pointer (some ⟨g.b, 0, none⟩)] #[], .pointer (some ⟨px, 0, none⟩), .pointer (some ⟨hx, 0, none⟩)] w
      (SiftPost g w px hx (fun it _ => Heapy it)) := by
  have c0 := h.pb.cell (i := 0) rfl
  have H := Lib.hid h
  have HI := Lib.hid hI
  have hlen : g.it.length ≤ 65536 := Nat.le_trans h.good.len h.rep.hs
  clear h hI
  go_enter Try.func97, Try.ntmps97
  go_wp2_with fail
  refine (below_rep w g H.out.rep hlen p H.out.lt).mono ?_
  rintro e w1 ⟨rfl, hb1⟩
  have H1 := Lib.hid (H.out.below hb1)
  clear hb1 c0
  go_wp2_with fail
  go_loopw [4] (fun q wr => ∃ g' p', SRel g w px hx g' p' wr ∧ DownInv g'.it p' ∧ q = .int .i64 (belowV g'.it p')) (fun _ wr => g.it.length - cellNat wr px)
  case atStart => exact ⟨g, p, H1.out, HI.out, rfl⟩
  case round =>
    obtain ⟨g', p', h, hI, rfl⟩ := hrel
    have hlen' : g'.it.length ≤ 65536 := Nat.le_trans h.good.len h.rep.hs
    have HH := Lib.hid h
    have c1 := h.pb.cell (i := 0) rfl
    have c2 := h.hb.cell (i := 0) rfl
    have cn : cellNat wr px = p' := cellNat_of c1
    have CN := Lib.hid cn
    by_cases hc : bel2 g'.it p' ≠ p'
    · have hv : belowV g'.it p' = ((bel2 g'.it p' : Nat) : Int) := by unfold belowV; rw [if_neg hc]
      have hq : bel2 g'.it p' < g'.it.length := by exact (bel_some hc).2.1
      have NI : Hid (DownInv (swapL g'.it p' (bel2 g'.it p')) (bel2 g'.it p')) := by obtain ⟨b1, b2, b3, b4, b5⟩ := bel_some hc; exact down_step h.lt b2 b1 b3 b4 b5 hI
      have HM : Hid (p' < bel2 g'.it p') := by show _ < _; obtain ⟨b1, _, b3, _⟩ := bel_some hc; unfold par at b3; omega
      rw [hv]
      generalize hqq : bel2 g'.it p' = q at *
      clear hqq hv hc hI h cn
      have hne : ((q : Int) != -1) = true := by rw [bne_iff_ne]; omega
      go_wp2_with fail
      refine (swap_at wr g' HH.out.b HH.out.rep HH.out.good.inRange hlen' p' q HH.out.lt hq).mono ?_
      rintro e w2 ⟨rfl, g2, st, e2, e2'⟩
      have hg2 : Good g2 := HH.out.good.swap HH.out.lt hq st.slots e2 e2'
      have hp2 : g2.it.Perm g'.it := by rw [e2]; exact swapL_perm HH.out.lt hq
      have h2 := HH.out.step st hg2 hp2
      have hq2 : q < g2.it.length := by rw [hp2.length_eq]; exact hq
      have d1 := h2.pb.cell (i := 0) rfl
      have d2 := h2.pb.free 0
      have h3 := h2.store hq2
      have d3 := h3.pb.cell (i := 0) rfl
      have H3 := Lib.hid h3
      have NI2 : Hid (DownInv g2.it q) := by rw [← e2] at NI; exact NI
      have hlen2 : g2.it.length ≤ 65536 := by rw [hp2.length_eq]; exact hlen'
      have hle2 : Hid (g2.it.length = g'.it.length) := hp2.length_eq
      clear st hg2 hp2 h2 h3 e2 e2' c1 c2 NI
      go_wp2_with fail
      refine (below_at _ g2 H3.out.b H3.out.rep hlen2 q H3.out.lt).mono ?_
      rintro e w4 ⟨rfl, hb4⟩
      have H4 := Lib.hid (H3.out.below hb4)
      clear hb4 d1 d2 d3
      go_wp2_with fail
      go_roundw
      case rel => exact ⟨g2, q, H4.out, NI2.out, rfl⟩
      case measure =>
        rw [CN.out, cellNat_of (H4.out.pb.cell (i := 0) rfl)]
        have := HM.out; have := H4.out.perm.length_eq; have h9 := hle2.out; have := H4.out.lt; omega
    · have hv : belowV g'.it p' = -1 := by unfold belowV; rw [if_pos (by omega)]
      have NI : Hid (Heapy g'.it) := by exact down_end hI (bel_none (by omega))
      rw [hv]
      clear hv hI h c1 c2 cn
      go_wp2_with fail
      go_end0
      exact ⟨rfl, g', p', HH.out, NI.out⟩

end Go.Proofs.Ytebclbpibafkdaa
