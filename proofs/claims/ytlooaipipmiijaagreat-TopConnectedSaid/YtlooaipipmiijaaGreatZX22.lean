/- Several texts in one: StE. -/
import Derived.Test.YtlooaipipmiijaaGreatZX21
import Derived.Deep.CutBlock
import Derived.Deep.DeepCutAuto
import Derived.Deep.RegionHeld3
namespace Go.Proofs.YtlooaipipmiijaaGreat
set_option linter.unusedVariables false
set_option linter.unusedSimpArgs false
open Go.RowKit
structure StIn (w : World) (b : Nat) (g : SG) (u v : Nat) (wt t ex : Int) (e : Ending) (w' : World) : Prop where
  ex : ∃ g' slot, slot < g.E ∧ ¬ g.Lv slot ∧ e = .returned (.tuple #[.agg (lrL ⟨slot, g.last + 1, u, v, wt, t, ex⟩).toArray, .int .i64 0]) ∧ StS b g w g' w' ∧ StL g' ∧ g'.V = g.V ∧ g'.E = g.E ∧ g'.last = g.last + 1 ∧ g'.Lv = (fun x => g.Lv x ∨ x = slot) ∧ (∀ s, g.Lv s → g'.R s = g.R s) ∧ g'.R slot = ⟨slot, g.last + 1, u, v, wt, t, ex⟩ ∧
    ∀ i, g.LvT i → g'.LvT i ∧ g'.D i = g.D i
theorem Tryz.zeroLive : (Tryz.prog.info? 63).bind (·.zero) = some (.agg (lrL lr0).toArray) := by kernel_rfl
theorem five_keep {w w' : World} {b z : Nat} {y v0 v1 v2 v3 : Value} (h : Hid (w.cell? ⟨b, 2, none⟩ = some y)) (h0 : Hid (w.cell? ⟨z, 0, none⟩ = some v0)) (h1 : Hid (w.cell? ⟨z, 1, none⟩ = some v1)) (h2 : Hid (w.cell? ⟨z, 2, none⟩ = some v2)) (h3 : Hid (w.cell? ⟨z, 3, none⟩ = some v3)) (hb : Below w.heap.size w w') :
    w'.cell? ⟨b, 2, none⟩ = some y ∧ w'.cell? ⟨z, 0, none⟩ = some v0 ∧ w'.cell? ⟨z, 1, none⟩ = some v1 ∧ w'.cell? ⟨z, 2, none⟩ = some v2 ∧ w'.cell? ⟨z, 3, none⟩ = some v3 ∧ Below w.heap.size w w' :=
  ⟨(hb.cell (World.block_lt_of_cell? w _ h.out)).trans h.out, (hb.cell (World.block_lt_of_cell? w _ h0.out)).trans h0.out, (hb.cell (World.block_lt_of_cell? w _ h1.out)).trans h1.out, (hb.cell (World.block_lt_of_cell? w _ h2.out)).trans h2.out, (hb.cell (World.block_lt_of_cell? w _ h3.out)).trans h3.out, hb⟩
def lenM (w : World) (b : Nat) : Nat := match w.cell? ⟨b, 5, none⟩ with
  | some (.slice _ n _) => n
  | _ => 0
theorem lenM_of {w : World} {b : Nat} {ao : Option Addr} {n c : Nat} (h : w.cell? ⟨b, 5, none⟩ = some (.slice ao n c)) : lenM w b = n := by unfold lenM; rw [h]
theorem StM.lenM {w : World} {b : Nat} {g : SG} (h : StM w b g) : lenM w b = g.nl := by
  obtain ⟨ao, cap, e⟩ := owns_slice h.row
  have := h.s5
  rw [e] at this
  exact lenM_of this
structure InsB (w : World) (b : Nat) (g : SG) (u v : Nat) (wt t : Int) (z : Nat) (W : World) (g1 : SG) : Prop where
  st : StS b g w g1 W
  bz : Blk W z 33 [.int .u64 u, .int .u64 v, .int .i64 wt, .int .i64 t]
  by_ : Blk W (z + 1) 63 (lrL lr0)
  nz : ¬ g1.foot b z
  ny : ¬ g1.foot b (z + 1)
  zs : w.heap.size = z
theorem InsB.step {w W W' : World} {b u v z : Nat} {g g1 g2 : SG} {wt t : Int} (h : InsB w b g u v wt t z W g1) (k : StS b g1 W g2 W') : InsB w b g u v wt t z W' g2 :=
  ⟨h.st.trans k, (k.box h.bz h.nz).1, (k.box h.by_ h.ny).1, (k.box h.bz h.nz).2, (k.box h.by_ h.ny).2, h.zs⟩
theorem InsB.below {w W W' : World} {b u v z : Nat} {g g1 : SG} {wt t : Int} (h : InsB w b g u v wt t z W g1) (k : Below W.heap.size W W') : InsB w b g u v wt t z W' g1 :=
  ⟨h.st.below k, h.bz.below k h.bz.lt, h.by_.below k h.by_.lt, h.nz, h.ny, h.zs⟩
structure InsE (w : World) (b : Nat) (g : SG) (u v : Nat) (wt t : Int) (z eb : Nat) (r : Lr) (W : World) (g1 : SG) : Prop where
  ib : InsB w b g u v wt t z W g1
  be : Blk W eb 63 (lrL r)
  ne : ¬ g1.foot b eb
theorem InsE.step {w W W' : World} {b u v z eb : Nat} {g g1 g2 : SG} {wt t : Int} {r : Lr} (h : InsE w b g u v wt t z eb r W g1) (k : StS b g1 W g2 W') : InsE w b g u v wt t z eb r W' g2 :=
  ⟨h.ib.step k, (k.box h.be h.ne).1, (k.box h.be h.ne).2⟩
theorem InsE.below {w W W' : World} {b u v z eb : Nat} {g g1 : SG} {wt t : Int} {r : Lr} (h : InsE w b g u v wt t z eb r W g1) (k : Below W.heap.size W W') : InsE w b g u v wt t z eb r W' g1 :=
  ⟨h.ib.below k, h.be.below k h.be.lt, h.ne⟩
structure AfA (g g1 : SG) (slot last nl : Nat) : Prop where
  V : g1.V = g.V
  E : g1.E = g.E
  last : g1.last = last
  Lv : g1.Lv = (fun x => g.Lv x ∨ x = slot)
  LvT : g1.LvT = g.LvT
  D : g1.D = g.D
  nl : g1.nl = nl
  R : ∀ s, g.Lv s → g1.R s = g.R s
  KI : g1.KI = g.KI
  inc : g1.inc = g.inc
  c : g1.c = g.c
theorem tight_lt {w : World} {b : Nat} {g : SG} (h : StM w b g) : ∀ k, SG.foot { g with FA := fun k => g.FA k ∧ k < w.heap.size, FT := fun k => g.FT k ∧ k < w.heap.size } b k → k < w.heap.size := fun k e => by
  rcases h.tight.foot_lt k e with e | e | e
  · exact e
  · exact e.2
  · exact e.2
theorem InsB.tight {w W : World} {b u v z slot last nl : Nat} {g g1 : SG} {wt t : Int} (h : InsB w b g u v wt t z W g1) (ha : AfA g g1 slot last nl) : ∃ g2, InsB w b g u v wt t z W g2 ∧ AfA g g2 slot last nl ∧ ∀ k, g2.foot b k → k < W.heap.size := by
  refine ⟨{ g1 with FA := fun k => g1.FA k ∧ k < W.heap.size, FT := fun k => g1.FT k ∧ k < W.heap.size }, ⟨h.st.tight, h.bz, h.by_, fun e => h.nz ?_, fun e => h.ny ?_, h.zs⟩, ⟨ha.V, ha.E, ha.last, ha.Lv, ha.LvT, ha.D, ha.nl, ha.R, ha.KI, ha.inc, ha.c⟩, tight_lt h.st.mem⟩
  all_goals
    rcases e with e | e | e | e | e | e
    · exact .inl e
    · exact .inr (.inl e.1)
    · exact .inr (.inr (.inl e.1))
    · exact .inr (.inr (.inr (.inl e)))
    · exact .inr (.inr (.inr (.inr (.inl e))))
    · exact .inr (.inr (.inr (.inr (.inr e))))
def IncK (g : SG) (u v slot k : Nat) (id s : Nat) : Prop := Ends g id s ∨ (s = slot ∧ (1 ≤ k ∧ id = u ∨ 2 ≤ k ∧ id = v))
structure AfK (g g1 : SG) (u v slot last nl : Nat) (r : Lr) (k : Nat) : Prop where
  V : g1.V = g.V
  E : g1.E = g.E
  last : g1.last = last
  Lv : g1.Lv = (fun x => g.Lv x ∨ x = slot)
  nl : g1.nl = nl
  R : ∀ s, g.Lv s → g1.R s = g.R s
  Rs : g1.R slot = r
  lg : StLg g1 (IncK g u v slot k)
  keep : ∀ i, g.LvT i → g1.LvT i ∧ g1.D i = g.D i
  cnt : cntP g1.LvT g1.V = cntP g.LvT g.V + (if 1 ≤ k then newN g u else 0) + (if 2 ≤ k then newN g v else 0)
theorem AfK.start {g g1 : SG} {u v slot last nl : Nat} {r : Lr} (hl : StL g) (h : AfA g g1 slot last nl) (hr : g1.R slot = r) : AfK g g1 u v slot last nl r 0 := by
  refine ⟨h.V, h.E, h.last, h.Lv, h.nl, h.R, hr, (hl.ids.congr h.KI h.LvT h.D h.inc h.c h.V).mono fun id s => ⟨fun e => .inl e, fun e => e.elim (fun e => e) (fun e => by omega)⟩, fun i hi => ⟨by rw [h.LvT]; exact hi, by rw [h.D]⟩, by rw [h.LvT, h.V]; rfl⟩
def idK (u v k : Nat) : Nat := if k = 0 then u else v
theorem AfK.known {g g1 : SG} {u v slot last nl k : Nat} {r : Lr} (h : AfK g g1 u v slot last nl r k) (hl : StL g) (huv : u ≠ v) (hk : k < 2) : g1.KI (idK u v k) ↔ g.KI (idK u v k) := by
  rw [h.lg.known, hl.ids.known]
  refine ⟨fun ⟨s, e⟩ => ?_, fun ⟨s, e⟩ => ⟨s, .inl e⟩⟩
  rcases e with e | ⟨_, e⟩
  · exact ⟨s, e⟩
  · exfalso
    unfold idK at e
    by_cases c : k = 0
    · omega
    · rw [if_neg c] at e; omega
theorem AfK.room {g g1 : SG} {u v slot last nl k : Nat} {r : Lr} (h : AfK g g1 u v slot last nl r k) (hl : StL g) (hck : stChk g u v = 0) (huv : u ≠ v) (hk : k < 2) (hn : ¬ g1.KI (idK u v k)) : cntP g1.LvT g1.V < g1.V := by
  rw [h.known hl huv hk] at hn
  have hnew : newN g (idK u v k) = 1 := by
    unfold newN
    rw [if_neg (fun e => hn (hl.ids.isx.1 e))]
  have hc : ¬ g.V < cntP g.LvT g.V + newN g u + newN g v := fun e => by
    unfold stChk at hck
    rw [if_neg huv, if_pos e] at hck
    by_cases c : g.E ≤ cntP g.Lv g.E
    · rw [if_pos c] at hck; cases hck
    · rw [if_neg c] at hck; cases hck
  have h1 := h.cnt
  have h2 := h.V
  unfold idK at hnew
  by_cases c : k = 0
  · rw [if_pos c] at hnew
    rw [if_neg (by omega), if_neg (by omega)] at h1
    omega
  · rw [if_neg c] at hnew
    rw [if_pos (by omega), if_neg (by omega)] at h1
    omega
theorem AfK.next {g g1 g2 : SG} {u v slot last nl k : Nat} {r : Lr} (h : AfK g g1 u v slot last nl r k) (hl : StL g) (huv : u ≠ v) (hk : k < 2) (hs : ¬ g.Lv slot) (hp : Put2 g1 (idK u v k) slot g2) (e1 : g2.E = g1.E) (e2 : g2.last = g1.last) (e3 : g2.Lv = g1.Lv) (e4 : g2.nl = g1.nl) (e5 : g2.R = g1.R) : AfK g g2 u v slot last nl r (k + 1) := by
  have hni : ¬ IncK g u v slot k (idK u v k) slot := by
    rintro (e | ⟨_, e⟩)
    · exact hs e.1
    · unfold idK at e
      by_cases c : k = 0
      · omega
      · rw [if_neg c] at e; omega
  have hkn := h.known hl huv hk
  have hnw : (if (gix g1.LvT g1.D (idK u v k)).isSome then 0 else 1) = newN g (idK u v k) := by
    unfold newN
    by_cases c : g.KI (idK u v k)
    · rw [if_pos (h.lg.isx.2 (hkn.2 c)), if_pos (hl.ids.isx.2 c)]
    · rw [if_neg (fun e => c (hkn.1 (h.lg.isx.1 e))), if_neg (fun e => c (hl.ids.isx.1 e))]
  obtain ⟨p1, p2, p3⟩ := h.lg.put hp hni
  rw [hnw] at p3
  refine ⟨hp.V.trans h.V, e1.trans h.E, e2.trans h.last, e3.trans h.Lv, e4.trans h.nl, fun s hs => by rw [e5]; exact h.R s hs, by rw [e5]; exact h.Rs, p1.mono fun id s => ?_, fun i hi => ?_, ?_⟩
  · unfold IncK idK
    constructor
    · rintro ((e | ⟨e, f⟩) | ⟨e, f⟩)
      · exact .inl e
      · exact .inr ⟨e, by omega⟩
      · refine .inr ⟨f, ?_⟩
        by_cases c : k = 0
        · rw [if_pos c] at e; omega
        · rw [if_neg c] at e; omega
    · rintro (e | ⟨e, f⟩)
      · exact .inl (.inl e)
      · by_cases c : k = 0
        · rw [if_pos c]; exact .inr ⟨by omega, e⟩
        · rw [if_neg c]
          by_cases d : id = v
          · exact .inr ⟨d, e⟩
          · exact .inl (.inr ⟨e, by omega⟩)
  · obtain ⟨q1, q2⟩ := h.keep i hi
    obtain ⟨q3, q4⟩ := p2 i q1
    exact ⟨q3, q4.trans q2⟩
  · rw [p3, h.cnt]
    unfold idK
    by_cases c : k = 0
    · subst c; simp
    · have : k = 1 := by omega
      subst this; simp
theorem AfK.last2 {g g1 : SG} {u v slot nl : Nat} {r : Lr} (h : AfK g g1 u v slot (g.last + 1) nl r 2) (hl : StL g) (hr : r.slot = slot ∧ r.u = u ∧ r.v = v ∧ r.seq = g.last + 1) (huv : u ≠ v) (hu : u < 18446744073709551616) (hv : v < 18446744073709551616) (hs : slot < nl) (hsE : slot < g.E) (hnl : nl ≤ 65536) (hln : g.nl ≤ nl) (hns : ¬ g.Lv slot) : StL g1 := by
  obtain ⟨r1, r2, r3, r4⟩ := hr
  have hlv : ∀ s, g1.Lv s ↔ g.Lv s ∨ s = slot := fun s => by rw [h.Lv]
  have hne : ∀ s, g.Lv s → s ≠ slot := fun s hs e => hns (e ▸ hs)
  refine ⟨h.lg.mono fun id s => ?_, fun s hs' => ?_, fun s t hs' ht e => ?_, fun s hs' => ?_, fun s hs' => ?_, by rw [h.nl]; exact hnl, by rw [h.V, h.E]; exact hl.szs⟩
  · unfold IncK Ends
    rw [hlv]
    constructor
    · rintro (⟨e1, e2⟩ | ⟨e1, e2⟩)
      · exact ⟨.inl e1, by rw [h.R s e1]; exact e2⟩
      · subst e1
        rw [h.Rs, r2, r3]
        exact ⟨.inr rfl, by rcases e2 with ⟨_, e⟩ | ⟨_, e⟩ <;> rw [e] <;> simp⟩
    · rintro ⟨e1 | e1, e2⟩
      · rw [h.R s e1] at e2; exact .inl ⟨e1, e2⟩
      · subst e1
        rw [h.Rs, r2, r3] at e2
        exact .inr ⟨rfl, by rcases e2 with e | e <;> omega⟩
  · rcases (hlv s).1 hs' with e | e
    · rw [h.R s e, h.last]
      obtain ⟨q1, q2, q3, q4, q5⟩ := hl.own s e
      exact ⟨q1, q2, q3, q4, by omega⟩
    · subst e
      rw [h.Rs, h.last, r1, r2, r3, r4]
      exact ⟨rfl, huv, hu, hv, Nat.le_refl _⟩
  · rcases (hlv s).1 hs' with a | a <;> rcases (hlv t).1 ht with c | c
    · rw [h.R s a, h.R t c] at e; exact hl.seq s t a c e
    · subst c
      rw [h.R s a, h.Rs, r4] at e
      have := (hl.own s a).2.2.2.2; omega
    · subst a
      rw [h.R t c, h.Rs, r4] at e
      have := (hl.own t c).2.2.2.2; omega
    · rw [a, c]
  · rw [h.nl]
    rcases (hlv s).1 hs' with e | e
    · have := hl.lvn s e; omega
    · omega
  · rw [h.E]
    rcases (hlv s).1 hs' with e | e
    · exact hl.lvE s e
    · omega
theorem stChk_ne {g : SG} {u v : Nat} (h : stChk g u v = 0) : u ≠ v := fun e => by unfold stChk at h; rw [if_pos e] at h; cases h
set_option maxHeartbeats 8000000 in
set_option maxRecDepth 100000 in
theorem st_insert (w : World) (b : Nat) (g : SG) (h : StM w b g) (hl : StL g) (u v : Nat) (wt t ex : Int) (hu : u < 18446744073709551616) (hv : v < 18446744073709551616) (hla : g.last + 1 < 18446744073709551616) (hck : stChk g u v = 0) :
    Calls Tryz.prog 49 #[.pointer (some ⟨b, 0, none⟩), .agg #[.int .u64 u, .int .u64 v, .int .i64 wt, .int .i64 t], .int .i64 ex] w (StIn w b g u v wt t ex) := by
  have HL := Lib.hid hl
  have HCK := Lib.hid hck
  have HT := Lib.hid h.tight
  have H := Lib.hid h
  clear h hl hck
  go_enter Tryz.func49, Tryz.ntmps49
  go_upto_region 1 with (with_reducible refine wpList_allocB _ Tryz.zeroLive ?_)
  intro w1 B1 hb1
  obtain ⟨z, HZ⟩ : ∃ z, Hid (w.heap.size = z) := ⟨_, rfl⟩
  have hb0 : Below w.heap.size w w1 := bel_then (bel_alloc w _) hb1
  have HB1 := Lib.hid hb0
  have BZ : Hid (Blk w1 z 33 [.int .u64 u, .int .u64 v, .int .i64 wt, .int .i64 t]) := by
    rw [← HZ.out]
    exact (Blk.new w 33 [.int .u64 u, .int .u64 v, .int .i64 wt, .int .i64 t]).below hb1 (by simp)
  have BY : Hid (Blk w1 (z + 1) 63 (lrL lr0)) := by
    have e : (w.alloc (.cells #[.int .u64 u, .int .u64 v, .int .i64 wt, .int .i64 t] 33)).heap.size = z + 1 := by simp [HZ.out]
    rw [e] at B1
    exact B1
  simp only [World.size_alloc, HZ.out]
  clear B1 hb1 hb0
  have x0 := BZ.out.cell (i := 0) rfl
  have x1 := BZ.out.cell (i := 1) rfl
  have x2 := BZ.out.cell (i := 2) rfl
  have x3 := BZ.out.cell (i := 3) rfl
  have H1 := Lib.hid (H.out.below HB1.out)
  have HC := Lib.hid (st_check w1 b g H1.out u v wt t)
  rw [HCK.out] at HC
  go_upto_region 4 with (go_at_call 46; refine HC.out.mono ?_; rintro e w2 ⟨rfl, hb2⟩; have HB2 := Lib.hid hb2; clear hb2)
  have HI : Hid (InsB w b g u v wt t z w2 { g with FA := fun k => g.FA k ∧ k < w.heap.size, FT := fun k => g.FT k ∧ k < w.heap.size }) := by
    refine ⟨(((StS.refl H.out).tight).below HB1.out).below HB2.out, BZ.out.below HB2.out BZ.out.lt, BY.out.below HB2.out BY.out.lt, fun e => ?_, fun e => ?_, HZ.out⟩
    · have := tight_lt H.out _ e; have := HZ.out; omega
    · have := tight_lt H.out _ e; have := HZ.out; omega
  have HAF : Hid (AfA g { g with FA := fun k => g.FA k ∧ k < w.heap.size, FT := fun k => g.FT k ∧ k < w.heap.size } g.E g.last g.nl → True) := fun _ => trivial
  have hnf : cntP g.Lv g.E ≠ g.E := fun e => by
    have := HCK.out
    unfold stChk at this
    split at this
    · cases this
    · rw [if_pos (by omega)] at this; cases this
  have HAL := Lib.hid (ar_alloc w2 g.ab g.E g.beg g.Lv _ HI.out.st.mem.ar)
  have c3 := HI.out.st.mem.s3
  have HNF := Lib.hid hnf
  have hEsz := HL.out.szs.2
  clear HAF x0 x1 x2 x3 HC H1 BZ BY HB1 HB2 HT H hnf
  go_upto_region 7 with (go_at_call 89; refine HAL.out.mono ?_; rintro e w3 ⟨_, hok⟩; obtain ⟨slot, beg', hs1, hs2, hs3, rfl, hao, hmd⟩ := hok HNF.out; have HS1 := Lib.hid (⟨hs1, hs2⟩ : slot < g.E ∧ ¬ g.Lv slot); have HAO := Lib.hid hao; have HMD := Lib.hid hmd; clear hok hs1 hs2 hs3 hao hmd)
  obtain ⟨g1, hst1, ha1⟩ : ∃ g1, StS b { g with FA := fun k => g.FA k ∧ k < w.heap.size, FT := fun k => g.FT k ∧ k < w.heap.size } w2 g1 w3 ∧ AfA g g1 slot g.last g.nl := ⟨_, HI.out.st.mem.sAr HMD.out HAO.out, ⟨rfl, rfl, rfl, rfl, rfl, rfl, rfl, fun _ _ => rfl, rfl, rfl, rfl⟩⟩
  have HI1 := Lib.hid (HI.out.step hst1)
  have HA1 := Lib.hid ha1
  have c2 := HI1.out.st.mem.s2
  rw [ha1.last] at c2
  have f2 := HI1.out.st.mem.box.free 2
  have hwl : IntKind.u64.wrap ((g.last : Int) + 1) = (g.last : Int) + 1 := by rw [IntKind.wrap_u64]; omega
  obtain ⟨g2, hst2, ha2⟩ : ∃ g2, StS b g1 w3 g2 (w3.setCell ⟨b, 2, none⟩ (.int .u64 ((g.last : Int) + 1))) ∧ AfA g g2 slot (g.last + 1) g.nl := ⟨_, HI1.out.st.mem.sLast (g.last + 1), ⟨ha1.V, ha1.E, rfl, ha1.Lv, ha1.LvT, ha1.D, ha1.nl, ha1.R, ha1.KI, ha1.inc, ha1.c⟩⟩
  have HI2 := Lib.hid (HI1.out.step hst2)
  have HA2 := Lib.hid ha2
  clear HI HAL c3 HAO HMD hst1 ha1 hst2 ha2
  go_upto_region 8 with fail
  clear c2 f2 HI1 HA1
  generalize World.setCell w3 _ _ = w4 at *
  obtain ⟨g2', hi2, ha2, hlt2⟩ := HI2.out.tight HA2.out
  have HLT2 := Lib.hid hlt2
  clear HI2 HA2 hlt2
  have HI2 := Lib.hid hi2
  have HA2 := Lib.hid ha2
  clear hi2 ha2
  have c2 := HI2.out.st.mem.s2
  rw [HA2.out.last] at c2
  have x0 := HI2.out.bz.cell (i := 0) rfl
  have x1 := HI2.out.bz.cell (i := 1) rfl
  have x2 := HI2.out.bz.cell (i := 2) rfl
  have x3 := HI2.out.bz.cell (i := 3) rfl
  have X2 := Lib.hid c2
  have X0 := Lib.hid x0
  have X1 := Lib.hid x1
  have XA := Lib.hid x2
  have XB := Lib.hid x3
  go_cut [11] (fun s11 wx => ∃ eb, s11 = .pointer (some ⟨eb, 0, none⟩) ∧ Blk wx eb 63 (lrL ⟨slot, g.last + 1, u, v, wt, t, ex⟩) ∧ Below w4.heap.size w4 wx ∧ w4.heap.size ≤ eb)
  case first =>
    go_region_held3 (fun w' => w'.cell? ⟨b, 2, none⟩ = some (.int .u64 ((g.last : Int) + 1)) ∧ w'.cell? ⟨z, 0, none⟩ = some (.int .u64 u) ∧ w'.cell? ⟨z, 1, none⟩ = some (.int .u64 v) ∧ w'.cell? ⟨z, 2, none⟩ = some (.int .i64 wt) ∧ w'.cell? ⟨z, 3, none⟩ = some (.int .i64 t) ∧ Below w4.heap.size w4 w')
      (((try go_split_ands); refine five_keep X2 X0 X1 XA XB ?_; first | assumption | exact ((Below.refl _ _).alloc (Nat.le_refl _) _).drew | exact (Below.refl _ _).drew | exact (Below.drew (by assumption)) | exact (Below.alloc (by assumption) (Below.size (by assumption)) _) | exact bel_set (bel_set (bel_set (bel_set (bel_set (bel_set (bel_set (by assumption) (Nat.le_refl _)) (Nat.le_refl _)) (Nat.le_refl _)) (Nat.le_refl _)) (Nat.le_refl _)) (Nat.le_refl _)) (Nat.le_refl _)))
      (fail)
    all_goals
      go_wp2_with fail
      go_meet
      exact ⟨_, rfl, (Blk.new w4 _ _).drew, ((Below.refl _ _).alloc (Nat.le_refl _) _).drew, Nat.le_refl _⟩
  case rest =>
    obtain ⟨eb, rfl, hp, hbx, hpn⟩ := hcut
    have HI4 : Hid (InsE w b g u v wt t z eb ⟨slot, g.last + 1, u, v, wt, t, ex⟩ wc g2') := ⟨HI2.out.below hbx, hp, fun e => by have := HLT2.out eb e; omega⟩
    clear hp hbx hpn HI2 X2 X0 X1 XA XB c2 x0 x1 x2 x3
    have hbz : ∀ w, (Instr.build 63 #[]).run Tryz.prog w = .ok (.agg #[.int .i64 0, .int .u64 0, .int .u64 0, .int .u64 0, .int .i64 0, .int .i64 0, .int .i64 0]) w := fun w => by kernel_rfl
    have hsl : slot < 65536 := by have := HS1.out.1; omega
    go_wp2_with fail
    go_loopw [] (fun wr => ∃ gk nk, InsE w b g u v wt t z eb ⟨slot, g.last + 1, u, v, wt, t, ex⟩ wr gk ∧ AfA g gk slot (g.last + 1) nk ∧ nk ≤ 65536 ∧ g.nl ≤ nk) (fun wr => slot + 1 - lenM wr b)
    case atStart => exact ⟨g2', g.nl, HI4.out, HA2.out, HL.out.nl, Nat.le_refl _⟩
    case round =>
      obtain ⟨gk, nk, hi, ha, hn1, hn2⟩ := hrel
      have HIk := Lib.hid hi
      have HAk := Lib.hid ha
      clear hi ha HI4 HLT2 HA2
      have c5 := HIk.out.ib.st.mem.s5
      obtain ⟨ao, cp, hlv⟩ := owns_slice HIk.out.ib.st.mem.row
      rw [hlv, HAk.out.nl] at c5
      have HLVV := Lib.hid hlv
      have HLEN := Lib.hid (lenM_of c5)
      clear hlv
      by_cases hle : nk ≤ slot
      · have t1 : decide ((nk : Int) ≤ (slot : Int)) = true := decide_eq_true (by omega)
        have t2 : decide (nk ≤ slot) = true := decide_eq_true hle
        have HOW : Hid ((wr.alloc (.cells #[.int .i64 0, .int .u64 0, .int .u64 0, .int .u64 0, .int .i64 0, .int .i64 0, .int .i64 0] 63)).ownsRow 0 63 7 (.slice ao nk cp) nk (lrRow nk gk.R)) := by
          have := HIk.out.ib.st.mem.row.alloc (.cells #[.int .i64 0, .int .u64 0, .int .u64 0, .int .u64 0, .int .i64 0, .int .i64 0, .int .i64 0] 63)
          rw [HLVV.out, HAk.out.nl] at this
          exact this
        have HNS := Lib.hid (news_new wr 63 [.int .i64 0, .int .u64 0, .int .u64 0, .int .u64 0, .int .i64 0, .int .i64 0, .int .i64 0])
        generalize hR : lrRow nk gk.R = rows at *
        have HR := Lib.hid hR
        clear hR
        go_wp2_with (at_builtin; apply keepIt2)
        apply Lib.hid
        refine (wpList_appendB 63 (.agg #[.int .i64 0, .int .u64 0, .int .u64 0, .int .u64 0, .int .i64 0, .int .i64 0, .int .i64 0]) 7 56 Tryz.underlying79 Tryz.infoLive rfl (by decide) (.slice ao nk cp) nk rows rfl HOW.out ⟨wr.heap.size, 0, none⟩ 1 1 [.int .i64 0, .int .u64 0, .int .u64 0, .int .u64 0, .int .i64 0, .int .i64 0, .int .i64 0] rfl rfl HNS.out (lrL_one lr0) (by unfold maxLen; omega) (by omega) ?_)
        intro v' w5 ho hg hk
        obtain ⟨ao2, cp2, rfl⟩ := owns_slice ho
        obtain ⟨box5, hst5⟩ := HIk.out.ib.st.mem.sGrow (r := lr0) (.cells #[.int .i64 0, .int .u64 0, .int .u64 0, .int .u64 0, .int .i64 0, .int .i64 0, .int .i64 0] 63) (by rw [HAk.out.nl, HR.out]; exact ho) (by rw [HLVV.out, HAk.out.nl]; exact hg) (fun k e => by rw [HLVV.out, HAk.out.nl]; exact hk k e)
        have d5 := box5.cell (i := 5) rfl
        rw [HLVV.out, HAk.out.nl] at d5
        have f5 := box5.free 5
        obtain ⟨g5, HIG, HAG⟩ : ∃ g5, Hid (InsE w b g u v wt t z eb ⟨slot, g.last + 1, u, v, wt, t, ex⟩ (w5.setCell ⟨b, 5, none⟩ (.slice ao2 (nk + 1) cp2)) g5) ∧ Hid (AfA g g5 slot (g.last + 1) (nk + 1)) := by
          refine ⟨_, HIk.out.step hst5, ⟨HAk.out.V, HAk.out.E, HAk.out.last, HAk.out.Lv, HAk.out.LvT, HAk.out.D, congrArg (· + 1) HAk.out.nl, fun s hs => ?_, HAk.out.KI, HAk.out.inc, HAk.out.c⟩⟩
          show upF gk.R gk.nl lr0 s = _
          have h1 := HL.out.lvn s hs
          have h2 := HAk.out.nl
          rw [uF_ne _ _ (by omega)]
          exact HAk.out.R s hs
        have HLN : Hid (lenM (w5.setCell ⟨b, 5, none⟩ (.slice ao2 (nk + 1) cp2)) b = nk + 1) := HIG.out.ib.st.mem.lenM.trans HAG.out.nl
        have HLE := Lib.hid hle
        clear box5 hst5 ho hg hk HOW HNS c5 t1 t2 hle
        go_wp2_with fail
        go_roundw
        case rel => exact ⟨g5, nk + 1, HIG.out, HAG.out, by have := HLE.out; omega, by omega⟩
        case measure => rw [HLN.out, HLEN.out]; have := HLE.out; omega
      · have t1 : decide ((nk : Int) ≤ (slot : Int)) = false := decide_eq_false (by omega)
        have t2 : decide (nk ≤ slot) = false := decide_eq_false hle
        have HLT : Hid (slot < nk) := by show _ < _; omega
        go_upto_region 11 with fail
        clear c5 HLEN t1 t2 hbz
        obtain ⟨lb, cap, hlv, _, _, _, _, hfz⟩ := owns_form HIk.out.ib.st.mem.row (by rw [HAk.out.nl]; omega)
        have c5 := HIk.out.ib.st.mem.s5
        rw [hlv, HAk.out.nl] at c5
        have HLV2 := Lib.hid hlv
        have y0 := HIk.out.be.cell (i := 0) rfl
        have y1 := HIk.out.be.cell (i := 1) rfl
        have y2 := HIk.out.be.cell (i := 2) rfl
        have y3 := HIk.out.be.cell (i := 3) rfl
        have y4 := HIk.out.be.cell (i := 4) rfl
        have y5 := HIk.out.be.cell (i := 5) rfl
        have y6 := HIk.out.be.cell (i := 6) rfl
        clear hlv hfz hle
        refine region_tailD 7 (by kernel_rfl) (by kernel_rfl) ?_
        intro w5 hw5
        have ti : (slot : Int) < (nk : Int) := by have := HLT.out; omega
        replace c5 := hw5.cell c5
        replace y0 := hw5.cell y0
        replace y1 := hw5.cell y1
        replace y2 := hw5.cell y2
        replace y3 := hw5.cell y3
        replace y4 := hw5.cell y4
        replace y5 := hw5.cell y5
        replace y6 := hw5.cell y6
        have HI5 := Lib.hid (HIk.out.below hw5.self)
        clear hw5 HIk
        simp only [List.take_succ_cons, List.take_zero, List.drop_succ_cons, List.drop_zero]
        repeat still_step
        refine wpStill_nil ?_
        clear y0 y1 y2 y3 y4 y5 y6 c5
        have hrw := HI5.out.ib.st.mem.row
        rw [HLV2.out] at hrw
        refine wpList_store_mid rfl 63 (.tmp 71) (.tmp 70) rfl lb (slot * 7) (lrL ⟨slot, g.last + 1, u, v, wt, t, ex⟩).toArray rfl rfl (fun i hi => ?_) (by kernel_rfl) (all_oneCell_toArray (lrL_one _)) ?_
        · have hi' : i < 7 := hi
          have hnk := HLT.out
          refine ⟨?_, hrw.frozenAt _⟩
          rw [hrw.cellAt (slot * 7 + i) (by rw [HAk.out.nl]; omega), lrRow_get (by rw [HAk.out.nl]; omega) hi']; rfl
        obtain ⟨g6, HI6, HA6, HR6⟩ : ∃ g6, Hid (InsE w b g u v wt t z eb ⟨slot, g.last + 1, u, v, wt, t, ex⟩ (w5.setCells lb (slot * 7) (lrL ⟨slot, g.last + 1, u, v, wt, t, ex⟩).toArray.toList) g6) ∧ Hid (AfA g g6 slot (g.last + 1) nk) ∧ Hid (g6.R slot = ⟨slot, g.last + 1, u, v, wt, t, ex⟩) := by
          have hnk := HLT.out
          rw [List.toList_toArray]
          refine ⟨_, HI5.out.step (HI5.out.ib.st.mem.sSet (i := slot) HLV2.out (by rw [HAk.out.nl]; omega) ⟨slot, g.last + 1, u, v, wt, t, ex⟩), ⟨HAk.out.V, HAk.out.E, HAk.out.last, HAk.out.Lv, HAk.out.LvT, HAk.out.D, HAk.out.nl, fun s hs => ?_, HAk.out.KI, HAk.out.inc, HAk.out.c⟩, uF_same _ _ _⟩
          show upF gk.R slot _ s = _
          rw [uF_ne _ _ (fun e => HS1.out.2 (by rw [← e]; exact hs))]
          exact HAk.out.R s hs
        clear hrw HI5 HAk HLV2 HLVV
        generalize World.setCells w5 _ _ _ = w6 at *
        have x0 := HI6.out.ib.bz.cell (i := 0) rfl
        have x1 := HI6.out.ib.bz.cell (i := 1) rfl
        have HUV : Hid (u ≠ v) := stChk_ne HCK.out
        have HK0 : Hid (AfK g g6 u v slot (g.last + 1) nk ⟨slot, g.last + 1, u, v, wt, t, ex⟩ 0) := AfK.start HL.out HA6.out HR6.out
        go_wp2_with fail
        clear x0 x1 HA6 HR6
        go_loopw [77] (fun s77 wr => ∃ k gk, k ≤ 2 ∧ s77 = .int .i64 ((k : Nat) : Int) ∧ InsE w b g u v wt t z eb ⟨slot, g.last + 1, u, v, wt, t, ex⟩ wr gk ∧ AfK g gk u v slot (g.last + 1) nk ⟨slot, g.last + 1, u, v, wt, t, ex⟩ k) (fun s77 _ => 2 - (intOf s77).toNat)
        case atStart => exact ⟨0, g6, by omega, rfl, HI6.out, HK0.out⟩
        case round =>
          obtain ⟨k, gk, hk, rfl, hi, ha⟩ := hrel
          have HIk := Lib.hid hi
          have HAk := Lib.hid ha
          clear hi ha HI6 HK0
          by_cases hk2 : k < 2
          · have t1 : decide ((k : Int) < 2) = true := decide_eq_true (by omega)
            have ii : ∀ w, (Instr.index 125 (.agg #[.int .u64 u, .int .u64 v]) (.int .i64 (k : Int))).run Tryz.prog w = .ok (.int .u64 ((idK u v k : Nat) : Int)) w := by
              have hcs : k = 0 ∨ k = 1 := by omega
              rcases hcs with rfl | rfl <;> exact fun _ => rfl
            have hidb : idK u v k < 18446744073709551616 := by unfold idK; split <;> omega
            have HID := Lib.hid hidb
            have HK2 := Lib.hid hk2
            have HPUT := Lib.hid (st_put HIk.out.ib.st.mem HAk.out.lg (idK u v k) (fun hn => HAk.out.room HL.out HCK.out HUV.out hk2 hn))
            have c4 := HIk.out.ib.st.mem.s4
            obtain ⟨id, HIE⟩ : ∃ id, Hid (idK u v k = id) := ⟨_, rfl⟩
            rw [HIE.out] at HPUT HID
            have HI7 := HIk
            simp only [HIE.out] at ii
            clear hidb
            go_upto_region 16 with (go_at_call 90; refine HPUT.out.mono ?_; rintro e w7 ⟨⟨ri, rf, rc, rfl⟩, g1, hs1, hp1⟩; have HS7 := Lib.hid hs1; have HP7 := Lib.hid hp1; clear hs1 hp1)
            clear c4 ii t1 hk2
            replace HI7 := Lib.hid (HIk.out.step HS7.out)
            obtain ⟨vv, l, hat⟩ := SG.at_of g1 id
            have HRD := Lib.hid (SrA.reads HS7.out.mem hat HID.out (l := l) (slot := slot))
            have HAPP := Lib.hid (SrA.app HS7.out.mem hat slot)
            have HMPP : Hid (∀ q W, SrB w7 vv l slot q W → MapK .u64 W Tryz.prog 25 g1.mb g1.c g1.fm) := fun q W hz => hz.map HS7.out.mem hat
            have HFI : Hid (∀ y z q W, SrA w7 g1 vv l id slot [y, z, q] W → _) := fun y z q W hst => SrA.fin HS7.out.mem HP7.out hat hst
            have HLL : Hid (l.length ≤ 65536) := by
              rcases hat with ⟨h1, _, rfl⟩ | ⟨_, _, rfl⟩
              · have hk1 : gk.KI id := by rw [← HP7.out.KI]; exact h1
                have hnd := HAk.out.lg.nod id hk1
                have hmm : ∀ s, s ∈ gk.inc id → s < 65536 := fun s hs => by
                  rcases (HAk.out.lg.inc id hk1 s).1 hs with e | ⟨e, _⟩
                  · have := HL.out.lvE s e.1; have := HL.out.szs; omega
                  · omega
                rw [HP7.out.inc]
                exact pig 65536 _ (fun i => (gk.inc id).getD i 0) (fun i hi => hmm _ (by
                  rw [List.getD_eq_getElem?_getD, List.getElem?_eq_getElem hi]
                  exact List.getElem_mem hi)) (fun i j hi hj e => by
                  have e' : (gk.inc id).getD i 0 = (gk.inc id).getD j 0 := e
                  rw [List.getD_eq_getElem?_getD, List.getD_eq_getElem?_getD, List.getElem?_eq_getElem hi, List.getElem?_eq_getElem hj] at e'
                  exact (List.getElem_inj hnd).1 e')
              · exact Nat.zero_le _
            have HCC : Hid (g1.c < maxLen) := by
              show _ < _
              rw [HP7.out.c, HAk.out.lg.cnt]
              have h1 := cntP_le (P := gk.LvT) gk.V
              have h2 := HL.out.szs.1
              have h3 := HAk.out.V
              unfold maxLen
              omega
            clear hat
            refine Bg.wp_region_stage 12 (by kernel_rfl) (by kernel_rfl) (by kernel_rfl) (by kernel_rfl) (by kernel_rfl) (SrF b g1.mb id slot vv) (SrA w7 g1 vv l id slot) rfl ?read ?tail ?fin
            case read =>
              intro W ys o_i o AA hin hst hnd hev hdep ho
              obtain ⟨hct, hlook⟩ := HRD.out ys W hst
              have e0 : AA.eval (.tmp 0) = .pointer (some ⟨b, 0, none⟩) := hev 0 (by kernel_rfl)
              have e9 : AA.eval (.tmp 9) = .int .i64 (slot : Int) := hev 9 (by kernel_rfl)
              have e13 : AA.eval (.tmp 13) = .int .u64 (id : Int) := hev 13 (by kernel_rfl)
              have hcs : o_i = 0 ∨ o_i = 1 ∨ o_i = 2 ∨ o_i = 3 ∨ o_i = 4 ∨ o_i = 5 ∨ o_i = 6 ∨ o_i = 7 ∨ o_i = 8 ∨ o_i = 9 ∨ o_i = 10 ∨ o_i = 11 := by omega
              rcases hcs with rfl | rfl | rfl | rfl | rfl | rfl | rfl | rfl | rfl | rfl | rfl | rfl
              · cases ho
                refine ⟨Bg.wanted_free rfl, Bg.wp_valD (v := .pointer (some ⟨b, 0, none⟩)) (w' := W) (by simp only [execOp, e0]; simp [go_sem, hct]) ⟨_, rfl, rfl, rfl⟩⟩
              · cases ho
                have f86 : AA.eval (.tmp 86) = .pointer (some ⟨b, 0, none⟩) := hdep ⟨0, .data⟩ 86 (by simp) (by rfl) rfl (by simp)
                refine ⟨Bg.wanted_free rfl, Bg.wp_valD (v := .pointer (some ⟨b, 0, none⟩)) (w' := W) (by simp only [execOp, f86]; simp [go_sem, hct]) ⟨_, rfl, rfl, rfl⟩⟩
              · cases ho
                have f87 : AA.eval (.tmp 87) = .pointer (some ⟨b, 0, none⟩) := hdep ⟨1, .data⟩ 87 (by simp) (by rfl) rfl (by simp)
                refine ⟨Bg.wanted_free rfl, Bg.wp_valD (v := .pointer (some ⟨b, 6, none⟩)) (w' := W) (by simp only [execOp, f87]; simp [go_sem, hct]) ⟨_, rfl, rfl, rfl⟩⟩
              · cases ho
                have f88 : AA.eval (.tmp 88) = .pointer (some ⟨b, 6, none⟩) := hdep ⟨2, .data⟩ 88 (by simp) (by rfl) rfl (by simp)
                refine ⟨Bg.wanted_free rfl, Bg.wp_valD (v := .map (some g1.mb)) (w' := W) (by simp only [execOp, f88]; simp [go_sem, hct]) ⟨_, rfl, rfl, rfl⟩⟩
              · cases ho
                refine ⟨Bg.wanted_free rfl, Bg.wp_valD (v := .int .u64 (id : Int)) (w' := W) (by simp only [execOp, e13]; simp [go_sem, hct]) ⟨_, rfl, rfl, rfl⟩⟩
              · cases ho
                refine ⟨Bg.wanted_free rfl, Bg.wp_valD (v := .pointer (some ⟨b, 0, none⟩)) (w' := W) (by simp only [execOp, e0]; simp [go_sem, hct]) ⟨_, rfl, rfl, rfl⟩⟩
              · cases ho
                have f91 : AA.eval (.tmp 91) = .pointer (some ⟨b, 0, none⟩) := hdep ⟨5, .data⟩ 91 (by simp) (by rfl) rfl (by simp)
                refine ⟨Bg.wanted_free rfl, Bg.wp_valD (v := .pointer (some ⟨b, 0, none⟩)) (w' := W) (by simp only [execOp, f91]; simp [go_sem, hct]) ⟨_, rfl, rfl, rfl⟩⟩
              · cases ho
                have f92 : AA.eval (.tmp 92) = .pointer (some ⟨b, 0, none⟩) := hdep ⟨6, .data⟩ 92 (by simp) (by rfl) rfl (by simp)
                refine ⟨Bg.wanted_free rfl, Bg.wp_valD (v := .pointer (some ⟨b, 6, none⟩)) (w' := W) (by simp only [execOp, f92]; simp [go_sem, hct]) ⟨_, rfl, rfl, rfl⟩⟩
              · cases ho
                have f93 : AA.eval (.tmp 93) = .pointer (some ⟨b, 6, none⟩) := hdep ⟨7, .data⟩ 93 (by simp) (by rfl) rfl (by simp)
                refine ⟨Bg.wanted_free rfl, Bg.wp_valD (v := .map (some g1.mb)) (w' := W) (by simp only [execOp, f93]; simp [go_sem, hct]) ⟨_, rfl, rfl, rfl⟩⟩
              · cases ho
                refine ⟨Bg.wanted_free rfl, Bg.wp_valD (v := .int .u64 (id : Int)) (w' := W) (by simp only [execOp, e13]; simp [go_sem, hct]) ⟨_, rfl, rfl, rfl⟩⟩
              · cases ho
                have f94 : AA.eval (.tmp 94) = .map (some g1.mb) := hdep ⟨8, .data⟩ 94 (by simp) (by rfl) rfl (by simp)
                have f95 : AA.eval (.tmp 95) = .int .u64 (id : Int) := hdep ⟨9, .data⟩ 95 (by simp) (by rfl) rfl (by simp)
                have hlk := hlook (by
                  intro h2
                  exact hnd 13 _ (by omega) (by omega) rfl ⟨10, .data⟩ (by simp) (by rfl) rfl)
                refine ⟨Bg.wanted_free rfl, Bg.wp_valD (v := vv) (w' := W) (by simp only [execOp, f94, f95]; simp [go_sem, hlk]) ⟨_, rfl, rfl, rfl⟩⟩
              · cases ho
                refine ⟨Bg.wanted_free rfl, Bg.wp_valD (v := .int .i64 (slot : Int)) (w' := W) (by simp only [execOp, e9]; simp [go_sem, hct]) ⟨_, rfl, rfl, rfl⟩⟩
            case tail =>
              intro W ys o AA hst ho hev hdep
              match ys, hst, ho, hdep with
              | [], hst, ho, hdep =>
                cases ho
                have f97 : AA.eval (.tmp 97) = .int .i64 (slot : Int) := (hdep ⟨11, .data⟩ 97 (by simp) (by rfl) rfl (by simp)).1 (by decide)
                have g97 : AA.tmps[97]?.getD undef = .int .i64 (slot : Int) := by simpa [Act.eval] using f97
                have e : W = w7.drew := hst
                subst e
                exact ⟨Bg.wanted_free rfl, Bg.wp_valD (v := .slice (some ⟨w7.heap.size, 0, none⟩) 1 1) (w' := w7.drew.alloc (.cells #[.int .i64 (slot : Int)] 3)) (by simp only [execOp]; simp [go_sem, g97]) ⟨_, rfl, ⟨rfl, rfl⟩⟩⟩
              | [y], hst, ho, hdep =>
                cases ho
                obtain ⟨hW, rfl⟩ := hst
                have f96 : AA.eval (.tmp 96) = vv := (hdep ⟨10, .data⟩ 96 (by simp) (by rfl) rfl (by simp)).1 (by decide)
                have f98 : AA.eval (.tmp 98) = .slice (some ⟨w7.heap.size, 0, none⟩) 1 1 := by
                  have := (hdep ⟨12, .data⟩ 98 (by simp) (by rfl) rfl (by simp)).2 0 rfl
                  injection this with this
                  exact this.symm
                refine ⟨Bg.wanted_free rfl, ?_⟩
                obtain ⟨h1, h2⟩ := HAPP.out W hW
                subst hW
                exact Bg.wp_apD 3 (.int .i64 0) 1 8 Tryz.underlying58 Tryz.infoIntS rfl (by decide) vv l.length (natV64 l) f96 h1 ⟨w7.heap.size, 0, none⟩ 1 1 [.int .i64 (slot : Int)] f98 rfl h2 (by simp [Value.oneCell']) (by unfold maxLen; have := HLL.out; omega) (by have := HLL.out; omega) (fun v' w' a1 a2 a3 => ⟨v', rfl, SrB.of a1 a2 a3⟩)
              | [y, q], hst, ho, hdep =>
                cases ho
                have f89 : AA.eval (.tmp 89) = .map (some g1.mb) := (hdep ⟨3, .data⟩ 89 (by simp) (by rfl) rfl (by simp)).1 (by decide)
                have f90 : AA.eval (.tmp 90) = .int .u64 (id : Int) := (hdep ⟨4, .data⟩ 90 (by simp) (by rfl) rfl (by simp)).1 (by decide)
                have f99 : AA.eval (.tmp 99) = q := by
                  have := (hdep ⟨13, .data⟩ 99 (by simp) (by rfl) rfl (by simp)).2 1 rfl
                  injection this with this
                  exact this.symm
                refine ⟨Bg.wanted_free rfl, ?_⟩
                exact wp_storeKD Tryz.underlying25 Tryz.underlying121 f89 (HMPP.out q W hst) HCC.out (i := (id : Int)) (wf_u64K (by omega) (by have := HID.out; omega)) q f90 f99 (fun w' a1 a2 => ⟨_, rfl, ⟨W, hst, a1, a2⟩⟩)
              | [y, q, q2], hst, ho, hdep => cases ho
              | _ :: _ :: _ :: _ :: _, hst, ho, hdep => cases hst
            case fin =>
              intro xs W hst hF
              have HFIN := Lib.hid (HFI.out _ _ _ W (show SrA w7 g1 vv l id slot [xs 12, xs 13, xs 14] W from hst))
              clear hst hF
              simp only [Bg.putAll, Nat.zero_add, Nat.reduceAdd]
              generalize xs 0 = z0
              generalize xs 1 = z1
              generalize xs 2 = z2
              generalize xs 3 = z3
              generalize xs 4 = z4
              generalize xs 5 = z5
              generalize xs 6 = z6
              generalize xs 7 = z7
              generalize xs 8 = z8
              generalize xs 9 = z9
              generalize xs 10 = z10
              generalize xs 11 = z11
              generalize xs 12 = z12
              generalize xs 13 = z13
              generalize xs 14 = z14
              clear xs HRD HAPP HMPP HFI HS7 HP7
              obtain ⟨g8, h8, hp8, q1, q2, q3, q4, q5⟩ := HFIN.out
              have HI8 := Lib.hid (HI7.out.step h8)
              rw [← HIE.out] at hp8
              have HA8 := Lib.hid (HAk.out.next HL.out HUV.out HK2.out HS1.out.2 hp8 q1 q2 q3 q4 q5)
              clear h8 hp8 q1 q2 q3 q4 q5 HFIN HI7
              go_wp2_with fail
              go_roundw
              case rel => exact ⟨k + 1, g8, by have := HK2.out; omega, by go_num, HI8.out, HA8.out⟩
              case measure => have := HK2.out; simp [intOf]; omega
          · obtain rfl : k = 2 := by omega
            have t1 : decide (((2 : Nat) : Int) < 2) = false := rfl
            have FIN : Hid (∀ w9, Mod (fun x => x = z + 1) wr w9 → StIn w b g u v wt t ex (.returned (.tuple #[.agg (lrL ⟨slot, g.last + 1, u, v, wt, t, ex⟩).toArray, .int .i64 0])) w9) := fun w9 hm9 => by
              have hz := HIk.out.ib.zs
              have hs1 := HIk.out.ib.st
              refine ⟨gk, slot, HS1.out.1, HS1.out.2, rfl, ⟨hs1.mem.mod hm9 (fun k e e2 => HIk.out.ib.ny (e2 ▸ e)), hs1.mod.trans hm9 (fun x hx e => by omega), hs1.ft⟩, HAk.out.last2 HL.out ⟨rfl, rfl, rfl, rfl⟩ HUV.out hu hv HLT.out HS1.out.1 hn1 hn2 HS1.out.2, HAk.out.V, HAk.out.E, HAk.out.last, HAk.out.Lv, HAk.out.R, HAk.out.Rs, HAk.out.keep⟩
            have HBE := Lib.hid HIk.out.be
            have HBY := Lib.hid HIk.out.ib.by_
            clear hk2
            go_wp2_with (first | (with_reducible refine wpList_loadBlk eb 63 (lrL ⟨slot, g.last + 1, u, v, wt, t, ex⟩) _ rfl HBE.out Tryz.underlying63 rfl (by kernel_rfl) ?_) | (refine wpList_storeBlk (z + 1) 63 (lrL lr0) (lrL ⟨slot, g.last + 1, u, v, wt, t, ex⟩) rfl rfl HBY.out rfl (by kernel_rfl) (lrL_one _) ?_))
            intro w9 B9 hm9
            have HF9 := Lib.hid (FIN.out w9 hm9)
            have HB9 := Lib.hid B9
            clear B9 hm9 FIN
            go_wp2_with fail
            exact bodyPost_ret (results_cs rfl (y := .int .i64 0) rfl rfl HB9.out Tryz.underlying63 rfl (by kernel_rfl)) rfl HF9.out
end Go.Proofs.YtlooaipipmiijaaGreat
