/- LtA, LtB, LtC, LtD, LtE. -/
import Derived.Test.YthacjealoomioaaGreatDoorZRowsK
import Derived.Test.YthacjealoomioaaGreatDoorZGb
import Derived.Test.YthacjealoomioaaGreatDoorZGe
import Derived.Test.YthacjealoomioaaGreatDoorZGa
import Derived.Test.YthacjealoomioaaGreatDoorZGf
import Derived.Test.YthacjealoomioaaGreatDoorZGj
import Derived.Test.YthacjealoomioaaGreatDoorZGh
import Derived.Deep.RegionHeld3
import Derived.Laws.Bits64b
/- lift.depths. -/
namespace Go.Proofs.YthacjealoomioaaGreatDoor
set_option linter.unusedVariables false
set_option linter.unusedSimpArgs false
open Go.RowKit

def tpsTo (t : Tr) (i : Nat) : List Nat := (List.range i).filter fun x => decide (gi t.par x < 0)
def kidsTo (t : Tr) (i p : Nat) : List Nat := (List.range i).filter fun x => decide (gi t.par x = (p : Int))
theorem kidsTo_end (t : Tr) (m p : Nat) : kidsTo t m p = kids t m p := rfl
theorem tpsTo_len (t : Tr) (i : Nat) : (tpsTo t i).length ≤ i := by
  have := List.length_filter_le (fun x => decide (gi t.par x < 0)) (List.range i)
  rw [List.length_range] at this
  exact this
theorem kidsTo_len (t : Tr) (i p : Nat) : (kidsTo t i p).length ≤ i := by
  have := List.length_filter_le (fun x => decide (gi t.par x = (p : Int))) (List.range i)
  rw [List.length_range] at this
  exact this
theorem tpsTo_succ (t : Tr) (i : Nat) : tpsTo t (i + 1) = if gi t.par i < 0 then tpsTo t i ++ [i] else tpsTo t i := by
  unfold tpsTo
  rw [List.range_succ, List.filter_append]
  by_cases h : gi t.par i < 0 <;> simp [h]
theorem kidsTo_succ (t : Tr) (i p : Nat) : kidsTo t (i + 1) p = if gi t.par i = (p : Int) then kidsTo t i p ++ [i] else kidsTo t i p := by
  unfold kidsTo
  rw [List.range_succ, List.filter_append]
  by_cases h : gi t.par i = (p : Int) <;> simp [h]

/-- The rows of children L, the list of depths d, the queue q. -/
structure DpS (w0 W : World) (m cb db : Nat) (L : Nat → List Nat) (d q : List Nat) (qv : Value) (V : Nat → Value) : Prop where
  sets : RowsK W cb m V L
  vn : ∀ s, s < m → ∀ g, (V s).ownBlock = some g → g ≠ db ∧ w0.heap.size ≤ g ∧ qv.ownBlock ≠ some g
  dep : Blk W db 3 (natV d)
  dl : d.length = m
  q : W.ownsRow 0 3 1 qv q.length (natV q)
  qn : ∀ g, qv.ownBlock = some g → w0.heap.size ≤ g ∧ g ≠ cb ∧ g ≠ db
  bel : Below w0.heap.size w0 W
  cn : w0.heap.size ≤ cb ∧ w0.heap.size ≤ db ∧ cb ≠ db

theorem DpS.congr {w0 W : World} {m cb db : Nat} {L L' : Nat → List Nat} {d q : List Nat} {qv : Value} {V : Nat → Value} (h : DpS w0 W m cb db L d q qv V) (e : ∀ s, s < m → L' s = L s) : DpS w0 W m cb db L' d q qv V :=
  ⟨⟨h.sets.blk, fun s hs => by rw [e s hs]; exact h.sets.row s hs, h.sets.ne, h.sets.dis⟩, h.vn, h.dep, h.dl, h.q, h.qn, h.bel, h.cn⟩

/-- One more in the queue. -/
theorem DpS.push {w0 W W' : World} {m cb db : Nat} {L : Nat → List Nat} {d q : List Nat} {qv qv' : Value} {V : Nat → Value} {x : Nat} (h : DpS w0 W m cb db L d q qv V) (hm : Mod (fun g => qv.ownBlock = some g) W W')
    (ho : W'.ownsRow 0 3 1 qv' (q.length + 1) (natV q ++ [.int .i64 (x : Int)])) (hv : ∀ g, qv'.ownBlock = some g → qv.ownBlock = some g ∨ W.heap.size ≤ g) : DpS w0 W' m cb db L d (q ++ [x]) qv' V := by
  have hc := h.sets.blk.lt
  have hd := h.dep.lt
  refine ⟨h.sets.mod hm (fun e => (h.qn _ e).2.1 rfl) (fun s hs g hg e => (h.vn s hs g hg).2.2 e), fun s hs g hg => ⟨(h.vn s hs g hg).1, (h.vn s hs g hg).2.1, fun e => ?_⟩, h.dep.mod hm (fun e => (h.qn _ e).2.2 rfl), h.dl, ?_, fun g hg => ?_, ?_, h.cn⟩
  · rcases hv g e with e | e
    · exact (h.vn s hs g hg).2.2 e
    · have := ((h.sets.row s hs).lt g hg).2; omega
  · rw [natV_snoc, List.length_append]
    exact ho
  · rcases hv g hg with e | e
    · exact h.qn g e
    · have := h.bel.size
      exact ⟨by omega, by omega, by omega⟩
  · exact bel_mod h.bel hm (fun x hx => (h.qn x hx).1)

/-- A depth is set. -/
theorem DpS.setd {w0 W : World} {m cb db : Nat} {L : Nat → List Nat} {d q : List Nat} {qv : Value} {V : Nat → Value} {x y : Nat} (h : DpS w0 W m cb db L d q qv V) : DpS w0 (W.setCell ⟨db, x, none⟩ (.int .i64 (y : Int))) m cb db L (d.set x y) q qv V := by
  have hm : Mod (fun g => g = db) W (W.setCell ⟨db, x, none⟩ (.int .i64 (y : Int))) := (Mod.refl (fun g => g = db) W).setCell ⟨db, x, none⟩ (fun _ => rfl) _
  exact ⟨h.sets.mod hm h.cn.2.2 (fun s hs g hg e => (h.vn s hs g hg).1 e), h.vn, blkN_set h.dep x y, by simp [h.dl], owns_mod h.q hm (fun g hg e => (h.qn g hg).2.2 e), h.qn, bel_mod h.bel hm (fun g e => by rw [e]; exact h.cn.2.1), h.cn⟩

/-- One more in a row of children. -/
theorem DpS.kid {w0 W W' : World} {m cb db : Nat} {L L' : Nat → List Nat} {d q : List Nat} {qv v : Value} {V : Nat → Value} {s : Nat} (h : DpS w0 W m cb db L d q qv V) (hs : s < m) (hm : Mod (fun g => (V s).ownBlock = some g) W W')
    (ho : W'.ownsRow 0 3 1 v (L' s).length (natV (L' s))) (hL : ∀ t, t < m → t ≠ s → L' t = L t) (hv : ∀ g, v.ownBlock = some g → (V s).ownBlock = some g ∨ W.heap.size ≤ g) :
    DpS w0 (W'.setCell ⟨cb, s, none⟩ v) m cb db L' d q qv (fun t => if t = s then v else V t) := by
  have hd := h.dep.lt
  have hmm : Mod (fun g => (V s).ownBlock = some g ∨ g = cb) W (W'.setCell ⟨cb, s, none⟩ v) := (hm.mono (fun _ _ e => .inl e)).setCell _ (fun _ => .inr rfl) _
  have hq : ∀ g, qv.ownBlock = some g → ¬ ((V s).ownBlock = some g ∨ g = cb) := fun g hg e => by
    rcases e with e | e
    · exact (h.vn s hs g e).2.2 hg
    · exact (h.qn g hg).2.1 e
  refine ⟨h.sets.put hs hm ho hL hv, fun t ht g hg => ?_, h.dep.mod hmm (fun e => ?_), h.dl, owns_mod h.q hmm hq, h.qn, bel_mod h.bel hmm (fun g e => ?_), h.cn⟩
  · by_cases e : t = s
    · simp only [if_pos e] at hg
      rcases hv g hg with e' | e'
      · exact h.vn s hs g e'
      · have := h.bel.size
        exact ⟨by omega, by omega, fun e2 => by have := (h.q.lt g e2).2; omega⟩
    · simp only [if_neg e] at hg
      exact h.vn t ht g hg
  · rcases e with e | e
    · exact (h.vn s hs _ e).1 rfl
    · exact h.cn.2.2 e.symm
  · rcases e with e | e
    · exact (h.vn s hs g e).2.1
    · rw [e]; exact h.cn.1

/-- The depths so far are right for all that is in the queue. -/
def DepOk (t : Tr) (m : Nat) (d q : List Nat) : Prop := ∀ x ∈ q, d.getD x 0 = dep t m x
def depL (t : Tr) (m : Nat) : List Nat := (List.range m).map (dep t m)
theorem depL_at {t : Tr} {m x : Nat} (hx : x < m) : (depL t m).getD x 0 = dep t m x := by
  unfold depL
  rw [List.getD_eq_getElem?_getD, List.getElem?_map, List.getElem?_range hx]; rfl
theorem getD_rep0 (m x : Nat) : (List.replicate m 0).getD x 0 = 0 := by
  rw [List.getD_eq_getElem?_getD, List.getElem?_replicate]
  split <;> rfl

/-- What the search does with the child x of v. -/
theorem DepOk.step {t : Tr} {n m : Nat} {ls : List Nat} (h : TV t n m ls) {d q : List Nat} (hd : DepOk t m d q) (hl : d.length = m) {x v : Nat} (hx : x < m) (hv : v ∈ q) (hp : gi t.par x = (v : Int)) (hxq : x ∉ q) : DepOk t m (d.set x (d.getD v 0 + 1)) (q ++ [x]) := by
  intro y hy
  rcases List.mem_append.1 hy with hy | hy
  · rw [getD_set_ne (fun e => hxq (by rw [e]; exact hy))]
    exact hd y hy
  · rw [List.mem_singleton] at hy
    subst hy
    rw [getD_set_self (by omega), hd v hv, dep_par h hx hp]

theorem DepOk.start {t : Tr} {n m : Nat} {ls : List Nat} (h : TV t n m ls) : DepOk t m (List.replicate m 0) (bq t m 0) := by
  intro x hx
  obtain ⟨h1, h2⟩ := tops_mem.1 hx
  rw [getD_rep0, dep_root h h1 h2]
theorem DepOk.all {t : Tr} {m : Nat} {d q : List Nat} (h : DepOk t m d q) (hl : d.length = m) (ha : ∀ x, x < m → x ∈ q) : d = depL t m :=
  list_ext hl (by simp [depL]) fun x hx => by rw [h x (ha x hx), depL_at hx]

structure DpPost (w : World) (t : Tr) (m : Nat) (e : Ending) (w' : World) : Prop where
  out : ∃ db, e = .returned (.tuple #[.slice (some ⟨db, 0, none⟩) m m, .bool true]) ∧ Blk w' db 3 (natV (depL t m)) ∧ w.heap.size ≤ db
  bel : Below w.heap.size w w'

set_option maxHeartbeats 8000000 in
set_option maxRecDepth 100000 in
theorem depths_ok (w : World) (t : Tr) (n m : Nat) (ls : List Nat) (tv : TV t n m ls) (ao : Option Addr) (cap pb pf : Nat) (hp : InRow .i64 w ao m pb pf t.par) :
    Calls Tryz.prog 97 #[.slice ao m cap] w (DpPost w t m) := by
  have hm : m ≤ 8192 := by have := tv.two; have := tv.hn; omega
  have TVH := Lib.hid tv
  have HP := Lib.hid hp
  clear tv hp
  go_enter Tryz.func97, Tryz.ntmps97
  go_wp2_with (at_make; apply keepIt)
  apply Lib.hid
  refine wpList_makeB 24 (.slice none 0 0) 24 Tryz.underlying114 Tryz.infoSli rfl _ _ _ _ m rfl rfl rfl rfl (by omega) (by unfold maxLen; omega) ?_
  intro w1 B1 hb1
  have HB1 := Lib.hid B1
  have HE1 := Lib.hid hb1
  clear B1 hb1
  go_wp2_with (at_make; apply keepIt)
  apply Lib.hid
  refine wpList_makeB 3 (.int .i64 0) 8 Tryz.underlying24 Tryz.infoInt rfl _ _ _ _ m rfl rfl rfl rfl (by omega) (by unfold maxLen; omega) ?_
  intro w2 B2 hb2
  have HS0 : Hid (DpS w w2 m w.heap.size w1.heap.size (kidsTo t 0) (List.replicate m 0) (tpsTo t 0) (.slice none 0 0) (fun _ => .slice none 0 0)) := by
    have h1 := HB1.out.below hb2 HB1.out.lt
    have h2 := HB1.out.lt
    exact ⟨RowsK.made h1 (fun _ _ => rfl), fun s hs g hg => (by cases hg), by rw [natV_zero]; exact B2, by simp, World.ownsRow_nil _ _ _ _, fun g hg => (by cases hg), bel_then HE1.out hb2, ⟨Nat.le_refl _, Nat.le_of_lt h2, Nat.ne_of_lt h2⟩⟩
  clear HB1 HE1 B2 hb2
  generalize w.heap.size = cb at *
  generalize w1.heap.size = db at *
  go_wp2_with fail
  go_loopw [7, 22] (fun s7 s22 wr => ∃ i : Nat, i ≤ m ∧ s22 = .int .i64 i ∧ ∃ V, DpS w wr m cb db (kidsTo t i) (List.replicate m 0) (tpsTo t i) s7 V) (fun _ s22 _ => m - (intOf s22).toNat)
  case atStart => exact ⟨0, Nat.zero_le _, rfl, _, HS0.out⟩
  case round =>
    obtain ⟨i, him, rfl, V, hS⟩ := hrel
    clear HS0
    have HS := Lib.hid hS
    clear hS
    by_cases hi : i < m
    · have ti : decide (i < m) = true := decide_eq_true hi
      have ti1 : (i : Int) < (m : Int) := by omega
      have ti0 : (0 : Int) ≤ (i : Int) := by omega
      have hlen : t.par.length = m := TVH.out.pl
      have cp := (HP.out.below HS.out.bel).cell i hi
      have hgi : t.par.getD i 0 = gi t.par i := rfl
      rw [hgi] at cp
      obtain rfl := HP.out.adr (by omega)
      have HK := Lib.hid (fun p => kidsTo_succ t i p)
      have HT := Lib.hid (tpsTo_succ t i)
      have HTL := tpsTo_len t i
      have HPAR := Lib.hid (TVH.out.par hi)
      have HKL : Hid (∀ p, (kidsTo t i p).length ≤ i) := fun p => kidsTo_len t i p
      clear hlen hgi
      by_cases hz : gi t.par i < 0
      · have tz : decide (gi t.par i < 0) = true := decide_eq_true hz
        have HTT : Hid (tpsTo t (i + 1) = tpsTo t i ++ [i]) := HT.out.trans (if_pos hz)
        have HKK : Hid (∀ p, p < m → kidsTo t (i + 1) p = kidsTo t i p) := fun p _ => (HK.out p).trans (if_neg (by omega))
        generalize gi t.par i = z at *
        obtain ⟨vo, vc, hvv⟩ := owns_slice HS.out.q
        have HOW := Lib.hid (HS.out.q.alloc (.cells #[.int .i64 i] 3))
        have HNW := Lib.hid (news_new wr 3 [.int .i64 i])
        clear hz
        go_wp2_with (at_builtin; apply keepIt)
        apply Lib.hid
        refine wpList_appendB 3 (.int .i64 0) 1 8 Tryz.underlying24 Tryz.infoInt rfl (by decide) _ (tpsTo t i).length _ rfl HOW.out ⟨wr.heap.size, 0, none⟩ 1 1 [.int .i64 i] rfl rfl HNW.out (by simp [Value.oneCell']) (by unfold maxLen; omega) (by omega) ?_
        intro v6 w6 ho6 hg6 hn6
        have hm6 : Mod (fun x => u7.ownBlock = some x) wr w6 := ((Mod.refl _ wr).alloc _).grown hg6 (fun k e _ => e)
        have HS6 : Hid (DpS w w6 m cb db (kidsTo t (i + 1)) (List.replicate m 0) (tpsTo t (i + 1)) v6 V) := by
          show DpS w w6 m cb db (kidsTo t (i + 1)) (List.replicate m 0) (tpsTo t (i + 1)) v6 V
          rw [HTT.out]
          refine DpS.congr (DpS.push HS.out hm6 ho6 (fun g hg => ?_)) HKK.out
          rcases hn6 g hg with e | e
          · exact .inl e
          · right; simp at e; omega
        clear ho6 hg6 hn6 hm6 HOW HNW
        go_wp2_with fail
        go_roundw
        case rel => exact ⟨i + 1, by omega, by go_num, _, HS6.out⟩
        case measure => simp [intOf]; omega
      · rcases HPAR.out with e | ⟨p, e, hip, hnp, hpm, _⟩
        · omega
        have tz : decide (gi t.par i < 0) = false := decide_eq_false hz
        have HTT : Hid (tpsTo t (i + 1) = tpsTo t i) := HT.out.trans (if_neg hz)
        have HKP : Hid (kidsTo t (i + 1) p = kidsTo t i p ++ [i]) := (HK.out p).trans (if_pos e)
        have HKK : Hid (∀ q, q < m → q ≠ p → kidsTo t (i + 1) q = kidsTo t i q) := fun q _ hq => (HK.out q).trans (if_neg (by omega))
        rw [e] at cp tz
        have cV := HS.out.sets.cell hpm
        have HROW := Lib.hid (HS.out.sets.row p hpm)
        have hkl := HKL.out p
        obtain ⟨vo, vc, hvv⟩ := owns_slice HROW.out
        have HOW := Lib.hid (HROW.out.alloc (.cells #[.int .i64 i] 3))
        have HNW := Lib.hid (news_new wr 3 [.int .i64 i])
        have tp1 : (p : Int) < (m : Int) := by omega
        have tp0 : (0 : Int) ≤ (p : Int) := by omega
        obtain ⟨Vp, hVp⟩ : ∃ Vp, V p = Vp := ⟨_, rfl⟩
        have HVP := Lib.hid hVp
        rw [hVp] at cV hvv HOW
        rw [hvv] at cV HOW
        clear e hz hVp HPAR
        go_wp2_with (at_builtin; apply keepIt)
        apply Lib.hid
        refine wpList_appendB 3 (.int .i64 0) 1 8 Tryz.underlying24 Tryz.infoInt rfl (by decide) _ (kidsTo t i p).length _ rfl HOW.out ⟨wr.heap.size, 0, none⟩ 1 1 [.int .i64 i] rfl rfl HNW.out (by simp [Value.oneCell']) (by unfold maxLen; omega) (by omega) ?_
        intro v6 w6 ho6 hg6 hn6
        obtain ⟨o6, q6, hv6⟩ := owns_slice ho6
        subst hv6
        have hm6 : Mod (fun x => (V p).ownBlock = some x) wr w6 := ((Mod.refl _ wr).alloc _).grown hg6 (fun k e _ => by rw [HVP.out, hvv]; exact e)
        have hB6 := HS.out.sets.blk.mod hm6 (fun e => HS.out.sets.ne p hpm _ e rfl)
        have HS6 : Hid (DpS w (w6.setCell ⟨cb, p, none⟩ (.slice o6 ((kidsTo t i p).length + 1) q6)) m cb db (kidsTo t (i + 1)) (List.replicate m 0) (tpsTo t (i + 1)) u7 (fun s => if s = p then .slice o6 ((kidsTo t i p).length + 1) q6 else V s)) := by
          show DpS w (w6.setCell ⟨cb, p, none⟩ (.slice o6 ((kidsTo t i p).length + 1) q6)) m cb db (kidsTo t (i + 1)) (List.replicate m 0) (tpsTo t (i + 1)) u7 (fun s => if s = p then .slice o6 ((kidsTo t i p).length + 1) q6 else V s)
          rw [HTT.out]
          refine DpS.kid HS.out hpm hm6 ?_ HKK.out (fun g hg => ?_)
          · rw [HKP.out, natV_snoc, List.length_append]
            exact ho6
          · rcases hn6 g hg with e | e
            · left; rw [HVP.out, hvv]; exact e
            · right; simp at e; omega
        have c6 := hB6.cell (i := p) (v := V p) (by rw [List.getElem?_map, List.getElem?_range hpm]; rfl)
        have f6 := hB6.free p
        clear ho6 hg6 hn6 hm6 hB6 HOW HNW
        go_wp2_with fail
        go_roundw
        case rel => exact ⟨i + 1, by omega, by go_num, _, HS6.out⟩
        case measure => simp [intOf]; omega
    · obtain rfl : m = i := by omega
      have ti : decide (m < m) = false := by simp
      have HS1 : Hid (DpS w wr m cb db (kids t m) (List.replicate m 0) (bq t m 0) u7 V) := HS.out
      clear HS hi
      go_wp2_with fail
      go_loopw [7, 10] (fun s7 s10 wq => ∃ k : Nat, s10 = .int .i64 k ∧ k ≤ (bq t m k).length ∧ ∃ d, DpS w wq m cb db (kids t m) d (bq t m k) s7 V ∧ DepOk t m d (bq t m k)) (fun _ s10 _ => m - (intOf s10).toNat)
      case atStart => exact ⟨0, rfl, Nat.zero_le _, _, HS1.out, DepOk.start TVH.out⟩
      case round =>
        obtain ⟨k, rfl, hk, d, hS, hd⟩ := hrel
        have HQ := Lib.hid (bq_inv TVH.out k hk)
        have HS := Lib.hid hS
        have HD := Lib.hid hd
        clear hS hd HS1
        have hqm := HQ.out.len_le
        obtain ⟨ql, hql⟩ : ∃ ql, (bq t m k).length = ql := ⟨_, rfl⟩
        have HQL := Lib.hid hql
        rw [hql] at hk hqm
        clear hql
        obtain ⟨qo, qc, hqv⟩ := owns_slice HS.out.q
        rw [HQL.out] at hqv
        by_cases hkl : k < ql
        · obtain ⟨qo', qc', qb, hqv', hqr, _⟩ := own_rowN HS.out.q rfl
          rw [HQL.out] at hqv' hqr
          rw [hqv] at hqv'
          injection hqv' with e1 _ e2
          subst e1 e2
          obtain rfl := hqr.adr (by omega)
          have cq := hqr.cell k hkl
          rw [nI_at (by rw [HQL.out]; exact hkl), Nat.zero_add] at cq
          obtain ⟨v, hv⟩ : ∃ v, (bq t m k).getD k 0 = v := ⟨_, rfl⟩
          have HV := Lib.hid hv
          have hvq : v ∈ bq t m k := by
            rw [← hv, List.getD_eq_getElem?_getD, List.getElem?_eq_getElem (by rw [HQL.out]; exact hkl)]
            exact List.getElem_mem _
          have HVQ := Lib.hid hvq
          have hvm := HQ.out.lt v hvq
          rw [hv] at cq
          clear hv hvq hqr
          have cV := HS.out.sets.cell hvm
          have HROW := Lib.hid (HS.out.sets.row v hvm)
          obtain ⟨N, hN⟩ : ∃ N, (kids t m v).length = N := ⟨_, rfl⟩
          have HN := Lib.hid hN
          clear hN
          obtain ⟨vo, vc, hvv⟩ := owns_slice HROW.out
          rw [HN.out] at hvv
          rw [hvv] at cV
          have hNm : N ≤ m := by have := kidsTo_len t m v; rw [kidsTo_end, HN.out] at this; exact this
          have tk1 : (k : Int) < (ql : Int) := by omega
          have tk0 : (0 : Int) ≤ (k : Int) := by omega
          have tv1 : (v : Int) < (m : Int) := by omega
          have tv0 : (0 : Int) ≤ (v : Int) := by omega
          have HVV := Lib.hid hvv
          have HQK := Lib.hid (bq_inv TVH.out (k + 1) (by
            show k + 1 ≤ (bq t m k ++ kids t m _).length
            rw [List.length_append, HQL.out]
            omega))
          have HQV := Lib.hid hqv
          rw [hqv]
          clear hqv hvv
          go_wp2_with fail
          clear cq cV tk1
          go_loopw [7, 59] (fun s7 s59 wz => ∃ i : Nat, i ≤ N ∧ s59 = .int .i64 i ∧ ∃ d, DpS w wz m cb db (kids t m) d (bq t m k ++ (kids t m v).take i) s7 V ∧ DepOk t m d (bq t m k ++ (kids t m v).take i)) (fun _ s59 _ => N - (intOf s59).toNat)
          case atStart => exact ⟨0, Nat.zero_le _, rfl, d, by rw [List.take_zero, List.append_nil, ← HQV.out]; exact HS.out, by rw [List.take_zero, List.append_nil]; exact HD.out⟩
          case round =>
            obtain ⟨i, hi, rfl, d2, hS2, hd2⟩ := hrel
            have HS2 := Lib.hid hS2
            have HD2 := Lib.hid hd2
            clear hS2 hd2 HS HD
            by_cases hiN : i < N
            · have ti : decide (i < N) = true := decide_eq_true hiN
              obtain ⟨x, hx⟩ : ∃ x, (kids t m v).getD i 0 = x := ⟨_, rfl⟩
              have HX := Lib.hid hx
              have htk : (kids t m v).take (i + 1) = (kids t m v).take i ++ [x] := by rw [← hx]; exact take_snocN (by rw [HN.out]; exact hiN)
              have hxk : x ∈ kids t m v := by
                rw [← hx, List.getD_eq_getElem?_getD, List.getElem?_eq_getElem (by rw [HN.out]; exact hiN)]
                exact List.getElem_mem _
              obtain ⟨hxm, hxp⟩ := kids_mem.1 hxk
              have hxq : x ∉ bq t m k ++ (kids t m v).take i := fun hmem => by
                have hnd : (bq t m k ++ kids t m v).Nodup := by have := HQK.out.nd; rw [bq, HV.out] at this; exact this
                rw [← List.take_append_drop i (kids t m v), ← List.append_assoc, List.nodup_append] at hnd
                refine hnd.2.2 x hmem x ?_ rfl
                rw [List.drop_eq_getElem_cons (by rw [HN.out]; exact hiN)]
                have : (kids t m v)[i]'(by rw [HN.out]; exact hiN) = x := by
                  rw [← hx, List.getD_eq_getElem?_getD, List.getElem?_eq_getElem (by rw [HN.out]; exact hiN)]; rfl
                rw [this]
                exact List.mem_cons_self ..
              have hvq2 : v ∈ bq t m k ++ (kids t m v).take i := List.mem_append_left _ HVQ.out
              have hdv := HD2.out v hvq2
              have hdl := HS2.out.dl
              have HD3 := Lib.hid (DepOk.step TVH.out HD2.out hdl hxm hvq2 hxp hxq)
              have hlt := dep_lt TVH.out v hvm
              rw [← hdv] at hlt
              obtain ⟨y, hy⟩ : ∃ y, d2.getD v 0 = y := ⟨_, rfl⟩
              have hrow := HS2.out.sets.row v hvm
              rw [HN.out] at hrow
              obtain ⟨ko, kc, kb, hke, hkr, _⟩ := own_rowN hrow HN.out
              rw [HVV.out] at hke
              injection hke with e1 _ e2
              subst e1 e2
              obtain rfl := hkr.adr (by omega)
              have ck := hkr.cell i hiN
              rw [nI_at (by rw [HN.out]; exact hiN), hx, Nat.zero_add] at ck
              have cd := blkN HS2.out.dep (i := v) (by omega)
              have cx := blkN HS2.out.dep (i := x) (by omega)
              have fx := HS2.out.dep.free x
              rw [hy] at cd hlt
              have HS3 := Lib.hid (HS2.out.setd (x := x) (y := y + 1))
              rw [hy] at HD3
              obtain ⟨qo2, qc2, hq2⟩ := owns_slice HS2.out.q
              have hqlen : (bq t m k ++ (kids t m v).take i).length = ql + i := by
                rw [List.length_append, HQL.out, List.length_take, HN.out]; omega
              have HQN := Lib.hid hqlen
              rw [hqlen] at hq2
              have hbd : ql + i ≤ m + m := by omega
              have HTK := Lib.hid htk
              have hy2 : IntKind.i64.wrap ((y : Int) + 1) = ((y + 1 : Nat) : Int) := by rw [IntWalk.i64_in _ (by omega)]; omega
              rw [hq2]
              have HQ2 := Lib.hid hq2
              have ti1 : (i : Int) < (N : Int) := by omega
              have ti0 : (0 : Int) ≤ (i : Int) := by omega
              have tx1 : (x : Int) < (m : Int) := by omega
              have tx0 : (0 : Int) ≤ (x : Int) := by omega
              clear hx htk hxk hxp hxq hvq2 hdv hdl hrow hkr hq2 hqlen hy
              have HQ3 := Lib.hid HS3.out.q
              rw [HQN.out, HQ2.out] at HQ3
              have HOW := Lib.hid (HQ3.out.alloc (.cells #[.int .i64 x] 3))
              have HNW : Hid (∀ j u, [Value.int .i64 (x : Int)][j]? = some u → ((wr.setCell ⟨db, x, none⟩ (.int .i64 ((y + 1 : Nat) : Int))).alloc (.cells #[.int .i64 x] 3)).cell? ((⟨wr.heap.size, 0, none⟩ : Addr).add j) = some u) := by
                have := news_new (wr.setCell ⟨db, x, none⟩ (.int .i64 ((y + 1 : Nat) : Int))) 3 [.int .i64 x]
                rw [World.size_setCell] at this
                exact this
              go_wp2_with (at_builtin; apply keepIt)
              apply Lib.hid
              refine wpList_appendB 3 (.int .i64 0) 1 8 Tryz.underlying24 Tryz.infoInt rfl (by decide) _ (ql + i) _ rfl HOW.out ⟨wr.heap.size, 0, none⟩ 1 1 [.int .i64 x] rfl rfl HNW.out (by simp [Value.oneCell']) (by unfold maxLen; omega) (by omega) ?_
              intro v6 w6 ho6 hg6 hn6
              have hm6 : Mod (fun g => u7.ownBlock = some g) (wr.setCell ⟨db, x, none⟩ (.int .i64 ((y + 1 : Nat) : Int))) w6 := ((Mod.refl _ _).alloc _).grown hg6 (fun k e _ => by rw [HQ2.out]; exact e)
              have HS6 : Hid (DpS w w6 m cb db (kids t m) (d2.set x (y + 1)) (bq t m k ++ (kids t m v).take (i + 1)) v6 V) := by
                show DpS _ _ _ _ _ _ _ _ _ _
                rw [HTK.out, ← List.append_assoc]
                refine DpS.push HS3.out hm6 (by rw [HQN.out]; exact ho6) (fun g hg => ?_)
                rcases hn6 g hg with e | e
                · left; rw [HQ2.out]; exact e
                · right; simp at e ⊢; omega
              clear ho6 hg6 hn6 hm6 HOW HNW
              have HD6 : Hid (DepOk t m (d2.set x (y + 1)) (bq t m k ++ (kids t m v).take (i + 1))) := by
                show DepOk _ _ _ _
                rw [HTK.out, ← List.append_assoc]
                exact HD3.out
              go_wp2_with fail
              go_roundw
              case rel => exact ⟨i + 1, by omega, by go_num, _, HS6.out, HD6.out⟩
              case measure => simp [intOf]; omega
            · obtain rfl : N = i := by omega
              have ti : decide (N < N) = false := by simp
              have HS7 : Hid (DpS w wr m cb db (kids t m) d2 (bq t m (k + 1)) u7 V) := by
                have := HS2.out
                rw [List.take_of_length_le (by rw [HN.out]; exact Nat.le_refl _)] at this
                rw [← HV.out] at this
                exact this
              have HD7 : Hid (DepOk t m d2 (bq t m (k + 1))) := by
                have := HD2.out
                rw [List.take_of_length_le (by rw [HN.out]; exact Nat.le_refl _)] at this
                rw [← HV.out] at this
                exact this
              have HKL : Hid (k + 1 ≤ (bq t m (k + 1)).length) := HQK.out.kl
              clear HS2 HD2 hi hiN
              go_wp2_with fail
              go_roundw
              case rel => exact ⟨k + 1, by go_num, HKL.out, _, HS7.out, HD7.out⟩
              case measure => simp [intOf]; omega
        · obtain rfl : ql = k := by omega
          have hlen : ql = m := by
            have h1 : QInv t m (bq t m ql).length (bq t m ql) := by rw [HQL.out]; exact HQ.out
            have := h1.done TVH.out
            rw [HQL.out] at this
            exact this
          have hall : ∀ x, x < m → x ∈ bq t m ql := TVH.out.down (Q := fun x => x ∈ bq t m ql) (fun x hx e => HQ.out.top x hx e) (fun x p hx hp hlt hn e ih => by
            obtain ⟨i, hi, rfl⟩ := List.getElem_of_mem ih
            refine HQ.out.cl i (by rw [HQL.out] at hi; exact hi) x hx ?_
            rw [e, List.getD_eq_getElem?_getD, List.getElem?_eq_getElem hi]; rfl)
          have HDL := Lib.hid (HD.out.all HS.out.dl hall)
          have HBK := Lib.hid HS.out.dep
          have HBE := Lib.hid HS.out.bel
          have HCN := Lib.hid HS.out.cn.2.1
          rw [HDL.out] at HBK
          have tq : decide (ql < ql) = false := by simp
          subst hlen
          have tq2 : ((ql : Int) == (ql : Int)) = true := by simp
          rw [hqv]
          clear HS HD HQ hall hqv hk
          go_wp2_with fail
          go_ret2
          exact ⟨⟨db, rfl, HBK.out, HCN.out⟩, HBE.out⟩

end Go.Proofs.YthacjealoomioaaGreatDoor

/- lift.New. -/
namespace Go.Proofs.YthacjealoomioaaGreatDoor
set_option linter.unusedVariables false
set_option linter.unusedSimpArgs false
open Go.RowKit

abbrev slM (m b : Nat) : Value := .slice (some ⟨b, 0, none⟩) m m
/-- The cells of a table of which the first j rows are made. -/
def tbCells (m db j : Nat) (jb : Nat → Nat) : List Value := .bool true :: slM m db :: (List.range 13).map fun q => if q < j then slM m (jb q) else .slice none 0 0
theorem tbCells_at {m db j : Nat} {jb : Nat → Nat} {q : Nat} (h : q < j) (h2 : q < 13) : (tbCells m db j jb)[2 + q]? = some (slM m (jb q)) := by
  unfold tbCells
  rw [Nat.add_comm 2 q]
  show ((List.range 13).map _)[q]? = _
  rw [List.getElem?_map, List.getElem?_range h2, Option.map_some, if_pos h]
theorem tbCells_nil {m db j : Nat} {jb : Nat → Nat} {q : Nat} (h : j ≤ q) (h2 : q < 13) : (tbCells m db j jb)[2 + q]? = some (.slice none 0 0) := by
  unfold tbCells
  rw [Nat.add_comm 2 q]
  show ((List.range 13).map _)[q]? = _
  rw [List.getElem?_map, List.getElem?_range h2, Option.map_some, if_neg (by omega)]
theorem tbCells_set {m db j : Nat} {jb : Nat → Nat} (h : j < 13) (nb : Nat) : (tbCells m db j jb).set (2 + j) (slM m nb) = tbCells m db (j + 1) (fun q => if q = j then nb else jb q) := by
  unfold tbCells
  rw [Nat.add_comm 2 j]
  show _ :: _ :: ((List.range 13).map _).set j _ = _
  congr 2
  apply List.ext_getElem?
  intro i
  by_cases hi : i < 13
  · by_cases e : i = j
    · subst e
      rw [List.getElem?_set_self (by simpa using hi), List.getElem?_map, List.getElem?_range hi, Option.map_some, if_pos (by omega)]
      simp only [if_true]
    · rw [List.getElem?_set_ne (fun e' => e e'.symm), List.getElem?_map, List.getElem?_map, List.getElem?_range hi, Option.map_some, Option.map_some]
      by_cases h2 : i < j
      · rw [if_pos h2, if_pos (by omega)]
        simp only [if_neg e]
      · rw [if_neg h2, if_neg (by omega)]
  · rw [List.getElem?_eq_none (by simp; omega), List.getElem?_eq_none (by simp; omega)]

def ivL (l : List Int) : List Value := l.map fun y => .int .i64 y
theorem ivL_zero (n : Nat) : ivL (List.replicate n 0) = List.replicate n (.int .i64 0) := by simp [ivL]
theorem ivL_get {l : List Int} {i : Nat} {y : Int} (h : l[i]? = some y) : (ivL l)[i]? = some (.int .i64 y) := by unfold ivL; rw [List.getElem?_map, h]; rfl
theorem ivL_set (l : List Int) (i : Nat) (y : Int) : (ivL l).set i (.int .i64 y) = ivL (l.set i y) := by unfold ivL; rw [List.map_set]

/-- Row j of the table, of which the first v are done. -/
def jumpTo (t : Tr) (m j v : Nat) : List Int := (List.range m).map fun x => if x < v then iO (pk t (2 ^ j) x) else 0
def jumpL (t : Tr) (m j : Nat) : List Int := (List.range m).map fun x => iO (pk t (2 ^ j) x)
theorem jumpTo_zero (t : Tr) (m j : Nat) : jumpTo t m j 0 = List.replicate m 0 := by
  unfold jumpTo
  rw [show (fun x => if x < 0 then iO (pk t (2 ^ j) x) else (0 : Int)) = fun _ => 0 from funext fun x => if_neg (Nat.not_lt_zero x), List.map_const', List.length_range]
theorem jumpTo_end (t : Tr) (m j : Nat) : jumpTo t m j m = jumpL t m j := List.map_congr_left fun x hx => if_pos (List.mem_range.1 hx)
theorem jumpTo_set {t : Tr} {m j v : Nat} (h : v < m) : (jumpTo t m j v).set v (iO (pk t (2 ^ j) v)) = jumpTo t m j (v + 1) := by
  unfold jumpTo
  apply List.ext_getElem?
  intro i
  by_cases hi : i < m
  · by_cases e : i = v
    · subst e
      rw [List.getElem?_set_self (by simpa using hi), List.getElem?_map, List.getElem?_range hi, Option.map_some, if_pos (by omega)]
    · rw [List.getElem?_set_ne (fun e' => e e'.symm), List.getElem?_map, List.getElem?_map, List.getElem?_range hi, Option.map_some, Option.map_some]
      by_cases h2 : i < v
      · rw [if_pos h2, if_pos (by omega)]
      · rw [if_neg h2, if_neg (by omega)]
  · rw [List.getElem?_eq_none (by simp; omega), List.getElem?_eq_none (by simp; omega)]
theorem jumpL_at {t : Tr} {m j x : Nat} (hx : x < m) : (jumpL t m j)[x]? = some (iO (pk t (2 ^ j) x)) := by
  unfold jumpL
  rw [List.getElem?_map, List.getElem?_range hx]; rfl
theorem jump_double (t : Tr) (j x : Nat) : pk t (2 ^ (j + 1)) x = (pk t (2 ^ j) x).bind (pk t (2 ^ j)) := by
  rw [show 2 ^ (j + 1) = 2 ^ j + 2 ^ j by rw [Nat.pow_succ]; omega, pk_add]

/-- The table while it is made. -/
structure LwS (w0 W : World) (t : Tr) (m db tb j : Nat) (jb : Nat → Nat) (R : Nat → List Int) : Prop where
  blk : Blk W tb 154 (tbCells m db j jb)
  dep : Blk W db 3 (natV (depL t m))
  row : ∀ q, q < j → Blk W (jb q) 3 (ivL (R q))
  bel : Below w0.heap.size w0 W
  n1 : w0.heap.size ≤ tb ∧ w0.heap.size ≤ db ∧ tb ≠ db
  n2 : ∀ q, q < j → w0.heap.size ≤ jb q ∧ jb q ≠ tb ∧ jb q ≠ db
  n3 : ∀ q r, q < j → r < j → q ≠ r → jb q ≠ jb r

theorem LwS.mod {w0 W W' : World} {t : Tr} {m db tb j : Nat} {jb : Nat → Nat} {R : Nat → List Int} (h : LwS w0 W t m db tb j jb R) (hb : Below W.heap.size W W') : LwS w0 W' t m db tb j jb R :=
  ⟨h.blk.below hb h.blk.lt, h.dep.below hb h.dep.lt, fun q hq => (h.row q hq).below hb (h.row q hq).lt, bel_then h.bel hb, h.n1, h.n2, h.n3⟩

theorem LwS.congr {w0 W : World} {t : Tr} {m db tb j : Nat} {jb : Nat → Nat} {R R' : Nat → List Int} (h : LwS w0 W t m db tb j jb R) (e : ∀ q, q < j → R q = R' q) : LwS w0 W t m db tb j jb R' :=
  ⟨h.blk, h.dep, fun q hq => by rw [← e q hq]; exact h.row q hq, h.bel, h.n1, h.n2, h.n3⟩

/-- One row more, of zeros. -/
theorem LwS.add {w0 W W' : World} {t : Tr} {m db tb j nb : Nat} {jb : Nat → Nat} {R : Nat → List Int} (h : LwS w0 W t m db tb j jb R) (hj : j < 13) (hb : Below W.heap.size W W') (hn : W.heap.size ≤ nb) (hB : Blk W' nb 3 (List.replicate m (.int .i64 0))) :
    LwS w0 (W'.setCell ⟨tb, 2 + j, none⟩ (slM m nb)) t m db tb (j + 1) (fun q => if q = j then nb else jb q) (fun q => if q = j then List.replicate m 0 else R q) := by
  have h' := h.mod hb
  have htl := h.blk.lt
  have hdl := h.dep.lt
  have hs := h.bel.size
  refine ⟨?_, h'.dep.other _ _ (fun e => h.n1.2.2 e.symm), fun q hq => ?_, ?_, h.n1, fun q hq => ?_, fun q r hq hr hne => ?_⟩
  · have := h'.blk.set (2 + j) (slM m nb)
    rw [tbCells_set hj] at this
    exact this
  · by_cases e : q = j
    · simp only [if_pos e, ivL_zero]
      exact hB.other _ _ (by show nb ≠ tb; omega)
    · simp only [if_neg e]
      exact (h'.row q (by omega)).other _ _ (h.n2 q (by omega)).2.1
  · exact bel_mod h'.bel ((Mod.refl (fun x => x = tb) W').setCell ⟨tb, 2 + j, none⟩ (fun _ => rfl) _) (fun x e => by rw [e]; exact h.n1.1)
  · by_cases e : q = j
    · simp only [if_pos e]; omega
    · simp only [if_neg e]; exact h.n2 q (by omega)
  · by_cases e : q = j
    · by_cases e2 : r = j
      · omega
      · simp only [if_pos e, if_neg e2]
        have := (h.row r (by omega)).lt
        omega
    · by_cases e2 : r = j
      · simp only [if_neg e, if_pos e2]
        have := (h.row q (by omega)).lt
        omega
      · simp only [if_neg e, if_neg e2]
        exact h.n3 q r (by omega) (by omega) hne

/-- A cell of a row is set. -/
theorem LwS.set {w0 W : World} {t : Tr} {m db tb j : Nat} {jb : Nat → Nat} {R : Nat → List Int} (h : LwS w0 W t m db tb j jb R) {q : Nat} (hq : q < j) (x : Nat) (y : Int) {R' : Nat → List Int} (h1 : R' q = (R q).set x y) (h2 : ∀ r, r < j → r ≠ q → R' r = R r) :
    LwS w0 (W.setCell ⟨jb q, x, none⟩ (.int .i64 y)) t m db tb j jb R' := by
  refine ⟨h.blk.other _ _ (fun e => (h.n2 q hq).2.1 e.symm), h.dep.other _ _ (fun e => (h.n2 q hq).2.2 e.symm), fun r hr => ?_, ?_, h.n1, h.n2, h.n3⟩
  · by_cases e : r = q
    · subst e
      rw [h1, ← ivL_set]
      exact (h.row r hr).set x _
    · rw [h2 r hr e]
      exact (h.row r hr).other _ _ (h.n3 r q hr hq e)
  · exact bel_mod h.bel ((Mod.refl (fun z => z = jb q) W).setCell ⟨jb q, x, none⟩ (fun _ => rfl) _) (fun z e => by rw [e]; exact (h.n2 q hq).1)

/-- Where a table lies. -/
structure LB where
  p : Nat
  db : Nat
  jb : Nat → Nat
/-- A table in memory. -/
structure LtObj (W : World) (B : LB) (t : Tr) (m : Nat) : Prop where
  blk : Blk W B.p 154 (tbCells m B.db 13 B.jb)
  dep : Blk W B.db 3 (natV (depL t m))
  row : ∀ q, q < 13 → Blk W (B.jb q) 3 (ivL (jumpL t m q))
theorem LtObj.below {W W' : World} {B : LB} {t : Tr} {m : Nat} (h : LtObj W B t m) (hb : Below W.heap.size W W') : LtObj W' B t m :=
  ⟨h.blk.below hb h.blk.lt, h.dep.below hb h.dep.lt, fun q hq => (h.row q hq).below hb (h.row q hq).lt⟩
theorem LtObj.c0 {W : World} {B : LB} {t : Tr} {m : Nat} (h : LtObj W B t m) : W.cell? ⟨B.p, 0, none⟩ = some (.bool true) := h.blk.cell (i := 0) rfl
theorem LtObj.c1 {W : World} {B : LB} {t : Tr} {m : Nat} (h : LtObj W B t m) : W.cell? ⟨B.p, 1, none⟩ = some (slM m B.db) := h.blk.cell (i := 1) rfl
theorem LtObj.cj {W : World} {B : LB} {t : Tr} {m : Nat} (h : LtObj W B t m) {q : Nat} (hq : q < 13) : W.cell? ⟨B.p, 2 + q, none⟩ = some (slM m (B.jb q)) := h.blk.cell (tbCells_at hq hq)
theorem LtObj.cd {W : World} {B : LB} {t : Tr} {m : Nat} (h : LtObj W B t m) {x : Nat} (hx : x < m) : W.cell? ⟨B.db, x, none⟩ = some (.int .i64 ((Proofs.YthacjealoomioaaGreatDoor.dep t m x : Nat) : Int)) := by
  have := blkN h.dep (i := x) (by simpa [depL] using hx)
  rw [depL_at hx] at this
  exact this
theorem LtObj.cx {W : World} {B : LB} {t : Tr} {m : Nat} (h : LtObj W B t m) {q x : Nat} (hq : q < 13) (hx : x < m) : W.cell? ⟨B.jb q, x, none⟩ = some (.int .i64 (iO (pk t (2 ^ q) x))) := (h.row q hq).cell (ivL_get (jumpL_at hx))

structure LnwPost (w : World) (t : Tr) (m : Nat) (e : Ending) (w' : World) : Prop where
  out : ∃ B : LB, e = .returned (.tuple #[.pointer (some ⟨B.p, 0, none⟩), .int .i64 0]) ∧ LtObj w' B t m ∧ w.heap.size ≤ B.p
  bel : Below w.heap.size w w'

set_option maxHeartbeats 8000000 in
set_option maxRecDepth 100000 in
theorem lnew_ok (w : World) (t : Tr) (n m : Nat) (ls : List Nat) (tv : TV t n m ls) (ao : Option Addr) (cap pb pf : Nat) (hp : InRow .i64 w ao m pb pf t.par) :
    Calls Tryz.prog 61 #[.slice ao m cap] w (LnwPost w t m) := by
  have hm : m ≤ 8192 := by have := tv.two; have := tv.hn; omega
  have TVH := Lib.hid tv
  have HP := Lib.hid hp
  clear tv hp
  go_enter Tryz.func61, Tryz.ntmps61
  go_wp2_with fail
  go_loopw [19] (fun s wr => ∃ i : Nat, i ≤ m ∧ s = .int .i64 i ∧ InRow .i64 wr ao m pb pf t.par ∧ Below w.heap.size w wr) (fun s _ => m - (intOf s).toNat)
  case atStart => exact ⟨0, Nat.zero_le _, rfl, HP.out, Below.refl _ _⟩
  case round =>
    obtain ⟨i, hi, rfl, hpr, hbr⟩ := hrel
    have HPR := Lib.hid hpr
    have HBR := Lib.hid hbr
    clear hpr hbr
    by_cases him : i < m
    · have ti : decide (i < m) = true := decide_eq_true him
      have ti1 : (i : Int) < (m : Int) := by omega
      have ti0 : (0 : Int) ≤ (i : Int) := by omega
      have cp := HPR.out.cell i him
      have hgi : t.par.getD i 0 = gi t.par i := rfl
      rw [hgi] at cp
      obtain rfl := HPR.out.adr (by omega)
      have hz : -1 ≤ gi t.par i ∧ gi t.par i < m := by
        rcases TVH.out.par him with e | ⟨p, e, _, _, h, _⟩ <;> omega
      clear hgi
      generalize gi t.par i = z at *
      obtain ⟨hz1, hz2⟩ := hz
      have tz1 : decide (z < -1) = false := by simp; omega
      have tz2 : decide ((m : Int) ≤ z) = false := by simp; omega
      go_wp2_with fail
      go_roundw
      case rel => exact ⟨i + 1, by omega, by go_num, HPR.out, HBR.out⟩
      case measure => simp [intOf]; omega
    · obtain rfl : m = i := by omega
      have ti : decide (m < m) = false := by simp
      go_wp2_with fail
      with_reducible refine (depths_ok wr t n m ls TVH.out ao cap pb pf HPR.out).mono ?_
      rintro e w1 ⟨⟨db, rfl, hdb, hdn⟩, hb1⟩
      have HDB := Lib.hid hdb
      have HPW := Lib.hid (HPR.out.below hb1)
      have HDN : Hid (w.heap.size ≤ db) := Nat.le_trans HBR.out.size hdn
      have HB1 := Lib.hid (bel_then HBR.out hb1)
      clear hdb hdn hb1 him HPR HBR HPW
      go_wp2_with fail
      have HL0 : Hid (LwS w (w1.alloc (.cells (tbCells m db 0 (fun _ => 0)).toArray 154)) t m db w1.heap.size 0 (fun _ => 0) (jumpL t m)) := by
        have hs := HB1.out.size
        have hl := HDB.out.lt
        exact ⟨Blk.new _ _ _, HDB.out.alloc _, fun q hq => by omega, HB1.out.alloc hs _, ⟨hs, HDN.out, by omega⟩, fun q hq => by omega, fun q r hq => by omega⟩
      clear HB1
      generalize w1.heap.size = tb at *
      have hlit : tbCells m db 0 (fun _ => 0) = [.bool true, .slice (some ⟨db, 0, none⟩) m m, .slice none 0 0, .slice none 0 0, .slice none 0 0, .slice none 0 0, .slice none 0 0, .slice none 0 0, .slice none 0 0, .slice none 0 0, .slice none 0 0, .slice none 0 0, .slice none 0 0, .slice none 0 0, .slice none 0 0] := rfl
      rw [hlit] at HL0
      clear hlit
      generalize w1.alloc (.cells [Value.bool true, .slice (some ⟨db, 0, none⟩) m m, .slice none 0 0, .slice none 0 0, .slice none 0 0, .slice none 0 0, .slice none 0 0, .slice none 0 0, .slice none 0 0, .slice none 0 0, .slice none 0 0, .slice none 0 0, .slice none 0 0, .slice none 0 0, .slice none 0 0].toArray 154) = W1 at *
      go_loopw [41] (fun s wz => ∃ j : Nat, j ≤ 13 ∧ s = .int .i64 j ∧ ∃ jb, LwS w wz t m db tb j jb (jumpL t m)) (fun s _ => 13 - (intOf s).toNat)
      case atStart => exact ⟨0, by omega, rfl, _, HL0.out⟩
      case round =>
        obtain ⟨j, hj, rfl, jb, hl⟩ := hrel
        have HL := Lib.hid hl
        clear hl HL0
        by_cases hj13 : j < 13
        · have tj : decide (j < 13) = true := decide_eq_true hj13
          have tj1 : (j : Int) < 13 := by omega
          have tj0 : (0 : Int) ≤ (j : Int) := by omega
          go_wp2_with fail
          go_cut [41] (fun s wx => s = .int .i64 j ∧ ∃ jb, LwS w wx t m db tb (j + 1) jb (fun q => if q = j then jumpTo t m j 0 else jumpL t m q))
          case first =>
            have hmk : ∀ w, (Instr.makeSlice 24 (.int .i64 (m : Int)) (.int .i64 (m : Int))).run Tryz.prog w = .ok (.slice (some ⟨w.heap.size, 0, none⟩) m m) (w.alloc (.cells (List.replicate m (Value.int .i64 0)).toArray 3)) := fun w =>
              run_makeE 24 3 (.int .i64 0) 8 Tryz.underlying24 Tryz.infoInt rfl .i64 .i64 m (by omega) (by unfold maxLen; omega) w
            have c1 := HL.out.blk.cell (tbCells_nil (Nat.le_refl j) hj13)
            have f1 := HL.out.blk.free (2 + j)
            have hlt := HL.out.blk.lt
            go_region
            all_goals go_wp2_with fail
            all_goals go_meet
            all_goals rw [← World.setCell_alloc_past _ tb (2 + j) _ hlt]
            all_goals exact ⟨rfl, _, ((HL.out.add hj13 (bel_alloc wr _) (Nat.le_refl _) (Blk.new _ _ _)).congr (fun q hq => by rw [jumpTo_zero])).mod ((Below.refl _ _).drew)⟩
          case rest =>
            obtain ⟨rfl, jb', hl⟩ := hcut
            have HLC := Lib.hid hl
            clear hl HL
            go_wp2_with fail
            go_loopw [52] (fun s wx => ∃ v : Nat, v ≤ m ∧ s = .int .i64 v ∧ LwS w wx t m db tb (j + 1) jb' (fun q => if q = j then jumpTo t m j v else jumpL t m q)) (fun s _ => m - (intOf s).toNat)
            case atStart => exact ⟨0, Nat.zero_le _, rfl, HLC.out⟩
            case round =>
              obtain ⟨v, hv, rfl, hl⟩ := hrel
              have HL := Lib.hid hl
              clear hl HLC
              by_cases hvm : v < m
              · have tv : decide (v < m) = true := decide_eq_true hvm
                have tv1 : (v : Int) < (m : Int) := by omega
                have tv0 : (0 : Int) ≤ (v : Int) := by omega
                have cj := HL.out.blk.cell (tbCells_at (q := j) (Nat.lt_succ_self j) hj13)
                have hrj := HL.out.row j (Nat.lt_succ_self j)
                rw [if_pos rfl] at hrj
                have cjv := hrj.cell (i := v) (v := .int .i64 0) (ivL_get (by rw [jumpTo, List.getElem?_map, List.getElem?_range hvm, Option.map_some, if_neg (Nat.lt_irrefl v)]))
                have fjv := hrj.free v
                have HNX : Hid (∀ y, y = iO (pk t (2 ^ j) v) → LwS w (wr.setCell ⟨jb' j, v, none⟩ (.int .i64 y)) t m db tb (j + 1) jb' (fun q => if q = j then jumpTo t m j (v + 1) else jumpL t m q)) := fun y hy =>
                  HL.out.set (q := j) (Nat.lt_succ_self j) v y (by rw [if_pos rfl, if_pos rfl, hy, jumpTo_set hvm]) (fun r hr hne => by rw [if_neg hne, if_neg hne])
                clear hrj
                rcases Nat.eq_zero_or_pos j with h0 | h0
                · have tj2 : ((j : Int) == 0) = true := by simp [h0]
                  have cp := (HP.out.below HL.out.bel).cell v hvm
                  have hgi : t.par.getD v 0 = gi t.par v := rfl
                  rw [hgi] at cp
                  obtain rfl := HP.out.adr (by omega)
                  have hpk : gi t.par v = iO (pk t (2 ^ j) v) := by rw [h0]; exact (parO_iO TVH.out hvm).symm
                  have HPK := Lib.hid hpk
                  clear h0 hgi hpk
                  generalize gi t.par v = z at *
                  go_wp2_with fail
                  refine region_tailD 12 (by kernel_rfl) (by kernel_rfl) ?_
                  intro W4 hw4
                  have HN4 := Lib.hid ((HNX.out z HPK.out))
                  replace cj := hw4.cell cj
                  replace cjv := hw4.cell cjv
                  replace fjv := hw4.frozen fjv
                  replace cp := hw4.cell cp
                  have HW4 := Lib.hid hw4
                  clear hw4 HL HNX
                  simp only [List.take_succ_cons, List.take_zero, List.drop_succ_cons, List.drop_zero]
                  repeat still_step
                  refine wpStill_nil ?_
                  have HN5 : Hid (LwS w (W4.setCell ⟨jb' j, v, none⟩ (.int .i64 z)) t m db tb (j + 1) jb' (fun q => if q = j then jumpTo t m j (v + 1) else jumpL t m q)) := by
                    have e := HW4.out
                    unfold DrewOf at e
                    subst e
                    show LwS _ _ _ _ _ _ _ _ _
                    rw [World.setCell_drew]
                    exact HN4.out.mod ((Below.refl _ _).drew)
                  clear HN4 HW4
                  go_wp2_with fail
                  go_roundw
                  case rel => exact ⟨v + 1, by omega, by go_num, HN5.out⟩
                  case measure => simp [intOf]; omega
                · obtain ⟨i, rfl⟩ : ∃ i, j = i + 1 := ⟨j - 1, by omega⟩
                  have tj2 : (((i + 1 : Nat) : Int) == 0) = false := by simp; omega
                  have tw : (0 : Int) ≤ (i : Int) := by omega
                  have tw2 : (i : Int) < 13 := by omega
                  have ci := HL.out.blk.cell (tbCells_at (q := i) (by omega) (by omega))
                  have hri := HL.out.row i (by omega)
                  rw [if_neg (by omega)] at hri
                  have civ := hri.cell (i := v) (ivL_get (jumpL_at hvm))
                  have HRI := Lib.hid hri
                  clear hri h0
                  have HJD := Lib.hid (jump_double t i v)
                  cases hpk : pk t (2 ^ i) v with
                  | none =>
                    rw [hpk] at civ HJD
                    have HV : Hid ((-1 : Int) = iO (pk t (2 ^ (i + 1)) v)) := by show _ = _; rw [HJD.out]; rfl
                    simp only [iO] at civ
                    clear hpk HJD
                    have HN4 := Lib.hid ((HNX.out _ HV.out))
                    clear HNX HL
                    go_wp2_with fail
                    go_roundw
                    case rel => exact ⟨v + 1, by omega, by go_num, HN4.out⟩
                    case measure => simp [intOf]; omega
                  | some y =>
                    rw [hpk] at civ HJD
                    have hym := (pk_is TVH.out hvm hpk).1
                    have HV : Hid (iO (pk t (2 ^ i) y) = iO (pk t (2 ^ (i + 1)) v)) := by show _ = _; rw [HJD.out]; rfl
                    have ciy := HRI.out.cell (i := y) (ivL_get (jumpL_at hym))
                    simp only [iO] at civ
                    have ty1 : (y : Int) < (m : Int) := by omega
                    have ty0 : (0 : Int) ≤ (y : Int) := by omega
                    clear hpk HJD
                    generalize iO (pk t (2 ^ i) y) = z at *
                    have HN4 := Lib.hid ((HNX.out _ HV.out))
                    clear HNX HL
                    go_wp2_with fail
                    go_roundw
                    case rel => exact ⟨v + 1, by omega, by go_num, HN4.out⟩
                    case measure => simp [intOf]; omega
              · obtain rfl : m = v := by omega
                have tv : decide (m < m) = false := by simp
                have HL2 : Hid (LwS w wr t m db tb (j + 1) jb' (jumpL t m)) := HL.out.congr (fun q hq => by
                  by_cases e : q = j
                  · rw [if_pos e, jumpTo_end, e]
                  · rw [if_neg e])
                clear HL hvm hv
                go_wp2_with fail
                go_roundw
                case rel => exact ⟨j + 1, by omega, by go_num, _, HL2.out⟩
                case measure => simp [intOf]; omega
        · obtain rfl : j = 13 := by omega
          have HR : Hid (LnwPost w t m (.returned (.tuple #[.pointer (some ⟨tb, 0, none⟩), .int .i64 0])) wr) := ⟨⟨⟨tb, db, jb⟩, rfl, ⟨HL.out.blk, HL.out.dep, HL.out.row⟩, HL.out.n1.1⟩, HL.out.bel⟩
          clear HL hj hj13
          have tj : decide ((13 : Int) < 13) = false := by decide
          go_wp2_with fail
          go_ret2
          exact HR.out

end Go.Proofs.YthacjealoomioaaGreatDoor

/- lift: ones, Len, has, Depth. -/
namespace Go.Proofs.YthacjealoomioaaGreatDoor
set_option linter.unusedVariables false
set_option linter.unusedSimpArgs false
open Go.RowKit Go.Shelf
attribute [local go_sem] Oper.semAt_some

/-- The library's table of trailing zeros. -/
def Tab64 (w : World) : Prop := TabAt 4 Lib.deBruijn64tab w
theorem Tab64.lt {w : World} (h : Tab64 w) : 4 < w.heap.size := World.block_lt_of_cell? w _ (h 0 (by decide))
theorem Tab64.below {w w' : World} (h : Tab64 w) (hb : Below w.heap.size w w') : Tab64 w' := fun j hj => (hb.cell (World.block_lt_of_cell? w _ (h j hj))).trans (h j hj)

theorem tz_ok (x : Nat) (hx : x < 18446744073709551616) (w : World) (h : Tab64 w) : Calls Tryz.prog 141 #[.int .u64 x] w (Ret (.int .i64 ((Lib.ctz 64 x : Nat) : Int)) w) :=
  (Any7.bits_TrailingZeros Tryz.tz x hx w (fun _ => h)).mono fun e w' ⟨h1, h2⟩ => ⟨h1, h2.symm⟩

theorem and_two (a b r s : Nat) (hr : r < 2) (hs : s < 2) : (2 * a + r) &&& (2 * b + s) = 2 * (a &&& b) + (r &&& s) := by
  apply Nat.eq_of_testBit_eq
  intro i
  have hrs : r &&& s < 2 := Nat.and_lt_two_pow (n := 1) r (by omega)
  cases i with
  | zero =>
    rw [Nat.testBit_and, Nat.testBit_zero, Nat.testBit_zero, Nat.testBit_zero]
    have e1 : (2 * a + r) % 2 = r := by omega
    have e2 : (2 * b + s) % 2 = s := by omega
    have e3 : (2 * (a &&& b) + (r &&& s)) % 2 = r &&& s := by omega
    rw [e1, e2, e3]
    have : r = 0 ∨ r = 1 := by omega
    have : s = 0 ∨ s = 1 := by omega
    rcases ‹r = 0 ∨ r = 1› with rfl | rfl <;> rcases ‹s = 0 ∨ s = 1› with rfl | rfl <;> rfl
  | succ i =>
    rw [Nat.testBit_and, Nat.testBit_succ, Nat.testBit_succ, Nat.testBit_succ]
    have e1 : (2 * a + r) / 2 = a := by omega
    have e2 : (2 * b + s) / 2 = b := by omega
    have e3 : (2 * (a &&& b) + (r &&& s)) / 2 = a &&& b := by omega
    rw [e1, e2, e3, Nat.testBit_and]
theorem and_dec (m : Nat) : ∀ k : Nat, (2 ^ k * (2 * m + 1)) &&& (2 ^ k * (2 * m + 1) - 1) = 2 ^ k * (2 * m)
  | 0 => by
    rw [show 2 ^ 0 * (2 * m + 1) - 1 = 2 * m + 0 by omega, show 2 ^ 0 * (2 * m + 1) = 2 * m + 1 by omega, and_two m m 1 0 (by omega) (by omega), Nat.and_self]
    simp
  | k + 1 => by
    have h : 0 < 2 ^ k * (2 * m + 1) := Nat.mul_pos (Nat.two_pow_pos k) (by omega)
    have ih := and_dec m k
    have e : 2 ^ (k + 1) * (2 * m + 1) = 2 * (2 ^ k * (2 * m + 1)) := by rw [Nat.pow_succ, Nat.mul_comm (2 ^ k) 2, Nat.mul_assoc]
    have e2 : 2 ^ (k + 1) * (2 * m) = 2 * (2 ^ k * (2 * m)) := by rw [Nat.pow_succ, Nat.mul_comm (2 ^ k) 2, Nat.mul_assoc]
    rw [e, e2, ← ih]
    generalize 2 ^ k * (2 * m + 1) = y at *
    rw [show 2 * y - 1 = 2 * (y - 1) + 1 by omega]
    have := and_two y (y - 1) 0 1 (by omega) (by omega)
    simpa using this
/-- Without its lowest bit. -/
theorem and_pred {x : Nat} (h0 : x ≠ 0) (h : x < 18446744073709551616) : x &&& (x - 1) = x - 2 ^ Lib.ctz 64 x ∧ 2 ^ Lib.ctz 64 x ≤ x := by
  obtain ⟨m, hm, hk⟩ := Lib.ctzFrom_spec 64 x (by omega) h
  have e : Lib.ctz 64 x = Lib.ctzFrom 64 x := by simp [Lib.ctz, h0]
  rw [e]
  have hd := and_dec m (Lib.ctzFrom 64 x)
  rw [← hm] at hd
  rw [hd]
  have e2 : 2 ^ Lib.ctzFrom 64 x * (2 * m + 1) = 2 ^ Lib.ctzFrom 64 x * (2 * m) + 2 ^ Lib.ctzFrom 64 x := by rw [Nat.mul_add, Nat.mul_one]
  omega
theorem ctz_lt {x : Nat} (h0 : x ≠ 0) (h : x ≤ 8191) : Lib.ctz 64 x < 13 := by
  have h1 := (and_pred h0 (by omega)).2
  apply Classical.byContradiction
  intro hc
  have : 2 ^ 13 ≤ 2 ^ Lib.ctz 64 x := Nat.pow_le_pow_right (by omega) (by omega)
  omega

set_option maxHeartbeats 1000000 in
theorem ltlen_ok (W : World) (B : LB) (t : Tr) (m : Nat) (h : LtObj W B t m) (hm : m ≤ 8192) : Calls Tryz.prog 117 #[.pointer (some ⟨B.p, 0, none⟩)] W (Ret (.int .i64 m) W) := by
  have c0 := h.c0
  have c1 := h.c1
  go_enter Tryz.func117, Tryz.ntmps117
  go_wp2
  go_ret
  exact ⟨rfl, rfl⟩

/-- Is v a node? -/
def inB (v : Int) (m : Nat) : Bool := decide (0 ≤ v) && decide (v < (m : Int))
theorem inB_nat {v m : Nat} (h : v < m) : inB v m = true := by unfold inB; simp; omega
set_option maxHeartbeats 1000000 in
theorem lthas_ok (W : World) (B : LB) (t : Tr) (m : Nat) (h : LtObj W B t m) (hm : m ≤ 8192) (v : Int) : Calls Tryz.prog 98 #[.pointer (some ⟨B.p, 0, none⟩), .int .i64 v] W (Ret (.bool (inB v m)) W) := by
  have H := Lib.hid h
  clear h
  by_cases hv : 0 ≤ v
  · have t1 : decide (0 ≤ v) = true := by simpa using hv
    have HIN : Hid (inB v m = decide (v < (m : Int))) := by show _ = _; unfold inB; rw [t1, Bool.true_and]
    go_enter Tryz.func98, Tryz.ntmps98
    go_wp2_with fail
    with_reducible refine (ltlen_ok W B t m H.out hm).mono ?_
    rintro e w1 ⟨rfl, rfl⟩
    go_wp2_with fail
    go_ret
    rw [HIN.out]
    exact ⟨rfl, rfl⟩
  · have t1 : decide (0 ≤ v) = false := by simpa using hv
    have HIN : Hid (inB v m = false) := by show _ = _; unfold inB; rw [t1, Bool.false_and]
    go_enter Tryz.func98, Tryz.ntmps98
    go_wp2_with fail
    go_ret
    rw [HIN.out]
    exact ⟨rfl, rfl⟩

set_option maxHeartbeats 1000000 in
theorem ones_any (k : Nat) (w : World) : Calls Tryz.prog 118 #[.int .i64 k] w
    (Ret (.func (.func 140) #[] #[.pointer (some ⟨w.heap.size, 0, none⟩)]) (w.alloc (.cells #[.int .i64 k] 3))) := by
  go_enter Tryz.func118, Tryz.ntmps118
  go_wp2
  go_ret
  exact ⟨rfl, rfl⟩

set_option maxHeartbeats 4000000 in
set_option maxRecDepth 100000 in
theorem ones1_in (F kb k : Nat) (hk : k ≤ 8191) (L : Nat) (I : Nat → World → Prop) (hI : ∀ x W, I x W → W.cell? ⟨kb, 0, none⟩ = some (.int .i64 k) ∧ Tab64 W) (W : World) (h : I k W)
    (hY : ∀ x W1, x ≠ 0 → x ≤ k → I x W1 → YieldAt Fence.wide (F - 1) Tryz.prog L #[.int .i64 ((Lib.ctz 64 x : Nat) : Int)] W1 fun e W' => e = .returned (.bool true) ∧ I (x - 2 ^ Lib.ctz 64 x) W') :
    CallsIn Fence.wide F Tryz.prog 140 #[.func (.yield L) #[] #[], .pointer (some ⟨kb, 0, none⟩)] W
      fun e W' => (∃ v, e = .returned v) ∧ I 0 W' := by
  have H := Lib.hid h
  have HY := Lib.hid hY
  have HI := Lib.hid hI
  have c0 := (hI _ _ h).1
  have hw : IntKind.u64.wrap (k : Int) = (k : Int) := by rw [IntKind.wrap_u64]; omega
  clear h hY hI
  refine callsIn_of_wp Tryz.func140 rfl trivial ?_ rfl
  simp only [Tryz.ntmps140, List.size_toArray, List.length_cons, List.length_nil, Nat.reduceAdd, Nat.reduceSub, Array.replicate_succ, Array.replicate_zero, List.push_toArray, List.append_toArray, List.nil_append, List.cons_append]
  gi_wp2_with fail
  clear c0
  gi_loopw [3] (fun s wr => ∃ x : Nat, x ≤ k ∧ s = .int .u64 x ∧ I x wr) (fun s _ => (intOf s).toNat)
  case atStart => exact ⟨k, Nat.le_refl _, rfl, H.out⟩
  case round =>
    obtain ⟨x, hx, rfl, hi⟩ := hrel
    have HA := Lib.hid hi
    clear hi H hw
    by_cases h0 : x = 0
    · have t1 : ((x : Int) != 0) = false := by simp [h0]
      have HA0 : Hid (I 0 wr) := by rw [← h0]; exact HA.out
      clear h0
      gi_wp2_with fail
      exact ⟨rfl, _, results_none rfl _ _ _, ⟨_, rfl⟩, HA0.out⟩
    · have t1 : ((x : Int) != 0) = true := by simp [h0]
      obtain ⟨hp1, hp2⟩ := and_pred h0 (by omega)
      have HT := Lib.hid (HI.out _ _ HA.out).2
      have hsub : IntKind.u64.wrap ((x : Int) - 1) = ((x - 1 : Nat) : Int) := by rw [IntKind.wrap_u64]; omega
      have hand : bits .and .u64 (x : Int) ((x - 1 : Nat) : Int) = ((x - 2 ^ Lib.ctz 64 x : Nat) : Int) := by rw [bits_and_u64_nat x (x - 1) (by omega) (by omega), hp1]
      obtain ⟨fn, tmps, assign, body, hy, hR⟩ := HY.out x wr h0 hx HA.out
      have HR := Lib.hid hR
      clear hR hp1
      generalize hd : x - 2 ^ Lib.ctz 64 x = x' at *
      have hlt : x' < x := by have := Nat.two_pow_pos (Lib.ctz 64 x); omega
      clear hp2 h0
      gi_wp2_with fail
      refine ⟨trivial, fun h => by simp [Fence.wide] at h, CallsIn.mono (callsIn_wide.2 (tz_ok x (by omega) wr HT.out)) ?_⟩
      rintro e w5 ⟨rfl, rfl⟩
      gi_wp2_with fail
      refine ⟨fun h => by simp [Fence.wide] at h, HR.out.mono ?_⟩
      rintro e w5 ⟨rfl, hi5⟩
      have HI5 := Lib.hid hi5
      clear hi5 hy
      gi_wp2_with fail
      go_roundw
      case rel => exact ⟨x', by omega, rfl, HI5.out⟩
      case measure => simp only [intOf]; omega

end Go.Proofs.YthacjealoomioaaGreatDoor

/- lift.Up, Root. -/
namespace Go.Proofs.YthacjealoomioaaGreatDoor
set_option linter.unusedVariables false
set_option linter.unusedSimpArgs false
open Go.RowKit Go.Shelf
attribute [local go_sem] Oper.semAt_some

/-- The blocks of a table. -/
def LB.mem (B : LB) (x : Nat) : Prop := x = B.p ∨ x = B.db ∨ ∃ q, q < 13 ∧ x = B.jb q
theorem LtObj.lt {W : World} {B : LB} {t : Tr} {m : Nat} (h : LtObj W B t m) {x : Nat} (hx : B.mem x) : x < W.heap.size := by
  rcases hx with rfl | rfl | ⟨q, hq, rfl⟩
  · exact h.blk.lt
  · exact h.dep.lt
  · exact (h.row q hq).lt
theorem LtObj.mod {F : Nat → Prop} {W W' : World} {B : LB} {t : Tr} {m : Nat} (h : LtObj W B t m) (hm : Mod F W W') (hF : ∀ x, B.mem x → ¬ F x) : LtObj W' B t m :=
  ⟨h.blk.mod hm (hF _ (.inl rfl)), h.dep.mod hm (hF _ (.inr (.inl rfl))), fun q hq => (h.row q hq).mod hm (hF _ (.inr (.inr ⟨q, hq, rfl⟩)))⟩
theorem Tab64.mod {F : Nat → Prop} {w w' : World} (h : Tab64 w) (hm : Mod F w w') (hF : ¬ F 4) : Tab64 w' := fun j hj => (hm.cell (World.block_lt_of_cell? w _ (h j hj)) hF).trans (h j hj)

/-- While the powers of two are gone over: x is left. -/
structure UpI (w : World) (B : LB) (t : Tr) (m pb vb kb L D k v x : Nat) (r : Loop) (W : World) : Prop where
  ob : LtObj W B t m
  tab : Tab64 W
  xt : Blk W pb 106 [.pointer (some ⟨B.p, 0, none⟩)]
  xv : ∃ y, pk t (k - x) v = some y ∧ Blk W vb 3 [.int .i64 (y : Int)]
  xk : Blk W kb 3 [.int .i64 (k : Int)]
  lp : W.heap[L]? = some (.loop r)
  df : W.heap[D]? = some (.deferred (some []))
  bel : Below w.heap.size w W
  n1 : w.heap.size ≤ pb ∧ w.heap.size ≤ vb ∧ w.heap.size ≤ kb ∧ w.heap.size ≤ L ∧ vb ≠ pb ∧ vb ≠ kb
  n2 : (∀ y, B.mem y → y < w.heap.size) ∧ 4 < w.heap.size

theorem UpI.turn {w : World} {B : LB} {t : Tr} {m pb vb kb L D k v x : Nat} {r : Loop} {W : World} (h : UpI w B t m pb vb kb L D k v x r W) (r' : Loop) : UpI w B t m pb vb kb L D k v x r' (W.putObj L (.loop r')) := by
  have hm : Mod (fun k => k = L) W (W.putObj L (.loop r')) := (Mod.refl _ _).putObj _ _ (fun _ => rfl)
  have hl := (Array.getElem?_eq_some_iff.1 h.lp).1
  have hdl : D ≠ L := fun e => by have h1 := h.df; rw [e, h.lp] at h1; cases h1
  obtain ⟨y, hy1, hy2⟩ := h.xv
  have h4 := h.n1.2.2.2.1
  refine ⟨h.ob.mod hm (fun x hx e => by have := h.n2.1 x hx; omega), h.tab.mod hm (fun e => by have := h.n2.2; omega), h.xt.mod hm (Blk.ne_obj h.xt h.lp rfl), ⟨y, hy1, hy2.mod hm (Blk.ne_obj hy2 h.lp rfl)⟩, h.xk.mod hm (Blk.ne_obj h.xk h.lp rfl), ?_, ?_, bel_mod h.bel hm (fun x e => by rw [e]; exact h4), h.n1, h.n2⟩
  · simp [World.putObj, hl]
  · rw [hm.block D (Array.getElem?_eq_some_iff.1 h.df).1 hdl]; exact h.df

theorem UpI.step {w : World} {B : LB} {t : Tr} {m pb vb kb L D k v x x' y : Nat} {r : Loop} {W : World} (h : UpI w B t m pb vb kb L D k v x r W) (hy : pk t (k - x') v = some y) : UpI w B t m pb vb kb L D k v x' r (W.setCell ⟨vb, 0, none⟩ (.int .i64 (y : Int))) := by
  have hm : Mod (fun k => k = vb) W (W.setCell ⟨vb, 0, none⟩ (.int .i64 (y : Int))) := (Mod.refl (fun k => k = vb) W).setCell ⟨vb, 0, none⟩ (fun _ => rfl) _
  obtain ⟨y0, hy1, hy2⟩ := h.xv
  obtain ⟨a1, a2, a3, a4, a5, a6⟩ := h.n1
  have hl := Blk.ne_obj hy2 h.lp rfl
  have hd := Blk.ne_obj hy2 h.df rfl
  refine ⟨h.ob.mod hm (fun x hx e => by have := h.n2.1 x hx; omega), h.tab.mod hm (fun e => by have := h.n2.2; omega), h.xt.mod hm (fun e => a5 e.symm), ⟨y, hy, hy2.set 0 _⟩, h.xk.mod hm (fun e => a6 e.symm), ?_, ?_, bel_mod h.bel hm (fun x e => by rw [e]; exact a2), h.n1, h.n2⟩
  · rw [hm.block L (Array.getElem?_eq_some_iff.1 h.lp).1 (fun e => hl e.symm)]; exact h.lp
  · rw [hm.block D (Array.getElem?_eq_some_iff.1 h.df).1 (fun e => hd e.symm)]; exact h.df
theorem UpI.drew {w : World} {B : LB} {t : Tr} {m pb vb kb L D k v x : Nat} {r : Loop} {W W2 : World} (h : UpI w B t m pb vb kb L D k v x r W) (hd : DrewOf W W2) : UpI w B t m pb vb kb L D k v x r W2 := by
  unfold DrewOf at hd
  subst hd
  exact ⟨h.ob.below ((Below.refl _ _).drew), h.tab.below ((Below.refl _ _).drew), h.xt, h.xv, h.xk, h.lp, h.df, h.bel.drew, h.n1, h.n2⟩

set_option maxHeartbeats 4000000 in
set_option maxRecDepth 100000 in
theorem up_ok (w : World) (B : LB) (t : Tr) (n m : Nat) (ls : List Nat) (tv : TV t n m ls) (hB : LtObj w B t m) (hT : Tab64 w) (v k y : Nat) (hv : v < m) (hk : k ≤ dep t m v) (hy : pk t k v = some y) :
    Calls Tryz.prog 99 #[.pointer (some ⟨B.p, 0, none⟩), .int .i64 v, .int .i64 k] w (RetB (.tuple #[.int .i64 (y : Int), .bool true]) w) := by
  refine (callsIn_wide (n := 3)).1 ?_
  have hm : m ≤ 8192 := by have := tv.two; have := tv.hn; omega
  have hdl := dep_lt tv v hv
  have TVH := Lib.hid tv
  have HB := Lib.hid hB
  have HT := Lib.hid hT
  have HY := Lib.hid hy
  have HK := Lib.hid hk
  have HIN := Lib.hid (inB_nat hv)
  have HLT : Hid (∀ x, B.mem x → x < w.heap.size) := fun x hx => hB.lt hx
  have HGT := Lib.hid hT.lt
  have c1 := hB.c1
  have cd := hB.cd hv
  have t1 : decide ((k : Int) < 0) = false := by simp
  have t2 : decide (dep t m v < k) = false := by simp; omega
  have t3 : (v : Int) < (m : Int) := by omega
  have t4 : (0 : Int) ≤ (v : Int) := by omega
  have hk2 : k ≤ 8191 := by omega
  clear tv hB hT hy hk
  refine callsIn_of_wp_marks Tryz.func99 rfl trivial ?_ rfl
  simp only [Tryz.ntmps99, List.size_toArray, List.length_cons, List.length_nil, Nat.reduceAdd, Nat.reduceSub, Array.replicate_succ, Array.replicate_zero, List.push_toArray, List.append_toArray, List.nil_append, List.cons_append]
  refine wpIn_wide.2 ?_
  have hbw : Below w.heap.size w ((w.alloc (.cells #[.pointer (some ⟨B.p, 0, none⟩)] 106)).alloc (.cells #[.int .i64 v] 3)) := ((Below.refl _ _).alloc (Nat.le_refl _) _).alloc (by simp) _
  have HBW := Lib.hid hbw
  have HB1 := Lib.hid (HB.out.below hbw)
  have HT1 := Lib.hid (HT.out.below hbw)
  have HX1 : Hid (Blk ((w.alloc (.cells #[.pointer (some ⟨B.p, 0, none⟩)] 106)).alloc (.cells #[.int .i64 v] 3)) w.heap.size 106 [.pointer (some ⟨B.p, 0, none⟩)]) := (Blk.new _ _ _).alloc _
  have HV1 : Hid (Blk ((w.alloc (.cells #[.pointer (some ⟨B.p, 0, none⟩)] 106)).alloc (.cells #[.int .i64 v] 3)) (w.heap.size + 1) 3 [.int .i64 v]) := Blk.new' _ _ _ (by simp)
  clear c1 cd hbw
  go_wp2_with fail
  generalize (w.alloc (.cells #[.pointer (some ⟨B.p, 0, none⟩)] 106)).alloc (.cells #[.int .i64 v] 3) = W1 at *
  have c1 := HB1.out.c1
  have cd := HB1.out.cd hv
  have cx := HX1.out.cell (i := 0) rfl
  have cv := HV1.out.cell (i := 0) rfl
  have HHA : Hid (∀ nq, Calls Tryz.prog 98 #[.pointer (some ⟨B.p, 0, none⟩), .int .i64 v] (W1.drewN nq) (fun e w' => e = .returned (.bool true) ∧ w' = W1.drewN nq)) := fun nq => by
    have := Ret.still (lthas_ok (W1.drewN nq) B t m (HB1.out.below (bel_drewN (Below.refl _ _) nq)) hm v)
    rw [HIN.out] at this
    exact this
  clear cd
  have cd := HB1.out.cd hv
  go_quiet ((go_at_call 98; exact Calls.quiet_of_same (HHA.out _)))
  go_wp2_with fail
  have HB2 := Lib.hid (HB1.out.below (bel_drewN (Below.refl W1.heap.size W1) nq))
  have HT2 := Lib.hid (HT1.out.below (bel_drewN (Below.refl W1.heap.size W1) nq))
  have HX2 : Hid (Blk (W1.drewN nq) w.heap.size 106 [.pointer (some ⟨B.p, 0, none⟩)]) := HX1.out
  have HV2 : Hid (Blk (W1.drewN nq) (w.heap.size + 1) 3 [.int .i64 v]) := HV1.out
  have HBW2 : Hid (Below w.heap.size w (W1.drewN nq)) := bel_drewN HBW.out nq
  clear HB1 HT1 HX1 HV1 HBW HHA c1 cd cx cv
  generalize W1.drewN nq = W2 at *
  with_reducible refine (ones_any k W2).mono ?_
  rintro e w3 ⟨rfl, rfl⟩
  go_wp2_with fail
  refine (wpIn_wide (n := 3)).1 ?_
  have hsz : w.heap.size + 1 < W2.heap.size := HV2.out.lt
  have HINV : Hid (∀ r : Loop, UpI w B t m w.heap.size (w.heap.size + 1) W2.heap.size (W2.heap.size + 1 + 1) (W2.heap.size + 1) k v k r (((W2.alloc (.cells #[.int .i64 k] 3)).alloc (.deferred (some []))).alloc (.loop r))) := by
    intro r
    have hbb : Below W2.heap.size W2 (((W2.alloc (.cells #[.int .i64 k] 3)).alloc (.deferred (some []))).alloc (.loop r)) := (((bel_alloc W2 _).alloc (by simp) _).alloc (by simp; omega) _)
    refine ⟨HB2.out.below hbb, HT2.out.below hbb, HX2.out.below hbb HX2.out.lt, ⟨v, by rw [Nat.sub_self]; rfl, HV2.out.below hbb HV2.out.lt⟩, ((Blk.new W2 _ [_]).alloc _).alloc _, ?_, ?_, bel_then HBW2.out hbb, ⟨by omega, by omega, by omega, by omega, by omega, by omega⟩, HLT.out, HGT.out⟩
    · have := World.alloc_heap_new ((W2.alloc (.cells #[.int .i64 k] 3)).alloc (.deferred (some []))) (.loop r)
      simpa using this
    · rw [Below.heap_alloc _ _ _ (by simp)]
      have := World.alloc_heap_new (W2.alloc (.cells #[.int .i64 k] 3)) (.deferred (some []))
      simpa using this
  clear HB2 HT2 HX2 HV2
  refine wp_range (gf := 140) (lb := #[.pointer (some ⟨W2.heap.size, 0, none⟩)]) rfl (enters_of Tryz.func140 (by kernel_rfl) rfl)
    (fun W3 => ∃ r, UpI w B t m w.heap.size (w.heap.size + 1) W2.heap.size (W2.heap.size + 1 + 1) (W2.heap.size + 1) k v 0 r W3) ?call ?done
  case call =>
    intro fn
    simp only [World.size_alloc, List.append_toArray, List.cons_append, List.nil_append]
    refine CallsIn.mono (ones1_in 2 W2.heap.size k hk2 (W2.heap.size + 1 + 1) (fun x X => x ≤ k ∧ UpI w B t m w.heap.size (w.heap.size + 1) W2.heap.size (W2.heap.size + 1 + 1) (W2.heap.size + 1) k v x _ X) ?_ _ ⟨Nat.le_refl _, HINV.out _⟩ ?_) ?_
    · rintro x X ⟨_, hX⟩
      exact ⟨hX.xk.cell (i := 0) rfl, hX.tab⟩
    · rintro x X hx0 hxk ⟨_, hX⟩
      refine yieldAt_of hX.lp rfl ?a1 ?asg ?bd
      case asg =>
        intro K hK
        gi_wp2
        exact hK
      case bd =>
        intro r rb Wb hr hWb
        rw [hr] at hX ⊢
        have hX2 := hX.turn rb
        rw [← hWb] at hX2
        clear hX hWb hr
        have HX := Lib.hid hX2
        clear hX2
        obtain ⟨hp1, hp2⟩ := and_pred hx0 (by omega)
        have hj := ctz_lt hx0 (by omega)
        obtain ⟨y0, hy0, hb0⟩ := HX.out.xv
        obtain ⟨y1, hy1, _⟩ := pk_some TVH.out hv (k := k - (x - 2 ^ Lib.ctz 64 x)) (by have := HK.out; omega)
        obtain ⟨hy0m, _⟩ := pk_is TVH.out hv hy0
        have hst : pk t (2 ^ Lib.ctz 64 x) y0 = some y1 := by
          have e : k - (x - 2 ^ Lib.ctz 64 x) = (k - x) + 2 ^ Lib.ctz 64 x := by
            clear hy1
            generalize 2 ^ Lib.ctz 64 x = q at *
            omega
          rw [e, pk_add, hy0] at hy1
          exact hy1
        have HST := Lib.hid (HX.out.step hy1)
        have cx := HX.out.xt.cell (i := 0) rfl
        have cv := hb0.cell (i := 0) rfl
        have fv := hb0.free 0
        have cj := HX.out.ob.cj hj
        have cc := HX.out.ob.cx hj hy0m
        rw [hst] at cc
        simp only [iO] at cc
        generalize Lib.ctz 64 x = j at *
        have hle : x - 2 ^ j ≤ k := Nat.le_trans (Nat.sub_le _ _) hxk
        have tj1 : (j : Int) < 13 := by omega
        have tj0 : (0 : Int) ≤ (j : Int) := by omega
        have ty1 : (y0 : Int) < (m : Int) := by omega
        have ty0 : (0 : Int) ≤ (y0 : Int) := by omega
        clear hp1 hp2 hy0 hy1 hst hb0 hx0
        gi_wp2_with fail
        refine region_tailIn 9 (by kernel_rfl) (by kernel_rfl) (by kernel_rfl) ?_
        intro W6 hw6
        have HS6 : Hid (UpI w B t m w.heap.size (w.heap.size + 1) W2.heap.size (W2.heap.size + 1 + 1) (W2.heap.size + 1) k v (x - 2 ^ j) rb (W6.setCell ⟨w.heap.size + 1, 0, none⟩ (.int .i64 (y1 : Int)))) := by
          have e := hw6
          unfold DrewOf at e
          subst e
          show UpI _ _ _ _ _ _ _ _ _ _ _ _ _ _
          rw [World.setCell_drew]
          exact HST.out.drew rfl
        replace cx := hw6.cell cx
        replace cv := hw6.cell cv
        replace fv := hw6.frozen fv
        replace cj := hw6.cell cj
        replace cc := hw6.cell cc
        clear hw6 HST HX
        simp only [List.take_succ_cons, List.take_zero, List.drop_succ_cons, List.drop_zero]
        repeat still_step
        refine wpStill_nil ?_
        go_wp2_with fail
        refine ⟨rfl, ?_⟩
        gi_wp2_with fail
        exact ⟨HS6.out.lp, rfl, hle, HS6.out.turn r⟩
    · rintro e W3 ⟨hv, _, hi⟩
      exact ⟨hv, hi.lp, hi.df, _, hi⟩
  case done =>
    rintro W3 r' ⟨r, hi⟩
    simp only [World.size_alloc]
    have hi3 := hi.turn r'
    generalize World.putObj W3 _ _ = W4 at hi3 ⊢
    clear hi
    have HI := Lib.hid hi3
    clear hi3
    obtain ⟨y', hy1, hy2⟩ := HI.out.xv
    rw [Nat.sub_zero, HY.out] at hy1
    injection hy1 with hy1
    subst hy1
    have cv := hy2.cell (i := 0) rfl
    have HDF := Lib.hid HI.out.df
    have HBE := Lib.hid HI.out.bel
    have hDn : Hid (w.heap.size ≤ W2.heap.size + 1) := by show _ ≤ _; omega
    clear hy2
    go_wp2_with fail
    refine ⟨by simp, .inl ⟨_, _, rfl, run_takeDeferred HDF.out, ?_⟩⟩
    refine ⟨_, results_tmp2 rfl _ _ _, ?_⟩
    exact ⟨rfl, bel_mod HBE.out ((Mod.refl (fun x => x = W2.heap.size + 1) W4).putObj (W2.heap.size + 1) (.deferred none) (fun _ => rfl)) (fun x e => by rw [e]; exact hDn.out)⟩

end Go.Proofs.YthacjealoomioaaGreatDoor

/- lift.Root, Common. -/
namespace Go.Proofs.YthacjealoomioaaGreatDoor
set_option linter.unusedVariables false
set_option linter.unusedSimpArgs false
open Go.RowKit

/-- While the common ancestor of a and b (of one depth) is sought: s steps are made. -/
structure CmI (t : Tr) (m a b q s x y : Nat) : Prop where
  ea : pk t s a = some x
  eb : pk t s b = some y
  ne : x ≠ y
  nx : pk t (s + 2 ^ q) a = pk t (s + 2 ^ q) b
theorem CmI.start {t : Tr} {n m : Nat} {ls : List Nat} (h : TV t n m ls) {a b : Nat} (ha : a < m) (hb : b < m) (hm : m ≤ 8192) (hne : a ≠ b) : CmI t m a b 13 0 a b := by
  have h1 := dep_lt h a ha
  have h2 := dep_lt h b hb
  refine ⟨rfl, rfl, hne, ?_⟩
  rw [pk_none h ha (by omega), pk_none h hb (by omega)]
theorem CmI.same {t : Tr} {m a b i s x y : Nat} (h : CmI t m a b (i + 1) s x y) (e : pk t (2 ^ i) x = pk t (2 ^ i) y) : CmI t m a b i s x y :=
  ⟨h.ea, h.eb, h.ne, by rw [pk_add, pk_add, h.ea, h.eb]; exact e⟩
theorem CmI.diff {t : Tr} {n m : Nat} {ls : List Nat} (hv : TV t n m ls) {a b i s x y : Nat} (ha : a < m) (hb : b < m) (hd : dep t m a = dep t m b) (h : CmI t m a b (i + 1) s x y) (e : pk t (2 ^ i) x ≠ pk t (2 ^ i) y) :
    ∃ x' y', pk t (2 ^ i) x = some x' ∧ pk t (2 ^ i) y = some y' ∧ CmI t m a b i (s + 2 ^ i) x' y' := by
  obtain ⟨hx, hx2, _⟩ := pk_is hv ha h.ea
  obtain ⟨hy, hy2, _⟩ := pk_is hv hb h.eb
  have hdd : dep t m x = dep t m y := by omega
  by_cases hk : 2 ^ i ≤ dep t m x
  · obtain ⟨x', ex, _⟩ := pk_some hv hx hk
    obtain ⟨y', ey, _⟩ := pk_some hv hy (hdd ▸ hk)
    refine ⟨x', y', ex, ey, ⟨by rw [pk_add, h.ea]; exact ex, by rw [pk_add, h.eb]; exact ey, fun e2 => e (by rw [ex, ey, e2]), ?_⟩⟩
    rw [show s + 2 ^ i + 2 ^ i = s + 2 ^ (i + 1) by rw [Nat.pow_succ]; omega]
    exact h.nx
  · exact absurd (by rw [pk_none hv hx (by omega), pk_none hv hy (by omega)]) e
theorem CmI.done {t : Tr} {n m : Nat} {ls : List Nat} (hv : TV t n m ls) {a b s x y : Nat} (ha : a < m) (hb : b < m) (hd : dep t m a = dep t m b) (h : CmI t m a b 0 s x y) : comV t m a b = parO t x := by
  refine com_of hv ha hb hd h.ea h.eb h.ne ?_
  have := h.nx
  rw [pk_add, pk_add, h.ea, h.eb] at this
  exact this

/-- What Common returns. -/
def comR (o : Option Nat) : Value := .tuple #[.int .i64 ((o.getD 0 : Nat) : Int), .bool o.isSome]

theorem up_int (w : World) (B : LB) (t : Tr) (n m : Nat) (ls : List Nat) (tv : TV t n m ls) (hB : LtObj w B t m) (hT : Tab64 w) (v k y : Nat) (hv : v < m) (hk : k ≤ dep t m v) (hy : pk t k v = some y) (kk : Int) (e : kk = (k : Int)) :
    Calls Tryz.prog 99 #[.pointer (some ⟨B.p, 0, none⟩), .int .i64 v, .int .i64 kk] w (RetB (.tuple #[.int .i64 (y : Int), .bool true]) w) := by
  subst e
  exact up_ok w B t n m ls tv hB hT v k y hv hk hy

set_option maxHeartbeats 8000000 in
set_option maxRecDepth 100000 in
theorem common_ok (w : World) (B : LB) (t : Tr) (n m : Nat) (ls : List Nat) (tv : TV t n m ls) (hB : LtObj w B t m) (hT : Tab64 w) (a b : Nat) (ha : a < m) (hb : b < m) :
    Calls Tryz.prog 62 #[.pointer (some ⟨B.p, 0, none⟩), .int .i64 a, .int .i64 b] w (RetB (comR (comV t m a b)) w) := by
  have hm : m ≤ 8192 := by have := tv.two; have := tv.hn; omega
  have TVH := Lib.hid tv
  have HB := Lib.hid hB
  have HT := Lib.hid hT
  have IA := Lib.hid (inB_nat ha)
  have IB := Lib.hid (inB_nat hb)
  have ca := hB.cd ha
  have cb := hB.cd hb
  have c1 := hB.c1
  have hla := dep_lt tv a ha
  have hlb := dep_lt tv b hb
  obtain ⟨da, hda⟩ : ∃ d, dep t m a = d := ⟨_, rfl⟩
  obtain ⟨db, hdb⟩ : ∃ d, dep t m b = d := ⟨_, rfl⟩
  have HDA := Lib.hid hda
  have HDB := Lib.hid hdb
  rw [hda] at ca hla
  rw [hdb] at cb hlb
  obtain ⟨L, hL⟩ : ∃ L, min da db = L := ⟨_, rfl⟩
  have hL1 : L ≤ da := by omega
  have hL2 : L ≤ db := by omega
  have HLM := Lib.hid hL
  obtain ⟨a', ea, ha', hda', _⟩ := pk_some tv ha (k := da - L) (by rw [hda]; omega)
  obtain ⟨b', eb, hb', hdb', _⟩ := pk_some tv hb (k := db - L) (by rw [hdb]; omega)
  rw [hda] at hda'
  rw [hdb] at hdb'
  have HD : Hid (dep t m a' = dep t m b') := by show _ = _; omega
  have HCV : Hid (comV t m a b = comV t m a' b') := com_lift tv ha hb ea eb HD.out (by omega)
  have HEA := Lib.hid ea
  have HEB := Lib.hid eb
  have hmin : ∀ w, (Builtin.min_ #[3, 3] 3 #[Value.int IntKind.i64 (da : Int), .int .i64 (db : Int)]).run Tryz.prog w = .ok (.int .i64 (L : Int)) w := fun w => by
    rw [run_minI, show min (da : Int) (db : Int) = (L : Int) by omega]
  have ta1 : (a : Int) < (m : Int) := by omega
  have ta0 : (0 : Int) ≤ (a : Int) := by omega
  have tb1 : (b : Int) < (m : Int) := by omega
  have tb0 : (0 : Int) ≤ (b : Int) := by omega
  clear tv hB hT hda hdb hL ea eb hda' hdb'
  go_enter Tryz.func62, Tryz.ntmps62
  go_wp2_with fail
  with_reducible refine (lthas_ok w B t m HB.out hm a).mono ?_
  rintro e w1 ⟨rfl, rfl⟩
  rw [IA.out]
  go_wp2_with fail
  with_reducible refine (lthas_ok w B t m HB.out hm b).mono ?_
  rintro e w1 ⟨rfl, rfl⟩
  rw [IB.out]
  go_wp2_with fail
  go_quiet (fail)
  go_wp2_with fail
  have HW1 : Hid (Below w.heap.size w (w.drewN nq)) := bel_drewN (Below.refl _ _) nq
  have HB1 := Lib.hid (HB.out.below HW1.out)
  have HT1 := Lib.hid (HT.out.below HW1.out)
  clear ca cb c1 hmin HB HT
  generalize w.drewN nq = W1 at *
  with_reducible refine (up_int W1 B t n m ls TVH.out HB1.out HT1.out a (da - L) a' ha (by rw [HDA.out]; omega) HEA.out _ (by omega)).mono ?_
  rintro e w2 ⟨rfl, hb2⟩
  have HW2 := Lib.hid (bel_then HW1.out hb2)
  have HB2 := Lib.hid (HB1.out.below hb2)
  have HT2 := Lib.hid (HT1.out.below hb2)
  clear hb2 HB1 HT1 HW1
  have c1 := HB2.out.c1
  have cb := HB2.out.cd hb
  rw [HDB.out] at cb
  go_wp2_with fail
  with_reducible refine (up_int w2 B t n m ls TVH.out HB2.out HT2.out b (db - L) b' hb (by rw [HDB.out]; omega) HEB.out _ (by omega)).mono ?_
  rintro e w3 ⟨rfl, hb3⟩
  have HW3 := Lib.hid (bel_then HW2.out hb3)
  have HB3 := Lib.hid (HB2.out.below hb3)
  clear hb3 HB2 HT2 HW2 c1 cb
  by_cases hab : a' = b'
  · have t1 : ((a' : Int) == (b' : Int)) = true := by simp [hab]
    have HR : Hid (comR (comV t m a b) = .tuple #[.int .i64 (a' : Int), .bool true]) := by
      show _ = _
      rw [HCV.out, ← hab, com_self TVH.out ha']
      rfl
    clear hab
    go_wp2_with fail
    go_ret2
    exact ⟨by rw [HR.out]; rfl, HW3.out⟩
  · have t1 : ((a' : Int) == (b' : Int)) = false := by simp; omega
    have HS := Lib.hid (CmI.start TVH.out ha' hb' hm hab)
    clear hab
    go_wp2_with fail
    go_loopw [1, 2, 9] (fun s1 s2 s9 wz => ∃ q s x y : Nat, q ≤ 13 ∧ s9 = .int .i64 ((q : Int) - 1) ∧ s1 = .int .i64 x ∧ s2 = .int .i64 y ∧ CmI t m a' b' q s x y ∧ Below w3.heap.size w3 wz) (fun _ _ s9 _ => (intOf s9 + 1).toNat)
    case atStart => exact ⟨13, 0, a', b', Nat.le_refl _, rfl, rfl, rfl, HS.out, Below.refl _ _⟩
    case round =>
      obtain ⟨q, s, x, y, hq, rfl, rfl, rfl, hc, hbz⟩ := hrel
      have HC := Lib.hid hc
      have HBZ := Lib.hid hbz
      have HBW := Lib.hid (HB3.out.below hbz)
      have HWW := Lib.hid (bel_then HW3.out hbz)
      have hxm := (pk_is TVH.out ha' hc.ea).1
      have hym := (pk_is TVH.out hb' hc.eb).1
      have tx1 : (x : Int) < (m : Int) := by omega
      have tx0 : (0 : Int) ≤ (x : Int) := by omega
      have ty1 : (y : Int) < (m : Int) := by omega
      have ty0 : (0 : Int) ≤ (y : Int) := by omega
      clear hc hbz
      cases q with
      | zero =>
        have HPO := Lib.hid (HC.out.done TVH.out ha' hb' HD.out)
        have c2 := HBW.out.cj (q := 0) (by omega)
        have cc := HBW.out.cx (q := 0) (by omega) hxm
        have e0 : pk t (2 ^ 0) x = parO t x := rfl
        rw [e0] at cc
        have c2' : wr.cell? ⟨B.p, 2, none⟩ = some (slM m (B.jb 0)) := c2
        clear HC e0 c2
        cases hpo : parO t x with
        | none =>
          have HR : Hid (comR (comV t m a b) = .tuple #[.int .i64 0, .bool false]) := by
            show _ = _
            rw [HCV.out, HPO.out, hpo]
            rfl
          rw [hpo] at cc
          simp only [iO] at cc
          clear hpo HPO
          go_wp2_with fail
          go_ret2
          exact ⟨by rw [HR.out]; rfl, HWW.out⟩
        | some c =>
          have HR : Hid (comR (comV t m a b) = .tuple #[.int .i64 (c : Int), .bool true]) := by
            show _ = _
            rw [HCV.out, HPO.out, hpo]
            rfl
          rw [hpo] at cc
          simp only [iO] at cc
          clear hpo HPO
          go_wp2_with fail
          go_ret2
          exact ⟨by rw [HR.out]; rfl, HWW.out⟩
      | succ i =>
        have hi13 : i < 13 := by omega
        have c2 := HBW.out.cj hi13
        have cx := HBW.out.cx hi13 hxm
        have cy := HBW.out.cx hi13 hym
        have ti0 : (0 : Int) ≤ (i : Int) := by omega
        have ti1 : (i : Int) < 13 := by omega
        rw [show ((i + 1 : Nat) : Int) - 1 = (i : Int) by omega]
        by_cases he : pk t (2 ^ i) x = pk t (2 ^ i) y
        · have HC2 := Lib.hid (HC.out.same he)
          rw [he] at cx
          generalize iO (pk t (2 ^ i) y) = z at *
          have tz : ((z : Int) != z) = false := by simp
          clear he HC
          go_wp2_with fail
          go_quiet (fail)
          go_wp2_with fail
          go_roundw
          case rel => exact ⟨i, s, x, y, by omega, rfl, rfl, rfl, HC2.out, bel_drewN HBZ.out _⟩
          case measure => simp [intOf]
        · obtain ⟨x', y', ex, ey, hc2⟩ := HC.out.diff TVH.out ha' hb' HD.out he
          have HC2 := Lib.hid hc2
          have hne : x' ≠ y' := hc2.ne
          rw [ex] at cx
          rw [ey] at cy
          simp only [iO] at cx cy
          have tz : ((x' : Int) != (y' : Int)) = true := by simp; omega
          clear he HC ex ey hc2 hne
          go_wp2_with fail
          go_quiet (fail)
          go_wp2_with fail
          go_roundw
          case rel => exact ⟨i, _, x', y', by omega, rfl, rfl, rfl, HC2.out, bel_drewN HBZ.out _⟩
          case measure => simp [intOf]

end Go.Proofs.YthacjealoomioaaGreatDoor
