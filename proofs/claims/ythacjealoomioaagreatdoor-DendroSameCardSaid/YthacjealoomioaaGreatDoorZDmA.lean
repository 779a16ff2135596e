/- DmA. -/
import Derived.Test.YthacjealoomioaaGreatDoorZGj
import Derived.Test.YthacjealoomioaaGreatDoorZRlA
import Derived.Test.YthacjealoomioaaGreatDoorZGa
/- dendro.Merges of the program. -/
namespace Go.Proofs.YthacjealoomioaaGreatDoor
set_option linter.unusedVariables false
set_option linter.unusedSimpArgs false
open Go.RowKit

/-- The merge at a node, as cells; those of the first j inner nodes. -/
def mgV (t : Tr) (ls : List Nat) (x : Nat) : List Value := [.int .i64 ((ls.getD (lc t x) 0 : Nat) : Int), .int .i64 ((ls.getD (rc t x) 0 : Nat) : Int), .int .i64 (gi t.hgt x), .int .i64 1, .int .i64 (gi t.siz x)]
def mgTo (t : Tr) (n : Nat) (ls : List Nat) : Nat → List Value
  | 0 => []
  | j + 1 => mgTo t n ls j ++ mgV t ls (n + j)

theorem Tryz.infoMergeD : (Tryz.prog.info? 51).map (fun i => (i.zero, i.size, i.bytes)) = some (some (.agg #[.int .i64 0, .int .i64 0, .int .i64 0, .int .i64 0, .int .i64 0]), 5, 40) := by kernel_rfl

structure MgPost (w : World) (t : Tr) (e : Ending) (w' : World) : Prop where
  bad : lsL t = none → e = .returned (.tuple #[.slice none 0 0, .int .i64 2])
  ok : ∀ ls, lsL t = some ls → ∃ v, e = .returned (.tuple #[v, .int .i64 0]) ∧ w'.ownsRow 0 51 5 v (t.par.length - t.lv.toNat) (mgTo t t.lv.toNat ls (t.par.length - t.lv.toNat)) ∧ ∀ k, v.ownBlock = some k → w.heap.size ≤ k
  bel : Below w.heap.size w w'

/-- What is read at an inner node. -/
structure MgAt (w : World) (A : TA) (t : Tr) (m x l r : Nat) : Prop where
  el : A.l.o = some ⟨A.l.b, A.l.f, none⟩
  er : A.r.o = some ⟨A.r.b, A.r.f, none⟩
  eh : A.h.o = some ⟨A.h.b, A.h.f, none⟩
  es : A.s.o = some ⟨A.s.b, A.s.f, none⟩
  cl : w.cell? ⟨A.l.b, A.l.f + x, none⟩ = some (.int .i64 (l : Int))
  cr : w.cell? ⟨A.r.b, A.r.f + x, none⟩ = some (.int .i64 (r : Int))
  ch : w.cell? ⟨A.h.b, A.h.f + x, none⟩ = some (.int .i64 (gi t.hgt x))
  cs : w.cell? ⟨A.s.b, A.s.f + x, none⟩ = some (.int .i64 (gi t.siz x))
  ll : l < m
  lr : r < m
theorem TreeAt.mgAt {w : World} {A : TA} {t : Tr} {n m : Nat} {ls : List Nat} (h : TreeAt w A t) (tv : TV t n m ls) {x : Nat} (hn : n ≤ x) (hx : x < m) : MgAt w A t m x (lc t x) (rc t x) := by
  obtain ⟨⟨hl, hr, _⟩, _⟩ := tv.inn x hn hx
  obtain ⟨e1, c1⟩ := h.l.get (i := x) (by rw [tv.ll]; exact hx)
  obtain ⟨e2, c2⟩ := h.r.get (i := x) (by rw [tv.rl]; exact hx)
  obtain ⟨e3, c3⟩ := h.h.get (i := x) (by rw [tv.hl]; exact hx)
  obtain ⟨e4, c4⟩ := h.s.get (i := x) (by rw [tv.sl]; exact hx)
  have a1 : gi t.left x = ((lc t x : Nat) : Int) := by unfold lc; omega
  have a2 : gi t.right x = ((rc t x : Nat) : Int) := by unfold rc; omega
  rw [a1] at c1
  rw [a2] at c2
  exact ⟨e1, e2, e3, e4, c1, c2, c3, c4, by unfold lc; omega, by unfold rc; omega⟩

/-- Beside reads: a block made, appended, assigned. -/
def StAp (w3 wr : World) (T : TypeId) (size n : Nat) (blk row' : List Value) (ys : List Value) (W : World) : Prop :=
  match ys with
  | [] => W = wr.drew
  | [y] => y = .slice (some ⟨wr.heap.size, 0, none⟩) 1 1 ∧ W = wr.drew.alloc (.cells blk.toArray T)
  | [_, z] => W.ownsRow 0 T size z n row' ∧ (∀ x, z.ownBlock = some x → w3.heap.size ≤ x) ∧ Below w3.heap.size w3 W
  | [_, z, p] => (W.ownsRow 0 T size z n row' ∧ (∀ x, z.ownBlock = some x → w3.heap.size ≤ x) ∧ Below w3.heap.size w3 W) ∧ p = z
  | _ => False
theorem StAp.bel {w3 wr : World} {T : TypeId} {size n : Nat} {blk row' : List Value} {ys : List Value} {W : World} (h : StAp w3 wr T size n blk row' ys W) (hb : Below w3.heap.size w3 wr) : Below w3.heap.size w3 W := by
  match ys, h with
  | [], h => rw [show W = wr.drew from h]; exact hb.drew
  | [y], h => rw [h.2]; exact hb.drew.alloc (by simpa using hb.size) _
  | [_, z], h => exact h.2.2
  | [_, z, p], h => exact h.1.2.2
  | _ :: _ :: _ :: _ :: _, h => exact h.elim

set_option maxHeartbeats 4000000 in
set_option maxRecDepth 100000 in
theorem merges_ok (w : World) (A : TA) (t : Tr) (ht : TreeAt w A t) : Calls Tryz.prog 23 #[A.agg t] w (MgPost w t) := by
  have HT := Lib.hid ht
  have HB := Lib.hid (TBox.new w A t)
  have HW := Lib.hid (bel_alloc w (.cells #[.int .i64 t.lv, .slice A.l.o t.left.length A.l.c, .slice A.r.o t.right.length A.r.c, .slice A.p.o t.par.length A.p.c, .slice A.h.o t.hgt.length A.h.c, .slice A.s.o t.siz.length A.s.c] 27))
  have HT2 := Lib.hid (ht.below HW.out)
  have c0 := HB.out.c0
  have c1 := HB.out.c1
  have c2 := HB.out.c2
  have c3 := HB.out.c3
  have c4 := HB.out.c4
  have c5 := HB.out.c5
  clear ht
  show Calls _ _ #[.agg #[.int .i64 t.lv, .slice A.l.o t.left.length A.l.c, .slice A.r.o t.right.length A.r.c, .slice A.p.o t.par.length A.p.c, .slice A.h.o t.hgt.length A.h.c, .slice A.s.o t.siz.length A.s.c]] _ _
  go_enter Tryz.func23, Tryz.ntmps23
  go_wp2_with fail
  with_reducible refine (check_ok _ A t HT2.out).mono ?_
  rintro e w2 ⟨rfl, hb⟩
  have HS := Lib.hid HW.out.size
  have HW2 := Lib.hid (bel_then HW.out hb)
  have HB2 := Lib.hid (Blk.below HB.out hb (Blk.lt HB.out))
  have HT3 := Lib.hid (HT2.out.below hb)
  clear hb c0 c1 c2 c3 c4 c5
  cases hl : lsL t with
  | none =>
    have HL0 := Lib.hid hl
    rw [chk_none hl]
    clear hl
    go_wp2_with fail
    go_ret2
    exact ⟨fun _ => rfl, (fun l e => by (rw [HL0.out] at e; cases e)), HW2.out⟩
  | some ls =>
    have HL0 := Lib.hid hl
    obtain ⟨n, hn, hv⟩ := tv_of hl
    have HV := Lib.hid hv
    have hn4 := hv.hn
    have hm2 := hv.two
    have hnm := hv.nm
    have HLN := Lib.hid hn
    rw [chk_some hl]
    have c0 := TBox.c0 HB2.out
    have c1 := TBox.c1 HB2.out
    have c2 := TBox.c2 HB2.out
    have c3 := TBox.c3 HB2.out
    have c4 := TBox.c4 HB2.out
    have c5 := TBox.c5 HB2.out
    clear hl hn hv
    go_wp2_with fail
    with_reducible refine (least_ok _ A t HT3.out).mono ?_
    rintro e w3 hp
    have HP := Lib.hid hp
    obtain ⟨_, hgood, hb⟩ := hp
    obtain ⟨v, rfl, ho, hvn⟩ := hgood ls HL0.out
    obtain ⟨lo, lcap, lb, rfl, hlr, _⟩ := own_rowN ho rfl
    have HLR := Lib.hid hlr
    have HW3 := Lib.hid (bel_then HW2.out hb)
    have HB3 := Lib.hid (Blk.below HB2.out hb (Blk.lt HB2.out))
    have HT4 := Lib.hid (HT3.out.below hb)
    clear hb c0 c1 c2 c3 c4 c5 HP hgood ho hvn hlr
    have c0 := TBox.c0 HB3.out
    rw [HLN.out] at c0
    go_wp2_with fail
    clear c0
    obtain ⟨m, hm⟩ : ∃ m, t.par.length = m := ⟨_, rfl⟩
    rw [hm] at HV hm2 hnm
    have HM := Lib.hid hm
    clear hm
    go_loopw [6, 7] (fun v s wr => ∃ i : Nat, n + i ≤ m ∧ s = .int .i64 ((n + i : Nat) : Int) ∧ wr.ownsRow 0 51 5 v i (mgTo t n ls i) ∧ (∀ x, v.ownBlock = some x → w3.heap.size ≤ x) ∧ Below w3.heap.size w3 wr) (fun _ s _ => m - (intOf s).toNat)
    case atStart => exact ⟨0, by omega, rfl, World.ownsRow_nil _ _ _ _, fun x hx => (by cases hx), Below.refl _ _⟩
    case round =>
      obtain ⟨i, hi, rfl, hv, hvn, hb⟩ := hrel
      have HVR := Lib.hid hv
      have HVN := Lib.hid hvn
      have HBR := Lib.hid hb
      have HT5 := Lib.hid (HT4.out.below hb)
      have HB5 := Lib.hid (Blk.below HB3.out hb (Blk.lt HB3.out))
      have HL5 := Lib.hid (HLR.out.below hb)
      have HWR := Lib.hid (bel_then HW3.out hb)
      have c3 := TBox.c3 HB5.out
      rw [HM.out] at c3
      clear hv hvn hb
      obtain ⟨x, HX⟩ : ∃ x, Hid (n + i = x) := ⟨_, rfl⟩
      rw [HX.out] at hi ⊢
      by_cases him : x < m
      · have hma := HT5.out.mgAt HV.out (x := x) (by have := HX.out; omega) him
        have HSUC : Hid (mgTo t n ls (i + 1) = mgTo t n ls i ++ [.int .i64 ((ls.getD (lc t x) 0 : Nat) : Int), .int .i64 ((ls.getD (rc t x) 0 : Nat) : Int), .int .i64 (gi t.hgt x), .int .i64 1, .int .i64 (gi t.siz x)]) := by
          show mgTo t n ls i ++ mgV t ls (n + i) = _
          rw [HX.out]; rfl
        have HLS : Hid (∀ y, y < m → lo = some ⟨lb, 0, none⟩ ∧ wr.cell? ⟨lb, 0 + y, none⟩ = some (.int .i64 ((ls.getD y 0 : Nat) : Int))) := fun y hy => by
          have hy2 : y < ls.length := by rw [HV.out.lsl]; exact hy
          have := HL5.out.cell y hy2
          rw [nI_at hy2] at this
          exact ⟨HL5.out.adr (by omega), this⟩
        have c1 := TBox.c1 HB5.out
        have c2 := TBox.c2 HB5.out
        have c4 := TBox.c4 HB5.out
        have c5 := TBox.c5 HB5.out
        rw [hma.el, HV.out.ll] at c1
        rw [hma.er, HV.out.rl] at c2
        rw [hma.eh, HV.out.hl] at c4
        rw [hma.es, HV.out.sl] at c5
        have HLL : Hid (ls.length = m) := HV.out.lsl
        generalize lc t x = l at *
        generalize rc t x = r at *
        obtain ⟨d1, e1⟩ := HLS.out l hma.ll
        obtain ⟨_, e2⟩ := HLS.out r hma.lr
        obtain rfl := d1
        obtain ⟨q1, q2, q3, q4, k1, k2, k3, k4, l1, l2⟩ := hma
        clear q1 q2 q3 q4
        generalize ls.getD l 0 = p1 at *
        generalize ls.getD r 0 = p2 at *
        generalize gi t.hgt x = p3 at *
        generalize gi t.siz x = p4 at *
        generalize mgTo t n ls i = rowI at *
        generalize hR' : mgTo t n ls (i + 1) = rowI' at *
        have HR' := Lib.hid hR'
        rw [Nat.zero_add] at e1 e2
        rw [HLL.out]
        have hi2 : i ≤ 8192 := by have := HX.out; omega
        have t1 : (x : Int) < (m : Int) := by omega
        have t2 : (0 : Int) ≤ (x : Int) := by omega
        have t3 : (l : Int) < (m : Int) := by omega
        have t4 : (0 : Int) ≤ (l : Int) := by omega
        have t5 : (r : Int) < (m : Int) := by omega
        have t6 : (0 : Int) ≤ (r : Int) := by omega
        clear hR' HLS
        obtain ⟨vo, vc, rfl⟩ := owns_slice HVR.out
        have b1 : A.l.b < w3.heap.size := HT4.out.l.lt (by rw [HV.out.ll]; omega)
        have b2 : A.r.b < w3.heap.size := HT4.out.r.lt (by rw [HV.out.rl]; omega)
        have b3 : A.h.b < w3.heap.size := HT4.out.h.lt (by rw [HV.out.hl]; omega)
        have b4 : A.s.b < w3.heap.size := HT4.out.s.lt (by rw [HV.out.sl]; omega)
        have b5 : lb < w3.heap.size := HLR.out.lt (by rw [HLL.out]; omega)
        have b6 : w.heap.size < w3.heap.size := Blk.lt HB3.out
        have kp : ∀ W, Below w3.heap.size w3 W → ∀ q : Addr, q.block < w3.heap.size → W.cell? q = wr.cell? q := fun W h q hq => (h.cell hq).trans (HBR.out.cell hq).symm
        have HK : Hid (∀ W, Below w3.heap.size w3 W → W.cell? ⟨w.heap.size, 1, none⟩ = some (.slice (some ⟨A.l.b, A.l.f, none⟩) m A.l.c) ∧ W.cell? ⟨w.heap.size, 2, none⟩ = some (.slice (some ⟨A.r.b, A.r.f, none⟩) m A.r.c) ∧ W.cell? ⟨w.heap.size, 4, none⟩ = some (.slice (some ⟨A.h.b, A.h.f, none⟩) m A.h.c) ∧ W.cell? ⟨w.heap.size, 5, none⟩ = some (.slice (some ⟨A.s.b, A.s.f, none⟩) m A.s.c)
            ∧ W.cell? ⟨lb, l, none⟩ = some (.int .i64 (p1 : Int)) ∧ W.cell? ⟨lb, r, none⟩ = some (.int .i64 (p2 : Int)) ∧ W.cell? ⟨A.l.b, A.l.f + x, none⟩ = some (.int .i64 (l : Int)) ∧ W.cell? ⟨A.r.b, A.r.f + x, none⟩ = some (.int .i64 (r : Int)) ∧ W.cell? ⟨A.h.b, A.h.f + x, none⟩ = some (.int .i64 p3) ∧ W.cell? ⟨A.s.b, A.s.f + x, none⟩ = some (.int .i64 p4)) := fun W h =>
          ⟨(kp W h _ b6).trans c1, (kp W h _ b6).trans c2, (kp W h _ b6).trans c4, (kp W h _ b6).trans c5, (kp W h _ b5).trans e1, (kp W h _ b5).trans e2, (kp W h _ b1).trans k1, (kp W h _ b2).trans k2, (kp W h _ b3).trans k3, (kp W h _ b4).trans k4⟩
        have HAP : Hid (∀ W, W = wr.drew.alloc (.cells #[.int .i64 (p1 : Int), .int .i64 (p2 : Int), .int .i64 p3, .int .i64 1, .int .i64 p4] 51) → W.ownsRow 0 51 5 (.slice vo i vc) i rowI ∧ (∀ j u, [Value.int .i64 (p1 : Int), .int .i64 (p2 : Int), .int .i64 p3, .int .i64 1, .int .i64 p4][j]? = some u → W.cell? ((⟨wr.heap.size, 0, none⟩ : Addr).add j) = some u) ∧
            ∀ v' w', w'.ownsRow 0 51 5 v' (i + 1) (rowI ++ [.int .i64 (p1 : Int), .int .i64 (p2 : Int), .int .i64 p3, .int .i64 1, .int .i64 p4]) → W.grownBy w' (Value.slice vo i vc).ownBlock → (∀ k, v'.ownBlock = some k → (Value.slice vo i vc).ownBlock = some k ∨ W.heap.size ≤ k) → StAp w3 wr 51 5 (i + 1) [.int .i64 (p1 : Int), .int .i64 (p2 : Int), .int .i64 p3, .int .i64 1, .int .i64 p4] rowI' [.slice (some ⟨wr.heap.size, 0, none⟩) 1 1, v'] w') := fun W hW => by
          have hd : Below wr.heap.size wr wr.drew := (Below.refl _ _).drew
          have ho := (owns_mod HVR.out (Mod.of_below (F := fun _ => False) hd) (fun _ _ h => h)).alloc (.cells #[.int .i64 (p1 : Int), .int .i64 (p2 : Int), .int .i64 p3, .int .i64 1, .int .i64 p4] 51)
          have hn := news_new wr.drew 51 [.int .i64 p1, .int .i64 p2, .int .i64 p3, .int .i64 1, .int .i64 p4]
          have hwr := HBR.out.size
          subst hW
          refine ⟨ho, hn, fun v' w' h1 h2 h3 => ⟨by rw [HSUC.out]; exact h1, fun y hy => ?_, ?_⟩⟩
          · rcases h3 y hy with e | e
            · exact HVN.out y e
            · have : wr.heap.size + 1 ≤ y := by simpa using e
              omega
          · exact ((HBR.out.drew).alloc (by simpa using hwr) _).trans (grown_below h2 (fun k hk => HVN.out k hk) (by simp; omega))
        clear b1 b2 b3 b4 b5 b6 kp
        clear c1 c2 c4 c5 e1 e2 k1 k2 k3 k4
        go_wp2_with fail
        -- ONE<
        refine wp_region_late 29 (by kernel_rfl) (by kernel_rfl) (by kernel_rfl) (by kernel_rfl) (by kernel_rfl) (fun q_ v_ => match q_ with | 0 => v_ = .slice vo i vc | 1 => v_ = .slice (some ⟨lb, 0, none⟩) m lcap | 2 => v_ = .pointer (some ⟨w.heap.size, 1, none⟩) | 3 => v_ = .slice (some ⟨A.l.b, A.l.f, none⟩) m A.l.c | 4 => v_ = .int .i64 (x : Int) | 5 => v_ = .pointer (some ⟨A.l.b, A.l.f + x, none⟩) | 6 => v_ = .int .i64 (l : Int) | 7 => v_ = .pointer (some ⟨lb, l, none⟩) | 8 => v_ = .int .i64 (p1 : Int) | 9 => v_ = .slice (some ⟨lb, 0, none⟩) m lcap | 10 => v_ = .pointer (some ⟨w.heap.size, 2, none⟩) | 11 => v_ = .slice (some ⟨A.r.b, A.r.f, none⟩) m A.r.c | 12 => v_ = .int .i64 (x : Int) | 13 => v_ = .pointer (some ⟨A.r.b, A.r.f + x, none⟩) | 14 => v_ = .int .i64 (r : Int) | 15 => v_ = .pointer (some ⟨lb, r, none⟩) | 16 => v_ = .int .i64 (p2 : Int) | 17 => v_ = .pointer (some ⟨w.heap.size, 4, none⟩) | 18 => v_ = .slice (some ⟨A.h.b, A.h.f, none⟩) m A.h.c | 19 => v_ = .int .i64 (x : Int) | 20 => v_ = .pointer (some ⟨A.h.b, A.h.f + x, none⟩) | 21 => v_ = .int .i64 p3 | 22 => v_ = .agg #[.int .i64 p3, .int .i64 1] | 23 => v_ = .pointer (some ⟨w.heap.size, 5, none⟩) | 24 => v_ = .slice (some ⟨A.s.b, A.s.f, none⟩) m A.s.c | 25 => v_ = .int .i64 (x : Int) | 26 => v_ = .pointer (some ⟨A.s.b, A.s.f + x, none⟩) | 27 => v_ = .int .i64 p4 | 28 => v_ = .agg #[.int .i64 (p1 : Int), .int .i64 (p2 : Int), .int .i64 p3, .int .i64 1, .int .i64 p4] | _ => True) (StAp w3 wr 51 5 (i + 1) [.int .i64 (p1 : Int), .int .i64 (p2 : Int), .int .i64 p3, .int .i64 1, .int .i64 p4] rowI') rfl ?read ?tail ?fin
        case read =>
          intro W ys o_i o AA hin hst hnd hlt hev hdep ho
          obtain ⟨c1, c2, c4, c5, e1, e2, k1, k2, k3, k4⟩ := HK.out W (StAp.bel hst HBR.out)
          have hcs : o_i = 0 ∨ o_i = 1 ∨ o_i = 2 ∨ o_i = 3 ∨ o_i = 4 ∨ o_i = 5 ∨ o_i = 6 ∨ o_i = 7 ∨ o_i = 8 ∨ o_i = 9 ∨ o_i = 10 ∨ o_i = 11 ∨ o_i = 12 ∨ o_i = 13 ∨ o_i = 14 ∨ o_i = 15 ∨ o_i = 16 ∨ o_i = 17 ∨ o_i = 18 ∨ o_i = 19 ∨ o_i = 20 ∨ o_i = 21 ∨ o_i = 22 ∨ o_i = 23 ∨ o_i = 24 ∨ o_i = 25 ∨ o_i = 26 ∨ o_i = 27 ∨ o_i = 28 := by omega
          rcases hcs with rfl | rfl | rfl | rfl | rfl | rfl | rfl | rfl | rfl | rfl | rfl | rfl | rfl | rfl | rfl | rfl | rfl | rfl | rfl | rfl | rfl | rfl | rfl | rfl | rfl | rfl | rfl | rfl | rfl
          · cases ho
            have hl : ys.length ≤ 1 := by
              apply Classical.byContradiction
              intro hc
              exact hnd 30 _ (by omega) (by omega) rfl ⟨0, .data⟩ (by simp) (by rfl) rfl
            have f6 : AA.eval (.tmp 6) = .slice vo i vc := hlt 6 31 (by omega) (by kernel_rfl)
            refine ⟨wanted_free rfl, wp_valD (v := .slice vo i vc) (w' := W) (by simp only [execOp, f6]; simp [go_sem, f6, c1, c2, c4, c5, e1, e2, k1, k2, k3, k4, t1, t2, t3, t4, t5, t6]) ⟨_, rfl, rfl, rfl⟩⟩
          · cases ho
            have f5 : AA.eval (.tmp 5) = .slice (some ⟨lb, 0, none⟩) m lcap := hev 5 (by kernel_rfl)
            refine ⟨wanted_free rfl, wp_valD (v := .slice (some ⟨lb, 0, none⟩) m lcap) (w' := W) (by simp only [execOp, f5]; simp [go_sem, f5, c1, c2, c4, c5, e1, e2, k1, k2, k3, k4, t1, t2, t3, t4, t5, t6]) ⟨_, rfl, rfl, rfl⟩⟩
          · cases ho
            have f1 : AA.eval (.tmp 1) = .pointer (some ⟨w.heap.size, 0, none⟩) := hev 1 (by kernel_rfl)
            refine ⟨wanted_free rfl, wp_valD (v := .pointer (some ⟨w.heap.size, 1, none⟩)) (w' := W) (by simp only [execOp, f1]; simp [go_sem, f1, c1, c2, c4, c5, e1, e2, k1, k2, k3, k4, t1, t2, t3, t4, t5, t6]) ⟨_, rfl, rfl, rfl⟩⟩
          · cases ho
            have f26 : AA.eval (.tmp 26) = .pointer (some ⟨w.heap.size, 1, none⟩) := hdep ⟨2, .data⟩ 26 (by simp) (by rfl) rfl (by simp)
            refine ⟨wanted_free rfl, wp_valD (v := .slice (some ⟨A.l.b, A.l.f, none⟩) m A.l.c) (w' := W) (by simp only [execOp, f26]; simp [go_sem, f26, c1, c2, c4, c5, e1, e2, k1, k2, k3, k4, t1, t2, t3, t4, t5, t6]) ⟨_, rfl, rfl, rfl⟩⟩
          · cases ho
            have f7 : AA.eval (.tmp 7) = .int .i64 (x : Int) := hev 7 (by kernel_rfl)
            refine ⟨wanted_free rfl, wp_valD (v := .int .i64 (x : Int)) (w' := W) (by simp only [execOp, f7]; simp [go_sem, f7, c1, c2, c4, c5, e1, e2, k1, k2, k3, k4, t1, t2, t3, t4, t5, t6]) ⟨_, rfl, rfl, rfl⟩⟩
          · cases ho
            have f27 : AA.eval (.tmp 27) = .slice (some ⟨A.l.b, A.l.f, none⟩) m A.l.c := hdep ⟨3, .data⟩ 27 (by simp) (by rfl) rfl (by simp)
            have f28 : AA.eval (.tmp 28) = .int .i64 (x : Int) := hdep ⟨4, .data⟩ 28 (by simp) (by rfl) rfl (by simp)
            refine ⟨wanted_free rfl, wp_valD (v := .pointer (some ⟨A.l.b, A.l.f + x, none⟩)) (w' := W) (by simp only [execOp, f27, f28]; simp [go_sem, f27, f28, c1, c2, c4, c5, e1, e2, k1, k2, k3, k4, t1, t2, t3, t4, t5, t6]) ⟨_, rfl, rfl, rfl⟩⟩
          · cases ho
            have f29 : AA.eval (.tmp 29) = .pointer (some ⟨A.l.b, A.l.f + x, none⟩) := hdep ⟨5, .data⟩ 29 (by simp) (by rfl) rfl (by simp)
            refine ⟨wanted_free rfl, wp_valD (v := .int .i64 (l : Int)) (w' := W) (by simp only [execOp, f29]; simp [go_sem, f29, c1, c2, c4, c5, e1, e2, k1, k2, k3, k4, t1, t2, t3, t4, t5, t6]) ⟨_, rfl, rfl, rfl⟩⟩
          · cases ho
            have f25 : AA.eval (.tmp 25) = .slice (some ⟨lb, 0, none⟩) m lcap := hdep ⟨1, .data⟩ 25 (by simp) (by rfl) rfl (by simp)
            have f30 : AA.eval (.tmp 30) = .int .i64 (l : Int) := hdep ⟨6, .data⟩ 30 (by simp) (by rfl) rfl (by simp)
            refine ⟨wanted_free rfl, wp_valD (v := .pointer (some ⟨lb, l, none⟩)) (w' := W) (by simp only [execOp, f25, f30]; simp [go_sem, f25, f30, c1, c2, c4, c5, e1, e2, k1, k2, k3, k4, t1, t2, t3, t4, t5, t6]) ⟨_, rfl, rfl, rfl⟩⟩
          · cases ho
            have f31 : AA.eval (.tmp 31) = .pointer (some ⟨lb, l, none⟩) := hdep ⟨7, .data⟩ 31 (by simp) (by rfl) rfl (by simp)
            refine ⟨wanted_free rfl, wp_valD (v := .int .i64 (p1 : Int)) (w' := W) (by simp only [execOp, f31]; simp [go_sem, f31, c1, c2, c4, c5, e1, e2, k1, k2, k3, k4, t1, t2, t3, t4, t5, t6]) ⟨_, rfl, rfl, rfl⟩⟩
          · cases ho
            have f5 : AA.eval (.tmp 5) = .slice (some ⟨lb, 0, none⟩) m lcap := hev 5 (by kernel_rfl)
            refine ⟨wanted_free rfl, wp_valD (v := .slice (some ⟨lb, 0, none⟩) m lcap) (w' := W) (by simp only [execOp, f5]; simp [go_sem, f5, c1, c2, c4, c5, e1, e2, k1, k2, k3, k4, t1, t2, t3, t4, t5, t6]) ⟨_, rfl, rfl, rfl⟩⟩
          · cases ho
            have f1 : AA.eval (.tmp 1) = .pointer (some ⟨w.heap.size, 0, none⟩) := hev 1 (by kernel_rfl)
            refine ⟨wanted_free rfl, wp_valD (v := .pointer (some ⟨w.heap.size, 2, none⟩)) (w' := W) (by simp only [execOp, f1]; simp [go_sem, f1, c1, c2, c4, c5, e1, e2, k1, k2, k3, k4, t1, t2, t3, t4, t5, t6]) ⟨_, rfl, rfl, rfl⟩⟩
          · cases ho
            have f34 : AA.eval (.tmp 34) = .pointer (some ⟨w.heap.size, 2, none⟩) := hdep ⟨10, .data⟩ 34 (by simp) (by rfl) rfl (by simp)
            refine ⟨wanted_free rfl, wp_valD (v := .slice (some ⟨A.r.b, A.r.f, none⟩) m A.r.c) (w' := W) (by simp only [execOp, f34]; simp [go_sem, f34, c1, c2, c4, c5, e1, e2, k1, k2, k3, k4, t1, t2, t3, t4, t5, t6]) ⟨_, rfl, rfl, rfl⟩⟩
          · cases ho
            have f7 : AA.eval (.tmp 7) = .int .i64 (x : Int) := hev 7 (by kernel_rfl)
            refine ⟨wanted_free rfl, wp_valD (v := .int .i64 (x : Int)) (w' := W) (by simp only [execOp, f7]; simp [go_sem, f7, c1, c2, c4, c5, e1, e2, k1, k2, k3, k4, t1, t2, t3, t4, t5, t6]) ⟨_, rfl, rfl, rfl⟩⟩
          · cases ho
            have f35 : AA.eval (.tmp 35) = .slice (some ⟨A.r.b, A.r.f, none⟩) m A.r.c := hdep ⟨11, .data⟩ 35 (by simp) (by rfl) rfl (by simp)
            have f36 : AA.eval (.tmp 36) = .int .i64 (x : Int) := hdep ⟨12, .data⟩ 36 (by simp) (by rfl) rfl (by simp)
            refine ⟨wanted_free rfl, wp_valD (v := .pointer (some ⟨A.r.b, A.r.f + x, none⟩)) (w' := W) (by simp only [execOp, f35, f36]; simp [go_sem, f35, f36, c1, c2, c4, c5, e1, e2, k1, k2, k3, k4, t1, t2, t3, t4, t5, t6]) ⟨_, rfl, rfl, rfl⟩⟩
          · cases ho
            have f37 : AA.eval (.tmp 37) = .pointer (some ⟨A.r.b, A.r.f + x, none⟩) := hdep ⟨13, .data⟩ 37 (by simp) (by rfl) rfl (by simp)
            refine ⟨wanted_free rfl, wp_valD (v := .int .i64 (r : Int)) (w' := W) (by simp only [execOp, f37]; simp [go_sem, f37, c1, c2, c4, c5, e1, e2, k1, k2, k3, k4, t1, t2, t3, t4, t5, t6]) ⟨_, rfl, rfl, rfl⟩⟩
          · cases ho
            have f33 : AA.eval (.tmp 33) = .slice (some ⟨lb, 0, none⟩) m lcap := hdep ⟨9, .data⟩ 33 (by simp) (by rfl) rfl (by simp)
            have f38 : AA.eval (.tmp 38) = .int .i64 (r : Int) := hdep ⟨14, .data⟩ 38 (by simp) (by rfl) rfl (by simp)
            refine ⟨wanted_free rfl, wp_valD (v := .pointer (some ⟨lb, r, none⟩)) (w' := W) (by simp only [execOp, f33, f38]; simp [go_sem, f33, f38, c1, c2, c4, c5, e1, e2, k1, k2, k3, k4, t1, t2, t3, t4, t5, t6]) ⟨_, rfl, rfl, rfl⟩⟩
          · cases ho
            have f39 : AA.eval (.tmp 39) = .pointer (some ⟨lb, r, none⟩) := hdep ⟨15, .data⟩ 39 (by simp) (by rfl) rfl (by simp)
            refine ⟨wanted_free rfl, wp_valD (v := .int .i64 (p2 : Int)) (w' := W) (by simp only [execOp, f39]; simp [go_sem, f39, c1, c2, c4, c5, e1, e2, k1, k2, k3, k4, t1, t2, t3, t4, t5, t6]) ⟨_, rfl, rfl, rfl⟩⟩
          · cases ho
            have f1 : AA.eval (.tmp 1) = .pointer (some ⟨w.heap.size, 0, none⟩) := hev 1 (by kernel_rfl)
            refine ⟨wanted_free rfl, wp_valD (v := .pointer (some ⟨w.heap.size, 4, none⟩)) (w' := W) (by simp only [execOp, f1]; simp [go_sem, f1, c1, c2, c4, c5, e1, e2, k1, k2, k3, k4, t1, t2, t3, t4, t5, t6]) ⟨_, rfl, rfl, rfl⟩⟩
          · cases ho
            have f41 : AA.eval (.tmp 41) = .pointer (some ⟨w.heap.size, 4, none⟩) := hdep ⟨17, .data⟩ 41 (by simp) (by rfl) rfl (by simp)
            refine ⟨wanted_free rfl, wp_valD (v := .slice (some ⟨A.h.b, A.h.f, none⟩) m A.h.c) (w' := W) (by simp only [execOp, f41]; simp [go_sem, f41, c1, c2, c4, c5, e1, e2, k1, k2, k3, k4, t1, t2, t3, t4, t5, t6]) ⟨_, rfl, rfl, rfl⟩⟩
          · cases ho
            have f7 : AA.eval (.tmp 7) = .int .i64 (x : Int) := hev 7 (by kernel_rfl)
            refine ⟨wanted_free rfl, wp_valD (v := .int .i64 (x : Int)) (w' := W) (by simp only [execOp, f7]; simp [go_sem, f7, c1, c2, c4, c5, e1, e2, k1, k2, k3, k4, t1, t2, t3, t4, t5, t6]) ⟨_, rfl, rfl, rfl⟩⟩
          · cases ho
            have f42 : AA.eval (.tmp 42) = .slice (some ⟨A.h.b, A.h.f, none⟩) m A.h.c := hdep ⟨18, .data⟩ 42 (by simp) (by rfl) rfl (by simp)
            have f43 : AA.eval (.tmp 43) = .int .i64 (x : Int) := hdep ⟨19, .data⟩ 43 (by simp) (by rfl) rfl (by simp)
            refine ⟨wanted_free rfl, wp_valD (v := .pointer (some ⟨A.h.b, A.h.f + x, none⟩)) (w' := W) (by simp only [execOp, f42, f43]; simp [go_sem, f42, f43, c1, c2, c4, c5, e1, e2, k1, k2, k3, k4, t1, t2, t3, t4, t5, t6]) ⟨_, rfl, rfl, rfl⟩⟩
          · cases ho
            have f44 : AA.eval (.tmp 44) = .pointer (some ⟨A.h.b, A.h.f + x, none⟩) := hdep ⟨20, .data⟩ 44 (by simp) (by rfl) rfl (by simp)
            refine ⟨wanted_free rfl, wp_valD (v := .int .i64 p3) (w' := W) (by simp only [execOp, f44]; simp [go_sem, f44, c1, c2, c4, c5, e1, e2, k1, k2, k3, k4, t1, t2, t3, t4, t5, t6]) ⟨_, rfl, rfl, rfl⟩⟩
          · cases ho
            have f45 : AA.eval (.tmp 45) = .int .i64 p3 := hdep ⟨21, .data⟩ 45 (by simp) (by rfl) rfl (by simp)
            have g45 : AA.tmps[45]?.getD undef = .int .i64 p3 := by simpa [Act.eval] using f45
            refine ⟨wanted_free rfl, wp_valD (v := .agg #[.int .i64 p3, .int .i64 1]) (w' := W) (by simp only [execOp, f45, g45]; simp [go_sem, f45, g45, c1, c2, c4, c5, e1, e2, k1, k2, k3, k4, t1, t2, t3, t4, t5, t6]) ⟨_, rfl, rfl, rfl⟩⟩
          · cases ho
            have f1 : AA.eval (.tmp 1) = .pointer (some ⟨w.heap.size, 0, none⟩) := hev 1 (by kernel_rfl)
            refine ⟨wanted_free rfl, wp_valD (v := .pointer (some ⟨w.heap.size, 5, none⟩)) (w' := W) (by simp only [execOp, f1]; simp [go_sem, f1, c1, c2, c4, c5, e1, e2, k1, k2, k3, k4, t1, t2, t3, t4, t5, t6]) ⟨_, rfl, rfl, rfl⟩⟩
          · cases ho
            have f47 : AA.eval (.tmp 47) = .pointer (some ⟨w.heap.size, 5, none⟩) := hdep ⟨23, .data⟩ 47 (by simp) (by rfl) rfl (by simp)
            refine ⟨wanted_free rfl, wp_valD (v := .slice (some ⟨A.s.b, A.s.f, none⟩) m A.s.c) (w' := W) (by simp only [execOp, f47]; simp [go_sem, f47, c1, c2, c4, c5, e1, e2, k1, k2, k3, k4, t1, t2, t3, t4, t5, t6]) ⟨_, rfl, rfl, rfl⟩⟩
          · cases ho
            have f7 : AA.eval (.tmp 7) = .int .i64 (x : Int) := hev 7 (by kernel_rfl)
            refine ⟨wanted_free rfl, wp_valD (v := .int .i64 (x : Int)) (w' := W) (by simp only [execOp, f7]; simp [go_sem, f7, c1, c2, c4, c5, e1, e2, k1, k2, k3, k4, t1, t2, t3, t4, t5, t6]) ⟨_, rfl, rfl, rfl⟩⟩
          · cases ho
            have f48 : AA.eval (.tmp 48) = .slice (some ⟨A.s.b, A.s.f, none⟩) m A.s.c := hdep ⟨24, .data⟩ 48 (by simp) (by rfl) rfl (by simp)
            have f49 : AA.eval (.tmp 49) = .int .i64 (x : Int) := hdep ⟨25, .data⟩ 49 (by simp) (by rfl) rfl (by simp)
            refine ⟨wanted_free rfl, wp_valD (v := .pointer (some ⟨A.s.b, A.s.f + x, none⟩)) (w' := W) (by simp only [execOp, f48, f49]; simp [go_sem, f48, f49, c1, c2, c4, c5, e1, e2, k1, k2, k3, k4, t1, t2, t3, t4, t5, t6]) ⟨_, rfl, rfl, rfl⟩⟩
          · cases ho
            have f50 : AA.eval (.tmp 50) = .pointer (some ⟨A.s.b, A.s.f + x, none⟩) := hdep ⟨26, .data⟩ 50 (by simp) (by rfl) rfl (by simp)
            refine ⟨wanted_free rfl, wp_valD (v := .int .i64 p4) (w' := W) (by simp only [execOp, f50]; simp [go_sem, f50, c1, c2, c4, c5, e1, e2, k1, k2, k3, k4, t1, t2, t3, t4, t5, t6]) ⟨_, rfl, rfl, rfl⟩⟩
          · cases ho
            have f32 : AA.eval (.tmp 32) = .int .i64 (p1 : Int) := hdep ⟨8, .data⟩ 32 (by simp) (by rfl) rfl (by simp)
            have f40 : AA.eval (.tmp 40) = .int .i64 (p2 : Int) := hdep ⟨16, .data⟩ 40 (by simp) (by rfl) rfl (by simp)
            have f46 : AA.eval (.tmp 46) = .agg #[.int .i64 p3, .int .i64 1] := hdep ⟨22, .data⟩ 46 (by simp) (by rfl) rfl (by simp)
            have f51 : AA.eval (.tmp 51) = .int .i64 p4 := hdep ⟨27, .data⟩ 51 (by simp) (by rfl) rfl (by simp)
            have g32 : AA.tmps[32]?.getD undef = .int .i64 (p1 : Int) := by simpa [Act.eval] using f32
            have g40 : AA.tmps[40]?.getD undef = .int .i64 (p2 : Int) := by simpa [Act.eval] using f40
            have g46 : AA.tmps[46]?.getD undef = .agg #[.int .i64 p3, .int .i64 1] := by simpa [Act.eval] using f46
            have g51 : AA.tmps[51]?.getD undef = .int .i64 p4 := by simpa [Act.eval] using f51
            refine ⟨wanted_free rfl, wp_valD (v := .agg #[.int .i64 (p1 : Int), .int .i64 (p2 : Int), .int .i64 p3, .int .i64 1, .int .i64 p4]) (w' := W) (by simp only [execOp, f32, f40, f46, f51, g32, g40, g46, g51]; simp [go_sem, f32, f40, f46, f51, g32, g40, g46, g51, c1, c2, c4, c5, e1, e2, k1, k2, k3, k4, t1, t2, t3, t4, t5, t6]) ⟨_, rfl, rfl, rfl⟩⟩
        case tail =>
          intro W ys o AA hst ho hlt hev hdep
          match ys, hst, ho, hdep with
          | [], hst, ho, hdep =>
            cases ho
            have fb : AA.eval (.tmp 52) = .agg #[.int .i64 (p1 : Int), .int .i64 (p2 : Int), .int .i64 p3, .int .i64 1, .int .i64 p4] := (hdep ⟨28, .data⟩ 52 (by simp) (by rfl) rfl (by simp)).1 (by decide)
            have gb : AA.tmps[52]?.getD undef = .agg #[.int .i64 (p1 : Int), .int .i64 (p2 : Int), .int .i64 p3, .int .i64 1, .int .i64 p4] := by simpa [Act.eval] using fb
            have e := hst
            unfold StAp at e
            subst e
            exact ⟨wanted_free rfl, wp_valD (v := .slice (some ⟨wr.heap.size, 0, none⟩) 1 1) (w' := wr.drew.alloc (.cells #[.int .i64 (p1 : Int), .int .i64 (p2 : Int), .int .i64 p3, .int .i64 1, .int .i64 p4] 51)) (by simp only [execOp]; simp [go_sem, gb]) ⟨_, rfl, ⟨rfl, rfl⟩⟩⟩
          | [y], hst, ho, hdep =>
            cases ho
            obtain ⟨rfl, hW⟩ := hst
            have fx : AA.eval (.tmp 24) = .slice vo i vc := (hdep ⟨0, .data⟩ 24 (by simp) (by rfl) rfl (by simp)).1 (by decide)
            have fy : AA.eval (.tmp 53) = .slice (some ⟨wr.heap.size, 0, none⟩) 1 1 := by
              have := (hdep ⟨29, .data⟩ 53 (by simp) (by rfl) rfl (by simp)).2 0 rfl
              injection this with this
              exact this.symm
            refine ⟨wanted_free rfl, ?_⟩
            obtain ⟨h1, h2, h3⟩ := HAP.out W hW
            exact wp_apD 51 (.agg #[.int .i64 0, .int .i64 0, .int .i64 0, .int .i64 0, .int .i64 0]) 5 40 Tryz.underlying42 Tryz.infoMergeD rfl (by decide) _ i _ fx h1 ⟨wr.heap.size, 0, none⟩ 1 1 [.int .i64 (p1 : Int), .int .i64 (p2 : Int), .int .i64 p3, .int .i64 1, .int .i64 p4] fy rfl h2 (by simp [Value.oneCell']) (by unfold maxLen; omega) (by omega) (fun v' w' a1 a2 a3 => ⟨v', rfl, h3 v' w' a1 a2 a3⟩)
          | [y, z], hst, ho, hdep =>
            cases ho
            have fz : AA.eval (.tmp 54) = z := by
              have := (hdep ⟨30, .data⟩ 54 (by simp) (by rfl) rfl (by simp)).2 1 rfl
              injection this with this
              exact this.symm
            exact ⟨wanted_free rfl, wp_valD (v := z) (w' := W) (by simp only [execOp, fz]; simp [go_sem]) ⟨_, rfl, ⟨hst, rfl⟩⟩⟩
          | [y, z, p], hst, ho, hdep => cases ho
          | _ :: _ :: _ :: _ :: _, hst, ho, hdep => cases hst
        case fin =>
          intro xs W hst hF
          obtain ⟨⟨ho6, hn6, hb6⟩, hp6⟩ := (show StAp w3 wr 51 5 (i + 1) [.int .i64 (p1 : Int), .int .i64 (p2 : Int), .int .i64 p3, .int .i64 1, .int .i64 p4] rowI' [xs 29, xs 30, xs 31] W from hst)
          have HO6 := Lib.hid ho6
          have HN6 := Lib.hid hn6
          have HB6 := Lib.hid hb6
          clear hst hF ho6 hn6 hb6
          simp only [putAll, Nat.zero_add, Nat.reduceAdd]
          rw [hp6]
          clear hp6
          generalize xs 0 = z0 at *
          generalize xs 1 = z1 at *
          generalize xs 2 = z2 at *
          generalize xs 3 = z3 at *
          generalize xs 4 = z4 at *
          generalize xs 5 = z5 at *
          generalize xs 6 = z6 at *
          generalize xs 7 = z7 at *
          generalize xs 8 = z8 at *
          generalize xs 9 = z9 at *
          generalize xs 10 = z10 at *
          generalize xs 11 = z11 at *
          generalize xs 12 = z12 at *
          generalize xs 13 = z13 at *
          generalize xs 14 = z14 at *
          generalize xs 15 = z15 at *
          generalize xs 16 = z16 at *
          generalize xs 17 = z17 at *
          generalize xs 18 = z18 at *
          generalize xs 19 = z19 at *
          generalize xs 20 = z20 at *
          generalize xs 21 = z21 at *
          generalize xs 22 = z22 at *
          generalize xs 23 = z23 at *
          generalize xs 24 = z24 at *
          generalize xs 25 = z25 at *
          generalize xs 26 = z26 at *
          generalize xs 27 = z27 at *
          generalize xs 28 = z28 at *
          generalize xs 29 = z29 at *
          generalize xs 30 = z30 at *
          clear xs
        -- ONE>
          go_wp2_with fail
          go_roundw
          case rel => exact ⟨i + 1, by have := HX.out; omega, by have := HX.out; subst this; go_num, by rw [HR'.out]; exact HO6.out, HN6.out, HB6.out⟩
          case measure => simp [intOf]; omega
      · obtain rfl : x = m := by omega
        obtain ⟨vo, vc, rfl⟩ := owns_slice HVR.out
        go_wp2_with fail
        go_ret2
        refine ⟨(fun e => by (rw [HL0.out] at e; cases e)), fun l e => ?_, HWR.out⟩
        rw [HL0.out] at e
        injection e with e
        subst e
        have e2 : t.par.length - t.lv.toNat = i := by rw [HM.out, HLN.out, Int.toNat_natCast]; have := HX.out; omega
        rw [e2, HLN.out, Int.toNat_natCast]
        refine ⟨_, rfl, HVR.out, fun k hk => ?_⟩
        have := HVN.out k hk
        have := HW3.out.size
        omega

end Go.Proofs.YthacjealoomioaaGreatDoor
