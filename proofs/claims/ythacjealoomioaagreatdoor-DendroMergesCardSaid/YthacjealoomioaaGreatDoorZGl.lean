/- RlW, RlS, RfD, RfE, RlE, RlG. -/
import Derived.Test.YthacjealoomioaaGreatDoorZGj
import Derived.Test.YthacjealoomioaaGreatDoorZGk
import Derived.Test.YthacjealoomioaaGreatDoorZGe
import Derived.Test.YthacjealoomioaaGreatDoorZGa
import Derived.Test.YthacjealoomioaaGreatDoorZGd
import Derived.Test.YthacjealoomioaaGreatDoorZGb
import Derived.Outline
import Derived.Deep.RegionHeld3
/- The statements' example of layer 18. -/
namespace Go.Proofs.YthacjealoomioaaGreatDoor
set_option linter.unusedVariables false
set_option linter.unusedSimpArgs false
open Go.RowKit

theorem ERow.of_blk {w : World} {b : Nat} {T : TypeId} {l : List Ed} (h : Blk w b T (edCells l)) : ERow w (some ⟨b, 0, none⟩) l.length b 0 l := by
  refine ⟨rfl, fun _ => rfl, fun i hi => ?_⟩
  have key : ∀ j u, j < 3 → (EA l i).cells[j]? = some u → w.cell? ⟨b, i * 3 + j, none⟩ = some u := fun j u hj hu => h.cell (by rw [edCells_at l i j hi hj]; exact hu)
  rw [Nat.zero_add]
  exact ⟨key 0 _ (by omega) rfl, key 1 _ (by omega) rfl, key 2 _ (by omega) rfl⟩

/-- Where the lists of a tree that was built lie. -/
def BB.ta (B : BB) (m : Nat) : TA := ⟨⟨some ⟨B.lb, 0, none⟩, B.lb, 0, m⟩, ⟨some ⟨B.rb, 0, none⟩, B.rb, 0, m⟩, ⟨some ⟨B.pb, 0, none⟩, B.pb, 0, m⟩, ⟨some ⟨B.hb, 0, none⟩, B.hb, 0, m⟩, ⟨some ⟨B.sb, 0, none⟩, B.sb, 0, m⟩⟩

theorem row_blk {w : World} {b : Nat} {T : TypeId} {l : List Int} (h : Blk w b T (intV l)) : InRow .i64 w (some ⟨b, 0, none⟩) l.length b 0 l :=
  ⟨rfl, fun _ => rfl, fun i hi => by rw [Nat.zero_add]; exact blkIV h hi⟩

theorem BdT.tree {w : World} {B : BB} {n m : Nat} {t : Tr} (h : BdT w B n m t) (hlv : -9223372036854775808 ≤ t.lv ∧ t.lv ≤ 9223372036854775807) (hm : m ≤ 9223372036854775807) : TreeAt w (B.ta m) t :=
  ⟨row_blk h.l, row_blk h.r, row_blk h.p, row_blk h.h, row_blk h.s, ⟨by rw [h.ll]; exact hm, by rw [h.rl]; exact hm, by rw [h.pl]; exact hm, by rw [h.hl]; exact hm, by rw [h.sl]; exact hm⟩, hlv⟩

theorem row_lit {w w' : World} {T : TypeId} {l : List Int} (h : w' = w.alloc (.cells (intV l).toArray T)) : InRow .i64 w' (some ⟨w.heap.size, 0, none⟩) l.length w.heap.size 0 l := by
  subst h; exact row_blk (Blk.new w T (intV l))

end Go.Proofs.YthacjealoomioaaGreatDoor

/- The statements' comparison of trees. -/
namespace Go.Proofs.YthacjealoomioaaGreatDoor
set_option linter.unusedVariables false
set_option linter.unusedSimpArgs false
open Go.RowKit

theorem TBox.new1 (w : World) (o : Obj) (A : TA) (t : Tr) : TBox ((w.alloc o).alloc (.cells #[.int .i64 t.lv, .slice A.l.o t.left.length A.l.c, .slice A.r.o t.right.length A.r.c, .slice A.p.o t.par.length A.p.c, .slice A.h.o t.hgt.length A.h.c, .slice A.s.o t.siz.length A.s.c] 27)) (w.heap.size + 1) A t := by
  have := TBox.new (w.alloc o) A t
  rw [show (w.alloc o).heap.size = w.heap.size + 1 by simp] at this
  exact this

set_option maxHeartbeats 8000000 in
set_option maxRecDepth 100000 in
theorem rsametree_ok (w : World) (A A' : TA) (t : Tr) (ht : TreeAt w A t) (ht' : TreeAt w A' t) : Calls Tryz.prog 18 #[A.agg t, A'.agg t] w (RetB (.bool true) w) := by
  have HW1 := Lib.hid (bel_alloc w (.cells #[.int .i64 t.lv, .slice A.l.o t.left.length A.l.c, .slice A.r.o t.right.length A.r.c, .slice A.p.o t.par.length A.p.c, .slice A.h.o t.hgt.length A.h.c, .slice A.s.o t.siz.length A.s.c] 27))
  have HW2 := Lib.hid (bel_alloc (w.alloc (.cells #[.int .i64 t.lv, .slice A.l.o t.left.length A.l.c, .slice A.r.o t.right.length A.r.c, .slice A.p.o t.par.length A.p.c, .slice A.h.o t.hgt.length A.h.c, .slice A.s.o t.siz.length A.s.c] 27)) (.cells #[.int .i64 t.lv, .slice A'.l.o t.left.length A'.l.c, .slice A'.r.o t.right.length A'.r.c, .slice A'.p.o t.par.length A'.p.c, .slice A'.h.o t.hgt.length A'.h.c, .slice A'.s.o t.siz.length A'.s.c] 27))
  have HX := Lib.hid (Blk.below (TBox.new w A t) HW2.out (Blk.lt (TBox.new w A t)))
  have HY := Lib.hid (TBox.new1 w (.cells #[.int .i64 t.lv, .slice A.l.o t.left.length A.l.c, .slice A.r.o t.right.length A.r.c, .slice A.p.o t.par.length A.p.c, .slice A.h.o t.hgt.length A.h.c, .slice A.s.o t.siz.length A.s.c] 27) A' t)
  have HW := Lib.hid (bel_then HW1.out HW2.out)
  have HT := Lib.hid (ht.below HW.out)
  have HT' := Lib.hid (ht'.below HW.out)
  have c4 := TBox.c4 HX.out
  have d4 := TBox.c4 HY.out
  have hhl := ht.ln.2.2.2.1
  clear ht ht' HW1 HW2
  have t0 : ((t.hgt.length : Int) != (t.hgt.length : Int)) = false := by simp
  show Calls _ _ #[.agg #[.int .i64 t.lv, .slice A.l.o t.left.length A.l.c, .slice A.r.o t.right.length A.r.c, .slice A.p.o t.par.length A.p.c, .slice A.h.o t.hgt.length A.h.c, .slice A.s.o t.siz.length A.s.c], .agg #[.int .i64 t.lv, .slice A'.l.o t.left.length A'.l.c, .slice A'.r.o t.right.length A'.r.c, .slice A'.p.o t.par.length A'.p.c, .slice A'.h.o t.hgt.length A'.h.c, .slice A'.s.o t.siz.length A'.s.c]] _ _
  go_enter Tryz.func18, Tryz.ntmps18
  go_wp2_with fail
  generalize w.heap.size + 1 = y at *
  generalize hxe : w.heap.size = x at *
  have HXE := Lib.hid hxe
  clear hxe
  generalize (w.alloc (.cells #[.int .i64 t.lv, .slice A.l.o t.left.length A.l.c, .slice A.r.o t.right.length A.r.c, .slice A.p.o t.par.length A.p.c, .slice A.h.o t.hgt.length A.h.c, .slice A.s.o t.siz.length A.s.c] 27)).alloc (.cells #[.int .i64 t.lv, .slice A'.l.o t.left.length A'.l.c, .slice A'.r.o t.right.length A'.r.c, .slice A'.p.o t.par.length A'.p.c, .slice A'.h.o t.hgt.length A'.h.c, .slice A'.s.o t.siz.length A'.s.c] 27) = W at *
  clear c4 d4
  go_loopw [5] (fun s wr => ∃ k : Nat, k ≤ t.hgt.length ∧ s = .int .i64 k ∧ Below W.heap.size W wr) (fun s _ => t.hgt.length - (intOf s).toNat)
  case atStart => exact ⟨0, Nat.zero_le _, rfl, Below.refl _ _⟩
  case round =>
    obtain ⟨k, hk, rfl, hb⟩ := hrel
    have HB := Lib.hid hb
    have HXR := Lib.hid (Blk.below HX.out hb (Blk.lt HX.out))
    have HYR := Lib.hid (Blk.below HY.out hb (Blk.lt HY.out))
    have HTR := Lib.hid (HT.out.below hb)
    have HTR' := Lib.hid (HT'.out.below hb)
    have c4 := TBox.c4 HXR.out
    have d4 := TBox.c4 HYR.out
    by_cases hkn : k < t.hgt.length
    · obtain ⟨e1, c0⟩ := HTR.out.h.get hkn
      obtain ⟨e2, d0⟩ := HTR'.out.h.get hkn
      rw [e1] at c4
      rw [e2] at d4
      generalize gi t.hgt k = z at *
      clear hb e1 e2
      have t1 : (k : Int) < (t.hgt.length : Int) := by omega
      have t2 : (z != z) = false := by simp
      have t3 : (0 : Int) ≤ (k : Int) := by omega
      go_wp2_with fail
      go_quiet (fail)
      go_wp2_with fail
      go_roundw
      case rel => exact ⟨k + 1, by omega, by go_num, bel_drewN HB.out _⟩
      case measure => simp [intOf]; omega
    · have hke : k = t.hgt.length := by omega
      have t1 : decide ((k : Int) < (t.hgt.length : Int)) = false := by simp; omega
      have t1' : decide (k < t.hgt.length) = false := by simp; omega
      clear hb hke hkn
      have c0 := TBox.c0 HXR.out
      have d0 := TBox.c0 HYR.out
      have c1 := TBox.c1 HXR.out
      have d1 := TBox.c1 HYR.out
      have tv : (t.lv == t.lv) = true := by simp
      generalize hlv : t.lv = lv at *
      have HLV := Lib.hid hlv
      clear hlv
      go_wp2_with fail
      with_reducible refine (rsame_ok _ A.l.o A'.l.o t.left.length A.l.c A'.l.c A.l.b A'.l.b A.l.f A'.l.f t.left HTR.out.l HTR'.out.l HTR.out.ln.1).mono ?_
      rintro e w2 ⟨rfl, hb⟩
      have HB2 := Lib.hid (bel_then HB.out hb)
      have HX2 := Lib.hid (Blk.below HXR.out hb (Blk.lt HXR.out))
      have HY2 := Lib.hid (Blk.below HYR.out hb (Blk.lt HYR.out))
      have HT2 := Lib.hid (HTR.out.below hb)
      have HU2 := Lib.hid (HTR'.out.below hb)
      clear hb c1 d1
      clear c0 d0 c4 d4
      have c2 := TBox.c2 HX2.out
      have d2 := TBox.c2 HY2.out
      go_wp2_with fail
      with_reducible refine (rsame_ok _ A.r.o A'.r.o t.right.length A.r.c A'.r.c A.r.b A'.r.b A.r.f A'.r.f t.right HT2.out.r HU2.out.r HT2.out.ln.2.1).mono ?_
      rintro e w3 ⟨rfl, hb⟩
      have HB3 := Lib.hid (bel_then HB2.out hb)
      have HX3 := Lib.hid (Blk.below HX2.out hb (Blk.lt HX2.out))
      have HY3 := Lib.hid (Blk.below HY2.out hb (Blk.lt HY2.out))
      have HT3 := Lib.hid (HT2.out.below hb)
      have HU3 := Lib.hid (HU2.out.below hb)
      clear hb c2 d2
      have c3 := TBox.c3 HX3.out
      have d3 := TBox.c3 HY3.out
      go_wp2_with fail
      with_reducible refine (rsame_ok _ A.p.o A'.p.o t.par.length A.p.c A'.p.c A.p.b A'.p.b A.p.f A'.p.f t.par HT3.out.p HU3.out.p HT3.out.ln.2.2.1).mono ?_
      rintro e w4 ⟨rfl, hb⟩
      have HB4 := Lib.hid (bel_then HB3.out hb)
      have HX4 := Lib.hid (Blk.below HX3.out hb (Blk.lt HX3.out))
      have HY4 := Lib.hid (Blk.below HY3.out hb (Blk.lt HY3.out))
      have HT4 := Lib.hid (HT3.out.below hb)
      have HU4 := Lib.hid (HU3.out.below hb)
      clear hb c3 d3
      have c5 := TBox.c5 HX4.out
      have d5 := TBox.c5 HY4.out
      go_wp2_with fail
      with_reducible refine (rsame_ok _ A.s.o A'.s.o t.siz.length A.s.c A'.s.c A.s.b A'.s.b A.s.f A'.s.f t.siz HT4.out.s HU4.out.s HT4.out.ln.2.2.2.2).mono ?_
      rintro e w5 ⟨rfl, hb⟩
      have HB5 := Lib.hid (bel_then HB4.out hb)
      have HX5 := Lib.hid (Blk.below HX4.out hb (Blk.lt HX4.out))
      have HY5 := Lib.hid (Blk.below HY4.out hb (Blk.lt HY4.out))
      have HT5 := Lib.hid (HT4.out.below hb)
      have HU5 := Lib.hid (HU4.out.below hb)
      clear hb c5 d5
      go_wp2_with fail
      go_ret
      exact ⟨rfl, HW.out.trans (HB5.out.mono (by have := HW.out.size; rw [HXE.out] at this; exact this)) |> fun h => by rw [HXE.out]; exact h⟩

end Go.Proofs.YthacjealoomioaaGreatDoor

/- Reference of layer 18: a tree that grows in memory; node. -/
namespace Go.Proofs.YthacjealoomioaaGreatDoor
set_option linter.unusedVariables false
set_option linter.unusedSimpArgs false
open Go.RowKit

def Tr.at (t : Tr) (i : Nat) : List Int := if i = 0 then t.left else if i = 1 then t.right else if i = 2 then t.par else if i = 3 then t.hgt else t.siz
def Tr.put (t : Tr) (i : Nat) (z : List Int) : Tr := ⟨t.lv, if i = 0 then z else t.left, if i = 1 then z else t.right, if i = 2 then z else t.par, if i = 3 then z else t.hgt, if 4 ≤ i then z else t.siz⟩

end Go.Proofs.YthacjealoomioaaGreatDoor

/- Reference of layer 18: node. -/
namespace Go.Proofs.YthacjealoomioaaGreatDoor
set_option linter.unusedVariables false
set_option linter.unusedSimpArgs false
open Go.RowKit

def Tr.add (t : Tr) (l r h s : Int) : Tr := ⟨t.lv, t.left ++ [l], t.right ++ [r], t.par ++ [-1], t.hgt ++ [h], t.siz ++ [s]⟩

end Go.Proofs.YthacjealoomioaaGreatDoor

/- The statements' graphs: Edges. -/
namespace Go.Proofs.YthacjealoomioaaGreatDoor
set_option linter.unusedVariables false
set_option linter.unusedSimpArgs false
open Go.RowKit

/-- The edges that the first i triples choose. -/
def egF (n : Nat) (F : Nat → Nat → Nat) : Nat → List Ed
  | 0 => []
  | i + 1 => if (egF n F i).length < 120 ∧ F i 0 % n ≠ F i 1 % n then egF n F i ++ [⟨((F i 0 % n : Nat) : Int), ((F i 1 % n : Nat) : Int), ((F i 2 % 16 : Nat) : Int) - 5⟩] else egF n F i

theorem egF_len (n : Nat) (F : Nat → Nat → Nat) : ∀ i, (egF n F i).length ≤ 120
  | 0 => by simp [egF]
  | i + 1 => by
    rw [egF]
    have := egF_len n F i
    split
    · rw [List.length_append, List.length_singleton]; omega
    · exact this
theorem egF_stop {n : Nat} {F : Nat → Nat → Nat} {i : Nat} (h : ¬ (egF n F i).length < 120) : ∀ d, egF n F (i + d) = egF n F i
  | 0 => rfl
  | d + 1 => by
    have ih := egF_stop h d
    rw [← Nat.add_assoc, egF, ih, if_neg (fun q => h q.1)]
theorem egF_ok {n : Nat} (hn : 1 ≤ n ∧ n ≤ 50) (F : Nat → Nat → Nat) : ∀ i, GOk n (egF n F i)
  | 0 => ⟨by omega, by simp [egF], fun i hi => by simp [egF] at hi⟩
  | i + 1 => by
    have ih := egF_ok hn F i
    have hl := egF_len n F (i + 1)
    refine ⟨by omega, by omega, fun j hj => ?_⟩
    rw [egF] at hj ⊢
    split at hj
    · rename_i hc
      rw [if_pos hc]
      rw [List.length_append, List.length_singleton] at hj
      have h0 : F i 0 % n < n := Nat.mod_lt _ (by omega)
      have h1 : F i 1 % n < n := Nat.mod_lt _ (by omega)
      by_cases hji : j < (egF n F i).length
      · have e : EA (egF n F i ++ [⟨((F i 0 % n : Nat) : Int), ((F i 1 % n : Nat) : Int), ((F i 2 % 16 : Nat) : Int) - 5⟩]) j = EA (egF n F i) j := by
          unfold EA; rw [List.getD_eq_getElem?_getD, List.getElem?_append_left hji, List.getD_eq_getElem?_getD]
        rw [e]; exact ih.ed j hji
      · have hje : j = (egF n F i).length := by omega
        have e : EA (egF n F i ++ [⟨((F i 0 % n : Nat) : Int), ((F i 1 % n : Nat) : Int), ((F i 2 % 16 : Nat) : Int) - 5⟩]) j = ⟨((F i 0 % n : Nat) : Int), ((F i 1 % n : Nat) : Int), ((F i 2 % 16 : Nat) : Int) - 5⟩ := by
          unfold EA; rw [List.getD_eq_getElem?_getD, hje, List.getElem?_append_right (Nat.le_refl _), Nat.sub_self]; rfl
        rw [e]
        refine ⟨by simp only; omega, by simp only; omega, by simp only; omega, by simp only; omega, ?_⟩
        simp only
        intro q
        exact hc.2 (by omega)
    · rename_i hc
      rw [if_neg hc]
      exact ih.ed j hj

theorem edCells_snoc (l : List Ed) (e : Ed) : edCells (l ++ [e]) = edCells l ++ [.int .i64 e.U, .int .i64 e.V, .int .i64 e.W] := by
  unfold edCells; rw [List.flatMap_append]; rfl

structure EgPost (w : World) (n : Nat) (L : List Ed) (e : Ending) (w' : World) : Prop where
  out : ∃ v, e = .returned (.tuple #[.int .i64 n, v]) ∧ NewRow w 82 3 L.length (edCells L) v w'

/-- Triples of bytes. -/
structure BRow (w : World) (ao : Option Addr) (len b off : Nat) (F : Nat → Nat → Nat) : Prop where
  lim : len ≤ 9223372036854775807
  adr : 0 < len → ao = some ⟨b, off, none⟩
  cell : ∀ i, i < len → ∀ j, j < 3 → w.cell? ⟨b, off + (i * 3 + j), none⟩ = some (.int .u8 (F i j : Int))
  le : ∀ i, i < len → ∀ j, j < 3 → F i j ≤ 255

theorem BRow.below {w w' : World} {ao : Option Addr} {len b off : Nat} {F : Nat → Nat → Nat} (h : BRow w ao len b off F) (hb : Below w.heap.size w w') : BRow w' ao len b off F :=
  ⟨h.lim, h.adr, fun i hi j hj => (hb.cell (World.block_lt_of_cell? w _ (h.cell i hi j hj))).trans (h.cell i hi j hj), h.le⟩

theorem app_edge {B : Nat} {wr w6 : World} {o : Obj} {v v6 : Value} {L : List Ed} {x : Ed} (hv : ∀ k, v.ownBlock = some k → B ≤ k) (hB : B ≤ wr.heap.size) (ho : w6.ownsRow 0 82 3 v6 (L.length + 1) (edCells L ++ [.int .i64 x.U, .int .i64 x.V, .int .i64 x.W])) (hg : (wr.alloc o).grownBy w6 v.ownBlock)
    (hn : ∀ k, v6.ownBlock = some k → v.ownBlock = some k ∨ (wr.alloc o).heap.size ≤ k) : w6.ownsRow 0 82 3 v6 (L ++ [x]).length (edCells (L ++ [x])) ∧ (∀ k, v6.ownBlock = some k → B ≤ k) ∧ Below B wr w6 := by
  refine ⟨by rw [edCells_snoc, List.length_append]; exact ho, fun k hk => ?_, ((Below.refl _ _).alloc hB o).trans (grown_below hg hv (by simp; omega))⟩
  rcases hn k hk with e | e
  · exact hv k e
  · simp at e; omega

theorem tmod_nat (a b : Nat) : ((a : Int).tmod (b : Int)) = ((a % b : Nat) : Int) := by
  rw [Int.natCast_emod, Int.tmod_eq_emod_of_nonneg (by omega)]

set_option maxHeartbeats 4000000 in
set_option maxRecDepth 100000 in
theorem edges_ok (w : World) (sz : Nat) (hsz : sz ≤ 255) (ao : Option Addr) (len cap b off : Nat) (F : Nat → Nat → Nat) (hr : BRow w ao len b off F) :
    Calls Tryz.prog 52 #[.int .u8 sz, .slice ao len cap] w (EgPost w (1 + sz % 50) (egF (1 + sz % 50) F len)) := by
  have HR := Lib.hid hr
  have hlim := hr.lim
  clear hr
  obtain ⟨n, HN⟩ : ∃ n, Hid (1 + sz % 50 = n) := ⟨_, rfl⟩
  have hn : 1 ≤ n ∧ n ≤ 50 := by have := HN.out; omega
  rw [HN.out]
  have hs0 : (0 : Int) ≤ (sz : Int) := by omega
  have hs1 : (sz : Int) ≤ 255 := by omega
  go_enter Tryz.func52, Tryz.ntmps52
  go_wp2_with fail
  have hcast : 1 + (sz : Int) % 50 = (n : Int) := by have := HN.out; omega
  simp only [hcast]
  clear hcast hs0 hs1
  go_loopw [7, 8] (fun v s wr => ∃ i : Nat, i ≤ len ∧ s = .int .i64 i ∧ wr.ownsRow 0 82 3 v (egF n F i).length (edCells (egF n F i)) ∧ (∀ y, v.ownBlock = some y → w.heap.size ≤ y) ∧ Below w.heap.size w wr) (fun _ s _ => len - (intOf s).toNat)
  case atStart => exact ⟨0, Nat.zero_le _, rfl, World.ownsRow_nil _ _ _ _, fun y hy => (by cases hy), Below.refl _ _⟩
  case round =>
    obtain ⟨i, hi, rfl, hx, hxn, hb⟩ := hrel
    have HX := Lib.hid hx
    have HXN := Lib.hid hxn
    have HB := Lib.hid hb
    have hel := egF_len n F i
    have HEL := Lib.hid hel
    clear hx hxn hb
    by_cases hil : i < len
    · have ti : decide (i < len) = true := decide_eq_true hil
      have hstep : egF n F (i + 1) = if (egF n F i).length < 120 ∧ F i 0 % n ≠ F i 1 % n then egF n F i ++ [⟨((F i 0 % n : Nat) : Int), ((F i 1 % n : Nat) : Int), ((F i 2 % 16 : Nat) : Int) - 5⟩] else egF n F i := rfl
      by_cases hfull : (egF n F i).length < 120
      · obtain ⟨L, HL⟩ : ∃ L, Hid ((egF n F i).length = L) := ⟨_, rfl⟩
        have HSTOP : Hid True := trivial
        rw [HL.out] at HX hel hfull
        obtain ⟨ao1, cp1, rfl⟩ := owns_slice HX.out
        have tf : decide (L < 120) = true := decide_eq_true hfull
        have tf' : decide ((L : Int) < 120) = true := by simp; omega
        have hRW := HR.out.below HB.out
        have c0 : wr.cell? ⟨b, off + i * 3, none⟩ = some (.int .u8 (F i 0 : Int)) := hRW.cell i hil 0 (by omega)
        have c1 : wr.cell? ⟨b, off + i * 3 + 1, none⟩ = some (.int .u8 (F i 1 : Int)) := hRW.cell i hil 1 (by omega)
        have c2 : wr.cell? ⟨b, off + i * 3 + 2, none⟩ = some (.int .u8 (F i 2 : Int)) := hRW.cell i hil 2 (by omega)
        have l0 := hRW.le i hil 0 (by omega)
        have l1 := hRW.le i hil 1 (by omega)
        have l2 := hRW.le i hil 2 (by omega)
        obtain rfl := hRW.adr (by omega)
        have HST := Lib.hid hstep
        generalize F i 0 = p0 at *
        generalize F i 1 = p1 at *
        generalize F i 2 = p2 at *
        have m0 : (p0 : Int).tmod (n : Int) = ((p0 % n : Nat) : Int) := tmod_nat p0 n
        have m1 : (p1 : Int).tmod (n : Int) = ((p1 % n : Nat) : Int) := tmod_nat p1 n
        have hu : p0 % n < n := Nat.mod_lt _ (by omega)
        have hv : p1 % n < n := Nat.mod_lt _ (by omega)
        generalize p0 % n = u at *
        generalize p1 % n = v at *
        have w0 : IntKind.i64.wrap (p0 : Int) = (p0 : Int) := IntWalk.i64_in _ (by omega)
        have w1 : IntKind.i64.wrap (p1 : Int) = (p1 : Int) := IntWalk.i64_in _ (by omega)
        have w2 : IntKind.i64.wrap (u : Int) = (u : Int) := IntWalk.i64_in _ (by omega)
        have w3 : IntKind.i64.wrap (v : Int) = (v : Int) := IntWalk.i64_in _ (by omega)
        have t1 : (i : Int) < (len : Int) := by omega
        have t2 : (0 : Int) ≤ (i : Int) := by omega
        have t3 : ((n : Int) == 0) = false := by simp; omega
        have HFU := Lib.hid hfull
        clear hRW hstep hil hfull
        go_wp2_with fail
        go_quiet (fail)
        have HX2 : Hid ((wr.drewN nq).ownsRow 0 82 3 (.slice ao1 L cp1) L (edCells (egF n F i))) := HX.out
        have HB2 := Lib.hid (bel_drewN HB.out nq)
        replace c2 : (wr.drewN nq).cell? ⟨b, off + i * 3 + 2, none⟩ = some (.int .u8 (p2 : Int)) := c2
        have HHL := Lib.hid HL.out
        clear c0 c1 m0 m1 w0 w1 w2 w3 t3 tf tf' HX HB
        generalize wr.drewN nq = w4 at *
        by_cases huv : u = v
        · have tu : ((u : Int) != (v : Int)) = false := by simp [huv]
          have HEQ : Hid (egF n F (i + 1) = egF n F i) := HST.out.trans (if_neg (fun q => q.2 huv))
          clear huv
          go_wp2_with fail
          go_roundw
          case rel => exact ⟨i + 1, by omega, by go_num, by rw [HEQ.out, HHL.out]; exact HX2.out, HXN.out, HB2.out⟩
          case measure => simp [intOf]; omega
        · have tu : ((u : Int) != (v : Int)) = true := by simp; omega
          have HEQ : Hid (egF n F (i + 1) = egF n F i ++ [⟨(u : Int), (v : Int), (p2 : Int) % 16 - 5⟩]) := by
            show _ = _
            rw [HST.out, if_pos ⟨by rw [HHL.out]; exact HFU.out, huv⟩]
            congr 2
          clear huv
          have b0 : (0 : Int) ≤ (p2 : Int) := by omega
          have b1 : (p2 : Int) ≤ 255 := by omega
          have HOW := Lib.hid (HX2.out.alloc (.cells #[.int .i64 u, .int .i64 v, .int .i64 ((p2 : Int) % 16 - 5)] 82))
          have HNW := Lib.hid (news_new w4 82 [.int .i64 u, .int .i64 v, .int .i64 ((p2 : Int) % 16 - 5)])
          go_wp2_with (at_builtin; apply keepIt)
          apply Lib.hid
          refine wpList_appendB 82 (.agg #[.int .i64 0, .int .i64 0, .int .i64 0]) 3 24 Tryz.underlying22 Tryz.infoEdge rfl (by decide) _ L _ rfl HOW.out ⟨w4.heap.size, 0, none⟩ 1 1 [.int .i64 u, .int .i64 v, .int .i64 ((p2 : Int) % 16 - 5)] rfl rfl HNW.out (by simp [Value.oneCell']) (by unfold maxLen; omega) (by omega) ?_
          intro v6 w6 ho6 hg6 hn6
          rw [← HHL.out] at ho6
          obtain ⟨hv6, hvn6, hb6⟩ := app_edge (x := ⟨(u : Int), (v : Int), (p2 : Int) % 16 - 5⟩) HXN.out HB2.out.size ho6 hg6 hn6
          rw [← HEQ.out] at hv6
          have HV6 := Lib.hid hv6
          have HN6 := Lib.hid hvn6
          have HB6 := Lib.hid (HB2.out.trans hb6)
          clear ho6 hg6 hn6 hv6 hvn6 hb6
          go_wp2_with fail
          go_roundw
          case rel => exact ⟨i + 1, by omega, by go_num, HV6.out, HN6.out, HB6.out⟩
          case measure => simp [intOf]; omega
      · have HEQ : Hid (egF n F len = egF n F i) := by
          show _ = _
          have := egF_stop hfull (len - i)
          rw [show i + (len - i) = len by omega] at this
          exact this
        obtain ⟨L, HL⟩ : ∃ L, Hid ((egF n F i).length = L) := ⟨_, rfl⟩
        rw [HL.out] at HX hel hfull
        obtain ⟨ao1, cp1, rfl⟩ := owns_slice HX.out
        have tf : decide (L < 120) = false := decide_eq_false hfull
        have tf' : decide ((L : Int) < 120) = false := by simp; omega
        clear hfull hstep hil
        go_wp2_with fail
        go_ret2
        rw [HEQ.out]
        exact ⟨⟨_, rfl, by rw [HL.out]; exact HX.out, HB.out, HXN.out⟩⟩
    · obtain rfl : i = len := by omega
      have ti : decide (i < i) = false := by simp
      go_wp2_with fail
      go_ret2
      exact ⟨⟨_, rfl, HX.out, HB.out, HXN.out⟩⟩


end Go.Proofs.YthacjealoomioaaGreatDoor

/- The statements about the trees of graphs: what they begin with. ReconValid. -/
namespace Go.Proofs.YthacjealoomioaaGreatDoor
set_option linter.unusedVariables false
set_option linter.unusedSimpArgs false
open Go.RowKit

/-- What Build returns of edges without a fault. -/
structure BgPost (w : World) (n : Nat) (L : List Ed) (e : Ending) (w' : World) : Prop where
  out : ∃ B : BB, e = .returned (.tuple #[(B.ta (n + FN n L)).agg (bdL n L), .int .i64 0]) ∧ BdT w' B n (n + FN n L) (bdL n L) ∧ ∀ k, B.mem k → w.heap.size ≤ k
  bel : Below w.heap.size w w'

theorem owns_nil_cap {w : World} {T size n : Nat} {ao : Option Addr} {m cap : Nat} {xs : List Value} (h : w.ownsRow 0 T size (.slice ao m cap) n xs) : ao = none → cap = 0 := by
  intro e
  subst e
  rcases h.2 with ⟨h', _⟩ | ⟨g, cap', cur, h', _⟩
  · injection h'
  · cases h'

theorem build_g (w : World) (n : Nat) (v : Value) (L : List Ed) (hg : GOk n L) (hown : w.ownsRow 0 82 3 v L.length (edCells L)) :
    ∃ ao cap, v = .slice ao L.length cap ∧ Calls Tryz.prog 53 #[.int .i64 n, .slice ao L.length cap] w (BgPost w n L) := by
  obtain ⟨ao, cap, b, rfl, he, _⟩ := ERow.of_owns hown
  have h1 := hg.hn
  have h2 := hg.hl
  refine ⟨ao, cap, rfl, (rbuild_ok w n ao L.length cap b 0 L he (by omega) (owns_nil_cap hown) (by omega)).mono fun e w' h => ⟨?_, h.bel⟩⟩
  obtain ⟨B, rfl, hbt, hn⟩ := h.ok hg.err
  have htv := bdL_tv3 hg
  have e1 : (bdL n L).lv = (n : Int) := htv.lv
  refine ⟨B, ?_, ?_, hn⟩
  · rw [Int.toNat_natCast]
    show _ = Ending.returned (.tuple #[.agg #[.int .i64 (bdL n L).lv, .slice (some ⟨B.lb, 0, none⟩) (bdL n L).left.length (n + FN n L), .slice (some ⟨B.rb, 0, none⟩) (bdL n L).right.length (n + FN n L), .slice (some ⟨B.pb, 0, none⟩) (bdL n L).par.length (n + FN n L), .slice (some ⟨B.hb, 0, none⟩) (bdL n L).hgt.length (n + FN n L), .slice (some ⟨B.sb, 0, none⟩) (bdL n L).siz.length (n + FN n L)], .int .i64 0])
    rw [e1, htv.ll, htv.rl, htv.hl, htv.sl, htv.pl]
  · rw [Int.toNat_natCast, htv.pl] at hbt
    exact hbt

/-- All that is known of the tree of a graph. -/
structure GTree (n m : Nat) (L : List Ed) (T : Tr) (ls : List Nat) : Prop where
  g : GOk n L
  eq : T = bdL n L
  meq : m = n + FN n L
  lseq : ls = lsB n L (FN n L)
  tv : TV T n m ls
  ls : lsL T = some ls
  two : m ≤ 2 * n

theorem gtree {n : Nat} {L : List Ed} (hg : GOk n L) : GTree n (n + FN n L) L (bdL n L) (lsB n L (FN n L)) :=
  ⟨hg, rfl, rfl, rfl, bdL_tv3 hg, (bdL_tv3 hg).ls_some, (bdL_tv3 hg).two⟩

theorem GTree.roots {n m : Nat} {L : List Ed} {T : Tr} {ls : List Nat} (h : GTree n m L T ls) : rootsO T = some (rootsL T n m ls) := by
  rw [rootsO_some h.ls, h.tv.lv, h.tv.pl, Int.toNat_natCast]
theorem GTree.leaves {n m : Nat} {L : List Ed} {T : Tr} {ls : List Nat} (h : GTree n m L T ls) {x : Nat} (hx : x < m) : leavesO T x = some (leavesL T n m x) := by
  rw [leavesO_some h.ls (by rw [h.tv.pl]; omega), h.tv.lv, h.tv.pl, Int.toNat_natCast, Int.toNat_natCast]
theorem GTree.top {n m : Nat} {L : List Ed} {T : Tr} {ls : List Nat} (h : GTree n m L T ls) (th : Int) {v : Nat} (hv : v < n) : topV T v th = (((ab T m th v : Nat) : Int), 0) := by
  unfold topV
  rw [if_neg (by rw [h.ls]; simp), if_neg (by rw [h.tv.lv]; omega), h.tv.pl, Int.toNat_natCast]

-- LAYER
theorem GTree.agg {n m : Nat} {L : List Ed} {T : Tr} {ls : List Nat} (h : GTree n m L T ls) (A : TA) : A.agg T = .agg #[.int .i64 (n : Int), .slice A.l.o m A.l.c, .slice A.r.o m A.r.c, .slice A.p.o m A.p.c, .slice A.h.o m A.h.c, .slice A.s.o m A.s.c] := by
  show Value.agg #[.int .i64 T.lv, .slice A.l.o T.left.length A.l.c, .slice A.r.o T.right.length A.r.c, .slice A.p.o T.par.length A.p.c, .slice A.h.o T.hgt.length A.h.c, .slice A.s.o T.siz.length A.s.c] = _
  rw [h.tv.lv, h.tv.ll, h.tv.rl, h.tv.pl, h.tv.hl, h.tv.sl]

def GBox (W : World) (x n m : Nat) (A : TA) : Prop := Blk W x 27 [.int .i64 (n : Int), .slice A.l.o m A.l.c, .slice A.r.o m A.r.c, .slice A.p.o m A.p.c, .slice A.h.o m A.h.c, .slice A.s.o m A.s.c]
theorem GBox.new (w : World) (n m : Nat) (A : TA) : GBox (w.alloc (.cells #[.int .i64 (n : Int), .slice A.l.o m A.l.c, .slice A.r.o m A.r.c, .slice A.p.o m A.p.c, .slice A.h.o m A.h.c, .slice A.s.o m A.s.c] 27)) w.heap.size n m A := Blk.new _ _ _
theorem GBox.below {W W' : World} {x n m : Nat} {A : TA} (h : GBox W x n m A) (hb : Below W.heap.size W W') : GBox W' x n m A := Blk.below h hb (Blk.lt h)
theorem GBox.six {W : World} {x n m : Nat} {A : TA} (h : GBox W x n m A) : W.cell? ⟨x, 0, none⟩ = some (.int .i64 (n : Int)) ∧ W.cell? ⟨x, 1, none⟩ = some (.slice A.l.o m A.l.c) ∧ W.cell? ⟨x, 2, none⟩ = some (.slice A.r.o m A.r.c) ∧ W.cell? ⟨x, 3, none⟩ = some (.slice A.p.o m A.p.c) ∧
    W.cell? ⟨x, 4, none⟩ = some (.slice A.h.o m A.h.c) ∧ W.cell? ⟨x, 5, none⟩ = some (.slice A.s.o m A.s.c) :=
  ⟨Blk.cell h (i := 0) rfl, Blk.cell h (i := 1) rfl, Blk.cell h (i := 2) rfl, Blk.cell h (i := 3) rfl, Blk.cell h (i := 4) rfl, Blk.cell h (i := 5) rfl⟩

theorem LnPost.some {w w' : World} {l : List Nat} {e : Ending} (h : LnPost w (some l) e w') : RowPost w 3 1 l.length (natV l) e w' := by
  obtain ⟨v, e1, h1, h2⟩ := h.ok l rfl
  exact ⟨v, e1, h1, h.bel, h2⟩

section
variable {n m : Nat} {L : List Ed} {T : Tr} {ls : List Nat} (hg : GTree n m L T ls) {A : TA} {W : World} (ht : TreeAt W A T)
include hg ht
end

theorem six_keepG {W w' : World} {x n m : Nat} {A : TA} (h : Hid (GBox W x n m A)) (hb : Below W.heap.size W w') :
    w'.cell? ⟨x, 0, none⟩ = some (.int .i64 (n : Int)) ∧ w'.cell? ⟨x, 1, none⟩ = some (.slice A.l.o m A.l.c) ∧ w'.cell? ⟨x, 2, none⟩ = some (.slice A.r.o m A.r.c) ∧ w'.cell? ⟨x, 3, none⟩ = some (.slice A.p.o m A.p.c) ∧
    w'.cell? ⟨x, 4, none⟩ = some (.slice A.h.o m A.h.c) ∧ w'.cell? ⟨x, 5, none⟩ = some (.slice A.s.o m A.s.c) ∧ Below W.heap.size W w' := by
  obtain ⟨a, b, c, d, e, f⟩ := (h.out.below hb).six
  exact ⟨a, b, c, d, e, f, hb⟩

end Go.Proofs.YthacjealoomioaaGreatDoor
