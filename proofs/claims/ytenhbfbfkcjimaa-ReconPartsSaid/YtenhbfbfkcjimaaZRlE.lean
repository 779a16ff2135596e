/- The statements' graphs: Edges. -/
import Derived.Test.YtenhbfbfkcjimaaZRlB
namespace Go.Proofs.Ytenhbfbfkcjimaa
set_option linter.unusedVariables false
set_option linter.unusedSimpArgs false
open Go.RowKit

/-- The edges that the first i triples choose. -/
def egF (n : Nat) (F : Nat → Nat → Nat) : Nat → List Ed
  | 0 => []
  | i + 1 => if (egF n F i).length < 120 ∧ F i 0 % n ≠ F i 1 % n then egF n F i ++ [⟨((F i 0 % n : Nat) : Int), ((F i 1 % n : Nat) : Int), ((F i 2 % 16 : Nat) : Int) - 5⟩] else egF n F i

theorem egF_len (n : Nat) (F : Nat → Nat → Nat) : ∀ i, (egF n F i).length ≤ 120
  | 0 => by simp [egF]
  | i + 1 => by
    rw [egF]
    have := egF_len n F i
    split
    · rw [List.length_append, List.length_singleton]; omega
    · exact this
theorem egF_stop {n : Nat} {F : Nat → Nat → Nat} {i : Nat} (h : ¬ (egF n F i).length < 120) : ∀ d, egF n F (i + d) = egF n F i
  | 0 => rfl
  | d + 1 => by
    have ih := egF_stop h d
    rw [← Nat.add_assoc, egF, ih, if_neg (fun q => h q.1)]
theorem egF_ok {n : Nat} (hn : 1 ≤ n ∧ n ≤ 50) (F : Nat → Nat → Nat) : ∀ i, GOk n (egF n F i)
  | 0 => ⟨by omega, by simp [egF], fun i hi => by simp [egF] at hi⟩
  | i + 1 => by
    have ih := egF_ok hn F i
    have hl := egF_len n F (i + 1)
    refine ⟨by omega, by omega, fun j hj => ?_⟩
    rw [egF] at hj ⊢
    split at hj
    · rename_i hc
      rw [if_pos hc]
      rw [List.length_append, List.length_singleton] at hj
      have h0 : F i 0 % n < n := Nat.mod_lt _ (by omega)
      have h1 : F i 1 % n < n := Nat.mod_lt _ (by omega)
      by_cases hji : j < (egF n F i).length
      · have e : EA (egF n F i ++ [⟨((F i 0 % n : Nat) : Int), ((F i 1 % n : Nat) : Int), ((F i 2 % 16 : Nat) : Int) - 5⟩]) j = EA (egF n F i) j := by
          unfold EA; rw [List.getD_eq_getElem?_getD, List.getElem?_append_left hji, List.getD_eq_getElem?_getD]
        rw [e]; exact ih.ed j hji
      · have hje : j = (egF n F i).length := by omega
        have e : EA (egF n F i ++ [⟨((F i 0 % n : Nat) : Int), ((F i 1 % n : Nat) : Int), ((F i 2 % 16 : Nat) : Int) - 5⟩]) j = ⟨((F i 0 % n : Nat) : Int), ((F i 1 % n : Nat) : Int), ((F i 2 % 16 : Nat) : Int) - 5⟩ := by
          unfold EA; rw [List.getD_eq_getElem?_getD, hje, List.getElem?_append_right (Nat.le_refl _), Nat.sub_self]; rfl
        rw [e]
        refine ⟨by simp only; omega, by simp only; omega, by simp only; omega, by simp only; omega, ?_⟩
        simp only
        intro q
        exact hc.2 (by omega)
    · rename_i hc
      rw [if_neg hc]
      exact ih.ed j hj

theorem edCells_snoc (l : List Ed) (e : Ed) : edCells (l ++ [e]) = edCells l ++ [.int .i64 e.U, .int .i64 e.V, .int .i64 e.W] := by
  unfold edCells; rw [List.flatMap_append]; rfl

structure EgPost (w : World) (n : Nat) (L : List Ed) (e : Ending) (w' : World) : Prop where
  out : ∃ v, e = .returned (.tuple #[.int .i64 n, v]) ∧ NewRow w 59 3 L.length (edCells L) v w'

/-- Triples of bytes. -/
structure BRow (w : World) (ao : Option Addr) (len b off : Nat) (F : Nat → Nat → Nat) : Prop where
  lim : len ≤ 9223372036854775807
  adr : 0 < len → ao = some ⟨b, off, none⟩
  cell : ∀ i, i < len → ∀ j, j < 3 → w.cell? ⟨b, off + (i * 3 + j), none⟩ = some (.int .u8 (F i j : Int))
  le : ∀ i, i < len → ∀ j, j < 3 → F i j ≤ 255

theorem BRow.below {w w' : World} {ao : Option Addr} {len b off : Nat} {F : Nat → Nat → Nat} (h : BRow w ao len b off F) (hb : Below w.heap.size w w') : BRow w' ao len b off F :=
  ⟨h.lim, h.adr, fun i hi j hj => (hb.cell (World.block_lt_of_cell? w _ (h.cell i hi j hj))).trans (h.cell i hi j hj), h.le⟩

theorem app_edge {B : Nat} {wr w6 : World} {o : Obj} {v v6 : Value} {L : List Ed} {x : Ed} (hv : ∀ k, v.ownBlock = some k → B ≤ k) (hB : B ≤ wr.heap.size) (ho : w6.ownsRow 0 59 3 v6 (L.length + 1) (edCells L ++ [.int .i64 x.U, .int .i64 x.V, .int .i64 x.W])) (hg : (wr.alloc o).grownBy w6 v.ownBlock)
    (hn : ∀ k, v6.ownBlock = some k → v.ownBlock = some k ∨ (wr.alloc o).heap.size ≤ k) : w6.ownsRow 0 59 3 v6 (L ++ [x]).length (edCells (L ++ [x])) ∧ (∀ k, v6.ownBlock = some k → B ≤ k) ∧ Below B wr w6 := by
  refine ⟨by rw [edCells_snoc, List.length_append]; exact ho, fun k hk => ?_, ((Below.refl _ _).alloc hB o).trans (grown_below hg hv (by simp; omega))⟩
  rcases hn k hk with e | e
  · exact hv k e
  · simp at e; omega

theorem tmod_nat (a b : Nat) : ((a : Int).tmod (b : Int)) = ((a % b : Nat) : Int) := by
  rw [Int.natCast_emod, Int.tmod_eq_emod_of_nonneg (by omega)]

set_option maxHeartbeats 4000000 in
set_option maxRecDepth 100000 in
theorem edges_ok (w : World) (sz : Nat) (hsz : sz ≤ 255) (ao : Option Addr) (len cap b off : Nat) (F : Nat → Nat → Nat) (hr : BRow w ao len b off F) :
    Calls Try.prog 15 #[.int .u8 sz, .slice ao len cap] w (EgPost w (1 + sz % 50) (egF (1 + sz % 50) F len)) := by
  have HR := Lib.hid hr
  have hlim := hr.lim
  clear hr
  obtain ⟨n, HN⟩ : ∃ n, Hid (1 + sz % 50 = n) := ⟨_, rfl⟩
  have hn : 1 ≤ n ∧ n ≤ 50 := by have := HN.out; omega
  rw [HN.out]
  have hs0 : (0 : Int) ≤ (sz : Int) := by omega
  have hs1 : (sz : Int) ≤ 255 := by omega
  go_enter Try.func15, Try.ntmps15
  go_wp2_with fail
  have hcast : 1 + (sz : Int) % 50 = (n : Int) := by have := HN.out; omega
  simp only [hcast]
  clear hcast hs0 hs1
  go_loopw [7, 8] (fun v s wr => ∃ i : Nat, i ≤ len ∧ s = .int .i64 i ∧ wr.ownsRow 0 59 3 v (egF n F i).length (edCells (egF n F i)) ∧ (∀ y, v.ownBlock = some y → w.heap.size ≤ y) ∧ Below w.heap.size w wr) (fun _ s _ => len - (intOf s).toNat)
  case atStart => exact ⟨0, Nat.zero_le _, rfl, World.ownsRow_nil _ _ _ _, fun y hy => (by cases hy), Below.refl _ _⟩
  case round =>
    obtain ⟨i, hi, rfl, hx, hxn, hb⟩ := hrel
    have HX := Lib.hid hx
    have HXN := Lib.hid hxn
    have HB := Lib.hid hb
    have hel := egF_len n F i
    have HEL := Lib.hid hel
    clear hx hxn hb
    by_cases hil : i < len
    · have ti : decide (i < len) = true := decide_eq_true hil
      have hstep : egF n F (i + 1) = if (egF n F i).length < 120 ∧ F i 0 % n ≠ F i 1 % n then egF n F i ++ [⟨((F i 0 % n : Nat) : Int), ((F i 1 % n : Nat) : Int), ((F i 2 % 16 : Nat) : Int) - 5⟩] else egF n F i := rfl
      by_cases hfull : (egF n F i).length < 120
      · obtain ⟨L, HL⟩ : ∃ L, Hid ((egF n F i).length = L) := ⟨_, rfl⟩
        have HSTOP : Hid True := trivial
        rw [HL.out] at HX hel hfull
        obtain ⟨ao1, cp1, rfl⟩ := owns_slice HX.out
        have tf : decide (L < 120) = true := decide_eq_true hfull
        have tf' : decide ((L : Int) < 120) = true := by simp; omega
        have hRW := HR.out.below HB.out
        have c0 : wr.cell? ⟨b, off + i * 3, none⟩ = some (.int .u8 (F i 0 : Int)) := hRW.cell i hil 0 (by omega)
        have c1 : wr.cell? ⟨b, off + i * 3 + 1, none⟩ = some (.int .u8 (F i 1 : Int)) := hRW.cell i hil 1 (by omega)
        have c2 : wr.cell? ⟨b, off + i * 3 + 2, none⟩ = some (.int .u8 (F i 2 : Int)) := hRW.cell i hil 2 (by omega)
        have l0 := hRW.le i hil 0 (by omega)
        have l1 := hRW.le i hil 1 (by omega)
        have l2 := hRW.le i hil 2 (by omega)
        obtain rfl := hRW.adr (by omega)
        have HST := Lib.hid hstep
        generalize F i 0 = p0 at *
        generalize F i 1 = p1 at *
        generalize F i 2 = p2 at *
        have m0 : (p0 : Int).tmod (n : Int) = ((p0 % n : Nat) : Int) := tmod_nat p0 n
        have m1 : (p1 : Int).tmod (n : Int) = ((p1 % n : Nat) : Int) := tmod_nat p1 n
        have hu : p0 % n < n := Nat.mod_lt _ (by omega)
        have hv : p1 % n < n := Nat.mod_lt _ (by omega)
        generalize p0 % n = u at *
        generalize p1 % n = v at *
        have w0 : IntKind.i64.wrap (p0 : Int) = (p0 : Int) := IntWalk.i64_in _ (by omega)
        have w1 : IntKind.i64.wrap (p1 : Int) = (p1 : Int) := IntWalk.i64_in _ (by omega)
        have w2 : IntKind.i64.wrap (u : Int) = (u : Int) := IntWalk.i64_in _ (by omega)
        have w3 : IntKind.i64.wrap (v : Int) = (v : Int) := IntWalk.i64_in _ (by omega)
        have t1 : (i : Int) < (len : Int) := by omega
        have t2 : (0 : Int) ≤ (i : Int) := by omega
        have t3 : ((n : Int) == 0) = false := by simp; omega
        have HFU := Lib.hid hfull
        clear hRW hstep hil hfull
        go_wp2_with fail
        go_quiet (fail)
        have HX2 : Hid ((wr.drewN nq).ownsRow 0 59 3 (.slice ao1 L cp1) L (edCells (egF n F i))) := HX.out
        have HB2 := Lib.hid (bel_drewN HB.out nq)
        replace c2 : (wr.drewN nq).cell? ⟨b, off + i * 3 + 2, none⟩ = some (.int .u8 (p2 : Int)) := c2
        have HHL := Lib.hid HL.out
        clear c0 c1 m0 m1 w0 w1 w2 w3 t3 tf tf' HX HB
        generalize wr.drewN nq = w4 at *
        by_cases huv : u = v
        · have tu : ((u : Int) != (v : Int)) = false := by simp [huv]
          have HEQ : Hid (egF n F (i + 1) = egF n F i) := HST.out.trans (if_neg (fun q => q.2 huv))
          clear huv
          go_wp2_with fail
          go_roundw
          case rel => exact ⟨i + 1, by omega, by go_num, by rw [HEQ.out, HHL.out]; exact HX2.out, HXN.out, HB2.out⟩
          case measure => simp [intOf]; omega
        · have tu : ((u : Int) != (v : Int)) = true := by simp; omega
          have HEQ : Hid (egF n F (i + 1) = egF n F i ++ [⟨(u : Int), (v : Int), (p2 : Int) % 16 - 5⟩]) := by
            show _ = _
            rw [HST.out, if_pos ⟨by rw [HHL.out]; exact HFU.out, huv⟩]
            congr 2
          clear huv
          have b0 : (0 : Int) ≤ (p2 : Int) := by omega
          have b1 : (p2 : Int) ≤ 255 := by omega
          have HOW := Lib.hid (HX2.out.alloc (.cells #[.int .i64 u, .int .i64 v, .int .i64 ((p2 : Int) % 16 - 5)] 59))
          have HNW := Lib.hid (news_new w4 59 [.int .i64 u, .int .i64 v, .int .i64 ((p2 : Int) % 16 - 5)])
          go_wp2_with (at_builtin; apply keepIt)
          apply Lib.hid
          refine wpList_appendB 59 (.agg #[.int .i64 0, .int .i64 0, .int .i64 0]) 3 24 Try.underlying22 Try.infoEdge rfl (by decide) _ L _ rfl HOW.out ⟨w4.heap.size, 0, none⟩ 1 1 [.int .i64 u, .int .i64 v, .int .i64 ((p2 : Int) % 16 - 5)] rfl rfl HNW.out (by simp [Value.oneCell']) (by unfold maxLen; omega) (by omega) ?_
          intro v6 w6 ho6 hg6 hn6
          rw [← HHL.out] at ho6
          obtain ⟨hv6, hvn6, hb6⟩ := app_edge (x := ⟨(u : Int), (v : Int), (p2 : Int) % 16 - 5⟩) HXN.out HB2.out.size ho6 hg6 hn6
          rw [← HEQ.out] at hv6
          have HV6 := Lib.hid hv6
          have HN6 := Lib.hid hvn6
          have HB6 := Lib.hid (HB2.out.trans hb6)
          clear ho6 hg6 hn6 hv6 hvn6 hb6
          go_wp2_with fail
          go_roundw
          case rel => exact ⟨i + 1, by omega, by go_num, HV6.out, HN6.out, HB6.out⟩
          case measure => simp [intOf]; omega
      · have HEQ : Hid (egF n F len = egF n F i) := by
          show _ = _
          have := egF_stop hfull (len - i)
          rw [show i + (len - i) = len by omega] at this
          exact this
        obtain ⟨L, HL⟩ : ∃ L, Hid ((egF n F i).length = L) := ⟨_, rfl⟩
        rw [HL.out] at HX hel hfull
        obtain ⟨ao1, cp1, rfl⟩ := owns_slice HX.out
        have tf : decide (L < 120) = false := decide_eq_false hfull
        have tf' : decide ((L : Int) < 120) = false := by simp; omega
        clear hfull hstep hil
        go_wp2_with fail
        go_ret2
        rw [HEQ.out]
        exact ⟨⟨_, rfl, by rw [HL.out]; exact HX.out, HB.out, HXN.out⟩⟩
    · obtain rfl : i = len := by omega
      have ti : decide (i < i) = false := by simp
      go_wp2_with fail
      go_ret2
      exact ⟨⟨_, rfl, HX.out, HB.out, HXN.out⟩⟩


end Go.Proofs.Ytenhbfbfkcjimaa
