/- Reference of layer 17: grown, Forest. -/
import Derived.Test.YtenhbfbfkcjimaaZRfG
import Derived.Test.YtenhbfbfkcjimaaZRcU
namespace Go.Proofs.Ytenhbfbfkcjimaa
set_option linter.unusedVariables false
set_option linter.unusedSimpArgs false
open Go.RowKit

theorem own_rowN {w : World} {T : TypeId} {v : Value} {n : Nat} {l : List Nat} (h : w.ownsRow 0 T 1 v n (natV l)) (hl : l.length = n) : ∃ ao cap b, v = .slice ao n cap ∧ InRow .i64 w ao n b 0 (nI l) ∧ ∀ k, v.ownBlock = some k → k = b := by
  rw [natV_nI] at h
  subst hl
  have h' : w.ownsRow 0 T 1 v (nI l).length ((nI l).map fun x => .int .i64 x) := by rw [nI_len]; exact h
  have := owns_row h'
  rw [nI_len] at this
  exact this

/-- The rows of the sets and of the forest, and the order. -/
structure GrAt (B : Nat) (W : World) (n : Nat) (l : List Ed) (s : Fo) (kv ov v7 : Value) : Prop where
  k : W.ownsRow 0 3 1 kv n (natV s.k)
  o : W.ownsRow 0 3 1 ov s.out.length (natV s.out)
  q : W.ownsRow 0 3 1 v7 l.length (natV (ordL l))
  kn : ∀ x, kv.ownBlock = some x → B ≤ x ∧ x < W.heap.size
  on : ∀ x, ov.ownBlock = some x → B ≤ x
  qn : ∀ x, v7.ownBlock = some x → x < W.heap.size
  ko : ∀ x, ov.ownBlock = some x → kv.ownBlock ≠ some x
  qo : ∀ x, ov.ownBlock = some x → v7.ownBlock ≠ some x

theorem own_lt {w : World} {T size n : Nat} {v : Value} {xs : List Value} (h : w.ownsRow 0 T size v n xs) {k : Nat} (hk : v.ownBlock = some k) : k < w.heap.size := by
  rcases h.2 with ⟨rfl, _⟩ | ⟨g, cap, cur, rfl, _, hg, _⟩
  · cases hk
  · injection hk with hk
    subst hk
    exact (Array.getElem?_eq_some_iff.1 hg).1

theorem GrAt.mod {F : Nat → Prop} {B : Nat} {W W' : World} {n : Nat} {l : List Ed} {s : Fo} {kv ov v7 : Value} (h : GrAt B W n l s kv ov v7) (m : Mod F W W') (hF : ∀ x, x < W.heap.size → ¬ F x) : GrAt B W' n l s kv ov v7 :=
  ⟨owns_mod h.k m (fun x hx => hF x (own_lt h.k hx)), owns_mod h.o m (fun x hx => hF x (own_lt h.o hx)), owns_mod h.q m (fun x hx => hF x (own_lt h.q hx)), fun x hx => ⟨(h.kn x hx).1, Nat.lt_of_lt_of_le (h.kn x hx).2 m.size⟩, h.on,
    fun x hx => Nat.lt_of_lt_of_le (h.qn x hx) m.size, h.ko, h.qo⟩

theorem GrAt.below {B : Nat} {W W' : World} {n : Nat} {l : List Ed} {s : Fo} {kv ov v7 : Value} (h : GrAt B W n l s kv ov v7) (m : Below W.heap.size W W') : GrAt B W' n l s kv ov v7 := h.mod (Mod.of_below (F := fun _ => False) m) (fun _ _ h => h)

/-- A number is appended to the forest. -/
theorem GrAt.app {B : Nat} {W W6 : World} {n : Nat} {l : List Ed} {s : Fo} {kv ov v7 v6 : Value} (h : GrAt B W n l s kv ov v7) {o : Obj} {x : Nat} (hB : B ≤ W.heap.size) (ho : W6.ownsRow 0 3 1 v6 (s.out.length + 1) (natV s.out ++ [.int .i64 (x : Int)])) (hg : (W.alloc o).grownBy W6 ov.ownBlock)
    (hn : ∀ k, v6.ownBlock = some k → ov.ownBlock = some k ∨ (W.alloc o).heap.size ≤ k) : GrAt B W6 n l ⟨s.k, s.out ++ [x]⟩ kv v6 v7 ∧ Below B W W6 ∧ Mod (fun k => ov.ownBlock = some k) W W6 := by
  obtain ⟨a1, a2, a3⟩ := app_one h.on hB ho hg hn
  have m : Mod (fun k => ov.ownBlock = some k) W W6 := ((Mod.refl (fun k => ov.ownBlock = some k) W).alloc o).grown hg (fun k hk _ => hk)
  have hz : ∀ k, v6.ownBlock = some k → ov.ownBlock = some k ∨ W.heap.size ≤ k := fun k hk => by
    rcases hn k hk with e | e
    · exact .inl e
    · simp at e; exact .inr (by omega)
  refine ⟨⟨owns_mod h.k m (fun y hy e => h.ko y e hy), by simp only [List.length_append, List.length_singleton]; exact a1, owns_mod h.q m (fun y hy e => h.qo y e hy), fun y hy => ⟨(h.kn y hy).1, Nat.lt_of_lt_of_le (h.kn y hy).2 m.size⟩, a2, fun y hy => Nat.lt_of_lt_of_le (h.qn y hy) m.size, fun y hy e => ?_, fun y hy e => ?_⟩, a3, m⟩
  · rcases hz y hy with q | q
    · exact h.ko y q e
    · have := (h.kn y e).2; omega
  · rcases hz y hy with q | q
    · exact h.qo y q e
    · have := h.qn y e; omega

/-- The labels anew. -/
theorem GrAt.lab {B : Nat} {W W6 : World} {n : Nat} {l : List Ed} {s : Fo} {kv ov v7 v6 : Value} (h : GrAt B W n l s kv ov v7) {k' : List Nat} (hB : B ≤ W.heap.size) (hr : NewRow W 3 1 n (natV k') v6 W6) : GrAt B W6 n l ⟨k', s.out⟩ v6 ov v7 :=
  ⟨hr.own, owns_mod h.o (Mod.of_below (F := fun _ => False) hr.bel) (fun _ _ h => h), owns_mod h.q (Mod.of_below (F := fun _ => False) hr.bel) (fun _ _ h => h), fun y hy => ⟨Nat.le_trans hB (hr.new y hy), own_lt hr.own hy⟩, h.on,
    fun y hy => Nat.lt_of_lt_of_le (h.qn y hy) hr.bel.size, fun y hy e => by have := hr.new y e; have := own_lt h.o hy; omega, h.qo⟩

set_option maxHeartbeats 4000000 in
set_option maxRecDepth 100000 in
theorem rgrown_ok (w : World) (n : Nat) (ao : Option Addr) (m cap b off : Nat) (l : List Ed) (he : ERow w ao m b off l) (hg : GOk n l) :
    Calls Try.prog 56 #[.int .i64 n, .slice ao m cap] w (RowPost w 3 1 (forL n l).length (natV (forL n l))) := by
  have HE := Lib.hid he
  have HS := Lib.hid he.size
  have HG := Lib.hid hg
  have hm : m ≤ 16384 := by have := hg.hl; have := he.size; omega
  have hn : n ≤ 4096 := hg.hn
  clear he hg
  go_enter Try.func56, Try.ntmps56
  go_wp2_with fail
  go_loopw [5, 6] (fun x s wr => ∃ i : Nat, i ≤ n ∧ s = .int .i64 i ∧ wr.ownsRow 0 3 1 x i (natV (List.range i)) ∧ (∀ y, x.ownBlock = some y → w.heap.size ≤ y) ∧ Below w.heap.size w wr) (fun _ s _ => n - (intOf s).toNat)
  case atStart => exact ⟨0, Nat.zero_le _, rfl, World.ownsRow_nil _ _ _ _, fun y hy => (by cases hy), Below.refl _ _⟩
  case round =>
    obtain ⟨i, hi, rfl, hx, hxn, hb⟩ := hrel
    have HX := Lib.hid hx
    have HXN := Lib.hid hxn
    have HB := Lib.hid hb
    clear hx hxn hb
    by_cases hin : i < n
    · have HOW := Lib.hid (HX.out.alloc (.cells #[.int .i64 i] 3))
      have HNW := Lib.hid (news_new wr 3 [.int .i64 i])
      go_wp2_with (at_builtin; apply keepIt)
      apply Lib.hid
      refine wpList_appendB 3 (.int .i64 0) 1 8 Try.underlying24 Try.infoInt rfl (by decide) _ i _ rfl HOW.out ⟨wr.heap.size, 0, none⟩ 1 1 [.int .i64 i] rfl rfl HNW.out (by simp [Value.oneCell']) (by unfold maxLen; omega) (by omega) ?_
      intro v6 w6 ho6 hg6 hn6
      obtain ⟨hv6, hvn6, hb6⟩ := app_one HXN.out HB.out.size ho6 hg6 hn6
      rw [← List.range_succ] at hv6
      have HB6 := Lib.hid (HB.out.trans hb6)
      have HV6 := Lib.hid hv6
      have HN6 := Lib.hid hvn6
      clear ho6 hg6 hn6 hv6 hvn6 hb6
      go_wp2_with fail
      go_roundw
      case rel => exact ⟨i + 1, by omega, by go_num, HV6.out, HN6.out, HB6.out⟩
      case measure => simp [intOf]; omega
    · obtain rfl : i = n := by omega
      go_wp2_with fail
      with_reducible refine (rorder_ok wr ao m cap b off l (HE.out.below HB.out) hm).mono ?_
      rintro e w2 ⟨v7, rfl, hnr⟩
      have hq := hnr.own
      rw [← HS.out] at hq
      have HGR : Hid (GrAt w.heap.size w2 i l (foTo i l 0) (u5 : Value) (.slice none 0 0) v7) :=
        ⟨owns_mod HX.out (Mod.of_below (F := fun _ => False) hnr.bel) (fun _ _ h => h), World.ownsRow_nil _ _ _ _, hq, fun y hy => ⟨HXN.out y hy, Nat.lt_of_lt_of_le (own_lt HX.out hy) hnr.bel.size⟩, fun y hy => (by cases hy), fun y hy => own_lt hq hy, fun y hy => (by cases hy), fun y hy => (by cases hy)⟩
      have HB2 := Lib.hid (bel_then HB.out hnr.bel)
      obtain ⟨a7, c7, b7, rfl, _, _⟩ := own_rowN hnr.own (by rw [ord_length]; exact HS.out)
      clear hnr hq HX HXN HB
      go_wp2_with fail
      go_loopw [5, 8, 9] (fun kv ov s wr => ∃ t : Nat, t ≤ m ∧ s = .int .i64 t ∧ GrAt w.heap.size wr i l (foTo i l t) kv ov (.slice a7 m c7) ∧ Below w.heap.size w wr) (fun _ _ s _ => m - (intOf s).toNat)
      case atStart => exact ⟨0, Nat.zero_le _, rfl, HGR.out, HB2.out⟩
      case round =>
        obtain ⟨t, ht, rfl, hgr, hb⟩ := hrel
        clear HGR HB2
        have HGR := Lib.hid hgr
        have HB := Lib.hid hb
        clear hgr hb
        by_cases htm : t < m
        · obtain ⟨a', c', b', e', hin7, _⟩ := own_rowN (w := wr) (v := .slice a7 m c7) (n := m) (l := ordL l) (by have := HGR.out.q; rw [HS.out] at this; exact this) (by rw [ord_length]; exact HS.out)
          injection e' with e1 _ e2
          subst e1 e2
          have H7 := Lib.hid hin7
          clear hin7
          have c7 := H7.out.cell t htm
          rw [nI_at (by rw [ord_length, HS.out]; exact htm), Nat.zero_add] at c7
          have hi0 := ord_at (l := l) (t := t) (by rw [HS.out]; exact htm)
          obtain ⟨x, hx⟩ : ∃ x, (ordL l).getD t 0 = x := ⟨_, rfl⟩
          have HST : Hid (foTo i l (t + 1) = (foTo i l t).step l x) := by show _ = _; rw [← hx]; rfl
          have HOK := Lib.hid (foTo_ok HG.out t (by rw [HS.out]; omega))
          rw [hx] at c7 hi0
          have HXO := Lib.hid hx
          clear hx
          obtain ⟨d0, d1, d2⟩ := (HE.out.below HB.out).cell x (by rw [← HS.out]; exact hi0)
          obtain ⟨hu, hv, huv, eU, eV⟩ := HG.out.uv hi0
          rw [eU] at d0
          rw [eV] at d1
          have hxm : x < m := by rw [← HS.out]; exact hi0
          obtain rfl := HE.out.adr (by omega)
          obtain rfl := H7.out.adr (by omega)
          have t1 : (x : Int) < (m : Int) := by omega
          have t2 : (0 : Int) ≤ (x : Int) := by omega
          have t3 : (t : Int) < (m : Int) := by omega
          have t4 : (0 : Int) ≤ (t : Int) := by omega
          have t5 : (uN l x : Int) < (i : Int) := by omega
          have t6 : (vN l x : Int) < (i : Int) := by omega
          obtain ⟨ak, ck, bk, ek, hink, _⟩ := own_rowN HGR.out.k HOK.out.len
          obtain rfl := ek
          have HK := Lib.hid hink
          have k1 := hink.cell _ hu
          have k2 := hink.cell _ hv
          rw [nI_at (by rw [HOK.out.len]; exact hu), Nat.zero_add] at k1
          rw [nI_at (by rw [HOK.out.len]; exact hv), Nat.zero_add] at k2
          obtain rfl := hink.adr (by omega)
          clear hink eU eV
          have HS1 : Hid ((foTo i l t).step l x = if (foTo i l t).k.getD (uN l x) 0 = (foTo i l t).k.getD (vN l x) 0 then foTo i l t else ⟨relN (foTo i l t).k (min ((foTo i l t).k.getD (uN l x) 0) ((foTo i l t).k.getD (vN l x) 0)) (max ((foTo i l t).k.getD (uN l x) 0) ((foTo i l t).k.getD (vN l x) 0)), (foTo i l t).out ++ [x]⟩) := rfl
          have HOL : Hid ((foTo i l t).out.length ≤ i) := by have := foTo_roots HG.out t (by rw [HS.out]; omega); show _ ≤ _; omega
          generalize foTo i l t = s0 at *
          generalize uN l x = u at *
          generalize vN l x = v at *
          generalize (EA l x).W = we at *
          obtain ⟨ku, hku⟩ : ∃ q, s0.k.getD u 0 = q := ⟨_, rfl⟩
          obtain ⟨kv, hkv⟩ : ∃ q, s0.k.getD v 0 = q := ⟨_, rfl⟩
          rw [hku] at k1
          rw [hkv] at k2
          rw [hku, hkv] at HS1
          have HKA := Lib.hid hku
          have HKB := Lib.hid hkv
          clear hku hkv
          have t7 : (0 : Int) ≤ (u : Int) := by omega
          have t8 : (0 : Int) ≤ (v : Int) := by omega
          have HBX := Lib.hid ((Below.refl wr.heap.size wr).alloc (Nat.le_refl _) (.cells #[.int .i64 u, .int .i64 v, .int .i64 we] 59))
          have k1' : (wr.alloc (.cells #[.int .i64 u, .int .i64 v, .int .i64 we] 59)).cell? ⟨bk, u, none⟩ = some (.int .i64 ku) := (HBX.out.cell (p := ⟨bk, u, none⟩) (World.block_lt_of_cell? wr _ k1)).trans k1
          have k2' : (wr.alloc (.cells #[.int .i64 u, .int .i64 v, .int .i64 we] 59)).cell? ⟨bk, v, none⟩ = some (.int .i64 kv) := (HBX.out.cell (p := ⟨bk, v, none⟩) (World.block_lt_of_cell? wr _ k2)).trans k2
          have c7' : (wr.alloc (.cells #[.int .i64 u, .int .i64 v, .int .i64 we] 59)).cell? ⟨b', t, none⟩ = some (.int .i64 x) := (HBX.out.cell (p := ⟨b', t, none⟩) (World.block_lt_of_cell? wr _ c7)).trans c7
          clear k1 k2
          by_cases hc : ku = kv
          · have tc : ((ku : Int) != (kv : Int)) = false := by simp [hc]
            rw [if_pos hc] at HS1
            have HE1 : Hid (foTo i l (t + 1) = s0) := HST.out.trans HS1.out
            clear hc
            go_wp2_with fail
            go_quiet (fail)
            have HB3 := Lib.hid (bel_drewN (HB.out.alloc HB.out.size (.cells #[.int .i64 u, .int .i64 v, .int .i64 we] 59)) nq)
            have HGR3 := Lib.hid (HGR.out.below (bel_drewN ((Below.refl _ wr).alloc (Nat.le_refl _) (.cells #[.int .i64 u, .int .i64 v, .int .i64 we] 59)) nq))
            go_wp2_with fail
            go_roundw
            case rel => exact ⟨t + 1, by omega, by go_num, by rw [HE1.out]; exact HGR3.out, HB3.out⟩
            case measure => simp [intOf]; omega
          · have tc : ((ku : Int) != (kv : Int)) = true := by simp; omega
            rw [if_neg hc] at HS1
            have HE1 := Lib.hid (HST.out.trans HS1.out)
            clear hc
            go_wp2_with fail
            go_quiet (fail)
            have HB3 := Lib.hid (bel_drewN (HB.out.alloc HB.out.size (.cells #[.int .i64 u, .int .i64 v, .int .i64 we] 59)) nq)
            have HBW := Lib.hid (bel_drewN ((Below.refl _ wr).alloc (Nat.le_refl _) (.cells #[.int .i64 u, .int .i64 v, .int .i64 we] 59)) nq)
            have HGR3 := Lib.hid (HGR.out.below HBW.out)
            replace c7' : ((wr.alloc (.cells #[.int .i64 u, .int .i64 v, .int .i64 we] 59)).drewN nq).cell? ⟨b', t, none⟩ = some (.int .i64 x) := c7'
            have x0 : ((wr.alloc (.cells #[.int .i64 u, .int .i64 v, .int .i64 we] 59)).drewN nq).cell? ⟨wr.heap.size, 0, none⟩ = some (.int .i64 u) := (Blk.new wr 59 [.int .i64 u, .int .i64 v, .int .i64 we]).cell (i := 0) rfl
            have x1 : ((wr.alloc (.cells #[.int .i64 u, .int .i64 v, .int .i64 we] 59)).drewN nq).cell? ⟨wr.heap.size, 1, none⟩ = some (.int .i64 v) := (Blk.new wr 59 [.int .i64 u, .int .i64 v, .int .i64 we]).cell (i := 1) rfl
            have HOX : Hid (∀ k, u8.ownBlock = some k → k < wr.heap.size) := fun k hk => own_lt HGR.out.o hk
            have HXW : Hid (wr.heap.size < ((wr.alloc (.cells #[.int .i64 u, .int .i64 v, .int .i64 we] 59)).drewN nq).heap.size) := by show _ < (wr.alloc _).heap.size; simp
            clear k1' k2' c7 d0 d1 d2 tc t5 t6 t7 t8 HBX HGR HB HBW
            generalize wr.heap.size = xb at *
            generalize (wr.alloc (.cells #[.int .i64 u, .int .i64 v, .int .i64 we] 59)).drewN nq = w3 at *
            have HOW := Lib.hid (HGR3.out.o.alloc (.cells #[.int .i64 x] 3))
            have HNW := Lib.hid (news_new w3 3 [.int .i64 x])
            go_wp2_with (at_builtin; apply keepIt)
            apply Lib.hid
            refine wpList_appendB 3 (.int .i64 0) 1 8 Try.underlying24 Try.infoInt rfl (by decide) _ s0.out.length _ rfl HOW.out ⟨w3.heap.size, 0, none⟩ 1 1 [.int .i64 x] rfl rfl HNW.out (by simp [Value.oneCell']) (by have := HOL.out; unfold maxLen; omega) (by have := HOL.out; omega) ?_
            intro v6 w6 ho6 hg6 hn6
            obtain ⟨hgr6, hb6, hm6⟩ := HGR3.out.app HB3.out.size ho6 hg6 hn6
            have HGR6 := Lib.hid hgr6
            have HB6 := Lib.hid (HB3.out.trans hb6)
            have hne : ¬ (u8.ownBlock = some xb) := fun e => by have := HOX.out xb e; omega
            have y0 := (hm6.cell (p := ⟨xb, 0, none⟩) HXW.out hne).trans x0
            have y1 := (hm6.cell (p := ⟨xb, 1, none⟩) HXW.out hne).trans x1
            obtain ⟨a9, c9, b9, e9, hin9, _⟩ := own_rowN hgr6.k HOK.out.len
            injection e9 with e1 _ e2
            subst e1 e2
            have HI9 := Lib.hid hin9
            clear ho6 hg6 hn6 hgr6 hb6 hm6 hne x0 x1 c7' HOW HNW hin9 HGR3 HB3 HOX HXW
            go_wp2_with fail
            with_reducible refine (rjoin_ok w6 (some ⟨bk, 0, none⟩) i ck b9 0 s0.k HI9.out (by omega) u v hu hv).mono ?_
            rintro e w7 ⟨v9, rfl, hnr⟩
            rw [HKA.out, HKB.out] at hnr
            have HGR7 := Lib.hid (HGR6.out.lab HB6.out.size hnr)
            have HB7 := Lib.hid (HB6.out.trans (hnr.bel.mono HB6.out.size))
            clear hnr
            go_wp2_with fail
            go_roundw
            case rel => exact ⟨t + 1, by omega, by go_num, by rw [HE1.out]; exact HGR7.out, HB7.out⟩
            case measure => simp [intOf]; omega
        · obtain rfl : t = m := by omega
          go_wp2_with fail
          go_ret
          have HF : Hid ((foTo i l t).out = forL i l) := by show _ = _; unfold forL; rw [HS.out]
          have ho := HGR.out.o
          rw [HF.out] at ho
          exact ⟨⟨_, rfl, ho, HB.out, HGR.out.on⟩⟩

set_option maxHeartbeats 4000000 in
set_option maxRecDepth 100000 in
theorem rforest_ok (w : World) (n : Int) (ao : Option Addr) (m cap b off : Nat) (l : List Ed) (he : ERow w ao m b off l) (hm : m ≤ 9223372036854775807) (hnil : ao = none → cap = 0) (hn64 : -9223372036854775808 ≤ n ∧ n ≤ 9223372036854775807) :
    Calls Try.prog 31 #[.int .i64 n, .slice ao m cap] w (FoPost w n l) := by
  have HE := Lib.hid he
  clear he
  go_enter Try.func31, Try.ntmps31
  go_wp2_with fail
  with_reducible refine (rnew_ok w n ao m cap b off l HE.out hm hnil hn64).mono ?_
  rintro e w2 ⟨⟨p, rfl, _, _⟩, hb⟩
  have HB := Lib.hid hb
  clear hb hnil
  by_cases h0 : newErr n l = 0
  · obtain ⟨k, rfl, hg⟩ := GOk.of_err h0
    have HG := Lib.hid hg
    have H0 := Lib.hid h0
    rw [h0]
    clear h0 hg
    go_wp2_with fail
    with_reducible refine (rgrown_ok w2 k ao m cap b off l (HE.out.below HB.out) HG.out).mono ?_
    rintro e w3 ⟨v, rfl, hnr⟩
    have HNR := Lib.hid hnr
    clear hnr
    go_wp2_with fail
    go_ret2
    refine ⟨fun h => absurd H0.out h, fun _ => ⟨v, rfl, ?_, fun y hy => Nat.le_trans HB.out.size (HNR.out.new y hy)⟩, bel_then HB.out HNR.out.bel⟩
    rw [Int.toNat_natCast]
    exact HNR.out.own
  · have H0 := Lib.hid h0
    have t0 : (newErr n l != 0) = true := by simpa using h0
    clear h0
    go_wp2_with fail
    go_ret2
    exact ⟨fun _ => rfl, fun h => absurd h H0.out, HB.out⟩

end Go.Proofs.Ytenhbfbfkcjimaa
