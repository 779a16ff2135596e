/- The walk of LinkageOrder. -/
import Derived.Test.YthhddjknjnjbhaaDoorLkOrA
import Derived.Deep.RegionHeld3
namespace Go.Proofs.YthhddjknjnjbhaaDoor
set_option linter.unusedVariables false
set_option linter.unusedSimpArgs false
open Go.RowKit Go.Maps Go.WideMaps

theorem map_heap {H : Type} {P : Program} {k : TypeId} {R : Value → Option (DataW H × List MemPlace)} {w w' : World} {b n : Nat} {D : DataW H} (h : w.ownsMap P k R b n D) (e : w'.heap[b]? = w.heap[b]?) : w'.ownsMap P k R b n D := by
  obtain ⟨es, clock, h1, h2⟩ := h
  exact ⟨es, clock, e.trans h1, h2⟩

/-- The ranks of the first i distances, by the distances. -/
structure KnowR (wr : World) (kb i : Nat) (d : List Int) (D : DataW Unit) : Prop where
  own : wr.ownsMap Tryd.prog 2 (plainElem Tryd.prog 2) kb i D
  has : ∀ x, Maps.has D (litI x) = (d.take i).contains x
  val : ∀ x ∈ d.take i, ∀ z, D.atKey (litI x) z = .lit (litI (rankI d x))

theorem litI_inj {x y : Int} (h : x ≠ y) : litI x ≠ litI y := fun e => h (by injection e)

theorem take_snoc' {d : List Int} {i : Nat} (hi : i < d.length) : d.take (i + 1) = d.take i ++ [d.getD i 0] := by
  rw [List.take_succ_eq_append_getElem hi, List.getD_eq_getElem?_getD, List.getElem?_eq_getElem hi]; rfl

theorem KnowR.keep {wr w' : World} {kb i : Nat} {d : List Int} {D : DataW Unit} (h : KnowR wr kb i d D) (hi : i < d.length) (hc : (d.take i).contains (d.getD i 0) = true) (e : w'.heap[kb]? = wr.heap[kb]?) : KnowR w' kb (i + 1) d D := by
  have hm : d.getD i 0 ∈ d.take i := List.contains_iff_mem.1 hc
  refine ⟨(map_heap h.own e).mono (by omega), fun x => ?_, fun x hx z => ?_⟩
  · rw [h.has, take_snoc' hi, Bool.eq_iff_iff, List.contains_iff_mem, List.contains_iff_mem, List.mem_append]
    constructor
    · exact fun h => .inl h
    · rintro (h1 | h1)
      · exact h1
      · rw [List.mem_singleton] at h1; rw [h1]; exact hm
  · rw [take_snoc' hi] at hx
    rcases List.mem_append.1 hx with h1 | h1
    · exact h.val x h1 z
    · rw [List.mem_singleton] at h1; subst h1; exact h.val _ hm z

theorem KnowR.put {wr w' : World} {kb i : Nat} {d : List Int} {D : DataW Unit} (h : KnowR wr kb i d D) (hi : i < d.length)
    (hown : w'.ownsMap Tryd.prog 2 (plainElem Tryd.prog 2) kb (i + 1) (D.put (litI (d.getD i 0)) (.lit (litI (rankI d (d.getD i 0)))))) : KnowR w' kb (i + 1) d (D.put (litI (d.getD i 0)) (.lit (litI (rankI d (d.getD i 0))))) := by
  have hD := h.own.isMap
  refine ⟨hown, fun x => ?_, fun x hx z => ?_⟩
  · by_cases e : x = d.getD i 0
    · subst e
      rw [has_put_same hD (show WideAt.IsKeyLit (litI _) from trivial), take_snoc' hi]
      simp
    · rw [has_put_other (litI_inj e), h.has, take_snoc' hi, Bool.eq_iff_iff, List.contains_iff_mem, List.contains_iff_mem, List.mem_append, List.mem_singleton]
      exact ⟨fun h => .inl h, fun h => h.elim id (fun h => absurd h e)⟩
  · by_cases e : x = d.getD i 0
    · subst e
      exact atKey_put_same hD (show WideAt.IsKeyLit (litI _) from trivial) _ _
    · rw [atKey_put_other (litI_inj e)]
      rw [take_snoc' hi] at hx
      rcases List.mem_append.1 hx with h1 | h1
      · exact h.val x h1 z
      · rw [List.mem_singleton] at h1; exact absurd h1 e

theorem KnowR.heap {wr w' : World} {kb i : Nat} {d : List Int} {D : DataW Unit} (h : KnowR wr kb i d D) (e : w'.heap[kb]? = wr.heap[kb]?) : KnowR w' kb i d D := ⟨map_heap h.own e, h.has, h.val⟩

structure TwoAt (W : World) (p r : Nat) (A B N D S N' D' : Int) (wx : World) : Prop where
  x : Blk wx p 35 [.int .i64 A, .int .i64 B, .int .i64 N, .int .i64 D, .int .i64 S]
  y : Blk wx r 35 [.int .i64 A, .int .i64 B, .int .i64 N', .int .i64 D', .int .i64 S]
  bel : Below W.heap.size W wx

theorem Tryd.zeroI64 (w : World) : (zeroValue 2).run Tryd.prog w = .ok (.int .i64 0) w := by kernel_rfl

theorem litI_val {c r : Int} (h : (DataW.lit (litI r) : DataW Unit) = .lit (.int .i64 c)) : c = r := by
  injection h with h
  injection h with _ h
  exact h.symm

theorem keep3 {F : Nat → Prop} {w w' : World} {p1 p2 : Addr} {v1 v2 : Value} (h1 : Hid (w.cell? p1 = some v1)) (h2 : Hid (w.cell? p2 = some v2)) (n1 : ¬ F p1.block) (n2 : ¬ F p2.block) (hb : Mod F w w') :
    w'.cell? p1 = some v1 ∧ w'.cell? p2 = some v2 ∧ Mod F w w' :=
  ⟨(hb.cell (World.block_lt_of_cell? w _ h1.out) n1).trans h1.out, (hb.cell (World.block_lt_of_cell? w _ h2.out) n2).trans h2.out, hb⟩

/-- The first i elements by f, the others 0. -/
def rkTo (f : Int → Int) (L : List Int) (i : Nat) : List Int := (L.take i).map f ++ List.replicate (L.length - i) 0

theorem rkTo_zero (f : Int → Int) (L : List Int) : rkTo f L 0 = List.replicate L.length 0 := by simp [rkTo]
theorem rkTo_end (f : Int → Int) (L : List Int) : rkTo f L L.length = L.map f := by simp [rkTo]
theorem rkTo_length (f : Int → Int) (L : List Int) (i : Nat) (hi : i ≤ L.length) : (rkTo f L i).length = L.length := by simp [rkTo]; omega
theorem rkTo_step (f : Int → Int) {L : List Int} {i : Nat} (hi : i < L.length) : (rkTo f L i).set i (f (L.getD i 0)) = rkTo f L (i + 1) := by
  unfold rkTo
  rw [List.set_append_right _ _ (by simp; omega), List.length_map, List.length_take, Nat.min_eq_left (by omega), Nat.sub_self, show L.length - i = (L.length - (i + 1)) + 1 by omega, List.replicate_succ, List.set_cons_zero, take_snoc' hi, List.map_append, List.append_assoc]
  rfl

set_option maxHeartbeats 4000000 in
set_option maxRecDepth 100000 in
theorem order_law (n : Int) (hn : 0 ≤ n ∧ n ≤ 255) (ao : Option Addr) (len cap b off : Nat) (z : List Int) (w : World) (hM : Mets w)
    (hz : InRow .u64 w ao len b off z) (hlen : len ≤ 9223372036854775807) (hu : ∀ x ∈ z, 0 ≤ x ∧ x < 18446744073709551616) :
    Calls Tryd.prog 6 #[.int .u8 n, .slice ao len cap] w (RetB (.bool true) w) := by
  have hmm := @run_makeMap Tryd.prog
  have HZ := Lib.hid hz
  have HU := Lib.hid hu
  have HMe := Lib.hid hM
  obtain ⟨n0, rfl⟩ := Int.eq_ofNat_of_zero_le hn.1
  have hn0 : n0 ≤ 255 := by omega
  have r1 : Int.tmod (n0 : Int) 31 = ((n0 % 31 : Nat) : Int) := mod_nat n0 31 (by omega)
  have hk : n0 % 31 < 31 := Nat.mod_lt _ (by omega)
  obtain ⟨k, HK⟩ : ∃ k, Hid (n0 % 31 = k) := ⟨_, rfl⟩
  rw [HK.out] at r1 hk
  clear hn hM hz hu
  go_enter Tryd.func6, Tryd.ntmps6
  go_wp2_with fail
  with_reducible refine (points_ok w k (by omega) ao len cap b off z HZ.out hlen HU.out).mono ?_
  rintro e w1 ⟨rfl, hblk, hb1⟩
  have HD1 := Lib.hid (pts_row hblk)
  have HB1 := Lib.hid hb1
  have HCK := Lib.hid (pts_check (n := k) (by omega) z)
  have hlt0 := hblk.lt
  clear hblk hb1 HZ HU
  obtain ⟨db, HDB⟩ : ∃ db, Hid (w.heap.size = db) := ⟨_, rfl⟩
  rw [HDB.out] at HD1 hlt0 ⊢
  generalize ptsL k z = d at *
  have hnn : k * k ≤ 900 := Nat.mul_le_mul (show k ≤ 30 by omega) (show k ≤ 30 by omega)
  obtain ⟨nn, HNN⟩ : ∃ nn, Hid (k * k = nn) := ⟨_, rfl⟩
  rw [HNN.out] at HD1 hnn ⊢
  have HDL : Hid (d.length = nn) := HD1.out.size
  go_wp2_with (at_make; apply keepIt)
  generalize hW : World.alloc w1 _ = W
  have hP : Blk W w1.heap.size 23 [.slice (some ⟨db, 0, none⟩) nn nn] := by rw [← hW]; exact Blk.new w1 23 [.slice (some ⟨db, 0, none⟩) nn nn]
  have hbW : Below w1.heap.size w1 W := by rw [← hW]; exact (Below.refl _ _).alloc (Nat.le_refl _) _
  have HP1 := Lib.hid hP
  have HDW := Lib.hid (HD1.out.below hbW)
  have HBW := Lib.hid (bel_then HB1.out hbW)
  have hWl : w1.heap.size < W.heap.size := hP.lt
  clear hW hP hbW HD1 HB1
  obtain ⟨pd, HPD⟩ : ∃ pd, Hid (w1.heap.size = pd) := ⟨_, rfl⟩
  rw [HPD.out] at HP1 hWl hlt0 ⊢
  apply Lib.hid
  refine wpList_makeB 2 (.int .i64 0) 8 Tryd.underlying23 Tryd.infoI64V rfl _ _ _ _ nn rfl rfl rfl rfl (by omega) (by unfold maxLen; omega) ?_
  intro w2 B2 hb2
  have HP2 := Lib.hid (HP1.out.below hb2 hWl)
  have HD2 := Lib.hid (HDW.out.below hb2)
  have HB2 := Lib.hid (bel_then HBW.out hb2)
  have HR2 := Lib.hid B2
  have hW2 : W.heap.size < w2.heap.size := B2.lt
  clear B2 hb2 HP1 HDW HBW
  obtain ⟨rb, HRB⟩ : ∃ rb, Hid (W.heap.size = rb) := ⟨_, rfl⟩
  rw [HRB.out] at HR2 hW2 hWl ⊢
  have q0 := HP2.out.cell (i := 0) rfl
  have hbm : Below w2.heap.size w2 (w2.alloc (.map #[] 0)) := (Below.refl _ _).alloc (Nat.le_refl _) _
  have q1 := (HP2.out.below hbm (by omega)).cell (i := 0) rfl
  go_wp2_with fail
  generalize hW3 : World.alloc w2 _ = W3 at *
  have HK3 : Hid (KnowR W3 w2.heap.size 0 d (.map [])) := by
    show KnowR _ _ _ _ _
    rw [← hW3]
    exact ⟨World.ownsMap_made _ _ _ _, fun x => by simp [Maps.has], fun x hx => by simp at hx⟩
  have HP3 := Lib.hid (HP2.out.below hbm (by omega))
  have HD3 := Lib.hid (HD2.out.below hbm)
  have HB3 := Lib.hid (bel_then HB2.out hbm)
  have HR3 := Lib.hid (HR2.out.below hbm hW2)
  have hs3 : w2.heap.size < W3.heap.size := by rw [← hW3]; simp
  clear hW3 hbm HP2 HD2 HB2 HR2 q0 q1
  obtain ⟨kb, HKB⟩ : ∃ kb, Hid (w2.heap.size = kb) := ⟨_, rfl⟩
  rw [HKB.out] at HK3 hs3 hW2 ⊢
  have hdb : w.heap.size ≤ db := by rw [HDB.out]; omega
  go_loopw [35] (fun s wr => ∃ i : Nat, i ≤ nn ∧ s = .int .i64 i ∧ (∃ D, KnowR wr kb i d D) ∧ Blk wr rb 2 ((rkTo (rankI d) d i).map fun y => .int .i64 y) ∧ Mod (fun x => x = kb ∨ x = rb) W3 wr) (fun s _ => nn - (intOf s).toNat)
  case atStart =>
    refine ⟨0, Nat.zero_le _, rfl, ⟨_, HK3.out⟩, ?_, Mod.refl _ _⟩
    rw [rkTo_zero, HDL.out, List.map_replicate]
    exact HR3.out
  case round =>
    obtain ⟨i, hi, rfl, ⟨D, hkn⟩, hrk, hmd⟩ := hrel
    clear HK3 HR3
    have HKN := Lib.hid hkn
    have HRK := Lib.hid hrk
    have HMD := Lib.hid hmd
    have hpr := HP3.out.mod hmd (by omega)
    have HPR := Lib.hid hpr
    have p0 := hpr.cell (i := 0) rfl
    have HDR := Lib.hid (HD3.out.mod hmd (fun _ => by omega))
    clear hkn hrk hmd hpr
    by_cases hin : i < nn
    · have hiL : i < d.length := by rw [HDL.out]; exact hin
      have c0 := HDR.out.cell i hin
      rw [Nat.zero_add] at c0
      have r0 := blk_int HRK.out (i := i) (by rw [rkTo_length _ _ _ (by omega)]; exact hiL)
      have f0 := HRK.out.free i
      have hx : 0 ≤ d.getD i 0 ∧ d.getD i 0 ≤ 1099511627776 := by
        have := (DOk.of_check HCK.out).lim 0 i
        unfold at2 at this
        rw [Nat.zero_mul, Nat.zero_add] at this
        exact this
      have hrl := rank_le d (d.getD i 0)
      rw [HDL.out] at hrl
      have hri : 0 ≤ rankI d (d.getD i 0) ∧ rankI d (d.getD i 0) ≤ 900 := by unfold rankI; omega
      have hwf : (Lit.int .i64 (d.getD i 0)).wf = true := WalkArith.wf_i64 (by omega)
      have hwr : (Lit.int .i64 (rankI d (d.getD i 0))).wf = true := WalkArith.wf_i64 (by omega)
      have hkey : keyOf Tryd.prog 2 (.int .i64 (d.getD i 0)) = some (litI (d.getD i 0)) := keyOf_int_mk Tryd.underlying2 hwf
      have HSTEP := Lib.hid (rkTo_step (rankI d) hiL)
      have HMEM : Hid (d.getD i 0 ∈ d.take (i + 1)) := by show _ ∈ _; rw [take_snoc' hiL]; simp
      cases hc : (d.take i).contains (d.getD i 0) with
      | true =>
        have HH : Hid (Maps.has D (litI (d.getD i 0)) = true) := (HKN.out.has _).trans hc
        have HKEEP : Hid (∀ w', w'.heap[kb]? = wr.heap[kb]? → KnowR w' kb (i + 1) d D) := fun w' e => HKN.out.keep hiL hc e
        have HV : Hid (∀ z, D.atKey (litI (d.getD i 0)) z = .lit (litI (rankI d (d.getD i 0)))) := HKN.out.val _ (List.contains_iff_mem.1 hc)
        clear hc
        obtain ⟨y, hy⟩ : ∃ y, d.getD i 0 = y := ⟨_, rfl⟩
        obtain ⟨ry, hry⟩ : ∃ ry, rankI d y = ry := ⟨_, rfl⟩
        rw [hy] at c0 hx hri hwf hwr hkey HSTEP HMEM HH HV
        rw [hry] at hri hwr HSTEP HV
        have HY := Lib.hid hy
        have HRY := Lib.hid hry
        clear hy hry hrl
        go_wp2_with (first | (at_lookup; refine wpList_lookup_own_ok_int _ rfl _ _ 50 rfl 2 2 .i64 keyed64 Tryd.underlying50 Tryd.underlying2 (Tryd.zeroI64 _) kb i _ rfl HKN.out.own _ _ rfl hkey ?_; intro c1 ha1 hw1; rw [HH.out]) | (at_lookup; refine wpList_lookup_own_int _ rfl _ _ 50 rfl 2 2 .i64 keyed64 Tryd.underlying50 Tryd.underlying2 (Tryd.zeroI64 _) kb i _ rfl HKN.out.own _ _ rfl hkey ?_; intro c2 ha2 hw2; obtain rfl := litI_val ((HV.out _).symm.trans ha2)))
        go_roundw
        case rel =>
          refine ⟨i + 1, by omega, by go_num, ⟨D, HKEEP.out _ (Below.heap_setCell _ _ _ _ (by show kb ≠ rb; omega))⟩, ?_, HMD.out.setCell _ (fun _ => .inr rfl) _⟩
          have := blk_set_int HRK.out i c2
          rw [HSTEP.out] at this
          exact this
        case measure => simp [intOf]; omega
      | false =>
        have HH : Hid (Maps.has D (litI (d.getD i 0)) = false) := (HKN.out.has _).trans hc
        have HPUT : Hid (∀ w', w'.ownsMap Tryd.prog 2 (plainElem Tryd.prog 2) kb (i + 1) (D.put (litI (d.getD i 0)) (.lit (litI (rankI d (d.getD i 0))))) → KnowR w' kb (i + 1) d (D.put (litI (d.getD i 0)) (.lit (litI (rankI d (d.getD i 0)))))) := fun w' h => HKN.out.put hiL h
        clear hc
        have HRKC : Hid (∀ W', Mod (fun x => x = kb) wr W' → Calls Tryd.prog 16 #[.int .i64 (d.getD i 0), .pointer (some ⟨pd, 0, none⟩)] W' (RetB (.int .i64 (rankI d (d.getD i 0))) W')) := fun W' hW' =>
          rank_ok W' pd db nn d _ ((HPR.out.mod hW' (by omega)).cell (i := 0) rfl) (HDR.out.mod hW' (fun _ => by omega)) (by omega) (fun y hy => by
            obtain ⟨j, hj⟩ := List.getElem?_of_mem hy
            have := (DOk.of_check HCK.out).lim 0 j
            unfold at2 at this
            rw [Nat.zero_mul, Nat.zero_add, List.getD_eq_getElem?_getD, hj] at this
            exact this)
        obtain ⟨y, hy⟩ : ∃ y, d.getD i 0 = y := ⟨_, rfl⟩
        obtain ⟨ry, hry⟩ : ∃ ry, rankI d y = ry := ⟨_, rfl⟩
        rw [hy] at c0 hx hri hwf hwr hkey HSTEP HMEM HH HPUT HRKC
        rw [hry] at hri hwr HSTEP HPUT HRKC
        have HY := Lib.hid hy
        have HRY := Lib.hid hry
        clear hy hry hrl
        go_wp2_with (at_lookup; refine wpList_lookup_own_ok_int _ rfl _ _ 50 rfl 2 2 .i64 keyed64 Tryd.underlying50 Tryd.underlying2 (Tryd.zeroI64 _) kb i _ rfl HKN.out.own _ _ rfl hkey ?_; intro c1 ha1 hw1; rw [HH.out])
        have C1 := Lib.hid p0
        have C2 := Lib.hid c0
        have hkbl : kb < wr.heap.size := HKN.out.own.lt
        go_region_held3 (fun w' => w'.cell? ⟨pd, 0, none⟩ = some (.slice (some ⟨db, 0, none⟩) nn nn) ∧ w'.cell? ⟨db, i, none⟩ = some (.int .i64 y) ∧ Mod (fun x => x = kb) wr w')
          (((try go_split_ands); refine keep3 C1 C2 (by show ¬ pd = kb; omega) (by show ¬ db = kb; omega) ?_; first | assumption | exact (Mod.refl _ _).drew | exact (Mod.drew (by assumption))))
          (first
            | (go_at_call 16; (try go_split_ands); (with_reducible refine (HRKC.out _ (by assumption)).mono ?_); rintro e w3 ⟨rfl, hbx⟩; have hm3 := Mod.trans (by assumption : Mod (fun x => x = kb) wr _) (Mod.of_below (F := fun _ => False) hbx) (fun _ _ h => h.elim); obtain ⟨w4, hrun4, hown4, hg4⟩ := World.ownsMap.update (w := w3) (map_heap HKN.out.own (show w3.heap[kb]? = wr.heap[kb]? from hbx.block kb (by first | exact hkbl | simpa using hkbl))) keyed64 Tryd.underlying50 (by unfold maxLen; omega) hkey (plainElem_int (H := Unit) Tryd.underlying2 hwr); have hm4 := hm3.grown hg4 (fun k e _ => by cases e; rfl); have hkn4 := HPUT.out w4 hown4; clear hbx hown4 hg4))
        have HK4 := Lib.hid hkn4
        have HM4 := Lib.hid hm4
        have p4 := (HPR.out.mod hm4 (by omega)).cell (i := 0) rfl
        have c4 := (HDR.out.mod hm4 (fun _ => by omega)).cell i hin
        rw [Nat.zero_add] at c4
        have hrk4 := HRK.out.mod hm4 (by omega)
        have HRK4 := Lib.hid hrk4
        have r4 := blk_int hrk4 (i := i) (by rw [rkTo_length _ _ _ (by omega)]; exact hiL)
        have f4 := hrk4.free i
        rw [HY.out] at c4
        have HV : Hid (∀ z, (D.put (litI y) (.lit (litI ry))).atKey (litI y) z = .lit (litI ry)) := fun z => by
          have := HK4.out.val y HMEM.out z
          rw [HRY.out] at this
          exact this
        clear hkn4 hm4 hrk4 p0 c0 r0 f0 C1 C2 ha1 hw1 hm3 hrun4
        go_wp2_with (at_lookup; refine wpList_lookup_own_int _ rfl _ _ 50 rfl 2 2 .i64 keyed64 Tryd.underlying50 Tryd.underlying2 (Tryd.zeroI64 _) kb (i + 1) _ rfl HK4.out.own _ _ rfl hkey ?_; intro c2 ha2 hw2; obtain rfl := litI_val ((HV.out _).symm.trans ha2))
        go_roundw
        case rel =>
          refine ⟨i + 1, by omega, by go_num, ⟨_, HK4.out.heap (Below.heap_setCell _ _ _ _ (by show kb ≠ rb; omega))⟩, ?_, (HMD.out.trans HM4.out (fun _ _ h => .inl h)).setCell _ (fun _ => .inr rfl) _⟩
          have := blk_set_int HRK4.out i c2
          rw [HSTEP.out] at this
          exact this
        case measure => simp [intOf]; omega
    · have hie : i = nn := by omega
      have hir : ¬ (i : Int) < (nn : Int) := by omega
      have HBr : Hid (Below w.heap.size w wr) := HB3.out.trans (HMD.out.below (HB3.out.size) (fun x hx => by omega))
      have hme := HMe.out.below HBr.out HMe.out.lt
      have m0 := hme.c0
      have m1 := hme.c1
      have hml := HMe.out.lt
      have HRR : Hid (InRow .i64 wr (some ⟨rb, 0, none⟩) nn rb 0 (d.map (rankI d))) := by
        show InRow _ _ _ _ _ _ _
        have := HRK.out
        rw [hie, ← HDL.out, rkTo_end] at this
        have := InRow.of_blk this
        rw [List.length_map, HDL.out] at this
        exact this
      have HKN' : Hid (KnowR wr kb nn d D) := by show KnowR _ _ _ _ _; rw [← hie]; exact HKN.out
      have HK2 := Lib.hid (check_rank (by omega) HCK.out)
      clear HRK HKN hie hme HMD
      go_wp2_with fail
      obtain ⟨W4, rfl⟩ : ∃ W4 : World, W4 = wr := ⟨_, rfl⟩
      have M0 := Lib.hid m0
      have M1 := Lib.hid m1
      clear m0 m1 p0
      go_loopw [72] (fun s wx => ∃ q : Nat, q ≤ 2 ∧ s = .int .i64 q ∧ Below W4.heap.size W4 wx) (fun s _ => 2 - (intOf s).toNat)
      case atStart => exact ⟨0, Nat.zero_le _, rfl, Below.refl _ _⟩
      case round =>
        obtain ⟨q, hq, rfl, hbq⟩ := hrel
        have HBQ := Lib.hid hbq
        clear hbq
        by_cases hq2 : q < 2
        · obtain ⟨m, hm, cm⟩ : ∃ m : Int, (m = 1 ∨ m = 2) ∧ wr.cell? ⟨0, q, none⟩ = some (.int .i64 m) := by
            have : q = 0 ∨ q = 1 := by omega
            rcases this with rfl | rfl
            · exact ⟨1, .inl rfl, (HBQ.out.cell (World.block_lt_of_cell? W4 _ M0.out)).trans M0.out⟩
            · exact ⟨2, .inr rfl, (HBQ.out.cell (World.block_lt_of_cell? W4 _ M1.out)).trans M1.out⟩
          have HM := Lib.hid hm
          have HM3 : Hid (m = 1 ∨ m = 2 ∨ m = 3) := by show _ ∨ _; omega
          clear hm
          have HDq := Lib.hid (HDR.out.below HBQ.out)
          have HRq := Lib.hid (HRR.out.below HBQ.out)
          have hpq := HPR.out.below HBQ.out HPR.out.lt
          have HPq := Lib.hid hpq
          have pq := hpq.cell (i := 0) rfl
          clear hpq
          go_wp2_with fail
          with_reducible refine (run_ok _ k m HM3.out (some ⟨db, 0, none⟩) nn nn db 0 d HDq.out (fun h => by cases h) HNN.out.symm (by omega) HCK.out).mono ?_
          rintro e w5 ⟨v5, rfl, ho5, hb5, _⟩
          obtain ⟨o5, c5, b5, rfl, hr5⟩ := row_merges ho5
          have HR5 := Lib.hid (HRq.out.below hb5)
          have HM5 := Lib.hid hr5
          have HB5 := Lib.hid (bel_then HBQ.out hb5)
          clear ho5 hb5 hr5 pq cm HDq HRq HPq
          go_wp2_with fail
          with_reducible refine (run_ok _ k m HM3.out (some ⟨rb, 0, none⟩) nn nn rb 0 (d.map (rankI d)) HR5.out (fun h => by cases h) HNN.out.symm (by omega) HK2.out).mono ?_
          rintro e w6 ⟨v6, rfl, ho6, hb6, _⟩
          obtain ⟨o6, c6, b6, rfl, hr6⟩ := row_merges ho6
          have HM5' := Lib.hid (HM5.out.below hb6)
          have HM6 := Lib.hid hr6
          have HB6 := Lib.hid (bel_then HB5.out hb6)
          clear ho6 hb6 hr6 HR5 HM5 HB5
          obtain ⟨k1, HK1⟩ : ∃ k1, Hid (k - 1 = k1) := ⟨_, rfl⟩
          have hk1 : k1 ≤ 30 := by have := HK1.out; omega
          rw [HK1.out] at HM5' HM6 ⊢
          simp only [HK1.out]
          go_wp2_with fail
          go_loopw [105] (fun s wx => ∃ j : Nat, j ≤ k1 ∧ s = .int .i64 j ∧ Below w6.heap.size w6 wx) (fun s _ => k1 - (intOf s).toNat)
          case atStart => exact ⟨0, Nat.zero_le _, rfl, Below.refl _ _⟩
          case round =>
            obtain ⟨j, hj, rfl, hb⟩ := hrel
            have HBj := Lib.hid hb
            clear hb
            by_cases hjk : j < k1
            · obtain rfl := HM5'.out.adr (by omega)
              obtain rfl := HM6.out.adr (by omega)
              obtain ⟨c0, c1, c2', c3', c4⟩ := (HM5'.out.below HBj.out).cell j hjk
              obtain ⟨e0, e1, e2, e3, e4⟩ := (HM6.out.below HBj.out).cell j hjk
              obtain ⟨A, B, N, s, q1, q2, q3⟩ := order_at (n := k) (m := m) (d := d) (by omega) HCK.out HM.out (i := j) (by have := HK1.out; omega)
              rw [q1] at c0 c1 c2' c3' c4
              rw [q2] at e0 e1 e2 e3 e4
              simp only [Nat.zero_add] at c0 c1 c2' c3' c4 e0 e1 e2 e3 e4
              have hNb : 0 ≤ N ∧ N ≤ 1099511627776 := by
                obtain ⟨jj, hjj⟩ := List.getElem?_of_mem q3
                have := (DOk.of_check HCK.out).lim 0 jj
                unfold at2 at this
                rw [Nat.zero_mul, Nat.zero_add, List.getD_eq_getElem?_getD, hjj] at this
                exact this
              have hwf : (Lit.int .i64 N).wf = true := WalkArith.wf_i64 (by omega)
              have hkey : keyOf Tryd.prog 2 (.int .i64 N) = some (litI N) := keyOf_int_mk Tryd.underlying2 hwf
              have HV : Hid (∀ z, D.atKey (litI N) z = .lit (litI (rankI d N))) := HKN'.out.val N (by rw [List.take_of_length_le (by rw [HDL.out]; omega)]; exact q3)
              generalize rankI d N = RN at *
              clear q1 q2 q3
              have hl2 : b5 < wr.heap.size := World.block_lt_of_cell? wr _ c0
              have hl3 : b6 < wr.heap.size := World.block_lt_of_cell? wr _ e0
              go_upto_region 24 with fail
              go_cut [20, 21] (fun s20 s21 wx => ∃ p r, s20 = .pointer (some ⟨p, 0, none⟩) ∧ s21 = .pointer (some ⟨r, 0, none⟩) ∧ TwoAt wr p r A B N 1 s RN 1 wx)
              case first =>
                go_region
                all_goals go_wp2_with fail
                all_goals go_meet
                · exact ⟨_, _, rfl, rfl, (Blk.new wr 35 [.int .i64 A, .int .i64 B, .int .i64 N, .int .i64 1, .int .i64 s]).alloc _, Blk.new' _ 35 [.int .i64 A, .int .i64 B, .int .i64 RN, .int .i64 1, .int .i64 s] (by simp), (((Below.refl _ _).alloc (Nat.le_refl _) _).alloc (by simp) _).drew⟩
                · exact ⟨_, _, rfl, rfl, Blk.new' _ 35 [.int .i64 A, .int .i64 B, .int .i64 N, .int .i64 1, .int .i64 s] (by simp), (Blk.new wr 35 [.int .i64 A, .int .i64 B, .int .i64 RN, .int .i64 1, .int .i64 s]).alloc _, (((Below.refl _ _).alloc (Nat.le_refl _) _).alloc (by simp) _).drew⟩
              case rest =>
                obtain ⟨p, r, rfl, rfl, ht⟩ := hcut
                have x0 := ht.x.cell (i := 0) rfl
                have x1 := ht.x.cell (i := 1) rfl
                have x2 := ht.x.cell (i := 2) rfl
                have x4 := ht.x.cell (i := 4) rfl
                have y0 := ht.y.cell (i := 0) rfl
                have y1 := ht.y.cell (i := 1) rfl
                have y2 := ht.y.cell (i := 2) rfl
                have y4 := ht.y.cell (i := 4) rfl
                have HBc := Lib.hid (bel_then HBj.out ht.bel)
                have hkb : kb < W4.heap.size := HKN'.out.own.lt
                have hkw : wc.heap[kb]? = W4.heap[kb]? := (bel_then HB6.out HBc.out).block kb hkb
                obtain ⟨c, hrun, hat, _⟩ := (map_heap HKN'.out.own hkw).lookup_int keyed64 Tryd.underlying50 Tryd.underlying2 (Tryd.zeroI64 wc) hkey
                obtain rfl := litI_val ((HV.out _).symm.trans hat)
                clear hat hkw ht c0 c1 c2' c3' c4 e0 e1 e2 e3 e4
                go_wp2_with fail
                go_roundw
                case rel => exact ⟨j + 1, by omega, by go_num, HBc.out⟩
                case measure => simp [intOf]; omega
            · have hjr2 : ¬ (j : Int) < (k1 : Int) := by omega
              have HB7 := Lib.hid (bel_then HB6.out HBj.out)
              go_wp2_with fail
              go_roundw
              case rel => exact ⟨q + 1, by omega, by go_num, HB7.out⟩
              case measure => simp [intOf]; omega
        · obtain rfl : q = 2 := by omega
          go_wp2_with fail
          with_reducible refine (works_ok _).mono ?_
          rintro e w5 ⟨rfl, hb5⟩
          have HB5 := Lib.hid (bel_then HBr.out (bel_then HBQ.out hb5))
          clear hb5
          go_wp2_with fail
          go_ret
          exact ⟨rfl, HB5.out⟩

end Go.Proofs.YthhddjknjnjbhaaDoor
