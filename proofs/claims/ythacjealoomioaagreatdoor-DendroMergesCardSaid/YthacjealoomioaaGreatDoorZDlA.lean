/- DlA. -/
import Derived.Test.YthacjealoomioaaGreatDoorZGl
import Derived.Test.YthacjealoomioaaGreatDoorZGl2
import Derived.Test.YthacjealoomioaaGreatDoorZGc
/- The statements about the trees of graphs, layer 22: what they begin with. -/
namespace Go.Proofs.YthacjealoomioaaGreatDoor
set_option linter.unusedVariables false
set_option linter.unusedSimpArgs false
open Go.RowKit

theorem egF_w {n : Nat} (F : Nat → Nat → Nat) : ∀ k i, i < (egF n F k).length → -5 ≤ wI (egF n F k) i ∧ wI (egF n F k) i ≤ 10
  | 0, i, h => by simp [egF] at h
  | k + 1, i, h => by
    rw [egF] at h ⊢
    split at h
    · rename_i hc
      rw [if_pos hc]
      by_cases hi : i < (egF n F k).length
      · have := egF_w F k i hi
        unfold wI EA at this ⊢
        rw [List.getD_eq_getElem?_getD, List.getElem?_append_left hi, ← List.getD_eq_getElem?_getD]
        exact this
      · rw [List.length_append, List.length_singleton] at h
        have e : i = (egF n F k).length := by omega
        subst e
        unfold wI EA
        rw [List.getD_eq_getElem?_getD, List.getElem?_append_right (Nat.le_refl _), Nat.sub_self]
        show -5 ≤ ((F k 2 % 16 : Nat) : Int) - 5 ∧ ((F k 2 % 16 : Nat) : Int) - 5 ≤ 10
        omega
    · rename_i hc
      rw [if_neg hc]
      exact egF_w F k i h

/-- What built returns. -/
structure DbAt (w : World) (e : Ending) (w' : World) (n m : Nat) (L : List Ed) (T : Tr) (ls : List Nat) (A : TA) (g : Nat) : Prop where
  e : e = .returned (.tuple #[.agg #[.int .i64 (n : Int), .slice A.l.o m A.l.c, .slice A.r.o m A.r.c, .slice A.p.o m A.p.c, .slice A.h.o m A.h.c, .slice A.s.o m A.s.c], .pointer (some ⟨g, 0, none⟩), .bool true])
  hn : 1 ≤ n ∧ n ≤ 50
  gt : GTree n m L T ls
  ht : TreeAt w' A T
  hc : T.hgt.length ≤ A.h.c
  ob : GObj w' g n L
  wl : ∀ i, i < L.length → -5 ≤ wI L i ∧ wI L i ≤ 10
  bel : Below w.heap.size w w'

theorem GTree.hgt_in {n m : Nat} {L : List Ed} {T : Tr} {ls : List Nat} (h : GTree n m L T ls) (hw : ∀ i, i < L.length → -5 ≤ wI L i ∧ wI L i ≤ 10) : ∀ x, x < m → -5 ≤ gi T.hgt x ∧ gi T.hgt x ≤ 10 := fun x hx => by
  by_cases c : x < n
  · rw [(h.tv.leaf x c).2.2.1]; omega
  · have hm := h.meq
    have e := bdL_hgt h.g (i := x - n) (by omega)
    rw [show n + (x - n) = x by omega, ← h.eq] at e
    rw [e]
    refine hw _ ?_
    have hm : fe n L (x - n) ∈ forL n L := by
      unfold fe
      rw [List.getD_eq_getElem?_getD, List.getElem?_eq_getElem (show x - n < (forL n L).length by unfold FN at hm; omega)]
      exact List.getElem_mem _
    exact forL_mem hm
theorem GTree.h64 {n m : Nat} {L : List Ed} {T : Tr} {ls : List Nat} (h : GTree n m L T ls) (hw : ∀ i, i < L.length → -5 ≤ wI L i ∧ wI L i ≤ 10) : Hgt64 T := fun x hx => by
  have := h.hgt_in hw x (by rw [← h.tv.hl]; exact hx)
  unfold In64
  omega

theorem Blk.cellEq {w : World} {b : Nat} {T : TypeId} {cs : List Value} (h : Blk w b T cs) (i : Nat) : w.cell? ⟨b, i, none⟩ = cs[i]? := by
  unfold Blk at h
  simp [World.cell?, h]
/-- A graph stays when the block of a zero tree changes. -/
theorem GObj.modT {w w' : World} {g n rb : Nat} {L : List Ed} (h : GObj w g n L) (hr : Blk w rb 27 [.int .i64 0, .slice none 0 0, .slice none 0 0, .slice none 0 0, .slice none 0 0, .slice none 0 0]) (hm : Mod (fun x => x = rb) w w') : GObj w' g n L := by
  obtain ⟨ao, cap, b, sb, lb, h1, h2⟩ := h.ex
  refine ⟨ao, cap, b, sb, lb, h1.mod hm (fun e => ?_), h2.mod hm (fun hl e => ?_)⟩
  · rw [e] at h1
    have := (h1.inj hr).2
    simp at this
  · rw [e] at h2
    obtain ⟨_, k2, _⟩ := h2.cell 0 hl
    rw [hr.cellEq] at k2
    have k3 : ([.int .i64 0, .slice none 0 0, .slice none 0 0, .slice none 0 0, .slice none 0 0, .slice none 0 0] : List Value)[1]? = some (.int .i64 (EA L 0).V) := k2
    simp at k3

set_option maxHeartbeats 16000000 in
set_option maxRecDepth 100000 in
theorem built_ok (w : World) (sz : Nat) (hsz : sz ≤ 255) (ao : Option Addr) (len cap b off : Nat) (F : Nat → Nat → Nat) (hr : BRow w ao len b off F) :
    Calls Tryz.prog 22 #[.int .u8 sz, .slice ao len cap] w (fun e w' => ∃ n m L T ls A g, DbAt w e w' n m L T ls A g) := by
  have HW := Lib.hid (bel_alloc w (.cells #[.int .i64 0, .slice none 0 0, .slice none 0 0, .slice none 0 0, .slice none 0 0, .slice none 0 0] 27))
  have HR0 := Lib.hid (Blk.new w 27 [.int .i64 0, .slice none 0 0, .slice none 0 0, .slice none 0 0, .slice none 0 0, .slice none 0 0])
  have HR := Lib.hid (hr.below HW.out)
  clear hr
  go_enter Tryz.func22, Tryz.ntmps22
  go_wp2_with fail
  generalize (w.alloc (.cells #[.int .i64 0, .slice none 0 0, .slice none 0 0, .slice none 0 0, .slice none 0 0, .slice none 0 0] 27)) = w1 at *
  with_reducible refine (edges_ok w1 sz hsz ao len cap b off F HR.out).mono ?_
  rintro e w2 ⟨v, rfl, hnr⟩
  have hn50 : 1 ≤ 1 + sz % 50 ∧ 1 + sz % 50 ≤ 50 := by omega
  have hg := egF_ok hn50 F len
  have hwl := egF_w (n := 1 + sz % 50) F len
  obtain ⟨L, hL⟩ : ∃ L, egF (1 + sz % 50) F len = L := ⟨_, rfl⟩
  rw [hL] at hnr hg hwl
  clear hL
  generalize 1 + sz % 50 = n at *
  obtain ⟨a1, k1, rfl, hcon⟩ := build_g w2 n v L hg hnr.own
  have HNR := Lib.hid hnr
  have HB2 := Lib.hid (bel_then HW.out hnr.bel)
  have HR2 := Lib.hid (HR0.out.below hnr.bel HR0.out.lt)
  have hgt0 := gtree hg
  have HCON := Lib.hid hcon
  have HWL := Lib.hid hwl
  have HN50 := Lib.hid hn50
  have HW2 : Hid (w.heap.size < w2.heap.size) := HR2.out.lt
  clear hnr hcon hg HR hwl HR0 HW
  go_wp2_with fail
  with_reducible refine (HCON.out).mono ?_
  rintro e w3 ⟨⟨B, rfl, hbt, hbm⟩, hb⟩
  clear HCON
  obtain ⟨T, hT⟩ : ∃ T, bdL n L = T := ⟨_, rfl⟩
  obtain ⟨m, hm⟩ : ∃ m, n + FN n L = m := ⟨_, rfl⟩
  obtain ⟨ls, hls⟩ : ∃ ls, lsB n L (FN n L) = ls := ⟨_, rfl⟩
  rw [hT, hm, hls] at hgt0
  rw [hT, hm] at hbt
  rw [hT, hm]
  have HGT := Lib.hid hgt0
  have hm2 := hgt0.two
  have hnm := hgt0.tv.nm
  have hn4 := hgt0.tv.hn
  have hbq := Lib.hid hb
  have ht3 := hbt.tree (by rw [hgt0.tv.lv]; omega) (by omega)
  have HHC : Hid (T.hgt.length ≤ (B.ta m).h.c) := by show _ ≤ _; rw [hgt0.tv.hl]; exact Nat.le_refl _
  have HAN : Hid (∀ k, (B.ta m).has T k → w.heap.size < k) := by
    rintro k (⟨_, e⟩ | ⟨_, e⟩ | ⟨_, e⟩ | ⟨_, e⟩ | ⟨_, e⟩)
    all_goals
      have hmem : B.mem k := by
        unfold BB.mem
        subst e
        simp [BB.ta]
      have := hbm k hmem
      have := HW2.out
      omega
  have HR3 := Lib.hid (HR2.out.below hb HR2.out.lt)
  clear hT hm hls hbt hbm HR2
  obtain ⟨A, hA⟩ : ∃ A, B.ta m = A := ⟨_, rfl⟩
  rw [hA] at ht3 HHC HAN
  rw [hA, hgt0.agg A]
  have HBX := Lib.hid (bel_alloc w3 (.cells #[.int .i64 (n : Int), .slice A.l.o m A.l.c, .slice A.r.o m A.r.c, .slice A.p.o m A.p.c, .slice A.h.o m A.h.c, .slice A.s.o m A.s.c] 27))
  have HX := Lib.hid (GBox.new w3 n m A)
  have HT := Lib.hid (ht3.below HBX.out)
  have HB3 := Lib.hid (bel_then HB2.out (bel_then hb HBX.out))
  have HR4 := Lib.hid (HR3.out.below HBX.out HR3.out.lt)
  clear ht3 hb hA hgt0 HR3
  obtain ⟨aoe, cpe, be, ee, her, _⟩ := ERow.of_owns HNR.out.own
  injection ee with ee1 _ ee2
  subst ee1 ee2
  have HER := Lib.hid (her.below (bel_then hbq.out HBX.out))
  have HNC := Lib.hid (owns_nil_cap HNR.out.own)
  have hll : L.length ≤ 16384 := HGT.out.g.hl
  clear her
  go_wp2_with fail
  clear HBX
  generalize w3.heap.size = xb at *
  generalize w3.alloc (.cells #[.int .i64 (n : Int), .slice A.l.o m A.l.c, .slice A.r.o m A.r.c, .slice A.p.o m A.p.c, .slice A.h.o m A.h.c, .slice A.s.o m A.s.c] 27) = W at *
  with_reducible refine (new_ok W n a1 L.length k1 be 0 L HER.out (by omega) HNC.out (by omega)).mono ?_
  rintro e w4 ⟨⟨p, rfl, _, hgo⟩, hb⟩
  have hz := HGT.out.g.err
  obtain ⟨g, rfl, hgob⟩ := hgo hz
  rw [hz]
  rw [Int.toNat_natCast] at hgob
  have HGO := Lib.hid hgob
  have HX4 := Lib.hid (HX.out.below hb)
  have HT4 := Lib.hid (HT.out.below hb)
  have HB4 := Lib.hid (bel_then HB3.out hb)
  have HRX := Lib.hid (HR4.out.below hb HR4.out.lt)
  clear hb hz hgo hgob HX HT HB3 HER hbq HR4
  obtain ⟨c0, c1, c2, c3, c4, c5⟩ := HX4.out.six
  go_wp2_with (with_reducible refine wpList_storeBlk w.heap.size 27 [.int .i64 0, .slice none 0 0, .slice none 0 0, .slice none 0 0, .slice none 0 0, .slice none 0 0] [.int .i64 (n : Int), .slice A.l.o m A.l.c, .slice A.r.o m A.r.c, .slice A.p.o m A.p.c, .slice A.h.o m A.h.c, .slice A.s.o m A.s.c] rfl rfl HRX.out rfl (by kernel_rfl) (by simp [Value.oneCell']) ?_)
  intro wz hbz hmz
  have HF : Hid (Below w.heap.size w wz) := bel_mod HB4.out hmz (fun x e => by rw [e]; exact Nat.le_refl _)
  have HTF : Hid (TreeAt wz A T) := HT4.out.mod hmz (fun k hk e => by have := HAN.out k hk; have h2 : k = w.heap.size := e; omega)
  have HGF : Hid (GObj wz g n L) := HGO.out.modT HRX.out hmz
  clear c0 c1 c2 c3 c4 c5
  have d0 := hbz.cell (i := 0) rfl
  have d1 := hbz.cell (i := 1) rfl
  have d2 := hbz.cell (i := 2) rfl
  have d3 := hbz.cell (i := 3) rfl
  have d4 := hbz.cell (i := 4) rfl
  have d5 := hbz.cell (i := 5) rfl
  clear hbz hmz
  go_wp2_with fail
  refine bodyPost_ret (v := .tuple #[.agg #[.int .i64 (n : Int), .slice A.l.o m A.l.c, .slice A.r.o m A.r.c, .slice A.p.o m A.p.c, .slice A.h.o m A.h.c, .slice A.s.o m A.s.c], .pointer (some ⟨g, 0, none⟩), .bool true]) (by simp [results, Tryz.results22, go_sem, d0, d1, d2, d3, d4, d5]) rfl ?_
  exact ⟨n, m, L, T, ls, A, g, rfl, HN50.out, HGT.out, HTF.out, HHC.out, HGF.out, HWL.out, HF.out⟩

end Go.Proofs.YthacjealoomioaaGreatDoor
