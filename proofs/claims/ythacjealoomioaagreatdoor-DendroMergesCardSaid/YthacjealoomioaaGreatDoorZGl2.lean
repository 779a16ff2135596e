/- RgA, RgB, RgC, DnZ. -/
import Derived.Test.YthacjealoomioaaGreatDoorZGg
import Derived.Test.YthacjealoomioaaGreatDoorZGh
import Derived.Test.YthacjealoomioaaGreatDoorZGj
import Derived.Test.YthacjealoomioaaGreatDoorZGb
import Derived.Test.YthacjealoomioaaGreatDoorZGd
import Derived.Test.YthacjealoomioaaGreatDoorZGl
import Derived.Deep.RegionHeld3
/- graph: valid, N, Under, parts, Labels; dsu.Labels. -/
namespace Go.Proofs.YthacjealoomioaaGreatDoor
set_option linter.unusedVariables false
set_option linter.unusedSimpArgs false
open Go.RowKit

theorem Tryz.eqlGraph (a : Addr) (w : World) : (binOp .eql 39 (.pointer (some a)) (.pointer (some a))).run Tryz.prog w = .ok (.bool true) w := by
  have hj : ∃ j, Tryz.prog.info? 105 = some j := Option.isSome_iff_exists.1 (by kernel_rfl)
  obtain ⟨j, hj⟩ := hj
  exact run_eql_ptr_same w a Tryz.underlying39 hj

set_option maxHeartbeats 400000 in
theorem gvalid_ok (b : Nat) (w : World) (h0 : w.cell? ⟨b, 0, none⟩ = some (.pointer (some ⟨b, 0, none⟩))) :
    Calls Tryz.prog 60 #[.pointer (some ⟨b, 0, none⟩)] w (Ret (.bool true) w) := by
  have he := Tryz.eqlGraph ⟨b, 0, none⟩ w
  go_enter Tryz.func60, Tryz.ntmps60
  go_wp2
  go_ret
  exact ⟨rfl, rfl⟩

set_option maxHeartbeats 400000 in
theorem gN_ok (b s n : Nat) (w : World) (hn : n ≤ 65536) (h0 : w.cell? ⟨b, 0, none⟩ = some (.pointer (some ⟨b, 0, none⟩))) (h2 : w.cell? ⟨b, 2, none⟩ = some (.slice (some ⟨s, 0, none⟩) (n + 1) (n + 1))) :
    Calls Tryz.prog 27 #[.pointer (some ⟨b, 0, none⟩)] w (Ret (.int .i64 n) w) := by
  go_enter Tryz.func27, Tryz.ntmps27
  go_wp2_with fail
  with_reducible refine (gvalid_ok b w h0).mono ?_
  rintro e w' ⟨rfl, rfl⟩
  go_wp2_with fail
  go_ret
  exact ⟨by simp, rfl⟩

/-- The edges that are no heavier than th. -/
def undL (l : List Ed) (th : Int) : List Ed := l.filter fun e => decide (e.W ≤ th)
theorem EA_get {l : List Ed} {i : Nat} (h : i < l.length) : EA l i = l[i] := by unfold EA; rw [List.getD_eq_getElem?_getD, List.getElem?_eq_getElem h]; rfl
theorem und_succ {l : List Ed} {th : Int} {i : Nat} (h : i < l.length) : undL (l.take (i + 1)) th = if (EA l i).W ≤ th then undL (l.take i) th ++ [EA l i] else undL (l.take i) th := by
  unfold undL
  rw [List.take_succ_eq_append_getElem h, List.filter_append, ← EA_get h]
  by_cases hc : (EA l i).W ≤ th
  · rw [if_pos hc]; simp [hc]
  · rw [if_neg hc]; simp [hc]
theorem und_len (l : List Ed) (th : Int) (i : Nat) : (undL (l.take i) th).length ≤ i := by
  unfold undL
  have h1 := List.length_filter_le (fun e : Ed => decide (e.W ≤ th)) (l.take i)
  rw [List.length_take] at h1
  omega
theorem und_ok {n : Nat} {l : List Ed} (hg : GOk n l) (th : Int) : GOk n (undL l th) := by
  have hl : (undL l th).length ≤ l.length := List.length_filter_le _ _
  refine ⟨hg.hn, Nat.le_trans hl hg.hl, fun i hi => ?_⟩
  have hm2 : EA (undL l th) i ∈ l.filter fun e => decide (e.W ≤ th) := EA_mem hi
  have hm : EA (undL l th) i ∈ l := (List.mem_filter.1 hm2).1
  obtain ⟨j, hj⟩ := List.getElem?_of_mem hm
  have hlt := (List.getElem?_eq_some_iff.1 hj).1
  have e : EA l j = EA (undL l th) i := by rw [EA_get hlt]; exact (List.getElem?_eq_some_iff.1 hj).2
  rw [← e]
  exact hg.ed j hlt

theorem und_edr {l : List Ed} {th : Int} (u v : Nat) : EdR (undL l th) (fun _ => True) u v ↔ EdR l (fun i => wI l i ≤ th) u v := by
  constructor
  · rintro ⟨i, hi, _, rfl, rfl⟩
    have hm := EA_mem hi
    have hm2 : EA (undL l th) i ∈ l.filter fun e => decide (e.W ≤ th) := hm
    obtain ⟨h1, h2⟩ := List.mem_filter.1 hm2
    obtain ⟨j, hj⟩ := List.getElem?_of_mem h1
    have hlt := (List.getElem?_eq_some_iff.1 hj).1
    have e : EA l j = EA (undL l th) i := by rw [EA_get hlt]; exact (List.getElem?_eq_some_iff.1 hj).2
    refine ⟨j, hlt, ?_, ?_, ?_⟩
    · show (EA l j).W ≤ th
      rw [e]; exact of_decide_eq_true h2
    · unfold uN; rw [e]
    · unfold vN; rw [e]
  · rintro ⟨i, hi, hw, rfl, rfl⟩
    have hm : EA l i ∈ undL l th := List.mem_filter.2 ⟨EA_mem hi, decide_eq_true hw⟩
    obtain ⟨j, hj⟩ := List.getElem?_of_mem hm
    have hlt := (List.getElem?_eq_some_iff.1 hj).1
    have e : EA (undL l th) j = EA l i := by rw [EA_get hlt]; exact (List.getElem?_eq_some_iff.1 hj).2
    exact ⟨j, hlt, trivial, by unfold uN; rw [e], by unfold vN; rw [e]⟩

/-- The labels after the first i edges. -/
def parK (n : Nat) (l : List Ed) : Nat → List Nat
  | 0 => List.range n
  | i + 1 => joinK (parK n l i) (uN l i) (vN l i)
theorem parK_lab {n : Nat} {l : List Ed} (hg : GOk n l) : ∀ i, i ≤ l.length → IsLab n (EdR l fun j => j < i) (parK n l i)
  | 0, _ => (IsLab.start n).congr (fun a b => ⟨fun h => h.elim, fun ⟨j, _, h, _⟩ => by omega⟩)
  | i + 1, h => by
    obtain ⟨hu, hv, _⟩ := hg.uv (show i < l.length by omega)
    refine ((parK_lab hg i (by omega)).join hu hv).congr (fun a b => ⟨?_, ?_⟩)
    · rintro (⟨j, h1, h2, h3, h4⟩ | ⟨rfl, rfl⟩)
      · exact ⟨j, h1, by omega, h3, h4⟩
      · exact ⟨i, by omega, by omega, rfl, rfl⟩
    · rintro ⟨j, h1, h2, rfl, rfl⟩
      by_cases hj : j = i
      · subst hj; exact .inr ⟨rfl, rfl⟩
      · exact .inl ⟨j, h1, by omega, rfl, rfl⟩
theorem parK_all {n : Nat} {l : List Ed} (hg : GOk n l) : IsLab n (EdR l fun _ => True) (parK n l l.length) :=
  (parK_lab hg l.length (Nat.le_refl _)).congr (fun a b => ⟨fun ⟨j, h1, _, h⟩ => ⟨j, h1, trivial, h⟩, fun ⟨j, h1, _, h⟩ => ⟨j, h1, h1, h⟩⟩)

/-- The labels of a graph at a threshold are those of kruskal. -/
theorem und_labels {n : Nat} {l : List Ed} (hg : GOk n l) (th : Int) : parK n (undL l th) (undL l th).length = (foTo n l (cutT l th)).k :=
  ((parK_all (und_ok hg th)).congr (fun a b => und_edr a b)).unique (foTo_cut hg th)

end Go.Proofs.YthacjealoomioaaGreatDoor

/- graph: Under; dsu.Labels; graph.parts, Labels. -/
namespace Go.Proofs.YthacjealoomioaaGreatDoor
set_option linter.unusedVariables false
set_option linter.unusedSimpArgs false
open Go.RowKit

structure GuPost (w : World) (n : Nat) (l : List Ed) (e : Ending) (w' : World) : Prop where
  out : ∃ g, e = .returned (.pointer (some ⟨g, 0, none⟩)) ∧ GObj w' g n l
  bel : Below w.heap.size w w'

theorem take_full {l : List Ed} : undL (l.take l.length) = undL l := by rw [List.take_length]

set_option maxHeartbeats 4000000 in
set_option maxRecDepth 100000 in
theorem under_ok (w : World) (g n : Nat) (l : List Ed) (ho : GObj w g n l) (hg : GOk n l) (th : Int) :
    Calls Tryz.prog 30 #[.pointer (some ⟨g, 0, none⟩), .int .i64 th] w (GuPost w n (undL l th)) := by
  obtain ⟨ao, cap, b, sb, lb, hbl, her⟩ := ho.ex
  have HBL := Lib.hid hbl
  have HE := Lib.hid her
  have HG := Lib.hid hg
  have hl := hg.hl
  have hn := hg.hn
  have c0 := hbl.cell (i := 0) rfl
  have c1 := hbl.cell (i := 1) rfl
  clear ho hbl her hg
  go_enter Tryz.func30, Tryz.ntmps30
  go_wp2_with fail
  with_reducible refine (gvalid_ok g w c0).mono ?_
  rintro e w' ⟨rfl, rfl⟩
  obtain ⟨m, HM⟩ : ∃ m, Hid (l.length = m) := ⟨_, rfl⟩
  rw [HM.out] at c1 hl
  go_wp2_with fail
  clear c0 c1
  go_loopw [5, 16] (fun v s wr => ∃ i : Nat, i ≤ m ∧ s = .int .i64 i ∧ wr.ownsRow 0 82 3 v (undL (l.take i) th).length (edCells (undL (l.take i) th)) ∧ (∀ y, v.ownBlock = some y → w.heap.size ≤ y) ∧ Below w.heap.size w wr) (fun _ s _ => m - (intOf s).toNat)
  case atStart => exact ⟨0, Nat.zero_le _, rfl, World.ownsRow_nil _ _ _ _, fun y hy => (by cases hy), Below.refl _ _⟩
  case round =>
    obtain ⟨i, hi, rfl, hx, hxn, hb⟩ := hrel
    have HX := Lib.hid hx
    have HXN := Lib.hid hxn
    have HB := Lib.hid hb
    clear hx hxn hb
    by_cases him : i < m
    · have hel := und_len l th i
      have HST := Lib.hid (und_succ (l := l) (th := th) (i := i) (by rw [HM.out]; exact him))
      obtain ⟨d0, d1, d2⟩ := (HE.out.below HB.out).cell i (by rw [HM.out]; exact him)
      rw [Nat.zero_add] at d0 d1 d2
      obtain rfl := HE.out.adr (by rw [HM.out]; omega)
      have t1 : (i : Int) < (m : Int) := by omega
      have t2 : (0 : Int) ≤ (i : Int) := by omega
      obtain ⟨K, HK⟩ : ∃ K, Hid (undL (l.take i) th = K) := ⟨_, rfl⟩
      rw [HK.out] at HX HST hel
      generalize EA l i = ed at *
      obtain ⟨U, V, W'⟩ := ed
      simp only at d0 d1 d2
      have HBX := Lib.hid (HB.out.alloc HB.out.size (.cells #[.int .i64 U, .int .i64 V, .int .i64 W'] 82))
      by_cases hw : W' ≤ th
      · have tw : decide (W' ≤ th) = true := decide_eq_true hw
        have HEQ : Hid (undL (l.take (i + 1)) th = K ++ [⟨U, V, W'⟩]) := HST.out.trans (if_pos hw)
        clear hw
        have HOW : Hid (((wr.alloc (.cells #[.int .i64 U, .int .i64 V, .int .i64 W'] 82)).alloc (.cells #[.int .i64 U, .int .i64 V, .int .i64 W'] 82)).ownsRow 0 82 3 (u5 : Value) K.length (edCells K)) := (HX.out.alloc _).alloc _
        have HNW : Hid (∀ j u, ([.int .i64 U, .int .i64 V, .int .i64 W'] : List Value)[j]? = some u → ((wr.alloc (.cells #[.int .i64 U, .int .i64 V, .int .i64 W'] 82)).alloc (.cells #[.int .i64 U, .int .i64 V, .int .i64 W'] 82)).cell? ((⟨wr.heap.size + 1, 0, none⟩ : Addr).add j) = some u) := by
          have := news_new (wr.alloc (.cells #[.int .i64 U, .int .i64 V, .int .i64 W'] 82)) 82 [.int .i64 U, .int .i64 V, .int .i64 W']
          rw [show (wr.alloc (.cells #[.int .i64 U, .int .i64 V, .int .i64 W'] 82)).heap.size = wr.heap.size + 1 by simp] at this
          exact this
        go_wp2_with (at_builtin; apply keepIt)
        apply Lib.hid
        refine wpList_appendB 82 (.agg #[.int .i64 0, .int .i64 0, .int .i64 0]) 3 24 Tryz.underlying22 Tryz.infoEdge rfl (by decide) _ K.length _ rfl HOW.out ⟨wr.heap.size + 1, 0, none⟩ 1 1 [.int .i64 U, .int .i64 V, .int .i64 W'] rfl rfl HNW.out (by simp [Value.oneCell']) (by unfold maxLen; omega) (by omega) ?_
        intro v6 w6 ho6 hg6 hn6
        obtain ⟨hv6, hvn6, hb6⟩ := app_edge (x := ⟨U, V, W'⟩) HXN.out HBX.out.size ho6 hg6 hn6
        rw [← HEQ.out] at hv6
        have HV6 := Lib.hid hv6
        have HN6 := Lib.hid hvn6
        have HB6 := Lib.hid (HBX.out.trans hb6)
        clear ho6 hg6 hn6 hv6 hvn6 hb6
        go_wp2_with fail
        go_roundw
        case rel => exact ⟨i + 1, by omega, by go_num, HV6.out, HN6.out, HB6.out⟩
        case measure => simp [intOf]; omega
      · have tw : decide (W' ≤ th) = false := decide_eq_false hw
        have HEQ : Hid (undL (l.take (i + 1)) th = K) := HST.out.trans (if_neg hw)
        have HX2 : Hid ((wr.alloc (.cells #[.int .i64 U, .int .i64 V, .int .i64 W'] 82)).ownsRow 0 82 3 (u5 : Value) K.length (edCells K)) := HX.out.alloc _
        clear hw
        go_wp2_with fail
        go_roundw
        case rel => exact ⟨i + 1, by omega, by go_num, by rw [HEQ.out]; exact HX2.out, HXN.out, HBX.out⟩
        case measure => simp [intOf]; omega
    · obtain rfl : i = m := by omega
      have hx := HX.out
      rw [← HM.out, List.take_length] at hx
      obtain ⟨ao2, cap2, b2, rfl, he2, _⟩ := ERow.of_owns hx
      have HE2 := Lib.hid he2
      have HU := Lib.hid (und_ok HG.out th)
      have HBLR := Lib.hid (HBL.out.below HB.out HBL.out.lt)
      have c0 := HBLR.out.cell (i := 0) rfl
      have c2 := HBLR.out.cell (i := 2) rfl
      clear hx he2
      have ti : ¬ (i : Int) < (i : Int) := by omega
      go_wp2_with fail
      with_reducible refine (gN_ok g sb n wr (by omega) c0 c2).mono ?_
      rintro e w' ⟨rfl, rfl⟩
      clear c0 c2
      go_wp2_with fail
      with_reducible refine (build_ok wr n ao2 (undL l th).length cap2 b2 0 (undL l th) HE2.out HU.out).mono ?_
      rintro e w3 ⟨⟨g3, sb3, lb3, rfl, hgb⟩, hb3⟩
      have HGB : Hid (GObj w3 g3 n (undL l th)) := ⟨ao2, cap2, b2, sb3, lb3, hgb, HE2.out.below hb3⟩
      have HB3 := Lib.hid (bel_then HB.out hb3)
      clear hgb hb3
      go_wp2_with fail
      go_ret
      exact ⟨⟨g3, rfl, HGB.out⟩, HB3.out⟩

end Go.Proofs.YthacjealoomioaaGreatDoor

/- dsu.Labels; graph.parts, Labels. -/
namespace Go.Proofs.YthacjealoomioaaGreatDoor
set_option linter.unusedVariables false
set_option linter.unusedSimpArgs false
open Go.RowKit

/-- The labels written so far. -/
def dlL (k : List Nat) (n i : Nat) : List Nat := k.take i ++ List.replicate (n - i) 0
theorem dlL_len {k : List Nat} {n i : Nat} (hk : k.length = n) (hi : i ≤ n) : (dlL k n i).length = n := by unfold dlL; simp; omega
theorem dlL_set {k : List Nat} {n i : Nat} (hk : k.length = n) (hi : i < n) : (dlL k n i).set i (k.getD i 0) = dlL k n (i + 1) := by
  unfold dlL
  rw [show n - i = (n - (i + 1)) + 1 by omega, List.replicate_succ, List.set_append_right _ _ (by simp; omega), take_snocN (by omega)]
  simp [show min i k.length = i by omega]
theorem dlL_end {k : List Nat} {n : Nat} (hk : k.length = n) : dlL k n n = k := by unfold dlL; rw [Nat.sub_self, List.take_of_length_le (by omega)]; simp

theorem keepDL {F : Nat → Prop} {w w' : World} {p1 : Addr} {v1 : Value} {b n : Nat} {f : Nat → Value} (h1 : Hid (w.cell? p1 = some v1)) (h2 : Hid (∀ r, r < n → w.cell? ⟨b, r, none⟩ = some (f r))) (n1 : ¬ F p1.block) (n2 : ¬ F b) (hb : Mod F w w') :
    w'.cell? p1 = some v1 ∧ (∀ r, r < n → w'.cell? ⟨b, r, none⟩ = some (f r)) ∧ Mod F w w' :=
  ⟨(hb.cell (World.block_lt_of_cell? w _ h1.out) n1).trans h1.out, fun r hr => (hb.cell (p := ⟨b, r, none⟩) (World.block_lt_of_cell? w _ (h2.out r hr)) n2).trans (h2.out r hr), hb⟩

set_option maxHeartbeats 4000000 in
set_option maxRecDepth 100000 in
theorem dlabels_ok (w : World) (D : DB) (n : Nat) (k : List Nat) (hd : DObj w D n k) (hn : n ≤ 4096) :
    Calls Tryz.prog 64 #[.pointer (some ⟨D.s, 0, none⟩)] w (fun e w' => (∃ v, e = .returned v ∧ w'.ownsRow 0 3 1 v n (natV k) ∧ ∀ y, v.ownBlock = some y → w.heap.size ≤ y) ∧ Mod D.mem w w') := by
  obtain ⟨up, least, sz, cnt, h, H, hrep, hi, hl⟩ := hd.ex
  have HKL := Lib.hid hd.kl
  have HDLT : Hid (∀ x, D.mem x → x < w.heap.size) := fun x hx => hd.lt hx
  have c0 := hrep.sb.cell (i := 0) rfl
  have c1 := hrep.sb.cell (i := 1) rfl
  have HREP := Lib.hid hrep
  have HI := Lib.hid hi
  have HLD := Lib.hid hl
  clear hd hrep hi hl
  go_enter Tryz.func64, Tryz.ntmps64
  go_wp2_with fail
  with_reducible refine (dvalid_ok D.s w c0).mono ?_
  rintro e w' ⟨rfl, rfl⟩
  go_wp2_with (at_make; apply keepIt)
  apply Lib.hid
  refine wpList_makeB 3 (.int .i64 0) 8 Tryz.underlying24 Tryz.infoInt rfl _ _ _ _ n rfl rfl rfl rfl (by omega) (by unfold maxLen; omega) ?_
  intro w2 hB hb
  have HTB : Hid (Blk w2 w.heap.size 3 (natV (dlL k n 0))) := by show Blk _ _ _ _; unfold dlL; rw [List.take_zero, List.nil_append, natV_zero]; exact hB
  have HR2 : Hid (DRep w2 D n up least sz cnt) := HREP.out.mod (F := fun _ => False) (Mod.of_below hb) (fun _ _ h => h)
  have HM2 : Hid (Mod (fun y => D.mem y ∨ y = w.heap.size) w w2) := Mod.of_below hb
  have HDN : Hid (¬ D.mem w.heap.size) := fun q => by have := HDLT.out _ q; omega
  clear hB hb c0 c1 HREP
  generalize htb : w.heap.size = tb at *
  have HTE := Lib.hid htb
  clear htb
  go_wp2_with fail
  go_loopw [16] (fun s wr => ∃ (i : Nat) (up' : List Nat), i ≤ n ∧ s = .int .i64 i ∧ Blk wr tb 3 (natV (dlL k n i)) ∧ DRep wr D n up' least sz cnt ∧ DInv n k up' h H ∧ LDInv n k up' least ∧ Mod (fun y => D.mem y ∨ y = tb) w wr) (fun s _ => n - (intOf s).toNat)
  case atStart => exact ⟨0, up, Nat.zero_le _, rfl, HTB.out, HR2.out, HI.out, HLD.out, HM2.out⟩
  case round =>
    obtain ⟨i, up', hin, rfl, htb, hrep, hinv, hldv, hmd⟩ := hrel
    clear HTB HR2 HI HLD HM2
    have HTB := Lib.hid htb
    have HREP := Lib.hid hrep
    have HI := Lib.hid hinv
    have HLD := Lib.hid hldv
    have HM := Lib.hid hmd
    clear htb hrep hinv hldv hmd
    by_cases hi : i < n
    · have c2 := HREP.out.sb.cell (i := 2) rfl
      have C2 := Lib.hid c2
      have hsz : D.ub ≠ D.s := HREP.out.n1
      have hst : D.s ≠ tb := fun e => HDN.out (.inl e.symm) 
      have hut : ¬ tb = D.ub := fun e => HDN.out (.inr (.inl e))
      have NF : Hid (¬ (D.s = D.ub ∨ D.s = tb)) := fun e => e.elim (fun e => hsz e.symm) hst
      have HUT := Lib.hid hut
      have NL : Hid (¬ (D.lb = D.ub ∨ D.lb = tb)) := fun e => e.elim (fun e => HREP.out.n4 e.symm) (fun e => HDN.out (.inr (.inr (.inl e.symm))))
      have HLE : Hid (∀ r, r < n → wr.cell? ⟨D.lb, r, none⟩ = some (.int .i64 ((least.getD r 0 : Nat) : Int))) := fun r hr => blkN HREP.out.lbk (by rw [HLD.out.1]; exact hr)
      have hilen : i < (dlL k n i).length := by rw [dlL_len HKL.out hin]; exact hi
      have HIL := Lib.hid hilen
      have KI : Hid (∃ q, k.getD i 0 = q) := ⟨_, rfl⟩
      clear hsz hst hut hilen
      have t1 : (i : Int) < (n : Int) := by omega
      have t2 : (0 : Int) ≤ (i : Int) := by omega
      go_wp2_with fail
      go_region_held3 (fun w' => w'.cell? ⟨D.s, 2, none⟩ = some (.slice (some ⟨D.lb, 0, none⟩) n n) ∧ (∀ r, r < n → w'.cell? ⟨D.lb, r, none⟩ = some (.int .i64 ((least.getD r 0 : Nat) : Int))) ∧ Mod (fun z => z = D.ub ∨ z = tb) wr w')
        (((try go_split_ands); refine keepDL C2 HLE NF.out NL.out ?_; first | assumption | (repeat (first | exact Mod.refl _ _ | assumption | apply Mod.drew | refine Mod.setAt ?_ (by simp)))))
        (first
          | (go_at_call 103; (try go_split_ands); (with_reducible refine (droot_ok _ D n k up' least sz cnt h H (HREP.out.mod (F := fun _ => False) ((Mod.refl _ wr).drew) (fun _ _ h => h)) HI.out HLD.out (by omega) i hi).mono ?_); rintro e w4 ⟨⟨r, up4, rfl, hr4, er4, kr4, hp4, hi4, hl4, _⟩, hm4⟩; have HG := Lib.hid ((hl4.2 r hr4 er4).trans kr4); have hmq : Mod (fun z => z = D.ub ∨ z = tb) wr w4 := (((Mod.refl (fun z => z = D.ub) wr).drew).trans hm4 (fun _ _ h => h)).mono (fun _ _ h => .inl h); have htb4 := (HTB.out.drew).mod hm4 HUT.out; have g2 := blkN htb4 HIL.out; have g3 := htb4.free i; have g4 : (r : Int) < (n : Int) := by omega))
      all_goals
        have HTB5 : Hid (Blk (w4.setCell ⟨tb, i, none⟩ (.int .i64 ((least.getD r 0 : Nat) : Int))) tb 3 (natV (dlL k n (i + 1)))) := by
          have := blkN_set htb4 i (least.getD r 0)
          rw [HG.out, dlL_set HKL.out hi, ← HG.out] at this
          exact this
        have HR5 : Hid (DRep (w4.setCell ⟨tb, i, none⟩ (.int .i64 ((least.getD r 0 : Nat) : Int))) D n up4 least sz cnt) := hp4.mod (F := fun y => y = tb) ((Mod.refl _ w4).setAt rfl) (fun x hx e => by rw [e] at hx; exact HDN.out hx)
        have HM5 : Hid (Mod (fun y => D.mem y ∨ y = tb) w (w4.setCell ⟨tb, i, none⟩ (.int .i64 ((least.getD r 0 : Nat) : Int)))) := (HM.out.trans hmq (fun x _ e => e.elim (fun e => .inl (.inr (.inl e))) .inr)).setAt (.inr rfl)
        have HI5 := Lib.hid hi4
        have HL5 := Lib.hid hl4
        clear hmq htb4 g2 g3 g4 hp4 hi4 hl4 hm4 er4 kr4
        go_wp2_with fail
        go_roundw
        case rel => exact ⟨i + 1, up4, by omega, by go_num, HTB5.out, HR5.out, HI5.out, HL5.out, HM5.out⟩
        case measure => simp [intOf]; omega
    · have hie : i = n := by omega
      subst hie
      have HTF : Hid (Blk wr tb 3 (natV k)) := by show Blk _ _ _ _; have := HTB.out; rw [dlL_end HKL.out] at this; exact this
      have ti : ¬ (i : Int) < (i : Int) := by omega
      go_wp2_with fail
      go_ret
      exact ⟨⟨_, rfl, owns_blk HTF.out (by rw [natV_len, HKL.out]; omega) |> fun h => by rw [natV_len, HKL.out] at h; exact h, fun y hy => by injection hy with hy; rw [← hy, HTE.out]; exact Nat.le_refl _⟩, HM.out.mono (fun x hx q => q.elim id (fun e => by rw [e, HTE.out] at hx; omega))⟩

structure PtPost (w : World) (n : Nat) (k : List Nat) (e : Ending) (w' : World) : Prop where
  out : ∃ D : DB, e = .returned (.pointer (some ⟨D.s, 0, none⟩)) ∧ DObj w' D n k ∧ ∀ x, D.mem x → w.heap.size ≤ x
  bel : Below w.heap.size w w'

set_option maxHeartbeats 4000000 in
set_option maxRecDepth 100000 in
theorem parts_ok (w : World) (g n : Nat) (l : List Ed) (ho : GObj w g n l) (hg : GOk n l) :
    Calls Tryz.prog 63 #[.pointer (some ⟨g, 0, none⟩)] w (PtPost w n (parK n l l.length)) := by
  obtain ⟨ao, cap, b, sb, lb, hbl, her⟩ := ho.ex
  have HBL := Lib.hid hbl
  have HE := Lib.hid her
  have HG := Lib.hid hg
  have hl := hg.hl
  have hn := hg.hn
  have c0 := hbl.cell (i := 0) rfl
  have c1 := hbl.cell (i := 1) rfl
  have c2 := hbl.cell (i := 2) rfl
  clear ho hbl her hg
  go_enter Tryz.func63, Tryz.ntmps63
  go_wp2_with fail
  with_reducible refine (gvalid_ok g w c0).mono ?_
  rintro e w' ⟨rfl, rfl⟩
  go_wp2_with fail
  with_reducible refine (gN_ok g sb n w (by omega) c0 c2).mono ?_
  rintro e w' ⟨rfl, rfl⟩
  go_wp2_with fail
  with_reducible refine (dnew_ok w n (by omega)).mono ?_
  rintro e w2 ⟨⟨D, rfl, hd, hdn⟩, hb⟩
  have HD := Lib.hid hd
  have HDN := Lib.hid hdn
  have HB := Lib.hid hb
  have HBL2 := Lib.hid (HBL.out.below hb HBL.out.lt)
  obtain ⟨m, HM⟩ : ∃ m, Hid (l.length = m) := ⟨_, rfl⟩
  rw [HM.out] at hl
  clear c0 c1 c2 hd hdn hb
  have c1 := HBL2.out.cell (i := 1) rfl
  rw [HM.out] at c1
  go_wp2_with fail
  clear c1
  go_loopw [21] (fun s wr => ∃ i : Nat, i ≤ m ∧ s = .int .i64 i ∧ DObj wr D n (parK n l i) ∧ Below w.heap.size w wr) (fun s _ => m - (intOf s).toNat)
  case atStart => exact ⟨0, Nat.zero_le _, rfl, HD.out, HB.out⟩
  case round =>
    obtain ⟨i, hi, rfl, hd, hb⟩ := hrel
    clear HD HB
    have HD := Lib.hid hd
    have HB := Lib.hid hb
    clear hd hb
    by_cases him : i < m
    · obtain ⟨hu, hv, _, eU, eV⟩ := HG.out.uv (i := i) (by rw [HM.out]; exact him)
      obtain ⟨d0, d1, d2⟩ := (HE.out.below HB.out).cell i (by rw [HM.out]; exact him)
      rw [Nat.zero_add] at d0 d1 d2
      rw [eU] at d0
      rw [eV] at d1
      obtain rfl := HE.out.adr (by rw [HM.out]; omega)
      have t1 : (i : Int) < (m : Int) := by omega
      have t2 : (0 : Int) ≤ (i : Int) := by omega
      have hbx : Below wr.heap.size wr (wr.alloc (.cells #[.int .i64 (uN l i), .int .i64 (vN l i), .int .i64 (EA l i).W] 82)) := bel_alloc _ _
      have HDX := Lib.hid (HD.out.below hbx)
      have HBX := Lib.hid (bel_then HB.out hbx)
      clear hbx eU eV
      go_wp2_with fail
      with_reducible refine (union_ok _ D n (parK n l i) HDX.out (uN l i) (vN l i) hu hv).mono ?_
      rintro e w5 ⟨rfl, hd5, hm5⟩
      have HD5 : Hid (DObj w5 D n (parK n l (i + 1))) := hd5
      have HB5 := Lib.hid (bel_mod HBX.out hm5 (fun x hx => HDN.out x hx))
      clear hd5 hm5 d0 d1 d2
      go_wp2_with fail
      go_roundw
      case rel => exact ⟨i + 1, by omega, by go_num, HD5.out, HB5.out⟩
      case measure => simp [intOf]; omega
    · have hie : i = m := by omega
      have HDF : Hid (DObj wr D n (parK n l l.length)) := by show DObj _ _ _ _; have := HD.out; rw [hie, ← HM.out] at this; exact this
      have ti : ¬ (i : Int) < (m : Int) := by omega
      clear hie
      go_wp2_with fail
      go_ret
      exact ⟨⟨D, rfl, HDF.out, HDN.out⟩, HB.out⟩

set_option maxHeartbeats 4000000 in
set_option maxRecDepth 100000 in
theorem grlabels_ok (w : World) (g n : Nat) (l : List Ed) (ho : GObj w g n l) (hg : GOk n l) :
    Calls Tryz.prog 29 #[.pointer (some ⟨g, 0, none⟩)] w (RowPost w 3 1 n (natV (parK n l l.length))) := by
  have hn := hg.hn
  go_enter Tryz.func29, Tryz.ntmps29
  go_wp2_with fail
  with_reducible refine (parts_ok w g n l ho hg).mono ?_
  rintro e w2 ⟨⟨D, rfl, hd, hdn⟩, hb⟩
  have HDN := Lib.hid hdn
  have HB := Lib.hid hb
  have HD := Lib.hid hd
  clear hd hdn hb
  go_wp2_with fail
  with_reducible refine (dlabels_ok w2 D n _ HD.out hn).mono ?_
  rintro e w3 ⟨⟨v, rfl, hv, hvn⟩, hm⟩
  have HV := Lib.hid hv
  have HVN := Lib.hid hvn
  have HF := Lib.hid (bel_mod HB.out hm (fun x hx => HDN.out x hx))
  clear hv hvn hm
  go_wp2_with fail
  go_ret
  exact ⟨⟨_, rfl, HV.out, HF.out, fun y hy => Nat.le_trans HB.out.size (HVN.out y hy)⟩⟩

end Go.Proofs.YthacjealoomioaaGreatDoor

/- Cuts and cophenetic heights of the tree of a graph. No program in sight. -/
namespace Go.Proofs.YthacjealoomioaaGreatDoor
set_option linter.unusedVariables false
set_option linter.unusedSimpArgs false

/-- At each stage: the labels, and how many clusters there are. -/
theorem stage_roots {n : Nat} {l : List Ed} (hg : GOk n l) {j : Nat} (hj : j ≤ FN n l) : KOk n (bdS n l j).k ∧ j + roots n (bdS n l j).k = n := by
  obtain ⟨q, hq, e⟩ : ∃ q, q ≤ l.length ∧ (foTo n l q).out.length = j := by
    by_cases c : j < FN n l
    · obtain ⟨q, h1, h2, _⟩ := for_at (n := n) (l := l) l.length (Nat.le_refl _) j c
      exact ⟨q, by omega, h2⟩
    · exact ⟨l.length, Nat.le_refl _, by unfold FN forL at hj c; omega⟩
  have hk : (bdS n l j).k = (foTo n l q).k := by rw [← e]; exact bd_k q hq
  rw [hk]
  refine ⟨foTo_ok hg q hq, ?_⟩
  rw [← e]
  exact foTo_roots hg q hq

/-- The labels of a cut. -/
def ctK (n : Nat) (l : List Ed) (j : Nat) : List Nat := (List.range n).map fun v => (lsB n l (FN n l)).getD (ix (bdL n l) (n + FN n l) (n + j) v) 0
theorem ctK_eq {n : Nat} {l : List Ed} (hg : GOk n l) {j : Nat} (hj : j ≤ FN n l) : ctK n l j = (bdS n l j).k := by
  refine list_ext (n := n) (by simp [ctK]) (stage_roots hg hj).1.len fun v hv => ?_
  unfold ctK
  rw [List.getD_eq_getElem?_getD, List.getElem?_map, List.getElem?_range hv]
  show (lsB n l (FN n l)).getD (ix (bdL n l) (n + FN n l) (n + j) v) 0 = _
  rw [ix_stage hg hj v (by omega) (by omega), (bd_inv3 hg _ hj).1.ls0 v hv]
theorem ctK_cut {n : Nat} {l : List Ed} (hg : GOk n l) (th : Int) : ctK n l (cutJ n l th) = parK n (undL l th) (undL l th).length := by
  rw [ctK_eq hg (cutJ_le th), bdS_cut, und_labels hg th]
theorem ctK_roots {n : Nat} {l : List Ed} (hg : GOk n l) {j : Nat} (hj : j ≤ FN n l) : KOk n (ctK n l j) ∧ j + roots n (ctK n l j) = n := by rw [ctK_eq hg hj]; exact stage_roots hg hj

/-- How many clusters there are at a threshold, and in all. -/
theorem parK_roots {n : Nat} {l : List Ed} (hg : GOk n l) (th : Int) : cutJ n l th + roots n (parK n (undL l th) (undL l th).length) = n := by
  rw [und_labels hg th]; exact roots_cut hg th
theorem parK_all_eq {n : Nat} {l : List Ed} (hg : GOk n l) : parK n l l.length = (foTo n l l.length).k := (parK_all hg).unique (foTo_all hg)
theorem parK_all_roots {n : Nat} {l : List Ed} (hg : GOk n l) : FN n l + roots n (parK n l l.length) = n := by rw [parK_all_eq hg]; exact roots_all hg

/-- The cophenetic height of two vertices. -/
def cph (t : Tr) (m a b : Nat) : Option Int := if a = b then some (-9223372036854775808) else (comV t m a b).map fun c => gi t.hgt c
theorem cph_comm (t : Tr) (m a b : Nat) : cph t m a b = cph t m b a := by
  unfold cph
  by_cases h : a = b
  · rw [if_pos h, if_pos h.symm]
  · rw [if_neg h, if_neg (fun e => h e.symm), comV_comm]
theorem cph_self (t : Tr) (m a : Nat) : cph t m a a = some (-9223372036854775808) := if_pos rfl

theorem cph_hgt {n : Nat} {l : List Ed} (hg : GOk n l) {a b : Nat} (ha : a < n) (hb : b < n) (hne : a ≠ b) {x : Int} (h : cph (bdL n l) (n + FN n l) a b = some x) : ∃ i, i < l.length ∧ x = wI l i := by
  unfold cph at h
  rw [if_neg hne] at h
  cases hc : comV (bdL n l) (n + FN n l) a b with
  | none => rw [hc] at h; cases h
  | some d =>
    rw [hc] at h
    injection h with h
    obtain ⟨h1, h2⟩ := comV_inner (bdL_tv3 hg) ha hb hne hc
    have e := bdL_hgt hg (i := d - n) (by omega)
    have h : gi (bdL n l).hgt d = x := h
    rw [show n + (d - n) = d by omega, h] at e
    refine ⟨fe n l (d - n), ?_, e⟩
    have hm : fe n l (d - n) ∈ forL n l := by
      unfold fe
      rw [List.getD_eq_getElem?_getD, List.getElem?_eq_getElem (show d - n < (forL n l).length by unfold FN at h2; omega)]
      exact List.getElem_mem _
    exact forL_mem hm

/-- Joined at a threshold: exactly if the height is no greater. -/
theorem cph_at {n : Nat} {l : List Ed} (hg : GOk n l) {a b : Nat} (ha : a < n) (hb : b < n) (hne : a ≠ b) (th : Int) :
    (parK n (undL l th) (undL l th).length).getD a 0 = (parK n (undL l th) (undL l th).length).getD b 0 ↔ ∃ x, cph (bdL n l) (n + FN n l) a b = some x ∧ x ≤ th := by
  rw [und_labels hg th, com_at hg ha hb hne th]
  unfold cph
  rw [if_neg hne]
  constructor
  · rintro ⟨d, h1, h2⟩
    obtain ⟨k1, k2⟩ := comV_inner (bdL_tv3 hg) ha hb hne h1
    have e := bdL_hgt hg (i := d - n) (by omega)
    rw [show n + (d - n) = d by omega] at e
    exact ⟨gi (bdL n l).hgt d, by rw [h1]; rfl, by rw [e]; exact h2⟩
  · rintro ⟨x, h1, h2⟩
    cases hc : comV (bdL n l) (n + FN n l) a b with
    | none => rw [hc] at h1; cases h1
    | some d =>
      rw [hc] at h1
      injection h1 with h1
      have h1 : gi (bdL n l).hgt d = x := h1
      obtain ⟨k1, k2⟩ := comV_inner (bdL_tv3 hg) ha hb hne hc
      have e := bdL_hgt hg (i := d - n) (by omega)
      rw [show n + (d - n) = d by omega] at e
      exact ⟨d, rfl, by rw [← e, h1]; exact h2⟩
theorem cph_all {n : Nat} {l : List Ed} (hg : GOk n l) {a b : Nat} (ha : a < n) (hb : b < n) (hne : a ≠ b) :
    (parK n l l.length).getD a 0 = (parK n l l.length).getD b 0 ↔ ∃ x, cph (bdL n l) (n + FN n l) a b = some x := by
  have h := com_edges hg ha hb hne (Nat.le_refl l.length)
  rw [parK_all_eq hg, h]
  unfold cph
  rw [if_neg hne]
  constructor
  · rintro ⟨d, h1, _⟩
    exact ⟨_, by rw [h1]; rfl⟩
  · rintro ⟨x, h1⟩
    cases hc : comV (bdL n l) (n + FN n l) a b with
    | none => rw [hc] at h1; cases h1
    | some d =>
      obtain ⟨k1, k2⟩ := comV_inner (bdL_tv3 hg) ha hb hne hc
      exact ⟨d, rfl, k2⟩
theorem cph_low {n : Nat} {l : List Ed} (hg : GOk n l) {a b : Nat} (ha : a < n) (hb : b < n) {x : Int} (h : cph (bdL n l) (n + FN n l) a b = some x) (hw : ∀ i, i < l.length → -9223372036854775808 < wI l i ∧ wI l i ≤ 9223372036854775807) : -9223372036854775808 ≤ x ∧ x ≤ 9223372036854775807 ∧ (a ≠ b → -9223372036854775808 < x) := by
  by_cases c : a = b
  · subst c
    rw [cph_self] at h
    injection h with h
    omega
  · obtain ⟨i, hi, rfl⟩ := cph_hgt hg ha hb c h
    have := hw i hi
    omega

/-- Of three vertices. -/
theorem cph_ultra {n : Nat} {l : List Ed} (hg : GOk n l) (hw : ∀ i, i < l.length → -9223372036854775808 < wI l i ∧ wI l i ≤ 9223372036854775807) {a b c : Nat} (ha : a < n) (hb : b < n) (hc : c < n) {x y : Int}
    (h1 : cph (bdL n l) (n + FN n l) a b = some x) (h2 : cph (bdL n l) (n + FN n l) b c = some y) : ∃ z, cph (bdL n l) (n + FN n l) a c = some z ∧ z ≤ max x y := by
  have b1 := cph_low hg ha hb h1 hw
  have b2 := cph_low hg hb hc h2 hw
  by_cases e1 : a = b
  · subst e1
    exact ⟨y, h2, by omega⟩
  · by_cases e2 : b = c
    · subst e2
      exact ⟨x, h1, by omega⟩
    · by_cases e3 : a = c
      · subst e3
        exact ⟨_, cph_self _ _ _, by omega⟩
      · have k1 := (cph_at hg ha hb e1 (max x y)).2 ⟨x, h1, by omega⟩
        have k2 := (cph_at hg hb hc e2 (max x y)).2 ⟨y, h2, by omega⟩
        exact (cph_at hg ha hc e3 (max x y)).1 (k1.trans k2)

end Go.Proofs.YthacjealoomioaaGreatDoor
