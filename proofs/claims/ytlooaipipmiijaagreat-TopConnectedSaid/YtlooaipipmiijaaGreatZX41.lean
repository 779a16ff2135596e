/- Several texts in one: TpC, Flat, FlatV, TpS. -/
import Derived.Test.YtlooaipipmiijaaGreatZX40
import Derived.ProofKit
import Derived.OpenShut
import Derived.Deep.Slices
import Derived.Deep.Fields
import Derived.ChangeSame
import Derived.ChangeArms
namespace Go.Proofs.YtlooaipipmiijaaGreat
set_option linter.unusedVariables false
set_option linter.unusedSimpArgs false
open Go.RowKit
def fstP (all : List Rcd) (i k : Nat) : Prop := ∀ j, j < k → (idsL all).getD j 0 ∉ rchL all ((idsL all).getD i 0) MINT
theorem fstP_succ (all : List Rcd) (i k : Nat) : fstP all i (k + 1) ↔ fstP all i k ∧ (idsL all).getD k 0 ∉ rchL all ((idsL all).getD i 0) MINT :=
  ⟨fun h => ⟨fun j hj => h j (by omega), h k (by omega)⟩, fun h j hj => by
    by_cases c : j = k
    · rw [c]; exact h.2
    · exact h.1 j (by omega)⟩
instance (all : List Rcd) (i k : Nat) : Decidable (fstP all i k) := by unfold fstP; infer_instance
theorem CnI.vcell {w W : World} {b z : Nat} {G Gk : WnG} {all : List Rcd} {cs : List Value} {v : Value} {ao : Option Addr} {n cp : Nat} (h : CnI w b G all z cs v (.slice ao n cp) Gk W) (hn : (idsL all).length = n) {i : Nat} (hi : i < n) : ∃ g, ao = some ⟨g, 0, none⟩ ∧ W.cell? ⟨g, i, none⟩ = some (.int .u64 ((idsL all).getD i 0 : Nat)) := by
  obtain ⟨g, cap, hv, _, _, _, hc, _⟩ := owns_form h.rv (by omega)
  injection hv with q1 _ q3
  refine ⟨g, q1, (hc i (by omega)).trans (idV_get ?_)⟩
  rw [gd_el (by omega)]
  exact List.getElem?_eq_getElem (by omega)
theorem rchL_len (l : List Rcd) (x : Nat) (t : Int) : (rchL l x t).length ≤ 2 * l.length + 1 := rch_bound (x := x) (nodup_rchL _ _ _) fun y hy => by
  rcases rch_ids (mem_rchL.1 hy) with e | e
  · exact .inl e.symm
  · exact .inr e.2
set_option maxHeartbeats 4000000 in
set_option maxRecDepth 100000 in
theorem tp_connected (w : World) (b : Nat) (G : WnG) (all : List Rcd) (h : WnM w b G) (hl : WnL G all) (cE cV cD : Int) (v : Value) (ho : w.ownsRow 0 33 4 v all.length (rcV all)) (hno : ∀ x, v.ownBlock = some x → ¬ G.foot b x) (hlen : all.length ≤ 100) (u y : Nat) :
    Calls Tryz.prog 16 #[.pointer (some ⟨b, 0, none⟩), .agg #[.int .i64 G.W, .int .i64 cE, .int .i64 cV, .int .i64 cD], v, .int .u64 (u : Int), .int .u64 (y : Int)] w (WnRt w b G (.bool true)) := by
  obtain ⟨ao, cp, rfl⟩ := owns_slice ho
  have H := Lib.hid h
  have HL := Lib.hid hl
  have HLEN := Lib.hid hlen
  have HO := Lib.hid ho
  have HNO := Lib.hid hno
  have HBW : Hid (Below w.heap.size w (w.alloc (.cells #[.int .i64 G.W, .int .i64 cE, .int .i64 cV, .int .i64 cD] 23))) := bel_alloc w _
  have HX := Lib.hid (Blk.new w 23 [.int .i64 G.W, .int .i64 cE, .int .i64 cV, .int .i64 cD])
  simp only [List.toArray] at HX
  have HNZ : Hid (¬ G.foot b w.heap.size) := fun e => absurd (h.foot_lt _ e) (Nat.lt_irrefl _)
  clear h hl ho hno hlen
  go_enter Tryz.func16, Tryz.ntmps16
  go_upto_region 1 with fail
  generalize w.alloc (.cells #[.int .i64 G.W, .int .i64 cE, .int .i64 cV, .int .i64 cD] 23) = w1 at *
  have HO1 := Lib.hid (owns_below HO.out HBW.out)
  have HST1 := Lib.hid ((WnS.refl H.out).below HBW.out)
  generalize w.heap.size = z at *
  have HID := Lib.hid (tp_ids w1 (.slice ao all.length cp) all HO1.out (by have := HLEN.out; omega) fun r hr => ⟨(HL.out.minT r hr).2.2.2.1, (HL.out.minT r hr).2.2.2.2⟩)
  go_upto_region 2 with (go_at_call 15; refine HID.out.mono ?_; rintro e w2 ⟨vs, rfl, hids⟩; have HIB := Lib.hid hids; obtain ⟨avs, cvs, rfl⟩ := hids.slice; clear hids)
  have HC2 : Hid (CnI w b G all z [.int .i64 G.W, .int .i64 cE, .int .i64 cV, .int .i64 cD] (.slice ao all.length cp) (.slice avs (idsL all).length cvs) G w2) :=
    ⟨HST1.out.below HIB.out.bel, ⟨G.col, rfl⟩, owns_below HO1.out HIB.out.bel, HNO.out, HIB.out.own, fun x hx hf => by have h1 := HIB.out.new x hx; have h2 := HST1.out.mem.foot_lt x hf; omega, HX.out.below HIB.out.bel HX.out.lt, HNZ.out⟩
  clear HID HIB HO1 HST1 HX HBW HNZ HO HNO
  have HCN := Lib.hid (rd_count HC2.out.st.mem HL.out)
  have HNL : Hid ((idsL all).length ≤ 200) := by show _ ≤ _; have := ids_len all; have := HLEN.out; omega
  have HTR : Hid (cntP (fun i => fstP all i i) (idsL all).length = treesL all) := rfl
  obtain ⟨n, HN⟩ : ∃ n, Hid ((idsL all).length = n) := ⟨_, rfl⟩
  obtain ⟨m, HM⟩ : ∃ m, Hid (all.length = m) := ⟨_, rfl⟩
  obtain ⟨tr, HT⟩ : ∃ tr, Hid (treesL all = tr) := ⟨_, rfl⟩
  rw [HN.out, HM.out] at HC2
  rw [HN.out, HM.out, HT.out] at HCN
  rw [HN.out, HT.out] at HTR
  rw [HN.out] at HNL
  rw [HM.out] at HLEN
  rw [HM.out, HN.out]
  go_wp2_with (go_at_call 35; refine HCN.out.mono ?_; rintro e w3 ⟨rfl, hb⟩; have HC3 := Lib.hid (HC2.out.below hb); clear hb)
  clear HC2 HCN
  have hn2 : n ≤ 200 := HNL.out
  go_loopw [15, 16] (fun s15 s16 wr => ∃ i : Nat, i ≤ n ∧ s16 = .int .i64 (i : Int) ∧ s15 = .int .i64 (cntP (fun i => fstP all i i) i : Int) ∧ CnI w b G all z [.int .i64 G.W, .int .i64 cE, .int .i64 cV, .int .i64 cD] (.slice ao m cp) (.slice avs n cvs) G wr) (fun _ s16 _ => n - (intOf s16).toNat)
  case atStart => exact ⟨0, Nat.zero_le _, rfl, rfl, HC3.out⟩
  case round =>
    obtain ⟨i, hi, rfl, rfl, hci⟩ := hrel
    clear HC3
    have HCI := Lib.hid hci
    clear hci
    have hci : cntP (fun i => fstP all i i) i ≤ i := cntP_le _
    by_cases hlt : i < n
    · have t1 : decide ((i : Int) < (n : Int)) = true := decide_eq_true (by omega)
      have t2 : decide (i < n) = true := decide_eq_true hlt
      have hwi : IntKind.i64.wrap ((i : Int) + 1) = (i : Int) + 1 := IntWalk.i64_in _ (by omega)
      have ti2 : (i : Int) < (n : Int) := by omega
      obtain ⟨gv, rfl, cl⟩ := HCI.out.vcell HN.out hlt
      have HKL := Lib.hid hlt
      have HRE := Lib.hid (tp_reach wr (.slice ao m cp) all ((idsL all).getD i 0) MINT (by have := HCI.out.ra; rwa [HM.out] at this ⊢) (by rw [HM.out]; have := HLEN.out; omega))
      obtain ⟨ct, HCT⟩ : ∃ ct, Hid (cntP (fun i => fstP all i i) i = ct) := ⟨_, rfl⟩
      rw [HCT.out] at hci ⊢
      have hwc : IntKind.i64.wrap ((ct : Int) + 1) = (ct : Int) + 1 := IntWalk.i64_in _ (by omega)
      clear hlt
      obtain ⟨vi, HVI⟩ : ∃ vi, Hid ((idsL all).getD i 0 = vi) := ⟨_, rfl⟩
      rw [HVI.out] at cl HRE
      go_wp2_with (go_at_call 36; refine HRE.out.mono ?_; rintro e w5 ⟨vp, rfl, hpt⟩; have HPT := Lib.hid hpt; have HC5 := Lib.hid (HCI.out.below hpt.bel); obtain ⟨ap, cpp, rfl⟩ := hpt.slice; clear hpt)
      clear cl HRE HCI
      have HPL : Hid ((rchL all vi MINT).length ≤ 65536) := by show _ ≤ _; have := rchL_len all vi MINT; have := HM.out; have := HLEN.out; omega
      obtain ⟨pl, HPN⟩ : ∃ pl, Hid ((rchL all vi MINT).length = pl) := ⟨_, rfl⟩
      have HKN : Hid (∀ id : Nat, Calls Tryz.prog 34 #[.slice ap pl cpp, .int .u64 (id : Int)] w5 (Ret (.bool (decide (id ∈ rchL all vi MINT))) w5)) := by
        show ∀ id, _
        intro id
        have := tp_known w5 _ _ id HPT.out.own HPL.out
        rw [HPN.out] at this
        exact this
      rw [HPN.out]
      clear HPT
      go_loopw [17, 19] (fun s17 s19 wz => ∃ k : Nat, k ≤ i ∧ s19 = .int .i64 (k : Int) ∧ s17 = .bool (decide (fstP all i k)) ∧ wz = w5) (fun _ s19 _ => i - (intOf s19).toNat)
      case atStart => exact ⟨0, Nat.zero_le _, rfl, by rw [decide_eq_true (show fstP all i 0 from fun j hj => absurd hj (Nat.not_lt_zero j))], rfl⟩
      case round =>
        obtain ⟨k, hk, rfl, rfl, rfl⟩ := hrel
        by_cases hlk : k < i
        · have t3 : decide ((k : Int) < (i : Int)) = true := decide_eq_true (by omega)
          have t4 : decide (k < i) = true := decide_eq_true hlk
          have hwk : IntKind.i64.wrap ((k : Int) + 1) = (k : Int) + 1 := IntWalk.i64_in _ (by omega)
          have ti3 : (k : Int) < (n : Int) := by omega
          have HKK := Lib.hid hlk
          have hin : k < n := by have := HKL.out; omega
          obtain ⟨gv', hgv, cl⟩ := HC5.out.vcell HN.out hin
          injection hgv with hgv
          injection hgv with hgv
          subst hgv
          clear hlk
          have HFS := Lib.hid (fstP_succ all i k)
          obtain ⟨vk, HVK⟩ : ∃ vk, Hid ((idsL all).getD k 0 = vk) := ⟨_, rfl⟩
          rw [HVK.out] at cl
          rw [HVK.out, HVI.out] at HFS
          have HKK2 := HKN.out vk
          by_cases hf : fstP all i k
          · by_cases hv : vk ∈ rchL all vi MINT
            · have hd : decide (fstP all i (k + 1)) = false := decide_eq_false fun c => (HFS.out.1 c).2 hv
              rw [decide_eq_true hv] at HKK2
              rw [decide_eq_true hf]
              clear hf hv
              go_wp2_with (go_at_call 34; refine HKK2.mono ?_; rintro e w' ⟨rfl, rfl⟩)
              go_roundw
              case rel => exact ⟨k + 1, HKK.out, rfl, by rw [hd], trivial⟩
              case measure => have := HKK.out; simp [intOf]; omega
            · have hd : decide (fstP all i (k + 1)) = true := decide_eq_true (HFS.out.2 ⟨hf, hv⟩)
              rw [decide_eq_false hv] at HKK2
              rw [decide_eq_true hf]
              clear hf hv
              go_wp2_with (go_at_call 34; refine HKK2.mono ?_; rintro e w' ⟨rfl, rfl⟩)
              go_roundw
              case rel => exact ⟨k + 1, HKK.out, rfl, by rw [hd], trivial⟩
              case measure => have := HKK.out; simp [intOf]; omega
          · have hd : decide (fstP all i (k + 1)) = false := decide_eq_false fun c => hf (HFS.out.1 c).1
            rw [decide_eq_false hf]
            clear hf
            go_wp2_with fail
            go_roundw
            case rel => exact ⟨k + 1, HKK.out, rfl, by rw [hd], trivial⟩
            case measure => have := HKK.out; simp [intOf]; omega
        · have t3 : decide ((k : Int) < (i : Int)) = false := decide_eq_false (by omega)
          have t4 : decide (k < i) = false := decide_eq_false hlk
          obtain rfl : k = i := by omega
          by_cases hf : fstP all k k
          · have HCS : Hid (cntP (fun i => fstP all i i) (k + 1) = ct + 1) := by show _ = _; rw [cntP_yes (P := fun i => fstP all i i) hf, HCT.out]
            rw [decide_eq_true hf]
            clear hf hlk
            go_wp2_with fail
            go_roundw
            case rel => exact ⟨k + 1, HKL.out, rfl, by rw [HCS.out]; rfl, HC5.out⟩
            case measure => have := HKL.out; simp [intOf]; omega
          · have HCS : Hid (cntP (fun i => fstP all i i) (k + 1) = ct) := by show _ = _; rw [cntP_no (P := fun i => fstP all i i) hf, HCT.out]
            rw [decide_eq_false hf]
            clear hf hlk
            go_wp2_with fail
            go_roundw
            case rel => exact ⟨k + 1, HKL.out, rfl, by rw [HCS.out], HC5.out⟩
            case measure => have := HKL.out; simp [intOf]; omega
    · have t1 : decide ((i : Int) < (n : Int)) = false := decide_eq_false (by omega)
      have t2 : decide (i < n) = false := decide_eq_false hlt
      obtain rfl : i = n := by omega
      rw [HTR.out]
      have HLV := Lib.hid (rd_live HCI.out.st.mem HL.out)
      rw [HM.out] at HLV
      go_upto_region 17 with (go_at_call 37; refine HLV.out.mono ?_; rintro e w5 ⟨⟨al, cal, rfl⟩, hst⟩; obtain ⟨G5, hc, _⟩ := HCI.out.step hst; have HC5 := Lib.hid hc; have HW5 := Lib.hid (hc.wl HL.out); clear hst hc)
      clear HLV HCI
      have HCO := Lib.hid (rd_connected HC5.out.st.mem HW5.out.1 u y)
      have HKI : Hid (∀ W Gk, CnI w b G all z [.int .i64 G.W, .int .i64 cE, .int .i64 cV, .int .i64 cD] (.slice ao m cp) (.slice avs i cvs) Gk W → ∀ id : Nat, Calls Tryz.prog 34 #[.slice avs i cvs, .int .u64 (id : Int)] W (Ret (.bool (decide (id ∈ idsL all))) W)) := by
        show ∀ W Gk, _
        intro W Gk hc id
        exact tp_known W _ _ id hc.rv (by rw [HN.out]; have := HNL.out; omega)
      have HRE : Hid (∀ W Gk, CnI w b G all z [.int .i64 G.W, .int .i64 cE, .int .i64 cV, .int .i64 cD] (.slice ao m cp) (.slice avs i cvs) Gk W → ∀ (x : Nat) (t : Int), Calls Tryz.prog 36 #[.slice ao m cp, .int .u64 (x : Int), .int .i64 t] W (fun e w' => ∃ v', e = .returned v' ∧ IdB W v' (rchL all x t) w')) := by
        show ∀ W Gk, _
        intro W Gk hc x t
        exact tp_reach W _ all x t hc.ra (by rw [HM.out]; have := HLEN.out; omega)
      obtain ⟨cb, HCB⟩ : ∃ cb, Hid (conB all u y = cb) := ⟨_, rfl⟩
      obtain ⟨ce, HCE⟩ : ∃ ce, Hid (conE all u y = ce) := ⟨_, rfl⟩
      obtain ⟨ub, HUB⟩ : ∃ ub, Hid (unB all u y = ub) := ⟨_, rfl⟩
      obtain ⟨ut, HUT⟩ : ∃ ut, Hid (unT G.W all u y = ut) := ⟨_, rfl⟩
      rw [HCB.out, HCE.out] at HCO
      go_upto_region 18 with (go_at_call 13; refine HCO.out.mono ?_; rintro e w6 ⟨rfl, hst⟩; obtain ⟨G6, hc, _⟩ := HC5.out.step hst; have HC6 := Lib.hid hc; have HW6 := Lib.hid (hc.wl HL.out); clear hst hc)
      clear HCO HC5 HW5
      have HUN := rd_until HC6.out.st.mem HW6.out.1 u y
      rw [HW6.out.2, HCE.out, HUB.out, HUT.out] at HUN
      replace HUN := Lib.hid HUN
      go_upto_region 19 with (go_at_call 10; refine HUN.out.mono ?_; rintro e w7 ⟨rfl, hst⟩; obtain ⟨G7, hc, _⟩ := HC6.out.step hst; have HC7 := Lib.hid hc; have HW7 := Lib.hid (hc.wl HL.out); clear hst hc)
      clear HUN HC6 HW6
      have HKU := HKI.out w7 G7 HC7.out u
      have HKY := HKI.out w7 G7 HC7.out y
      by_cases hk : u ∈ idsL all ∧ y ∈ idsL all
      · have HCE0 : ce = 0 := HCE.out.symm.trans (if_pos hk)
        subst HCE0
        rw [decide_eq_true hk.1] at HKU
        rw [decide_eq_true hk.2] at HKY
        have HK := Lib.hid hk
        clear hk
        go_upto_region 21 with (go_at_call 34; first | (with_reducible refine HKU.mono ?_; rintro e w' ⟨rfl, rfl⟩) | (with_reducible refine HKY.mono ?_; rintro e w' ⟨rfl, rfl⟩))
        clear HKU HKY
        have HR7 := Lib.hid (HRE.out w7 G7 HC7.out u MINT)
        go_upto_region 22 with (go_at_call 36; refine HR7.out.mono ?_; rintro e w8 ⟨vp, rfl, hpt⟩; have HP8 := Lib.hid hpt; have HC8 := Lib.hid (HC7.out.below hpt.bel); obtain ⟨ap, cpp, rfl⟩ := hpt.slice; clear hpt)
        have HPF : Hid (∀ x, (Value.slice ap (rchL all u MINT).length cpp).ownBlock = some x → ¬ G7.foot b x) := by
          show ∀ x, _
          intro x hx hf
          have h1 := HP8.out.new x hx
          have h2 := HC7.out.st.mem.foot_lt x hf
          omega
        clear HR7 HC7
        have HSZ := Lib.hid (rd_size HC8.out.st.mem HW7.out.1 u HK.out.1)
        have HPL : Hid ((rchL all u MINT).length ≤ 65536) := by show _ ≤ _; have := rchL_len all u MINT; have := HM.out; have := HLEN.out; omega
        obtain ⟨pl, HPN⟩ : ∃ pl, Hid ((rchL all u MINT).length = pl) := ⟨_, rfl⟩
        rw [HPN.out] at HSZ HP8 HPF
        rw [HPN.out]
        go_upto_region 23 with (go_at_call 38; refine HSZ.out.mono ?_; rintro e w9 ⟨rfl, hst⟩; obtain ⟨G9, hc, hs9⟩ := HC8.out.step hst; have HC9 := Lib.hid hc; have HP9 := Lib.hid (hs9.row HP8.out.own HPF.out).1; clear hst hc hs9)
        clear HSZ HC8 HW7 HP8 HPF
        have HKP := tp_known w9 _ _ y HP9.out HPL.out
        by_cases hy : y ∈ rchL all u MINT
        · have HCB0 : conB all u y = true := decide_eq_true ⟨HK.out, hy⟩
          obtain rfl : cb = true := HCB.out.symm.trans HCB0
          rw [decide_eq_true hy] at HKP
          clear hy
          by_cases huy : u = y
          · have HUB0 : unB all u y = false := by unfold unB; rw [decide_eq_false (show ¬ u ≠ y from fun f => f huy), Bool.and_false]
            have HUT0 : unT G.W all u y = 0 := by unfold unT; rw [if_neg (by rw [HUB0]; decide)]
            obtain rfl : ub = false := HUB.out.symm.trans HUB0
            obtain rfl : ut = 0 := HUT.out.symm.trans HUT0
            have t5 : ((u : Int) == (y : Int)) = true := by rw [huy]; simp
            clear huy HCB0 HUB0 HUT0
            go_wp2_with (go_at_call 34; (with_reducible refine HKP.mono ?_; rintro e w' ⟨rfl, rfl⟩))
            go_ret
            exact ⟨rfl, HC9.out.done⟩
          · have HUB0 : unB all u y = true := by unfold unB; rw [HCB0, decide_eq_true (show u ≠ y from huy)]; rfl
            obtain rfl : ub = true := HUB.out.symm.trans HUB0
            have t5 : ((u : Int) == (y : Int)) = false := by rw [beq_eq_false_iff_ne]; omega
            have t5e : ((u : Int) != (y : Int)) = true := by rw [bne_iff_ne]; omega
            have HUI := Lib.hid (un_is HL.out HUB0)
            clear huy HCB0 HUB0
            go_wp2_with (go_at_call 34; (with_reducible refine HKP.mono ?_; rintro e w' ⟨rfl, rfl⟩))
            clear HKP HP9
            have HBE : Hid (((all.take m).foldl (bstF all u y) MINT) = bestL all u y) := by show _ = _; rw [← HM.out, List.take_length]; rfl
            go_loopw [28, 29] (fun s28 s29 wz => ∃ k : Nat, k ≤ m ∧ s29 = .int .i64 (k : Int) ∧ s28 = .int .i64 ((all.take k).foldl (bstF all u y) MINT) ∧ CnI w b G all z [.int .i64 G.W, .int .i64 cE, .int .i64 cV, .int .i64 cD] (.slice ao m cp) (.slice avs i cvs) G9 wz) (fun _ s29 _ => m - (intOf s29).toNat)
            case atStart => exact ⟨0, Nat.zero_le _, rfl, rfl, HC9.out⟩
            case round =>
              obtain ⟨k, hk, rfl, rfl, hci⟩ := hrel
              clear HC9
              have HCR := Lib.hid hci
              clear hci
              by_cases hlk : k < m
              · have t6 : decide ((k : Int) < (m : Int)) = true := decide_eq_true (by omega)
                have t7 : decide (k < m) = true := decide_eq_true hlk
                have hwk : IntKind.i64.wrap ((k : Int) + 1) = (k : Int) + 1 := IntWalk.i64_in _ (by have := HLEN.out; omega)
                have ti3 : (k : Int) < (m : Int) := by omega
                obtain ⟨r, hr⟩ : ∃ r, all[k]? = some r := ⟨all[k]'(by rw [HM.out]; exact hlk), List.getElem?_eq_getElem (by rw [HM.out]; exact hlk)⟩
                obtain ⟨ga, cap, hv, _, _, hg, hc, _⟩ := owns_form HCR.out.ra (by have := HM.out; omega)
                injection hv with q1 q2 q3
                subst q1 q3
                clear q2
                have c3 : wr.cell? ⟨ga, k * 4 + 3, none⟩ = some (.int .i64 r.t) := by
                  rw [hc (k * 4 + 3) (by have := HM.out; omega), rcV_get hr (j := 3) (by omega)]; rfl
                have HKL2 := Lib.hid hlk
                have HGL := Lib.hid hg
                have HR := Lib.hid hr
                clear hc hg hr hlk
                obtain ⟨bb, HBB⟩ : ∃ bb, Hid ((all.take k).foldl (bstF all u y) MINT = bb) := ⟨_, rfl⟩
                obtain ⟨rt, HRT⟩ : ∃ rt, Hid (r.t = rt) := ⟨_, rfl⟩
                have HTK : Hid ((all.take (k + 1)).foldl (bstF all u y) MINT = if bb < rt ∧ y ∈ rchL all u rt then rt else bb) := by
                  show _ = _
                  rw [List.take_add_one, HR.out, List.foldl_append, HBB.out, ← HRT.out]; rfl
                rw [HBB.out]
                rw [HRT.out] at c3
                obtain ⟨p2, HP2⟩ : ∃ p2, Hid ((rchL all u rt).length = p2) := ⟨_, rfl⟩
                have HPL2 : Hid ((rchL all u rt).length ≤ 65536) := by show _ ≤ _; have := rchL_len all u rt; have := HM.out; have := HLEN.out; omega
                have HRR : Hid (Calls Tryz.prog 36 #[.slice (some ⟨ga, 0, none⟩) m cp, .int .u64 (u : Int), .int .i64 rt] wr (fun e w' => ∃ ao' cp', e = .returned (.slice ao' p2 cp') ∧ IdB wr (.slice ao' p2 cp') (rchL all u rt) w')) :=
                  (HRE.out wr G9 HCR.out u rt).mono fun e w' ⟨v', h1, h2⟩ => by
                    obtain ⟨ao', cp', rfl⟩ := h2.slice
                    rw [HP2.out] at h1 h2
                    exact ⟨ao', cp', h1, h2⟩
                by_cases hb : bb < rt
                · have t8 : decide (bb < rt) = true := decide_eq_true hb
                  by_cases hy2 : y ∈ rchL all u rt
                  · rw [if_pos ⟨hb, hy2⟩] at HTK
                    have hd := decide_eq_true hy2
                    clear hb hy2
                    go_wp2_with (first | (go_at_call 36; with_reducible refine HRR.out.mono ?_; rintro e w10 ⟨aq, cq, rfl, hpt⟩; have HC10 := Lib.hid (HCR.out.below hpt.bel); have HKQ := tp_known w10 _ _ y hpt.own HPL2.out; rw [hd] at HKQ; have c4 : w10.cell? ⟨ga, k * 4 + 3, none⟩ = some (.int .i64 rt) := (hpt.bel.cell (p := ⟨ga, k * 4 + 3, none⟩) HGL.out).trans c3; clear hpt) | (go_at_call 34; with_reducible refine HKQ.mono ?_; rintro e w' ⟨rfl, rfl⟩))
                    go_roundw
                    case rel => exact ⟨k + 1, HKL2.out, by go_num, by rw [HTK.out], HC10.out⟩
                    case measure => have := HKL2.out; simp [intOf]; omega
                  · rw [if_neg (fun c => hy2 c.2)] at HTK
                    have hd := decide_eq_false hy2
                    clear hb hy2
                    go_wp2_with (first | (go_at_call 36; with_reducible refine HRR.out.mono ?_; rintro e w10 ⟨aq, cq, rfl, hpt⟩; have HC10 := Lib.hid (HCR.out.below hpt.bel); have HKQ := tp_known w10 _ _ y hpt.own HPL2.out; rw [hd] at HKQ; clear hpt) | (go_at_call 34; with_reducible refine HKQ.mono ?_; rintro e w' ⟨rfl, rfl⟩))
                    go_roundw
                    case rel => exact ⟨k + 1, HKL2.out, by go_num, by rw [HTK.out], HC10.out⟩
                    case measure => have := HKL2.out; simp [intOf]; omega
                · have t8 : decide (bb < rt) = false := decide_eq_false hb
                  rw [if_neg (fun c => hb c.1)] at HTK
                  clear hb
                  go_wp2_with fail
                  go_roundw
                  case rel => exact ⟨k + 1, HKL2.out, by go_num, by rw [HTK.out], HCR.out⟩
                  case measure => have := HKL2.out; simp [intOf]; omega
              · have t6 : decide ((k : Int) < (m : Int)) = false := decide_eq_false (by omega)
                have t7 : decide (k < m) = false := decide_eq_false hlk
                obtain rfl : k = m := by omega
                rw [HBE.out]
                have c0 := HCR.out.bz.cell (i := 0) rfl
                obtain ⟨be, HB2⟩ : ∃ be, Hid (bestL all u y = be) := ⟨_, rfl⟩
                obtain ⟨_, _, e3, e4, e5, _, _⟩ := HUI.out
                rw [HB2.out] at e3 e4 e5
                rw [HB2.out]
                have hws : IntKind.i64.wrap (be + G.W) = be + G.W := IntWalk.i64_in _ (by have := HL.out.now; omega)
                have t8 : (ut == be + G.W) = true := by rw [← HUT.out, e3]; simp
                clear e3 e4 e5
                go_wp2_with fail
                go_ret
                exact ⟨rfl, HCR.out.done⟩
        · have HCB0 : conB all u y = false := decide_eq_false fun k => hy k.2
          have HUB0 : unB all u y = false := by unfold unB; rw [HCB0]; rfl
          have HUT0 : unT G.W all u y = 0 := by unfold unT; rw [if_neg (by rw [HUB0]; decide)]
          obtain rfl : cb = false := HCB.out.symm.trans HCB0
          obtain rfl : ub = false := HUB.out.symm.trans HUB0
          obtain rfl : ut = 0 := HUT.out.symm.trans HUT0
          rw [decide_eq_false hy] at HKP
          clear hy HCB0 HUB0 HUT0
          go_wp2_with (go_at_call 34; (with_reducible refine HKP.mono ?_; rintro e w' ⟨rfl, rfl⟩))
          go_ret
          exact ⟨rfl, HC9.out.done⟩
      · have HCE0 : ce = 13 := HCE.out.symm.trans (if_neg hk)
        have HCB0 : conB all u y = false := decide_eq_false fun k => hk k.1
        have HUB0 : unB all u y = false := by unfold unB; rw [HCB0]; rfl
        have HUT0 : unT G.W all u y = 0 := by unfold unT; rw [if_neg (by rw [HUB0]; decide)]
        obtain rfl : cb = false := HCB.out.symm.trans HCB0
        obtain rfl : ub = false := HUB.out.symm.trans HUB0
        obtain rfl : ut = 0 := HUT.out.symm.trans HUT0
        subst HCE0
        clear HCB0 HUB0 HUT0 HCB HUB HUT HCE
        by_cases h1 : u ∈ idsL all
        · have h2 : y ∉ idsL all := fun k => hk ⟨h1, k⟩
          rw [decide_eq_true h1] at HKU
          rw [decide_eq_false h2] at HKY
          clear h1 h2 hk
          go_wp2_with (go_at_call 34; first | (with_reducible refine HKU.mono ?_; rintro e w' ⟨rfl, rfl⟩) | (with_reducible refine HKY.mono ?_; rintro e w' ⟨rfl, rfl⟩))
          go_ret
          exact ⟨rfl, HC7.out.done⟩
        · rw [decide_eq_false h1] at HKU
          clear h1 hk
          go_wp2_with (go_at_call 34; (with_reducible refine HKU.mono ?_; rintro e w' ⟨rfl, rfl⟩))
          go_ret
          exact ⟨rfl, HC7.out.done⟩
end Go.Proofs.YtlooaipipmiijaaGreat

namespace Go.Proofs.YtlooaipipmiijaaGreat
set_option linter.unusedVariables false
set_option linter.unusedSimpArgs false
open Go.ChangeShapes Go.WideShapes Go.RowKit Go.Deep
def Flat (P : Program) (t : TypeId) (ks : List IntKind) : Prop :=
  P.cellsOf t = ks.length ∧ ∀ {H : Type} (enc : TypeId × Value → H) (w : World) (base : Nat) (spare : Nat → Bool) (held : Bool) (fuel : Nat) (cs : List Value) (x : DataW H × List MemPlace),
    DataW.trod enc P w base spare held fuel t cs = some x → ∃ zs : List Int, zs.length = ks.length ∧ cs = List.zipWith Value.int ks zs ∧ ∀ (j : Nat) (k : IntKind) (z : Int), ks[j]? = some k → zs[j]? = some z → (Lit.int k z).wf = true
theorem Flat.int {P : Program} {t : TypeId} {k : IntKind} (h : P.underlying t = some (.int k)) (hc : P.cellsOf t = 1) : Flat P t [k] := by
  refine ⟨hc, fun enc w base spare held fuel cs x hx => ?_⟩
  obtain ⟨n, rfl, _, hw⟩ := DataW.trod_int h hx
  refine ⟨[n], rfl, rfl, fun j k' z hk hz => ?_⟩
  cases j with
  | zero => simp only [List.getElem?_cons_zero, Option.some.injEq] at hk hz; subst hk; subst hz; exact hw
  | succ j => simp at hk
theorem flat_join (ks1 ks2 : List IntKind) (zs1 zs2 : List Int) (h : zs1.length = ks1.length) : List.zipWith Value.int (ks1 ++ ks2) (zs1 ++ zs2) = List.zipWith Value.int ks1 zs1 ++ List.zipWith Value.int ks2 zs2 :=
  List.zipWith_append h.symm
theorem flat_pieces {cs : List Value} : ∀ (kss : List (List IntKind)) (o : Nat), (∀ (i : Nat) (ks : List IntKind), kss[i]? = some ks → ∃ zs : List Int, zs.length = ks.length ∧ (cs.drop (o + ((kss.take i).map List.length).sum)).take ks.length = List.zipWith Value.int ks zs ∧ ∀ (j : Nat) (k : IntKind) (z : Int), ks[j]? = some k → zs[j]? = some z → (Lit.int k z).wf = true) →
    ∃ zs : List Int, zs.length = kss.flatten.length ∧ (cs.drop o).take kss.flatten.length = List.zipWith Value.int kss.flatten zs ∧ ∀ (j : Nat) (k : IntKind) (z : Int), kss.flatten[j]? = some k → zs[j]? = some z → (Lit.int k z).wf = true
  | [], o, _ => ⟨[], rfl, by simp, fun j k z hk => by simp at hk⟩
  | ks :: kss, o, h => by
    obtain ⟨zs1, l1, e1, w1⟩ := h 0 ks rfl
    simp only [List.take_zero, List.map_nil, List.sum_nil, Nat.add_zero] at e1
    obtain ⟨zs2, l2, e2, w2⟩ := flat_pieces kss (o + ks.length) (fun i ks' hi => by
      obtain ⟨zs, l, e, w⟩ := h (i + 1) ks' (by simpa using hi)
      refine ⟨zs, l, ?_, w⟩
      rw [← e]
      simp only [List.take_succ_cons, List.map_cons, List.sum_cons]
      rw [Nat.add_assoc])
    refine ⟨zs1 ++ zs2, by simp [l1, l2], ?_, fun j k z hk hz => ?_⟩
    · rw [List.flatten_cons, flat_join _ _ _ _ l1, ← e1, ← e2, List.length_append, List.take_add, List.drop_drop]
    · rw [List.flatten_cons] at hk
      by_cases hj : j < ks.length
      · rw [List.getElem?_append_left hj] at hk
        rw [List.getElem?_append_left (by omega)] at hz
        exact w1 j k z hk hz
      · rw [List.getElem?_append_right (by omega)] at hk
        rw [List.getElem?_append_right (by omega), l1] at hz
        exact w2 _ k z hk hz
theorem Flat.struct {P : Program} {t : TypeId} {fs : Array Field} (kss : List (List IntKind)) (ht : P.underlying t = some (.struct fs)) (hl : kss.length = fs.size) (hC : P.cellsOf t = kss.flatten.length)
    (hf : ∀ (i : Nat) (f : Field) (ks : List IntKind), fs[i]? = some f → kss[i]? = some ks → Flat P f.type ks ∧ f.offset = ((kss.take i).map List.length).sum) : Flat P t kss.flatten := by
  refine ⟨hC, fun enc w base spare held fuel cs x hx => ?_⟩
  obtain ⟨xs, n, _, _, hcl, hxl, hg⟩ := DataW.trod_struct ht hx
  have := flat_pieces (cs := cs) kss 0 (fun i ks hi => by
    have hil : i < kss.length := (List.getElem?_eq_some_iff.1 hi).1
    have hfi : fs[i]? = some (fs[i]'(by omega)) := Array.getElem?_eq_getElem (by omega)
    obtain ⟨h1, h2⟩ := hf i _ ks hfi hi
    have h3 := hg i _ hfi
    rw [h2, h1.1] at h3
    have hxi : xs[i]? = some (xs[i]'(by omega)) := List.getElem?_eq_getElem (by omega)
    obtain ⟨zs, l, e, ww⟩ := h1.2 enc w base spare held n _ _ (h3.trans hxi)
    exact ⟨zs, l, by rw [Nat.zero_add]; exact e, ww⟩)
  obtain ⟨zs, l, e, ww⟩ := this
  refine ⟨zs, l, ?_, ww⟩
  rw [← e, List.drop_zero, List.take_of_length_le (by omega)]
theorem spot_none {w : World} {x : Addr} {v : Value} (h : w.cell? x = some v) : x = ⟨x.block, x.off, none⟩ := by
  obtain ⟨b, o, s⟩ := x
  cases s with
  | none => rfl
  | some s =>
    simp only [World.cell?] at h
    split at h <;> simp at h
theorem add_none (b o i : Nat) : (⟨b, o, none⟩ : Addr).add i = ⟨b, o + i, none⟩ := by
  unfold Addr.add; split <;> simp_all
end Go.Proofs.YtlooaipipmiijaaGreat

namespace Go.Proofs.YtlooaipipmiijaaGreat
set_option linter.unusedVariables false
set_option linter.unusedSimpArgs false
open Go.ChangeShapes Go.WideShapes Go.RowKit Go.Deep
theorem flat_agg {H : Type} {enc : TypeId × Value → H} {P : Program} {w : World} {base : Nat} {spare : Nat → Bool} {held : Bool} {t : TypeId} {ks : List IntKind} {cs : Array Value} {d : DataW H} {p : List MemPlace}
    (hF : Flat P t ks) (h : DataW.Trod enc P w base spare held t (.agg cs) d p) : ∃ zs : List Int, zs.length = ks.length ∧ (Value.agg cs) = .agg (List.zipWith Value.int ks zs).toArray ∧ ∀ (j : Nat) (k : IntKind) (z : Int), ks[j]? = some k → zs[j]? = some z → (Lit.int k z).wf = true := by
  obtain ⟨fuel, hf⟩ := h
  obtain ⟨zs, h1, h2, h3⟩ := hF.2 _ _ _ _ _ _ _ _ hf
  refine ⟨zs, h1, ?_, h3⟩
  rw [← h2]
  simp [Value.cells]
theorem flat_struct {H : Type} {enc : TypeId × Value → H} {P : Program} {w : World} {base : Nat} {spare : Nat → Bool} {held : Bool} {r : Reach} {b0 : Nat} {t : TypeId} {fs : Array Field} {ks : List IntKind} {v : Value} {d : DataW H} {p : List MemPlace}
    (ht : P.underlying t = some (.struct fs)) (hF : Flat P t ks) (hv : Value.okWide P w r b0 t v) (h : DataW.Trod enc P w base spare held t v d p) : ∃ zs : List Int, zs.length = ks.length ∧ v = .agg (List.zipWith Value.int ks zs).toArray ∧ ∀ (j : Nat) (k : IntKind) (z : Int), ks[j]? = some k → zs[j]? = some z → (Lit.int k z).wf = true := by
  obtain ⟨cs, rfl, _⟩ := okWide_struct ht hv
  exact flat_agg hF h
end Go.Proofs.YtlooaipipmiijaaGreat

namespace Go.Proofs.YtlooaipipmiijaaGreat
set_option linter.unusedVariables false
set_option linter.unusedSimpArgs false
open Go.ChangeShapes Go.WideShapes Go.RowKit Go.Deep
structure Stp where
  ad : Bool
  r : Rcd
def stpV (s : Stp) : List Value := .bool s.ad :: encC s.r
def StpO (s : Stp) : Prop := s.r.u < 18446744073709551616 ∧ s.r.v < 18446744073709551616 ∧ (-9223372036854775808 ≤ s.r.wt ∧ s.r.wt ≤ 9223372036854775807) ∧ -9223372036854775808 ≤ s.r.t ∧ s.r.t ≤ 9223372036854775807
theorem wf_u64N {z : Int} (h : (Lit.int .u64 z).wf = true) : ∃ n : Nat, z = (n : Int) ∧ n < 18446744073709551616 := by
  simp [Lit.wf, IntKind.min, IntKind.max, IntKind.signed, IntKind.bits] at h
  exact ⟨z.toNat, by omega, by omega⟩
theorem wf_i64N {z : Int} (h : (Lit.int .i64 z).wf = true) : -9223372036854775808 ≤ z ∧ z ≤ 9223372036854775807 := by
  simp [Lit.wf, IntKind.min, IntKind.max, IntKind.signed, IntKind.bits] at h
  omega
theorem four {k1 k2 k3 k4 : IntKind} {v : Value} (h : ∃ zs : List Int, zs.length = [k1, k2, k3, k4].length ∧ v = .agg (List.zipWith Value.int [k1, k2, k3, k4] zs).toArray ∧ ∀ (j : Nat) (k : IntKind) (z : Int), [k1, k2, k3, k4][j]? = some k → zs[j]? = some z → (Lit.int k z).wf = true) :
    ∃ x y z u : Int, v = .agg #[.int k1 x, .int k2 y, .int k3 z, .int k4 u] ∧ (Lit.int k1 x).wf = true ∧ (Lit.int k2 y).wf = true ∧ (Lit.int k3 z).wf = true ∧ (Lit.int k4 u).wf = true := by
  obtain ⟨zs, hl, hv, hw⟩ := h
  match zs, hl with
  | [x, y, z, u], _ => exact ⟨x, y, z, u, hv, hw 0 _ _ rfl rfl, hw 1 _ _ rfl rfl, hw 2 _ _ rfl rfl, hw 3 _ _ rfl rfl⟩
theorem list5 {α : Type} {l : List α} (h : l.length = 5) : ∃ a b c d e, l = [a, b, c, d, e] := by
  match l, h with
  | [a, b, c, d, e], _ => exact ⟨a, b, c, d, e, rfl⟩
theorem list4 {α : Type} {l : List α} (h : l.length = 4) : ∃ a b c d, l = [a, b, c, d] := by
  match l, h with
  | [a, b, c, d], _ => exact ⟨a, b, c, d, rfl⟩
theorem step_cells {P : Program} {te : TypeId} {fs : Array Field} {f0 f1 : Field} (he : P.underlying te = some (.struct fs)) (h0 : fs[0]? = some f0) (h1 : fs[1]? = some f1) (hb : P.underlying f0.type = some .bool) (c0 : P.cellsOf f0.type = 1) (o0 : f0.offset = 0) (hF : Flat P f1.type [.u64, .u64, .i64, .i64]) (o1 : f1.offset = 1) (hC : P.cellsOf te = 5)
    {H : Type} (enc : TypeId × Value → H) (w : World) (base : Nat) (spare : Nat → Bool) (held : Bool) (fuel : Nat) (cs : List Value) (x : DataW H × List MemPlace) (hx : DataW.trod enc P w base spare held fuel te cs = some x) : ∃ s : Stp, cs = stpV s ∧ StpO s := by
  obtain ⟨xs, n, _, _, hcl, hxl, hg⟩ := DataW.trod_struct he hx
  have g0 := hg 0 f0 h0
  have g1 := hg 1 f1 h1
  have l0 := (Array.getElem?_eq_some_iff.1 h1).1
  have x0 : xs[0]? = some (xs[0]'(by omega)) := List.getElem?_eq_getElem (by omega)
  have x1 : xs[1]? = some (xs[1]'(by omega)) := List.getElem?_eq_getElem (by omega)
  rw [x0, o0, c0] at g0
  rw [x1, o1, hF.1] at g1
  obtain ⟨b, e0, _⟩ := DataW.trod_bool hb g0
  obtain ⟨zs, hl, e1, hw⟩ := hF.2 enc w base spare held n _ _ g1
  rw [hC] at hcl
  obtain ⟨a, c, d, e, f, rfl⟩ := list5 hcl
  obtain ⟨z1, z2, z3, z4, rfl⟩ := list4 hl
  obtain ⟨u, rfl, hu⟩ := wf_u64N (hw 0 _ _ rfl rfl)
  obtain ⟨v, rfl, hv⟩ := wf_u64N (hw 1 _ _ rfl rfl)
  have h3 := wf_i64N (hw 2 _ _ rfl rfl)
  have h4 := wf_i64N (hw 3 _ _ rfl rfl)
  refine ⟨⟨b, ⟨u, v, z3, z4⟩⟩, ?_, hu, hv, h3, h4⟩
  simp only [List.drop_zero, List.take_succ_cons, List.take_zero, List.cons.injEq, and_true] at e0
  simp only [List.drop_succ_cons, List.drop_zero, List.length_cons, List.length_nil, List.take_succ_cons, List.take_zero, List.zipWith_cons_cons, List.zipWith_nil_left, List.cons.injEq, and_true] at e1
  obtain ⟨rfl, rfl, rfl, rfl⟩ := e1
  rw [e0]
  rfl
structure SRow (w : World) (ao : Option Addr) (len cap b off : Nat) (F : Nat → Stp) : Prop where
  nil : ao = none → cap = 0
  lim : len ≤ 9223372036854775807
  cap : len ≤ cap ∧ cap ≤ 9223372036854775807
  adr : 0 < len → ao = some ⟨b, off, none⟩
  cell : ∀ i, i < len → ∀ (j : Nat) (v : Value), (stpV (F i))[j]? = some v → w.cell? ⟨b, off + (i * 5 + j), none⟩ = some v
  wf : ∀ i, i < len → StpO (F i)
theorem SRow.lt {w : World} {ao : Option Addr} {len cap b off : Nat} {F : Nat → Stp} (h : SRow w ao len cap b off F) (hl : 0 < len) : b < w.heap.size := World.block_lt_of_cell? w _ (h.cell 0 hl 0 _ rfl)
theorem SRow.keep {w w' : World} {ao : Option Addr} {len cap b off : Nat} {F : Nat → Stp} (h : SRow w ao len cap b off F) (hb : Below w.heap.size w w') : SRow w' ao len cap b off F :=
  ⟨h.nil, h.lim, h.cap, h.adr, fun i hi j v hv => (hb.cell (p := ⟨b, off + (i * 5 + j), none⟩) (h.lt (by omega))).trans (h.cell i hi j v hv), h.wf⟩
theorem srow_of {H : Type} {enc : TypeId × Value → H} {P : Program} {w : World} {base : Nat} {held : Bool} {t e : TypeId} {fuel : Nat} {a : Option Addr} {len cap : Nat} {x : DataW H × List MemPlace} (ht : P.underlying t = some (.slice e)) (hC : P.cellsOf e = 5)
    (he : ∀ (n : Nat) (cs : List Value) (y : DataW H × List MemPlace), DataW.trod enc P w base (fun _ => true) held n e cs = some y → ∃ s : Stp, cs = stpV s ∧ StpO s)
    (h : DataW.trod enc P w base (fun _ => true) held fuel t (Value.slice a len cap).cells.toList = some x) : ∃ b off F, SRow w a len cap b off F := by
  rcases open_slice ht h with ⟨hcs, _⟩ | ⟨ad, l, c, m, n, D, Pl, hcs, _, hl, hm, hmm, _, hi⟩
  · simp [Value.cells] at hcs
    obtain ⟨rfl, rfl, rfl⟩ := hcs
    exact ⟨0, 0, fun _ => ⟨false, ⟨0, 0, 0, 0⟩⟩, fun _ => rfl, by omega, by omega, by omega, fun i hi => by omega, fun i hi => by omega⟩
  · simp [Value.cells] at hcs
    obtain ⟨rfl, rfl, rfl⟩ := hcs
    simp only [if_true] at hmm
    subst hmm
    unfold maxLen at hm
    have key : ∀ i, i < m → ∃ s : Stp, StpO s ∧ ∀ (j : Nat) (v : Value), (stpV s)[j]? = some v → w.cell? ((ad.add (i * 5)).add j) = some v := by
      intro i hil
      obtain ⟨cs', hc, ht'⟩ := hi i hil
      rw [hC] at hc
      obtain ⟨s, e1, w1⟩ := he n cs' _ ht'
      obtain ⟨_, hcl, hat⟩ := World.cells?_some hc
      refine ⟨s, w1, fun j v hv => ?_⟩
      have hj : j < 5 := (List.getElem?_eq_some_iff.1 hv).1
      rw [hat j hj, e1, hv]
    by_cases hm0 : 0 < len
    · obtain ⟨v0, hz1⟩ : ∃ v0, w.cell? ad = some v0 := by
        obtain ⟨s, _, h2⟩ := key 0 (by omega)
        have := h2 0 _ rfl
        have e : (ad.add (0 * 5)).add 0 = ad := by simp [Addr.add]
        rw [e] at this
        exact ⟨_, this⟩
      obtain ⟨ab, aoff, sp⟩ := ad
      have hsp : sp = none := by have := spot_none hz1; injection this
      subst hsp
      have key2 : ∀ i, i < m → ∃ s : Stp, StpO s ∧ ∀ (j : Nat) (v : Value), (stpV s)[j]? = some v → w.cell? ⟨ab, aoff + (i * 5 + j), none⟩ = some v := by
        intro i hil
        obtain ⟨s, w1, c1⟩ := key i hil
        refine ⟨s, w1, fun j v hv => ?_⟩
        have := c1 j v hv
        rw [add_none, add_none, Nat.add_assoc] at this
        exact this
      refine ⟨ab, aoff, fun i => if hh : i < m then Classical.choose (key2 i hh) else ⟨false, ⟨0, 0, 0, 0⟩⟩, (fun h => by cases h), by omega, ⟨hl, by omega⟩, fun _ => rfl, fun i hil j v hv => ?_, fun i hil => ?_⟩
      · have him : i < m := by omega
        obtain ⟨w1, c1⟩ := Classical.choose_spec (key2 i him)
        simp only [him, dif_pos] at hv
        exact c1 j v hv
      · have him : i < m := by omega
        simp only [him, dif_pos]
        exact (Classical.choose_spec (key2 i him)).1
    · exact ⟨0, 0, fun _ => ⟨false, ⟨0, 0, 0, 0⟩⟩, (fun h => by cases h), by omega, ⟨hl, by omega⟩, by omega, fun i hi => by omega, fun i hi => by omega⟩
end Go.Proofs.YtlooaipipmiijaaGreat
