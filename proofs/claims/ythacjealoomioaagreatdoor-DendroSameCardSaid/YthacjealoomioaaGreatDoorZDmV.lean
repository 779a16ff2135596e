/- DmV. -/
import Derived.Test.YthacjealoomioaaGreatDoorZGn
import Derived.Test.YthacjealoomioaaGreatDoorZGc2
import Derived.Lib.OthersKept
import Derived.Laws.RangeAny
import Derived.WalkSmall
import Derived.BigQuiet
import Derived.WalkMore
/- dendro: read. (printed by dmv.py) -/
namespace Go.Proofs.YthacjealoomioaaGreatDoor
set_option linter.unusedVariables false
set_option linter.unusedSimpArgs false
open Go.RowKit

/-- The iterator goes on. -/
theorem RdO.iter {w0 : World} {k p : Nat} {s : ByteArray} {rp : Nat} {st : RdS} {jv sv : Value} {W : World} (h : RdO w0 (k, s, p) rp st jv sv W) (hk : w0.heap.size ≤ k) (p' : Nat) : RdO w0 (k, s, p') rp st jv sv (W.iterAt k s p') := by
  have hit : W.heap[k]? = some (.stringIter s p) := h.it
  refine ⟨?_, ?_, ?_, Lib.below_iterAt h.bel hk s p', h.new, Lib.iterAt_heap W k s p p' hit⟩
  · have hne := itr_ne hit h.box
    have hb := h.box
    unfold Blk at hb ⊢
    rw [Lib.iterAt_other W k rp s p' (fun e => hne e.symm)]
    exact hb
  · exact owns_same h.js fun j hj => Lib.iterAt_other W k j s p' (fun e => itr_own hit h.js (by rw [← e]; exact hj))
  · exact owns_same h.sk fun j hj => Lib.iterAt_other W k j s p' (fun e => itr_own hit h.sk (by rw [← e]; exact hj))
theorem RdO.drewN {w0 : World} {io : Nat × ByteArray × Nat} {rp : Nat} {st : RdS} {jv sv : Value} {W : World} (h : RdO w0 io rp st jv sv W) (q : Nat) : RdO w0 io rp st jv sv (W.drewN q) := h.below (bel_drewN (Below.refl _ _) q)
theorem op_snoc (l : List (Int × Bool)) (o : Int × Bool) : opCells (l ++ [o]) = opCells l ++ [.int .i64 o.1, .bool o.2] := by simp [opCells, List.flatMap_append]
/-- An open node more. -/
theorem RdO.pushS {w0 : World} {io : Nat × ByteArray × Nat} {rp : Nat} {st : RdS} {jv sv : Value} {W W1 W2 : World} {z : Value} (h : RdO w0 io rp st jv sv W) (o : Int × Bool) (h1 : Below W.heap.size W W1) (ho : W2.ownsRow 0 129 2 z (st.stack.length + 1) (opCells st.stack ++ [.int .i64 o.1, .bool o.2])) (hg : W1.grownBy W2 sv.ownBlock) (hn : ∀ k, z.ownBlock = some k → sv.ownBlock = some k ∨ W1.heap.size ≤ k) :
    Blk W2 rp 126 (rdCells st jv sv) ∧ RdO w0 io rp { st with stack := st.stack ++ [o] } jv z (W2.setCell ⟨rp, 5, none⟩ z) := by
  have hs := h.bel.size
  have hs1 := h1.size
  have hM : Mod (fun k => sv.ownBlock = some k) W W2 := (Mod.of_below (F := fun k => sv.ownBlock = some k) h1).grown hg (fun k e _ => e)
  have hb := hM.below hs (fun x e => owns_ge h.sk x e)
  have b := h.box.mod hM (fun e => owns_ne_blk h.sk h.box (by decide) e)
  have jk : W2.ownsRow w0.heap.size 134 3 jv st.joints.length (jtCells st.joints) := owns_same h.js (fun k hk => hM.block k ((owns_0 h.js).lt k hk).2 (fun e => owns_ne_owns h.sk h.js (by decide) hk e))
  have ho2 : W2.ownsRow w0.heap.size 129 2 z (st.stack ++ [o]).length (opCells (st.stack ++ [o])) := by
    rw [op_snoc, List.length_append]
    exact owns_at ho (fun k hk => by
      rcases hn k hk with e | e
      · exact owns_ge h.sk k e
      · omega)
  have hit := itr_mod hM h.it (fun e => itr_own h.it h.sk e)
  have hm2 := Mod.setCell (Mod.refl (fun x => x = rp) W2) ⟨rp, 5, none⟩ (fun _ => rfl) z
  exact ⟨b, b.set 5 z, owns_other jk b (by decide) 5 z, owns_other ho2 b (by decide) 5 z, bel_mod (h.bel.trans hb) hm2 (fun x e => by rw [e]; exact h.new), h.new, itr_mod hm2 hit (fun e => itr_ne h.it h.box e)⟩

theorem Tryz.infoOpen : (Tryz.prog.info? 129).map (fun i => (i.zero, i.size, i.bytes)) = some (some (.agg #[.int .i64 0, .bool false]), 2, 16) := by kernel_rfl

/-- What read returns. -/
structure RdPost (w : World) (l : List UInt8) (e : Ending) (W : World) : Prop where
  out : ∃ io rp st jv sv b, e = .returned (.tuple #[.pointer (some ⟨rp, 0, none⟩), .bool b]) ∧ RdO w io rp st jv sv W ∧ RdEnd l st b

theorem byte_at {s : ByteArray} {p : Nat} (hp : p < s.size) : s.data.toList[p]? = some (s[p]'hp) := by
  have : p < s.data.toList.length := by simpa using hp
  rw [List.getElem?_eq_getElem this]
  simp
  rfl
theorem sl_slice (s : ByteArray) (a b : Nat) (ha : a ≤ b) (hb : b ≤ s.size) : (s.extract a b).data.toList = _root_.Go.Proofs.YthacjealoomioaaGreatDoor.sl s.data.toList a b := by
  unfold _root_.Go.Proofs.YthacjealoomioaaGreatDoor.sl
  have e : a + (b - a) = b := by omega
  simp [ByteArray.data_extract, Array.toList_extract, List.take_drop, e]

set_option maxHeartbeats 16000000 in
set_option maxRecDepth 100000 in
theorem read_ok (w : World) (hE : ErrV w) (s : ByteArray) (hs : s.size ≤ 1000000) : Calls Tryz.prog 46 #[.string s] w (RdPost w s.data.toList) := by
  have HEV := Lib.hid hE
  clear hE
  obtain ⟨l, HL⟩ : ∃ l, Hid (s.data.toList = l) := ⟨_, rfl⟩
  have HLN : Hid (l.length = s.size) := by show _ = _; rw [← HL.out]; simp
  have H0 : Hid (RdO w (w.heap.size + 1, s, 0) w.heap.size rd0 (.slice none 0 0) (.slice none 0 0) ((w.alloc (.cells #[.int .i64 0, .int .i64 0, .int .i64 0, .int .i64 0, .slice none 0 0, .slice none 0 0] 126)).iter s 0)) := by
    have hb := bel_alloc w (.cells #[.int .i64 0, .int .i64 0, .int .i64 0, .int .i64 0, .slice none 0 0, .slice none 0 0] 126)
    have h1 : Blk (w.alloc (.cells #[.int .i64 0, .int .i64 0, .int .i64 0, .int .i64 0, .slice none 0 0, .slice none 0 0] 126)) w.heap.size 126 (rdCells rd0 (.slice none 0 0) (.slice none 0 0)) := Blk.new _ _ _
    refine ⟨h1.alloc _, World.ownsRow_nil _ _ _ _, World.ownsRow_nil _ _ _ _, hb.trans ((bel_alloc _ _).mono hb.size), Nat.le_refl _, ?_⟩
    have := World.iter_heap (w.alloc (.cells #[.int .i64 0, .int .i64 0, .int .i64 0, .int .i64 0, .slice none 0 0, .slice none 0 0] 126)) s 0
    simpa using this
  have hb1 : ∀ w, (Instr.build 126 #[]).run Tryz.prog w = .ok (.agg #[.int .i64 0, .int .i64 0, .int .i64 0, .int .i64 0, .slice none 0 0, .slice none 0 0]) w := fun w => by kernel_rfl
  have hb2 : ∀ w, (Instr.build 129 #[]).run Tryz.prog w = .ok (.agg #[.int .i64 0, .bool false]) w := fun w => by kernel_rfl
  rw [HL.out]
  go_enter Tryz.func46, Tryz.ntmps46
  go_wp2_with fail
  go_step3
  go_wp2_with fail
  go_step3
  go_wp2_with fail
  go_loopw [5] (fun v wr => ∃ (p : Nat) (st : RdS) (jv sv : Value), v = .bool true ∧ RdO w (w.heap.size + 1, s, p) w.heap.size st jv sv wr ∧ Hid (RP l p st)) (fun _ wr => s.size - wr.iterPos (w.heap.size + 1))
  case atStart => exact ⟨0, rd0, _, _, rfl, H0.out, RP.start l⟩
  case round =>
    obtain ⟨p, st, jv, sv, rfl, ho, HP⟩ := hrel
    clear H0
    have hpos0 := iterPos_of ho.it
    have hit := ho.it
    simp only at hpos0 hit
    by_cases hp : p < s.size
    · have hnx : ∀ ty, (Instr.next (.pointer (some ⟨w.heap.size + 1, 0, none⟩)) true ty).run Tryz.prog wr = _ := fun ty => Lib.run_next_any_at wr (w.heap.size + 1) s p ty hit hp
      have hc := byte_at hp
      rw [HL.out] at hc
      have HO2 := Lib.hid (ho.iter (Nat.le_succ _) (p + (Utf8.decode s p).2))
      have hw5 := HP.out.ri.w
      have hsl := HP.out.ri.sl
      have hjl := HP.out.ri.jl
      have hll := HP.out.ri.l
      have hbg := HP.out.ri.b
      have hj3 := HP.out.ri.j
      have HSL : Hid ((s.extract st.bg p).data.toList = _root_.Go.Proofs.YthacjealoomioaaGreatDoor.sl l st.bg p) := by
        show _ = _
        rw [sl_slice s st.bg p hbg (by omega), HL.out]
      obtain ⟨ib, HIB⟩ : ∃ ib, Hid (w.heap.size + 1 = ib) := ⟨_, rfl⟩
      simp only [HIB.out] at hnx HO2 hpos0 hit ⊢
      obtain ⟨W1, HW1⟩ : ∃ W1, Hid (wr.iterAt ib s (p + (Utf8.decode s p).2) = W1) := ⟨_, rfl⟩
      rw [HW1.out] at hnx HO2
      have HPOS := Lib.hid hpos0
      clear hit ho hpos0 HW1
      by_cases ha : (s[p]'hp).toNat < 128
      · rw [decode_ascii s p hp ha] at hnx HO2
        generalize s[p]'hp = c at *
        have HC := Lib.hid hc
        clear hc
        have HST : ∀ b, Hid (stepR l p (c.toNat : Int) st = b) → (b.2 = true → RP l (p + 1) b.1) ∧ (b.2 = false → ∀ st', RdEnd l st' false) := fun b hb => ⟨fun h => by rw [← hb.out] at h ⊢; exact HP.out.step HC.out h, fun h st' => by rw [← hb.out] at h; exact HP.out.fail HC.out h st'⟩
        have HSTP := Lib.hid HST
        clear HST
        obtain ⟨n, HN⟩ : ∃ n, Hid (c.toNat = n) := ⟨_, rfl⟩
        simp only [HN.out] at hnx HSTP ha
        by_cases hd : 48 ≤ n ∧ n ≤ 57
        · have HSE : Hid (stepR l p (n : Int) st = dgR st p false) := by
            show _ = _
            unfold stepR
            rw [if_pos (by omega), decide_eq_false (by omega)]
          have x1 : decide ((48 : Int) ≤ (n : Int)) = true := decide_eq_true (by omega)
          have y1 : decide (48 ≤ n) = true := decide_eq_true (by omega)
          have x2 : decide ((n : Int) ≤ 57) = true := decide_eq_true (by omega)
          have y2 : decide (n ≤ 57) = true := decide_eq_true (by omega)
          have x3 : ((n : Int) == 45) = false := beq_eq_false_iff_ne.2 (by omega)
          go_wp2_with fail
          with_reducible refine (digit_ok w (ib, s, p + 1) w.heap.size st jv sv W1 HO2.out hw5 p false).mono ?_
          rintro e w2 ⟨rfl, ho3⟩
          obtain ⟨⟨st2, b2⟩, hd⟩ : ∃ q, dgR st p false = q := ⟨_, rfl⟩
          rw [hd] at ho3
          have HR := HSTP.out (st2, b2) (by show _ = _; rw [← hd]; exact HSE.out)
          rw [hd]
          have HO3 := Lib.hid ho3
          clear ho3 hd HO2 HSTP HSE hnx
          cases b2 with
          | true =>
            have HNX := Lib.hid (HR.1 rfl)
            clear HR
            go_wp2_with fail
            go_roundw
            case rel => exact ⟨p + 1, _, _, _, rfl, HO3.out, HNX.out⟩
            case measure => rw [iterPos_of HO3.out.it, HPOS.out]; simp only; omega
          | false =>
            have HB := Lib.hid (HR.2 rfl st2)
            clear HR
            go_wp2_with fail
            go_quiet (fail)
            go_wp2_with fail
            try rw [Exit.noGoto_ret]
            go_ret2
            exact ⟨_, _, _, _, _, false, rfl, HO3.out.drewN nq, HB.out⟩
        · by_cases h45 : n = 45
          · subst h45
            have HSE : Hid (stepR l p ((45 : Nat) : Int) st = dgR st p true) := by
              show _ = _
              unfold stepR
              rw [if_pos (by omega), decide_eq_true (by omega)]
            go_wp2_with fail
            with_reducible refine (digit_ok w (ib, s, p + 1) w.heap.size st jv sv W1 HO2.out hw5 p true).mono ?_
            rintro e w2 ⟨rfl, ho3⟩
            obtain ⟨⟨st2, b2⟩, hd⟩ : ∃ q, dgR st p true = q := ⟨_, rfl⟩
            rw [hd] at ho3
            have HR := HSTP.out (st2, b2) (by show _ = _; rw [← hd]; exact HSE.out)
            rw [hd]
            have HO3 := Lib.hid ho3
            clear ho3 hd HO2 HSTP HSE hnx
            cases b2 with
            | true =>
              have HNX := Lib.hid (HR.1 rfl)
              clear HR
              go_wp2_with fail
              go_roundw
              case rel => exact ⟨p + 1, _, _, _, rfl, HO3.out, HNX.out⟩
              case measure => rw [iterPos_of HO3.out.it, HPOS.out]; simp only; omega
            | false =>
              have HB := Lib.hid (HR.2 rfl st2)
              clear HR
              go_wp2_with fail
              go_quiet (fail)
              go_wp2_with fail
              try rw [Exit.noGoto_ret]
              go_ret2
              exact ⟨_, _, _, _, _, false, rfl, HO3.out.drewN nq, HB.out⟩
          · by_cases h40 : n = 40
            · obtain rfl : n = 40 := h40
              have HSE : Hid (stepR l p ((40 : Nat) : Int) st = (⟨1, st.bg, st.node, st.leaves, st.joints, st.stack ++ [(0, false)]⟩, decide (st.want = 0 ∨ st.want = 1) && decide (st.stack.length < 4096))) := by
                show _ = _
                unfold stepR
                rw [if_neg (by omega), if_pos (by omega)]
              obtain ⟨so, sc, rfl⟩ := owns_slice (owns_0 HO2.out.sk)
              have c0 := HO2.out.box.cell (i := 0) rfl
              have c5 := HO2.out.box.cell (i := 5) rfl
              obtain ⟨b2, hb2⟩ : ∃ q, (decide (st.want = 0 ∨ st.want = 1) && decide (st.stack.length < 4096)) = q := ⟨_, rfl⟩
              rw [hb2] at HSE
              have HR := HSTP.out _ HSE
              obtain ⟨S, HS⟩ : ∃ S, Hid (st.stack.length = S) := ⟨_, rfl⟩
              replace c5 : W1.cell? ⟨w.heap.size, 5, none⟩ = some (.slice so S sc) := by rw [← HS.out]; exact c5
              rw [HS.out] at hsl hb2
              have HOW := Lib.hid ((owns_0 HO2.out.sk).alloc (.cells #[.int .i64 0, .bool false] 129))
              rw [HS.out] at HOW
              have HNW := Lib.hid (news_new W1 129 [.int .i64 0, .bool false])
              obtain ⟨wt, HWT⟩ : ∃ wt, Hid (st.want = wt) := ⟨_, rfl⟩
              replace c0 : W1.cell? ⟨w.heap.size, 0, none⟩ = some (.int .i64 (wt : Int)) := by rw [← HWT.out]; exact c0
              rw [HWT.out] at hb2
              clear HSE HSTP
              by_cases h0 : wt = 0
              · subst h0
                by_cases h4 : S < 4096
                · have u1 : decide (S < 4096) = true := decide_eq_true h4
                  have u2 : decide ((S : Int) < 4096) = true := decide_eq_true (by omega)
                  obtain rfl : b2 = true := by rw [← hb2]; simp [*]
                  clear hb2
                  have HNX := Lib.hid (HR.1 rfl)
                  clear HR
                  go_upto_region 11 with fail
                  go_wp2_with (at_builtin; apply keepIt)
                  apply Lib.hid
                  have hSl : S ≤ 1000000 := by omega
                  refine wpList_appendB 129 (.agg #[.int .i64 0, .bool false]) 2 16 Tryz.underlying124 Tryz.infoOpen rfl (by decide) (.slice so S sc) S (opCells st.stack) rfl HOW.out ⟨W1.heap.size, 0, none⟩ 1 1 [.int .i64 0, .bool false] rfl rfl HNW.out (by simp [Value.oneCell']) (by unfold maxLen; omega) (by omega) ?_
                  intro v' w' a1 a2 a3
                  obtain ⟨zo, zc, hz⟩ := owns_slice a1
                  rw [← HS.out] at a1 a2 a3
                  obtain ⟨hbk, hob⟩ := HO2.out.pushS (0, false) (bel_alloc W1 _) a1 a2 a3
                  subst hz
                  have hob2 := hob.put 0 (.int .i64 1) ⟨1, st.bg, st.node, st.leaves, st.joints, st.stack ++ [(0, false)]⟩ rfl rfl rfl
                  have d0 := hbk.cell (i := 0) rfl
                  have e0 := hbk.free 0
                  have d5 := hbk.cell (i := 5) rfl
                  have e5 := hbk.free 5
                  replace d5 : w'.cell? ⟨w.heap.size, 5, none⟩ = some (.slice so S sc) := by rw [← HS.out]; exact d5
                  have HO3 := Lib.hid hob2
                  clear a1 a2 a3 hob hob2 hbk HOW HNW c0 c5 HO2 hnx HS
                  go_wp2_with fail
                  go_roundw
                  case rel => exact ⟨p + 1, _, _, _, rfl, HO3.out, HNX.out⟩
                  case measure => rw [iterPos_of HO3.out.it, HPOS.out]; simp only; omega
                · have u1 : decide (S < 4096) = false := decide_eq_false h4
                  have u2 : decide ((S : Int) < 4096) = false := decide_eq_false (by omega)
                  obtain rfl : b2 = false := by rw [← hb2]; simp [*]
                  clear hb2
                  have HB := Lib.hid (HR.2 rfl ⟨1, st.bg, st.node, st.leaves, st.joints, st.stack ++ [(0, false)]⟩)
                  clear HR
                  go_upto_region 11 with fail
                  go_wp2_with (at_builtin; apply keepIt)
                  apply Lib.hid
                  have hSl : S ≤ 1000000 := by omega
                  refine wpList_appendB 129 (.agg #[.int .i64 0, .bool false]) 2 16 Tryz.underlying124 Tryz.infoOpen rfl (by decide) (.slice so S sc) S (opCells st.stack) rfl HOW.out ⟨W1.heap.size, 0, none⟩ 1 1 [.int .i64 0, .bool false] rfl rfl HNW.out (by simp [Value.oneCell']) (by unfold maxLen; omega) (by omega) ?_
                  intro v' w' a1 a2 a3
                  obtain ⟨zo, zc, hz⟩ := owns_slice a1
                  rw [← HS.out] at a1 a2 a3
                  obtain ⟨hbk, hob⟩ := HO2.out.pushS (0, false) (bel_alloc W1 _) a1 a2 a3
                  subst hz
                  have hob2 := hob.put 0 (.int .i64 1) ⟨1, st.bg, st.node, st.leaves, st.joints, st.stack ++ [(0, false)]⟩ rfl rfl rfl
                  have d0 := hbk.cell (i := 0) rfl
                  have e0 := hbk.free 0
                  have d5 := hbk.cell (i := 5) rfl
                  have e5 := hbk.free 5
                  replace d5 : w'.cell? ⟨w.heap.size, 5, none⟩ = some (.slice so S sc) := by rw [← HS.out]; exact d5
                  have HO3 := Lib.hid hob2
                  clear a1 a2 a3 hob hob2 hbk HOW HNW c0 c5 HO2 hnx HS
                  go_wp2_with fail
                  go_quiet (fail)
                  go_wp2_with fail
                  try rw [Exit.noGoto_ret]
                  go_ret2
                  exact ⟨_, _, _, _, _, false, rfl, HO3.out.drewN nq, HB.out⟩
              · have u3 : ((wt : Int) == 0) = false := beq_eq_false_iff_ne.2 (by omega)
                by_cases h1 : wt = 1
                · subst h1
                  by_cases h4 : S < 4096
                  · have u1 : decide (S < 4096) = true := decide_eq_true h4
                    have u2 : decide ((S : Int) < 4096) = true := decide_eq_true (by omega)
                    obtain rfl : b2 = true := by rw [← hb2]; simp [*]
                    clear hb2
                    have HNX := Lib.hid (HR.1 rfl)
                    clear HR
                    go_upto_region 11 with fail
                    go_wp2_with (at_builtin; apply keepIt)
                    apply Lib.hid
                    have hSl : S ≤ 1000000 := by omega
                    refine wpList_appendB 129 (.agg #[.int .i64 0, .bool false]) 2 16 Tryz.underlying124 Tryz.infoOpen rfl (by decide) (.slice so S sc) S (opCells st.stack) rfl HOW.out ⟨W1.heap.size, 0, none⟩ 1 1 [.int .i64 0, .bool false] rfl rfl HNW.out (by simp [Value.oneCell']) (by unfold maxLen; omega) (by omega) ?_
                    intro v' w' a1 a2 a3
                    obtain ⟨zo, zc, hz⟩ := owns_slice a1
                    rw [← HS.out] at a1 a2 a3
                    obtain ⟨hbk, hob⟩ := HO2.out.pushS (0, false) (bel_alloc W1 _) a1 a2 a3
                    subst hz
                    have hob2 := hob.put 0 (.int .i64 1) ⟨1, st.bg, st.node, st.leaves, st.joints, st.stack ++ [(0, false)]⟩ rfl rfl rfl
                    have d0 := hbk.cell (i := 0) rfl
                    have e0 := hbk.free 0
                    have d5 := hbk.cell (i := 5) rfl
                    have e5 := hbk.free 5
                    replace d5 : w'.cell? ⟨w.heap.size, 5, none⟩ = some (.slice so S sc) := by rw [← HS.out]; exact d5
                    have HO3 := Lib.hid hob2
                    clear a1 a2 a3 hob hob2 hbk HOW HNW c0 c5 HO2 hnx HS
                    go_wp2_with fail
                    go_roundw
                    case rel => exact ⟨p + 1, _, _, _, rfl, HO3.out, HNX.out⟩
                    case measure => rw [iterPos_of HO3.out.it, HPOS.out]; simp only; omega
                  · have u1 : decide (S < 4096) = false := decide_eq_false h4
                    have u2 : decide ((S : Int) < 4096) = false := decide_eq_false (by omega)
                    obtain rfl : b2 = false := by rw [← hb2]; simp [*]
                    clear hb2
                    have HB := Lib.hid (HR.2 rfl ⟨1, st.bg, st.node, st.leaves, st.joints, st.stack ++ [(0, false)]⟩)
                    clear HR
                    go_upto_region 11 with fail
                    go_wp2_with (at_builtin; apply keepIt)
                    apply Lib.hid
                    have hSl : S ≤ 1000000 := by omega
                    refine wpList_appendB 129 (.agg #[.int .i64 0, .bool false]) 2 16 Tryz.underlying124 Tryz.infoOpen rfl (by decide) (.slice so S sc) S (opCells st.stack) rfl HOW.out ⟨W1.heap.size, 0, none⟩ 1 1 [.int .i64 0, .bool false] rfl rfl HNW.out (by simp [Value.oneCell']) (by unfold maxLen; omega) (by omega) ?_
                    intro v' w' a1 a2 a3
                    obtain ⟨zo, zc, hz⟩ := owns_slice a1
                    rw [← HS.out] at a1 a2 a3
                    obtain ⟨hbk, hob⟩ := HO2.out.pushS (0, false) (bel_alloc W1 _) a1 a2 a3
                    subst hz
                    have hob2 := hob.put 0 (.int .i64 1) ⟨1, st.bg, st.node, st.leaves, st.joints, st.stack ++ [(0, false)]⟩ rfl rfl rfl
                    have d0 := hbk.cell (i := 0) rfl
                    have e0 := hbk.free 0
                    have d5 := hbk.cell (i := 5) rfl
                    have e5 := hbk.free 5
                    replace d5 : w'.cell? ⟨w.heap.size, 5, none⟩ = some (.slice so S sc) := by rw [← HS.out]; exact d5
                    have HO3 := Lib.hid hob2
                    clear a1 a2 a3 hob hob2 hbk HOW HNW c0 c5 HO2 hnx HS
                    go_wp2_with fail
                    go_quiet (fail)
                    go_wp2_with fail
                    try rw [Exit.noGoto_ret]
                    go_ret2
                    exact ⟨_, _, _, _, _, false, rfl, HO3.out.drewN nq, HB.out⟩
                · have u4 : ((wt : Int) == 1) = false := beq_eq_false_iff_ne.2 (by omega)
                  obtain rfl : b2 = false := by rw [← hb2]; simp [*]
                  clear hb2
                  have HB := Lib.hid (HR.2 rfl ⟨1, st.bg, st.node, st.leaves, st.joints, st.stack ++ [(0, false)]⟩)
                  clear HR
                  go_upto_region 11 with fail
                  go_wp2_with (at_builtin; apply keepIt)
                  apply Lib.hid
                  have hSl : S ≤ 1000000 := by omega
                  refine wpList_appendB 129 (.agg #[.int .i64 0, .bool false]) 2 16 Tryz.underlying124 Tryz.infoOpen rfl (by decide) (.slice so S sc) S (opCells st.stack) rfl HOW.out ⟨W1.heap.size, 0, none⟩ 1 1 [.int .i64 0, .bool false] rfl rfl HNW.out (by simp [Value.oneCell']) (by unfold maxLen; omega) (by omega) ?_
                  intro v' w' a1 a2 a3
                  obtain ⟨zo, zc, hz⟩ := owns_slice a1
                  rw [← HS.out] at a1 a2 a3
                  obtain ⟨hbk, hob⟩ := HO2.out.pushS (0, false) (bel_alloc W1 _) a1 a2 a3
                  subst hz
                  have hob2 := hob.put 0 (.int .i64 1) ⟨1, st.bg, st.node, st.leaves, st.joints, st.stack ++ [(0, false)]⟩ rfl rfl rfl
                  have d0 := hbk.cell (i := 0) rfl
                  have e0 := hbk.free 0
                  have d5 := hbk.cell (i := 5) rfl
                  have e5 := hbk.free 5
                  replace d5 : w'.cell? ⟨w.heap.size, 5, none⟩ = some (.slice so S sc) := by rw [← HS.out]; exact d5
                  have HO3 := Lib.hid hob2
                  clear a1 a2 a3 hob hob2 hbk HOW HNW c0 c5 HO2 hnx HS
                  go_wp2_with fail
                  go_quiet (fail)
                  go_wp2_with fail
                  try rw [Exit.noGoto_ret]
                  go_ret2
                  exact ⟨_, _, _, _, _, false, rfl, HO3.out.drewN nq, HB.out⟩
            · by_cases h58 : n = 58
              · obtain rfl : n = 58 := h58
                have HSE : Hid (stepR l p ((58 : Nat) : Int) st = (⟨4, st.bg, st.node, st.leaves, st.joints, st.stack⟩, decide (st.want = 3))) := by
                  show _ = _
                  unfold stepR
                  rw [if_neg (by omega), if_neg (by omega), if_pos (by omega)]
                have c0 := HO2.out.box.cell (i := 0) rfl
                have f0 := HO2.out.box.free 0
                have ho3 := HO2.out.put 0 (.int .i64 4) ⟨4, st.bg, st.node, st.leaves, st.joints, st.stack⟩ rfl rfl rfl
                have HO3 := Lib.hid ho3
                have HR := HSTP.out _ HSE
                by_cases h3 : st.want = 3
                · have u1 : ((st.want : Int) == 3) = true := by rw [h3]; rfl
                  have HNX := Lib.hid (HR.1 (decide_eq_true h3))
                  clear HSE HSTP HR ho3
                  go_wp2_with fail
                  go_roundw
                  case rel => exact ⟨p + 1, _, _, _, rfl, HO3.out, HNX.out⟩
                  case measure => rw [iterPos_of HO3.out.it, HPOS.out]; simp only; omega
                · have u1 : ((st.want : Int) == 3) = false := beq_eq_false_iff_ne.2 (by omega)
                  have HB := Lib.hid (HR.2 (decide_eq_false h3) ⟨4, st.bg, st.node, st.leaves, st.joints, st.stack⟩)
                  clear HSE HSTP HR ho3
                  go_wp2_with fail
                  go_quiet (fail)
                  go_wp2_with fail
                  try rw [Exit.noGoto_ret]
                  go_ret2
                  exact ⟨_, _, _, _, _, false, rfl, HO3.out.drewN nq, HB.out⟩
              · by_cases hlo : 48 ≤ n
                · have x1 : decide ((48 : Int) ≤ (n : Int)) = true := decide_eq_true (by omega)
                  have y1 : decide (48 ≤ n) = true := decide_eq_true (by omega)
                  have x2 : decide ((n : Int) ≤ 57) = false := decide_eq_false (by omega)
                  have y2 : decide (n ≤ 57) = false := decide_eq_false (by omega)
                  have x3 : ((n : Int) == 45) = false := beq_eq_false_iff_ne.2 (by omega)
                  have x4 : ((n : Int) == 40) = false := beq_eq_false_iff_ne.2 (by omega)
                  have x5 : ((n : Int) == 58) = false := beq_eq_false_iff_ne.2 (by omega)
                  have c1 := HO2.out.box.cell (i := 1) rfl
                  have g1 : (st.bg : Int) ≤ (p : Int) := by omega
                  have g2 : (p : Int) ≤ (s.size : Int) := by omega
                  have g3 : (0 : Int) ≤ (st.bg : Int) := by omega
                  have g4 : st.bg ≤ p := hbg
                  have g5 : p ≤ s.size := by omega
                  go_wp2_with fail
                  with_reducible refine (number_ok w HEV.out (ib, s, p + 1) w.heap.size st jv sv W1 HO2.out hw5 (fun e => hj3 (by omega)) (by omega) (by omega) (s.extract st.bg p) (by simp [ByteArray.size_extract]; omega)).mono ?_
                  rintro e w2 ⟨rfl, ho3⟩
                  rw [HSL.out] at ho3 ⊢
                  obtain ⟨⟨st2, b2⟩, hd⟩ : ∃ q, numR st (_root_.Go.Proofs.YthacjealoomioaaGreatDoor.sl l st.bg p) = q := ⟨_, rfl⟩
                  rw [hd] at ho3 ⊢
                  have hk := numR_keep st (_root_.Go.Proofs.YthacjealoomioaaGreatDoor.sl l st.bg p)
                  rw [hd] at hk
                  simp only at hk ho3 ⊢
                  have HO3 := Lib.hid ho3
                  clear ho3 HO2 hnx c1 HSL
                  cases b2 with
                  | true =>
                    go_wp2_with fail
                    with_reducible refine (close_ok w (ib, s, p + 1) w.heap.size st2 jv sv w2 HO3.out (by rw [hk.2.2.2.2]; omega) (by rw [hk.2.2.2.1]; omega) (n : Int)).mono ?_
                    rintro e w3 ⟨rfl, jv3, sv3, ho4⟩
                    obtain ⟨⟨st3, b3⟩, hd3⟩ : ∃ q, clsR st2 (n : Int) = q := ⟨_, rfl⟩
                    rw [hd3] at ho4 ⊢
                    simp only at ho4 ⊢
                    clear HO3
                    have HO3 := Lib.hid ho4
                    clear ho4
                    have HR := HSTP.out (st3, b3) (by show _ = _; rw [step_else (by omega) (by omega) (by omega), hd, if_pos rfl]; exact hd3)
                    clear hd hd3 hk HSTP
                    cases b3 with
                    | true =>
                      have HNX := Lib.hid (HR.1 rfl)
                      clear HR
                      go_wp2_with fail
                      go_roundw
                      case rel => exact ⟨p + 1, _, _, _, rfl, HO3.out, HNX.out⟩
                      case measure => rw [iterPos_of HO3.out.it, HPOS.out]; simp only; omega
                    | false =>
                      have HB := Lib.hid (HR.2 rfl st3)
                      clear HR
                      go_wp2_with fail
                      go_quiet (fail)
                      go_wp2_with fail
                      try rw [Exit.noGoto_ret]
                      go_ret2
                      exact ⟨_, _, _, _, _, false, rfl, HO3.out.drewN nq, HB.out⟩
                  | false =>
                    have HR := HSTP.out (st2, false) (by show _ = _; rw [step_else (by omega) (by omega) (by omega), hd, if_neg (by simp)])
                    have HB := Lib.hid (HR.2 rfl st2)
                    clear hd hk HSTP HR
                    go_wp2_with fail
                    go_quiet (fail)
                    go_wp2_with fail
                    try rw [Exit.noGoto_ret]
                    go_ret2
                    exact ⟨_, _, _, _, _, false, rfl, HO3.out.drewN nq, HB.out⟩
                · have x1 : decide ((48 : Int) ≤ (n : Int)) = false := decide_eq_false (by omega)
                  have y1 : decide (48 ≤ n) = false := decide_eq_false (by omega)
                  have x3 : ((n : Int) == 45) = false := beq_eq_false_iff_ne.2 (by omega)
                  have x4 : ((n : Int) == 40) = false := beq_eq_false_iff_ne.2 (by omega)
                  have x5 : ((n : Int) == 58) = false := beq_eq_false_iff_ne.2 (by omega)
                  have c1 := HO2.out.box.cell (i := 1) rfl
                  have g1 : (st.bg : Int) ≤ (p : Int) := by omega
                  have g2 : (p : Int) ≤ (s.size : Int) := by omega
                  have g3 : (0 : Int) ≤ (st.bg : Int) := by omega
                  have g4 : st.bg ≤ p := hbg
                  have g5 : p ≤ s.size := by omega
                  go_wp2_with fail
                  with_reducible refine (number_ok w HEV.out (ib, s, p + 1) w.heap.size st jv sv W1 HO2.out hw5 (fun e => hj3 (by omega)) (by omega) (by omega) (s.extract st.bg p) (by simp [ByteArray.size_extract]; omega)).mono ?_
                  rintro e w2 ⟨rfl, ho3⟩
                  rw [HSL.out] at ho3 ⊢
                  obtain ⟨⟨st2, b2⟩, hd⟩ : ∃ q, numR st (_root_.Go.Proofs.YthacjealoomioaaGreatDoor.sl l st.bg p) = q := ⟨_, rfl⟩
                  rw [hd] at ho3 ⊢
                  have hk := numR_keep st (_root_.Go.Proofs.YthacjealoomioaaGreatDoor.sl l st.bg p)
                  rw [hd] at hk
                  simp only at hk ho3 ⊢
                  have HO3 := Lib.hid ho3
                  clear ho3 HO2 hnx c1 HSL
                  cases b2 with
                  | true =>
                    go_wp2_with fail
                    with_reducible refine (close_ok w (ib, s, p + 1) w.heap.size st2 jv sv w2 HO3.out (by rw [hk.2.2.2.2]; omega) (by rw [hk.2.2.2.1]; omega) (n : Int)).mono ?_
                    rintro e w3 ⟨rfl, jv3, sv3, ho4⟩
                    obtain ⟨⟨st3, b3⟩, hd3⟩ : ∃ q, clsR st2 (n : Int) = q := ⟨_, rfl⟩
                    rw [hd3] at ho4 ⊢
                    simp only at ho4 ⊢
                    clear HO3
                    have HO3 := Lib.hid ho4
                    clear ho4
                    have HR := HSTP.out (st3, b3) (by show _ = _; rw [step_else (by omega) (by omega) (by omega), hd, if_pos rfl]; exact hd3)
                    clear hd hd3 hk HSTP
                    cases b3 with
                    | true =>
                      have HNX := Lib.hid (HR.1 rfl)
                      clear HR
                      go_wp2_with fail
                      go_roundw
                      case rel => exact ⟨p + 1, _, _, _, rfl, HO3.out, HNX.out⟩
                      case measure => rw [iterPos_of HO3.out.it, HPOS.out]; simp only; omega
                    | false =>
                      have HB := Lib.hid (HR.2 rfl st3)
                      clear HR
                      go_wp2_with fail
                      go_quiet (fail)
                      go_wp2_with fail
                      try rw [Exit.noGoto_ret]
                      go_ret2
                      exact ⟨_, _, _, _, _, false, rfl, HO3.out.drewN nq, HB.out⟩
                  | false =>
                    have HR := HSTP.out (st2, false) (by show _ = _; rw [step_else (by omega) (by omega) (by omega), hd, if_neg (by simp)])
                    have HB := Lib.hid (HR.2 rfl st2)
                    clear hd hk HSTP HR
                    go_wp2_with fail
                    go_quiet (fail)
                    go_wp2_with fail
                    try rw [Exit.noGoto_ret]
                    go_ret2
                    exact ⟨_, _, _, _, _, false, rfl, HO3.out.drewN nq, HB.out⟩
      · have hr := (decode_high s p hp (by omega)).1
        have HHI : Hid (∀ st', RdEnd l st' false) := fun st' => HP.out.high hc (by omega) st'
        obtain ⟨n, HN⟩ : ∃ n, Hid ((Utf8.decode s p).1 = n) := ⟨_, rfl⟩
        rw [HN.out] at hr
        simp only [HN.out] at hnx
        clear hc ha
        generalize p + (Utf8.decode s p).2 = p2 at *
        have x1 : decide ((48 : Int) ≤ (n : Int)) = true := decide_eq_true (by omega)
        have y1 : decide (48 ≤ n) = true := decide_eq_true (by omega)
        have x2 : decide ((n : Int) ≤ 57) = false := decide_eq_false (by omega)
        have y2 : decide (n ≤ 57) = false := decide_eq_false (by omega)
        have x3 : ((n : Int) == 45) = false := beq_eq_false_iff_ne.2 (by omega)
        have x4 : ((n : Int) == 40) = false := beq_eq_false_iff_ne.2 (by omega)
        have x5 : ((n : Int) == 58) = false := beq_eq_false_iff_ne.2 (by omega)
        have c1 := HO2.out.box.cell (i := 1) rfl
        have g1 : (st.bg : Int) ≤ (p : Int) := by omega
        have g2 : (p : Int) ≤ (s.size : Int) := by omega
        have g3 : (0 : Int) ≤ (st.bg : Int) := by omega
        have g4 : st.bg ≤ p := hbg
        have g5 : p ≤ s.size := by omega
        go_wp2_with fail
        with_reducible refine (number_ok w HEV.out (ib, s, p2) w.heap.size st jv sv W1 HO2.out hw5 (fun e => hj3 (by omega)) (by omega) (by omega) (s.extract st.bg p) (by simp [ByteArray.size_extract]; omega)).mono ?_
        rintro e w2 ⟨rfl, ho3⟩
        rw [HSL.out] at ho3 ⊢
        obtain ⟨⟨st2, b2⟩, hd⟩ : ∃ q, numR st (_root_.Go.Proofs.YthacjealoomioaaGreatDoor.sl l st.bg p) = q := ⟨_, rfl⟩
        rw [hd] at ho3 ⊢
        have hk := numR_keep st (_root_.Go.Proofs.YthacjealoomioaaGreatDoor.sl l st.bg p)
        rw [hd] at hk
        simp only at hk ho3 ⊢
        have HO3 := Lib.hid ho3
        clear ho3 HO2 hnx c1 HSL
        cases b2 with
        | true =>
          go_wp2_with fail
          with_reducible refine (close_ok w (ib, s, p2) w.heap.size st2 jv sv w2 HO3.out (by rw [hk.2.2.2.2]; omega) (by rw [hk.2.2.2.1]; omega) (n : Int)).mono ?_
          rintro e w3 ⟨rfl, jv3, sv3, ho4⟩
          obtain ⟨⟨st3, b3⟩, hd3⟩ : ∃ q, clsR st2 (n : Int) = q := ⟨_, rfl⟩
          rw [hd3] at ho4 ⊢
          simp only at ho4 ⊢
          clear HO3
          have HO3 := Lib.hid ho4
          clear ho4
          obtain rfl : b3 = false := by have := cls_high (st := st2) (c := (n : Int)) (by omega); rw [hd3] at this; exact this
          clear hd hd3 hk
          go_wp2_with fail
          go_quiet (fail)
          go_wp2_with fail
          try rw [Exit.noGoto_ret]
          go_ret2
          exact ⟨_, _, _, _, _, false, rfl, HO3.out.drewN nq, HHI.out _⟩
        | false =>
          clear hd hk
          go_wp2_with fail
          go_quiet (fail)
          go_wp2_with fail
          try rw [Exit.noGoto_ret]
          go_ret2
          exact ⟨_, _, _, _, _, false, rfl, HO3.out.drewN nq, HHI.out _⟩
    · have hnx : ∀ ty, (Instr.next (.pointer (some ⟨w.heap.size + 1, 0, none⟩)) true ty).run Tryz.prog wr = _ := fun ty => Lib.run_next_end_at wr (w.heap.size + 1) s p ty hit hp
      have HO2 := Lib.hid ho
      have HEND : Hid (RdEnd l st (decide (st.want = 0))) := HP.out.last (by have := HP.out.pl; have := HLN.out; omega)
      have c0 := ho.box.cell (i := 0) rfl
      obtain ⟨q, hq⟩ : ∃ q, decide (st.want = 0) = q := ⟨_, rfl⟩
      have hq2 : ((st.want : Int) == 0) = q := by
        rw [← hq]
        by_cases e : st.want = 0
        · rw [e]; rfl
        · rw [decide_eq_false e]; exact beq_eq_false_iff_ne.2 (by omega)
      rw [hq] at HEND
      clear hq ho hpos0 hit HP
      go_wp2_with fail
      go_quiet (fail)
      go_wp2_with fail
      try rw [Exit.noGoto_ret]
      go_ret2
      exact ⟨_, _, st, jv, sv, q, rfl, HO2.out.drewN nq, HEND.out⟩

end Go.Proofs.YthacjealoomioaaGreatDoor
