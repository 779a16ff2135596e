/- The reference of layer 23: Labels. -/
import Derived.Test.YthhddjknjnjbhaaLkR
namespace Go.Proofs.Ythhddjknjnjbhaa
set_option linter.unusedVariables false
set_option linter.unusedSimpArgs false
open Go.RowKit

/-- What the reference holds between its rounds. -/
structure RLI (w : World) (n : Nat) (ms : List Mg) (many : Int) (k : Nat) (v vo : Value) (cur : List Int) (W : World) : Prop where
  row : W.ownsRow 0 3 1 v n (cur.map fun y => .int .i64 y)
  out : ∀ c : Nat, many = c → c < k → ∃ nc, mrunTo n ms c = some nc ∧ W.ownsRow 0 3 1 vo n (nc.map fun y => .int .i64 y)
  dis : ∀ x, vo.ownBlock = some x → v.ownBlock ≠ some x
  lto : ∀ x, vo.ownBlock = some x → x < W.heap.size
  bel : Below w.heap.size w W
  new : ∀ x, v.ownBlock = some x → w.heap.size ≤ x
  newo : ∀ x, vo.ownBlock = some x → w.heap.size ≤ x

theorem RLI.below {w : World} {n : Nat} {ms : List Mg} {many : Int} {k : Nat} {v vo : Value} {cur : List Int} {W W' : World} (h : RLI w n ms many k v vo cur W) (hb : Below W.heap.size W W') : RLI w n ms many k v vo cur W' :=
  ⟨owns_mod h.row (Mod.of_below (F := fun _ => False) hb) (fun _ _ h => h), fun c hc hk => by
    obtain ⟨nc, h1, h2⟩ := h.out c hc hk
    exact ⟨nc, h1, owns_mod h2 (Mod.of_below (F := fun _ => False) hb) (fun _ _ h => h)⟩, h.dis, fun x hx => Nat.lt_of_lt_of_le (h.lto x hx) hb.size, h.bel.trans (hb.mono h.bel.size), h.new, h.newo⟩

theorem RLI.later {w : World} {n : Nat} {ms : List Mg} {many : Int} {k : Nat} {v vo : Value} {cur : List Int} {W : World} (h : RLI w n ms many k v vo cur W) (hne : many ≠ (k : Int)) : RLI w n ms many (k + 1) v vo cur W :=
  ⟨h.row, fun c hc hk => h.out c hc (by omega), h.dis, h.lto, h.bel, h.new, h.newo⟩

theorem RLI.store {w : World} {n : Nat} {ms : List Mg} {many : Int} {k : Nat} {g cap : Nat} {vo : Value} {cur : List Int} {W : World} (h : RLI w n ms many k (.slice (some ⟨g, 0, none⟩) n cap) vo cur W) (x : Nat) (hx : x < n) (u : Int) :
    RLI w n ms many k (.slice (some ⟨g, 0, none⟩) n cap) vo (cur.set x u) (W.setCell ⟨g, x, none⟩ (.int .i64 u)) := by
  have hm : Mod (fun k => k = g) W (W.setCell ⟨g, x, none⟩ (.int .i64 u)) := Mod.setCell (Mod.refl (fun k => k = g) W) ⟨g, x, none⟩ (fun _ => rfl) _
  have hg := h.new g rfl
  refine ⟨?_, fun c hc hk => ?_, h.dis, fun x hx => Nat.lt_of_lt_of_le (h.lto x hx) hm.size, h.bel.trans (hm.below h.bel.size (fun k hk => by have e : k = g := hk; omega)), h.new, h.newo⟩
  · have := owns_set h.row x (by omega) (.int .i64 u)
    rw [← List.map_set] at this
    exact this
  · obtain ⟨nc, h1, h2⟩ := h.out c hc hk
    exact ⟨nc, h1, owns_mod h2 hm (fun y hy e => by have e' : y = g := e; subst e'; exact h.dis y hy rfl)⟩

theorem RLI.copy {w : World} {n : Nat} {ms : List Mg} {many : Int} {k : Nat} {v vo : Value} {now : List Int} {W : World} (h : RLI w n ms many k v vo now W) (hrun : mrunTo n ms k = some now) (hk : many = (k : Int)) {v' : Value} {w2 : World}
    (ho : w2.ownsRow 0 3 1 v' (0 + n) ([] ++ now.map fun y => .int .i64 y)) (hg : (W.alloc (.cells #[] 3)).grownBy w2 (some W.heap.size)) (hn : ∀ x, v'.ownBlock = some x → (some W.heap.size = some x) ∨ (W.alloc (.cells #[] 3)).heap.size ≤ x) :
    RLI w n ms many (k + 1) v v' now w2 := by
  have hal : Below W.heap.size W (W.alloc (.cells #[] 3)) := (Below.refl _ _).alloc (Nat.le_refl _) _
  have hb : Below W.heap.size W w2 := hal.trans (grown_below hg (fun k hk => by injection hk with hk; omega) hal.size)
  have hs := hb.size
  have hge : ∀ x, v'.ownBlock = some x → W.heap.size ≤ x := fun x hx => by
    rcases hn x hx with e | e
    · injection e with e; omega
    · have := hal.size; omega
  have hbs := h.bel.size
  refine ⟨owns_mod h.row (Mod.of_below (F := fun _ => False) hb) (fun _ _ h => h), fun c hc hck => ⟨now, ?_, ?_⟩, fun x hx e => ?_, fun x hx => (ho.lt x hx).2, h.bel.trans (hb.mono hbs), h.new, fun x hx => Nat.le_trans hbs (hge x hx)⟩
  · rw [show c = k by omega]; exact hrun
  · rw [Nat.zero_add, List.nil_append] at ho; exact ho
  · have h1 := (h.row.lt x e).2
    have h2 := hge x hx
    omega

theorem Try.infoIntR : (Try.prog.info? 3).map (fun i => (i.zero, i.size, i.bytes)) = some (some (.int .i64 0), 1, 8) := by kernel_rfl

theorem labL_bad {n : Nat} (hn : n ≤ 128) {ms : List Mg} {many : Int} (h : mrunTo n ms ms.length = none) : labL n ms many = (2, []) := by
  unfold labL; rw [if_neg (by omega), Int.toNat_natCast, h]
theorem labL_rng {n : Nat} (hn : n ≤ 128) {ms : List Mg} {many : Int} {now : List Int} (h : mrunTo n ms ms.length = some now) (hm : many < 0 ∨ (ms.length : Int) < many) : labL n ms many = (3, []) := by
  unfold labL; rw [if_neg (by omega), Int.toNat_natCast, h]; simp only []; rw [if_pos hm]
theorem labL_ok {n : Nat} (hn : n ≤ 128) {ms : List Mg} {c : Nat} {now nc : List Int} (h : mrunTo n ms ms.length = some now) (hm : c ≤ ms.length) (hc : mrunTo n ms c = some nc) : labL n ms c = (0, nc) := by
  unfold labL; rw [if_neg (by omega), Int.toNat_natCast, h]; simp only []; rw [if_neg (by omega), Int.toNat_natCast, hc]; rfl

theorem rcount_at (w : World) (ao : Option Addr) (len cap b off : Nat) (z : List Int) (hz : InRow .i64 w ao len b off z) (hl : len ≤ 1000000000) (x : Int) (c : Nat) (hc : Hid (z.count x = c)) :
    Calls Try.prog 29 #[.slice ao len cap, .int .i64 x] w (Ret (.int .i64 (c : Nat)) w) := by
  have := rcount_ok w ao len cap b off z hz hl x
  rw [hc.out] at this
  exact this

set_option maxHeartbeats 3000000 in
set_option maxRecDepth 100000 in
theorem rlabels_ok (w : World) (n : Int) (ao : Option Addr) (len cap b off : Nat) (ms : List Mg) (hr : MRow w ao len b off ms) (hl : len ≤ 1000000000) (hS : ∀ x ∈ ms, I64 x.A ∧ I64 x.B ∧ I64 x.S) (many : Int) (hn64 : I64 n) (hc64 : I64 many) :
    Calls Try.prog 19 #[.int .i64 n, .slice ao len cap, .int .i64 many] w (LbPost (labL n ms many) w) := by
  by_cases h1 : n < 0
  · have t1 : decide (n < 0) = true := by simp [h1]
    have HE : Hid (labL n ms many = (2, [])) := by show _ = _; unfold labL; rw [if_pos (.inl h1)]
    clear h1 hr hS
    go_enter Try.func19, Try.ntmps19
    go_wp2_with fail
    go_ret2
    exact LbPost.bad HE.out (Below.refl _ _)
  · have t1 : decide (n < 0) = false := by simp; omega
    by_cases h2 : 128 < n
    · have t2 : decide (128 < n) = true := by simp [h2]
      have HE : Hid (labL n ms many = (2, [])) := by show _ = _; unfold labL; rw [if_pos (.inr h2)]
      clear h1 h2 hr hS
      go_enter Try.func19, Try.ntmps19
      go_wp2_with fail
      go_ret2
      exact LbPost.bad HE.out (Below.refl _ _)
    · obtain ⟨n, rfl⟩ := Int.eq_ofNat_of_zero_le (show 0 ≤ n by omega)
      have t2 : decide (128 < (n : Int)) = false := by simp; omega
      have hn : n ≤ 128 := by omega
      have HN9 : Hid (n ≤ 1000000000) := by show n ≤ _; omega
      have HR := Lib.hid hr
      have HS := Lib.hid hS
      have HLM : Hid (ms.length = len) := hr.size
      have HBW : Hid (0 < len → b < w.heap.size) := fun h => hr.lt h
      unfold I64 at hc64
      clear h1 h2 hr hS hn64
      go_enter Try.func19, Try.ntmps19
      go_wp2_with fail
      clear t1 t2
      go_loopw [8, 10] (fun s8 s10 wr => ∃ k : Nat, k ≤ n ∧ s10 = .int .i64 k ∧ wr.ownsRow 0 3 1 s8 k ((ident k).map fun y => .int .i64 y) ∧ Below w.heap.size w wr ∧ ∀ x, s8.ownBlock = some x → w.heap.size ≤ x) (fun _ s _ => n - (intOf s).toNat)
      case atStart => exact ⟨0, Nat.zero_le _, rfl, World.ownsRow_nil _ _ _ _, Below.refl _ _, (fun x hx => by cases hx)⟩
      case round =>
        obtain ⟨k, hk, rfl, ho, hb, hnw⟩ := hrel
        obtain ⟨so, sc, rfl⟩ := owns_slice ho
        have HO := Lib.hid ho
        have HB := Lib.hid hb
        have HNW := Lib.hid hnw
        clear ho hb hnw
        by_cases hkn : k < n
        · have HOWN := Lib.hid (HO.out.alloc (.cells #[.int .i64 k] 3))
          have HNEW := Lib.hid (news_new wr 3 [.int .i64 (k : Int)])
          go_wp2_with (at_builtin; with_reducible refine wpList_appendB 3 (.int .i64 0) 1 8 Try.underlying36 Try.infoIntR rfl (by decide) (.slice so k sc) k ((ident k).map fun y => .int .i64 y) rfl HOWN.out ⟨wr.heap.size, 0, none⟩ 1 1 [.int .i64 (k : Int)] rfl rfl HNEW.out (by simp [Value.oneCell']) (by unfold maxLen; omega) (by omega) ?_)
          intro v' w2 ho2 hg2 hn2
          have HFIN : Hid (w2.ownsRow 0 3 1 v' (k + 1) ((ident (k + 1)).map fun y => .int .i64 y) ∧ Below w.heap.size w w2 ∧ ∀ x, v'.ownBlock = some x → w.heap.size ≤ x) := by
            have hal : Below wr.heap.size wr (wr.alloc (.cells #[.int .i64 (k : Int)] 3)) := (Below.refl _ _).alloc (Nat.le_refl _) _
            have hsz := HB.out.size
            refine ⟨?_, ?_, fun x hx => ?_⟩
            · have e : ident (k + 1) = ident k ++ [(k : Int)] := by simp [ident, List.range_succ]
              rw [e, List.map_append]; exact ho2
            · exact (HB.out.trans (hal.mono hsz)).trans (grown_below hg2 HNW.out (by have := hal.size; omega))
            · rcases hn2 x hx with e | e
              · exact HNW.out x e
              · have := hal.size; omega
          clear ho2 hg2 hn2
          go_wp2_with fail
          go_roundw
          case rel => exact ⟨k + 1, by omega, by go_num, HFIN.out⟩
          case measure => simp [intOf]; omega
        · obtain rfl : n = k := by omega
          go_wp2_with fail
          obtain ⟨wq, rfl⟩ : ∃ wq : World, wq = wr := ⟨_, rfl⟩
          go_loopw [9, 11] (fun s9 s11 wr => ∃ k : Nat, k ≤ len ∧ s11 = .int .i64 k ∧ ∃ now, mrunTo n ms k = some now ∧ RLI w n ms many k (.slice so n sc) s9 now wr) (fun _ s _ => len + 1 - (intOf s).toNat)
          case atStart => exact ⟨0, Nat.zero_le _, rfl, ident n, rfl, HO.out, (fun c _ hc => by omega), (fun x hx => by cases hx), (fun x hx => by cases hx), HB.out, HNW.out, (fun x hx => by cases hx)⟩
          case round =>
            obtain ⟨k, hk, rfl, now, hrun, hi⟩ := hrel
            have HRUN := Lib.hid hrun
            have HLN := Lib.hid (mrunTo_length hrun)
            have HI0 := Lib.hid hi
            clear HO HB HNW hi hrun
            have t3 : decide (k ≤ len) = true := by simp [hk]
            by_cases hmk : many = (k : Int)
            · have tk : ((k : Int) == many) = true := by simp [hmk]
              have HMK := Lib.hid hmk
              clear hmk
              have HEM := Lib.hid (owns_empty wr 3)
              have HNR : Hid ((wr.alloc (.cells #[] 3)).ownsRow 0 3 1 (.slice so n sc) n (now.map fun y => .int .i64 y)) := HI0.out.row.alloc _
              go_wp2_with (at_builtin; with_reducible refine wpList_appendR rfl 3 (.int .i64 0) 1 8 Try.underlying36 Try.infoIntR rfl (by decide) (.slice (some ⟨wr.heap.size, 0, none⟩) 0 0) 0 [] rfl HEM.out (.slice so n sc) n (now.map fun y => .int .i64 y) rfl HNR.out (one_ints now) (by unfold maxLen; omega) (by omega) ?_)
              intro v' w2 ho2 hg2 hn2
              have HI := Lib.hid (HI0.out.copy HRUN.out HMK.out ho2 hg2 hn2)
              clear ho2 hg2 hn2 HEM HNR HI0
              by_cases hkl : k < len
              · have t4 : ((k : Int) == (len : Int)) = false := by simp; omega
                obtain rfl := HR.out.adr (by omega)
                have hbw := HBW.out (by omega)
                obtain ⟨m0, m1, m2, m3, m4⟩ := HR.out.cell k hkl
                have p0 := (HI.out.bel.cell (p := ⟨b, off + k * 5, none⟩) hbw).trans m0
                have p1 := (HI.out.bel.cell (p := ⟨b, off + k * 5 + 1, none⟩) hbw).trans m1
                have HST : Hid (mrunTo n ms (k + 1) = mstep n now (ms.getD k mg0)) := by show _ = _; rw [mrunTo, HRUN.out]; rfl
                have hxi := HS.out (ms.getD k mg0) (by rw [List.getD_eq_getElem?_getD, List.getElem?_eq_getElem (by rw [HR.out.size]; exact hkl)]; exact List.getElem_mem _)
                have HP4 := Lib.hid m4
                generalize ms.getD k mg0 = x at p0 p1 hxi HST HP4
                obtain ⟨A, B, N, D, Z⟩ := x
                dsimp only at p0 p1 hxi
                unfold I64 at hxi
                clear m0 m1 m2 m3 m4
                have HBAD : Hid ((B ≤ A ∨ now.count A = 0 ∨ now.count B = 0 ∨ Z ≠ (now.count A : Int) + (now.count B : Int)) → labL n ms many = (2, [])) := fun hb => by
                  have h0 := (mbad_iff (mrunTo_in HRUN.out) ⟨A, B, N, D, Z⟩).2 hb
                  have h1 : mrunTo n ms (k + 1) = none := by rw [HST.out]; unfold mstep; rw [if_pos h0]
                  have := mrunTo_none h1 (len - (k + 1))
                  rw [show k + 1 + (len - (k + 1)) = len by omega] at this
                  exact labL_bad hn (by rw [HLM.out]; exact this)
                have t0 : (k : Int) < (len : Int) := by omega
                go_wp2_with fail
                go_quiet (fail)
                have HI5 := Lib.hid (HI.out.below (bel_drewN (Below.refl _ _) nq))
                generalize World.drewN _ nq = w5 at *
                have q4 : w5.cell? ⟨b, off + k * 5 + 4, none⟩ = some (.int .i64 Z) := (HI5.out.bel.cell (p := ⟨b, off + k * 5 + 4, none⟩) hbw).trans HP4.out
                clear p0 p1 HI
                obtain ⟨xo, xc, nb, hxe, hin, hnb⟩ := owns_row (z := now) (by rw [HLN.out]; exact HI5.out.row)
                have hxe2 : xo = so ∧ xc = sc := by rw [HLN.out] at hxe; injection hxe with h1 h2 h3; exact ⟨h1.symm, h3.symm⟩
                obtain ⟨rfl, rfl⟩ := hxe2
                rw [HLN.out] at hin
                have HIN := Lib.hid hin
                clear hxe hin hnb
                have l1 : now.count A ≤ 128 := Nat.le_trans (List.count_le_length) (by rw [HLN.out]; exact hn)
                have l2 : now.count B ≤ 128 := Nat.le_trans (List.count_le_length) (by rw [HLN.out]; exact hn)
                obtain ⟨ca, HCA⟩ : ∃ ca, Hid (now.count A = ca) := ⟨_, rfl⟩
                obtain ⟨cb, HCB⟩ : ∃ cb, Hid (now.count B = cb) := ⟨_, rfl⟩
                rw [HCA.out] at l1
                rw [HCB.out] at l2
                by_cases h2 : B ≤ A
                · have t1 : decide (B ≤ A) = true := by simp [h2]
                  have H2 := Lib.hid h2
                  clear h2
                  go_wp2_with fail
                  go_quiet ((go_at_call 29; first | (with_reducible show Calls _ _ #[_, Value.int IntKind.i64 A] _ _; exact Calls.quiet_of_same (Ret.still (rcount_at _ xo n xc nb 0 now (HIN.out.below (bel_drewN (Below.refl _ _) _)) HN9.out A ca HCA))) | (with_reducible show Calls _ _ #[_, Value.int IntKind.i64 B] _ _; exact Calls.quiet_of_same (Ret.still (rcount_at _ xo n xc nb 0 now (HIN.out.below (bel_drewN (Below.refl _ _) _)) HN9.out B cb HCB)))))
                  go_wp2_with fail
                  go_ret2
                  exact LbPost.bad (HBAD.out (.inl H2.out)) (bel_drewN HI5.out.bel _)
                · have t1 : decide (B ≤ A) = false := by simp; omega
                  have H2 := Lib.hid h2
                  clear h2
                  by_cases h4 : ca = 0
                  · have t5 : ((ca : Int) == 0) = true := by simp [h4]
                    have H4 := Lib.hid h4
                    clear h4
                    go_wp2_with fail
                    go_quiet ((go_at_call 29; first | (with_reducible show Calls _ _ #[_, Value.int IntKind.i64 A] _ _; exact Calls.quiet_of_same (Ret.still (rcount_at _ xo n xc nb 0 now (HIN.out.below (bel_drewN (Below.refl _ _) _)) HN9.out A ca HCA))) | (with_reducible show Calls _ _ #[_, Value.int IntKind.i64 B] _ _; exact Calls.quiet_of_same (Ret.still (rcount_at _ xo n xc nb 0 now (HIN.out.below (bel_drewN (Below.refl _ _) _)) HN9.out B cb HCB)))))
                    go_wp2_with fail
                    go_ret2
                    exact LbPost.bad (HBAD.out (.inr (.inl (HCA.out.trans H4.out)))) (bel_drewN HI5.out.bel _)
                  · have t5 : ((ca : Int) == 0) = false := by simp; omega
                    have H4 := Lib.hid h4
                    clear h4
                    by_cases h5 : cb = 0
                    · have t6 : ((cb : Int) == 0) = true := by simp [h5]
                      have H5 := Lib.hid h5
                      clear h5
                      go_wp2_with fail
                      go_quiet ((go_at_call 29; first | (with_reducible show Calls _ _ #[_, Value.int IntKind.i64 A] _ _; exact Calls.quiet_of_same (Ret.still (rcount_at _ xo n xc nb 0 now (HIN.out.below (bel_drewN (Below.refl _ _) _)) HN9.out A ca HCA))) | (with_reducible show Calls _ _ #[_, Value.int IntKind.i64 B] _ _; exact Calls.quiet_of_same (Ret.still (rcount_at _ xo n xc nb 0 now (HIN.out.below (bel_drewN (Below.refl _ _) _)) HN9.out B cb HCB)))))
                      go_wp2_with fail
                      go_ret2
                      exact LbPost.bad (HBAD.out (.inr (.inr (.inl (HCB.out.trans H5.out))))) (bel_drewN HI5.out.bel _)
                    · have t6 : ((cb : Int) == 0) = false := by simp; omega
                      have H5 := Lib.hid h5
                      clear h5
                      obtain ⟨cs, hcs⟩ : ∃ cs, ca + cb = cs := ⟨_, rfl⟩
                      have s0 : (ca : Int) + (cb : Int) = (cs : Int) := by omega
                      have s1 : IntKind.i64.wrap (cs : Int) = (cs : Int) := IntWalk.i64_in _ (by omega)
                      have HCS : Hid ((ca : Int) + (cb : Int) = (cs : Int)) := s0
                      clear hcs
                      by_cases h6 : (cs : Int) = Z
                      · have t7 : ((cs : Int) != Z) = false := by simp [h6]
                        have HGOOD : Hid (mrunTo n ms (k + 1) = some (relab A B now)) := by
                          show _ = _
                          rw [HST.out]
                          unfold mstep
                          rw [if_neg]
                          rw [mbad_iff (mrunTo_in HRUN.out)]
                          simp only [HCA.out, HCB.out]
                          have := H2.out
                          have := H4.out
                          have := H5.out
                          omega
                        clear h6
                        go_wp2_with fail
                        go_quiet ((go_at_call 29; first | (with_reducible show Calls _ _ #[_, Value.int IntKind.i64 A] _ _; exact Calls.quiet_of_same (Ret.still (rcount_at _ xo n xc nb 0 now (HIN.out.below (bel_drewN (Below.refl _ _) _)) HN9.out A ca HCA))) | (with_reducible show Calls _ _ #[_, Value.int IntKind.i64 B] _ _; exact Calls.quiet_of_same (Ret.still (rcount_at _ xo n xc nb 0 now (HIN.out.below (bel_drewN (Below.refl _ _) _)) HN9.out B cb HCB)))))
                        have HI6 := Lib.hid (HI5.out.below (bel_drewN (Below.refl _ _) nq))
                        generalize World.drewN w5 nq = w6 at *
                        clear q4 HI5 HIN t1 t5 t6 t7 s0 s1 t4
                        go_wp2_with fail
                        obtain ⟨wq3, rfl⟩ : ∃ wq : World, wq = wr := ⟨_, rfl⟩
                        go_loopw [14] (fun s wr => ∃ x : Nat, x ≤ n ∧ s = .int .i64 x ∧ RLI w n ms many (k + 1) (.slice xo n xc) v' (relabTo A B now x) wr) (fun s _ => n - (intOf s).toNat)
                        case atStart => exact ⟨0, Nat.zero_le _, rfl, HI6.out⟩
                        case round =>
                          obtain ⟨x, hx, rfl, hi⟩ := hrel
                          have HIX := Lib.hid hi
                          clear hi HI6
                          by_cases hxn : x < n
                          · have hxl : x < now.length := by rw [HLN.out]; exact hxn
                            obtain ⟨g, gc, hge, _, _, _, hcell, hfr⟩ := owns_form HIX.out.row (by omega)
                            have c1 := hcell x (by omega)
                            rw [List.getElem?_map, relabTo_at _ _ hxl, List.getElem?_eq_getElem hxl] at c1
                            have hgx : now[x] = now.getD x 0 := by rw [List.getD_eq_getElem?_getD, List.getElem?_eq_getElem hxl]; rfl
                            simp only [Option.map_some, hgx] at c1
                            have f1 := hfr x
                            injection hge with hg1 hg2 hg3
                            subst hg1
                            have t8 : (x : Int) < (n : Int) := by omega
                            obtain ⟨y, HYX⟩ : ∃ y, Hid (now.getD x 0 = y) := ⟨_, rfl⟩
                            rw [HYX.out] at c1
                            clear hcell hfr hgx hg2 hg3
                            by_cases hy : y = B
                            · have t9 : (y == B) = true := by simp [hy]
                              have HYY := Lib.hid hy
                              clear hy
                              go_wp2_with fail
                              go_roundw
                              case rel =>
                                refine ⟨x + 1, by omega, by go_num, ?_⟩
                                rw [relabTo_step _ _ hxl, if_pos (HYX.out.trans HYY.out)]
                                exact HIX.out.store x hxn A
                              case measure => simp [intOf]; omega
                            · have t9 : (y == B) = false := by simp [hy]
                              have HYY := Lib.hid hy
                              clear hy
                              go_wp2_with fail
                              go_roundw
                              case rel =>
                                refine ⟨x + 1, by omega, by go_num, ?_⟩
                                rw [relabTo_step _ _ hxl, if_neg (by rw [HYX.out]; exact HYY.out)]
                                exact HIX.out
                              case measure => simp [intOf]; omega
                          · obtain rfl : n = x := by omega
                            have HE : Hid (relabTo A B now n = relab A B now) := by
                              show _ = _
                              have := relabTo_end A B now
                              rw [HLN.out] at this
                              exact this
                            go_wp2_with fail
                            go_roundw
                            case rel => exact ⟨k + 1, by omega, by go_num, _, HGOOD.out, by rw [← HE.out]; exact HIX.out⟩
                            case measure => simp [intOf]; omega
                      · have t7 : ((cs : Int) != Z) = true := by simp [h6]
                        have H6 := Lib.hid h6
                        clear h6
                        go_wp2_with fail
                        go_quiet ((go_at_call 29; first | (with_reducible show Calls _ _ #[_, Value.int IntKind.i64 A] _ _; exact Calls.quiet_of_same (Ret.still (rcount_at _ xo n xc nb 0 now (HIN.out.below (bel_drewN (Below.refl _ _) _)) HN9.out A ca HCA))) | (with_reducible show Calls _ _ #[_, Value.int IntKind.i64 B] _ _; exact Calls.quiet_of_same (Ret.still (rcount_at _ xo n xc nb 0 now (HIN.out.below (bel_drewN (Below.refl _ _) _)) HN9.out B cb HCB)))))
                        go_wp2_with fail
                        go_ret2
                        exact LbPost.bad (HBAD.out (.inr (.inr (.inr (by rw [HCA.out, HCB.out, HCS.out]; exact fun e => H6.out e.symm))))) (bel_drewN HI5.out.bel _)
              · obtain rfl : len = k := by omega
                have t4 : ((len : Int) == (len : Int)) = true := by simp
                by_cases h3 : many < 0
                · have t5 : decide (many < 0) = true := by simp [h3]
                  have HE : Hid (labL n ms many = (3, [])) := labL_rng hn (by rw [HLM.out]; exact HRUN.out) (.inl h3)
                  clear h3
                  go_wp2_with fail
                  go_ret2
                  exact LbPost.bad HE.out HI.out.bel
                · have t5 : decide (many < 0) = false := by simp; omega
                  by_cases h4 : (len : Int) < many
                  · have t6 : decide ((len : Int) < many) = true := by simp [h4]
                    have HE : Hid (labL n ms many = (3, [])) := labL_rng hn (by rw [HLM.out]; exact HRUN.out) (.inr (by rw [HLM.out]; exact h4))
                    clear h3 h4
                    go_wp2_with fail
                    go_ret2
                    exact LbPost.bad HE.out HI.out.bel
                  · have t6 : decide ((len : Int) < many) = false := by simp; omega
                    obtain ⟨c, hc⟩ := Int.eq_ofNat_of_zero_le (show 0 ≤ many by omega)
                    have HC := Lib.hid hc
                    have hcl : c ≤ len := by omega
                    clear h3 h4 hc
                    go_wp2_with fail
                    obtain ⟨nc, hnc, hro⟩ := HI.out.out c HC.out (by omega)
                    have hlnc := mrunTo_length hnc
                    rw [← hlnc] at hro
                    obtain ⟨qo, qc, qb, hqe, hqi, _⟩ := owns_row (z := nc) hro
                    go_ret2
                    have HE : labL n ms many = (0, nc) := by rw [HC.out]; exact labL_ok hn (by rw [HLM.out]; exact HRUN.out) (by rw [HLM.out]; exact hcl) hnc
                    refine ⟨⟨qo, nc.length, qc, qb, ?_, ?_, by omega⟩, HI.out.bel⟩
                    · rw [HE, ← hqe]; rfl
                    · rw [HE]; exact hqi
            · have tk : ((k : Int) == many) = false := by simp; omega
              have HI := Lib.hid (HI0.out.later hmk)
              clear hmk HI0
              by_cases hkl : k < len
              · have t4 : ((k : Int) == (len : Int)) = false := by simp; omega
                obtain rfl := HR.out.adr (by omega)
                have hbw := HBW.out (by omega)
                obtain ⟨m0, m1, m2, m3, m4⟩ := HR.out.cell k hkl
                have p0 := (HI.out.bel.cell (p := ⟨b, off + k * 5, none⟩) hbw).trans m0
                have p1 := (HI.out.bel.cell (p := ⟨b, off + k * 5 + 1, none⟩) hbw).trans m1
                have HST : Hid (mrunTo n ms (k + 1) = mstep n now (ms.getD k mg0)) := by show _ = _; rw [mrunTo, HRUN.out]; rfl
                have hxi := HS.out (ms.getD k mg0) (by rw [List.getD_eq_getElem?_getD, List.getElem?_eq_getElem (by rw [HR.out.size]; exact hkl)]; exact List.getElem_mem _)
                have HP4 := Lib.hid m4
                generalize ms.getD k mg0 = x at p0 p1 hxi HST HP4
                obtain ⟨A, B, N, D, Z⟩ := x
                dsimp only at p0 p1 hxi
                unfold I64 at hxi
                clear m0 m1 m2 m3 m4
                have HBAD : Hid ((B ≤ A ∨ now.count A = 0 ∨ now.count B = 0 ∨ Z ≠ (now.count A : Int) + (now.count B : Int)) → labL n ms many = (2, [])) := fun hb => by
                  have h0 := (mbad_iff (mrunTo_in HRUN.out) ⟨A, B, N, D, Z⟩).2 hb
                  have h1 : mrunTo n ms (k + 1) = none := by rw [HST.out]; unfold mstep; rw [if_pos h0]
                  have := mrunTo_none h1 (len - (k + 1))
                  rw [show k + 1 + (len - (k + 1)) = len by omega] at this
                  exact labL_bad hn (by rw [HLM.out]; exact this)
                have t0 : (k : Int) < (len : Int) := by omega
                go_wp2_with fail
                go_quiet (fail)
                have HI5 := Lib.hid (HI.out.below (bel_drewN (Below.refl _ _) nq))
                generalize World.drewN _ nq = w5 at *
                have q4 : w5.cell? ⟨b, off + k * 5 + 4, none⟩ = some (.int .i64 Z) := (HI5.out.bel.cell (p := ⟨b, off + k * 5 + 4, none⟩) hbw).trans HP4.out
                clear p0 p1 HI
                obtain ⟨xo, xc, nb, hxe, hin, hnb⟩ := owns_row (z := now) (by rw [HLN.out]; exact HI5.out.row)
                have hxe2 : xo = so ∧ xc = sc := by rw [HLN.out] at hxe; injection hxe with h1 h2 h3; exact ⟨h1.symm, h3.symm⟩
                obtain ⟨rfl, rfl⟩ := hxe2
                rw [HLN.out] at hin
                have HIN := Lib.hid hin
                clear hxe hin hnb
                have l1 : now.count A ≤ 128 := Nat.le_trans (List.count_le_length) (by rw [HLN.out]; exact hn)
                have l2 : now.count B ≤ 128 := Nat.le_trans (List.count_le_length) (by rw [HLN.out]; exact hn)
                obtain ⟨ca, HCA⟩ : ∃ ca, Hid (now.count A = ca) := ⟨_, rfl⟩
                obtain ⟨cb, HCB⟩ : ∃ cb, Hid (now.count B = cb) := ⟨_, rfl⟩
                rw [HCA.out] at l1
                rw [HCB.out] at l2
                by_cases h2 : B ≤ A
                · have t1 : decide (B ≤ A) = true := by simp [h2]
                  have H2 := Lib.hid h2
                  clear h2
                  go_wp2_with fail
                  go_quiet ((go_at_call 29; first | (with_reducible show Calls _ _ #[_, Value.int IntKind.i64 A] _ _; exact Calls.quiet_of_same (Ret.still (rcount_at _ xo n xc nb 0 now (HIN.out.below (bel_drewN (Below.refl _ _) _)) HN9.out A ca HCA))) | (with_reducible show Calls _ _ #[_, Value.int IntKind.i64 B] _ _; exact Calls.quiet_of_same (Ret.still (rcount_at _ xo n xc nb 0 now (HIN.out.below (bel_drewN (Below.refl _ _) _)) HN9.out B cb HCB)))))
                  go_wp2_with fail
                  go_ret2
                  exact LbPost.bad (HBAD.out (.inl H2.out)) (bel_drewN HI5.out.bel _)
                · have t1 : decide (B ≤ A) = false := by simp; omega
                  have H2 := Lib.hid h2
                  clear h2
                  by_cases h4 : ca = 0
                  · have t5 : ((ca : Int) == 0) = true := by simp [h4]
                    have H4 := Lib.hid h4
                    clear h4
                    go_wp2_with fail
                    go_quiet ((go_at_call 29; first | (with_reducible show Calls _ _ #[_, Value.int IntKind.i64 A] _ _; exact Calls.quiet_of_same (Ret.still (rcount_at _ xo n xc nb 0 now (HIN.out.below (bel_drewN (Below.refl _ _) _)) HN9.out A ca HCA))) | (with_reducible show Calls _ _ #[_, Value.int IntKind.i64 B] _ _; exact Calls.quiet_of_same (Ret.still (rcount_at _ xo n xc nb 0 now (HIN.out.below (bel_drewN (Below.refl _ _) _)) HN9.out B cb HCB)))))
                    go_wp2_with fail
                    go_ret2
                    exact LbPost.bad (HBAD.out (.inr (.inl (HCA.out.trans H4.out)))) (bel_drewN HI5.out.bel _)
                  · have t5 : ((ca : Int) == 0) = false := by simp; omega
                    have H4 := Lib.hid h4
                    clear h4
                    by_cases h5 : cb = 0
                    · have t6 : ((cb : Int) == 0) = true := by simp [h5]
                      have H5 := Lib.hid h5
                      clear h5
                      go_wp2_with fail
                      go_quiet ((go_at_call 29; first | (with_reducible show Calls _ _ #[_, Value.int IntKind.i64 A] _ _; exact Calls.quiet_of_same (Ret.still (rcount_at _ xo n xc nb 0 now (HIN.out.below (bel_drewN (Below.refl _ _) _)) HN9.out A ca HCA))) | (with_reducible show Calls _ _ #[_, Value.int IntKind.i64 B] _ _; exact Calls.quiet_of_same (Ret.still (rcount_at _ xo n xc nb 0 now (HIN.out.below (bel_drewN (Below.refl _ _) _)) HN9.out B cb HCB)))))
                      go_wp2_with fail
                      go_ret2
                      exact LbPost.bad (HBAD.out (.inr (.inr (.inl (HCB.out.trans H5.out))))) (bel_drewN HI5.out.bel _)
                    · have t6 : ((cb : Int) == 0) = false := by simp; omega
                      have H5 := Lib.hid h5
                      clear h5
                      obtain ⟨cs, hcs⟩ : ∃ cs, ca + cb = cs := ⟨_, rfl⟩
                      have s0 : (ca : Int) + (cb : Int) = (cs : Int) := by omega
                      have s1 : IntKind.i64.wrap (cs : Int) = (cs : Int) := IntWalk.i64_in _ (by omega)
                      have HCS : Hid ((ca : Int) + (cb : Int) = (cs : Int)) := s0
                      clear hcs
                      by_cases h6 : (cs : Int) = Z
                      · have t7 : ((cs : Int) != Z) = false := by simp [h6]
                        have HGOOD : Hid (mrunTo n ms (k + 1) = some (relab A B now)) := by
                          show _ = _
                          rw [HST.out]
                          unfold mstep
                          rw [if_neg]
                          rw [mbad_iff (mrunTo_in HRUN.out)]
                          simp only [HCA.out, HCB.out]
                          have := H2.out
                          have := H4.out
                          have := H5.out
                          omega
                        clear h6
                        go_wp2_with fail
                        go_quiet ((go_at_call 29; first | (with_reducible show Calls _ _ #[_, Value.int IntKind.i64 A] _ _; exact Calls.quiet_of_same (Ret.still (rcount_at _ xo n xc nb 0 now (HIN.out.below (bel_drewN (Below.refl _ _) _)) HN9.out A ca HCA))) | (with_reducible show Calls _ _ #[_, Value.int IntKind.i64 B] _ _; exact Calls.quiet_of_same (Ret.still (rcount_at _ xo n xc nb 0 now (HIN.out.below (bel_drewN (Below.refl _ _) _)) HN9.out B cb HCB)))))
                        have HI6 := Lib.hid (HI5.out.below (bel_drewN (Below.refl _ _) nq))
                        generalize World.drewN w5 nq = w6 at *
                        clear q4 HI5 HIN t1 t5 t6 t7 s0 s1 t4
                        go_wp2_with fail
                        obtain ⟨wq3, rfl⟩ : ∃ wq : World, wq = wr := ⟨_, rfl⟩
                        go_loopw [14] (fun s wr => ∃ x : Nat, x ≤ n ∧ s = .int .i64 x ∧ RLI w n ms many (k + 1) (.slice xo n xc) u9 (relabTo A B now x) wr) (fun s _ => n - (intOf s).toNat)
                        case atStart => exact ⟨0, Nat.zero_le _, rfl, HI6.out⟩
                        case round =>
                          obtain ⟨x, hx, rfl, hi⟩ := hrel
                          have HIX := Lib.hid hi
                          clear hi HI6
                          by_cases hxn : x < n
                          · have hxl : x < now.length := by rw [HLN.out]; exact hxn
                            obtain ⟨g, gc, hge, _, _, _, hcell, hfr⟩ := owns_form HIX.out.row (by omega)
                            have c1 := hcell x (by omega)
                            rw [List.getElem?_map, relabTo_at _ _ hxl, List.getElem?_eq_getElem hxl] at c1
                            have hgx : now[x] = now.getD x 0 := by rw [List.getD_eq_getElem?_getD, List.getElem?_eq_getElem hxl]; rfl
                            simp only [Option.map_some, hgx] at c1
                            have f1 := hfr x
                            injection hge with hg1 hg2 hg3
                            subst hg1
                            have t8 : (x : Int) < (n : Int) := by omega
                            obtain ⟨y, HYX⟩ : ∃ y, Hid (now.getD x 0 = y) := ⟨_, rfl⟩
                            rw [HYX.out] at c1
                            clear hcell hfr hgx hg2 hg3
                            by_cases hy : y = B
                            · have t9 : (y == B) = true := by simp [hy]
                              have HYY := Lib.hid hy
                              clear hy
                              go_wp2_with fail
                              go_roundw
                              case rel =>
                                refine ⟨x + 1, by omega, by go_num, ?_⟩
                                rw [relabTo_step _ _ hxl, if_pos (HYX.out.trans HYY.out)]
                                exact HIX.out.store x hxn A
                              case measure => simp [intOf]; omega
                            · have t9 : (y == B) = false := by simp [hy]
                              have HYY := Lib.hid hy
                              clear hy
                              go_wp2_with fail
                              go_roundw
                              case rel =>
                                refine ⟨x + 1, by omega, by go_num, ?_⟩
                                rw [relabTo_step _ _ hxl, if_neg (by rw [HYX.out]; exact HYY.out)]
                                exact HIX.out
                              case measure => simp [intOf]; omega
                          · obtain rfl : n = x := by omega
                            have HE : Hid (relabTo A B now n = relab A B now) := by
                              show _ = _
                              have := relabTo_end A B now
                              rw [HLN.out] at this
                              exact this
                            go_wp2_with fail
                            go_roundw
                            case rel => exact ⟨k + 1, by omega, by go_num, _, HGOOD.out, by rw [← HE.out]; exact HIX.out⟩
                            case measure => simp [intOf]; omega
                      · have t7 : ((cs : Int) != Z) = true := by simp [h6]
                        have H6 := Lib.hid h6
                        clear h6
                        go_wp2_with fail
                        go_quiet ((go_at_call 29; first | (with_reducible show Calls _ _ #[_, Value.int IntKind.i64 A] _ _; exact Calls.quiet_of_same (Ret.still (rcount_at _ xo n xc nb 0 now (HIN.out.below (bel_drewN (Below.refl _ _) _)) HN9.out A ca HCA))) | (with_reducible show Calls _ _ #[_, Value.int IntKind.i64 B] _ _; exact Calls.quiet_of_same (Ret.still (rcount_at _ xo n xc nb 0 now (HIN.out.below (bel_drewN (Below.refl _ _) _)) HN9.out B cb HCB)))))
                        go_wp2_with fail
                        go_ret2
                        exact LbPost.bad (HBAD.out (.inr (.inr (.inr (by rw [HCA.out, HCB.out, HCS.out]; exact fun e => H6.out e.symm))))) (bel_drewN HI5.out.bel _)
              · obtain rfl : len = k := by omega
                have t4 : ((len : Int) == (len : Int)) = true := by simp
                by_cases h3 : many < 0
                · have t5 : decide (many < 0) = true := by simp [h3]
                  have HE : Hid (labL n ms many = (3, [])) := labL_rng hn (by rw [HLM.out]; exact HRUN.out) (.inl h3)
                  clear h3
                  go_wp2_with fail
                  go_ret2
                  exact LbPost.bad HE.out HI.out.bel
                · have t5 : decide (many < 0) = false := by simp; omega
                  by_cases h4 : (len : Int) < many
                  · have t6 : decide ((len : Int) < many) = true := by simp [h4]
                    have HE : Hid (labL n ms many = (3, [])) := labL_rng hn (by rw [HLM.out]; exact HRUN.out) (.inr (by rw [HLM.out]; exact h4))
                    clear h3 h4
                    go_wp2_with fail
                    go_ret2
                    exact LbPost.bad HE.out HI.out.bel
                  · have t6 : decide ((len : Int) < many) = false := by simp; omega
                    obtain ⟨c, hc⟩ := Int.eq_ofNat_of_zero_le (show 0 ≤ many by omega)
                    have HC := Lib.hid hc
                    have hcl : c ≤ len := by omega
                    clear h3 h4 hc
                    go_wp2_with fail
                    obtain ⟨nc, hnc, hro⟩ := HI.out.out c HC.out (by omega)
                    have hlnc := mrunTo_length hnc
                    rw [← hlnc] at hro
                    obtain ⟨qo, qc, qb, hqe, hqi, _⟩ := owns_row (z := nc) hro
                    go_ret2
                    have HE : labL n ms many = (0, nc) := by rw [HC.out]; exact labL_ok hn (by rw [HLM.out]; exact HRUN.out) (by rw [HLM.out]; exact hcl) hnc
                    refine ⟨⟨qo, nc.length, qc, qb, ?_, ?_, by omega⟩, HI.out.bel⟩
                    · rw [HE, ← hqe]; rfl
                    · rw [HE]; exact hqi

end Go.Proofs.Ythhddjknjnjbhaa
