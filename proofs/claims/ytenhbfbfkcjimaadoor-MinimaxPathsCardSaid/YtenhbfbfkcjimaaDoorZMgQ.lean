/- Several texts in one: RwO, RwP, RwQ. -/
import Derived.Test.YtenhbfbfkcjimaaDoorZRwG
import Derived.Test.YtenhbfbfkcjimaaDoorZMgP
import Derived.Test.YtenhbfbfkcjimaaDoorZMgL
/- The reference of layer 13: Dist. -/
namespace Go.Proofs.YtenhbfbfkcjimaaDoor
set_option linter.unusedVariables false
set_option linter.unusedSimpArgs false
open Go.RowKit

theorem intV_setD (d : List Int) (i : Nat) (x : Int) : (intV d).set i (.int .i64 x) = intV (d.set i x) := by unfold intV; rw [List.map_set]
theorem intV_getD {d : List Int} {i : Nat} (hi : i < d.length) : (intV d)[i]? = some (.int .i64 (gi d i)) := by
  unfold intV gi
  rw [List.getElem?_map, List.getD_eq_getElem?_getD, List.getElem?_eq_getElem hi]; rfl
theorem ownI {w : World} {T : TypeId} {g n cap : Nat} {d : List Int} (h : w.ownsRow 0 T 1 (.slice (some ⟨g, 0, none⟩) n cap) n (intV d)) (hl : d.length = n) {i : Nat} (hi : i < n) :
    w.cell? ⟨g, i, none⟩ = some (.int .i64 (gi d i)) ∧ w.frozen? ⟨g, i, none⟩ = false := by
  obtain ⟨g', cap', e, _, _, _, hc, hf⟩ := owns_form h (by omega)
  injection e with e
  injection e with e
  injection e with e
  subst e
  exact ⟨by rw [hc i (by omega), intV_getD (by omega)], hf i⟩
theorem ownI_set {w : World} {T : TypeId} {g n cap : Nat} {d : List Int} (h : w.ownsRow 0 T 1 (.slice (some ⟨g, 0, none⟩) n cap) n (intV d)) {i : Nat} (hi : i < n) (x : Int) :
    (w.setCell ⟨g, i, none⟩ (.int .i64 x)).ownsRow 0 T 1 (.slice (some ⟨g, 0, none⟩) n cap) n (intV (d.set i x)) := by
  have := owns_set h i (by omega) (.int .i64 x)
  rw [intV_setD] at this
  exact this
theorem intV_rep (i : Nat) : intV (List.replicate (i + 1) (-1)) = intV (List.replicate i (-1)) ++ [.int .i64 (-1)] := by
  unfold intV
  rw [List.replicate_succ', List.map_append]; rfl

/-- What an append of any cells leaves. -/
theorem app_any {B : Nat} {wr w6 : World} {T : TypeId} {o : Obj} {size : Nat} {v v6 : Value} {n : Nat} {xs : List Value} (hv : ∀ k, v.ownBlock = some k → B ≤ k) (hB : B ≤ wr.heap.size) (ho : w6.ownsRow 0 T size v6 (n + 1) xs) (hg : (wr.alloc o).grownBy w6 v.ownBlock)
    (hn : ∀ k, v6.ownBlock = some k → v.ownBlock = some k ∨ (wr.alloc o).heap.size ≤ k) : w6.ownsRow 0 T size v6 (n + 1) xs ∧ (∀ k, v6.ownBlock = some k → B ≤ k) ∧ Below B wr w6 := by
  refine ⟨ho, fun k hk => ?_, ((Below.refl _ _).alloc hB o).trans (grown_below hg hv (by simp; omega))⟩
  rcases hn k hk with e | e
  · exact hv k e
  · simp at e; omega

structure DsPost (w : World) (n : Nat) (l : List Ed) (v : Nat) (e : Ending) (w' : World) : Prop where
  out : ∃ g c d, e = .returned (.slice (some ⟨g, 0, none⟩) n c) ∧ DsF n l v d ∧ w'.ownsRow 0 3 1 (.slice (some ⟨g, 0, none⟩) n c) n (intV d) ∧ w.heap.size ≤ g
  bel : Below w.heap.size w w'

/-- What the loops of Dist hold. -/
structure DsG (w wr : World) (n : Nat) (l : List Ed) (v g c r i : Nat) (d : List Int) : Prop where
  own : wr.ownsRow 0 3 1 (.slice (some ⟨g, 0, none⟩) n c) n (intV d)
  ds : DsI n l v r i d
  new : w.heap.size ≤ g
  bel : Below w.heap.size w wr
theorem DsG.drewN {w wr : World} {n : Nat} {l : List Ed} {v g c r i : Nat} {d : List Int} (h : DsG w wr n l v g c r i d) (q : Nat) : DsG w (wr.drewN q) n l v g c r i d := ⟨owns_drewN h.own q, h.ds, h.new, bel_drewN h.bel q⟩
theorem DsG.set {w wr : World} {n : Nat} {l : List Ed} (hg : GOk n l) {v g c r i : Nat} {d : List Int} (h : DsG w wr n l v g c r i d) (hi : i < l.length) {x y : Nat} (ha : Arm l i x y) (e1 : gi d x = (r : Int)) (e2 : gi d y = -1) :
    DsG w (wr.setCell ⟨g, y, none⟩ (.int .i64 ((r : Int) + 1))) n l v g c r (i + 1) (d.set y ((r : Int) + 1)) :=
  ⟨ownI_set h.own (ha.ne hg hi).2.1 _, h.ds.set hg hi ha e1 e2, h.new, h.bel.setCell h.new _⟩

set_option maxHeartbeats 32000000 in
set_option maxRecDepth 100000 in
theorem rdist_ok (w : World) (g n : Nat) (l : List Ed) (h : RGObj w g n l) (hg : GOk n l) (v : Nat) (hv : v < n) : Calls Tryd.prog 39 #[.pointer (some ⟨g, 0, none⟩), .int .i64 v] w (DsPost w n l v) := by
  have HGO := Lib.hid h
  obtain ⟨ao, cap, b, hb, hr, _⟩ := h.ex
  have HB := Lib.hid hb
  have HR := Lib.hid hr
  have HG := Lib.hid hg
  have hn4 := hg.hn
  have hl4 := hg.hl
  have HIN : Hid (inB (v : Int) n = true) := by show _ = _; unfold inB; simp; omega
  clear h hb hr hg
  go_enter Tryd.func39, Tryd.ntmps39
  go_wp2_with fail
  with_reducible refine (rghas_ok w g n l HGO.out v).mono ?_
  rintro e w1 ⟨rfl, rfl⟩
  rw [HIN.out]
  go_wp2_with fail
  go_loopw [5, 6] (fun x s wr => ∃ i : Nat, i ≤ n ∧ s = .int .i64 i ∧ wr.ownsRow 0 3 1 x i (intV (List.replicate i (-1))) ∧ (∀ y, x.ownBlock = some y → w.heap.size ≤ y) ∧ Below w.heap.size w wr) (fun _ s _ => n - (intOf s).toNat)
  case atStart => exact ⟨0, Nat.zero_le _, rfl, World.ownsRow_nil _ _ _ _, fun y hy => (by cases hy), Below.refl _ _⟩
  case round =>
    obtain ⟨i, hi, rfl, hx, hxn, hbl⟩ := hrel
    have HX := Lib.hid hx
    have HXN := Lib.hid hxn
    have HBL := Lib.hid hbl
    have HBB := Lib.hid (HB.out.below hbl HB.out.lt)
    have x1 := HBB.out.cell (i := 1) rfl
    clear hx hxn hbl
    by_cases hin : i < n
    · have t1 : (i : Int) < (n : Int) := by omega
      have HOW := Lib.hid (HX.out.alloc (.cells #[.int .i64 (-1)] 3))
      have HNW := Lib.hid (news_new wr 3 [.int .i64 (-1)])
      go_wp2_with (at_builtin; apply keepIt)
      apply Lib.hid
      refine wpList_appendB 3 (.int .i64 0) 1 8 Tryd.underlying35 Tryd.infoInt rfl (by decide) _ i _ rfl HOW.out ⟨wr.heap.size, 0, none⟩ 1 1 [.int .i64 (-1)] rfl rfl HNW.out (by simp [Value.oneCell']) (by unfold maxLen; omega) (by omega) ?_
      intro v6 w6 ho6 hg6 hn6
      rw [← intV_rep] at ho6
      obtain ⟨hv6, hvn6, hb6⟩ := app_any HXN.out HBL.out.size ho6 hg6 hn6
      have HB6 := Lib.hid (HBL.out.trans hb6)
      have HV6 := Lib.hid hv6
      have HN6 := Lib.hid hvn6
      clear ho6 hg6 hn6 hv6 hvn6 hb6
      go_wp2_with fail
      go_roundw
      case rel => exact ⟨i + 1, by omega, by go_num, HV6.out, HN6.out, HB6.out⟩
      case measure => simp [intOf]; omega
    · obtain rfl : i = n := by omega
      obtain ⟨gb, gc, rfl, hq⟩ := owns_form HX.out (show 0 < i by omega)
      clear hq
      have hgn : w.heap.size ≤ gb := HXN.out gb rfl
      have HG0 : Hid (DsG w (wr.setCell ⟨gb, v, none⟩ (.int .i64 0)) i l v gb gc 0 0 ((List.replicate i (-1)).set v 0)) :=
        ⟨ownI_set HX.out hv 0, DsI.start hv, hgn, HBL.out.setCell hgn _⟩
      obtain ⟨x0, fz⟩ := ownI HX.out (by rw [List.length_replicate]) hv
      have t1 : (v : Int) < (i : Int) := by omega
      have t2 : (0 : Int) ≤ (v : Int) := by omega
      clear HX HXN HBB
      go_wp2_with fail
      generalize wr.setCell ⟨gb, v, none⟩ (.int .i64 0) = w0 at *
      clear fz x0 t1 t2 HBL hgn x1
      go_loopw [7] (fun s7 w6 => ∃ (r : Nat) (d : List Int), r ≤ i ∧ s7 = .int .i64 r ∧ DsG w w6 i l v gb gc r 0 d) (fun s w6 => i - (intOf s).toNat)
      case atStart => exact ⟨0, _, Nat.zero_le _, rfl, HG0.out⟩
      case round =>
        obtain ⟨r, d0, hr, rfl, hds⟩ := hrel
        have HDS := Lib.hid hds
        have HBB := Lib.hid (HB.out.below hds.bel HB.out.lt)
        have x1 := HBB.out.cell (i := 1) rfl
        clear hds HG0
        by_cases hri : r < i
        · have t1 : (r : Int) < (i : Int) := by omega
          have s1 : IntKind.i64.wrap ((r : Int) + 1) = (r : Int) + 1 := IntWalk.i64_in _ (by omega)
          go_wp2_with fail
          clear x1 HBB
          obtain ⟨m, hm⟩ : ∃ m, l.length = m := ⟨_, rfl⟩
          rw [hm] at hl4
          go_loopw [8] (fun s8 w6 => ∃ (t : Nat) (d : List Int), t ≤ m ∧ s8 = .int .i64 t ∧ DsG w w6 i l v gb gc r t d) (fun s _ => m - (intOf s).toNat)
          case atStart => exact ⟨0, d0, Nat.zero_le _, rfl, HDS.out⟩
          case round =>
            obtain ⟨t, d, ht, rfl, hds⟩ := hrel
            have HD := Lib.hid hds
            have HBB := Lib.hid (HB.out.below hds.bel HB.out.lt)
            have HRR := Lib.hid (HR.out.below hds.bel)
            have x2 := HBB.out.cell (i := 2) rfl
            rw [hm] at x2
            clear hds HDS
            by_cases htm : t < m
            · have htl : t < l.length := by rw [hm]; exact htm
              obtain ⟨d0, d1, d2⟩ := HRR.out.cell t htl
              rw [Nat.zero_add] at d0 d1 d2
              obtain ⟨hu, hv', huv, eU, eV⟩ := HG.out.uv htl
              rw [eU] at d0
              rw [eV] at d1
              obtain rfl := HRR.out.adr (by omega)
              have ha : Arm l t (uN l t) (vN l t) := .inl ⟨rfl, rfl⟩
              have HQ : Hid (∀ W d' k, DsG w W i l v gb gc r k d' → W.cell? ⟨gb, uN l t, none⟩ = some (.int .i64 (gi d' (uN l t))) ∧ W.frozen? ⟨gb, uN l t, none⟩ = false ∧ W.cell? ⟨gb, vN l t, none⟩ = some (.int .i64 (gi d' (vN l t))) ∧ W.frozen? ⟨gb, vN l t, none⟩ = false) := fun W d' k h =>
                ⟨(ownI h.own h.ds.len hu).1, (ownI h.own h.ds.len hu).2, (ownI h.own h.ds.len hv').1, (ownI h.own h.ds.len hv').2⟩
              have HSV : Hid (gi d (uN l t) = (r : Int) → gi d (vN l t) = -1 → ∀ W, DsG w W i l v gb gc r t d → DsG w (W.setCell ⟨gb, vN l t, none⟩ (.int .i64 ((r : Int) + 1))) i l v gb gc r (t + 1) (d.set (vN l t) ((r : Int) + 1)) ∧ gi (d.set (vN l t) ((r : Int) + 1)) (vN l t) = (r : Int) + 1) := fun e1 e2 W h =>
                ⟨h.set HG.out htl ha e1 e2, gi_set_self (by rw [h.ds.len]; exact hv')⟩
              have HSU : Hid (gi d (vN l t) = (r : Int) → gi d (uN l t) = -1 → ∀ W, DsG w W i l v gb gc r t d → DsG w (W.setCell ⟨gb, uN l t, none⟩ (.int .i64 ((r : Int) + 1))) i l v gb gc r (t + 1) (d.set (uN l t) ((r : Int) + 1))) := fun e1 e2 W h =>
                h.set HG.out htl ha.symm e1 e2
              have HSE : Hid ((gi d (uN l t) = (r : Int) → gi d (vN l t) ≠ -1) → (gi d (vN l t) = (r : Int) → gi d (uN l t) ≠ -1) → ∀ W, DsG w W i l v gb gc r t d → DsG w W i l v gb gc r (t + 1) d) := fun c1 c2 W h =>
                ⟨h.own, h.ds.skip HG.out htl c1 c2, h.new, h.bel⟩
              clear eU eV ha
              generalize uN l t = u at *
              generalize vN l t = z at *
              generalize (EA l t).W = we at *
              obtain ⟨A, hA⟩ : ∃ q, gi d u = q := ⟨_, rfl⟩
              obtain ⟨C, hC⟩ : ∃ q, gi d z = q := ⟨_, rfl⟩
              rw [hA, hC] at HSV HSU HSE
              have HA := Lib.hid hA
              have HC := Lib.hid hC
              clear hA hC
              have t1 : (t : Int) < (m : Int) := by omega
              have t0 : (0 : Int) ≤ (t : Int) := by omega
              have t2 : (u : Int) < (i : Int) := by omega
              have t3 : (z : Int) < (i : Int) := by omega
              have t4 : (0 : Int) ≤ (u : Int) := by omega
              have t5 : (0 : Int) ≤ (z : Int) := by omega
              go_wp2_with fail
              go_quiet (fail)
              have HD7 := Lib.hid (HD.out.drewN nq)
              generalize wr.drewN nq = w7 at HD7 ⊢
              clear HD d0 d1 d2 x2 HBB HRR
              obtain ⟨q0, f0, q1, f1⟩ := HQ.out _ _ _ HD7.out
              rw [HA.out] at q0
              rw [HC.out] at q1
              by_cases c1 : A = (r : Int) ∧ C = -1
              · obtain ⟨rfl, rfl⟩ := c1
                obtain ⟨hd9, e2⟩ := HSV.out rfl rfl _ HD7.out
                have HD9 := Lib.hid hd9
                obtain ⟨r0, g0, r1, g1⟩ := HQ.out _ _ _ hd9
                rw [e2] at r1
                clear hd9 e2 HSU HSE
                have u1 : ((r : Int) == (r : Int)) = true := by simp
                have u2 : ((r : Int) + 1 == (r : Int)) = false := by rw [beq_eq_false_iff_ne]; omega
                go_wp2_with fail
                generalize w7.setCell ⟨gb, z, none⟩ (.int .i64 ((r : Int) + 1)) = w8 at *
                go_wp2_with fail
                go_roundw
                case rel => exact ⟨t + 1, _, by omega, by go_num, HD9.out⟩
                case measure => simp [intOf]; omega
              · by_cases c2 : C = (r : Int) ∧ A = -1
                · obtain ⟨rfl, rfl⟩ := c2
                  have HD9 := Lib.hid (HSU.out rfl rfl _ HD7.out)
                  clear HSV HSE c1
                  have u1 : ((r : Int) == (r : Int)) = true := by simp
                  have u2 : ((-1 : Int) == (r : Int)) = false := by rw [beq_eq_false_iff_ne]; omega
                  go_wp2_with fail
                  go_roundw
                  case rel => exact ⟨t + 1, _, by omega, by go_num, HD9.out⟩
                  case measure => simp [intOf]; omega
                · have HD9 := Lib.hid (HSE.out (fun e1 e2 => c1 ⟨e1, e2⟩) (fun e1 e2 => c2 ⟨e1, e2⟩) _ HD7.out)
                  clear HSV HSU HSE
                  by_cases a1 : A = (r : Int)
                  · have a2 : C ≠ -1 := fun e => c1 ⟨a1, e⟩
                    have u1 : (A == (r : Int)) = true := by simp [a1]
                    have u2 : (C == (-1 : Int)) = false := by simp [a2]
                    have u3 : (A == (-1 : Int)) = false := by simp; omega
                    clear a1 a2 c1 c2
                    cases u4 : (C == (r : Int)) with
                    | true =>
                      go_wp2_with fail
                      go_roundw
                      case rel => exact ⟨t + 1, _, by omega, by go_num, HD9.out⟩
                      case measure => simp [intOf]; omega
                    | false =>
                      go_wp2_with fail
                      go_roundw
                      case rel => exact ⟨t + 1, _, by omega, by go_num, HD9.out⟩
                      case measure => simp [intOf]; omega
                  · have u1 : (A == (r : Int)) = false := by simp [a1]
                    by_cases a3 : C = (r : Int)
                    · have a4 : A ≠ -1 := fun e => c2 ⟨a3, e⟩
                      have u2 : (C == (r : Int)) = true := by simp [a3]
                      have u3 : (A == (-1 : Int)) = false := by simp [a4]
                      clear a1 a3 a4 c1 c2
                      go_wp2_with fail
                      go_roundw
                      case rel => exact ⟨t + 1, _, by omega, by go_num, HD9.out⟩
                      case measure => simp [intOf]; omega
                    · have u2 : (C == (r : Int)) = false := by simp [a3]
                      clear a1 a3 c1 c2
                      go_wp2_with fail
                      go_roundw
                      case rel => exact ⟨t + 1, _, by omega, by go_num, HD9.out⟩
                      case measure => simp [intOf]; omega
            · obtain rfl : t = m := by omega
              have HNX : Hid (DsG w wr i l v gb gc (r + 1) 0 d) := ⟨HD.out.own, by have := HD.out.ds; rw [← hm] at this; exact this.next HG.out, HD.out.new, HD.out.bel⟩
              go_wp2_with fail
              go_roundw
              case rel => exact ⟨r + 1, d, by omega, by go_num, HNX.out⟩
              case measure => simp [intOf]; omega
        · obtain rfl : r = i := by omega
          go_wp2_with fail
          go_ret
          exact ⟨⟨gb, gc, d0, rfl, HDS.out.ds.fin HG.out, HDS.out.own, HDS.out.new⟩, HDS.out.bel⟩

end Go.Proofs.YtenhbfbfkcjimaaDoor

/- The reference of layer 13: Around. -/
namespace Go.Proofs.YtenhbfbfkcjimaaDoor
set_option linter.unusedVariables false
set_option linter.unusedSimpArgs false
open Go.RowKit

def prV (L : List (Nat × Nat)) : List Value := L.flatMap fun p => [.int .i64 (p.1 : Int), .int .i64 (p.2 : Int)]
theorem prV_len (L : List (Nat × Nat)) : (prV L).length = L.length * 2 := by
  unfold prV
  induction L with
  | nil => rfl
  | cons p L ih => rw [List.flatMap_cons, List.length_append, ih, List.length_cons]; simp; omega
theorem prV_snoc (L : List (Nat × Nat)) (a b : Nat) : prV (L ++ [(a, b)]) = prV L ++ [.int .i64 (a : Int), .int .i64 (b : Int)] := by
  unfold prV
  rw [List.flatMap_append]; rfl
theorem prV_at : ∀ (L : List (Nat × Nat)) (i : Nat), i < L.length → (prV L)[i * 2]? = some (.int .i64 (((L.getD i (0, 0)).1 : Nat) : Int)) ∧ (prV L)[i * 2 + 1]? = some (.int .i64 (((L.getD i (0, 0)).2 : Nat) : Int))
  | p :: L, 0, _ => ⟨rfl, rfl⟩
  | p :: L, i + 1, h => by
    have ih := prV_at L i (by simpa using h)
    have e1 : prV (p :: L) = .int .i64 (p.1 : Int) :: .int .i64 (p.2 : Int) :: prV L := rfl
    rw [e1, show (i + 1) * 2 = i * 2 + 1 + 1 by omega]
    exact ih

structure ArPost (w : World) (L : List (Nat × Nat)) (e : Ending) (w' : World) : Prop where
  out : ∃ v, e = .returned v ∧ w'.ownsRow 0 88 2 v L.length (prV L) ∧ ∀ y, v.ownBlock = some y → w.heap.size ≤ y
  bel : Below w.heap.size w w'

set_option maxHeartbeats 32000000 in
set_option maxRecDepth 100000 in
theorem raround_ok (w : World) (g n : Nat) (l : List Ed) (h : RGObj w g n l) (hg : GOk n l) (v : Nat) (hv : v < n) : Calls Tryd.prog 40 #[.pointer (some ⟨g, 0, none⟩), .int .i64 v] w (ArPost w (arR l v l.length)) := by
  have HGO := Lib.hid h
  obtain ⟨ao, cap, b, hb, hr, _⟩ := h.ex
  have HB := Lib.hid hb
  have HR := Lib.hid hr
  have HG := Lib.hid hg
  have hl4 := hg.hl
  have HIN : Hid (inB (v : Int) n = true) := by show _ = _; unfold inB; simp; omega
  clear h hb hr hg
  go_enter Tryd.func40, Tryd.ntmps40
  go_wp2_with fail
  with_reducible refine (rghas_ok w g n l HGO.out v).mono ?_
  rintro e w1 ⟨rfl, rfl⟩
  rw [HIN.out]
  go_wp2_with fail
  obtain ⟨m, hm⟩ : ∃ m, l.length = m := ⟨_, rfl⟩
  rw [hm] at hl4
  rw [hm]
  go_loopw [5, 6] (fun x s wr => ∃ i : Nat, i ≤ m ∧ s = .int .i64 i ∧ wr.ownsRow 0 88 2 x (arR l v i).length (prV (arR l v i)) ∧ (∀ y, x.ownBlock = some y → w.heap.size ≤ y) ∧ Below w.heap.size w wr) (fun _ s _ => m - (intOf s).toNat)
  case atStart => exact ⟨0, Nat.zero_le _, rfl, World.ownsRow_nil _ _ _ _, fun y hy => (by cases hy), Below.refl _ _⟩
  case round =>
    obtain ⟨i, hi, rfl, hx, hxn, hbl⟩ := hrel
    have HX := Lib.hid hx
    have HXN := Lib.hid hxn
    have HBL := Lib.hid hbl
    have HBB := Lib.hid (HB.out.below hbl HB.out.lt)
    have HRR := Lib.hid (HR.out.below hbl)
    have x2 := HBB.out.cell (i := 2) rfl
    rw [hm] at x2
    clear hx hxn hbl
    by_cases him : i < m
    · have hil : i < l.length := by rw [hm]; exact him
      obtain ⟨d0, d1, d2⟩ := HRR.out.cell i hil
      rw [Nat.zero_add] at d0 d1 d2
      obtain ⟨hu, hz, huv, eU, eV⟩ := HG.out.uv hil
      rw [eU] at d0
      rw [eV] at d1
      obtain rfl := HRR.out.adr (by omega)
      have hle := arR_len l v i
      have HBLT : Hid (b < w.heap.size) := HR.out.lt (by rw [hm]; omega)
      have HSU : Hid (arR l v (i + 1) = arR l v i ++ arOne l v i) := rfl
      obtain ⟨L2, hL2⟩ : ∃ L2, arR l v (i + 1) = L2 := ⟨_, rfl⟩
      rw [hL2] at HSU
      have HLE := Lib.hid hL2
      clear hL2
      have HON : Hid (arOne l v i = (if uN l i = v then [(i, vN l i)] else []) ++ (if vN l i = v then [(i, uN l i)] else [])) := rfl
      clear eU eV hil
      generalize uN l i = u at *
      generalize vN l i = z at *
      generalize (EA l i).W = we at *
      generalize arOne l v i = L1 at *
      generalize arR l v i = L at *
      have t1 : (i : Int) < (m : Int) := by omega
      have t2 : (0 : Int) ≤ (i : Int) := by omega
      obtain ⟨k, hk⟩ : ∃ k, L.length = k := ⟨_, rfl⟩
      rw [hk] at HX hle
      obtain ⟨xa, xc, rfl⟩ := owns_slice HX.out
      have HK := Lib.hid hk
      clear hk
      by_cases c1 : u = v
      · have u1 : ((u : Int) == (v : Int)) = true := by simp [c1]
        have u2 : ((z : Int) == (v : Int)) = false := by simp; omega
        have HL2 : Hid (L2 = L ++ [(i, z)]) := by
          show _ = _
          rw [HSU.out, HON.out, if_pos c1, if_neg (by omega), List.append_nil]
        clear c1 huv HSU HON
        have HOW := Lib.hid (HX.out.alloc (.cells #[.int .i64 i, .int .i64 z] 88))
        have HNW := Lib.hid (news_new wr 88 [.int .i64 i, .int .i64 z])
        go_wp2_with (at_builtin; apply keepIt)
        apply Lib.hid
        refine wpList_appendB 88 (.agg #[.int .i64 0, .int .i64 0]) 2 16 Tryd.underlying86 Tryd.infoPair rfl (by decide) _ k _ rfl HOW.out ⟨wr.heap.size, 0, none⟩ 1 1 [.int .i64 i, .int .i64 z] rfl rfl HNW.out (by simp [Value.oneCell']) (by unfold maxLen; omega) (by omega) ?_
        intro v6 w6 ho6 hg6 hn6
        rw [← prV_snoc, ← HL2.out] at ho6
        obtain ⟨hv6, hvn6, hb6⟩ := app_any HXN.out HBL.out.size ho6 hg6 hn6
        have x2 := (hb6.cell (p := ⟨g, 2, none⟩) HB.out.lt).trans x2
        have d1 := (hb6.cell (p := ⟨b, i * 3 + 1, none⟩) HBLT.out).trans d1
        have HB6 := Lib.hid (HBL.out.trans hb6)
        have HV6 := Lib.hid hv6
        have HN6 := Lib.hid hvn6
        have HLN : Hid (L2.length = k + 1) := by show _ = _; rw [HL2.out, List.length_append, HK.out]; rfl
        clear ho6 hg6 hn6 hv6 hvn6 hb6 HOW HNW HX HXN HBL
        go_wp2_with fail
        go_roundw
        case rel => exact ⟨i + 1, by omega, by go_num, by rw [HLE.out, HLN.out]; exact HV6.out, HN6.out, HB6.out⟩
        case measure => simp [intOf]; omega
      · have u1 : ((u : Int) == (v : Int)) = false := by simp; omega
        by_cases c2 : z = v
        · have u2 : ((z : Int) == (v : Int)) = true := by simp [c2]
          have HL2 : Hid (L2 = L ++ [(i, u)]) := by
            show _ = _
            rw [HSU.out, HON.out, if_neg c1, if_pos c2, List.nil_append]
          clear c1 c2 huv HSU HON
          have HOW := Lib.hid (HX.out.alloc (.cells #[.int .i64 i, .int .i64 u] 88))
          have HNW := Lib.hid (news_new wr 88 [.int .i64 i, .int .i64 u])
          go_wp2_with (at_builtin; apply keepIt)
          apply Lib.hid
          refine wpList_appendB 88 (.agg #[.int .i64 0, .int .i64 0]) 2 16 Tryd.underlying86 Tryd.infoPair rfl (by decide) _ k _ rfl HOW.out ⟨wr.heap.size, 0, none⟩ 1 1 [.int .i64 i, .int .i64 u] rfl rfl HNW.out (by simp [Value.oneCell']) (by unfold maxLen; omega) (by omega) ?_
          intro v6 w6 ho6 hg6 hn6
          rw [← prV_snoc, ← HL2.out] at ho6
          obtain ⟨hv6, hvn6, hb6⟩ := app_any HXN.out HBL.out.size ho6 hg6 hn6
          have x2 := (hb6.cell (p := ⟨g, 2, none⟩) HB.out.lt).trans x2
          have d0 := (hb6.cell (p := ⟨b, i * 3, none⟩) HBLT.out).trans d0
          have HB6 := Lib.hid (HBL.out.trans hb6)
          have HV6 := Lib.hid hv6
          have HN6 := Lib.hid hvn6
          have HLN : Hid (L2.length = k + 1) := by show _ = _; rw [HL2.out, List.length_append, HK.out]; rfl
          clear ho6 hg6 hn6 hv6 hvn6 hb6 HOW HNW HX HXN HBL
          go_wp2_with fail
          go_roundw
          case rel => exact ⟨i + 1, by omega, by go_num, by rw [HLE.out, HLN.out]; exact HV6.out, HN6.out, HB6.out⟩
          case measure => simp [intOf]; omega
        · have u2 : ((z : Int) == (v : Int)) = false := by simp; omega
          have HL2 : Hid (L2 = L) := by
            show _ = _
            rw [HSU.out, HON.out, if_neg c1, if_neg c2]; simp
          clear c1 c2 huv HSU HON
          go_wp2_with fail
          go_roundw
          case rel => exact ⟨i + 1, by omega, by go_num, by rw [HLE.out, HL2.out, HK.out]; exact HX.out, HXN.out, HBL.out⟩
          case measure => simp [intOf]; omega
    · obtain rfl : i = m := by omega
      go_wp2_with fail
      go_ret
      refine ⟨⟨_, rfl, ?_, HXN.out⟩, HBL.out⟩
      rw [hm]
      exact HX.out

end Go.Proofs.YtenhbfbfkcjimaaDoor

/- The reference of layer 20: Path. -/
namespace Go.Proofs.YtenhbfbfkcjimaaDoor
set_option linter.unusedVariables false
set_option linter.unusedSimpArgs false
open Go.RowKit

/-- The one fitting element of a list, found or not among the first i. -/
def NF {α : Type} (L : List α) (p : α → Bool) (a0 : α) (i : Nat) (b : Bool) : Prop := (L.take i).filter p = if b then [a0] else []
theorem NF.start {α : Type} (L : List α) (p : α → Bool) (a0 : α) : NF L p a0 0 false := by unfold NF; simp
theorem NF.pre {α : Type} {L : List α} {p : α → Bool} {a0 : α} (h : L.filter p = [a0]) (i : Nat) : ∃ r, (L.take i).filter p ++ r = [a0] := by
  refine ⟨(L.drop i).filter p, ?_⟩
  rw [← List.filter_append, List.take_append_drop]
  exact h
theorem NF.succ {α : Type} {L : List α} {p : α → Bool} {i : Nat} (hi : i < L.length) : (L.take (i + 1)).filter p = (L.take i).filter p ++ (if p L[i] then [L[i]] else []) := by
  rw [List.take_succ_eq_append_getElem hi, List.filter_append]
  congr 1
  cases h : p L[i] <;> simp [h]
theorem NF.skip {α : Type} {L : List α} {p : α → Bool} {a0 : α} {i : Nat} {b : Bool} (h : NF L p a0 i b) (hi : i < L.length) (hp : p L[i] = false) : NF L p a0 (i + 1) b := by
  unfold NF at h ⊢
  rw [NF.succ hi, hp, h]
  simp
theorem NF.hit {α : Type} {L : List α} {p : α → Bool} {a0 : α} (h0 : L.filter p = [a0]) {i : Nat} {b : Bool} (h : NF L p a0 i b) (hi : i < L.length) (hp : p L[i] = true) : b = false ∧ L[i] = a0 ∧ NF L p a0 (i + 1) true := by
  unfold NF at h
  have hs := NF.succ (p := p) hi
  rw [hp, if_pos rfl, h] at hs
  obtain ⟨r, hr⟩ := NF.pre h0 (i + 1)
  rw [hs] at hr
  cases b with
  | true =>
    simp at hr
  | false =>
    simp only [Bool.false_eq_true, if_false, List.nil_append, List.singleton_append, List.cons.injEq] at hr
    refine ⟨rfl, hr.1, ?_⟩
    unfold NF
    rw [hs, hr.1]
    simp
theorem NF.fin {α : Type} {L : List α} {p : α → Bool} {a0 : α} (h0 : L.filter p = [a0]) {b : Bool} (h : NF L p a0 L.length b) : b = true := by
  unfold NF at h
  rw [List.take_length, h0] at h
  cases b with
  | true => rfl
  | false => simp at h

/-- On the way: at x, o is done, p is left. -/
structure PaW (n : Nat) (l : List Ed) (v : Nat) (p0 : List Nat) (x : Nat) (o p : List Nat) : Prop where
  lt : x < n
  path : PathTo n l v x p
  all : o ++ p = p0
  sh : Sh (AllR (pickE l (forL n l))) v p.length x

theorem forL_pick {n : Nat} {l : List Ed} (hg : GOk n l) : GOk n (pickE l (forL n l)) :=
  pick_ok hg (fun i hi => forL_mem hi) (Nat.le_trans (nodup_bound l.length (forL n l) (for_nodup n l) (fun i hi => forL_mem hi)) hg.hl)
theorem forL_len_le {n : Nat} {l : List Ed} : FN n l ≤ l.length := nodup_bound l.length (forL n l) (for_nodup n l) (fun i hi => forL_mem hi)
theorem forL_rel (n : Nat) (l : List Ed) : AllR (pickE l (forL n l)) = EdR l (InF n l) := pick_rel (fun i hi => forL_mem hi)

theorem PaW.start {n : Nat} {l : List Ed} (hg : GOk n l) {v u : Nat} (hu : u < n) (hc : Con (AllR (pickE l (forL n l))) u v) : ∃ p0, PaW n l v p0 u [] p0 := by
  obtain ⟨k, hk⟩ := Sh.of_con hc
  have hk' := hk
  rw [forL_rel] at hk'
  obtain ⟨p, h1, _, h3⟩ := path_of (S := InF n l) (fun i h => h) k u hk'
  exact ⟨p, hu, h1, rfl, by rw [h3]; exact hk⟩

theorem PaW.fin {n : Nat} {l : List Ed} (hg : GOk n l) {v : Nat} {p0 o p : List Nat} (h : PaW n l v p0 v o p) : o = p0 := by
  have := h.path.unique hg .here
  subst this
  rw [← h.all, List.append_nil]

theorem PaW.next {n : Nat} {l : List Ed} (hg : GOk n l) {v x : Nat} {p0 o p : List Nat} {d : List Int} (hd : DsF n (pickE l (forL n l)) v d) (h : PaW n l v p0 x o p) (hne : x ≠ v) :
    ∃ j y p', (arR (pickE l (forL n l)) x (FN n l)).filter (nearB d x) = [(j, y)] ∧ j < FN n l ∧ y < n ∧ PaW n l v p0 y (o ++ [(forL n l).getD j 0]) p' ∧ gi d x = ((p.length : Nat) : Int) ∧ gi d y = ((p'.length : Nat) : Int) ∧ p'.length < p.length := by
  obtain ⟨k, hk⟩ : ∃ k, p.length = k + 1 := by
    cases hp : p.length with
    | zero =>
      have := h.sh
      rw [hp] at this
      exact absurd this.zero hne
    | succ k => exact ⟨k, rfl⟩
  have hs := h.sh
  have hdx := hd.sh x _ h.lt hs
  rw [hk] at hs
  obtain ⟨j, y, h1, h2, h3, h4, h5⟩ := near_one hg hd h.lt hs
  have h4' := h4
  rw [forL_rel] at h4'
  obtain ⟨p', a1, _, a3⟩ := path_of (S := InF n l) (fun i h => h) k y h4'
  have e := h.path.unique hg (h5 p' a1)
  refine ⟨j, y, p', h1, h2, h3, ⟨h3, a1, by rw [← h.all, e, List.append_assoc]; rfl, by rw [a3]; exact h4⟩, hdx, by rw [a3]; exact hd.sh y _ h3 h4, by omega⟩

/-- The list of near ones is read, the path grows. -/
structure NrI (B : Nat) (w0 wr : World) (nv ov : Value) (L : List (Nat × Nat)) (o : List Nat) : Prop where
  near : wr.ownsRow 0 88 2 nv L.length (prV L)
  out : wr.ownsRow 0 3 1 ov o.length (natV o)
  new : ∀ k, ov.ownBlock = some k → B ≤ k
  ne : ∀ k, ov.ownBlock = some k → nv.ownBlock ≠ some k
  bel : Below B w0 wr
theorem NrI.drewN {B : Nat} {w0 wr : World} {nv ov : Value} {L : List (Nat × Nat)} {o : List Nat} (h : NrI B w0 wr nv ov L o) (q : Nat) : NrI B w0 (wr.drewN q) nv ov L o := ⟨owns_drewN h.near q, owns_drewN h.out q, h.new, h.ne, bel_drewN h.bel q⟩
theorem NrI.app {B : Nat} {w0 W W6 : World} {nv ov v6 : Value} {L : List (Nat × Nat)} {o : List Nat} (h : NrI B w0 W nv ov L o) {ob : Obj} {x : Nat} (hB : B ≤ w0.heap.size) (ho : W6.ownsRow 0 3 1 v6 (o.length + 1) (natV o ++ [.int .i64 (x : Int)])) (hg : (W.alloc ob).grownBy W6 ov.ownBlock)
    (hn : ∀ k, v6.ownBlock = some k → ov.ownBlock = some k ∨ (W.alloc ob).heap.size ≤ k) : NrI B w0 W6 nv v6 L (o ++ [x]) := by
  obtain ⟨a1, a2, a3⟩ := app_one h.new (Nat.le_trans hB h.bel.size) ho hg hn
  have m : Mod (fun k => ov.ownBlock = some k) W W6 := ((Mod.refl (fun k => ov.ownBlock = some k) W).alloc ob).grown hg (fun k hk _ => hk)
  refine ⟨owns_mod h.near m (fun y hy e => h.ne y e hy), by simp only [List.length_append, List.length_singleton]; exact a1, a2, fun y hy e => ?_, h.bel.trans a3⟩
  rcases hn y hy with q | q
  · exact h.ne y q e
  · have := own_lt h.near e
    simp at q; omega
theorem NrI.cell {B : Nat} {w0 wr : World} {nv ov : Value} {L : List (Nat × Nat)} {o : List Nat} (h : NrI B w0 wr nv ov L o) {i : Nat} (hi : i < L.length) : ∃ nb nc, nv = .slice (some ⟨nb, 0, none⟩) L.length nc ∧ wr.cell? ⟨nb, i * 2, none⟩ = some (.int .i64 (((L.getD i (0, 0)).1 : Nat) : Int)) ∧ wr.cell? ⟨nb, i * 2 + 1, none⟩ = some (.int .i64 (((L.getD i (0, 0)).2 : Nat) : Int)) := by
  obtain ⟨nb, nc, e, _, _, _, hc, _⟩ := owns_form h.near (by omega)
  obtain ⟨p1, p2⟩ := prV_at L i hi
  exact ⟨nb, nc, e, by rw [hc _ (by omega), p1], by rw [hc _ (by omega), p2]⟩

set_option maxHeartbeats 64000000 in
set_option maxRecDepth 100000 in
theorem rpath_ok (w : World) (f g n : Nat) (l : List Ed) (h : R2Obj w f g n l) (hg : GOk n l) (u v : Int) :
    Calls Tryd.prog 19 #[.pointer (some ⟨f, 0, none⟩), .int .i64 u, .int .i64 v] w (PthPost w n l u v) := by
  have HR := Lib.hid h
  have HG := Lib.hid hg
  have f0 := h.f.cell (i := 0) rfl
  have hl4 := hg.hl
  have hn4 := hg.hn
  clear h hg
  have HOUT : Hid (¬ ((0 ≤ u ∧ u < n) ∧ (0 ≤ v ∧ v < n) ∧ u ≠ v) → ∀ w', Below w.heap.size w w' → PthPost w n l u v (.returned (.slice none 0 0)) w') := fun hc w' hb => by
    have : mV n l u v = none := by unfold mV; rw [if_neg hc]
    exact ⟨fun _ => rfl, (fun c h => by rw [this] at h; cases h), hb⟩
  by_cases hu : 0 ≤ u ∧ u < n
  · have HU : Hid (inB u n = true) := by show _ = _; unfold inB; simp; omega
    by_cases hv : 0 ≤ v ∧ v < n
    · have HV : Hid (inB v n = true) := by show _ = _; unfold inB; simp; omega
      by_cases huv : u = v
      · have HM := Lib.hid (HOUT.out (fun h => h.2.2 huv))
        subst huv
        have t1 : (u == u) = true := by simp
        clear hu hv HOUT
        go_enter Tryd.func19, Tryd.ntmps19
        go_wp2_with fail
        with_reducible refine (r2has_ok w f g n l HR.out u).mono ?_
        rintro e w1 ⟨rfl, rfl⟩
        rw [HU.out]
        go_wp2_with fail
        with_reducible refine (r2has_ok w f g n l HR.out u).mono ?_
        rintro e w1 ⟨rfl, rfl⟩
        rw [HU.out]
        go_wp2_with fail
        go_ret
        exact HM.out _ (Below.refl _ _)
      · have t1 : (u == v) = false := by simp [huv]
        obtain ⟨ua, rfl⟩ := Int.eq_ofNat_of_zero_le hu.1
        obtain ⟨vb, rfl⟩ := Int.eq_ofNat_of_zero_le hv.1
        have ha : ua < n := by omega
        have hb : vb < n := by omega
        have hne : ua ≠ vb := by omega
        clear hu hv huv HOUT
        have HMV : Hid (mV n l ua vb = none ↔ ¬ Con (AllR (pickE l (forL n l))) ua vb) := by
          show _ ↔ _
          rw [forL_rel, ← (forest_lab HG.out).iff ha hb, com_edges HG.out ha hb hne (Nat.le_refl _)]
          have em : mV n l ua vb = comV (bdL n l) (n + FN n l) ua vb := by
            unfold mV
            rw [if_pos (by omega), Int.toNat_natCast, Int.toNat_natCast]
          rw [em]
          constructor
          · intro e h
            obtain ⟨d, hd, _⟩ := h
            rw [e] at hd; cases hd
          · intro h
            cases hc : comV (bdL n l) (n + FN n l) ua vb with
            | none => rfl
            | some d => exact absurd ⟨d, hc, (comV_inner (bdL_tv3 HG.out) ha hb hne hc).2⟩ h
        go_enter Tryd.func19, Tryd.ntmps19
        go_wp2_with fail
        with_reducible refine (r2has_ok w f g n l HR.out ua).mono ?_
        rintro e w1 ⟨rfl, rfl⟩
        rw [HU.out]
        go_wp2_with fail
        with_reducible refine (r2has_ok w f g n l HR.out vb).mono ?_
        rintro e w1 ⟨rfl, rfl⟩
        rw [HV.out]
        go_wp2_with fail
        with_reducible refine (redges_ok w g n l HR.out.g hl4).mono ?_
        rintro e w2 ⟨⟨ao, cap, b, rfl, her, hnc, _⟩, hb2⟩
        have HB2 := Lib.hid hb2
        have HE2 := Lib.hid her
        have HNC := Lib.hid hnc
        have HR2 := Lib.hid (HR.out.below hb2)
        clear her hb2 hnc t1 HR f0 HU HV
        obtain ⟨m, hm⟩ : ∃ m, l.length = m := ⟨_, rfl⟩
        rw [hm] at hl4 HE2
        have HM := Lib.hid hm
        rw [hm]
        clear hm
        have f0 := HR2.out.f.cell (i := 0) rfl
        go_wp2_with fail
        with_reducible refine (rcount_ok w2 g n l HR2.out.g).mono ?_
        rintro e w3 ⟨rfl, rfl⟩
        go_wp2_with fail
        with_reducible refine (rforest_ok w2 n ao m cap b 0 l HE2.out (by omega) HNC.out (by omega)).mono ?_
        rintro e w3 ⟨_, hok, hb3⟩
        obtain ⟨pv, rfl, hpo, hpn⟩ := hok HG.out.err
        rw [Int.toNat_natCast] at hpo
        obtain ⟨F, hF⟩ : ∃ F, FN n l = F := ⟨_, rfl⟩
        have hF' : (forL n l).length = F := hF
        rw [hF'] at hpo
        obtain ⟨oa, oc, ob, rfl, hro, hrk⟩ := own_rowN hpo hF'
        have hFl : F ≤ m := by rw [← hF, ← HM.out]; exact forL_len_le
        have HFN := Lib.hid hF
        have HFL := Lib.hid hF'
        have HB3 := Lib.hid (bel_then HB2.out hb3)
        have HO3 := Lib.hid hro
        have HE3 := Lib.hid (HE2.out.below hb3)
        have HR3 := Lib.hid (HR2.out.below hb3)
        clear hok hb3 hpo hpn hro hrk HE2 HR2 HNC f0 hF hF'
        go_wp2_with fail
        go_loopw [10, 11] (fun s10 s11 wr => ∃ i : Nat, i ≤ F ∧ s11 = .int .i64 i ∧ PkI w3.heap.size wr l (forL n l) i s10 ∧ Below w3.heap.size w3 wr) (fun _ s _ => F - (intOf s).toNat)
        case atStart => exact ⟨0, Nat.zero_le _, rfl, PkI.start _ _ _ _, Below.refl _ _⟩
        case round =>
          obtain ⟨i, hi, rfl, hpk, hbr⟩ := hrel
          have HPK := Lib.hid hpk
          have HBR := Lib.hid hbr
          clear hpk hbr
          by_cases him : i < F
          · have hx : (forL n l).getD i 0 < m := by rw [← HM.out]; exact forL_mem (getD_mem (by rw [HFL.out]; exact him))
            have HTK : Hid ((forL n l).take (i + 1) = (forL n l).take i ++ [(forL n l).getD i 0]) := take_snocN (by rw [HFL.out]; exact him)
            have HOR := Lib.hid (HO3.out.below HBR.out)
            have HER := Lib.hid (HE3.out.below HBR.out)
            have o1 := HOR.out.cell i him
            rw [nI_at (by rw [HFL.out]; exact him), Nat.zero_add] at o1
            have hadr := HOR.out.adr (by omega)
            subst hadr
            generalize (forL n l).getD i 0 = x at *
            obtain ⟨d0, d1, d2⟩ := HER.out.cell x hx
            rw [Nat.zero_add] at d0 d1 d2
            have hadr := HER.out.adr (by omega)
            subst hadr
            obtain ⟨E, hE⟩ : ∃ E, EA l x = E := ⟨_, rfl⟩
            rw [hE] at d0 d1 d2
            have HEE := Lib.hid hE
            clear hE
            obtain ⟨eu, ev, ew⟩ := E
            simp only at d0 d1 d2
            have t1 : (i : Int) < (F : Int) := by omega
            have t2 : (0 : Int) ≤ (i : Int) := by omega
            have t3 : (x : Int) < (m : Int) := by omega
            have t4 : (0 : Int) ≤ (x : Int) := by omega
            obtain ⟨pa, pc, pb, rfl, _, _, _⟩ := HPK.out.row (by rw [HFL.out]; exact hi)
            have HOW := Lib.hid (HPK.out.own.alloc (.cells #[.int .i64 eu, .int .i64 ev, .int .i64 ew] 45))
            have HNW := Lib.hid (news_new wr 45 [.int .i64 eu, .int .i64 ev, .int .i64 ew])
            go_wp2_with (at_builtin; apply keepIt)
            apply Lib.hid
            refine wpList_appendB 45 (.agg #[.int .i64 0, .int .i64 0, .int .i64 0]) 3 24 Tryd.underlying22 Tryd.infoEdge rfl (by decide) _ i _ rfl HOW.out ⟨wr.heap.size, 0, none⟩ 1 1 [.int .i64 eu, .int .i64 ev, .int .i64 ew] rfl rfl HNW.out (by simp [Value.oneCell']) (by unfold maxLen; omega) (by omega) ?_
            intro v6 w6 ho6 hg6 hn6
            obtain ⟨a1, a2, a3⟩ := app_edge2 (x := ⟨eu, ev, ew⟩) HPK.out.new HBR.out.size ho6 hg6 hn6
            rw [← HEE.out, ← pickE_snoc, ← HTK.out] at a1
            have HP6 : Hid (PkI w3.heap.size w6 l (forL n l) (i + 1) v6) := ⟨a1, a2⟩
            have HB6 := Lib.hid (HBR.out.trans a3)
            clear a1 a2 a3 ho6 hg6 hn6 HOW HNW HPK HER d0 d1 d2 o1 HOR
            go_wp2_with fail
            go_roundw
            case rel => exact ⟨i + 1, by omega, by go_num, HP6.out, HB6.out⟩
            case measure => simp [intOf]; omega
          · obtain rfl : i = F := by omega
            have HTA : Hid ((forL n l).take i = forL n l) := List.take_of_length_le (by rw [HFL.out]; exact Nat.le_refl _)
            obtain ⟨pa2, pc2, pb2, rfl, hp2, hp3, _⟩ := HPK.out.row (by rw [HFL.out]; omega)
            rw [HTA.out] at hp2
            have HP2 := Lib.hid hp2
            have HP3 := Lib.hid hp3
            have HR6 := Lib.hid (HR3.out.below HBR.out)
            have HOKP := Lib.hid (forL_pick HG.out)
            have HPL : Hid ((pickE l (forL n l)).length = i) := (pickE_len _ _).trans HFL.out
            have f0 := HR6.out.f.cell (i := 0) rfl
            clear hp2 hp3 HPK HTA
            go_wp2_with fail
            with_reducible refine (rcount_ok wr g n l HR6.out.g).mono ?_
            rintro e w7 ⟨rfl, rfl⟩
            go_wp2_with fail
            with_reducible refine (rnew_ok wr n pa2 i pc2 pb2 0 _ HP2.out (by omega) HP3.out (by omega)).mono ?_
            rintro e w7 ⟨⟨p, rfl, _, hok⟩, hb7⟩
            obtain ⟨g2, rfl, hg2⟩ := hok HOKP.out.err
            rw [HOKP.out.err]
            rw [Int.toNat_natCast] at hg2
            have HG2 := Lib.hid hg2
            have HB7 := Lib.hid (HBR.out.trans (hb7.mono HBR.out.size))
            clear hok hb7 hg2 HP2 HP3 HR6 f0
            go_wp2_with fail
            with_reducible refine (rdist_ok w7 g2 n _ HG2.out HOKP.out vb hb).mono ?_
            rintro e w8 ⟨⟨dg, dc, d, rfl, hds, hdo, hdn⟩, hb8⟩
            have HDS := Lib.hid hds
            have HB8 := Lib.hid (HB7.out.trans (hb8.mono HB7.out.size))
            have HG8 := Lib.hid (HG2.out.below hb8)
            have HDO := Lib.hid hdo
            obtain ⟨q0, _⟩ := ownI hdo hds.len ha
            have t1 : (ua : Int) < (n : Int) := by omega
            have t2 : (0 : Int) ≤ (ua : Int) := by omega
            clear hds hb8 hdo hdn HG2 HB7
            by_cases hneg : gi d ua = -1
            · have HC : Hid (mV n l ua vb = none) := HMV.out.2 (HDS.out.no ua ha hneg)
              rw [hneg] at q0
              clear hneg
              go_wp2_with fail
              go_ret
              exact ⟨fun _ => rfl, (fun c h => by rw [HC.out] at h; cases h), bel_then HB3.out HB8.out⟩
            · obtain ⟨k, hk1, hk2, hk3⟩ := HDS.out.yes ua ha hneg
              obtain ⟨p0, hpw⟩ := PaW.start HG.out ha hk3.1.con
              have HPW := Lib.hid hpw
              have HPT := Lib.hid hpw.path
              have HP0L : Hid (p0.length ≤ 5000) := by
                have h1 := HDS.out.sh ua _ ha hpw.sh
                obtain ⟨k', k1, k2, _⟩ := HDS.out.yes ua ha hneg
                show _ ≤ _
                omega
              have HNN : Hid (mV n l ua vb ≠ none) := fun e => HMV.out.1 e hk3.1.con
              have HOR := Lib.hid (HO3.out.below HB8.out)
              rw [hk2] at q0
              clear hneg hk1 hk2 hk3 hpw HMV HO3 HE3 HR3 HBR
              go_wp2_with fail
              clear q0 t1 t2
              go_loopw [1, 15] (fun s1 s15 wr => ∃ (x : Nat) (o p : List Nat), s1 = .int .i64 x ∧ PaW n l vb p0 x o p ∧ gi d x = ((p.length : Nat) : Int) ∧ wr.ownsRow 0 3 1 s15 o.length (natV o) ∧ (∀ k, s15.ownBlock = some k → w8.heap.size ≤ k) ∧ Below w8.heap.size w8 wr) (fun s1 _ _ => (gi d (intOf s1).toNat).toNat)
              case atStart => exact ⟨ua, [], p0, rfl, HPW.out, HDS.out.sh ua _ ha HPW.out.sh, World.ownsRow_nil _ _ _ _, fun y hy => (by cases hy), Below.refl _ _⟩
              case round =>
                obtain ⟨x, o, p, rfl, hpw, hdx, hown, hnew, hbr⟩ := hrel
                have HPW2 := Lib.hid hpw
                have HOWN := Lib.hid hown
                have HNEW := Lib.hid hnew
                have HBX := Lib.hid hbr
                have HDX := Lib.hid hdx
                clear hpw hown hnew hbr hdx HPW
                by_cases hxv : x = vb
                · subst hxv
                  have HO0 := Lib.hid (HPW2.out.fin HG.out)
                  have t1 : ((x : Int) != (x : Int)) = false := by simp
                  go_wp2_with fail
                  go_ret
                  have hp0 : PathTo n l x ua p0 := HPT.out
                  have ho := HOWN.out
                  rw [HO0.out] at ho
                  exact ⟨fun e => absurd e HNN.out, fun c _ => ⟨p0, _, by rw [Int.toNat_natCast, Int.toNat_natCast]; exact hp0, rfl, ho, fun k hk => by have h1 := HNEW.out k hk; have h2 := HB8.out.size; have h3 := HB3.out.size; omega⟩, bel_then HB3.out (bel_then HB8.out HBX.out)⟩
                · have t1 : ((x : Int) != (vb : Int)) = true := by simp; omega
                  obtain ⟨j, y, p', hfil, hj, hy, hpn, _, hdy, hlt⟩ := HPW2.out.next HG.out HDS.out hxv
                  have hxn := HPW2.out.lt
                  rw [HFN.out] at hfil hj
                  have HFIL := Lib.hid hfil
                  have HPN := Lib.hid hpn
                  have HDY := Lib.hid hdy
                  have HLT := Lib.hid hlt
                  have HGR := Lib.hid (HG8.out.below HBX.out)
                  have HAL : Hid ((arR (pickE l (forL n l)) x i).length ≤ 2 * i) := arR_len _ _ _
                  clear hfil hpn hdy hlt hxv
                  go_wp2_with fail
                  with_reducible refine (raround_ok wr g2 n _ HGR.out HOKP.out x hxn).mono ?_
                  rintro e wa ⟨⟨nv, rfl, hno, hnn⟩, hba⟩
                  rw [HPL.out] at hno
                  have HMM : Hid (∀ t, t < (arR (pickE l (forL n l)) x i).length → ((arR (pickE l (forL n l)) x i).getD t (0, 0)).1 < i ∧ ((arR (pickE l (forL n l)) x i).getD t (0, 0)).2 < n) := fun t ht => by
                    have hm : (arR (pickE l (forL n l)) x i).getD t (0, 0) ∈ arR (pickE l (forL n l)) x i := by
                      rw [List.getD_eq_getElem?_getD, List.getElem?_eq_getElem ht]
                      exact List.getElem_mem ht
                    obtain ⟨h1, h2⟩ := (arR_mem i).1 hm
                    exact ⟨h1, (h2.ne HOKP.out (by rw [HPL.out]; exact h1)).2.1⟩
                  obtain ⟨L, hL⟩ : ∃ L, arR (pickE l (forL n l)) x i = L := ⟨_, rfl⟩
                  rw [hL] at hno HFIL HAL HMM
                  clear hL
                  have hN0 : NrI w8.heap.size w8 wa nv _ L o := ⟨hno, owns_mod HOWN.out (Mod.of_below (F := fun _ => False) hba) (fun _ _ h => h), HNEW.out, fun k hk e => by
                    have h1 := own_lt HOWN.out hk
                    have h2 := hnn k e
                    omega, HBX.out.trans (hba.mono HBX.out.size)⟩
                  have HN0 := Lib.hid hN0
                  obtain ⟨Ln, hLn⟩ : ∃ Ln, L.length = Ln := ⟨_, rfl⟩
                  obtain ⟨na, nc, rfl⟩ := owns_slice hno
                  have HLN := Lib.hid hLn
                  rw [hLn]
                  rw [hLn] at HAL
                  have hLb : Ln ≤ 32768 := by have := HAL.out; omega
                  clear hno hnn hba hN0 HOWN HNEW hLn HGR HBX
                  have HKB : Hid (o.length ≤ 1000000) := by
                    show _ ≤ _
                    have h1 := congrArg List.length HPW2.out.all
                    rw [List.length_append] at h1
                    have h2 := HP0L.out
                    omega
                  obtain ⟨eo, heo⟩ : ∃ eo, (forL n l).getD j 0 = eo := ⟨_, rfl⟩
                  have HEO := Lib.hid heo
                  rw [heo] at HPN
                  clear heo
                  go_wp2_with fail
                  go_loopw [15, 17, 18] (fun s15 s17 s18 wz => ∃ (t : Nat) (bf : Bool), t ≤ Ln ∧ s18 = .int .i64 t ∧ s17 = .int .i64 ((if bf then y else x : Nat) : Int) ∧ NF L (nearB d x) (j, y) t bf ∧ NrI w8.heap.size w8 wz (.slice na Ln nc) s15 L (if bf then o ++ [eo] else o)) (fun _ _ s _ => Ln - (intOf s).toNat)
                  case atStart => exact ⟨0, false, Nat.zero_le _, rfl, rfl, NF.start _ _ _, by rw [HLN.out] at HN0; exact HN0.out⟩
                  case round =>
                    obtain ⟨t, bf, ht, rfl, rfl, hnf, hnr⟩ := hrel
                    have HNF := Lib.hid hnf
                    have HNR := Lib.hid hnr
                    clear hnf hnr HN0
                    by_cases htl : t < Ln
                    · have htL : t < L.length := by rw [HLN.out]; exact htl
                      obtain ⟨nb, nc', e1, n1, n2⟩ := HNR.out.cell htL
                      injection e1 with e1 e3 e2
                      subst e1 e2
                      clear e3
                      obtain ⟨m1, m2⟩ := HMM.out t htL
                      have hgd : L.getD t (0, 0) = L[t] := by rw [List.getD_eq_getElem?_getD, List.getElem?_eq_getElem htL]; rfl
                      have HSK : Hid (nearB d x (L.getD t (0, 0)) = false → NF L (nearB d x) (j, y) (t + 1) bf) := fun h => HNF.out.skip htL (by rw [← hgd]; exact h)
                      have HHT : Hid (nearB d x (L.getD t (0, 0)) = true → bf = false ∧ L.getD t (0, 0) = (j, y) ∧ NF L (nearB d x) (j, y) (t + 1) true) := fun h => by
                        have := HNF.out.hit HFIL.out htL (by rw [← hgd]; exact h)
                        rw [hgd]
                        exact this
                      have HRD : Hid (L.getD t (0, 0) = ((L.getD t (0, 0)).1, (L.getD t (0, 0)).2)) := rfl
                      have HCL : Hid (∀ W ov o', NrI w8.heap.size w8 W (.slice (some ⟨nb, 0, none⟩) Ln nc) ov L o' → W.cell? ⟨nb, t * 2 + 1, none⟩ = some (.int .i64 (((L.getD t (0, 0)).2 : Nat) : Int))) := fun W ov o' h => by
                        obtain ⟨nb2, nc2, e1, _, n2⟩ := h.cell htL
                        injection e1 with e1
                        injection e1 with e1
                        injection e1 with e1
                        subst e1
                        exact n2
                      have HNB : Hid (nearB d x (L.getD t (0, 0)) = decide (gi d (L.getD t (0, 0)).2 = gi d x - 1)) := rfl
                      clear hgd htL
                      generalize (L.getD t (0, 0)).1 = a1 at *
                      generalize (L.getD t (0, 0)).2 = a2 at *
                      generalize L.getD t (0, 0) = aa at *
                      have HDW := Lib.hid (owns_mod HDO.out (Mod.of_below (F := fun _ => False) HNR.out.bel) (fun _ _ h => h))
                      obtain ⟨q1, _⟩ := ownI HDW.out HDS.out.len m2
                      obtain ⟨q2, _⟩ := ownI HDW.out HDS.out.len hxn
                      have hplb : p.length < n := by
                        obtain ⟨k, k1, k2, _⟩ := HDS.out.yes x hxn (by rw [HDX.out]; omega)
                        have := HDX.out
                        omega
                      have HNB2 : Hid (nearB d x aa = decide (gi d a2 = ((p.length : Nat) : Int) - 1)) := by rw [← HDX.out]; exact HNB.out
                      rw [HDX.out] at q2
                      obtain ⟨C, hC⟩ : ∃ q, gi d a2 = q := ⟨_, rfl⟩
                      rw [hC] at q1 HNB2
                      clear hC HNB
                      have HPLB := Lib.hid hplb
                      have s1 : IntKind.i64.wrap (((p.length : Nat) : Int) - 1) = ((p.length : Nat) : Int) - 1 := IntWalk.i64_in _ (by omega)
                      generalize p.length = pl at *
                      have t1 : (t : Int) < (Ln : Int) := by omega
                      have t2 : (0 : Int) ≤ (t : Int) := by omega
                      have t3 : (a2 : Int) < (n : Int) := by omega
                      have t4 : (0 : Int) ≤ (a2 : Int) := by omega
                      have t5 : (x : Int) < (n : Int) := by omega
                      have t6 : (0 : Int) ≤ (x : Int) := by omega
                      by_cases hit : C = (pl : Int) - 1
                      · have u1 : (C == (pl : Int) - 1) = true := by simp [hit]
                        obtain ⟨rfl, hae, hnf⟩ := HHT.out (HNB2.out.trans (decide_eq_true hit))
                        have hae2 := HRD.out.symm.trans hae
                        injection hae2 with hae2 hae3
                        subst hae2 hae3
                        have HNF2 := Lib.hid hnf
                        clear hit HHT HSK HNB2 hae hnf HNF HMM
                        simp only [Bool.false_eq_true, if_false]
                        rw [if_neg (by decide)] at HNR
                        have HOZ := Lib.hid (HOR.out.below HNR.out.bel)
                        have o1 := HOZ.out.cell a1 m1
                        rw [nI_at (by rw [HFL.out]; exact m1), HEO.out, Nat.zero_add] at o1
                        have hadr := HOZ.out.adr (by omega)
                        subst hadr
                        have t7 : (a1 : Int) < (i : Int) := by omega
                        have t8 : (0 : Int) ≤ (a1 : Int) := by omega
                        obtain ⟨K, hK⟩ : ∃ K, o.length = K := ⟨_, rfl⟩
                        have HK := Lib.hid hK
                        have hO := HNR.out.out
                        rw [hK] at hO
                        clear hK
                        obtain ⟨oa5, oc5, rfl⟩ := owns_slice hO
                        go_wp2_with fail
                        go_quiet (fail)
                        have HNR7 := Lib.hid (HNR.out.drewN nq)
                        replace n1 : (wr.drewN nq).cell? ⟨nb, t * 2, none⟩ = some (.int .i64 (a1 : Int)) := n1
                        replace n2 : (wr.drewN nq).cell? ⟨nb, t * 2 + 1, none⟩ = some (.int .i64 (a2 : Int)) := n2
                        replace o1 : (wr.drewN nq).cell? ⟨ob, a1, none⟩ = some (.int .i64 (eo : Int)) := o1
                        replace hO : (wr.drewN nq).ownsRow 0 3 1 (.slice oa5 K oc5) K (natV o) := hO
                        clear HNR q1 q2 HDW HOZ
                        generalize wr.drewN nq = w9 at *
                        have HOW := Lib.hid (hO.alloc (.cells #[.int .i64 eo] 3))
                        have HNW := Lib.hid (news_new w9 3 [.int .i64 eo])
                        have hKb : K ≤ 1000000 := by rw [← HK.out]; exact HKB.out
                        clear hO
                        go_wp2_with (at_builtin; apply keepIt)
                        apply Lib.hid
                        refine wpList_appendB 3 (.int .i64 0) 1 8 Tryd.underlying35 Tryd.infoInt rfl (by decide) _ K _ rfl HOW.out ⟨w9.heap.size, 0, none⟩ 1 1 [.int .i64 eo] rfl rfl HNW.out (by simp [Value.oneCell']) (by unfold maxLen; omega) (by omega) ?_
                        intro v6 w6 ho6 hg6 hn6
                        rw [← HK.out] at ho6
                        have HN6 := Lib.hid (HNR7.out.app (Nat.le_refl _) ho6 hg6 hn6)
                        have n3 := HCL.out _ _ _ HN6.out
                        clear ho6 hg6 hn6 HOW HNW n1 n2 o1 HNR7
                        go_wp2_with fail
                        go_roundw
                        case rel => exact ⟨t + 1, true, by omega, by go_num, rfl, HNF2.out, HN6.out⟩
                        case measure => simp [intOf]; omega
                      · have u1 : (C == (pl : Int) - 1) = false := by simp [hit]
                        have HNF2 := Lib.hid (HSK.out (HNB2.out.trans (decide_eq_false hit)))
                        clear hit HHT HSK HNB2 HNF HMM
                        obtain ⟨tov, htov⟩ : ∃ z, (if bf then y else x : Nat) = z := ⟨_, rfl⟩
                        have HTO := Lib.hid htov
                        rw [htov]
                        clear htov
                        go_wp2_with fail
                        go_quiet (fail)
                        go_wp2_with fail
                        go_roundw
                        case rel => exact ⟨t + 1, bf, by omega, by go_num, by rw [HTO.out], HNF2.out, HNR.out.drewN _⟩
                        case measure => simp [intOf]; omega
                    · obtain rfl : t = Ln := by omega
                      have hnf := HNF.out
                      rw [← HLN.out] at hnf
                      obtain rfl := hnf.fin HFIL.out
                      have HNR2 : Hid (NrI w8.heap.size w8 wr (.slice na t nc) _ L (o ++ [eo])) := HNR.out
                      simp only [if_true]
                      clear hnf HNR HNF
                      go_wp2_with fail
                      go_roundw
                      case rel => exact ⟨y, _, p', rfl, HPN.out, HDY.out, HNR2.out.out, HNR2.out.new, HNR2.out.bel⟩
                      case measure =>
                        have h1 := HDX.out
                        have h2 := HDY.out
                        have h3 := HLT.out
                        simp only [intOf, Int.toNat_natCast]
                        rw [h1, h2]
                        omega
    · have HV : Hid (inB v n = false) := by show _ = _; unfold inB; simp; omega
      have HM := Lib.hid (HOUT.out (fun h => hv h.2.1))
      clear hu hv HOUT
      go_enter Tryd.func19, Tryd.ntmps19
      go_wp2_with fail
      with_reducible refine (r2has_ok w f g n l HR.out u).mono ?_
      rintro e w1 ⟨rfl, rfl⟩
      rw [HU.out]
      go_wp2_with fail
      with_reducible refine (r2has_ok w f g n l HR.out v).mono ?_
      rintro e w1 ⟨rfl, rfl⟩
      rw [HV.out]
      go_wp2_with fail
      go_ret
      exact HM.out _ (Below.refl _ _)
  · have HU : Hid (inB u n = false) := by show _ = _; unfold inB; simp; omega
    have HM := Lib.hid (HOUT.out (fun h => hu h.1))
    clear hu HOUT
    go_enter Tryd.func19, Tryd.ntmps19
    go_wp2_with fail
    with_reducible refine (r2has_ok w f g n l HR.out u).mono ?_
    rintro e w1 ⟨rfl, rfl⟩
    rw [HU.out]
    go_wp2_with fail
    go_ret
    exact HM.out _ (Below.refl _ _)

end Go.Proofs.YtenhbfbfkcjimaaDoor
