/- linkage: unite (printed by lke.py). -/
import Derived.Test.YthacjealoomioaaZMgS
namespace Go.Proofs.Ythacjealoomioaa.Lk
set_option linter.unusedVariables false
set_option linter.unusedSimpArgs false
open Go.RowKit

theorem CObj.setBt {w : World} {c n : Nat} {m : Int} {sz : List Int} {g cap : Nat} {bt : List Int} (h : CObj w c n m sz (.slice (some ⟨g, 0, none⟩) bt.length cap) bt) (j : Nat) (hj : j < bt.length) (x : Int) :
    CObj (w.setCell ⟨g, j, none⟩ (.int .i64 x)) c n m sz (.slice (some ⟨g, 0, none⟩) bt.length cap) (bt.set j x) := by
  have hne : c ≠ g := fun e => h.ne (by rw [e]; rfl)
  refine ⟨h.blk.other _ _ hne, ?_, h.ne, h.szl⟩
  have := owns_set h.row j (by omega) (.int .i64 x)
  rw [List.length_set, List.map_set]
  exact this

theorem CObj.setBt2 {w : World} {c n : Nat} {m : Int} {sz : List Int} {v : Value} {g cap L : Nat} {bt : List Int} (h : CObj w c n m sz v bt) (hv : v = .slice (some ⟨g, 0, none⟩) L cap) (hL : bt.length = L) (i j : Nat) (hi : i < L) (hj : j < L) (x : Int) :
    CObj ((w.setCell ⟨g, i, none⟩ (.int .i64 x)).setCell ⟨g, j, none⟩ (.int .i64 x)) c n m sz v ((bt.set i x).set j x) := by
  subst hL
  subst hv
  have h1 := h.setBt i hi x
  have e : (bt.set i x).length = bt.length := by simp
  rw [← e] at h1
  have h2 := h1.setBt j (by simpa using hj) x
  rw [e] at h2
  exact h2

theorem CObj.setSz {w : World} {c n : Nat} {m : Int} {sz : List Int} {v : Value} {bt : List Int} (h : CObj w c n m sz v bt) (i : Nat) (hi : i < 128) (x : Int) :
    CObj (w.setCell ⟨c, 3 + i, none⟩ (.int .i64 x)) c n m (sz.set i x) v bt := by
  refine ⟨?_, ?_, h.ne, by simp [h.szl]⟩
  · rw [← clRow_set h.szl hi]; exact h.blk.set _ _
  · exact owns_mod h.row (Mod.setCell (Mod.refl (fun k => k = c) w) ⟨c, 3 + i, none⟩ (fun _ => rfl) _) (fun x hx e => h.ne (by rw [hx, show x = c from e]))

theorem map_at2 {B : List Int} {n i j : Nat} (h : i * n + j < B.length) : (B.map fun x => Value.int .i64 x)[i * n + j]? = some (.int .i64 (at2 n B i j)) := by simp [at2, h]

theorem cset {w : World} {c g i j : Nat} {u x : Value} (h : w.cell? ⟨c, i, none⟩ = some u) (hcg : c ≠ g) : (w.setCell ⟨g, j, none⟩ x).cell? ⟨c, i, none⟩ = some u := by
  rw [World.cell?_setCell_other _ _ _ _ (by simp only [ne_eq, Addr.mk.injEq, and_true]; omega)]; exact h

theorem keepA {w : World} {c g j : Nat} {u1 u2 x : Value} (h1 : Hid (w.cell? ⟨c, 131, none⟩ = some u1)) (h2 : Hid (w.cell? ⟨c, 0, none⟩ = some u2)) (hcg : c ≠ g) :
    (w.setCell ⟨g, j, none⟩ x).drew.cell? ⟨c, 131, none⟩ = some u1 ∧ (w.setCell ⟨g, j, none⟩ x).drew.cell? ⟨c, 0, none⟩ = some u2 := ⟨cset h1.out hcg, cset h2.out hcg⟩

theorem keepB {w : World} {c g j j' : Nat} {u1 u2 x x' : Value} (h1 : Hid (w.cell? ⟨c, 131, none⟩ = some u1)) (h2 : Hid (w.cell? ⟨c, 0, none⟩ = some u2)) (hcg : c ≠ g) :
    ((w.setCell ⟨g, j, none⟩ x).setCell ⟨g, j', none⟩ x').drew.cell? ⟨c, 131, none⟩ = some u1 ∧ ((w.setCell ⟨g, j, none⟩ x).setCell ⟨g, j', none⟩ x').drew.cell? ⟨c, 0, none⟩ = some u2 := ⟨cset (cset h1.out hcg) hcg, cset (cset h2.out hcg) hcg⟩

structure UPost (w : World) (c n : Nat) (m : Int) (sz : List Int) (v : Value) (bt : List Int) (a b : Nat) (e : Ending) (w' : World) : Prop where
  val : e = .returned (.agg #[.int .i64 a, .int .i64 b, .int .i64 (lowN (at2 n bt a b) (dD m sz a b)), .int .i64 (lowD (at2 n bt a b) (dD m sz a b)), .int .i64 (sz.getD a 0 + sz.getD b 0)])
  obj : CObj w' c n m (szU sz a b) v (mixTo n m sz a b bt n)
  mod : Mod (fun k => k = c ∨ v.ownBlock = some k) w w'

theorem reduce_int (x y : Int) (hx : 0 ≤ x) (hx2 : x < 9223372036854775808) (hy : 0 < y) (hy2 : y < 9223372036854775808) (w : World) :
    Calls Try.prog 37 #[.int .i64 x, .int .i64 y] w (RetB (.tuple #[.agg #[.int .i64 (lowN x y), .int .i64 (lowD x y)], .int .i64 0]) w) := by
  obtain ⟨p, rfl⟩ := Int.eq_ofNat_of_zero_le hx
  obtain ⟨q, rfl⟩ := Int.eq_ofNat_of_zero_le (Int.le_of_lt hy)
  have := reduce_nat p q (by omega) (by omega) (by omega) w
  unfold lowN lowD
  simpa [Int.natCast_ediv] using this

theorem Try.zeroFrac : (Try.prog.info? 37).bind (·.zero) = some (.agg #[.int .i64 0, .int .i64 0]) := by kernel_rfl

set_option maxHeartbeats 8000000 in
set_option maxRecDepth 100000 in
theorem unite1 (w : World) (c n : Nat) (sz : List Int) (v : Value) (bt : List Int) (h : CObj w c n 1 sz v bt) (hn : n ≤ 128) (hl : bt.length = n * n) (a b : Nat) (ha : a < n) (hb : b < n) (hab : a ≠ b)
    (hsz : ∀ i, 0 ≤ sz.getD i 0 ∧ sz.getD i 0 ≤ 128) (hN : 0 ≤ at2 n bt a b) (hN2 : at2 n bt a b < 9223372036854775808) (hD : 0 < dD 1 sz a b) (hD2 : dD 1 sz a b ≤ 16384) :
    Calls Try.prog 17 #[.pointer (some ⟨c, 0, none⟩), .int .i64 a, .int .i64 b] w (UPost w c n 1 sz v bt a b) := by
  have HO := Lib.hid h
  have HL := Lib.hid hl
  have HSZ := Lib.hid hsz
  have HCL : Hid (c < w.heap.size) := h.blk.lt
  have HVL : Hid (∀ k, v.ownBlock = some k → k < w.heap.size) := fun k hk => (h.row.lt k hk).2
  clear h hl hsz
  go_enter Try.func17, Try.ntmps17
  go_wp2_with fail
  generalize hW : World.alloc w _ = W
  have B6 : Blk W w.heap.size 39 [.int .i64 0, .int .i64 0, .int .i64 0, .int .i64 0, .int .i64 0] := by rw [← hW]; exact Blk.new w _ _
  have hb1 : Below w.heap.size w W := by rw [← hW]; exact (Below.refl _ _).alloc (Nat.le_refl _) _
  have HB6 := Lib.hid B6
  have HB := Lib.hid hb1
  have HOW := Lib.hid (HO.out.below hb1)
  clear hW B6 hb1
  with_reducible refine (distance_ok W c n _ sz v bt HOW.out hn HL.out a b ha hb HSZ.out).mono ?_
  rintro e w1 ⟨rfl, hb2⟩
  have HB6' := Lib.hid (HB6.out.below hb2 HB6.out.lt)
  have HO1 := Lib.hid (HOW.out.below hb2)
  have HBB1 := Lib.hid (bel_then HB.out hb2)
  clear hb2 HB6 HOW HB HO
  obtain ⟨x, HX⟩ : ∃ x, Hid (at2 n bt a b = x) := ⟨_, rfl⟩
  obtain ⟨y, HY⟩ : ∃ y, Hid (dD 1 sz a b = y) := ⟨_, rfl⟩
  rw [HX.out] at hN hN2 ⊢
  rw [HY.out] at hD hD2 ⊢
  go_wp2_with fail
  with_reducible refine (reduce_int x y hN hN2 hD (by omega) _).mono ?_
  rintro e w2 ⟨rfl, hb2⟩
  have hb3 : Below w1.heap.size w1 w2 := bel_then ((Below.refl _ _).alloc (Nat.le_refl _) _) hb2
  have HB6 := Lib.hid (HB6'.out.below hb3 HB6'.out.lt)
  have HO2 := Lib.hid (HO1.out.below hb3)
  have HBB2 := Lib.hid (bel_then HBB1.out hb3)
  clear hb2 hb3 HB6' HO1 HBB1
  obtain ⟨p, HP⟩ : ∃ p, Hid (lowN x y = p) := ⟨_, rfl⟩
  obtain ⟨q, HQ⟩ : ∃ q, Hid (lowD x y = q) := ⟨_, rfl⟩
  rw [HP.out, HQ.out]
  have hal : Below w2.heap.size w2 (w2.alloc (.cells #[.int .i64 p, .int .i64 q] 37)) := (Below.refl _ _).alloc (Nat.le_refl _) _
  have HO3 := Lib.hid (HO2.out.below hal)
  have HB63 := Lib.hid (HB6.out.below hal HB6.out.lt)
  have HB83 := Lib.hid (Blk.new w2 37 [.int .i64 p, .int .i64 q])
  have HBB3 := Lib.hid (bel_then HBB2.out hal)
  have k0 := HO3.out.c0
  have HLT : Hid (w.heap.size ≤ w2.heap.size) := HBB2.out.size
  clear hal HO2 HB6 HBB2
  go_wp2_with fail
  generalize hW3 : w2.alloc _ = w3 at *
  clear hW3 k0
  have HRB : Hid (∀ k, v.ownBlock = some k → k ≠ w.heap.size ∧ k ≠ w2.heap.size) := fun k hk => by
    have h1 := HVL.out k hk
    have h2 := HLT.out
    omega
  go_loopw [28] (fun s wr => ∃ k : Nat, k ≤ n ∧ s = .int .i64 k ∧ CObj wr c n 1 sz v (mixTo n 1 sz a b bt k) ∧ Mod (fun k => v.ownBlock = some k) w3 wr) (fun s _ => n - (intOf s).toNat)
  case atStart => exact ⟨0, Nat.zero_le _, rfl, HO3.out, Mod.refl _ _⟩
  case round =>
    obtain ⟨k, hk, rfl, ho, hm⟩ := hrel
    have HOK := Lib.hid ho
    have HM := Lib.hid hm
    have HLK := Lib.hid ((mixTo_length n 1 sz a b bt k).trans HL.out)
    clear ho hm
    by_cases hkn : k < n
    · have s1 := HOK.out.cs (i := k) (by omega)
      have i128 : (k : Int) < 128 := by omega
      obtain ⟨sk, HSK⟩ : ∃ sk, Hid (sz.getD k 0 = sk) := ⟨_, rfl⟩
      rw [HSK.out] at s1
      have HST : Hid (sk = 0 ∨ k = a ∨ k = b → mixTo n 1 sz a b bt (k + 1) = mixTo n 1 sz a b bt k) := by
        intro hh
        rw [← HSK.out] at hh
        simp only [mixTo]
        rw [if_pos hh]
      by_cases h0 : sk = 0
      · have t1 : (sk == 0) = true := by simp [h0]
        have H0 := Lib.hid h0
        clear h0
        go_wp2_with fail
        go_roundw
        case rel => exact ⟨k + 1, by omega, by go_num, by rw [HST.out (.inl H0.out)]; exact HOK.out, HM.out⟩
        case measure => simp [intOf]; omega
      · have t1 : (sk == 0) = false := by simp [h0]
        have H0 := Lib.hid h0
        clear h0
        by_cases hka : k = a
        · have t2 : ((k : Int) == (a : Int)) = true := by simp [hka]
          have HK := Lib.hid hka
          clear hka
          go_wp2_with fail
          go_roundw
          case rel => exact ⟨k + 1, by omega, by go_num, by rw [HST.out (.inr (.inl HK.out))]; exact HOK.out, HM.out⟩
          case measure => simp [intOf]; omega
        · have t2 : ((k : Int) == (a : Int)) = false := by simp; omega
          by_cases hkb : k = b
          · have t3 : ((k : Int) == (b : Int)) = true := by simp [hkb]
            have HK := Lib.hid hkb
            clear hkb hka
            go_wp2_with fail
            go_roundw
            case rel => exact ⟨k + 1, by omega, by go_num, by rw [HST.out (.inr (.inr HK.out))]; exact HOK.out, HM.out⟩
            case measure => simp [intOf]; omega
          · have t3 : ((k : Int) == (b : Int)) = false := by simp; omega
            have hxa : a * n + k < n * n := idx_lt ha hkn
            have hxb : b * n + k < n * n := idx_lt hb hkn
            have hxc : k * n + a < n * n := idx_lt hkn ha
            have hnn : n * n ≤ 16384 := Nat.mul_le_mul hn hn
            obtain ⟨g, cap, hv, hc1, hc2, hg, hcell, hfr⟩ := owns_form HOK.out.row (by rw [HLK.out]; omega)
            rw [HLK.out] at hv hcell
            have HV := Lib.hid hv
            have HST2 : Hid (mixTo n 1 sz a b bt (k + 1) = ((mixTo n 1 sz a b bt k).set (a * n + k) (mixV 1 (at2 n (mixTo n 1 sz a b bt k) a k) (at2 n (mixTo n 1 sz a b bt k) b k))).set (k * n + a) (mixV 1 (at2 n (mixTo n 1 sz a b bt k) a k) (at2 n (mixTo n 1 sz a b bt k) b k))) := by
              have h0 := H0.out
              rw [← HSK.out] at h0
              simp only [mixTo]
              rw [if_neg (by omega)]
              exact rfl
            generalize hB : mixTo n 1 sz a b bt k = B at *
            have HBE := Lib.hid hB
            clear hB
            have ca := hcell (a * n + k) (by omega)
            have cb := hcell (b * n + k) (by omega)
            have cc := hcell (k * n + a) (by omega)
            have ea : (B.map fun x => Value.int .i64 x)[a * n + k]? = some (.int .i64 (at2 n B a k)) := map_at2 (by rw [HLK.out]; omega)
            have eb : (B.map fun x => Value.int .i64 x)[b * n + k]? = some (.int .i64 (at2 n B b k)) := map_at2 (by rw [HLK.out]; omega)
            have ec : (B.map fun x => Value.int .i64 x)[k * n + a]? = some (.int .i64 (at2 n B k a)) := map_at2 (by rw [HLK.out]; omega)
            rw [ea] at ca
            rw [eb] at cb
            rw [ec] at cc
            have fa := hfr (a * n + k)
            have fc := hfr (k * n + a)
            obtain ⟨xa, HXA⟩ : ∃ xa, Hid (at2 n B a k = xa) := ⟨_, rfl⟩
            obtain ⟨xb, HXB⟩ : ∃ xb, Hid (at2 n B b k = xb) := ⟨_, rfl⟩
            obtain ⟨mx, HMX⟩ : ∃ mx, Hid (mixV 1 xa xb = mx) := ⟨_, rfl⟩
            rw [HXA.out] at ca
            rw [HXB.out] at cb
            have HST3 : Hid (mixTo n 1 sz a b bt (k + 1) = (B.set (a * n + k) mx).set (k * n + a) mx) := by
              have := HST2.out
              rw [HXA.out, HXB.out, HMX.out] at this
              exact this
            have k0 := HOK.out.c0
            have k2 : wr.cell? ⟨c, 2, none⟩ = some (.func (.func 32) #[] #[]) := by simpa [mixF] using HOK.out.c2
            have k4 := HOK.out.cv
            rw [hv] at k4
            have e1 : (a : Int) * (n : Int) = ((a * n : Nat) : Int) := by rw [Int.natCast_mul]
            have e2 : (b : Int) * (n : Int) = ((b * n : Nat) : Int) := by rw [Int.natCast_mul]
            have e3 : (k : Int) * (n : Int) = ((k * n : Nat) : Int) := by rw [Int.natCast_mul]
            generalize a * n = an at *
            generalize b * n = bn at *
            generalize k * n = kn at *
            generalize n * n = nn at *
            clear hv hcell hfr ea eb ec HST HST2
            obtain ⟨ia, hia⟩ : ∃ ia, an + k = ia := ⟨_, rfl⟩
            obtain ⟨ib, hib⟩ : ∃ ib, bn + k = ib := ⟨_, rfl⟩
            obtain ⟨ic, hic⟩ : ∃ ic, kn + a = ic := ⟨_, rfl⟩
            have w0 : (an : Int) + (k : Int) = (ia : Int) := by omega
            have w1' : (bn : Int) + (k : Int) = (ib : Int) := by omega
            have w2' : (kn : Int) + (a : Int) = (ic : Int) := by omega
            rw [hia] at hxa ca fa HST3
            rw [hib] at hxb cb
            rw [hic] at hxc cc fc HST3
            clear hia hib hic
            have j1 : (ia : Int) < (nn : Int) := by omega
            have j2 : (ib : Int) < (nn : Int) := by omega
            have j3 : (ic : Int) < (nn : Int) := by omega
            have v1 : IntKind.i64.wrap (an : Int) = (an : Int) := IntWalk.i64_in _ (by omega)
            have v2 : IntKind.i64.wrap (bn : Int) = (bn : Int) := IntWalk.i64_in _ (by omega)
            have v3 : IntKind.i64.wrap (kn : Int) = (kn : Int) := IntWalk.i64_in _ (by omega)
            have v4 : IntKind.i64.wrap (ia : Int) = (ia : Int) := IntWalk.i64_in _ (by omega)
            have v5 : IntKind.i64.wrap (ib : Int) = (ib : Int) := IntWalk.i64_in _ (by omega)
            have v6 : IntKind.i64.wrap (ic : Int) = (ic : Int) := IntWalk.i64_in _ (by omega)
            go_wp2_with fail
            go_quiet ((go_at_call 32; refine Calls.quiet_of_same (Ret.still (mix1 _ _ _))))
            rw [HMX.out]
            go_wp2_with fail
            generalize hw4 : wr.drewN _ = w4
            have y0 : w4.cell? ⟨c, 0, none⟩ = some (.int .i64 n) := by rw [← hw4]; exact k0
            have y4 : w4.cell? ⟨c, 131, none⟩ = some (.slice (some ⟨g, 0, none⟩) nn cap) := by rw [← hw4]; exact k4
            have ya : w4.cell? ⟨g, ia, none⟩ = some (.int .i64 xa) := by rw [← hw4]; exact ca
            have yc : w4.cell? ⟨g, ic, none⟩ = some (.int .i64 (at2 n B k a)) := by rw [← hw4]; exact cc
            have za : w4.frozen? ⟨g, ia, none⟩ = false := by rw [← hw4]; exact fa
            have zc : w4.frozen? ⟨g, ic, none⟩ = false := by rw [← hw4]; exact fc
            have hm4 : Mod (fun k => v.ownBlock = some k) w3 w4 := by rw [← hw4]; exact HM.out.drewN _
            have ho4 : CObj w4 c n 1 sz v B := by rw [← hw4]; exact HOK.out.mod ((Mod.refl (fun _ => False) wr).drewN _) (fun h => h) (fun _ _ h => h)
            have FIN : Hid (CObj ((w4.setCell ⟨g, ia, none⟩ (.int .i64 mx)).setCell ⟨g, ic, none⟩ (.int .i64 mx)) c n 1 sz v (mixTo n 1 sz a b bt (k + 1)) ∧ Mod (fun k => v.ownBlock = some k) w3 ((w4.setCell ⟨g, ia, none⟩ (.int .i64 mx)).setCell ⟨g, ic, none⟩ (.int .i64 mx))) := by
              refine ⟨?_, ?_⟩
              · rw [HST3.out]; exact ho4.setBt2 HV.out HLK.out ia ic hxa hxc mx
              · exact (hm4.setCell ⟨g, ia, none⟩ (fun _ => by rw [HV.out]; rfl) _).setCell ⟨g, ic, none⟩ (fun _ => by rw [HV.out]; rfl) _
            have yc2 : ∃ u, (w4.setCell ⟨g, ia, none⟩ (.int .i64 mx)).cell? ⟨g, ic, none⟩ = some u := cell?_setCell_some (w := w4) (p := ⟨g, ia, none⟩) (x := .int .i64 mx) (q := ⟨g, ic, none⟩) (v := .int .i64 (at2 n B k a)) yc
            obtain ⟨u, hu⟩ := yc2
            clear hw4 hm4 ho4 k0 k2 k4 ca cb cc fa fc s1
            have Y0 := Lib.hid y0
            have Y4 := Lib.hid y4
            have hcg : c ≠ g := fun e => HOK.out.ne (by rw [HV.out, e]; rfl)
            go_region_held3 (fun w' => w'.cell? ⟨c, 131, none⟩ = some (.slice (some ⟨g, 0, none⟩) nn cap) ∧ w'.cell? ⟨c, 0, none⟩ = some (.int .i64 n)) ((first | exact keepA Y4 Y0 hcg | exact keepB Y4 Y0 hcg | go_keep)) (fail)
            go_wp2_with fail
            go_roundw
            case rel => exact ⟨k + 1, by omega, by go_num, FIN.out.1.mod ((Mod.refl (fun _ => False) _).drew) (fun h => h) (fun _ _ h => h), FIN.out.2.drew⟩
            case measure => simp [intOf]; omega
    · obtain rfl : k = n := by omega
      have s1 := HOK.out.cs (i := a) (by omega)
      have s2 := HOK.out.cs (i := b) (by omega)
      have sf := HOK.out.blk.free (3 + a)
      have sf2 := HOK.out.blk.free (3 + b)
      have t128a : (a : Int) < 128 := by omega
      have t128b : (b : Int) < 128 := by omega
      have hsa := HSZ.out a
      have hsb := HSZ.out b
      obtain ⟨sa, HSA⟩ : ∃ sa, Hid (sz.getD a 0 = sa) := ⟨_, rfl⟩
      obtain ⟨sb, HSB⟩ : ∃ sb, Hid (sz.getD b 0 = sb) := ⟨_, rfl⟩
      rw [HSA.out] at s1 hsa
      rw [HSB.out] at s2 hsb
      go_wp2_with fail
      refine region_tail 16 (by kernel_rfl) (by kernel_rfl) ?_
      intro w4 hw4
      have d1 : w4.cell? ⟨c, 3 + a, none⟩ = some (.int .i64 sa) := by rw [hw4]; exact s1
      have d2 : w4.cell? ⟨c, 3 + b, none⟩ = some (.int .i64 sb) := by rw [hw4]; exact s2
      have df : w4.frozen? ⟨c, 3 + a, none⟩ = false := by rw [hw4]; exact sf
      have df2 : w4.frozen? ⟨c, 3 + b, none⟩ = false := by rw [hw4]; exact sf2
      have hne3 : ¬ (3 + a = 3 + b) := by omega
      have hne4 : ¬ (3 + b = 3 + a) := by omega
      have HO4 : Hid (CObj w4 c k 1 sz v (mixTo k 1 sz a b bt k)) := by
        show CObj _ _ _ _ _ _ _
        rw [hw4]; exact HOK.out.mod ((Mod.refl (fun _ => False) wr).drew) (fun h => h) (fun _ _ h => h)
      have HM4 : Hid (Mod (fun k => v.ownBlock = some k) w3 w4) := by
        show Mod _ _ _
        rw [hw4]; exact HM.out.drew
      clear hw4 s1 s2 sf sf2 HOK HM
      simp only [List.take_succ_cons, List.take_zero, List.drop_succ_cons, List.drop_zero]
      repeat still_step
      refine wpStill_nil ?_
      go_wp2_with fail
      have HO5 := Lib.hid ((HO4.out.setSz a (by omega) (sa + sb)).setSz b (by omega) 0)
      have HM5 : Hid (Mod (fun k => k = c ∨ v.ownBlock = some k) w3 ((w4.setCell ⟨c, 3 + a, none⟩ (.int .i64 (sa + sb))).setCell ⟨c, 3 + b, none⟩ (.int .i64 0))) :=
        ((HM4.out.mono (fun _ _ h => .inr h)).setCell ⟨c, 3 + a, none⟩ (fun _ => .inl rfl) _).setCell ⟨c, 3 + b, none⟩ (fun _ => .inl rfl) _
      generalize (w4.setCell ⟨c, 3 + a, none⟩ (.int .i64 (sa + sb))).setCell ⟨c, 3 + b, none⟩ (.int .i64 0) = w5 at *
      have HU : Hid ((sz.set a (sa + sb)).set b 0 = szU sz a b) := by show _ = _; unfold szU; rw [HSA.out, HSB.out]
      have hszl := HO4.out.szl
      have hga : ((sz.set a (sa + sb)).set b 0).getD a 0 = sa + sb := by
        rw [List.getD_eq_getElem?_getD, List.getElem?_set_ne (by omega), List.getElem?_set_self (by omega)]; rfl
      have g1 := HO5.out.cs (i := a) (by omega)
      rw [hga] at g1
      have h6 := HB63.out.mod HM5.out (fun h => h.elim (fun h => by have h1 := HCL.out; omega) (fun h => (HRB.out _ h).1 rfl))
      have h8 := HB83.out.mod HM5.out (fun h => h.elim (fun h => by have h1 := HCL.out; have h2 := HLT.out; omega) (fun h => (HRB.out _ h).2 rfl))
      clear d1 d2 df df2 HO4 HM4 hga hszl
      refine region_tail 10 (by kernel_rfl) (by kernel_rfl) ?_
      intro w6 hw6
      have b6 : Blk w6 w.heap.size 39 [.int .i64 0, .int .i64 0, .int .i64 0, .int .i64 0, .int .i64 0] := by rw [hw6]; exact h6
      have b8 : Blk w6 w2.heap.size 37 [.int .i64 p, .int .i64 q] := by rw [hw6]; exact h8
      have g2 : w6.cell? ⟨c, 3 + a, none⟩ = some (.int .i64 (sa + sb)) := by rw [hw6]; exact g1
      have HO6 : Hid (CObj w6 c k 1 (szU sz a b) v (mixTo k 1 sz a b bt k)) := by
        show CObj _ _ _ _ _ _ _
        rw [hw6, ← HU.out]; exact HO5.out.mod ((Mod.refl (fun _ => False) w5).drew) (fun h => h) (fun _ _ h => h)
      have HM6 : Hid (Mod (fun k => k = c ∨ v.ownBlock = some k) w3 w6) := by
        show Mod _ _ _
        rw [hw6]; exact HM5.out.drew
      have B6 := Lib.hid b6
      have z0 := b8.cell (i := 0) rfl
      have z1 := b8.cell (i := 1) rfl
      clear hw6 g1 h6 h8 b6 b8 HO5 HM5
      simp only [List.take_succ_cons, List.take_zero, List.drop_succ_cons, List.drop_zero]
      repeat still_step
      refine wpStill_nil ?_
      refine wpList_storeBlk w.heap.size 39 _ [.int .i64 a, .int .i64 b, .int .i64 p, .int .i64 q, .int .i64 (sa + sb)] rfl rfl B6.out rfl (by kernel_rfl) (by simp [Value.oneCell']) ?_
      intro w7 B7 hm7
      have HFIN : Hid (UPost w c k 1 sz v bt a b (.returned (.agg #[.int .i64 a, .int .i64 b, .int .i64 p, .int .i64 q, .int .i64 (sa + sb)])) w7) := by
        refine ⟨?_, ?_, ?_⟩
        · rw [HX.out, HY.out, HP.out, HQ.out, HSA.out, HSB.out]
        · exact HO6.out.mod hm7 (fun h => by have h1 := HCL.out; have h2 : c = w.heap.size := h; omega) (fun x hx h => (HRB.out x hx).1 h)
        · exact ((Mod.of_below (F := fun k => k = c ∨ v.ownBlock = some k) HBB3.out).trans HM6.out (fun _ _ h => h)).trans hm7 (fun x hx h => by have h2 : x = w.heap.size := h; omega)
      have z2 := B7.cell (i := 0) rfl
      have z3 := B7.cell (i := 1) rfl
      have z4 := B7.cell (i := 2) rfl
      have z5 := B7.cell (i := 3) rfl
      have z6 := B7.cell (i := 4) rfl
      clear B7 hm7
      go_wp2_with fail
      refine bodyPost_ret (v := .agg #[.int .i64 a, .int .i64 b, .int .i64 p, .int .i64 q, .int .i64 (sa + sb)]) ?_ rfl HFIN.out
      simp [results, Try.results17, go_sem, z2, z3, z4, z5, z6]

set_option maxHeartbeats 8000000 in
set_option maxRecDepth 100000 in
theorem unite2 (w : World) (c n : Nat) (sz : List Int) (v : Value) (bt : List Int) (h : CObj w c n 2 sz v bt) (hn : n ≤ 128) (hl : bt.length = n * n) (a b : Nat) (ha : a < n) (hb : b < n) (hab : a ≠ b)
    (hsz : ∀ i, 0 ≤ sz.getD i 0 ∧ sz.getD i 0 ≤ 128) (hN : 0 ≤ at2 n bt a b) (hN2 : at2 n bt a b < 9223372036854775808) (hD : 0 < dD 2 sz a b) (hD2 : dD 2 sz a b ≤ 16384) :
    Calls Try.prog 17 #[.pointer (some ⟨c, 0, none⟩), .int .i64 a, .int .i64 b] w (UPost w c n 2 sz v bt a b) := by
  have HO := Lib.hid h
  have HL := Lib.hid hl
  have HSZ := Lib.hid hsz
  have HCL : Hid (c < w.heap.size) := h.blk.lt
  have HVL : Hid (∀ k, v.ownBlock = some k → k < w.heap.size) := fun k hk => (h.row.lt k hk).2
  clear h hl hsz
  go_enter Try.func17, Try.ntmps17
  go_wp2_with fail
  generalize hW : World.alloc w _ = W
  have B6 : Blk W w.heap.size 39 [.int .i64 0, .int .i64 0, .int .i64 0, .int .i64 0, .int .i64 0] := by rw [← hW]; exact Blk.new w _ _
  have hb1 : Below w.heap.size w W := by rw [← hW]; exact (Below.refl _ _).alloc (Nat.le_refl _) _
  have HB6 := Lib.hid B6
  have HB := Lib.hid hb1
  have HOW := Lib.hid (HO.out.below hb1)
  clear hW B6 hb1
  with_reducible refine (distance_ok W c n _ sz v bt HOW.out hn HL.out a b ha hb HSZ.out).mono ?_
  rintro e w1 ⟨rfl, hb2⟩
  have HB6' := Lib.hid (HB6.out.below hb2 HB6.out.lt)
  have HO1 := Lib.hid (HOW.out.below hb2)
  have HBB1 := Lib.hid (bel_then HB.out hb2)
  clear hb2 HB6 HOW HB HO
  obtain ⟨x, HX⟩ : ∃ x, Hid (at2 n bt a b = x) := ⟨_, rfl⟩
  obtain ⟨y, HY⟩ : ∃ y, Hid (dD 2 sz a b = y) := ⟨_, rfl⟩
  rw [HX.out] at hN hN2 ⊢
  rw [HY.out] at hD hD2 ⊢
  go_wp2_with fail
  with_reducible refine (reduce_int x y hN hN2 hD (by omega) _).mono ?_
  rintro e w2 ⟨rfl, hb2⟩
  have hb3 : Below w1.heap.size w1 w2 := bel_then ((Below.refl _ _).alloc (Nat.le_refl _) _) hb2
  have HB6 := Lib.hid (HB6'.out.below hb3 HB6'.out.lt)
  have HO2 := Lib.hid (HO1.out.below hb3)
  have HBB2 := Lib.hid (bel_then HBB1.out hb3)
  clear hb2 hb3 HB6' HO1 HBB1
  obtain ⟨p, HP⟩ : ∃ p, Hid (lowN x y = p) := ⟨_, rfl⟩
  obtain ⟨q, HQ⟩ : ∃ q, Hid (lowD x y = q) := ⟨_, rfl⟩
  rw [HP.out, HQ.out]
  have hal : Below w2.heap.size w2 (w2.alloc (.cells #[.int .i64 p, .int .i64 q] 37)) := (Below.refl _ _).alloc (Nat.le_refl _) _
  have HO3 := Lib.hid (HO2.out.below hal)
  have HB63 := Lib.hid (HB6.out.below hal HB6.out.lt)
  have HB83 := Lib.hid (Blk.new w2 37 [.int .i64 p, .int .i64 q])
  have HBB3 := Lib.hid (bel_then HBB2.out hal)
  have k0 := HO3.out.c0
  have HLT : Hid (w.heap.size ≤ w2.heap.size) := HBB2.out.size
  clear hal HO2 HB6 HBB2
  go_wp2_with fail
  generalize hW3 : w2.alloc _ = w3 at *
  clear hW3 k0
  have HRB : Hid (∀ k, v.ownBlock = some k → k ≠ w.heap.size ∧ k ≠ w2.heap.size) := fun k hk => by
    have h1 := HVL.out k hk
    have h2 := HLT.out
    omega
  go_loopw [28] (fun s wr => ∃ k : Nat, k ≤ n ∧ s = .int .i64 k ∧ CObj wr c n 2 sz v (mixTo n 2 sz a b bt k) ∧ Mod (fun k => v.ownBlock = some k) w3 wr) (fun s _ => n - (intOf s).toNat)
  case atStart => exact ⟨0, Nat.zero_le _, rfl, HO3.out, Mod.refl _ _⟩
  case round =>
    obtain ⟨k, hk, rfl, ho, hm⟩ := hrel
    have HOK := Lib.hid ho
    have HM := Lib.hid hm
    have HLK := Lib.hid ((mixTo_length n 2 sz a b bt k).trans HL.out)
    clear ho hm
    by_cases hkn : k < n
    · have s1 := HOK.out.cs (i := k) (by omega)
      have i128 : (k : Int) < 128 := by omega
      obtain ⟨sk, HSK⟩ : ∃ sk, Hid (sz.getD k 0 = sk) := ⟨_, rfl⟩
      rw [HSK.out] at s1
      have HST : Hid (sk = 0 ∨ k = a ∨ k = b → mixTo n 2 sz a b bt (k + 1) = mixTo n 2 sz a b bt k) := by
        intro hh
        rw [← HSK.out] at hh
        simp only [mixTo]
        rw [if_pos hh]
      by_cases h0 : sk = 0
      · have t1 : (sk == 0) = true := by simp [h0]
        have H0 := Lib.hid h0
        clear h0
        go_wp2_with fail
        go_roundw
        case rel => exact ⟨k + 1, by omega, by go_num, by rw [HST.out (.inl H0.out)]; exact HOK.out, HM.out⟩
        case measure => simp [intOf]; omega
      · have t1 : (sk == 0) = false := by simp [h0]
        have H0 := Lib.hid h0
        clear h0
        by_cases hka : k = a
        · have t2 : ((k : Int) == (a : Int)) = true := by simp [hka]
          have HK := Lib.hid hka
          clear hka
          go_wp2_with fail
          go_roundw
          case rel => exact ⟨k + 1, by omega, by go_num, by rw [HST.out (.inr (.inl HK.out))]; exact HOK.out, HM.out⟩
          case measure => simp [intOf]; omega
        · have t2 : ((k : Int) == (a : Int)) = false := by simp; omega
          by_cases hkb : k = b
          · have t3 : ((k : Int) == (b : Int)) = true := by simp [hkb]
            have HK := Lib.hid hkb
            clear hkb hka
            go_wp2_with fail
            go_roundw
            case rel => exact ⟨k + 1, by omega, by go_num, by rw [HST.out (.inr (.inr HK.out))]; exact HOK.out, HM.out⟩
            case measure => simp [intOf]; omega
          · have t3 : ((k : Int) == (b : Int)) = false := by simp; omega
            have hxa : a * n + k < n * n := idx_lt ha hkn
            have hxb : b * n + k < n * n := idx_lt hb hkn
            have hxc : k * n + a < n * n := idx_lt hkn ha
            have hnn : n * n ≤ 16384 := Nat.mul_le_mul hn hn
            obtain ⟨g, cap, hv, hc1, hc2, hg, hcell, hfr⟩ := owns_form HOK.out.row (by rw [HLK.out]; omega)
            rw [HLK.out] at hv hcell
            have HV := Lib.hid hv
            have HST2 : Hid (mixTo n 2 sz a b bt (k + 1) = ((mixTo n 2 sz a b bt k).set (a * n + k) (mixV 2 (at2 n (mixTo n 2 sz a b bt k) a k) (at2 n (mixTo n 2 sz a b bt k) b k))).set (k * n + a) (mixV 2 (at2 n (mixTo n 2 sz a b bt k) a k) (at2 n (mixTo n 2 sz a b bt k) b k))) := by
              have h0 := H0.out
              rw [← HSK.out] at h0
              simp only [mixTo]
              rw [if_neg (by omega)]
              exact rfl
            generalize hB : mixTo n 2 sz a b bt k = B at *
            have HBE := Lib.hid hB
            clear hB
            have ca := hcell (a * n + k) (by omega)
            have cb := hcell (b * n + k) (by omega)
            have cc := hcell (k * n + a) (by omega)
            have ea : (B.map fun x => Value.int .i64 x)[a * n + k]? = some (.int .i64 (at2 n B a k)) := map_at2 (by rw [HLK.out]; omega)
            have eb : (B.map fun x => Value.int .i64 x)[b * n + k]? = some (.int .i64 (at2 n B b k)) := map_at2 (by rw [HLK.out]; omega)
            have ec : (B.map fun x => Value.int .i64 x)[k * n + a]? = some (.int .i64 (at2 n B k a)) := map_at2 (by rw [HLK.out]; omega)
            rw [ea] at ca
            rw [eb] at cb
            rw [ec] at cc
            have fa := hfr (a * n + k)
            have fc := hfr (k * n + a)
            obtain ⟨xa, HXA⟩ : ∃ xa, Hid (at2 n B a k = xa) := ⟨_, rfl⟩
            obtain ⟨xb, HXB⟩ : ∃ xb, Hid (at2 n B b k = xb) := ⟨_, rfl⟩
            obtain ⟨mx, HMX⟩ : ∃ mx, Hid (mixV 2 xa xb = mx) := ⟨_, rfl⟩
            rw [HXA.out] at ca
            rw [HXB.out] at cb
            have HST3 : Hid (mixTo n 2 sz a b bt (k + 1) = (B.set (a * n + k) mx).set (k * n + a) mx) := by
              have := HST2.out
              rw [HXA.out, HXB.out, HMX.out] at this
              exact this
            have k0 := HOK.out.c0
            have k2 : wr.cell? ⟨c, 2, none⟩ = some (.func (.func 33) #[] #[]) := by simpa [mixF] using HOK.out.c2
            have k4 := HOK.out.cv
            rw [hv] at k4
            have e1 : (a : Int) * (n : Int) = ((a * n : Nat) : Int) := by rw [Int.natCast_mul]
            have e2 : (b : Int) * (n : Int) = ((b * n : Nat) : Int) := by rw [Int.natCast_mul]
            have e3 : (k : Int) * (n : Int) = ((k * n : Nat) : Int) := by rw [Int.natCast_mul]
            generalize a * n = an at *
            generalize b * n = bn at *
            generalize k * n = kn at *
            generalize n * n = nn at *
            clear hv hcell hfr ea eb ec HST HST2
            obtain ⟨ia, hia⟩ : ∃ ia, an + k = ia := ⟨_, rfl⟩
            obtain ⟨ib, hib⟩ : ∃ ib, bn + k = ib := ⟨_, rfl⟩
            obtain ⟨ic, hic⟩ : ∃ ic, kn + a = ic := ⟨_, rfl⟩
            have w0 : (an : Int) + (k : Int) = (ia : Int) := by omega
            have w1' : (bn : Int) + (k : Int) = (ib : Int) := by omega
            have w2' : (kn : Int) + (a : Int) = (ic : Int) := by omega
            rw [hia] at hxa ca fa HST3
            rw [hib] at hxb cb
            rw [hic] at hxc cc fc HST3
            clear hia hib hic
            have j1 : (ia : Int) < (nn : Int) := by omega
            have j2 : (ib : Int) < (nn : Int) := by omega
            have j3 : (ic : Int) < (nn : Int) := by omega
            have v1 : IntKind.i64.wrap (an : Int) = (an : Int) := IntWalk.i64_in _ (by omega)
            have v2 : IntKind.i64.wrap (bn : Int) = (bn : Int) := IntWalk.i64_in _ (by omega)
            have v3 : IntKind.i64.wrap (kn : Int) = (kn : Int) := IntWalk.i64_in _ (by omega)
            have v4 : IntKind.i64.wrap (ia : Int) = (ia : Int) := IntWalk.i64_in _ (by omega)
            have v5 : IntKind.i64.wrap (ib : Int) = (ib : Int) := IntWalk.i64_in _ (by omega)
            have v6 : IntKind.i64.wrap (ic : Int) = (ic : Int) := IntWalk.i64_in _ (by omega)
            go_wp2_with fail
            go_quiet ((go_at_call 33; refine Calls.quiet_of_same (Ret.still (mix2 _ _ _))))
            rw [HMX.out]
            go_wp2_with fail
            generalize hw4 : wr.drewN _ = w4
            have y0 : w4.cell? ⟨c, 0, none⟩ = some (.int .i64 n) := by rw [← hw4]; exact k0
            have y4 : w4.cell? ⟨c, 131, none⟩ = some (.slice (some ⟨g, 0, none⟩) nn cap) := by rw [← hw4]; exact k4
            have ya : w4.cell? ⟨g, ia, none⟩ = some (.int .i64 xa) := by rw [← hw4]; exact ca
            have yc : w4.cell? ⟨g, ic, none⟩ = some (.int .i64 (at2 n B k a)) := by rw [← hw4]; exact cc
            have za : w4.frozen? ⟨g, ia, none⟩ = false := by rw [← hw4]; exact fa
            have zc : w4.frozen? ⟨g, ic, none⟩ = false := by rw [← hw4]; exact fc
            have hm4 : Mod (fun k => v.ownBlock = some k) w3 w4 := by rw [← hw4]; exact HM.out.drewN _
            have ho4 : CObj w4 c n 2 sz v B := by rw [← hw4]; exact HOK.out.mod ((Mod.refl (fun _ => False) wr).drewN _) (fun h => h) (fun _ _ h => h)
            have FIN : Hid (CObj ((w4.setCell ⟨g, ia, none⟩ (.int .i64 mx)).setCell ⟨g, ic, none⟩ (.int .i64 mx)) c n 2 sz v (mixTo n 2 sz a b bt (k + 1)) ∧ Mod (fun k => v.ownBlock = some k) w3 ((w4.setCell ⟨g, ia, none⟩ (.int .i64 mx)).setCell ⟨g, ic, none⟩ (.int .i64 mx))) := by
              refine ⟨?_, ?_⟩
              · rw [HST3.out]; exact ho4.setBt2 HV.out HLK.out ia ic hxa hxc mx
              · exact (hm4.setCell ⟨g, ia, none⟩ (fun _ => by rw [HV.out]; rfl) _).setCell ⟨g, ic, none⟩ (fun _ => by rw [HV.out]; rfl) _
            have yc2 : ∃ u, (w4.setCell ⟨g, ia, none⟩ (.int .i64 mx)).cell? ⟨g, ic, none⟩ = some u := cell?_setCell_some (w := w4) (p := ⟨g, ia, none⟩) (x := .int .i64 mx) (q := ⟨g, ic, none⟩) (v := .int .i64 (at2 n B k a)) yc
            obtain ⟨u, hu⟩ := yc2
            clear hw4 hm4 ho4 k0 k2 k4 ca cb cc fa fc s1
            have Y0 := Lib.hid y0
            have Y4 := Lib.hid y4
            have hcg : c ≠ g := fun e => HOK.out.ne (by rw [HV.out, e]; rfl)
            go_region_held3 (fun w' => w'.cell? ⟨c, 131, none⟩ = some (.slice (some ⟨g, 0, none⟩) nn cap) ∧ w'.cell? ⟨c, 0, none⟩ = some (.int .i64 n)) ((first | exact keepA Y4 Y0 hcg | exact keepB Y4 Y0 hcg | go_keep)) (fail)
            go_wp2_with fail
            go_roundw
            case rel => exact ⟨k + 1, by omega, by go_num, FIN.out.1.mod ((Mod.refl (fun _ => False) _).drew) (fun h => h) (fun _ _ h => h), FIN.out.2.drew⟩
            case measure => simp [intOf]; omega
    · obtain rfl : k = n := by omega
      have s1 := HOK.out.cs (i := a) (by omega)
      have s2 := HOK.out.cs (i := b) (by omega)
      have sf := HOK.out.blk.free (3 + a)
      have sf2 := HOK.out.blk.free (3 + b)
      have t128a : (a : Int) < 128 := by omega
      have t128b : (b : Int) < 128 := by omega
      have hsa := HSZ.out a
      have hsb := HSZ.out b
      obtain ⟨sa, HSA⟩ : ∃ sa, Hid (sz.getD a 0 = sa) := ⟨_, rfl⟩
      obtain ⟨sb, HSB⟩ : ∃ sb, Hid (sz.getD b 0 = sb) := ⟨_, rfl⟩
      rw [HSA.out] at s1 hsa
      rw [HSB.out] at s2 hsb
      go_wp2_with fail
      refine region_tail 16 (by kernel_rfl) (by kernel_rfl) ?_
      intro w4 hw4
      have d1 : w4.cell? ⟨c, 3 + a, none⟩ = some (.int .i64 sa) := by rw [hw4]; exact s1
      have d2 : w4.cell? ⟨c, 3 + b, none⟩ = some (.int .i64 sb) := by rw [hw4]; exact s2
      have df : w4.frozen? ⟨c, 3 + a, none⟩ = false := by rw [hw4]; exact sf
      have df2 : w4.frozen? ⟨c, 3 + b, none⟩ = false := by rw [hw4]; exact sf2
      have hne3 : ¬ (3 + a = 3 + b) := by omega
      have hne4 : ¬ (3 + b = 3 + a) := by omega
      have HO4 : Hid (CObj w4 c k 2 sz v (mixTo k 2 sz a b bt k)) := by
        show CObj _ _ _ _ _ _ _
        rw [hw4]; exact HOK.out.mod ((Mod.refl (fun _ => False) wr).drew) (fun h => h) (fun _ _ h => h)
      have HM4 : Hid (Mod (fun k => v.ownBlock = some k) w3 w4) := by
        show Mod _ _ _
        rw [hw4]; exact HM.out.drew
      clear hw4 s1 s2 sf sf2 HOK HM
      simp only [List.take_succ_cons, List.take_zero, List.drop_succ_cons, List.drop_zero]
      repeat still_step
      refine wpStill_nil ?_
      go_wp2_with fail
      have HO5 := Lib.hid ((HO4.out.setSz a (by omega) (sa + sb)).setSz b (by omega) 0)
      have HM5 : Hid (Mod (fun k => k = c ∨ v.ownBlock = some k) w3 ((w4.setCell ⟨c, 3 + a, none⟩ (.int .i64 (sa + sb))).setCell ⟨c, 3 + b, none⟩ (.int .i64 0))) :=
        ((HM4.out.mono (fun _ _ h => .inr h)).setCell ⟨c, 3 + a, none⟩ (fun _ => .inl rfl) _).setCell ⟨c, 3 + b, none⟩ (fun _ => .inl rfl) _
      generalize (w4.setCell ⟨c, 3 + a, none⟩ (.int .i64 (sa + sb))).setCell ⟨c, 3 + b, none⟩ (.int .i64 0) = w5 at *
      have HU : Hid ((sz.set a (sa + sb)).set b 0 = szU sz a b) := by show _ = _; unfold szU; rw [HSA.out, HSB.out]
      have hszl := HO4.out.szl
      have hga : ((sz.set a (sa + sb)).set b 0).getD a 0 = sa + sb := by
        rw [List.getD_eq_getElem?_getD, List.getElem?_set_ne (by omega), List.getElem?_set_self (by omega)]; rfl
      have g1 := HO5.out.cs (i := a) (by omega)
      rw [hga] at g1
      have h6 := HB63.out.mod HM5.out (fun h => h.elim (fun h => by have h1 := HCL.out; omega) (fun h => (HRB.out _ h).1 rfl))
      have h8 := HB83.out.mod HM5.out (fun h => h.elim (fun h => by have h1 := HCL.out; have h2 := HLT.out; omega) (fun h => (HRB.out _ h).2 rfl))
      clear d1 d2 df df2 HO4 HM4 hga hszl
      refine region_tail 10 (by kernel_rfl) (by kernel_rfl) ?_
      intro w6 hw6
      have b6 : Blk w6 w.heap.size 39 [.int .i64 0, .int .i64 0, .int .i64 0, .int .i64 0, .int .i64 0] := by rw [hw6]; exact h6
      have b8 : Blk w6 w2.heap.size 37 [.int .i64 p, .int .i64 q] := by rw [hw6]; exact h8
      have g2 : w6.cell? ⟨c, 3 + a, none⟩ = some (.int .i64 (sa + sb)) := by rw [hw6]; exact g1
      have HO6 : Hid (CObj w6 c k 2 (szU sz a b) v (mixTo k 2 sz a b bt k)) := by
        show CObj _ _ _ _ _ _ _
        rw [hw6, ← HU.out]; exact HO5.out.mod ((Mod.refl (fun _ => False) w5).drew) (fun h => h) (fun _ _ h => h)
      have HM6 : Hid (Mod (fun k => k = c ∨ v.ownBlock = some k) w3 w6) := by
        show Mod _ _ _
        rw [hw6]; exact HM5.out.drew
      have B6 := Lib.hid b6
      have z0 := b8.cell (i := 0) rfl
      have z1 := b8.cell (i := 1) rfl
      clear hw6 g1 h6 h8 b6 b8 HO5 HM5
      simp only [List.take_succ_cons, List.take_zero, List.drop_succ_cons, List.drop_zero]
      repeat still_step
      refine wpStill_nil ?_
      refine wpList_storeBlk w.heap.size 39 _ [.int .i64 a, .int .i64 b, .int .i64 p, .int .i64 q, .int .i64 (sa + sb)] rfl rfl B6.out rfl (by kernel_rfl) (by simp [Value.oneCell']) ?_
      intro w7 B7 hm7
      have HFIN : Hid (UPost w c k 2 sz v bt a b (.returned (.agg #[.int .i64 a, .int .i64 b, .int .i64 p, .int .i64 q, .int .i64 (sa + sb)])) w7) := by
        refine ⟨?_, ?_, ?_⟩
        · rw [HX.out, HY.out, HP.out, HQ.out, HSA.out, HSB.out]
        · exact HO6.out.mod hm7 (fun h => by have h1 := HCL.out; have h2 : c = w.heap.size := h; omega) (fun x hx h => (HRB.out x hx).1 h)
        · exact ((Mod.of_below (F := fun k => k = c ∨ v.ownBlock = some k) HBB3.out).trans HM6.out (fun _ _ h => h)).trans hm7 (fun x hx h => by have h2 : x = w.heap.size := h; omega)
      have z2 := B7.cell (i := 0) rfl
      have z3 := B7.cell (i := 1) rfl
      have z4 := B7.cell (i := 2) rfl
      have z5 := B7.cell (i := 3) rfl
      have z6 := B7.cell (i := 4) rfl
      clear B7 hm7
      go_wp2_with fail
      refine bodyPost_ret (v := .agg #[.int .i64 a, .int .i64 b, .int .i64 p, .int .i64 q, .int .i64 (sa + sb)]) ?_ rfl HFIN.out
      simp [results, Try.results17, go_sem, z2, z3, z4, z5, z6]

set_option maxHeartbeats 8000000 in
set_option maxRecDepth 100000 in
theorem unite3 (w : World) (c n : Nat) (sz : List Int) (v : Value) (bt : List Int) (h : CObj w c n 3 sz v bt) (hn : n ≤ 128) (hl : bt.length = n * n) (a b : Nat) (ha : a < n) (hb : b < n) (hab : a ≠ b)
    (hsz : ∀ i, 0 ≤ sz.getD i 0 ∧ sz.getD i 0 ≤ 128) (hN : 0 ≤ at2 n bt a b) (hN2 : at2 n bt a b < 9223372036854775808) (hD : 0 < dD 3 sz a b) (hD2 : dD 3 sz a b ≤ 16384) :
    Calls Try.prog 17 #[.pointer (some ⟨c, 0, none⟩), .int .i64 a, .int .i64 b] w (UPost w c n 3 sz v bt a b) := by
  have HO := Lib.hid h
  have HL := Lib.hid hl
  have HSZ := Lib.hid hsz
  have HCL : Hid (c < w.heap.size) := h.blk.lt
  have HVL : Hid (∀ k, v.ownBlock = some k → k < w.heap.size) := fun k hk => (h.row.lt k hk).2
  clear h hl hsz
  go_enter Try.func17, Try.ntmps17
  go_wp2_with fail
  generalize hW : World.alloc w _ = W
  have B6 : Blk W w.heap.size 39 [.int .i64 0, .int .i64 0, .int .i64 0, .int .i64 0, .int .i64 0] := by rw [← hW]; exact Blk.new w _ _
  have hb1 : Below w.heap.size w W := by rw [← hW]; exact (Below.refl _ _).alloc (Nat.le_refl _) _
  have HB6 := Lib.hid B6
  have HB := Lib.hid hb1
  have HOW := Lib.hid (HO.out.below hb1)
  clear hW B6 hb1
  with_reducible refine (distance_ok W c n _ sz v bt HOW.out hn HL.out a b ha hb HSZ.out).mono ?_
  rintro e w1 ⟨rfl, hb2⟩
  have HB6' := Lib.hid (HB6.out.below hb2 HB6.out.lt)
  have HO1 := Lib.hid (HOW.out.below hb2)
  have HBB1 := Lib.hid (bel_then HB.out hb2)
  clear hb2 HB6 HOW HB HO
  obtain ⟨x, HX⟩ : ∃ x, Hid (at2 n bt a b = x) := ⟨_, rfl⟩
  obtain ⟨y, HY⟩ : ∃ y, Hid (dD 3 sz a b = y) := ⟨_, rfl⟩
  rw [HX.out] at hN hN2 ⊢
  rw [HY.out] at hD hD2 ⊢
  go_wp2_with fail
  with_reducible refine (reduce_int x y hN hN2 hD (by omega) _).mono ?_
  rintro e w2 ⟨rfl, hb2⟩
  have hb3 : Below w1.heap.size w1 w2 := bel_then ((Below.refl _ _).alloc (Nat.le_refl _) _) hb2
  have HB6 := Lib.hid (HB6'.out.below hb3 HB6'.out.lt)
  have HO2 := Lib.hid (HO1.out.below hb3)
  have HBB2 := Lib.hid (bel_then HBB1.out hb3)
  clear hb2 hb3 HB6' HO1 HBB1
  obtain ⟨p, HP⟩ : ∃ p, Hid (lowN x y = p) := ⟨_, rfl⟩
  obtain ⟨q, HQ⟩ : ∃ q, Hid (lowD x y = q) := ⟨_, rfl⟩
  rw [HP.out, HQ.out]
  have hal : Below w2.heap.size w2 (w2.alloc (.cells #[.int .i64 p, .int .i64 q] 37)) := (Below.refl _ _).alloc (Nat.le_refl _) _
  have HO3 := Lib.hid (HO2.out.below hal)
  have HB63 := Lib.hid (HB6.out.below hal HB6.out.lt)
  have HB83 := Lib.hid (Blk.new w2 37 [.int .i64 p, .int .i64 q])
  have HBB3 := Lib.hid (bel_then HBB2.out hal)
  have k0 := HO3.out.c0
  have HLT : Hid (w.heap.size ≤ w2.heap.size) := HBB2.out.size
  clear hal HO2 HB6 HBB2
  go_wp2_with fail
  generalize hW3 : w2.alloc _ = w3 at *
  clear hW3 k0
  have HRB : Hid (∀ k, v.ownBlock = some k → k ≠ w.heap.size ∧ k ≠ w2.heap.size) := fun k hk => by
    have h1 := HVL.out k hk
    have h2 := HLT.out
    omega
  go_loopw [28] (fun s wr => ∃ k : Nat, k ≤ n ∧ s = .int .i64 k ∧ CObj wr c n 3 sz v (mixTo n 3 sz a b bt k) ∧ Mod (fun k => v.ownBlock = some k) w3 wr) (fun s _ => n - (intOf s).toNat)
  case atStart => exact ⟨0, Nat.zero_le _, rfl, HO3.out, Mod.refl _ _⟩
  case round =>
    obtain ⟨k, hk, rfl, ho, hm⟩ := hrel
    have HOK := Lib.hid ho
    have HM := Lib.hid hm
    have HLK := Lib.hid ((mixTo_length n 3 sz a b bt k).trans HL.out)
    clear ho hm
    by_cases hkn : k < n
    · have s1 := HOK.out.cs (i := k) (by omega)
      have i128 : (k : Int) < 128 := by omega
      obtain ⟨sk, HSK⟩ : ∃ sk, Hid (sz.getD k 0 = sk) := ⟨_, rfl⟩
      rw [HSK.out] at s1
      have HST : Hid (sk = 0 ∨ k = a ∨ k = b → mixTo n 3 sz a b bt (k + 1) = mixTo n 3 sz a b bt k) := by
        intro hh
        rw [← HSK.out] at hh
        simp only [mixTo]
        rw [if_pos hh]
      by_cases h0 : sk = 0
      · have t1 : (sk == 0) = true := by simp [h0]
        have H0 := Lib.hid h0
        clear h0
        go_wp2_with fail
        go_roundw
        case rel => exact ⟨k + 1, by omega, by go_num, by rw [HST.out (.inl H0.out)]; exact HOK.out, HM.out⟩
        case measure => simp [intOf]; omega
      · have t1 : (sk == 0) = false := by simp [h0]
        have H0 := Lib.hid h0
        clear h0
        by_cases hka : k = a
        · have t2 : ((k : Int) == (a : Int)) = true := by simp [hka]
          have HK := Lib.hid hka
          clear hka
          go_wp2_with fail
          go_roundw
          case rel => exact ⟨k + 1, by omega, by go_num, by rw [HST.out (.inr (.inl HK.out))]; exact HOK.out, HM.out⟩
          case measure => simp [intOf]; omega
        · have t2 : ((k : Int) == (a : Int)) = false := by simp; omega
          by_cases hkb : k = b
          · have t3 : ((k : Int) == (b : Int)) = true := by simp [hkb]
            have HK := Lib.hid hkb
            clear hkb hka
            go_wp2_with fail
            go_roundw
            case rel => exact ⟨k + 1, by omega, by go_num, by rw [HST.out (.inr (.inr HK.out))]; exact HOK.out, HM.out⟩
            case measure => simp [intOf]; omega
          · have t3 : ((k : Int) == (b : Int)) = false := by simp; omega
            have hxa : a * n + k < n * n := idx_lt ha hkn
            have hxb : b * n + k < n * n := idx_lt hb hkn
            have hxc : k * n + a < n * n := idx_lt hkn ha
            have hnn : n * n ≤ 16384 := Nat.mul_le_mul hn hn
            obtain ⟨g, cap, hv, hc1, hc2, hg, hcell, hfr⟩ := owns_form HOK.out.row (by rw [HLK.out]; omega)
            rw [HLK.out] at hv hcell
            have HV := Lib.hid hv
            have HST2 : Hid (mixTo n 3 sz a b bt (k + 1) = ((mixTo n 3 sz a b bt k).set (a * n + k) (mixV 3 (at2 n (mixTo n 3 sz a b bt k) a k) (at2 n (mixTo n 3 sz a b bt k) b k))).set (k * n + a) (mixV 3 (at2 n (mixTo n 3 sz a b bt k) a k) (at2 n (mixTo n 3 sz a b bt k) b k))) := by
              have h0 := H0.out
              rw [← HSK.out] at h0
              simp only [mixTo]
              rw [if_neg (by omega)]
              exact rfl
            generalize hB : mixTo n 3 sz a b bt k = B at *
            have HBE := Lib.hid hB
            clear hB
            have ca := hcell (a * n + k) (by omega)
            have cb := hcell (b * n + k) (by omega)
            have cc := hcell (k * n + a) (by omega)
            have ea : (B.map fun x => Value.int .i64 x)[a * n + k]? = some (.int .i64 (at2 n B a k)) := map_at2 (by rw [HLK.out]; omega)
            have eb : (B.map fun x => Value.int .i64 x)[b * n + k]? = some (.int .i64 (at2 n B b k)) := map_at2 (by rw [HLK.out]; omega)
            have ec : (B.map fun x => Value.int .i64 x)[k * n + a]? = some (.int .i64 (at2 n B k a)) := map_at2 (by rw [HLK.out]; omega)
            rw [ea] at ca
            rw [eb] at cb
            rw [ec] at cc
            have fa := hfr (a * n + k)
            have fc := hfr (k * n + a)
            obtain ⟨xa, HXA⟩ : ∃ xa, Hid (at2 n B a k = xa) := ⟨_, rfl⟩
            obtain ⟨xb, HXB⟩ : ∃ xb, Hid (at2 n B b k = xb) := ⟨_, rfl⟩
            obtain ⟨mx, HMX⟩ : ∃ mx, Hid (mixV 3 xa xb = mx) := ⟨_, rfl⟩
            rw [HXA.out] at ca
            rw [HXB.out] at cb
            have HST3 : Hid (mixTo n 3 sz a b bt (k + 1) = (B.set (a * n + k) mx).set (k * n + a) mx) := by
              have := HST2.out
              rw [HXA.out, HXB.out, HMX.out] at this
              exact this
            have k0 := HOK.out.c0
            have k2 : wr.cell? ⟨c, 2, none⟩ = some (.func (.func 34) #[] #[]) := by simpa [mixF] using HOK.out.c2
            have k4 := HOK.out.cv
            rw [hv] at k4
            have e1 : (a : Int) * (n : Int) = ((a * n : Nat) : Int) := by rw [Int.natCast_mul]
            have e2 : (b : Int) * (n : Int) = ((b * n : Nat) : Int) := by rw [Int.natCast_mul]
            have e3 : (k : Int) * (n : Int) = ((k * n : Nat) : Int) := by rw [Int.natCast_mul]
            generalize a * n = an at *
            generalize b * n = bn at *
            generalize k * n = kn at *
            generalize n * n = nn at *
            clear hv hcell hfr ea eb ec HST HST2
            obtain ⟨ia, hia⟩ : ∃ ia, an + k = ia := ⟨_, rfl⟩
            obtain ⟨ib, hib⟩ : ∃ ib, bn + k = ib := ⟨_, rfl⟩
            obtain ⟨ic, hic⟩ : ∃ ic, kn + a = ic := ⟨_, rfl⟩
            have w0 : (an : Int) + (k : Int) = (ia : Int) := by omega
            have w1' : (bn : Int) + (k : Int) = (ib : Int) := by omega
            have w2' : (kn : Int) + (a : Int) = (ic : Int) := by omega
            rw [hia] at hxa ca fa HST3
            rw [hib] at hxb cb
            rw [hic] at hxc cc fc HST3
            clear hia hib hic
            have j1 : (ia : Int) < (nn : Int) := by omega
            have j2 : (ib : Int) < (nn : Int) := by omega
            have j3 : (ic : Int) < (nn : Int) := by omega
            have v1 : IntKind.i64.wrap (an : Int) = (an : Int) := IntWalk.i64_in _ (by omega)
            have v2 : IntKind.i64.wrap (bn : Int) = (bn : Int) := IntWalk.i64_in _ (by omega)
            have v3 : IntKind.i64.wrap (kn : Int) = (kn : Int) := IntWalk.i64_in _ (by omega)
            have v4 : IntKind.i64.wrap (ia : Int) = (ia : Int) := IntWalk.i64_in _ (by omega)
            have v5 : IntKind.i64.wrap (ib : Int) = (ib : Int) := IntWalk.i64_in _ (by omega)
            have v6 : IntKind.i64.wrap (ic : Int) = (ic : Int) := IntWalk.i64_in _ (by omega)
            go_wp2_with fail
            go_quiet ((go_at_call 34; refine Calls.quiet_of_same (Ret.still (mix3 _ _ _))))
            rw [HMX.out]
            go_wp2_with fail
            generalize hw4 : wr.drewN _ = w4
            have y0 : w4.cell? ⟨c, 0, none⟩ = some (.int .i64 n) := by rw [← hw4]; exact k0
            have y4 : w4.cell? ⟨c, 131, none⟩ = some (.slice (some ⟨g, 0, none⟩) nn cap) := by rw [← hw4]; exact k4
            have ya : w4.cell? ⟨g, ia, none⟩ = some (.int .i64 xa) := by rw [← hw4]; exact ca
            have yc : w4.cell? ⟨g, ic, none⟩ = some (.int .i64 (at2 n B k a)) := by rw [← hw4]; exact cc
            have za : w4.frozen? ⟨g, ia, none⟩ = false := by rw [← hw4]; exact fa
            have zc : w4.frozen? ⟨g, ic, none⟩ = false := by rw [← hw4]; exact fc
            have hm4 : Mod (fun k => v.ownBlock = some k) w3 w4 := by rw [← hw4]; exact HM.out.drewN _
            have ho4 : CObj w4 c n 3 sz v B := by rw [← hw4]; exact HOK.out.mod ((Mod.refl (fun _ => False) wr).drewN _) (fun h => h) (fun _ _ h => h)
            have FIN : Hid (CObj ((w4.setCell ⟨g, ia, none⟩ (.int .i64 mx)).setCell ⟨g, ic, none⟩ (.int .i64 mx)) c n 3 sz v (mixTo n 3 sz a b bt (k + 1)) ∧ Mod (fun k => v.ownBlock = some k) w3 ((w4.setCell ⟨g, ia, none⟩ (.int .i64 mx)).setCell ⟨g, ic, none⟩ (.int .i64 mx))) := by
              refine ⟨?_, ?_⟩
              · rw [HST3.out]; exact ho4.setBt2 HV.out HLK.out ia ic hxa hxc mx
              · exact (hm4.setCell ⟨g, ia, none⟩ (fun _ => by rw [HV.out]; rfl) _).setCell ⟨g, ic, none⟩ (fun _ => by rw [HV.out]; rfl) _
            have yc2 : ∃ u, (w4.setCell ⟨g, ia, none⟩ (.int .i64 mx)).cell? ⟨g, ic, none⟩ = some u := cell?_setCell_some (w := w4) (p := ⟨g, ia, none⟩) (x := .int .i64 mx) (q := ⟨g, ic, none⟩) (v := .int .i64 (at2 n B k a)) yc
            obtain ⟨u, hu⟩ := yc2
            clear hw4 hm4 ho4 k0 k2 k4 ca cb cc fa fc s1
            have Y0 := Lib.hid y0
            have Y4 := Lib.hid y4
            have hcg : c ≠ g := fun e => HOK.out.ne (by rw [HV.out, e]; rfl)
            go_region_held3 (fun w' => w'.cell? ⟨c, 131, none⟩ = some (.slice (some ⟨g, 0, none⟩) nn cap) ∧ w'.cell? ⟨c, 0, none⟩ = some (.int .i64 n)) ((first | exact keepA Y4 Y0 hcg | exact keepB Y4 Y0 hcg | go_keep)) (fail)
            go_wp2_with fail
            go_roundw
            case rel => exact ⟨k + 1, by omega, by go_num, FIN.out.1.mod ((Mod.refl (fun _ => False) _).drew) (fun h => h) (fun _ _ h => h), FIN.out.2.drew⟩
            case measure => simp [intOf]; omega
    · obtain rfl : k = n := by omega
      have s1 := HOK.out.cs (i := a) (by omega)
      have s2 := HOK.out.cs (i := b) (by omega)
      have sf := HOK.out.blk.free (3 + a)
      have sf2 := HOK.out.blk.free (3 + b)
      have t128a : (a : Int) < 128 := by omega
      have t128b : (b : Int) < 128 := by omega
      have hsa := HSZ.out a
      have hsb := HSZ.out b
      obtain ⟨sa, HSA⟩ : ∃ sa, Hid (sz.getD a 0 = sa) := ⟨_, rfl⟩
      obtain ⟨sb, HSB⟩ : ∃ sb, Hid (sz.getD b 0 = sb) := ⟨_, rfl⟩
      rw [HSA.out] at s1 hsa
      rw [HSB.out] at s2 hsb
      go_wp2_with fail
      refine region_tail 16 (by kernel_rfl) (by kernel_rfl) ?_
      intro w4 hw4
      have d1 : w4.cell? ⟨c, 3 + a, none⟩ = some (.int .i64 sa) := by rw [hw4]; exact s1
      have d2 : w4.cell? ⟨c, 3 + b, none⟩ = some (.int .i64 sb) := by rw [hw4]; exact s2
      have df : w4.frozen? ⟨c, 3 + a, none⟩ = false := by rw [hw4]; exact sf
      have df2 : w4.frozen? ⟨c, 3 + b, none⟩ = false := by rw [hw4]; exact sf2
      have hne3 : ¬ (3 + a = 3 + b) := by omega
      have hne4 : ¬ (3 + b = 3 + a) := by omega
      have HO4 : Hid (CObj w4 c k 3 sz v (mixTo k 3 sz a b bt k)) := by
        show CObj _ _ _ _ _ _ _
        rw [hw4]; exact HOK.out.mod ((Mod.refl (fun _ => False) wr).drew) (fun h => h) (fun _ _ h => h)
      have HM4 : Hid (Mod (fun k => v.ownBlock = some k) w3 w4) := by
        show Mod _ _ _
        rw [hw4]; exact HM.out.drew
      clear hw4 s1 s2 sf sf2 HOK HM
      simp only [List.take_succ_cons, List.take_zero, List.drop_succ_cons, List.drop_zero]
      repeat still_step
      refine wpStill_nil ?_
      go_wp2_with fail
      have HO5 := Lib.hid ((HO4.out.setSz a (by omega) (sa + sb)).setSz b (by omega) 0)
      have HM5 : Hid (Mod (fun k => k = c ∨ v.ownBlock = some k) w3 ((w4.setCell ⟨c, 3 + a, none⟩ (.int .i64 (sa + sb))).setCell ⟨c, 3 + b, none⟩ (.int .i64 0))) :=
        ((HM4.out.mono (fun _ _ h => .inr h)).setCell ⟨c, 3 + a, none⟩ (fun _ => .inl rfl) _).setCell ⟨c, 3 + b, none⟩ (fun _ => .inl rfl) _
      generalize (w4.setCell ⟨c, 3 + a, none⟩ (.int .i64 (sa + sb))).setCell ⟨c, 3 + b, none⟩ (.int .i64 0) = w5 at *
      have HU : Hid ((sz.set a (sa + sb)).set b 0 = szU sz a b) := by show _ = _; unfold szU; rw [HSA.out, HSB.out]
      have hszl := HO4.out.szl
      have hga : ((sz.set a (sa + sb)).set b 0).getD a 0 = sa + sb := by
        rw [List.getD_eq_getElem?_getD, List.getElem?_set_ne (by omega), List.getElem?_set_self (by omega)]; rfl
      have g1 := HO5.out.cs (i := a) (by omega)
      rw [hga] at g1
      have h6 := HB63.out.mod HM5.out (fun h => h.elim (fun h => by have h1 := HCL.out; omega) (fun h => (HRB.out _ h).1 rfl))
      have h8 := HB83.out.mod HM5.out (fun h => h.elim (fun h => by have h1 := HCL.out; have h2 := HLT.out; omega) (fun h => (HRB.out _ h).2 rfl))
      clear d1 d2 df df2 HO4 HM4 hga hszl
      refine region_tail 10 (by kernel_rfl) (by kernel_rfl) ?_
      intro w6 hw6
      have b6 : Blk w6 w.heap.size 39 [.int .i64 0, .int .i64 0, .int .i64 0, .int .i64 0, .int .i64 0] := by rw [hw6]; exact h6
      have b8 : Blk w6 w2.heap.size 37 [.int .i64 p, .int .i64 q] := by rw [hw6]; exact h8
      have g2 : w6.cell? ⟨c, 3 + a, none⟩ = some (.int .i64 (sa + sb)) := by rw [hw6]; exact g1
      have HO6 : Hid (CObj w6 c k 3 (szU sz a b) v (mixTo k 3 sz a b bt k)) := by
        show CObj _ _ _ _ _ _ _
        rw [hw6, ← HU.out]; exact HO5.out.mod ((Mod.refl (fun _ => False) w5).drew) (fun h => h) (fun _ _ h => h)
      have HM6 : Hid (Mod (fun k => k = c ∨ v.ownBlock = some k) w3 w6) := by
        show Mod _ _ _
        rw [hw6]; exact HM5.out.drew
      have B6 := Lib.hid b6
      have z0 := b8.cell (i := 0) rfl
      have z1 := b8.cell (i := 1) rfl
      clear hw6 g1 h6 h8 b6 b8 HO5 HM5
      simp only [List.take_succ_cons, List.take_zero, List.drop_succ_cons, List.drop_zero]
      repeat still_step
      refine wpStill_nil ?_
      refine wpList_storeBlk w.heap.size 39 _ [.int .i64 a, .int .i64 b, .int .i64 p, .int .i64 q, .int .i64 (sa + sb)] rfl rfl B6.out rfl (by kernel_rfl) (by simp [Value.oneCell']) ?_
      intro w7 B7 hm7
      have HFIN : Hid (UPost w c k 3 sz v bt a b (.returned (.agg #[.int .i64 a, .int .i64 b, .int .i64 p, .int .i64 q, .int .i64 (sa + sb)])) w7) := by
        refine ⟨?_, ?_, ?_⟩
        · rw [HX.out, HY.out, HP.out, HQ.out, HSA.out, HSB.out]
        · exact HO6.out.mod hm7 (fun h => by have h1 := HCL.out; have h2 : c = w.heap.size := h; omega) (fun x hx h => (HRB.out x hx).1 h)
        · exact ((Mod.of_below (F := fun k => k = c ∨ v.ownBlock = some k) HBB3.out).trans HM6.out (fun _ _ h => h)).trans hm7 (fun x hx h => by have h2 : x = w.heap.size := h; omega)
      have z2 := B7.cell (i := 0) rfl
      have z3 := B7.cell (i := 1) rfl
      have z4 := B7.cell (i := 2) rfl
      have z5 := B7.cell (i := 3) rfl
      have z6 := B7.cell (i := 4) rfl
      clear B7 hm7
      go_wp2_with fail
      refine bodyPost_ret (v := .agg #[.int .i64 a, .int .i64 b, .int .i64 p, .int .i64 q, .int .i64 (sa + sb)]) ?_ rfl HFIN.out
      simp [results, Try.results17, go_sem, z2, z3, z4, z5, z6]

end Go.Proofs.Ythacjealoomioaa.Lk
