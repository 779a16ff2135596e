/- ExpiryOrder: the walk. -/
import Derived.Test.YtebclbpibafkdaaTwiceW
import Derived.Test.YtebclbpibafkdaaOrderP
namespace Go.Proofs.Ytebclbpibafkdaa
open Go.RowKit

set_option maxHeartbeats 4000000 in
set_option maxRecDepth 100000 in
theorem order_long (ao : Option Addr) (len cap : Nat) (w : World) (hl : 300 < len) (hm : len ≤ 9223372036854775807) :
    Calls Try.prog 7 #[.slice ao len cap] w (RetB (.bool true) w) := by
  go_enter Try.func7, Try.ntmps7
  go_wp2_with fail
  with_reducible refine (works35 _).mono ?_
  rintro e w' ⟨rfl, hb⟩
  have HB := Lib.hid hb
  clear hb
  go_wp2_with fail
  go_ret
  exact ⟨rfl, HB.out⟩

structure OrderRel (w : World) (S : List Ent) (s q sb j : Nat) (last : Int) (g : HG) (wr : World) : Prop where
  fr : EFresh w s 300 (S.drop j) q g wr
  seen : Blk wr sb 4 (seenRow S j)
  hs : w.heap.size ≤ sb
  nf : ¬ g.foot sb
  ne : sb ≠ s
  last : 0 < j → ∀ e l, S.drop j = e :: l → last < e.2

structure OrderIn (w6 : World) (S : List Ent) (sb k : Nat) (wr : World) : Prop where
  mod : Mod (fun x => x = sb) w6 wr
  seen : Blk wr sb 4 (seenRow S k)

theorem EFresh.mod {F : Nat → Prop} {w : World} {s slots : Nat} {S : List Ent} {q : Nat} {g : HG} {W W' : World} (h : EFresh w s slots S q g W) (m : Mod F W W') (hF : ∀ k, g.foot k → ¬ F k) (hs : ¬ F s) (hw : ∀ k, F k → w.heap.size ≤ k) : EFresh w s slots S q g W' :=
  ⟨h.obj.mod m hF hs, h.bel.trans (m.below h.bel.size hw), h.foot, h.hs⟩

set_option maxHeartbeats 2000000 in
set_option maxRecDepth 100000 in
theorem order_short (ao : Option Addr) (len cap b off : Nat) (z : List Int) (w : World) (hz : InRow .i64 w ao len b off z) (hl : len ≤ 300) :
    Calls Try.prog 7 #[.slice ao len cap] w (RetB (.bool true) w) := by
  have HZ := Lib.hid hz
  clear hz
  have hd300 : decide (300 < (len : Int)) = false := by simp; omega
  go_enter Try.func7, Try.ntmps7
  go_wp2_with fail
  with_reducible refine (filled35 ao len cap b off z false w HZ.out hl).mono ?_
  rintro e w1 ⟨s, q, g, hf, rfl⟩
  have F := Lib.hid hf
  have HLl : Hid ((sortE (pairs z)).length = len) := Lib.hid (by rw [sortE_pairs_length, HZ.out.size])
  clear hf
  go_wp2_with fail
  with_reducible refine (elen_ok w1 s 300 _ q g F.out.obj).mono ?_
  rintro e w' ⟨rfl, rfl⟩
  rw [HLl.out]
  go_wp2_with (at_make; refine wpList_makeB 4 (.bool false) 1 Try.underlying26 Try.infoBool rfl _ _ _ _ 300 rfl rfl rfl rfl (by omega) (by unfold maxLen; omega) ?_; intro w2 B2 hb2)
  have HR : Hid (OrderRel w (sortE (pairs z)) s q w1.heap.size 0 0 g w2) := by
    have hlt := F.out.obj.lt
    have hsz := F.out.bel.size
    exact ⟨F.out.below hb2, by rw [seenRow_zero]; exact B2, hsz, fun h => by have := hlt _ (.inl h); omega, fun h => by have := hlt s (.inr rfl); omega, fun h => by omega⟩
  clear B2 hb2 F
  go_wp2_with fail
  generalize w1.heap.size = sb at *
  go_loopw [5, 6] (fun s5 s6 wr => ∃ (j : Nat) (last : Int) (g : HG), j ≤ len ∧ s5 = .int .i64 j ∧ s6 = .int .i64 last ∧ OrderRel w (sortE (pairs z)) s q sb j last g wr) (fun s5 _ _ => len - (intOf s5).toNat)
  case atStart => exact ⟨0, 0, g, by omega, rfl, rfl, HR.out⟩
  case round =>
    clear HR
    obtain ⟨j, last, g, hj, rfl, rfl, hr⟩ := hrel
    have OR := Lib.hid hr
    clear hr
    by_cases hlt : j < len
    · have hjL : j < (sortE (pairs z)).length := by rw [HLl.out]; exact hlt
      obtain rfl := HZ.out.adr (by omega)
      have hhd := drop_ent j hjL
      obtain ⟨a, ha, hx⟩ := sortE_pairs_at z j hjL
      have hod := order_due (sortP_sorted z) hjL
      have hlk := fun h => OR.out.last h _ _ hhd
      rw [hx] at hod hlk
      simp only at hod hlk
      have HV : Hid (headV (List.drop j (sortE (pairs z))) = .tuple #[.agg #[.int .i64 (a : Int), .int .i64 (z.getD a 0)], .bool true]) := Lib.hid (by rw [hhd, hx]; rfl)
      have HX := Lib.hid hx
      clear hhd hx
      obtain ⟨K, hK⟩ : ∃ K, K = z.getD a 0 := ⟨_, rfl⟩
      rw [← hK] at hod hlk HV HX
      have HDL := Lib.hid (dueN_le (List.drop j (sortE (pairs z))) K)
      obtain ⟨N, hN⟩ : ∃ N, N = dueN (List.drop j (sortE (pairs z))) K := ⟨_, rfl⟩
      rw [← hN] at hod HDL
      have HNN := Lib.hid hN
      have HOD := Lib.hid hod
      have hNp := hod.pos
      have hNl : j + N ≤ len := by have := hod.le; rw [HLl.out] at this; exact this
      have hu : (decide (0 < j) = true ∧ decide (K ≤ last) = false) ∨ decide (0 < j) = false := by
        by_cases h0 : 0 < j
        · have := hlk h0
          exact .inl ⟨by simp; omega, decide_eq_false (by omega)⟩
        · exact .inr (by simp; omega)
      clear hod hlk hK hN
      rcases hu with ⟨u1, u2⟩ | u1
      all_goals
        go_wp2_with fail
        with_reducible refine (enext_any wr s 300 _ q g OR.out.fr.obj).mono ?_
        rintro e w3 ⟨rfl, hb3⟩
        rw [HV.out]
        have hbA : Below w3.heap.size w3 (w3.alloc (.cells #[.int .i64 (a : Int), .int .i64 K] 28)) := (Below.refl _ _).alloc (Nat.le_refl _) _
        have F4 := Lib.hid ((OR.out.fr.below hb3).below hbA)
        have BS3 := OR.out.seen.below hb3 OR.out.seen.lt
        have BX4 := Blk.new w3 28 [.int .i64 (a : Int), .int .i64 K]
        have HX4 := Lib.hid BX4
        have HS4 := Lib.hid (BS3.below hbA BS3.lt)
        have x0 := BX4.cell (i := 0) rfl
        have x1 := BX4.cell (i := 1) rfl
        have hltS : sb < w3.heap.size := BS3.lt
        have HFX : Hid (¬ g.foot w3.heap.size) := fun h => by
          have := OR.out.fr.obj.lt _ (.inl h)
          have := hb3.size
          omega
        clear hb3 hbA BS3 BX4
        go_wp2_with fail
        generalize hW4 : w3.alloc (.cells #[.int .i64 (a : Int), .int .i64 K] 28) = W4 at *
        have HXL := Lib.hid HX4.out.lt
        clear hW4
        with_reducible refine (edue_ok W4 s 300 _ q g F4.out.obj K).mono ?_
        rintro e w5 ⟨v, g5, rfl, ho, hrow, hm, hf, hv⟩
        rw [← HNN.out] at ho hrow
        rw [HOD.out.drop] at ho
        have F5 := Lib.hid (F4.out.step ho hm hf)
        have HS5 := HS4.out.mod hm OR.out.nf
        have HX5 := HX4.out.mod hm HFX.out
        have NF5 : Hid (¬ g5.foot sb) := fun h => by
          rcases hf sb h with h1 | h1
          · exact OR.out.nf h1
          · have := HS4.out.lt; omega
        have hsl := IntSl.of_due HDL.out hrow
        obtain ⟨vo, vc, rfl⟩ := owns_slice hrow
        have hll : (((sortE (pairs z)).drop j |>.take N).map (·.1)).length = N := by simp only [List.length_map, List.length_take]; exact Nat.min_eq_left HDL.out
        obtain ⟨vb, rfl, hc⟩ := hsl.cell vo vc (by rw [hll]) (by rw [hll]; omega)
        have HC : Hid (∀ i, i < N → w5.cell? ⟨vb, i, none⟩ = some (.int .i64 (ent (sortE (pairs z)) (j + i)).1)) := fun i hi => by
          rw [hc i (by rw [hll]; exact hi), HOD.out.fst i hi]
        have hvb := (hv vb rfl).2.2
        have hvs : vb ≠ sb := by have := HS4.out.lt; omega
        have hvx : vb ≠ w3.heap.size := by have := HXL.out; omega
        have hxs : w3.heap.size ≠ sb := by omega
        clear x0 x1
        have c0 := HC.out 0 (by omega)
        rw [Nat.add_zero, HX.out] at c0
        simp only at c0
        have x0 := HX5.cell (i := 0) rfl
        have x1 := HX5.cell (i := 1) rfl
        have HBS := Lib.hid HS5
        have HBX := Lib.hid HX5
        have t0 : ((N : Int) == 0) = false := by simp; omega
        have h0N : (0 : Int) < (N : Int) := by omega
        clear ho hm hf hrow hv hc hll hsl HX4 HS4 F4 HS5 HX5
        generalize w3.heap.size = xb at *
        go_wp2_with fail
        go_quiet (fail)
        obtain ⟨W6, hW6⟩ : ∃ W6, W6 = w5.drewN nq := ⟨_, rfl⟩
        rw [← hW6]
        have F6 : Hid (EFresh w s 300 ((sortE (pairs z)).drop (j + N)) q g5 W6) := by
          rw [hW6]
          exact F5.out.mod ((Mod.refl (fun _ => False) _).drewN _) (fun _ _ h => h) (fun h => h) (fun _ h => h.elim)
        have HBS6 : Hid (OrderIn W6 (sortE (pairs z)) sb (j + 0) W6) := by
          rw [hW6]
          exact ⟨Mod.refl _ _, HBS.out.drewN nq⟩
        have HBX6 : Hid (Blk W6 xb 28 [.int .i64 (a : Int), .int .i64 K]) := by rw [hW6]; exact HBX.out.drewN nq
        have HC6 : Hid (∀ i, i < N → W6.cell? ⟨vb, i, none⟩ = some (.int .i64 (ent (sortE (pairs z)) (j + i)).1)) := by rw [hW6]; exact HC.out
        clear hW6 x0 x1 c0 HBS HBX HC F5 u1 hvb hltS t0
        go_wp2_with fail
        go_loopw [62, 5] (fun s62 s5 wr => ∃ i : Nat, i ≤ N ∧ s62 = .int .i64 i ∧ s5 = .int .i64 ((j + i : Nat) : Int) ∧ OrderIn W6 (sortE (pairs z)) sb (j + i) wr) (fun s62 _ _ => N - (intOf s62).toNat)
        case atStart => exact ⟨0, by omega, rfl, rfl, HBS6.out⟩
        case round =>
          clear HBS6
          obtain ⟨i, hi, rfl, rfl, hin⟩ := hrel
          by_cases hlt2 : i < N
          · have hkL : j + i < (sortE (pairs z)).length := by rw [HLl.out]; omega
            obtain ⟨c, hc, hcx⟩ := sortE_pairs_at z (j + i) hkL
            have hcl : c < len := by rw [← HZ.out.size]; exact hc
            have hkey := HOD.out.key i hlt2
            have hcv := HC6.out i hlt2
            rw [hcx] at hkey hcv
            simp only at hkey hcv
            have hbel := F6.out.bel
            have hSBw := OR.out.hs
            have hbb := HZ.out.lt (by omega)
            have hct := (hin.mod.cell (p := ⟨b, off + c, none⟩) (by show b < _; have := hbel.size; omega) (by show ¬ b = sb; omega)).trans ((hbel.cell (p := ⟨b, off + c, none⟩) hbb).trans (HZ.out.cell c hcl))
            rw [hkey] at hct
            have hvl := World.block_lt_of_cell? W6 _ hcv
            have hcv2 := (hin.mod.cell (p := ⟨vb, i, none⟩) hvl hvs).trans hcv
            have hx1 := (hin.mod.cell (p := ⟨xb, 1, none⟩) HBX6.out.lt hxs).trans (HBX6.out.cell (i := 1) rfl)
            have hsn := hin.seen.cell (seenRow_get _ (j + i) c (by omega))
            rw [seenB_new z (j + i) c hkL (by rw [hcx])] at hsn
            have FIN : Hid (∀ nq, OrderIn W6 (sortE (pairs z)) sb (j + (i + 1)) ((wr.drewN nq).setCell ⟨sb, c, none⟩ (.bool true))) := fun nq => by
              have bs := (hin.seen.drewN nq).set c (.bool true)
              rw [seenRow_set _ (j + i) c hkL (by rw [hcx])] at bs
              exact ⟨(hin.mod.drewN nq).setCell _ (fun _ => rfl) _, bs⟩
            have hsf := hin.seen.free c
            have HLT : Hid (∀ i', i = i' + 1 → wr.cell? ⟨vb, i', none⟩ = some (.int .i64 (ent (sortE (pairs z)) (j + i')).1) ∧ (ent (sortE (pairs z)) (j + i')).1 < (c : Int)) := fun i' h => by
              have h1 := HOD.out.lt i' (by omega)
              rw [← h, hcx] at h1
              have h2 := HC6.out i' (by omega)
              exact ⟨(hin.mod.cell (p := ⟨vb, i', none⟩) hvl hvs).trans h2, h1⟩
            clear hin hcv hcx hkey hbel hSBw hbb hvl
            by_cases hi0 : 0 < i
            · have t6 : decide (0 < i) = true := decide_eq_true hi0
              obtain ⟨hp, hpl⟩ := HLT.out (i - 1) (by omega)
              generalize (ent (sortE (pairs z)) (j + (i - 1))).1 = pv at hp hpl
              have t5 : decide ((c : Int) ≤ pv) = false := decide_eq_false (by omega)
              clear HLT hpl
              have t1 : decide ((c : Int) < 0) = false := by simp
              have t2 : decide (len ≤ c) = false := by simp; omega
              have t2' : decide ((len : Int) ≤ (c : Int)) = false := by simp; omega
              have t3 : (c : Int) < 300 := by omega
              have t4 : (c : Int) < (len : Int) := by omega
              go_wp2_with fail
              go_quiet (fail)
              have FN := Lib.hid (FIN.out nq)
              clear FIN
              go_wp2_with fail
              go_roundw
              case rel => exact ⟨i + 1, by omega, by go_num, by go_num, FN.out⟩
              case measure => simp [intOf]; omega
            · have t6 : decide (0 < i) = false := decide_eq_false hi0
              clear HLT
              have t1 : decide ((c : Int) < 0) = false := by simp
              have t2 : decide (len ≤ c) = false := by simp; omega
              have t2' : decide ((len : Int) ≤ (c : Int)) = false := by simp; omega
              have t3 : (c : Int) < 300 := by omega
              have t4 : (c : Int) < (len : Int) := by omega
              go_wp2_with fail
              go_quiet (fail)
              have FN := Lib.hid (FIN.out nq)
              clear FIN
              go_wp2_with fail
              go_roundw
              case rel => exact ⟨i + 1, by omega, by go_num, by go_num, FN.out⟩
              case measure => simp [intOf]; omega
          · obtain rfl : i = N := by omega
            have OI := Lib.hid hin
            clear hin
            go_wp2_with fail
            go_roundw
            case rel =>
              refine ⟨j + i, K, g5, hNl, rfl, rfl, ⟨F6.out.mod OI.out.mod (fun k hk h => ?_) (fun h => OR.out.ne h.symm) (fun k h => ?_), OI.out.seen, OR.out.hs, NF5.out, OR.out.ne, fun _ => HOD.out.head⟩⟩
              · subst h; exact NF5.out hk
              · subst h; exact OR.out.hs
            case measure => simp [intOf]; omega
    · obtain rfl : j = len := by omega
      have ho := OR.out.fr
      rw [List.drop_of_length_le (by rw [HLl.out]; omega)] at ho
      have HO := Lib.hid ho
      clear ho OR
      go_wp2_with fail
      with_reducible refine (enext_any wr s 300 [] q g HO.out.obj).mono ?_
      rintro e w3 ⟨rfl, hb3⟩
      unfold headV
      have HO3 := HO.out.below hb3
      have HO4 := Lib.hid (HO3.below ((Below.refl _ _).alloc (Nat.le_refl _) (.cells #[.int .i64 0, .int .i64 0] 28)))
      clear hb3 HO3 HO
      go_wp2_with fail
      with_reducible refine (elen_ok _ s 300 [] q g HO4.out.obj).mono ?_
      rintro e w' ⟨rfl, rfl⟩
      go_wp2_with fail
      with_reducible refine (works35 _).mono ?_
      rintro e w5 ⟨rfl, hb5⟩
      have HB5 := Lib.hid (HO4.out.bel.trans (hb5.mono HO4.out.bel.size))
      clear hb5
      go_wp2_with fail
      go_ret
      exact ⟨rfl, HB5.out⟩

end Go.Proofs.Ytebclbpibafkdaa
