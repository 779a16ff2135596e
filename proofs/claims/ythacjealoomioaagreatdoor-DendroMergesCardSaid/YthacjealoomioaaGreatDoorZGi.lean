/- RcS, RcU, RcW. -/
import Derived.Test.YthacjealoomioaaGreatDoorZGg
import Derived.Test.YthacjealoomioaaGreatDoorZGh
import Derived.Test.YthacjealoomioaaGreatDoorZGb
import Derived.Deep.RegionHeld3
/- kruskal.Order, kruskal.Forest. -/
namespace Go.Proofs.YthacjealoomioaaGreatDoor
set_option linter.unusedVariables false
set_option linter.unusedSimpArgs false
open Go.RowKit

structure OrPost (w : World) (l : List Ed) (m : Nat) (e : Ending) (w' : World) : Prop where
  out : ∃ ob, e = .returned (.slice (some ⟨ob, 0, none⟩) m m) ∧ Blk w' ob 3 (natV (ordL l)) ∧ w.heap.size ≤ ob
  bel : Below w.heap.size w w'

set_option maxHeartbeats 2000000 in
set_option maxRecDepth 100000 in
theorem order_ok (w : World) (ao : Option Addr) (m cap b off : Nat) (l : List Ed) (he : ERow w ao m b off l) (hm : m ≤ 16384) :
    Calls Tryz.prog 112 #[.slice ao m cap] w (OrPost w l m) := by
  have HE := Lib.hid he
  have HS := Lib.hid he.size
  have eg : ∀ args w, (callFunc 125 args).run Tryz.prog w = .ok (.enter 125 args) w := enters_of Tryz.func125 (by kernel_rfl) rfl
  have HEG := Lib.hid eg
  have hbp : Below w.heap.size w (w.alloc (.cells #[.slice ao m cap] 22)) := (Below.refl _ _).alloc (Nat.le_refl _) _
  have HBP := Lib.hid hbp
  have HPB := Lib.hid (Blk.new w 22 [.slice ao m cap])
  have c0 := HPB.out.cell (i := 0) rfl
  clear he eg hbp
  go_enter Tryz.func112, Tryz.ntmps112
  go_wp2_with (at_make; apply keepIt)
  clear c0
  apply Lib.hid
  refine wpList_makeB 3 (.int .i64 0) 8 Tryz.underlying24 Tryz.infoInt rfl _ _ _ _ m rfl rfl rfl rfl (by omega) (by unfold maxLen; omega) ?_
  intro w2 B2 hb2
  have HP2 := Lib.hid (HPB.out.below hb2 HPB.out.lt)
  have HB2 := Lib.hid (bel_then HBP.out hb2)
  have hob : w.heap.size < (w.alloc (.cells #[.slice ao m cap] 22)).heap.size := by simp
  have HK2 : Hid (Blk w2 (w.alloc (.cells #[.slice ao m cap] 22)).heap.size 3 (natV (upI m 0))) := by show Blk _ _ _ _; rw [upI_zero, natV_zero]; exact B2
  clear B2 hb2 HBP HPB
  generalize (w.alloc (.cells #[.slice ao m cap] 22)).heap.size = ob at *
  go_wp2_with fail
  go_loopw [10] (fun s wr => ∃ i : Nat, i ≤ m ∧ s = .int .i64 i ∧ Blk wr ob 3 (natV (upI m i)) ∧ Mod (fun x => x = ob) w2 wr) (fun s _ => m - (intOf s).toNat)
  case atStart => exact ⟨0, Nat.zero_le _, rfl, HK2.out, Mod.refl _ _⟩
  case round =>
    obtain ⟨i, hi, rfl, hk, hmd⟩ := hrel
    clear HK2
    have HK := Lib.hid hk
    have HMD := Lib.hid hmd
    clear hk hmd
    by_cases him : i < m
    · have ci := blkN HK.out (i := i) (by rw [upI_length (by omega)]; exact him)
      have fi := HK.out.free i
      generalize (upI m i).getD i 0 = x at *
      go_wp2_with fail
      have HK3 : Hid (Blk (wr.setCell ⟨ob, i, none⟩ (.int .i64 i)) ob 3 (natV (upI m (i + 1)))) := by
        have := blkN_set HK.out i i
        rw [upI_step him] at this
        exact this
      go_roundw
      case rel => exact ⟨i + 1, by omega, by go_num, HK3.out, HMD.out.setCell _ (fun _ => rfl) _⟩
      case measure => simp [intOf]; omega
    · have hie : i = m := by omega
      have him2 : ¬ (i : Int) < (m : Int) := by omega
      have HK3 : Hid (Blk wr ob 3 (natV (List.range m))) := by
        have := HK.out
        rw [hie, upI_end] at this
        exact this
      have HB3 := Lib.hid (bel_mod HB2.out HMD.out (fun x e => by rw [e]; omega))
      have hpo : w.heap.size ≠ ob := by omega
      have HP3 := Lib.hid (HP2.out.mod HMD.out hpo)
      clear hie HK
      go_wp2_with fail
      by_cases h0 : m = 0
      · subst h0
        with_reducible refine (sortN_none wr (some ⟨ob, 0, none⟩) 0 _).mono ?_
        rintro e w3 ⟨rfl, rfl⟩
        go_wp2_with fail
        go_ret
        have hl : l = [] := List.eq_nil_of_length_eq_zero HS.out
        subst hl
        have hnil : ordL ([] : List Ed) = List.range 0 := List.eq_nil_of_length_eq_zero (by rw [ord_length]; rfl)
        exact ⟨⟨ob, rfl, by rw [hnil]; exact HK3.out, by omega⟩, HB3.out⟩
      · have ho := owns_blk HK3.out (by rw [natV_len, List.length_range]; omega)
        rw [natV_len, List.length_range] at ho
        have hER := HE.out.below HB3.out
        have HLT : Hid (0 < m → b < w.heap.size) := fun h => HE.out.lt h
        have hcon := (sortN_ok wr ob m m (List.range m) ho List.length_range (by omega) (by omega) (olt l) (olt_irrefl l) (fun _ _ _ => olt_trans) (fun x _ y _ h1 h2 => Classical.byContradiction fun hne => h2 (olt_tot h1 hne)) (ordC l) (fun x _ y _ => ordC_neg l x y) 125 #[.pointer (some ⟨w.heap.size, 0, none⟩)] HEG.out
          (fun W hW x hx y hy => ordf_ok W w.heap.size ao m cap b off l ((HP3.out.mod hW hpo).cell (i := 0) rfl) (hER.mod hW (fun h => by have := HLT.out h; omega)) hm x y (List.mem_range.1 hx) (List.mem_range.1 hy))
          (ordL l) (by have := ord_perm l; rw [HS.out] at this; exact this) (ord_sorted l))
        with_reducible refine hcon.mono ?_
        rintro e w3 ⟨rfl, ho3, hm3⟩
        have HO3 := Lib.hid (Blk.of_owns ho3)
        have HB4 := Lib.hid (bel_mod HB3.out hm3 (fun x e => by rw [e]; omega))
        clear ho ho3 hm3 hER hcon
        go_wp2_with fail
        go_ret
        exact ⟨⟨ob, rfl, HO3.out, by omega⟩, HB4.out⟩

end Go.Proofs.YthacjealoomioaaGreatDoor

/- kruskal.Forest. -/
namespace Go.Proofs.YthacjealoomioaaGreatDoor
set_option linter.unusedVariables false
set_option linter.unusedSimpArgs false
open Go.RowKit

/-- What Forest returns. -/
structure FoPost (w : World) (n : Int) (l : List Ed) (e : Ending) (w' : World) : Prop where
  bad : newErr n l ≠ 0 → e = .returned (.tuple #[.slice none 0 0, .int .i64 (newErr n l)])
  ok : newErr n l = 0 → ∃ v, e = .returned (.tuple #[v, .int .i64 0]) ∧ w'.ownsRow 0 3 1 v (forL n.toNat l).length (natV (forL n.toNat l)) ∧ ∀ k, v.ownBlock = some k → w.heap.size ≤ k
  bel : Below w.heap.size w w'

theorem keep3 {F : Nat → Prop} {w w' : World} {p1 p2 : Addr} {v1 v2 : Value} (h1 : Hid (w.cell? p1 = some v1)) (h2 : Hid (w.cell? p2 = some v2)) (n1 : ¬ F p1.block) (n2 : ¬ F p2.block) (hb : Mod F w w') :
    w'.cell? p1 = some v1 ∧ w'.cell? p2 = some v2 ∧ Mod F w w' :=
  ⟨(hb.cell (World.block_lt_of_cell? w _ h1.out) n1).trans h1.out, (hb.cell (World.block_lt_of_cell? w _ h2.out) n2).trans h2.out, hb⟩

theorem Fo.step_out {l : List Ed} {s : Fo} {i : Nat} : (s.step l i).out = if s.k.getD (uN l i) 0 = s.k.getD (vN l i) 0 then s.out else s.out ++ [i] := by
  unfold Fo.step; split <;> rfl
theorem Fo.step_k {l : List Ed} {s : Fo} {i : Nat} : (s.step l i).k = joinK s.k (uN l i) (vN l i) := by
  unfold Fo.step joinK; split <;> rfl

set_option maxHeartbeats 4000000 in
set_option maxRecDepth 100000 in
theorem forest_ok (w : World) (n : Int) (ao : Option Addr) (m cap b off : Nat) (l : List Ed) (he : ERow w ao m b off l) (hm : m ≤ 9223372036854775807) (hnil : ao = none → cap = 0) (hn64 : -9223372036854775808 ≤ n ∧ n ≤ 9223372036854775807) :
    Calls Tryz.prog 83 #[.int .i64 n, .slice ao m cap] w (FoPost w n l) := by
  have HE := Lib.hid he
  have HS := Lib.hid he.size
  have HNIL := Lib.hid hnil
  have H64 := Lib.hid hn64
  clear he hnil hn64
  go_enter Tryz.func83, Tryz.ntmps83
  go_wp2_with fail
  with_reducible refine (new_ok w n ao m cap b off l HE.out hm HNIL.out H64.out).mono ?_
  rintro e w1 ⟨⟨p, rfl, hp1, hp2⟩, hb1⟩
  have HB1 := Lib.hid hb1
  clear hb1
  by_cases hz : newErr n l = 0
  · obtain ⟨k, hk, hg⟩ := GOk.of_err hz
    obtain rfl := hk
    have HZ := Lib.hid hz
    have HG := Lib.hid hg
    have hn := hg.hn
    have hm2 : m ≤ 16384 := by rw [← HS.out]; exact hg.hl
    obtain ⟨g, rfl, _⟩ := hp2 hz
    rw [hz]
    clear hz hg hp1 hp2
    go_wp2_with fail
    with_reducible refine (dnew_ok w1 k (by omega)).mono ?_
    rintro e w2 ⟨⟨D, rfl, hd, hDn⟩, hb2⟩
    have HD := Lib.hid hd
    have HDN := Lib.hid hDn
    have HB2 := Lib.hid (bel_then HB1.out hb2)
    have HB1s := Lib.hid HB1.out.size
    clear hd hDn hb2 HB1
    go_wp2_with fail
    with_reducible refine (order_ok w2 ao m cap b off l (HE.out.below HB2.out) hm2).mono ?_
    rintro e w3 ⟨⟨ob, rfl, hob, hobn⟩, hb3⟩
    have HO := Lib.hid hob
    have HB3 := Lib.hid (bel_then HB2.out hb3)
    have HD3 := Lib.hid (HD.out.below hb3)
    have HDL : Hid (∀ x, D.mem x → x < w2.heap.size) := fun x hx => HD.out.lt hx
    have HB2s := Lib.hid HB2.out.size
    have h23 : w2.heap.size ≤ w3.heap.size := hb3.size
    clear hob hb3 HD HB2
    have hobl : ob < w3.heap.size := HO.out.lt
    go_wp2_with fail
    go_loopw [10, 35] (fun v s wr => ∃ t : Nat, t ≤ m ∧ s = .int .i64 t ∧ wr.ownsRow 0 3 1 v (foTo k l t).out.length (natV (foTo k l t).out) ∧ (∀ x, v.ownBlock = some x → w3.heap.size ≤ x) ∧ DObj wr D k (foTo k l t).k ∧ Mod D.mem w3 wr) (fun _ s _ => m - (intOf s).toNat)
    case atStart => exact ⟨0, Nat.zero_le _, rfl, World.ownsRow_nil _ _ _ _, fun x hx => (by cases hx), HD3.out, Mod.refl _ _⟩
    case round =>
      obtain ⟨t, ht, rfl, hv, hvn, hdo, hmd⟩ := hrel
      clear HD3
      have HV := Lib.hid hv
      have HVN := Lib.hid hvn
      have HDO := Lib.hid hdo
      have HMD := Lib.hid hmd
      clear hv hvn hdo hmd
      have hmw : w3.heap.size ≤ wr.heap.size := HMD.out.size
      have HBR : Hid (Below w.heap.size w wr) := bel_mod HB3.out HMD.out (fun x hx => by have := HDN.out x hx; have := HB1s.out; omega)
      by_cases htm : t < m
      · have htl : t < l.length := by rw [HS.out]; exact htm
        have hoi := ord_at (l := l) (t := t) htl
        have co := blkN (HO.out.mod HMD.out (fun h => by have := HDL.out ob h; omega)) (i := t) (by rw [ord_length]; exact htl)
        have HSO := Lib.hid (Fo.step_out (l := l) (s := foTo k l t) (i := (ordL l).getD t 0))
        have HSK := Lib.hid (Fo.step_k (l := l) (s := foTo k l t) (i := (ordL l).getD t 0))
        have HST : Hid (foTo k l (t + 1) = (foTo k l t).step l ((ordL l).getD t 0)) := rfl
        rw [HS.out] at hoi
        generalize (ordL l).getD t 0 = i at *
        obtain ⟨c0, c1, c2⟩ := (HE.out.below HBR.out).cell i hoi
        obtain rfl := HE.out.adr (by omega)
        obtain ⟨hu, hv, huv, eu, ev⟩ := HG.out.uv (i := i) (by rw [HS.out]; exact hoi)
        rw [eu] at c0
        rw [ev] at c1
        have hbl : b < w.heap.size := HE.out.lt (by omega)
        generalize uN l i = u at *
        generalize vN l i = v at *
        have hout : (foTo k l t).out.length ≤ 16384 := by
          have h1 := foTo_roots HG.out t (by rw [HS.out]; exact ht)
          omega
        rw [← HST.out] at HSO HSK
        generalize foTo k l t = s at *
        obtain ⟨s', hs'⟩ : ∃ s', foTo k l (t + 1) = s' := ⟨_, rfl⟩
        rw [hs'] at HSO HSK
        have HS' := Lib.hid hs'
        clear hs' HST
        have C0 := Lib.hid c0
        have C1 := Lib.hid c1
        have t1 : (i : Int) < (m : Int) := by omega
        have t2 : (0 : Int) ≤ (i : Int) := by omega
        have t3 : (t : Int) < (m : Int) := by omega
        have HNM : Hid (∀ x, D.mem x → w.heap.size ≤ x) := fun x hx => by have := HDN.out x hx; have := HB1s.out; omega
        go_wp2_with fail
        go_cut [13, 14] (fun s13 s14 wx => s13 = .bool (!decide (s.k.getD u 0 = s.k.getD v 0)) ∧ DObj wx D k (joinK s.k u v) ∧ Mod D.mem wr wx)
        case first =>
          go_region_held3 (fun w' => w'.cell? ⟨b, off + i * 3, none⟩ = some (.int .i64 u) ∧ w'.cell? ⟨b, off + i * 3 + 1, none⟩ = some (.int .i64 v) ∧ Mod D.mem wr w')
            (((try go_split_ands); refine keep3 C0 C1 (fun h => by have := HNM.out _ h; simp only at this; omega) (fun h => by have := HNM.out _ h; simp only at this; omega) ?_; first | assumption | exact (Mod.refl _ _).drew | exact (Mod.drew (by assumption))))
            (first
              | (go_at_call 101; (try go_split_ands); (with_reducible refine (union_ok _ D k s.k (HDO.out.mod ((Mod.refl (fun _ => False) wr).drew) (fun _ _ h => h)) u v hu hv).mono ?_); rintro e w4 ⟨rfl, hd4, hm4⟩; have hm5 := Mod.trans (by assumption : Mod D.mem wr _) hm4 (fun _ _ h => h); clear hm4))
          all_goals
            go_wp2_with fail
            go_meet
            exact ⟨rfl, hd4, hm5⟩
        case rest =>
          obtain ⟨rfl, hd4, hm4⟩ := hcut
          have HD4 := Lib.hid hd4
          have HM4 := Lib.hid hm4
          clear hd4 hm4 c0 c1 c2 co C0 C1
          have HV4 := Lib.hid (owns_mod HV.out HM4.out (fun x hx hd => by have := HVN.out x hx; have := HDL.out x hd; omega))
          by_cases hkk : s.k.getD u 0 = s.k.getD v 0
          · have HSO' : Hid (s'.out = s.out) := HSO.out.trans (if_pos hkk)
            rw [decide_eq_true hkk]
            clear hkk
            go_wp2_with fail
            go_roundw
            case rel => exact ⟨t + 1, by omega, by go_num, by rw [HS'.out, HSO'.out]; exact HV4.out, HVN.out, by rw [HS'.out, HSK.out]; exact HD4.out, HMD.out.trans HM4.out (fun _ _ h => h)⟩
            case measure => simp [intOf]; omega
          · have HSO' : Hid (s'.out = s.out ++ [i]) := HSO.out.trans (if_neg hkk)
            rw [decide_eq_false hkk]
            clear hkk
            have HOW := Lib.hid (HV4.out.alloc (.cells #[.int .i64 i] 3))
            have HNW := Lib.hid (news_new wc 3 [.int .i64 i])
            obtain ⟨vo, vc, hvv⟩ := owns_slice HV4.out
            go_wp2_with (at_builtin; apply keepIt)
            apply Lib.hid
            refine wpList_appendB 3 (.int .i64 0) 1 8 Tryz.underlying24 Tryz.infoInt rfl (by decide) _ s.out.length _ rfl HOW.out ⟨wc.heap.size, 0, none⟩ 1 1 [.int .i64 i] rfl rfl HNW.out (by simp [Value.oneCell']) (by unfold maxLen; omega) (by omega) ?_
            intro v6 w6 ho6 hg6 hn6
            have hwc : wr.heap.size ≤ wc.heap.size := HM4.out.size
            have hma : Mod (fun _ => False) wc (wc.alloc (.cells #[.int .i64 i] 3)) := (Mod.refl _ _).alloc _
            have hm6 : Mod (fun x => u10.ownBlock = some x) wc w6 := (hma.mono (fun _ _ h => h.elim)).grown hg6 (fun k e _ => e)
            have HD6 := Lib.hid (HD4.out.mod hm6 (fun x hd e => by have := HVN.out x e; have := HDL.out x hd; omega))
            have HM6 : Hid (Mod D.mem w3 w6) := (HMD.out.trans HM4.out (fun _ _ h => h)).trans hm6 (fun x hx e => by have := HVN.out x e; omega)
            have HV6 : Hid (w6.ownsRow 0 3 1 v6 s'.out.length (natV s'.out)) := by
              show World.ownsRow _ _ _ _ _ _ _
              rw [HSO'.out, List.length_append]
              have e : natV (s.out ++ [i]) = natV s.out ++ [.int .i64 (i : Int)] := by simp [natV]
              rw [e]
              exact ho6
            have HN6 : Hid (∀ x, v6.ownBlock = some x → w3.heap.size ≤ x) := fun x hx => by
              rcases hn6 x hx with e | e
              · exact HVN.out x e
              · have := hma.size; omega
            clear ho6 hg6 hn6 hm6 hma
            go_wp2_with fail
            go_roundw
            case rel => exact ⟨t + 1, by omega, by go_num, by rw [HS'.out]; exact HV6.out, HN6.out, by rw [HS'.out, HSK.out]; exact HD6.out, HM6.out⟩
            case measure => simp [intOf]; omega
      · have htm2 : t = l.length := by rw [HS.out]; omega
        have htm3 : ¬ (t : Int) < (m : Int) := by omega
        have HVF : Hid (wr.ownsRow 0 3 1 u10 (forL k l).length (natV (forL k l))) := by
          have := HV.out
          rw [htm2] at this
          exact this
        have HNF : Hid (∀ x, u10.ownBlock = some x → w.heap.size ≤ x) := fun x hx => by have := HVN.out x hx; have := HB2s.out; omega
        clear htm2
        go_wp2_with fail
        go_ret2
        exact ⟨fun h => absurd HZ.out h, fun _ => ⟨_, rfl, HVF.out, HNF.out⟩, HBR.out⟩
  · obtain rfl := hp1 hz
    have t1 : (newErr n l != 0) = true := by simp [hz]
    have HZ := Lib.hid hz
    have HR : Hid (∀ z, newErr n l = z → FoPost w n l (.returned (.tuple #[.slice none 0 0, .int .i64 z])) w1) := fun z e => ⟨fun _ => by rw [e], fun h => absurd h HZ.out, HB1.out⟩
    clear hz hp1 hp2
    go_wp2_with fail
    go_ret2
    exact HR.out _ rfl

end Go.Proofs.YthacjealoomioaaGreatDoor

/- (recon.union).find. -/
namespace Go.Proofs.YthacjealoomioaaGreatDoor
set_option linter.unusedVariables false
set_option linter.unusedSimpArgs false
open Go.RowKit

/-- Pairs of numbers, one behind the other. -/
def uni (n : Nat) (up top : List Nat) : List Nat := (List.range (n * 2)).map fun i => if i % 2 = 0 then up.getD (i / 2) 0 else top.getD (i / 2) 0

theorem uni_length (n : Nat) (up top : List Nat) : (uni n up top).length = n * 2 := by simp [uni]

theorem uni_get {n : Nat} {up top : List Nat} {i : Nat} (h : i < n * 2) : (uni n up top)[i]? = some (if i % 2 = 0 then up.getD (i / 2) 0 else top.getD (i / 2) 0) := by
  unfold uni
  rw [List.getElem?_map, List.getElem?_range h]; rfl

theorem uni_at0 {n : Nat} {up top : List Nat} {x : Nat} (h : x < n) : (uni n up top).getD (x * 2) 0 = up.getD x 0 := by
  rw [List.getD_eq_getElem?_getD, uni_get (by omega), if_pos (by omega), show x * 2 / 2 = x by omega]; rfl
theorem uni_at1 {n : Nat} {up top : List Nat} {x : Nat} (h : x < n) : (uni n up top).getD (x * 2 + 1) 0 = top.getD x 0 := by
  rw [List.getD_eq_getElem?_getD, uni_get (by omega), if_neg (by omega), show (x * 2 + 1) / 2 = x by omega]; rfl

theorem uni_set0 {n : Nat} {up top : List Nat} {x v : Nat} (h : x < n) (hl : up.length = n) : (uni n up top).set (x * 2) v = uni n (up.set x v) top := by
  apply List.ext_getElem?
  intro i
  by_cases hi : i < n * 2
  · rw [uni_get hi]
    by_cases e : i = x * 2
    · subst e
      rw [List.getElem?_set_self (by rw [uni_length]; omega), if_pos (by omega), show x * 2 / 2 = x by omega, getD_set_self (by omega)]
    · rw [List.getElem?_set_ne (fun e' => e e'.symm), uni_get hi]
      by_cases c : i % 2 = 0
      · rw [if_pos c, if_pos c, getD_set_ne (by omega)]
      · rw [if_neg c, if_neg c]
  · rw [List.getElem?_eq_none (by simp [uni]; omega), List.getElem?_eq_none (by simp [uni]; omega)]

theorem uni_set1 {n : Nat} {up top : List Nat} {x v : Nat} (h : x < n) (hl : top.length = n) : (uni n up top).set (x * 2 + 1) v = uni n up (top.set x v) := by
  apply List.ext_getElem?
  intro i
  by_cases hi : i < n * 2
  · rw [uni_get hi]
    by_cases e : i = x * 2 + 1
    · subst e
      rw [List.getElem?_set_self (by rw [uni_length]; omega), if_neg (by omega), show (x * 2 + 1) / 2 = x by omega, getD_set_self (by omega)]
    · rw [List.getElem?_set_ne (fun e' => e e'.symm), uni_get hi]
      by_cases c : i % 2 = 0
      · rw [if_pos c, if_pos c]
      · rw [if_neg c, if_neg c, getD_set_ne (by omega)]
  · rw [List.getElem?_eq_none (by simp [uni]; omega), List.getElem?_eq_none (by simp [uni]; omega)]

structure FdPost (w : World) (sb n : Nat) (k top : List Nat) (x : Nat) (e : Ending) (w' : World) : Prop where
  val : e = .returned (.int .i64 ((k.getD x 0 : Nat) : Int))
  out : ∃ up', Blk w' sb 145 (natV (uni n up' top)) ∧ FInv n k up'
  mod : Mod (fun z => z = sb) w w'

set_option maxHeartbeats 2000000 in
set_option maxRecDepth 100000 in
theorem find_ok (w : World) (sb n : Nat) (k up top : List Nat) (hb : Blk w sb 145 (natV (uni n up top))) (hi : FInv n k up) (hn : n ≤ 4096) (x : Nat) (hx : x < n) :
    Calls Tryz.prog 84 #[.slice (some ⟨sb, 0, none⟩) n n, .int .i64 x] w (FdPost w sb n k top x) := by
  have HB := Lib.hid hb
  have HI := Lib.hid hi
  clear hb hi
  go_enter Tryz.func84, Tryz.ntmps84
  go_wp2_with fail
  go_loopw [1] (fun s wr => ∃ (y : Nat) (up' : List Nat), s = .int .i64 y ∧ y < n ∧ k.getD y 0 = k.getD x 0 ∧ Blk wr sb 145 (natV (uni n up' top)) ∧ FInv n k up' ∧ Mod (fun z => z = sb) w wr) (fun s _ => (intOf s).toNat)
  case atStart => exact ⟨x, up, rfl, hx, rfl, HB.out, HI.out, Mod.refl _ _⟩
  case round =>
    obtain ⟨y, up', rfl, hy, hk, hb, hi, hm⟩ := hrel
    clear HB HI
    have HB := Lib.hid hb
    have HI := Lib.hid hi
    have HM := Lib.hid hm
    have HK := Lib.hid hk
    have c0 := blkN hb (i := y * 2) (by rw [uni_length]; omega)
    rw [uni_at0 hy] at c0
    have f0 := hb.free (y * 2)
    have hp := hi.le y hy
    have HUL := Lib.hid hi.ul
    clear hb hi hm hk
    have t0 : (y : Int) < (n : Int) := by omega
    have t1 : (0 : Int) ≤ (y : Int) := by omega
    by_cases he : up'.getD y 0 = y
    · have hky := HI.out.root y hy he
      have HF : Hid ((y : Int) = ((k.getD x 0 : Nat) : Int)) := by show _ = _; rw [← HK.out, hky]
      rw [he] at c0
      have te : ((y : Int) != (y : Int)) = false := by simp
      clear he hp hky
      go_wp2_with fail
      go_ret
      exact ⟨ret_int HF.out, ⟨up', HB.out, HI.out⟩, HM.out⟩
    · have HH := Lib.hid (HI.out.halve hy he)
      have hpn : up'.getD y 0 < n := by omega
      have cp := blkN HB.out (i := up'.getD y 0 * 2) (by rw [uni_length]; omega)
      rw [uni_at0 hpn] at cp
      have hq := HI.out.le _ hpn
      have HL := Lib.hid ((HI.out.lab _ hpn).trans (HI.out.lab y hy))
      generalize up'.getD (up'.getD y 0) 0 = q at *
      generalize up'.getD y 0 = p at *
      have hpy : p < y := by omega
      have tp : (p : Int) < (n : Int) := by omega
      have tp0 : (0 : Int) ≤ (p : Int) := by omega
      have te : ((p : Int) != (y : Int)) = true := by simp; omega
      clear he
      go_wp2_with fail
      refine region_tailD 13 (by kernel_rfl) (by kernel_rfl) ?_
      intro w2 hw2
      replace c0 := hw2.cell c0
      replace cp := hw2.cell cp
      replace f0 := hw2.frozen f0
      have HB2 := Lib.hid (hw2.blk HB.out)
      have HM2 := Lib.hid (hw2.mod HM.out)
      clear hw2 HB HM
      simp only [List.take_succ_cons, List.take_zero, List.drop_succ_cons, List.drop_zero]
      repeat still_step
      refine wpStill_nil ?_
      go_wp2_with fail
      have HB3 : Hid (Blk (w2.setCell ⟨sb, y * 2, none⟩ (.int .i64 q)) sb 145 (natV (uni n (up'.set y q) top))) := by
        have := blkN_set HB2.out (y * 2) q
        rw [uni_set0 hy HUL.out] at this
        exact this
      have hkq : k.getD q 0 = k.getD x 0 := HL.out.trans HK.out
      have HKQ := Lib.hid hkq
      clear hkq
      go_roundw
      case rel => exact ⟨q, up'.set y q, rfl, by omega, HKQ.out, HB3.out, HH.out, HM2.out.setCell _ (fun _ => rfl) _⟩
      case measure => simp only [intOf, Int.toNat_natCast]; omega

end Go.Proofs.YthacjealoomioaaGreatDoor
