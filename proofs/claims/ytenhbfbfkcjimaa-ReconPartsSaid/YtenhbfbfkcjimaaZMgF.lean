/- Several texts in one: RlM, RlH. -/
import Derived.Test.YtenhbfbfkcjimaaZRlB
import Derived.Test.YtenhbfbfkcjimaaZRlG
/- The statements' merge of two increasing lists. -/
namespace Go.Proofs.Ytenhbfbfkcjimaa
set_option linter.unusedVariables false
set_option linter.unusedSimpArgs false
open Go.RowKit

/-- Out is the beginning of M; what is left of the two lists is the rest of M. -/
structure MgAt (M out A B : List Nat) : Prop where
  srt : M.Pairwise (· < ·)
  ex : ∃ D, M = out ++ D ∧ (A ++ B).Perm D
  a : A.Pairwise (· < ·)
  b : B.Pairwise (· < ·)

theorem mg_head {x : Nat} {A B D : List Nat} (hA : (x :: A).Pairwise (· < ·)) (hD : D.Pairwise (· < ·)) (hp : (x :: A ++ B).Perm D) (hle : ∀ y ∈ B, x ≤ y) : ∃ D', D = x :: D' ∧ (A ++ B).Perm D' := by
  cases D with
  | nil => exact absurd (List.perm_nil.1 hp) (by simp)
  | cons d D' =>
    have hx : x ∈ d :: D' := hp.mem_iff.1 (by simp)
    have hd : d ∈ x :: A ++ B := hp.mem_iff.2 (by simp)
    have e : d = x := by
      rcases List.mem_cons.1 hx with e | e
      · exact e.symm
      · have h1 := (List.pairwise_cons.1 hD).1 x e
        rcases List.mem_append.1 hd with q | q
        · rcases List.mem_cons.1 q with q | q
          · exact q
          · have := (List.pairwise_cons.1 hA).1 d q; omega
        · have := hle d q; omega
    subst e
    exact ⟨D', rfl, (List.perm_cons d).1 hp⟩

theorem MgAt.left {M out A B : List Nat} {x : Nat} (h : MgAt M out (x :: A) B) (hle : ∀ y ∈ B, x ≤ y) : MgAt M (out ++ [x]) A B := by
  obtain ⟨D, rfl, hp⟩ := h.ex
  obtain ⟨D', rfl, hp'⟩ := mg_head h.a (List.pairwise_append.1 h.srt).2.1 hp hle
  exact ⟨h.srt, ⟨D', by simp, hp'⟩, (List.pairwise_cons.1 h.a).2, h.b⟩
theorem MgAt.right {M out A B : List Nat} {y : Nat} (h : MgAt M out A (y :: B)) (hle : ∀ x ∈ A, y ≤ x) : MgAt M (out ++ [y]) A B := by
  obtain ⟨D, rfl, hp⟩ := h.ex
  obtain ⟨D', rfl, hp'⟩ := mg_head h.b (List.pairwise_append.1 h.srt).2.1 (List.perm_append_comm.trans hp) hle
  exact ⟨h.srt, ⟨D', by simp, List.perm_append_comm.trans hp'⟩, h.a, (List.pairwise_cons.1 h.b).2⟩
theorem MgAt.all {M out : List Nat} (h : MgAt M out [] []) : out = M := by
  obtain ⟨D, rfl, hp⟩ := h.ex
  rw [List.nil_append] at hp
  rw [List.nil_perm.1 hp]
  simp
theorem MgAt.len {M out A B : List Nat} (h : MgAt M out A B) : out.length + (A.length + B.length) = M.length := by
  obtain ⟨D, rfl, hp⟩ := h.ex
  have := hp.length_eq
  rw [List.length_append] at this ⊢
  omega
theorem srt_le {y : Nat} {B : List Nat} {x : Nat} (h : (y :: B).Pairwise (· < ·)) (hle : x ≤ y) : ∀ z ∈ y :: B, x ≤ z := by
  intro z hz
  rcases List.mem_cons.1 hz with e | e
  · omega
  · have := (List.pairwise_cons.1 h).1 z e; omega

def slLen : Value → Nat
  | .slice _ n _ => n
  | _ => 0

/-- A slice whose cells are these numbers, and its capacity. -/
structure LRow (w : World) (v : Value) (A : List Nat) : Prop where
  ex : ∃ ao cap b off, v = .slice ao A.length cap ∧ A.length ≤ cap ∧ cap ≤ 9223372036854775807 ∧ InRow .i64 w ao A.length b off (nI A)

theorem LRow.below {w w' : World} {v : Value} {A : List Nat} (h : LRow w v A) (hb : Below w.heap.size w w') : LRow w' v A := by
  obtain ⟨ao, cap, b, off, e, h1, h2, h3⟩ := h.ex
  exact ⟨ao, cap, b, off, e, h1, h2, h3.below hb⟩

theorem LRow.of_own {w : World} {T : TypeId} {v : Value} {A : List Nat} (h : w.ownsRow 0 T 1 v A.length (natV A)) (hl : A.length ≤ 1000000) : LRow w v A := by
  rcases h.2 with ⟨rfl, h0⟩ | ⟨g, cap, cur, rfl, h1, hg, h2, h3, h4, h5⟩
  · have : A = [] := List.eq_nil_of_length_eq_zero h0
    subst this
    exact ⟨none, 0, 0, 0, rfl, Nat.le_refl _, by omega, ⟨rfl, fun h => absurd h (by simp), fun i hi => absurd hi (by simp)⟩⟩
  · obtain ⟨ao, c, b, e, hin, _⟩ := own_rowN h rfl
    injection e with e1 e2 e3
    subst e1 e3
    exact ⟨_, _, b, 0, rfl, h2, by unfold maxLen at h3; omega, hin⟩

/-- The head, and what is behind it. -/
theorem LRow.cons {w : World} {v : Value} {x : Nat} {A : List Nat} (h : LRow w v (x :: A)) : ∃ cap b off, v = .slice (some ⟨b, off, none⟩) (A.length + 1) cap ∧ A.length + 1 ≤ cap ∧ cap ≤ 9223372036854775807 ∧ w.cell? ⟨b, off, none⟩ = some (.int .i64 (x : Int)) ∧
    (cap = 1 → LRow w (.slice (some ⟨b, off, none⟩) 0 0) A) ∧ (1 < cap → LRow w (.slice (some ⟨b, off + 1, none⟩) A.length (cap - 1)) A) := by
  obtain ⟨ao, cap, b, off, rfl, h1, h2, h3⟩ := h.ex
  have ha := h3.adr (by simp)
  subst ha
  refine ⟨cap, b, off, rfl, h1, h2, ?_, fun hc => ?_, fun hc => ⟨_, cap - 1, b, off + 1, rfl, by simp only [List.length_cons] at h1; omega, by omega, ⟨nI_len _, fun _ => rfl, fun i hi => ?_⟩⟩⟩
  · have := h3.cell 0 (by simp)
    exact this
  · have : A = [] := List.eq_nil_of_length_eq_zero (by simp only [List.length_cons] at h1; omega)
    subst this
    exact ⟨_, 0, b, off, rfl, Nat.le_refl _, by omega, ⟨rfl, fun h => absurd h (by simp), fun i hi => absurd hi (by simp)⟩⟩
  · have := h3.cell (i + 1) (by simp; omega)
    rw [show off + (i + 1) = off + 1 + i by omega] at this
    rw [this]
    rfl

theorem LRow.nil {w : World} {v : Value} (h : LRow w v []) : ∃ ao cap, v = .slice ao 0 cap := by
  obtain ⟨ao, cap, b, off, rfl, _⟩ := h.ex
  exact ⟨ao, cap, rfl⟩

set_option maxHeartbeats 4000000 in
set_option maxRecDepth 100000 in
theorem merged_ok (w : World) (va vb : Value) (a b M : List Nat) (ha : LRow w va a) (hb : LRow w vb b) (hM : MgAt M [] a b) (hlen : M.length ≤ 100000) :
    Calls Try.prog 24 #[va, vb] w (RowPost w 3 1 M.length (natV M)) := by
  have HA := Lib.hid ha
  have HB := Lib.hid hb
  have HM := Lib.hid hM
  clear ha hb hM
  go_enter Try.func24, Try.ntmps24
  go_wp2_with fail
  go_loopw [0, 1, 5] (fun s0 s1 v wr => ∃ A B out : List Nat, LRow w s0 A ∧ LRow w s1 B ∧ MgAt M out A B ∧ wr.ownsRow 0 3 1 v out.length (natV out) ∧ (∀ y, v.ownBlock = some y → w.heap.size ≤ y) ∧ Below w.heap.size w wr) (fun s0 s1 _ _ => slLen s0 + slLen s1)
  case atStart => exact ⟨a, b, [], HA.out, HB.out, HM.out, World.ownsRow_nil _ _ _ _, fun y hy => (by cases hy), Below.refl _ _⟩
  case round =>
    obtain ⟨A, B, out, hA, hB, hM, hx, hxn, hbr⟩ := hrel
    clear HA HB HM
    have HX := Lib.hid hx
    have HXN := Lib.hid hxn
    have HBR := Lib.hid hbr
    have HM := Lib.hid hM
    have hml := hM.len
    clear hx hxn hbr hM
    cases A with
    | nil =>
      obtain ⟨aoa, capa, rfl⟩ := hA.nil
      have HA := Lib.hid hA
      clear hA
      cases B with
      | nil =>
        obtain ⟨aob, capb, rfl⟩ := hB.nil
        go_wp2_with fail
        go_ret
        have e := HM.out.all
        subst e
        exact ⟨⟨_, rfl, HX.out, HBR.out, HXN.out⟩⟩
      | cons y B' =>
        obtain ⟨capb, bb, offb, rfl, hcapb, hcxb, cb, hc1, hc2⟩ := hB.cons
        have HC1b := Lib.hid hc1
        have HC2b := Lib.hid hc2
        have db : wr.cell? ⟨bb, offb, none⟩ = some (.int .i64 (y : Int)) := (HBR.out.cell (p := ⟨bb, offb, none⟩) (World.block_lt_of_cell? w _ cb)).trans cb
        have HB := Lib.hid hB
        obtain ⟨Nb, HNb⟩ : ∃ N, Hid (B'.length + 1 = N) := ⟨_, rfl⟩
        have hnb : B'.length < Nb := by have := HNb.out; omega
        rw [HNb.out] at hcapb
        rw [HNb.out] at HB
        simp only [HNb.out]
        have pb : decide (0 < Nb) = true := by simp; omega
        have qb : ((Nb : Int) == 0) = false := by simp; omega
        clear hc1 hc2 cb hB
        go_wp2_with fail
        go_quiet (fail)
        have HXZ := Lib.hid (owns_drewN HX.out nq)
        have HBZ := Lib.hid (bel_drewN HBR.out nq)
        replace db : (wr.drewN nq).cell? ⟨bb, offb, none⟩ = some (.int .i64 (y : Int)) := db
        clear HX HBR
        generalize wr.drewN nq = wz at *
        have HMN := Lib.hid (HM.out.right (fun _ h => by cases h))
        have HOW := Lib.hid (HXZ.out.alloc (.cells #[.int .i64 y] 3))
        have HNW := Lib.hid (news_new wz 3 [.int .i64 y])
        go_wp2_with (at_builtin; apply keepIt)
        apply Lib.hid
        refine wpList_appendB 3 (.int .i64 0) 1 8 Try.underlying24 Try.infoInt rfl (by decide) _ out.length _ rfl HOW.out ⟨wz.heap.size, 0, none⟩ 1 1 [.int .i64 y] rfl rfl HNW.out (by simp [Value.oneCell']) (by unfold maxLen; omega) (by omega) ?_
        intro v6 w6 ho6 hg6 hn6
        obtain ⟨hv6, hvn6, hb6⟩ := app_one HXN.out HBZ.out.size ho6 hg6 hn6
        have HV6 : Hid (w6.ownsRow 0 3 1 v6 (out ++ [y]).length (natV (out ++ [y]))) := by show World.ownsRow _ _ _ _ _ _ _; rw [List.length_append]; exact hv6
        have HN6 := Lib.hid hvn6
        have HB6 := Lib.hid (HBZ.out.trans hb6)
        clear ho6 hg6 hn6 hv6 hvn6 hb6 HOW HNW HXZ HBZ
        by_cases hc : capb = 1
        · have HT := HC1b.out hc
          obtain rfl := hc
          obtain rfl : Nb = 1 := by omega
          have HT2 := Lib.hid HT
          clear HT
          go_wp2_with fail
          go_roundw
          case rel => exact ⟨[], B', _, HA.out, HT2.out, HMN.out, HV6.out, HN6.out, HB6.out⟩
          case measure => simp [slLen]
        · have HT := HC2b.out (by omega)
          have hc1 : 1 < capb := by omega
          rw [show B'.length = Nb - 1 by have := HNb.out; omega] at HT
          have HT2 := Lib.hid HT
          clear HT
          have hz1 : 1 ≤ Nb := by omega
          go_wp2_with fail
          go_roundw
          case rel => exact ⟨[], B', _, HA.out, HT2.out, HMN.out, HV6.out, HN6.out, HB6.out⟩
          case measure => simp [slLen]; omega
    | cons x A' =>
      obtain ⟨capa, ba, offa, rfl, hcapa, hcxa, ca, hc1, hc2⟩ := hA.cons
      have HC1a := Lib.hid hc1
      have HC2a := Lib.hid hc2
      have da : wr.cell? ⟨ba, offa, none⟩ = some (.int .i64 (x : Int)) := (HBR.out.cell (p := ⟨ba, offa, none⟩) (World.block_lt_of_cell? w _ ca)).trans ca
      have HA := Lib.hid hA
      obtain ⟨Na, HNa⟩ : ∃ N, Hid (A'.length + 1 = N) := ⟨_, rfl⟩
      have hna : A'.length < Na := by have := HNa.out; omega
      rw [HNa.out] at hcapa
      rw [HNa.out] at HA
      simp only [HNa.out]
      have pa : decide (0 < Na) = true := by simp; omega
      have qa : ((Na : Int) == 0) = false := by simp; omega
      clear hc1 hc2 ca hA
      cases B with
      | nil =>
        obtain ⟨aob, capb, rfl⟩ := hB.nil
        have HB := Lib.hid hB
        clear hB
        go_wp2_with fail
        go_quiet (fail)
        have HXZ := Lib.hid (owns_drewN HX.out nq)
        have HBZ := Lib.hid (bel_drewN HBR.out nq)
        replace da : (wr.drewN nq).cell? ⟨ba, offa, none⟩ = some (.int .i64 (x : Int)) := da
        clear HX HBR
        generalize wr.drewN nq = wz at *
        have HMN := Lib.hid (HM.out.left (fun _ h => by cases h))
        have HOW := Lib.hid (HXZ.out.alloc (.cells #[.int .i64 x] 3))
        have HNW := Lib.hid (news_new wz 3 [.int .i64 x])
        go_wp2_with (at_builtin; apply keepIt)
        apply Lib.hid
        refine wpList_appendB 3 (.int .i64 0) 1 8 Try.underlying24 Try.infoInt rfl (by decide) _ out.length _ rfl HOW.out ⟨wz.heap.size, 0, none⟩ 1 1 [.int .i64 x] rfl rfl HNW.out (by simp [Value.oneCell']) (by unfold maxLen; omega) (by omega) ?_
        intro v6 w6 ho6 hg6 hn6
        obtain ⟨hv6, hvn6, hb6⟩ := app_one HXN.out HBZ.out.size ho6 hg6 hn6
        have HV6 : Hid (w6.ownsRow 0 3 1 v6 (out ++ [x]).length (natV (out ++ [x]))) := by show World.ownsRow _ _ _ _ _ _ _; rw [List.length_append]; exact hv6
        have HN6 := Lib.hid hvn6
        have HB6 := Lib.hid (HBZ.out.trans hb6)
        clear ho6 hg6 hn6 hv6 hvn6 hb6 HOW HNW HXZ HBZ
        by_cases hc : capa = 1
        · have HT := HC1a.out hc
          obtain rfl := hc
          obtain rfl : Na = 1 := by omega
          have HT2 := Lib.hid HT
          clear HT
          go_wp2_with fail
          go_roundw
          case rel => exact ⟨A', [], _, HT2.out, HB.out, HMN.out, HV6.out, HN6.out, HB6.out⟩
          case measure => simp [slLen]
        · have HT := HC2a.out (by omega)
          have hc1 : 1 < capa := by omega
          rw [show A'.length = Na - 1 by have := HNa.out; omega] at HT
          have HT2 := Lib.hid HT
          clear HT
          have hz1 : 1 ≤ Na := by omega
          go_wp2_with fail
          go_roundw
          case rel => exact ⟨A', [], _, HT2.out, HB.out, HMN.out, HV6.out, HN6.out, HB6.out⟩
          case measure => simp [slLen]; omega
      | cons y B' =>
        obtain ⟨capb, bb, offb, rfl, hcapb, hcxb, cb, hc1, hc2⟩ := hB.cons
        have HC1b := Lib.hid hc1
        have HC2b := Lib.hid hc2
        have db : wr.cell? ⟨bb, offb, none⟩ = some (.int .i64 (y : Int)) := (HBR.out.cell (p := ⟨bb, offb, none⟩) (World.block_lt_of_cell? w _ cb)).trans cb
        have HB := Lib.hid hB
        obtain ⟨Nb, HNb⟩ : ∃ N, Hid (B'.length + 1 = N) := ⟨_, rfl⟩
        have hnb : B'.length < Nb := by have := HNb.out; omega
        rw [HNb.out] at hcapb
        rw [HNb.out] at HB
        simp only [HNb.out]
        have pb : decide (0 < Nb) = true := by simp; omega
        have qb : ((Nb : Int) == 0) = false := by simp; omega
        clear hc1 hc2 cb hB
        by_cases hxy : x ≤ y
        · have txy : decide (x ≤ y) = true := decide_eq_true hxy
          have HLE := Lib.hid hxy
          clear hxy
          go_wp2_with fail
          go_quiet (fail)
          have HXZ := Lib.hid (owns_drewN HX.out nq)
          have HBZ := Lib.hid (bel_drewN HBR.out nq)
          replace da : (wr.drewN nq).cell? ⟨ba, offa, none⟩ = some (.int .i64 (x : Int)) := da
          replace db : (wr.drewN nq).cell? ⟨bb, offb, none⟩ = some (.int .i64 (y : Int)) := db
          clear HX HBR
          generalize wr.drewN nq = wz at *
          have HMN := Lib.hid (HM.out.left (srt_le HM.out.b HLE.out))
          have HOW := Lib.hid (HXZ.out.alloc (.cells #[.int .i64 x] 3))
          have HNW := Lib.hid (news_new wz 3 [.int .i64 x])
          go_wp2_with (at_builtin; apply keepIt)
          apply Lib.hid
          refine wpList_appendB 3 (.int .i64 0) 1 8 Try.underlying24 Try.infoInt rfl (by decide) _ out.length _ rfl HOW.out ⟨wz.heap.size, 0, none⟩ 1 1 [.int .i64 x] rfl rfl HNW.out (by simp [Value.oneCell']) (by unfold maxLen; omega) (by omega) ?_
          intro v6 w6 ho6 hg6 hn6
          obtain ⟨hv6, hvn6, hb6⟩ := app_one HXN.out HBZ.out.size ho6 hg6 hn6
          have HV6 : Hid (w6.ownsRow 0 3 1 v6 (out ++ [x]).length (natV (out ++ [x]))) := by show World.ownsRow _ _ _ _ _ _ _; rw [List.length_append]; exact hv6
          have HN6 := Lib.hid hvn6
          have HB6 := Lib.hid (HBZ.out.trans hb6)
          clear ho6 hg6 hn6 hv6 hvn6 hb6 HOW HNW HXZ HBZ
          by_cases hc : capa = 1
          · have HT := HC1a.out hc
            obtain rfl := hc
            obtain rfl : Na = 1 := by omega
            have HT2 := Lib.hid HT
            clear HT
            go_wp2_with fail
            go_roundw
            case rel => exact ⟨A', (y :: B'), _, HT2.out, HB.out, HMN.out, HV6.out, HN6.out, HB6.out⟩
            case measure => simp [slLen]
          · have HT := HC2a.out (by omega)
            have hc1 : 1 < capa := by omega
            rw [show A'.length = Na - 1 by have := HNa.out; omega] at HT
            have HT2 := Lib.hid HT
            clear HT
            have hz1 : 1 ≤ Na := by omega
            go_wp2_with fail
            go_roundw
            case rel => exact ⟨A', (y :: B'), _, HT2.out, HB.out, HMN.out, HV6.out, HN6.out, HB6.out⟩
            case measure => simp [slLen]; omega
        · have txy : decide (x ≤ y) = false := decide_eq_false hxy
          have HLE : Hid (y ≤ x) := by show _ ≤ _; omega
          clear hxy
          go_wp2_with fail
          go_quiet (fail)
          have HXZ := Lib.hid (owns_drewN HX.out nq)
          have HBZ := Lib.hid (bel_drewN HBR.out nq)
          replace da : (wr.drewN nq).cell? ⟨ba, offa, none⟩ = some (.int .i64 (x : Int)) := da
          replace db : (wr.drewN nq).cell? ⟨bb, offb, none⟩ = some (.int .i64 (y : Int)) := db
          clear HX HBR
          generalize wr.drewN nq = wz at *
          have HMN := Lib.hid (HM.out.right (srt_le HM.out.a HLE.out))
          have HOW := Lib.hid (HXZ.out.alloc (.cells #[.int .i64 y] 3))
          have HNW := Lib.hid (news_new wz 3 [.int .i64 y])
          go_wp2_with (at_builtin; apply keepIt)
          apply Lib.hid
          refine wpList_appendB 3 (.int .i64 0) 1 8 Try.underlying24 Try.infoInt rfl (by decide) _ out.length _ rfl HOW.out ⟨wz.heap.size, 0, none⟩ 1 1 [.int .i64 y] rfl rfl HNW.out (by simp [Value.oneCell']) (by unfold maxLen; omega) (by omega) ?_
          intro v6 w6 ho6 hg6 hn6
          obtain ⟨hv6, hvn6, hb6⟩ := app_one HXN.out HBZ.out.size ho6 hg6 hn6
          have HV6 : Hid (w6.ownsRow 0 3 1 v6 (out ++ [y]).length (natV (out ++ [y]))) := by show World.ownsRow _ _ _ _ _ _ _; rw [List.length_append]; exact hv6
          have HN6 := Lib.hid hvn6
          have HB6 := Lib.hid (HBZ.out.trans hb6)
          clear ho6 hg6 hn6 hv6 hvn6 hb6 HOW HNW HXZ HBZ
          by_cases hc : capb = 1
          · have HT := HC1b.out hc
            obtain rfl := hc
            obtain rfl : Nb = 1 := by omega
            have HT2 := Lib.hid HT
            clear HT
            go_wp2_with fail
            go_roundw
            case rel => exact ⟨(x :: A'), B', _, HA.out, HT2.out, HMN.out, HV6.out, HN6.out, HB6.out⟩
            case measure => simp [slLen]
          · have HT := HC2b.out (by omega)
            have hc1 : 1 < capb := by omega
            rw [show B'.length = Nb - 1 by have := HNb.out; omega] at HT
            have HT2 := Lib.hid HT
            clear HT
            have hz1 : 1 ≤ Nb := by omega
            go_wp2_with fail
            go_roundw
            case rel => exact ⟨(x :: A'), B', _, HA.out, HT2.out, HMN.out, HV6.out, HN6.out, HB6.out⟩
            case measure => simp [slLen]; omega

end Go.Proofs.Ytenhbfbfkcjimaa

/- The tree of a graph with the places of its lists. -/
namespace Go.Proofs.Ytenhbfbfkcjimaa
set_option linter.unusedVariables false
set_option linter.unusedSimpArgs false
open Go.RowKit

abbrev hA (lb rb pb hb sb m : Nat) : TA := ⟨⟨some ⟨lb, 0, none⟩, lb, 0, m⟩, ⟨some ⟨rb, 0, none⟩, rb, 0, m⟩, ⟨some ⟨pb, 0, none⟩, pb, 0, m⟩, ⟨some ⟨hb, 0, none⟩, hb, 0, m⟩, ⟨some ⟨sb, 0, none⟩, sb, 0, m⟩⟩

def HBox (W : World) (x n m lb rb pb hb sb : Nat) : Prop := Blk W x 27 [.int .i64 (n : Int), .slice (some ⟨lb, 0, none⟩) m m, .slice (some ⟨rb, 0, none⟩) m m, .slice (some ⟨pb, 0, none⟩) m m, .slice (some ⟨hb, 0, none⟩) m m, .slice (some ⟨sb, 0, none⟩) m m]
theorem HBox.below {W W' : World} {x n m lb rb pb hb sb : Nat} (h : HBox W x n m lb rb pb hb sb) (hb2 : Below W.heap.size W W') : HBox W' x n m lb rb pb hb sb := Blk.below h hb2 (Blk.lt h)
theorem HBox.mod {F : Nat → Prop} {W W' : World} {x n m lb rb pb hb sb : Nat} (h : HBox W x n m lb rb pb hb sb) (hm : Mod F W W') (hn : ¬ F x) : HBox W' x n m lb rb pb hb sb := Blk.mod h hm hn
theorem HBox.six {W : World} {x n m lb rb pb hb sb : Nat} (h : HBox W x n m lb rb pb hb sb) : W.cell? ⟨x, 0, none⟩ = some (.int .i64 (n : Int)) ∧ W.cell? ⟨x, 1, none⟩ = some (.slice (some ⟨lb, 0, none⟩) m m) ∧ W.cell? ⟨x, 2, none⟩ = some (.slice (some ⟨rb, 0, none⟩) m m) ∧ W.cell? ⟨x, 3, none⟩ = some (.slice (some ⟨pb, 0, none⟩) m m) ∧
    W.cell? ⟨x, 4, none⟩ = some (.slice (some ⟨hb, 0, none⟩) m m) ∧ W.cell? ⟨x, 5, none⟩ = some (.slice (some ⟨sb, 0, none⟩) m m) :=
  ⟨Blk.cell h (i := 0) rfl, Blk.cell h (i := 1) rfl, Blk.cell h (i := 2) rfl, Blk.cell h (i := 3) rfl, Blk.cell h (i := 4) rfl, Blk.cell h (i := 5) rfl⟩

theorem row_at {w : World} {b k : Nat} {z : List Int} (h : InRow .i64 w (some ⟨b, 0, none⟩) k b 0 z) {i : Nat} (hi : i < k) : w.cell? ⟨b, i, none⟩ = some (.int .i64 (gi z i)) := by
  have := h.cell i hi
  rw [Nat.zero_add] at this
  exact this

section
variable {n m : Nat} {L : List Ed} {T : Tr} {ls : List Nat} (hg : GTree n m L T ls) {lb rb pb hb sb : Nat} {W : World} (ht : TreeAt W (hA lb rb pb hb sb m) T) {i : Nat} (hi : i < m)
include hg ht hi
theorem hL : W.cell? ⟨lb, i, none⟩ = some (.int .i64 (gi T.left i)) := by
  have := ht.l
  rw [hg.tv.ll] at this
  exact row_at this hi
theorem hR : W.cell? ⟨rb, i, none⟩ = some (.int .i64 (gi T.right i)) := by
  have := ht.r
  rw [hg.tv.rl] at this
  exact row_at this hi
theorem hP : W.cell? ⟨pb, i, none⟩ = some (.int .i64 (gi T.par i)) := by
  have := ht.p
  rw [hg.tv.pl] at this
  exact row_at this hi
theorem hH : W.cell? ⟨hb, i, none⟩ = some (.int .i64 (gi T.hgt i)) := by
  have := ht.h
  rw [hg.tv.hl] at this
  exact row_at this hi
theorem hS : W.cell? ⟨sb, i, none⟩ = some (.int .i64 (gi T.siz i)) := by
  have := ht.s
  rw [hg.tv.sl] at this
  exact row_at this hi
end

theorem keepH {W w' : World} {x n m lb rb pb hb sb : Nat} {p1 p2 : Addr} {v1 v2 : Value} (h : Hid (HBox W x n m lb rb pb hb sb)) (h1 : Hid (W.cell? p1 = some v1)) (h2 : Hid (W.cell? p2 = some v2)) (hb2 : Below W.heap.size W w') :
    w'.cell? ⟨x, 0, none⟩ = some (.int .i64 (n : Int)) ∧ w'.cell? ⟨x, 1, none⟩ = some (.slice (some ⟨lb, 0, none⟩) m m) ∧ w'.cell? ⟨x, 2, none⟩ = some (.slice (some ⟨rb, 0, none⟩) m m) ∧ w'.cell? ⟨x, 3, none⟩ = some (.slice (some ⟨pb, 0, none⟩) m m) ∧
    w'.cell? ⟨x, 4, none⟩ = some (.slice (some ⟨hb, 0, none⟩) m m) ∧ w'.cell? ⟨x, 5, none⟩ = some (.slice (some ⟨sb, 0, none⟩) m m) ∧ w'.cell? p1 = some v1 ∧ w'.cell? p2 = some v2 ∧ Below W.heap.size W w' := by
  obtain ⟨a, b, c, d, e, f⟩ := (h.out.below hb2).six
  exact ⟨a, b, c, d, e, f, (hb2.cell (World.block_lt_of_cell? W _ h1.out)).trans h1.out, (hb2.cell (World.block_lt_of_cell? W _ h2.out)).trans h2.out, hb2⟩

theorem MgAt.two {M a b : List Nat} (hM : M.Pairwise (· < ·)) (ha : a.Pairwise (· < ·)) (hb : b.Pairwise (· < ·)) (hp : M.Perm (a ++ b)) : MgAt M [] a b := ⟨hM, ⟨M, rfl, hp.symm⟩, ha, hb⟩

end Go.Proofs.Ytenhbfbfkcjimaa
