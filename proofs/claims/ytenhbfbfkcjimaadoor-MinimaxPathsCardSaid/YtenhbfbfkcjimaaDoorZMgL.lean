/- Several texts in one: PaB, MmP. -/
import Derived.Test.YtenhbfbfkcjimaaDoorZMmA
import Derived.Test.YtenhbfbfkcjimaaDoorZMgJ
/- The search from v over the forest finds the ways to v. No program in sight. -/
namespace Go.Proofs.YtenhbfbfkcjimaaDoor
set_option linter.unusedVariables false
set_option linter.unusedSimpArgs false

/-- The search: the queue, what leads towards v, how many are done. -/
structure Bfs (n : Nat) (l : List Ed) (v : Nat) (q : List Nat) (G : Nat → Option (Int × Nat)) (k : Nat) : Prop where
  pos : 0 < q.length
  q0 : q.getD 0 0 = v
  nd : q.Nodup
  lt : ∀ x ∈ q, x < n
  g0 : G v = some (-1, v)
  gs : ∀ i, 0 < i → i < q.length → ∃ e y j : Nat, G (q.getD i 0) = some ((e : Int), y) ∧ InF n l e ∧ Arm l e (q.getD i 0) y ∧ j < i ∧ q.getD j 0 = y
  gn : ∀ x, x ∉ q → G x = none
  cl : ∀ i, i < k → ∀ e y, (e, y) ∈ arTo l (forL n l) (q.getD i 0) → y ∈ q
  kl : k ≤ q.length

theorem getD_mem {q : List Nat} {i : Nat} (h : i < q.length) : q.getD i 0 ∈ q := by
  rw [List.getD_eq_getElem?_getD, List.getElem?_eq_getElem h]
  exact List.getElem_mem _
theorem getD_inj' {q : List Nat} (h : q.Nodup) {i j : Nat} (hi : i < q.length) (hj : j < q.length) (e : q.getD i 0 = q.getD j 0) : i = j := by
  rw [List.getD_eq_getElem?_getD, List.getD_eq_getElem?_getD, List.getElem?_eq_getElem hi, List.getElem?_eq_getElem hj] at e
  exact (List.getElem_inj h).1 e
theorem mem_getD {q : List Nat} {x : Nat} (h : x ∈ q) : ∃ i, i < q.length ∧ q.getD i 0 = x := by
  obtain ⟨i, hi, rfl⟩ := List.getElem_of_mem h
  exact ⟨i, hi, by rw [List.getD_eq_getElem?_getD, List.getElem?_eq_getElem hi]; rfl⟩

theorem Bfs.start {n : Nat} {l : List Ed} {v : Nat} (hv : v < n) : Bfs n l v [v] (fun z => if z = v then some (-1, v) else none) 0 :=
  ⟨by simp, rfl, by simp, fun x hx => by simp at hx; omega, if_pos rfl, fun i h1 h2 => by simp at h2; omega, fun x hx => if_neg (fun e => hx (by simp [e])), fun i hi => by omega, by simp⟩

theorem Bfs.add {n : Nat} {l : List Ed} {v : Nat} {q : List Nat} {G : Nat → Option (Int × Nat)} {k e y : Nat} (hg : GOk n l) (h : Bfs n l v q G k) (hk : k < q.length) (ha : (e, y) ∈ arTo l (forL n l) (q.getD k 0)) (hy : y ∉ q) :
    Bfs n l v (q ++ [y]) (fun z => if z = y then some ((e : Int), q.getD k 0) else G z) k := by
  have hat : ∀ i, i < q.length → (q ++ [y]).getD i 0 = q.getD i 0 := fun i hi => getD_app_left hi
  obtain ⟨hef, harm⟩ := arTo_mem ha
  have hel := forL_mem hef
  refine ⟨by simp, by rw [hat 0 h.pos]; exact h.q0, ?_, ?_, ?_, ?_, ?_, ?_, ?_⟩
  · rw [List.nodup_append]
    exact ⟨h.nd, by simp, fun x hx z hz e => by simp at hz; subst hz; subst e; exact hy hx⟩
  · intro x hx
    rcases List.mem_append.1 hx with hx | hx
    · exact h.lt x hx
    · rw [List.mem_singleton] at hx
      rw [hx]
      exact (harm.ne hg hel).2.1
  · have : v ≠ y := fun e => hy (by rw [← e, ← h.q0]; exact getD_mem h.pos)
    rw [if_neg this]
    exact h.g0
  · intro i h1 h2
    rw [List.length_append, List.length_singleton] at h2
    by_cases hi : i < q.length
    · rw [hat i hi]
      obtain ⟨e', y', j, a1, a2, a3, a4, a5⟩ := h.gs i h1 hi
      have : q.getD i 0 ≠ y := fun e => hy (by rw [← e]; exact getD_mem hi)
      exact ⟨e', y', j, by rw [if_neg this]; exact a1, a2, a3, a4, by rw [hat j (by omega)]; exact a5⟩
    · obtain rfl : i = q.length := by omega
      rw [getD_app_last]
      exact ⟨e, q.getD k 0, k, by rw [if_pos rfl], hef, harm.symm, hk, hat k hk⟩
  · intro x hx
    have h1 : x ≠ y := fun e => hx (by rw [e]; simp)
    rw [if_neg h1]
    exact h.gn x (fun hm => hx (List.mem_append_left _ hm))
  · intro i hi e' y' hm
    rw [hat i (by have := h.kl; omega)] at hm
    exact List.mem_append_left _ (h.cl i hi e' y' hm)
  · have := h.kl
    simp; omega
theorem Bfs.next {n : Nat} {l : List Ed} {v : Nat} {q : List Nat} {G : Nat → Option (Int × Nat)} {k : Nat} (h : Bfs n l v q G k) (hk : k < q.length) (ha : ∀ a ∈ arTo l (forL n l) (q.getD k 0), a.2 ∈ q) : Bfs n l v q G (k + 1) :=
  ⟨h.pos, h.q0, h.nd, h.lt, h.g0, h.gs, h.gn, fun i hi e y hm => by
    by_cases e1 : i < k
    · exact h.cl i e1 e y hm
    · obtain rfl : i = k := by omega
      exact ha (e, y) hm, hk⟩
theorem Bfs.len {n : Nat} {l : List Ed} {v : Nat} {q : List Nat} {G : Nat → Option (Int × Nat)} {k : Nat} (h : Bfs n l v q G k) : q.length ≤ n := nodup_bound n q h.nd h.lt

/-- All that is connected is found. -/
theorem Bfs.all {n : Nat} {l : List Ed} (hg : GOk n l) {v : Nat} {q : List Nat} {G : Nat → Option (Int × Nat)} (h : Bfs n l v q G q.length) {u : Nat} (hc : Con (EdR l (InF n l)) v u) : u ∈ q := by
  induction hc with
  | refl => rw [← h.q0]; exact getD_mem h.pos
  | step hxy hr ih =>
    obtain ⟨e, he, hf, ha⟩ := EdR.arm hr
    obtain ⟨i, hi, rfl⟩ := mem_getD ih
    exact h.cl i hi e _ (arTo_has hf ha (hg.uv he).2.2.1)

theorem Bfs.off {n : Nat} {l : List Ed} {v : Nat} {q : List Nat} {G : Nat → Option (Int × Nat)} {k : Nat} (h : Bfs n l v q G k) {z : Nat} : ∀ i, i < q.length → (∀ j, j ≤ i → q.getD j 0 ≠ z) → Off n l z (q.getD i 0) v := by
  intro i
  induction i using Nat.strongRecOn with
  | _ i ih =>
    intro hi hz
    by_cases h0 : i = 0
    · subst h0
      rw [h.q0]
      exact Con.refl _
    · obtain ⟨e, y, j, a1, a2, a3, a4, rfl⟩ := h.gs i (by omega) hi
      refine Con.trans (a3.con (forL_mem a2) ⟨a2, fun ht => ?_⟩) (ih j a4 (by omega) (fun j' hj' => hz j' (by omega)))
      have h1 := hz i (Nat.le_refl _)
      have h2 := hz j (by omega)
      rcases a3 with ⟨b1, b2⟩ | ⟨b1, b2⟩ <;> rcases ht with b3 | b3 <;> omega

/-- The way from each vertex of the queue. -/
theorem Bfs.path {n : Nat} {l : List Ed} {v : Nat} {q : List Nat} {G : Nat → Option (Int × Nat)} {k : Nat} (h : Bfs n l v q G k) : ∀ i, i < q.length → ∃ p, PathTo n l v (q.getD i 0) p ∧ (i = 0 → p = []) ∧ (0 < i → ∃ e y j : Nat, ∃ p', G (q.getD i 0) = some ((e : Int), y) ∧ j < i ∧ q.getD j 0 = y ∧ p = e :: p' ∧ PathTo n l v y p') := by
  intro i
  induction i using Nat.strongRecOn with
  | _ i ih =>
    intro hi
    by_cases h0 : i = 0
    · subst h0
      rw [h.q0]
      exact ⟨[], .here, fun _ => rfl, fun h => by omega⟩
    · obtain ⟨e, y, j, a1, a2, a3, a4, a5⟩ := h.gs i (by omega) hi
      obtain ⟨p', hp, _⟩ := ih j a4 (by omega)
      rw [a5] at hp
      have hne : q.getD i 0 ≠ v := fun e => by
        rw [← h.q0] at e
        have := getD_inj' h.nd hi h.pos e
        omega
      have hoff : Off n l (q.getD i 0) y v := by
        rw [← a5]
        exact h.off j (by omega) (fun j' hj' e => by have := getD_inj' h.nd (by omega) hi e; omega)
      exact ⟨e :: p', .step a2 a3 hne hoff hp, fun h => by omega, fun _ => ⟨e, y, j, p', a1, a4, a5, rfl, hp⟩⟩

end Go.Proofs.YtenhbfbfkcjimaaDoor

/- minimax: Path. -/
namespace Go.Proofs.YtenhbfbfkcjimaaDoor
set_option linter.unusedVariables false
set_option linter.unusedSimpArgs false
open Go.RowKit

def amV (a : Int × Nat) : Value := .agg #[.int .i64 a.1, .int .i64 (a.2 : Int)]
def mapG (G : Nat → Option (Int × Nat)) (i : Int) : Option Value := if 0 ≤ i then (G i.toNat).map amV else none
theorem mapG_nat (G : Nat → Option (Int × Nat)) (x : Nat) : mapG G (x : Int) = (G x).map amV := by unfold mapG; rw [if_pos (by omega), Int.toNat_natCast]
theorem mapG_upd (G : Nat → Option (Int × Nat)) (y : Nat) (a : Int × Nat) (j : Int) : (if j = (y : Int) then some (amV a) else mapG G j) = mapG (fun z => if z = y then some a else G z) j := by
  unfold mapG
  by_cases h : 0 ≤ j
  · obtain ⟨k, rfl⟩ := Int.eq_ofNat_of_zero_le h
    rw [if_pos h, if_pos h, Int.toNat_natCast]
    by_cases e : k = y
    · subst e; rw [if_pos rfl]; simp
    · rw [if_neg (by omega)]
      simp only [if_neg e]
  · rw [if_neg h, if_neg h, if_neg (by omega)]
theorem Tryd.zeroArm (w : World) : (zeroValue 74).run Tryd.prog w = .ok (.agg #[.int .i64 0, .int .i64 0]) w := by kernel_rfl

theorem Tryd.armEdge (e : Int) (y : Nat) : ∀ w, (Instr.field 74 (.agg #[.int .i64 e, .int .i64 (y : Int)]) 0).run Tryd.prog w = .ok (.int .i64 e) w := fun w => by kernel_rfl
theorem Tryd.armEnd (e : Int) (y : Nat) : ∀ w, (Instr.field 74 (.agg #[.int .i64 e, .int .i64 (y : Int)]) 1).run Tryd.prog w = .ok (.int .i64 (y : Int)) w := fun w => by kernel_rfl
/-- The map 'toward' and the queue in memory. -/
structure PaS (w0 W : World) (mb cnt : Nat) (G : Nat → Option (Int × Nat)) (q : List Nat) (qv : Value) : Prop where
  map : MapV W Tryd.prog 3 mb cnt (mapG G)
  q : W.ownsRow 0 3 1 qv q.length (natV q)
  qn : ∀ g, qv.ownBlock = some g → w0.heap.size ≤ g ∧ g ≠ mb
  bel : Below w0.heap.size w0 W
  mn : w0.heap.size ≤ mb
theorem PaS.below {w0 W W' : World} {mb cnt : Nat} {G : Nat → Option (Int × Nat)} {q : List Nat} {qv : Value} (h : PaS w0 W mb cnt G q qv) (hb : Below W.heap.size W W') : PaS w0 W' mb cnt G q qv :=
  ⟨h.map.below hb h.map.lt, owns_mod h.q (Mod.of_below (F := fun _ => False) hb) (fun _ _ e => e), h.qn, bel_then h.bel hb, h.mn⟩

def lenOf : Value → Nat
  | .slice _ n _ => n
  | _ => 0

/-- What Path returns. -/
structure PthPost (w : World) (n : Nat) (l : List Ed) (u v : Int) (e : Ending) (w' : World) : Prop where
  no : mV n l u v = none → e = .returned (.slice none 0 0)
  yes : ∀ c, mV n l u v = some c → ∃ p val, PathTo n l v.toNat u.toNat p ∧ e = .returned val ∧ w'.ownsRow 0 3 1 val p.length (natV p) ∧ ∀ g, val.ownBlock = some g → w.heap.size ≤ g
  bel : Below w.heap.size w w'

theorem mV_some {n : Nat} {l : List Ed} (hg : GOk n l) {u v : Int} {c : Nat} (h : mV n l u v = some c) : ∃ a b : Nat, u = a ∧ v = b ∧ a < n ∧ b < n ∧ a ≠ b ∧ comV (bdL n l) (n + FN n l) a b = some c ∧ Con (EdR l (InF n l)) b a := by
  unfold mV at h
  split at h
  · rename_i hc
    obtain ⟨a, rfl⟩ := Int.eq_ofNat_of_zero_le hc.1.1
    obtain ⟨b, rfl⟩ := Int.eq_ofNat_of_zero_le hc.2.1.1
    rw [Int.toNat_natCast, Int.toNat_natCast] at h
    have ha : a < n := by omega
    have hb : b < n := by omega
    have hab : a ≠ b := by omega
    refine ⟨a, b, rfl, rfl, ha, hb, hab, h, ?_⟩
    have h1 := (com_edges hg ha hb hab (Nat.le_refl _)).2 ⟨c, h, (comV_inner (bdL_tv3 hg) ha hb hab h).2⟩
    exact ((forest_lab hg).iff hb ha).1 h1.symm
  · cases h

set_option maxHeartbeats 16000000 in
set_option maxRecDepth 100000 in
theorem path_ok (w : World) (M : MB) (n : Nat) (l : List Ed) (hM : MObj w M n l) (hg : GOk n l) (hT : Tab64 w) (u v : Int) :
    Calls Tryd.prog 18 #[.pointer (some ⟨M.f, 0, none⟩), .int .i64 u, .int .i64 v] w (PthPost w n l u v) := by
  have HM := Lib.hid hM
  have HG := Lib.hid hg
  have HMEET := Lib.hid (meeting_ok w M n l hM hg hT u v)
  have hn4 := hg.hn
  clear hM hg hT
  go_enter Tryd.func18, Tryd.ntmps18
  go_wp2_with fail
  with_reducible refine HMEET.out.mono ?_
  rintro e w1 ⟨rfl, hb1⟩
  have HB1 := Lib.hid hb1
  have HM1 := Lib.hid (HM.out.below hb1)
  clear hb1 HMEET
  cases hc : mV n l u v with
  | none =>
    have HC := Lib.hid hc
    clear hc
    unfold comR
    simp only [Option.getD_none, Option.isSome_none]
    go_wp2_with fail
    go_ret
    exact ⟨fun _ => rfl, (fun c h => by rw [HC.out] at h; cases h), HB1.out⟩
  | some c =>
    have HC := Lib.hid hc
    obtain ⟨a, b, rfl, rfl, ha, hb, hab, hcom, hcon⟩ := mV_some HG.out hc
    have HCON := Lib.hid hcon
    clear hc hcom hcon
    unfold comR
    simp only [Option.getD_some, Option.isSome_some]
    have hmm := @run_makeMap Tryd.prog
    have hb2 : Below w1.heap.size w1 (w1.alloc (.map #[] 0)) := bel_alloc w1 _
    obtain ⟨w2, hrun, hmap, hmod⟩ := (MapV.made w1 Tryd.prog 3).store Tryd.underlying3 Tryd.underlying80 (by unfold maxLen; omega) (i := (b : Int)) (wf_i64 (by omega) (by omega)) (.agg #[.int .i64 (-1), .int .i64 (b : Int)])
    have hbel2 : Below w1.heap.size w1 w2 := bel_mod hb2 hmod (fun x e => by rw [e]; exact Nat.le_refl _)
    have hmap2 : MapV w2 Tryd.prog 3 w1.heap.size 1 (mapG (fun z => if z = b then some (-1, b) else none)) := hmap.congr (fun j => by
      rw [← mapG_upd (fun _ => none) b (-1, b) j]
      by_cases e : j = (b : Int)
      · rw [if_pos e, if_pos e]; rfl
      · rw [if_neg e, if_neg e]; unfold mapG; split <;> rfl)
    have HRUN := Lib.hid hrun
    have hrun' := hrun
    have hs12 : w1.heap.size < w2.heap.size := hmap2.lt
    have HS0 : Hid (PaS w1 (w2.alloc (.cells #[.int .i64 (b : Int)] 3)) w1.heap.size 1 (fun z => if z = b then some (-1, b) else none) [b] (.slice (some ⟨w2.heap.size, 0, none⟩) 1 1)) := by
      have hba : Below w2.heap.size w2 (w2.alloc (.cells #[.int .i64 (b : Int)] 3)) := bel_alloc w2 _
      refine ⟨hmap2.below hba hmap2.lt, ?_, fun g hg => ?_, bel_then hbel2 hba, Nat.le_refl _⟩
      · exact owns_blk2 (l := [b]) (Blk.new w2 3 [.int .i64 (b : Int)]) (by simp)
      · have e : w2.heap.size = g := by simpa [Value.ownBlock] using hg
        exact ⟨by omega, by omega⟩
    clear hrun hmap hmod hb2 hbel2 hmap2
    go_wp2_with fail
    clear hrun' hmm HRUN
    obtain ⟨mb, hmb⟩ : ∃ mb, w1.heap.size = mb := ⟨_, rfl⟩
    rw [hmb] at HS0 ⊢
    clear hs12
    go_loopw [10, 11] (fun s10 s11 wr => ∃ k q G, s11 = .int .i64 (k : Nat) ∧ PaS w1 wr mb q.length G q s10 ∧ Bfs n l b q G k) (fun _ s11 _ => n - (intOf s11).toNat)
    case atStart => exact ⟨0, [b], _, rfl, HS0.out, Bfs.start hb⟩
    case round =>
      obtain ⟨k, q, G, rfl, hS, hB⟩ := hrel
      have HS := Lib.hid hS
      have HBF := Lib.hid hB
      have hkl := hB.kl
      have hqn := hB.len
      obtain ⟨qo, qc, qb, rfl, hqr, _⟩ := own_rowN hS.q rfl
      obtain ⟨ql, hql⟩ : ∃ ql, q.length = ql := ⟨_, rfl⟩
      have HQL := Lib.hid hql
      rw [hql] at hkl hqn hqr HS ⊢
      have HQR := Lib.hid hqr
      clear hS hB hqr HS0 hql
      have HM2 := Lib.hid (HM1.out.below HS.out.bel)
      by_cases hk : k < ql
      · have tk : decide (k < ql) = true := decide_eq_true hk
        have tk1 : (k : Int) < (ql : Int) := by omega
        have tk0 : (0 : Int) ≤ (k : Int) := by omega
        obtain rfl := HQR.out.adr (by omega)
        have cq := HQR.out.cell k hk
        rw [nI_at (by rw [HQL.out]; exact hk), Nat.zero_add] at cq
        obtain ⟨x, hx⟩ : ∃ x, q.getD k 0 = x := ⟨_, rfl⟩
        have HX := Lib.hid hx
        have hxn : x < n := by rw [← hx]; exact HBF.out.lt _ (getD_mem (by rw [HQL.out]; exact hk))
        rw [hx] at cq
        have f0 := HM2.out.f0
        have t8 := HM2.out.t8
        obtain ⟨cntM, FM, hmM, hFM⟩ := HM2.out.map
        have hlk := hmM.look Tryd.underlying3 Tryd.underlying69 (Tryd.zeroArms wr) (i := (x : Int)) (wf_i64 (by omega) (by omega))
        rw [hFM x hxn] at hlk
        have HROW := Lib.hid (HM2.out.row x hxn)
        obtain ⟨N, hN⟩ : ∃ N, (arTo l (forL n l) x).length = N := ⟨_, rfl⟩
        have HN := Lib.hid hN
        rw [hN] at HROW
        have hNl : N ≤ 4096 := by
          have h1 := arTo_len l x (forL n l)
          have h2 := forL_len HG.out
          omega
        obtain ⟨vo, vc, hvv⟩ := owns_slice HROW.out
        have HVV := Lib.hid hvv
        rw [hvv] at hlk
        clear hx hN hmM hFM hvv
        go_wp2_with fail
        clear cq f0 t8 hlk
        have hkq : k < q.length := by rw [HQL.out]; exact hk
        go_loopw [10, 55] (fun s10 s55 wz => ∃ i q' G', i ≤ N ∧ s55 = .int .i64 (i : Nat) ∧ PaS w1 wz mb q'.length G' q' s10 ∧ Bfs n l b q' G' k ∧ q'.getD k 0 = x ∧ k < q'.length ∧ ∀ i', i' < i → ((arTo l (forL n l) x).getD i' (0, 0)).2 ∈ q') (fun _ s55 _ => N - (intOf s55).toNat)
        case atStart => exact ⟨0, q, G, Nat.zero_le _, rfl, by rw [HQL.out]; exact HS.out, HBF.out, HX.out, hkq, fun i' h => by omega⟩
        case round =>
          obtain ⟨i, q', G', hi, rfl, hS, hB, hqx, hkq', hpart⟩ := hrel
          have HS2 := Lib.hid hS
          have HB2 := Lib.hid hB
          have HQX := Lib.hid hqx
          have HPART := Lib.hid hpart
          have hqn2 := hB.len
          obtain ⟨ql2, hql2⟩ : ∃ ql, q'.length = ql := ⟨_, rfl⟩
          have HQL2 := Lib.hid hql2
          rw [hql2] at hqn2 hkq' HS2
          obtain ⟨qo2, qc2, hqv⟩ := owns_slice HS2.out.q
          rw [HQL2.out] at hqv
          subst hqv
          clear hS hB hqx hpart hql2 HS HBF
          by_cases hiN : i < N
          · have ti : decide (i < N) = true := decide_eq_true hiN
            have ti1 : (i : Int) < (N : Int) := by omega
            have ti0 : (0 : Int) ≤ (i : Int) := by omega
            have hrow := (HM1.out.below HS2.out.bel).row x hxn
            rw [HN.out, HVV.out] at hrow
            obtain ⟨ag, acap, hav, _, _, _, hac, _⟩ := owns_form hrow (by omega)
            injection hav with e1 _ e2
            subst e1 e2
            obtain ⟨ca1, ca2⟩ := amCells_at (arTo l (forL n l) x) i (by rw [HN.out]; exact hiN)
            have ce := hac (2 * i) (by omega)
            have cy := hac (2 * i + 1) (by omega)
            rw [ca1, Nat.mul_comm] at ce
            rw [ca2, Nat.mul_comm 2 i] at cy
            have hmem : (arTo l (forL n l) x).getD i (0, 0) ∈ arTo l (forL n l) x := by
              rw [List.getD_eq_getElem?_getD, List.getElem?_eq_getElem (by rw [HN.out]; exact hiN)]
              exact List.getElem_mem _
            have HPI : Hid (∀ q2 : List Nat, (∀ z ∈ q', z ∈ q2) → ((arTo l (forL n l) x).getD i (0, 0)).2 ∈ q2 → ∀ i', i' < i + 1 → ((arTo l (forL n l) x).getD i' (0, 0)).2 ∈ q2) := fun q2 h1 h2 i' hi' => by
              by_cases e : i' = i
              · rw [e]; exact h2
              · exact h1 _ (HPART.out i' (by omega))
            obtain ⟨ay, hay⟩ : ∃ p, (arTo l (forL n l) x).getD i (0, 0) = p := ⟨_, rfl⟩
            rw [hay] at ce cy HPI hmem
            clear hay ca1 ca2
            obtain ⟨e, y⟩ := ay
            replace ce : wr.cell? ⟨ag, i * 2, none⟩ = some (.int .i64 (e : Int)) := ce
            replace cy : wr.cell? ⟨ag, i * 2 + 1, none⟩ = some (.int .i64 (y : Int)) := cy
            replace HPI : Hid (∀ q2 : List Nat, (∀ z ∈ q', z ∈ q2) → y ∈ q2 → ∀ i', i' < i + 1 → ((arTo l (forL n l) x).getD i' (0, 0)).2 ∈ q2) := HPI
            have HAM := Lib.hid hmem
            obtain ⟨hef, harm⟩ := arTo_mem hmem
            have hel := forL_mem hef
            have hl4 := HG.out.hl
            have hyn : y < n := (harm.ne HG.out hel).2.1
            have hbw : Below wr.heap.size wr (wr.alloc (.cells #[.int .i64 (e : Int), .int .i64 (y : Int)] 74)) := bel_alloc wr _
            have hlk := (HS2.out.map.below hbw HS2.out.map.lt).look_ok Tryd.underlying3 Tryd.underlying80 (Tryd.zeroArm _) (i := (y : Int)) (wf_i64 (by omega) (by omega))
            rw [mapG_nat] at hlk
            clear hmem hac hrow harm hef hbw
            by_cases hyq : y ∈ q'
            · obtain ⟨e0, z0, hG⟩ : ∃ (e0 : Int) (z0 : Nat), G' y = some (e0, z0) := by
                obtain ⟨j, hj, rfl⟩ := mem_getD hyq
                by_cases h0 : j = 0
                · subst h0
                  rw [HB2.out.q0]
                  exact ⟨_, _, HB2.out.g0⟩
                · obtain ⟨e', y', j', a1, _⟩ := HB2.out.gs j (by omega) hj
                  exact ⟨_, _, a1⟩
              rw [hG] at hlk
              simp only [Option.map_some, Option.getD_some, Option.isSome_some, amV] at hlk
              have HPI2 := Lib.hid (HPI.out q' (fun _ h => h) hyq)
              have HS3 := Lib.hid ((HS2.out.below (bel_alloc wr (.cells #[.int .i64 (e : Int), .int .i64 (y : Int)] 74))).below (bel_alloc _ (.cells #[.int .i64 e0, .int .i64 (z0 : Int)] 74)))
              clear hG hyq HPI HS2
              go_wp2_with fail
              go_roundw
              case rel => exact ⟨i + 1, q', G', by omega, by go_num, by rw [HQL2.out]; exact HS3.out, HB2.out, HQX.out, by rw [HQL2.out]; exact hkq', HPI2.out⟩
              case measure => simp [intOf]; omega
            · have hG := HB2.out.gn y hyq
              rw [hG] at hlk
              simp only [Option.map_none, Option.getD_none, Option.isSome_none] at hlk
              have hb1 : Below wr.heap.size wr (wr.alloc (.cells #[.int .i64 (e : Int), .int .i64 (y : Int)] 74)) := bel_alloc wr _
              have hb2 : Below (wr.alloc (.cells #[.int .i64 (e : Int), .int .i64 (y : Int)] 74)).heap.size (wr.alloc (.cells #[.int .i64 (e : Int), .int .i64 (y : Int)] 74)) ((wr.alloc (.cells #[.int .i64 (e : Int), .int .i64 (y : Int)] 74)).alloc (.cells #[.int .i64 0, .int .i64 0] 74)) := bel_alloc _ _
              have HS3 := Lib.hid ((HS2.out.below hb1).below hb2)
              have hA1 : Blk ((wr.alloc (.cells #[.int .i64 (e : Int), .int .i64 (y : Int)] 74)).alloc (.cells #[.int .i64 0, .int .i64 0] 74)) wr.heap.size 74 [.int .i64 (e : Int), .int .i64 (y : Int)] := (Blk.new wr _ [_, _]).alloc _
              obtain ⟨w3, hrun, hm3, hmod3⟩ := HS3.out.map.store Tryd.underlying3 Tryd.underlying80 (by unfold maxLen; omega) (i := (y : Int)) (wf_i64 (by omega) (by omega)) (amV ((e : Int), x))
              have hrun' : (Instr.mapUpdate 80 (.map (some mb)) (.int .i64 (y : Int)) (.agg #[.int .i64 (e : Int), .int .i64 (x : Int)])).run Tryd.prog ((wr.alloc (.cells #[.int .i64 (e : Int), .int .i64 (y : Int)] 74)).alloc (.cells #[.int .i64 0, .int .i64 0] 74)) = .ok () w3 := hrun
              have hmbl : mb < wr.heap.size := HS2.out.map.lt
              have hA3 := hA1.mod hmod3 (fun e => by omega)
              have c31 := hA3.cell (i := 1) rfl
              have hq3 := owns_mod HS3.out.q hmod3 (fun g hg e => (HS3.out.qn g hg).2 e)
              rw [HQL2.out] at hq3
              have HOW := Lib.hid (hq3.alloc (.cells #[.int .i64 (y : Int)] 3))
              have HNW := Lib.hid (news_new w3 3 [.int .i64 (y : Int)])
              have HM3 : Hid (MapV w3 Tryd.prog 3 mb (ql2 + 1) (mapG (fun z => if z = y then some ((e : Int), x) else G' z))) := hm3.congr (fun j => mapG_upd G' y ((e : Int), x) j)
              have HBW3 : Hid (Below w1.heap.size w1 w3) := bel_mod HS3.out.bel hmod3 (fun g e => by rw [e]; exact HS3.out.mn)
              have HW31 : Hid (wr.heap.size ≤ w3.heap.size) := Nat.le_trans (Nat.le_trans hb1.size hb2.size) hmod3.size
              have HQN3 : Hid (∀ g, (Value.slice qo2 ql2 qc2).ownBlock = some g → w1.heap.size ≤ g ∧ g ≠ mb) := HS2.out.qn
              have HMN := Lib.hid HS2.out.mn
              have HBA : Hid (Bfs n l b (q' ++ [y]) (fun z => if z = y then some ((e : Int), x) else G' z) k) := by
                have := HB2.out.add HG.out (by rw [HQL2.out]; exact hkq') (by rw [HQX.out]; exact HAM.out) hyq
                rw [HQX.out] at this
                exact this
              have HKX : Hid ((q' ++ [y]).getD k 0 = x) := by
                show _ = _
                rw [getD_app_left (by rw [HQL2.out]; exact hkq')]
                exact HQX.out
              have HPI2 := Lib.hid (HPI.out (q' ++ [y]) (fun _ h => List.mem_append_left _ h) (List.mem_append_right _ (List.mem_singleton.2 rfl)))
              have HQA : Hid ((q' ++ [y]).length = ql2 + 1) := by show _ = _; rw [List.length_append, HQL2.out]; rfl
              clear hrun hm3 hmod3 hA1 hA3 hq3 hb1 hb2 hG hyq HPI HS2 HS3 HB2
              go_wp2_with (at_builtin; apply keepIt)
              apply Lib.hid
              refine wpList_appendB 3 (.int .i64 0) 1 8 Tryd.underlying35 Tryd.infoInt rfl (by decide) _ ql2 _ rfl HOW.out ⟨w3.heap.size, 0, none⟩ 1 1 [.int .i64 y] rfl rfl HNW.out (by simp [Value.oneCell']) (by unfold maxLen; omega) (by omega) ?_
              intro v6 w6 ho6 hg6 hn6
              have hma : Mod (fun _ => False) w3 (w3.alloc (.cells #[.int .i64 (y : Int)] 3)) := (Mod.refl _ _).alloc _
              have hm6 : Mod (fun g => (Value.slice qo2 ql2 qc2).ownBlock = some g) w3 w6 := (hma.mono (fun _ _ h => h.elim)).grown hg6 (fun k e _ => e)
              have HS6 : Hid (PaS w1 w6 mb (ql2 + 1) (fun z => if z = y then some ((e : Int), x) else G' z) (q' ++ [y]) v6) := by
                refine ⟨HM3.out.mod hm6 (fun e => (HQN3.out mb e).2 rfl), ?_, fun g hg => ?_, bel_mod HBW3.out hm6 (fun g e => (HQN3.out g e).1), HMN.out⟩
                · rw [HQA.out, natV_snoc]; exact ho6
                · rcases hn6 g hg with h | h
                  · exact HQN3.out g h
                  · have h1 := hma.size
                    have h2 := HW31.out
                    have h3 := HBW3.out.size
                    exact ⟨by omega, by omega⟩
              clear ho6 hg6 hn6 hma hm6
              go_wp2_with fail
              go_roundw
              case rel => exact ⟨i + 1, q' ++ [y], _, by omega, by go_num, by rw [HQA.out]; exact HS6.out, HBA.out, HKX.out, by rw [HQA.out]; omega, HPI2.out⟩
              case measure => simp [intOf]; omega
          · obtain rfl : N = i := by omega
            have ti : decide (N < N) = false := by simp
            have HB5 : Hid (Bfs n l b q' G' (k + 1)) := HB2.out.next (by rw [HQL2.out]; exact hkq') (by
              rw [HQX.out]
              intro a ha
              obtain ⟨j, hj, rfl⟩ := List.getElem_of_mem ha
              have := HPART.out j (by rw [← HN.out]; exact hj)
              rw [List.getD_eq_getElem?_getD, List.getElem?_eq_getElem hj] at this
              exact this)
            clear HB2 HPART hi hiN
            go_wp2_with fail
            go_roundw
            case rel => exact ⟨k + 1, q', G', by go_num, by rw [HQL2.out]; exact HS2.out, HB5.out⟩
            case measure => simp [intOf]; omega
      · obtain rfl : ql = k := by omega
        have tk : decide (ql < ql) = false := by simp
        have HB5 : Hid (Bfs n l b q G q.length) := by show Bfs _ _ _ _ _ _; rw [HQL.out]; exact HBF.out
        have haq : a ∈ q := HB5.out.all HG.out HCON.out
        obtain ⟨iu, hiu, hqa⟩ := mem_getD haq
        obtain ⟨P, hP, _⟩ := HB5.out.path iu hiu
        rw [hqa] at hP
        have HP := Lib.hid hP
        have HQA := Lib.hid hqa
        have HPP : Hid (∀ i, i < q.length → ∃ p, PathTo n l b (q.getD i 0) p ∧ (i = 0 → p = []) ∧ (0 < i → ∃ e y j : Nat, ∃ p', G (q.getD i 0) = some ((e : Int), y) ∧ j < i ∧ q.getD j 0 = y ∧ p = e :: p' ∧ PathTo n l b y p')) := HB5.out.path
        have HMP := Lib.hid HS.out.map
        have HBW := Lib.hid HS.out.bel
        have HQ0 : Hid (q.getD 0 0 = b) := HB5.out.q0
        have HND := Lib.hid HB5.out.nd
        have HLT : Hid (∀ i, i < q.length → q.getD i 0 < n) := fun i hi => HB5.out.lt _ (getD_mem hi)
        rw [HQL.out] at hiu HPP HLT
        have hmbl : mb < wr.heap.size := HS.out.map.lt
        have HMN : Hid (w1.heap.size ≤ mb) := HS.out.mn
        clear haq hP hqa HBF HS HQR hkl hk HM2 HB5
        obtain ⟨wo, rfl⟩ : ∃ wo : World, wo = wr := ⟨_, rfl⟩
        go_wp2_with fail
        go_loopw [17, 18] (fun s17 s18 wz => ∃ i p0 p', i < ql ∧ s18 = .int .i64 ((q.getD i 0 : Nat) : Int) ∧ wz.ownsRow 0 3 1 s17 p0.length (natV p0) ∧ (∀ g, s17.ownBlock = some g → wo.heap.size ≤ g) ∧ P = p0 ++ p' ∧ PathTo n l b (q.getD i 0) p' ∧ p0.length + i ≤ iu ∧ Below wo.heap.size wo wz) (fun s17 _ _ => P.length - lenOf s17)
        case atStart => exact ⟨iu, [], P, hiu, by rw [HQA.out], World.ownsRow_nil _ _ _ _, fun g hg => (by cases hg), rfl, by rw [HQA.out]; exact HP.out, by simp, Below.refl _ _⟩
        case round =>
          obtain ⟨i, p0, p', hi, rfl, hown, hon, hPe, hPt, hle, hbz⟩ := hrel
          have HOWN := Lib.hid hown
          have HON := Lib.hid hon
          have HPE := Lib.hid hPe
          have HBZ := Lib.hid hbz
          have HM5 := Lib.hid (HMP.out.below hbz hmbl)
          have hxn := HLT.out i hi
          obtain ⟨p2, hp2, hz2, hs2⟩ := HPP.out i hi
          obtain rfl := hPt.unique HG.out hp2
          obtain ⟨pl, hpl⟩ : ∃ pl, p0.length = pl := ⟨_, rfl⟩
          have HPL := Lib.hid hpl
          obtain ⟨vo, vc, hvv⟩ := owns_slice HOWN.out
          rw [hpl] at hle hvv HOWN
          clear hown hon hPe hbz hpl hPt
          by_cases h0 : i = 0
          · have t1 : (((q.getD i 0 : Nat) : Int) != (b : Int)) = false := by rw [h0, HQ0.out]; simp
            have hnil := hz2 h0
            have HR : Hid (PthPost w n l (a : Int) (b : Int) (.returned (.slice vo pl vc)) wr) := by
              rw [hvv] at HOWN HON
              have h1 := HBW.out.size
              have h2 := HB1.out.size
              have hPp : P = p0 := by rw [HPE.out, hnil, List.append_nil]
              refine ⟨fun h => by (rw [HC.out] at h; cases h), fun c' _ => ⟨P, _, by rw [Int.toNat_natCast, Int.toNat_natCast]; exact HP.out, rfl, by rw [hPp, HPL.out]; exact HOWN.out, fun g hg => by have := HON.out g hg; omega⟩, bel_then HB1.out (bel_then HBW.out HBZ.out)⟩
            rw [hvv]
            generalize ((q.getD i 0 : Nat) : Int) = xx at *
            clear hz2 hs2 hvv h0 hnil
            go_wp2_with fail
            go_ret
            exact HR.out
          · obtain ⟨e, y, j, p'', hG, hji, hqj, hpe, hpt⟩ := hs2 (by omega)
            have hxb : q.getD i 0 ≠ b := fun e => by
              rw [← HQ0.out] at e
              have := getD_inj' HND.out (by rw [HQL.out]; exact hi) (by rw [HQL.out]; omega) e
              exact h0 this
            have hlk := HM5.out.look Tryd.underlying3 Tryd.underlying80 (Tryd.zeroArm wr) (i := ((q.getD i 0 : Nat) : Int)) (wf_i64 (by omega) (by omega))
            rw [mapG_nat, hG] at hlk
            simp only [Option.map_some, Option.getD_some, amV] at hlk
            have HQJ := Lib.hid hqj
            have HPT : Hid (PathTo n l b y p'') := hpt
            have HPE2 : Hid (P = (p0 ++ [e]) ++ p'') := by show _ = _; rw [HPE.out, hpe]; simp
            have HGX := Lib.hid hG
            have hjl : j < ql := by omega
            have hle2 : pl + 1 + j ≤ iu := by omega
            have hyn : y < n := by rw [← hqj]; exact HLT.out j hjl
            have hpl4 : pl ≤ 4096 := by omega
            generalize q.getD i 0 = x at *
            have t1 : ((x : Int) != (b : Int)) = true := by simp; omega
            have HOW := Lib.hid (HOWN.out.alloc (.cells #[.int .i64 (e : Int)] 3))
            have HNW := Lib.hid (news_new wr 3 [.int .i64 (e : Int)])
            have HVV := Lib.hid hvv
            have hf0 := Tryd.armEdge (e : Int) y
            have hf1 := Tryd.armEnd (e : Int) y
            clear hz2 hs2 hpe hpt hG hqj h0 hxb hji hvv HPE
            go_wp2_with (at_builtin; apply keepIt)
            apply Lib.hid
            refine wpList_appendB 3 (.int .i64 0) 1 8 Tryd.underlying35 Tryd.infoInt rfl (by decide) _ pl _ rfl HOW.out ⟨wr.heap.size, 0, none⟩ 1 1 [.int .i64 e] rfl rfl HNW.out (by simp [Value.oneCell']) (by unfold maxLen; omega) (by omega) ?_
            intro v6 w6 ho6 hg6 hn6
            have hma : Mod (fun _ => False) wr (wr.alloc (.cells #[.int .i64 (e : Int)] 3)) := (Mod.refl _ _).alloc _
            have hm6 : Mod (fun g => u17.ownBlock = some g) wr w6 := (hma.mono (fun _ _ h => h.elim)).grown hg6 (fun k e _ => e)
            have HB6 : Hid (Below wo.heap.size wo w6) := bel_mod HBZ.out hm6 (fun g hg => HON.out g hg)
            have hM6 : MapV w6 Tryd.prog 3 mb ql (mapG G) := HMP.out.below HB6.out hmbl
            have hlk2 := hM6.look Tryd.underlying3 Tryd.underlying80 (Tryd.zeroArm w6) (i := (x : Int)) (wf_i64 (by omega) (by omega))
            rw [mapG_nat, HGX.out] at hlk2
            simp only [Option.map_some, Option.getD_some, amV] at hlk2
            have HO6 : Hid (w6.ownsRow 0 3 1 v6 (p0 ++ [e]).length (natV (p0 ++ [e]))) := by
              show World.ownsRow _ _ _ _ _ _ _
              rw [natV_snoc, List.length_append, HPL.out]
              exact ho6
            have HN6 : Hid (∀ g, v6.ownBlock = some g → wo.heap.size ≤ g) := fun g hg => by
              rcases hn6 g hg with h | h
              · exact HON.out g h
              · have h1 := hma.size
                have h2 := HBZ.out.size
                omega
            obtain ⟨o6, q6, hv6⟩ := owns_slice ho6
            have HV6 := Lib.hid hv6
            have HPL2 : Hid (P.length = pl + 1 + p''.length) := by show _ = _; rw [HPE2.out]; simp [HPL.out]; omega
            have HL17 : Hid (lenOf u17 = pl) := by show _ = _; rw [HVV.out]; rfl
            clear ho6 hg6 hn6 hma hm6 hM6 hlk hv6
            go_wp2_with fail
            go_roundw
            case rel => exact ⟨j, p0 ++ [e], p'', hjl, by rw [HQJ.out], HO6.out, HN6.out, HPE2.out, by rw [HQJ.out]; exact HPT.out, by rw [List.length_append, HPL.out]; exact hle2, HB6.out⟩
            case measure =>
              rw [HV6.out, HL17.out, HPL2.out]
              simp only [lenOf]
              omega

end Go.Proofs.YtenhbfbfkcjimaaDoor
