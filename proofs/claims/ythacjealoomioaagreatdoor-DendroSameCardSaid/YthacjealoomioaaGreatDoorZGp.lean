/- DmN, DmW. -/
import Derived.Test.YthacjealoomioaaGreatDoorZGm2
import Derived.Test.YthacjealoomioaaGreatDoorZGn
import Derived.Test.YthacjealoomioaaGreatDoorZGc2
import Derived.Test.YthacjealoomioaaGreatDoorZGk
import Derived.Test.YthacjealoomioaaGreatDoorZGb
import Derived.Test.YthacjealoomioaaGreatDoorZGg
import Derived.Test.YthacjealoomioaaGreatDoorZGh
import Derived.BigQuiet
import Derived.Deep.CutBlock
import Derived.Deep.RegionHeld3
/- The two closures of tree. -/
namespace Go.Proofs.YthacjealoomioaaGreatDoor
set_option linter.unusedVariables false
set_option linter.unusedSimpArgs false
open Go.RowKit

theorem jt_at : ∀ (l : List Jt) (k : Nat), k < l.length → (jtCells l)[k * 3]? = some (.int .i64 (JA l k).l) ∧ (jtCells l)[k * 3 + 1]? = some (.int .i64 (JA l k).r) ∧ (jtCells l)[k * 3 + 2]? = some (.int .i64 (JA l k).h)
  | [], k, hk => by simp at hk
  | j :: l, 0, hk => ⟨rfl, rfl, rfl⟩
  | j :: l, k + 1, hk => by
    obtain ⟨a, b, c⟩ := jt_at l k (by simpa using hk)
    have e1 : jtCells (j :: l) = [.int .i64 j.l, .int .i64 j.r, .int .i64 j.h] ++ jtCells l := rfl
    have e2 : JA (j :: l) (k + 1) = JA l k := rfl
    rw [e1, e2, List.getElem?_append_right (by simp; omega), List.getElem?_append_right (by simp; omega), List.getElem?_append_right (by simp; omega)]
    refine ⟨?_, ?_, ?_⟩
    · rw [show (k + 1) * 3 - [Value.int .i64 j.l, .int .i64 j.r, .int .i64 j.h].length = k * 3 by simp; omega]; exact a
    · rw [show (k + 1) * 3 + 1 - [Value.int .i64 j.l, .int .i64 j.r, .int .i64 j.h].length = k * 3 + 1 by simp; omega]; exact b
    · rw [show (k + 1) * 3 + 2 - [Value.int .i64 j.l, .int .i64 j.r, .int .i64 j.h].length = k * 3 + 2 by simp; omega]; exact c

/-- The joints in memory, read only. -/
structure JtR (W : World) (g n : Nat) (J : List Jt) : Prop where
  len : J.length = n
  c : ∀ k, k < n → W.cell? ⟨g, k * 3, none⟩ = some (.int .i64 (JA J k).l) ∧ W.cell? ⟨g, k * 3 + 1, none⟩ = some (.int .i64 (JA J k).r) ∧ W.cell? ⟨g, k * 3 + 2, none⟩ = some (.int .i64 (JA J k).h)
theorem JtR.mod {F : Nat → Prop} {W W' : World} {g n : Nat} {J : List Jt} (h : JtR W g n J) (hm : Mod F W W') (hF : 0 < n → ¬ F g) : JtR W' g n J :=
  ⟨h.len, fun k hk => by
    have hF := hF (by omega)
    obtain ⟨a, b, c⟩ := h.c k hk
    exact ⟨(hm.cell (World.block_lt_of_cell? W _ a) hF).trans a, (hm.cell (World.block_lt_of_cell? W _ b) hF).trans b, (hm.cell (World.block_lt_of_cell? W _ c) hF).trans c⟩⟩
theorem JtR.below {W W' : World} {g n : Nat} {J : List Jt} (h : JtR W g n J) (hb : Below W.heap.size W W') : JtR W' g n J := h.mod (Mod.of_below (F := fun _ => False) hb) (fun _ => id)
/-- The joints of a reader. -/
theorem JtR.of_owns {W : World} {B : Nat} {v : Value} {J : List Jt} (h : W.ownsRow B 134 3 v J.length (jtCells J)) : ∃ ao cap g, v = .slice ao J.length cap ∧ JtR W g J.length J ∧ (0 < J.length → ao = some ⟨g, 0, none⟩) := by
  obtain ⟨o, c, rfl⟩ := owns_slice h
  by_cases hj : 0 < J.length
  · obtain ⟨g, cap, e, _, _, _, hcell, _⟩ := owns_form h hj
    refine ⟨o, c, g, rfl, ⟨rfl, fun k hk => ?_⟩, fun _ => by injection e⟩
    obtain ⟨a1, a2, a3⟩ := jt_at J k hk
    exact ⟨(hcell (k * 3) (by omega)).trans a1, (hcell (k * 3 + 1) (by omega)).trans a2, (hcell (k * 3 + 2) (by omega)).trans a3⟩
  · exact ⟨o, c, 0, rfl, ⟨rfl, fun k hk => absurd (Nat.lt_of_le_of_lt (Nat.zero_le _) hk) hj⟩, fun h => absurd h hj⟩

set_option maxHeartbeats 2000000 in
set_option maxRecDepth 100000 in
theorem tcmp_ok (w : World) (bb rp g cap n : Nat) (J : List Jt) (hb : w.cell? ⟨bb, 0, none⟩ = some (.pointer (some ⟨rp, 0, none⟩))) (hf : w.cell? ⟨rp, 4, none⟩ = some (.slice (some ⟨g, 0, none⟩) n cap)) (hj : JtR w g n J) (hn : n ≤ 100000) (x y : Nat) (hx : x < n) (hy : y < n) :
    Calls Tryz.prog 78 #[.int .i64 (x : Int), .int .i64 (y : Int), .pointer (some ⟨bb, 0, none⟩)] w fun e W' => e = .returned (.int .i64 (cmpI (keyJ J x) (keyJ J y))) ∧ ∃ q, W' = w.drewN q := by
  have cx := (hj.c x hx).2.2
  have cy := (hj.c y hy).2.2
  have ex : (JA J x).h = keyJ J x := rfl
  have ey : (JA J y).h = keyJ J y := rfl
  rw [ex] at cx
  rw [ey] at cy
  generalize keyJ J x = kx at *
  generalize keyJ J y = ky at *
  have t1 : (x : Int) < (n : Int) := by omega
  have t2 : (y : Int) < (n : Int) := by omega
  have t3 : (0 : Int) ≤ (x : Int) := by omega
  have t4 : (0 : Int) ≤ (y : Int) := by omega
  have HC : Hid (∀ W, Calls Tryz.prog 79 #[.int .i64 kx, .int .i64 ky] W (Ret (.int .i64 (cmpI kx ky)) W)) := fun W => compare64 kx ky W
  clear hj ex ey
  generalize cmpI kx ky = cc at *
  go_enter Tryz.func78, Tryz.ntmps78
  go_wp2_with fail
  go_quiet ((go_at_call 79; exact Calls.quiet_of_same (Ret.still (HC.out _))))
  go_wp2_with fail
  go_ret
  exact ⟨rfl, nq, rfl⟩

set_option maxHeartbeats 2000000 in
set_option maxRecDepth 100000 in
theorem tnode_ok (w : World) (pp gb N n : Nat) (J : List Jt) (hN : J.length = N) (hN2 : N ≤ 100000) (hb : 0 < N → w.cell? ⟨pp, 0, none⟩ = some (.slice (some ⟨gb, 0, none⟩) N N)) (hr : Blk w gb 3 (natV (rowF N (plF n J N)))) (c : Int) (hc : CdOk N c) :
    Calls Tryz.prog 80 #[.int .i64 c, .pointer (some ⟨pp, 0, none⟩)] w fun e W' => e = .returned (.int .i64 (nd n J c : Nat)) ∧ ∃ q, W' = w.drewN q := by
  by_cases h0 : c < 0
  · have hx := hc.1 h0
    obtain ⟨x, HX⟩ : ∃ x, Hid (jx c = x) := ⟨_, rfl⟩
    rw [HX.out] at hx
    have hb := hb (by omega)
    have cx := row_cell hr hx
    have hpl : plF n J N x = n + rkJ J x := by unfold plF; rw [if_pos (by rw [← hN]; exact rk_lt (by rw [hN]; exact hx))]
    have hnd : nd n J c = n + rkJ J x := by unfold nd; rw [if_pos h0, HX.out]
    rw [hpl, ← hnd] at cx
    generalize nd n J c = z at *
    have v1 : IntKind.i64.wrap (-1 - c) = (x : Int) := by
      have := HX.out
      unfold jx at this
      rw [IntWalk.i64_in _ (by omega)]; omega
    have t1 : (x : Int) < (N : Int) := by omega
    have t2 : (0 : Int) ≤ (x : Int) := by omega
    have t3 : decide (c < 0) = true := decide_eq_true h0
    clear hr hc h0 hpl hnd HX
    go_enter Tryz.func80, Tryz.ntmps80
    go_wp2_with fail
    go_ret
    exact ⟨rfl, 0, rfl⟩
  · have hnd : nd n J c = c.toNat := by unfold nd; rw [if_neg h0]
    have h1 : ((nd n J c : Nat) : Int) = c := by rw [hnd]; omega
    have t3 : decide (c < 0) = false := decide_eq_false h0
    rw [h1]
    clear hr hc h0 hnd h1 hb
    go_enter Tryz.func80, Tryz.ntmps80
    go_wp2_with fail
    go_ret
    exact ⟨rfl, 0, rfl⟩

end Go.Proofs.YthacjealoomioaaGreatDoor

/- dendro: tree. (printed by dmw.py) -/
namespace Go.Proofs.YthacjealoomioaaGreatDoor
set_option linter.unusedVariables false
set_option linter.unusedSimpArgs false
open Go.RowKit

def ido (i x : Nat) : Nat := if x < i then x else 0
theorem ido_zero (N : Nat) : rowF N (ido 0) = List.replicate N 0 := by
  unfold rowF ido
  apply List.ext_getElem (by simp)
  intro i h1 h2
  simp
theorem ido_step {N i : Nat} : (rowF N (ido i)).set i i = rowF N (ido (i + 1)) := by
  rw [rowF_set]
  refine rowF_congr fun x hx => ?_
  unfold putF ido
  by_cases e : x = i
  · rw [if_pos e, if_pos (by omega), e]
  · rw [if_neg e]
    by_cases c : x < i
    · rw [if_pos c, if_pos (by omega)]
    · rw [if_neg c, if_neg (by omega)]
theorem ido_end (N : Nat) : rowF N (ido N) = rowF N fun x => x := rowF_congr fun x hx => if_pos hx

def tI (n M x : Nat) : Tr := ⟨n, negI M x, negI M x, negI M x, List.replicate M 0, oneI M (min x n)⟩
theorem tI_zero (n M : Nat) : tI n M 0 = ⟨n, List.replicate M 0, List.replicate M 0, List.replicate M 0, List.replicate M 0, List.replicate M 0⟩ := by
  unfold tI; rw [negI_zero, Nat.zero_min, oneI_zero]
theorem tI_end (n m : Nat) : tI n (n + m) (n + m) = t0P n m := by
  unfold tI t0P oneI
  rw [negI_all, Nat.min_eq_right (by omega), Nat.add_sub_cancel_left]

/-- What tree reads. -/
structure TEnv (W : World) (bb rp rb g N n : Nat) (ao : Option Addr) (cap : Nat) (J : List Jt) : Prop where
  bx : Blk W bb 84 [.pointer (some ⟨rp, 0, none⟩)]
  c3 : W.cell? ⟨rp, 3, none⟩ = some (.int .i64 (n : Int))
  c4 : W.cell? ⟨rp, 4, none⟩ = some (.slice ao N cap)
  jr : JtR W g N J
  rb : Blk W rb 27 [.int .i64 0, .slice none 0 0, .slice none 0 0, .slice none 0 0, .slice none 0 0, .slice none 0 0]
theorem TEnv.below {W W' : World} {bb rp rb g N n : Nat} {ao : Option Addr} {cap : Nat} {J : List Jt} (h : TEnv W bb rp rb g N n ao cap J) (hb : Below W.heap.size W W') : TEnv W' bb rp rb g N n ao cap J :=
  ⟨h.bx.below hb h.bx.lt, (hb.cell (World.block_lt_of_cell? W _ h.c3)).trans h.c3, (hb.cell (World.block_lt_of_cell? W _ h.c4)).trans h.c4, h.jr.below hb, h.rb.below hb h.rb.lt⟩

/-- What tree returns. -/
structure TePost (w : World) (n : Nat) (J : List Jt) (e : Ending) (w' : World) : Prop where
  bad : treeTo n J J.length = none → e = .returned (.tuple #[.agg #[.int .i64 0, .slice none 0 0, .slice none 0 0, .slice none 0 0, .slice none 0 0, .slice none 0 0], .bool false])
  ok : ∀ t, treeTo n J J.length = some t → ∃ B : BB, e = .returned (.tuple #[.agg #[.int .i64 (n : Int), .slice (some ⟨B.lb, 0, none⟩) (n + J.length) (n + J.length), .slice (some ⟨B.rb, 0, none⟩) (n + J.length) (n + J.length), .slice (some ⟨B.pb, 0, none⟩) (n + J.length) (n + J.length), .slice (some ⟨B.hb, 0, none⟩) (n + J.length) (n + J.length), .slice (some ⟨B.sb, 0, none⟩) (n + J.length) (n + J.length)], .bool true]) ∧ BdT w' B n (n + J.length) t ∧ ∀ k, B.mem k → w.heap.size ≤ k
  bel : Below w.heap.size w w'

theorem upd_shift {α : Type} (f : Nat → α) (k : Nat) (v : α) : (fun j => upd f (k + 3) v (j + 3)) = upd (fun j => f (j + 3)) k v := by
  funext j
  unfold upd
  by_cases e : j = k
  · rw [if_pos e, if_pos (by omega)]
  · rw [if_neg e, if_neg (by omega)]
/-- The region that makes the lists: three reads ahead. -/
structure T5 (rp : Nat) (w0 : World) (n m : Nat) (L : Nat → Bool) (xs : Nat → Value) (w : World) : Prop where
  b : B5 w0 n m (fun j => L (j + 3)) (fun j => xs (j + 3)) w
  r0 : L 0 = true → xs 0 = .pointer (some ⟨rp, 0, none⟩)
  r1 : L 1 = true → xs 1 = .pointer (some ⟨rp, 0, none⟩)
  r2 : L 2 = true → xs 2 = .pointer (some ⟨rp, 3, none⟩)
theorem T5.step {rp : Nat} {w0 w w' : World} {n m : Nat} {L : Nat → Bool} {xs : Nat → Value} (h : T5 rp w0 n m L xs w) (k : Nat) (v : Value) (hb : B5 w0 n m (upd (fun j => L (j + 3)) k true) (upd (fun j => xs (j + 3)) k v) w') : T5 rp w0 n m (upd L (k + 3) true) (upd xs (k + 3) v) w' := by
  refine ⟨?_, fun h0 => ?_, fun h1 => ?_, fun h2 => ?_⟩
  · rw [upd_shift L k true, upd_shift xs k v]; exact hb
  · rw [upd_ne _ _ (by omega)] at h0 ⊢; exact h.r0 h0
  · rw [upd_ne _ _ (by omega)] at h1 ⊢; exact h.r1 h1
  · rw [upd_ne _ _ (by omega)] at h2 ⊢; exact h.r2 h2
theorem T5.read {rp : Nat} {w0 w : World} {n m : Nat} {L : Nat → Bool} {xs : Nat → Value} (h : T5 rp w0 n m L xs w) (i : Nat) (hi : i < 3) (v : Value) (h0 : i = 0 → v = .pointer (some ⟨rp, 0, none⟩)) (h1 : i = 1 → v = .pointer (some ⟨rp, 0, none⟩)) (h2 : i = 2 → v = .pointer (some ⟨rp, 3, none⟩)) : T5 rp w0 n m (upd L i true) (upd xs i v) w := by
  have e1 : (fun j => upd L i true (j + 3)) = fun j => L (j + 3) := funext fun j => upd_ne _ _ (by omega)
  have e2 : (fun j => upd xs i v (j + 3)) = fun j => xs (j + 3) := funext fun j => upd_ne _ _ (by omega)
  refine ⟨by rw [e1, e2]; exact h.b, fun hl => ?_, fun hl => ?_, fun hl => ?_⟩
  · by_cases e : 0 = i
    · subst e; rw [upd_same]; exact h0 rfl
    · rw [upd_ne _ _ e] at hl ⊢; exact h.r0 hl
  · by_cases e : 1 = i
    · subst e; rw [upd_same]; exact h1 rfl
    · rw [upd_ne _ _ e] at hl ⊢; exact h.r1 hl
  · by_cases e : 2 = i
    · subst e; rw [upd_same]; exact h2 rfl
    · rw [upd_ne _ _ e] at hl ⊢; exact h.r2 hl
theorem keepC4 {F : Nat → Prop} {w w' : World} {p1 p2 p3 p4 : Addr} {v1 v2 v3 v4 : Value} (h1 : Hid (w.cell? p1 = some v1)) (h2 : Hid (w.cell? p2 = some v2)) (h3 : Hid (w.cell? p3 = some v3)) (h4 : Hid (w.cell? p4 = some v4)) (n1 : ¬ F p1.block) (n2 : ¬ F p2.block) (n3 : ¬ F p3.block) (n4 : ¬ F p4.block) (hb : Mod F w w') : w'.cell? p1 = some v1 ∧ w'.cell? p2 = some v2 ∧ w'.cell? p3 = some v3 ∧ w'.cell? p4 = some v4 ∧ Mod F w w' :=
  ⟨(hb.cell (World.block_lt_of_cell? w _ h1.out) n1).trans h1.out, (hb.cell (World.block_lt_of_cell? w _ h2.out) n2).trans h2.out, (hb.cell (World.block_lt_of_cell? w _ h3.out) n3).trans h3.out, (hb.cell (World.block_lt_of_cell? w _ h4.out) n4).trans h4.out, hb⟩
theorem callFn : ∀ args w, (callFunc 78 args).run Tryz.prog w = .ok (.enter 78 args) w := enters_of Tryz.func78 (by kernel_rfl) rfl
theorem callFn2 : ∀ args w, (callFunc 80 args).run Tryz.prog w = .ok (.enter 80 args) w := enters_of Tryz.func80 (by kernel_rfl) rfl

set_option maxHeartbeats 64000000 in
set_option maxRecDepth 100000 in
theorem tree_ok (w0 : World) (io : Nat × ByteArray × Nat) (rp : Nat) (st : RdS) (jv sv : Value) (w : World) (h : RdO w0 io rp st jv sv w) (l : List UInt8) (p : Nat) (hj : RJ l p st) : Calls Tryz.prog 47 #[.pointer (some ⟨rp, 0, none⟩)] w (TePost w st.leaves st.joints) := by
  obtain ⟨ao, cap, g, rfl, hjr, hao⟩ := JtR.of_owns h.js
  obtain ⟨want, bg, node, n, J, stack⟩ := st
  have hn : n ≤ 4096 := hj.lv
  have hjn : J.length ≤ n := by have := hj.cn; simp only at this; omega
  have HJL : Hid (∀ j ∈ J, CdOk J.length j.l) := hj.jl
  have HJR : Hid (∀ j ∈ J, CdOk J.length j.r) := hj.jr
  have b3 : w.cell? ⟨rp, 3, none⟩ = some (.int .i64 (n : Int)) := h.box.cell (i := 3) rfl
  have b4 : w.cell? ⟨rp, 4, none⟩ = some (.slice ao J.length cap) := h.box.cell (i := 4) rfl
  simp only at hjr hao ⊢
  obtain ⟨N, HN⟩ : ∃ N, Hid (J.length = N) := ⟨_, rfl⟩
  simp only [HN.out] at hjn hjr hao b4 HJL HJR
  have HAO : Hid (0 < N → ao = some ⟨g, 0, none⟩) := hao
  have HPOST : Hid (∀ e w', (treeTo n J N = none → e = .returned (.tuple #[.agg #[.int .i64 0, .slice none 0 0, .slice none 0 0, .slice none 0 0, .slice none 0 0, .slice none 0 0], .bool false])) → (∀ t, treeTo n J N = some t → ∃ B : BB, e = .returned (.tuple #[.agg #[.int .i64 (n : Int), .slice (some ⟨B.lb, 0, none⟩) (n + N) (n + N), .slice (some ⟨B.rb, 0, none⟩) (n + N) (n + N), .slice (some ⟨B.pb, 0, none⟩) (n + N) (n + N), .slice (some ⟨B.hb, 0, none⟩) (n + N) (n + N), .slice (some ⟨B.sb, 0, none⟩) (n + N) (n + N)], .bool true]) ∧ BdT w' B n (n + N) t ∧ ∀ k, B.mem k → w.heap.size ≤ k) → Below w.heap.size w w' → TePost w n J e w') := fun e w' h1 h2 h3 => by
    refine ⟨fun hh => h1 ?_, fun t hh => ?_, h3⟩
    · rw [← HN.out]; exact hh
    · rw [HN.out] at hh ⊢; exact h2 t hh
  obtain ⟨bb, HBB⟩ : ∃ x, Hid (w.heap.size = x) := ⟨_, rfl⟩
  obtain ⟨rb, HRB⟩ : ∃ x, Hid (bb + 1 = x) := ⟨_, rfl⟩
  obtain ⟨wA, HWA⟩ : ∃ x, Hid ((w.alloc (.cells #[.pointer (some ⟨rp, 0, none⟩)] 84)).alloc (.cells #[.int .i64 0, .slice none 0 0, .slice none 0 0, .slice none 0 0, .slice none 0 0, .slice none 0 0] 27) = x) := ⟨_, rfl⟩
  have HBA : Hid (Below w.heap.size w wA) := by
    rw [← HWA.out]
    exact (bel_alloc w _).trans ((bel_alloc _ _).mono (by simp))
  have hsz : wA.heap.size = bb + 2 := by rw [← HWA.out, ← HBB.out]; simp
  have HE : Hid (TEnv wA bb rp rb g N n ao cap J) := by
    refine ⟨?_, (HBA.out.cell (World.block_lt_of_cell? w _ b3)).trans b3, (HBA.out.cell (World.block_lt_of_cell? w _ b4)).trans b4, hjr.below HBA.out, ?_⟩
    · rw [← HWA.out, ← HBB.out]; exact (Blk.new w _ [.pointer (some ⟨rp, 0, none⟩)]).alloc _
    · rw [← HWA.out, ← HRB.out, ← HBB.out]
      have := Blk.new (w.alloc (.cells #[.pointer (some ⟨rp, 0, none⟩)] 84)) 27 [.int .i64 0, .slice none 0 0, .slice none 0 0, .slice none 0 0, .slice none 0 0, .slice none 0 0]
      simpa using this
  clear h hj b3 b4 hao hjr
  have HSZ := Lib.hid hsz
  clear hsz
  go_enter Tryz.func47, Tryz.ntmps47
  go_upto_region 1 with fail
  rw [HWA.out]
  simp only [HBB.out]
  simp only [HRB.out]
  have c1 := HE.out.bx.cell (i := 0) rfl
  have c4 := HE.out.c4
  go_wp2_with (at_make; refine wpList_makeB 3 (.int .i64 0) 8 Tryz.underlying24 Tryz.infoInt rfl _ _ _ _ N rfl rfl rfl rfl (by omega) (by unfold maxLen; omega) ?_; intro w1 B1 hb1)
  obtain ⟨ob, HOB⟩ : ∃ x, Hid (wA.heap.size = x) := ⟨_, rfl⟩
  have HO1 : Hid (Blk w1 ob 3 (natV (rowF N (ido 0)))) := by
    rw [ido_zero, natV_zero, ← HOB.out]; exact B1
  have HB1 := Lib.hid hb1
  simp only [HOB.out]
  clear B1 hb1 c1 c4
  go_loopw [26] (fun s wr => ∃ i : Nat, i ≤ N ∧ s = .int .i64 (i : Int) ∧ Blk wr ob 3 (natV (rowF N (ido i))) ∧ Mod (fun x => x = ob) w1 wr) (fun s _ => N - (intOf s).toNat)
  case atStart => exact ⟨0, Nat.zero_le _, rfl, HO1.out, Mod.refl _ _⟩
  case round =>
    obtain ⟨i, hi, rfl, hb, hm⟩ := hrel
    have HB := Lib.hid hb
    have HM := Lib.hid hm
    clear hb hm HO1
    by_cases hiN : i < N
    · have c := row_cell HB.out hiN
      have f := HB.out.free i
      have HNX : Hid (Blk (wr.setCell ⟨ob, i, none⟩ (.int .i64 (i : Int))) ob 3 (natV (rowF N (ido (i + 1))))) := by rw [← ido_step]; exact blkN_set HB.out i i
      have HM2 : Hid (Mod (fun x => x = ob) w1 (wr.setCell ⟨ob, i, none⟩ (.int .i64 (i : Int)))) := HM.out.setCell ⟨ob, i, none⟩ (fun _ => rfl) _
      have g1 : (i : Int) < (N : Int) := by omega
      generalize ido i i = z at c
      go_wp2_with fail
      go_roundw
      case rel => exact ⟨i + 1, by omega, by go_num, HNX.out, HM2.out⟩
      case measure => simp [intOf]; omega
    · obtain rfl : i = N := by omega
      rw [ido_end] at HB
      generalize hw2 : wr = w2 at *
      clear hw2
      have HB2 : Hid (Below wA.heap.size wA w2) := bel_mod HB1.out HM.out (fun x e => by rw [e, HOB.out]; exact Nat.le_refl _)
      have HE2 := Lib.hid (HE.out.below HB2.out)
      have HCMP : Hid (CmpOn w2 ob 78 #[.pointer (some ⟨bb, 0, none⟩)] (fun x => x < i) (keyJ J)) := by
        intro W hW x y hx hy
        have hlt := HSZ.out
        have hob := HOB.out
        have hEW : TEnv W bb rp rb g i n ao cap J := HE.out.below (bel_mod HB2.out hW (fun x e => by rw [e, HOB.out]; exact Nat.le_refl _))
        have ha := HAO.out (by omega)
        subst ha
        exact tcmp_ok W bb rp g cap i J (hEW.bx.cell (i := 0) rfl) hEW.c4 hEW.jr (by omega) x y hx hy
      clear HB1 HM hiN
      go_wp2_with fail
      with_reducible refine (stableS_ok w2 ob i i (by omega) 78 #[.pointer (some ⟨bb, 0, none⟩)] callFn (keyJ J) HB.out HCMP.out).mono ?_
      rintro e w3 ⟨gg, ⟨rfl, hb3, hm3⟩, hsg, hsr⟩
      have HOJ : Hid (rowF i gg = ordJ J) := by
        have := @sort_ord J gg
        rw [HN.out] at this
        exact this hsg hsr
      rw [HOJ.out] at hb3
      have HO3 := Lib.hid hb3
      have HB3 : Hid (Below wA.heap.size wA w3) := bel_mod HB2.out hm3 (fun x e => by rw [e, HOB.out]; exact Nat.le_refl _)
      clear hb3 hm3 hsg hsr HCMP HB HB2 HE2 HOJ
      go_wp2_with (at_make; refine wpList_makeB 3 (.int .i64 0) 8 Tryz.underlying24 Tryz.infoInt rfl _ _ _ _ i rfl rfl rfl rfl (by omega) (by unfold maxLen; omega) ?_; intro w4 B4 hb4)
      obtain ⟨gb, HGB⟩ : ∃ x, Hid (w3.heap.size = x) := ⟨_, rfl⟩
      obtain ⟨pp, HPP⟩ : ∃ x, Hid (w4.heap.size = x) := ⟨_, rfl⟩
      simp only [HGB.out, HPP.out]
      obtain ⟨w5, HW5⟩ : ∃ x, Hid (w4.alloc (.cells #[.slice (some ⟨gb, 0, none⟩) i i] 24) = x) := ⟨_, rfl⟩
      simp only [HW5.out]
      have hgp : gb < pp := by rw [← HGB.out, ← HPP.out]; exact B4.lt
      have hog : ob < gb := by rw [← HGB.out]; exact HO3.out.lt
      have HB45 : Hid (Below w3.heap.size w3 w5) := by
        rw [← HW5.out]; exact hb4.trans ((bel_alloc w4 _).mono hb4.size)
      have HG5 : Hid (Blk w5 gb 3 (natV (rowF i (plF n J 0)))) := by
        have e := plF_zero n J
        rw [HN.out] at e
        rw [e, natV_zero, ← HW5.out, ← HGB.out]
        exact B4.alloc _
      have HP5 : Hid (Blk w5 pp 24 [.slice (some ⟨gb, 0, none⟩) i i]) := by
        rw [← HW5.out, ← HPP.out]; exact Blk.new w4 _ [.slice (some ⟨gb, 0, none⟩) i i]
      have HO5 := Lib.hid (HO3.out.below HB45.out HO3.out.lt)
      have HB5 := Lib.hid (bel_then HB3.out HB45.out)
      have HE5 := Lib.hid (HE.out.below HB5.out)
      have HSO : Hid (wA.heap.size ≤ gb ∧ wA.heap.size ≤ ob) := ⟨by rw [← HGB.out]; exact HB3.out.size, by rw [HOB.out]; exact Nat.le_refl _⟩
      clear B4 hb4 HO3 HB3 HB45
      go_wp2_with fail
      go_loopw [42] (fun s wr => ∃ k : Nat, k ≤ i ∧ s = .int .i64 (k : Int) ∧ Blk wr gb 3 (natV (rowF i (plF n J k))) ∧ Mod (fun x => x = gb) w5 wr) (fun s _ => i - (intOf s).toNat)
      case atStart => exact ⟨0, Nat.zero_le _, rfl, HG5.out, Mod.refl _ _⟩
      case round =>
        obtain ⟨k, hk, rfl, hb, hm⟩ := hrel
        clear HG5
        have HG := Lib.hid hb
        have HM := Lib.hid hm
        clear hb hm
        have HBR : Hid (Below wA.heap.size wA wr) := bel_mod HB5.out HM.out (fun x e => by rw [e]; exact HSO.out.1)
        have HER := Lib.hid (HE.out.below HBR.out)
        by_cases hkN : k < i
        · have hoj : (ordJ J).getD k 0 < i := by have := @ordJ_at_lt J k (by rw [HN.out]; exact hkN); rw [HN.out] at this; exact this
          have HOR := Lib.hid (HO5.out.mod HM.out (by omega))
          have ce : wr.cell? ⟨ob, k, none⟩ = some (.int .i64 (((ordJ J).getD k 0 : Nat) : Int)) := HOR.out.cell (natV_get (by rw [ordJ_len, HN.out]; exact hkN))
          have HNX : Hid (Blk (wr.setCell ⟨gb, (ordJ J).getD k 0, none⟩ (.int .i64 ((n + k : Nat) : Int))) gb 3 (natV (rowF i (plF n J (k + 1))))) := by
            have e := plF_step (n := n) (J := J) (k := k) (by rw [HN.out]; exact hkN)
            rw [HN.out] at e
            rw [← e]; exact blkN_set HG.out _ _
          have HM2 : Hid (Mod (fun x => x = gb) w5 (wr.setCell ⟨gb, (ordJ J).getD k 0, none⟩ (.int .i64 ((n + k : Nat) : Int)))) := HM.out.setCell ⟨gb, _, none⟩ (fun _ => rfl) _
          generalize (ordJ J).getD k 0 = oj at *
          have cg := row_cell HG.out hoj
          have fg := HG.out.free oj
          have c1 := HER.out.bx.cell (i := 0) rfl
          have c3 := HER.out.c3
          have cp := (HP5.out.mod HM.out (by omega)).cell (i := 0) rfl
          generalize plF n J k oj = z at cg
          have g1 : (k : Int) < (i : Int) := by omega
          have g2 : (oj : Int) < (i : Int) := by omega
          have g3 : (0 : Int) ≤ (oj : Int) := by omega
          have g4 : (0 : Int) ≤ (k : Int) := by omega
          have v1 : IntKind.i64.wrap ((n : Int) + (k : Int)) = ((n + k : Nat) : Int) := by rw [IntWalk.i64_in _ (by omega)]; omega
          generalize n + k = nk at *
          clear HG HM HOR HER
          go_wp2_with fail
          refine region_tailD 9 (by kernel_rfl) (by kernel_rfl) ?_
          intro wy hwy
          replace cg := hwy.cell cg
          replace fg := hwy.frozen fg
          replace c1 := hwy.cell c1
          replace c3 := hwy.cell c3
          replace cp := hwy.cell cp
          have HNX2 : Hid (Blk (wy.setCell ⟨gb, oj, none⟩ (.int .i64 (nk : Int))) gb 3 (natV (rowF i (plF n J (k + 1))))) := by unfold DrewOf at hwy; subst hwy; exact HNX.out
          have HM3 : Hid (Mod (fun x => x = gb) w5 (wy.setCell ⟨gb, oj, none⟩ (.int .i64 (nk : Int)))) := by
            unfold DrewOf at hwy; subst hwy
            exact ⟨HM2.out.os, HM2.out.tape, HM2.out.output, HM2.out.size, HM2.out.block⟩
          clear hwy HNX HM2
          simp only [List.take_succ_cons, List.take_zero, List.drop_succ_cons, List.drop_zero]
          repeat still_step
          refine wpStill_nil ?_
          go_wp2_with fail
          go_roundw
          case rel => exact ⟨k + 1, by omega, by go_num, HNX2.out, HM3.out⟩
          case measure => simp [intOf]; omega
        · obtain rfl : k = i := by omega
          generalize hw6 : wr = w6 at *
          clear hw6
          have HP6 := Lib.hid (HP5.out.mod HM.out (by omega))
          have c1 := HER.out.bx.cell (i := 0) rfl
          have c3 := HER.out.c3
          have c4 := HER.out.c4
          obtain ⟨M, HMM⟩ : ∃ M, Hid (n + k = M) := ⟨_, rfl⟩
          have v1 : IntKind.i64.wrap ((n : Int) + (k : Int)) = (M : Int) := by have := HMM.out; rw [IntWalk.i64_in _ (by omega)]; omega
          clear HO5 HP5 HE5 HM HB5 hkN
          go_wp2_with fail
          go_quiet (fail)
          have HG7 : Hid (Blk (w6.drewN nq) gb 3 (natV (rowF k (plF n J k)))) := HG.out.drewN nq
          have HP7 : Hid (Blk (w6.drewN nq) pp 24 [.slice (some ⟨gb, 0, none⟩) k k]) := HP6.out.drewN nq
          have HB7 := Lib.hid (bel_drewN HBR.out nq)
          have HE7 := Lib.hid (HE.out.below HB7.out)
          clear c1 c3 c4 v1 HG HP6 HBR HER
          generalize w6.drewN nq = w7 at *
          have hm2 : M ≤ 8192 := by have := HMM.out; omega
          have hmkI : ∀ w, (Instr.makeSlice 24 (.int .i64 (M : Int)) (.int .i64 (M : Int))).run Tryz.prog w = .ok (.slice (some ⟨w.heap.size, 0, none⟩) M M) (w.alloc (.cells (List.replicate M (Value.int .i64 0)).toArray 3)) := fun w =>
            run_makeE 24 3 (.int .i64 0) 8 Tryz.underlying24 Tryz.infoInt rfl .i64 .i64 M (by omega) (by unfold maxLen; omega) w
          have hmkH : ∀ w, (Instr.makeSlice 25 (.int .i64 (M : Int)) (.int .i64 (M : Int))).run Tryz.prog w = .ok (.slice (some ⟨w.heap.size, 0, none⟩) M M) (w.alloc (.cells (List.replicate M (Value.int .i64 0)).toArray 2)) := fun w =>
            run_makeE 25 2 (.int .i64 0) 8 Tryz.underlying25 Tryz.infoI64 rfl .i64 .i64 M (by omega) (by unfold maxLen; omega) w
          have HMI := Lib.hid hmkI
          have HMH := Lib.hid hmkH
          clear hmkI hmkH
          have HC1 : Hid (∀ W, Below w7.heap.size w7 W → W.cell? ⟨bb, 0, none⟩ = some (.pointer (some ⟨rp, 0, none⟩)) ∧ W.cell? ⟨rp, 3, none⟩ = some (.int .i64 (n : Int))) := fun W hW => by
            have := HE7.out.below hW
            exact ⟨this.bx.cell (i := 0) rfl, this.c3⟩
          go_upto_region 16 with fail
          refine wp_region_bag (by kernel_rfl) (by kernel_rfl) (by kernel_rfl) (by kernel_rfl) (T5 rp w7 n M) ?start ?step ?fin
          case start =>
            rintro W rfl
            exact ⟨⟨(Below.refl _ _).drew, nofun, nofun, nofun, nofun, nofun, nofun⟩, nofun, nofun, nofun⟩
          case step =>
            intro L xs W i o A hev hev2 hT ho hi hdep
            have hJ := hT.b
            have hmkI := HMI.out
            have hmkH := HMH.out
            obtain ⟨q1, q3⟩ := HC1.out W hJ.bel
            have h17 : i < 17 := by have := (List.getElem?_eq_some_iff.1 ho).1; simpa using this
            have hi17 : i = 0 ∨ i = 1 ∨ i = 2 ∨ i = 3 ∨ i = 4 ∨ i = 5 ∨ i = 6 ∨ i = 7 ∨ i = 8 ∨ i = 9 ∨ i = 10 ∨ i = 11 ∨ i = 12 ∨ i = 13 ∨ i = 14 ∨ i = 15 ∨ i = 16 := by omega
            rcases hi17 with rfl | rfl | rfl | rfl | rfl | rfl | rfl | rfl | rfl | rfl | rfl | rfl | rfl | rfl | rfl | rfl | rfl
            · cases ho
              have e := hev 1 (by kernel_rfl)
              replace e : A.eval (.tmp 1) = .pointer (some ⟨bb, 0, none⟩) := e
              exact wp_value (v := .pointer (some ⟨rp, 0, none⟩)) (w' := W) (by simp only [execOp, e]; simp [go_sem, e, q1]) ⟨_, rfl, hT.read 0 (by omega) _ (fun _ => rfl) (fun e => by cases e) (fun e => by cases e)⟩
            · cases ho
              have h0 : L 0 = true := hdep ⟨0, .data⟩ (by simp) (by rfl)
              have e := (hev2 0 68 h0 rfl (by simp)).trans (hT.r0 h0)
              exact wp_value (v := .pointer (some ⟨rp, 0, none⟩)) (w' := W) (by simp only [execOp, e]; simp [go_sem, e]) ⟨_, rfl, hT.read 1 (by omega) _ (fun e => by cases e) (fun _ => rfl) (fun e => by cases e)⟩
            · cases ho
              have h1 : L 1 = true := hdep ⟨1, .data⟩ (by simp) (by rfl)
              have e := (hev2 1 69 h1 rfl (by simp)).trans (hT.r1 h1)
              exact wp_value (v := .pointer (some ⟨rp, 3, none⟩)) (w' := W) (by simp only [execOp, e]; simp [go_sem, e]) ⟨_, rfl, hT.read 2 (by omega) _ (fun e => by cases e) (fun e => by cases e) (fun _ => rfl)⟩
            · cases ho
              have h2 : L 2 = true := hdep ⟨2, .data⟩ (by simp) (by rfl)
              have e := (hev2 2 70 h2 rfl (by simp)).trans (hT.r2 h2)
              exact wp_value (v := .int .i64 (n : Int)) (w' := W) (by simp only [execOp, e]; simp [go_sem, e, q3]) ⟨_, rfl, hT.step 0 _ (hJ.read (i := 0) hi _ rfl (by decide) (by decide) (fun _ => rfl) (fun e => by cases e))⟩
            · cases ho
              have ev := hev 10 (by kernel_rfl)
              exact wp_value (v := .int .i64 (M : Int)) (w' := W) (congrArg (fun z => Result.ok (Next.value z) W) ev) ⟨_, rfl, hT.step 1 _ (hJ.read (i := 1) hi _ rfl (by decide) (by decide) (fun _ => rfl) (fun e => by cases e))⟩
            · cases ho
              have h1 : L 4 = true := hdep ⟨4, .data⟩ (by simp) (by rfl)
              have ev : A.eval (.tmp 72) = .int .i64 (M : Int) := (hev2 4 72 h1 rfl (by simp)).trans (hJ.mv 1 rfl h1)
              refine wp_value (v := .slice (some ⟨W.heap.size, 0, none⟩) M M) (w' := W.alloc (.cells (List.replicate M (.int .i64 0)).toArray 3)) (by
                simp only [execOp, Sem.run_bind, ev]
                rw [hmkI W]
                rfl) ⟨_, rfl, hT.step 2 _ (hJ.more (i := 2) hi _ (.inl rfl) (bel_alloc _ _) rfl (fun _ => ⟨rfl, Blk.new _ _ _, hJ.bel.size⟩) (fun e => by cases e))⟩
            · cases ho
              have ev := hev 10 (by kernel_rfl)
              exact wp_value (v := .int .i64 (M : Int)) (w' := W) (congrArg (fun z => Result.ok (Next.value z) W) ev) ⟨_, rfl, hT.step 3 _ (hJ.read (i := 3) hi _ rfl (by decide) (by decide) (fun _ => rfl) (fun e => by cases e))⟩
            · cases ho
              have h1 : L 6 = true := hdep ⟨6, .data⟩ (by simp) (by rfl)
              have ev : A.eval (.tmp 74) = .int .i64 (M : Int) := (hev2 6 74 h1 rfl (by simp)).trans (hJ.mv 3 rfl h1)
              refine wp_value (v := .slice (some ⟨W.heap.size, 0, none⟩) M M) (w' := W.alloc (.cells (List.replicate M (.int .i64 0)).toArray 3)) (by
                simp only [execOp, Sem.run_bind, ev]
                rw [hmkI W]
                rfl) ⟨_, rfl, hT.step 4 _ (hJ.more (i := 4) hi _ (.inl rfl) (bel_alloc _ _) rfl (fun _ => ⟨rfl, Blk.new _ _ _, hJ.bel.size⟩) (fun e => by cases e))⟩
            · cases ho
              have ev := hev 10 (by kernel_rfl)
              exact wp_value (v := .int .i64 (M : Int)) (w' := W) (congrArg (fun z => Result.ok (Next.value z) W) ev) ⟨_, rfl, hT.step 5 _ (hJ.read (i := 5) hi _ rfl (by decide) (by decide) (fun _ => rfl) (fun e => by cases e))⟩
            · cases ho
              have h1 : L 8 = true := hdep ⟨8, .data⟩ (by simp) (by rfl)
              have ev : A.eval (.tmp 76) = .int .i64 (M : Int) := (hev2 8 76 h1 rfl (by simp)).trans (hJ.mv 5 rfl h1)
              refine wp_value (v := .slice (some ⟨W.heap.size, 0, none⟩) M M) (w' := W.alloc (.cells (List.replicate M (.int .i64 0)).toArray 3)) (by
                simp only [execOp, Sem.run_bind, ev]
                rw [hmkI W]
                rfl) ⟨_, rfl, hT.step 6 _ (hJ.more (i := 6) hi _ (.inl rfl) (bel_alloc _ _) rfl (fun _ => ⟨rfl, Blk.new _ _ _, hJ.bel.size⟩) (fun e => by cases e))⟩
            · cases ho
              have ev := hev 10 (by kernel_rfl)
              exact wp_value (v := .int .i64 (M : Int)) (w' := W) (congrArg (fun z => Result.ok (Next.value z) W) ev) ⟨_, rfl, hT.step 7 _ (hJ.read (i := 7) hi _ rfl (by decide) (by decide) (fun _ => rfl) (fun e => by cases e))⟩
            · cases ho
              have h1 : L 10 = true := hdep ⟨10, .data⟩ (by simp) (by rfl)
              have ev : A.eval (.tmp 78) = .int .i64 (M : Int) := (hev2 10 78 h1 rfl (by simp)).trans (hJ.mv 7 rfl h1)
              refine wp_value (v := .slice (some ⟨W.heap.size, 0, none⟩) M M) (w' := W.alloc (.cells (List.replicate M (.int .i64 0)).toArray 2)) (by
                simp only [execOp, Sem.run_bind, ev]
                rw [hmkH W]
                rfl) ⟨_, rfl, hT.step 8 _ (hJ.more (i := 8) hi _ (.inl rfl) (bel_alloc _ _) rfl (fun _ => ⟨rfl, Blk.new _ _ _, hJ.bel.size⟩) (fun e => by cases e))⟩
            · cases ho
              have ev := hev 10 (by kernel_rfl)
              exact wp_value (v := .int .i64 (M : Int)) (w' := W) (congrArg (fun z => Result.ok (Next.value z) W) ev) ⟨_, rfl, hT.step 9 _ (hJ.read (i := 9) hi _ rfl (by decide) (by decide) (fun _ => rfl) (fun e => by cases e))⟩
            · cases ho
              have h1 : L 12 = true := hdep ⟨12, .data⟩ (by simp) (by rfl)
              have ev : A.eval (.tmp 80) = .int .i64 (M : Int) := (hev2 12 80 h1 rfl (by simp)).trans (hJ.mv 9 rfl h1)
              refine wp_value (v := .slice (some ⟨W.heap.size, 0, none⟩) M M) (w' := W.alloc (.cells (List.replicate M (.int .i64 0)).toArray 3)) (by
                simp only [execOp, Sem.run_bind, ev]
                rw [hmkI W]
                rfl) ⟨_, rfl, hT.step 10 _ (hJ.more (i := 10) hi _ (.inl rfl) (bel_alloc _ _) rfl (fun _ => ⟨rfl, Blk.new _ _ _, hJ.bel.size⟩) (fun e => by cases e))⟩
            · cases ho
              have h0 : L 3 = true := hdep ⟨3, .data⟩ (by simp) (by rfl)
              have h2 : L 5 = true := hdep ⟨5, .data⟩ (by simp) (by rfl)
              have h4 : L 7 = true := hdep ⟨7, .data⟩ (by simp) (by rfl)
              have h6 : L 9 = true := hdep ⟨9, .data⟩ (by simp) (by rfl)
              have h8 : L 11 = true := hdep ⟨11, .data⟩ (by simp) (by rfl)
              have h10 : L 13 = true := hdep ⟨13, .data⟩ (by simp) (by rfl)
              have e0 := hev2 3 71 h0 rfl (by simp)
              have e2 := hev2 5 73 h2 rfl (by simp)
              have e4 := hev2 7 75 h4 rfl (by simp)
              have e6 := hev2 9 77 h6 rfl (by simp)
              have e8 := hev2 11 79 h8 rfl (by simp)
              have e10 := hev2 13 81 h10 rfl (by simp)
              have er : (Instr.build 27 #[(0, xs 3), (1, xs 5), (2, xs 7), (3, xs 9), (4, xs 11), (5, xs 13)]).run Tryz.prog W = .ok (.agg #[xs 3, xs 5, xs 7, xs 9, xs 11, xs 13]) W := by
                have o0 := hJ.mv 0 rfl h0
                have o2 := (hJ.mkk 2 rfl h2).val
                have o4 := (hJ.mkk 4 rfl h4).val
                have o6 := (hJ.mkk 6 rfl h6).val
                have o8 := (hJ.mkk 8 rfl h8).val
                have o10 := (hJ.mkk 10 rfl h10).val
                simp only [Nat.reduceAdd] at o0 o2 o4 o6 o8 o10
                rw [o0, o2, o4, o6, o8, o10]
                exact run_build (P := Tryz.prog) W 27 _ _ (by kernel_rfl)
              exact wp_value (v := .agg #[xs 3, xs 5, xs 7, xs 9, xs 11, xs 13]) (w' := W) (by simp [execOp, e0, e2, e4, e6, e8, e10, er]) ⟨_, rfl, hT.step 11 _ (hJ.read (i := 11) hi _ rfl (by decide) (by decide) (fun h => by cases h) (fun _ => ⟨⟨h0, h2, h4, h6, h8, h10⟩, rfl⟩))⟩
            · cases ho
              exact wp_value (v := .pointer (some ⟨W.heap.size, 0, none⟩)) (w' := W.alloc (.cells #[.int .i64 0, .slice none 0 0, .slice none 0 0, .slice none 0 0, .slice none 0 0, .slice none 0 0] 27)) (run_allocB (z := .agg #[.int .i64 0, .slice none 0 0, .slice none 0 0, .slice none 0 0, .slice none 0 0, .slice none 0 0]) (by kernel_rfl) _ _ _ _ _)
                ⟨_, rfl, hT.step 12 _ (hJ.more (i := 12) hi _ (.inr rfl) (bel_alloc _ _) rfl (fun e => by cases e) (fun _ => ⟨rfl, hJ.bel.size, Blk.new _ _ _⟩))⟩
            · cases ho
              have h11 : L 14 = true := hdep ⟨14, .data⟩ (by simp) (by rfl)
              have h12 : L 15 = true := hdep ⟨15, .data⟩ (by simp) (by rfl)
              obtain ⟨b1, b2, b3, _⟩ := hJ.al h12
              obtain ⟨⟨h0, h2, h4, h6, h8, h10⟩, b5⟩ := hJ.bd h11
              have b4 := b3 hi
              have e9 := (hev2 15 11 h12 rfl (by simp)).trans b1
              have e45 := (hev2 14 82 h11 rfl (by simp)).trans b5
              have o0 := hJ.mv 0 rfl h0
              have o2 := (hJ.mkk 2 rfl h2).val
              have o4 := (hJ.mkk 4 rfl h4).val
              have o6 := (hJ.mkk 6 rfl h6).val
              have o8 := (hJ.mkk 8 rfl h8).val
              have o10 := (hJ.mkk 10 rfl h10).val
              simp only [Nat.reduceAdd] at o0 o2 o4 o6 o8 o10 e9 e45 b4
              refine wp_store_mid 27 _ _ rfl (bof (xs 15)) 0 #[xs 3, xs 5, xs 7, xs 9, xs 11, xs 13] e9 e45 (fun j hj => ?_) (by kernel_rfl) (by rw [o0, o2, o4, o6, o8, o10]; simp [Value.oneCell']) ⟨undef, rfl, hT.step 13 _ (hJ.store hi h11 h12 undef ?_ ?_)⟩
              · have hj6 : j < 6 := hj
                rw [Nat.zero_add]
                refine ⟨?_, b4.free j⟩
                rw [b4.cell (List.getElem?_eq_getElem (by simpa using hj6))]; rfl
              · exact Mod.setCells (F := fun k => k = bof (xs 15)) (b := bof (xs 15)) _ (a := W) (w := W) 0 (Mod.refl _ _) (fun _ => rfl)
              · exact Blk.setAll (w := W) [xs 3, xs 5, xs 7, xs 9, xs 11, xs 13] [] _ b4 rfl
          case fin =>
            intro L xs W hall hT
            have hJ := hT.b
            replace hall : ∀ i, i < 17 → L i = true := hall
            have h12 := hall 15 (by simp)
            have h13 := hall 16 (by simp)
            obtain ⟨b1, b2, _, b4⟩ := hJ.al h12
            obtain ⟨_, b5⟩ := b4 h13
            have o0 := hJ.mv 0 rfl (hall 3 (by simp))
            have k2 := hJ.mkk 2 rfl (hall 5 (by simp))
            have k4 := hJ.mkk 4 rfl (hall 7 (by simp))
            have k6 := hJ.mkk 6 rfl (hall 9 (by simp))
            have k8 := hJ.mkk 8 rfl (hall 11 (by simp))
            have k10 := hJ.mkk 10 rfl (hall 13 (by simp))
            have hfive : BB.five ⟨bof (xs 15), bof (xs 5), bof (xs 7), bof (xs 9), bof (xs 11), bof (xs 13), 0⟩ := by
              have ne := fun j k hj hk hne => hJ.ne j k hj hk (hall (j + 3) (hj.elim (fun h => by unfold isMk at h; simp at h; omega) (fun h => by omega))) (hall (k + 3) (hk.elim (fun h => by unfold isMk at h; simp at h; omega) (fun h => by omega))) hne
              exact ⟨⟨ne 12 2 (.inr rfl) (.inl rfl) (by decide), ne 12 4 (.inr rfl) (.inl rfl) (by decide), ne 12 6 (.inr rfl) (.inl rfl) (by decide), ne 12 8 (.inr rfl) (.inl rfl) (by decide), ne 12 10 (.inr rfl) (.inl rfl) (by decide)⟩,
                ⟨ne 2 4 (.inl rfl) (.inl rfl) (by decide), ne 2 6 (.inl rfl) (.inl rfl) (by decide), ne 2 8 (.inl rfl) (.inl rfl) (by decide), ne 2 10 (.inl rfl) (.inl rfl) (by decide)⟩,
                ⟨ne 4 6 (.inl rfl) (.inl rfl) (by decide), ne 4 8 (.inl rfl) (.inl rfl) (by decide), ne 4 10 (.inl rfl) (.inl rfl) (by decide)⟩, ⟨ne 6 8 (.inl rfl) (.inl rfl) (by decide), ne 6 10 (.inl rfl) (.inl rfl) (by decide)⟩, ne 8 10 (.inl rfl) (.inl rfl) (by decide)⟩
            have hbel := hJ.bel
            have r0 := hT.r0 (hall 0 (by simp))
            have r1 := hT.r1 (hall 1 (by simp))
            have r2 := hT.r2 (hall 2 (by simp))
            have o1 := hJ.mv 1 rfl (hall 4 (by simp))
            have o3 := hJ.mv 3 rfl (hall 6 (by simp))
            have o5 := hJ.mv 5 rfl (hall 8 (by simp))
            have o7 := hJ.mv 7 rfl (hall 10 (by simp))
            have o9 := hJ.mv 9 rfl (hall 12 (by simp))
            have o11 := (hJ.bd (hall 14 (by simp))).2
            replace o0 : xs 3 = .int .i64 (n : Int) := o0
            replace o1 : xs 4 = .int .i64 (M : Int) := o1
            replace o3 : xs 6 = .int .i64 (M : Int) := o3
            replace o5 : xs 8 = .int .i64 (M : Int) := o5
            replace o7 : xs 10 = .int .i64 (M : Int) := o7
            replace o9 : xs 12 = .int .i64 (M : Int) := o9
            have q2 := k2.val
            have q4 := k4.val
            have q6 := k6.val
            have q8 := k8.val
            have q10 := k10.val
            have n2 := k2.new
            have n4 := k4.new
            have n6 := k6.new
            have n8 := k8.new
            have n10 := k10.new
            have l2 : Blk W _ 3 _ := k2.blk
            have l4 : Blk W _ 3 _ := k4.blk
            have l6 : Blk W _ 3 _ := k6.blk
            have l8 : Blk W _ 2 _ := k8.blk
            have l10 : Blk W _ 3 _ := k10.blk
            simp only [Nat.reduceAdd] at b1 b2 b5 o11 q2 q4 q6 q8 q10 n2 n4 n6 n8 n10 l2 l4 l6 l8 l10
            simp only [putAll, Nat.zero_add, Nat.reduceAdd]
            obtain ⟨tb, hTB⟩ : ∃ x, bof (xs 15) = x := ⟨_, rfl⟩
            obtain ⟨lb, hLB⟩ : ∃ x, bof (xs 5) = x := ⟨_, rfl⟩
            obtain ⟨rb2, hRB⟩ : ∃ x, bof (xs 7) = x := ⟨_, rfl⟩
            obtain ⟨pb, hPB⟩ : ∃ x, bof (xs 9) = x := ⟨_, rfl⟩
            obtain ⟨hb, hHB⟩ : ∃ x, bof (xs 11) = x := ⟨_, rfl⟩
            obtain ⟨sb, hSB⟩ : ∃ x, bof (xs 13) = x := ⟨_, rfl⟩
            rw [hTB] at b1 b2 b5 hfive
            rw [hLB] at q2 n2 l2 hfive
            rw [hRB] at q4 n4 l4 hfive
            rw [hPB] at q6 n6 l6 hfive
            rw [hHB] at q8 n8 l8 hfive
            rw [hSB] at q10 n10 l10 hfive
            rw [o0, q2, q4, q6, q8, q10] at b5 o11
            rw [r0, r1, r2, o0, o1, q2, o3, q4, o5, q6, o7, q8, o9, q10, o11, b1]
            have HBT : Hid (BdT W ⟨tb, lb, rb2, pb, hb, sb, 0⟩ n M (tI n M 0)) := by
              have hrep : intV (List.replicate M 0) = List.replicate M (.int .i64 0) := by unfold intV; rw [List.map_replicate]
              show BdT _ _ _ _ _
              rw [tI_zero]
              exact ⟨b5, by rw [hrep]; exact l2, by rw [hrep]; exact l4, by rw [hrep]; exact l6, by rw [hrep]; exact l8, by rw [hrep]; exact l10, by simp, by simp, by simp, by simp, by simp, hfive⟩
            have HW8 := Lib.hid hbel
            have hub : w7.heap.size ≤ lb := n2
            have HMW : Hid (∀ x, BB.mem ⟨tb, lb, rb2, pb, hb, sb, lb⟩ x → w7.heap.size ≤ x) := by
              rintro x (e | e | e | e | e | e | e) <;> simp only at e <;> subst e <;> assumption
            have HG8 := Lib.hid (HG7.out.below hbel HG7.out.lt)
            have HP8 := Lib.hid (HP7.out.below hbel HP7.out.lt)
            have HGL : Hid (gb < w7.heap.size ∧ pp < w7.heap.size) := ⟨HG7.out.lt, HP7.out.lt⟩
            have HS7 : Hid (wA.heap.size ≤ w7.heap.size) := HB7.out.size
            have HFV := Lib.hid hfive
            clear hJ hT hall h12 h13 b1 b2 b4 b5 o0 o1 o3 o5 o7 o9 o11 k2 k4 k6 k8 k10 q2 q4 q6 q8 q10 n2 n4 n6 n8 n10 l2 l4 l6 l8 l10 hTB hLB hRB hPB hHB hSB hfive hbel HMI HMH HC1 HG7 HP7 HE7 r0 r1 r2 hub
            have HBT0 : Hid (BdT W ⟨tb, lb, rb2, pb, hb, sb, lb⟩ n M (tI n M 0)) := ⟨HBT.out.box, HBT.out.l, HBT.out.r, HBT.out.p, HBT.out.h, HBT.out.s, HBT.out.ll, HBT.out.rl, HBT.out.pl, HBT.out.hl, HBT.out.sl, HBT.out.ap⟩
            clear HBT
            go_wp2_with fail
            go_loopw [84] (fun s wr => ∃ x : Nat, x ≤ M ∧ s = .int .i64 (x : Int) ∧ BdT wr ⟨tb, lb, rb2, pb, hb, sb, lb⟩ n M (tI n M x) ∧ Mod (BB.mem ⟨tb, lb, rb2, pb, hb, sb, lb⟩) W wr) (fun s _ => M - (intOf s).toNat)
            case atStart => exact ⟨0, Nat.zero_le _, rfl, HBT0.out, Mod.refl _ _⟩
            case round =>
              obtain ⟨x, hx, rfl, hbt, hm3⟩ := hrel
              clear HBT0
              have HBT := Lib.hid hbt
              have HM := Lib.hid hm3
              clear hbt hm3
              have HB8 : Hid (Below w7.heap.size w7 wr) := bel_mod HW8.out HM.out HMW.out
              have HBR := Lib.hid (bel_then HB7.out HB8.out)
              by_cases hxm : x < M
              · have c1 : wr.cell? ⟨tb, 1, none⟩ = some (.slice (some ⟨lb, 0, none⟩) M M) := HBT.out.box.cell (i := 1) rfl
                have c2 : wr.cell? ⟨tb, 2, none⟩ = some (.slice (some ⟨rb2, 0, none⟩) M M) := HBT.out.box.cell (i := 2) rfl
                have c3 : wr.cell? ⟨tb, 3, none⟩ = some (.slice (some ⟨pb, 0, none⟩) M M) := HBT.out.box.cell (i := 3) rfl
                have l1 : wr.cell? ⟨lb, x, none⟩ = some (.int .i64 (gi (negI M x) x)) := blkIV HBT.out.l (by rw [HBT.out.ll]; exact hxm)
                have r1 : wr.cell? ⟨rb2, x, none⟩ = some (.int .i64 (gi (negI M x) x)) := blkIV HBT.out.r (by rw [HBT.out.rl]; exact hxm)
                have p1 : wr.cell? ⟨pb, x, none⟩ = some (.int .i64 (gi (negI M x) x)) := blkIV HBT.out.p (by rw [HBT.out.pl]; exact hxm)
                have f1 : wr.frozen? ⟨lb, x, none⟩ = false := HBT.out.l.free x
                have f2 : wr.frozen? ⟨rb2, x, none⟩ = false := HBT.out.r.free x
                have f3 : wr.frozen? ⟨pb, x, none⟩ = false := HBT.out.p.free x
                have n1 : rb2 ≠ lb := fun e => HFV.out.2.1.1 e.symm
                have n2 : pb ≠ lb := fun e => HFV.out.2.1.2.1 e.symm
                have n3 : pb ≠ rb2 := fun e => HFV.out.2.2.1.1 e.symm
                have NF : Hid (¬ (tb = lb ∨ tb = rb2 ∨ tb = pb)) := fun e => e.elim HFV.out.1.1 fun e => e.elim HFV.out.1.2.1 HFV.out.1.2.2.1
                generalize gi (negI M x) x = old at *
                have t1 : (x : Int) < (M : Int) := by omega
                have t2 : (0 : Int) ≤ (x : Int) := by omega
                have C1 := Lib.hid c1
                have C2 := Lib.hid c2
                have C3 := Lib.hid c3
                go_wp2_with fail
                go_cut [] (fun wx => wx = (((wr.setCell ⟨lb, x, none⟩ (.int .i64 (-1))).setCell ⟨rb2, x, none⟩ (.int .i64 (-1))).setCell ⟨pb, x, none⟩ (.int .i64 (-1))).drew)
                case first =>
                  go_region_held3 (fun w' => w'.cell? ⟨tb, 1, none⟩ = some (.slice (some ⟨lb, 0, none⟩) M M) ∧ w'.cell? ⟨tb, 2, none⟩ = some (.slice (some ⟨rb2, 0, none⟩) M M) ∧ w'.cell? ⟨tb, 3, none⟩ = some (.slice (some ⟨pb, 0, none⟩) M M) ∧ Mod (fun z => z = lb ∨ z = rb2 ∨ z = pb) wr w')
                    (((try go_split_ands); refine keepC3 C1 C2 C3 NF.out NF.out NF.out ?_; first | assumption | (repeat (first | exact Mod.refl _ _ | apply Mod.drew | refine Mod.setAt ?_ (by simp)))))
                    (fail)
                  all_goals
                    go_wp2_with fail
                    go_meet
                    exact rfl
                case rest =>
                  obtain rfl := hcut
                  have HBT6 : Hid (BdT (((wr.setCell ⟨lb, x, none⟩ (.int .i64 (-1))).setCell ⟨rb2, x, none⟩ (.int .i64 (-1))).setCell ⟨pb, x, none⟩ (.int .i64 (-1))).drew ⟨tb, lb, rb2, pb, hb, sb, lb⟩ n M ⟨n, negI M (x + 1), negI M (x + 1), negI M (x + 1), List.replicate M 0, oneI M (min x n)⟩) := by
                    have := (((HBT.out.setL x (-1)).setR x (-1)).setP x (-1)).drew
                    simp only [tI, negI_step hxm] at this
                    exact this
                  have HM6 : Hid (Mod (BB.mem ⟨tb, lb, rb2, pb, hb, sb, lb⟩) W (((wr.setCell ⟨lb, x, none⟩ (.int .i64 (-1))).setCell ⟨rb2, x, none⟩ (.int .i64 (-1))).setCell ⟨pb, x, none⟩ (.int .i64 (-1))).drew) := (((HM.out.setAt (.inr (.inl rfl))).setAt (.inr (.inr (.inl rfl)))).setAt (.inr (.inr (.inr (.inl rfl))))).drew
                  have HBR6 := Lib.hid (bel_then HB7.out (bel_mod HW8.out HM6.out HMW.out))
                  clear HBT HM HB8 HBR c1 c2 c3 l1 r1 p1 f1 f2 f3 C1 C2 C3 NF n1 n2 n3
                  generalize (((wr.setCell ⟨lb, x, none⟩ (.int .i64 (-1))).setCell ⟨rb2, x, none⟩ (.int .i64 (-1))).setCell ⟨pb, x, none⟩ (.int .i64 (-1))).drew = w9 at *
                  have hEv := HE.out.below HBR6.out
                  have e1 := hEv.bx.cell (i := 0) rfl
                  have e3 := hEv.c3
                  clear hEv
                  by_cases hxn : x < n
                  · have t3 : decide ((x : Int) < (n : Int)) = true := decide_eq_true (by omega)
                    have t4 : (x : Int) < (n : Int) := by omega
                    have c5 : w9.cell? ⟨tb, 5, none⟩ = some (.slice (some ⟨sb, 0, none⟩) M M) := HBT6.out.box.cell (i := 5) rfl
                    have s1 := blkIV HBT6.out.s (i := x) (by rw [HBT6.out.sl]; exact hxm)
                    have f1 : w9.frozen? ⟨sb, x, none⟩ = false := HBT6.out.s.free x
                    have HB9 : Hid (BdT (w9.setCell ⟨sb, x, none⟩ (.int .i64 1)) ⟨tb, lb, rb2, pb, hb, sb, lb⟩ n M (tI n M (x + 1))) := by
                      have := HBT6.out.setS x 1
                      rw [Nat.min_eq_left (by omega)] at this
                      simp only [oneI_step hxm] at this
                      unfold tI
                      rw [Nat.min_eq_left (show x + 1 ≤ n by omega)]
                      exact this
                    have HM9 : Hid (Mod (BB.mem ⟨tb, lb, rb2, pb, hb, sb, lb⟩) W (w9.setCell ⟨sb, x, none⟩ (.int .i64 1))) := HM6.out.setAt (.inr (.inr (.inr (.inr (.inr (.inl rfl))))))
                    generalize gi _ x = o5 at s1
                    clear HBT6 HM6 HBR6
                    go_wp2_with fail
                    go_roundw
                    case rel => exact ⟨x + 1, by omega, by go_num, HB9.out, HM9.out⟩
                    case measure => simp [intOf]; omega
                  · have t3 : decide ((x : Int) < (n : Int)) = false := decide_eq_false (by omega)
                    have HB9 : Hid (BdT w9 ⟨tb, lb, rb2, pb, hb, sb, lb⟩ n M (tI n M (x + 1))) := by
                      have := HBT6.out
                      unfold tI
                      rw [Nat.min_eq_right (by omega)] at this ⊢
                      exact this
                    clear HBT6 HBR6
                    go_wp2_with fail
                    go_roundw
                    case rel => exact ⟨x + 1, by omega, by go_num, HB9.out, HM6.out⟩
                    case measure => simp [intOf]; omega
              · obtain rfl : x = M := by omega
                have HT0 : Hid (treeTo n J 0 = some (tI n x x)) := by
                  show some _ = some _
                  rw [← HMM.out, tI_end, HN.out]
                have hEv := HE.out.below HBR.out
                have e1 := hEv.bx.cell (i := 0) rfl
                have e4 := hEv.c4
                obtain ⟨wo, HWO⟩ : ∃ wo : World, Hid (wo = wr) := ⟨_, rfl⟩
                clear hEv HB8 hxm
                go_wp2_with fail
                clear e1 e4
                go_loopw [115] (fun s wr => ∃ (q : Nat) (t : Tr), q ≤ k ∧ s = .int .i64 (q : Int) ∧ treeTo n J q = some t ∧ BdT wr ⟨tb, lb, rb2, pb, hb, sb, lb⟩ n x t ∧ Mod (BB.mem ⟨tb, lb, rb2, pb, hb, sb, lb⟩) W wr) (fun s _ => k - (intOf s).toNat)
                case atStart => exact ⟨0, _, Nat.zero_le _, rfl, HT0.out, HBT.out, HM.out⟩
                case round =>
                  obtain ⟨q, t, hq, rfl, htt, hbt, hm3⟩ := hrel
                  clear HBT HM HT0 HBR HWO
                  have HBT := Lib.hid hbt
                  have HM := Lib.hid hm3
                  have HTT := Lib.hid htt
                  clear hbt hm3 htt
                  have HB8 : Hid (Below w7.heap.size w7 wr) := bel_mod HW8.out HM.out HMW.out
                  have HBR := Lib.hid (bel_then HB7.out HB8.out)
                  have HER := Lib.hid (HE.out.below HBR.out)
                  by_cases hqk : q < k
                  · have hJq : JA J q ∈ J := by
                      unfold JA
                      rw [List.getD_eq_getElem?_getD, List.getElem?_eq_getElem (by rw [HN.out]; exact hqk)]
                      exact List.getElem_mem _
                    have HCL : Hid (CdOk k (JA J q).l) := HJL.out _ hJq
                    have HCR : Hid (CdOk k (JA J q).r) := HJR.out _ hJq
                    obtain ⟨cj0, cj1, cj2⟩ := HER.out.jr.c q hqk
                    have ha := HAO.out (by omega)
                    subst ha
                    have hrk : rkJ J q < k := by have := rk_lt (J := J) (i := q) (by rw [HN.out]; exact hqk); rw [HN.out] at this; exact this
                    have HPL : Hid (plF n J k q = n + rkJ J q) := by show _ = _; unfold plF; rw [if_pos hrk]
                    obtain ⟨X, HX⟩ : ∃ X, Hid (n + rkJ J q = X) := ⟨_, rfl⟩
                    have hX : X < x := by have := HX.out; have := HMM.out; omega
                    obtain ⟨LF, HLF⟩ : ∃ z, Hid (nd n J (JA J q).l = z) := ⟨_, rfl⟩
                    obtain ⟨RG, HRG⟩ : ∃ z, Hid (nd n J (JA J q).r = z) := ⟨_, rfl⟩
                    obtain ⟨jh, HJH⟩ : ∃ z, Hid ((JA J q).h = z) := ⟨_, rfl⟩
                    have HPUT : Hid (putJ n J t q = ⟨t.lv, t.left.set X LF, t.right.set X RG, (t.par.set LF X).set RG X, t.hgt.set X jh, t.siz.set X (IntKind.i64.wrap (gi t.siz LF + gi t.siz RG))⟩) := by
                      show _ = _
                      unfold putJ
                      rw [HLF.out, HRG.out, HX.out, HJH.out]
                    have HBAD : Hid (x ≤ max LF RG → treeTo n J k = none) := fun hh => by
                      have := treeTo_stop HTT.out (by rw [HLF.out, HRG.out, HN.out, HMM.out]; exact hh) (by rw [HN.out]; exact hqk)
                      rw [HN.out] at this
                      exact this
                    have HNXT : Hid (¬ x ≤ max LF RG → treeTo n J (q + 1) = some (putJ n J t q)) := fun hh => treeTo_next HTT.out (by rw [HLF.out, HRG.out, HN.out, HMM.out]; exact hh)
                    have HG9 := Lib.hid (HG8.out.mod HM.out (fun e => by have := HMW.out _ e; have := HGL.out.1; omega))
                    have HP9 := Lib.hid (HP8.out.mod HM.out (fun e => by have := HMW.out _ e; have := HGL.out.2; omega))
                    obtain ⟨jl, HJLv⟩ : ∃ z, Hid ((JA J q).l = z) := ⟨_, rfl⟩
                    obtain ⟨jr, HJRv⟩ : ∃ z, Hid ((JA J q).r = z) := ⟨_, rfl⟩
                    rw [HJLv.out] at cj0 HCL HLF
                    rw [HJRv.out] at cj1 HCR HRG
                    rw [HJH.out] at cj2
                    obtain ⟨jb, HJB⟩ : ∃ z, Hid (wr.heap.size = z) := ⟨_, rfl⟩
                    obtain ⟨wa, HWA2⟩ : ∃ z, Hid (wr.alloc (.cells #[.int .i64 jl, .int .i64 jr, .int .i64 jh] 134) = z) := ⟨_, rfl⟩
                    have hba : Below wr.heap.size wr wa := by rw [← HWA2.out]; exact bel_alloc _ _
                    have HJBa : Hid (Blk wa jb 134 [.int .i64 jl, .int .i64 jr, .int .i64 jh]) := by rw [← HWA2.out, ← HJB.out]; exact Blk.new _ _ _
                    have HBTa := Lib.hid (HBT.out.below hba)
                    have HMa : Hid (Mod (BB.mem ⟨tb, lb, rb2, pb, hb, sb, lb⟩) W wa) := by rw [← HWA2.out]; exact HM.out.alloc _
                    have HGa := Lib.hid (HG9.out.below hba HG9.out.lt)
                    have HPa := Lib.hid (HP9.out.below hba HP9.out.lt)
                    have HJBN : Hid (∀ z, BB.mem ⟨tb, lb, rb2, pb, hb, sb, lb⟩ z → z ≠ jb) := by
                      have l0 := HBT.out.box.lt
                      have l1 := HBT.out.l.lt
                      have l2 := HBT.out.r.lt
                      have l3 := HBT.out.p.lt
                      have l4 := HBT.out.h.lt
                      have l5 := HBT.out.s.lt
                      rw [HJB.out] at l0 l1 l2 l3 l4 l5
                      simp only at l0 l1 l2 l3 l4 l5
                      rintro z (e | e | e | e | e | e | e) <;> simp only at e <;> omega
                    have c1 := HER.out.bx.cell (i := 0) rfl
                    have g1 : (q : Int) < (k : Int) := by omega
                    have g2 : (0 : Int) ≤ (q : Int) := by omega
                    clear hba HG9 HP9 HBT HM HB8 HER HBR hJq
                    go_upto_region 27 with fail
                    clear cj0 cj1 cj2 c1
                    rw [HWA2.out]
                    simp only [HJB.out]
                    have j0 := HJBa.out.cell (i := 0) rfl
                    have j1 := HJBa.out.cell (i := 1) rfl
                    have p0 := HPa.out.cell (i := 0) rfl
                    have gq := row_cell HGa.out hqk
                    rw [HPL.out, HX.out] at gq
                    have hl := fun z => tnode_ok (wa.drewN z) pp gb k n J HN.out (by omega) (fun _ => (HPa.out.drewN z).cell (i := 0) rfl) (HGa.out.drewN z) jl HCL.out
                    have hr := fun z => tnode_ok (wa.drewN z) pp gb k n J HN.out (by omega) (fun _ => (HPa.out.drewN z).cell (i := 0) rfl) (HGa.out.drewN z) jr HCR.out
                    rw [HLF.out] at hl
                    rw [HRG.out] at hr
                    have HL := Lib.hid hl
                    have HR := Lib.hid hr
                    clear hl hr
                    have eg := callFn2
                    go_quiet ((go_at_fn 80; first | (with_reducible show Calls _ _ #[Value.int IntKind.i64 jl, _] _ _; exact Calls.quiet_of (HL.out _)) | exact Calls.quiet_of (HR.out _)))
                    have HJB5 : Hid (Blk (wa.drewN nq) jb 134 [.int .i64 jl, .int .i64 jr, .int .i64 jh]) := HJBa.out.drewN nq
                    have HBT5 := Lib.hid (HBTa.out.drewN nq)
                    have HM5 := Lib.hid (HMa.out.drewN nq)
                    clear eg j0 j1 p0 gq HL HR HJBa HBTa HMa HGa HPa
                    generalize wa.drewN nq = w5' at *
                    have hmax := run_maxI (LF : Int) (RG : Int)
                    have hmx : max (LF : Int) (RG : Int) = ((max LF RG : Nat) : Int) := by omega
                    rw [hmx] at hmax
                    clear hmx
                    by_cases hbad : x ≤ max LF RG
                    · have HNONE := Lib.hid (HBAD.out hbad)
                      have t1 : decide ((x : Int) ≤ ((max LF RG : Nat) : Int)) = true := decide_eq_true (by omega)
                      have t1' : decide (x ≤ max LF RG) = true := decide_eq_true hbad
                      have t1'' : x ≤ max LF RG := hbad
                      have HB9 : Hid (Below w7.heap.size w7 w5') := bel_mod HW8.out HM5.out HMW.out
                      have HBR9 := Lib.hid (bel_then HB7.out HB9.out)
                      have HE9 := Lib.hid (HE.out.below HBR9.out)
                      clear HBAD HNXT hbad
                      generalize max LF RG = mx at *
                      go_wp2_with (with_reducible refine wpList_storeBlk rb 27 [.int .i64 0, .slice none 0 0, .slice none 0 0, .slice none 0 0, .slice none 0 0, .slice none 0 0] [.int .i64 0, .slice none 0 0, .slice none 0 0, .slice none 0 0, .slice none 0 0, .slice none 0 0] rfl rfl HE9.out.rb rfl (by kernel_rfl) (by decide) ?_)
                      intro w2' hb2 hm2'
                      have HF : Hid (Below w.heap.size w w2') := bel_mod (bel_then HBA.out HBR9.out) hm2' (fun x e => by have h1 := HRB.out; have h2 := HBB.out; omega)
                      have d0 := hb2.cell (i := 0) rfl
                      have d1 := hb2.cell (i := 1) rfl
                      have d2 := hb2.cell (i := 2) rfl
                      have d3 := hb2.cell (i := 3) rfl
                      have d4 := hb2.cell (i := 4) rfl
                      have d5 := hb2.cell (i := 5) rfl
                      clear hb2 hm2'
                      go_wp2_with fail
                      refine bodyPost_ret (v := .tuple #[.agg #[.int .i64 0, .slice none 0 0, .slice none 0 0, .slice none 0 0, .slice none 0 0, .slice none 0 0], .bool false]) (by simp [results, Tryz.results47, go_sem, d0, d1, d2, d3, d4, d5]) rfl ?_
                      exact HPOST.out _ _ (fun _ => rfl) (fun t ht => by rw [HNONE.out] at ht; cases ht) HF.out
                    · have HGO := Lib.hid (HNXT.out hbad)
                      have t1 : decide ((x : Int) ≤ ((max LF RG : Nat) : Int)) = false := decide_eq_false (by omega)
                      have t1' : decide (x ≤ max LF RG) = false := decide_eq_false hbad
                      have hlfx : LF < x := by omega
                      have hrgx : RG < x := by omega
                      clear HBAD HNXT hbad
                      generalize max LF RG = mx at *
                      -- Left, Right, Height
                      have c1 : w5'.cell? ⟨tb, 1, none⟩ = some (.slice (some ⟨lb, 0, none⟩) x x) := HBT5.out.box.cell (i := 1) rfl
                      have c2 : w5'.cell? ⟨tb, 2, none⟩ = some (.slice (some ⟨rb2, 0, none⟩) x x) := HBT5.out.box.cell (i := 2) rfl
                      have c4 : w5'.cell? ⟨tb, 4, none⟩ = some (.slice (some ⟨hb, 0, none⟩) x x) := HBT5.out.box.cell (i := 4) rfl
                      have cj : w5'.cell? ⟨jb, 2, none⟩ = some (.int .i64 jh) := HJB5.out.cell (i := 2) rfl
                      have l1 : w5'.cell? ⟨lb, X, none⟩ = some (.int .i64 (gi t.left X)) := blkIV HBT5.out.l (by rw [HBT5.out.ll]; exact hX)
                      have r1 : w5'.cell? ⟨rb2, X, none⟩ = some (.int .i64 (gi t.right X)) := blkIV HBT5.out.r (by rw [HBT5.out.rl]; exact hX)
                      have h1 : w5'.cell? ⟨hb, X, none⟩ = some (.int .i64 (gi t.hgt X)) := blkIV HBT5.out.h (by rw [HBT5.out.hl]; exact hX)
                      have f1 : w5'.frozen? ⟨lb, X, none⟩ = false := HBT5.out.l.free X
                      have f2 : w5'.frozen? ⟨rb2, X, none⟩ = false := HBT5.out.r.free X
                      have f3 : w5'.frozen? ⟨hb, X, none⟩ = false := HBT5.out.h.free X
                      have C1 := Lib.hid c1
                      have C2 := Lib.hid c2
                      have C4 := Lib.hid c4
                      have CJ := Lib.hid cj
                      have n1 : rb2 ≠ lb := fun e => HFV.out.2.1.1 e.symm
                      have n2 : hb ≠ lb := fun e => HFV.out.2.1.2.2.1 e.symm
                      have n3 : hb ≠ rb2 := fun e => HFV.out.2.2.1.2.1 e.symm
                      have NF : Hid (¬ (tb = lb ∨ tb = rb2 ∨ tb = hb)) := fun e => e.elim HFV.out.1.1 fun e => e.elim HFV.out.1.2.1 HFV.out.1.2.2.2.1
                      have NJ : Hid (¬ (jb = lb ∨ jb = rb2 ∨ jb = hb)) := fun e => e.elim (fun e => HJBN.out lb (.inr (.inl rfl)) e.symm) fun e => e.elim (fun e => HJBN.out rb2 (.inr (.inr (.inl rfl))) e.symm) (fun e => HJBN.out hb (.inr (.inr (.inr (.inr (.inl rfl))))) e.symm)
                      have t9 : (X : Int) < (x : Int) := by omega
                      have t10 : (0 : Int) ≤ (X : Int) := by omega
                      generalize gi t.left X = o1 at *
                      generalize gi t.right X = o2 at *
                      generalize gi t.hgt X = o3 at *
                      go_wp2_with fail
                      go_cut [] (fun wx => wx = (((w5'.setCell ⟨lb, X, none⟩ (.int .i64 (LF : Int))).setCell ⟨rb2, X, none⟩ (.int .i64 (RG : Int))).setCell ⟨hb, X, none⟩ (.int .i64 jh)).drew)
                      case first =>
                        go_region_held3 (fun w' => w'.cell? ⟨tb, 1, none⟩ = some (.slice (some ⟨lb, 0, none⟩) x x) ∧ w'.cell? ⟨tb, 2, none⟩ = some (.slice (some ⟨rb2, 0, none⟩) x x) ∧ w'.cell? ⟨tb, 4, none⟩ = some (.slice (some ⟨hb, 0, none⟩) x x) ∧ w'.cell? ⟨jb, 2, none⟩ = some (.int .i64 jh) ∧ Mod (fun z => z = lb ∨ z = rb2 ∨ z = hb) w5' w')
                          (((try go_split_ands); refine keepC4 C1 C2 C4 CJ NF.out NF.out NF.out NJ.out ?_; first | assumption | (repeat (first | exact Mod.refl _ _ | apply Mod.drew | refine Mod.setAt ?_ (by simp)))))
                          (fail)
                        all_goals
                          go_wp2_with fail
                          go_meet
                          exact rfl
                      case rest =>
                        obtain rfl := hcut
                        have HBT6 := Lib.hid ((((HBT5.out.setL X LF).setR X RG).setH X jh).drew)
                        have HM6 := Lib.hid ((((HM5.out.setAt (b := lb) (i := X) (u := .int .i64 (LF : Int)) (.inr (.inl rfl))).setAt (b := rb2) (i := X) (u := .int .i64 (RG : Int)) (.inr (.inr (.inl rfl)))).setAt (b := hb) (i := X) (u := .int .i64 jh) (.inr (.inr (.inr (.inr (.inl rfl)))))).drew)
                        clear HBT5 HM5 HJB5 c1 c2 c4 cj l1 r1 h1 f1 f2 f3 C1 C2 C4 CJ NF NJ n1 n2 n3 HJBN
                        generalize (((w5'.setCell ⟨lb, X, none⟩ (.int .i64 (LF : Int))).setCell ⟨rb2, X, none⟩ (.int .i64 (RG : Int))).setCell ⟨hb, X, none⟩ (.int .i64 jh)).drew = w6' at *
                        -- Parent
                        have c3 : w6'.cell? ⟨tb, 3, none⟩ = some (.slice (some ⟨pb, 0, none⟩) x x) := HBT6.out.box.cell (i := 3) rfl
                        have p1 : w6'.cell? ⟨pb, LF, none⟩ = some (.int .i64 (gi t.par LF)) := blkIV HBT6.out.p (by rw [HBT6.out.pl]; exact hlfx)
                        have p2 : w6'.cell? ⟨pb, RG, none⟩ = some (.int .i64 (gi t.par RG)) := blkIV HBT6.out.p (by rw [HBT6.out.pl]; exact hrgx)
                        have f1 : w6'.frozen? ⟨pb, LF, none⟩ = false := HBT6.out.p.free LF
                        have f2 : w6'.frozen? ⟨pb, RG, none⟩ = false := HBT6.out.p.free RG
                        have C3 := Lib.hid c3
                        have NF : Hid (¬ (tb = pb)) := HFV.out.1.2.2.1
                        have t11 : (LF : Int) < (x : Int) := by omega
                        have t12 : (0 : Int) ≤ (LF : Int) := by omega
                        have t13 : (RG : Int) < (x : Int) := by omega
                        have t14 : (0 : Int) ≤ (RG : Int) := by omega
                        generalize gi t.par LF = o3 at *
                        generalize gi t.par RG = o4 at *
                        go_wp2_with fail
                        go_cut [] (fun wx => wx = ((w6'.setCell ⟨pb, LF, none⟩ (.int .i64 (X : Int))).setCell ⟨pb, RG, none⟩ (.int .i64 (X : Int))).drew)
                        case first =>
                          by_cases hlr : RG = LF
                          · subst hlr
                            go_region_held3 (fun w' => w'.cell? ⟨tb, 3, none⟩ = some (.slice (some ⟨pb, 0, none⟩) x x) ∧ Mod (fun z => z = pb) w6' w')
                              (((try go_split_ands); refine keepC1 C3 NF.out ?_; first | assumption | (repeat (first | exact Mod.refl _ _ | apply Mod.drew | refine Mod.setAt ?_ (by simp)))))
                              (fail)
                            all_goals
                              go_wp2_with fail
                              go_meet
                              exact rfl
                          · have n1 : RG ≠ LF := hlr
                            go_region_held3 (fun w' => w'.cell? ⟨tb, 3, none⟩ = some (.slice (some ⟨pb, 0, none⟩) x x) ∧ Mod (fun z => z = pb) w6' w')
                              (((try go_split_ands); refine keepC1 C3 NF.out ?_; first | assumption | (repeat (first | exact Mod.refl _ _ | apply Mod.drew | refine Mod.setAt ?_ (by simp)))))
                              (fail)
                            all_goals
                              go_wp2_with fail
                              go_meet
                              exact rfl
                        case rest =>
                          obtain rfl := hcut
                          have HBT7 := Lib.hid (((HBT6.out.setP LF X).setP RG X).drew)
                          have HM7 := Lib.hid (((HM6.out.setAt (b := pb) (i := LF) (u := .int .i64 (X : Int)) (.inr (.inr (.inr (.inl rfl))))).setAt (b := pb) (i := RG) (u := .int .i64 (X : Int)) (.inr (.inr (.inr (.inl rfl))))).drew)
                          clear HBT6 HM6 c3 p1 p2 f1 f2 C3 NF
                          generalize ((w6'.setCell ⟨pb, LF, none⟩ (.int .i64 (X : Int))).setCell ⟨pb, RG, none⟩ (.int .i64 (X : Int))).drew = w9 at *
                          -- Size
                          have c5 : w9.cell? ⟨tb, 5, none⟩ = some (.slice (some ⟨sb, 0, none⟩) x x) := HBT7.out.box.cell (i := 5) rfl
                          have s1x : w9.cell? ⟨sb, LF, none⟩ = some (.int .i64 (gi t.siz LF)) := blkIV HBT7.out.s (by rw [HBT7.out.sl]; exact hlfx)
                          have s2x : w9.cell? ⟨sb, RG, none⟩ = some (.int .i64 (gi t.siz RG)) := blkIV HBT7.out.s (by rw [HBT7.out.sl]; exact hrgx)
                          have s3x : w9.cell? ⟨sb, X, none⟩ = some (.int .i64 (gi t.siz X)) := blkIV HBT7.out.s (by rw [HBT7.out.sl]; exact hX)
                          have f1 : w9.frozen? ⟨sb, X, none⟩ = false := HBT7.out.s.free X
                          obtain ⟨sw, hsw⟩ : ∃ sw, IntKind.i64.wrap (gi t.siz LF + gi t.siz RG) = sw := ⟨_, rfl⟩
                          have HSW := Lib.hid hsw
                          obtain ⟨z1, hz1⟩ : ∃ z, gi t.siz LF = z := ⟨_, rfl⟩
                          obtain ⟨z2, hz2⟩ : ∃ z, gi t.siz RG = z := ⟨_, rfl⟩
                          rw [hz1] at s1x hsw
                          rw [hz2] at s2x hsw
                          clear hz1 hz2
                          generalize gi t.siz X = z3 at *
                          go_wp2_with fail
                          refine region_tailD 14 (by kernel_rfl) (by kernel_rfl) ?_
                          intro w10 hw10
                          replace c5 := hw10.cell c5
                          replace s1x := hw10.cell s1x
                          replace s2x := hw10.cell s2x
                          replace s3x := hw10.cell s3x
                          replace f1 := hw10.frozen f1
                          have HBT10 := Lib.hid ((HBT7.out.mod (hw10.mod (Mod.refl (fun _ => False) w9)) id id id id id id).setS X sw)
                          have HM10 := Lib.hid ((hw10.mod HM7.out).setAt (b := sb) (i := X) (u := .int .i64 sw) (.inr (.inr (.inr (.inr (.inr (.inl rfl)))))))
                          clear hw10 HBT7 HM7
                          simp only [List.take_succ_cons, List.take_zero, List.drop_succ_cons, List.drop_zero]
                          repeat still_step
                          refine wpStill_nil ?_
                          have HPE : Hid (putJ n J t q = ⟨t.lv, t.left.set X LF, t.right.set X RG, (t.par.set LF X).set RG X, t.hgt.set X jh, t.siz.set X sw⟩) := by show _ = _; rw [HPUT.out, HSW.out]
                          go_wp2_with fail
                          go_roundw
                          case rel => exact ⟨q + 1, putJ n J t q, by omega, by go_num, HGO.out, by rw [HPE.out]; exact HBT10.out, HM10.out⟩
                          case measure => simp [intOf]; omega
                  · obtain rfl : q = k := by omega
                    have d0 : wr.cell? ⟨tb, 0, none⟩ = some (.int .i64 (n : Int)) := HBT.out.box.cell (i := 0) rfl
                    have d1 : wr.cell? ⟨tb, 1, none⟩ = some (.slice (some ⟨lb, 0, none⟩) x x) := HBT.out.box.cell (i := 1) rfl
                    have d2 : wr.cell? ⟨tb, 2, none⟩ = some (.slice (some ⟨rb2, 0, none⟩) x x) := HBT.out.box.cell (i := 2) rfl
                    have d3 : wr.cell? ⟨tb, 3, none⟩ = some (.slice (some ⟨pb, 0, none⟩) x x) := HBT.out.box.cell (i := 3) rfl
                    have d4 : wr.cell? ⟨tb, 4, none⟩ = some (.slice (some ⟨hb, 0, none⟩) x x) := HBT.out.box.cell (i := 4) rfl
                    have d5 : wr.cell? ⟨tb, 5, none⟩ = some (.slice (some ⟨sb, 0, none⟩) x x) := HBT.out.box.cell (i := 5) rfl
                    have HXN : Hid (∀ z, BB.mem ⟨tb, lb, rb2, pb, hb, sb, lb⟩ z → z ≠ rb) := fun z hz e => by have := HMW.out z hz; have := HS7.out; have h1 := HRB.out; have h2 := HSZ.out; omega
                    have HRBK := Lib.hid HER.out.rb
                    clear HER hqk
                    go_wp2_with (with_reducible refine wpList_storeBlk rb 27 [.int .i64 0, .slice none 0 0, .slice none 0 0, .slice none 0 0, .slice none 0 0, .slice none 0 0] [.int .i64 (n : Int), .slice (some ⟨lb, 0, none⟩) x x, .slice (some ⟨rb2, 0, none⟩) x x, .slice (some ⟨pb, 0, none⟩) x x, .slice (some ⟨hb, 0, none⟩) x x, .slice (some ⟨sb, 0, none⟩) x x] rfl rfl HRBK.out rfl (by kernel_rfl) (by simp [Value.oneCell']) ?_)
                    intro w5' hb5 hm5
                    have HBT5 := Lib.hid (HBT.out.mod hm5 (HXN.out _ (.inl rfl)) (HXN.out _ (.inr (.inl rfl))) (HXN.out _ (.inr (.inr (.inl rfl)))) (HXN.out _ (.inr (.inr (.inr (.inl rfl))))) (HXN.out _ (.inr (.inr (.inr (.inr (.inl rfl)))))) (HXN.out _ (.inr (.inr (.inr (.inr (.inr (.inl rfl))))))))
                    have HF : Hid (Below w.heap.size w w5') := bel_mod (bel_then HBA.out HBR.out) hm5 (fun x e => by have h1 := HRB.out; have h2 := HBB.out; omega)
                    clear d0 d1 d2 d3 d4 d5
                    have d0 := hb5.cell (i := 0) rfl
                    have d1 := hb5.cell (i := 1) rfl
                    have d2 := hb5.cell (i := 2) rfl
                    have d3 := hb5.cell (i := 3) rfl
                    have d4 := hb5.cell (i := 4) rfl
                    have d5 := hb5.cell (i := 5) rfl
                    clear hb5 hm5
                    go_wp2_with fail
                    refine bodyPost_ret (v := .tuple #[.agg #[.int .i64 (n : Int), .slice (some ⟨lb, 0, none⟩) x x, .slice (some ⟨rb2, 0, none⟩) x x, .slice (some ⟨pb, 0, none⟩) x x, .slice (some ⟨hb, 0, none⟩) x x, .slice (some ⟨sb, 0, none⟩) x x], .bool true]) (by simp [results, Tryz.results47, go_sem, d0, d1, d2, d3, d4, d5]) rfl ?_
                    refine HPOST.out _ _ (fun hh => by rw [HTT.out] at hh; cases hh) (fun t2 ht2 => ?_) HF.out
                    rw [HTT.out] at ht2
                    injection ht2 with ht2
                    subst ht2
                    rw [HMM.out]
                    exact ⟨⟨tb, lb, rb2, pb, hb, sb, lb⟩, rfl, HBT5.out, fun z hz => by have := HMW.out z hz; have := HS7.out; have h2 := HSZ.out; have h3 := HBB.out; omega⟩

end Go.Proofs.YthacjealoomioaaGreatDoor
