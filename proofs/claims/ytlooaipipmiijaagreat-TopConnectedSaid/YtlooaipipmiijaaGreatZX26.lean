/- Several texts in one: LcN, LcO. -/
import Derived.Test.YtlooaipipmiijaaGreatZX25
namespace Go.Proofs.YtlooaipipmiijaaGreat
set_option linter.unusedVariables false
set_option linter.unusedSimpArgs false
open Go.RowKit
def sideR (o : Option Bool) : Value := match o with | none => .tuple #[.int .i64 0, .bool false] | some s => .tuple #[.int .i64 (if s then 1 else 0), .bool true]
set_option maxRecDepth 100000 in
theorem Tryz.idx0 (a b : Int) : ∀ w, (Instr.index 169 (.agg #[Value.int IntKind.i64 a, Value.int IntKind.i64 b]) (.int .i64 0)).run Tryz.prog w = .ok (.int .i64 a) w := fun _ => rfl
set_option maxRecDepth 100000 in
theorem Tryz.idx1 (a b : Int) : ∀ w, (Instr.index 169 (.agg #[Value.int IntKind.i64 a, Value.int IntKind.i64 b]) (.int .i64 1)).run Tryz.prog w = .ok (.int .i64 b) w := fun _ => rfl
set_option maxHeartbeats 4000000 in
set_option maxRecDepth 100000 in
theorem lc_side (w : World) (p g n : Nat) (N : NS) (ed : Int) (h : LObj w p g n N ed) (i : Nat) (hi : i ≤ n) :
    Calls Tryz.prog 143 #[.pointer (some ⟨p, 0, none⟩), .int .i64 (i : Int)] w (RetB (sideR (sideN N i)) w) := by
  obtain ⟨cap1, c1⟩ := h.c1
  have hn := h.nb
  have q1 := h.at_ hi 2 (by omega)
  replace q1 : w.cell? ⟨g, i * 9 + 2, none⟩ = some (.int .i64 ((N i).up : Int)) := q1
  obtain ⟨u, HU⟩ : ∃ x, Hid ((N i).up = x) := ⟨_, rfl⟩
  rw [HU.out] at q1
  have hu : u ≤ n := by rw [← HU.out]; exact (h.bd i hi).2.2.1
  have q2 := h.at_ hu 0 (by omega)
  have q3 := h.at_ hu 1 (by omega)
  rw [Nat.add_zero] at q2
  replace q2 : w.cell? ⟨g, u * 9, none⟩ = some (.int .i64 ((N u).k0 : Int)) := q2
  replace q3 : w.cell? ⟨g, u * 9 + 1, none⟩ = some (.int .i64 ((N u).k1 : Int)) := q3
  obtain ⟨a, HA⟩ : ∃ x, Hid ((N u).k0 = x) := ⟨_, rfl⟩
  obtain ⟨b, HB⟩ : ∃ x, Hid ((N u).k1 = x) := ⟨_, rfl⟩
  have HS : Hid (sideN N i = if u = 0 then none else if a = i then some false else if b = i then some true else none) := by show _ = _; unfold sideN; rw [HU.out, HA.out, HB.out]
  rw [HA.out] at q2
  rw [HB.out] at q3
  have g1 : (i : Int) < (n + 1 : Nat) := by omega
  have g2 : (0 : Int) ≤ (i : Int) := by omega
  have g3 : (u : Int) < (n + 1 : Nat) := by omega
  have g4 : (0 : Int) ≤ (u : Int) := by omega
  clear h
  go_enter Tryz.func143, Tryz.ntmps143
  by_cases h0 : u = 0
  · subst h0
    have HR : Hid (sideR (sideN N i) = .tuple #[.int .i64 0, .bool false]) := by show _ = _; rw [HS.out, if_pos rfl]; rfl
    clear HS q2 q3
    go_wp2_with fail
    go_ret2
    exact ⟨by rw [HR.out]; rfl, Below.refl _ _⟩
  · have t0 : ((u : Int) == 0) = false := by simpa using h0
    have t0' : decide (u = 0) = false := decide_eq_false h0
    have t0'' : (u == 0) = false := by simpa using h0
    go_wp2_with fail
    go_loop [27] (fun s => ∃ k : Nat, k ≤ 2 ∧ s = .int .i64 (k : Int) ∧ (1 ≤ k → a ≠ i) ∧ (2 ≤ k → b ≠ i)) (fun s => 2 - (intOf s).toNat)
    case atStart => exact ⟨0, by omega, rfl, fun h => absurd h (by omega), fun h => absurd h (by omega)⟩
    case round =>
      obtain ⟨k, hk, rfl, h1, h2⟩ := hrel
      have hk3 : k = 0 ∨ k = 1 ∨ k = 2 := by omega
      have x0 := Tryz.idx0 (a : Int) (b : Int)
      have x1 := Tryz.idx1 (a : Int) (b : Int)
      rcases hk3 with rfl | rfl | rfl
      · by_cases ha : a = i
        · subst ha
          have HR : Hid (sideR (sideN N a) = .tuple #[.int .i64 0, .bool true]) := by show _ = _; rw [HS.out, if_neg h0, if_pos rfl]; rfl
          clear HS h1 h2
          go_wp2_with fail
          go_ret2
          exact ⟨by rw [HR.out]; rfl, Below.refl _ _⟩
        · have t1 : ((a : Int) == (i : Int)) = false := by simp; omega
          have t1' : decide (a = i) = false := decide_eq_false ha
          have t1'' : (a == i) = false := by simpa using ha
          have HA1 := Lib.hid ha
          clear h1 h2 ha
          go_wp2_with fail
          go_round
          case rel => exact ⟨1, by omega, rfl, fun _ => HA1.out, fun h => absurd h (by omega)⟩
          case measure => simp [intOf]
      · have ha := h1 (by omega)
        have HA1 := Lib.hid ha
        by_cases hb : b = i
        · subst hb
          have HR : Hid (sideR (sideN N b) = .tuple #[.int .i64 1, .bool true]) := by show _ = _; rw [HS.out, if_neg h0, if_neg ha, if_pos rfl]; rfl
          clear HS h1 h2 ha
          go_wp2_with fail
          go_ret2
          exact ⟨by rw [HR.out]; rfl, Below.refl _ _⟩
        · have t1 : ((b : Int) == (i : Int)) = false := by simp; omega
          have t1' : decide (b = i) = false := decide_eq_false hb
          have t1'' : (b == i) = false := by simpa using hb
          have HB1 := Lib.hid hb
          clear h1 h2 ha hb
          go_wp2_with fail
          go_round
          case rel => exact ⟨2, by omega, rfl, fun _ => HA1.out, fun _ => HB1.out⟩
          case measure => simp [intOf]
      · have HR : Hid (sideR (sideN N i) = .tuple #[.int .i64 0, .bool false]) := by show _ = _; rw [HS.out, if_neg h0, if_neg (h1 (by omega)), if_neg (h2 (by omega))]; rfl
        clear HS h1 h2
        go_wp2_with fail
        go_ret2
        exact ⟨by rw [HR.out]; rfl, Below.refl _ _⟩
set_option maxHeartbeats 4000000 in
set_option maxRecDepth 100000 in
theorem lc_hang0 (w : World) (p g n : Nat) (N : NS) (ed : Int) (h : LObj w p g n N ed) (i k : Nat) (hi : i ≤ n) (hk : k ≤ n) :
    Calls Tryz.prog 159 #[.pointer (some ⟨p, 0, none⟩), .int .i64 (i : Int), .int .i64 0, .int .i64 (k : Int)] w (LPost w p g n (hangN N i false k) ed (.tuple #[])) := by
  obtain ⟨cap1, c1⟩ := h.c1
  have hn := h.nb
  have q1 : w.cell? ⟨g, i * 9, none⟩ = some (.int .i64 ((N i).k0 : Int)) := h.at_ hi 0 (by omega)
  have f1 : w.frozen? ⟨g, i * 9, none⟩ = false := h.fr _
  have HO1 : Hid (LObj (w.setCell ⟨g, i * 9, none⟩ (.int .i64 (k : Int))) p g n (updN N i ((N i).setK false k)) ed) := by
    refine h.set (j := 0) (v := (N i).setK false k) hi (by omega) (setK_bd (h.bd i hi) hk) ?_ rfl
    intro r hr hne
    match r, hr, hne with
    | 1, _, _ => rfl
    | 2, _, _ => rfl
    | 3, _, _ => rfl
    | 4, _, _ => rfl
    | 5, _, _ => rfl
    | 6, _, _ => rfl
    | 7, _, _ => rfl
    | 8, _, _ => rfl
  have HM1 : Hid (Mod (fun x => x = g) w (w.setCell ⟨g, i * 9, none⟩ (.int .i64 (k : Int)))) := (Mod.refl (fun x => x = g) w).setCell ⟨g, i * 9, none⟩ (fun _ => rfl) _
  obtain ⟨cap2, c1'⟩ := HO1.out.c1
  obtain ⟨u2, q2⟩ : ∃ u2 : Nat, (w.setCell ⟨g, i * 9, none⟩ (.int .i64 (k : Int))).cell? ⟨g, k * 9 + 2, none⟩ = some (.int .i64 (u2 : Int)) := ⟨_, HO1.out.at_ hk 2 (by omega)⟩
  have f2 : (w.setCell ⟨g, i * 9, none⟩ (.int .i64 (k : Int))).frozen? ⟨g, k * 9 + 2, none⟩ = false := HO1.out.fr _
  have g1 : (i : Int) < (n + 1 : Nat) := by omega
  have g2 : (0 : Int) ≤ (i : Int) := by omega
  have g3 : (k : Int) < (n + 1 : Nat) := by omega
  have g4 : (0 : Int) ≤ (k : Int) := by omega
  generalize (N i).k0 = x1 at q1
  clear h
  go_enter Tryz.func159, Tryz.ntmps159
  by_cases h0 : k = 0
  · have HN : Hid (hangN N i false k = updN N i ((N i).setK false k)) := if_pos h0
    subst h0
    clear c1' q2 f2
    go_wp2_with fail
    go_end0
    exact ⟨rfl, by rw [HN.out]; exact HO1.out, HM1.out⟩
  · have t0 : ((k : Int) == 0) = false := by simpa using h0
    have t0' : (k == 0) = false := by simpa using h0
    have t0'' : decide (k = 0) = false := decide_eq_false h0
    have HN : Hid (hangN N i false k = updN (updN N i ((N i).setK false k)) k { updN N i ((N i).setK false k) k with up := i }) := if_neg h0
    have HO2 : Hid (LObj ((w.setCell ⟨g, i * 9, none⟩ (.int .i64 (k : Int))).setCell ⟨g, k * 9 + 2, none⟩ (.int .i64 (i : Int))) p g n (hangN N i false k) ed) := by
      show LObj _ _ _ _ _ _
      rw [HN.out]
      obtain ⟨b1, b2, b3, b4⟩ := HO1.out.bd k hk
      refine HO1.out.set (j := 2) (v := { updN N i ((N i).setK false k) k with up := i }) hk (by omega) ⟨b1, b2, hi, b4⟩ ?_ rfl
      intro r hr hne
      match r, hr, hne with
      | 0, _, _ => rfl
      | 1, _, _ => rfl
      | 3, _, _ => rfl
      | 4, _, _ => rfl
      | 5, _, _ => rfl
      | 6, _, _ => rfl
      | 7, _, _ => rfl
      | 8, _, _ => rfl
    have HM2 : Hid (Mod (fun x => x = g) w ((w.setCell ⟨g, i * 9, none⟩ (.int .i64 (k : Int))).setCell ⟨g, k * 9 + 2, none⟩ (.int .i64 (i : Int)))) := HM1.out.setCell ⟨g, k * 9 + 2, none⟩ (fun _ => rfl) _
    clear h0 HO1 HM1
    go_upto_region 1 with fail
    clear q1 f1 c1
    generalize w.setCell ⟨g, i * 9, none⟩ (.int .i64 (k : Int)) = w1 at *
    go_wp2_with fail
    go_end0
    exact ⟨rfl, HO2.out, HM2.out⟩
set_option maxHeartbeats 4000000 in
set_option maxRecDepth 100000 in
theorem lc_hang1 (w : World) (p g n : Nat) (N : NS) (ed : Int) (h : LObj w p g n N ed) (i k : Nat) (hi : i ≤ n) (hk : k ≤ n) :
    Calls Tryz.prog 159 #[.pointer (some ⟨p, 0, none⟩), .int .i64 (i : Int), .int .i64 1, .int .i64 (k : Int)] w (LPost w p g n (hangN N i true k) ed (.tuple #[])) := by
  obtain ⟨cap1, c1⟩ := h.c1
  have hn := h.nb
  have q1 : w.cell? ⟨g, i * 9 + 1, none⟩ = some (.int .i64 ((N i).k1 : Int)) := h.at_ hi 1 (by omega)
  have f1 : w.frozen? ⟨g, i * 9 + 1, none⟩ = false := h.fr _
  have HO1 : Hid (LObj (w.setCell ⟨g, i * 9 + 1, none⟩ (.int .i64 (k : Int))) p g n (updN N i ((N i).setK true k)) ed) := by
    refine h.set (j := 1) (v := (N i).setK true k) hi (by omega) (setK_bd (h.bd i hi) hk) ?_ rfl
    intro r hr hne
    match r, hr, hne with
    | 0, _, _ => rfl
    | 2, _, _ => rfl
    | 3, _, _ => rfl
    | 4, _, _ => rfl
    | 5, _, _ => rfl
    | 6, _, _ => rfl
    | 7, _, _ => rfl
    | 8, _, _ => rfl
  have HM1 : Hid (Mod (fun x => x = g) w (w.setCell ⟨g, i * 9 + 1, none⟩ (.int .i64 (k : Int)))) := (Mod.refl (fun x => x = g) w).setCell ⟨g, i * 9 + 1, none⟩ (fun _ => rfl) _
  obtain ⟨cap2, c1'⟩ := HO1.out.c1
  obtain ⟨u2, q2⟩ : ∃ u2 : Nat, (w.setCell ⟨g, i * 9 + 1, none⟩ (.int .i64 (k : Int))).cell? ⟨g, k * 9 + 2, none⟩ = some (.int .i64 (u2 : Int)) := ⟨_, HO1.out.at_ hk 2 (by omega)⟩
  have f2 : (w.setCell ⟨g, i * 9 + 1, none⟩ (.int .i64 (k : Int))).frozen? ⟨g, k * 9 + 2, none⟩ = false := HO1.out.fr _
  have g1 : (i : Int) < (n + 1 : Nat) := by omega
  have g2 : (0 : Int) ≤ (i : Int) := by omega
  have g3 : (k : Int) < (n + 1 : Nat) := by omega
  have g4 : (0 : Int) ≤ (k : Int) := by omega
  generalize (N i).k1 = x1 at q1
  clear h
  go_enter Tryz.func159, Tryz.ntmps159
  by_cases h0 : k = 0
  · have HN : Hid (hangN N i true k = updN N i ((N i).setK true k)) := if_pos h0
    subst h0
    clear c1' q2 f2
    go_wp2_with fail
    go_end0
    exact ⟨rfl, by rw [HN.out]; exact HO1.out, HM1.out⟩
  · have t0 : ((k : Int) == 0) = false := by simpa using h0
    have t0' : (k == 0) = false := by simpa using h0
    have t0'' : decide (k = 0) = false := decide_eq_false h0
    have HN : Hid (hangN N i true k = updN (updN N i ((N i).setK true k)) k { updN N i ((N i).setK true k) k with up := i }) := if_neg h0
    have HO2 : Hid (LObj ((w.setCell ⟨g, i * 9 + 1, none⟩ (.int .i64 (k : Int))).setCell ⟨g, k * 9 + 2, none⟩ (.int .i64 (i : Int))) p g n (hangN N i true k) ed) := by
      show LObj _ _ _ _ _ _
      rw [HN.out]
      obtain ⟨b1, b2, b3, b4⟩ := HO1.out.bd k hk
      refine HO1.out.set (j := 2) (v := { updN N i ((N i).setK true k) k with up := i }) hk (by omega) ⟨b1, b2, hi, b4⟩ ?_ rfl
      intro r hr hne
      match r, hr, hne with
      | 0, _, _ => rfl
      | 1, _, _ => rfl
      | 3, _, _ => rfl
      | 4, _, _ => rfl
      | 5, _, _ => rfl
      | 6, _, _ => rfl
      | 7, _, _ => rfl
      | 8, _, _ => rfl
    have HM2 : Hid (Mod (fun x => x = g) w ((w.setCell ⟨g, i * 9 + 1, none⟩ (.int .i64 (k : Int))).setCell ⟨g, k * 9 + 2, none⟩ (.int .i64 (i : Int)))) := HM1.out.setCell ⟨g, k * 9 + 2, none⟩ (fun _ => rfl) _
    clear h0 HO1 HM1
    go_upto_region 1 with fail
    clear q1 f1 c1
    generalize w.setCell ⟨g, i * 9 + 1, none⟩ (.int .i64 (k : Int)) = w1 at *
    go_wp2_with fail
    go_end0
    exact ⟨rfl, HO2.out, HM2.out⟩
theorem lc_hang (w : World) (p g n : Nat) (N : NS) (ed : Int) (h : LObj w p g n N ed) (i k : Nat) (s : Bool) (si : Int) (hs : si = if s then 1 else 0) (hi : i ≤ n) (hk : k ≤ n) :
    Calls Tryz.prog 159 #[.pointer (some ⟨p, 0, none⟩), .int .i64 (i : Int), .int .i64 si, .int .i64 (k : Int)] w (LPost w p g n (hangN N i s k) ed (.tuple #[])) := by
  subst hs
  cases s
  · exact lc_hang0 w p g n N ed h i k hi hk
  · exact lc_hang1 w p g n N ed h i k hi hk
end Go.Proofs.YtlooaipipmiijaaGreat

namespace Go.Proofs.YtlooaipipmiijaaGreat
set_option linter.unusedVariables false
set_option linter.unusedSimpArgs false
open Go.RowKit
def fr0 (N : NS) (i : Nat) : Nd := { N i with sz := 1, fst := i, tot := w64 (1 + (N i).lt) }
def frK (N : NS) (i : Nat) : Nat → Nd
  | 0 => fr0 N i
  | 1 => addK N (fr0 N i) (N i).k0
  | _ => addK N (addK N (fr0 N i) (N i).k0) (N i).k1
theorem addK_rest (N : NS) (v : Nd) (k : Nat) : (addK N v k).k0 = v.k0 ∧ (addK N v k).k1 = v.k1 ∧ (addK N v k).up = v.up ∧ (addK N v k).fl = v.fl ∧ (addK N v k).key = v.key ∧ (addK N v k).lt = v.lt := by
  unfold addK; split <;> exact ⟨rfl, rfl, rfl, rfl, rfl, rfl⟩
theorem frK_rest (N : NS) (i k : Nat) : (frK N i k).k0 = (N i).k0 ∧ (frK N i k).k1 = (N i).k1 ∧ (frK N i k).up = (N i).up ∧ (frK N i k).key = (N i).key := by
  have a0 := addK_rest N (fr0 N i) (N i).k0
  have a1 := addK_rest N (addK N (fr0 N i) (N i).k0) (N i).k1
  match k with
  | 0 => exact ⟨rfl, rfl, rfl, rfl⟩
  | 1 => exact ⟨a0.1, a0.2.1, a0.2.2.1, a0.2.2.2.2.1⟩
  | k + 2 => exact ⟨a1.1.trans a0.1, a1.2.1.trans a0.2.1, a1.2.2.1.trans a0.2.2.1, a1.2.2.2.2.1.trans a0.2.2.2.2.1⟩
theorem addK_zero (N : NS) (v : Nd) : addK N v 0 = v := if_pos rfl
set_option maxHeartbeats 8000000 in
set_option maxRecDepth 100000 in
theorem lc_refresh (w : World) (p g n : Nat) (N : NS) (ed : Int) (h : LObj w p g n N ed) (i : Nat) (hi : i ≤ n) (hs0 : (N i).k0 ≠ i) (hs1 : (N i).k1 ≠ i) :
    Calls Tryz.prog 119 #[.pointer (some ⟨p, 0, none⟩), .int .i64 (i : Int)] w (LPost w p g n (refN N i) ed (.tuple #[])) := by
  obtain ⟨cap1, c1⟩ := h.c1
  have hn := h.nb
  have HBD := Lib.hid h.bd
  have q5 : w.cell? ⟨g, i * 9 + 5, none⟩ = some (.int .i64 (N i).sz) := h.at_ hi 5 (by omega)
  have q6 : w.cell? ⟨g, i * 9 + 6, none⟩ = some (.int .i64 ((N i).fst : Int)) := h.at_ hi 6 (by omega)
  have q7 : w.cell? ⟨g, i * 9 + 7, none⟩ = some (.int .i64 (N i).lt) := h.at_ hi 7 (by omega)
  have q8 : w.cell? ⟨g, i * 9 + 8, none⟩ = some (.int .i64 (N i).tot) := h.at_ hi 8 (by omega)
  have f5 : w.frozen? ⟨g, i * 9 + 5, none⟩ = false := h.fr _
  have f6 : w.frozen? ⟨g, i * 9 + 6, none⟩ = false := h.fr _
  have f8 : w.frozen? ⟨g, i * 9 + 8, none⟩ = false := h.fr _
  obtain ⟨t, HT⟩ : ∃ t, Hid (IntKind.i64.wrap (1 + (N i).lt) = t) := ⟨_, rfl⟩
  have HO1 : Hid (LObj (((w.setCell ⟨g, i * 9 + 5, none⟩ (.int .i64 1)).setCell ⟨g, i * 9 + 6, none⟩ (.int .i64 (i : Int))).setCell ⟨g, i * 9 + 8, none⟩ (.int .i64 t)) p g n (updN N i (frK N i 0)) ed) := by
    obtain ⟨b0, b1, b2, b3⟩ := HBD.out i hi
    have h1 := h.set (j := 5) (v := { N i with sz := 1 }) hi (by omega) ⟨b0, b1, b2, b3⟩ (fun r hr hne => match r, hr, hne with
      | 0, _, _ => rfl
      | 1, _, _ => rfl
      | 2, _, _ => rfl
      | 3, _, _ => rfl
      | 4, _, _ => rfl
      | 6, _, _ => rfl
      | 7, _, _ => rfl
      | 8, _, _ => rfl) rfl
    have h2 := h1.set (i := i) (j := 6) (v := { N i with sz := 1, fst := i }) hi (by omega) ⟨b0, b1, b2, hi⟩ (by rw [uN_same]; exact fun r hr hne => match r, hr, hne with
      | 0, _, _ => rfl
      | 1, _, _ => rfl
      | 2, _, _ => rfl
      | 3, _, _ => rfl
      | 4, _, _ => rfl
      | 5, _, _ => rfl
      | 7, _, _ => rfl
      | 8, _, _ => rfl) rfl
    have h3 := h2.set (i := i) (j := 8) (v := fr0 N i) hi (by omega) ⟨b0, b1, b2, hi⟩ (by rw [uN_same]; exact fun r hr hne => match r, hr, hne with
      | 0, _, _ => rfl
      | 1, _, _ => rfl
      | 2, _, _ => rfl
      | 3, _, _ => rfl
      | 4, _, _ => rfl
      | 5, _, _ => rfl
      | 6, _, _ => rfl
      | 7, _, _ => rfl
      | 8, _, e_ => absurd rfl e_) (u := .int .i64 t) (by rw [← HT.out]; rfl)
    rw [updN_twice, updN_twice] at h3
    exact h3
  have HM1 : Hid (Mod (fun x => x = g) w (((w.setCell ⟨g, i * 9 + 5, none⟩ (.int .i64 1)).setCell ⟨g, i * 9 + 6, none⟩ (.int .i64 (i : Int))).setCell ⟨g, i * 9 + 8, none⟩ (.int .i64 t))) := (((Mod.refl (fun x => x = g) w).setCell ⟨g, i * 9 + 5, none⟩ (fun _ => rfl) _).setCell ⟨g, i * 9 + 6, none⟩ (fun _ => rfl) _).setCell ⟨g, i * 9 + 8, none⟩ (fun _ => rfl) _
  have ht := HT.out
  generalize (N i).sz = x5 at q5
  generalize (N i).fst = x6 at q6
  generalize (N i).tot = x8 at q8
  generalize (N i).lt = x7 at q7 ht
  have g1 : (i : Int) < (n + 1 : Nat) := by omega
  have g2 : (0 : Int) ≤ (i : Int) := by omega
  have HS0 := Lib.hid hs0
  have HS1 := Lib.hid hs1
  clear h hs0 hs1
  go_enter Tryz.func119, Tryz.ntmps119
  go_upto_region 2 with fail
  clear c1 q5 q6 q7 q8 f5 f6 f8 ht HT
  generalize ((w.setCell ⟨g, i * 9 + 5, none⟩ (.int .i64 1)).setCell ⟨g, i * 9 + 6, none⟩ (.int .i64 (i : Int))).setCell ⟨g, i * 9 + 8, none⟩ (.int .i64 t) = w1 at *
  obtain ⟨a, HA⟩ : ∃ x, Hid ((N i).k0 = x) := ⟨_, rfl⟩
  obtain ⟨b, HB⟩ : ∃ x, Hid ((N i).k1 = x) := ⟨_, rfl⟩
  have e0 : updN N i (frK N i 0) i = frK N i 0 := uN_same _ _ _
  have q0 : w1.cell? ⟨g, i * 9, none⟩ = some (.int .i64 (a : Int)) := by
    have := HO1.out.at_ hi 0 (by omega)
    rw [e0] at this
    rw [← HA.out]; exact this
  have q1 : w1.cell? ⟨g, i * 9 + 1, none⟩ = some (.int .i64 (b : Int)) := by
    have := HO1.out.at_ hi 1 (by omega)
    rw [e0] at this
    rw [← HB.out]; exact this
  clear e0
  go_wp2_with fail
  clear q0 q1
  go_loopw [33] (fun s wr => ∃ k : Nat, k ≤ 2 ∧ s = .int .i64 (k : Int) ∧ LObj wr p g n (updN N i (frK N i k)) ed ∧ Mod (fun x => x = g) w wr) (fun s _ => 2 - (intOf s).toNat)
  case atStart => exact ⟨0, by omega, rfl, HO1.out, HM1.out⟩
  case round =>
    obtain ⟨k, hk, rfl, hor, hmr⟩ := hrel
    clear HO1 HM1
    have HOR := Lib.hid hor
    have HMR := Lib.hid hmr
    clear hor hmr
    by_cases hk2 : k < 2
    · obtain ⟨K, HIX, HKN, HKI, HST⟩ : ∃ K : Nat, Hid (∀ w, (Instr.index 169 (.agg #[Value.int IntKind.i64 (a : Int), Value.int IntKind.i64 (b : Int)]) (.int .i64 (k : Int))).run Tryz.prog w = .ok (.int .i64 (K : Int)) w) ∧ Hid (K ≤ n) ∧ Hid (K ≠ i) ∧ Hid (frK N i (k + 1) = addK N (frK N i k) K) := by
        obtain ⟨n0, n1, _⟩ := HBD.out i hi
        rw [HA.out] at n0
        rw [HB.out] at n1
        have hs0 := HS0.out
        have hs1 := HS1.out
        rw [HA.out] at hs0
        rw [HB.out] at hs1
        have hk3 : k = 0 ∨ k = 1 := by omega
        rcases hk3 with rfl | rfl
        · exact ⟨a, fun w => Tryz.idx0 _ _ w, n0, hs0, by show addK N (fr0 N i) (N i).k0 = _; rw [HA.out]; rfl⟩
        · exact ⟨b, fun w => Tryz.idx1 _ _ w, n1, hs1, by show addK N (addK N (fr0 N i) (N i).k0) (N i).k1 = _; rw [HB.out]; rfl⟩
      have hix := HIX.out
      have hKn := HKN.out
      have t1 : decide ((k : Int) < 2) = true := decide_eq_true (by omega)
      have t1' : decide (k < 2) = true := decide_eq_true (by omega)
      by_cases hK : K = 0
      · subst hK
        have HO2 : Hid (LObj wr p g n (updN N i (frK N i (k + 1))) ed) := by show LObj _ _ _ _ _ _; rw [HST.out, addK_zero]; exact HOR.out
        clear HOR HST HKN HKI HIX
        go_wp2_with fail
        go_roundw
        case rel => exact ⟨k + 1, by omega, by go_num, HO2.out, HMR.out⟩
        case measure => simp [intOf]; omega
      · have t2 : ((K : Int) == 0) = false := by simpa using hK
        have t2' : (K == 0) = false := by simpa using hK
        have t2'' : decide (K = 0) = false := decide_eq_false hK
        obtain ⟨V, HV⟩ : ∃ V, Hid (frK N i k = V) := ⟨_, rfl⟩
        have HVR : Hid (V.k0 ≤ n ∧ V.k1 ≤ n ∧ V.up ≤ n ∧ V.key = (N i).key) := by
          obtain ⟨r0, r1, r2, r3⟩ := frK_rest N i k
          obtain ⟨b0, b1, b2, _⟩ := HBD.out i hi
          rw [HV.out] at r0 r1 r2 r3
          exact ⟨by rw [r0]; exact b0, by rw [r1]; exact b1, by rw [r2]; exact b2, r3⟩
        rw [HV.out] at HOR HST
        have HKK : Hid (∀ v, updN N i v K = N K) := fun v => uN_ne _ _ HKI.out
        have HVF : Hid (V.fst ≤ n) := by have := (HOR.out.bd i hi).2.2.2; rw [uN_same] at this; exact this
        obtain ⟨cap1, c1⟩ := HOR.out.c1
        have q5 : wr.cell? ⟨g, i * 9 + 5, none⟩ = some (.int .i64 V.sz) := by have := HOR.out.at_ hi 5 (by omega); rw [uN_same] at this; exact this
        have r5 : wr.cell? ⟨g, K * 9 + 5, none⟩ = some (.int .i64 (N K).sz) := by have := HOR.out.at_ hKn 5 (by omega); rw [HKK.out] at this; exact this
        have f5 : wr.frozen? ⟨g, i * 9 + 5, none⟩ = false := HOR.out.fr _
        obtain ⟨x5, HX5⟩ : ∃ x, Hid (w64 (V.sz + (N K).sz) = x) := ⟨_, rfl⟩
        have hx5 : IntKind.i64.wrap (V.sz + (N K).sz) = x5 := HX5.out
        have HO5 : Hid (∀ W, Mod (fun _ => False) wr W → LObj (W.setCell ⟨g, i * 9 + 5, none⟩ (.int .i64 x5)) p g n (updN N i { V with sz := x5 }) ed) := fun W hW => by
          have h1 := (HOR.out.mod hW (fun e => e) (fun e => e)).set (i := i) (j := 5) (v := { V with sz := x5 }) hi (by omega) ⟨HVR.out.1, HVR.out.2.1, HVR.out.2.2.1, HVF.out⟩ (by rw [uN_same]; exact fun r hr hne => match r, hr, hne with
            | 0, _, _ => rfl
            | 1, _, _ => rfl
            | 2, _, _ => rfl
            | 3, _, _ => rfl
            | 4, _, _ => rfl
            | 6, _, _ => rfl
            | 7, _, _ => rfl
            | 8, _, _ => rfl) rfl
          rw [updN_twice] at h1
          exact h1
        generalize V.sz = y5 at q5 hx5
        generalize (N K).sz = z5 at r5 hx5
        have g3 : (K : Int) < (n + 1 : Nat) := by omega
        have g4 : (0 : Int) ≤ (K : Int) := by omega
        clear hK
        go_upto_region 7 with fail
        refine region_tailD 11 (by kernel_rfl) (by kernel_rfl) ?_
        intro W5 hW5
        replace q5 := hW5.cell q5
        replace r5 := hW5.cell r5
        replace f5 := hW5.frozen f5
        have HMW5 := Lib.hid (hW5.mod (Mod.refl (fun _ => False) wr))
        clear hW5 c1
        simp only [List.take_succ_cons, List.take_zero, List.drop_succ_cons, List.drop_zero]
        repeat still_step
        refine wpStill_nil ?_
        have HO6 := Lib.hid (HO5.out W5 HMW5.out)
        have HM6 : Hid (Mod (fun x => x = g) w (W5.setCell ⟨g, i * 9 + 5, none⟩ (.int .i64 x5))) := (HMR.out.trans HMW5.out (fun _ _ e => e.elim)).setCell ⟨g, i * 9 + 5, none⟩ (fun _ => rfl) _
        go_upto_region 8 with fail
        clear q5 r5 f5 hx5 HO5 HMW5 HOR HMR
        generalize W5.setCell ⟨g, i * 9 + 5, none⟩ (.int .i64 x5) = w6 at *
        have q8 : w6.cell? ⟨g, i * 9 + 8, none⟩ = some (.int .i64 V.tot) := by have := HO6.out.at_ hi 8 (by omega); rw [uN_same] at this; exact this
        have r8 : w6.cell? ⟨g, K * 9 + 8, none⟩ = some (.int .i64 (N K).tot) := by have := HO6.out.at_ hKn 8 (by omega); rw [HKK.out] at this; exact this
        have f8 : w6.frozen? ⟨g, i * 9 + 8, none⟩ = false := HO6.out.fr _
        obtain ⟨x8, HX8⟩ : ∃ x, Hid (w64 (V.tot + (N K).tot) = x) := ⟨_, rfl⟩
        have hx8 : IntKind.i64.wrap (V.tot + (N K).tot) = x8 := HX8.out
        have HO7 : Hid (∀ W, Mod (fun _ => False) w6 W → LObj (W.setCell ⟨g, i * 9 + 8, none⟩ (.int .i64 x8)) p g n (updN N i { V with sz := x5, tot := x8 }) ed) := fun W hW => by
          have h1 := (HO6.out.mod hW (fun e => e) (fun e => e)).set (i := i) (j := 8) (v := { V with sz := x5, tot := x8 }) hi (by omega) ⟨HVR.out.1, HVR.out.2.1, HVR.out.2.2.1, HVF.out⟩ (by rw [uN_same]; exact fun r hr hne => match r, hr, hne with
            | 0, _, _ => rfl
            | 1, _, _ => rfl
            | 2, _, _ => rfl
            | 3, _, _ => rfl
            | 4, _, _ => rfl
            | 5, _, _ => rfl
            | 6, _, _ => rfl
            | 7, _, _ => rfl
            | 8, _, e_ => absurd rfl e_) rfl
          rw [updN_twice] at h1
          exact h1
        generalize V.tot = y8 at q8 hx8
        generalize (N K).tot = z8 at r8 hx8
        refine region_tailD 11 (by kernel_rfl) (by kernel_rfl) ?_
        intro W7 hW7
        replace q8 := hW7.cell q8
        replace r8 := hW7.cell r8
        replace f8 := hW7.frozen f8
        have HMW7 := Lib.hid (hW7.mod (Mod.refl (fun _ => False) w6))
        clear hW7
        simp only [List.take_succ_cons, List.take_zero, List.drop_succ_cons, List.drop_zero]
        repeat still_step
        refine wpStill_nil ?_
        have HO8 := Lib.hid (HO7.out W7 HMW7.out)
        have HM8 : Hid (Mod (fun x => x = g) w (W7.setCell ⟨g, i * 9 + 8, none⟩ (.int .i64 x8))) := (HM6.out.trans HMW7.out (fun _ _ e => e.elim)).setCell ⟨g, i * 9 + 8, none⟩ (fun _ => rfl) _
        go_upto_region 9 with fail
        clear q8 r8 f8 hx8 HO7 HMW7 HO6 HM6
        generalize W7.setCell ⟨g, i * 9 + 8, none⟩ (.int .i64 x8) = w8 at *
        obtain ⟨u, HU⟩ : ∃ x, Hid ((N K).fst = x) := ⟨_, rfl⟩
        obtain ⟨v, HVV⟩ : ∃ x, Hid (V.fst = x) := ⟨_, rfl⟩
        have q6 : w8.cell? ⟨g, i * 9 + 6, none⟩ = some (.int .i64 (v : Int)) := by have := HO8.out.at_ hi 6 (by omega); rw [uN_same] at this; rw [← HVV.out]; exact this
        have r6 : w8.cell? ⟨g, K * 9 + 6, none⟩ = some (.int .i64 (u : Int)) := by have := HO8.out.at_ hKn 6 (by omega); rw [HKK.out] at this; rw [← HU.out]; exact this
        have hun : u ≤ n := by rw [← HU.out]; exact (HBD.out K hKn).2.2.2
        have hvn : v ≤ n := by rw [← HVV.out]; exact HVF.out
        have HBF : Hid (befB (updN N i { V with sz := x5, tot := x8 }) u v = befB N u v) := by
          have key : ∀ x, (updN N i { V with sz := x5, tot := x8 } x).key = (N x).key := fun x => by
            by_cases e : x = i
            · rw [e, uN_same]; exact HVR.out.2.2.2
            · rw [uN_ne _ _ e]
          exact bef_congr (key u) (key v)
        go_wp2_with fail
        have Q6 := q6
        have R6 := r6
        obtain ⟨cap1, c1⟩ := HO8.out.c1
        have C1 := c1
        replace q6 := cell_regrown q6
        replace r6 := cell_regrown r6
        replace c1 := cell_regrown c1
        refine wp_region_quiet_below (by kernel_rfl) (by kernel_rfl) ?_
        repeat (go_big_quiet_step ((go_at_call 138; exact Calls.regrown_of ((lc_before _ p g n _ ed (HO8.out.below (below_regrown w8 _ _)) u v hun hvn).mono fun _ _ ⟨he, hb⟩ => ⟨he, hb⟩))))
        refine wpQuiet_nil ?_
        intro W9 hw9
        obtain ⟨⟨dq, osq⟩, hw9⟩ := hw9
        have hbg : Below w8.heap.size w8 W9 := by rw [hw9]; exact below_regrown w8 dq osq
        have HO9 := Lib.hid (HO8.out.below hbg)
        have HM9 : Hid (Mod (fun x => x = g) w W9) := HM8.out.trans (Mod.of_below (F := fun _ => False) hbg) (fun _ _ e => e.elim)
        have q6 := Q6
        have r6 := R6
        replace q6 := (hbg.cell (World.block_lt_of_cell? w8 _ q6)).trans q6
        replace r6 := (hbg.cell (World.block_lt_of_cell? w8 _ r6)).trans r6
        have f6 : W9.frozen? ⟨g, i * 9 + 6, none⟩ = false := HO9.out.fr _
        clear hw9 hbg Q6 R6 C1 c1 HO8 HM8
        obtain ⟨bb, HBB⟩ : ∃ bb, Hid (befB N u v = bb) := ⟨_, rfl⟩
        have HSS : Hid (frK N i (k + 1) = { V with sz := x5, tot := x8, fst := if bb then u else v }) := by
          show _ = _
          rw [HST.out]
          unfold addK
          rw [if_neg (by simpa using t2'), HX5.out, HX8.out, HU.out, HVV.out, HBB.out]
        rw [HBF.out, HBB.out]
        cases bb with
        | true =>
          have HO10 : Hid (LObj (W9.setCell ⟨g, i * 9 + 6, none⟩ (.int .i64 (u : Int))) p g n (updN N i (frK N i (k + 1))) ed) := by
            show LObj _ _ _ _ _ _
            rw [HSS.out]
            have h1 := HO9.out.set (i := i) (j := 6) (v := { V with sz := x5, tot := x8, fst := u }) hi (by omega) ⟨HVR.out.1, HVR.out.2.1, HVR.out.2.2.1, hun⟩ (by rw [uN_same]; exact fun r hr hne => match r, hr, hne with
              | 0, _, _ => rfl
              | 1, _, _ => rfl
              | 2, _, _ => rfl
              | 3, _, _ => rfl
              | 4, _, _ => rfl
              | 5, _, _ => rfl
              | 7, _, _ => rfl
              | 8, _, _ => rfl) rfl
            rw [updN_twice] at h1
            exact h1
          have HM10 : Hid (Mod (fun x => x = g) w (W9.setCell ⟨g, i * 9 + 6, none⟩ (.int .i64 (u : Int)))) := HM9.out.setCell ⟨g, i * 9 + 6, none⟩ (fun _ => rfl) _
          clear HO9 HM9
          go_upto_region 11 with fail
          clear q6 r6 f6
          generalize W9.setCell ⟨g, i * 9 + 6, none⟩ (.int .i64 (u : Int)) = w10 at *
          go_wp2_with fail
          go_roundw
          case rel => exact ⟨k + 1, by omega, by go_num, HO10.out, HM10.out⟩
          case measure => simp [intOf]; omega
        | false =>
          have HO10 : Hid (LObj W9 p g n (updN N i (frK N i (k + 1))) ed) := by
            show LObj _ _ _ _ _ _
            rw [HSS.out]
            have e : ({ V with sz := x5, tot := x8, fst := if false = true then u else v } : Nd) = { V with sz := x5, tot := x8 } := by rw [← HVV.out]; rfl
            rw [e]; exact HO9.out
          clear HO9 q6 r6 f6
          go_wp2_with fail
          go_roundw
          case rel => exact ⟨k + 1, by omega, by go_num, HO10.out, HM9.out⟩
          case measure => simp [intOf]; omega
    · obtain rfl : k = 2 := by omega
      have HO2 : Hid (LObj wr p g n (refN N i) ed) := HOR.out
      clear HOR
      go_wp2_with fail
      go_end0
      exact ⟨rfl, HO2.out, HMR.out⟩
end Go.Proofs.YtlooaipipmiijaaGreat
