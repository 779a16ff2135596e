/- minimax.New. -/
import Derived.Test.YthacjealoomioaaDoorZMmA
import Derived.Test.YthacjealoomioaaDoorZRcU
import Derived.Test.YthacjealoomioaaDoorZRcTt
import Derived.Carry
import Derived.Test.YthacjealoomioaaDoorZBagS
namespace Go.Proofs.YthacjealoomioaaDoor
set_option linter.unusedVariables false
set_option linter.unusedSimpArgs false
open Go.RowKit

theorem Tryd.infoArm : (Tryd.prog.info? 98).map (fun i => (i.zero, i.size, i.bytes)) = some (some (.agg #[.int .i64 0, .int .i64 0]), 2, 16) := by kernel_rfl

/-- What each read of the statement around[u] = append(around[u], arm{i, x}) leaves. -/
def FA (tb mp u i x : Nat) (Vu : Value) (k : Nat) (v : Value) : Prop :=
  match k with
  | 0 => v = .pointer (some ⟨tb, 0, none⟩)
  | 1 => v = .pointer (some ⟨tb, 0, none⟩)
  | 2 => v = .pointer (some ⟨tb, 8, none⟩)
  | 3 => v = .map (some mp)
  | 4 => v = .int .i64 (u : Int)
  | 5 => v = .pointer (some ⟨tb, 0, none⟩)
  | 6 => v = .pointer (some ⟨tb, 0, none⟩)
  | 7 => v = .pointer (some ⟨tb, 8, none⟩)
  | 8 => v = .map (some mp)
  | 9 => v = .int .i64 (u : Int)
  | 10 => v = Vu
  | 11 => v = .int .i64 (i : Int)
  | 12 => v = .int .i64 (x : Int)
  | _ => v = .agg #[.int .i64 (i : Int), .int .i64 (x : Int)]

/-- The world behind the append. -/
def StB (wr : World) (Vu : Value) (ru : List (Nat × Nat)) (i x : Nat) (z : Value) (W : World) : Prop :=
  Mod (fun g => Vu.ownBlock = some g) wr W ∧ W.ownsRow 0 98 2 z (ru.length + 1) (amCells (ru ++ [(i, x)])) ∧ ∀ g, z.ownBlock = some g → Vu.ownBlock = some g ∨ wr.heap.size ≤ g

/-- The world, stage by stage. -/
def StA (wr : World) (mp tb : Nat) (cs : List Value) (Vu : Value) (ru : List (Nat × Nat)) (u i x cnt : Nat) (G : Int → Option Value) (ys : List Value) (W : World) : Prop :=
  match ys with
  | [] => DrewOf wr W
  | [y] => W = wr.drew.alloc (.cells #[.int .i64 (i : Int), .int .i64 (x : Int)] 98) ∧ y = .slice (some ⟨wr.heap.size, 0, none⟩) 1 1
  | [_, z] => StB wr Vu ru i x z W
  | [_, z, _] => ∃ W1, StB wr Vu ru i x z W1 ∧ MapV W Tryd.prog 3 mp (cnt + 1) (fun j => if j = (u : Int) then some z else G j) ∧ Mod (fun g => g = mp) W1 W
  | _ => False

theorem Tryd.zeroArms (w : World) : (zeroValue 96).run Tryd.prog w = .ok (.slice none 0 0) w := by kernel_rfl

theorem StB.of {wr W w' : World} {Vu v' : Value} {ru : List (Nat × Nat)} {i x rn : Nat} (hrn : ru.length = rn) (hW : W = wr.drew.alloc (.cells #[.int .i64 (i : Int), .int .i64 (x : Int)] 98)) (h1 : w'.ownsRow 0 98 2 v' (rn + 1) (amCells ru ++ [.int .i64 (i : Int), .int .i64 (x : Int)])) (h2 : W.grownBy w' Vu.ownBlock) (h3 : ∀ k, v'.ownBlock = some k → Vu.ownBlock = some k ∨ W.heap.size ≤ k) : StB wr Vu ru i x v' w' := by
  have hb : Mod (fun _ => False) wr W := by rw [hW]; exact (Mod.refl _ wr).drew.alloc _
  refine ⟨(hb.mono (fun _ _ e => e.elim)).grown h2 (fun k e _ => e), ?_, fun g hg => ?_⟩
  · rw [hrn, amCells_app]
    exact h1
  · rcases h3 g hg with e | e
    · exact .inl e
    · exact .inr (Nat.le_trans hb.size e)

theorem stA_reads {w0 wr : World} {n mp cnt tb : Nat} {cs : List Value} {V : Nat → Value} {L : Nat → List (Nat × Nat)} {G : Int → Option Value} (h : ArS w0 wr n mp cnt tb cs V L) (hG : MapV wr Tryd.prog 3 mp cnt G) (hGV : ∀ v : Nat, v < n → (G v).getD (.slice none 0 0) = V v) {u : Nat} (hu : u < n) (hn : n ≤ 4096) (c8 : cs[8]? = some (.map (some mp))) (i x : Nat) :
    ∀ ys W, StA wr mp tb cs (V u) (L u) u i x cnt G ys W → W.cell? ⟨tb, 8, none⟩ = some (.map (some mp)) ∧ (¬ 2 ≤ ys.length → (Instr.lookup 93 (.map (some mp)) (.int .i64 (u : Int)) false).run Tryd.prog W = .ok (V u) W) := by
  intro ys W hst
  have hB : ∀ z W1, StB wr (V u) (L u) i x z W1 → Blk W1 tb 95 cs := fun z W1 hz => h.tre.mod hz.1 (fun e => (h.ne u hu _ e).2.1 rfl)
  have hlk : ∀ W1, MapV W1 Tryd.prog 3 mp cnt G → (Instr.lookup 93 (.map (some mp)) (.int .i64 (u : Int)) false).run Tryd.prog W1 = .ok (V u) W1 := fun W1 hm => by
    have := hm.look Tryd.underlying3 Tryd.underlying93 (Tryd.zeroArms W1) (i := (u : Int)) (wf_i64 (by omega) (by omega))
    rw [hGV u hu] at this
    exact this
  match ys, hst with
  | [], hst =>
    have e := hst
    unfold StA DrewOf at e
    subst e
    exact ⟨h.tre.cell (i := 8) c8, fun _ => hlk _ (hG.heap rfl)⟩
  | [y], hst =>
    obtain ⟨rfl, _⟩ := hst
    have hb : Below wr.heap.size wr (wr.drew.alloc (.cells #[.int .i64 (i : Int), .int .i64 (x : Int)] 98)) := (Below.refl _ _).drew.alloc (Nat.le_refl _) _
    exact ⟨(h.tre.below hb h.tre.lt).cell (i := 8) c8, fun _ => hlk _ (hG.below hb hG.lt)⟩
  | [y, z], hst => exact ⟨(hB z W hst).cell (i := 8) c8, fun hc => absurd (Nat.le_refl 2) hc⟩
  | [y, z, q], hst =>
    obtain ⟨W1, h1, h2, h3⟩ := hst
    exact ⟨((hB z W1 h1).mod h3 h.mpn.2.2).cell (i := 8) c8, fun hc => absurd (show 2 ≤ 3 by omega) hc⟩
  | _ :: _ :: _ :: _ :: _, hst => cases hst

theorem stA_fin {w0 wr W : World} {n mp cnt tb : Nat} {cs : List Value} {V : Nat → Value} {L L' : Nat → List (Nat × Nat)} {G : Int → Option Value} (h : ArS w0 wr n mp cnt tb cs V L) (hGV : ∀ v : Nat, v < n → (G v).getD (.slice none 0 0) = V v) {u : Nat} (hu : u < n) {i x : Nat} {a b c : Value} (hst : StA wr mp tb cs (V u) (L u) u i x cnt G [a, b, c] W)
    (h1 : L' u = L u ++ [(i, x)]) (h2 : ∀ y, y < n → y ≠ u → L' y = L y) : ArS w0 W n mp (cnt + 1) tb cs (fun y => if y = u then b else V y) L' := by
  obtain ⟨W1, hb, hm, hmod⟩ := hst
  exact h.put hu hGV hb.1 (by rw [h1, List.length_append]; exact hb.2.1) h2 hb.2.2 hm hmod

theorem wp_appendB {P : Program} {d : Tmp} {t ty : TypeId} {s x : Operand} {pos : String} {aft : Array Edge} {gd : Option (Nat × Bool)} {a : Act} {K : Act → World → Prop} {F : Exit → Act → World → Prop} {w : World}
    (e : TypeId) (z : Value) (size bytes : Nat) (ht : P.underlying t = some (.slice e)) (hz : (P.info? e).map (fun i => (i.zero, i.size, i.bytes)) = some (some z, size, bytes))
    (hzs : z.cells.size = size) (hsz : 0 < size) (v : Value) (n : Nat) (xs : List Value) (hs : a.eval s = v) (hown : w.ownsRow 0 e size v n xs)
    (ad : Addr) (m c : Nat) (news : List Value) (hx : a.eval x = .slice (some ad) m c) (hl : news.length = m * size) (hnews : ∀ j u, news[j]? = some u → w.cell? (ad.add j) = some u) (h1 : ∀ u ∈ news, u.oneCell' = true)
    (h63 : n + m ≤ maxLen) (hbytes : (n + m) * bytes ≤ 140737488355328)
    (h : ∀ v' w', w'.ownsRow 0 e size v' (n + m) (xs ++ news) → w.grownBy w' v.ownBlock → (∀ k, v'.ownBlock = some k → v.ownBlock = some k ∨ w.heap.size ≤ k) → K (a.put (some d) v') w') :
    Oper.wp P ⟨some d, .call { callee := .builtin .append, args := #[s, x], argTypes := #[t, t] }, ty, pos, aft, gd⟩ a w K F := by
  obtain ⟨v', w', hr, h2, h3, h4⟩ := run_appendB (P := P) w t ty e z size bytes ht hz hzs hsz v n xs hown ad m c news hl hnews h1 h63 hbytes
  unfold Oper.wp execOp
  simp only [resolve, invoke, builtin, Sem.run_bind, Sem.run_pure, Result.andThen_ok, List.map_toArray, List.map_cons, List.map_nil, hs, hx, hr]
  exact h v' w' h2 h3 h4

theorem wp_storeV {P : Program} {k t e : TypeId} {b n : Nat} {G : Int → Option Value} {w : World} {m x v : Operand} {ty : TypeId} {pos : String} {aft : Array Edge} {gd : Option (Nat × Bool)} {a : Act} {K : Act → World → Prop} {F : Exit → Act → World → Prop}
    (hk : P.underlying k = some (.int .i64)) (ht : P.underlying t = some (.map k e)) (hm : a.eval m = .map (some b)) (h : MapV w P k b n G) (hn : n < maxLen) {i : Int} (hi : (Lit.int .i64 i).wf = true) (val : Value) (hx : a.eval x = .int .i64 i) (hv : a.eval v = val)
    (hK : ∀ w', MapV w' P k b (n + 1) (fun j => if j = i then some val else G j) → Mod (fun x => x = b) w w' → K (a.put none undef) w') :
    Oper.wp P ⟨none, .mapUpdate t m x v, ty, pos, aft, gd⟩ a w K F := by
  obtain ⟨w', hrun, r1, r2⟩ := h.store hk ht hn hi val
  unfold Oper.wp
  simp [execOp, hm, hx, hv, hrun, Result.andThen]
  exact hK w' r1 r2

/-- What New returns. -/
structure MnPost (w : World) (n : Int) (l : List Ed) (e : Ending) (w' : World) : Prop where
  bad : newErr n l ≠ 0 → e = .returned (.tuple #[.pointer none, .int .i64 (newErr n l)])
  ok : newErr n l = 0 → ∃ M : MB, e = .returned (.tuple #[.pointer (some ⟨M.f, 0, none⟩), .int .i64 0]) ∧ MObj w' M n.toNat l
  bel : Below w.heap.size w w'

set_option maxHeartbeats 16000000 in
set_option maxRecDepth 100000 in
theorem mnew_ok (w : World) (n : Int) (ao : Option Addr) (m cap b off : Nat) (l : List Ed) (he : ERow w ao m b off l) (hm : m ≤ 9223372036854775807) (hnil : ao = none → cap = 0) (hn64 : -9223372036854775808 ≤ n ∧ n ≤ 9223372036854775807) :
    Calls Tryd.prog 15 #[.int .i64 n, .slice ao m cap] w (MnPost w n l) := by
  have HE := Lib.hid he
  have HS := Lib.hid he.size
  have HNIL := Lib.hid hnil
  have H64 := Lib.hid hn64
  clear he hnil hn64
  go_enter Tryd.func15, Tryd.ntmps15
  go_wp2_with fail
  with_reducible refine (rbuild_ok w n ao m cap b off l HE.out hm HNIL.out H64.out).mono ?_
  rintro e w1 ⟨hbad, hok, hb1⟩
  have HB1 := Lib.hid hb1
  clear hb1
  by_cases hz : newErr n l = 0
  · obtain ⟨k, hk, hg⟩ := GOk.of_err hz
    obtain rfl := hk
    have HZ := Lib.hid hz
    have HG := Lib.hid hg
    have hn := hg.hn
    have hm2 : m ≤ 16384 := by rw [← HS.out]; exact hg.hl
    obtain ⟨B, rfl, hbt, hbn⟩ := hok hz
    have htv := bdL_tv3 hg
    have hT : (bdL k l).par.length = k + FN k l := htv.pl
    rw [Int.toNat_natCast] at hbt ⊢
    rw [hT] at hbt ⊢
    have HTV := Lib.hid htv
    have hmm : k + FN k l ≤ 2 * k := htv.two
    have HFN : Hid ((forL k l).length = FN k l) := rfl
    obtain ⟨T, hTT⟩ : ∃ T, bdL k l = T := ⟨_, rfl⟩
    obtain ⟨mm, hmmE⟩ : ∃ mm, k + FN k l = mm := ⟨_, rfl⟩
    have HTE := Lib.hid hTT
    have HME := Lib.hid hmmE
    rw [hTT, hmmE] at hbt
    rw [hmmE] at hmm ⊢
    have hTA : TreeAt w1 ⟨⟨some ⟨B.lb, 0, none⟩, B.lb, 0, mm⟩, ⟨some ⟨B.rb, 0, none⟩, B.rb, 0, mm⟩, ⟨some ⟨B.pb, 0, none⟩, B.pb, 0, mm⟩, ⟨some ⟨B.hb, 0, none⟩, B.hb, 0, mm⟩, ⟨some ⟨B.sb, 0, none⟩, B.sb, 0, mm⟩⟩ T := hbt.tree (by rw [← hTT, htv.lv]; omega) (by omega)
    have HTA := Lib.hid hTA
    clear hz hg htv hT hTT hmmE hbt hok hbad hbn hTA
    obtain ⟨tb, lb, rb, pb, hb', sb, ub⟩ := B
    have HBA := Lib.hid (bel_alloc w1 (.cells #[.int .i64 (k : Int), .slice (some ⟨lb, 0, none⟩) mm mm, .slice (some ⟨rb, 0, none⟩) mm mm, .slice (some ⟨pb, 0, none⟩) mm mm, .slice (some ⟨hb', 0, none⟩) mm mm, .slice (some ⟨sb, 0, none⟩) mm mm] 86))
    have HBX : Hid (Blk (w1.alloc (.cells #[.int .i64 (k : Int), .slice (some ⟨lb, 0, none⟩) mm mm, .slice (some ⟨rb, 0, none⟩) mm mm, .slice (some ⟨pb, 0, none⟩) mm mm, .slice (some ⟨hb', 0, none⟩) mm mm, .slice (some ⟨sb, 0, none⟩) mm mm] 86)) w1.heap.size 86 [.int .i64 (k : Int), .slice (some ⟨lb, 0, none⟩) mm mm, .slice (some ⟨rb, 0, none⟩) mm mm, .slice (some ⟨pb, 0, none⟩) mm mm, .slice (some ⟨hb', 0, none⟩) mm mm, .slice (some ⟨sb, 0, none⟩) mm mm]) := Blk.new _ _ _
    have HB2 := Lib.hid (bel_then HB1.out HBA.out)
    have HTA2 := Lib.hid (HTA.out.below HBA.out)
    clear HB1 HTA HBA
    go_wp2_with fail
    generalize w1.heap.size = xb at *
    generalize w1.alloc (.cells #[.int .i64 (k : Int), .slice (some ⟨lb, 0, none⟩) mm mm, .slice (some ⟨rb, 0, none⟩) mm mm, .slice (some ⟨pb, 0, none⟩) mm mm, .slice (some ⟨hb', 0, none⟩) mm mm, .slice (some ⟨sb, 0, none⟩) mm mm] 86) = W2 at *
    with_reducible refine (forest_ok W2 k ao m cap b off l (HE.out.below HB2.out) hm HNIL.out (by omega)).mono ?_
    rintro e w3 ⟨_, hok, hb3⟩
    obtain ⟨fv, rfl, hfo, hfn⟩ := hok HZ.out
    rw [Int.toNat_natCast, HFN.out] at hfo
    obtain ⟨fo, fc, fb, rfl, hfr, _⟩ := own_rowN hfo HFN.out
    have HFR := Lib.hid hfr
    have HB3 := Lib.hid (bel_then HB2.out hb3)
    have HTA3 := Lib.hid (HTA2.out.below hb3)
    have HBX3 := Lib.hid (Blk.below HBX.out hb3 HBX.out.lt)
    have HT2 : Hid (TV T k mm (lsB k l (FN k l))) := by
      show TV _ _ _ _
      rw [← HTE.out, ← HME.out]
      exact HTV.out
    have HPR : Hid (InRow .i64 w3 (some ⟨pb, 0, none⟩) mm pb 0 T.par) := by
      have := HTA3.out.p
      rw [HT2.out.pl] at this
      exact this
    clear hok hb3 HB2 HTA2 HBX hfo hfn hfr
    have x3 := HBX3.out.cell (i := 3) rfl
    go_wp2_with fail
    with_reducible refine (lnew_ok w3 T k mm (lsB k l (FN k l)) HT2.out (some ⟨pb, 0, none⟩) mm pb 0 HPR.out).mono ?_
    rintro e w4 ⟨⟨LBx, rfl, hlt, _⟩, hb4⟩
    have HLT := Lib.hid hlt
    have HB4 := Lib.hid (bel_then HB3.out hb4)
    have HTA4 := Lib.hid (HTA3.out.below hb4)
    have HFR4 := Lib.hid (HFR.out.below hb4)
    have HBX4 := Lib.hid (Blk.below HBX3.out hb4 HBX3.out.lt)
    clear hlt hb4 x3 HB3 HTA3 HFR HBX3 HPR
    have x0 := HBX4.out.cell (i := 0) rfl
    have x1 := HBX4.out.cell (i := 1) rfl
    have x2 := HBX4.out.cell (i := 2) rfl
    have x3 := HBX4.out.cell (i := 3) rfl
    have x4 := HBX4.out.cell (i := 4) rfl
    have x5 := HBX4.out.cell (i := 5) rfl
    have hmm := @run_makeMap Tryd.prog
    obtain ⟨lp, ldb, ljb⟩ := LBx
    have HS0 : Hid (ArS w4 ((w4.alloc (.map #[] 0)).alloc (.cells #[.pointer (some ⟨lp, 0, none⟩), .int .i64 (k : Int), .slice (some ⟨lb, 0, none⟩) mm mm, .slice (some ⟨rb, 0, none⟩) mm mm, .slice (some ⟨pb, 0, none⟩) mm mm, .slice (some ⟨hb', 0, none⟩) mm mm, .slice (some ⟨sb, 0, none⟩) mm mm, .slice fo (FN k l) fc, .map (some w4.heap.size)] 95)) k w4.heap.size 0 (w4.heap.size + 1) [.pointer (some ⟨lp, 0, none⟩), .int .i64 (k : Int), .slice (some ⟨lb, 0, none⟩) mm mm, .slice (some ⟨rb, 0, none⟩) mm mm, .slice (some ⟨pb, 0, none⟩) mm mm, .slice (some ⟨hb', 0, none⟩) mm mm, .slice (some ⟨sb, 0, none⟩) mm mm, .slice fo (FN k l) fc, .map (some w4.heap.size)] (fun _ => .slice none 0 0) (arTo l [])) := by
      have hb2 : Below (w4.alloc (.map #[] 0)).heap.size (w4.alloc (.map #[] 0)) ((w4.alloc (.map #[] 0)).alloc (.cells #[.pointer (some ⟨lp, 0, none⟩), .int .i64 (k : Int), .slice (some ⟨lb, 0, none⟩) mm mm, .slice (some ⟨rb, 0, none⟩) mm mm, .slice (some ⟨pb, 0, none⟩) mm mm, .slice (some ⟨hb', 0, none⟩) mm mm, .slice (some ⟨sb, 0, none⟩) mm mm, .slice fo (FN k l) fc, .map (some w4.heap.size)] 95)) := bel_alloc _ _
      exact ⟨⟨_, (MapV.made w4 _ _).below hb2 (by simp), fun v hv => rfl⟩, fun v hv => World.ownsRow_nil _ _ _ _, fun v hv g hg => (by cases hg), fun u v _ _ _ g hg => (by cases hg), Blk.new' _ _ [_, _, _, _, _, _, _, _, _] (by simp), bel_then (bel_alloc w4 _) hb2, ⟨Nat.le_refl _, by omega, by omega⟩⟩
    go_wp2_with fail
    clear x0 x1 x2 x3 x4 x5 hmm
    generalize hcs : [Value.pointer (some ⟨lp, 0, none⟩), .int .i64 (k : Int), .slice (some ⟨lb, 0, none⟩) mm mm, .slice (some ⟨rb, 0, none⟩) mm mm, .slice (some ⟨pb, 0, none⟩) mm mm, .slice (some ⟨hb', 0, none⟩) mm mm, .slice (some ⟨sb, 0, none⟩) mm mm, .slice fo (FN k l) fc, .map (some w4.heap.size)] = cs at HS0
    have HCS := Lib.hid hcs
    clear hcs
    generalize Value.tuple #[Value.agg #[Value.int .i64 (k : Int), Value.slice (some ⟨lb, 0, none⟩) mm mm, Value.slice (some ⟨rb, 0, none⟩) mm mm, Value.slice (some ⟨pb, 0, none⟩) mm mm, Value.slice (some ⟨hb', 0, none⟩) mm mm, Value.slice (some ⟨sb, 0, none⟩) mm mm], Value.int .i64 0] = Z1
    generalize Value.agg #[Value.int .i64 (k : Int), Value.slice (some ⟨lb, 0, none⟩) mm mm, Value.slice (some ⟨rb, 0, none⟩) mm mm, Value.slice (some ⟨pb, 0, none⟩) mm mm, Value.slice (some ⟨hb', 0, none⟩) mm mm, Value.slice (some ⟨sb, 0, none⟩) mm mm] = Z2
    obtain ⟨W5, hW5⟩ : ∃ W5, (w4.alloc (.map #[] 0)).alloc (.cells cs.toArray 95) = W5 := ⟨_, rfl⟩
    rw [hW5] at HS0 ⊢
    clear hW5
    obtain ⟨tb, htb⟩ : ∃ tb, w4.heap.size + 1 = tb := ⟨_, rfl⟩
    rw [htb] at HS0 ⊢
    clear htb
    obtain ⟨mp, hmp⟩ : ∃ mp, w4.heap.size = mp := ⟨_, rfl⟩
    rw [hmp] at HS0 HCS ⊢
    clear hmp
    have hFk : FN k l ≤ 4096 := by rw [← HME.out] at hmm; omega
    obtain ⟨N, hN⟩ : ∃ N, FN k l = N := ⟨_, rfl⟩
    have HNE := Lib.hid hN
    rw [hN] at hFk HFN HFR4 HCS ⊢
    clear hN
    go_loopw [50] (fun s wr => ∃ t : Nat, t ≤ N ∧ s = .int .i64 t ∧ ∃ V cnt, cnt ≤ 2 * t ∧ ArS w4 wr k mp cnt tb cs V (arTo l ((forL k l).take t))) (fun s _ => N - (intOf s).toNat)
    case atStart => exact ⟨0, Nat.zero_le _, rfl, _, 0, Nat.le_refl _, HS0.out⟩
    case round =>
      obtain ⟨t, ht, rfl, V, cnt, hcnt, hS⟩ := hrel
      have HS1 := Lib.hid hS
      clear hS HS0
      by_cases htN : t < N
      · have tt : decide (t < N) = true := decide_eq_true htN
        have tt1 : (t : Int) < (N : Int) := by omega
        have tt0 : (0 : Int) ≤ (t : Int) := by omega
        have cf := (HFR4.out.below HS1.out.bel).cell t htN
        rw [nI_at (by rw [HFN.out]; exact htN), Nat.zero_add] at cf
        obtain rfl := HFR4.out.adr (by omega)
        have hmem : (forL k l).getD t 0 ∈ forL k l := by
          rw [List.getD_eq_getElem?_getD, List.getElem?_eq_getElem (by rw [HFN.out]; exact htN)]
          exact List.getElem_mem _
        have hil := forL_mem hmem
        have HTK := Lib.hid (take_snocN (L := forL k l) (t := t) (by rw [HFN.out]; exact htN))
        generalize (forL k l).getD t 0 = i at *
        clear hmem
        have him : i < m := by rw [← HS.out]; exact hil
        obtain ⟨hu, hv, huv, eu, ev⟩ := HG.out.uv (i := i) hil
        have HBR : Hid (Below w.heap.size w wr) := bel_then HB4.out HS1.out.bel
        obtain ⟨c0, c1, c2⟩ := (HE.out.below HBR.out).cell i him
        obtain rfl := HE.out.adr (by omega)
        rw [eu] at c0
        rw [ev] at c1
        have HUU : Hid (armsOf l (uN l i) i = [(i, vN l i)]) := by show _ = _; unfold armsOf; rw [if_pos rfl]
        have HVV : Hid (armsOf l (vN l i) i = [(i, uN l i)]) := by show _ = _; unfold armsOf; rw [if_neg huv, if_pos rfl]
        have HXX : Hid (∀ x, x ≠ uN l i → x ≠ vN l i → armsOf l x i = []) := fun x h1 h2 => by unfold armsOf; rw [if_neg (fun e => h1 e.symm), if_neg (fun e => h2 e.symm)]
        generalize uN l i = u at *
        generalize vN l i = v at *
        have ti1 : (i : Int) < (m : Int) := by omega
        have ti0 : (0 : Int) ≤ (i : Int) := by omega
        clear eu ev
        go_wp2_with fail
        go_quiet (fail)
        have HS2 : Hid (ArS w4 (wr.drewN nq) k mp cnt tb cs V (arTo l ((forL k l).take t))) := ⟨HS1.out.map, HS1.out.row, HS1.out.ne, HS1.out.dis, HS1.out.tre, bel_drewN HS1.out.bel nq, HS1.out.mpn⟩
        clear HS1 c0 c1 c2 cf
        generalize wr.drewN nq = wr at *
        go_wp2_with fail
        have HC8 : Hid (cs[8]? = some (.map (some mp))) := by show _ = _; rw [← HCS.out]; rfl
        go_cut [64] (fun _ wx => ∃ V', ArS w4 wx k mp (cnt + 1) tb cs V' (fun y => if y = u then arTo l ((forL k l).take t) y ++ [(i, v)] else arTo l ((forL k l).take t) y))
        case first =>
          obtain ⟨G, hG, hGV⟩ := HS2.out.map
          have hrl := arTo_len l u ((forL k l).take t)
          rw [List.length_take] at hrl
          have HROW := Lib.hid (HS2.out.row u hu)
          have HMAP := Lib.hid hG
          have HNM : Hid (∀ g, (V u).ownBlock = some g → g ≠ mp) := fun g hg => (HS2.out.ne u hu g hg).1
          have HSTA := Lib.hid (stA_reads HS2.out hG hGV hu hn HC8.out i v)
          have HFINL : Hid (∀ a b c W, StA wr mp tb cs (V u) (arTo l ((forL k l).take t) u) u i v cnt G [a, b, c] W → ArS w4 W k mp (cnt + 1) tb cs (fun y => if y = u then b else V y) (fun y => if y = u then arTo l ((forL k l).take t) y ++ [(i, v)] else arTo l ((forL k l).take t) y)) := fun a b c W hst => stA_fin HS2.out hGV hu hst (if_pos rfl) (fun y _ hy => if_neg hy)
          clear hG hGV
          generalize V u = Vu at *
          generalize (arTo l ((forL k l).take t) u) = ru at *
          obtain ⟨rn, hrn⟩ : ∃ rn, ru.length = rn := ⟨_, rfl⟩
          have HRN := Lib.hid hrn
          rw [hrn] at hrl
          clear hrn
          have HAPP : Hid (∀ W, W = wr.drew.alloc (.cells #[.int .i64 (i : Int), .int .i64 (v : Int)] 98) → W.ownsRow 0 98 2 Vu rn (amCells ru) ∧ (∀ j u, [Value.int .i64 (i : Int), .int .i64 (v : Int)][j]? = some u → W.cell? ((⟨wr.heap.size, 0, none⟩ : Addr).add j) = some u) ∧ ∀ v' w', w'.ownsRow 0 98 2 v' (rn + 1) (amCells ru ++ [.int .i64 (i : Int), .int .i64 (v : Int)]) → W.grownBy w' Vu.ownBlock → (∀ k, v'.ownBlock = some k → Vu.ownBlock = some k ∨ W.heap.size ≤ k) → StB wr Vu ru i v v' w') := fun W hW => by
            have h1 := HROW.out
            rw [HRN.out] at h1
            refine ⟨?_, ?_, fun v' w' a1 a2 a3 => StB.of HRN.out hW a1 a2 a3⟩
            · rw [hW]
              exact World.ownsRow.alloc (w := wr.drew) h1 _
            · rw [hW]
              exact news_new wr.drew 98 [.int .i64 (i : Int), .int .i64 (v : Int)]
          have hrn2 : rn ≤ 4096 := by omega
          -- ONE<
          refine wp_region_stage 14 (by kernel_rfl) (by kernel_rfl) (by kernel_rfl) (by kernel_rfl) (by kernel_rfl) (FA tb mp u i v Vu) (StA wr mp tb cs Vu ru u i v cnt G) rfl ?read ?tail ?fin
          case read =>
            intro W ys o_i o AA hin hst hnd hev hdep ho
            obtain ⟨hct, hlook⟩ := HSTA.out ys W hst
            have e10 := hev 10 (by kernel_rfl)
            have e12 := hev 12 (by kernel_rfl)
            have e13 := hev 13 (by kernel_rfl)
            have e14 := hev 14 (by kernel_rfl)
            replace e10 : AA.eval (.tmp 10) = .pointer (some ⟨tb, 0, none⟩) := e10
            replace e12 : AA.eval (.tmp 12) = .int .i64 (i : Int) := e12
            replace e13 : AA.eval (.tmp 13) = .int .i64 (u : Int) := e13
            replace e14 : AA.eval (.tmp 14) = .int .i64 (v : Int) := e14
            have hcs : o_i = 0 ∨ o_i = 1 ∨ o_i = 2 ∨ o_i = 3 ∨ o_i = 4 ∨ o_i = 5 ∨ o_i = 6 ∨ o_i = 7 ∨ o_i = 8 ∨ o_i = 9 ∨ o_i = 10 ∨ o_i = 11 ∨ o_i = 12 ∨ o_i = 13 := by omega
            rcases hcs with rfl | rfl | rfl | rfl | rfl | rfl | rfl | rfl | rfl | rfl | rfl | rfl | rfl | rfl
            · cases ho
              refine ⟨wanted_free rfl, wp_value (v := .pointer (some ⟨tb, 0, none⟩)) (w' := W) (by simp only [execOp, e10]; simp [go_sem, hct]) ⟨_, rfl, rfl, rfl⟩⟩
            · cases ho
              have f64 : AA.eval (.tmp 64) = .pointer (some ⟨tb, 0, none⟩) := hdep ⟨0, .data⟩ 64 (by simp) (by rfl) rfl (by simp)
              refine ⟨wanted_free rfl, wp_value (v := .pointer (some ⟨tb, 0, none⟩)) (w' := W) (by simp only [execOp, f64]; simp [go_sem, hct]) ⟨_, rfl, rfl, rfl⟩⟩
            · cases ho
              have f65 : AA.eval (.tmp 65) = .pointer (some ⟨tb, 0, none⟩) := hdep ⟨1, .data⟩ 65 (by simp) (by rfl) rfl (by simp)
              refine ⟨wanted_free rfl, wp_value (v := .pointer (some ⟨tb, 8, none⟩)) (w' := W) (by simp only [execOp, f65]; simp [go_sem, hct]) ⟨_, rfl, rfl, rfl⟩⟩
            · cases ho
              have f66 : AA.eval (.tmp 66) = .pointer (some ⟨tb, 8, none⟩) := hdep ⟨2, .data⟩ 66 (by simp) (by rfl) rfl (by simp)
              refine ⟨wanted_free rfl, wp_value (v := .map (some mp)) (w' := W) (by simp only [execOp, f66]; simp [go_sem, hct]) ⟨_, rfl, rfl, rfl⟩⟩
            · cases ho
              refine ⟨wanted_free rfl, wp_value (v := .int .i64 (u : Int)) (w' := W) (by simp only [execOp, e13]; simp [go_sem, hct]) ⟨_, rfl, rfl, rfl⟩⟩
            · cases ho
              refine ⟨wanted_free rfl, wp_value (v := .pointer (some ⟨tb, 0, none⟩)) (w' := W) (by simp only [execOp, e10]; simp [go_sem, hct]) ⟨_, rfl, rfl, rfl⟩⟩
            · cases ho
              have f69 : AA.eval (.tmp 69) = .pointer (some ⟨tb, 0, none⟩) := hdep ⟨5, .data⟩ 69 (by simp) (by rfl) rfl (by simp)
              refine ⟨wanted_free rfl, wp_value (v := .pointer (some ⟨tb, 0, none⟩)) (w' := W) (by simp only [execOp, f69]; simp [go_sem, hct]) ⟨_, rfl, rfl, rfl⟩⟩
            · cases ho
              have f70 : AA.eval (.tmp 70) = .pointer (some ⟨tb, 0, none⟩) := hdep ⟨6, .data⟩ 70 (by simp) (by rfl) rfl (by simp)
              refine ⟨wanted_free rfl, wp_value (v := .pointer (some ⟨tb, 8, none⟩)) (w' := W) (by simp only [execOp, f70]; simp [go_sem, hct]) ⟨_, rfl, rfl, rfl⟩⟩
            · cases ho
              have f71 : AA.eval (.tmp 71) = .pointer (some ⟨tb, 8, none⟩) := hdep ⟨7, .data⟩ 71 (by simp) (by rfl) rfl (by simp)
              refine ⟨wanted_free rfl, wp_value (v := .map (some mp)) (w' := W) (by simp only [execOp, f71]; simp [go_sem, hct]) ⟨_, rfl, rfl, rfl⟩⟩
            · cases ho
              refine ⟨wanted_free rfl, wp_value (v := .int .i64 (u : Int)) (w' := W) (by simp only [execOp, e13]; simp [go_sem, hct]) ⟨_, rfl, rfl, rfl⟩⟩
            · cases ho
              have f72 : AA.eval (.tmp 72) = .map (some mp) := hdep ⟨8, .data⟩ 72 (by simp) (by rfl) rfl (by simp)
              have f73 : AA.eval (.tmp 73) = .int .i64 (u : Int) := hdep ⟨9, .data⟩ 73 (by simp) (by rfl) rfl (by simp)
              have hl := hlook (by
                intro h2
                exact hnd 15 _ (by omega) (by omega) rfl ⟨10, .data⟩ (by simp) (by rfl) rfl)
              refine ⟨wanted_free rfl, wp_value (v := Vu) (w' := W) (by simp only [execOp, f72, f73]; simp [go_sem, hl]) ⟨_, rfl, rfl, rfl⟩⟩
            · cases ho
              refine ⟨wanted_free rfl, wp_value (v := .int .i64 (i : Int)) (w' := W) (by simp only [execOp, e12]; simp [go_sem, hct]) ⟨_, rfl, rfl, rfl⟩⟩
            · cases ho
              refine ⟨wanted_free rfl, wp_value (v := .int .i64 (v : Int)) (w' := W) (by simp only [execOp, e14]; simp [go_sem, hct]) ⟨_, rfl, rfl, rfl⟩⟩
            · cases ho
              have f75 : AA.eval (.tmp 75) = .int .i64 (i : Int) := hdep ⟨11, .data⟩ 75 (by simp) (by rfl) rfl (by simp)
              have f76 : AA.eval (.tmp 76) = .int .i64 (v : Int) := hdep ⟨12, .data⟩ 76 (by simp) (by rfl) rfl (by simp)
              have g1 : AA.tmps[75]?.getD undef = .int .i64 (i : Int) := by simpa [Act.eval] using f75
              have g2 : AA.tmps[76]?.getD undef = .int .i64 (v : Int) := by simpa [Act.eval] using f76
              refine ⟨wanted_free rfl, wp_value (v := .agg #[.int .i64 (i : Int), .int .i64 (v : Int)]) (w' := W) (by simp only [execOp]; simp [go_sem, g1, g2]) ⟨_, rfl, rfl, rfl⟩⟩
          case tail =>
            intro W ys o AA hst ho hev hdep
            match ys, hst, ho, hdep with
            | [], hst, ho, hdep =>
              cases ho
              have f77 : AA.eval (.tmp 77) = .agg #[.int .i64 (i : Int), .int .i64 (v : Int)] := (hdep ⟨13, .data⟩ 77 (by simp) (by rfl) rfl (by simp)).1 (by decide)
              have g1 : AA.tmps[77]?.getD undef = .agg #[.int .i64 (i : Int), .int .i64 (v : Int)] := by simpa [Act.eval] using f77
              have e := hst
              unfold StA DrewOf at e
              subst e
              exact ⟨wanted_free rfl, wp_value (v := .slice (some ⟨wr.heap.size, 0, none⟩) 1 1) (w' := wr.drew.alloc (.cells #[.int .i64 (i : Int), .int .i64 (v : Int)] 98)) (by simp only [execOp]; simp [go_sem, g1]) ⟨_, rfl, ⟨rfl, rfl⟩⟩⟩
            | [y], hst, ho, hdep =>
              cases ho
              obtain ⟨hW, rfl⟩ := hst
              have f74 : AA.eval (.tmp 74) = Vu := (hdep ⟨10, .data⟩ 74 (by simp) (by rfl) rfl (by simp)).1 (by decide)
              have f78 : AA.eval (.tmp 78) = .slice (some ⟨wr.heap.size, 0, none⟩) 1 1 := by
                have := (hdep ⟨14, .data⟩ 78 (by simp) (by rfl) rfl (by simp)).2 0 rfl
                injection this with this
                exact this.symm
              refine ⟨wanted_free rfl, ?_⟩
              obtain ⟨h1, h2, h3⟩ := HAPP.out W hW
              exact wp_appendB 98 (.agg #[.int .i64 0, .int .i64 0]) 2 16 Tryd.underlying96 Tryd.infoArm rfl (by decide) Vu rn _ f74 h1 ⟨wr.heap.size, 0, none⟩ 1 1 [.int .i64 (i : Int), .int .i64 (v : Int)] f78 rfl h2 (by simp [Value.oneCell']) (by unfold maxLen; omega) (by omega) (fun v' w' a1 a2 a3 => ⟨v', rfl, h3 v' w' a1 a2 a3⟩)
            | [y, z], hst, ho, hdep =>
              cases ho
              have f67 : AA.eval (.tmp 67) = .map (some mp) := (hdep ⟨3, .data⟩ 67 (by simp) (by rfl) rfl (by simp)).1 (by decide)
              have f68 : AA.eval (.tmp 68) = .int .i64 (u : Int) := (hdep ⟨4, .data⟩ 68 (by simp) (by rfl) rfl (by simp)).1 (by decide)
              have f79 : AA.eval (.tmp 79) = z := by
                have := (hdep ⟨15, .data⟩ 79 (by simp) (by rfl) rfl (by simp)).2 1 rfl
                injection this with this
                exact this.symm
              refine ⟨wanted_free rfl, ?_⟩
              refine wp_storeV Tryd.underlying3 Tryd.underlying93 f67 (HMAP.out.mod hst.1 (fun e => HNM.out mp e rfl)) (by unfold maxLen; omega) (i := (u : Int)) (wf_i64 (by omega) (by omega)) z f68 f79 (fun w' a1 a2 => ⟨_, rfl, ⟨W, hst, a1, a2⟩⟩)
            | [y, z, q], hst, ho, hdep => cases ho
            | _ :: _ :: _ :: _ :: _, hst, ho, hdep => cases hst
          case fin =>
            intro xs W hst hF
            have HFIN := Lib.hid (HFINL.out _ _ _ _ (show StA wr mp tb cs Vu ru u i v cnt G [xs 14, xs 15, xs 16] W from hst))
            clear hst hF
            simp only [putAll, Nat.zero_add, Nat.reduceAdd]
            generalize xs 0 = z0
            generalize xs 1 = z1
            generalize xs 2 = z2
            generalize xs 3 = z3
            generalize xs 4 = z4
            generalize xs 5 = z5
            generalize xs 6 = z6
            generalize xs 7 = z7
            generalize xs 8 = z8
            generalize xs 9 = z9
            generalize xs 10 = z10
            generalize xs 11 = z11
            generalize xs 12 = z12
            generalize xs 13 = z13
            generalize xs 14 = z14
            generalize xs 15 = z15 at HFIN ⊢
            generalize xs 16 = z16
            clear xs HSTA HAPP HMAP HNM
            go_wp2_with fail
            simp only [Act.put, List.setIfInBounds_toArray, List.set_cons_zero, List.set_cons_succ]
            go_meet
            exact ⟨_, HFIN.out⟩
          -- ONE>
        case rest =>
          obtain ⟨V', hS3⟩ := hcut
          obtain ⟨L2, hL2⟩ : ∃ L2, (fun y => if y = u then arTo l ((forL k l).take t) y ++ [(i, v)] else arTo l ((forL k l).take t) y) = L2 := ⟨_, rfl⟩
          have HLV : Hid (L2 v = arTo l ((forL k l).take t) v) := by
            show _ = _
            rw [← hL2]
            exact if_neg (fun e => huv e.symm)
          have HL2 : Hid (∀ y, L2 y = if y = u then arTo l ((forL k l).take t) y ++ [(i, v)] else arTo l ((forL k l).take t) y) := fun y => by rw [← hL2]
          rw [hL2] at hS3
          have HS3 := Lib.hid hS3
          clear hS3 hL2 HS2
          go_wp2_with fail
          obtain ⟨G, hG, hGV⟩ := HS3.out.map
          have hrl := arTo_len l v ((forL k l).take t)
          rw [List.length_take] at hrl
          rw [← HLV.out] at hrl
          have HROW := Lib.hid (HS3.out.row v hv)
          have HMAP := Lib.hid hG
          have HNM : Hid (∀ g, (V' v).ownBlock = some g → g ≠ mp) := fun g hg => (HS3.out.ne v hv g hg).1
          have HSTA := Lib.hid (stA_reads HS3.out hG hGV hv hn HC8.out i u)
          have HFINL : Hid (∀ a b c W, StA wc mp tb cs (V' v) (L2 v) v i u (cnt + 1) G [a, b, c] W → ArS w4 W k mp (cnt + 1 + 1) tb cs (fun y => if y = v then b else V' y) (fun y => if y = v then L2 y ++ [(i, u)] else L2 y)) := fun a b c W hst => stA_fin HS3.out hGV hv hst (if_pos rfl) (fun y _ hy => if_neg hy)
          clear hG hGV
          generalize V' v = Vu at *
          generalize (L2 v) = ru at *
          obtain ⟨rn, hrn⟩ : ∃ rn, ru.length = rn := ⟨_, rfl⟩
          have HRN := Lib.hid hrn
          rw [hrn] at hrl
          clear hrn
          have HAPP : Hid (∀ W, W = wc.drew.alloc (.cells #[.int .i64 (i : Int), .int .i64 (u : Int)] 98) → W.ownsRow 0 98 2 Vu rn (amCells ru) ∧ (∀ j q, [Value.int .i64 (i : Int), .int .i64 (u : Int)][j]? = some q → W.cell? ((⟨wc.heap.size, 0, none⟩ : Addr).add j) = some q) ∧ ∀ v' w', w'.ownsRow 0 98 2 v' (rn + 1) (amCells ru ++ [.int .i64 (i : Int), .int .i64 (u : Int)]) → W.grownBy w' Vu.ownBlock → (∀ k, v'.ownBlock = some k → Vu.ownBlock = some k ∨ W.heap.size ≤ k) → StB wc Vu ru i u v' w') := fun W hW => by
            have h1 := HROW.out
            rw [HRN.out] at h1
            refine ⟨?_, ?_, fun v' w' a1 a2 a3 => StB.of HRN.out hW a1 a2 a3⟩
            · rw [hW]
              exact World.ownsRow.alloc (w := wc.drew) h1 _
            · rw [hW]
              exact news_new wc.drew 98 [.int .i64 (i : Int), .int .i64 (u : Int)]
          have hrn2 : rn ≤ 4096 := by omega
          -- TWO<
          refine wp_region_stage 14 (by kernel_rfl) (by kernel_rfl) (by kernel_rfl) (by kernel_rfl) (by kernel_rfl) (FA tb mp v i u Vu) (StA wc mp tb cs Vu ru v i u (cnt + 1) G) rfl ?read ?tail ?fin
          case read =>
            intro W ys o_i o AA hin hst hnd hev hdep ho
            obtain ⟨hct, hlook⟩ := HSTA.out ys W hst
            have e10 := hev 10 (by kernel_rfl)
            have e12 := hev 12 (by kernel_rfl)
            have e13 := hev 13 (by kernel_rfl)
            have e14 := hev 14 (by kernel_rfl)
            replace e10 : AA.eval (.tmp 10) = .pointer (some ⟨tb, 0, none⟩) := e10
            replace e12 : AA.eval (.tmp 12) = .int .i64 (i : Int) := e12
            replace e13 : AA.eval (.tmp 13) = .int .i64 (u : Int) := e13
            replace e14 : AA.eval (.tmp 14) = .int .i64 (v : Int) := e14
            have hcs : o_i = 0 ∨ o_i = 1 ∨ o_i = 2 ∨ o_i = 3 ∨ o_i = 4 ∨ o_i = 5 ∨ o_i = 6 ∨ o_i = 7 ∨ o_i = 8 ∨ o_i = 9 ∨ o_i = 10 ∨ o_i = 11 ∨ o_i = 12 ∨ o_i = 13 := by omega
            rcases hcs with rfl | rfl | rfl | rfl | rfl | rfl | rfl | rfl | rfl | rfl | rfl | rfl | rfl | rfl
            · cases ho
              refine ⟨wanted_free rfl, wp_value (v := .pointer (some ⟨tb, 0, none⟩)) (w' := W) (by simp only [execOp, e10]; simp [go_sem, hct]) ⟨_, rfl, rfl, rfl⟩⟩
            · cases ho
              have f80 : AA.eval (.tmp 80) = .pointer (some ⟨tb, 0, none⟩) := hdep ⟨0, .data⟩ 80 (by simp) (by rfl) rfl (by simp)
              refine ⟨wanted_free rfl, wp_value (v := .pointer (some ⟨tb, 0, none⟩)) (w' := W) (by simp only [execOp, f80]; simp [go_sem, hct]) ⟨_, rfl, rfl, rfl⟩⟩
            · cases ho
              have f81 : AA.eval (.tmp 81) = .pointer (some ⟨tb, 0, none⟩) := hdep ⟨1, .data⟩ 81 (by simp) (by rfl) rfl (by simp)
              refine ⟨wanted_free rfl, wp_value (v := .pointer (some ⟨tb, 8, none⟩)) (w' := W) (by simp only [execOp, f81]; simp [go_sem, hct]) ⟨_, rfl, rfl, rfl⟩⟩
            · cases ho
              have f82 : AA.eval (.tmp 82) = .pointer (some ⟨tb, 8, none⟩) := hdep ⟨2, .data⟩ 82 (by simp) (by rfl) rfl (by simp)
              refine ⟨wanted_free rfl, wp_value (v := .map (some mp)) (w' := W) (by simp only [execOp, f82]; simp [go_sem, hct]) ⟨_, rfl, rfl, rfl⟩⟩
            · cases ho
              refine ⟨wanted_free rfl, wp_value (v := .int .i64 (v : Int)) (w' := W) (by simp only [execOp, e14]; simp [go_sem, hct]) ⟨_, rfl, rfl, rfl⟩⟩
            · cases ho
              refine ⟨wanted_free rfl, wp_value (v := .pointer (some ⟨tb, 0, none⟩)) (w' := W) (by simp only [execOp, e10]; simp [go_sem, hct]) ⟨_, rfl, rfl, rfl⟩⟩
            · cases ho
              have f85 : AA.eval (.tmp 85) = .pointer (some ⟨tb, 0, none⟩) := hdep ⟨5, .data⟩ 85 (by simp) (by rfl) rfl (by simp)
              refine ⟨wanted_free rfl, wp_value (v := .pointer (some ⟨tb, 0, none⟩)) (w' := W) (by simp only [execOp, f85]; simp [go_sem, hct]) ⟨_, rfl, rfl, rfl⟩⟩
            · cases ho
              have f86 : AA.eval (.tmp 86) = .pointer (some ⟨tb, 0, none⟩) := hdep ⟨6, .data⟩ 86 (by simp) (by rfl) rfl (by simp)
              refine ⟨wanted_free rfl, wp_value (v := .pointer (some ⟨tb, 8, none⟩)) (w' := W) (by simp only [execOp, f86]; simp [go_sem, hct]) ⟨_, rfl, rfl, rfl⟩⟩
            · cases ho
              have f87 : AA.eval (.tmp 87) = .pointer (some ⟨tb, 8, none⟩) := hdep ⟨7, .data⟩ 87 (by simp) (by rfl) rfl (by simp)
              refine ⟨wanted_free rfl, wp_value (v := .map (some mp)) (w' := W) (by simp only [execOp, f87]; simp [go_sem, hct]) ⟨_, rfl, rfl, rfl⟩⟩
            · cases ho
              refine ⟨wanted_free rfl, wp_value (v := .int .i64 (v : Int)) (w' := W) (by simp only [execOp, e14]; simp [go_sem, hct]) ⟨_, rfl, rfl, rfl⟩⟩
            · cases ho
              have f88 : AA.eval (.tmp 88) = .map (some mp) := hdep ⟨8, .data⟩ 88 (by simp) (by rfl) rfl (by simp)
              have f89 : AA.eval (.tmp 89) = .int .i64 (v : Int) := hdep ⟨9, .data⟩ 89 (by simp) (by rfl) rfl (by simp)
              have hl := hlook (by
                intro h2
                exact hnd 15 _ (by omega) (by omega) rfl ⟨10, .data⟩ (by simp) (by rfl) rfl)
              refine ⟨wanted_free rfl, wp_value (v := Vu) (w' := W) (by simp only [execOp, f88, f89]; simp [go_sem, hl]) ⟨_, rfl, rfl, rfl⟩⟩
            · cases ho
              refine ⟨wanted_free rfl, wp_value (v := .int .i64 (i : Int)) (w' := W) (by simp only [execOp, e12]; simp [go_sem, hct]) ⟨_, rfl, rfl, rfl⟩⟩
            · cases ho
              refine ⟨wanted_free rfl, wp_value (v := .int .i64 (u : Int)) (w' := W) (by simp only [execOp, e13]; simp [go_sem, hct]) ⟨_, rfl, rfl, rfl⟩⟩
            · cases ho
              have f91 : AA.eval (.tmp 91) = .int .i64 (i : Int) := hdep ⟨11, .data⟩ 91 (by simp) (by rfl) rfl (by simp)
              have f92 : AA.eval (.tmp 92) = .int .i64 (u : Int) := hdep ⟨12, .data⟩ 92 (by simp) (by rfl) rfl (by simp)
              have g1 : AA.tmps[91]?.getD undef = .int .i64 (i : Int) := by simpa [Act.eval] using f91
              have g2 : AA.tmps[92]?.getD undef = .int .i64 (u : Int) := by simpa [Act.eval] using f92
              refine ⟨wanted_free rfl, wp_value (v := .agg #[.int .i64 (i : Int), .int .i64 (u : Int)]) (w' := W) (by simp only [execOp]; simp [go_sem, g1, g2]) ⟨_, rfl, rfl, rfl⟩⟩
          case tail =>
            intro W ys o AA hst ho hev hdep
            match ys, hst, ho, hdep with
            | [], hst, ho, hdep =>
              cases ho
              have f93 : AA.eval (.tmp 93) = .agg #[.int .i64 (i : Int), .int .i64 (u : Int)] := (hdep ⟨13, .data⟩ 93 (by simp) (by rfl) rfl (by simp)).1 (by decide)
              have g1 : AA.tmps[93]?.getD undef = .agg #[.int .i64 (i : Int), .int .i64 (u : Int)] := by simpa [Act.eval] using f93
              have e := hst
              unfold StA DrewOf at e
              subst e
              exact ⟨wanted_free rfl, wp_value (v := .slice (some ⟨wc.heap.size, 0, none⟩) 1 1) (w' := wc.drew.alloc (.cells #[.int .i64 (i : Int), .int .i64 (u : Int)] 98)) (by simp only [execOp]; simp [go_sem, g1]) ⟨_, rfl, ⟨rfl, rfl⟩⟩⟩
            | [y], hst, ho, hdep =>
              cases ho
              obtain ⟨hW, rfl⟩ := hst
              have f90 : AA.eval (.tmp 90) = Vu := (hdep ⟨10, .data⟩ 90 (by simp) (by rfl) rfl (by simp)).1 (by decide)
              have f94 : AA.eval (.tmp 94) = .slice (some ⟨wc.heap.size, 0, none⟩) 1 1 := by
                have := (hdep ⟨14, .data⟩ 94 (by simp) (by rfl) rfl (by simp)).2 0 rfl
                injection this with this
                exact this.symm
              refine ⟨wanted_free rfl, ?_⟩
              obtain ⟨h1, h2, h3⟩ := HAPP.out W hW
              exact wp_appendB 98 (.agg #[.int .i64 0, .int .i64 0]) 2 16 Tryd.underlying96 Tryd.infoArm rfl (by decide) Vu rn _ f90 h1 ⟨wc.heap.size, 0, none⟩ 1 1 [.int .i64 (i : Int), .int .i64 (u : Int)] f94 rfl h2 (by simp [Value.oneCell']) (by unfold maxLen; omega) (by omega) (fun v' w' a1 a2 a3 => ⟨v', rfl, h3 v' w' a1 a2 a3⟩)
            | [y, z], hst, ho, hdep =>
              cases ho
              have f83 : AA.eval (.tmp 83) = .map (some mp) := (hdep ⟨3, .data⟩ 83 (by simp) (by rfl) rfl (by simp)).1 (by decide)
              have f84 : AA.eval (.tmp 84) = .int .i64 (v : Int) := (hdep ⟨4, .data⟩ 84 (by simp) (by rfl) rfl (by simp)).1 (by decide)
              have f95 : AA.eval (.tmp 95) = z := by
                have := (hdep ⟨15, .data⟩ 95 (by simp) (by rfl) rfl (by simp)).2 1 rfl
                injection this with this
                exact this.symm
              refine ⟨wanted_free rfl, ?_⟩
              refine wp_storeV Tryd.underlying3 Tryd.underlying93 f83 (HMAP.out.mod hst.1 (fun e => HNM.out mp e rfl)) (by unfold maxLen; omega) (i := (v : Int)) (wf_i64 (by omega) (by omega)) z f84 f95 (fun w' a1 a2 => ⟨_, rfl, ⟨W, hst, a1, a2⟩⟩)
            | [y, z, q], hst, ho, hdep => cases ho
            | _ :: _ :: _ :: _ :: _, hst, ho, hdep => cases hst
          case fin =>
            intro xs W hst hF
            have HFIN := Lib.hid (HFINL.out _ _ _ _ (show StA wc mp tb cs Vu ru v i u (cnt + 1) G [xs 14, xs 15, xs 16] W from hst))
            clear hst hF
            simp only [putAll, Nat.zero_add, Nat.reduceAdd]
            generalize xs 0 = z0
            generalize xs 1 = z1
            generalize xs 2 = z2
            generalize xs 3 = z3
            generalize xs 4 = z4
            generalize xs 5 = z5
            generalize xs 6 = z6
            generalize xs 7 = z7
            generalize xs 8 = z8
            generalize xs 9 = z9
            generalize xs 10 = z10
            generalize xs 11 = z11
            generalize xs 12 = z12
            generalize xs 13 = z13
            generalize xs 14 = z14
            generalize xs 15 = z15 at HFIN ⊢
            generalize xs 16 = z16
            have HS5 : Hid (ArS w4 W k mp (cnt + 1 + 1) tb cs (fun y => if y = v then z15 else V' y) (arTo l ((forL k l).take (t + 1)))) := HFIN.out.congr (fun y hy => by
              rw [HTK.out, arTo_snoc, HL2.out y]
              by_cases e1 : y = v
              · rw [if_pos e1, e1, if_neg (fun e => huv e.symm), HVV.out]
              · rw [if_neg e1]
                by_cases e2 : y = u
                · rw [if_pos e2, e2, HUU.out]
                · rw [if_neg e2, HXX.out y e2 e1, List.append_nil])
            clear xs HSTA HAPP HMAP HNM HFIN HFINL HS3
            go_wp2_with fail
            go_roundw
            case rel => exact ⟨t + 1, by omega, by go_num, _, _, by omega, HS5.out⟩
            case measure => simp [intOf]; omega
          -- TWO>
      · obtain rfl : N = t := by omega
        have tt : decide (N < N) = false := by simp
        have hall : (forL k l).take N = forL k l := List.take_of_length_le (by rw [HFN.out]; exact Nat.le_refl _)
        rw [hall] at HS1
        have hbb : Below wr.heap.size wr (wr.alloc (.cells #[.pointer (some ⟨tb, 0, none⟩)] 100)) := bel_alloc wr _
        have HR : Hid (MnPost w (k : Int) l (.returned (.tuple #[.pointer (some ⟨wr.heap.size, 0, none⟩), .int .i64 0])) (wr.alloc (.cells #[.pointer (some ⟨tb, 0, none⟩)] 100))) := by
          refine ⟨fun h => absurd HZ.out h, fun _ => ⟨⟨wr.heap.size, tb, ⟨lp, ldb, ljb⟩, ⟨⟨some ⟨lb, 0, none⟩, lb, 0, mm⟩, ⟨some ⟨rb, 0, none⟩, rb, 0, mm⟩, ⟨some ⟨pb, 0, none⟩, pb, 0, mm⟩, ⟨some ⟨hb', 0, none⟩, hb', 0, mm⟩, ⟨some ⟨sb, 0, none⟩, sb, 0, mm⟩⟩, fo, fc, fb, mp, V⟩, rfl, ?_⟩, bel_then HB4.out (bel_then HS1.out.bel hbb)⟩
          rw [Int.toNat_natCast]
          obtain ⟨G, hG, hGV⟩ := HS1.out.map
          have hb4 := bel_then HS1.out.bel hbb
          refine ⟨Blk.new _ _ [_], ?_, ?_, ?_, ?_, ⟨cnt, G, hG.below hbb hG.lt, hGV⟩, fun v hv => owns_mod (HS1.out.row v hv) (Mod.of_below (F := fun _ => False) hbb) (fun _ _ e => e)⟩
          · rw [HME.out, HNE.out]
            have := HS1.out.tre.below hbb HS1.out.tre.lt
            rw [← HCS.out] at this
            exact this
          · rw [HTE.out, HME.out]
            exact HLT.out.below hb4
          · rw [HTE.out]
            exact HTA4.out.below hb4
          · rw [HNE.out]
            exact HFR4.out.below hb4
        clear HS1 hbb hall htN
        go_wp2_with fail
        go_ret2
        exact HR.out
  · obtain rfl := hbad hz
    have t1 : (newErr n l != 0) = true := by simp [hz]
    have HZ := Lib.hid hz
    have HR : Hid (∀ z w', newErr n l = z → Below w.heap.size w w' → MnPost w n l (.returned (.tuple #[.pointer none, .int .i64 z])) w') := fun z w' e hb => ⟨fun _ => by rw [e], fun h => absurd h HZ.out, hb⟩
    clear hz hbad hok
    go_wp2_with fail
    go_ret2
    exact HR.out _ _ rfl (bel_then HB1.out (bel_alloc w1 _))

end Go.Proofs.YthacjealoomioaaDoor
