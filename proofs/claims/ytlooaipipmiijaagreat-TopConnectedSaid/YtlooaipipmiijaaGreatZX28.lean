/- Several texts in one: LcS. -/
import Derived.Test.YtlooaipipmiijaaGreatZX05
import Derived.Test.YtlooaipipmiijaaGreatZX11
import Derived.Test.YtlooaipipmiijaaGreatZX27
namespace Go.Proofs.YtlooaipipmiijaaGreat
set_option linter.unusedVariables false
set_option linter.unusedSimpArgs false
open Go.RowKit Go.Shelf
attribute [local go_sem] Oper.semAt_some
theorem Tryz.infoIntL : (Tryz.prog.info? 3).map (fun i => (i.zero, i.size, i.bytes)) = some (some (.int .i64 0), 1, 8) := by kernel_rfl
def natL (l : List Nat) : List Value := l.map fun x : Nat => .int .i64 (x : Int)
theorem natL_snoc (l : List Nat) (x : Nat) : natL (l ++ [x]) = natL l ++ [.int .i64 (x : Int)] := by simp [natL]
theorem natL_get {l : List Nat} {i : Nat} (h : i < l.length) : (natL l)[i]? = some (.int .i64 ((l.getD i 0 : Nat) : Int)) := by
  unfold natL
  rw [List.getElem?_map, List.getElem?_eq_getElem h, List.getD_eq_getElem?_getD, List.getElem?_eq_getElem h]; rfl
set_option maxHeartbeats 400000 in
theorem lcbw_any (a : Addr) (n c : Nat) (w : World) : Calls Tryz.prog 144 #[.slice (some a) n c] w (Ret (.func (.func 158) #[] #[.pointer (some ⟨w.heap.size, 0, none⟩)]) (w.alloc (.cells #[.slice (some a) n c] 58))) := by
  go_enter Tryz.func144, Tryz.ntmps144
  go_wp2
  go_ret
  exact ⟨rfl, rfl⟩
set_option maxHeartbeats 2000000 in
set_option maxRecDepth 100000 in
theorem lcbw1_in (n : Nat) (b3 vb cap L : Nat) (P : List Nat) (hP : P.length ≤ 3000000) (J : Nat → World → Prop)
    (hJ : ∀ k W, J k W → W.cell? ⟨b3, 0, none⟩ = some (.slice (some ⟨vb, 0, none⟩) P.length cap) ∧ ∀ i, i < P.length → W.cell? ⟨vb, i, none⟩ = some (.int .i64 ((P.getD i 0 : Nat) : Int)))
    (W : World) (h0 : J 0 W)
    (hY : ∀ k W1, k < P.length → J k W1 → YieldAt Fence.wide (n - 1) Tryz.prog L #[.int .i64 ((P.length - 1 - k : Nat) : Int), .int .i64 ((P.getD (P.length - 1 - k) 0 : Nat) : Int)] W1 fun e W' => e = .returned (.bool true) ∧ J (k + 1) W') :
    CallsIn Fence.wide n Tryz.prog 158 #[.func (.yield L) #[] #[], .pointer (some ⟨b3, 0, none⟩)] W fun e W' => (∃ v, e = .returned v) ∧ J P.length W' := by
  have HJ := Lib.hid hJ
  have H0 := Lib.hid h0
  have HY := Lib.hid hY
  have c0 := (hJ 0 W h0).1
  clear hJ h0 hY
  refine callsIn_of_wp Tryz.func158 rfl trivial ?_ rfl
  simp only [Tryz.ntmps158, List.size_toArray, List.length_cons, List.length_nil, Nat.reduceAdd, Nat.reduceSub, Array.replicate_succ, Array.replicate_zero, List.push_toArray, List.append_toArray, List.nil_append, List.cons_append]
  gi_wp2_with fail
  gi_loopw [3] (fun s wr => ∃ k : Nat, k ≤ P.length ∧ s = .int .i64 ((P.length : Int) - 1 - (k : Int)) ∧ J k wr) (fun s _ => (intOf s + 1).toNat)
  case atStart => exact ⟨0, Nat.zero_le _, by go_num, H0.out⟩
  case round =>
    obtain ⟨k, hk, rfl, hj⟩ := hrel
    obtain ⟨d0, d1⟩ := HJ.out k wr hj
    have HJK := Lib.hid hj
    clear hj c0
    by_cases hkl : k < P.length
    · obtain ⟨q, hq, hq2⟩ : ∃ q : Nat, (P.length : Int) - 1 - (k : Int) = (q : Int) ∧ P.length - 1 - k = q := ⟨P.length - 1 - k, by omega, rfl⟩
      have hqn : q < P.length := by omega
      have e1 := d1 q hqn
      rw [hq]
      have HQ2 := Lib.hid hq2
      have HQ := Lib.hid hq
      obtain ⟨x, HX⟩ : ∃ x, Hid (P.getD q 0 = x) := ⟨_, rfl⟩
      rw [HX.out] at e1
      have hyy := HY.out k wr hkl HJK.out
      rw [HQ2.out, HX.out] at hyy
      obtain ⟨fn, tmps, assign, body, hy, hR⟩ := hyy
      have HR := Lib.hid hR
      have t1 : decide ((0 : Int) ≤ (q : Int)) = true := decide_eq_true (by omega)
      have g1 : (q : Int) < (P.length : Int) := by omega
      have g2 : (0 : Int) ≤ (q : Int) := by omega
      clear hR hq hq2 d1
      gi_wp2_with fail
      refine ⟨fun h => by simp [Fence.wide] at h, HR.out.mono ?_⟩
      rintro e w5 ⟨rfl, hj5⟩
      have HJ5 := Lib.hid hj5
      clear hj5 d0 e1 hy
      gi_wp2_with fail
      go_roundw
      case rel => exact ⟨k + 1, by omega, by have := HQ.out; go_num, HJ5.out⟩
      case measure => have := HQ.out; simp [intOf] <;> omega
    · obtain rfl : k = P.length := by omega
      have t1 : decide ((0 : Int) ≤ (P.length : Int) - 1 - (P.length : Int)) = false := decide_eq_false (by omega)
      have e : (P.length : Int) - 1 - (P.length : Int) = -1 := by omega
      rw [e]
      clear t1 e d1
      gi_wp2_with fail
      go_end0
      exact ⟨⟨_, rfl⟩, HJK.out⟩
noncomputable def leastN (P : Nat → Prop) : Nat := Classical.epsilon fun m => P m ∧ ∀ k, k < m → ¬ P k
theorem leastN_ex {P : Nat → Prop} : ∀ b m, m < b → P m → ∃ m, P m ∧ ∀ k, k < m → ¬ P k
  | 0, m, h, _ => absurd h (Nat.not_lt_zero m)
  | b + 1, m, h, hm => by
    by_cases c : ∃ k, k < m ∧ P k
    · obtain ⟨k, h1, h2⟩ := c
      exact leastN_ex b k (by omega) h2
    · exact ⟨m, hm, fun k hk hp => c ⟨k, hk, hp⟩⟩
theorem leastN_at {P : Nat → Prop} {m : Nat} (h : P m) : P (leastN P) ∧ leastN P ≤ m := by
  have h1 := Classical.epsilon_spec (leastN_ex (m + 1) m (by omega) h)
  refine ⟨h1.1, ?_⟩
  by_cases c : leastN P ≤ m
  · exact c
  · exact absurd h (h1.2 m (by show m < leastN P; omega))
def pushes (N : NS) (P : List Nat) : NS := P.foldr (fun j M => pushN M j) N
theorem pushes_cons (N : NS) (j : Nat) (P : List Nat) : pushes N (j :: P) = pushN (pushes N P) j := rfl
structure SpI (w : World) (p g n : Nat) (N : NS) (ed : Int) (P : List Nat) (b2 b3 vb cap L D : Nat) (r : Loop) (k : Nat) (W : World) : Prop where
  obj : LObj W p g n (pushes N (P.drop (P.length - k))) ed
  xf : Blk W b2 109 [.pointer (some ⟨p, 0, none⟩)]
  xs : Blk W b3 58 [.slice (some ⟨vb, 0, none⟩) P.length cap]
  row : ∀ i, i < P.length → W.cell? ⟨vb, i, none⟩ = some (.int .i64 ((P.getD i 0 : Nat) : Int))
  vlt : vb < W.heap.size
  vnl : vb ≠ L ∧ vb ≠ D ∧ vb ≠ g
  lp : W.heap[L]? = some (.loop r)
  df : W.heap[D]? = some (.deferred (some []))
  mod : Mod (fun x => x = g) w W
  ge : g < w.heap.size ∧ w.heap.size ≤ b2 ∧ w.heap.size ≤ b3 ∧ w.heap.size ≤ L ∧ w.heap.size ≤ D
theorem SpI.turn {w : World} {p g n : Nat} {N : NS} {ed : Int} {P : List Nat} {b2 b3 vb cap L D : Nat} {r : Loop} {k : Nat} {W : World} (h : SpI w p g n N ed P b2 b3 vb cap L D r k W) (r' : Loop) : SpI w p g n N ed P b2 b3 vb cap L D r' k (W.putObj L (.loop r')) := by
  have ltL : L < W.heap.size := (Array.getElem?_eq_some_iff.1 h.lp).1
  have hm : Mod (fun x => x = L) W (W.putObj L (.loop r')) := (Mod.refl _ _).putObj L _ (fun _ => rfl)
  have nc : ∀ {x : Nat} {T : TypeId} {cs : List Value}, Blk W x T cs → x ≠ L := fun hb e => by
    subst e; unfold Blk at hb; rw [h.lp] at hb; cases hb
  have hDL : D ≠ L := fun e => by have := h.df; rw [e, h.lp] at this; cases this
  have hge := h.ge
  refine { h with obj := h.obj.mod hm (h.obj.box.elim fun _ h => nc h) (h.obj.row.elim fun _ h => nc h), xf := h.xf.mod hm (nc h.xf), xs := h.xs.mod hm (nc h.xs), row := fun i hi => (hm.cell (p := ⟨vb, i, none⟩) h.vlt h.vnl.1).trans (h.row i hi), vlt := Nat.lt_of_lt_of_le h.vlt hm.size, lp := World.putObj_heap_same ltL, df := (World.putObj_heap_other hDL).trans h.df, mod := ?_ }
  exact h.mod.putObj L _ (fun hh => by omega)
theorem SpI.step {w : World} {p g n : Nat} {N : NS} {ed : Int} {P : List Nat} {b2 b3 vb cap L D : Nat} {r : Loop} {k : Nat} {W W' : World} (h : SpI w p g n N ed P b2 b3 vb cap L D r k W) (hk : k < P.length) (hm : Mod (fun x => x = g) W W')
    (ho : LObj W' p g n (pushN (pushes N (P.drop (P.length - k))) (P.getD (P.length - 1 - k) 0)) ed) : SpI w p g n N ed P b2 b3 vb cap L D r (k + 1) W' := by
  have hge := h.ge
  have e : P.drop (P.length - (k + 1)) = P.getD (P.length - 1 - k) 0 :: P.drop (P.length - k) := by
    rw [show P.length - (k + 1) = P.length - 1 - k by omega, List.drop_eq_getElem_cons (by omega), show P.length - 1 - k + 1 = P.length - k by omega, List.getD_eq_getElem?_getD, List.getElem?_eq_getElem (by omega)]
    rfl
  have ltL : L < W.heap.size := (Array.getElem?_eq_some_iff.1 h.lp).1
  have ltD : D < W.heap.size := (Array.getElem?_eq_some_iff.1 h.df).1
  refine { h with obj := by rw [e, pushes_cons]; exact ho, xf := h.xf.mod hm (by omega), xs := h.xs.mod hm (by omega), row := fun i hi => (hm.cell (p := ⟨vb, i, none⟩) h.vlt h.vnl.2.2).trans (h.row i hi), vlt := Nat.lt_of_lt_of_le h.vlt hm.size, lp := (hm.block L ltL (by omega)).trans h.lp, df := (hm.block D ltD (by omega)).trans h.df, mod := h.mod.trans hm (fun _ _ e => e) }
def sliceLen : Value → Nat
  | .slice _ n _ => n
  | _ => 0
theorem CP.le {n : Nat} {N : NS} (hb : BdN n N) : ∀ {L : List Nat} {i : Nat}, CP N i L → i ≤ n → ∀ x, x ∈ i :: L → x ≤ n
  | [], i, _, hi, x, hx => by rw [List.mem_singleton.1 hx]; exact hi
  | p :: L, i, ⟨_, b, c⟩, hi, x, hx => by
    rcases List.mem_cons.1 hx with e | e
    · rw [e]; exact hi
    · exact CP.le hb c (by rw [← b]; exact (hb i hi).2.2.1) x e
theorem CP.at_ {N : NS} : ∀ {L : List Nat} {i : Nat}, CP N i L → ∀ k, k < L.length → sideN N ((i :: L).getD k 0) ≠ none ∧ (N ((i :: L).getD k 0)).up = (i :: L).getD (k + 1) 0
  | p :: L, i, ⟨a, b, c⟩, 0, _ => ⟨a, b⟩
  | p :: L, i, ⟨a, b, c⟩, k + 1, h => CP.at_ c k (by simpa using h)
set_option maxHeartbeats 8000000 in
set_option maxRecDepth 100000 in
theorem lc_splay (w : World) (p g n : Nat) (N : NS) (ed : Int) (h : LObj w p g n N ed) (i : Nat) (hi : i ≤ n) (N' : NS) (hs : SplayR N i N') :
    Calls Tryz.prog 134 #[.pointer (some ⟨p, 0, none⟩), .int .i64 (i : Int)] w (LPost w p g n N' ed (.tuple #[])) := by
  obtain ⟨L, m, hLb, hcp, hlast, hspin⟩ := hs
  refine (callsIn_wide (n := 3)).1 ?_
  have hn := h.nb
  have hge0 := h.glt
  have HCP := Lib.hid hcp
  have HLE := Lib.hid (CP.le h.bd hcp hi)
  have HLA := Lib.hid hlast
  have HSP := Lib.hid hspin
  have hb1 : Below w.heap.size w (w.alloc (.cells #[.pointer (some ⟨p, 0, none⟩)] 109)) := bel_alloc w _
  have HO1 := Lib.hid (h.below hb1)
  have HB1 := Lib.hid hb1
  have HX1 := Lib.hid (Blk.new w 109 [.pointer (some ⟨p, 0, none⟩)])
  clear h hcp hlast hspin hb1
  refine callsIn_of_wp_marks Tryz.func134 rfl trivial ?_ rfl
  simp only [Tryz.ntmps134, List.size_toArray, List.length_cons, List.length_nil, Nat.reduceAdd, Nat.reduceSub, Array.replicate_succ, Array.replicate_zero, List.push_toArray, List.append_toArray, List.nil_append, List.cons_append]
  refine wpIn_wide.2 ?_
  go_wp2_with fail
  generalize (w.alloc (.cells #[.pointer (some ⟨p, 0, none⟩)] 109)) = W1 at *
  have HZ0 : Hid (w.heap.size < W1.heap.size) := HX1.out.lt
  have hpL := HO1.out.plt
  go_step3
  go_wp2_with fail
  go_step3
  go_wp2_with fail
  have hmem : ∀ y, y ∈ i :: L → y ≤ n := HLE.out
  go_loopw [4, 5] (fun s4 s5 wr => ∃ (k : Nat) (ao : Option Addr) (cp : Nat), k ≤ L.length ∧ s4 = .slice ao k cp ∧ s5 = .int .i64 (((i :: L).getD k 0 : Nat) : Int) ∧ wr.ownsRow 0 3 1 (.slice ao k cp) k (natL ((i :: L).take k)) ∧ (∀ b, (Value.slice ao k cp).ownBlock = some b → W1.heap.size ≤ b) ∧ Below W1.heap.size W1 wr) (fun s4 _ _ => L.length + 1 - sliceLen s4)
  case atStart => exact ⟨0, none, 0, Nat.zero_le _, rfl, rfl, World.ownsRow_nil _ _ _ _, (fun b h => by cases h), Below.refl _ _⟩
  case round =>
    obtain ⟨k, ao, cp, hk, rfl, rfl, hrow, hrb, hbr⟩ := hrel
    obtain ⟨j, HJ⟩ : ∃ j, Hid ((i :: L).getD k 0 = j) := ⟨_, rfl⟩
    rw [HJ.out]
    have hjk : (i :: L)[k]'(by simp; omega) = j := by rw [← HJ.out, List.getD_eq_getElem?_getD, List.getElem?_eq_getElem (by simp; omega)]; rfl
    have hjn : j ≤ n := hmem j (by rw [← hjk]; exact List.getElem_mem _)
    have HTK : Hid (natL ((i :: L).take (k + 1)) = natL ((i :: L).take k) ++ [.int .i64 (j : Int)]) := by
      show _ = _
      rw [List.take_succ_eq_append_getElem (by simp; omega), natL_snoc, hjk]
    have hown := Lib.hid (hrow.alloc (.cells #[.int .i64 (j : Int)] 3))
    have hnews := Lib.hid (news_new wr 3 [.int .i64 (j : Int)])
    have HRB := Lib.hid hrb
    have HBR := Lib.hid hbr
    clear hrow hrb hbr hjk
    go_wp2_with (at_builtin; with_reducible refine wpList_appendB 3 (.int .i64 0) 1 8 Tryz.underlying58 Tryz.infoIntL rfl (by decide) (.slice ao k cp) k (natL ((i :: L).take k)) rfl hown.out ⟨wr.heap.size, 0, none⟩ 1 1 [.int .i64 (j : Int)] rfl rfl hnews.out (by simp [Value.oneCell']) (by unfold maxLen; omega) (by omega) ?_)
    intro v' w2 ho hg hnn
    obtain ⟨ao', cp', rfl⟩ := owns_slice ho
    rw [← HTK.out] at ho
    have HOW := Lib.hid ho
    have hsz := HBR.out.size
    have HB2 : Hid (Below W1.heap.size W1 w2) := by
      have m1 : Mod (fun x => W1.heap.size ≤ x) W1 (wr.alloc (.cells #[.int .i64 (j : Int)] 3)) := (Mod.of_below HBR.out).alloc _
      exact (m1.grown hg (fun b e _ => HRB.out b e)).below (Nat.le_refl _) (fun x hx => hx)
    have HRB2 : Hid (∀ b, (Value.slice ao' (k + 1) cp').ownBlock = some b → W1.heap.size ≤ b) := fun b hb => by
      rcases hnn b hb with e | e
      · exact HRB.out b e
      · have : (wr.alloc (.cells #[.int .i64 (j : Int)] 3)).heap.size = wr.heap.size + 1 := by simp
        omega
    have HO2 := Lib.hid (HO1.out.below HB2.out)
    have HX2 := Lib.hid (HX1.out.below HB2.out HZ0.out)
    clear ho hg hnn hown hnews HRB HBR hsz
    have cx := HX2.out.cell (i := 0) rfl
    obtain ⟨cap1, c1⟩ := HO2.out.c1
    by_cases hkL : k < L.length
    · obtain ⟨s1, s2⟩ := CP.at_ HCP.out k hkL
      rw [HJ.out] at s1 s2
      obtain ⟨s, hs⟩ : ∃ s, sideN N j = some s := by
        cases hq : sideN N j with
        | none => exact absurd hq s1
        | some s => exact ⟨s, rfl⟩
      obtain ⟨u, HU⟩ : ∃ u, Hid ((i :: L).getD (k + 1) 0 = u) := ⟨_, rfl⟩
      rw [HU.out] at s2
      have hcon := lc_side w2 p g n N ed HO2.out j hjn
      obtain ⟨si, HSI⟩ : ∃ si : Int, Hid ((if s = true then 1 else 0) = si) := ⟨_, rfl⟩
      rw [hs, show sideR (some s) = .tuple #[.int .i64 (if s = true then 1 else 0), .bool true] from rfl, HSI.out] at hcon
      clear s1 hs
      go_wp2_with fail
      with_reducible refine hcon.mono ?_
      rintro e w3 ⟨rfl, hb3⟩
      have HB3 : Hid (Below W1.heap.size W1 w3) := HB2.out.trans (hb3.mono HB2.out.size)
      have HOW3 := Lib.hid (owns_modL HOW.out (Mod.of_below (F := fun _ => False) hb3) (fun _ _ h => h))
      have HO3 := Lib.hid (HO1.out.below HB3.out)
      have HX3 := Lib.hid (HX1.out.below HB3.out HZ0.out)
      clear hb3 hcon cx c1 HO2 HX2 HB2 HOW
      have cx := HX3.out.cell (i := 0) rfl
      obtain ⟨cap1, c1⟩ := HO3.out.c1
      have q2 : w3.cell? ⟨g, j * 9 + 2, none⟩ = some (.int .i64 (u : Int)) := by rw [← s2]; exact HO3.out.at_ hjn 2 (by omega)
      have g1 : (j : Int) < (n + 1 : Nat) := by omega
      have g2 : (0 : Int) ≤ (j : Int) := by omega
      go_wp2_with fail
      clear cx c1 q2
      go_roundw
      case rel => exact ⟨k + 1, ao', cp', by omega, rfl, by rw [HU.out], HOW3.out, HRB2.out, HB3.out⟩
      case measure => simp [sliceLen]; omega
    · obtain rfl : k = L.length := by omega
      have hsd : sideN N j = none := by
        rw [← HJ.out, List.getD_eq_getElem?_getD, List.getElem?_eq_getElem (by simp)]
        have := HLA.out
        rw [List.getLast_eq_getElem] at this
        simpa using this
      have hcon := lc_side w2 p g n N ed HO2.out j hjn
      rw [hsd, show sideR none = .tuple #[.int .i64 0, .bool false] from rfl] at hcon
      clear hsd
      go_wp2_with fail
      with_reducible refine hcon.mono ?_
      rintro e w3 ⟨rfl, hb3⟩
      have HB3 : Hid (Below W1.heap.size W1 w3) := HB2.out.trans (hb3.mono HB2.out.size)
      have HOW3 := Lib.hid (owns_modL HOW.out (Mod.of_below (F := fun _ => False) hb3) (fun _ _ h => h))
      have HO3 := Lib.hid (HO1.out.below HB3.out)
      have HX3 := Lib.hid (HX1.out.below HB3.out HZ0.out)
      clear hb3 hcon cx c1 HO2 HX2 HB2 HOW
      obtain ⟨vb, cap, he, _, _, hvl, hcell, _⟩ := owns_form HOW3.out (by omega)
      injection he with he1 he2 he3
      subst he1 he3
      have HVB : Hid (W1.heap.size ≤ vb) := HRB2.out vb rfl
      have HVC : Hid (∀ q, q < (i :: L).length → w3.cell? ⟨vb, q, none⟩ = some (.int .i64 (((i :: L).getD q 0 : Nat) : Int))) := fun q hq => by
        rw [hcell q (by simp at hq; omega), List.take_of_length_le (by simp)]
        exact natL_get hq
      have hvl3 : vb < w3.heap.size := hvl
      clear hcell HRB2 HOW3 hvl
      go_wp2_with fail
      have hb4 : Below w3.heap.size w3 (w3.alloc (.cells #[.slice (some ⟨vb, 0, none⟩) (L.length + 1) cp'] 58)) := bel_alloc w3 _
      have HO4 := Lib.hid (HO3.out.below hb4)
      have HX4 := Lib.hid (HX3.out.below hb4 HX3.out.lt)
      have HS4 := Lib.hid (Blk.new w3 58 [.slice (some ⟨vb, 0, none⟩) (L.length + 1) cp'])
      have HV4 : Hid (∀ q, q < (i :: L).length → (w3.alloc (.cells #[.slice (some ⟨vb, 0, none⟩) (L.length + 1) cp'] 58)).cell? ⟨vb, q, none⟩ = some (.int .i64 (((i :: L).getD q 0 : Nat) : Int))) := fun q hq => (hb4.cell hvl3).trans (HVC.out q hq)
      have hvl4 : vb < (w3.alloc (.cells #[.slice (some ⟨vb, 0, none⟩) (L.length + 1) cp'] 58)).heap.size := by simp; omega
      have HB4 : Hid (Below w.heap.size w (w3.alloc (.cells #[.slice (some ⟨vb, 0, none⟩) (L.length + 1) cp'] 58))) := (HB1.out.trans (HB3.out.mono HB1.out.size)).trans (hb4.mono (by have := HB1.out.size; have := HB3.out.size; omega))
      have hz3 : w.heap.size < w3.heap.size := HX3.out.lt
      have hgg : g < w.heap.size := hge0
      have hvg : W1.heap.size ≤ vb := HVB.out
      have hz1 := HZ0.out
      clear HO3 HX3 HVC HB3 hb4 HVB
      with_reducible refine (lcbw_any _ _ _ w3).mono ?_
      rintro e w4 ⟨rfl, rfl⟩
      go_wp2_with fail
      obtain ⟨b3, HB3E⟩ : ∃ b3, Hid (w3.heap.size = b3) := ⟨_, rfl⟩
      rw [HB3E.out] at HS4 hz3 hvl3
      simp only [HB3E.out]
      generalize (w3.alloc (.cells #[.slice (some ⟨vb, 0, none⟩) (L.length + 1) cp'] 58)) = W4 at *
      refine (wpIn_wide (n := 3)).1 ?_
      have hb34 : b3 < W4.heap.size := HS4.out.lt
      have HINV : Hid (∀ r : Loop, SpI w p g n N ed (i :: L) w.heap.size b3 vb cp' (W4.heap.size + 1) W4.heap.size r 0 ((W4.alloc (.deferred (some []))).alloc (.loop r))) := fun r => by
        have hbb : Below W4.heap.size W4 ((W4.alloc (.deferred (some []))).alloc (.loop r)) := (bel_alloc W4 _).alloc (by simp) _
        refine ⟨?_, HX4.out.below hbb HX4.out.lt, HS4.out.below hbb HS4.out.lt, fun q hq => (hbb.cell hvl4).trans (HV4.out q hq), by simp; omega, ⟨by omega, by omega, by omega⟩, ?_, ?_, Mod.of_below (HB4.out.trans (hbb.mono HB4.out.size)), ⟨hgg, by omega, by omega, by have := HB4.out.size; omega, by have := HB4.out.size; omega⟩⟩
        · rw [Nat.sub_zero, List.drop_length]; exact HO4.out.below hbb
        · have := World.alloc_heap_new (W4.alloc (.deferred (some []))) (.loop r)
          simpa using this
        · rw [Below.heap_alloc _ _ _ (by simp)]
          have := World.alloc_heap_new W4 (.deferred (some []))
          simpa using this
      clear HO4 HX4 HS4 HV4 HB4
      have HSL : Hid ((i :: L).length ≤ 3000000) := by show _ ≤ _; simp; omega
      refine wp_range (gf := 158) (lb := #[.pointer (some ⟨b3, 0, none⟩)]) rfl (enters_of Tryz.func158 (by kernel_rfl) rfl)
        (fun W5 => ∃ r, SpI w p g n N ed (i :: L) w.heap.size b3 vb cp' (W4.heap.size + 1) W4.heap.size r (i :: L).length W5) ?call ?done
      case call =>
        intro fn
        simp only [List.append_toArray, List.cons_append, List.nil_append]
        refine CallsIn.mono (lcbw1_in 2 b3 vb cp' (W4.heap.size + 1) (i :: L) HSL.out (fun k X => SpI w p g n N ed (i :: L) w.heap.size b3 vb cp' (W4.heap.size + 1) W4.heap.size _ k X) (fun k X hX => ⟨hX.xs.cell (i := 0) rfl, hX.row⟩) _ (HINV.out _) ?_) ?_
        · intro k X hk hX
          obtain ⟨x, HXE⟩ : ∃ x, Hid ((i :: L).getD ((i :: L).length - 1 - k) 0 = x) := ⟨_, rfl⟩
          have hxn : x ≤ n := hmem x (by rw [← HXE.out, List.getD_eq_getElem?_getD, List.getElem?_eq_getElem (by omega)]; exact List.getElem_mem _)
          rw [HXE.out]
          have hKK := Lib.hid hk
          refine yieldAt_of hX.lp rfl ?a1 ?asg ?bd
          case asg =>
            intro K hK
            gi_wp2
            exact hK
          case bd =>
            intro r rb Wb hr hWb
            rw [hr] at hX ⊢
            have hX2 := hX.turn rb
            rw [← hWb] at hX2
            clear hX hWb hr
            have HX := Lib.hid hX2
            clear hX2
            have cx := HX.out.xf.cell (i := 0) rfl
            gi_wp2_with fail
            refine ⟨trivial, CallsIn.mono ((callsIn_wide.2 (lc_push Wb p g n _ ed HX.out.obj x hxn)).inRound _) ?_⟩
            rintro e w6 ⟨rfl, ho6, hm6⟩
            have HS6 := Lib.hid (HX.out.step hKK.out hm6 (by rw [HXE.out]; exact ho6))
            clear ho6 hm6 cx HX
            gi_wp2_with fail
            exact ⟨HS6.out.lp, rfl, HS6.out.turn r⟩
        · rintro e W5 ⟨hv, hi5⟩
          exact ⟨hv, hi5.lp, hi5.df, _, hi5⟩
      case done =>
        rintro W5 r' ⟨r, hi5⟩
        have hi6 := hi5.turn r'
        generalize World.putObj W5 _ _ = W6 at hi6 ⊢
        clear hi5 HINV
        have ho6 := hi6.obj
        rw [Nat.sub_self, List.drop_zero] at ho6
        have HO6 := Lib.hid ho6
        have HX6 := Lib.hid hi6.xf
        have HD6 := Lib.hid hi6.df
        have HM6 := Lib.hid hi6.mod
        have hwz : w.heap.size ≤ W4.heap.size := hi6.ge.2.2.2.2
        clear hi6 ho6
        go_wp2_with fail
        go_loopw [10] (fun _ wr => ∃ M m, LObj wr p g n M ed ∧ SpinR m M i N' ∧ Blk wr w.heap.size 109 [.pointer (some ⟨p, 0, none⟩)] ∧ wr.heap[W4.heap.size]? = some (.deferred (some [])) ∧ Mod (fun x => x = g) w wr) (fun _ wr => leastN (fun m => ∃ M, LObj wr p g n M ed ∧ SpinR m M i N'))
        case atStart => exact ⟨_, m, HO6.out, HSP.out, HX6.out, HD6.out, HM6.out⟩
        case round =>
          obtain ⟨M0, m0, ho0, hs0, hx0, hd0, hm0⟩ := hrel
          clear HO6 HX6 HD6 HM6
          obtain ⟨⟨M, hoM, hsM⟩, _⟩ := leastN_at (P := fun m => ∃ M, LObj wr p g n M ed ∧ SpinR m M i N') ⟨M0, ho0, hs0⟩
          obtain ⟨mm, HMM⟩ : ∃ mm, Hid (leastN (fun m => ∃ M, LObj wr p g n M ed ∧ SpinR m M i N') = mm) := ⟨_, rfl⟩
          rw [HMM.out] at hsM
          have HO1 := Lib.hid hoM
          have HX1b := Lib.hid hx0
          have HD1 := Lib.hid hd0
          have HM1 := Lib.hid hm0
          have cx := hx0.cell (i := 0) rfl
          clear ho0 hs0 hx0 hd0 hm0 hoM
          cases hsM with
          | done hsd =>
            have hcon := lc_side wr p g n _ ed HO1.out i hi
            rw [hsd, show sideR none = .tuple #[.int .i64 0, .bool false] from rfl] at hcon
            clear hsd
            go_wp2_with fail
            with_reducible refine hcon.mono ?_
            rintro e w8 ⟨rfl, hbn⟩
            have HO2 := Lib.hid (HO1.out.below hbn)
            have HX2 := Lib.hid (HX1b.out.below hbn HX1b.out.lt)
            have HD2 : Hid (w8.heap[W4.heap.size]? = some (.deferred (some []))) := (hbn.block _ (Array.getElem?_eq_some_iff.1 HD1.out).1).trans HD1.out
            have HM2 : Hid (Mod (fun x => x = g) w w8) := HM1.out.trans (Mod.of_below (F := fun _ => False) hbn) (fun _ _ e => e.elim)
            clear hbn hcon cx HO1 HX1b HD1 HM1
            have cx := HX2.out.cell (i := 0) rfl
            go_wp2_with fail
            try rw [Exit.noGoto_ret]
            refine ⟨by simp, .inl ⟨_, _, rfl, run_takeDeferred HD2.out, ?_⟩⟩
            refine ⟨_, results_none rfl _ _ _, rfl, ?_, ?_⟩
            · have hm : Mod (fun x => x = W4.heap.size) w8 (w8.putObj W4.heap.size (.deferred none)) := (Mod.refl _ _).putObj _ _ (fun _ => rfl)
              have nc : ∀ {x : Nat} {T : TypeId} {cs : List Value}, Blk w8 x T cs → x ≠ W4.heap.size := fun hb e => by
                subst e; have := HD2.out; unfold Blk at hb; rw [this] at hb; cases hb
              exact HO2.out.mod hm (HO2.out.box.elim fun _ h => nc h) (HO2.out.row.elim fun _ h => nc h)
            · exact HM2.out.putObj W4.heap.size _ (fun h => absurd h (by omega))
          | @one m1 _ _ _ s hsd hsp hrp hk =>
            obtain ⟨si, HSI⟩ : ∃ si : Int, Hid ((if s = true then 1 else 0) = si) := ⟨_, rfl⟩
            have hcon := lc_side wr p g n M ed HO1.out i hi
            rw [hsd, show sideR (some s) = .tuple #[.int .i64 (if s = true then 1 else 0), .bool true] from rfl, HSI.out] at hcon
            go_wp2_with fail
            with_reducible refine hcon.mono ?_
            rintro e w8 ⟨rfl, hbn⟩
            have HO2 := Lib.hid (HO1.out.below hbn)
            have HX2 := Lib.hid (HX1b.out.below hbn HX1b.out.lt)
            have HD2 : Hid (w8.heap[W4.heap.size]? = some (.deferred (some []))) := (hbn.block _ (Array.getElem?_eq_some_iff.1 HD1.out).1).trans HD1.out
            have HM2 : Hid (Mod (fun x => x = g) w w8) := HM1.out.trans (Mod.of_below (F := fun _ => False) hbn) (fun _ _ e => e.elim)
            clear hbn hcon cx HO1 HX1b HD1 HM1
            have cx := HX2.out.cell (i := 0) rfl
            obtain ⟨cap1, c1⟩ := HO2.out.c1
            obtain ⟨pp, HPP⟩ : ∃ x, Hid ((M i).up = x) := ⟨_, rfl⟩
            have hpp : pp ≤ n := by rw [← HPP.out]; exact (HO2.out.bd i hi).2.2.1
            have q2 : w8.cell? ⟨g, i * 9 + 2, none⟩ = some (.int .i64 (pp : Int)) := by rw [← HPP.out]; exact HO2.out.at_ hi 2 (by omega)
            have g1 : (i : Int) < (n + 1 : Nat) := by omega
            have g2 : (0 : Int) ≤ (i : Int) := by omega
            rw [HPP.out] at hsp
            have HRP := Lib.hid hrp
            have HKK := Lib.hid hk
            have hcon := lc_side w8 p g n M ed HO2.out pp hpp
            rw [hsp, show sideR none = .tuple #[.int .i64 0, .bool false] from rfl] at hcon
            clear hsd hsp hk hrp
            go_wp2_with fail
            with_reducible refine hcon.mono ?_
            rintro e w9 ⟨rfl, hbn⟩
            have HO3 := Lib.hid (HO2.out.below hbn)
            have HX3 := Lib.hid (HX2.out.below hbn HX2.out.lt)
            have HD3 : Hid (w9.heap[W4.heap.size]? = some (.deferred (some []))) := (hbn.block _ (Array.getElem?_eq_some_iff.1 HD2.out).1).trans HD2.out
            have HM3 : Hid (Mod (fun x => x = g) w w9) := HM2.out.trans (Mod.of_below (F := fun _ => False) hbn) (fun _ _ e => e.elim)
            clear hbn hcon cx c1 q2 HO2 HX2 HD2 HM2
            have cx := HX3.out.cell (i := 0) rfl
            go_wp2_with fail
            with_reducible refine (lc_rotate w9 p g n M ed HO3.out i hi HRP.out).mono ?_
            rintro e w10 ⟨rfl, ho, hm⟩
            have HO4 := Lib.hid ho
            have HX4 := Lib.hid (HX3.out.mod hm (by omega))
            have HD4 : Hid (w10.heap[W4.heap.size]? = some (.deferred (some []))) := (hm.block _ (Array.getElem?_eq_some_iff.1 HD3.out).1 (by omega)).trans HD3.out
            have HM4 : Hid (Mod (fun x => x = g) w w10) := HM3.out.trans hm (fun _ _ e => e)
            clear ho hm cx HO3 HX3 HD3 HM3
            have cx := HX4.out.cell (i := 0) rfl
            go_wp2_with fail
            clear cx
            have HLE2 : Hid (leastN (fun m => ∃ M, LObj w10 p g n M ed ∧ SpinR m M i N') ≤ m1) := (leastN_at (P := fun m => ∃ M, LObj w10 p g n M ed ∧ SpinR m M i N') ⟨_, HO4.out, HKK.out⟩).2
            go_roundw
            case rel => exact ⟨_, m1, HO4.out, HKK.out, HX4.out, HD4.out, HM4.out⟩
            case measure => have := HLE2.out; have := HMM.out; show leastN _ < leastN _; omega
          | @zig m1 _ _ _ s hsd hsp hrp hrp2 hk =>
            obtain ⟨si, HSI⟩ : ∃ si : Int, Hid ((if s = true then 1 else 0) = si) := ⟨_, rfl⟩
            have hcon := lc_side wr p g n M ed HO1.out i hi
            rw [hsd, show sideR (some s) = .tuple #[.int .i64 (if s = true then 1 else 0), .bool true] from rfl, HSI.out] at hcon
            go_wp2_with fail
            with_reducible refine hcon.mono ?_
            rintro e w8 ⟨rfl, hbn⟩
            have HO2 := Lib.hid (HO1.out.below hbn)
            have HX2 := Lib.hid (HX1b.out.below hbn HX1b.out.lt)
            have HD2 : Hid (w8.heap[W4.heap.size]? = some (.deferred (some []))) := (hbn.block _ (Array.getElem?_eq_some_iff.1 HD1.out).1).trans HD1.out
            have HM2 : Hid (Mod (fun x => x = g) w w8) := HM1.out.trans (Mod.of_below (F := fun _ => False) hbn) (fun _ _ e => e.elim)
            clear hbn hcon cx HO1 HX1b HD1 HM1
            have cx := HX2.out.cell (i := 0) rfl
            obtain ⟨cap1, c1⟩ := HO2.out.c1
            obtain ⟨pp, HPP⟩ : ∃ x, Hid ((M i).up = x) := ⟨_, rfl⟩
            have hpp : pp ≤ n := by rw [← HPP.out]; exact (HO2.out.bd i hi).2.2.1
            have q2 : w8.cell? ⟨g, i * 9 + 2, none⟩ = some (.int .i64 (pp : Int)) := by rw [← HPP.out]; exact HO2.out.at_ hi 2 (by omega)
            have g1 : (i : Int) < (n + 1 : Nat) := by omega
            have g2 : (0 : Int) ≤ (i : Int) := by omega
            rw [HPP.out] at hsp
            obtain ⟨ai, HAI⟩ : ∃ ai : Int, Hid ((if s = true then 1 else 0) = ai) := ⟨_, rfl⟩
            rw [HPP.out] at hrp hrp2 hk
            have hai : si = ai := by rw [← HSI.out, ← HAI.out]
            subst hai
            have HRP := Lib.hid hrp
            have HRP2 := Lib.hid hrp2
            have HKK := Lib.hid hk
            have hcon := lc_side w8 p g n M ed HO2.out pp hpp
            rw [hsp, show sideR (some s) = .tuple #[.int .i64 (if s = true then 1 else 0), .bool true] from rfl, HAI.out] at hcon
            clear hsd hsp hk hrp hrp2
            go_wp2_with fail
            with_reducible refine hcon.mono ?_
            rintro e w9 ⟨rfl, hbn⟩
            have HO3 := Lib.hid (HO2.out.below hbn)
            have HX3 := Lib.hid (HX2.out.below hbn HX2.out.lt)
            have HD3 : Hid (w9.heap[W4.heap.size]? = some (.deferred (some []))) := (hbn.block _ (Array.getElem?_eq_some_iff.1 HD2.out).1).trans HD2.out
            have HM3 : Hid (Mod (fun x => x = g) w w9) := HM2.out.trans (Mod.of_below (F := fun _ => False) hbn) (fun _ _ e => e.elim)
            clear hbn hcon cx c1 q2 HO2 HX2 HD2 HM2
            have cx := HX3.out.cell (i := 0) rfl
            go_wp2_with fail
            with_reducible refine (lc_rotate w9 p g n M ed HO3.out pp hpp HRP.out).mono ?_
            rintro e w10 ⟨rfl, ho, hm⟩
            have HO4 := Lib.hid ho
            have HX4 := Lib.hid (HX3.out.mod hm (by omega))
            have HD4 : Hid (w10.heap[W4.heap.size]? = some (.deferred (some []))) := (hm.block _ (Array.getElem?_eq_some_iff.1 HD3.out).1 (by omega)).trans HD3.out
            have HM4 : Hid (Mod (fun x => x = g) w w10) := HM3.out.trans hm (fun _ _ e => e)
            clear ho hm cx HO3 HX3 HD3 HM3
            have cx := HX4.out.cell (i := 0) rfl
            go_wp2_with fail
            with_reducible refine (lc_rotate w10 p g n _ ed HO4.out i hi HRP2.out).mono ?_
            rintro e w11 ⟨rfl, ho, hm⟩
            have HO5 := Lib.hid ho
            have HX5 := Lib.hid (HX4.out.mod hm (by omega))
            have HD5 : Hid (w11.heap[W4.heap.size]? = some (.deferred (some []))) := (hm.block _ (Array.getElem?_eq_some_iff.1 HD4.out).1 (by omega)).trans HD4.out
            have HM5 : Hid (Mod (fun x => x = g) w w11) := HM4.out.trans hm (fun _ _ e => e)
            clear ho hm cx HO4 HX4 HD4 HM4
            have cx := HX5.out.cell (i := 0) rfl
            go_wp2_with fail
            clear cx
            have HLE2 : Hid (leastN (fun m => ∃ M, LObj w11 p g n M ed ∧ SpinR m M i N') ≤ m1) := (leastN_at (P := fun m => ∃ M, LObj w11 p g n M ed ∧ SpinR m M i N') ⟨_, HO5.out, HKK.out⟩).2
            go_roundw
            case rel => exact ⟨_, m1, HO5.out, HKK.out, HX5.out, HD5.out, HM5.out⟩
            case measure => have := HLE2.out; have := HMM.out; show leastN _ < leastN _; omega
          | @zag m1 _ _ _ s a hsd hsp hne hrp hrp2 hk =>
            obtain ⟨si, HSI⟩ : ∃ si : Int, Hid ((if s = true then 1 else 0) = si) := ⟨_, rfl⟩
            have hcon := lc_side wr p g n M ed HO1.out i hi
            rw [hsd, show sideR (some s) = .tuple #[.int .i64 (if s = true then 1 else 0), .bool true] from rfl, HSI.out] at hcon
            go_wp2_with fail
            with_reducible refine hcon.mono ?_
            rintro e w8 ⟨rfl, hbn⟩
            have HO2 := Lib.hid (HO1.out.below hbn)
            have HX2 := Lib.hid (HX1b.out.below hbn HX1b.out.lt)
            have HD2 : Hid (w8.heap[W4.heap.size]? = some (.deferred (some []))) := (hbn.block _ (Array.getElem?_eq_some_iff.1 HD1.out).1).trans HD1.out
            have HM2 : Hid (Mod (fun x => x = g) w w8) := HM1.out.trans (Mod.of_below (F := fun _ => False) hbn) (fun _ _ e => e.elim)
            clear hbn hcon cx HO1 HX1b HD1 HM1
            have cx := HX2.out.cell (i := 0) rfl
            obtain ⟨cap1, c1⟩ := HO2.out.c1
            obtain ⟨pp, HPP⟩ : ∃ x, Hid ((M i).up = x) := ⟨_, rfl⟩
            have hpp : pp ≤ n := by rw [← HPP.out]; exact (HO2.out.bd i hi).2.2.1
            have q2 : w8.cell? ⟨g, i * 9 + 2, none⟩ = some (.int .i64 (pp : Int)) := by rw [← HPP.out]; exact HO2.out.at_ hi 2 (by omega)
            have g1 : (i : Int) < (n + 1 : Nat) := by omega
            have g2 : (0 : Int) ≤ (i : Int) := by omega
            rw [HPP.out] at hsp
            obtain ⟨ai, HAI⟩ : ∃ ai : Int, Hid ((if a = true then 1 else 0) = ai) := ⟨_, rfl⟩
            have hai : ¬ si = ai := by rw [← HSI.out, ← HAI.out]; cases s <;> cases a <;> simp at hne ⊢
            have t1 : (si == ai) = false := by simpa using hai
            have t1' : decide (si = ai) = false := decide_eq_false hai
            have HRP := Lib.hid hrp
            have HRP2 := Lib.hid hrp2
            have HKK := Lib.hid hk
            have hcon := lc_side w8 p g n M ed HO2.out pp hpp
            rw [hsp, show sideR (some a) = .tuple #[.int .i64 (if a = true then 1 else 0), .bool true] from rfl, HAI.out] at hcon
            clear hsd hsp hne hai hk hrp hrp2
            go_wp2_with fail
            with_reducible refine hcon.mono ?_
            rintro e w9 ⟨rfl, hbn⟩
            have HO3 := Lib.hid (HO2.out.below hbn)
            have HX3 := Lib.hid (HX2.out.below hbn HX2.out.lt)
            have HD3 : Hid (w9.heap[W4.heap.size]? = some (.deferred (some []))) := (hbn.block _ (Array.getElem?_eq_some_iff.1 HD2.out).1).trans HD2.out
            have HM3 : Hid (Mod (fun x => x = g) w w9) := HM2.out.trans (Mod.of_below (F := fun _ => False) hbn) (fun _ _ e => e.elim)
            clear hbn hcon cx c1 q2 HO2 HX2 HD2 HM2
            have cx := HX3.out.cell (i := 0) rfl
            go_wp2_with fail
            with_reducible refine (lc_rotate w9 p g n M ed HO3.out i hi HRP.out).mono ?_
            rintro e w10 ⟨rfl, ho, hm⟩
            have HO4 := Lib.hid ho
            have HX4 := Lib.hid (HX3.out.mod hm (by omega))
            have HD4 : Hid (w10.heap[W4.heap.size]? = some (.deferred (some []))) := (hm.block _ (Array.getElem?_eq_some_iff.1 HD3.out).1 (by omega)).trans HD3.out
            have HM4 : Hid (Mod (fun x => x = g) w w10) := HM3.out.trans hm (fun _ _ e => e)
            clear ho hm cx HO3 HX3 HD3 HM3
            have cx := HX4.out.cell (i := 0) rfl
            go_wp2_with fail
            with_reducible refine (lc_rotate w10 p g n _ ed HO4.out i hi HRP2.out).mono ?_
            rintro e w11 ⟨rfl, ho, hm⟩
            have HO5 := Lib.hid ho
            have HX5 := Lib.hid (HX4.out.mod hm (by omega))
            have HD5 : Hid (w11.heap[W4.heap.size]? = some (.deferred (some []))) := (hm.block _ (Array.getElem?_eq_some_iff.1 HD4.out).1 (by omega)).trans HD4.out
            have HM5 : Hid (Mod (fun x => x = g) w w11) := HM4.out.trans hm (fun _ _ e => e)
            clear ho hm cx HO4 HX4 HD4 HM4
            have cx := HX5.out.cell (i := 0) rfl
            go_wp2_with fail
            clear cx
            have HLE2 : Hid (leastN (fun m => ∃ M, LObj w11 p g n M ed ∧ SpinR m M i N') ≤ m1) := (leastN_at (P := fun m => ∃ M, LObj w11 p g n M ed ∧ SpinR m M i N') ⟨_, HO5.out, HKK.out⟩).2
            go_roundw
            case rel => exact ⟨_, m1, HO5.out, HKK.out, HX5.out, HD5.out, HM5.out⟩
            case measure => have := HLE2.out; have := HMM.out; show leastN _ < leastN _; omega
end Go.Proofs.YtlooaipipmiijaaGreat
