/- The walk of LinkageNearest. -/
import Derived.Test.YthhddjknjnjbhaaDoorLkNe
import Derived.Test.YthhddjknjnjbhaaDoorLkPb
import Derived.Test.YthhddjknjnjbhaaDoorApp
import Derived.Deep.RegionLaw
import Derived.Deep.RegionHeld3
namespace Go.Proofs.YthhddjknjnjbhaaDoor
set_option linter.unusedVariables false
set_option linter.unusedSimpArgs false
open Go.RowKit

/-- k slices of numbers in the block sb. -/
structure SetsK (w : World) (sb k : Nat) (V : Nat → Value) (L : Nat → List Nat) : Prop where
  blk : Blk w sb 31 ((List.range k).map V)
  row : ∀ s, s < k → w.ownsRow 0 3 1 (V s) (zI (L s)).length ((zI (L s)).map fun x => .int .i64 x)
  ne : ∀ s, s < k → ∀ g, (V s).ownBlock = some g → g ≠ sb
  dis : ∀ s t, s < k → t < k → s ≠ t → ∀ g, (V s).ownBlock = some g → (V t).ownBlock ≠ some g

theorem SetsK.below {w w' : World} {sb k : Nat} {V : Nat → Value} {L : Nat → List Nat} (h : SetsK w sb k V L) (hb : Below w.heap.size w w') : SetsK w' sb k V L :=
  ⟨h.blk.below hb h.blk.lt, fun s hs => owns_mod (h.row s hs) (Mod.of_below (F := fun _ => False) hb) (fun _ _ h => h), h.ne, h.dis⟩

theorem SetsK.cell {w : World} {sb k : Nat} {V : Nat → Value} {L : Nat → List Nat} (h : SetsK w sb k V L) {s : Nat} (hs : s < k) : w.cell? ⟨sb, s, none⟩ = some (V s) :=
  h.blk.cell (by rw [List.getElem?_map, List.getElem?_range hs]; rfl)

theorem SetsK.put {w w' : World} {sb k : Nat} {V : Nat → Value} {L : Nat → List Nat} (h : SetsK w sb k V L) {s : Nat} (hs : s < k) (hm : Mod (fun x => (V s).ownBlock = some x) w w') {v : Value} {l : List Nat}
    (ho : w'.ownsRow 0 3 1 v (zI l).length ((zI l).map fun x => .int .i64 x)) (hv : ∀ g, v.ownBlock = some g → (V s).ownBlock = some g ∨ w.heap.size ≤ g) :
    SetsK (w'.setCell ⟨sb, s, none⟩ v) sb k (fun t => if t = s then v else V t) (fun t => if t = s then l else L t) := by
  have hlt := h.blk.lt
  have hvne : ∀ g, v.ownBlock = some g → g ≠ sb := fun g hg => by
    rcases hv g hg with e | e
    · exact h.ne s hs g e
    · omega
  have hvo : ∀ t, t < k → t ≠ s → ∀ g, v.ownBlock = some g → (V t).ownBlock ≠ some g := fun t ht hne g hg e => by
    rcases hv g hg with e' | e'
    · exact h.dis s t hs ht (fun e => hne e.symm) g e' e
    · have := ((h.row t ht).lt g e).2
      omega
  refine ⟨?_, fun t ht => ?_, fun t ht g hg => ?_, fun t u ht hu hne g hg hg' => ?_⟩
  · have := (h.blk.mod hm (fun e => h.ne s hs sb e rfl)).set s v
    have e : ((List.range k).map V).set s v = (List.range k).map fun t => if t = s then v else V t := by
      apply List.ext_getElem?
      intro i
      by_cases hi : i = s
      · subst hi
        rw [List.getElem?_set_self (by simp; omega), List.getElem?_map, List.getElem?_range hs]
        simp
      · rw [List.getElem?_set_ne (by omega), List.getElem?_map, List.getElem?_map]
        by_cases hik : i < k
        · rw [List.getElem?_range hik]; simp [hi]
        · rw [List.getElem?_eq_none (by simp; omega)]; rfl
    rw [e] at this
    exact this
  · by_cases e : t = s
    · simp only [if_pos e]
      exact owns_mod ho ((Mod.refl (fun x => x = sb) w').setCell _ (fun _ => rfl) _) (fun x hx => hvne x hx)
    · simp only [if_neg e]
      exact owns_mod (owns_mod (h.row t ht) hm (fun x hx e' => h.dis s t hs ht (fun e'' => e e''.symm) x e' hx)) ((Mod.refl (fun x => x = sb) w').setCell _ (fun _ => rfl) _) (fun x hx => h.ne t ht x hx)
  · by_cases e : t = s
    · simp only [if_pos e] at hg
      exact hvne g hg
    · simp only [if_neg e] at hg
      exact h.ne t ht g hg
  · by_cases e : t = s
    · simp only [if_pos e] at hg
      simp only [if_neg (fun e' : u = s => hne (e.trans e'.symm))] at hg'
      exact hvo u hu (fun e' => hne (e.trans e'.symm)) g hg hg'
    · simp only [if_neg e] at hg
      by_cases e2 : u = s
      · simp only [if_pos e2] at hg'
        exact hvo t ht e g hg' hg
      · simp only [if_neg e2] at hg'
        exact h.dis t u ht hu hne g hg hg'

structure SetsR (w4 : World) (sb k : Nat) (now : List Int) (t : Nat) (wr : World) : Prop where
  sets : ∃ V, SetsK wr sb k V (fun x => setN now x t) ∧ ∀ s, s < k → ∀ g, (V s).ownBlock = some g → w4.heap.size ≤ g
  mod : Mod (fun x => x = sb) w4 wr

theorem SetsR.next {w4 w w' : World} {sb k : Nat} {V : Nat → Value} {now : List Int} {t s : Nat} (h : SetsK w sb k V fun x => setN now x t) (hN : ∀ s, s < k → ∀ g, (V s).ownBlock = some g → w4.heap.size ≤ g) (hM : Mod (fun x => x = sb) w4 w) (hs : s < k) (hn : now.getD t 0 = (s : Int)) (hm : Mod (fun x => (V s).ownBlock = some x) w w') {v : Value}
    (ho : w'.ownsRow 0 3 1 v ((zI (setN now s t)).length + 1) ((zI (setN now s t)).map (fun x => .int .i64 x) ++ [.int .i64 t])) (hv : ∀ g, v.ownBlock = some g → (V s).ownBlock = some g ∨ w.heap.size ≤ g) :
    SetsR w4 sb k now (t + 1) (w'.setCell ⟨sb, s, none⟩ v) := by
  have e0 : zI (setN now s t ++ [t]) = zI (setN now s t) ++ [(t : Int)] := by simp [zI]
  have := h.put hs hm (v := v) (l := setN now s t ++ [t]) (by rw [e0]; simpa using ho) hv
  have e : (fun x => if x = s then setN now s t ++ [t] else setN now x t) = fun x => setN now x (t + 1) := by
    funext x
    rw [setN_succ]
    by_cases e : x = s
    · rw [if_pos e, if_pos (by rw [e]; exact hn), e]
    · rw [if_neg e, if_neg (by rw [hn]; omega)]
  rw [e] at this
  refine ⟨⟨_, this, fun x hx g hg => ?_⟩, (hM.trans hm (fun x hx e => by have := hN s hs x e; omega)).setCell _ (fun _ => rfl) _⟩
  by_cases ex : x = s
  · simp only [if_pos ex] at hg
    rcases hv g hg with e' | e'
    · exact hN s hs g e'
    · have := hM.size; omega
  · simp only [if_neg ex] at hg
    exact hN x hx g hg

/-- 'append' in a region that draws its order. -/
theorem step_appB {P : Program} {ops : Array Oper} {d : Tmp} {t ty : TypeId} {s x : Operand} {po : String} {aft : Array Edge} {a : Act} {Q : Exit → Act → World → Prop} {K : Act → World → Prop} {w : World}
    (e : TypeId) (z : Value) (size bytes : Nat) (ht : P.underlying t = some (.slice e)) (hz : (P.info? e).map (fun i => (i.zero, i.size, i.bytes)) = some (some z, size, bytes))
    (hzs : z.cells.size = size) (hsz : 0 < size) (v : Value) (n : Nat) (xs : List Value) (hs : a.eval s = v) (hown : w.ownsRow 0 e size v n xs)
    (ad : Addr) (m c : Nat) (news : List Value) (hx : a.eval x = .slice (some ad) m c) (hl : news.length = m * size) (hnews : ∀ j u, news[j]? = some u → w.cell? (ad.add j) = some u) (h1 : ∀ u ∈ news, u.oneCell' = true)
    (h63 : n + m ≤ maxLen) (hbytes : (n + m) * bytes ≤ 140737488355328)
    (h : ∀ v' w', w'.ownsRow 0 e size v' (n + m) (xs ++ news) → w.grownBy w' v.ownBlock → (∀ k, v'.ownBlock = some k → v.ownBlock = some k ∨ w.heap.size ≤ k) → K (a.put (some d) v') w') :
    if Region.wanted ⟨some d, .call { callee := .builtin .append, args := #[s, x], argTypes := #[t, t] }, ty, po, aft, none⟩ (yielded ops a.tmps) = true then
      Oper.wp P ⟨some d, .call { callee := .builtin .append, args := #[s, x], argTypes := #[t, t] }, ty, po, aft, none⟩ a w K Q else K (a.put (some d) undef) w := by
  obtain ⟨v', w', hr, h2, h3, h4⟩ := run_appendB (P := P) w t ty e z size bytes ht hz hzs hsz v n xs hown ad m c news hl hnews h1 h63 hbytes
  rw [if_pos (by rfl)]
  unfold Oper.wp execOp
  simp only [resolve, invoke, builtin, Sem.run_bind, Sem.run_pure, Result.andThen_ok, List.map_toArray, List.map_cons, List.map_nil, hs, hx, hr]
  exact h v' w' h2 h3 h4

theorem two_keepM {F : Nat → Prop} {w w' : World} {p1 p2 : Addr} {v1 v2 : Value} (h1 : Hid (w.cell? p1 = some v1)) (h2 : Hid (w.cell? p2 = some v2)) (h3 : Hid (w.frozen? p2 = false)) (n1 : ¬ F p1.block) (n2 : ¬ F p2.block) (hb : Mod F w w') :
    w'.cell? p1 = some v1 ∧ w'.cell? p2 = some v2 ∧ w'.frozen? p2 = false ∧ Mod F w w' :=
  ⟨(hb.cell (World.block_lt_of_cell? w _ h1.out) n1).trans h1.out, (hb.cell (World.block_lt_of_cell? w _ h2.out) n2).trans h2.out, (hb.frozen (World.block_lt_of_cell? w _ h2.out) n2).trans h3.out, hb⟩

theorem Tryd.infoSli : (Tryd.prog.info? 31).map (fun i => (i.zero, i.size, i.bytes)) = some (some (.slice none 0 0), 1, 24) := by kernel_rfl

theorem owns_in {w : World} {e : TypeId} {o : Option Addr} {c : Nat} {z : List Int} (h : w.ownsRow 0 e 1 (.slice o z.length c) z.length (z.map fun x => .int .i64 x)) : ∃ b, InRow .i64 w o z.length b 0 z := by
  obtain ⟨ao, cap, b, h1, h2, _⟩ := owns_row h
  injection h1 with h3 h4 h5
  exact ⟨b, by rw [h3]; exact h2⟩

structure FracAt (W : World) (p : Nat) (N D : Int) (wx : World) : Prop where
  blk : Blk wx p 33 [.int .i64 N, .int .i64 D]
  bel : Below W.heap.size W wx

theorem fracA {W w' : World} {N D : Int} (h : Below W.heap.size W w') : FracAt W w'.heap.size N D (w'.alloc (.cells #[.int .i64 N, .int .i64 D] 33)) :=
  ⟨Blk.new _ _ _, h.alloc h.size _⟩

theorem fracB {W w' : World} {N D : Int} (h : Below W.heap.size W w') (hz : Blk w' W.heap.size 33 [.int .i64 0, .int .i64 0]) : FracAt W W.heap.size N D ((w'.setCell ⟨W.heap.size, 0, none⟩ (.int .i64 N)).setCell ⟨W.heap.size, 1, none⟩ (.int .i64 D)) :=
  ⟨(hz.set 0 _).set 1 _, bel_set (bel_set h (Nat.le_refl _)) (Nat.le_refl _)⟩

theorem frac_zero {w w' : World} (h : Below (w.alloc (.cells #[.int .i64 0, .int .i64 0] 33)).drew.heap.size (w.alloc (.cells #[.int .i64 0, .int .i64 0] 33)).drew w') : Blk w' w.heap.size 33 [.int .i64 0, .int .i64 0] :=
  (Blk.new w 33 [.int .i64 0, .int .i64 0]).drew.below h (by simp)

theorem near_bet (w : World) (n : Nat) (m : Int) (ao : Option Addr) (len cap b off : Nat) (d : List Int) (hz : InRow .i64 w ao len b off d) (hlen : len ≤ 9223372036854775807)
    (xo yo : Option Addr) (la lb ca cb pa pb oa ob : Nat) (xs ys : List Int) (hx : InRow .i64 w xo la pa oa xs) (hy : InRow .i64 w yo lb pb ob ys) (hla : la ≤ 1000000000) (hlb : lb ≤ 1000000000) (N D : Int) (hv : betL n d m xs ys = (N, D, 0)) :
    Calls Tryd.prog 15 #[.int .i64 n, .slice ao len cap, .int .i64 m, .slice xo la ca, .slice yo lb cb] w (RetB (.tuple #[.agg #[.int .i64 N, .int .i64 D], .int .i64 0]) w) := by
  have := between_ok w n m ao len cap b off d hz hlen xo yo la lb ca cb pa pb oa ob xs ys hx hy hla hlb
  rw [hv] at this
  exact this

theorem frac_ne {N D N' D' : Int} (h : ¬ (N' = N ∧ D' = D)) (w : World) : (binOp .eql 33 (.agg #[Value.int IntKind.i64 N', Value.int IntKind.i64 D']) (.agg #[Value.int IntKind.i64 N, Value.int IntKind.i64 D])).run Tryd.prog w = .ok (.bool false) w := by
  by_cases h1 : N' = N
  · have h2 : ¬ D' = D := fun e => h ⟨h1, e⟩
    subst h1
    go_simp
  · go_simp

theorem row_merges2 {w : World} {v : Value} {n k1 : Nat} {m : Int} {d : List Int} {T : TypeId} (hk : n - 1 = k1) (h : w.ownsRow 0 T 5 v k1 ((runL n m d).flatMap Mg.cells)) (h0 : 0 < k1) :
    ∃ b cap, v = .slice (some ⟨b, 0, none⟩) k1 cap ∧ k1 ≤ cap ∧ cap ≤ maxLen ∧ MRow w (some ⟨b, 0, none⟩) k1 b 0 (runL n m d) := by
  obtain ⟨g, cap, e1, h1, h2, _⟩ := owns_form h h0
  have hl : (runL n m d).length = k1 := (runL_len n m d).trans hk
  have h' : w.ownsRow 0 T 5 v (runL n m d).length ((runL n m d).flatMap Mg.cells) := by rw [hl]; exact h
  obtain ⟨ao', cap', b', k1', k2, k3, k4⟩ := MRow.of_owns h'
  rw [hl] at k1' k2
  have hadr := k2.adr h0
  rw [hadr] at k1' k2
  rw [e1] at k1'
  injection k1' with e3 _ e4
  injection e3 with e3
  injection e3 with e3
  subst e3
  exact ⟨g, cap, e1, h1, h2, k2⟩

set_option maxHeartbeats 4000000 in
set_option maxRecDepth 100000 in
theorem near_law (n : Int) (hn : 0 ≤ n ∧ n ≤ 255) (ao : Option Addr) (len cap b off : Nat) (z : List Int) (wh : Int) (hwh : 0 ≤ wh ∧ wh ≤ 255) (w : World) (hM : Mets w)
    (hz : InRow .u64 w ao len b off z) (hlen : len ≤ 9223372036854775807) (hu : ∀ x ∈ z, 0 ≤ x ∧ x < 18446744073709551616) :
    Calls Tryd.prog 4 #[.int .u8 n, .slice ao len cap, .int .u8 wh] w (RetB (.bool true) w) := by
  have HZ := Lib.hid hz
  have HU := Lib.hid hu
  have HMe := Lib.hid hM
  obtain ⟨n0, rfl⟩ := Int.eq_ofNat_of_zero_le hn.1
  obtain ⟨wh0, rfl⟩ := Int.eq_ofNat_of_zero_le hwh.1
  have hn0 : n0 ≤ 255 := by omega
  have hwh0 : wh0 ≤ 255 := by omega
  have r1 : Int.tmod (n0 : Int) 13 = ((n0 % 13 : Nat) : Int) := mod_nat n0 13 (by omega)
  have hk : n0 % 13 < 13 := Nat.mod_lt _ (by omega)
  obtain ⟨k, HK⟩ : ∃ k, Hid (n0 % 13 = k) := ⟨_, rfl⟩
  rw [HK.out] at r1 hk
  clear hn hwh hM hz hu
  go_enter Tryd.func4, Tryd.ntmps4
  go_wp2_with fail
  with_reducible refine (points_ok w k (by omega) ao len cap b off z HZ.out hlen HU.out).mono ?_
  rintro e w1 ⟨rfl, hblk, hb1⟩
  have HD1 := Lib.hid (pts_row hblk)
  have HB1 := Lib.hid hb1
  have hme := HMe.out.below hb1 HMe.out.lt
  have HCK := Lib.hid (pts_check (n := k) (by omega) z)
  clear hblk hb1 HZ HU
  generalize ptsL k z = d at *
  obtain ⟨db, HDB⟩ : ∃ db, Hid (w.heap.size = db) := ⟨_, rfl⟩
  simp only [HDB.out] at HD1 ⊢
  obtain ⟨nn, HNN⟩ : ∃ nn, Hid (k * k = nn) := ⟨_, rfl⟩
  have hnn : k * k ≤ 144 := Nat.mul_le_mul (show k ≤ 12 by omega) (show k ≤ 12 by omega)
  rw [HNN.out] at HD1 hnn ⊢
  have m0 := hme.c0
  have m1 := hme.c1
  have m2 := hme.c2
  clear hme
  go_wp2_with fail
  clear m0 m1 m2
  go_loopw [30] (fun s wr => ∃ i : Nat, i ≤ 3 ∧ s = .int .i64 i ∧ Below db w wr ∧ InRow .i64 wr (some ⟨db, 0, none⟩) nn db 0 d) (fun s _ => 3 - (intOf s).toNat)
  case atStart => exact ⟨0, Nat.zero_le _, rfl, by rw [← HDB.out]; exact HB1.out, HD1.out⟩
  case round =>
    obtain ⟨q, hq, rfl, hb, hd⟩ := hrel
    clear HB1 HD1
    have HB : Hid (Below w.heap.size w wr) := by show Below _ _ _; rw [HDB.out]; exact hb
    have HD := Lib.hid hd
    clear hb hd
    by_cases hq3 : q < 3
    · obtain ⟨m, hm, hidx⟩ := met_index hq3
      have HM := Lib.hid hm
      clear hm
      go_wp2_with fail
      clear hidx
      with_reducible refine (run_ok _ k m HM.out (some ⟨db, 0, none⟩) nn nn db 0 d HD.out (fun h => by cases h) HNN.out.symm (by omega) HCK.out).mono ?_
      rintro e w2 ⟨v2, rfl, ho2, hb2, _⟩
      have HD2 := Lib.hid (HD.out.below hb2)
      have HB2 := Lib.hid (bel_then HB.out hb2)
      clear hb2 HD HB
      obtain ⟨k1, HK1⟩ : ∃ k1, Hid (k - 1 = k1) := ⟨_, rfl⟩
      have hk1 : (k = 0 ∧ k1 = 0) ∨ k = k1 + 1 := by have := HK1.out; omega
      have HO2 := Lib.hid ho2
      clear ho2
      obtain ⟨o2, c2, e2⟩ := owns_slice HO2.out
      subst e2
      rw [HK1.out] at HO2 ⊢
      by_cases hk10 : k1 = 0
      · have t1 : ((k1 : Int) == 0) = true := by simp [hk10]
        clear hk10 hk1
        go_wp2_with fail
        go_roundw
        case rel => exact ⟨q + 1, by omega, by go_num, by rw [← HDB.out]; exact HB2.out, HD2.out⟩
        case measure => simp [intOf]; omega
      · have HKK : Hid (k = k1 + 1) := by show _ = _; omega
        have hkk : k1 < k := by omega
        have hkk2 : k ≤ k1 + 1 := by omega
        have t1 : ((k1 : Int) == 0) = false := by simp; omega
        have r2 : Int.tmod (wh0 : Int) (k1 : Int) = ((wh0 % k1 : Nat) : Int) := mod_nat wh0 k1 (by omega)
        have hat : wh0 % k1 < k1 := Nat.mod_lt _ (by omega)
        obtain ⟨at', HAT⟩ : ∃ a, Hid (wh0 % k1 = a) := ⟨_, rfl⟩
        rw [HAT.out] at r2 hat
        have h10 : 0 < k1 := by omega
        obtain ⟨b2, c2', e2, hcap, hcm, hr2⟩ := row_merges2 (m := m) (d := d) (n := k) HK1.out HO2.out h10
        injection e2 with e2 _ e3
        subst e2
        subst e3
        have HR2 := Lib.hid hr2
        unfold maxLen at hcm
        obtain ⟨now, hlab, hlo⟩ := lab_at (n := k) (m := m) (d := d) (i := at') (by omega) (DOk.of_check HCK.out) HM.out (by omega)
        have HLAB := Lib.hid hlab
        have HLO := Lib.hid hlo
        have HI64 := Lib.hid (run_i64 (DOk.of_check HCK.out) HM.out)
        clear hr2 hlab hlo hk1 hk10
        go_wp2_with fail
        with_reducible refine (labels_ok w2 k (some ⟨b2, 0, none⟩) k1 c2 b2 0 _ HR2.out (by omega) ⟨hcap, hcm⟩ (fun h => by cases h) HI64.out at' (by unfold I64; omega) (by unfold I64; omega)).mono ?_
        rintro e w3 ⟨⟨lo, ll, lc, lb, rfl, hlr, _⟩, hb3⟩
        rw [HLAB.out] at hlr ⊢
        have hll : ll = k := by rw [← hlr.size]; exact HLO.out.len
        subst hll
        have HL3 := Lib.hid hlr
        have HD3 := Lib.hid (HD2.out.below hb3)
        have HR3 := Lib.hid (HR2.out.below hb3)
        have HB3 := Lib.hid (bel_then HB2.out hb3)
        obtain rfl := hlr.adr (by omega)
        clear hb3 hlr HD2 HR2 HB2 HO2 HLAB r1 r2
        have t2 : ((ll : Int) != (ll : Int)) = false := by simp
        go_wp2_with (at_make; refine wpList_makeB 31 (.slice none 0 0) 24 Tryd.underlying42 Tryd.infoSli rfl _ _ _ _ ll rfl rfl rfl rfl (by omega) (by unfold maxLen; omega) ?_; intro w4 B4 hb4)
        have hS4 : SetsK w4 w3.heap.size ll (fun _ => .slice none 0 0) fun x => setN now x 0 := by
          refine ⟨?_, fun s _ => World.ownsRow_nil w4 _ _ _, fun s _ g hg => (by cases hg), fun s t _ _ _ g hg => (by cases hg)⟩
          have e : (List.range ll).map (fun _ => Value.slice none 0 0) = List.replicate ll (.slice none 0 0) := by rw [List.map_const', List.length_range]
          rw [e]
          exact B4
        have HS4 : Hid (∃ V, SetsK w4 w3.heap.size ll V (fun x => setN now x 0) ∧ ∀ s, s < ll → ∀ g, (V s).ownBlock = some g → w4.heap.size ≤ g) := ⟨_, hS4, fun s _ g hg => (by cases hg)⟩
        have hsb4 : w3.heap.size < w4.heap.size := hS4.blk.lt
        have HL4 := Lib.hid (HL3.out.below hb4)
        have HD4 := Lib.hid (HD3.out.below hb4)
        have HR4 := Lib.hid (HR3.out.below hb4)
        have HB4 := Lib.hid (bel_then HB3.out hb4)
        have hw3 : w.heap.size ≤ w3.heap.size := HB3.out.size
        have hlb : lb < w3.heap.size := HL3.out.lt (by omega)
        have hb2l : b2 < w3.heap.size := HR3.out.lt (by omega)
        have hdb : db < w3.heap.size := HD3.out.lt (by rw [← HNN.out]; exact Nat.mul_pos (by omega) (by omega))
        clear B4 hb4 hS4 HL3 HD3 HR3 HB3
        obtain ⟨sb, HSB⟩ : ∃ sb, Hid (w3.heap.size = sb) := ⟨_, rfl⟩
        simp only [HSB.out] at HS4 hw3 hlb hb2l hdb hsb4 ⊢
        go_loopw [17] (fun s wr => ∃ t : Nat, t ≤ ll ∧ s = .int .i64 t ∧ SetsR w4 sb ll now t wr) (fun s _ => ll - (intOf s).toNat)
        case atStart => exact ⟨0, Nat.zero_le _, rfl, HS4.out, Mod.refl _ _⟩
        case round =>
          obtain ⟨t, ht, rfl, hsr⟩ := hrel
          have HSR := Lib.hid hsr
          clear hsr HS4
          by_cases htk : t < ll
          · obtain ⟨V, hV, hN⟩ := HSR.out.sets
            obtain ⟨j, hj, hjm⟩ := HLO.out.lab t htk
            have hjt : j ≤ t := (runS_inv (DOk.of_check HCK.out) HM.out at' (by omega)).least j t hjm
            have cL := (HL4.out.mod HSR.out.mod (fun _ => by omega)).cell t htk
            rw [hj, Nat.zero_add] at cL
            have HJ := Lib.hid hj
            have hjl : j < ll := by omega
            have cS := hV.cell hjl
            have fS := hV.blk.free j
            have hlt := hV.blk.lt
            obtain ⟨oj, cj, ej⟩ := owns_slice (hV.row j hjl)
            have HROW := Lib.hid (hV.row j hjl)
            have HNEXT : Hid (∀ (w' : World) (v : Value), Mod (fun x => (V j).ownBlock = some x) wr w' → w'.ownsRow 0 3 1 v ((zI (setN now j t)).length + 1) ((zI (setN now j t)).map (fun x => .int .i64 x) ++ [.int .i64 t]) → (∀ g, v.ownBlock = some g → (V j).ownBlock = some g ∨ wr.heap.size ≤ g) → SetsR w4 sb ll now (t + 1) (w'.setCell ⟨sb, j, none⟩ v)) := fun w' v h1 h2 h3 => SetsR.next hV hN HSR.out.mod hjl hj h1 h2 h3
            have HNE : Hid (∀ g, (V j).ownBlock = some g → g ≠ sb) := hV.ne j hjl
            have HNW : Hid (∀ g, (V j).ownBlock = some g → w4.heap.size ≤ g) := hN j hjl
            have hzl : (zI (setN now j t)).length ≤ 12 := by rw [zI_length]; have := setN_len now j t; omega
            rw [ej] at cS HROW HNEXT HNE HNW
            clear hV hN hj hjm ej HSR
            generalize zI (setN now j t) = zs at *
            obtain ⟨zl, HZL⟩ : ∃ zl, Hid (zs.length = zl) := ⟨_, rfl⟩
            simp only [HZL.out] at HROW HNEXT HNE HNW cS hzl ⊢
            have t3 : (j : Int) < (ll : Int) := by omega
            have t4 : (t : Int) < (ll : Int) := by omega
            have t5 : decide (t < j) = false := by simp; omega
            go_wp2_with fail
            have HOWN := Lib.hid (HROW.out.alloc (.cells #[.int .i64 t] 3))
            have HNEW := Lib.hid (news_new wr 3 [.int .i64 t])
            have E1 := Lib.hid cL
            have E2 := Lib.hid cS
            have E3 := Lib.hid fS
            have N1 : Hid (¬ (Value.slice oj zl cj).ownBlock = some lb) := fun e => by have := HNW.out lb e; omega
            have N2 : Hid (¬ (Value.slice oj zl cj).ownBlock = some sb) := fun e => HNE.out sb e rfl
            have hlbw : lb < wr.heap.size := World.block_lt_of_cell? wr _ cL
            have A1 : (wr.alloc (.cells #[.int .i64 t] 3)).cell? ⟨lb, t, none⟩ = some (.int .i64 j) := (((Below.refl wr.heap.size wr).alloc (Nat.le_refl _) _).cell (p := ⟨lb, t, none⟩) hlbw).trans cL
            have A2 : (wr.alloc (.cells #[.int .i64 t] 3)).cell? ⟨sb, j, none⟩ = some (.slice oj zl cj) := (((Below.refl wr.heap.size wr).alloc (Nat.le_refl _) _).cell (p := ⟨sb, j, none⟩) hlt).trans cS
            go_region_law ((refine step_appB 3 (.int .i64 0) 1 8 Tryd.underlying31 Tryd.infoInt rfl (by decide) (.slice oj zl cj) zl (zs.map fun x => .int .i64 x) rfl HOWN.out ⟨wr.heap.size, 0, none⟩ 1 1 [.int .i64 t] rfl rfl HNEW.out (by simp [Value.oneCell']) (by unfold maxLen; omega) (by omega) ?_; intro v6 w6 ho6 hg6 hn6; obtain ⟨o6, c6, rfl⟩ := owns_slice ho6; have hm6 : Mod (fun k => (Value.slice oj zl cj).ownBlock = some k) wr w6 := Mod.grown (((Mod.refl _ _).alloc _).drew) hg6 (fun k e _ => e); have hout := HNEXT.out w6 _ hm6 ho6 (fun k hk => (hn6 k hk).imp id (fun e => Nat.le_trans (Nat.le_trans (Nat.le_succ _) (by simp)) e)); have B1 := (hm6.cell (p := ⟨lb, t, none⟩) hlbw N1.out).trans cL; have B2 := (hm6.cell (p := ⟨sb, j, none⟩) hlt N2.out).trans cS; have B3 := (hm6.frozen (p := ⟨sb, j, none⟩) hlt N2.out).trans fS; clear hg6 hn6 ho6))
            all_goals
              go_wp2_with fail
              go_roundw
              case rel => exact ⟨t + 1, by omega, by go_num, hout⟩
              case measure => simp [intOf]; omega
          · have htl : t = ll := by omega
            have htl2 : ¬ (t : Int) < (ll : Int) := by omega
            obtain ⟨V, hV, _⟩ := HSR.out.sets
            rw [htl] at hV
            have HV := Lib.hid hV
            have HB5 : Hid (Below w.heap.size w wr) := HB4.out.trans (HSR.out.mod.below HB4.out.size (fun x hx => by rw [hx]; exact hw3))
            have HD5 := Lib.hid (HD4.out.mod HSR.out.mod (fun _ => by omega))
            have hr5 := HR4.out.mod HSR.out.mod (fun _ => by omega)
            obtain ⟨a, b', hrd⟩ := rd_of (DOk.of_check HCK.out) HM.out (i := at') (by omega)
            have hlen2 := (runS_inv (DOk.of_check HCK.out) HM.out at' (by omega)).lens hrd.lt
            have HH := Lib.hid (Hgt.of (n := ll) (by omega) HM.out (DOk.of_check HCK.out) hrd.na hrd.nb hlen2)
            obtain ⟨c0, c1, c2', c3', c4⟩ := hr5.cell at' hat
            rw [hrd.mg] at c0 c1 c2' c3' c4
            simp only [Nat.zero_add] at c0 c1 c2' c3' c4
            have HNEAR : Hid (∀ i j, i < j → setN now i ll ≠ [] → setN now j ll ≠ [] → ∃ N D, NearAt ll m d (setN now i ll) (setN now j ll) i j a b' (lowN (gap m ll d (CL (clS ll m d at') a) (CL (clS ll m d at') b')) (den m (CL (clS ll m d at') a) (CL (clS ll m d at') b'))) (lowD (gap m ll d (CL (clS ll m d at') a) (CL (clS ll m d at') b')) (den m (CL (clS ll m d at') a) (CL (clS ll m d at') b'))) N D) :=
              fun i j h1 h2 h3 => near_at (by omega) HCK.out HM.out (by omega) hrd HLO.out h1 h2 h3
            generalize lowN (gap m ll d (CL (clS ll m d at') a) (CL (clS ll m d at') b')) (den m (CL (clS ll m d at') a) (CL (clS ll m d at') b')) = N at *
            generalize lowD (gap m ll d (CL (clS ll m d at') a) (CL (clS ll m d at') b')) (den m (CL (clS ll m d at') a) (CL (clS ll m d at') b')) = D at *
            generalize ((CL (clS ll m d at') a).length : Int) + ((CL (clS ll m d at') b').length : Int) = SZ at *
            have hab := hrd.lt
            have hbl := hrd.hb
            clear hrd hr5 hlen2 htl hV HSR HLO HI64 HD4 HR4 HB4 HL4
            go_wp2_with fail
            generalize hW : World.alloc wr _ = W
            have HX : Hid (Blk W wr.heap.size 35 [.int .i64 a, .int .i64 b', .int .i64 N, .int .i64 D, .int .i64 SZ]) := by show Blk _ _ _ _; rw [← hW]; exact Blk.new wr 35 [.int .i64 a, .int .i64 b', .int .i64 N, .int .i64 D, .int .i64 SZ]
            have hwb : Below wr.heap.size wr W := by rw [← hW]; exact (Below.refl _ _).alloc (Nat.le_refl _) _
            have HV6 := Lib.hid (HV.out.below hwb)
            have HD6 := Lib.hid (HD5.out.below hwb)
            have HB6 := Lib.hid (bel_then HB5.out hwb)
            obtain ⟨xb, HXB⟩ : ∃ xb, Hid (wr.heap.size = xb) := ⟨_, rfl⟩
            rw [HXB.out] at HX ⊢
            clear hW hwb HV HD5 HB5 c0 c1 c2' c3' c4
            go_loopw [19] (fun s wx => ∃ i : Nat, i ≤ ll ∧ s = .int .i64 i ∧ Below W.heap.size W wx) (fun s _ => ll - (intOf s).toNat)
            case atStart => exact ⟨0, Nat.zero_le _, rfl, Below.refl _ _⟩
            case round =>
              obtain ⟨i, hi, rfl, hbi⟩ := hrel
              have HBI := Lib.hid hbi
              clear hbi
              by_cases hil : i < ll
              · obtain ⟨wo, rfl⟩ : ∃ wo : World, wo = wr := ⟨_, rfl⟩
                go_wp2_with fail
                go_loopw [20] (fun s wx => ∃ j : Nat, i + 1 ≤ j ∧ j ≤ ll ∧ s = .int .i64 j ∧ Below W.heap.size W wx) (fun s _ => ll - (intOf s).toNat)
                case atStart => exact ⟨i + 1, Nat.le_refl _, by omega, by go_num, HBI.out⟩
                case round =>
                  obtain ⟨j, hij, hj, rfl, hbj⟩ := hrel
                  clear HBI
                  have HBJ := Lib.hid hbj
                  clear hbj
                  by_cases hjl : j < ll
                  · obtain ⟨oi, ci, ei⟩ := owns_slice (HV6.out.row i hil)
                    obtain ⟨oj, cj, ej⟩ := owns_slice (HV6.out.row j hjl)
                    have hs := HV6.out.below HBJ.out
                    have s1 := hs.cell hil
                    have s2 := hs.cell hjl
                    have hl1 := hs.blk.lt
                    have HR1 := hs.row i hil
                    have HR2 := hs.row j hjl
                    rw [ei] at s1 HR1
                    rw [ej] at s2 HR2
                    have HRi := Lib.hid HR1
                    have HRj := Lib.hid HR2
                    have bi : (zI (setN now i ll)).length ≤ 12 := by rw [zI_length]; have := setN_len now i ll; omega
                    have bj : (zI (setN now j ll)).length ≤ 12 := by rw [zI_length]; have := setN_len now j ll; omega
                    have zi : (zI (setN now i ll)).length = 0 ↔ setN now i ll = [] := by rw [zI_length]; exact List.length_eq_zero_iff
                    have zj : (zI (setN now j ll)).length = 0 ↔ setN now j ll = [] := by rw [zI_length]; exact List.length_eq_zero_iff
                    clear ei ej hs HR1 HR2
                    have HNR := Lib.hid (HNEAR.out i j (by omega))
                    have HZi := Lib.hid zi
                    have HZj := Lib.hid zj
                    clear zi zj
                    obtain ⟨li, HLI⟩ : ∃ li, Hid ((zI (setN now i ll)).length = li) := ⟨_, rfl⟩
                    obtain ⟨lj, HLJ⟩ : ∃ lj, Hid ((zI (setN now j ll)).length = lj) := ⟨_, rfl⟩
                    rw [HLI.out] at s1 bi HRi HZi
                    rw [HLJ.out] at s2 bj HRj HZj
                    have t6 : (i : Int) < (ll : Int) := by omega
                    have t7 : (j : Int) < (ll : Int) := by omega
                    by_cases h1 : li = 0
                    · have t8 : ((li : Int) == 0) = true := by simp [h1]
                      clear h1
                      go_wp2_with fail
                      go_roundw
                      case rel => exact ⟨j + 1, by omega, by omega, by go_num, HBJ.out⟩
                      case measure => simp [intOf]; omega
                    · have t8 : ((li : Int) == 0) = false := by simp; omega
                      by_cases h2 : lj = 0
                      · have t9 : ((lj : Int) == 0) = true := by simp [h2]
                        clear h1 h2
                        go_wp2_with fail
                        go_roundw
                        case rel => exact ⟨j + 1, by omega, by omega, by go_num, HBJ.out⟩
                        case measure => simp [intOf]; omega
                      · have t9 : ((lj : Int) == 0) = false := by simp; omega
                        obtain ⟨N', D', hnear⟩ := HNR.out (fun e => h1 (HZi.out.2 e)) (fun e => h2 (HZj.out.2 e))
                        have HNA := Lib.hid hnear
                        clear h1 h2 hnear HNR HZi HZj
                        obtain ⟨pi, hri⟩ := owns_in (z := zI (setN now i ll)) (by rw [HLI.out]; exact HRi.out)
                        obtain ⟨pj, hrj⟩ := owns_in (z := zI (setN now j ll)) (by rw [HLJ.out]; exact HRj.out)
                        rw [HLI.out] at hri
                        rw [HLJ.out] at hrj
                        have HPI := Lib.hid hri
                        have HPJ := Lib.hid hrj
                        have HDr := Lib.hid (HD6.out.below HBJ.out)
                        have hx0 := HX.out.below HBJ.out HX.out.lt
                        have HXr := Lib.hid hx0
                        clear hri hrj HRi HRj hx0
                        go_upto_region 29 with fail
                        have C1 := Lib.hid s1
                        have C2 := Lib.hid s2
                        go_cut [21, 22] (fun s21 s22 wx => s22 = .int .i64 0 ∧ ∃ p, s21 = .pointer (some ⟨p, 0, none⟩) ∧ FracAt wr p N' D' wx)
                        case first =>
                          go_region_held3 (fun w' => w'.cell? ⟨sb, i, none⟩ = some (.slice oi li ci) ∧ w'.cell? ⟨sb, j, none⟩ = some (.slice oj lj cj) ∧ Below wr.heap.size wr w')
                            (((try go_split_ands); refine two_keep C1 C2 ?_; first | assumption | exact (Below.refl _ _).drew | exact (Below.drew (by assumption)) | exact (Below.alloc (by assumption) (Below.size (by assumption)) _) | exact bel_set (bel_set (by assumption) (Nat.le_refl _)) (Nat.le_refl _)))
                            (first
                              | (go_at_call 15; (try go_split_ands); with_reducible refine (near_bet _ ll m (some ⟨db, 0, none⟩) nn nn db 0 d (HDr.out.below (by assumption)) (by omega) oj oi lj li cj ci pj pi 0 0 _ _ (HPJ.out.below (by assumption)) (HPI.out.below (by assumption)) (by omega) (by omega) N' D' HNA.out.val).mono ?_; rintro e w' ⟨rfl, hbx⟩; have hz := frac_zero hbx; have hz0 := hz.cell (i := 0) rfl; have hz1 := hz.cell (i := 1) rfl; have hf0 := hz.free 0; have hf1 := hz.free 1; have HZ := Lib.hid hz; have hby := bel_then (by assumption) hbx; clear hbx hz)
                              | (go_at_call 15; (try go_split_ands); with_reducible refine (near_bet _ ll m (some ⟨db, 0, none⟩) nn nn db 0 d (HDr.out.below (by assumption)) (by omega) oj oi lj li cj ci pj pi 0 0 _ _ (HPJ.out.below (by assumption)) (HPI.out.below (by assumption)) (by omega) (by omega) N' D' HNA.out.val).mono ?_; rintro e w' ⟨rfl, hbx⟩; have hby := bel_then (by assumption) hbx; clear hbx))
                          all_goals
                            go_wp2_with fail
                            go_meet
                            first
                              | exact ⟨rfl, _, rfl, fracA hby⟩
                              | exact ⟨rfl, _, rfl, fracB hby HZ.out⟩
                        case rest =>
                          obtain ⟨rfl, p, rfl, hfa⟩ := hcut
                          have HFA := Lib.hid hfa
                          have f0 := hfa.blk.cell (i := 0) rfl
                          have f1 := hfa.blk.cell (i := 1) rfl
                          have hx := HXr.out.below hfa.bel HXr.out.lt
                          have x0 := hx.cell (i := 0) rfl
                          have x1 := hx.cell (i := 1) rfl
                          have x2 := hx.cell (i := 2) rfl
                          have x3 := hx.cell (i := 3) rfl
                          have HBF := Lib.hid (bel_then HBJ.out hfa.bel)
                          clear hfa hx C1 C2 s1 s2 HXr HDr HPI HPJ HBJ
                          go_wp2_with fail
                          with_reducible refine (proper_ok N' D' _ HNA.out.hgt.h1 HNA.out.hgt.h2 HNA.out.hgt.h3 HNA.out.hgt.h4 HNA.out.hgt.h5).mono ?_
                          rintro e y1 ⟨rfl, hbx⟩
                          have kp : ∀ {p : Addr} {v : Value}, wc.cell? p = some v → y1.cell? p = some v := fun h => (hbx.cell (World.block_lt_of_cell? wc _ h)).trans h
                          replace f0 := kp f0
                          replace f1 := kp f1
                          replace x0 := kp x0
                          replace x1 := kp x1
                          replace x2 := kp x2
                          replace x3 := kp x3
                          have HBG := Lib.hid (bel_then HBF.out hbx)
                          clear kp hbx HBF
                          go_wp2_with fail
                          with_reducible refine (below_ok N' D' N D _ HNA.out.hgt.h1 HNA.out.hgt.h2 HNA.out.hgt.h3 HNA.out.hgt.h6 HH.out.h1 HH.out.h2 HH.out.h3 HH.out.h6).mono ?_
                          rw [HNA.out.low]
                          rintro e y2 ⟨rfl, hbx⟩
                          have kp : ∀ {p : Addr} {v : Value}, y1.cell? p = some v → y2.cell? p = some v := fun h => (hbx.cell (World.block_lt_of_cell? y1 _ h)).trans h
                          replace f0 := kp f0
                          replace f1 := kp f1
                          replace x0 := kp x0
                          replace x1 := kp x1
                          replace x2 := kp x2
                          replace x3 := kp x3
                          have HBH := Lib.hid (bel_then HBG.out hbx)
                          clear kp hbx HBG
                          by_cases hE : N' = N ∧ D' = D
                          · obtain ⟨rfl, rfl⟩ := hE
                            have hnb : ¬ Bef i j a b' := fun h => HNA.out.fst h ⟨rfl, rfl⟩
                            unfold Bef at hnb
                            have u1 : decide (i < a) = false := by simp; omega
                            by_cases hia : i = a
                            · subst hia
                              have u2 : decide (j < b') = false := by simp; omega
                              by_cases hjb : j = b'
                              · subst hjb
                                clear hnb
                                go_wp2_with fail
                                go_roundw
                                case rel => exact ⟨j + 1, by omega, by omega, by go_num, HBH.out⟩
                                case measure => simp [intOf]; omega
                              · have u3 : ((j : Int) == (b' : Int)) = false := by simp; omega
                                clear hnb hjb
                                go_wp2_with fail
                                go_roundw
                                case rel => exact ⟨j + 1, by omega, by omega, by go_num, HBH.out⟩
                                case measure => simp [intOf]; omega
                            · have u3 : ((i : Int) == (a : Int)) = false := by simp; omega
                              clear hnb hia
                              go_wp2_with fail
                              go_roundw
                              case rel => exact ⟨j + 1, by omega, by omega, by go_num, HBH.out⟩
                              case measure => simp [intOf]; omega
                          · have hne : ¬ (i = a ∧ j = b') := fun h => hE (HNA.out.eq h.1 h.2)
                            have e1 : ∀ w, (binOp .eql 33 (.agg #[Value.int IntKind.i64 N', Value.int IntKind.i64 D']) (.agg #[Value.int IntKind.i64 N, Value.int IntKind.i64 D])).run Tryd.prog w = .ok (.bool false) w := fun w => frac_ne hE w
                            by_cases hia : i = a
                            · subst hia
                              have u3 : ((j : Int) == (b' : Int)) = false := by simp; omega
                              clear hne hE
                              go_wp2_with fail
                              go_roundw
                              case rel => exact ⟨j + 1, by omega, by omega, by go_num, HBH.out⟩
                              case measure => simp [intOf]; omega
                            · have u3 : ((i : Int) == (a : Int)) = false := by simp; omega
                              clear hne hE hia
                              go_wp2_with fail
                              go_roundw
                              case rel => exact ⟨j + 1, by omega, by omega, by go_num, HBH.out⟩
                              case measure => simp [intOf]; omega
                  · have hjl2 : ¬ (j : Int) < (ll : Int) := by omega
                    go_wp2_with fail
                    go_roundw
                    case rel => exact ⟨i + 1, by omega, by go_num, HBJ.out⟩
                    case measure => simp [intOf]; omega
              · have hil2 : ¬ (i : Int) < (ll : Int) := by omega
                have HB7 := Lib.hid (bel_then HB6.out HBI.out)
                have HD7 := Lib.hid (HD6.out.below HBI.out)
                go_wp2_with fail
                go_roundw
                case rel => exact ⟨q + 1, by omega, by go_num, by rw [← HDB.out]; exact HB7.out, HD7.out⟩
                case measure => simp [intOf]; omega
    · obtain rfl : q = 3 := by omega
      go_wp2_with fail
      with_reducible refine (works_ok _).mono ?_
      rintro e w5 ⟨rfl, hb5⟩
      have HB5 := Lib.hid (bel_then HB.out hb5)
      clear hb5
      go_wp2_with fail
      go_ret
      exact ⟨rfl, HB5.out⟩

end Go.Proofs.YthhddjknjnjbhaaDoor
