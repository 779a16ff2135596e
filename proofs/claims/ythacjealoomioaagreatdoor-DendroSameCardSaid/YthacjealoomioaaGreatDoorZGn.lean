/- DmE, DmR, DmS, DmT, DmU. -/
import Derived.Test.YthacjealoomioaaGreatDoorZDmA
import Derived.Test.YthacjealoomioaaGreatDoorZGd
import Derived.Test.YthacjealoomioaaGreatDoorZGc
import Derived.Test.YthacjealoomioaaGreatDoorZGf
import Derived.Test.YthacjealoomioaaGreatDoorZGa
import Derived.Lib.AppendStr
import Derived.Shelf.Strconv.ErrVarParseInt
/- dendro.Text: the closure that writes a node. -/
namespace Go.Proofs.YthacjealoomioaaGreatDoor
set_option linter.unusedVariables false
set_option linter.unusedSimpArgs false
open Go.RowKit

def Pow10 (B : Nat) (w : World) : Prop := Lib.TabBelow Tryz.prog B w "internal/strconv.uint64pow10" .u64 Lib.pow10Tab

theorem Tryz.infoByte : (Tryz.prog.info? 5).map (fun i => (i.zero, i.size, i.bytes)) = some (some (.int .u8 0), 1, 1) := by kernel_rfl

theorem owns_0 {w : World} {B : Nat} {e : TypeId} {size n : Nat} {v : Value} {xs : List Value} (h : w.ownsRow B e size v n xs) : w.ownsRow 0 e size v n xs := by
  refine ⟨h.1, h.2.imp id ?_⟩
  rintro ⟨g, cap, cur, h1, _, h3⟩
  exact ⟨g, cap, cur, h1, Nat.zero_le _, h3⟩
theorem owns_at {w : World} {B : Nat} {e : TypeId} {size n : Nat} {v : Value} {xs : List Value} (h : w.ownsRow 0 e size v n xs) (hB : ∀ k, v.ownBlock = some k → B ≤ k) : w.ownsRow B e size v n xs := by
  refine ⟨h.1, h.2.imp id ?_⟩
  rintro ⟨g, cap, cur, h1, _, h3⟩
  exact ⟨g, cap, cur, h1, hB g (by rw [h1]; rfl), h3⟩
theorem owns_ge {w : World} {B : Nat} {e : TypeId} {size n : Nat} {v : Value} {xs : List Value} (h : w.ownsRow B e size v n xs) : ∀ k, v.ownBlock = some k → B ≤ k := by
  intro k hk
  rcases h.2 with ⟨rfl, _⟩ | ⟨g, cap, cur, rfl, hg, _⟩
  · cases hk
  · have : g = k := by simpa [Value.ownBlock] using hk
    omega
theorem owns_ne_blk {w : World} {B : Nat} {e : TypeId} {size n : Nat} {v : Value} {xs : List Value} (h : w.ownsRow B e size v n xs) {b : Nat} {T : TypeId} {cs : List Value} (hb : Blk w b T cs) (hT : T ≠ e) : v.ownBlock ≠ some b := by
  intro hk
  rcases h.2 with ⟨rfl, _⟩ | ⟨g, cap, cur, rfl, _, hg, _⟩
  · cases hk
  · have : g = b := by simpa [Value.ownBlock] using hk
    subst this
    unfold Blk at hb
    rw [hb] at hg
    injection hg with hg
    injection hg with _ e2
    exact hT e2
theorem owns_keep {w w' : World} {B : Nat} {e : TypeId} {size n : Nat} {v : Value} {xs : List Value} (h : w.ownsRow B e size v n xs) (hk : ∀ k, v.ownBlock = some k → w'.heap[k]? = w.heap[k]?) : w'.ownsRow B e size v n xs := owns_same h hk

abbrev fnV (tb tp wp : Nat) : Value := .func (.func 56) #[] #[.pointer (some ⟨tb, 0, none⟩), .pointer (some ⟨tp, 0, none⟩), .pointer (some ⟨wp, 0, none⟩)]

/-- While a text is written: txt is what stands there; v is the slice. -/
structure TxI (w0 : World) (A : TA) (t : Tr) (K : World → Prop) (tb tp wp : Nat) (txt : List UInt8) (v : Value) (W : World) : Prop where
  box : TBox W tb A t
  tx : Blk W tp 56 [v]
  fn : Blk W wp 100 [fnV tb tp wp]
  own : W.ownsRow w0.heap.size 5 1 v txt.length (Lib.byteCells txt)
  bel : Below w0.heap.size w0 W
  g1 : w0.heap.size ≤ tb
  g2 : w0.heap.size ≤ tp
  g3 : w0.heap.size ≤ wp
  kk : K W
  kh : ∀ W W', (∀ b T cs, T ≠ 5 → T ≠ 56 → Blk W b T cs → Blk W' b T cs) → K W → K W'

/-- Behind a write: boxes kept, the row longer, the slice stored. -/
theorem TxI.step {w0 : World} {A : TA} {t : Tr} {K : World → Prop} {tb tp wp : Nat} {txt new : List UInt8} {v v' : Value} {W W2 : World} (h : TxI w0 A t K tb tp wp txt v W) (hb : Below w0.heap.size W W2) (hk : ∀ b T cs, T ≠ 5 → Blk W b T cs → Blk W2 b T cs)
    (ho : W2.ownsRow w0.heap.size 5 1 v' (txt ++ new).length (Lib.byteCells (txt ++ new))) :
    (W2.cell? ⟨tp, 0, none⟩ = some v ∧ W2.frozen? ⟨tp, 0, none⟩ = false) ∧ TxI w0 A t K tb tp wp (txt ++ new) v' (W2.setCell ⟨tp, 0, none⟩ v') := by
  have b1 : TBox W2 tb A t := hk _ _ _ (by decide) h.box
  have b2 := hk _ _ _ (by decide) h.tx
  have b3 := hk _ _ _ (by decide) h.fn
  have n1 : tb ≠ tp := fun e => by
    have h1 : Blk W tb _ _ := h.box
    rw [e] at h1
    exact absurd (h1.inj h.tx).1 (by decide)
  have n3 : wp ≠ tp := fun e => by
    have h1 := h.fn
    rw [e] at h1
    exact absurd (h1.inj h.tx).1 (by decide)
  refine ⟨⟨b2.cell (i := 0) rfl, b2.free 0⟩, ?_, b2.set 0 v', Blk.other b3 _ _ n3, owns_keep ho (fun k hk2 => ?_), ?_, h.g1, h.g2, h.g3, h.kh W _ (fun b T cs q1 q2 qb => Blk.other (hk b T cs q1 qb) _ _ (fun e => by rw [e] at qb; exact q2 (qb.inj h.tx).1)) h.kk, h.kh⟩
  · exact Blk.other b1 _ _ n1
  · have hne : k ≠ tp := fun e => owns_ne_blk ho b2 (by decide) (by rw [← e]; exact hk2)
    have hm : Mod (fun x => x = tp) W2 (W2.setCell ⟨tp, 0, none⟩ v') := Mod.setCell (Mod.refl (fun x => x = tp) W2) ⟨tp, 0, none⟩ (fun _ => rfl) v'
    exact hm.block k (owns_0 ho |>.lt k hk2).2 hne
  · exact bel_mod (h.bel.trans hb) (Mod.setCell (Mod.refl (fun x => x = tp) W2) ⟨tp, 0, none⟩ (fun _ => rfl) v') (fun x e => by rw [e]; exact h.g2)

/-- An append of cells of its own. -/
theorem TxI.app {w0 : World} {A : TA} {t : Tr} {K : World → Prop} {tb tp wp : Nat} {txt new : List UInt8} {v v' : Value} {W W1 W2 : World} (h : TxI w0 A t K tb tp wp txt v W) (h1 : Below W.heap.size W W1) (ho : W2.ownsRow 0 5 1 v' (txt.length + new.length) (Lib.byteCells txt ++ Lib.byteCells new)) (hg : W1.grownBy W2 v.ownBlock) (hn : ∀ k, v'.ownBlock = some k → v.ownBlock = some k ∨ W1.heap.size ≤ k) :
    (W2.cell? ⟨tp, 0, none⟩ = some v ∧ W2.frozen? ⟨tp, 0, none⟩ = false) ∧ TxI w0 A t K tb tp wp (txt ++ new) v' (W2.setCell ⟨tp, 0, none⟩ v') := by
  have hs := h.bel.size
  have hs1 := h1.size
  have hM : Mod (fun k => v.ownBlock = some k) W W2 := (Mod.of_below (F := fun k => v.ownBlock = some k) h1).grown hg (fun k e _ => e)
  refine h.step (hM.below hs (fun x e => owns_ge h.own x e)) (fun b T cs hT hb => hb.mod hM (fun e => owns_ne_blk h.own hb hT e)) ?_
  rw [List.length_append, show Lib.byteCells (txt ++ new) = Lib.byteCells txt ++ Lib.byteCells new by simp [Lib.byteCells]]
  exact owns_at ho (fun k hk => by
    rcases hn k hk with e | e
    · exact owns_ge h.own k e
    · omega)

/-- An append of a string. -/
theorem TxI.str {w0 : World} {A : TA} {t : Tr} {K : World → Prop} {tb tp wp : Nat} {txt new : List UInt8} {v v' : Value} {W W2 : World} (h : TxI w0 A t K tb tp wp txt v W) (ho : W2.ownsRow w0.heap.size 5 1 v' (txt.length + new.length) (Lib.byteCells txt ++ Lib.byteCells new)) (hg : W.grownBy W2 v.ownBlock) :
    (W2.cell? ⟨tp, 0, none⟩ = some v ∧ W2.frozen? ⟨tp, 0, none⟩ = false) ∧ TxI w0 A t K tb tp wp (txt ++ new) v' (W2.setCell ⟨tp, 0, none⟩ v') := by
  have hs := h.bel.size
  have hM : Mod (fun k => v.ownBlock = some k) W W2 := (Mod.refl _ W).grown hg (fun k e _ => e)
  refine h.step (hM.below hs (fun x e => owns_ge h.own x e)) (fun b T cs hT hb => hb.mod hM (fun e => owns_ne_blk h.own hb hT e)) ?_
  rw [List.length_append, show Lib.byteCells (txt ++ new) = Lib.byteCells txt ++ Lib.byteCells new by simp [Lib.byteCells]]
  exact ho

theorem Tryz.byteInfo : ∃ i, Tryz.prog.info? 5 = some i ∧ i.zero = some (.int .u8 0) ∧ i.size = 1 ∧ i.bytes = 1 := by
  obtain ⟨i, h1, h2⟩ := Option.map_eq_some_iff.1 Tryz.infoByte
  injection h2 with h2 h3
  injection h3 with h3 h4
  exact ⟨i, h1, h2, h3, h4⟩

/-- A number written by the library. -/
theorem TxI.num {w0 : World} {A : TA} {t : Tr} {K : World → Prop} {tb tp wp : Nat} {txt new : List UInt8} {v v' : Value} {W W2 : World} (h : TxI w0 A t K tb tp wp txt v W) (ho : W2.ownsRow w0.heap.size 5 1 v' (txt.length + new.length) (Lib.byteCells txt ++ Lib.byteCells new)) (hb : Below w0.heap.size W W2) (hk : Lib.OthersKept 5 none W W2) :
    (W2.cell? ⟨tp, 0, none⟩ = some v ∧ W2.frozen? ⟨tp, 0, none⟩ = false) ∧ TxI w0 A t K tb tp wp (txt ++ new) v' (W2.setCell ⟨tp, 0, none⟩ v') := by
  refine h.step hb (fun b T cs hT hb => ?_) ?_
  · exact hk b _ hb (by simp) (fun c fz e => by injection e with _ e2; exact hT e2)
  · rw [List.length_append, show Lib.byteCells (txt ++ new) = Lib.byteCells txt ++ Lib.byteCells new by simp [Lib.byteCells]]
    exact ho

theorem TxI.drew {w0 : World} {A : TA} {t : Tr} {K : World → Prop} {tb tp wp : Nat} {txt : List UInt8} {v : Value} {W W2 : World} (h : TxI w0 A t K tb tp wp txt v W) (hd : DrewOf W W2) : TxI w0 A t K tb tp wp txt v W2 := by
  unfold DrewOf at hd
  subst hd
  exact ⟨h.box, h.tx, h.fn, h.own, h.bel.drew, h.g1, h.g2, h.g3, h.kh W _ (fun b T cs _ _ qb => qb) h.kk, h.kh⟩

/-- The node is written behind what stands there. -/
structure TxPost (w0 : World) (A : TA) (t : Tr) (K : World → Prop) (tb tp wp : Nat) (txt : List UInt8) (e : Ending) (W : World) : Prop where
  val : e = .returned (.tuple #[])
  ex : ∃ v, TxI w0 A t K tb tp wp txt v W

set_option maxHeartbeats 8000000 in
set_option maxRecDepth 100000 in
theorem write_ok (w0 : World) (hP : Pow10 w0.heap.size w0) (A : TA) (t : Tr) (ht : TreeAt w0 A t) (n m : Nat) (ls : List Nat) (tv : TV t n m ls) (h64 : ∀ x, x < m → In64 (gi t.hgt x)) (K : World → Prop) (tb tp wp : Nat) :
    ∀ x, x < m → ∀ (W : World) (txt : List UInt8) (v : Value), TxI w0 A t K tb tp wp txt v W → txt.length + (bt t n x).txt.length ≤ 1000000000 →
      Calls Tryz.prog 56 #[.int .i64 (x : Int), .pointer (some ⟨tb, 0, none⟩), .pointer (some ⟨tp, 0, none⟩), .pointer (some ⟨wp, 0, none⟩)] W (TxPost w0 A t K tb tp wp (txt ++ (bt t n x).txt)) := by
  have HP := Lib.hid hP
  have HT := Lib.hid ht
  have HV := Lib.hid tv
  have H64 := Lib.hid h64
  have hn4 := tv.hn
  have hm2 := tv.two
  clear hP ht tv h64
  intro x
  induction x using Nat.strongRecOn with
  | _ x ih =>
    intro hx W txt v hi hlen
    have HI := Lib.hid hi
    have HIH := Lib.hid ih
    clear ih hi
    have c0 := TBox.c0 HI.out.box
    rw [HV.out.lv] at c0
    have d0 := HI.out.tx.cell (i := 0) rfl
    obtain ⟨vo, vc, rfl⟩ := owns_slice (owns_0 HI.out.own)
    by_cases hxn : x < n
    · rw [bt_leaf hxn] at hlen ⊢
      have hlen2 : txt.length + (Lib.itoa (x : Int)).length ≤ 1000000000 := hlen
      have t1 : (x : Int) < (n : Int) := by omega
      have t1n : decide (x < n) = true := decide_eq_true hxn
      have hcon := Any.strconv_AppendInt_10 Tryz.appInt w0.heap.size txt.length (x : Int) (by omega) (by omega) _ _ W HI.out.own HI.out.bel.size (by omega) (HP.out.on HI.out.bel)
      have HC := Lib.hid hcon
      clear hcon hlen hlen2
      go_enter Tryz.func56, Tryz.ntmps56
      go_wp2_with fail
      refine HC.out.mono ?_
      rintro e W2 ⟨v2, rfl, ho, hb, hk⟩
      obtain ⟨a2, k2, rfl⟩ := owns_slice (owns_0 ho)
      obtain ⟨⟨c2, f2⟩, hi2⟩ := HI.out.num ho hb hk
      have HI2 := Lib.hid hi2
      clear ho hb hk hi2 c0 d0 HC
      go_wp2_with fail
      exact ⟨rfl, _, results_none rfl _ _ _, ⟨rfl, _, HI2.out⟩⟩
    · have hnx : n ≤ x := by omega
      have t1 : ¬ (x : Int) < (n : Int) := by omega
      have t1n : decide (x < n) = false := decide_eq_false hxn
      rw [bt_node HV.out hnx hx] at hlen ⊢
      have hln : txt.length + (BT.node (bt t n (lc t x)) (bt t n (rc t x)) (gi t.hgt x)).txt.length = txt.length + (1 + ((bt t n (lc t x)).txt.length + (1 + ((bt t n (rc t x)).txt.length + (2 + (Lib.itoa (gi t.hgt x)).length))))) := by
        rw [BT.txt, List.length_cons, List.length_append, List.length_cons, List.length_append, List.length_cons, List.length_cons]
        omega
      rw [hln] at hlen
      obtain ⟨FT, hFT⟩ : ∃ FT, txt ++ (BT.node (bt t n (lc t x)) (bt t n (rc t x)) (gi t.hgt x)).txt = FT := ⟨_, rfl⟩
      rw [hFT]
      have HTX : Hid (FT = ((((txt ++ [40]) ++ (bt t n (lc t x)).txt) ++ [44]) ++ (bt t n (rc t x)).txt) ++ [41, 58] ++ Lib.itoa (gi t.hgt x)) := by
        show _ = _
        rw [← hFT, BT.txt]
        simp only [List.append_assoc, List.cons_append, List.nil_append]
      clear hFT
      have hma := (HT.out.below HI.out.bel).mgAt HV.out hnx hx
      have hll := hma.ll
      have hlr := hma.lr
      have hlt1 : lc t x < x := by
        obtain ⟨⟨a, b, _⟩, _⟩ := HV.out.inn x hnx hx
        unfold lc; omega
      have hlt2 : rc t x < x := by
        obtain ⟨⟨a, b, _⟩, _⟩ := HV.out.inn x hnx hx
        unfold rc; omega
      have HG := Lib.hid (H64.out x hx)
      have HL := Lib.hid (HIH.out (lc t x) hlt1 hll)
      have HR := Lib.hid (HIH.out (rc t x) hlt2 hlr)
      have HM0 : Hid (∀ W, Below w0.heap.size w0 W → MgAt W A t m x (lc t x) (rc t x)) := fun W hW => (HT.out.below hW).mgAt HV.out hnx hx
      have hel := hma.el
      have her := hma.er
      have heh := hma.eh
      generalize (bt t n (lc t x)).txt = L1 at *
      generalize (bt t n (rc t x)).txt = L2 at *
      have HLL : Hid (t.left.length = m) := HV.out.ll
      have HRL : Hid (t.right.length = m) := HV.out.rl
      have HHL : Hid (t.hgt.length = m) := HV.out.hl
      have HEL := Lib.hid hel
      have HER := Lib.hid her
      have HEH := Lib.hid heh
      generalize lc t x = l at *
      generalize rc t x = r at *
      obtain ⟨g, HGE⟩ : ∃ g, Hid (gi t.hgt x = g) := ⟨_, rfl⟩
      rw [HGE.out] at hlen HTX HG
      clear hln hma hll hlr hlt1 hlt2 hel her heh HIH hxn
      have g1 : (x : Int) < (m : Int) := by omega
      have g2 : (0 : Int) ≤ (x : Int) := by omega
      have HOW := Lib.hid ((owns_0 HI.out.own).alloc (.cells #[.int .u8 40] 5))
      have HNW := Lib.hid (news_new W 5 [.int .u8 40])
      have hl0 : txt.length ≤ 1000000000 := by omega
      go_enter Tryz.func56, Tryz.ntmps56
      go_wp2_with (at_builtin; apply keepIt)
      apply Lib.hid
      refine wpList_appendB 5 (.int .u8 0) 1 1 Tryz.underlying56 Tryz.infoByte rfl (by decide) _ txt.length _ rfl HOW.out ⟨W.heap.size, 0, none⟩ 1 1 [.int .u8 40] rfl rfl HNW.out (by simp [Value.oneCell']) (by unfold maxLen; omega) (by omega) ?_
      intro v2 W2 ho hg hn
      obtain ⟨a2, k2, rfl⟩ := owns_slice ho
      obtain ⟨⟨c2, f2⟩, hi2⟩ := HI.out.app (new := [40]) (bel_alloc W _) ho hg hn
      have HI2 := Lib.hid hi2
      have hl2 : (txt ++ [40]).length = txt.length + 1 := by simp
      have HL2 : Hid (∀ W v, TxI w0 A t K tb tp wp (txt ++ [40]) v W → Calls Tryz.prog 56 #[.int .i64 (l : Int), .pointer (some ⟨tb, 0, none⟩), .pointer (some ⟨tp, 0, none⟩), .pointer (some ⟨wp, 0, none⟩)] W (TxPost w0 A t K tb tp wp (txt ++ [40] ++ L1))) := fun W v h => HL.out W _ v h (by rw [hl2]; omega)
      clear ho hg hn hi2 HOW HNW c0 d0 hl2
      go_wp2_with fail
      generalize W2.setCell ⟨tp, 0, none⟩ _ = X2 at HI2 ⊢
      have c1 := TBox.c1 HI2.out.box
      have d1 := HI2.out.fn.cell (i := 0) rfl
      unfold fnV at d1
      have e1 := (HM0.out _ HI2.out.bel).cl
      rw [HEL.out, HLL.out] at c1
      clear c2 f2
      refine region_tailQ 6 (by kernel_rfl) (by kernel_rfl) (by kernel_rfl) ?_
      intro Y2 hY
      replace c1 := hY.cell c1
      replace d1 := hY.cell d1
      replace e1 := hY.cell e1
      have HIY := Lib.hid (HI2.out.drew hY)
      clear hY
      simp only [List.take_succ_cons, List.take_zero, List.drop_succ_cons, List.drop_zero]
      repeat (go_big_quiet_step (fail))
      refine wpQuiet_nil ?_
      clear c1 d1 e1
      go_wp2_with fail
      refine (HL2.out _ _ HIY.out).mono ?_
      rintro e W3 ⟨rfl, v3, hi3⟩
      obtain ⟨o3, k3, rfl⟩ := owns_slice (owns_0 hi3.own)
      have HI3 := Lib.hid hi3
      have d0 := hi3.tx.cell (i := 0) rfl
      clear hi3 HIY HI2
      have hl3 : (txt ++ [40] ++ L1).length = txt.length + 1 + L1.length := by simp; omega
      obtain ⟨T3, hT3⟩ : ∃ T3, txt ++ [40] ++ L1 = T3 := ⟨_, rfl⟩
      rw [hT3] at HI3 hl3 d0 HTX
      have HT3 := Lib.hid hT3
      have HLN3 := Lib.hid hl3
      clear hT3 hl3
      have HOW := Lib.hid ((owns_0 HI3.out.own).alloc (.cells #[.int .u8 44] 5))
      have HNW := Lib.hid (news_new W3 5 [.int .u8 44])
      have hl0 : T3.length ≤ 1000000000 := by have := HLN3.out; omega
      go_wp2_with (at_builtin; apply keepIt)
      apply Lib.hid
      refine wpList_appendB 5 (.int .u8 0) 1 1 Tryz.underlying56 Tryz.infoByte rfl (by decide) (.slice o3 T3.length k3) T3.length (Lib.byteCells T3) rfl HOW.out ⟨W3.heap.size, 0, none⟩ 1 1 [.int .u8 44] rfl rfl HNW.out (by simp [Value.oneCell']) (by unfold maxLen; omega) (by omega) ?_
      intro v4 W4 ho hg hn
      obtain ⟨a4, k4, rfl⟩ := owns_slice ho
      obtain ⟨⟨c2, f2⟩, hi4⟩ := HI3.out.app (new := [44]) (bel_alloc W3 _) ho hg hn
      have HI4 := Lib.hid hi4
      have hl4 : (T3 ++ [44]).length = T3.length + 1 := by simp
      have HL4 : Hid (∀ W v, TxI w0 A t K tb tp wp (T3 ++ [44]) v W → Calls Tryz.prog 56 #[.int .i64 (r : Int), .pointer (some ⟨tb, 0, none⟩), .pointer (some ⟨tp, 0, none⟩), .pointer (some ⟨wp, 0, none⟩)] W (TxPost w0 A t K tb tp wp (T3 ++ [44] ++ L2))) := fun W v h => HR.out W _ v h (by rw [hl4]; have := HLN3.out; omega)
      clear ho hg hn hi4 HOW HNW d0 hl4 hl0
      go_wp2_with fail
      generalize W4.setCell ⟨tp, 0, none⟩ _ = X4 at HI4 ⊢
      have c1 := TBox.c2 HI4.out.box
      have d1 := HI4.out.fn.cell (i := 0) rfl
      unfold fnV at d1
      have e1 := (HM0.out _ HI4.out.bel).cr
      rw [HER.out, HRL.out] at c1
      clear c2 f2
      refine region_tailQ 6 (by kernel_rfl) (by kernel_rfl) (by kernel_rfl) ?_
      intro Y4 hY
      replace c1 := hY.cell c1
      replace d1 := hY.cell d1
      replace e1 := hY.cell e1
      have HIY := Lib.hid (HI4.out.drew hY)
      clear hY
      simp only [List.take_succ_cons, List.take_zero, List.drop_succ_cons, List.drop_zero]
      repeat (go_big_quiet_step (fail))
      refine wpQuiet_nil ?_
      clear c1 d1 e1
      go_wp2_with fail
      refine (HL4.out _ _ HIY.out).mono ?_
      rintro e W5 ⟨rfl, v5, hi5⟩
      obtain ⟨o5, k5, rfl⟩ := owns_slice (owns_0 hi5.own)
      have HI5 := Lib.hid hi5
      have d0 := hi5.tx.cell (i := 0) rfl
      clear hi5 HIY HI4
      have hl5 : (T3 ++ [44] ++ L2).length = T3.length + 1 + L2.length := by simp; omega
      obtain ⟨T5, hT5⟩ : ∃ T5, T3 ++ [44] ++ L2 = T5 := ⟨_, rfl⟩
      rw [hT5] at HI5 hl5 d0 HTX
      have HT5 := Lib.hid hT5
      have HLN5 := Lib.hid hl5
      clear hT5 hl5
      have HOW := Lib.hid HI5.out.own
      have hl0 : T5.length ≤ 1000000000 := by have := HLN3.out; have := HLN5.out; omega
      go_wp2_with (at_builtin; apply keepIt)
      apply Lib.hid
      obtain ⟨bi, bi1, bi2, bi3, bi4⟩ := Tryz.byteInfo
      refine Lib.wpList_append_own_string W5 rfl _ _ 56 9 rfl w0.heap.size 5 bi Tryz.underlying56 Tryz.underlying9 bi1 bi2 bi3 bi4 (.slice o5 T5.length k5) T5.length (Lib.byteCells T5) rfl HOW.out ⟨#[41, 58]⟩ rfl (by simp [ByteArray.size]; unfold maxLen; omega) (by simp [ByteArray.size]; omega) HI5.out.bel.size ?_
      intro v6 W6 ho hg _
      rw [show (⟨#[41, 58]⟩ : ByteArray).size = 2 from rfl] at ho
      obtain ⟨a6, k6, rfl⟩ := owns_slice (owns_0 ho)
      obtain ⟨⟨c2, f2⟩, hi6⟩ := HI5.out.str (new := [41, 58]) ho hg
      have HI6 := Lib.hid hi6
      have hl6 : (T5 ++ [41, 58]).length = T5.length + 2 := by simp
      have HLN6 := Lib.hid hl6
      clear ho hg hi6 HOW d0 hl6 hl0 bi1 bi2 bi3 bi4
      go_wp2_with fail
      generalize W6.setCell ⟨tp, 0, none⟩ _ = X6 at HI6 ⊢
      obtain ⟨T6, hT6⟩ : ∃ T6, T5 ++ [41, 58] = T6 := ⟨_, rfl⟩
      rw [hT6] at HI6 HTX HLN6
      have HT6 := Lib.hid hT6
      clear hT6
      have c1 := TBox.c4 HI6.out.box
      have d1 := HI6.out.tx.cell (i := 0) rfl
      have e1 := (HM0.out _ HI6.out.bel).ch
      rw [HGE.out] at e1
      rw [HEH.out, HHL.out] at c1
      rw [← HLN6.out] at d1
      have hl0 : T6.length ≤ 1000000000 := by
        have := HLN3.out; have := HLN5.out; have h6 := HLN6.out; omega
      clear c2 f2
      refine region_tailQ 6 (by kernel_rfl) (by kernel_rfl) (by kernel_rfl) ?_
      intro Y hY
      replace c1 := hY.cell c1
      replace d1 := hY.cell d1
      replace e1 := hY.cell e1
      have hi7 := HI6.out.drew hY
      rw [← HLN6.out] at hi7
      have HI7 := Lib.hid hi7
      clear hY HI6 hi7
      have HC := Lib.hid (Any.strconv_AppendInt_10 Tryz.appInt w0.heap.size T6.length g HG.out.1 HG.out.2 _ _ Y HI7.out.own HI7.out.bel.size (by omega) (HP.out.on HI7.out.bel))
      simp only [List.take_succ_cons, List.take_zero, List.drop_succ_cons, List.drop_zero]
      repeat (go_big_quiet_step (fail))
      refine wpQuiet_nil ?_
      clear c1 d1 e1
      go_wp2_with fail
      refine HC.out.mono ?_
      rintro e W8 ⟨v8, rfl, ho, hb, hk⟩
      obtain ⟨a8, k8, rfl⟩ := owns_slice (owns_0 ho)
      obtain ⟨⟨c2, f2⟩, hi8⟩ := HI7.out.num ho hb hk
      have HI8 := Lib.hid hi8
      clear ho hb hk hi8 HC
      go_wp2_with fail
      exact ⟨rfl, _, results_none rfl _ _ _, ⟨rfl, _, by rw [HTX.out]; exact HI8.out⟩⟩

end Go.Proofs.YthacjealoomioaaGreatDoor

/- dendro: the reader in memory; digit. -/
namespace Go.Proofs.YthacjealoomioaaGreatDoor
set_option linter.unusedVariables false
set_option linter.unusedSimpArgs false
open Go.RowKit

def jtCells (l : List Jt) : List Value := l.flatMap fun j => [.int .i64 j.l, .int .i64 j.r, .int .i64 j.h]
def opCells (l : List (Int × Bool)) : List Value := l.flatMap fun o => [.int .i64 o.1, .bool o.2]
def rdCells (st : RdS) (jv sv : Value) : List Value := [.int .i64 (st.want : Int), .int .i64 (st.bg : Int), .int .i64 st.node, .int .i64 (st.leaves : Int), jv, sv]

/-- The reader at rp. -/
structure RdO (w0 : World) (io : Nat × ByteArray × Nat) (rp : Nat) (st : RdS) (jv sv : Value) (W : World) : Prop where
  box : Blk W rp 126 (rdCells st jv sv)
  js : W.ownsRow w0.heap.size 134 3 jv st.joints.length (jtCells st.joints)
  sk : W.ownsRow w0.heap.size 129 2 sv st.stack.length (opCells st.stack)
  bel : Below w0.heap.size w0 W
  new : w0.heap.size ≤ rp
  it : W.heap[io.1]? = some (.stringIter io.2.1 io.2.2)

theorem itr_ne {W : World} {k p : Nat} {s : ByteArray} (h : W.heap[k]? = some (.stringIter s p)) {b : Nat} {T : TypeId} {cs : List Value} (hb : Blk W b T cs) : k ≠ b := by
  intro e
  subst e
  unfold Blk at hb
  rw [hb] at h
  cases h
theorem itr_own {W : World} {k p : Nat} {s : ByteArray} (h : W.heap[k]? = some (.stringIter s p)) {B : Nat} {e : TypeId} {size n : Nat} {v : Value} {xs : List Value} (ho : W.ownsRow B e size v n xs) : v.ownBlock ≠ some k := by
  intro hk
  rcases ho.2 with ⟨rfl, _⟩ | ⟨g, cap, cur, rfl, _, hg, _⟩
  · cases hk
  · have : g = k := by simpa [Value.ownBlock] using hk
    subst this
    rw [h] at hg
    cases hg
theorem itr_mod {F : Nat → Prop} {W W' : World} (hM : Mod F W W') {k p : Nat} {s : ByteArray} (h : W.heap[k]? = some (.stringIter s p)) (hF : ¬ F k) : W'.heap[k]? = some (.stringIter s p) := (hM.block k (Array.getElem?_eq_some_iff.1 h).1 hF).trans h

theorem owns_other {w : World} {B : Nat} {e : TypeId} {size n : Nat} {v : Value} {xs : List Value} (h : w.ownsRow B e size v n xs) {b : Nat} {T : TypeId} {cs : List Value} (hb : Blk w b T cs) (hT : T ≠ e) (i : Nat) (u : Value) : (w.setCell ⟨b, i, none⟩ u).ownsRow B e size v n xs := by
  refine owns_same h fun k hk => ?_
  have hne : k ≠ b := fun e => owns_ne_blk h hb hT (by rw [← e]; exact hk)
  exact (Mod.setCell (Mod.refl (fun x => x = b) w) ⟨b, i, none⟩ (fun _ => rfl) u).block k ((owns_0 h).lt k hk).2 hne

/-- A field of its box is written. -/
theorem RdO.put {w0 : World} {io : Nat × ByteArray × Nat} {rp : Nat} {st : RdS} {jv sv : Value} {W : World} (h : RdO w0 io rp st jv sv W) (i : Nat) (u : Value) (st' : RdS) (hc : (rdCells st jv sv).set i u = rdCells st' jv sv) (hj : st'.joints = st.joints) (hs : st'.stack = st.stack) : RdO w0 io rp st' jv sv (W.setCell ⟨rp, i, none⟩ u) := by
  refine ⟨?_, ?_, ?_, ?_, h.new, itr_mod (Mod.setCell (Mod.refl (fun x => x = rp) W) ⟨rp, i, none⟩ (fun _ => rfl) u) h.it (fun e => itr_ne h.it h.box e)⟩
  · have := h.box.set i u
    rw [hc] at this
    exact this
  · rw [hj]; exact owns_other h.js h.box (by decide) i u
  · rw [hs]; exact owns_other h.sk h.box (by decide) i u
  · exact bel_mod h.bel (Mod.setCell (Mod.refl (fun x => x = rp) W) ⟨rp, i, none⟩ (fun _ => rfl) u) (fun x e => by rw [e]; exact h.new)

structure DgPost (w0 : World) (io : Nat × ByteArray × Nat) (rp : Nat) (r : RdS × Bool) (jv sv : Value) (e : Ending) (W : World) : Prop where
  val : e = .returned (.bool r.2)
  obj : RdO w0 io rp r.1 jv sv W

set_option maxHeartbeats 4000000 in
set_option maxRecDepth 100000 in
theorem digit_ok (w0 : World) (io : Nat × ByteArray × Nat) (rp : Nat) (st : RdS) (jv sv : Value) (W : World) (h : RdO w0 io rp st jv sv W) (hw : st.want ≤ 5) (at_ : Nat) (minus : Bool) :
    Calls Tryz.prog 74 #[.pointer (some ⟨rp, 0, none⟩), .int .i64 (at_ : Int), .bool minus] W (DgPost w0 io rp (dgR st at_ minus) jv sv) := by
  obtain ⟨want, bg, node, leaves, joints, stack⟩ := st
  have HO := Lib.hid h
  have c0 := h.box.cell (i := 0) rfl
  have c1 := h.box.cell (i := 1) rfl
  have f0 := h.box.free 0
  have f1 := h.box.free 1
  clear h
  have hcs : want = 0 ∨ want = 1 ∨ want = 2 ∨ want = 3 ∨ want = 4 ∨ want = 5 := by
    have : want ≤ 5 := hw
    omega
  clear hw
  rcases hcs with rfl | rfl | rfl | rfl | rfl | rfl
  · have HF : Hid (RdO w0 io rp ⟨2, at_, node, leaves, joints, stack⟩ jv sv ((W.setCell ⟨rp, 1, none⟩ (.int .i64 (at_ : Int))).setCell ⟨rp, 0, none⟩ (.int .i64 2))) :=
      (HO.out.put 1 (.int .i64 (at_ : Int)) ⟨0, at_, node, leaves, joints, stack⟩ rfl rfl rfl).put 0 (.int .i64 2) ⟨2, at_, node, leaves, joints, stack⟩ rfl rfl rfl
    go_enter Tryz.func74, Tryz.ntmps74
    go_wp2_with fail
    go_ret
    exact ⟨rfl, HF.out⟩
  · have HF : Hid (RdO w0 io rp ⟨2, at_, node, leaves, joints, stack⟩ jv sv ((W.setCell ⟨rp, 1, none⟩ (.int .i64 (at_ : Int))).setCell ⟨rp, 0, none⟩ (.int .i64 2))) :=
      (HO.out.put 1 (.int .i64 (at_ : Int)) ⟨1, at_, node, leaves, joints, stack⟩ rfl rfl rfl).put 0 (.int .i64 2) ⟨2, at_, node, leaves, joints, stack⟩ rfl rfl rfl
    go_enter Tryz.func74, Tryz.ntmps74
    go_wp2_with fail
    go_ret
    exact ⟨rfl, HF.out⟩
  · go_enter Tryz.func74, Tryz.ntmps74
    go_wp2_with fail
    go_ret
    exact ⟨rfl, HO.out⟩
  · go_enter Tryz.func74, Tryz.ntmps74
    go_wp2_with fail
    go_ret
    exact ⟨rfl, HO.out⟩
  · have HF : Hid (RdO w0 io rp ⟨5, at_, node, leaves, joints, stack⟩ jv sv ((W.setCell ⟨rp, 1, none⟩ (.int .i64 (at_ : Int))).setCell ⟨rp, 0, none⟩ (.int .i64 5))) :=
      (HO.out.put 1 (.int .i64 (at_ : Int)) ⟨4, at_, node, leaves, joints, stack⟩ rfl rfl rfl).put 0 (.int .i64 5) ⟨5, at_, node, leaves, joints, stack⟩ rfl rfl rfl
    go_enter Tryz.func74, Tryz.ntmps74
    go_wp2_with fail
    go_ret
    exact ⟨rfl, HF.out⟩
  · go_enter Tryz.func74, Tryz.ntmps74
    go_wp2_with fail
    go_ret
    exact ⟨rfl, HO.out⟩

end Go.Proofs.YthacjealoomioaaGreatDoor

/- dendro: number. -/
namespace Go.Proofs.YthacjealoomioaaGreatDoor
set_option linter.unusedVariables false
set_option linter.unusedSimpArgs false
open Go.RowKit

/-- The two errors of strconv are laid. -/
def ErrV (w : World) : Prop := (∃ ev, w.cell? ⟨1, 0, none⟩ = some ev ∧ (ev = .nilIface ∨ ∃ te pe, ev = .iface te pe)) ∧ (∃ ev, w.cell? ⟨2, 0, none⟩ = some ev ∧ (ev = .nilIface ∨ ∃ te pe, ev = .iface te pe))
theorem ErrV.below {w w' : World} (h : ErrV w) (hb : Below w.heap.size w w') : ErrV w' := by
  obtain ⟨⟨e1, h1, k1⟩, ⟨e2, h2, k2⟩⟩ := h
  exact ⟨⟨e1, (hb.cell (World.block_lt_of_cell? w _ h1)).trans h1, k1⟩, ⟨e2, (hb.cell (World.block_lt_of_cell? w _ h2)).trans h2, k2⟩⟩

theorem below_bytes (w : World) (e : TypeId) (s : ByteArray) : Below w.heap.size w (Lib.bytesWorld w e s) := by
  refine ⟨rfl, rfl, rfl, ?_, fun i hi => Lib.bytesWorld_at_old w e s i hi⟩
  rw [Lib.bytesWorld_size]; omega

/-- ParseInt, at base 10 and 64 bits. -/
theorem parse_ok (w : World) (hE : ErrV w) (s : ByteArray) (hs : s.size ≤ 281474976710656) :
    Calls Tryz.prog 109 #[.string s, .int .i64 10, .int .i64 64] w fun e w' => Below w.heap.size w w' ∧ ((∃ v, Lib.parseIntB 64 s.data.toList = .ok v ∧ e = .returned (.tuple #[.int .i64 v, .nilIface])) ∨ ((∀ v, Lib.parseIntB 64 s.data.toList ≠ .ok v) ∧ ∃ z T p, e = .returned (.tuple #[.int .i64 z, .iface T p]))) := by
  obtain ⟨⟨e1, h1, k1⟩, ⟨e2, h2, k2⟩⟩ := hE
  cases hp : Lib.parseIntB 64 s.data.toList with
  | ok v =>
    refine (Any.strconv_ParseInt_10_at64_ok Tryz.parInt s (by omega) v hp w).mono ?_
    rintro e w' ⟨rfl, hw⟩
    refine ⟨?_, .inl ⟨v, rfl, rfl⟩⟩
    rcases hw with rfl | ⟨t, rfl⟩
    · exact Below.refl _ _
    · exact below_bytes w _ t
  | range =>
    refine (Any.strconv_ParseInt_10_at64_range Tryz.parInt s hs hp e2 w h2 k2).mono ?_
    rintro e w' ⟨N, rfl, _, _, hb⟩
    exact ⟨hb, .inr ⟨(fun v h => by cases h), _, _, _, rfl⟩⟩
  | _ =>
    refine (Any.strconv_ParseInt_10_at64_syntax Tryz.parInt s hs hp e1 w h1 k1).mono ?_
    rintro e w' ⟨N, rfl, _, _, hb⟩
    exact ⟨hb, .inr ⟨(fun v h => by cases h), _, _, _, rfl⟩⟩

theorem jt_len : ∀ l : List Jt, (jtCells l).length = l.length * 3
  | [] => rfl
  | j :: l => by
    have := jt_len l
    unfold jtCells at *
    rw [List.flatMap_cons, List.length_append, this]
    simp; omega
theorem jt_set : ∀ (l : List Jt) (k : Nat), k < l.length → ∀ h : Int, (jtCells l).set (k * 3 + 2) (.int .i64 h) = jtCells (l.set k ⟨(l.getD k jt0).l, (l.getD k jt0).r, h⟩)
  | [], k, hk, h => by simp at hk
  | j :: l, 0, hk, h => rfl
  | j :: l, k + 1, hk, h => by
    have hk' : k < l.length := by simpa using hk
    have ih := jt_set l k hk' h
    have e : (k + 1) * 3 + 2 = 3 + (k * 3 + 2) := by omega
    have e1 : jtCells (j :: l) = [.int .i64 j.l, .int .i64 j.r, .int .i64 j.h] ++ jtCells l := rfl
    rw [e1, e, List.set_append_right _ _ (by simp), List.set_cons_succ]
    show _ ++ (jtCells l).set (3 + (k * 3 + 2) - 3) _ = _
    rw [show 3 + (k * 3 + 2) - 3 = k * 3 + 2 by omega, ih]
    rfl

/-- The height of the last joint is written. -/
theorem RdO.height {w0 : World} {io : Nat × ByteArray × Nat} {rp : Nat} {st : RdS} {sv : Value} {W : World} {g cap : Nat} (h : RdO w0 io rp st (.slice (some ⟨g, 0, none⟩) st.joints.length cap) sv W) (hj : 0 < st.joints.length) (v : Int) :
    RdO w0 io rp { st with joints := setLast st.joints v } (.slice (some ⟨g, 0, none⟩) st.joints.length cap) sv (W.setCell ⟨g, (st.joints.length - 1) * 3 + 2, none⟩ (.int .i64 v)) := by
  have hl : (setLast st.joints v).length = st.joints.length := by unfold setLast; rw [List.length_set]
  have hg : W.heap.size > g ∧ w0.heap.size ≤ g := ⟨(h.js.lt g rfl).2, owns_ge h.js g rfl⟩
  have hM : Mod (fun x => x = g) W (W.setCell ⟨g, (st.joints.length - 1) * 3 + 2, none⟩ (.int .i64 v)) := Mod.setCell (Mod.refl (fun x => x = g) W) ⟨g, _, none⟩ (fun _ => rfl) _
  refine ⟨?_, ?_, ?_, bel_mod h.bel hM (fun x e => by rw [e]; exact hg.2), h.new, itr_mod hM h.it (fun e => itr_own h.it h.js (by rw [e]; rfl))⟩
  · have hb : Blk (W.setCell ⟨g, (st.joints.length - 1) * 3 + 2, none⟩ (.int .i64 v)) rp _ _ := h.box.mod hM (fun e => owns_ne_blk h.js h.box (by decide) (by rw [e]; rfl))
    exact hb
  · have := owns_set h.js ((st.joints.length - 1) * 3 + 2) (by omega) (.int .i64 v)
    rw [jt_set _ _ (by omega)] at this
    show World.ownsRow _ _ _ _ _ (setLast st.joints v).length (jtCells (setLast st.joints v))
    rw [hl]
    exact this
  · refine owns_same h.sk fun k hk => hM.block k ((owns_0 h.sk).lt k hk).2 (fun e => ?_)
    subst e
    rcases h.js.2 with ⟨e, _⟩ | ⟨g', c', cur, e, _, hg', _⟩
    · cases e
    · injection e with e1
      injection e1 with e1
      injection e1 with e1
      subst e1
      exact owns_ne_blk h.sk (b := k) (T := 134) (cs := cur.toList) (by unfold Blk; rw [hg']) (by decide) hk

end Go.Proofs.YthacjealoomioaaGreatDoor

/- dendro: number ends a number. -/
namespace Go.Proofs.YthacjealoomioaaGreatDoor
set_option linter.unusedVariables false
set_option linter.unusedSimpArgs false
open Go.RowKit

theorem RdO.below {w0 : World} {io : Nat × ByteArray × Nat} {rp : Nat} {st : RdS} {jv sv : Value} {W W' : World} (h : RdO w0 io rp st jv sv W) (hb : Below W.heap.size W W') : RdO w0 io rp st jv sv W' :=
  ⟨h.box.below hb h.box.lt, owns_same h.js (fun k hk => hb.block k ((owns_0 h.js).lt k hk).2), owns_same h.sk (fun k hk => hb.block k ((owns_0 h.sk).lt k hk).2), h.bel.trans (hb.mono h.bel.size), h.new, (hb.block _ (Array.getElem?_eq_some_iff.1 h.it).1).trans h.it⟩
theorem RdO.drew {w0 : World} {io : Nat × ByteArray × Nat} {rp : Nat} {st : RdS} {jv sv : Value} {W W2 : World} (h : RdO w0 io rp st jv sv W) (hd : DrewOf W W2) : RdO w0 io rp st jv sv W2 := by
  unfold DrewOf at hd
  subst hd
  exact ⟨h.box, h.js, h.sk, h.bel.drew, h.new, h.it⟩

theorem numR_bad {st : RdS} {ds : List UInt8} (h : ∀ v, Lib.parseIntB 64 ds ≠ .ok v) : numR st ds = (st, false) := by
  unfold numR
  cases hp : Lib.parseIntB 64 ds with
  | ok v => exact absurd hp (h v)
  | _ => rfl
theorem numR_ok {st : RdS} {ds : List UInt8} {v : Int} (h : Lib.parseIntB 64 ds = .ok v) : numR st ds = if st.want = 2 then ({ st with node := v, leaves := st.leaves + 1 }, decide (v < 4096) && decide (st.leaves + 1 ≤ 4096))
    else if st.want = 5 then ({ st with joints := setLast st.joints v, node := -(st.joints.length : Int) }, true) else (st, false) := by
  unfold numR; rw [h]

set_option maxHeartbeats 4000000 in
set_option maxRecDepth 100000 in
theorem number_ok (w0 : World) (hE : ErrV w0) (io : Nat × ByteArray × Nat) (rp : Nat) (st : RdS) (jv sv : Value) (W : World) (h : RdO w0 io rp st jv sv W) (hw : st.want ≤ 5) (h5 : st.want = 5 → 0 < st.joints.length) (hl : st.leaves ≤ 1000000) (hj : st.joints.length ≤ 1000000) (s : ByteArray) (hs : s.size ≤ 1000000) :
    Calls Tryz.prog 75 #[.pointer (some ⟨rp, 0, none⟩), .string s] W (DgPost w0 io rp (numR st s.data.toList) jv sv) := by
  have HO := Lib.hid h
  have HPI := Lib.hid (parse_ok W (hE.below h.bel) s (by omega))
  have H5 := Lib.hid h5
  clear h hE h5
  go_enter Tryz.func75, Tryz.ntmps75
  go_wp2_with fail
  refine HPI.out.mono ?_
  rintro e W2 ⟨hb, hr⟩
  have HO2 := Lib.hid (HO.out.below hb)
  clear hb HO HPI
  rcases hr with ⟨v, hv, rfl⟩ | ⟨hno, z, T, p, rfl⟩
  · have HN : Hid (numR st s.data.toList = _) := numR_ok hv
    clear hv
    have c0 := HO2.out.box.cell (i := 0) rfl
    obtain ⟨want, bg, node, leaves, joints, stack⟩ := st
    have hcs : want = 0 ∨ want = 1 ∨ want = 2 ∨ want = 3 ∨ want = 4 ∨ want = 5 := by
      have : want ≤ 5 := hw
      omega
    clear hw
    rcases hcs with rfl | rfl | rfl | rfl | rfl | rfl
    · go_wp2_with fail
      go_ret
      rw [HN.out]
      exact ⟨rfl, HO2.out⟩
    · go_wp2_with fail
      go_ret
      rw [HN.out]
      exact ⟨rfl, HO2.out⟩
    · have hl2 : leaves ≤ 1000000 := hl
      have c2 := HO2.out.box.cell (i := 2) rfl
      have c3 := HO2.out.box.cell (i := 3) rfl
      have f2 := HO2.out.box.free 2
      have f3 := HO2.out.box.free 3
      have HF : Hid (RdO w0 io rp ⟨2, bg, v, leaves + 1, joints, stack⟩ jv sv ((W2.setCell ⟨rp, 2, none⟩ (.int .i64 v)).setCell ⟨rp, 3, none⟩ (.int .i64 ((leaves + 1 : Nat) : Int)))) :=
        (HO2.out.put 2 (.int .i64 v) ⟨2, bg, v, leaves, joints, stack⟩ rfl rfl rfl).put 3 (.int .i64 ((leaves + 1 : Nat) : Int)) ⟨2, bg, v, leaves + 1, joints, stack⟩ rfl rfl rfl
      have w1 : IntKind.i64.wrap ((leaves : Int) + 1) = ((leaves + 1 : Nat) : Int) := (IntWalk.i64_in _ (by omega)).trans (by omega)
      by_cases h1 : v < 4096
      · have t1 : decide (v < 4096) = true := decide_eq_true h1
        by_cases h2 : leaves + 1 ≤ 4096
        · have t2 : decide (((leaves + 1 : Nat) : Int) ≤ 4096) = true := decide_eq_true (by omega)
          have t3 : decide (leaves + 1 ≤ 4096) = true := decide_eq_true h2
          have t4 : decide ((leaves : Int) + 1 ≤ 4096) = true := decide_eq_true (by omega)
          have HR2 : Hid (numR ⟨2, bg, node, leaves, joints, stack⟩ s.data.toList = (⟨2, bg, v, leaves + 1, joints, stack⟩, true)) := by
            show _ = _
            rw [HN.out, if_pos rfl, t1, t3]
            rfl
          clear h1 h2
          go_wp2_with fail
          go_ret
          rw [HR2.out]
          exact ⟨rfl, HF.out⟩
        · have t2 : decide (((leaves + 1 : Nat) : Int) ≤ 4096) = false := decide_eq_false (by omega)
          have t3 : decide (leaves + 1 ≤ 4096) = false := decide_eq_false h2
          have t4 : decide ((leaves : Int) + 1 ≤ 4096) = false := decide_eq_false (by omega)
          have HR2 : Hid (numR ⟨2, bg, node, leaves, joints, stack⟩ s.data.toList = (⟨2, bg, v, leaves + 1, joints, stack⟩, false)) := by
            show _ = _
            rw [HN.out, if_pos rfl, t1, t3]
            rfl
          clear h1 h2
          go_wp2_with fail
          go_ret
          rw [HR2.out]
          exact ⟨rfl, HF.out⟩
      · have t1 : decide (v < 4096) = false := decide_eq_false h1
        have HR2 : Hid (numR ⟨2, bg, node, leaves, joints, stack⟩ s.data.toList = (⟨2, bg, v, leaves + 1, joints, stack⟩, false)) := by
          show _ = _
          rw [HN.out, if_pos rfl, t1]
          rfl
        clear h1
        go_wp2_with fail
        go_ret
        rw [HR2.out]
        exact ⟨rfl, HF.out⟩
    · go_wp2_with fail
      go_ret
      rw [HN.out]
      exact ⟨rfl, HO2.out⟩
    · go_wp2_with fail
      go_ret
      rw [HN.out]
      exact ⟨rfl, HO2.out⟩
    · have hjl : 0 < joints.length := H5.out rfl
      have hjm : joints.length ≤ 1000000 := hj
      obtain ⟨g, cap, rfl, hcap, _, _, hcell, hfr⟩ := owns_form HO2.out.js hjl
      obtain ⟨k, HK⟩ : ∃ k, Hid (joints.length = k + 1) := ⟨joints.length - 1, by show _ = _; omega⟩
      have HH := HO2.out.height hjl v
      have HF : Hid (RdO w0 io rp ⟨5, bg, -(joints.length : Int), leaves, setLast joints v, stack⟩ (.slice (some ⟨g, 0, none⟩) joints.length cap) sv ((W2.setCell ⟨g, k * 3 + 2, none⟩ (.int .i64 v)).setCell ⟨rp, 2, none⟩ (.int .i64 (-(joints.length : Int))))) := by
        have := HH.put 2 (.int .i64 (-(joints.length : Int))) ⟨5, bg, -(joints.length : Int), leaves, setLast joints v, stack⟩ rfl rfl rfl
        rw [show joints.length - 1 = k by have := HK.out; omega] at this
        exact this
      have hlast : (k * 3 + 2) < (jtCells joints).length := by rw [jt_len]; have := HK.out; omega
      have cx := hcell (k * 3 + 2) (by show k * 3 + 2 < joints.length * 3; have := HK.out; omega)
      have fx := hfr (k * 3 + 2)
      have c4 := HO2.out.box.cell (i := 4) rfl
      have c2 := HO2.out.box.cell (i := 2) rfl
      have f2 := HO2.out.box.free 2
      have cx : W2.cell? ⟨g, k * 3 + 2, none⟩ = some ((jtCells joints)[k * 3 + 2]'hlast) := by
        rw [cx]
        exact List.getElem?_eq_getElem hlast
      generalize (jtCells joints)[k * 3 + 2]'hlast = u at cx
      have HR2 : Hid (numR ⟨5, bg, node, leaves, joints, stack⟩ s.data.toList = (⟨5, bg, -(joints.length : Int), leaves, setLast joints v, stack⟩, true)) := by
        exact (HN.out.trans (if_neg (by show ¬ (5 : Nat) = 2; decide))).trans (if_pos rfl)
      have hne : ¬ (g = rp) := fun e => owns_ne_blk HO2.out.js HO2.out.box (by decide) (by rw [e]; rfl)
      have hne2 : ¬ (rp = g) := fun e => hne e.symm
      obtain ⟨J, HJ⟩ : ∃ J, Hid (joints.length = J) := ⟨_, rfl⟩
      have c4 : W2.cell? ⟨rp, 4, none⟩ = some (.slice (some ⟨g, 0, none⟩) J cap) := by rw [← HJ.out]; exact c4
      have HF2 : Hid (RdO w0 io rp ⟨5, bg, -(joints.length : Int), leaves, setLast joints v, stack⟩ (.slice (some ⟨g, 0, none⟩) joints.length cap) sv ((W2.setCell ⟨g, k * 3 + 2, none⟩ (.int .i64 v)).setCell ⟨rp, 2, none⟩ (.int .i64 (-(J : Int))))) := by rw [← HJ.out]; exact HF.out
      have v1 : (J : Int) - 1 = (k : Int) := by have := HK.out; have := HJ.out; omega
      have v2 : IntKind.i64.wrap (k : Int) = (k : Int) := IntWalk.i64_in _ (by have := HK.out; omega)
      have v3 : (k : Int) < (J : Int) := by omega
      have v4 : (0 : Int) ≤ (k : Int) := by omega
      have v5 : IntKind.i64.wrap (-(J : Int)) = -(J : Int) := IntWalk.i64_in _ (by have := HJ.out; omega)
      clear hcell hfr hcap hlast hjl hjm HH HF hj
      go_wp2_with fail
      refine region_tailD 13 (by kernel_rfl) (by kernel_rfl) ?_
      intro Y hY
      have HF3 : Hid (RdO w0 io rp ⟨5, bg, -(joints.length : Int), leaves, setLast joints v, stack⟩ (.slice (some ⟨g, 0, none⟩) joints.length cap) sv ((Y.setCell ⟨g, k * 3 + 2, none⟩ (.int .i64 v)).setCell ⟨rp, 2, none⟩ (.int .i64 (-(J : Int))))) := by
        unfold DrewOf at hY
        subst hY
        have h := HF2.out
        exact ⟨h.box, h.js, h.sk, h.bel.drew, h.new, h.it⟩
      replace cx := hY.cell cx
      replace fx := hY.frozen fx
      replace c4 := hY.cell c4
      replace c2 := hY.cell c2
      replace f2 := hY.frozen f2
      clear hY HF2
      simp only [List.take_succ_cons, List.take_zero, List.drop_succ_cons, List.drop_zero]
      repeat still_step
      refine wpStill_nil ?_
      go_wp2_with fail
      go_ret
      rw [HR2.out]
      exact ⟨rfl, HF3.out⟩
  · have HN : Hid (numR st s.data.toList = (st, false)) := numR_bad hno
    clear hno
    go_wp2_with fail
    go_ret
    rw [HN.out]
    exact ⟨rfl, HO2.out⟩

end Go.Proofs.YthacjealoomioaaGreatDoor

/- dendro: close goes on behind a node. -/
namespace Go.Proofs.YthacjealoomioaaGreatDoor
set_option linter.unusedVariables false
set_option linter.unusedSimpArgs false
open Go.RowKit

theorem op_at : ∀ (l : List (Int × Bool)) (k : Nat), k < l.length → (opCells l)[k * 2]? = some (.int .i64 (l.getD k (0, false)).1) ∧ (opCells l)[k * 2 + 1]? = some (.bool (l.getD k (0, false)).2)
  | [], k, hk => by simp at hk
  | j :: l, 0, hk => ⟨rfl, rfl⟩
  | j :: l, k + 1, hk => by
    obtain ⟨a, b⟩ := op_at l k (by simpa using hk)
    have e1 : opCells (j :: l) = [.int .i64 j.1, .bool j.2] ++ opCells l := rfl
    rw [e1, List.getElem?_append_right (by simp; omega), List.getElem?_append_right (by simp; omega)]
    refine ⟨?_, ?_⟩
    · rw [show (k + 1) * 2 - [Value.int .i64 j.1, .bool j.2].length = k * 2 by simp; omega]; exact a
    · rw [show (k + 1) * 2 + 1 - [Value.int .i64 j.1, .bool j.2].length = k * 2 + 1 by simp; omega]; exact b
theorem op_set : ∀ (l : List (Int × Bool)) (k : Nat), k < l.length → ∀ (x : Int) (b : Bool), ((opCells l).set (k * 2) (.int .i64 x)).set (k * 2 + 1) (.bool b) = opCells (l.set k (x, b))
  | [], k, hk, x, b => by simp at hk
  | j :: l, 0, hk, x, b => rfl
  | j :: l, k + 1, hk, x, b => by
    have ih := op_set l k (by simpa using hk) x b
    have e1 : opCells (j :: l) = [.int .i64 j.1, .bool j.2] ++ opCells l := rfl
    rw [e1, show (k + 1) * 2 = 2 + k * 2 by omega, List.set_append_right _ _ (by simp), show 2 + k * 2 + 1 = 2 + (k * 2 + 1) by omega, List.set_append_right _ _ (by simp)]
    show _ ++ ((opCells l).set (2 + k * 2 - 2) _).set (2 + (k * 2 + 1) - 2) _ = _
    rw [show 2 + k * 2 - 2 = k * 2 by omega, show 2 + (k * 2 + 1) - 2 = k * 2 + 1 by omega, ih]
    rfl

/-- The last open node gets its left child. -/
theorem RdO.half {w0 : World} {io : Nat × ByteArray × Nat} {rp : Nat} {st : RdS} {jv : Value} {W : World} {g cap : Nat} (h : RdO w0 io rp st jv (.slice (some ⟨g, 0, none⟩) st.stack.length cap) W) {k : Nat} (hk : k < st.stack.length) (x : Int) (b : Bool) :
    RdO w0 io rp { st with stack := st.stack.set k (x, b) } jv (.slice (some ⟨g, 0, none⟩) st.stack.length cap) ((W.setCell ⟨g, k * 2, none⟩ (.int .i64 x)).setCell ⟨g, k * 2 + 1, none⟩ (.bool b)) := by
  have hl : (st.stack.set k (x, b)).length = st.stack.length := List.length_set
  have hg : W.heap.size > g ∧ w0.heap.size ≤ g := ⟨(h.sk.lt g rfl).2, owns_ge h.sk g rfl⟩
  have hM : Mod (fun x => x = g) W ((W.setCell ⟨g, k * 2, none⟩ (.int .i64 x)).setCell ⟨g, k * 2 + 1, none⟩ (.bool b)) := Mod.setCell (Mod.setCell (Mod.refl (fun x => x = g) W) ⟨g, _, none⟩ (fun _ => rfl) _) ⟨g, _, none⟩ (fun _ => rfl) _
  refine ⟨h.box.mod hM (fun e => owns_ne_blk h.sk h.box (by decide) (by rw [e]; rfl)), ?_, ?_, bel_mod h.bel hM (fun x e => by rw [e]; exact hg.2), h.new, itr_mod hM h.it (fun e => itr_own h.it h.sk (by rw [e]; rfl))⟩
  · refine owns_same h.js fun k2 hk2 => hM.block k2 ((owns_0 h.js).lt k2 hk2).2 (fun e => ?_)
    subst e
    rcases h.sk.2 with ⟨e, _⟩ | ⟨g', c', cur, e, _, hg', _⟩
    · cases e
    · injection e with e1
      injection e1 with e1
      injection e1 with e1
      subst e1
      exact owns_ne_blk h.js (b := k2) (T := 129) (cs := cur.toList) (by unfold Blk; rw [hg']) (by decide) hk2
  · have := owns_set (owns_set h.sk (k * 2) (by omega) (.int .i64 x)) (k * 2 + 1) (by omega) (.bool b)
    rw [op_set _ _ hk] at this
    show World.ownsRow _ _ _ _ _ (st.stack.set k (x, b)).length (opCells (st.stack.set k (x, b)))
    rw [hl]
    exact this

theorem owns_ne_owns {w : World} {B1 B2 : Nat} {e1 e2 : TypeId} {s1 s2 n1 n2 : Nat} {v1 v2 : Value} {x1 x2 : List Value} (h1 : w.ownsRow B1 e1 s1 v1 n1 x1) (h2 : w.ownsRow B2 e2 s2 v2 n2 x2) (he : e2 ≠ e1) {k : Nat} (hk : v2.ownBlock = some k) : v1.ownBlock ≠ some k := by
  rcases h2.2 with ⟨rfl, _⟩ | ⟨g, c, cur, rfl, _, hg, _⟩
  · cases hk
  · have : g = k := by simpa [Value.ownBlock] using hk
    subst this
    exact owns_ne_blk h1 (b := g) (T := e2) (cs := cur.toList) (by unfold Blk; rw [hg]) he

theorem jt_snoc (l : List Jt) (j : Jt) : jtCells (l ++ [j]) = jtCells l ++ [.int .i64 j.l, .int .i64 j.r, .int .i64 j.h] := by simp [jtCells, List.flatMap_append]

/-- A joint more. -/
theorem RdO.push {w0 : World} {io : Nat × ByteArray × Nat} {rp : Nat} {st : RdS} {jv sv : Value} {W W1 W2 : World} {z : Value} (h : RdO w0 io rp st jv sv W) (j : Jt) (h1 : Below W.heap.size W W1) (ho : W2.ownsRow 0 134 3 z (st.joints.length + 1) (jtCells st.joints ++ [.int .i64 j.l, .int .i64 j.r, .int .i64 j.h])) (hg : W1.grownBy W2 jv.ownBlock) (hn : ∀ k, z.ownBlock = some k → jv.ownBlock = some k ∨ W1.heap.size ≤ k) :
    (Blk W2 rp 126 (rdCells st jv sv) ∧ W2.ownsRow w0.heap.size 129 2 sv st.stack.length (opCells st.stack)) ∧ RdO w0 io rp { st with joints := st.joints ++ [j] } z sv (W2.setCell ⟨rp, 4, none⟩ z) := by
  have hs := h.bel.size
  have hs1 := h1.size
  have hM : Mod (fun k => jv.ownBlock = some k) W W2 := (Mod.of_below (F := fun k => jv.ownBlock = some k) h1).grown hg (fun k e _ => e)
  have hb := hM.below hs (fun x e => owns_ge h.js x e)
  have b := h.box.mod hM (fun e => owns_ne_blk h.js h.box (by decide) e)
  have sk : W2.ownsRow w0.heap.size 129 2 sv st.stack.length (opCells st.stack) := owns_same h.sk (fun k hk => hM.block k ((owns_0 h.sk).lt k hk).2 (fun e => owns_ne_owns h.js h.sk (by decide) hk e))
  have ho2 : W2.ownsRow w0.heap.size 134 3 z (st.joints ++ [j]).length (jtCells (st.joints ++ [j])) := by
    rw [jt_snoc, List.length_append]
    exact owns_at ho (fun k hk => by
      rcases hn k hk with e | e
      · exact owns_ge h.js k e
      · omega)
  refine ⟨⟨b, sk⟩, b.set 4 z, owns_other ho2 b (by decide) 4 z, owns_other sk b (by decide) 4 z, bel_mod (h.bel.trans hb) (Mod.setCell (Mod.refl (fun x => x = rp) W2) ⟨rp, 4, none⟩ (fun _ => rfl) z) (fun x e => by rw [e]; exact h.new), h.new, itr_mod (Mod.setCell (Mod.refl (fun x => x = rp) W2) ⟨rp, 4, none⟩ (fun _ => rfl) z) (itr_mod hM h.it (fun e => itr_own h.it h.js e)) (fun e => itr_ne h.it h.box e)⟩

theorem op_take (l : List (Int × Bool)) (k : Nat) : (opCells l).take (k * 2) = opCells (l.take k) := by
  induction k generalizing l with
  | zero => simp [opCells]
  | succ k ih =>
    cases l with
    | nil => simp [opCells]
    | cons j l =>
      have e1 : opCells (j :: l) = [.int .i64 j.1, .bool j.2] ++ opCells l := rfl
      rw [e1, show (k + 1) * 2 = [Value.int .i64 j.1, .bool j.2].length + k * 2 by simp; omega, List.take_length_add_append, ih]
      rfl

/-- The last open node is taken off. -/
theorem RdO.pop {w0 : World} {io : Nat × ByteArray × Nat} {rp : Nat} {st : RdS} {jv : Value} {W : World} {g cap : Nat} (h : RdO w0 io rp st jv (.slice (some ⟨g, 0, none⟩) st.stack.length cap) W) {k : Nat} (hk : k < st.stack.length) : RdO w0 io rp { st with stack := st.stack.take k } jv (.slice (some ⟨g, 0, none⟩) k cap) (W.setCell ⟨rp, 5, none⟩ (.slice (some ⟨g, 0, none⟩) k cap)) := by
  have hl : (st.stack.take k).length = k := by rw [List.length_take]; omega
  have hsk : W.ownsRow w0.heap.size 129 2 (.slice (some ⟨g, 0, none⟩) k cap) (st.stack.take k).length (opCells (st.stack.take k)) := by
    have := owns_take h.sk k (by omega)
    rw [op_take] at this
    rw [hl]
    exact this
  exact ⟨h.box.set 5 _, owns_other h.js h.box (by decide) 5 _, owns_other hsk h.box (by decide) 5 _, bel_mod h.bel (Mod.setCell (Mod.refl (fun x => x = rp) W) ⟨rp, 5, none⟩ (fun _ => rfl) _) (fun x e => by rw [e]; exact h.new), h.new, itr_mod (Mod.setCell (Mod.refl (fun x => x = rp) W) ⟨rp, 5, none⟩ (fun _ => rfl) _) h.it (fun e => itr_ne h.it h.box e)⟩

/-- Beside reads: a block made, appended, stored in a field; K: what else is read. -/
def StF (wr : World) (T : TypeId) (blk : List Value) (rp off : Nat) (old : Value) (n : Nat) (K : World → Prop) (F : Value → World → Prop) (ys : List Value) (W : World) : Prop :=
  match ys with
  | [] => W = wr.drew
  | [y] => y = .slice (some ⟨wr.heap.size, 0, none⟩) 1 1 ∧ W = wr.drew.alloc (.cells blk.toArray T)
  | [_, z] => (W.cell? ⟨rp, off, none⟩ = some old ∧ W.frozen? ⟨rp, off, none⟩ = false ∧ (∃ o c, z = .slice o n c) ∧ K W ∧ K (W.setCell ⟨rp, off, none⟩ z)) ∧ F z (W.setCell ⟨rp, off, none⟩ z)
  | [_, z, p] => ((W.cell? ⟨rp, off, none⟩ = some old ∧ W.frozen? ⟨rp, off, none⟩ = false ∧ (∃ o c, z = .slice o n c) ∧ K W ∧ K (W.setCell ⟨rp, off, none⟩ z)) ∧ F z (W.setCell ⟨rp, off, none⟩ z)) ∧ p = .pointer (some ⟨rp, 0, none⟩)
  | [_, z, _, q] => ((W.cell? ⟨rp, off, none⟩ = some old ∧ W.frozen? ⟨rp, off, none⟩ = false ∧ (∃ o c, z = .slice o n c) ∧ K W ∧ K (W.setCell ⟨rp, off, none⟩ z)) ∧ F z (W.setCell ⟨rp, off, none⟩ z)) ∧ q = .pointer (some ⟨rp, off, none⟩)
  | [_, z, _, _, _] => ((∃ o c, z = .slice o n c) ∧ K W) ∧ F z W
  | _ => False
theorem StF.k {wr : World} {T : TypeId} {blk : List Value} {rp off : Nat} {old : Value} {n : Nat} {K : World → Prop} {F : Value → World → Prop} {ys : List Value} {W : World} (h : StF wr T blk rp off old n K F ys W) (h0 : K wr.drew) (h1 : K (wr.drew.alloc (.cells blk.toArray T))) : K W := by
  match ys, h with
  | [], h => rw [show W = wr.drew from h]; exact h0
  | [y], h => rw [h.2]; exact h1
  | [_, z], h => exact h.1.2.2.2.1
  | [_, z, p], h => exact h.1.1.2.2.2.1
  | [_, z, _, q], h => exact h.1.1.2.2.2.1
  | [_, z, _, _, _], h => exact h.1.2
  | _ :: _ :: _ :: _ :: _ :: _ :: _, h => exact h.elim
/-- The field that is written, while the append is not done. -/
theorem StF.old {wr : World} {T : TypeId} {blk : List Value} {rp off : Nat} {old : Value} {n : Nat} {K : World → Prop} {F : Value → World → Prop} {ys : List Value} {W : World} (h : StF wr T blk rp off old n K F ys W) (hy : ys.length ≤ 1) (h0 : wr.cell? ⟨rp, off, none⟩ = some old) : W.cell? ⟨rp, off, none⟩ = some old := by
  have hb : Below wr.heap.size wr wr.drew := (Below.refl _ _).drew
  match ys, h with
  | [], h => rw [show W = wr.drew from h]; exact (hb.cell (World.block_lt_of_cell? wr _ h0)).trans h0
  | [y], h => rw [h.2]; exact ((hb.alloc (by simp) _).cell (World.block_lt_of_cell? wr _ h0)).trans h0
  | _ :: _ :: _, h => simp at hy

theorem op_cell {V : World} {B g n cap : Nat} {l : List (Int × Bool)} (h : V.ownsRow B 129 2 (.slice (some ⟨g, 0, none⟩) n cap) n (opCells l)) (hn : l.length = n) {k : Nat} (hk : k < n) {x : Int} (hx : (l.getD k (0, false)).1 = x) : V.cell? ⟨g, k * 2, none⟩ = some (.int .i64 x) := by
  obtain ⟨g', cap', hv, _, _, _, hc, _⟩ := owns_form h (by omega)
  injection hv with e1 _ _
  injection e1 with e1
  injection e1 with e1
  subst e1
  rw [hc (k * 2) (by omega), (op_at l k (by omega)).1, hx]

theorem Tryz.infoJoint : (Tryz.prog.info? 134).map (fun i => (i.zero, i.size, i.bytes)) = some (some (.agg #[.int .i64 0, .int .i64 0, .int .i64 0]), 3, 24) := by kernel_rfl

/-- close: the object's slices may be others behind it. -/
structure ClPost (w0 : World) (io : Nat × ByteArray × Nat) (rp : Nat) (r : RdS × Bool) (e : Ending) (W : World) : Prop where
  val : e = .returned (.bool r.2)
  obj : ∃ jv sv, RdO w0 io rp r.1 jv sv W

set_option maxHeartbeats 4000000 in
set_option maxRecDepth 100000 in
theorem close_ok (w0 : World) (io : Nat × ByteArray × Nat) (rp : Nat) (st : RdS) (jv sv : Value) (W : World) (h : RdO w0 io rp st jv sv W) (hs : st.stack.length ≤ 1000000) (hj : st.joints.length ≤ 1000000) (c : Int) :
    Calls Tryz.prog 76 #[.pointer (some ⟨rp, 0, none⟩), .int .i32 c] W (ClPost w0 io rp (clsR st c)) := by
  obtain ⟨jo, jc, rfl⟩ := owns_slice (owns_0 h.js)
  obtain ⟨so, sc, rfl⟩ := owns_slice (owns_0 h.sk)
  have HO := Lib.hid h
  obtain ⟨want, bg, node, leaves, joints, stack⟩ := st
  have c5 := h.box.cell (i := 5) rfl
  have c0 := h.box.cell (i := 0) rfl
  have f0 := h.box.free 0
  clear h
  replace hs : stack.length ≤ 1000000 := hs
  replace hj : joints.length ≤ 1000000 := hj
  obtain ⟨S, HS⟩ : ∃ S, Hid (stack.length = S) := ⟨_, rfl⟩
  replace c5 : W.cell? ⟨rp, 5, none⟩ = some (.slice so S sc) := by rw [← HS.out]; exact c5
  have hS : S ≤ 1000000 := by rw [← HS.out]; exact hs
  clear hs
  rcases Nat.eq_zero_or_pos S with hz | hp
  · have HC : Hid (clsR ⟨want, bg, node, leaves, joints, stack⟩ c = (⟨0, bg, node, leaves, joints, stack⟩, decide (c = 59))) := if_pos (by show stack.length = 0; rw [HS.out]; exact hz)
    have HF := Lib.hid (HO.out.put 0 (.int .i64 0) ⟨0, bg, node, leaves, joints, stack⟩ rfl rfl rfl)
    subst hz
    obtain ⟨q, hq⟩ : ∃ q, decide (c = 59) = q := ⟨_, rfl⟩
    have hq2 : (c == 59) = q := by rw [← hq]; rfl
    rw [hq] at HC
    go_enter Tryz.func76, Tryz.ntmps76
    go_wp2_with fail
    go_ret
    rw [HC.out]
    exact ⟨rfl, _, _, HF.out⟩
  · obtain ⟨k, HK⟩ : ∃ k, Hid (S = k + 1) := ⟨S - 1, by show _ = _; omega⟩
    have hkl : k < stack.length := by rw [HS.out]; have := HK.out; omega
    obtain ⟨g, cap, hv, _, _, _, hcell, hfr⟩ := owns_form HO.out.sk (by show 0 < stack.length; omega)
    injection hv with e1 _ e2
    subst e1 e2
    obtain ⟨o1, o2⟩ := op_at stack k hkl
    have k1 := hcell (k * 2) (by show k * 2 < stack.length * 2; omega)
    have k2 := hcell (k * 2 + 1) (by show k * 2 + 1 < stack.length * 2; omega)
    replace k1 : W.cell? ⟨g, k * 2, none⟩ = some (.int .i64 (stack.getD k (0, false)).1) := k1.trans o1
    replace k2 : W.cell? ⟨g, k * 2 + 1, none⟩ = some (.bool (stack.getD k (0, false)).2) := k2.trans o2
    have f1 := hfr (k * 2)
    have f2 := hfr (k * 2 + 1)
    have HD : Hid (clsR ⟨want, bg, node, leaves, joints, stack⟩ c = if (stack.getD k (0, false)).2 = false then (⟨1, bg, node, leaves, joints, stack.set k (node, true)⟩, decide (c = 44)) else (⟨3, bg, node, leaves, joints ++ [⟨(stack.getD k (0, false)).1, node, 0⟩], stack.take k⟩, decide (c = 41))) := by
      show (if stack.length = 0 then _ else _) = _
      rw [if_neg (by rw [HS.out]; omega), show stack.length - 1 = k by rw [HS.out]; have := HK.out; omega]
    have v1 : (S : Int) - 1 = (k : Int) := by have := HK.out; omega
    have v2 : IntKind.i64.wrap (k : Int) = (k : Int) := IntWalk.i64_in _ (by have := HK.out; omega)
    have v3 : (k : Int) < (S : Int) := by omega
    have v4 : (0 : Int) ≤ (k : Int) := by omega
    have v5 : ¬ ((k : Int) < 0) := by omega
    clear o1 o2 hcell hfr hp
    cases hb : (stack.getD k (0, false)).2 with
    | false =>
      rw [hb] at HD k2
      have HC : Hid (clsR ⟨want, bg, node, leaves, joints, stack⟩ c = (⟨1, bg, node, leaves, joints, stack.set k (node, true)⟩, decide (c = 44))) := HD.out.trans (if_pos rfl)
      clear hb HD
      have HF : Hid (RdO w0 io rp ⟨1, bg, node, leaves, joints, stack.set k (node, true)⟩ (.slice jo joints.length jc) (.slice (some ⟨g, 0, none⟩) stack.length sc) (((W.setCell ⟨g, k * 2, none⟩ (.int .i64 node)).setCell ⟨g, k * 2 + 1, none⟩ (.bool true)).setCell ⟨rp, 0, none⟩ (.int .i64 1))) :=
        (HO.out.half hkl node true).put 0 (.int .i64 1) ⟨1, bg, node, leaves, joints, stack.set k (node, true)⟩ rfl rfl rfl
      obtain ⟨q, hq⟩ : ∃ q, decide (c = 44) = q := ⟨_, rfl⟩
      have hq2 : (c == 44) = q := by rw [← hq]; rfl
      rw [hq] at HC
      have c2 := HO.out.box.cell (i := 2) rfl
      have hne : ¬ (g = rp) := fun e => owns_ne_blk HO.out.sk HO.out.box (by decide) (by rw [e]; rfl)
      have hne2 : ¬ (rp = g) := fun e => hne e.symm
      go_enter Tryz.func76, Tryz.ntmps76
      go_wp2_with fail
      refine region_tailD 11 (by kernel_rfl) (by kernel_rfl) ?_
      intro Y hY
      have HF3 : Hid (RdO w0 io rp ⟨1, bg, node, leaves, joints, stack.set k (node, true)⟩ (.slice jo joints.length jc) (.slice (some ⟨g, 0, none⟩) stack.length sc) (((Y.setCell ⟨g, k * 2, none⟩ (.int .i64 node)).setCell ⟨g, k * 2 + 1, none⟩ (.bool true)).setCell ⟨rp, 0, none⟩ (.int .i64 1))) := by
        unfold DrewOf at hY
        subst hY
        have h := HF.out
        exact ⟨h.box, h.js, h.sk, h.bel.drew, h.new, h.it⟩
      replace c0 := hY.cell c0
      replace f0 := hY.frozen f0
      replace c2 := hY.cell c2
      replace c5 := hY.cell c5
      replace k1 := hY.cell k1
      replace k2 := hY.cell k2
      replace f1 := hY.frozen f1
      replace f2 := hY.frozen f2
      clear hY HF
      simp only [List.take_succ_cons, List.take_zero, List.drop_succ_cons, List.drop_zero]
      repeat still_step
      refine wpStill_nil ?_
      go_wp2_with fail
      go_ret
      rw [HC.out]
      exact ⟨rfl, _, _, HF3.out⟩
    | true =>
      rw [hb] at HD k2
      obtain ⟨x, HX⟩ : ∃ x, Hid ((stack.getD k (0, false)).1 = x) := ⟨_, rfl⟩
      rw [HX.out] at HD k1
      have HC : Hid (clsR ⟨want, bg, node, leaves, joints, stack⟩ c = (⟨3, bg, node, leaves, joints ++ [⟨x, node, 0⟩], stack.take k⟩, decide (c = 41))) := HD.out.trans (if_neg (by decide))
      clear hb HD
      obtain ⟨q, hq⟩ : ∃ q, decide (c = 41) = q := ⟨_, rfl⟩
      have hq2 : (c == 41) = q := by rw [← hq]; rfl
      rw [hq] at HC
      have c2 := HO.out.box.cell (i := 2) rfl
      have c4 := HO.out.box.cell (i := 4) rfl
      obtain ⟨J, HJ⟩ : ∃ J, Hid (joints.length = J) := ⟨_, rfl⟩
      have hJ : J ≤ 1000000 := by rw [← HJ.out]; exact hj
      replace c4 : W.cell? ⟨rp, 4, none⟩ = some (.slice jo J jc) := by rw [← HJ.out]; exact c4
      clear hj
      go_enter Tryz.func76, Tryz.ntmps76
      go_wp2_with fail
      obtain ⟨W0, hW0⟩ : ∃ W0, W0 = W := ⟨_, rfl⟩
      subst hW0
      have hks : k < S := by omega
      obtain ⟨KK, hKK⟩ : ∃ KK : World → Prop, KK = fun V => V.cell? ⟨rp, 2, none⟩ = some (.int .i64 node) ∧ V.cell? ⟨rp, 5, none⟩ = some (.slice (some ⟨g, 0, none⟩) S sc) ∧ V.cell? ⟨g, k * 2, none⟩ = some (.int .i64 x) := ⟨_, rfl⟩
      obtain ⟨FF, hFF⟩ : ∃ FF : Value → World → Prop, FF = fun z V => RdO w0 io rp ⟨want, bg, node, leaves, joints ++ [⟨x, node, 0⟩], stack⟩ z (.slice (some ⟨g, 0, none⟩) stack.length sc) V := ⟨_, rfl⟩
      have hb0 : Below W0.heap.size W0 (W0.drew.alloc (.cells #[.int .i64 x, .int .i64 node, .int .i64 0] 134)) := ((Below.refl _ _).drew).alloc (by simp) _
      have HKE : Hid (∀ V, KK V → V.cell? ⟨rp, 2, none⟩ = some (.int .i64 node) ∧ V.cell? ⟨rp, 5, none⟩ = some (.slice (some ⟨g, 0, none⟩) S sc) ∧ V.cell? ⟨g, k * 2, none⟩ = some (.int .i64 x)) := fun V h => by rw [hKK] at h; exact h
      have HK0 : Hid (KK W0.drew) := by rw [hKK]; exact ⟨c2, c5, k1⟩
      have HK1 : Hid (KK (W0.drew.alloc (.cells #[.int .i64 x, .int .i64 node, .int .i64 0] 134))) := by
        rw [hKK]
        exact ⟨(hb0.cell (World.block_lt_of_cell? W0 _ c2)).trans c2, (hb0.cell (World.block_lt_of_cell? W0 _ c5)).trans c5, (hb0.cell (World.block_lt_of_cell? W0 _ k1)).trans k1⟩
      have HAP : Hid (∀ V, V = W0.drew.alloc (.cells #[.int .i64 x, .int .i64 node, .int .i64 0] 134) → V.ownsRow 0 134 3 (.slice jo J jc) J (jtCells joints) ∧ (∀ j u, [Value.int .i64 x, .int .i64 node, .int .i64 0][j]? = some u → V.cell? ((⟨W0.heap.size, 0, none⟩ : Addr).add j) = some u) ∧
          ∀ v' w', w'.ownsRow 0 134 3 v' (J + 1) (jtCells joints ++ [.int .i64 x, .int .i64 node, .int .i64 0]) → V.grownBy w' (Value.slice jo J jc).ownBlock → (∀ k, v'.ownBlock = some k → (Value.slice jo J jc).ownBlock = some k ∨ V.heap.size ≤ k) → StF W0 134 [.int .i64 x, .int .i64 node, .int .i64 0] rp 4 (.slice jo J jc) (J + 1) KK FF [.slice (some ⟨W0.heap.size, 0, none⟩) 1 1, v'] w') := fun V hV => by
        have hj2 := HJ.out
        have hs2 := HS.out
        subst hj2 hs2 hV hKK hFF
        refine ⟨(owns_0 (owns_same HO.out.js (fun k2 hk2 => hb0.block k2 ((owns_0 HO.out.js).lt k2 hk2).2))), news_new W0.drew 134 [.int .i64 x, .int .i64 node, .int .i64 0], fun v' w' a1 a2 a3 => ?_⟩
        obtain ⟨⟨hbx, hsk⟩, hobj⟩ := HO.out.push ⟨x, node, 0⟩ hb0 a1 a2 a3
        exact ⟨⟨hbx.cell (i := 4) rfl, hbx.free 4, owns_slice a1, ⟨hbx.cell (i := 2) rfl, hbx.cell (i := 5) rfl, op_cell hsk rfl hks HX.out⟩, ⟨hobj.box.cell (i := 2) rfl, hobj.box.cell (i := 5) rfl, op_cell hobj.sk rfl hks HX.out⟩⟩, hobj⟩
      have HFE : Hid (∀ z V, FF z V → RdO w0 io rp ⟨want, bg, node, leaves, joints ++ [⟨x, node, 0⟩], stack⟩ z (.slice (some ⟨g, 0, none⟩) stack.length sc) V) := fun z V h => by rw [hFF] at h; exact h
      have hsc : S ≤ sc := by
        rcases HO.out.sk.2 with ⟨e, _⟩ | ⟨g2, cap2, cur, e, _, _, h2, _⟩
        · cases e
        · injection e with _ _ e; have := HS.out; have h3 : stack.length ≤ cap2 := h2; omega
      clear hKK hFF hb0 hks
      -- ONE<
      refine wp_region_late 18 (by kernel_rfl) (by kernel_rfl) (by kernel_rfl) (by kernel_rfl) (by kernel_rfl) (fun q_ v_ => match q_ with | 0 => v_ = .pointer (some ⟨rp, 0, none⟩) | 1 => v_ = .pointer (some ⟨rp, 0, none⟩) | 2 => v_ = .pointer (some ⟨rp, 0, none⟩) | 3 => v_ = .pointer (some ⟨rp, 4, none⟩) | 4 => v_ = .slice jo J jc | 5 => v_ = .pointer (some ⟨rp, 0, none⟩) | 6 => v_ = .pointer (some ⟨rp, 0, none⟩) | 7 => v_ = .pointer (some ⟨rp, 5, none⟩) | 8 => v_ = .slice (some ⟨g, 0, none⟩) S sc | 9 => v_ = .int .i64 (k : Int) | 10 => v_ = .pointer (some ⟨g, k * 2, none⟩) | 11 => v_ = .pointer (some ⟨g, k * 2, none⟩) | 12 => v_ = .int .i64 x | 13 => v_ = .pointer (some ⟨rp, 0, none⟩) | 14 => v_ = .pointer (some ⟨rp, 0, none⟩) | 15 => v_ = .pointer (some ⟨rp, 2, none⟩) | 16 => v_ = .int .i64 node | 17 => v_ = .agg #[.int .i64 x, .int .i64 node, .int .i64 0] | _ => True) (StF W0 134 [.int .i64 x, .int .i64 node, .int .i64 0] rp 4 (.slice jo J jc) (J + 1) KK FF) rfl ?read ?tail ?fin
      case read =>
        intro W ys o_i o AA hin hst hnd hlt hev hdep ho
        obtain ⟨c2, c5, k1⟩ := HKE.out W (StF.k hst HK0.out HK1.out)
        have hcs : o_i = 0 ∨ o_i = 1 ∨ o_i = 2 ∨ o_i = 3 ∨ o_i = 4 ∨ o_i = 5 ∨ o_i = 6 ∨ o_i = 7 ∨ o_i = 8 ∨ o_i = 9 ∨ o_i = 10 ∨ o_i = 11 ∨ o_i = 12 ∨ o_i = 13 ∨ o_i = 14 ∨ o_i = 15 ∨ o_i = 16 ∨ o_i = 17 := by omega
        rcases hcs with rfl | rfl | rfl | rfl | rfl | rfl | rfl | rfl | rfl | rfl | rfl | rfl | rfl | rfl | rfl | rfl | rfl | rfl
        · cases ho
          have f0 : AA.eval (.tmp 0) = .pointer (some ⟨rp, 0, none⟩) := hev 0 (by kernel_rfl)
          refine ⟨wanted_free rfl, wp_valD (v := .pointer (some ⟨rp, 0, none⟩)) (w' := W) (by simp only [execOp, f0]; simp [go_sem, f0, c2, c5, k1, v3, v4]) ⟨_, rfl, rfl, rfl⟩⟩
        · cases ho
          have f0 : AA.eval (.tmp 0) = .pointer (some ⟨rp, 0, none⟩) := hev 0 (by kernel_rfl)
          refine ⟨wanted_free rfl, wp_valD (v := .pointer (some ⟨rp, 0, none⟩)) (w' := W) (by simp only [execOp, f0]; simp [go_sem, f0, c2, c5, k1, v3, v4]) ⟨_, rfl, rfl, rfl⟩⟩
        · cases ho
          have f47 : AA.eval (.tmp 47) = .pointer (some ⟨rp, 0, none⟩) := hdep ⟨1, .data⟩ 47 (by simp) (by rfl) rfl (by simp)
          refine ⟨wanted_free rfl, wp_valD (v := .pointer (some ⟨rp, 0, none⟩)) (w' := W) (by simp only [execOp, f47]; simp [go_sem, f47, c2, c5, k1, v3, v4]) ⟨_, rfl, rfl, rfl⟩⟩
        · cases ho
          have f48 : AA.eval (.tmp 48) = .pointer (some ⟨rp, 0, none⟩) := hdep ⟨2, .data⟩ 48 (by simp) (by rfl) rfl (by simp)
          refine ⟨wanted_free rfl, wp_valD (v := .pointer (some ⟨rp, 4, none⟩)) (w' := W) (by simp only [execOp, f48]; simp [go_sem, f48, c2, c5, k1, v3, v4]) ⟨_, rfl, rfl, rfl⟩⟩
        · cases ho
          have f49 : AA.eval (.tmp 49) = .pointer (some ⟨rp, 4, none⟩) := hdep ⟨3, .data⟩ 49 (by simp) (by rfl) rfl (by simp)
          have hl : ys.length ≤ 1 := by
            apply Classical.byContradiction
            intro hc
            exact hnd 19 _ (by omega) (by omega) rfl ⟨4, .data⟩ (by simp) (by rfl) rfl
          have ho4 := StF.old hst hl c4
          refine ⟨wanted_free rfl, wp_valD (v := .slice jo J jc) (w' := W) (by simp only [execOp, f49]; simp [go_sem, f49, c2, c5, k1, v3, v4, ho4]) ⟨_, rfl, rfl, rfl⟩⟩
        · cases ho
          have f0 : AA.eval (.tmp 0) = .pointer (some ⟨rp, 0, none⟩) := hev 0 (by kernel_rfl)
          refine ⟨wanted_free rfl, wp_valD (v := .pointer (some ⟨rp, 0, none⟩)) (w' := W) (by simp only [execOp, f0]; simp [go_sem, f0, c2, c5, k1, v3, v4]) ⟨_, rfl, rfl, rfl⟩⟩
        · cases ho
          have f51 : AA.eval (.tmp 51) = .pointer (some ⟨rp, 0, none⟩) := hdep ⟨5, .data⟩ 51 (by simp) (by rfl) rfl (by simp)
          refine ⟨wanted_free rfl, wp_valD (v := .pointer (some ⟨rp, 0, none⟩)) (w' := W) (by simp only [execOp, f51]; simp [go_sem, f51, c2, c5, k1, v3, v4]) ⟨_, rfl, rfl, rfl⟩⟩
        · cases ho
          have f52 : AA.eval (.tmp 52) = .pointer (some ⟨rp, 0, none⟩) := hdep ⟨6, .data⟩ 52 (by simp) (by rfl) rfl (by simp)
          refine ⟨wanted_free rfl, wp_valD (v := .pointer (some ⟨rp, 5, none⟩)) (w' := W) (by simp only [execOp, f52]; simp [go_sem, f52, c2, c5, k1, v3, v4]) ⟨_, rfl, rfl, rfl⟩⟩
        · cases ho
          have f53 : AA.eval (.tmp 53) = .pointer (some ⟨rp, 5, none⟩) := hdep ⟨7, .data⟩ 53 (by simp) (by rfl) rfl (by simp)
          refine ⟨wanted_free rfl, wp_valD (v := .slice (some ⟨g, 0, none⟩) S sc) (w' := W) (by simp only [execOp, f53]; simp [go_sem, f53, c2, c5, k1, v3, v4]) ⟨_, rfl, rfl, rfl⟩⟩
        · cases ho
          have f5 : AA.eval (.tmp 5) = .int .i64 (k : Int) := hev 5 (by kernel_rfl)
          refine ⟨wanted_free rfl, wp_valD (v := .int .i64 (k : Int)) (w' := W) (by simp only [execOp, f5]; simp [go_sem, f5, c2, c5, k1, v3, v4]) ⟨_, rfl, rfl, rfl⟩⟩
        · cases ho
          have f54 : AA.eval (.tmp 54) = .slice (some ⟨g, 0, none⟩) S sc := hdep ⟨8, .data⟩ 54 (by simp) (by rfl) rfl (by simp)
          have f55 : AA.eval (.tmp 55) = .int .i64 (k : Int) := hdep ⟨9, .data⟩ 55 (by simp) (by rfl) rfl (by simp)
          refine ⟨wanted_free rfl, wp_valD (v := .pointer (some ⟨g, k * 2, none⟩)) (w' := W) (by simp only [execOp, f54, f55]; simp [go_sem, f54, f55, c2, c5, k1, v3, v4]) ⟨_, rfl, rfl, rfl⟩⟩
        · cases ho
          have f56 : AA.eval (.tmp 56) = .pointer (some ⟨g, k * 2, none⟩) := hdep ⟨10, .data⟩ 56 (by simp) (by rfl) rfl (by simp)
          refine ⟨wanted_free rfl, wp_valD (v := .pointer (some ⟨g, k * 2, none⟩)) (w' := W) (by simp only [execOp, f56]; simp [go_sem, f56, c2, c5, k1, v3, v4]) ⟨_, rfl, rfl, rfl⟩⟩
        · cases ho
          have f57 : AA.eval (.tmp 57) = .pointer (some ⟨g, k * 2, none⟩) := hdep ⟨11, .data⟩ 57 (by simp) (by rfl) rfl (by simp)
          refine ⟨wanted_free rfl, wp_valD (v := .int .i64 x) (w' := W) (by simp only [execOp, f57]; simp [go_sem, f57, c2, c5, k1, v3, v4]) ⟨_, rfl, rfl, rfl⟩⟩
        · cases ho
          have f0 : AA.eval (.tmp 0) = .pointer (some ⟨rp, 0, none⟩) := hev 0 (by kernel_rfl)
          refine ⟨wanted_free rfl, wp_valD (v := .pointer (some ⟨rp, 0, none⟩)) (w' := W) (by simp only [execOp, f0]; simp [go_sem, f0, c2, c5, k1, v3, v4]) ⟨_, rfl, rfl, rfl⟩⟩
        · cases ho
          have f59 : AA.eval (.tmp 59) = .pointer (some ⟨rp, 0, none⟩) := hdep ⟨13, .data⟩ 59 (by simp) (by rfl) rfl (by simp)
          refine ⟨wanted_free rfl, wp_valD (v := .pointer (some ⟨rp, 0, none⟩)) (w' := W) (by simp only [execOp, f59]; simp [go_sem, f59, c2, c5, k1, v3, v4]) ⟨_, rfl, rfl, rfl⟩⟩
        · cases ho
          have f60 : AA.eval (.tmp 60) = .pointer (some ⟨rp, 0, none⟩) := hdep ⟨14, .data⟩ 60 (by simp) (by rfl) rfl (by simp)
          refine ⟨wanted_free rfl, wp_valD (v := .pointer (some ⟨rp, 2, none⟩)) (w' := W) (by simp only [execOp, f60]; simp [go_sem, f60, c2, c5, k1, v3, v4]) ⟨_, rfl, rfl, rfl⟩⟩
        · cases ho
          have f61 : AA.eval (.tmp 61) = .pointer (some ⟨rp, 2, none⟩) := hdep ⟨15, .data⟩ 61 (by simp) (by rfl) rfl (by simp)
          refine ⟨wanted_free rfl, wp_valD (v := .int .i64 node) (w' := W) (by simp only [execOp, f61]; simp [go_sem, f61, c2, c5, k1, v3, v4]) ⟨_, rfl, rfl, rfl⟩⟩
        · cases ho
          have f58 : AA.eval (.tmp 58) = .int .i64 x := hdep ⟨12, .data⟩ 58 (by simp) (by rfl) rfl (by simp)
          have f62 : AA.eval (.tmp 62) = .int .i64 node := hdep ⟨16, .data⟩ 62 (by simp) (by rfl) rfl (by simp)
          have g58 : AA.tmps[58]?.getD undef = .int .i64 x := by simpa [Act.eval] using f58
          have g62 : AA.tmps[62]?.getD undef = .int .i64 node := by simpa [Act.eval] using f62
          refine ⟨wanted_free rfl, wp_valD (v := .agg #[.int .i64 x, .int .i64 node, .int .i64 0]) (w' := W) (by simp only [execOp, f58, f62, g58, g62]; simp [go_sem, f58, f62, g58, g62, c2, c5, k1, v3, v4]) ⟨_, rfl, rfl, rfl⟩⟩
      case tail =>
        intro W ys o AA hst ho hlt hev hdep
        match ys, hst, ho, hdep with
        | [], hst, ho, hdep =>
          cases ho
          have fb : AA.eval (.tmp 63) = .agg #[.int .i64 x, .int .i64 node, .int .i64 0] := (hdep ⟨17, .data⟩ 63 (by simp) (by rfl) rfl (by simp)).1 (by decide)
          have gb : AA.tmps[63]?.getD undef = .agg #[.int .i64 x, .int .i64 node, .int .i64 0] := by simpa [Act.eval] using fb
          have e := hst
          unfold StF at e
          subst e
          exact ⟨wanted_free rfl, wp_valD (v := .slice (some ⟨W0.heap.size, 0, none⟩) 1 1) (w' := W0.drew.alloc (.cells #[.int .i64 x, .int .i64 node, .int .i64 0] 134)) (by simp only [execOp]; simp [go_sem, gb]) ⟨_, rfl, ⟨rfl, rfl⟩⟩⟩
        | [y], hst, ho, hdep =>
          cases ho
          obtain ⟨rfl, hW⟩ := hst
          have fx : AA.eval (.tmp 50) = .slice jo J jc := (hdep ⟨4, .data⟩ 50 (by simp) (by rfl) rfl (by simp)).1 (by decide)
          have fy : AA.eval (.tmp 64) = .slice (some ⟨W0.heap.size, 0, none⟩) 1 1 := by
            have := (hdep ⟨18, .data⟩ 64 (by simp) (by rfl) rfl (by simp)).2 0 rfl
            injection this with this
            exact this.symm
          refine ⟨wanted_free rfl, ?_⟩
          obtain ⟨h1, h2, h3⟩ := HAP.out W hW
          exact wp_apD 134 (.agg #[.int .i64 0, .int .i64 0, .int .i64 0]) 3 24 Tryz.underlying123 Tryz.infoJoint rfl (by decide) _ J _ fx h1 ⟨W0.heap.size, 0, none⟩ 1 1 [.int .i64 x, .int .i64 node, .int .i64 0] fy rfl h2 (by simp [Value.oneCell']) (by unfold maxLen; omega) (by omega) (fun v' w' a1 a2 a3 => ⟨v', rfl, h3 v' w' a1 a2 a3⟩)
        | [y, z], hst, ho, hdep =>
          cases ho
          have fp : AA.eval (.tmp 46) = .pointer (some ⟨rp, 0, none⟩) := (hdep ⟨0, .data⟩ 46 (by simp) (by rfl) rfl (by simp)).1 (by decide)
          exact ⟨wanted_free rfl, wp_valD (v := .pointer (some ⟨rp, 0, none⟩)) (w' := W) (by simp only [execOp, fp]; simp [go_sem]) ⟨_, rfl, ⟨hst, rfl⟩⟩⟩
        | [y, z, p], hst, ho, hdep =>
          cases ho
          obtain ⟨hst, rfl⟩ := hst
          have fp : AA.eval (.tmp 66) = .pointer (some ⟨rp, 0, none⟩) := by
            have := (hdep ⟨20, .data⟩ 66 (by simp) (by rfl) rfl (by simp)).2 2 rfl
            injection this with this
            exact this.symm
          exact ⟨wanted_free rfl, wp_valD (v := .pointer (some ⟨rp, 4, none⟩)) (w' := W) (by simp only [execOp, fp]; simp [go_sem]) ⟨_, rfl, ⟨hst, rfl⟩⟩⟩
        | [y, z, p, q], hst, ho, hdep =>
          cases ho
          obtain ⟨hst, rfl⟩ := hst
          have fq : AA.eval (.tmp 67) = .pointer (some ⟨rp, 4, none⟩) := by
            have := (hdep ⟨21, .data⟩ 67 (by simp) (by rfl) rfl (by simp)).2 3 rfl
            injection this with this
            exact this.symm
          have fz : AA.eval (.tmp 65) = z := by
            have := (hdep ⟨19, .data⟩ 65 (by simp) (by rfl) rfl (by simp)).2 1 rfl
            injection this with this
            exact this.symm
          obtain ⟨⟨hce, hfr, ⟨o_, c_, rfl⟩, _, hk2⟩, hF⟩ := hst
          refine ⟨wanted_free rfl, ?_⟩
          unfold Oper.wp execOp
          simp only [fq, fz]
          simp [go_sem, hfr, hce]
          exact ⟨undef, ⟨⟨⟨_, _, rfl⟩, hk2⟩, hF⟩⟩
        | [y, z, p, q, s_], hst, ho, hdep => cases ho
        | _ :: _ :: _ :: _ :: _ :: _ :: _, hst, ho, hdep => cases hst
      case fin =>
        intro xs W hst hF
        obtain ⟨_, hobj⟩ := (show StF W0 134 [.int .i64 x, .int .i64 node, .int .i64 0] rp 4 (.slice jo J jc) (J + 1) KK FF [xs 18, xs 19, xs 20, xs 21, xs 22] W from hst)
        have HOBJ := Lib.hid hobj
        clear hst hF hobj
        simp only [putAll, Nat.zero_add, Nat.reduceAdd]
        generalize xs 0 = z0 at *
        generalize xs 1 = z1 at *
        generalize xs 2 = z2 at *
        generalize xs 3 = z3 at *
        generalize xs 4 = z4 at *
        generalize xs 5 = z5 at *
        generalize xs 6 = z6 at *
        generalize xs 7 = z7 at *
        generalize xs 8 = z8 at *
        generalize xs 9 = z9 at *
        generalize xs 10 = z10 at *
        generalize xs 11 = z11 at *
        generalize xs 12 = z12 at *
        generalize xs 13 = z13 at *
        generalize xs 14 = z14 at *
        generalize xs 15 = z15 at *
        generalize xs 16 = z16 at *
        generalize xs 17 = z17 at *
        generalize xs 18 = z18 at *
        generalize xs 19 = z19 at *
        generalize xs 20 = z20 at *
        generalize xs 21 = z21 at *
        generalize xs 22 = z22 at *
        clear xs
      -- ONE>
        have hob := HFE.out _ _ HOBJ.out
        obtain ⟨o8, k8, rfl⟩ := owns_slice (owns_0 hob.js)
        have hob2 : RdO w0 io rp (⟨3, bg, node, leaves, joints ++ [(⟨x, node, 0⟩ : Jt)], stack.take k⟩ : RdS) _ _ _ := (hob.pop hkl).put 0 (.int .i64 3) (⟨3, bg, node, leaves, joints ++ [(⟨x, node, 0⟩ : Jt)], stack.take k⟩ : RdS) rfl rfl rfl
        have HF := Lib.hid hob2
        clear hob2
        have d5 := hob.box.cell (i := 5) rfl
        have d0 := hob.box.cell (i := 0) rfl
        have e5 := hob.box.free 5
        have e0 := hob.box.free 0
        replace d5 : W.cell? ⟨rp, 5, none⟩ = some (.slice (some ⟨g, 0, none⟩) S sc) := by rw [← HS.out]; exact d5
        have g1 : (k : Int) ≤ (sc : Int) := by omega
        clear hob HK0 HK1 HKE HAP HFE HOBJ c0 c5 c2 c4 k1 k2 f0 f1 f2
        go_wp2_with fail
        go_ret
        rw [HC.out]
        exact ⟨rfl, _, _, HF.out⟩

end Go.Proofs.YthacjealoomioaaGreatDoor
