/- DpA, DpD, DpB, DpC. -/
import Derived.Test.YthacjealoomioaaGreatDoorZGn
import Derived.Test.YthacjealoomioaaGreatDoorZGc
import Derived.BigQuiet
/- The reference's reader of texts, in memory; is, must. -/
namespace Go.Proofs.YthacjealoomioaaGreatDoor
set_option linter.unusedVariables false
set_option linter.unusedSimpArgs false
open Go.RowKit

def ptCells (l : List Pt) : List Value := l.flatMap fun q => [.int .i64 q.leaf, .int .i64 q.left, .int .i64 q.right, .int .i64 q.h]
theorem pt_snoc (l : List Pt) (q : Pt) : ptCells (l ++ [q]) = ptCells l ++ [.int .i64 q.leaf, .int .i64 q.left, .int .i64 q.right, .int .i64 q.h] := by simp [ptCells, List.flatMap_append]

/-- The reader at rp: its text, how much is read, its parts, whether it failed. -/
structure RRd (w0 : World) (s : ByteArray) (rp : Nat) (p : Nat) (L : List Pt) (fl : Bool) (lv : Value) (W : World) : Prop where
  box : Blk W rp 92 [.string s, .int .i64 (p : Int), lv, .bool fl]
  row : W.ownsRow w0.heap.size 140 4 lv L.length (ptCells L)
  bel : Below w0.heap.size w0 W
  new : w0.heap.size ≤ rp

theorem RRd.at_ {w0 : World} {s : ByteArray} {rp p : Nat} {L : List Pt} {fl : Bool} {lv : Value} {W : World} (h : RRd w0 s rp p L fl lv W) (q : Nat) : RRd w0 s rp q L fl lv (W.setCell ⟨rp, 1, none⟩ (.int .i64 (q : Int))) :=
  ⟨h.box.set 1 _, owns_other h.row h.box (by decide) 1 _, bel_mod h.bel (Mod.setCell (Mod.refl (fun x => x = rp) W) ⟨rp, 1, none⟩ (fun _ => rfl) _) (fun x e => by rw [e]; exact h.new), h.new⟩
theorem RRd.fail {w0 : World} {s : ByteArray} {rp p : Nat} {L : List Pt} {fl : Bool} {lv : Value} {W : World} (h : RRd w0 s rp p L fl lv W) (g : Bool) : RRd w0 s rp p L g lv (W.setCell ⟨rp, 3, none⟩ (.bool g)) :=
  ⟨h.box.set 3 _, owns_other h.row h.box (by decide) 3 _, bel_mod h.bel (Mod.setCell (Mod.refl (fun x => x = rp) W) ⟨rp, 3, none⟩ (fun _ => rfl) _) (fun x e => by rw [e]; exact h.new), h.new⟩
theorem RRd.drew {w0 : World} {s : ByteArray} {rp p : Nat} {L : List Pt} {fl : Bool} {lv : Value} {W : World} (h : RRd w0 s rp p L fl lv W) : RRd w0 s rp p L fl lv W.drew := ⟨h.box, h.row, h.bel.drew, h.new⟩
theorem RRd.drewN {w0 : World} {s : ByteArray} {rp p : Nat} {L : List Pt} {fl : Bool} {lv : Value} {W : World} (h : RRd w0 s rp p L fl lv W) (n : Nat) : RRd w0 s rp p L fl lv (W.drewN n) := ⟨h.box, h.row, bel_drewN h.bel n, h.new⟩

/-- A call that changes the reader's fields only. -/
structure RPost (w0 : World) (s : ByteArray) (rp p : Nat) (L : List Pt) (fl : Bool) (lv v : Value) (W : World) (e : Ending) (W' : World) : Prop where
  val : e = .returned v
  obj : RRd w0 s rp p L fl lv W'
  mod : Mod (fun x => x = rp) W W'

theorem mod_drewN {F : Nat → Prop} {w : World} (n : Nat) : Mod F w (w.drewN n) := (Mod.refl F w).drewN n
theorem RRd.draws {w0 : World} {s : ByteArray} {rp p : Nat} {L : List Pt} {fl : Bool} {lv : Value} {W : World} {a : Addr} {v : Value} (h : RRd w0 s rp p L fl lv (W.setCell a v)) (n : Nat) : RRd w0 s rp p L fl lv ((W.drewN n).setCell a v) := h.drewN n
theorem mod_draws {F : Nat → Prop} {w W : World} {a : Addr} {v : Value} (h : Mod F w (W.setCell a v)) (n : Nat) : Mod F w ((W.drewN n).setCell a v) := h.drewN n
/-- The byte at p. -/
def bAt (s : ByteArray) (p : Nat) : Nat := (s.data.toList.getD p 0).toNat
theorem run_idx (s : ByteArray) (p : Nat) (h : p < s.size) : (Instr.index 9 (.string s) (.int .i64 (p : Int))).run Tryz.prog = fun w => .ok (.int .u8 (bAt s p : Int)) w := by
  funext w
  rw [run_index_string (P := Tryz.prog) (w := w) 9 s .i64 (p : Int) (by kernel_rfl), dif_pos ⟨by omega, by omega⟩]
  have e : (p : Int).toNat = p := Int.toNat_natCast p
  unfold bAt
  simp only [e]
  rw [List.getD_eq_getElem?_getD, List.getElem?_eq_getElem (by simpa using h)]
  rfl
theorem at8_lt {s : ByteArray} {p b : Nat} (h : p < s.size) : at8 s.data.toList p b = decide (bAt s p = b) := by
  unfold at8 bAt
  have : p < s.data.toList.length := by simpa using h
  by_cases c : (s.data.toList.getD p 0).toNat = b
  · rw [decide_eq_true ⟨this, c⟩, decide_eq_true c]
  · rw [decide_eq_false (fun h => c h.2), decide_eq_false c]
theorem at8_ge {s : ByteArray} {p b : Nat} (h : ¬ p < s.size) : at8 s.data.toList p b = false := by
  unfold at8
  exact decide_eq_false fun h2 => h (by simpa using h2.1)

set_option maxHeartbeats 4000000 in
set_option maxRecDepth 100000 in
theorem r22is_ok (w0 : World) (s : ByteArray) (rp p : Nat) (L : List Pt) (fl : Bool) (lv : Value) (W : World) (h : RRd w0 s rp p L fl lv W) (hp : p ≤ 1000000) (hs : s.size ≤ 1000000) (bi : Int) (b : Nat) (hb : bi = (b : Int)) :
    Calls Tryz.prog 81 #[.pointer (some ⟨rp, 0, none⟩), .int .u8 bi] W (RPost w0 s rp (if at8 s.data.toList p b then p + 1 else p) L fl lv (.bool (at8 s.data.toList p b)) W) := by
  subst hb
  have HO := Lib.hid h
  have c0 := h.box.cell (i := 0) rfl
  have c1 := h.box.cell (i := 1) rfl
  have f1 := h.box.free 1
  clear h
  obtain ⟨q, HQ⟩ : ∃ q, Hid ((if at8 s.data.toList p b = true then p + 1 else p) = q) := ⟨_, rfl⟩
  obtain ⟨vb, HV⟩ : ∃ vb, Hid (at8 s.data.toList p b = vb) := ⟨_, rfl⟩
  rw [HQ.out, HV.out]
  go_enter Tryz.func81, Tryz.ntmps81
  go_upto_region 1 with fail
  by_cases hl : p < s.size
  · have hix := run_idx s p hl
    have HA := Lib.hid (at8_lt (b := b) hl)
    generalize bAt s p = c at *
    have t1 : decide ((p : Int) < (s.size : Int)) = true := decide_eq_true (by omega)
    have t1' : decide (p < s.size) = true := decide_eq_true hl
    by_cases hc : c = b
    · subst hc
      have HA2 : Hid (at8 s.data.toList p c = true) := HA.out.trans (decide_eq_true rfl)
      obtain rfl : vb = true := HV.out.symm.trans HA2.out
      obtain rfl : q = p + 1 := HQ.out.symm.trans (if_pos HA2.out)
      have t2 : ((c : Int) == (c : Int)) = true := by simp
      have HF := Lib.hid (HO.out.at_ (p + 1))
      have HM : Hid (Mod (fun x => x = rp) W (W.setCell ⟨rp, 1, none⟩ (.int .i64 ((p + 1 : Nat) : Int)))) := Mod.setCell (Mod.refl (fun x => x = rp) W) ⟨rp, 1, none⟩ (fun _ => rfl) _
      have v1 : IntKind.i64.wrap ((p : Int) + 1) = ((p + 1 : Nat) : Int) := (IntWalk.i64_in _ (by omega)).trans (by omega)
      clear hl HA HA2 HQ HV
      go_wp2_with fail
      go_quiet (fail)
      have HF2 := Lib.hid (HF.out.draws nq)
      have HM2 := Lib.hid (mod_draws HM.out nq)
      go_wp2_with fail
      go_ret
      exact ⟨rfl, HF2.out, HM2.out⟩
    · have HA2 : Hid (at8 s.data.toList p b = false) := HA.out.trans (decide_eq_false hc)
      obtain rfl : vb = false := HV.out.symm.trans HA2.out
      obtain rfl : p = q := ((if_neg (by rw [HA2.out]; decide)).symm.trans HQ.out)
      have t2 : ((c : Int) == (b : Int)) = false := by simp; omega
      have t2' : decide (c = b) = false := decide_eq_false hc
      have t2'' : (c == b) = false := by simp; exact hc
      clear hl HA hc HA2 HQ HV
      go_wp2_with fail
      go_quiet (fail)
      go_wp2_with fail
      go_ret
      exact ⟨rfl, HO.out.drewN nq, mod_drewN nq⟩
  · have HA2 : Hid (at8 s.data.toList p b = false) := at8_ge hl
    obtain rfl : vb = false := HV.out.symm.trans HA2.out
    obtain rfl : p = q := ((if_neg (by rw [HA2.out]; decide)).symm.trans HQ.out)
    have t1 : decide ((p : Int) < (s.size : Int)) = false := decide_eq_false (by omega)
    have t1' : decide (p < s.size) = false := decide_eq_false hl
    clear hl HA2 HQ HV
    go_wp2_with fail
    go_quiet (fail)
    go_wp2_with fail
    go_ret
    exact ⟨rfl, HO.out.drewN nq, mod_drewN nq⟩

set_option maxHeartbeats 4000000 in
set_option maxRecDepth 100000 in
theorem r22must_ok (w0 : World) (s : ByteArray) (rp p : Nat) (L : List Pt) (fl : Bool) (lv : Value) (W : World) (h : RRd w0 s rp p L fl lv W) (hp : p ≤ 1000000) (hs : s.size ≤ 1000000) (bi : Int) (b : Nat) (hb : bi = (b : Int)) :
    Calls Tryz.prog 49 #[.pointer (some ⟨rp, 0, none⟩), .int .u8 bi] W (RPost w0 s rp (if at8 s.data.toList p b then p + 1 else p) L (fl || !at8 s.data.toList p b) lv (.tuple #[]) W) := by
  subst hb
  have HC := Lib.hid (r22is_ok w0 s rp p L fl lv W h hp hs (b : Int) b rfl)
  obtain ⟨q, HQ⟩ : ∃ q, Hid ((if at8 s.data.toList p b = true then p + 1 else p) = q) := ⟨_, rfl⟩
  obtain ⟨vb, HV⟩ : ∃ vb, Hid (at8 s.data.toList p b = vb) := ⟨_, rfl⟩
  rw [HQ.out, HV.out] at HC
  rw [HQ.out, HV.out]
  clear h
  go_enter Tryz.func49, Tryz.ntmps49
  go_wp2_with fail
  with_reducible refine HC.out.mono ?_
  rintro e W2 ⟨rfl, ho, hm⟩
  have HO := Lib.hid ho
  have HM := Lib.hid hm
  have c3 := ho.box.cell (i := 3) rfl
  have f3 := ho.box.free 3
  clear ho hm HC HV HQ
  cases vb with
  | true =>
    go_wp2_with fail
    go_end0
    refine ⟨rfl, ?_, HM.out⟩
    rw [Bool.not_true, Bool.or_false]
    exact HO.out
  | false =>
    have HF := Lib.hid (HO.out.fail true)
    have HM2 : Hid (Mod (fun x => x = rp) W (W2.setCell ⟨rp, 3, none⟩ (.bool true))) := Mod.setCell HM.out ⟨rp, 3, none⟩ (fun _ => rfl) _
    clear HO HM
    go_wp2_with fail
    go_end0
    refine ⟨rfl, ?_, HM2.out⟩
    rw [Bool.not_false, Bool.or_true]
    exact HF.out

end Go.Proofs.YthacjealoomioaaGreatDoor

/- The reference's reader of texts: how its lists give the tree. No program in sight. -/
namespace Go.Proofs.YthacjealoomioaaGreatDoor
set_option linter.unusedVariables false
set_option linter.unusedSimpArgs false

/-- A part at place p is well formed. -/
def PtWf (q : Pt) (p : Nat) : Prop := (0 ≤ q.leaf ∧ q.leaf < 4096) ∨ (q.leaf < 0 ∧ 0 ≤ q.left ∧ q.left < p ∧ 0 ≤ q.right ∧ q.right < p ∧ In64 q.h)
def PsWf (L : List Pt) : Prop := ∀ p, p < L.length → PtWf (PA L p) p

theorem ps_wf : ∀ (b : BT) (base : Nat), b.Fit → ∀ i, i < b.sz → PtWf ((b.ps base).getD i pt0) (base + i)
  | .leaf x, base, hf, i, hi => by
    have hi0 : i = 0 := by unfold BT.sz at hi; omega
    subst hi0
    have hf : x < 4096 := hf
    refine .inl ?_
    show 0 ≤ (x : Int) ∧ (x : Int) < 4096
    omega
  | .node l r h, base, ⟨f1, f2, f3⟩, i, hi => by
    have e : (BT.node l r h).ps base = l.ps base ++ r.ps (base + l.sz) ++ [⟨-1, ((base + l.sz - 1 : Nat) : Int), ((base + l.sz + r.sz - 1 : Nat) : Int), h⟩] := rfl
    have hsz : (BT.node l r h).sz = l.sz + r.sz + 1 := rfl
    have l1 := l.sz_pos
    have l2 := r.sz_pos
    have hl := BT.ps_len l base
    have hr := BT.ps_len r (base + l.sz)
    rw [e, List.getD_eq_getElem?_getD]
    by_cases c1 : i < l.sz
    · rw [List.append_assoc, List.getElem?_append_left (by omega), ← List.getD_eq_getElem?_getD]
      exact ps_wf l base f1 i c1
    · by_cases c2 : i < l.sz + r.sz
      · rw [List.append_assoc, List.getElem?_append_right (by omega), List.getElem?_append_left (by omega), ← List.getD_eq_getElem?_getD, hl]
        have := ps_wf r (base + l.sz) f2 (i - l.sz) (by omega)
        rw [show base + l.sz + (i - l.sz) = base + i by omega] at this
        exact this
      · have ei : i = l.sz + r.sz := by omega
        rw [List.getElem?_append_right (by rw [List.length_append]; omega), List.length_append, hl, hr, ei, Nat.sub_self]
        refine .inr ?_
        show (-1 : Int) < 0 ∧ 0 ≤ ((base + l.sz - 1 : Nat) : Int) ∧ ((base + l.sz - 1 : Nat) : Int) < ((base + (l.sz + r.sz) : Nat) : Int) ∧ 0 ≤ ((base + l.sz + r.sz - 1 : Nat) : Int) ∧ ((base + l.sz + r.sz - 1 : Nat) : Int) < ((base + (l.sz + r.sz) : Nat) : Int) ∧ In64 h
        exact ⟨by omega, by omega, by omega, by omega, by omega, f3⟩
theorem PsWf.app {L : List Pt} (h : PsWf L) {b : BT} (hf : b.Fit) : PsWf (L ++ b.ps L.length) := fun p hp => by
  unfold PA
  rw [List.getD_eq_getElem?_getD]
  rw [List.length_append, BT.ps_len] at hp
  by_cases c : p < L.length
  · rw [List.getElem?_append_left c, ← List.getD_eq_getElem?_getD]
    exact h p c
  · rw [List.getElem?_append_right (by omega), ← List.getD_eq_getElem?_getD]
    have := ps_wf b L.length hf (p - L.length) (by omega)
    rw [show L.length + (p - L.length) = p by omega] at this
    exact this
theorem PsWf.nil : PsWf [] := fun p hp => absurd hp (Nat.not_lt_zero p)
theorem PsWf.part {s : List UInt8} {f p q : Nat} {L L' : List Pt} (h : PsWf L) (e : partO s f p L = some (q, L')) : PsWf L' := by
  obtain ⟨b, hf, rfl, _⟩ := partO_ps s f p L q L' e
  exact h.app hf

/- Filters. -/
theorem filt_at {α : Type} (P : α → Bool) (d : α) : ∀ (l : List α) (p : Nat), p < l.length → P (l.getD p d) = true → (l.filter P).getD ((l.take p).countP P) d = l.getD p d
  | [], p, h, _ => absurd h (Nat.not_lt_zero p)
  | a :: l, 0, h, hp => by
    rw [List.filter_cons_of_pos (by simpa using hp)]
    rfl
  | a :: l, p + 1, h, hp => by
    have ih := filt_at P d l p (by simpa using h) (by simpa using hp)
    rw [List.take_succ_cons, List.getD_cons_succ]
    by_cases c : P a = true
    · rw [List.filter_cons_of_pos c, List.countP_cons_of_pos c, List.getD_cons_succ]
      exact ih
    · rw [List.filter_cons_of_neg c, List.countP_cons_of_neg c]
      exact ih
theorem filt_ex {α : Type} (P : α → Bool) (d : α) : ∀ (l : List α) (j : Nat), j < l.countP P → ∃ p, p < l.length ∧ P (l.getD p d) = true ∧ (l.take p).countP P = j
  | [], j, h => by simp at h
  | a :: l, j, h => by
    by_cases c : P a = true
    · cases j with
      | zero => exact ⟨0, by simp, by simpa using c, rfl⟩
      | succ j =>
        rw [List.countP_cons_of_pos c] at h
        obtain ⟨p, h1, h2, h3⟩ := filt_ex P d l j (by omega)
        refine ⟨p + 1, by simpa using h1, by simpa using h2, ?_⟩
        rw [List.take_succ_cons, List.countP_cons_of_pos c, h3]
    · rw [List.countP_cons_of_neg c] at h
      obtain ⟨p, h1, h2, h3⟩ := filt_ex P d l j h
      refine ⟨p + 1, by simpa using h1, by simpa using h2, ?_⟩
      rw [List.take_succ_cons, List.countP_cons_of_neg c, h3]

theorem PA_get {L : List Pt} {p : Nat} (h : p < L.length) : PA L p = L[p] := by
  unfold PA
  rw [List.getD_eq_getElem?_getD, List.getElem?_eq_getElem h]; rfl
theorem jcnt_succ {L : List Pt} {p : Nat} (h : p < L.length) : jcnt L (p + 1) = jcnt L p + if (PA L p).leaf < 0 then 1 else 0 := by
  unfold jcnt
  rw [List.take_succ_eq_append_getElem h, List.countP_append, PA_get h]
  congr 1
  by_cases c : L[p].leaf < 0
  · rw [if_pos c, List.countP_cons_of_pos (by simpa using c)]; rfl
  · rw [if_neg c, List.countP_cons_of_neg (by simpa using c)]; rfl
/-- Leaves before p. -/
def lct (L : List Pt) (p : Nat) : Nat := (L.take p).countP fun q => decide (0 ≤ q.leaf)
theorem lct_succ {L : List Pt} {p : Nat} (h : p < L.length) : lct L (p + 1) = lct L p + if (PA L p).leaf < 0 then 0 else 1 := by
  unfold lct
  rw [List.take_succ_eq_append_getElem h, List.countP_append, PA_get h]
  congr 1
  by_cases c : L[p].leaf < 0
  · rw [if_pos c, List.countP_cons_of_neg (by simpa using c)]; rfl
  · rw [if_neg c, List.countP_cons_of_pos (by simpa using c)]; rfl
theorem lct_jcnt {L : List Pt} : ∀ p, p ≤ L.length → lct L p + jcnt L p = p
  | 0, _ => rfl
  | p + 1, h => by
    have := lct_jcnt (L := L) p (by omega)
    rw [lct_succ (L := L) (p := p) (by omega), jcnt_succ (L := L) (p := p) (by omega)]
    split <;> omega
theorem lct_all (L : List Pt) : lct L L.length = lcnt L := by unfold lct lcnt; rw [List.take_length]
theorem jcnt_all (L : List Pt) : jcnt L L.length = (jsOf L).length := by
  unfold jcnt jsOf
  rw [List.take_length, List.length_map, List.countP_eq_length_filter]
theorem cnt_all (L : List Pt) : lcnt L + (jsOf L).length = L.length := by
  rw [← lct_all, ← jcnt_all]; exact lct_jcnt _ (Nat.le_refl _)
theorem jcnt_mono {L : List Pt} {p : Nat} : ∀ q, p ≤ q → q ≤ L.length → jcnt L p ≤ jcnt L q
  | 0, h, _ => by rw [show p = 0 by omega]; exact Nat.le_refl _
  | q + 1, h, hq => by
    by_cases e : p = q + 1
    · rw [e]; exact Nat.le_refl _
    · have := jcnt_mono (L := L) (p := p) q (by omega) (by omega)
      rw [jcnt_succ (L := L) (p := q) (by omega)]
      omega
theorem jcnt_lt {L : List Pt} {p : Nat} (h : p < L.length) (hi : (PA L p).leaf < 0) : jcnt L p < (jsOf L).length := by
  have h1 := jcnt_succ h
  rw [if_pos hi] at h1
  have h2 := jcnt_mono (L := L) (p := p + 1) L.length (by omega) (Nat.le_refl _)
  rw [jcnt_all] at h2
  omega
theorem jcnt_slt {L : List Pt} {p q : Nat} (h : p < q) (hq : q ≤ L.length) (hi : (PA L p).leaf < 0) : jcnt L p < jcnt L q := by
  have h1 := jcnt_succ (L := L) (p := p) (by omega)
  rw [if_pos hi] at h1
  have h2 := jcnt_mono (L := L) (p := p + 1) q (by omega) hq
  omega
theorem js_at {L : List Pt} {p : Nat} (h : p < L.length) (hi : (PA L p).leaf < 0) : JA (jsOf L) (jcnt L p) = ⟨cdP L (PA L p).left.toNat, cdP L (PA L p).right.toNat, (PA L p).h⟩ := by
  have hlt := jcnt_lt h hi
  have e := filt_at (fun q : Pt => decide (q.leaf < 0)) pt0 L p h (by show decide ((PA L p).leaf < 0) = true; exact decide_eq_true hi)
  unfold JA
  rw [List.getD_eq_getElem?_getD, List.getElem?_eq_getElem hlt]
  unfold jsOf at hlt ⊢
  rw [List.length_map] at hlt
  rw [List.getElem_map]
  rw [List.getD_eq_getElem?_getD, List.getElem?_eq_getElem (show (L.take p).countP (fun q : Pt => decide (q.leaf < 0)) < _ from hlt)] at e
  have e2 : (L.filter fun q : Pt => decide (q.leaf < 0))[jcnt L p]'hlt = PA L p := e
  simp only [Option.getD_some]
  rw [e2]
theorem js_ex {L : List Pt} {j : Nat} (h : j < (jsOf L).length) : ∃ p, p < L.length ∧ (PA L p).leaf < 0 ∧ jcnt L p = j := by
  obtain ⟨p, h1, h2, h3⟩ := filt_ex (fun q : Pt => decide (q.leaf < 0)) pt0 L j (by
    unfold jsOf at h
    rw [List.length_map] at h
    rw [List.countP_eq_length_filter]; exact h)
  exact ⟨p, h1, of_decide_eq_true h2, h3⟩

/- The search for the next part. -/
/-- An inner part that has no node yet. -/
def unp (L : List Pt) (k p : Nat) : Prop := (PA L p).leaf < 0 ∧ k ≤ rkJ (jsOf L) (jcnt L p)
instance (L : List Pt) (k p : Nat) : Decidable (unp L k p) := by unfold unp; infer_instance
def scanTo (L : List Pt) (k : Nat) : Nat → Int
  | 0 => -1
  | i + 1 => if unp L k i ∧ (scanTo L k i < 0 ∨ (PA L i).h < (PA L (scanTo L k i).toNat).h) then (i : Int) else scanTo L k i
theorem scan_inv (L : List Pt) (k : Nat) : ∀ i, (scanTo L k i = -1 ∧ ∀ p, p < i → ¬ unp L k p) ∨ ∃ q : Nat, scanTo L k i = q ∧ q < i ∧ unp L k q ∧ ∀ p, p < i → unp L k p → (PA L q).h < (PA L p).h ∨ ((PA L q).h = (PA L p).h ∧ q ≤ p)
  | 0 => .inl ⟨rfl, fun p h => absurd h (Nat.not_lt_zero p)⟩
  | i + 1 => by
    rw [scanTo]
    rcases scan_inv L k i with ⟨e, hno⟩ | ⟨q, e, hq, hu, hb⟩
    · by_cases c : unp L k i
      · rw [if_pos ⟨c, .inl (by omega)⟩]
        refine .inr ⟨i, rfl, by omega, c, fun p hp hpu => ?_⟩
        by_cases e2 : p = i
        · subst e2; exact .inr ⟨rfl, Nat.le_refl _⟩
        · exact absurd hpu (hno p (by omega))
      · rw [if_neg (fun h => c h.1)]
        refine .inl ⟨e, fun p hp => ?_⟩
        by_cases e2 : p = i
        · subst e2; exact c
        · exact hno p (by omega)
    · rw [e, Int.toNat_natCast]
      by_cases c : unp L k i ∧ ((q : Int) < 0 ∨ (PA L i).h < (PA L q).h)
      · rw [if_pos c]
        have hlt : (PA L i).h < (PA L q).h := by rcases c.2 with h | h <;> omega
        refine .inr ⟨i, rfl, by omega, c.1, fun p hp hpu => ?_⟩
        by_cases e2 : p = i
        · subst e2; exact .inr ⟨rfl, Nat.le_refl _⟩
        · rcases hb p (by omega) hpu with h | ⟨h, _⟩
          · exact .inl (by omega)
          · exact .inl (by omega)
      · rw [if_neg c]
        refine .inr ⟨q, rfl, by omega, hu, fun p hp hpu => ?_⟩
        by_cases e2 : p = i
        · subst e2
          have : ¬ (PA L p).h < (PA L q).h := fun h => c ⟨hpu, .inr h⟩
          by_cases e3 : (PA L q).h = (PA L p).h
          · exact .inr ⟨e3, by omega⟩
          · exact .inl (by omega)
        · exact hb p (by omega) hpu
theorem scan_end {L : List Pt} {k : Nat} (hk : k < (jsOf L).length) : ∃ q : Nat, scanTo L k L.length = q ∧ q < L.length ∧ (PA L q).leaf < 0 ∧ rkJ (jsOf L) (jcnt L q) = k ∧ jcnt L q = (ordJ (jsOf L)).getD k 0 := by
  have hs := ordJ_at_lt hk
  obtain ⟨p, hp, hpi, hpj⟩ := js_ex hs
  have hrk : rkJ (jsOf L) (jcnt L p) = k := by rw [hpj]; exact rk_at hk
  rcases scan_inv L k L.length with ⟨_, hno⟩ | ⟨q, e, hq, hu, hb⟩
  · exact absurd ⟨hpi, by omega⟩ (hno p hp)
  · have hqp : q = p := by
      apply Classical.byContradiction
      intro hne
      have hol : olt (hsE (jsOf L)) (jcnt L q) (jcnt L p) := by
        unfold olt
        rw [hsE_w (jcnt_lt hq hu.1), hsE_w (jcnt_lt hp hpi), js_at hq hu.1, js_at hp hpi]
        simp only
        rcases hb p hp ⟨hpi, by omega⟩ with h | ⟨h, hle⟩
        · exact .inl h
        · exact .inr ⟨h, jcnt_slt (by omega) (by omega) hu.1⟩
      have := rk_olt (jcnt_lt hq hu.1) (jcnt_lt hp hpi) hol
      have := hu.2
      omega
    subst hqp
    exact ⟨q, e, hq, hpi, hrk, hpj⟩

/- The nodes of parts. -/
def nodeF (L : List Pt) (k p : Nat) : Nat := if (PA L p).leaf < 0 then (if rkJ (jsOf L) (jcnt L p) < k then lcnt L + rkJ (jsOf L) (jcnt L p) else 0) else (PA L p).leaf.toNat
def nodeI (L : List Pt) (i p : Nat) : Nat := if p < i ∧ ¬ (PA L p).leaf < 0 then (PA L p).leaf.toNat else 0
theorem nodeI_end {L : List Pt} {p : Nat} (h : p < L.length) : nodeI L L.length p = nodeF L 0 p := by
  unfold nodeI nodeF
  by_cases c : (PA L p).leaf < 0
  · rw [if_neg (fun h => h.2 c), if_pos c, if_neg (by omega)]
  · rw [if_pos ⟨h, c⟩, if_neg c]
theorem nodeF_step {L : List Pt} {k q : Nat} (hq : q < L.length) (hqi : (PA L q).leaf < 0) (hqr : rkJ (jsOf L) (jcnt L q) = k) {p : Nat} (hp : p < L.length) : nodeF L (k + 1) p = if p = q then lcnt L + k else nodeF L k p := by
  unfold nodeF
  by_cases e : p = q
  · subst e
    rw [if_pos hqi, if_pos (by omega), if_pos rfl, hqr]
  · rw [if_neg e]
    by_cases c : (PA L p).leaf < 0
    · rw [if_pos c, if_pos c]
      have hne : rkJ (jsOf L) (jcnt L p) ≠ k := fun h => by
        have := rk_inj (jcnt_lt hp c) (jcnt_lt hq hqi) (h.trans hqr.symm)
        rcases Nat.lt_or_gt_of_ne e with h' | h'
        · have := jcnt_slt h' (by omega) c; omega
        · have := jcnt_slt h' (by omega) hqi; omega
      by_cases c2 : rkJ (jsOf L) (jcnt L p) < k
      · rw [if_pos (by omega), if_pos c2]
      · rw [if_neg (by omega), if_neg c2]
    · rw [if_neg c, if_neg c]

/-- There is a leaf. -/
theorem leaf_pos {L : List Pt} (h : PsWf L) (hl : 0 < L.length) : 0 < lcnt L := by
  have h0 : ¬ (PA L 0).leaf < 0 := fun c => by
    rcases h 0 hl with h | ⟨_, h1, h2, _⟩ <;> omega
  have h1 := lct_succ hl
  rw [if_neg h0] at h1
  have h2 := lct_jcnt (L := L) L.length (Nat.le_refl _)
  have h3 := lct_jcnt (L := L) 1 hl
  have h4 := jcnt_mono (L := L) (p := 1) L.length hl (Nat.le_refl _)
  have h5 : ∀ q, 1 ≤ q → q ≤ L.length → lct L 1 ≤ lct L q := fun q => by
    induction q with
    | zero => intro h _; omega
    | succ q ih =>
      intro h1 h2
      by_cases e : q = 0
      · subst e; exact Nat.le_refl _
      · have := ih (by omega) (by omega)
        rw [lct_succ (L := L) (p := q) (by omega)]; omega
  have := h5 L.length hl (Nat.le_refl _)
  rw [lct_all] at this
  have e0 : lct L 0 = 0 := rfl
  rw [e0] at h1
  have h1' : lct L 1 = 0 + 1 := h1
  omega

/-- A child is there or not. -/
theorem child_ok {L : List Pt} (hw : PsWf L) {k p : Nat} (hp : p < L.length) : ChOk (jsOf L) k (cdP L p) ↔ ¬ ((PA L p).leaf < 0 ∧ nodeF L k p = 0) := by
  have hn := leaf_pos hw (by omega)
  unfold ChOk cdP nodeF
  by_cases c : (PA L p).leaf < 0
  · rw [if_pos c, if_pos c]
    have ex : jx (-((jcnt L p + 1 : Nat) : Int)) = jcnt L p := by unfold jx; omega
    rw [ex]
    by_cases c2 : rkJ (jsOf L) (jcnt L p) < k
    · rw [if_pos c2]
      exact ⟨fun _ h => by omega, fun _ => .inr c2⟩
    · rw [if_neg c2]
      refine ⟨fun h => ?_, fun h => absurd ⟨c, rfl⟩ h⟩
      rcases h with h | h
      · omega
      · exact absurd h c2
  · rw [if_neg c]
    exact ⟨fun _ h => c h.1, fun _ => .inl (by omega)⟩
theorem child_nd {L : List Pt} {k p : Nat} (h : ChOk (jsOf L) k (cdP L p)) : nd (lcnt L) (jsOf L) (cdP L p) = nodeF L k p := by
  unfold nd nodeF
  unfold ChOk at h
  unfold cdP at h ⊢
  by_cases c : (PA L p).leaf < 0
  · rw [if_pos c] at h ⊢
    have ex : jx (-((jcnt L p + 1 : Nat) : Int)) = jcnt L p := by unfold jx; omega
    rw [ex] at h ⊢
    rw [if_pos (by omega), if_pos c]
    rcases h with h | h
    · omega
    · rw [if_pos h]
  · rw [if_neg c] at h ⊢
    rw [if_neg c, if_neg (by omega)]

/- The leaves. -/
def LvI (L : List Pt) (i : Nat) : Prop := ∀ p, p < i → ¬ (PA L p).leaf < 0 → (PA L p).leaf < (lcnt L : Int) ∧ ∀ p', p' < p → (PA L p').leaf ≠ (PA L p).leaf
def seenB (L : List Pt) (i c : Nat) : Bool := (List.range i).any fun p => decide ((PA L p).leaf = (c : Int))
theorem seenB_iff {L : List Pt} {i c : Nat} : seenB L i c = true ↔ ∃ p, p < i ∧ (PA L p).leaf = (c : Int) := by
  unfold seenB
  rw [List.any_eq_true]
  constructor
  · rintro ⟨p, h1, h2⟩
    exact ⟨p, List.mem_range.1 h1, of_decide_eq_true h2⟩
  · rintro ⟨p, h1, h2⟩
    exact ⟨p, List.mem_range.2 h1, decide_eq_true h2⟩
theorem lv_pair {L : List Pt} (h : LvOk L) {p q : Nat} (hpq : p < q) (hq : q < L.length) (h1 : ¬ (PA L p).leaf < 0) : (PA L p).leaf ≠ (PA L q).leaf := fun e => by
  have hnd : ((L.filter fun q => decide (0 ≤ q.leaf)).map Pt.leaf).Nodup := h.nodup_iff.2 (by
    rw [List.nodup_iff_pairwise_ne, List.pairwise_map]
    exact List.Pairwise.imp (fun h e => h (by omega)) (List.nodup_iff_pairwise_ne.1 List.nodup_range))
  rw [List.nodup_iff_pairwise_ne, List.pairwise_map, List.pairwise_filter] at hnd
  have := List.pairwise_iff_getElem.1 hnd p q (by omega) hq hpq
  rw [PA_get (by omega)] at h1 e
  rw [PA_get hq] at e
  exact this (by simp; omega) (by simp; omega) e
theorem lv_bd {L : List Pt} (h : LvOk L) {p : Nat} (hp : p < L.length) (h1 : ¬ (PA L p).leaf < 0) : (PA L p).leaf < (lcnt L : Int) := by
  have hm : (PA L p).leaf ∈ (L.filter fun q => decide (0 ≤ q.leaf)).map Pt.leaf := by
    rw [List.mem_map]
    refine ⟨PA L p, ?_, rfl⟩
    rw [List.mem_filter]
    exact ⟨by rw [PA_get hp]; exact List.getElem_mem _, by simp; omega⟩
  have := h.mem_iff.1 hm
  rw [List.mem_map] at this
  obtain ⟨x, hx, e⟩ := this
  rw [List.mem_range] at hx
  omega
theorem lv_bad {L : List Pt} {p : Nat} (hp : p < L.length) (h1 : ¬ (PA L p).leaf < 0) (h : (lcnt L : Int) ≤ (PA L p).leaf ∨ ∃ p', p' < p ∧ (PA L p').leaf = (PA L p).leaf) : ¬ LvOk L := fun hL => by
  rcases h with h | ⟨p', h2, e⟩
  · have := lv_bd hL hp h1; omega
  · exact lv_pair hL h2 hp (by omega) e
theorem LvI.ok {L : List Pt} (h : LvI L L.length) : LvOk L := by
  have hnd : (((L.filter fun q => decide (0 ≤ q.leaf)).map Pt.leaf).map Int.toNat).Nodup := by
    rw [List.nodup_iff_pairwise_ne, List.map_map, List.pairwise_map, List.pairwise_filter]
    refine List.pairwise_iff_getElem.2 fun p q hp hq hpq h1 h2 e => ?_
    have h2' : ¬ (PA L q).leaf < 0 := by rw [PA_get hq]; simpa using h2
    have h1' : ¬ (PA L p).leaf < 0 := by rw [PA_get hp]; simpa using h1
    refine (h q hq h2').2 p hpq ?_
    rw [PA_get hq] at h2'
    rw [PA_get hp] at h1'
    rw [PA_get hp, PA_get hq]
    simp only [Function.comp] at e
    omega
  have hlen : (((L.filter fun q => decide (0 ≤ q.leaf)).map Pt.leaf).map Int.toNat).length = lcnt L := by
    rw [List.length_map, List.length_map]; unfold lcnt; rw [List.countP_eq_length_filter]
  have hmem : ∀ x ∈ (((L.filter fun q => decide (0 ≤ q.leaf)).map Pt.leaf).map Int.toNat), x < lcnt L := fun x hx => by
    obtain ⟨y, hy, rfl⟩ := List.mem_map.1 hx
    obtain ⟨q, hq, rfl⟩ := List.mem_map.1 hy
    obtain ⟨hq1, hq2⟩ := List.mem_filter.1 hq
    obtain ⟨p, hp, rfl⟩ := List.getElem_of_mem hq1
    have h2 : 0 ≤ L[p].leaf := by simpa using hq2
    have := (h p hp (by rw [PA_get hp]; omega)).1
    rw [PA_get hp] at this
    omega
  have h1 : (((L.filter fun q => decide (0 ≤ q.leaf)).map Pt.leaf).map Int.toNat).Perm ((List.range (lcnt L)).filter fun x => decide (x ∈ (((L.filter fun q => decide (0 ≤ q.leaf)).map Pt.leaf).map Int.toNat))) := by
    refine (List.perm_ext_iff_of_nodup hnd (List.nodup_range.filter _)).2 fun x => ?_
    rw [List.mem_filter, List.mem_range, decide_eq_true_eq]
    exact ⟨fun hx => ⟨hmem x hx, hx⟩, fun hx => hx.2⟩
  have h2 : ((List.range (lcnt L)).filter fun x => decide (x ∈ (((L.filter fun q => decide (0 ≤ q.leaf)).map Pt.leaf).map Int.toNat))) = List.range (lcnt L) := by
    refine List.filter_sublist.eq_of_length ?_
    rw [← h1.length_eq, hlen, List.length_range]
  rw [h2] at h1
  have h3 := h1.map fun x : Nat => (x : Int)
  unfold LvOk
  refine List.Perm.trans (List.Perm.of_eq ?_) h3
  rw [List.map_map, List.map_map]
  refine List.map_congr_left fun q hq => ?_
  obtain ⟨_, hq2⟩ := List.mem_filter.1 hq
  have : 0 ≤ q.leaf := by simpa using hq2
  show q.leaf = ((q.leaf.toNat : Nat) : Int)
  omega

/-- The lists of the tree have their lengths. -/
theorem madeTo_len {n : Nat} {J : List Jt} : ∀ k t, madeTo n J k = some t → t.lv = n ∧ t.left.length = n + J.length ∧ t.right.length = n + J.length ∧ t.par.length = n + J.length ∧ t.hgt.length = n + J.length ∧ t.siz.length = n + J.length
  | 0, t, h => by
    rw [madeTo] at h
    injection h with h
    subst h
    unfold t0R
    simp
  | k + 1, t, h => by
    rw [madeTo] at h
    cases hm : madeTo n J k with
    | none => rw [hm] at h; cases h
    | some u =>
      rw [hm] at h
      simp only at h
      split at h
      · injection h with h
        subst h
        have := madeTo_len k u hm
        unfold putJ
        simp only [List.length_set]
        exact this
      · cases h

end Go.Proofs.YthacjealoomioaaGreatDoor

/- The reference's reader of texts: number. -/
namespace Go.Proofs.YthacjealoomioaaGreatDoor
set_option linter.unusedVariables false
set_option linter.unusedSimpArgs false
open Go.RowKit

theorem rDig_stop {s : List UInt8} {k p x : Nat} (h : k = 0 ∨ ¬ isD s p) : rDig s k p x = (x, p) := by
  cases k with
  | zero => rfl
  | succ k =>
    rw [rDig, if_neg]
    rcases h with h | h
    · omega
    · exact h
theorem isD_iff {s : ByteArray} {p : Nat} : isD s.data.toList p ↔ p < s.size ∧ 48 ≤ bAt s p ∧ bAt s p ≤ 57 := by
  unfold isD bAt
  rw [show s.data.toList.length = s.size from Array.length_toList]
theorem rDig_go {s : ByteArray} {k p x d : Nat} (h : isD s.data.toList p) (hd : bAt s p = 48 + d) : rDig s.data.toList (k + 1) p x = rDig s.data.toList k (p + 1) (10 * x + d) := by
  rw [rDig, if_pos h]
  have : (s.data.toList.getD p 0).toNat = 48 + d := hd
  rw [this, Nat.add_sub_cancel_left]
theorem neg_wrap {x : Nat} (h : x ≤ 9223372036854775808) : IntKind.i64.wrap (IntKind.u64.wrap (-(x : Int))) = -(x : Int) := by
  rw [IntKind.wrap_u64, IntKind.wrap_i64]; omega

structure NmPost (w0 : World) (s : ByteArray) (rp p : Nat) (L : List Pt) (lv : Value) (W : World) (e : Ending) (W' : World) : Prop where
  ex : ∃ (v : Int) (q : Nat) (fl : Bool), e = .returned (.int .i64 v) ∧ RRd w0 s rp q L fl lv W' ∧ Mod (fun x => x = rp) W W' ∧ q ≤ s.size ∧ (rNum s.data.toList p = some (v, q) ∧ fl = false ∨ rNum s.data.toList p = none ∧ fl = true ∧ v = 0)

/-- What the last test decides. -/
def nBad (below : Bool) (n x : Nat) : Bool := decide (n = 0) || (!below && decide (9223372036854775807 < x)) || (below && decide (9223372036854775808 < x))
theorem rNum_at {s : List UInt8} {p n x : Nat} {below : Bool} (hb : at8 s p 45 = below) (h : rDig s 19 (if below = true then p + 1 else p) 0 = (x, (if below = true then p + 1 else p) + n)) :
    rNum s p = if nBad below n x = true then none else some (if below = true then -(x : Int) else (x : Int), (if below = true then p + 1 else p) + n) := by
  unfold rNum nBad
  cases below with
  | true =>
    rw [if_pos rfl] at h
    rw [hb, if_pos rfl, h]
    simp only [if_pos]
    by_cases c : n = 0 ∨ 9223372036854775808 < x
    · rw [if_pos (by omega), if_pos]
      simp only [Bool.not_true, Bool.false_and, Bool.or_false, Bool.true_and, Bool.or_eq_true, decide_eq_true_eq]
      exact c
    · rw [if_neg (by omega), if_neg]
      simp only [Bool.not_true, Bool.false_and, Bool.or_false, Bool.true_and, Bool.or_eq_true, decide_eq_true_eq]
      exact c
  | false =>
    rw [if_neg (by decide)] at h
    rw [hb, if_neg (by decide), h]
    simp only [if_neg]
    by_cases c : n = 0 ∨ 9223372036854775807 < x
    · rw [if_pos (by omega), if_pos]
      simp only [Bool.not_false, Bool.false_and, Bool.or_false, Bool.true_and, Bool.or_eq_true, decide_eq_true_eq]
      exact c
    · rw [if_neg (by omega), if_neg]
      · rfl
      · simp only [Bool.not_false, Bool.false_and, Bool.or_false, Bool.true_and, Bool.or_eq_true, decide_eq_true_eq]
        exact c

set_option maxHeartbeats 8000000 in
set_option maxRecDepth 100000 in
theorem r22number_ok (w0 : World) (s : ByteArray) (rp p : Nat) (L : List Pt) (lv : Value) (W : World) (h : RRd w0 s rp p L false lv W) (hp : p ≤ s.size) (hs : s.size ≤ 100000) :
    Calls Tryz.prog 82 #[.pointer (some ⟨rp, 0, none⟩)] W (NmPost w0 s rp p L lv W) := by
  have HC := Lib.hid (r22is_ok w0 s rp p L false lv W h (by omega) (by omega) 45 45 rfl)
  obtain ⟨below, HV⟩ : ∃ vb, Hid (at8 s.data.toList p 45 = vb) := ⟨_, rfl⟩
  rw [HV.out] at HC
  obtain ⟨pb, HPB⟩ : ∃ q, Hid ((if below = true then p + 1 else p) = q) := ⟨_, rfl⟩
  rw [HPB.out] at HC
  have HPL : Hid (pb ≤ s.size) := by
    have e := HPB.out
    have v := HV.out
    show pb ≤ s.size
    cases below with
    | true =>
      have := (of_decide_eq_true (show decide _ = true from v)).1
      rw [show s.data.toList.length = s.size from Array.length_toList] at this
      simp only [if_pos] at e
      omega
    | false =>
      simp only [Bool.false_eq_true, if_false] at e
      omega
  have HNUM : Hid (∀ n x, rDig s.data.toList 19 pb 0 = (x, pb + n) → rNum s.data.toList p = if nBad below n x = true then none else some (if below = true then -(x : Int) else (x : Int), pb + n)) := fun n x hr => by
    have := rNum_at (s := s.data.toList) (p := p) (n := n) (x := x) HV.out (by rw [HPB.out]; exact hr)
    rw [HPB.out] at this
    exact this
  clear h HV HPB
  go_enter Tryz.func82, Tryz.ntmps82
  go_wp2_with fail
  with_reducible refine HC.out.mono ?_
  rintro e W2 ⟨rfl, ho, hm⟩
  have HO := Lib.hid ho
  have HM := Lib.hid hm
  clear ho hm HC
  go_wp2_with fail
  go_loopw [4, 5] (fun s4 s5 wr => ∃ n x : Nat, n ≤ 19 ∧ s4 = .int .u64 (x : Int) ∧ s5 = .int .i64 (n : Int) ∧ rDig s.data.toList (19 - n) (pb + n) x = rDig s.data.toList 19 pb 0 ∧ x < 10 ^ n ∧ pb + n ≤ s.size ∧ RRd w0 s rp (pb + n) L false lv wr ∧ Mod (fun x => x = rp) W wr) (fun _ s5 _ => 19 - (intOf s5).toNat)
  case atStart => exact ⟨0, 0, by omega, rfl, rfl, rfl, by decide, HPL.out, HO.out, HM.out⟩
  case round =>
    obtain ⟨n, x, hn, rfl, rfl, hr, hx, hle, hbr, hmr⟩ := hrel
    have hx19 : x < 10000000000000000000 := Nat.lt_of_lt_of_le hx (by
      have := Nat.pow_le_pow_right (n := 10) (by decide) hn
      have e : (10 : Nat) ^ 19 = 10000000000000000000 := by decide
      omega)
    have HX := Lib.hid hx
    have HR := Lib.hid hr
    have HBR := Lib.hid hbr
    have HMR := Lib.hid hmr
    have c0 := hbr.box.cell (i := 0) rfl
    have c1 := hbr.box.cell (i := 1) rfl
    have f1 := hbr.box.free 1
    clear hx hr hbr hmr HO HM
    obtain ⟨P, HP⟩ : ∃ P, Hid (pb + n = P) := ⟨_, rfl⟩
    rw [HP.out] at HR HBR c1 hle
    by_cases hall : (P < s.size ∧ 48 ≤ bAt s P ∧ bAt s P ≤ 57) ∧ n < 19
    · obtain ⟨⟨h1, h2, h3⟩, h4⟩ := hall
      have hix := run_idx s P h1
      obtain ⟨d, HD⟩ : ∃ d, Hid (bAt s P = 48 + d) := ⟨bAt s P - 48, by show _ = _; omega⟩
      have hd9 : d ≤ 9 := by have := HD.out; omega
      have HR2 : Hid (rDig s.data.toList (19 - (n + 1)) (pb + (n + 1)) (10 * x + d) = rDig s.data.toList 19 pb 0) := by
        have e := rDig_go (k := 19 - (n + 1)) (x := x) (isD_iff.2 ⟨h1, h2, h3⟩) HD.out
        rw [show 19 - (n + 1) + 1 = 19 - n by omega] at e
        have e2 := HR.out
        rw [e, show P + 1 = pb + (n + 1) by have := HP.out; omega] at e2
        exact e2
      have HX2 : Hid (10 * x + d < 10 ^ (n + 1)) := by have := HX.out; show _ < _; rw [Nat.pow_succ]; omega
      have HBR2 : Hid (RRd w0 s rp (pb + (n + 1)) L false lv (wr.setCell ⟨rp, 1, none⟩ (.int .i64 ((P + 1 : Nat) : Int)))) := by
        have := HBR.out.at_ (P + 1)
        rw [show RRd w0 s rp (pb + (n + 1)) L false lv = RRd w0 s rp (P + 1) L false lv by rw [← HP.out, Nat.add_assoc]]
        exact this
      have HMR2 : Hid (Mod (fun x => x = rp) W (wr.setCell ⟨rp, 1, none⟩ (.int .i64 ((P + 1 : Nat) : Int)))) := Mod.setCell HMR.out ⟨rp, 1, none⟩ (fun _ => rfl) _
      have hle2 : pb + (n + 1) ≤ s.size := by have := HP.out; omega
      generalize bAt s P = c at *
      have t1 : decide ((P : Int) < (s.size : Int)) = true := decide_eq_true (by omega)
      have t1' : decide (P < s.size) = true := decide_eq_true h1
      have t2 : decide ((48 : Int) ≤ (c : Int)) = true := decide_eq_true (by omega)
      have t2' : decide (48 ≤ c) = true := decide_eq_true h2
      have t3 : decide ((c : Int) ≤ 57) = true := decide_eq_true (by omega)
      have t3' : decide (c ≤ 57) = true := decide_eq_true h3
      have t4 : decide ((n : Int) < 19) = true := decide_eq_true (by omega)
      have t4' : decide (n < 19) = true := decide_eq_true h4
      have v1 : IntKind.u64.wrap (10 * (x : Int)) = 10 * (x : Int) := IntWalk.u64_in _ (by
        have := HX2.out
        have e := Nat.pow_le_pow_right (n := 10) (by decide) (show n + 1 ≤ 19 by omega)
        have e2 : (10 : Nat) ^ 19 = 10000000000000000000 := by decide
        omega)
      have v2 : IntKind.u8.wrap ((c : Int) - 48) = (d : Int) := (IntWalk.u8_in _ (by have := HD.out; omega)).trans (by have := HD.out; omega)
      have v3 : IntKind.u64.wrap (d : Int) = (d : Int) := IntWalk.u64_in _ (by omega)
      have v4 : IntKind.u64.wrap (10 * (x : Int) + (d : Int)) = ((10 * x + d : Nat) : Int) := (IntWalk.u64_in _ (by
        have := HX2.out
        have e := Nat.pow_le_pow_right (n := 10) (by decide) (show n + 1 ≤ 19 by omega)
        have e2 : (10 : Nat) ^ 19 = 10000000000000000000 := by decide
        omega)).trans (by omega)
      have v5 : IntKind.i64.wrap ((P : Int) + 1) = ((P + 1 : Nat) : Int) := (IntWalk.i64_in _ (by omega)).trans (by omega)
      have v6 : IntKind.i64.wrap ((n : Int) + 1) = ((n + 1 : Nat) : Int) := (IntWalk.i64_in _ (by omega)).trans (by omega)
      clear h1 h2 h3 hle hx19 HR HX HBR HMR HPL
      go_wp2_with fail
      go_quiet (fail)
      have c0' : (wr.drewN nq).cell? ⟨rp, 0, none⟩ = some (.string s) := c0
      have c1' : (wr.drewN nq).cell? ⟨rp, 1, none⟩ = some (.int .i64 (P : Int)) := c1
      have f1' : (wr.drewN nq).frozen? ⟨rp, 1, none⟩ = false := f1
      have HBR3 : Hid (RRd w0 s rp (pb + (n + 1)) L false lv ((wr.drewN nq).setCell ⟨rp, 1, none⟩ (.int .i64 ((P + 1 : Nat) : Int)))) := HBR2.out.draws nq
      have HMR3 : Hid (Mod (fun x => x = rp) W ((wr.drewN nq).setCell ⟨rp, 1, none⟩ (.int .i64 ((P + 1 : Nat) : Int)))) := mod_draws HMR2.out nq
      generalize wr.drewN nq = w7 at *
      clear c0 c1 f1 HBR2 HMR2
      go_wp2_with fail
      go_quiet (fail)
      have HBR4 := Lib.hid (HBR3.out.draws nq)
      have HMR4 := Lib.hid (mod_draws HMR3.out nq)
      have c0 : (w7.drewN nq).cell? ⟨rp, 0, none⟩ = some (.string s) := c0'
      have c1 : (w7.drewN nq).cell? ⟨rp, 1, none⟩ = some (.int .i64 (P : Int)) := c1'
      have f1 : (w7.drewN nq).frozen? ⟨rp, 1, none⟩ = false := f1'
      generalize w7.drewN nq = w8 at *
      clear c0' c1' f1' HBR3 HMR3
      go_wp2_with fail
      go_roundw
      case rel => exact ⟨n + 1, 10 * x + d, by omega, rfl, rfl, HR2.out, HX2.out, hle2, HBR4.out, HMR4.out⟩
      case measure => simp [intOf]; omega
    · have HEND : Hid (rDig s.data.toList 19 pb 0 = (x, pb + n)) := by
        have e : rDig s.data.toList (19 - n) P x = (x, P) := by
          refine rDig_stop ?_
          by_cases h4 : n < 19
          · exact .inr fun hd => hall ⟨isD_iff.1 hd, h4⟩
          · exact .inl (by omega)
        show _ = _
        rw [← HR.out, e, HP.out]
      have HN2 := Lib.hid (HNUM.out n x HEND.out)
      clear HNUM HEND HR HX HPL
      rw [HP.out] at HN2
      clear HP
      have hfour : ¬ P < s.size ∨ (P < s.size ∧ ¬ 48 ≤ bAt s P) ∨ (P < s.size ∧ 48 ≤ bAt s P ∧ ¬ bAt s P ≤ 57) ∨ (P < s.size ∧ 48 ≤ bAt s P ∧ bAt s P ≤ 57 ∧ ¬ n < 19) := by
        clear HN2 HBR HMR c0 c1 f1
        by_cases h1 : P < s.size
        · by_cases h2 : 48 ≤ bAt s P
          · by_cases h3 : bAt s P ≤ 57
            · by_cases h4 : n < 19
              · exact (hall ⟨⟨h1, h2, h3⟩, h4⟩).elim
              · exact .inr (.inr (.inr ⟨h1, h2, h3, h4⟩))
            · exact .inr (.inr (.inl ⟨h1, h2, h3⟩))
          · exact .inr (.inl ⟨h1, h2⟩)
        · exact .inl h1
      clear hall
      have HF := Lib.hid (HBR.out.fail true)
      have HMF : Hid (Mod (fun x => x = rp) W (wr.setCell ⟨rp, 3, none⟩ (.bool true))) := Mod.setCell HMR.out ⟨rp, 3, none⟩ (fun _ => rfl) _
      have c3 := HBR.out.box.cell (i := 3) rfl
      have f3 := HBR.out.box.free 3
      rcases hfour with h1 | ⟨h1, h2⟩ | ⟨h1, h2, h3⟩ | ⟨h1, h2, h3, h4⟩
      · have t1 : decide ((P : Int) < (s.size : Int)) = false := decide_eq_false (by omega)
        have t1' : decide (P < s.size) = false := decide_eq_false h1
        clear h1
        go_wp2_with fail
        go_quiet (fail)
        have HB7 := Lib.hid (HBR.out.drewN nq)
        have HM7 := Lib.hid (HMR.out.drewN nq)
        have HF7 := Lib.hid (HF.out.draws nq)
        have HMF7 := Lib.hid (mod_draws HMF.out nq)
        replace c3 : (wr.drewN nq).cell? ⟨rp, 3, none⟩ = some (.bool false) := c3
        replace f3 : (wr.drewN nq).frozen? ⟨rp, 3, none⟩ = false := f3
        generalize wr.drewN nq = w7 at *
        clear HBR HMR HF HMF
        by_cases n0 : n = 0
        · subst n0
          have HN3 : Hid (rNum s.data.toList p = none) := by
            show _ = _
            rw [HN2.out, if_pos]
            unfold nBad
            rfl
          clear HN2
          cases below with
          | true =>
            go_wp2_with fail
            go_ret
            exact ⟨_, P, true, rfl, HF7.out, HMF7.out, hle, .inr ⟨HN3.out, rfl, rfl⟩⟩
          | false =>
            go_wp2_with fail
            go_ret
            exact ⟨_, P, true, rfl, HF7.out, HMF7.out, hle, .inr ⟨HN3.out, rfl, rfl⟩⟩
        · have u1 : ((n : Int) == 0) = false := by simp; exact n0
          have u2 : decide ((n : Int) = 0) = false := decide_eq_false (by omega)
          have u3 : decide (n = 0) = false := decide_eq_false n0
          have u4 : (n == 0) = false := by simp; exact n0
          have HBD : Hid (nBad below n x = ((!below && decide (9223372036854775807 < x)) || (below && decide (9223372036854775808 < x)))) := by
            show _ = _
            unfold nBad
            rw [u3, Bool.false_or]
          clear n0
          cases below with
          | true =>
            by_cases hb : 9223372036854775808 < x
            · have u5 : decide ((9223372036854775808 : Int) < (x : Int)) = true := decide_eq_true (by omega)
              have u6 : decide (9223372036854775808 < x) = true := decide_eq_true hb
              have HN3 : Hid (rNum s.data.toList p = none) := by
                show _ = _
                rw [HN2.out, if_pos]
                rw [HBD.out, u6]
                rfl
              clear HN2 HBD hb
              go_wp2_with fail
              go_ret
              exact ⟨_, P, true, rfl, HF7.out, HMF7.out, hle, .inr ⟨HN3.out, rfl, rfl⟩⟩
            · have u5 : decide ((9223372036854775808 : Int) < (x : Int)) = false := decide_eq_false (by omega)
              have u6 : decide (9223372036854775808 < x) = false := decide_eq_false hb
              have HN3 : Hid (rNum s.data.toList p = some (-(x : Int), P)) := by
                show _ = _
                rw [HN2.out, if_neg, if_pos rfl]
                rw [HBD.out, u6]
                simp
              have u7 : IntKind.i64.wrap (IntKind.u64.wrap (-(x : Int))) = -(x : Int) := neg_wrap (by omega)
              clear HN2 HBD hb
              go_wp2_with fail
              go_ret
              exact ⟨_, P, false, rfl, HB7.out, HM7.out, hle, .inl ⟨HN3.out, rfl⟩⟩
          | false =>
            by_cases hb : 9223372036854775807 < x
            · have u5 : decide ((9223372036854775807 : Int) < (x : Int)) = true := decide_eq_true (by omega)
              have u6 : decide (9223372036854775807 < x) = true := decide_eq_true hb
              have HN3 : Hid (rNum s.data.toList p = none) := by
                show _ = _
                rw [HN2.out, if_pos]
                rw [HBD.out, u6]
                rfl
              clear HN2 HBD hb
              go_wp2_with fail
              go_ret
              exact ⟨_, P, true, rfl, HF7.out, HMF7.out, hle, .inr ⟨HN3.out, rfl, rfl⟩⟩
            · have u5 : decide ((9223372036854775807 : Int) < (x : Int)) = false := decide_eq_false (by omega)
              have u6 : decide (9223372036854775807 < x) = false := decide_eq_false hb
              have HN3 : Hid (rNum s.data.toList p = some ((x : Int), P)) := by
                show _ = _
                rw [HN2.out, if_neg, if_neg (by decide)]
                rw [HBD.out, u6]
                simp
              have u7 : IntKind.i64.wrap (x : Int) = (x : Int) := IntWalk.i64_in _ (by omega)
              clear HN2 HBD hb
              go_wp2_with fail
              go_ret
              exact ⟨_, P, false, rfl, HB7.out, HM7.out, hle, .inl ⟨HN3.out, rfl⟩⟩
      · have hix := run_idx s P h1
        generalize bAt s P = c at *
        have t1 : decide ((P : Int) < (s.size : Int)) = true := decide_eq_true (by omega)
        have t1' : decide (P < s.size) = true := decide_eq_true h1
        have t2 : decide ((48 : Int) ≤ (c : Int)) = false := decide_eq_false (by omega)
        have t2' : decide (48 ≤ c) = false := decide_eq_false h2
        clear h1 h2
        go_wp2_with fail
        go_quiet (fail)
        have HB7 := Lib.hid (HBR.out.drewN nq)
        have HM7 := Lib.hid (HMR.out.drewN nq)
        have HF7 := Lib.hid (HF.out.draws nq)
        have HMF7 := Lib.hid (mod_draws HMF.out nq)
        replace c3 : (wr.drewN nq).cell? ⟨rp, 3, none⟩ = some (.bool false) := c3
        replace f3 : (wr.drewN nq).frozen? ⟨rp, 3, none⟩ = false := f3
        generalize wr.drewN nq = w7 at *
        clear HBR HMR HF HMF
        by_cases n0 : n = 0
        · subst n0
          have HN3 : Hid (rNum s.data.toList p = none) := by
            show _ = _
            rw [HN2.out, if_pos]
            unfold nBad
            rfl
          clear HN2
          cases below with
          | true =>
            go_wp2_with fail
            go_ret
            exact ⟨_, P, true, rfl, HF7.out, HMF7.out, hle, .inr ⟨HN3.out, rfl, rfl⟩⟩
          | false =>
            go_wp2_with fail
            go_ret
            exact ⟨_, P, true, rfl, HF7.out, HMF7.out, hle, .inr ⟨HN3.out, rfl, rfl⟩⟩
        · have u1 : ((n : Int) == 0) = false := by simp; exact n0
          have u2 : decide ((n : Int) = 0) = false := decide_eq_false (by omega)
          have u3 : decide (n = 0) = false := decide_eq_false n0
          have u4 : (n == 0) = false := by simp; exact n0
          have HBD : Hid (nBad below n x = ((!below && decide (9223372036854775807 < x)) || (below && decide (9223372036854775808 < x)))) := by
            show _ = _
            unfold nBad
            rw [u3, Bool.false_or]
          clear n0
          cases below with
          | true =>
            by_cases hb : 9223372036854775808 < x
            · have u5 : decide ((9223372036854775808 : Int) < (x : Int)) = true := decide_eq_true (by omega)
              have u6 : decide (9223372036854775808 < x) = true := decide_eq_true hb
              have HN3 : Hid (rNum s.data.toList p = none) := by
                show _ = _
                rw [HN2.out, if_pos]
                rw [HBD.out, u6]
                rfl
              clear HN2 HBD hb
              go_wp2_with fail
              go_ret
              exact ⟨_, P, true, rfl, HF7.out, HMF7.out, hle, .inr ⟨HN3.out, rfl, rfl⟩⟩
            · have u5 : decide ((9223372036854775808 : Int) < (x : Int)) = false := decide_eq_false (by omega)
              have u6 : decide (9223372036854775808 < x) = false := decide_eq_false hb
              have HN3 : Hid (rNum s.data.toList p = some (-(x : Int), P)) := by
                show _ = _
                rw [HN2.out, if_neg, if_pos rfl]
                rw [HBD.out, u6]
                simp
              have u7 : IntKind.i64.wrap (IntKind.u64.wrap (-(x : Int))) = -(x : Int) := neg_wrap (by omega)
              clear HN2 HBD hb
              go_wp2_with fail
              go_ret
              exact ⟨_, P, false, rfl, HB7.out, HM7.out, hle, .inl ⟨HN3.out, rfl⟩⟩
          | false =>
            by_cases hb : 9223372036854775807 < x
            · have u5 : decide ((9223372036854775807 : Int) < (x : Int)) = true := decide_eq_true (by omega)
              have u6 : decide (9223372036854775807 < x) = true := decide_eq_true hb
              have HN3 : Hid (rNum s.data.toList p = none) := by
                show _ = _
                rw [HN2.out, if_pos]
                rw [HBD.out, u6]
                rfl
              clear HN2 HBD hb
              go_wp2_with fail
              go_ret
              exact ⟨_, P, true, rfl, HF7.out, HMF7.out, hle, .inr ⟨HN3.out, rfl, rfl⟩⟩
            · have u5 : decide ((9223372036854775807 : Int) < (x : Int)) = false := decide_eq_false (by omega)
              have u6 : decide (9223372036854775807 < x) = false := decide_eq_false hb
              have HN3 : Hid (rNum s.data.toList p = some ((x : Int), P)) := by
                show _ = _
                rw [HN2.out, if_neg, if_neg (by decide)]
                rw [HBD.out, u6]
                simp
              have u7 : IntKind.i64.wrap (x : Int) = (x : Int) := IntWalk.i64_in _ (by omega)
              clear HN2 HBD hb
              go_wp2_with fail
              go_ret
              exact ⟨_, P, false, rfl, HB7.out, HM7.out, hle, .inl ⟨HN3.out, rfl⟩⟩
      · have hix := run_idx s P h1
        generalize bAt s P = c at *
        have t1 : decide ((P : Int) < (s.size : Int)) = true := decide_eq_true (by omega)
        have t1' : decide (P < s.size) = true := decide_eq_true h1
        have t2 : decide ((48 : Int) ≤ (c : Int)) = true := decide_eq_true (by omega)
        have t2' : decide (48 ≤ c) = true := decide_eq_true h2
        have t3 : decide ((c : Int) ≤ 57) = false := decide_eq_false (by omega)
        have t3' : decide (c ≤ 57) = false := decide_eq_false h3
        clear h1 h2 h3
        go_wp2_with fail
        go_quiet (fail)
        have HB7 := Lib.hid (HBR.out.drewN nq)
        have HM7 := Lib.hid (HMR.out.drewN nq)
        have HF7 := Lib.hid (HF.out.draws nq)
        have HMF7 := Lib.hid (mod_draws HMF.out nq)
        replace c3 : (wr.drewN nq).cell? ⟨rp, 3, none⟩ = some (.bool false) := c3
        replace f3 : (wr.drewN nq).frozen? ⟨rp, 3, none⟩ = false := f3
        generalize wr.drewN nq = w7 at *
        clear HBR HMR HF HMF
        by_cases n0 : n = 0
        · subst n0
          have HN3 : Hid (rNum s.data.toList p = none) := by
            show _ = _
            rw [HN2.out, if_pos]
            unfold nBad
            rfl
          clear HN2
          cases below with
          | true =>
            go_wp2_with fail
            go_ret
            exact ⟨_, P, true, rfl, HF7.out, HMF7.out, hle, .inr ⟨HN3.out, rfl, rfl⟩⟩
          | false =>
            go_wp2_with fail
            go_ret
            exact ⟨_, P, true, rfl, HF7.out, HMF7.out, hle, .inr ⟨HN3.out, rfl, rfl⟩⟩
        · have u1 : ((n : Int) == 0) = false := by simp; exact n0
          have u2 : decide ((n : Int) = 0) = false := decide_eq_false (by omega)
          have u3 : decide (n = 0) = false := decide_eq_false n0
          have u4 : (n == 0) = false := by simp; exact n0
          have HBD : Hid (nBad below n x = ((!below && decide (9223372036854775807 < x)) || (below && decide (9223372036854775808 < x)))) := by
            show _ = _
            unfold nBad
            rw [u3, Bool.false_or]
          clear n0
          cases below with
          | true =>
            by_cases hb : 9223372036854775808 < x
            · have u5 : decide ((9223372036854775808 : Int) < (x : Int)) = true := decide_eq_true (by omega)
              have u6 : decide (9223372036854775808 < x) = true := decide_eq_true hb
              have HN3 : Hid (rNum s.data.toList p = none) := by
                show _ = _
                rw [HN2.out, if_pos]
                rw [HBD.out, u6]
                rfl
              clear HN2 HBD hb
              go_wp2_with fail
              go_ret
              exact ⟨_, P, true, rfl, HF7.out, HMF7.out, hle, .inr ⟨HN3.out, rfl, rfl⟩⟩
            · have u5 : decide ((9223372036854775808 : Int) < (x : Int)) = false := decide_eq_false (by omega)
              have u6 : decide (9223372036854775808 < x) = false := decide_eq_false hb
              have HN3 : Hid (rNum s.data.toList p = some (-(x : Int), P)) := by
                show _ = _
                rw [HN2.out, if_neg, if_pos rfl]
                rw [HBD.out, u6]
                simp
              have u7 : IntKind.i64.wrap (IntKind.u64.wrap (-(x : Int))) = -(x : Int) := neg_wrap (by omega)
              clear HN2 HBD hb
              go_wp2_with fail
              go_ret
              exact ⟨_, P, false, rfl, HB7.out, HM7.out, hle, .inl ⟨HN3.out, rfl⟩⟩
          | false =>
            by_cases hb : 9223372036854775807 < x
            · have u5 : decide ((9223372036854775807 : Int) < (x : Int)) = true := decide_eq_true (by omega)
              have u6 : decide (9223372036854775807 < x) = true := decide_eq_true hb
              have HN3 : Hid (rNum s.data.toList p = none) := by
                show _ = _
                rw [HN2.out, if_pos]
                rw [HBD.out, u6]
                rfl
              clear HN2 HBD hb
              go_wp2_with fail
              go_ret
              exact ⟨_, P, true, rfl, HF7.out, HMF7.out, hle, .inr ⟨HN3.out, rfl, rfl⟩⟩
            · have u5 : decide ((9223372036854775807 : Int) < (x : Int)) = false := decide_eq_false (by omega)
              have u6 : decide (9223372036854775807 < x) = false := decide_eq_false hb
              have HN3 : Hid (rNum s.data.toList p = some ((x : Int), P)) := by
                show _ = _
                rw [HN2.out, if_neg, if_neg (by decide)]
                rw [HBD.out, u6]
                simp
              have u7 : IntKind.i64.wrap (x : Int) = (x : Int) := IntWalk.i64_in _ (by omega)
              clear HN2 HBD hb
              go_wp2_with fail
              go_ret
              exact ⟨_, P, false, rfl, HB7.out, HM7.out, hle, .inl ⟨HN3.out, rfl⟩⟩
      · have hix := run_idx s P h1
        generalize bAt s P = c at *
        have t1 : decide ((P : Int) < (s.size : Int)) = true := decide_eq_true (by omega)
        have t1' : decide (P < s.size) = true := decide_eq_true h1
        have t2 : decide ((48 : Int) ≤ (c : Int)) = true := decide_eq_true (by omega)
        have t2' : decide (48 ≤ c) = true := decide_eq_true h2
        have t3 : decide ((c : Int) ≤ 57) = true := decide_eq_true (by omega)
        have t3' : decide (c ≤ 57) = true := decide_eq_true h3
        have t4 : decide ((n : Int) < 19) = false := decide_eq_false (by omega)
        have t4' : decide (n < 19) = false := decide_eq_false h4
        clear h1 h2 h3 h4
        go_wp2_with fail
        go_quiet (fail)
        have HB7 := Lib.hid (HBR.out.drewN nq)
        have HM7 := Lib.hid (HMR.out.drewN nq)
        have HF7 := Lib.hid (HF.out.draws nq)
        have HMF7 := Lib.hid (mod_draws HMF.out nq)
        replace c3 : (wr.drewN nq).cell? ⟨rp, 3, none⟩ = some (.bool false) := c3
        replace f3 : (wr.drewN nq).frozen? ⟨rp, 3, none⟩ = false := f3
        generalize wr.drewN nq = w7 at *
        clear HBR HMR HF HMF
        by_cases n0 : n = 0
        · subst n0
          have HN3 : Hid (rNum s.data.toList p = none) := by
            show _ = _
            rw [HN2.out, if_pos]
            unfold nBad
            rfl
          clear HN2
          cases below with
          | true =>
            go_wp2_with fail
            go_ret
            exact ⟨_, P, true, rfl, HF7.out, HMF7.out, hle, .inr ⟨HN3.out, rfl, rfl⟩⟩
          | false =>
            go_wp2_with fail
            go_ret
            exact ⟨_, P, true, rfl, HF7.out, HMF7.out, hle, .inr ⟨HN3.out, rfl, rfl⟩⟩
        · have u1 : ((n : Int) == 0) = false := by simp; exact n0
          have u2 : decide ((n : Int) = 0) = false := decide_eq_false (by omega)
          have u3 : decide (n = 0) = false := decide_eq_false n0
          have u4 : (n == 0) = false := by simp; exact n0
          have HBD : Hid (nBad below n x = ((!below && decide (9223372036854775807 < x)) || (below && decide (9223372036854775808 < x)))) := by
            show _ = _
            unfold nBad
            rw [u3, Bool.false_or]
          clear n0
          cases below with
          | true =>
            by_cases hb : 9223372036854775808 < x
            · have u5 : decide ((9223372036854775808 : Int) < (x : Int)) = true := decide_eq_true (by omega)
              have u6 : decide (9223372036854775808 < x) = true := decide_eq_true hb
              have HN3 : Hid (rNum s.data.toList p = none) := by
                show _ = _
                rw [HN2.out, if_pos]
                rw [HBD.out, u6]
                rfl
              clear HN2 HBD hb
              go_wp2_with fail
              go_ret
              exact ⟨_, P, true, rfl, HF7.out, HMF7.out, hle, .inr ⟨HN3.out, rfl, rfl⟩⟩
            · have u5 : decide ((9223372036854775808 : Int) < (x : Int)) = false := decide_eq_false (by omega)
              have u6 : decide (9223372036854775808 < x) = false := decide_eq_false hb
              have HN3 : Hid (rNum s.data.toList p = some (-(x : Int), P)) := by
                show _ = _
                rw [HN2.out, if_neg, if_pos rfl]
                rw [HBD.out, u6]
                simp
              have u7 : IntKind.i64.wrap (IntKind.u64.wrap (-(x : Int))) = -(x : Int) := neg_wrap (by omega)
              clear HN2 HBD hb
              go_wp2_with fail
              go_ret
              exact ⟨_, P, false, rfl, HB7.out, HM7.out, hle, .inl ⟨HN3.out, rfl⟩⟩
          | false =>
            by_cases hb : 9223372036854775807 < x
            · have u5 : decide ((9223372036854775807 : Int) < (x : Int)) = true := decide_eq_true (by omega)
              have u6 : decide (9223372036854775807 < x) = true := decide_eq_true hb
              have HN3 : Hid (rNum s.data.toList p = none) := by
                show _ = _
                rw [HN2.out, if_pos]
                rw [HBD.out, u6]
                rfl
              clear HN2 HBD hb
              go_wp2_with fail
              go_ret
              exact ⟨_, P, true, rfl, HF7.out, HMF7.out, hle, .inr ⟨HN3.out, rfl, rfl⟩⟩
            · have u5 : decide ((9223372036854775807 : Int) < (x : Int)) = false := decide_eq_false (by omega)
              have u6 : decide (9223372036854775807 < x) = false := decide_eq_false hb
              have HN3 : Hid (rNum s.data.toList p = some ((x : Int), P)) := by
                show _ = _
                rw [HN2.out, if_neg, if_neg (by decide)]
                rw [HBD.out, u6]
                simp
              have u7 : IntKind.i64.wrap (x : Int) = (x : Int) := IntWalk.i64_in _ (by omega)
              clear HN2 HBD hb
              go_wp2_with fail
              go_ret
              exact ⟨_, P, false, rfl, HB7.out, HM7.out, hle, .inl ⟨HN3.out, rfl⟩⟩

end Go.Proofs.YthacjealoomioaaGreatDoor

/- The reference's reader of texts: part. -/
namespace Go.Proofs.YthacjealoomioaaGreatDoor
set_option linter.unusedVariables false
set_option linter.unusedSimpArgs false
open Go.RowKit

theorem Tryz.infoPart : (Tryz.prog.info? 140).map (fun i => (i.zero, i.size, i.bytes)) = some (some (.agg #[.int .i64 0, .int .i64 0, .int .i64 0, .int .i64 0]), 4, 32) := by kernel_rfl
theorem callNum : ∀ args w, (callFunc 82 args).run Tryz.prog w = .ok (.enter 82 args) w := enters_of Tryz.func82 (by kernel_rfl) rfl

/-- A part more. -/
theorem RRd.push {w0 : World} {s : ByteArray} {rp p : Nat} {L : List Pt} {fl : Bool} {lv z : Value} {W W1 W2 : World} (h : RRd w0 s rp p L fl lv W) (q : Pt) (h1 : Below W.heap.size W W1) (ho : W2.ownsRow 0 140 4 z (L.length + 1) (ptCells L ++ [.int .i64 q.leaf, .int .i64 q.left, .int .i64 q.right, .int .i64 q.h])) (hg : W1.grownBy W2 lv.ownBlock) (hn : ∀ k, z.ownBlock = some k → lv.ownBlock = some k ∨ W1.heap.size ≤ k) :
    (W2.cell? ⟨rp, 2, none⟩ = some lv ∧ W2.frozen? ⟨rp, 2, none⟩ = false) ∧ RRd w0 s rp p (L ++ [q]) fl z (W2.setCell ⟨rp, 2, none⟩ z) := by
  have hs := h.bel.size
  have hs1 := h1.size
  have hM : Mod (fun k => lv.ownBlock = some k) W W2 := (Mod.of_below (F := fun k => lv.ownBlock = some k) h1).grown hg (fun k e _ => e)
  have hb := hM.below hs (fun x e => owns_ge h.row x e)
  have b := h.box.mod hM (fun e => owns_ne_blk h.row h.box (by decide) e)
  have ho2 : W2.ownsRow w0.heap.size 140 4 z (L ++ [q]).length (ptCells (L ++ [q])) := by
    rw [pt_snoc, List.length_append]
    exact owns_at ho (fun k hk => by
      rcases hn k hk with e | e
      · exact owns_ge h.row k e
      · omega)
  exact ⟨⟨b.cell (i := 2) rfl, b.free 2⟩, b.set 2 z, owns_other ho2 b (by decide) 2 z, bel_mod (h.bel.trans hb) (Mod.setCell (Mod.refl (fun x => x = rp) W2) ⟨rp, 2, none⟩ (fun _ => rfl) z) (fun x e => by rw [e]; exact h.new), h.new⟩

/-- What number says. -/
def NmS (s : ByteArray) (p : Nat) (h : Int) (q : Nat) (fl : Bool) : Prop := q ≤ s.size ∧ (rNum s.data.toList p = some (h, q) ∧ fl = false ∨ rNum s.data.toList p = none ∧ fl = true)
def NmAt (w0 : World) (s : ByteArray) (rp p : Nat) (L : List Pt) (lv v : Value) (W : World) : Prop := ∃ (h : Int) (q : Nat) (fl : Bool), v = .int .i64 h ∧ RRd w0 s rp q L fl lv W ∧ NmS s p h q fl
def PtE (w0 : World) (s : ByteArray) (rp p : Nat) (L : List Pt) (a b : Int) (v z : Value) (W : World) : Prop := ∃ (h : Int) (q : Nat) (fl : Bool), v = .int .i64 h ∧ RRd w0 s rp q (L ++ [⟨-1, a, b, h⟩]) fl z W ∧ NmS s p h q fl
def PtF (w0 : World) (s : ByteArray) (rp p : Nat) (L : List Pt) (lv : Value) (a b : Int) (v z : Value) (W : World) : Prop := (W.cell? ⟨rp, 2, none⟩ = some lv ∧ W.frozen? ⟨rp, 2, none⟩ = false ∧ (∃ o n c, z = .slice o n c)) ∧ PtE w0 s rp p L a b v z (W.setCell ⟨rp, 2, none⟩ z)
/-- The last statement of part, stage by stage. -/
def PtG (w0 : World) (s : ByteArray) (rp p : Nat) (L : List Pt) (lv : Value) (a b : Int) (wr : World) (ys : List Value) (W : World) : Prop :=
  match ys with
  | [] => W = wr.drew
  | [v] => NmAt w0 s rp p L lv v W
  | [v, g] => NmAt w0 s rp p L lv v W ∧ g = .agg #[.int .i64 (-1), .int .i64 a, .int .i64 b, v]
  | [v, _, y] => ∃ V, NmAt w0 s rp p L lv v V ∧ y = .slice (some ⟨V.heap.size, 0, none⟩) 1 1 ∧ W = V.alloc (.cells #[.int .i64 (-1), .int .i64 a, .int .i64 b, v] 140)
  | [v, _, _, z] => PtF w0 s rp p L lv a b v z W
  | [v, _, _, z, pp] => PtF w0 s rp p L lv a b v z W ∧ pp = .pointer (some ⟨rp, 0, none⟩)
  | [v, _, _, z, _, qq] => PtF w0 s rp p L lv a b v z W ∧ qq = .pointer (some ⟨rp, 2, none⟩)
  | [v, _, _, z, _, _, _] => PtE w0 s rp p L a b v z W
  | _ => False
theorem PtG.cell {w0 : World} {s : ByteArray} {rp p : Nat} {L : List Pt} {lv : Value} {a b : Int} {wr : World} {ys : List Value} {W : World} (h : PtG w0 s rp p L lv a b wr ys W) (hy : ys.length ≤ 3) (h0 : wr.cell? ⟨rp, 2, none⟩ = some lv) : W.cell? ⟨rp, 2, none⟩ = some lv := by
  match ys, h with
  | [], h => rw [show W = wr.drew from h]; exact h0
  | [v], ⟨_, _, _, _, h, _⟩ => exact h.box.cell (i := 2) rfl
  | [v, g], ⟨⟨_, _, _, _, h, _⟩, _⟩ => exact h.box.cell (i := 2) rfl
  | [v, g, y], ⟨V, ⟨_, _, _, _, h, _⟩, _, e⟩ => rw [e]; exact (h.box.alloc _).cell (i := 2) rfl
  | _ :: _ :: _ :: _ :: _, h => simp at hy

/-- An operation that calls. -/
theorem wp_callD {P : Program} {o : Oper} {a : Act} {w : World} {f : FuncId} {args : Array Value} {K : Act → World → Prop} {F : Exit → Act → World → Prop} (h : (execOp a.eval o).run P w = .ok (.enter f args) w) (hc : Calls P f args w (fun e w' => ∃ v, e = .returned v ∧ K (a.put o.dst v) w')) : o.wp P a w K F := by
  unfold Oper.wp
  rw [h, Oper.upon_enter]
  refine Calls.mono hc ?_
  rintro e w' ⟨v, rfl, hk⟩
  exact hk

/-- The part read at p: the result, and the reader behind it. -/
structure PtPost (w0 : World) (s : ByteArray) (rp f p : Nat) (L : List Pt) (e : Ending) (W' : World) : Prop where
  ex : ∃ (v : Int) (q : Nat) (L' : List Pt) (fl : Bool) (lv : Value), e = .returned (.int .i64 v) ∧ RRd w0 s rp q L' fl lv W' ∧ (partO s.data.toList f p L = some (q, L') ∧ fl = false ∧ v = ((L'.length - 1 : Nat) : Int) ∧ L'.length ≤ q ∧ p < q ∧ q ≤ s.size ∨ partO s.data.toList f p L = none ∧ fl = true)

theorem partO_leaf {s : List UInt8} {g p : Nat} {L : List Pt} (h : at8 s p 40 = false) : partO s (g + 1) p L = match rNum s p with | none => none | some (x, p1) => if x < 0 ∨ 4096 ≤ x then none else some (p1, L ++ [⟨x, 0, 0, 0⟩]) := by
  rw [partO, h]
  rfl
theorem partO_n1 {s : List UInt8} {g p : Nat} {L : List Pt} (h : at8 s p 40 = true) (h1 : partO s g (p + 1) L = none) : partO s (g + 1) p L = none := by
  rw [partO, h, h1]
  rfl
theorem partO_n2 {s : List UInt8} {g p p1 : Nat} {L L1 : List Pt} (h : at8 s p 40 = true) (h1 : partO s g (p + 1) L = some (p1, L1)) (h2 : at8 s p1 44 = false) : partO s (g + 1) p L = none := by
  rw [partO, h, h1]
  simp only [h2]
  rfl
theorem partO_n3 {s : List UInt8} {g p p1 : Nat} {L L1 : List Pt} (h : at8 s p 40 = true) (h1 : partO s g (p + 1) L = some (p1, L1)) (h2 : at8 s p1 44 = true) (h3 : partO s g (p1 + 1) L1 = none) : partO s (g + 1) p L = none := by
  rw [partO, h, h1]
  simp only [h2, h3]
  rfl
theorem partO_n4 {s : List UInt8} {g p p1 p2 : Nat} {L L1 L2 : List Pt} (h : at8 s p 40 = true) (h1 : partO s g (p + 1) L = some (p1, L1)) (h2 : at8 s p1 44 = true) (h3 : partO s g (p1 + 1) L1 = some (p2, L2)) (h4 : (at8 s p2 41 && at8 s (p2 + 1) 58) = false) : partO s (g + 1) p L = none := by
  rw [partO, h, h1]
  simp only [h2, h3, h4]
  rfl
theorem partO_n5 {s : List UInt8} {g p p1 p2 : Nat} {L L1 L2 : List Pt} (h : at8 s p 40 = true) (h1 : partO s g (p + 1) L = some (p1, L1)) (h2 : at8 s p1 44 = true) (h3 : partO s g (p1 + 1) L1 = some (p2, L2)) (h4 : (at8 s p2 41 && at8 s (p2 + 1) 58) = true) :
    partO s (g + 1) p L = match rNum s (p2 + 2) with | none => none | some (h, p3) => some (p3, L2 ++ [⟨-1, ((L1.length - 1 : Nat) : Int), ((L2.length - 1 : Nat) : Int), h⟩]) := by
  rw [partO, h, h1]
  simp only [h2, h3, h4]
  rfl
theorem at8_size {s : ByteArray} {p b : Nat} (h : at8 s.data.toList p b = true) : p < s.size := by
  have := (of_decide_eq_true (show decide _ = true from h)).1
  rwa [show s.data.toList.length = s.size from Array.length_toList] at this

set_option maxHeartbeats 8000000 in
set_option maxRecDepth 100000 in
theorem r22part_ok (w0 : World) (s : ByteArray) (hs : s.size ≤ 100000) : ∀ (f rp p : Nat) (L : List Pt) (lv : Value) (W : World), RRd w0 s rp p L false lv W → p ≤ s.size → s.size < f + p → L.length ≤ p →
    Calls Tryz.prog 48 #[.pointer (some ⟨rp, 0, none⟩)] W (PtPost w0 s rp f p L) := by
  intro f
  induction f with
  | zero => intro rp p L lv W h hp hf; omega
  | succ g ih =>
  intro rp p L lv W h hp hf hL
  have HIH := Lib.hid ih
  have HC := Lib.hid (r22is_ok w0 s rp p L false lv W h (by omega) (by omega) 40 40 rfl)
  obtain ⟨vb, HV⟩ : ∃ vb, Hid (at8 s.data.toList p 40 = vb) := ⟨_, rfl⟩
  rw [HV.out] at HC
  clear h ih
  go_enter Tryz.func48, Tryz.ntmps48
  cases vb with
  | false =>
    rw [if_neg (by decide)] at HC
    have HPO : Hid (partO s.data.toList (g + 1) p L = match rNum s.data.toList p with | none => none | some (x, p1) => if x < 0 ∨ 4096 ≤ x then none else some (p1, L ++ [⟨x, 0, 0, 0⟩])) := partO_leaf HV.out
    clear HV HIH
    go_wp2_with fail
    with_reducible refine HC.out.mono ?_
    rintro e W1 ⟨rfl, ho1, _⟩
    have HCN := Lib.hid (r22number_ok w0 s rp p L lv W1 ho1 hp hs)
    clear ho1 HC
    go_wp2_with fail
    with_reducible refine HCN.out.mono ?_
    rintro e W2 ⟨x, q, fl, rfl, ho2, _, hq, hsp⟩
    have HO2 := Lib.hid ho2
    have HSP := Lib.hid hsp
    have c3 := ho2.box.cell (i := 3) rfl
    have f3 := ho2.box.free 3
    have c2 := ho2.box.cell (i := 2) rfl
    have f2 := ho2.box.free 2
    obtain ⟨lo, lc, hlv⟩ := owns_slice (owns_0 ho2.row)
    subst hlv
    clear ho2 hsp HCN
    by_cases hbad : x < 0 ∨ 4096 ≤ x
    · have HN : Hid (partO s.data.toList (g + 1) p L = none) := by
        show _ = _
        rw [HPO.out]
        rcases HSP.out with ⟨e, _⟩ | ⟨e, _⟩
        · rw [e]; simp only; rw [if_pos hbad]
        · rw [e]
      have HF := Lib.hid (HO2.out.fail true)
      clear HPO HSP HO2
      by_cases hx0 : x < 0
      · have t1 : decide (x < 0) = true := decide_eq_true hx0
        clear hx0 hbad
        go_wp2_with fail
        go_ret
        exact ⟨0, q, L, true, _, rfl, HF.out, .inr ⟨HN.out, rfl⟩⟩
      · have t1 : decide (x < 0) = false := decide_eq_false hx0
        have t2 : decide (4096 ≤ x) = true := decide_eq_true (by omega)
        clear hx0 hbad
        go_wp2_with fail
        go_ret
        exact ⟨0, q, L, true, _, rfl, HF.out, .inr ⟨HN.out, rfl⟩⟩
    · have t1 : decide (x < 0) = false := decide_eq_false (by omega)
      have t2 : decide (4096 ≤ x) = false := decide_eq_false (by omega)
      have HOW := Lib.hid ((owns_0 HO2.out.row).alloc (.cells #[.int .i64 x, .int .i64 0, .int .i64 0, .int .i64 0] 140))
      have HNW := Lib.hid (news_new W2 140 [.int .i64 x, .int .i64 0, .int .i64 0, .int .i64 0])
      have HFIN : Hid (fl = false ∧ partO s.data.toList (g + 1) p L = some (q, L ++ [⟨x, 0, 0, 0⟩]) ∧ p < q ∨ fl = true ∧ partO s.data.toList (g + 1) p L = none) := by
        show _ ∨ _
        rw [HPO.out]
        rcases HSP.out with ⟨e, ef⟩ | ⟨e, ef, _⟩
        · refine .inl ⟨ef, ?_, (rNum_some e).1⟩
          rw [e]; simp only; rw [if_neg hbad]
        · refine .inr ⟨ef, ?_⟩
          rw [e]
      obtain ⟨J, HJ⟩ : ∃ J, Hid (L.length = J) := ⟨_, rfl⟩
      have hJ : J ≤ 100000 := by rw [← HJ.out]; omega
      replace c2 : W2.cell? ⟨rp, 2, none⟩ = some (.slice lo J lc) := by rw [← HJ.out]; exact c2
      clear HPO HSP hbad
      go_wp2_with (at_builtin; apply keepIt)
      apply Lib.hid
      refine wpList_appendB 140 (.agg #[.int .i64 0, .int .i64 0, .int .i64 0, .int .i64 0]) 4 32 Tryz.underlying90 Tryz.infoPart rfl (by decide) (.slice lo J lc) J (ptCells L) rfl (by rw [← HJ.out]; exact HOW.out) ⟨W2.heap.size, 0, none⟩ 1 1 [.int .i64 x, .int .i64 0, .int .i64 0, .int .i64 0] rfl rfl HNW.out (by simp [Value.oneCell']) (by unfold maxLen; omega) (by omega) ?_
      intro v' w' a1 a2 a3
      obtain ⟨zo, zc, hz⟩ := owns_slice a1
      rw [← HJ.out] at a1 a2 a3
      obtain ⟨⟨d2, e2⟩, hob⟩ := HO2.out.push ⟨x, 0, 0, 0⟩ (bel_alloc W2 _) a1 a2 a3
      subst hz
      have HO3 := Lib.hid hob
      replace d2 : w'.cell? ⟨rp, 2, none⟩ = some (.slice lo J lc) := by rw [← HJ.out]; exact d2
      have v1 : IntKind.i64.wrap ((J : Int) + 1 - 1) = (J : Int) := (IntWalk.i64_in _ (by omega)).trans (by omega)
      have v2 : ((J : Int) + 1 - 1) = (J : Int) := by omega
      have v3 : IntKind.i64.wrap (J : Int) = (J : Int) := IntWalk.i64_in _ (by omega)
      clear a1 a2 a3 hob HOW HNW c2 f2 c3 f3 HO2
      go_wp2_with fail
      go_ret
      refine ⟨(J : Int), q, L ++ [⟨x, 0, 0, 0⟩], fl, _, rfl, HO3.out, ?_⟩
      rcases HFIN.out with ⟨ef, ep, hpq⟩ | ⟨ef, ep⟩
      · refine .inl ⟨ep, ef, ?_, ?_, hpq, hq⟩
        · rw [List.length_append, HJ.out]; rfl
        · rw [List.length_append]; show L.length + 1 ≤ q; omega
      · exact .inr ⟨ep, ef⟩
  | true =>
    rw [if_pos rfl] at HC
    have hps := at8_size HV.out
    go_wp2_with fail
    with_reducible refine HC.out.mono ?_
    rintro e W1 ⟨rfl, ho1, _⟩
    have HC1 := Lib.hid (HIH.out rp (p + 1) L lv W1 ho1 (by omega) (by omega) (by omega))
    clear ho1 HC
    go_wp2_with fail
    with_reducible refine HC1.out.mono ?_
    rintro e W2 ⟨a, q1, L1, fl1, lv1, rfl, ho2, hsp⟩
    have HO2 := Lib.hid ho2
    have c3 := ho2.box.cell (i := 3) rfl
    clear ho2 HC1
    rcases hsp with ⟨hpo, rfl, hav, hl1, hpq, hq1⟩ | ⟨hpo, rfl⟩
    rotate_left
    · have HN := Lib.hid (partO_n1 HV.out hpo)
      clear hpo HV HIH
      go_wp2_with fail
      go_ret
      exact ⟨0, q1, L1, true, _, rfl, HO2.out, .inr ⟨HN.out, rfl⟩⟩
    have HPO1 := Lib.hid hpo
    have HAV := Lib.hid hav
    clear hpo hav
    have HC2 := Lib.hid (r22must_ok w0 s rp q1 L1 false lv1 W2 HO2.out (by omega) (by omega) 44 44 rfl)
    obtain ⟨vb2, HV2⟩ : ∃ vb, Hid (at8 s.data.toList q1 44 = vb) := ⟨_, rfl⟩
    rw [HV2.out] at HC2
    clear HO2
    go_wp2_with fail
    with_reducible refine HC2.out.mono ?_
    rintro e W3 ⟨rfl, ho3, _⟩
    have HO3 := Lib.hid ho3
    clear c3
    have c3 := ho3.box.cell (i := 3) rfl
    clear ho3 HC2
    cases vb2 with
    | false =>
      have HN := Lib.hid (partO_n2 HV.out HPO1.out HV2.out)
      replace c3 : W3.cell? ⟨rp, 3, none⟩ = some (.bool true) := c3
      have HO4 : Hid (RRd w0 s rp (if false = true then q1 + 1 else q1) L1 true lv1 W3) := HO3.out
      clear HV HV2 HPO1 HIH HO3
      go_wp2_with fail
      go_ret
      exact ⟨0, _, L1, true, _, rfl, HO4.out, .inr ⟨HN.out, rfl⟩⟩
    | true =>
      have hq1s := at8_size HV2.out
      replace c3 : W3.cell? ⟨rp, 3, none⟩ = some (.bool false) := c3
      have HO4 : Hid (RRd w0 s rp (q1 + 1) L1 false lv1 W3) := HO3.out
      have HC3 := Lib.hid (HIH.out rp (q1 + 1) L1 lv1 W3 HO4.out (by omega) (by omega) (by omega))
      clear HO3 HO4 HIH
      go_wp2_with fail
      with_reducible refine HC3.out.mono ?_
      rintro e W4 ⟨b, q2, L2, fl2, lv2, rfl, ho4, hsp⟩
      have HO4 := Lib.hid ho4
      clear c3
      have c3 := ho4.box.cell (i := 3) rfl
      clear ho4 HC3
      rcases hsp with ⟨hpo, rfl, hbv, hl2, hpq2, hq2⟩ | ⟨hpo, rfl⟩
      rotate_left
      · have HN := Lib.hid (partO_n3 HV.out HPO1.out HV2.out hpo)
        clear hpo HV HV2 HPO1
        go_wp2_with fail
        go_ret
        exact ⟨0, q2, L2, true, _, rfl, HO4.out, .inr ⟨HN.out, rfl⟩⟩
      have HPO2 := Lib.hid hpo
      have HBV := Lib.hid hbv
      clear hpo hbv
      have HC4 := Lib.hid (r22must_ok w0 s rp q2 L2 false lv2 W4 HO4.out (by omega) (by omega) 41 41 rfl)
      obtain ⟨vb3, HV3⟩ : ∃ vb, Hid (at8 s.data.toList q2 41 = vb) := ⟨_, rfl⟩
      rw [HV3.out] at HC4
      obtain ⟨q3, HQ3⟩ : ∃ q3, Hid ((if vb3 = true then q2 + 1 else q2) = q3) := ⟨_, rfl⟩
      rw [HQ3.out] at HC4
      have hq3 : q3 ≤ q2 + 1 := by
        have := HQ3.out
        cases vb3 <;> simp at this <;> omega
      clear HO4
      go_wp2_with fail
      with_reducible refine HC4.out.mono ?_
      rintro e W5 ⟨rfl, ho5, _⟩
      have HC5 := Lib.hid (r22must_ok w0 s rp q3 L2 (false || !vb3) lv2 W5 ho5 (by omega) (by omega) 58 58 rfl)
      obtain ⟨vb4, HV4⟩ : ∃ vb, Hid (at8 s.data.toList q3 58 = vb) := ⟨_, rfl⟩
      rw [HV4.out] at HC5
      clear ho5 HC4 c3
      go_wp2_with fail
      with_reducible refine HC5.out.mono ?_
      rintro e W6 ⟨rfl, ho6, _⟩
      have HO6 := Lib.hid ho6
      have c3 := ho6.box.cell (i := 3) rfl
      clear ho6 HC5
      cases hvv : (vb3 && vb4) with
      | false =>
        have hfl : (false || !vb3 || !vb4) = true := by cases vb3 <;> cases vb4 <;> simp_all
        have HN : Hid (partO s.data.toList (g + 1) p L = none) := partO_n4 HV.out HPO1.out HV2.out HPO2.out (by
          rw [HV3.out]
          cases vb3 with
          | false => rfl
          | true =>
            have e := HQ3.out
            rw [if_pos rfl] at e
            rw [e, HV4.out]
            exact hvv)
        rw [hfl] at c3 HO6
        clear HV HV2 HV3 HV4 HPO1 HPO2 hvv hfl
        go_wp2_with fail
        go_ret
        exact ⟨0, _, L2, true, _, rfl, HO6.out, .inr ⟨HN.out, rfl⟩⟩
      | true =>
        obtain rfl : vb3 = true := by cases vb3 <;> simp_all
        obtain rfl : vb4 = true := by cases vb4 <;> simp_all
        obtain rfl : q2 + 1 = q3 := by have e := HQ3.out; rw [if_pos rfl] at e; exact e
        have hq3s := at8_size HV4.out
        have HPO := Lib.hid (partO_n5 HV.out HPO1.out HV2.out HPO2.out (by rw [HV3.out, HV4.out]; rfl))
        replace c3 : W6.cell? ⟨rp, 3, none⟩ = some (.bool false) := c3
        have HO7 : Hid (RRd w0 s rp (q2 + 2) L2 false lv2 W6) := HO6.out
        clear HV HV2 HV3 HV4 HPO1 HPO2 hvv HO6 HQ3 hq3
        have c2 := HO7.out.box.cell (i := 2) rfl
        go_wp2_with fail
        -- ONE<
        refine wp_region_late 8 (by kernel_rfl) (by kernel_rfl) (by kernel_rfl) (by kernel_rfl) (by kernel_rfl) (fun q_ v_ => match q_ with | 0 => v_ = .pointer (some ⟨rp, 0, none⟩) | 1 => v_ = .pointer (some ⟨rp, 0, none⟩) | 2 => v_ = .pointer (some ⟨rp, 0, none⟩) | 3 => v_ = .pointer (some ⟨rp, 2, none⟩) | 4 => v_ = lv2 | 5 => v_ = .int .i64 a | 6 => v_ = .int .i64 b | 7 => v_ = .pointer (some ⟨rp, 0, none⟩) | _ => True) (PtG w0 s rp (q2 + 2) L2 lv2 a b W6) rfl ?read ?tail ?fin
        case read =>
          intro W ys o_i o AA hin hst hnd hlt hev hdep ho
          have hcs : o_i = 0 ∨ o_i = 1 ∨ o_i = 2 ∨ o_i = 3 ∨ o_i = 4 ∨ o_i = 5 ∨ o_i = 6 ∨ o_i = 7 := by omega
          rcases hcs with rfl | rfl | rfl | rfl | rfl | rfl | rfl | rfl
          · cases ho
            have f0 : AA.eval (.tmp 0) = .pointer (some ⟨rp, 0, none⟩) := hev 0 (by kernel_rfl)
            refine ⟨wanted_free rfl, wp_valD (v := .pointer (some ⟨rp, 0, none⟩)) (w' := W) (by simp only [execOp, f0]; simp [go_sem, f0]) ⟨_, rfl, rfl, rfl⟩⟩
          · cases ho
            have f0 : AA.eval (.tmp 0) = .pointer (some ⟨rp, 0, none⟩) := hev 0 (by kernel_rfl)
            refine ⟨wanted_free rfl, wp_valD (v := .pointer (some ⟨rp, 0, none⟩)) (w' := W) (by simp only [execOp, f0]; simp [go_sem, f0]) ⟨_, rfl, rfl, rfl⟩⟩
          · cases ho
            have f35 : AA.eval (.tmp 35) = .pointer (some ⟨rp, 0, none⟩) := hdep ⟨1, .data⟩ 35 (by simp) (by rfl) rfl (by simp)
            refine ⟨wanted_free rfl, wp_valD (v := .pointer (some ⟨rp, 0, none⟩)) (w' := W) (by simp only [execOp, f35]; simp [go_sem, f35]) ⟨_, rfl, rfl, rfl⟩⟩
          · cases ho
            have f36 : AA.eval (.tmp 36) = .pointer (some ⟨rp, 0, none⟩) := hdep ⟨2, .data⟩ 36 (by simp) (by rfl) rfl (by simp)
            refine ⟨wanted_free rfl, wp_valD (v := .pointer (some ⟨rp, 2, none⟩)) (w' := W) (by simp only [execOp, f36]; simp [go_sem, f36]) ⟨_, rfl, rfl, rfl⟩⟩
          · cases ho
            have f37 : AA.eval (.tmp 37) = .pointer (some ⟨rp, 2, none⟩) := hdep ⟨3, .data⟩ 37 (by simp) (by rfl) rfl (by simp)
            have hl : ys.length ≤ 3 := by
              apply Classical.byContradiction
              intro hc
              exact hnd 11 _ (by omega) (by omega) rfl ⟨4, .data⟩ (by simp) (by rfl) rfl
            have ho4 := PtG.cell hst hl c2
            refine ⟨wanted_free rfl, wp_valD (v := lv2) (w' := W) (by simp only [execOp, f37]; simp [go_sem, f37, ho4]) ⟨_, rfl, rfl, rfl⟩⟩
          · cases ho
            have f3 : AA.eval (.tmp 3) = .int .i64 a := hev 3 (by kernel_rfl)
            refine ⟨wanted_free rfl, wp_valD (v := .int .i64 a) (w' := W) (by simp only [execOp, f3]; simp [go_sem, f3]) ⟨_, rfl, rfl, rfl⟩⟩
          · cases ho
            have f4 : AA.eval (.tmp 4) = .int .i64 b := hev 4 (by kernel_rfl)
            refine ⟨wanted_free rfl, wp_valD (v := .int .i64 b) (w' := W) (by simp only [execOp, f4]; simp [go_sem, f4]) ⟨_, rfl, rfl, rfl⟩⟩
          · cases ho
            have f0 : AA.eval (.tmp 0) = .pointer (some ⟨rp, 0, none⟩) := hev 0 (by kernel_rfl)
            refine ⟨wanted_free rfl, wp_valD (v := .pointer (some ⟨rp, 0, none⟩)) (w' := W) (by simp only [execOp, f0]; simp [go_sem, f0]) ⟨_, rfl, rfl, rfl⟩⟩
        case tail =>
          intro W ys o AA hst ho hlt hev hdep
          match ys, hst, ho, hdep with
          | [], hst, ho, hdep =>
            cases ho
            have f41 : AA.eval (.tmp 41) = .pointer (some ⟨rp, 0, none⟩) := (hdep ⟨7, .data⟩ 41 (by simp) (by rfl) rfl (by simp)).1 (by decide)
            have g41 : AA.tmps[41]?.getD undef = .pointer (some ⟨rp, 0, none⟩) := by simpa [Act.eval] using f41
            have e : W = W6.drew := hst
            subst e
            refine ⟨wanted_free rfl, wp_callD (f := 82) (args := #[.pointer (some ⟨rp, 0, none⟩)]) (by simp only [execOp, resolve, invoke, f41]; simp [go_sem, f41, g41, callNum]) ?_⟩
            refine (r22number_ok w0 s rp (q2 + 2) L2 lv2 W6.drew HO7.out.drew (by omega) hs).mono ?_
            rintro e w' ⟨v, q, fl, e1, ho, _, hq, hsp⟩
            exact ⟨_, e1, _, rfl, v, q, fl, rfl, ho, hq, hsp.imp id (fun h => ⟨h.1, h.2.1⟩)⟩
          | [v], hst, ho, hdep =>
            cases ho
            obtain ⟨h, q, fl, rfl, ho, hsp⟩ := hst
            have f39 : AA.eval (.tmp 39) = .int .i64 a := (hdep ⟨5, .data⟩ 39 (by simp) (by rfl) rfl (by simp)).1 (by decide)
            have f40 : AA.eval (.tmp 40) = .int .i64 b := (hdep ⟨6, .data⟩ 40 (by simp) (by rfl) rfl (by simp)).1 (by decide)
            have f42 : AA.eval (.tmp 42) = .int .i64 h := by
              have := (hdep ⟨8, .data⟩ 42 (by simp) (by rfl) rfl (by simp)).2 0 rfl
              injection this with this
              exact this.symm
            have g39 : AA.tmps[39]?.getD undef = .int .i64 a := by simpa [Act.eval] using f39
            have g40 : AA.tmps[40]?.getD undef = .int .i64 b := by simpa [Act.eval] using f40
            have g42 : AA.tmps[42]?.getD undef = .int .i64 h := by simpa [Act.eval] using f42
            exact ⟨wanted_free rfl, wp_valD (v := .agg #[.int .i64 (-1), .int .i64 a, .int .i64 b, .int .i64 h]) (w' := W) (by simp only [execOp, f39, f40, f42, g39, g40, g42]; simp [go_sem, f39, f40, f42, g39, g40, g42]) ⟨_, rfl, ⟨h, q, fl, rfl, ho, hsp⟩, rfl⟩⟩
          | [v, g_], hst, ho, hdep =>
            cases ho
            obtain ⟨⟨h, q, fl, rfl, ho, hsp⟩, rfl⟩ := hst
            have fb : AA.eval (.tmp 43) = .agg #[.int .i64 (-1), .int .i64 a, .int .i64 b, .int .i64 h] := by
              have := (hdep ⟨9, .data⟩ 43 (by simp) (by rfl) rfl (by simp)).2 1 rfl
              injection this with this
              exact this.symm
            have gb : AA.tmps[43]?.getD undef = .agg #[.int .i64 (-1), .int .i64 a, .int .i64 b, .int .i64 h] := by simpa [Act.eval] using fb
            exact ⟨wanted_free rfl, wp_valD (v := .slice (some ⟨W.heap.size, 0, none⟩) 1 1) (w' := W.alloc (.cells #[.int .i64 (-1), .int .i64 a, .int .i64 b, .int .i64 h] 140)) (by simp only [execOp]; simp [go_sem, gb]) ⟨_, rfl, W, ⟨h, q, fl, rfl, ho, hsp⟩, rfl, rfl⟩⟩
          | [v, g_, y], hst, ho, hdep =>
            cases ho
            obtain ⟨V, ⟨h, q, fl, rfl, ho, hsp⟩, rfl, rfl⟩ := hst
            have fx : AA.eval (.tmp 38) = lv2 := (hdep ⟨4, .data⟩ 38 (by simp) (by rfl) rfl (by simp)).1 (by decide)
            have fy : AA.eval (.tmp 44) = .slice (some ⟨V.heap.size, 0, none⟩) 1 1 := by
              have := (hdep ⟨10, .data⟩ 44 (by simp) (by rfl) rfl (by simp)).2 2 rfl
              injection this with this
              exact this.symm
            refine ⟨wanted_free rfl, ?_⟩
            exact wp_apD 140 (.agg #[.int .i64 0, .int .i64 0, .int .i64 0, .int .i64 0]) 4 32 Tryz.underlying90 Tryz.infoPart rfl (by decide) _ L2.length _ fx ((owns_0 ho.row).alloc _) ⟨V.heap.size, 0, none⟩ 1 1 [.int .i64 (-1), .int .i64 a, .int .i64 b, .int .i64 h] fy rfl (news_new V 140 [.int .i64 (-1), .int .i64 a, .int .i64 b, .int .i64 h]) (by simp [Value.oneCell']) (by unfold maxLen; omega) (by omega) (fun v' w' a1 a2 a3 => by
              obtain ⟨⟨d2, e2⟩, hob⟩ := ho.push ⟨-1, a, b, h⟩ (bel_alloc V _) a1 a2 a3
              obtain ⟨zo, zc, hz⟩ := owns_slice a1
              exact ⟨v', rfl, ⟨d2, e2, zo, _, zc, hz⟩, h, q, fl, rfl, hob, hsp⟩)
          | [v, g_, y, z], hst, ho, hdep =>
            cases ho
            have fp : AA.eval (.tmp 34) = .pointer (some ⟨rp, 0, none⟩) := (hdep ⟨0, .data⟩ 34 (by simp) (by rfl) rfl (by simp)).1 (by decide)
            exact ⟨wanted_free rfl, wp_valD (v := .pointer (some ⟨rp, 0, none⟩)) (w' := W) (by simp only [execOp, fp]; simp [go_sem]) ⟨_, rfl, hst, rfl⟩⟩
          | [v, g_, y, z, pp], hst, ho, hdep =>
            cases ho
            obtain ⟨hst, rfl⟩ := hst
            have fp : AA.eval (.tmp 46) = .pointer (some ⟨rp, 0, none⟩) := by
              have := (hdep ⟨12, .data⟩ 46 (by simp) (by rfl) rfl (by simp)).2 4 rfl
              injection this with this
              exact this.symm
            exact ⟨wanted_free rfl, wp_valD (v := .pointer (some ⟨rp, 2, none⟩)) (w' := W) (by simp only [execOp, fp]; simp [go_sem]) ⟨_, rfl, hst, rfl⟩⟩
          | [v, g_, y, z, pp, qq], hst, ho, hdep =>
            cases ho
            obtain ⟨hst, rfl⟩ := hst
            have fq : AA.eval (.tmp 47) = .pointer (some ⟨rp, 2, none⟩) := by
              have := (hdep ⟨13, .data⟩ 47 (by simp) (by rfl) rfl (by simp)).2 5 rfl
              injection this with this
              exact this.symm
            have fz : AA.eval (.tmp 45) = z := by
              have := (hdep ⟨11, .data⟩ 45 (by simp) (by rfl) rfl (by simp)).2 3 rfl
              injection this with this
              exact this.symm
            obtain ⟨⟨hce, hfr, ⟨o_, n_, c_, rfl⟩⟩, hF⟩ := hst
            refine ⟨wanted_free rfl, ?_⟩
            unfold Oper.wp execOp
            simp only [fq, fz]
            simp [go_sem, hfr, hce]
            exact ⟨undef, hF⟩
          | [v, g_, y, z, pp, qq, s_], hst, ho, hdep => cases ho
          | _ :: _ :: _ :: _ :: _ :: _ :: _ :: _ :: _, hst, ho, hdep => cases hst
        case fin =>
          intro xs W hst hF
          obtain ⟨h, q, fl, hx8, hobj, hsp⟩ := (show PtG w0 s rp (q2 + 2) L2 lv2 a b W6 [xs 8, xs 9, xs 10, xs 11, xs 12, xs 13, xs 14] W from hst)
          have HOBJ := Lib.hid hobj
          have HSP := Lib.hid hsp
          clear hst hF hobj hsp
          simp only [putAll, Nat.zero_add, Nat.reduceAdd]
          rw [hx8]
          clear hx8
          generalize xs 0 = z0 at *
          generalize xs 1 = z1 at *
          generalize xs 2 = z2 at *
          generalize xs 3 = z3 at *
          generalize xs 4 = z4 at *
          generalize xs 5 = z5 at *
          generalize xs 6 = z6 at *
          generalize xs 7 = z7 at *
          generalize xs 8 = z8 at *
          generalize xs 9 = z9 at *
          generalize xs 10 = z10 at *
          generalize xs 11 = z11 at *
          generalize xs 12 = z12 at *
          generalize xs 13 = z13 at *
          generalize xs 14 = z14 at *
          clear xs
          obtain ⟨zo, zc, hz⟩ := owns_slice (owns_0 HOBJ.out.row)
          subst hz
          have d2 := HOBJ.out.box.cell (i := 2) rfl
          obtain ⟨J, HJ⟩ : ∃ J, Hid (L2.length = J) := ⟨_, rfl⟩
          have hJ : J ≤ 100000 := by rw [← HJ.out]; omega
          replace d2 : W.cell? ⟨rp, 2, none⟩ = some (.slice zo (J + 1) zc) := by
            rw [d2, List.length_append, HJ.out]; rfl
          have HFIN : Hid (fl = false ∧ partO s.data.toList (g + 1) p L = some (q, L2 ++ [⟨-1, a, b, h⟩]) ∧ q2 + 2 < q ∨ fl = true ∧ partO s.data.toList (g + 1) p L = none) := by
            show _ ∨ _
            rw [HPO.out]
            rcases HSP.out.2 with ⟨e, ef⟩ | ⟨e, ef⟩
            · refine .inl ⟨ef, ?_, (rNum_some e).1⟩
              rw [e, HAV.out, HBV.out]
            · refine .inr ⟨ef, ?_⟩
              rw [e]
          have hqs := HSP.out.1
          have v1 : IntKind.i64.wrap ((J : Int) + 1 - 1) = (J : Int) := (IntWalk.i64_in _ (by omega)).trans (by omega)
          have v2 : ((J : Int) + 1 - 1) = (J : Int) := by omega
          have v3 : IntKind.i64.wrap (J : Int) = (J : Int) := IntWalk.i64_in _ (by omega)
          clear HPO HSP HAV HBV c2 c3 HO7
          go_wp2_with fail
          go_ret
          refine ⟨(J : Int), q, _, fl, _, rfl, HOBJ.out, ?_⟩
          rcases HFIN.out with ⟨ef, ep, hpq3⟩ | ⟨ef, ep⟩
          · refine .inl ⟨ep, ef, ?_, ?_, by omega, hqs⟩
            · rw [List.length_append, HJ.out]; rfl
            · rw [List.length_append]; show L2.length + 1 ≤ q; omega
          · exact .inr ⟨ep, ef⟩
        -- ONE>

end Go.Proofs.YthacjealoomioaaGreatDoor
