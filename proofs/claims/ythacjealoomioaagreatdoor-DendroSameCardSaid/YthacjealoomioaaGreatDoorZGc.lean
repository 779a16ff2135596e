/- DnP, DnR, DnC, DnF, DnG, DnH. -/
import Derived.Test.YthacjealoomioaaGreatDoorZGb
import Derived.Lib.ParseIntB
import Derived.Lib.ItoaNum
/- Trees as texts; the program's machine that reads them. No program in sight. -/
namespace Go.Proofs.YthacjealoomioaaGreatDoor
set_option linter.unusedVariables false
set_option linter.unusedSimpArgs false

/-- A tree of which leaves and heights are told. -/
inductive BT where
  | leaf (x : Nat)
  | node (l r : BT) (h : Int)

def BT.txt : BT → List UInt8
  | .leaf x => Lib.itoa (x : Int)
  | .node l r h => 40 :: (l.txt ++ 44 :: (r.txt ++ 41 :: 58 :: Lib.itoa h))
def fTxt (F : List BT) : List UInt8 := F.flatMap fun b => b.txt ++ [59]

def BT.lvs : BT → Nat
  | .leaf _ => 1
  | .node l r _ => l.lvs + r.lvs
def BT.nj : BT → Nat
  | .leaf _ => 0
  | .node l r _ => l.nj + r.nj + 1
def BT.dep : BT → Nat
  | .leaf _ => 0
  | .node l r _ => max l.dep r.dep + 1
def In64 (h : Int) : Prop := -9223372036854775808 ≤ h ∧ h ≤ 9223372036854775807
/-- Leaves and heights are in their ranges. -/
def BT.Fit : BT → Prop
  | .leaf x => x < 4096
  | .node l r h => l.Fit ∧ r.Fit ∧ In64 h

/-- A joint. -/
structure Jt where
  l : Int
  r : Int
  h : Int
deriving DecidableEq
def jt0 : Jt := ⟨0, 0, 0⟩

/-- How a node is named: a leaf by its number, an inner node by its joint. -/
def BT.code : BT → Nat → Int
  | .leaf x, _ => x
  | .node l r h, base => -((base + (BT.node l r h).nj : Nat) : Int)
/-- The joints of a tree, behind base others. -/
def BT.js : BT → Nat → List Jt
  | .leaf _, _ => []
  | .node l r h, base => l.js base ++ r.js (base + l.nj) ++ [⟨l.code base, r.code (base + l.nj), h⟩]
theorem BT.js_len : ∀ (b : BT) (base : Nat), (b.js base).length = b.nj
  | .leaf _, _ => rfl
  | .node l r h, base => by
    unfold BT.js BT.nj
    rw [List.length_append, List.length_append, BT.js_len l, BT.js_len r]
    rfl

/-- What has been read. -/
structure RdS where
  want : Nat
  bg : Nat
  node : Int
  leaves : Nat
  joints : List Jt
  stack : List (Int × Bool)

def rd0 : RdS := ⟨0, 0, 0, 0, [], []⟩

def dgR (st : RdS) (at_ : Nat) (minus : Bool) : RdS × Bool :=
  if st.want = 0 ∨ st.want = 1 then ({ st with bg := at_, want := 2 }, !minus)
  else if st.want = 4 then ({ st with bg := at_, want := 5 }, true)
  else (st, decide (st.want = 2 ∨ st.want = 5) && !minus)

def setLast (l : List Jt) (h : Int) : List Jt := l.set (l.length - 1) ⟨(l.getD (l.length - 1) jt0).l, (l.getD (l.length - 1) jt0).r, h⟩

def numR (st : RdS) (ds : List UInt8) : RdS × Bool :=
  match Lib.parseIntB 64 ds with
  | .ok v =>
    if st.want = 2 then ({ st with node := v, leaves := st.leaves + 1 }, decide (v < 4096) && decide (st.leaves + 1 ≤ 4096))
    else if st.want = 5 then ({ st with joints := setLast st.joints v, node := -(st.joints.length : Int) }, true)
    else (st, false)
  | _ => (st, false)

def clsR (st : RdS) (c : Int) : RdS × Bool :=
  if st.stack.length = 0 then ({ st with want := 0 }, decide (c = 59))
  else if (st.stack.getD (st.stack.length - 1) (0, false)).2 = false then ({ st with stack := st.stack.set (st.stack.length - 1) (st.node, true), want := 1 }, decide (c = 44))
  else ({ st with joints := st.joints ++ [⟨(st.stack.getD (st.stack.length - 1) (0, false)).1, st.node, 0⟩], stack := st.stack.take (st.stack.length - 1), want := 3 }, decide (c = 41))

/-- The bytes from one place to another. -/
def sl (s : List UInt8) (a b : Nat) : List UInt8 := (s.take b).drop a

def stepR (s : List UInt8) (at_ : Nat) (c : Int) (st : RdS) : RdS × Bool :=
  if (48 ≤ c ∧ c ≤ 57) ∨ c = 45 then dgR st at_ (decide (c = 45))
  else if c = 40 then ({ st with stack := st.stack ++ [(0, false)], want := 1 }, decide (st.want = 0 ∨ st.want = 1) && decide (st.stack.length < 4096))
  else if c = 58 then ({ st with want := 4 }, decide (st.want = 3))
  else if (numR st (sl s st.bg at_)).2 = true then clsR (numR st (sl s st.bg at_)).1 c else numR st (sl s st.bg at_)

/-- The machine on bytes that are characters. -/
def runB (s : List UInt8) : Nat → List UInt8 → RdS → RdS × Bool
  | _, [], st => (st, true)
  | p, c :: r, st => if (stepR s p (c.toNat : Int) st).2 = true then runB s (p + 1) r (stepR s p (c.toNat : Int) st).1 else stepR s p (c.toNat : Int) st

theorem runB_append (s : List UInt8) : ∀ (l1 : List UInt8) (p : Nat) (l2 : List UInt8) (st st' : RdS), runB s p l1 st = (st', true) → runB s p (l1 ++ l2) st = runB s (p + l1.length) l2 st'
  | [], p, l2, st, st', h => by
    have h : (st, true) = (st', true) := h
    injection h with h
    rw [h]; rfl
  | c :: l1, p, l2, st, st', h => by
    rw [runB] at h
    rw [List.cons_append, runB]
    split at h
    · rename_i hc
      rw [if_pos hc, runB_append s l1 (p + 1) l2 _ st' h]
      congr 1
      simp; omega
    · rename_i hc
      rw [h] at hc
      exact absurd rfl hc

theorem runB_one (s : List UInt8) (p : Nat) (c : UInt8) (st st' : RdS) (h : stepR s p (c.toNat : Int) st = (st', true)) : runB s p [c] st = (st', true) := by
  rw [runB, h, if_pos rfl, runB]

/-- Digits in the midst of a number change nothing. -/
theorem run_digits (s : List UInt8) : ∀ (l : List UInt8) (p : Nat) (st : RdS), (∀ c ∈ l, 48 ≤ c.toNat ∧ c.toNat ≤ 57) → st.want = 2 ∨ st.want = 5 → runB s p l st = (st, true)
  | [], _, _, _, _ => rfl
  | c :: l, p, st, h, hw => by
    have hc := h c (List.mem_cons_self ..)
    have e : stepR s p (c.toNat : Int) st = (st, true) := by
      unfold stepR
      rw [if_pos (by omega)]
      unfold dgR
      rw [if_neg (by omega), if_neg (by omega), decide_eq_true hw, decide_eq_false (by omega)]
      rfl
    rw [runB, e, if_pos rfl]
    exact run_digits s l (p + 1) st (fun c hc => h c (List.mem_cons_of_mem _ hc)) hw

theorem ofNat48 {u : Nat} (h : u < 10) : (UInt8.ofNat (48 + u)).toNat = 48 + u := by
  rw [UInt8.toNat_ofNat']
  omega
theorem decDigits_dig : ∀ (u : Nat), ∀ c ∈ Lib.decDigits u, 48 ≤ c.toNat ∧ c.toNat ≤ 57 := by
  intro u
  induction u using Nat.strongRecOn with
  | _ u ih =>
    intro c hc
    rw [Lib.decDigits] at hc
    split at hc
    · rw [List.mem_singleton] at hc
      rw [hc, ofNat48 (by omega)]; omega
    · rcases List.mem_append.1 hc with hc | hc
      · exact ih (u / 10) (by omega) c hc
      · rw [List.mem_singleton] at hc
        rw [hc, ofNat48 (by omega)]; omega
theorem decDigits_ne (u : Nat) : Lib.decDigits u ≠ [] := by
  rw [Lib.decDigits]
  split <;> simp

theorem parseM_append {M : Nat} : ∀ (l1 l2 : List UInt8) (acc v : Nat), Lib.parseUintM M acc l1 = .ok v → Lib.parseUintM M acc (l1 ++ l2) = Lib.parseUintM M v l2
  | [], l2, acc, v, h => by
    rw [Lib.parseUintM] at h
    injection h with h
    rw [h]; rfl
  | c :: l1, l2, acc, v, h => by
    rw [Lib.parseUintM] at h
    rw [List.cons_append, Lib.parseUintM]
    split at h
    · rename_i h1
      rw [if_pos h1]
      split at h
      · cases h
      · rename_i h2
        rw [if_neg h2]
        split at h
        · cases h
        · rename_i h3
          rw [if_neg h3]
          exact parseM_append l1 l2 _ v h
    · cases h

theorem parseM_dec : ∀ (u : Nat), u ≤ 18446744073709551615 → Lib.parseUintM 18446744073709551615 0 (Lib.decDigits u) = .ok u := by
  intro u
  induction u using Nat.strongRecOn with
  | _ u ih =>
    intro hu
    rw [Lib.decDigits]
    split
    · rename_i h
      rw [Lib.parseUintM, ofNat48 h, if_pos (by omega), if_neg (by omega), if_neg (by omega), Lib.parseUintM]
      congr 1
      omega
    · rename_i h
      rw [parseM_append _ _ 0 (u / 10) (ih (u / 10) (by omega) (by omega)), Lib.parseUintM, ofNat48 (by omega), if_pos (by omega), if_neg (by omega), if_neg (by omega), Lib.parseUintM]
      congr 1
      omega

theorem parse_itoa {h : Int} (hh : In64 h) : Lib.parseIntB 64 (Lib.itoa h) = .ok h := by
  unfold In64 at hh
  have pow64 : 2 ^ 64 - 1 = 18446744073709551615 := by decide
  have pow63 : 2 ^ (64 - 1) = 9223372036854775808 := by decide
  unfold Lib.itoa
  split
  · rename_i hneg
    rw [Lib.parseIntB]
    have e45 : (45 : UInt8).toNat = 45 := by decide
    simp only [e45]
    rw [if_pos (.inr trivial)]
    unfold Lib.parseUintB
    rw [if_neg (decDigits_ne _), pow64, parseM_dec _ (by omega)]
    simp only
    rw [if_neg (by simp), pow63, if_neg (by omega), if_pos trivial]
    congr 1
    omega
  · rename_i hpos
    have hd := decDigits_dig h.toNat
    have hm := parseM_dec h.toNat (by omega)
    have hne := decDigits_ne h.toNat
    generalize Lib.decDigits h.toNat = l at hd hm hne
    cases l with
    | nil => exact absurd rfl hne
    | cons c r =>
      have hc := hd c (List.mem_cons_self ..)
      rw [Lib.parseIntB]
      rw [if_neg (by omega)]
      unfold Lib.parseUintB
      rw [if_neg (by simp), pow64, hm]
      simp only
      rw [pow63, if_neg (by omega), if_neg (by omega), if_neg (by omega)]
      congr 1
      omega

theorem sl_mid (pre l suf : List UInt8) : sl (pre ++ l ++ suf) pre.length (pre.length + l.length) = l := by
  unfold sl
  rw [List.take_append_of_le_length (by simp), List.take_of_length_le (by simp), List.drop_left]

/-- A number that has been begun: at its end it says what b is. -/
structure Pend (s : List UInt8) (b : BT) (st st1 : RdS) (q : Nat) : Prop where
  want : st1.want = 2 ∨ st1.want = 5
  num : numR st1 (sl s st1.bg q) = ({ want := st1.want, bg := st1.bg, node := b.code st.joints.length, leaves := st.leaves + b.lvs, joints := st.joints ++ b.js st.joints.length, stack := st.stack }, true)

theorem stepR_end {s : List UInt8} {b : BT} {st st1 : RdS} {q : Nat} (h : Pend s b st st1 q) {c : UInt8} (hc : c.toNat = 44 ∨ c.toNat = 41 ∨ c.toNat = 59) :
    stepR s q (c.toNat : Int) st1 = clsR { want := st1.want, bg := st1.bg, node := b.code st.joints.length, leaves := st.leaves + b.lvs, joints := st.joints ++ b.js st.joints.length, stack := st.stack } (c.toNat : Int) := by
  unfold stepR
  rw [if_neg (by omega), if_neg (by omega), if_neg (by omega), h.num, if_pos rfl]

theorem run_num {s : List UInt8} {h : Int} {pre suf : List UInt8} (hs : s = pre ++ Lib.itoa h ++ suf) {st : RdS} (hw : (st.want ≤ 1 ∧ 0 ≤ h) ∨ st.want = 4) :
    runB s pre.length (Lib.itoa h) st = ({ st with bg := pre.length, want := if st.want = 4 then 5 else 2 }, true) := by
  have hsplit : ∃ c r, Lib.itoa h = c :: r ∧ (∀ x ∈ r, 48 ≤ x.toNat ∧ x.toNat ≤ 57) ∧ ((48 ≤ c.toNat ∧ c.toNat ≤ 57) ∨ (c.toNat = 45 ∧ h < 0)) := by
    unfold Lib.itoa
    split
    · rename_i hn
      exact ⟨45, _, rfl, decDigits_dig _, .inr ⟨by decide, hn⟩⟩
    · have hd := decDigits_dig h.toNat
      have hne := decDigits_ne h.toNat
      generalize Lib.decDigits h.toNat = l at hd hne
      cases l with
      | nil => exact absurd rfl hne
      | cons c r => exact ⟨c, r, rfl, fun x hx => hd x (List.mem_cons_of_mem _ hx), .inl (hd c (List.mem_cons_self ..))⟩
  obtain ⟨c, r, e, hr, hc⟩ := hsplit
  rw [e]
  have h1 : stepR s pre.length (c.toNat : Int) st = ({ st with bg := pre.length, want := if st.want = 4 then 5 else 2 }, true) := by
    unfold stepR
    rw [if_pos (by omega)]
    unfold dgR
    rcases hw with ⟨hw, h0⟩ | hw
    · rw [if_pos (by omega), if_neg (by omega), decide_eq_false (by omega)]; rfl
    · rw [if_neg (by omega), if_pos hw, if_pos hw]
  have h2 := runB_append s [c] pre.length r st _ (runB_one s _ c st _ h1)
  rw [show c :: r = [c] ++ r from rfl, h2]
  refine run_digits s r _ _ hr ?_
  show (if st.want = 4 then 5 else 2) = 2 ∨ _
  split <;> simp

theorem getD_snoc {α : Type} (l : List α) (a d : α) : (l ++ [a]).getD ((l ++ [a]).length - 1) d = a := by
  rw [List.getD_eq_getElem?_getD, List.length_append, List.length_singleton, Nat.add_sub_cancel, List.getElem?_append_right (Nat.le_refl _), Nat.sub_self]
  rfl
theorem set_snoc {α : Type} (l : List α) (a b : α) : (l ++ [a]).set ((l ++ [a]).length - 1) b = l ++ [b] := by
  rw [List.length_append, List.length_singleton, Nat.add_sub_cancel, List.set_append_right _ _ (Nat.le_refl _), Nat.sub_self]
  rfl

/-- The machine reads the text of a tree. -/
theorem run_bt : ∀ (b : BT) (s pre suf : List UInt8) (st : RdS), s = pre ++ b.txt ++ suf → st.want ≤ 1 → b.Fit → st.leaves + b.lvs ≤ 4096 → st.stack.length + b.dep ≤ 4096 →
    ∃ st1, runB s pre.length b.txt st = (st1, true) ∧ Pend s b st st1 (pre.length + b.txt.length)
  | .leaf x, s, pre, suf, st, hs, hw, hf, hl, hd => by
    have hf : x < 4096 := hf
    have hl : st.leaves + 1 ≤ 4096 := hl
    have h1 := run_num (h := (x : Int)) hs (st := st) (.inl ⟨hw, by omega⟩)
    rw [if_neg (by omega)] at h1
    refine ⟨_, h1, .inl rfl, ?_⟩
    have e : sl s pre.length (pre.length + (Lib.itoa (x : Int)).length) = Lib.itoa (x : Int) := by rw [hs]; exact sl_mid _ _ _
    show numR _ (sl s pre.length (pre.length + (Lib.itoa (x : Int)).length)) = _
    rw [e]
    unfold numR
    rw [parse_itoa (by unfold In64; omega)]
    simp only
    rw [if_pos trivial, decide_eq_true (by omega), decide_eq_true hl]
    simp [BT.code, BT.lvs, BT.js]
  | .node l r h, s, pre, suf, st, hs, hw, hf, hl, hd => by
    obtain ⟨fl, fr, f64⟩ := hf
    have hl' : st.leaves + (l.lvs + r.lvs) ≤ 4096 := hl
    have hd' : st.stack.length + (max l.dep r.dep + 1) ≤ 4096 := hd
    -- the parenthesis
    have e40 : (40 : UInt8).toNat = 40 := by decide
    have e44 : (44 : UInt8).toNat = 44 := by decide
    have e41 : (41 : UInt8).toNat = 41 := by decide
    have e58 : (58 : UInt8).toNat = 58 := by decide
    have s1 : stepR s pre.length ((40 : UInt8).toNat : Int) st = ({ st with stack := st.stack ++ [(0, false)], want := 1 }, true) := by
      unfold stepR
      rw [e40, if_neg (by decide), if_pos (by decide), decide_eq_true (by omega), decide_eq_true (by omega)]
      rfl
    have r1 := runB_one s _ _ _ _ s1
    -- the left child
    have hs2 : s = (pre ++ [40]) ++ l.txt ++ (44 :: (r.txt ++ 41 :: 58 :: Lib.itoa h) ++ suf) := by
      rw [hs]
      simp [BT.txt, List.append_assoc]
    obtain ⟨st2, r2, p2⟩ := run_bt l s (pre ++ [40]) _ { st with stack := st.stack ++ [(0, false)], want := 1 } hs2 (by simp) fl (by simp; omega) (by simp; omega)
    rw [List.length_append, List.length_singleton] at r2 p2
    -- the comma
    have s3 := stepR_end p2 (c := 44) (.inl e44)
    have c3 : clsR { want := st2.want, bg := st2.bg, node := l.code st.joints.length, leaves := st.leaves + l.lvs, joints := st.joints ++ l.js st.joints.length, stack := st.stack ++ [(0, false)] } ((44 : UInt8).toNat : Int) = ({ want := 1, bg := st2.bg, node := l.code st.joints.length, leaves := st.leaves + l.lvs, joints := st.joints ++ l.js st.joints.length, stack := st.stack ++ [(l.code st.joints.length, true)] }, true) := by
      unfold clsR
      simp only [getD_snoc, set_snoc]
      rw [if_neg (by simp), if_pos trivial, e44]
      rfl
    have r3 := runB_one s _ _ _ _ (s3.trans c3)
    -- the right child
    have hs4 : s = (pre ++ [40] ++ l.txt ++ [44]) ++ r.txt ++ (41 :: 58 :: Lib.itoa h ++ suf) := by
      rw [hs2]
      simp [List.append_assoc]
    obtain ⟨st4, r4, p4⟩ := run_bt r s (pre ++ [40] ++ l.txt ++ [44]) _ { want := 1, bg := st2.bg, node := l.code st.joints.length, leaves := st.leaves + l.lvs, joints := st.joints ++ l.js st.joints.length, stack := st.stack ++ [(l.code st.joints.length, true)] } hs4 (by simp) fr (by simp; omega) (by simp; omega)
    have len4 : (pre ++ [40] ++ l.txt ++ [44]).length = pre.length + 1 + l.txt.length + 1 := by simp; omega
    rw [len4] at r4 p4
    have jl : (st.joints ++ l.js st.joints.length).length = st.joints.length + l.nj := by rw [List.length_append, BT.js_len]
    -- the closing parenthesis
    have s5 := stepR_end p4 (c := 41) (.inr (.inl e41))
    have c5 : clsR { want := st4.want, bg := st4.bg, node := r.code (st.joints ++ l.js st.joints.length).length, leaves := st.leaves + l.lvs + r.lvs, joints := st.joints ++ l.js st.joints.length ++ r.js (st.joints ++ l.js st.joints.length).length, stack := st.stack ++ [(l.code st.joints.length, true)] } ((41 : UInt8).toNat : Int) = ({ want := 3, bg := st4.bg, node := r.code (st.joints ++ l.js st.joints.length).length, leaves := st.leaves + l.lvs + r.lvs, joints := st.joints ++ l.js st.joints.length ++ r.js (st.joints ++ l.js st.joints.length).length ++ [⟨l.code st.joints.length, r.code (st.joints ++ l.js st.joints.length).length, 0⟩], stack := st.stack }, true) := by
      unfold clsR
      simp only [getD_snoc]
      rw [if_neg (by simp), if_neg (by simp), e41]
      simp
    have r5 := runB_one s _ _ _ _ (s5.trans c5)
    -- the colon
    have s6 : stepR s (pre.length + 1 + l.txt.length + 1 + r.txt.length + 1) ((58 : UInt8).toNat : Int) { want := 3, bg := st4.bg, node := r.code (st.joints ++ l.js st.joints.length).length, leaves := st.leaves + l.lvs + r.lvs, joints := st.joints ++ l.js st.joints.length ++ r.js (st.joints ++ l.js st.joints.length).length ++ [⟨l.code st.joints.length, r.code (st.joints ++ l.js st.joints.length).length, 0⟩], stack := st.stack } = ({ want := 4, bg := st4.bg, node := r.code (st.joints ++ l.js st.joints.length).length, leaves := st.leaves + l.lvs + r.lvs, joints := st.joints ++ l.js st.joints.length ++ r.js (st.joints ++ l.js st.joints.length).length ++ [⟨l.code st.joints.length, r.code (st.joints ++ l.js st.joints.length).length, 0⟩], stack := st.stack }, true) := by
      unfold stepR
      rw [e58, if_neg (by decide), if_neg (by decide), if_pos (by decide)]
      rfl
    have r6 := runB_one s _ _ _ _ s6
    -- the height
    have hs7 : s = (pre ++ [40] ++ l.txt ++ [44] ++ r.txt ++ [41] ++ [58]) ++ Lib.itoa h ++ suf := by
      rw [hs4]
      simp [List.append_assoc]
    have len7 : (pre ++ [40] ++ l.txt ++ [44] ++ r.txt ++ [41] ++ [58]).length = pre.length + 1 + l.txt.length + 1 + r.txt.length + 1 + 1 := by simp; omega
    have r7 := run_num hs7 (st := { want := 4, bg := st4.bg, node := r.code (st.joints ++ l.js st.joints.length).length, leaves := st.leaves + l.lvs + r.lvs, joints := st.joints ++ l.js st.joints.length ++ r.js (st.joints ++ l.js st.joints.length).length ++ [⟨l.code st.joints.length, r.code (st.joints ++ l.js st.joints.length).length, 0⟩], stack := st.stack }) (.inr rfl)
    rw [if_pos rfl, len7] at r7
    have etxt : (BT.node l r h).txt = [40] ++ (l.txt ++ ([44] ++ (r.txt ++ ([41] ++ ([58] ++ Lib.itoa h))))) := by simp [BT.txt]
    refine ⟨{ want := 5, bg := pre.length + 1 + l.txt.length + 1 + r.txt.length + 1 + 1, node := r.code (st.joints ++ l.js st.joints.length).length, leaves := st.leaves + l.lvs + r.lvs, joints := st.joints ++ l.js st.joints.length ++ r.js (st.joints ++ l.js st.joints.length).length ++ [⟨l.code st.joints.length, r.code (st.joints ++ l.js st.joints.length).length, 0⟩], stack := st.stack }, ?_, .inr rfl, ?_⟩
    · rw [etxt, runB_append s _ _ _ _ _ r1, List.length_singleton, runB_append s _ _ _ _ _ r2, runB_append s _ _ _ _ _ r3, List.length_singleton, runB_append s _ _ _ _ _ r4, runB_append s _ _ _ _ _ r5, List.length_singleton, runB_append s _ _ _ _ _ r6, List.length_singleton]
      exact r7
    · have e : sl s (pre.length + 1 + l.txt.length + 1 + r.txt.length + 1 + 1) (pre.length + (BT.node l r h).txt.length) = Lib.itoa h := by
        have := sl_mid (pre ++ [40] ++ l.txt ++ [44] ++ r.txt ++ [41] ++ [58]) (Lib.itoa h) suf
        rw [← hs7, len7] at this
        rw [etxt]
        refine Eq.trans ?_ this
        congr 1
        simp
        omega
      show numR _ (sl s (pre.length + 1 + l.txt.length + 1 + r.txt.length + 1 + 1) (pre.length + (BT.node l r h).txt.length)) = _
      rw [e]
      unfold numR
      rw [parse_itoa f64]
      simp only
      rw [if_neg (by decide), if_pos trivial]
      unfold setLast
      simp only [getD_snoc, set_snoc]
      have ej : (BT.node l r h).js st.joints.length = l.js st.joints.length ++ r.js (st.joints.length + l.nj) ++ [⟨l.code st.joints.length, r.code (st.joints.length + l.nj), h⟩] := rfl
      have ec : (BT.node l r h).code st.joints.length = -((st.joints.length + (l.nj + r.nj + 1) : Nat) : Int) := rfl
      have el : (BT.node l r h).lvs = l.lvs + r.lvs := rfl
      rw [jl, ej, ec, el]
      congr 2
      · rw [List.length_append, List.length_append, List.length_append, BT.js_len, BT.js_len, List.length_singleton]
        omega
      · omega
      · simp [List.append_assoc]

/-- The machine reads the text of a forest. -/
def fLvs (F : List BT) : Nat := (F.map BT.lvs).sum
def fJs : List BT → Nat → List Jt
  | [], _ => []
  | b :: F, base => b.js base ++ fJs F (base + b.nj)
theorem run_forest : ∀ (F : List BT) (s pre suf : List UInt8) (st : RdS), s = pre ++ fTxt F ++ suf → st.want = 0 → st.stack = [] → (∀ b ∈ F, b.Fit ∧ b.dep ≤ 4096) → st.leaves + fLvs F ≤ 4096 →
    ∃ st1, runB s pre.length (fTxt F) st = (st1, true) ∧ st1.want = 0 ∧ st1.leaves = st.leaves + fLvs F ∧ st1.joints = st.joints ++ fJs F st.joints.length
  | [], s, pre, suf, st, hs, hw, hst, hf, hl => ⟨st, rfl, hw, rfl, by simp [fJs]⟩
  | b :: F, s, pre, suf, st, hs, hw, hst, hf, hl => by
    have hl' : st.leaves + (b.lvs + fLvs F) ≤ 4096 := by
      unfold fLvs at hl ⊢
      simpa using hl
    have e59 : (59 : UInt8).toNat = 59 := by decide
    have ef : fTxt (b :: F) = b.txt ++ ([59] ++ fTxt F) := by simp [fTxt]
    have hs1 : s = pre ++ b.txt ++ ([59] ++ fTxt F ++ suf) := by rw [hs, ef]; simp [List.append_assoc]
    obtain ⟨f1, f2⟩ := hf b (List.mem_cons_self ..)
    obtain ⟨st1, r1, p1⟩ := run_bt b s pre _ st hs1 (by omega) f1 (by omega) (by rw [hst]; simpa using f2)
    have s2 := stepR_end p1 (c := 59) (.inr (.inr e59))
    have c2 : clsR { want := st1.want, bg := st1.bg, node := b.code st.joints.length, leaves := st.leaves + b.lvs, joints := st.joints ++ b.js st.joints.length, stack := st.stack } ((59 : UInt8).toNat : Int) = ({ want := 0, bg := st1.bg, node := b.code st.joints.length, leaves := st.leaves + b.lvs, joints := st.joints ++ b.js st.joints.length, stack := st.stack }, true) := by
      unfold clsR
      rw [if_pos (by simp [hst]), e59]
      rfl
    have r2 := runB_one s _ _ _ _ (s2.trans c2)
    have hs3 : s = (pre ++ b.txt ++ [59]) ++ fTxt F ++ suf := by rw [hs1]; simp [List.append_assoc]
    obtain ⟨st3, r3, h1, h2, h3⟩ := run_forest F s (pre ++ b.txt ++ [59]) suf { want := 0, bg := st1.bg, node := b.code st.joints.length, leaves := st.leaves + b.lvs, joints := st.joints ++ b.js st.joints.length, stack := st.stack } hs3 rfl hst (fun c hc => hf c (List.mem_cons_of_mem _ hc)) (by simp; omega)
    have len3 : (pre ++ b.txt ++ [59]).length = pre.length + b.txt.length + 1 := by simp; omega
    rw [len3] at r3
    refine ⟨st3, ?_, h1, ?_, ?_⟩
    · rw [ef, runB_append s _ _ _ _ _ r1, runB_append s _ _ _ _ _ r2]
      exact r3
    · rw [h2]
      unfold fLvs
      simp
      omega
    · rw [h3]
      have : (st.joints ++ b.js st.joints.length).length = st.joints.length + b.nj := by rw [List.length_append, BT.js_len]
      simp only [this]
      rw [List.append_assoc]
      rfl

end Go.Proofs.YthacjealoomioaaGreatDoor

/- The reference's reader of texts. No program in sight. -/
namespace Go.Proofs.YthacjealoomioaaGreatDoor
set_option linter.unusedVariables false
set_option linter.unusedSimpArgs false

/-- A part of a text: a leaf, or two parts with a height. -/
structure Pt where
  leaf : Int
  left : Int
  right : Int
  h : Int
deriving DecidableEq
def pt0 : Pt := ⟨0, 0, 0, 0⟩

def BT.sz : BT → Nat
  | .leaf _ => 1
  | .node l r _ => l.sz + r.sz + 1
theorem BT.sz_pos (b : BT) : 0 < b.sz := by cases b <;> simp [BT.sz]
def BT.ps : BT → Nat → List Pt
  | .leaf x, _ => [⟨x, 0, 0, 0⟩]
  | .node l r h, base => l.ps base ++ r.ps (base + l.sz) ++ [⟨-1, ((base + l.sz - 1 : Nat) : Int), ((base + l.sz + r.sz - 1 : Nat) : Int), h⟩]
theorem BT.ps_len : ∀ (b : BT) (base : Nat), (b.ps base).length = b.sz
  | .leaf _, _ => rfl
  | .node l r h, base => by
    unfold BT.ps BT.sz
    rw [List.length_append, List.length_append, BT.ps_len l, BT.ps_len r]
    rfl
def fPs : List BT → Nat → List Pt
  | [], _ => []
  | b :: F, base => b.ps base ++ fPs F (base + b.sz)

def at8 (s : List UInt8) (p b : Nat) : Bool := decide (p < s.length ∧ (s.getD p 0).toNat = b)
def isD (s : List UInt8) (p : Nat) : Prop := p < s.length ∧ 48 ≤ (s.getD p 0).toNat ∧ (s.getD p 0).toNat ≤ 57
instance (s : List UInt8) (p : Nat) : Decidable (isD s p) := by unfold isD; infer_instance

/-- At most k digits are read. -/
def rDig (s : List UInt8) : Nat → Nat → Nat → Nat × Nat
  | 0, p, x => (x, p)
  | k + 1, p, x => if isD s p then rDig s k (p + 1) (10 * x + ((s.getD p 0).toNat - 48)) else (x, p)

def rNum (s : List UInt8) (p : Nat) : Option (Int × Nat) :=
  if at8 s p 45 then
    if (rDig s 19 (p + 1) 0).2 = p + 1 ∨ 9223372036854775808 < (rDig s 19 (p + 1) 0).1 then none else some (-((rDig s 19 (p + 1) 0).1 : Int), (rDig s 19 (p + 1) 0).2)
  else
    if (rDig s 19 p 0).2 = p ∨ 9223372036854775807 < (rDig s 19 p 0).1 then none else some (((rDig s 19 p 0).1 : Int), (rDig s 19 p 0).2)

def partO (s : List UInt8) : Nat → Nat → List Pt → Option (Nat × List Pt)
  | 0, _, _ => none
  | f + 1, p, L =>
    if at8 s p 40 then
      match partO s f (p + 1) L with
      | none => none
      | some (p1, L1) =>
        if at8 s p1 44 then
          match partO s f (p1 + 1) L1 with
          | none => none
          | some (p2, L2) =>
            if at8 s p2 41 && at8 s (p2 + 1) 58 then
              match rNum s (p2 + 2) with
              | none => none
              | some (h, p3) => some (p3, L2 ++ [⟨-1, ((L1.length - 1 : Nat) : Int), ((L2.length - 1 : Nat) : Int), h⟩])
            else none
        else none
    else
      match rNum s p with
      | none => none
      | some (x, p1) => if x < 0 ∨ 4096 ≤ x then none else some (p1, L ++ [⟨x, 0, 0, 0⟩])

def refO (s : List UInt8) : Nat → Nat → List Pt → Option (List Pt)
  | 0, p, L => if p < s.length then none else some L
  | f + 1, p, L =>
    if p < s.length then
      match partO s (s.length + 1) p L with
      | none => none
      | some (p1, L1) => if at8 s p1 59 then refO s f (p1 + 1) L1 else none
    else some L

/- What comes out is well formed. -/
theorem rDig_le (s : List UInt8) : ∀ k p x, p ≤ (rDig s k p x).2 ∧ ((rDig s k p x).2 ≤ s.length ∨ (rDig s k p x).2 = p)
  | 0, p, x => ⟨Nat.le_refl _, .inr rfl⟩
  | k + 1, p, x => by
    rw [rDig]
    split
    · rename_i h
      obtain ⟨h1, h2⟩ := rDig_le s k (p + 1) (10 * x + ((s.getD p 0).toNat - 48))
      refine ⟨by omega, .inl ?_⟩
      have := h.1
      omega
    · exact ⟨Nat.le_refl _, .inr rfl⟩

theorem rNum_some {s : List UInt8} {p : Nat} {h : Int} {q : Nat} (e : rNum s p = some (h, q)) : p < q ∧ q ≤ s.length ∧ In64 h := by
  unfold rNum at e
  unfold In64
  split at e
  · split at e
    · cases e
    · rename_i hc h2
      injection e with e
      injection e with e1 e2
      obtain ⟨a, b⟩ := rDig_le s 19 (p + 1) 0
      subst e1 e2
      refine ⟨by omega, by omega, by omega, by omega⟩
  · split at e
    · cases e
    · rename_i hc h2
      injection e with e
      injection e with e1 e2
      obtain ⟨a, b⟩ := rDig_le s 19 p 0
      subst e1 e2
      refine ⟨by omega, by omega, by omega, by omega⟩

theorem partO_ps (s : List UInt8) : ∀ f p L p' L', partO s f p L = some (p', L') → ∃ b : BT, b.Fit ∧ L' = L ++ b.ps L.length ∧ p < p' ∧ p' ≤ s.length
  | 0, p, L, p', L', h => by cases h
  | f + 1, p, L, p', L', h => by
    rw [partO] at h
    split at h
    · cases h1 : partO s f (p + 1) L with
      | none => rw [h1] at h; cases h
      | some r1 =>
        obtain ⟨p1, L1⟩ := r1
        rw [h1] at h
        simp only at h
        obtain ⟨b1, f1, e1, l1, m1⟩ := partO_ps s f _ _ _ _ h1
        split at h
        · cases h2 : partO s f (p1 + 1) L1 with
          | none => rw [h2] at h; cases h
          | some r2 =>
            obtain ⟨p2, L2⟩ := r2
            rw [h2] at h
            simp only at h
            obtain ⟨b2, f2, e2, l2, m2⟩ := partO_ps s f _ _ _ _ h2
            split at h
            · cases h3 : rNum s (p2 + 2) with
              | none => rw [h3] at h; cases h
              | some r3 =>
                obtain ⟨x, p3⟩ := r3
                rw [h3] at h
                simp only at h
                injection h with h
                injection h with ha hb
                obtain ⟨n1, n2, n3⟩ := rNum_some h3
                refine ⟨.node b1 b2 x, ⟨f1, f2, n3⟩, ?_, by omega, by omega⟩
                have hl1 : L1.length = L.length + b1.sz := by rw [e1, List.length_append, BT.ps_len]
                have hl2 : L2.length = L.length + b1.sz + b2.sz := by rw [e2, List.length_append, BT.ps_len, hl1]
                rw [← hb, hl1, hl2, e2, hl1, e1]
                rw [BT.ps]
                simp only [List.append_assoc]
            · cases h
        · cases h
    · cases h1 : rNum s p with
      | none => rw [h1] at h; cases h
      | some r =>
        obtain ⟨x, q⟩ := r
        rw [h1] at h
        simp only at h
        split at h
        · cases h
        · rename_i hx
          injection h with h
          injection h with ha hb
          obtain ⟨n1, n2, n3⟩ := rNum_some h1
          obtain ⟨y, rfl⟩ := Int.eq_ofNat_of_zero_le (show 0 ≤ x by omega)
          exact ⟨.leaf y, (show y < 4096 by omega), hb.symm, by omega, by omega⟩

theorem fPs_app (L : List Pt) (b : BT) (F : List BT) : L ++ fPs (b :: F) L.length = (L ++ b.ps L.length) ++ fPs F (L ++ b.ps L.length).length := by
  rw [List.length_append, BT.ps_len, fPs, List.append_assoc]

theorem refO_ps (s : List UInt8) : ∀ f p L L', refO s f p L = some L' → ∃ F : List BT, (∀ b ∈ F, b.Fit) ∧ L' = L ++ fPs F L.length
  | 0, p, L, L', h => by
    rw [refO] at h
    split at h
    · cases h
    · injection h with h
      exact ⟨[], (fun b hb => by cases hb), by rw [← h]; simp [fPs]⟩
  | f + 1, p, L, L', h => by
    rw [refO] at h
    split at h
    · cases h1 : partO s (s.length + 1) p L with
      | none => rw [h1] at h; cases h
      | some r =>
        obtain ⟨p1, L1⟩ := r
        rw [h1] at h
        simp only at h
        split at h
        · obtain ⟨b, f1, e1, _⟩ := partO_ps s _ _ _ _ _ h1
          obtain ⟨F, f2, e2⟩ := refO_ps s f _ _ _ h
          refine ⟨b :: F, fun c hc => ?_, ?_⟩
          · rcases List.mem_cons.1 hc with rfl | hc
            · exact f1
            · exact f2 c hc
          · rw [fPs_app, ← e1, e2]
        · cases h
    · injection h with h
      exact ⟨[], (fun b hb => by cases hb), by rw [← h]; simp [fPs]⟩

/- The text of a forest is read. -/
theorem getD_at (pre l suf : List UInt8) (c : UInt8) : (pre ++ c :: l ++ suf).getD pre.length 0 = c := by
  rw [List.append_assoc, List.getD_eq_getElem?_getD, List.getElem?_append_right (Nat.le_refl _), Nat.sub_self]
  rfl
theorem at8_hit {s pre l suf : List UInt8} {c : UInt8} (hs : s = pre ++ c :: l ++ suf) (b : Nat) : at8 s pre.length b = decide (c.toNat = b) := by
  unfold at8
  have : pre.length < s.length := by rw [hs]; simp
  rw [hs, getD_at]
  simp only [hs] at this
  by_cases h : c.toNat = b
  · rw [decide_eq_true ⟨this, h⟩, decide_eq_true h]
  · rw [decide_eq_false (fun q => h q.2), decide_eq_false h]

/-- No digit comes next. -/
def NoD (suf : List UInt8) : Prop := ∀ c r, suf = c :: r → ¬ (48 ≤ c.toNat ∧ c.toNat ≤ 57)

def dstep (a : Nat) (c : UInt8) : Nat := 10 * a + (c.toNat - 48)
def dval (x : Nat) (l : List UInt8) : Nat := l.foldl dstep x
theorem dval_cons (x : Nat) (c : UInt8) (l : List UInt8) : dval x (c :: l) = dval (10 * x + (c.toNat - 48)) l := by
  unfold dval
  rw [List.foldl_cons]
  rfl
theorem dval_nil (x : Nat) : dval x [] = x := by unfold dval; rw [List.foldl_nil]
theorem dval_one (x : Nat) (c : UInt8) : dval x [c] = 10 * x + (c.toNat - 48) := by rw [dval_cons, dval_nil]
theorem dval_append (l1 l2 : List UInt8) (x : Nat) : dval x (l1 ++ l2) = dval (dval x l1) l2 := by unfold dval; rw [List.foldl_append]
theorem dval_dec : ∀ u : Nat, dval 0 (Lib.decDigits u) = u := by
  intro u
  induction u using Nat.strongRecOn with
  | _ u ih =>
    rw [Lib.decDigits]
    split
    · rename_i h
      rw [dval_one, ofNat48 h]; omega
    · rw [dval_append, ih (u / 10) (by omega), dval_one, ofNat48 (by omega)]
      omega
theorem dec_len : ∀ (k u : Nat), u < 10 ^ (k + 1) → (Lib.decDigits u).length ≤ k + 1
  | 0, u, h => by
    rw [Lib.decDigits, dif_pos (by simpa using h)]
    simp
  | k + 1, u, h => by
    rw [Lib.decDigits]
    split
    · simp
    · rw [List.length_append, List.length_singleton]
      have := dec_len k (u / 10) (by rw [Nat.pow_succ] at h; omega)
      omega

theorem rDig_run (s : List UInt8) : ∀ (l pre suf : List UInt8) (k x : Nat), s = pre ++ l ++ suf → (∀ c ∈ l, 48 ≤ c.toNat ∧ c.toNat ≤ 57) → l.length ≤ k → NoD suf → rDig s k pre.length x = (dval x l, pre.length + l.length)
  | [], pre, suf, k, x, hs, hd, hk, hn => by
    rw [dval_nil]
    cases k with
    | zero => rfl
    | succ k =>
      rw [rDig, if_neg]
      · rfl
      · intro h
        cases suf with
        | nil =>
          have := h.1
          rw [hs] at this
          simp at this
        | cons c r =>
          have e : s.getD pre.length 0 = c := by
            rw [hs, List.append_nil, List.getD_eq_getElem?_getD, List.getElem?_append_right (Nat.le_refl _), Nat.sub_self]
            rfl
          have h2 := h.2
          rw [e] at h2
          exact hn c r rfl h2
  | c :: l, pre, suf, k, x, hs, hd, hk, hn => by
    cases k with
    | zero => simp at hk
    | succ k =>
      have hc := hd c (List.mem_cons_self ..)
      have e : s.getD pre.length 0 = c := by rw [hs]; exact getD_at _ _ _ _
      have hlt : pre.length < s.length := by rw [hs]; simp
      rw [rDig, if_pos ⟨hlt, by rw [e]; exact hc⟩, e]
      have := rDig_run s l (pre ++ [c]) suf k (10 * x + (c.toNat - 48)) (by rw [hs]; simp) (fun d hd' => hd d (List.mem_cons_of_mem _ hd')) (by simpa using hk) hn
      rw [List.length_append, List.length_singleton] at this
      rw [this, dval_cons, List.length_cons]
      congr 1
      omega

theorem rNum_run {s pre suf : List UInt8} {h : Int} (hs : s = pre ++ Lib.itoa h ++ suf) (hh : In64 h) (hn : NoD suf) : rNum s pre.length = some (h, pre.length + (Lib.itoa h).length) := by
  unfold In64 at hh
  have p19 : (10 : Nat) ^ 19 = 10000000000000000000 := by decide
  unfold rNum
  by_cases hneg : h < 0
  · have e : Lib.itoa h = 45 :: Lib.decDigits h.natAbs := by unfold Lib.itoa; rw [if_pos hneg]
    rw [e] at hs ⊢
    rw [at8_hit hs 45, if_pos (by decide)]
    have hlen := dec_len 18 h.natAbs (by rw [p19]; omega)
    have hr := rDig_run s (Lib.decDigits h.natAbs) (pre ++ [45]) suf 19 0 (by rw [hs]; simp) (decDigits_dig _) hlen hn
    rw [List.length_append, List.length_singleton, dval_dec] at hr
    have hp := List.length_pos_iff.2 (decDigits_ne h.natAbs)
    rw [hr]
    simp only
    rw [if_neg (by omega), List.length_cons]
    congr 2
    · omega
    · omega
  · have e : Lib.itoa h = Lib.decDigits h.toNat := by unfold Lib.itoa; rw [if_neg hneg]
    rw [e] at hs ⊢
    have hlen := dec_len 18 h.toNat (by rw [p19]; omega)
    have hd := decDigits_dig h.toNat
    have hr := rDig_run s (Lib.decDigits h.toNat) pre suf 19 0 hs hd hlen hn
    rw [dval_dec] at hr
    have hp := List.length_pos_iff.2 (decDigits_ne h.toNat)
    have h45 : at8 s pre.length 45 = false := by
      cases hl : Lib.decDigits h.toNat with
      | nil => exact absurd hl (decDigits_ne _)
      | cons c r =>
        rw [hl] at hs
        rw [at8_hit hs 45, decide_eq_false]
        have := hd c (by rw [hl]; exact List.mem_cons_self ..)
        omega
    rw [h45, if_neg (by simp), hr]
    simp only
    rw [if_neg (by omega)]
    congr 2
    omega

theorem noD_of {c : UInt8} {r : List UInt8} (h : c.toNat < 48 ∨ 57 < c.toNat) : NoD (c :: r) := fun d q e => by
  injection e with e1
  subst e1
  omega

theorem run_part : ∀ (b : BT) (s pre suf : List UInt8) (f : Nat) (L : List Pt), s = pre ++ b.txt ++ suf → NoD suf → b.Fit → b.dep < f → partO s f pre.length L = some (pre.length + b.txt.length, L ++ b.ps L.length)
  | .leaf x, s, pre, suf, f, L, hs, hn, hf, hd => by
    obtain ⟨g, rfl⟩ : ∃ g, f = g + 1 := ⟨f - 1, by omega⟩
    have hf : x < 4096 := hf
    have hr := rNum_run (h := (x : Int)) hs (by unfold In64; omega) hn
    have h40 : at8 s pre.length 40 = false := by
      have hd := decDigits_dig (x : Int).toNat
      have e : Lib.itoa (x : Int) = Lib.decDigits (x : Int).toNat := by unfold Lib.itoa; rw [if_neg (by omega)]
      have hs' : s = pre ++ Lib.itoa (x : Int) ++ suf := hs
      rw [e] at hs'
      cases hl : Lib.decDigits (x : Int).toNat with
      | nil => exact absurd hl (decDigits_ne _)
      | cons c r =>
        rw [hl] at hs'
        rw [at8_hit hs' 40, decide_eq_false]
        have := hd c (by rw [hl]; exact List.mem_cons_self ..)
        omega
    rw [partO, h40, if_neg (by simp), hr]
    simp only
    rw [if_neg (by omega)]
    rfl
  | .node l r h, s, pre, suf, f, L, hs, hn, hf, hd => by
    obtain ⟨g, rfl⟩ : ∃ g, f = g + 1 := ⟨f - 1, by omega⟩
    obtain ⟨fl, fr, f64⟩ := hf
    have hd' : max l.dep r.dep + 1 < g + 1 := hd
    have hs1 : s = pre ++ 40 :: (l.txt ++ 44 :: (r.txt ++ 41 :: 58 :: Lib.itoa h)) ++ suf := hs
    have hs2 : s = (pre ++ [40]) ++ l.txt ++ (44 :: (r.txt ++ 41 :: 58 :: Lib.itoa h) ++ suf) := by rw [hs1]; simp [List.append_assoc]
    have hs3 : s = (pre ++ [40] ++ l.txt) ++ 44 :: (r.txt ++ 41 :: 58 :: Lib.itoa h) ++ suf := by rw [hs1]; simp [List.append_assoc]
    have hs4 : s = (pre ++ [40] ++ l.txt ++ [44]) ++ r.txt ++ (41 :: 58 :: Lib.itoa h ++ suf) := by rw [hs1]; simp [List.append_assoc]
    have hs5 : s = (pre ++ [40] ++ l.txt ++ [44] ++ r.txt) ++ 41 :: (58 :: Lib.itoa h) ++ suf := by rw [hs1]; simp [List.append_assoc]
    have hs6 : s = (pre ++ [40] ++ l.txt ++ [44] ++ r.txt ++ [41]) ++ 58 :: Lib.itoa h ++ suf := by rw [hs1]; simp [List.append_assoc]
    have hs7 : s = (pre ++ [40] ++ l.txt ++ [44] ++ r.txt ++ [41] ++ [58]) ++ Lib.itoa h ++ suf := by rw [hs1]; simp [List.append_assoc]
    have l2 : (pre ++ [40]).length = pre.length + 1 := by simp
    have l3 : (pre ++ [40] ++ l.txt).length = pre.length + 1 + l.txt.length := by simp; omega
    have l4 : (pre ++ [40] ++ l.txt ++ [44]).length = pre.length + 1 + l.txt.length + 1 := by simp; omega
    have l5 : (pre ++ [40] ++ l.txt ++ [44] ++ r.txt).length = pre.length + 1 + l.txt.length + 1 + r.txt.length := by simp; omega
    have l6 : (pre ++ [40] ++ l.txt ++ [44] ++ r.txt ++ [41]).length = pre.length + 1 + l.txt.length + 1 + r.txt.length + 1 := by simp; omega
    have l7 : (pre ++ [40] ++ l.txt ++ [44] ++ r.txt ++ [41] ++ [58]).length = pre.length + 1 + l.txt.length + 1 + r.txt.length + 2 := by simp; omega
    have a1 : at8 s pre.length 40 = true := by rw [at8_hit hs1 40]; decide
    have a3 := at8_hit hs3 44
    have a5 := at8_hit hs5 41
    have a6 := at8_hit hs6 58
    rw [l3] at a3
    rw [l5] at a5
    rw [l6] at a6
    have r2 := run_part l s (pre ++ [40]) _ g L hs2 (noD_of (.inl (by decide))) fl (by omega)
    rw [l2] at r2
    have r4 := run_part r s (pre ++ [40] ++ l.txt ++ [44]) _ g (L ++ l.ps L.length) hs4 (noD_of (.inl (by decide))) fr (by omega)
    rw [l4] at r4
    have r7 := rNum_run hs7 f64 hn
    rw [l7] at r7
    rw [partO, a1, if_pos rfl, r2]
    simp only
    rw [a3, if_pos (by decide), r4]
    simp only
    rw [a5, a6, if_pos (by decide), r7]
    simp only
    have hl1 : (L ++ l.ps L.length).length = L.length + l.sz := by rw [List.length_append, BT.ps_len]
    have hl2 : (L ++ l.ps L.length ++ r.ps (L ++ l.ps L.length).length).length = L.length + l.sz + r.sz := by rw [List.length_append, BT.ps_len, hl1]
    rw [hl2, hl1]
    congr 2
    · simp [BT.txt]; omega
    · rw [BT.ps]
      simp only [List.append_assoc]

theorem txt_len_pos (b : BT) : 0 < b.txt.length := by
  cases b with
  | leaf x =>
    unfold BT.txt
    have e : Lib.itoa (x : Int) = Lib.decDigits (x : Int).toNat := by unfold Lib.itoa; rw [if_neg (by omega)]
    rw [e]
    exact List.length_pos_iff.2 (decDigits_ne _)
  | node l r h => simp [BT.txt]
theorem dep_le_txt : ∀ b : BT, b.dep < b.txt.length
  | .leaf x => txt_len_pos _
  | .node l r h => by
    have h1 := dep_le_txt l
    have h2 := dep_le_txt r
    simp [BT.dep, BT.txt]
    omega

theorem run_ref : ∀ (F : List BT) (s pre : List UInt8) (f : Nat) (L : List Pt), s = pre ++ fTxt F → (∀ b ∈ F, b.Fit) → F.length ≤ f → refO s f pre.length L = some (L ++ fPs F L.length)
  | [], s, pre, f, L, hs, hf, hk => by
    have hlt : ¬ pre.length < s.length := by rw [hs]; simp [fTxt]
    cases f with
    | zero => rw [refO, if_neg hlt]; simp [fPs]
    | succ f => rw [refO, if_neg hlt]; simp [fPs]
  | b :: F, s, pre, f, L, hs, hf, hk => by
    obtain ⟨g, rfl⟩ : ∃ g, f = g + 1 := ⟨f - 1, by simp at hk; omega⟩
    have hb := hf b (List.mem_cons_self ..)
    have ef : fTxt (b :: F) = b.txt ++ 59 :: fTxt F := by simp [fTxt]
    have hs1 : s = pre ++ b.txt ++ (59 :: fTxt F) := by rw [hs, ef]; simp
    have hs2 : s = (pre ++ b.txt) ++ 59 :: fTxt F ++ [] := by rw [hs1]; simp
    have hs3 : s = (pre ++ b.txt ++ [59]) ++ fTxt F := by rw [hs1]; simp
    have hp := txt_len_pos b
    have hlt : pre.length < s.length := by rw [hs1]; simp; omega
    have hdep : b.dep < s.length + 1 := by
      have := dep_le_txt b
      rw [hs1]; simp; omega
    have r1 := run_part b s pre _ (s.length + 1) L hs1 (noD_of (.inr (by decide))) hb hdep
    have a2 := at8_hit hs2 59
    rw [List.length_append] at a2
    rw [refO, if_pos hlt, r1]
    simp only
    rw [a2, if_pos (by decide)]
    have l3 : (pre ++ b.txt ++ [59]).length = pre.length + b.txt.length + 1 := by simp; omega
    have := run_ref F s (pre ++ b.txt ++ [59]) g (L ++ b.ps L.length) hs3 (fun c hc => hf c (List.mem_cons_of_mem _ hc)) (by simp at hk; omega)
    rw [l3] at this
    rw [this, fPs_app]

end Go.Proofs.YthacjealoomioaaGreatDoor

/- The tree of joints: by the program's rounds, and by the reference's. No program in sight. -/
namespace Go.Proofs.YthacjealoomioaaGreatDoor
set_option linter.unusedVariables false
set_option linter.unusedSimpArgs false

def JA (J : List Jt) (i : Nat) : Jt := J.getD i jt0
def hsE (J : List Jt) : List Ed := J.map fun j => ⟨0, 0, j.h⟩
theorem hsE_len (J : List Jt) : (hsE J).length = J.length := List.length_map _
theorem hsE_w {J : List Jt} {i : Nat} (hi : i < J.length) : wI (hsE J) i = (JA J i).h := by
  unfold wI EA hsE JA
  rw [List.getD_eq_getElem?_getD, List.getElem?_map, List.getD_eq_getElem?_getD, List.getElem?_eq_getElem hi]
  rfl

/-- The joints by height, and then by index. -/
def ordJ (J : List Jt) : List Nat := ordL (hsE J)
def rkJ (J : List Jt) (i : Nat) : Nat := (ordJ J).idxOf i
theorem ordJ_len (J : List Jt) : (ordJ J).length = J.length := (ord_length _).trans (hsE_len J)
theorem ordJ_nodup (J : List Jt) : (ordJ J).Nodup := (ord_perm _).nodup_iff.2 List.nodup_range
theorem ordJ_mem {J : List Jt} {i : Nat} : i ∈ ordJ J ↔ i < J.length := by
  unfold ordJ
  rw [(ord_perm (hsE J)).mem_iff, List.mem_range, hsE_len]
theorem rk_lt {J : List Jt} {i : Nat} (hi : i < J.length) : rkJ J i < J.length := by
  have := List.idxOf_lt_length_iff.2 (ordJ_mem.2 hi)
  rw [ordJ_len] at this
  exact this
theorem at_rk {J : List Jt} {i : Nat} (hi : i < J.length) : (ordJ J).getD (rkJ J i) 0 = i := by
  have h := List.idxOf_lt_length_iff.2 (ordJ_mem.2 hi)
  show (ordJ J).getD ((ordJ J).idxOf i) 0 = i
  rw [List.getD_eq_getElem?_getD, List.getElem?_eq_getElem h]
  show (ordJ J)[(ordJ J).idxOf i] = i
  exact List.getElem_idxOf h
theorem ordJ_at_lt {J : List Jt} {k : Nat} (hk : k < J.length) : (ordJ J).getD k 0 < J.length := by
  rw [← ordJ_mem, List.getD_eq_getElem?_getD, List.getElem?_eq_getElem (by rw [ordJ_len]; exact hk)]
  exact List.getElem_mem _
theorem gd_inj {q : List Nat} (h : q.Nodup) {i j : Nat} (hi : i < q.length) (hj : j < q.length) (e : q.getD i 0 = q.getD j 0) : i = j := by
  rw [List.getD_eq_getElem?_getD, List.getD_eq_getElem?_getD, List.getElem?_eq_getElem hi, List.getElem?_eq_getElem hj] at e
  exact (List.getElem_inj h).1 e
theorem rk_at {J : List Jt} {k : Nat} (hk : k < J.length) : rkJ J ((ordJ J).getD k 0) = k :=
  gd_inj (ordJ_nodup J) (by rw [ordJ_len]; exact rk_lt (ordJ_at_lt hk)) (by rw [ordJ_len]; exact hk) (at_rk (ordJ_at_lt hk))
theorem rk_inj {J : List Jt} {i j : Nat} (hi : i < J.length) (hj : j < J.length) (e : rkJ J i = rkJ J j) : i = j := by rw [← at_rk hi, e, at_rk hj]
theorem rk_olt {J : List Jt} {i j : Nat} (hi : i < J.length) (hj : j < J.length) (h : olt (hsE J) i j) : rkJ J i < rkJ J j := by
  apply Classical.byContradiction
  intro hc
  have hne : rkJ J i ≠ rkJ J j := fun e => by
    have := rk_inj hi hj e
    subst this
    exact olt_irrefl _ _ h
  have hs := ord_sorted (hsE J)
  have l1 := rk_lt hi
  have l2 := rk_lt hj
  have := (List.pairwise_iff_getElem.1 hs) (rkJ J j) (rkJ J i) (by rw [ord_length, hsE_len]; exact l2) (by rw [ord_length, hsE_len]; exact l1) (by omega)
  have e1 := at_rk hi
  have e2 := at_rk hj
  unfold ordJ at e1 e2
  rw [List.getD_eq_getElem?_getD, List.getElem?_eq_getElem (by rw [ord_length, hsE_len]; exact l1)] at e1
  rw [List.getD_eq_getElem?_getD, List.getElem?_eq_getElem (by rw [ord_length, hsE_len]; exact l2)] at e2
  have e1' : (ordL (hsE J))[rkJ J i]'(by rw [ord_length, hsE_len]; exact l1) = i := e1
  have e2' : (ordL (hsE J))[rkJ J j]'(by rw [ord_length, hsE_len]; exact l2) = j := e2
  rw [e1', e2'] at this
  exact olt_asymm this h

/-- The node that a code names. -/
def jx (c : Int) : Nat := (-1 - c).toNat
def nd (n : Nat) (J : List Jt) (c : Int) : Nat := if c < 0 then n + rkJ J (jx c) else c.toNat

/-- Joints that come from a forest: n leaves; lv: how many leaves are below each joint. -/
structure NJ (n : Nat) (J : List Jt) (V : Nat → Nat) : Prop where
  l : ∀ i, i < J.length → (0 ≤ (JA J i).l ∧ (JA J i).l < n) ∨ ((JA J i).l < 0 ∧ jx (JA J i).l < i)
  r : ∀ i, i < J.length → (0 ≤ (JA J i).r ∧ (JA J i).r < n) ∨ ((JA J i).r < 0 ∧ jx (JA J i).r < i)
  lr : ∀ i, i < J.length → (JA J i).l ≠ (JA J i).r
  ij : ∀ i j, i < J.length → j < J.length → i ≠ j → (JA J i).l ≠ (JA J j).l ∧ (JA J i).l ≠ (JA J j).r ∧ (JA J i).r ≠ (JA J j).r
  hl : ∀ i, i < J.length → (JA J i).l < 0 → (JA J (jx (JA J i).l)).h ≤ (JA J i).h
  hr : ∀ i, i < J.length → (JA J i).r < 0 → (JA J (jx (JA J i).r)).h ≤ (JA J i).h
  lv : ∀ i, i < J.length → V i = (if (JA J i).l < 0 then V (jx (JA J i).l) else 1) + (if (JA J i).r < 0 then V (jx (JA J i).r) else 1)
  lvn : ∀ i, i < J.length → V i ≤ 4096

/-- A code of a child. -/
def IsC (n : Nat) (J : List Jt) (c : Int) : Prop := (0 ≤ c ∧ c < n) ∨ (c < 0 ∧ jx c < J.length)
theorem nd_lt {n : Nat} {J : List Jt} {c : Int} (h : IsC n J c) : nd n J c < n + J.length := by
  unfold nd
  rcases h with h | h
  · rw [if_neg (by omega)]; omega
  · rw [if_pos h.1]
    have := rk_lt h.2
    omega
theorem nd_inj {n : Nat} {J : List Jt} {c d : Int} (h : IsC n J c) (k : IsC n J d) (e : nd n J c = nd n J d) : c = d := by
  unfold nd at e
  rcases h with h | h <;> rcases k with k | k
  · rw [if_neg (by omega), if_neg (by omega)] at e; omega
  · rw [if_neg (by omega), if_pos k.1] at e; omega
  · rw [if_pos h.1, if_neg (by omega)] at e; omega
  · rw [if_pos h.1, if_pos k.1] at e
    have := rk_inj h.2 k.2 (by omega)
    unfold jx at this
    omega
theorem NJ.cl {n : Nat} {J : List Jt} {lv : Nat → Nat} (h : NJ n J lv) {i : Nat} (hi : i < J.length) : IsC n J (JA J i).l := by
  rcases h.l i hi with h | h
  · exact .inl h
  · exact .inr ⟨h.1, by omega⟩
theorem NJ.cr {n : Nat} {J : List Jt} {lv : Nat → Nat} (h : NJ n J lv) {i : Nat} (hi : i < J.length) : IsC n J (JA J i).r := by
  rcases h.r i hi with h | h
  · exact .inl h
  · exact .inr ⟨h.1, by omega⟩

/-- The arrays, as far as the joints of D are done. -/
structure TI (n : Nat) (J : List Jt) (lv : Nat → Nat) (D : Nat → Prop) (t : Tr) : Prop where
  tl : t.lv = n
  ll : t.left.length = n + J.length
  rl : t.right.length = n + J.length
  pl : t.par.length = n + J.length
  hl : t.hgt.length = n + J.length
  sl : t.siz.length = n + J.length
  lf : ∀ x, x < n → gi t.left x = -1 ∧ gi t.right x = -1 ∧ gi t.hgt x = 0 ∧ gi t.siz x = 1
  dn : ∀ i, i < J.length → D i → gi t.left (n + rkJ J i) = nd n J (JA J i).l ∧ gi t.right (n + rkJ J i) = nd n J (JA J i).r ∧ gi t.hgt (n + rkJ J i) = (JA J i).h ∧ gi t.siz (n + rkJ J i) = lv i
  pr : ∀ i, i < J.length → D i → gi t.par (nd n J (JA J i).l) = ((n + rkJ J i : Nat) : Int) ∧ gi t.par (nd n J (JA J i).r) = ((n + rkJ J i : Nat) : Int)
  pn : ∀ y, y < n + J.length → (∀ i, i < J.length → D i → nd n J (JA J i).l ≠ y ∧ nd n J (JA J i).r ≠ y) → gi t.par y = -1

/-- One joint is put at its place. -/
def putJ (n : Nat) (J : List Jt) (t : Tr) (i : Nat) : Tr :=
  ⟨t.lv, t.left.set (n + rkJ J i) (nd n J (JA J i).l), t.right.set (n + rkJ J i) (nd n J (JA J i).r), (t.par.set (nd n J (JA J i).l) ((n + rkJ J i : Nat) : Int)).set (nd n J (JA J i).r) ((n + rkJ J i : Nat) : Int), t.hgt.set (n + rkJ J i) (JA J i).h, t.siz.set (n + rkJ J i) (IntKind.i64.wrap (gi t.siz (nd n J (JA J i).l) + gi t.siz (nd n J (JA J i).r)))⟩

theorem gi_set {l : List Int} {i j : Nat} {x : Int} (h : i < l.length) : gi (l.set i x) j = if i = j then x else gi l j := by
  by_cases e : i = j
  · subst e; rw [if_pos rfl, gi_set_self h]
  · rw [if_neg e, gi_set_ne e]

theorem TI.step {n : Nat} {J : List Jt} {lv : Nat → Nat} {D : Nat → Prop} {t : Tr} (h : TI n J lv D t) (hj : NJ n J lv) {i : Nat} (hi : i < J.length) (hD : ¬ D i) (hl : (JA J i).l < 0 → D (jx (JA J i).l)) (hr : (JA J i).r < 0 → D (jx (JA J i).r)) :
    TI n J lv (fun k => D k ∨ k = i) (putJ n J t i) := by
  have rl := rk_lt hi
  have c1 := nd_lt (hj.cl hi)
  have c2 := nd_lt (hj.cr hi)
  have e1 := h.ll
  have e2 := h.rl
  have e3 := h.pl
  have e4 := h.hl
  have e5 := h.sl
  have szof : ∀ c, IsC n J c → (c < 0 → D (jx c)) → gi t.siz (nd n J c) = ((if c < 0 then lv (jx c) else 1 : Nat) : Int) := fun c hc hd => by
    unfold nd
    rcases hc with hc | hc
    · rw [if_neg (by omega), if_neg (by omega), (h.lf c.toNat (by omega)).2.2.2]; rfl
    · rw [if_pos hc.1, if_pos hc.1, (h.dn _ hc.2 (hd hc.1)).2.2.2]
  have hsz : IntKind.i64.wrap (gi t.siz (nd n J (JA J i).l) + gi t.siz (nd n J (JA J i).r)) = (lv i : Int) := by
    have hlv := hj.lvn i hi
    rw [szof _ (hj.cl hi) hl, szof _ (hj.cr hi) hr, ← Int.natCast_add, ← hj.lv i hi]
    exact IntWalk.i64_in _ (by omega)
  have rne : ∀ k, k < J.length → k ≠ i → n + rkJ J i ≠ n + rkJ J k := fun k hk hne e => hne (rk_inj hk hi (by omega))
  refine ⟨h.tl, by simp [putJ, e1], by simp [putJ, e2], by simp [putJ, e3], by simp [putJ, e4], by simp [putJ, e5], fun x hx => ?_, fun k hk hd => ?_, fun k hk hd => ?_, fun y hy hno => ?_⟩
  · unfold putJ
    simp only
    rw [gi_set (by omega), gi_set (by omega), gi_set (by omega), gi_set (by omega), if_neg (by omega), if_neg (by omega), if_neg (by omega), if_neg (by omega)]
    exact h.lf x hx
  · unfold putJ
    simp only
    rw [gi_set (by omega), gi_set (by omega), gi_set (by omega), gi_set (by omega)]
    by_cases e : k = i
    · subst e
      rw [if_pos rfl, if_pos rfl, if_pos rfl, if_pos rfl, hsz]
      exact ⟨rfl, rfl, rfl, rfl⟩
    · have := rne k hk e
      rw [if_neg this, if_neg this, if_neg this, if_neg this]
      rcases hd with hd | hd
      · exact h.dn k hk hd
      · exact absurd hd e
  · unfold putJ
    simp only
    rw [gi_set (by rw [List.length_set]; omega), gi_set (by omega), gi_set (by rw [List.length_set]; omega), gi_set (by omega)]
    by_cases e : k = i
    · subst e
      refine ⟨?_, if_pos rfl⟩
      split
      · rfl
      · exact if_pos rfl
    · obtain ⟨i1, i2, i3⟩ := hj.ij i k hi hk (fun q => e q.symm)
      have i4 := (hj.ij k i hk hi e).2.1
      have n1 : nd n J (JA J i).l ≠ nd n J (JA J k).l := fun q => i1 (nd_inj (hj.cl hi) (hj.cl hk) q)
      have n2 : nd n J (JA J i).l ≠ nd n J (JA J k).r := fun q => i2 (nd_inj (hj.cl hi) (hj.cr hk) q)
      have n3 : nd n J (JA J i).r ≠ nd n J (JA J k).r := fun q => i3 (nd_inj (hj.cr hi) (hj.cr hk) q)
      have n4 : nd n J (JA J i).r ≠ nd n J (JA J k).l := fun q => i4 (nd_inj (hj.cr hi) (hj.cl hk) q).symm
      rw [if_neg n4, if_neg n1, if_neg n3, if_neg n2]
      rcases hd with hd | hd
      · exact h.pr k hk hd
      · exact absurd hd e
  · unfold putJ
    simp only
    obtain ⟨y1, y2⟩ := hno i hi (.inr rfl)
    rw [gi_set (by rw [List.length_set]; omega), gi_set (by omega), if_neg y2, if_neg y1]
    exact h.pn y hy (fun k hk hd => hno k hk (.inl hd))

theorem TI.congr {n : Nat} {J : List Jt} {lv : Nat → Nat} {D E : Nat → Prop} {t : Tr} (h : TI n J lv D t) (e : ∀ i, i < J.length → (D i ↔ E i)) : TI n J lv E t :=
  ⟨h.tl, h.ll, h.rl, h.pl, h.hl, h.sl, h.lf, fun i hi hd => h.dn i hi ((e i hi).2 hd), fun i hi hd => h.pr i hi ((e i hi).2 hd), fun y hy hno => h.pn y hy (fun i hi hd => hno i hi ((e i hi).1 hd))⟩

theorem gi_ext {l l' : List Int} (h : l.length = l'.length) (he : ∀ x, x < l.length → gi l x = gi l' x) : l = l' := by
  apply List.ext_getElem h
  intro i h1 h2
  have := he i h1
  unfold gi at this
  rw [List.getD_eq_getElem?_getD, List.getD_eq_getElem?_getD, List.getElem?_eq_getElem h1, List.getElem?_eq_getElem h2] at this
  exact this

/-- All done: there is one tree only. -/
theorem TI.unique {n : Nat} {J : List Jt} {lv : Nat → Nat} {t t' : Tr} (h : TI n J lv (fun _ => True) t) (h' : TI n J lv (fun _ => True) t') : t = t' := by
  have key : ∀ x, x < n + J.length → x < n ∨ ∃ i, i < J.length ∧ x = n + rkJ J i := fun x hx => by
    by_cases c : x < n
    · exact .inl c
    · exact .inr ⟨(ordJ J).getD (x - n) 0, ordJ_at_lt (by omega), by rw [rk_at (by omega)]; omega⟩
  have e1 : t.left = t'.left := gi_ext (h.ll.trans h'.ll.symm) (fun x hx => by
    rcases key x (by rw [← h.ll]; exact hx) with c | ⟨i, hi, rfl⟩
    · rw [(h.lf x c).1, (h'.lf x c).1]
    · rw [(h.dn i hi trivial).1, (h'.dn i hi trivial).1])
  have e2 : t.right = t'.right := gi_ext (h.rl.trans h'.rl.symm) (fun x hx => by
    rcases key x (by rw [← h.rl]; exact hx) with c | ⟨i, hi, rfl⟩
    · rw [(h.lf x c).2.1, (h'.lf x c).2.1]
    · rw [(h.dn i hi trivial).2.1, (h'.dn i hi trivial).2.1])
  have e3 : t.hgt = t'.hgt := gi_ext (h.hl.trans h'.hl.symm) (fun x hx => by
    rcases key x (by rw [← h.hl]; exact hx) with c | ⟨i, hi, rfl⟩
    · rw [(h.lf x c).2.2.1, (h'.lf x c).2.2.1]
    · rw [(h.dn i hi trivial).2.2.1, (h'.dn i hi trivial).2.2.1])
  have e4 : t.siz = t'.siz := gi_ext (h.sl.trans h'.sl.symm) (fun x hx => by
    rcases key x (by rw [← h.sl]; exact hx) with c | ⟨i, hi, rfl⟩
    · rw [(h.lf x c).2.2.2, (h'.lf x c).2.2.2]
    · rw [(h.dn i hi trivial).2.2.2, (h'.dn i hi trivial).2.2.2])
  have e5 : t.par = t'.par := gi_ext (h.pl.trans h'.pl.symm) (fun y hy => by
    by_cases c : ∃ i, i < J.length ∧ (nd n J (JA J i).l = y ∨ nd n J (JA J i).r = y)
    · obtain ⟨i, hi, hc⟩ := c
      rcases hc with rfl | rfl
      · rw [(h.pr i hi trivial).1, (h'.pr i hi trivial).1]
      · rw [(h.pr i hi trivial).2, (h'.pr i hi trivial).2]
    · have hno : ∀ i, i < J.length → True → nd n J (JA J i).l ≠ y ∧ nd n J (JA J i).r ≠ y := fun i hi _ => ⟨fun e => c ⟨i, hi, .inl e⟩, fun e => c ⟨i, hi, .inr e⟩⟩
      rw [h.pn y (by rw [← h.pl]; exact hy) hno, h'.pn y (by rw [← h.pl]; exact hy) hno])
  have e0 := h.tl.trans h'.tl.symm
  cases t
  cases t'
  simp only at e0 e1 e2 e3 e4 e5
  subst e0 e1 e2 e3 e4 e5
  rfl

/- The program's rounds: joint by joint. -/
def t0P (n m : Nat) : Tr := ⟨n, List.replicate (n + m) (-1), List.replicate (n + m) (-1), List.replicate (n + m) (-1), List.replicate (n + m) 0, List.replicate n 1 ++ List.replicate m 0⟩
def treeTo (n : Nat) (J : List Jt) : Nat → Option Tr
  | 0 => some (t0P n J.length)
  | i + 1 => match treeTo n J i with
    | none => none
    | some t => if n + J.length ≤ max (nd n J (JA J i).l) (nd n J (JA J i).r) then none else some (putJ n J t i)

/- The reference's rounds: by rank. -/
def t0R (n m : Nat) : Tr := ⟨n, List.replicate (n + m) (-1), List.replicate (n + m) (-1), List.replicate (n + m) (-1), List.replicate (n + m) 0, List.replicate (n + m) 1⟩
def ChOk (J : List Jt) (k : Nat) (c : Int) : Prop := 0 ≤ c ∨ rkJ J (jx c) < k
instance (J : List Jt) (k : Nat) (c : Int) : Decidable (ChOk J k c) := by unfold ChOk; infer_instance
def madeTo (n : Nat) (J : List Jt) : Nat → Option Tr
  | 0 => some (t0R n J.length)
  | k + 1 => match madeTo n J k with
    | none => none
    | some t => if ChOk J k (JA J ((ordJ J).getD k 0)).l ∧ ChOk J k (JA J ((ordJ J).getD k 0)).r then some (putJ n J t ((ordJ J).getD k 0)) else none

theorem gi_app_left {l l' : List Int} {x : Nat} (h : x < l.length) : gi (l ++ l') x = gi l x := by
  unfold gi
  rw [List.getD_eq_getElem?_getD, List.getElem?_append_left h, List.getD_eq_getElem?_getD]

theorem treeTo_ok {n : Nat} {J : List Jt} {lv : Nat → Nat} (hj : NJ n J lv) : ∀ i, i ≤ J.length → ∃ t, treeTo n J i = some t ∧ TI n J lv (fun k => k < i) t
  | 0, _ => ⟨_, rfl, rfl, by simp [t0P], by simp [t0P], by simp [t0P], by simp [t0P], by simp [t0P], fun x hx => by
      unfold t0P
      simp only
      rw [gi_rep (by omega), gi_rep (by omega), gi_app_left (by simpa using hx), gi_rep hx]
      exact ⟨rfl, rfl, rfl, rfl⟩, fun k hk hd => by omega, fun k hk hd => by omega, fun y hy _ => by
      unfold t0P
      exact gi_rep hy⟩
  | i + 1, hi => by
    obtain ⟨t, h1, h2⟩ := treeTo_ok hj i (by omega)
    have c1 := nd_lt (hj.cl (i := i) (by omega))
    have c2 := nd_lt (hj.cr (i := i) (by omega))
    rw [treeTo, h1]
    simp only
    rw [if_neg (by omega)]
    refine ⟨_, rfl, (h2.step hj (i := i) (by omega) (Nat.lt_irrefl i) (fun h => ?_) (fun h => ?_)).congr (fun k _ => by omega)⟩
    · rcases hj.l i (by omega) with q | q
      · omega
      · exact q.2
    · rcases hj.r i (by omega) with q | q
      · omega
      · exact q.2

theorem child_rk {J : List Jt} {i c : Nat} (hi : i < J.length) (hc : c < i) (hh : (JA J c).h ≤ (JA J i).h) : rkJ J c < rkJ J i := by
  refine rk_olt (by omega) hi ?_
  unfold olt
  rw [hsE_w (by omega), hsE_w hi]
  omega

theorem madeTo_ok {n : Nat} {J : List Jt} {lv : Nat → Nat} (hj : NJ n J lv) : ∀ k, k ≤ J.length → ∃ t, madeTo n J k = some t ∧ TI n J lv (fun i => rkJ J i < k) t
  | 0, _ => ⟨_, rfl, rfl, by simp [t0R], by simp [t0R], by simp [t0R], by simp [t0R], by simp [t0R], fun x hx => by
      unfold t0R
      simp only
      rw [gi_rep (by omega), gi_rep (by omega), gi_rep (by omega)]
      exact ⟨rfl, rfl, rfl, rfl⟩, fun k hk hd => by omega, fun k hk hd => by omega, fun y hy _ => by
      unfold t0R
      exact gi_rep hy⟩
  | k + 1, hk => by
    obtain ⟨t, h1, h2⟩ := madeTo_ok hj k (by omega)
    have hi := ordJ_at_lt (J := J) (k := k) (by omega)
    have hrk := rk_at (J := J) (k := k) (by omega)
    rw [madeTo, h1]
    simp only
    generalize (ordJ J).getD k 0 = i at *
    have hl : (JA J i).l < 0 → rkJ J (jx (JA J i).l) < k := fun h => by
      rcases hj.l i hi with q | q
      · omega
      · rw [← hrk]; exact child_rk hi q.2 (hj.hl i hi h)
    have hr : (JA J i).r < 0 → rkJ J (jx (JA J i).r) < k := fun h => by
      rcases hj.r i hi with q | q
      · omega
      · rw [← hrk]; exact child_rk hi q.2 (hj.hr i hi h)
    rw [if_pos ⟨by unfold ChOk; omega, by unfold ChOk; omega⟩]
    refine ⟨_, rfl, (h2.step hj hi (by omega) hl hr).congr (fun j hj' => ?_)⟩
    constructor
    · rintro (h | rfl) <;> omega
    · intro h
      by_cases e : rkJ J j < k
      · exact .inl e
      · exact .inr (rk_inj hj' hi (by omega))

/-- Both make the same tree. -/
theorem both_made {n : Nat} {J : List Jt} {lv : Nat → Nat} (hj : NJ n J lv) : ∃ t, treeTo n J J.length = some t ∧ madeTo n J J.length = some t ∧ TI n J lv (fun _ => True) t := by
  obtain ⟨t, h1, h2⟩ := treeTo_ok hj J.length (Nat.le_refl _)
  obtain ⟨t', h3, h4⟩ := madeTo_ok hj J.length (Nat.le_refl _)
  have k2 := h2.congr (E := fun _ => True) (fun i hi => ⟨fun _ => trivial, fun _ => hi⟩)
  have k4 := h4.congr (E := fun _ => True) (fun i hi => ⟨fun _ => trivial, fun _ => rk_lt hi⟩)
  obtain rfl := k2.unique k4
  exact ⟨t, h1, h3, k2⟩

end Go.Proofs.YthacjealoomioaaGreatDoor

/- Forests that a valid tree has: their joints; the forest of a tree. No program in sight. -/
namespace Go.Proofs.YthacjealoomioaaGreatDoor
set_option linter.unusedVariables false
set_option linter.unusedSimpArgs false

def BT.leaves : BT → List Nat
  | .leaf x => [x]
  | .node l r _ => l.leaves ++ r.leaves
def BT.fst : BT → Nat
  | .leaf x => x
  | .node l _ _ => l.fst
/-- No higher than h. -/
def BT.Low : BT → Int → Prop
  | .leaf _, _ => True
  | .node _ _ h', h => h' ≤ h
def BT.Mono : BT → Prop
  | .leaf _ => True
  | .node l r h => l.Mono ∧ r.Mono ∧ l.Low h ∧ r.Low h
def BT.Lft : BT → Prop
  | .leaf _ => True
  | .node l r _ => l.Lft ∧ r.Lft ∧ l.fst < r.fst

structure CF (n : Nat) (F : List BT) : Prop where
  n4 : n ≤ 4096
  fit : ∀ b ∈ F, b.Fit
  mono : ∀ b ∈ F, b.Mono
  lft : ∀ b ∈ F, b.Lft
  perm : (F.flatMap BT.leaves).Perm (List.range n)
  srt : F.Pairwise fun a b => a.fst < b.fst

theorem leaves_len : ∀ b : BT, b.leaves.length = b.lvs
  | .leaf _ => rfl
  | .node l r _ => by rw [BT.leaves, List.length_append, leaves_len l, leaves_len r, BT.lvs]
theorem lvs_nj : ∀ b : BT, b.lvs = b.nj + 1
  | .leaf _ => rfl
  | .node l r _ => by rw [BT.lvs, BT.nj, lvs_nj l, lvs_nj r]; omega
theorem dep_nj : ∀ b : BT, b.dep ≤ b.nj
  | .leaf _ => Nat.le_refl _
  | .node l r _ => by
    have h1 := dep_nj l
    have h2 := dep_nj r
    rw [BT.dep, BT.nj]
    omega
theorem fLvs_len : ∀ F : List BT, (F.flatMap BT.leaves).length = fLvs F
  | [] => rfl
  | b :: F => by
    have := fLvs_len F
    unfold fLvs at *
    rw [List.flatMap_cons, List.length_append, leaves_len, this]
    simp
theorem CF.lvs {n : Nat} {F : List BT} (h : CF n F) : fLvs F = n := by
  rw [← fLvs_len, h.perm.length_eq, List.length_range]
theorem lvs_mem {F : List BT} {b : BT} (h : b ∈ F) : b.lvs ≤ fLvs F := by
  unfold fLvs
  induction F with
  | nil => cases h
  | cons a F ih =>
    rw [List.map_cons, List.sum_cons]
    rcases List.mem_cons.1 h with rfl | h
    · omega
    · have := ih h; omega
theorem CF.deps {n : Nat} {F : List BT} (h : CF n F) {b : BT} (hb : b ∈ F) : b.dep ≤ 4096 := by
  have h1 := lvs_mem hb
  rw [h.lvs] at h1
  have h2 := lvs_nj b
  have h3 := dep_nj b
  have h4 := h.n4
  omega

/- The names of nodes. -/
def BT.nodes : BT → Nat → List Int
  | .leaf x, _ => [(x : Int)]
  | .node l r h, base => l.nodes base ++ r.nodes (base + l.nj) ++ [(BT.node l r h).code base]
def ch2 (j : Jt) : List Int := [j.l, j.r]
theorem chs_perm : ∀ (b : BT) (base : Nat), ((b.js base).flatMap ch2 ++ [b.code base]).Perm (b.nodes base)
  | .leaf x, base => List.Perm.refl _
  | .node l r h, base => by
    have h1 := chs_perm l base
    have h2 := chs_perm r (base + l.nj)
    have e : ((BT.node l r h).js base).flatMap ch2 = (l.js base).flatMap ch2 ++ (r.js (base + l.nj)).flatMap ch2 ++ [l.code base, r.code (base + l.nj)] := by
      rw [BT.js, List.flatMap_append, List.flatMap_append]
      rfl
    rw [e, BT.nodes, List.perm_iff_count]
    intro a
    have c1 := h1.count_eq a
    have c2 := h2.count_eq a
    simp only [List.count_append, List.count_cons, List.count_nil] at c1 c2 ⊢
    omega
def negs (base k : Nat) : List Int := (List.range k).map fun i => -((base + i + 1 : Nat) : Int)
theorem negs_add (base a b : Nat) : negs base (a + b) = negs base a ++ negs (base + a) b := by
  unfold negs
  rw [List.range_add, List.map_append, List.map_map]
  congr 1
  apply List.map_congr_left
  intro i _
  show -((base + (a + i) + 1 : Nat) : Int) = -((base + a + i + 1 : Nat) : Int)
  omega
theorem nodes_perm : ∀ (b : BT) (base : Nat), (b.nodes base).Perm (b.leaves.map (fun x : Nat => (x : Int)) ++ negs base b.nj)
  | .leaf x, base => List.Perm.refl _
  | .node l r h, base => by
    have h1 := nodes_perm l base
    have h2 := nodes_perm r (base + l.nj)
    have e : negs base (BT.node l r h).nj = negs base l.nj ++ negs (base + l.nj) r.nj ++ [(BT.node l r h).code base] := by
      show negs base (l.nj + r.nj + 1) = _
      rw [negs_add, negs_add]
      rfl
    rw [BT.nodes, e, BT.leaves, List.map_append, List.perm_iff_count]
    intro a
    have c1 := h1.count_eq a
    have c2 := h2.count_eq a
    simp only [List.count_append] at c1 c2 ⊢
    omega
def fNj (F : List BT) : Nat := (F.map BT.nj).sum
def fNodes : List BT → Nat → List Int
  | [], _ => []
  | b :: F, base => b.nodes base ++ fNodes F (base + b.nj)
def fCodes : List BT → Nat → List Int
  | [], _ => []
  | b :: F, base => b.code base :: fCodes F (base + b.nj)
theorem fJs_len : ∀ (F : List BT) (base : Nat), (fJs F base).length = fNj F
  | [], _ => rfl
  | b :: F, base => by
    rw [fJs, List.length_append, BT.js_len, fJs_len F]
    unfold fNj
    simp
theorem fchs_perm : ∀ (F : List BT) (base : Nat), ((fJs F base).flatMap ch2 ++ fCodes F base).Perm (fNodes F base)
  | [], _ => List.Perm.refl _
  | b :: F, base => by
    have h1 := chs_perm b base
    have h2 := fchs_perm F (base + b.nj)
    rw [fJs, fNodes, fCodes, List.flatMap_append, List.perm_iff_count]
    intro a
    have c1 := h1.count_eq a
    have c2 := h2.count_eq a
    simp only [List.count_append, List.count_cons, List.count_nil] at c1 c2 ⊢
    omega
theorem fnodes_perm : ∀ (F : List BT) (base : Nat), (fNodes F base).Perm ((F.flatMap BT.leaves).map (fun x : Nat => (x : Int)) ++ negs base (fNj F))
  | [], _ => List.Perm.refl _
  | b :: F, base => by
    have h1 := nodes_perm b base
    have h2 := fnodes_perm F (base + b.nj)
    have e : fNj (b :: F) = b.nj + fNj F := by unfold fNj; simp
    rw [fNodes, e, negs_add, List.flatMap_cons, List.map_append, List.perm_iff_count]
    intro a
    have c1 := h1.count_eq a
    have c2 := h2.count_eq a
    simp only [List.count_append] at c1 c2 ⊢
    omega

theorem CF.nodup {n : Nat} {F : List BT} (h : CF n F) : (fNodes F 0).Nodup := by
  rw [(fnodes_perm F 0).nodup_iff, List.nodup_append]
  have nd := h.perm.nodup_iff.2 List.nodup_range
  refine ⟨?_, ?_, fun a ha b hb e => ?_⟩
  · rw [List.nodup_iff_pairwise_ne, List.pairwise_map]
    exact (List.nodup_iff_pairwise_ne.1 nd).imp (fun {a b} hab e => hab (Int.ofNat.inj e))
  · unfold negs
    rw [List.nodup_iff_pairwise_ne, List.pairwise_map]
    exact (List.nodup_iff_pairwise_ne.1 List.nodup_range).imp (fun {a b} hab e => hab (by omega))
  · obtain ⟨x, _, rfl⟩ := List.mem_map.1 ha
    obtain ⟨i, _, rfl⟩ := List.mem_map.1 hb
    omega

theorem ch2_distinct : ∀ (J : List Jt), (J.flatMap ch2).Nodup → (∀ i, i < J.length → (JA J i).l ≠ (JA J i).r) ∧ ∀ i j, i < j → j < J.length → (JA J i).l ≠ (JA J j).l ∧ (JA J i).l ≠ (JA J j).r ∧ (JA J i).r ≠ (JA J j).l ∧ (JA J i).r ≠ (JA J j).r
  | [], _ => ⟨fun i hi => by simp at hi, fun i j _ hj => by simp at hj⟩
  | c :: J, h => by
    rw [List.flatMap_cons, List.nodup_append] at h
    obtain ⟨h1, h2, h3⟩ := h
    obtain ⟨k1, k2⟩ := ch2_distinct J h2
    have hc : c.l ≠ c.r := by
      unfold ch2 at h1
      simpa using h1
    have hm : ∀ j, j < J.length → (JA J j).l ∈ J.flatMap ch2 ∧ (JA J j).r ∈ J.flatMap ch2 := fun j hj => by
      have hjm : JA J j ∈ J := by
        unfold JA
        rw [List.getD_eq_getElem?_getD, List.getElem?_eq_getElem hj]
        exact List.getElem_mem hj
      exact ⟨List.mem_flatMap.2 ⟨_, hjm, by simp [ch2]⟩, List.mem_flatMap.2 ⟨_, hjm, by simp [ch2]⟩⟩
    refine ⟨fun i hi => ?_, fun i j hij hj => ?_⟩
    · cases i with
      | zero => exact hc
      | succ i => exact k1 i (by simpa using hi)
    · cases j with
      | zero => omega
      | succ j =>
        have hj' : j < J.length := by simpa using hj
        cases i with
        | zero =>
          obtain ⟨m1, m2⟩ := hm j hj'
          refine ⟨h3 c.l (by simp [ch2]) _ m1, h3 c.l (by simp [ch2]) _ m2, h3 c.r (by simp [ch2]) _ m1, h3 c.r (by simp [ch2]) _ m2⟩
        | succ i => exact k2 i j (by omega) hj'

/- The parts of the list of joints. -/
def BT.lvl : BT → List Nat
  | .leaf _ => []
  | .node l r _ => l.lvl ++ r.lvl ++ [l.lvs + r.lvs]
theorem lvl_len : ∀ b : BT, b.lvl.length = b.nj
  | .leaf _ => rfl
  | .node l r _ => by rw [BT.lvl, List.length_append, List.length_append, lvl_len l, lvl_len r, BT.nj]; rfl

/-- What holds of each joint of a tree whose joints begin at base. -/
structure SgAt (n : Nat) (J : List Jt) (V : Nat → Nat) (base i : Nat) : Prop where
  l : (0 ≤ (JA J i).l ∧ (JA J i).l < n) ∨ ((JA J i).l < 0 ∧ base ≤ jx (JA J i).l ∧ jx (JA J i).l < i)
  r : (0 ≤ (JA J i).r ∧ (JA J i).r < n) ∨ ((JA J i).r < 0 ∧ base ≤ jx (JA J i).r ∧ jx (JA J i).r < i)
  hl : (JA J i).l < 0 → (JA J (jx (JA J i).l)).h ≤ (JA J i).h
  hr : (JA J i).r < 0 → (JA J (jx (JA J i).r)).h ≤ (JA J i).h
  lv : V i = (if (JA J i).l < 0 then V (jx (JA J i).l) else 1) + (if (JA J i).r < 0 then V (jx (JA J i).r) else 1)
  lvn : V i ≤ n

theorem getD_part {α : Type} {A B : List α} {d : α} {k : Nat} (h : k < A.length) : (A ++ B).getD k d = A.getD k d := by
  rw [List.getD_eq_getElem?_getD, List.getElem?_append_left h, List.getD_eq_getElem?_getD]
theorem getD_part2 {α : Type} {A B : List α} {d : α} {k : Nat} : (A ++ B).getD (A.length + k) d = B.getD k d := by
  rw [List.getD_eq_getElem?_getD, List.getElem?_append_right (by omega), Nat.add_sub_cancel_left, List.getD_eq_getElem?_getD]

theorem code_node (l r : BT) (h : Int) (base : Nat) : (BT.node l r h).code base < 0 ∧ jx ((BT.node l r h).code base) = base + l.nj + r.nj := by
  have e : (BT.node l r h).code base = -((base + (l.nj + r.nj + 1) : Nat) : Int) := rfl
  rw [e]
  unfold jx
  omega

theorem seg_bt {n : Nat} {J : List Jt} {lv : Nat → Nat} : ∀ (b : BT) (base : Nat), b.Mono → (∀ x ∈ b.leaves, x < n) → b.lvs ≤ n → (∀ k, k < b.nj → JA J (base + k) = (b.js base).getD k jt0) → (∀ k, k < b.nj → lv (base + k) = b.lvl.getD k 0) →
    (∀ i, base ≤ i → i < base + b.nj → SgAt n J lv base i) ∧ ((0 ≤ b.code base ∧ b.code base < n ∧ b.lvs = 1) ∨ (b.code base < 0 ∧ base ≤ jx (b.code base) ∧ jx (b.code base) < base + b.nj ∧ lv (jx (b.code base)) = b.lvs ∧ ∀ H, b.Low H → (JA J (jx (b.code base))).h ≤ H))
  | .leaf x, base, hm, hx, hn, hJ, hv => ⟨fun i h1 h2 => by have : i < base + 0 := h2; omega, .inl ⟨by show (0 : Int) ≤ (x : Int); omega, by show (x : Int) < n; have := hx x (by simp [BT.leaves]); omega, rfl⟩⟩
  | .node l r h, base, hm, hx, hn, hJ, hv => by
    obtain ⟨m1, m2, w1, w2⟩ := hm
    have hn' : l.lvs + r.lvs ≤ n := hn
    have hnj : (BT.node l r h).nj = l.nj + r.nj + 1 := rfl
    have ejs : (BT.node l r h).js base = l.js base ++ r.js (base + l.nj) ++ [⟨l.code base, r.code (base + l.nj), h⟩] := rfl
    have elv : (BT.node l r h).lvl = l.lvl ++ r.lvl ++ [l.lvs + r.lvs] := rfl
    have jl := BT.js_len l base
    have jr := BT.js_len r (base + l.nj)
    have vl := lvl_len l
    have vr := lvl_len r
    obtain ⟨s1, t1⟩ := seg_bt (J := J) (lv := lv) l base m1 (fun x hx' => hx x (List.mem_append_left _ hx')) (by omega)
      (fun k hk => by rw [hJ k (by omega), ejs, List.append_assoc, getD_part (by omega)])
      (fun k hk => by rw [hv k (by omega), elv, List.append_assoc, getD_part (by omega)])
    obtain ⟨s2, t2⟩ := seg_bt (J := J) (lv := lv) r (base + l.nj) m2 (fun x hx' => hx x (List.mem_append_right _ hx')) (by omega)
      (fun k hk => by
        rw [show base + l.nj + k = base + (l.nj + k) by omega, hJ (l.nj + k) (by omega), ejs, List.append_assoc, ← jl, getD_part2, getD_part (by rw [BT.js_len]; exact hk), jl])
      (fun k hk => by
        rw [show base + l.nj + k = base + (l.nj + k) by omega, hv (l.nj + k) (by omega), elv, List.append_assoc, ← vl, getD_part2, getD_part (by rw [vr]; exact hk)])
    have hlast : JA J (base + (l.nj + r.nj)) = ⟨l.code base, r.code (base + l.nj), h⟩ := by
      rw [hJ (l.nj + r.nj) (by omega), ejs]
      have : l.nj + r.nj = (l.js base ++ r.js (base + l.nj)).length + 0 := by rw [List.length_append, jl, jr]; rfl
      rw [this, getD_part2]
      rfl
    have hlastv : lv (base + (l.nj + r.nj)) = l.lvs + r.lvs := by
      rw [hv (l.nj + r.nj) (by omega), elv]
      have : l.nj + r.nj = (l.lvl ++ r.lvl).length + 0 := by rw [List.length_append, vl, vr]; rfl
      rw [this, getD_part2]
      rfl
    obtain ⟨k1, k2⟩ := code_node l r h base
    refine ⟨fun i h1 h2 => ?_, .inr ⟨k1, by omega, by omega, ?_, fun H hH => ?_⟩⟩
    · by_cases c1 : i < base + l.nj
      · exact s1 i h1 c1
      · by_cases c2 : i < base + l.nj + r.nj
        · have s := s2 i (by omega) c2
          refine ⟨?_, ?_, s.hl, s.hr, s.lv, s.lvn⟩
          · rcases s.l with q | ⟨q1, q2, q3⟩
            · exact .inl q
            · exact .inr ⟨q1, by omega, q3⟩
          · rcases s.r with q | ⟨q1, q2, q3⟩
            · exact .inl q
            · exact .inr ⟨q1, by omega, q3⟩
        · obtain rfl : i = base + (l.nj + r.nj) := by omega
          refine ⟨?_, ?_, ?_, ?_, ?_, ?_⟩
          · rw [hlast]
            rcases t1 with q | ⟨q1, q2, q3, _⟩
            · exact .inl ⟨q.1, q.2.1⟩
            · exact .inr ⟨q1, q2, by show jx (l.code base) < _; omega⟩
          · rw [hlast]
            rcases t2 with q | ⟨q1, q2, q3, _⟩
            · exact .inl ⟨q.1, q.2.1⟩
            · exact .inr ⟨q1, by show base ≤ jx (r.code (base + l.nj)); omega, by show jx (r.code (base + l.nj)) < _; omega⟩
          · rw [hlast]
            intro hneg
            rcases t1 with q | ⟨_, _, _, _, q5⟩
            · have : l.code base < 0 := hneg
              omega
            · exact q5 h w1
          · rw [hlast]
            intro hneg
            rcases t2 with q | ⟨_, _, _, _, q5⟩
            · have : r.code (base + l.nj) < 0 := hneg
              omega
            · exact q5 h w2
          · rw [hlastv, hlast]
            simp only
            rcases t1 with q | ⟨q1, _, _, q4, _⟩ <;> rcases t2 with p | ⟨p1, _, _, p4, _⟩
            · rw [if_neg (by omega), if_neg (by omega), q.2.2, p.2.2]
            · rw [if_neg (by omega), if_pos p1, q.2.2, p4]
            · rw [if_pos q1, if_neg (by omega), q4, p.2.2]
            · rw [if_pos q1, if_pos p1, q4, p4]
          · rw [hlastv]; exact hn'
    · rw [k2, show base + l.nj + r.nj = base + (l.nj + r.nj) by omega, hlastv]; rfl
    · rw [k2, show base + l.nj + r.nj = base + (l.nj + r.nj) by omega, hlast]
      exact hH

def fLvl (F : List BT) : List Nat := F.flatMap BT.lvl
theorem seg_f {n : Nat} {J : List Jt} {lv : Nat → Nat} : ∀ (F : List BT) (base : Nat), (∀ b ∈ F, b.Mono) → (∀ x ∈ F.flatMap BT.leaves, x < n) → fLvs F ≤ n → (∀ k, k < fNj F → JA J (base + k) = (fJs F base).getD k jt0) → (∀ k, k < fNj F → lv (base + k) = (fLvl F).getD k 0) →
    ∀ i, base ≤ i → i < base + fNj F → ∃ base', base ≤ base' ∧ SgAt n J lv base' i
  | [], base, _, _, _, _, _, i, h1, h2 => by have : i < base + 0 := h2; omega
  | b :: F, base, hm, hx, hn, hJ, hv, i, h1, h2 => by
    have e1 : fNj (b :: F) = b.nj + fNj F := by unfold fNj; simp
    have e2 : fLvs (b :: F) = b.lvs + fLvs F := by unfold fLvs; simp
    have e3 : fLvl (b :: F) = b.lvl ++ fLvl F := by unfold fLvl; simp
    have e4 : fJs (b :: F) base = b.js base ++ fJs F (base + b.nj) := rfl
    have jb := BT.js_len b base
    have vb := lvl_len b
    by_cases c : i < base + b.nj
    · exact ⟨base, Nat.le_refl _, (seg_bt (J := J) (lv := lv) b base (hm b (List.mem_cons_self ..)) (fun x hx' => hx x (by rw [List.flatMap_cons]; exact List.mem_append_left _ hx')) (by omega)
        (fun k hk => by rw [hJ k (by omega), e4, getD_part (by omega)]) (fun k hk => by rw [hv k (by omega), e3, getD_part (by omega)])).1 i h1 c⟩
    · obtain ⟨b', h3, h4⟩ := seg_f (J := J) (lv := lv) F (base + b.nj) (fun a ha => hm a (List.mem_cons_of_mem _ ha)) (fun x hx' => hx x (by rw [List.flatMap_cons]; exact List.mem_append_right _ hx')) (by omega)
        (fun k hk => by rw [Nat.add_assoc, hJ (b.nj + k) (by omega), e4, ← jb, getD_part2, jb])
        (fun k hk => by rw [Nat.add_assoc, hv (b.nj + k) (by omega), e3, ← vb, getD_part2]) i (by omega) (by omega)
      exact ⟨b', by omega, h4⟩

/-- The joints of such a forest. -/
theorem CF.nj {n : Nat} {F : List BT} (h : CF n F) : NJ n (fJs F 0) (fun i => (fLvl F).getD i 0) := by
  have hseg := seg_f (n := n) (J := fJs F 0) (lv := fun i => (fLvl F).getD i 0) F 0 h.mono (fun x hx => List.mem_range.1 (h.perm.mem_iff.1 hx)) (by rw [h.lvs]; exact Nat.le_refl _) (fun k hk => by rw [Nat.zero_add]; rfl) (fun k hk => by rw [Nat.zero_add])
  have hat : ∀ i, i < (fJs F 0).length → ∃ base', SgAt n (fJs F 0) (fun i => (fLvl F).getD i 0) base' i := fun i hi => by
    rw [fJs_len] at hi
    obtain ⟨b', _, s⟩ := hseg i (Nat.zero_le _) (by omega)
    exact ⟨b', s⟩
  have hnd : ((fJs F 0).flatMap ch2).Nodup := by
    have := (fchs_perm F 0).nodup_iff.2 h.nodup
    exact (List.nodup_append.1 this).1
  obtain ⟨d1, d2⟩ := ch2_distinct _ hnd
  have h4 := h.n4
  refine ⟨fun i hi => ?_, fun i hi => ?_, d1, fun i j hi hj hne => ?_, fun i hi => ?_, fun i hi => ?_, fun i hi => ?_, fun i hi => ?_⟩
  · obtain ⟨b', s⟩ := hat i hi
    rcases s.l with q | q
    · exact .inl q
    · exact .inr ⟨q.1, q.2.2⟩
  · obtain ⟨b', s⟩ := hat i hi
    rcases s.r with q | q
    · exact .inl q
    · exact .inr ⟨q.1, q.2.2⟩
  · rcases Nat.lt_or_gt_of_ne hne with q | q
    · obtain ⟨a1, a2, a3, a4⟩ := d2 i j q hj
      exact ⟨a1, a2, a4⟩
    · obtain ⟨a1, a2, a3, a4⟩ := d2 j i q hi
      exact ⟨fun e => a1 e.symm, fun e => a3 e.symm, fun e => a4 e.symm⟩
  · obtain ⟨b', s⟩ := hat i hi
    exact s.hl
  · obtain ⟨b', s⟩ := hat i hi
    exact s.hr
  · obtain ⟨b', s⟩ := hat i hi
    exact s.lv
  · obtain ⟨b', s⟩ := hat i hi
    exact Nat.le_trans s.lvn h4

/- The forest of a tree. -/
def btF (t : Tr) (n : Nat) : Nat → Nat → BT
  | 0, x => .leaf x
  | f + 1, x => if x < n then .leaf x else .node (btF t n f (lc t x)) (btF t n f (rc t x)) (gi t.hgt x)
def bt (t : Tr) (n x : Nat) : BT := btF t n (x + 1) x
theorem btF_more {t : Tr} {n m : Nat} {ls : List Nat} (h : TV t n m ls) : ∀ d x, x < d → x < m → ∀ f, x < f → btF t n f x = btF t n (x + 1) x
  | 0, x, hd, _, f, hf => by omega
  | d + 1, x, hd, hx, f, hf => by
    obtain ⟨g, rfl⟩ : ∃ g, f = g + 1 := ⟨f - 1, by omega⟩
    rw [btF, btF]
    by_cases c : x < n
    · rw [if_pos c, if_pos c]
    · rw [if_neg c, if_neg c]
      obtain ⟨c1, c2, _⟩ := h.child (x := x) (by omega) hx
      rw [btF_more h d (lc t x) (by omega) (by omega) g (by omega), btF_more h d (rc t x) (by omega) (by omega) g (by omega), btF_more h d (lc t x) (by omega) (by omega) x c1, btF_more h d (rc t x) (by omega) (by omega) x c2]
theorem bt_leaf {t : Tr} {n x : Nat} (hx : x < n) : bt t n x = .leaf x := by unfold bt; rw [btF, if_pos hx]
theorem bt_node {t : Tr} {n m : Nat} {ls : List Nat} (h : TV t n m ls) {x : Nat} (h1 : n ≤ x) (h2 : x < m) : bt t n x = .node (bt t n (lc t x)) (bt t n (rc t x)) (gi t.hgt x) := by
  obtain ⟨c1, c2, _⟩ := h.child h1 h2
  unfold bt
  rw [btF, if_neg (by omega), btF_more h (lc t x + 1) (lc t x) (by omega) (by omega) x c1, btF_more h (rc t x + 1) (rc t x) (by omega) (by omega) x c2]

def frs (t : Tr) (n m : Nat) (ls : List Nat) : List BT := (rootsL t n m ls).map (bt t n)

/-- Induction over the nodes of a valid tree from the leaves up. -/
theorem TV.up_ind {t : Tr} {n m : Nat} {ls : List Nat} (h : TV t n m ls) {Q : Nat → Prop} (hl : ∀ x, x < n → Q x) (hi : ∀ x, n ≤ x → x < m → Q (lc t x) → Q (rc t x) → Q x) : ∀ x, x < m → Q x := by
  intro x
  induction x using Nat.strongRecOn with
  | _ x ih =>
    intro hx
    by_cases c : x < n
    · exact hl x c
    · obtain ⟨c1, c2, _⟩ := h.child (x := x) (by omega) hx
      exact hi x (by omega) hx (ih _ c1 (by omega)) (ih _ c2 (by omega))

theorem bt_fst {t : Tr} {n m : Nat} {ls : List Nat} (h : TV t n m ls) : ∀ x, x < m → (bt t n x).fst = ls.getD x 0 :=
  h.up_ind (fun x hx => by rw [bt_leaf hx, BT.fst, h.ls0 x hx]) (fun x h1 h2 e1 _ => by rw [bt_node h h1 h2, BT.fst, e1, h.ls1 x h1 h2])
theorem bt_leaves {t : Tr} {n m : Nat} {ls : List Nat} (h : TV t n m ls) : ∀ x, x < m → (bt t n x).leaves.Perm (leavesL t n m x) :=
  h.up_ind (fun x hx => by rw [bt_leaf hx, lv_leaf h hx]; exact List.Perm.refl _) (fun x h1 h2 e1 e2 => by
    rw [bt_node h h1 h2, BT.leaves]
    exact (e1.append e2).trans (lv_inner h h1 h2).symm)
theorem bt_fit {t : Tr} {n m : Nat} {ls : List Nat} (h : TV t n m ls) (h64 : ∀ x, x < m → In64 (gi t.hgt x)) : ∀ x, x < m → (bt t n x).Fit :=
  h.up_ind (fun x hx => by rw [bt_leaf hx]; show x < 4096; have := h.hn; omega) (fun x h1 h2 e1 e2 => by rw [bt_node h h1 h2]; exact ⟨e1, e2, h64 x h2⟩)
theorem bt_low {t : Tr} {n m : Nat} {ls : List Nat} (h : TV t n m ls) {x c : Nat} (hx : x < m) (hc : c < x) : (bt t n c).Low (gi t.hgt x) := by
  by_cases k : c < n
  · rw [bt_leaf k]; trivial
  · rw [bt_node h (by omega) (by omega)]
    have := h.mono (x := c) (by omega) (x - c) (by omega)
    rw [show c + (x - c) = x by omega] at this
    exact this
theorem bt_mono {t : Tr} {n m : Nat} {ls : List Nat} (h : TV t n m ls) : ∀ x, x < m → (bt t n x).Mono :=
  h.up_ind (fun x hx => by rw [bt_leaf hx]; trivial) (fun x h1 h2 e1 e2 => by
    obtain ⟨c1, c2, _⟩ := h.child h1 h2
    rw [bt_node h h1 h2]
    exact ⟨e1, e2, bt_low h h2 c1, bt_low h h2 c2⟩)
theorem bt_lft {t : Tr} {n m : Nat} {ls : List Nat} (h : TV t n m ls) : ∀ x, x < m → (bt t n x).Lft :=
  h.up_ind (fun x hx => by rw [bt_leaf hx]; trivial) (fun x h1 h2 e1 e2 => by
    obtain ⟨c1, c2, _⟩ := h.child h1 h2
    rw [bt_node h h1 h2]
    refine ⟨e1, e2, ?_⟩
    rw [bt_fst h _ (by omega), bt_fst h _ (by omega)]
    exact (h.inn x h1 h2).2.1.2.2)

theorem frs_cf {t : Tr} {n m : Nat} {ls : List Nat} (h : TV t n m ls) (h64 : ∀ x, x < m → In64 (gi t.hgt x)) : CF n (frs t n m ls) := by
  have hr : ∀ b ∈ frs t n m ls, ∃ r, r < m ∧ gi t.par r < 0 ∧ b = bt t n r := fun b hb => by
    obtain ⟨r, h1, rfl⟩ := List.mem_map.1 hb
    obtain ⟨h2, h3⟩ := (roots_mem h).1 h1
    exact ⟨r, h2, h3, rfl⟩
  refine ⟨h.hn, fun b hb => ?_, fun b hb => ?_, fun b hb => ?_, ?_, ?_⟩
  · obtain ⟨r, h1, _, rfl⟩ := hr b hb
    exact bt_fit h h64 r h1
  · obtain ⟨r, h1, _, rfl⟩ := hr b hb
    exact bt_mono h r h1
  · obtain ⟨r, h1, _, rfl⟩ := hr b hb
    exact bt_lft h r h1
  · have hnm := h.nm
    have e : (frs t n m ls).flatMap BT.leaves = (rootsL t n m ls).flatMap fun r => (bt t n r).leaves := by
      unfold frs
      rw [List.flatMap_map]
    rw [e]
    have hmem : ∀ r v, r ∈ rootsL t n m ls → (v ∈ (bt t n r).leaves ↔ v < n ∧ rt t m v = r) := fun r v hr => by
      obtain ⟨h1, h2⟩ := (roots_mem h).1 hr
      rw [(bt_leaves h r h1).mem_iff, lv_mem]
      constructor
      · rintro ⟨a, b⟩
        rw [bl_rt h h2 v (by omega), decide_eq_true_eq] at b
        exact ⟨a, b⟩
      · rintro ⟨a, b⟩
        exact ⟨a, by rw [bl_rt h h2 v (by omega), decide_eq_true_eq]; exact b⟩
    have hrn : (rootsL t n m ls).Nodup := (roots_perm h).nodup_iff.2 (List.nodup_range.filter _)
    refine (List.perm_ext_iff_of_nodup ?_ List.nodup_range).2 fun v => ?_
    · rw [List.nodup_iff_pairwise_ne, List.flatMap, List.pairwise_flatten]
      constructor
      · intro l hl
        obtain ⟨r, hr, rfl⟩ := List.mem_map.1 hl
        obtain ⟨h1, h2⟩ := (roots_mem h).1 hr
        exact List.nodup_iff_pairwise_ne.1 ((bt_leaves h r h1).nodup_iff.2 (List.nodup_range.filter _))
      · rw [List.pairwise_map]
        refine List.Pairwise.imp_of_mem (R := fun a b => a ≠ b) (fun {a b} ha hb hab x hx y hy e => ?_) hrn
        subst e
        have e1 := ((hmem a x ha).1 hx).2
        have e2 := ((hmem b x hb).1 hy).2
        exact hab (e1.symm.trans e2)
    · rw [List.mem_flatMap, List.mem_range]
      constructor
      · rintro ⟨r, hr, hv⟩
        exact ((hmem r v hr).1 hv).1
      · intro hv
        have hr : rt t m v ∈ rootsL t n m ls := (roots_mem h).2 (rt_lt h v (by omega))
        exact ⟨_, hr, (hmem _ v hr).2 ⟨hv, rfl⟩⟩
  · unfold frs
    rw [List.pairwise_map]
    refine List.Pairwise.imp_of_mem (R := fun x y => ls.getD x 0 < ls.getD y 0) (fun {a b} ha hb hab => ?_) (roots_sorted h)
    rw [bt_fst h a ((roots_mem h).1 ha).1, bt_fst h b ((roots_mem h).1 hb).1]
    exact hab

end Go.Proofs.YthacjealoomioaaGreatDoor

/- The tree that is made of a forest is valid, and has this forest. No program in sight. -/
namespace Go.Proofs.YthacjealoomioaaGreatDoor
set_option linter.unusedVariables false
set_option linter.unusedSimpArgs false

def BT.subs : BT → List BT
  | .leaf _ => []
  | .node l r h => l.subs ++ r.subs ++ [.node l r h]
theorem subs_len : ∀ b : BT, b.subs.length = b.nj
  | .leaf _ => rfl
  | .node l r _ => by rw [BT.subs, List.length_append, List.length_append, subs_len l, subs_len r, BT.nj]; rfl
theorem subs_lft : ∀ (b : BT), b.Lft → ∀ s ∈ b.subs, s.Lft
  | .leaf _, _, s, h => by cases h
  | .node l r h, hl, s, hs => by
    have hs' : s ∈ l.subs ++ r.subs ++ [.node l r h] := hs
    rcases List.mem_append.1 hs' with h1 | h1
    · rcases List.mem_append.1 h1 with h2 | h2
      · exact subs_lft l hl.1 s h2
      · exact subs_lft r hl.2.1 s h2
    · rw [List.mem_singleton] at h1
      rw [h1]; exact hl

/-- The tree that a code names. -/
def stOf (S : Nat → BT) (c : Int) : BT := if c < 0 then S (jx c) else .leaf c.toNat

theorem sub_bt {J : List Jt} {S : Nat → BT} : ∀ (b : BT) (base : Nat), (∀ k, k < b.nj → JA J (base + k) = (b.js base).getD k jt0) → (∀ k, k < b.nj → S (base + k) = b.subs.getD k (.leaf 0)) →
    (∀ i, base ≤ i → i < base + b.nj → S i = .node (stOf S (JA J i).l) (stOf S (JA J i).r) (JA J i).h) ∧ stOf S (b.code base) = b
  | .leaf x, base, hJ, hS => ⟨fun i h1 h2 => by have : i < base + 0 := h2; omega, by
      show stOf S (x : Int) = _
      unfold stOf
      rw [if_neg (by omega), Int.toNat_natCast]⟩
  | .node l r h, base, hJ, hS => by
    have hnj : (BT.node l r h).nj = l.nj + r.nj + 1 := rfl
    have ejs : (BT.node l r h).js base = l.js base ++ r.js (base + l.nj) ++ [⟨l.code base, r.code (base + l.nj), h⟩] := rfl
    have esb : (BT.node l r h).subs = l.subs ++ r.subs ++ [.node l r h] := rfl
    have jl := BT.js_len l base
    have jr := BT.js_len r (base + l.nj)
    have vl := subs_len l
    have vr := subs_len r
    obtain ⟨s1, t1⟩ := sub_bt (S := S) (J := J) l base
      (fun k hk => by rw [hJ k (by omega), ejs, List.append_assoc, getD_part (by omega)])
      (fun k hk => by rw [hS k (by omega), esb, List.append_assoc, getD_part (by omega)])
    obtain ⟨s2, t2⟩ := sub_bt (S := S) (J := J) r (base + l.nj)
      (fun k hk => by
        rw [show base + l.nj + k = base + (l.nj + k) by omega, hJ (l.nj + k) (by omega), ejs, List.append_assoc, ← jl, getD_part2, getD_part (by rw [BT.js_len]; exact hk), jl])
      (fun k hk => by
        rw [show base + l.nj + k = base + (l.nj + k) by omega, hS (l.nj + k) (by omega), esb, List.append_assoc, ← vl, getD_part2, getD_part (by rw [vr]; exact hk)])
    have hlast : JA J (base + (l.nj + r.nj)) = ⟨l.code base, r.code (base + l.nj), h⟩ := by
      rw [hJ (l.nj + r.nj) (by omega), ejs]
      have : l.nj + r.nj = (l.js base ++ r.js (base + l.nj)).length + 0 := by rw [List.length_append, jl, jr]; rfl
      rw [this, getD_part2]
      rfl
    have hlastS : S (base + (l.nj + r.nj)) = .node l r h := by
      rw [hS (l.nj + r.nj) (by omega), esb]
      have : l.nj + r.nj = (l.subs ++ r.subs).length + 0 := by rw [List.length_append, vl, vr]; rfl
      rw [this, getD_part2]
      rfl
    obtain ⟨k1, k2⟩ := code_node l r h base
    refine ⟨fun i h1 h2 => ?_, ?_⟩
    · by_cases c1 : i < base + l.nj
      · exact s1 i h1 c1
      · by_cases c2 : i < base + l.nj + r.nj
        · exact s2 i (by omega) c2
        · obtain rfl : i = base + (l.nj + r.nj) := by omega
          rw [hlastS, hlast]
          simp only
          rw [t1, t2]
    · unfold stOf
      rw [if_pos k1, k2, show base + l.nj + r.nj = base + (l.nj + r.nj) by omega, hlastS]

def fSubs (F : List BT) : List BT := F.flatMap BT.subs
theorem sub_f {J : List Jt} {S : Nat → BT} : ∀ (F : List BT) (base : Nat), (∀ k, k < fNj F → JA J (base + k) = (fJs F base).getD k jt0) → (∀ k, k < fNj F → S (base + k) = (fSubs F).getD k (.leaf 0)) →
    (∀ i, base ≤ i → i < base + fNj F → S i = .node (stOf S (JA J i).l) (stOf S (JA J i).r) (JA J i).h) ∧ (fCodes F base).map (stOf S) = F
  | [], base, _, _ => ⟨fun i h1 h2 => by have : i < base + 0 := h2; omega, rfl⟩
  | b :: F, base, hJ, hS => by
    have e1 : fNj (b :: F) = b.nj + fNj F := by unfold fNj; simp
    have e3 : fSubs (b :: F) = b.subs ++ fSubs F := by unfold fSubs; simp
    have e4 : fJs (b :: F) base = b.js base ++ fJs F (base + b.nj) := rfl
    have jb := BT.js_len b base
    have vb := subs_len b
    obtain ⟨s1, t1⟩ := sub_bt (S := S) (J := J) b base
      (fun k hk => by rw [hJ k (by omega), e4, getD_part (by omega)]) (fun k hk => by rw [hS k (by omega), e3, getD_part (by omega)])
    obtain ⟨s2, t2⟩ := sub_f (S := S) (J := J) F (base + b.nj)
      (fun k hk => by rw [Nat.add_assoc, hJ (b.nj + k) (by omega), e4, ← jb, getD_part2, jb])
      (fun k hk => by rw [Nat.add_assoc, hS (b.nj + k) (by omega), e3, ← vb, getD_part2])
    refine ⟨fun i h1 h2 => ?_, ?_⟩
    · by_cases c : i < base + b.nj
      · exact s1 i h1 c
      · exact s2 i (by omega) (by omega)
    · rw [fCodes, List.map_cons, t1, t2]

def fS (F : List BT) (i : Nat) : BT := (fSubs F).getD i (.leaf 0)
theorem fSubs_len : ∀ F : List BT, (fSubs F).length = fNj F
  | [] => rfl
  | b :: F => by
    have := fSubs_len F
    have e1 : fNj (b :: F) = b.nj + fNj F := by unfold fNj; simp
    have e3 : fSubs (b :: F) = b.subs ++ fSubs F := by unfold fSubs; simp
    rw [e1, e3, List.length_append, subs_len, this]

theorem fS_node {F : List BT} {i : Nat} (hi : i < (fJs F 0).length) : fS F i = .node (stOf (fS F) (JA (fJs F 0) i).l) (stOf (fS F) (JA (fJs F 0) i).r) (JA (fJs F 0) i).h := by
  rw [fJs_len] at hi
  exact (sub_f (J := fJs F 0) (S := fS F) F 0 (fun k hk => by rw [Nat.zero_add]; rfl) (fun k hk => by rw [Nat.zero_add]; rfl)).1 i (Nat.zero_le _) (by omega)
theorem fCodes_st (F : List BT) : (fCodes F 0).map (stOf (fS F)) = F :=
  (sub_f (J := fJs F 0) (S := fS F) F 0 (fun k hk => by rw [Nat.zero_add]; rfl) (fun k hk => by rw [Nat.zero_add]; rfl)).2
theorem CF.S_lft {n : Nat} {F : List BT} (h : CF n F) {i : Nat} (hi : i < (fJs F 0).length) : (fS F i).Lft := by
  rw [fJs_len, ← fSubs_len] at hi
  have hm : fS F i ∈ fSubs F := by
    unfold fS
    rw [List.getD_eq_getElem?_getD, List.getElem?_eq_getElem hi]
    exact List.getElem_mem hi
  obtain ⟨b, hb, hs⟩ := List.mem_flatMap.1 hm
  exact subs_lft b (h.lft b hb) _ hs

/-- The least leaves. -/
def lsF (n : Nat) (F : List BT) : List Nat := List.range n ++ (ordJ (fJs F 0)).map fun i => (fS F i).fst
theorem lsF_len (n : Nat) (F : List BT) : (lsF n F).length = n + (fJs F 0).length := by
  unfold lsF
  rw [List.length_append, List.length_range, List.length_map, ordJ_len]
theorem lsF_nd {n : Nat} {F : List BT} {c : Int} (hc : IsC n (fJs F 0) c) : (lsF n F).getD (nd n (fJs F 0) c) 0 = (stOf (fS F) c).fst := by
  unfold nd stOf lsF
  rcases hc with hc | hc
  · rw [if_neg (by omega), if_neg (by omega), getD_part (by rw [List.length_range]; omega), List.getD_eq_getElem?_getD, List.getElem?_range (by omega)]
    rfl
  · rw [if_pos hc.1, if_pos hc.1]
    have hr := rk_lt hc.2
    have e : n + rkJ (fJs F 0) (jx c) = (List.range n).length + rkJ (fJs F 0) (jx c) := by rw [List.length_range]
    rw [e, getD_part2, List.getD_eq_getElem?_getD, List.getElem?_map]
    have ha := at_rk hc.2
    rw [List.getD_eq_getElem?_getD] at ha
    cases hg : (ordJ (fJs F 0))[rkJ (fJs F 0) (jx c)]? with
    | none =>
      rw [List.getElem?_eq_none_iff, ordJ_len] at hg
      omega
    | some i =>
      rw [hg] at ha
      have ha : i = jx c := ha
      rw [ha]; rfl

theorem made_valid {n : Nat} {F : List BT} {lv : Nat → Nat} {t : Tr} (h : CF n F) (hj : NJ n (fJs F 0) lv) (ht : TI n (fJs F 0) lv (fun _ => True) t) : TV t n (n + (fJs F 0).length) (lsF n F) := by
  have key : ∀ x, n ≤ x → x < n + (fJs F 0).length → ∃ i, i < (fJs F 0).length ∧ x = n + rkJ (fJs F 0) i := fun x h1 h2 => ⟨(ordJ (fJs F 0)).getD (x - n) 0, ordJ_at_lt (by omega), by rw [rk_at (by omega)]; omega⟩
  have szof : ∀ c, IsC n (fJs F 0) c → gi t.siz (nd n (fJs F 0) c) = ((if c < 0 then lv (jx c) else 1 : Nat) : Int) := fun c hc => by
    unfold nd
    rcases hc with hc | hc
    · rw [if_neg (by omega), if_neg (by omega), (ht.lf c.toNat (by omega)).2.2.2]; rfl
    · rw [if_pos hc.1, if_pos hc.1, (ht.dn _ hc.2 trivial).2.2.2]
  refine ⟨ht.tl, h.n4, by omega, ht.pl, ht.ll, ht.rl, ht.hl, ht.sl, lsF_len n F, fun x hx => ?_, fun x h1 h2 => ?_, fun y hy => ?_, fun x hx => ?_, fun x h1 h2 => ?_⟩
  · obtain ⟨a, b, c, d⟩ := ht.lf x hx
    exact ⟨a, b, c, d⟩
  · obtain ⟨i, hi, rfl⟩ := key x h1 h2
    obtain ⟨d1, d2, d3, d4⟩ := ht.dn i hi trivial
    obtain ⟨p1, p2⟩ := ht.pr i hi trivial
    have cl := hj.cl hi
    have cr := hj.cr hi
    have ltl : nd n (fJs F 0) (JA (fJs F 0) i).l < n + rkJ (fJs F 0) i := by
      unfold nd
      rcases hj.l i hi with q | q
      · rw [if_neg (by omega)]; omega
      · rw [if_pos q.1]
        have := child_rk hi q.2 (hj.hl i hi q.1)
        omega
    have ltr : nd n (fJs F 0) (JA (fJs F 0) i).r < n + rkJ (fJs F 0) i := by
      unfold nd
      rcases hj.r i hi with q | q
      · rw [if_neg (by omega)]; omega
      · rw [if_pos q.1]
        have := child_rk hi q.2 (hj.hr i hi q.1)
        omega
    have elc : lc t (n + rkJ (fJs F 0) i) = nd n (fJs F 0) (JA (fJs F 0) i).l := by unfold lc; rw [d1, Int.toNat_natCast]
    have erc : rc t (n + rkJ (fJs F 0) i) = nd n (fJs F 0) (JA (fJs F 0) i).r := by unfold rc; rw [d2, Int.toNat_natCast]
    have hne : nd n (fJs F 0) (JA (fJs F 0) i).l ≠ nd n (fJs F 0) (JA (fJs F 0) i).r := fun e => hj.lr i hi (nd_inj cl cr e)
    refine ⟨⟨⟨by rw [d1]; omega, by rw [d1]; omega⟩, ⟨by rw [d2]; omega, by rw [d2]; omega⟩, by rw [d1, d2]; omega⟩, ⟨by rw [elc]; exact p1, by rw [erc]; exact p2, ?_⟩, ?_, ?_⟩
    · rw [elc, erc, lsF_nd cl, lsF_nd cr]
      have hs := h.S_lft hi
      rw [fS_node hi] at hs
      exact hs.2.2
    · rw [elc, erc, szof _ cl, szof _ cr, d4, ← Int.natCast_add, ← hj.lv i hi]
      have := hj.lvn i hi
      exact (IntWalk.i64_in _ (by omega)).symm
    · by_cases c : rkJ (fJs F 0) i = 0
      · left
        rw [ht.tl, c]; rfl
      · right
        obtain ⟨k, hk, e⟩ := key (n + rkJ (fJs F 0) i - 1) (by omega) (by have := rk_lt hi; omega)
        rw [e, (ht.dn k hk trivial).2.2.1, d3]
        apply Classical.byContradiction
        intro hc
        have hlt : olt (hsE (fJs F 0)) i k := by
          unfold olt
          rw [hsE_w hi, hsE_w hk]
          omega
        have := rk_olt hi hk hlt
        omega
  · by_cases c : ∃ i, i < (fJs F 0).length ∧ (nd n (fJs F 0) (JA (fJs F 0) i).l = y ∨ nd n (fJs F 0) (JA (fJs F 0) i).r = y)
    · obtain ⟨i, hi, hc⟩ := c
      obtain ⟨d1, d2, d3, d4⟩ := ht.dn i hi trivial
      obtain ⟨p1, p2⟩ := ht.pr i hi trivial
      have := rk_lt hi
      have hpl := ht.pl
      right
      rcases hc with rfl | rfl
      · rw [p1]
        refine ⟨⟨by omega, by omega⟩, .inl ?_⟩
        rw [Int.toNat_natCast, d1]
      · rw [p2]
        refine ⟨⟨by omega, by omega⟩, .inr ?_⟩
        rw [Int.toNat_natCast, d2]
    · left
      exact ht.pn y hy (fun i hi _ => ⟨fun e => c ⟨i, hi, .inl e⟩, fun e => c ⟨i, hi, .inr e⟩⟩)
  · unfold lsF
    rw [getD_part (by rw [List.length_range]; exact hx), List.getD_eq_getElem?_getD, List.getElem?_range hx]
    rfl
  · obtain ⟨i, hi, rfl⟩ := key x h1 h2
    obtain ⟨d1, _⟩ := ht.dn i hi trivial
    have elc : lc t (n + rkJ (fJs F 0) i) = nd n (fJs F 0) (JA (fJs F 0) i).l := by unfold lc; rw [d1, Int.toNat_natCast]
    have hc : IsC n (fJs F 0) (-((i + 1 : Nat) : Int)) := .inr ⟨by omega, by unfold jx; omega⟩
    have e1 := lsF_nd hc
    have e2 : nd n (fJs F 0) (-((i + 1 : Nat) : Int)) = n + rkJ (fJs F 0) i := by
      unfold nd
      rw [if_pos (by omega)]
      congr 2
      unfold jx
      omega
    have e3 : stOf (fS F) (-((i + 1 : Nat) : Int)) = fS F i := by
      unfold stOf
      rw [if_pos (by omega)]
      congr 1
      unfold jx
      omega
    rw [e2, e3, fS_node hi, BT.fst] at e1
    rw [e1, elc, lsF_nd (hj.cl hi)]

theorem made_bt {n : Nat} {F : List BT} {lv : Nat → Nat} {t : Tr} (h : CF n F) (hj : NJ n (fJs F 0) lv) (ht : TI n (fJs F 0) lv (fun _ => True) t) : ∀ d c, IsC n (fJs F 0) c → nd n (fJs F 0) c < d → bt t n (nd n (fJs F 0) c) = stOf (fS F) c
  | 0, c, hc, hd => by omega
  | d + 1, c, hc, hd => by
    have tv := made_valid h hj ht
    rcases hc with q | q
    · have e : nd n (fJs F 0) c = c.toNat := by unfold nd; rw [if_neg (by omega)]
      rw [e, bt_leaf (by omega)]
      unfold stOf
      rw [if_neg (by omega)]
    · have e : nd n (fJs F 0) c = n + rkJ (fJs F 0) (jx c) := by unfold nd; rw [if_pos q.1]
      have hlt := nd_lt (n := n) (J := fJs F 0) (c := c) (.inr q)
      rw [e] at hlt hd ⊢
      obtain ⟨d1, d2, d3, _⟩ := ht.dn _ q.2 trivial
      have elc : lc t (n + rkJ (fJs F 0) (jx c)) = nd n (fJs F 0) (JA (fJs F 0) (jx c)).l := by unfold lc; rw [d1, Int.toNat_natCast]
      have erc : rc t (n + rkJ (fJs F 0) (jx c)) = nd n (fJs F 0) (JA (fJs F 0) (jx c)).r := by unfold rc; rw [d2, Int.toNat_natCast]
      obtain ⟨c1, c2, _⟩ := tv.child (x := n + rkJ (fJs F 0) (jx c)) (by omega) hlt
      rw [elc] at c1
      rw [erc] at c2
      rw [bt_node tv (by omega) hlt, elc, erc, d3, made_bt h hj ht d _ (hj.cl q.2) (by omega), made_bt h hj ht d _ (hj.cr q.2) (by omega)]
      have : stOf (fS F) c = fS F (jx c) := by unfold stOf; rw [if_pos q.1]
      rw [this, fS_node q.2]

theorem IsC_node {n : Nat} {F : List BT} (h : CF n F) {c : Int} : c ∈ fNodes F 0 ↔ IsC n (fJs F 0) c := by
  rw [(fnodes_perm F 0).mem_iff, List.mem_append]
  constructor
  · rintro (hc | hc)
    · obtain ⟨x, hx, rfl⟩ := List.mem_map.1 hc
      have := List.mem_range.1 (h.perm.mem_iff.1 hx)
      exact .inl ⟨by omega, by omega⟩
    · unfold negs at hc
      obtain ⟨i, hi, rfl⟩ := List.mem_map.1 hc
      rw [List.mem_range] at hi
      exact .inr ⟨by omega, by rw [fJs_len]; unfold jx; omega⟩
  · rintro (hc | hc)
    · left
      exact List.mem_map.2 ⟨c.toNat, h.perm.mem_iff.2 (List.mem_range.2 (by omega)), by omega⟩
    · right
      unfold negs
      refine List.mem_map.2 ⟨jx c, List.mem_range.2 (by rw [← fJs_len F 0]; exact hc.2), ?_⟩
      unfold jx
      omega

/-- The forest of the tree that is made. -/
theorem made_frs {n : Nat} {F : List BT} {lv : Nat → Nat} {t : Tr} (h : CF n F) (hj : NJ n (fJs F 0) lv) (ht : TI n (fJs F 0) lv (fun _ => True) t) : frs t n (n + (fJs F 0).length) (lsF n F) = F := by
  have tv := made_valid h hj ht
  have hnd := (fchs_perm F 0).nodup_iff.2 h.nodup
  obtain ⟨n1, n2, n3⟩ := List.nodup_append.1 hnd
  have hcode : ∀ c ∈ fCodes F 0, IsC n (fJs F 0) c := fun c hc => (IsC_node h).1 ((fchs_perm F 0).mem_iff.1 (List.mem_append_right _ hc))
  have hch : ∀ i, i < (fJs F 0).length → (JA (fJs F 0) i).l ∈ (fJs F 0).flatMap ch2 ∧ (JA (fJs F 0) i).r ∈ (fJs F 0).flatMap ch2 := fun i hi => by
    have hm : JA (fJs F 0) i ∈ fJs F 0 := by
      unfold JA
      rw [List.getD_eq_getElem?_getD, List.getElem?_eq_getElem hi]
      exact List.getElem_mem hi
    exact ⟨List.mem_flatMap.2 ⟨_, hm, by simp [ch2]⟩, List.mem_flatMap.2 ⟨_, hm, by simp [ch2]⟩⟩
  have hroots : rootsL t n (n + (fJs F 0).length) (lsF n F) = (fCodes F 0).map (nd n (fJs F 0)) := by
    have hs1 := roots_sorted tv
    have hs2 : ((fCodes F 0).map (nd n (fJs F 0))).Pairwise fun x y => (lsF n F).getD x 0 < (lsF n F).getD y 0 := by
      have hsrt := h.srt
      rw [← fCodes_st F, List.pairwise_map] at hsrt
      rw [List.pairwise_map]
      refine List.Pairwise.imp_of_mem (fun {a b} ha hb hab => ?_) hsrt
      rw [lsF_nd (hcode a ha), lsF_nd (hcode b hb)]
      exact hab
    have nodup_of : ∀ {L : List Nat}, L.Pairwise (fun x y => (lsF n F).getD x 0 < (lsF n F).getD y 0) → L.Nodup := fun hp => hp.imp (fun {a b} hab e => by subst e; omega)
    refine strict_unique (R := fun x y => (lsF n F).getD x 0 < (lsF n F).getD y 0) (fun a => Nat.lt_irrefl _) (fun a b c => Nat.lt_trans) hs1 hs2 ((List.perm_ext_iff_of_nodup (nodup_of hs1) (nodup_of hs2)).2 fun y => ?_)
    rw [roots_mem tv, List.mem_map]
    constructor
    · rintro ⟨hy, hp⟩
      have hno : ∀ i, i < (fJs F 0).length → nd n (fJs F 0) (JA (fJs F 0) i).l ≠ y ∧ nd n (fJs F 0) (JA (fJs F 0) i).r ≠ y := fun i hi => by
        obtain ⟨p1, p2⟩ := ht.pr i hi trivial
        constructor
        · intro e; rw [e] at p1; omega
        · intro e; rw [e] at p2; omega
      obtain ⟨c, hc, hcy⟩ : ∃ c, IsC n (fJs F 0) c ∧ nd n (fJs F 0) c = y := by
        by_cases q : y < n
        · exact ⟨(y : Int), .inl ⟨by omega, by omega⟩, by unfold nd; rw [if_neg (by omega), Int.toNat_natCast]⟩
        · have hi := ordJ_at_lt (J := fJs F 0) (k := y - n) (by omega)
          have hr := rk_at (J := fJs F 0) (k := y - n) (by omega)
          refine ⟨-(((ordJ (fJs F 0)).getD (y - n) 0 + 1 : Nat) : Int), .inr ⟨by omega, by unfold jx; omega⟩, ?_⟩
          unfold nd
          rw [if_pos (by omega)]
          have : jx (-(((ordJ (fJs F 0)).getD (y - n) 0 + 1 : Nat) : Int)) = (ordJ (fJs F 0)).getD (y - n) 0 := by unfold jx; omega
          rw [this, hr]
          omega
      have hm := (fchs_perm F 0).mem_iff.2 ((IsC_node h).2 hc)
      rcases List.mem_append.1 hm with hm | hm
      · exfalso
        obtain ⟨j, hj1, hj2⟩ := List.mem_flatMap.1 hm
        obtain ⟨i, hi, rfl⟩ := List.getElem_of_mem hj1
        have ej : JA (fJs F 0) i = (fJs F 0)[i] := by
          unfold JA
          rw [List.getD_eq_getElem?_getD, List.getElem?_eq_getElem hi]; rfl
        rw [← ej] at hj2
        unfold ch2 at hj2
        obtain ⟨q1, q2⟩ := hno i hi
        simp only [List.mem_cons, List.not_mem_nil, or_false] at hj2
        rcases hj2 with rfl | rfl
        · exact q1 hcy
        · exact q2 hcy
      · exact ⟨c, hm, hcy⟩
    · rintro ⟨c, hc, rfl⟩
      have hcc := hcode c hc
      refine ⟨nd_lt hcc, ?_⟩
      rw [ht.pn _ (nd_lt hcc) (fun i hi _ => ?_)]
      · omega
      · obtain ⟨m1, m2⟩ := hch i hi
        exact ⟨fun e => n3 _ m1 _ hc (nd_inj (hj.cl hi) hcc e), fun e => n3 _ m2 _ hc (nd_inj (hj.cr hi) hcc e)⟩
  unfold frs
  rw [hroots, List.map_map]
  refine Eq.trans ?_ (fCodes_st F)
  apply List.map_congr_left
  intro c hc
  exact made_bt h hj ht _ c (hcode c hc) (Nat.lt_succ_self _)

end Go.Proofs.YthacjealoomioaaGreatDoor

/- Parsing: the program's and the reference's answers are one. No program in sight. -/
namespace Go.Proofs.YthacjealoomioaaGreatDoor
set_option linter.unusedVariables false
set_option linter.unusedSimpArgs false

/-- The text of a tree; none if it is not valid. -/
def txtO (t : Tr) : Option (List UInt8) :=
  match lsL t with
  | none => none
  | some ls => some (fTxt (frs t t.lv.toNat t.par.length ls))
theorem txtO_tv {t : Tr} {n m : Nat} {ls : List Nat} (h : TV t n m ls) : txtO t = some (fTxt (frs t n m ls)) := by
  unfold txtO
  rw [h.ls_some]
  simp only
  rw [h.lv, Int.toNat_natCast, h.pl]
theorem txtO_some {t : Tr} {s : List UInt8} (h : txtO t = some s) : ∃ n m ls, TV t n m ls ∧ s = fTxt (frs t n m ls) := by
  cases hl : lsL t with
  | none => unfold txtO at h; rw [hl] at h; cases h
  | some ls =>
    obtain ⟨n, m, tv, _⟩ := TV.of_ls hl
    rw [txtO_tv tv] at h
    injection h with h
    exact ⟨n, m, ls, tv, h.symm⟩

/-- The tree that the program makes of a text. -/
def progT (r : RdS × Bool) : Option Tr := if r.2 = true ∧ r.1.want = 0 then treeTo r.1.leaves r.1.joints r.1.joints.length else none

/- The joints that the reference's parts are. -/
/-- How many inner parts there are before p. -/
def jcnt (L : List Pt) (p : Nat) : Nat := (L.take p).countP fun q => decide (q.leaf < 0)
def lcnt (L : List Pt) : Nat := L.countP fun q => decide (0 ≤ q.leaf)
def PA (L : List Pt) (p : Nat) : Pt := L.getD p pt0
/-- The name of part p. -/
def cdP (L : List Pt) (p : Nat) : Int := if (PA L p).leaf < 0 then -((jcnt L p + 1 : Nat) : Int) else (PA L p).leaf
def jsOf (L : List Pt) : List Jt := (L.filter fun q => decide (q.leaf < 0)).map fun q => ⟨cdP L q.left.toNat, cdP L q.right.toNat, q.h⟩
/-- The leaves are 0, 1, .., each once. -/
def LvOk (L : List Pt) : Prop := ((L.filter fun q => decide (0 ≤ q.leaf)).map Pt.leaf).Perm ((List.range (lcnt L)).map fun x : Nat => (x : Int))
instance (L : List Pt) : Decidable (LvOk L) := by unfold LvOk; infer_instance
def madeO (L : List Pt) : Option Tr := if LvOk L then madeTo (lcnt L) (jsOf L) (jsOf L).length else none
/-- The tree that the reference makes of a text. -/
def refT (s : List UInt8) : Option Tr := match refO s s.length 0 [] with | none => none | some L => madeO L

/- The parts of a forest. -/
theorem ps_inner : ∀ (b : BT) (base : Nat), ((b.ps base).countP fun q => decide (q.leaf < 0)) = b.nj
  | .leaf x, base => by
    unfold BT.ps BT.nj
    rw [List.countP_cons_of_neg (by simp)]
    rfl
  | .node l r h, base => by
    have h1 := ps_inner l base
    have h2 := ps_inner r (base + l.sz)
    rw [BT.ps, BT.nj, List.countP_append, List.countP_append, h1, h2]
    rfl
theorem ps_leaf : ∀ (b : BT) (base : Nat), ((b.ps base).filter fun q => decide (0 ≤ q.leaf)).map Pt.leaf = b.leaves.map fun x : Nat => (x : Int)
  | .leaf x, base => by
    unfold BT.ps BT.leaves
    rw [List.filter_cons_of_pos (by simp)]
    rfl
  | .node l r h, base => by
    have h1 := ps_leaf l base
    have h2 := ps_leaf r (base + l.sz)
    rw [BT.ps, BT.leaves, List.filter_append, List.filter_append, List.map_append, List.map_append, h1, h2, List.map_append]
    simp
theorem fps_leaf : ∀ (F : List BT) (base : Nat), ((fPs F base).filter fun q => decide (0 ≤ q.leaf)).map Pt.leaf = (F.flatMap BT.leaves).map fun x : Nat => (x : Int)
  | [], _ => rfl
  | b :: F, base => by rw [fPs, List.filter_append, List.map_append, ps_leaf, fps_leaf F, List.flatMap_cons, List.map_append]
theorem fps_lcnt (F : List BT) (base : Nat) : lcnt (fPs F base) = fLvs F := by
  have h := congrArg List.length (fps_leaf F base)
  rw [List.length_map, List.length_map, fLvs_len] at h
  rw [← h]
  unfold lcnt
  exact List.countP_eq_length_filter

/-- A tree's parts within a list: their names, and their joints. -/
theorem ps_code {L : List Pt} : ∀ (b : BT) (base jb : Nat) (A B : List Pt), L = A ++ b.ps base ++ B → A.length = base → (A.countP fun q => decide (q.leaf < 0)) = jb →
    cdP L (base + b.sz - 1) = b.code jb ∧ ((b.ps base).filter fun q => decide (q.leaf < 0)).map (fun q => (⟨cdP L q.left.toNat, cdP L q.right.toNat, q.h⟩ : Jt)) = b.js jb
  | .leaf x, base, jb, A, B, hL, hA, hjb => by
    have hp : PA L (base + 1 - 1) = ⟨x, 0, 0, 0⟩ := by
      rw [hL, ← hA]
      unfold PA BT.ps
      rw [Nat.add_sub_cancel, List.append_assoc]
      have := @getD_part2 Pt A ([⟨(x : Int), 0, 0, 0⟩] ++ B) pt0 0
      rw [Nat.add_zero] at this
      rw [this]; rfl
    refine ⟨?_, ?_⟩
    · show cdP L (base + 1 - 1) = (x : Int)
      unfold cdP
      rw [hp, if_neg (by simp)]
    · unfold BT.ps
      rw [List.filter_cons_of_neg (by simp)]
      rfl
  | .node l r h, base, jb, A, B, hL, hA, hjb => by
    have e : (BT.node l r h).ps base = l.ps base ++ r.ps (base + l.sz) ++ [⟨-1, ((base + l.sz - 1 : Nat) : Int), ((base + l.sz + r.sz - 1 : Nat) : Int), h⟩] := rfl
    have hsz : (BT.node l r h).sz = l.sz + r.sz + 1 := rfl
    obtain ⟨c1, d1⟩ := ps_code (L := L) l base jb A (r.ps (base + l.sz) ++ [⟨-1, ((base + l.sz - 1 : Nat) : Int), ((base + l.sz + r.sz - 1 : Nat) : Int), h⟩] ++ B) (by rw [hL, e]; simp only [List.append_assoc]) hA hjb
    obtain ⟨c2, d2⟩ := ps_code (L := L) r (base + l.sz) (jb + l.nj) (A ++ l.ps base) ([⟨-1, ((base + l.sz - 1 : Nat) : Int), ((base + l.sz + r.sz - 1 : Nat) : Int), h⟩] ++ B) (by rw [hL, e]; simp only [List.append_assoc]) (by rw [List.length_append, BT.ps_len, hA]) (by rw [List.countP_append, ps_inner, hjb])
    have l1 := l.sz_pos
    have l2 := r.sz_pos
    have hlen : (A ++ l.ps base ++ r.ps (base + l.sz)).length = base + l.sz + r.sz := by rw [List.length_append, List.length_append, BT.ps_len, BT.ps_len, hA]
    have hL2 : L = (A ++ l.ps base ++ r.ps (base + l.sz)) ++ (⟨-1, ((base + l.sz - 1 : Nat) : Int), ((base + l.sz + r.sz - 1 : Nat) : Int), h⟩ :: B) := by rw [hL, e]; simp only [List.append_assoc, List.singleton_append]
    have hp : PA L (base + l.sz + r.sz) = ⟨-1, ((base + l.sz - 1 : Nat) : Int), ((base + l.sz + r.sz - 1 : Nat) : Int), h⟩ := by
      have h0 := @getD_part2 Pt (A ++ l.ps base ++ r.ps (base + l.sz)) (⟨-1, ((base + l.sz - 1 : Nat) : Int), ((base + l.sz + r.sz - 1 : Nat) : Int), h⟩ :: B) pt0 0
      rw [Nat.add_zero, ← hL2, hlen] at h0
      exact h0
    have hj : jcnt L (base + l.sz + r.sz) = jb + l.nj + r.nj := by
      unfold jcnt
      rw [hL2, ← hlen, List.take_append_of_le_length (Nat.le_refl _), List.take_length, List.countP_append, List.countP_append, ps_inner, ps_inner, hjb]
    refine ⟨?_, ?_⟩
    · rw [hsz, show base + (l.sz + r.sz + 1) - 1 = base + l.sz + r.sz by omega]
      unfold cdP
      rw [hp, hj, if_pos (by simp)]
      show -((jb + l.nj + r.nj + 1 : Nat) : Int) = -((jb + (l.nj + r.nj + 1) : Nat) : Int)
      omega
    · rw [e, List.filter_append, List.filter_append, List.map_append, List.map_append, d1, d2]
      rw [List.filter_cons_of_pos (by simp)]
      simp only [List.filter_nil, List.map_cons, List.map_nil, Int.toNat_natCast]
      rw [c1, c2]
      rfl

theorem jsOf_part {L : List Pt} : ∀ (F : List BT) (base jb : Nat) (A : List Pt), L = A ++ fPs F base → A.length = base → (A.countP fun q => decide (q.leaf < 0)) = jb →
    ((fPs F base).filter fun q => decide (q.leaf < 0)).map (fun q => (⟨cdP L q.left.toNat, cdP L q.right.toNat, q.h⟩ : Jt)) = fJs F jb
  | [], _, _, _, _, _, _ => rfl
  | b :: F, base, jb, A, hL, hA, hjb => by
    have e : fPs (b :: F) base = b.ps base ++ fPs F (base + b.sz) := rfl
    have h1 := (ps_code (L := L) b base jb A (fPs F (base + b.sz)) (by rw [hL, e]; simp only [List.append_assoc]) hA hjb).2
    have h2 := jsOf_part (L := L) F (base + b.sz) (jb + b.nj) (A ++ b.ps base) (by rw [hL, e]; simp only [List.append_assoc]) (by rw [List.length_append, BT.ps_len, hA]) (by rw [List.countP_append, ps_inner, hjb])
    rw [e, List.filter_append, List.map_append, h1, h2]
    rfl
theorem jsOf_f (F : List BT) : jsOf (fPs F 0) = fJs F 0 := jsOf_part F 0 0 [] rfl rfl rfl

theorem CF.lvOk {n : Nat} {F : List BT} (h : CF n F) : LvOk (fPs F 0) := by
  unfold LvOk
  rw [fps_leaf, fps_lcnt, h.lvs]
  exact h.perm.map _

/-- Of the text of such a forest both make the same valid tree, which has this text. -/
theorem both_text {n : Nat} {F : List BT} (h : CF n F) : ∃ t st, runB (fTxt F) 0 (fTxt F) rd0 = (st, true) ∧ progT (st, true) = some t ∧ refT (fTxt F) = some t ∧ txtO t = some (fTxt F) ∧ TI n (fJs F 0) (fun i => (fLvl F).getD i 0) (fun _ => True) t := by
  have hj := h.nj
  obtain ⟨t, h1, h2, h3⟩ := both_made hj
  obtain ⟨st, r1, r2, r3, r4⟩ := run_forest F (fTxt F) [] [] rd0 (by simp) rfl rfl (fun b hb => ⟨h.fit b hb, h.deps hb⟩) (by
    have := h.lvs
    have := h.n4
    show 0 + fLvs F ≤ 4096
    omega)
  have r3' : st.leaves = n := by rw [r3, h.lvs]; show 0 + n = n; omega
  have r4' : st.joints = fJs F 0 := by rw [r4]; rfl
  refine ⟨t, st, r1, ?_, ?_, ?_, h3⟩
  · unfold progT
    rw [if_pos ⟨rfl, r2⟩]
    simp only
    rw [r3', r4']
    exact h1
  · unfold refT
    have hlen : F.length ≤ (fTxt F).length := by
      clear h hj h1 h2 h3 r1 r2 r3 r4 r3' r4'
      induction F with
      | nil => exact Nat.zero_le _
      | cons b F ih =>
        have e : fTxt (b :: F) = b.txt ++ [59] ++ fTxt F := by simp [fTxt]
        rw [e]
        simp
        omega
    have := run_ref F (fTxt F) [] (fTxt F).length [] rfl h.fit hlen
    simp only [List.length_nil, List.nil_append] at this
    rw [this]
    simp only
    unfold madeO
    rw [if_pos h.lvOk, jsOf_f, fps_lcnt, h.lvs]
    exact h2
  · rw [txtO_tv (made_valid h hj h3), made_frs h hj h3]

/-- A tree whose heights fit. -/
def Hgt64 (t : Tr) : Prop := ∀ x, x < t.hgt.length → In64 (gi t.hgt x)

/-- Parsing: keep what has the text. -/
def keepT (s : List UInt8) (o : Option Tr) : Option Tr := match o with | none => none | some t => if txtO t = some s then some t else none

theorem keep_text {s : List UInt8} {o : Option Tr} {t : Tr} (h : keepT s o = some t) (h64 : Hgt64 t) : ∃ n F, CF n F ∧ s = fTxt F ∧ o = some t := by
  unfold keepT at h
  cases o with
  | none => cases h
  | some t' =>
    simp only at h
    split at h
    · rename_i hc
      injection h with h
      subst h
      obtain ⟨n, m, ls, tv, e⟩ := txtO_some hc
      exact ⟨n, _, frs_cf tv (fun x hx => h64 x (by rw [tv.hl]; exact hx)), e, rfl⟩
    · cases h

/-- The two parsers give the same answer. -/
theorem parse_same {s : List UInt8} {r : RdS × Bool} (hr : runB s 0 s rd0 = r ∨ r.2 = false ∧ (runB s 0 s rd0).2 = false) (h1 : ∀ t, progT r = some t → Hgt64 t) (h2 : ∀ t, refT s = some t → Hgt64 t) : keepT s (progT r) = keepT s (refT s) := by
  have main : ∀ n F, CF n F → s = fTxt F → progT r = refT s := fun n F hF e => by
    obtain ⟨t, st, a1, a2, a3, _⟩ := both_text hF
    rw [← e] at a1 a3
    rcases hr with hr | ⟨_, hr⟩
    · rw [a1] at hr
      rw [← hr, a2, a3]
    · rw [a1] at hr
      cases hr
  cases hp : keepT s (progT r) with
  | some t =>
    have ht : Hgt64 t := h1 t (by
      unfold keepT at hp
      cases hq : progT r with
      | none => rw [hq] at hp; cases hp
      | some t' =>
        rw [hq] at hp
        simp only at hp
        split at hp
        · exact hp
        · cases hp)
    obtain ⟨n, F, hF, e, _⟩ := keep_text hp ht
    rw [← main n F hF e]
    exact hp.symm
  | none =>
    cases hq : keepT s (refT s) with
    | none => rfl
    | some t =>
      have ht : Hgt64 t := h2 t (by
        unfold keepT at hq
        cases hr2 : refT s with
        | none => rw [hr2] at hq; cases hq
        | some t' =>
          rw [hr2] at hq
          simp only at hq
          split at hq
          · exact hq
          · cases hq)
      obtain ⟨n, F, hF, e, _⟩ := keep_text hq ht
      rw [main n F hF e, hq] at hp
      cases hp

end Go.Proofs.YthacjealoomioaaGreatDoor
