/- DnP, DnR, DnC, DnF, DnH. -/
import Derived.Test.YthacjealoomioaaGreatDoorZGb
import Derived.Lib.ParseIntB
import Derived.Lib.ItoaNum
/- Trees as texts; the program's machine that reads them. No program in sight. -/
namespace Go.Proofs.YthacjealoomioaaGreatDoor
set_option linter.unusedVariables false
set_option linter.unusedSimpArgs false

/-- A tree of which leaves and heights are told. -/
inductive BT where
  | leaf (x : Nat)
  | node (l r : BT) (h : Int)

def BT.txt : BT → List UInt8
  | .leaf x => Lib.itoa (x : Int)
  | .node l r h => 40 :: (l.txt ++ 44 :: (r.txt ++ 41 :: 58 :: Lib.itoa h))
def fTxt (F : List BT) : List UInt8 := F.flatMap fun b => b.txt ++ [59]

def BT.lvs : BT → Nat
  | .leaf _ => 1
  | .node l r _ => l.lvs + r.lvs
def BT.nj : BT → Nat
  | .leaf _ => 0
  | .node l r _ => l.nj + r.nj + 1
def BT.dep : BT → Nat
  | .leaf _ => 0
  | .node l r _ => max l.dep r.dep + 1
def In64 (h : Int) : Prop := -9223372036854775808 ≤ h ∧ h ≤ 9223372036854775807
/-- Leaves and heights are in their ranges. -/
def BT.Fit : BT → Prop
  | .leaf x => x < 4096
  | .node l r h => l.Fit ∧ r.Fit ∧ In64 h

/-- A joint. -/
structure Jt where
  l : Int
  r : Int
  h : Int
deriving DecidableEq
def jt0 : Jt := ⟨0, 0, 0⟩

/-- How a node is named: a leaf by its number, an inner node by its joint. -/
def BT.code : BT → Nat → Int
  | .leaf x, _ => x
  | .node l r h, base => -((base + (BT.node l r h).nj : Nat) : Int)
/-- The joints of a tree, behind base others. -/
def BT.js : BT → Nat → List Jt
  | .leaf _, _ => []
  | .node l r h, base => l.js base ++ r.js (base + l.nj) ++ [⟨l.code base, r.code (base + l.nj), h⟩]
theorem BT.js_len : ∀ (b : BT) (base : Nat), (b.js base).length = b.nj
  | .leaf _, _ => rfl
  | .node l r h, base => by
    unfold BT.js BT.nj
    rw [List.length_append, List.length_append, BT.js_len l, BT.js_len r]
    rfl

/-- What has been read. -/
structure RdS where
  want : Nat
  bg : Nat
  node : Int
  leaves : Nat
  joints : List Jt
  stack : List (Int × Bool)

def rd0 : RdS := ⟨0, 0, 0, 0, [], []⟩

def dgR (st : RdS) (at_ : Nat) (minus : Bool) : RdS × Bool :=
  if st.want = 0 ∨ st.want = 1 then ({ st with bg := at_, want := 2 }, !minus)
  else if st.want = 4 then ({ st with bg := at_, want := 5 }, true)
  else (st, decide (st.want = 2 ∨ st.want = 5) && !minus)

def setLast (l : List Jt) (h : Int) : List Jt := l.set (l.length - 1) ⟨(l.getD (l.length - 1) jt0).l, (l.getD (l.length - 1) jt0).r, h⟩

def numR (st : RdS) (ds : List UInt8) : RdS × Bool :=
  match Lib.parseIntB 64 ds with
  | .ok v =>
    if st.want = 2 then ({ st with node := v, leaves := st.leaves + 1 }, decide (v < 4096) && decide (st.leaves + 1 ≤ 4096))
    else if st.want = 5 then ({ st with joints := setLast st.joints v, node := -(st.joints.length : Int) }, true)
    else (st, false)
  | _ => (st, false)

def clsR (st : RdS) (c : Int) : RdS × Bool :=
  if st.stack.length = 0 then ({ st with want := 0 }, decide (c = 59))
  else if (st.stack.getD (st.stack.length - 1) (0, false)).2 = false then ({ st with stack := st.stack.set (st.stack.length - 1) (st.node, true), want := 1 }, decide (c = 44))
  else ({ st with joints := st.joints ++ [⟨(st.stack.getD (st.stack.length - 1) (0, false)).1, st.node, 0⟩], stack := st.stack.take (st.stack.length - 1), want := 3 }, decide (c = 41))

/-- The bytes from one place to another. -/
def sl (s : List UInt8) (a b : Nat) : List UInt8 := (s.take b).drop a

def stepR (s : List UInt8) (at_ : Nat) (c : Int) (st : RdS) : RdS × Bool :=
  if (48 ≤ c ∧ c ≤ 57) ∨ c = 45 then dgR st at_ (decide (c = 45))
  else if c = 40 then ({ st with stack := st.stack ++ [(0, false)], want := 1 }, decide (st.want = 0 ∨ st.want = 1) && decide (st.stack.length < 4096))
  else if c = 58 then ({ st with want := 4 }, decide (st.want = 3))
  else if (numR st (sl s st.bg at_)).2 = true then clsR (numR st (sl s st.bg at_)).1 c else numR st (sl s st.bg at_)

/-- The machine on bytes that are characters. -/
def runB (s : List UInt8) : Nat → List UInt8 → RdS → RdS × Bool
  | _, [], st => (st, true)
  | p, c :: r, st => if (stepR s p (c.toNat : Int) st).2 = true then runB s (p + 1) r (stepR s p (c.toNat : Int) st).1 else stepR s p (c.toNat : Int) st

theorem runB_append (s : List UInt8) : ∀ (l1 : List UInt8) (p : Nat) (l2 : List UInt8) (st st' : RdS), runB s p l1 st = (st', true) → runB s p (l1 ++ l2) st = runB s (p + l1.length) l2 st'
  | [], p, l2, st, st', h => by
    have h : (st, true) = (st', true) := h
    injection h with h
    rw [h]; rfl
  | c :: l1, p, l2, st, st', h => by
    rw [runB] at h
    rw [List.cons_append, runB]
    split at h
    · rename_i hc
      rw [if_pos hc, runB_append s l1 (p + 1) l2 _ st' h]
      congr 1
      simp; omega
    · rename_i hc
      rw [h] at hc
      exact absurd rfl hc

theorem runB_one (s : List UInt8) (p : Nat) (c : UInt8) (st st' : RdS) (h : stepR s p (c.toNat : Int) st = (st', true)) : runB s p [c] st = (st', true) := by
  rw [runB, h, if_pos rfl, runB]

/-- Digits in the midst of a number change nothing. -/
theorem run_digits (s : List UInt8) : ∀ (l : List UInt8) (p : Nat) (st : RdS), (∀ c ∈ l, 48 ≤ c.toNat ∧ c.toNat ≤ 57) → st.want = 2 ∨ st.want = 5 → runB s p l st = (st, true)
  | [], _, _, _, _ => rfl
  | c :: l, p, st, h, hw => by
    have hc := h c (List.mem_cons_self ..)
    have e : stepR s p (c.toNat : Int) st = (st, true) := by
      unfold stepR
      rw [if_pos (by omega)]
      unfold dgR
      rw [if_neg (by omega), if_neg (by omega), decide_eq_true hw, decide_eq_false (by omega)]
      rfl
    rw [runB, e, if_pos rfl]
    exact run_digits s l (p + 1) st (fun c hc => h c (List.mem_cons_of_mem _ hc)) hw

theorem ofNat48 {u : Nat} (h : u < 10) : (UInt8.ofNat (48 + u)).toNat = 48 + u := by
  rw [UInt8.toNat_ofNat']
  omega
theorem decDigits_dig : ∀ (u : Nat), ∀ c ∈ Lib.decDigits u, 48 ≤ c.toNat ∧ c.toNat ≤ 57 := by
  intro u
  induction u using Nat.strongRecOn with
  | _ u ih =>
    intro c hc
    rw [Lib.decDigits] at hc
    split at hc
    · rw [List.mem_singleton] at hc
      rw [hc, ofNat48 (by omega)]; omega
    · rcases List.mem_append.1 hc with hc | hc
      · exact ih (u / 10) (by omega) c hc
      · rw [List.mem_singleton] at hc
        rw [hc, ofNat48 (by omega)]; omega
theorem decDigits_ne (u : Nat) : Lib.decDigits u ≠ [] := by
  rw [Lib.decDigits]
  split <;> simp

theorem parseM_append {M : Nat} : ∀ (l1 l2 : List UInt8) (acc v : Nat), Lib.parseUintM M acc l1 = .ok v → Lib.parseUintM M acc (l1 ++ l2) = Lib.parseUintM M v l2
  | [], l2, acc, v, h => by
    rw [Lib.parseUintM] at h
    injection h with h
    rw [h]; rfl
  | c :: l1, l2, acc, v, h => by
    rw [Lib.parseUintM] at h
    rw [List.cons_append, Lib.parseUintM]
    split at h
    · rename_i h1
      rw [if_pos h1]
      split at h
      · cases h
      · rename_i h2
        rw [if_neg h2]
        split at h
        · cases h
        · rename_i h3
          rw [if_neg h3]
          exact parseM_append l1 l2 _ v h
    · cases h

theorem parseM_dec : ∀ (u : Nat), u ≤ 18446744073709551615 → Lib.parseUintM 18446744073709551615 0 (Lib.decDigits u) = .ok u := by
  intro u
  induction u using Nat.strongRecOn with
  | _ u ih =>
    intro hu
    rw [Lib.decDigits]
    split
    · rename_i h
      rw [Lib.parseUintM, ofNat48 h, if_pos (by omega), if_neg (by omega), if_neg (by omega), Lib.parseUintM]
      congr 1
      omega
    · rename_i h
      rw [parseM_append _ _ 0 (u / 10) (ih (u / 10) (by omega) (by omega)), Lib.parseUintM, ofNat48 (by omega), if_pos (by omega), if_neg (by omega), if_neg (by omega), Lib.parseUintM]
      congr 1
      omega

theorem parse_itoa {h : Int} (hh : In64 h) : Lib.parseIntB 64 (Lib.itoa h) = .ok h := by
  unfold In64 at hh
  have pow64 : 2 ^ 64 - 1 = 18446744073709551615 := by decide
  have pow63 : 2 ^ (64 - 1) = 9223372036854775808 := by decide
  unfold Lib.itoa
  split
  · rename_i hneg
    rw [Lib.parseIntB]
    have e45 : (45 : UInt8).toNat = 45 := by decide
    simp only [e45]
    rw [if_pos (.inr trivial)]
    unfold Lib.parseUintB
    rw [if_neg (decDigits_ne _), pow64, parseM_dec _ (by omega)]
    simp only
    rw [if_neg (by simp), pow63, if_neg (by omega), if_pos trivial]
    congr 1
    omega
  · rename_i hpos
    have hd := decDigits_dig h.toNat
    have hm := parseM_dec h.toNat (by omega)
    have hne := decDigits_ne h.toNat
    generalize Lib.decDigits h.toNat = l at hd hm hne
    cases l with
    | nil => exact absurd rfl hne
    | cons c r =>
      have hc := hd c (List.mem_cons_self ..)
      rw [Lib.parseIntB]
      rw [if_neg (by omega)]
      unfold Lib.parseUintB
      rw [if_neg (by simp), pow64, hm]
      simp only
      rw [pow63, if_neg (by omega), if_neg (by omega), if_neg (by omega)]
      congr 1
      omega

theorem sl_mid (pre l suf : List UInt8) : sl (pre ++ l ++ suf) pre.length (pre.length + l.length) = l := by
  unfold sl
  rw [List.take_append_of_le_length (by simp), List.take_of_length_le (by simp), List.drop_left]

/-- A number that has been begun: at its end it says what b is. -/
structure Pend (s : List UInt8) (b : BT) (st st1 : RdS) (q : Nat) : Prop where
  want : st1.want = 2 ∨ st1.want = 5
  num : numR st1 (sl s st1.bg q) = ({ want := st1.want, bg := st1.bg, node := b.code st.joints.length, leaves := st.leaves + b.lvs, joints := st.joints ++ b.js st.joints.length, stack := st.stack }, true)

theorem stepR_end {s : List UInt8} {b : BT} {st st1 : RdS} {q : Nat} (h : Pend s b st st1 q) {c : UInt8} (hc : c.toNat = 44 ∨ c.toNat = 41 ∨ c.toNat = 59) :
    stepR s q (c.toNat : Int) st1 = clsR { want := st1.want, bg := st1.bg, node := b.code st.joints.length, leaves := st.leaves + b.lvs, joints := st.joints ++ b.js st.joints.length, stack := st.stack } (c.toNat : Int) := by
  unfold stepR
  rw [if_neg (by omega), if_neg (by omega), if_neg (by omega), h.num, if_pos rfl]

theorem run_num {s : List UInt8} {h : Int} {pre suf : List UInt8} (hs : s = pre ++ Lib.itoa h ++ suf) {st : RdS} (hw : (st.want ≤ 1 ∧ 0 ≤ h) ∨ st.want = 4) :
    runB s pre.length (Lib.itoa h) st = ({ st with bg := pre.length, want := if st.want = 4 then 5 else 2 }, true) := by
  have hsplit : ∃ c r, Lib.itoa h = c :: r ∧ (∀ x ∈ r, 48 ≤ x.toNat ∧ x.toNat ≤ 57) ∧ ((48 ≤ c.toNat ∧ c.toNat ≤ 57) ∨ (c.toNat = 45 ∧ h < 0)) := by
    unfold Lib.itoa
    split
    · rename_i hn
      exact ⟨45, _, rfl, decDigits_dig _, .inr ⟨by decide, hn⟩⟩
    · have hd := decDigits_dig h.toNat
      have hne := decDigits_ne h.toNat
      generalize Lib.decDigits h.toNat = l at hd hne
      cases l with
      | nil => exact absurd rfl hne
      | cons c r => exact ⟨c, r, rfl, fun x hx => hd x (List.mem_cons_of_mem _ hx), .inl (hd c (List.mem_cons_self ..))⟩
  obtain ⟨c, r, e, hr, hc⟩ := hsplit
  rw [e]
  have h1 : stepR s pre.length (c.toNat : Int) st = ({ st with bg := pre.length, want := if st.want = 4 then 5 else 2 }, true) := by
    unfold stepR
    rw [if_pos (by omega)]
    unfold dgR
    rcases hw with ⟨hw, h0⟩ | hw
    · rw [if_pos (by omega), if_neg (by omega), decide_eq_false (by omega)]; rfl
    · rw [if_neg (by omega), if_pos hw, if_pos hw]
  have h2 := runB_append s [c] pre.length r st _ (runB_one s _ c st _ h1)
  rw [show c :: r = [c] ++ r from rfl, h2]
  refine run_digits s r _ _ hr ?_
  show (if st.want = 4 then 5 else 2) = 2 ∨ _
  split <;> simp

theorem getD_snoc {α : Type} (l : List α) (a d : α) : (l ++ [a]).getD ((l ++ [a]).length - 1) d = a := by
  rw [List.getD_eq_getElem?_getD, List.length_append, List.length_singleton, Nat.add_sub_cancel, List.getElem?_append_right (Nat.le_refl _), Nat.sub_self]
  rfl
theorem set_snoc {α : Type} (l : List α) (a b : α) : (l ++ [a]).set ((l ++ [a]).length - 1) b = l ++ [b] := by
  rw [List.length_append, List.length_singleton, Nat.add_sub_cancel, List.set_append_right _ _ (Nat.le_refl _), Nat.sub_self]
  rfl

/-- The machine reads the text of a tree. -/
theorem run_bt : ∀ (b : BT) (s pre suf : List UInt8) (st : RdS), s = pre ++ b.txt ++ suf → st.want ≤ 1 → b.Fit → st.leaves + b.lvs ≤ 4096 → st.stack.length + b.dep ≤ 4096 →
    ∃ st1, runB s pre.length b.txt st = (st1, true) ∧ Pend s b st st1 (pre.length + b.txt.length)
  | .leaf x, s, pre, suf, st, hs, hw, hf, hl, hd => by
    have hf : x < 4096 := hf
    have hl : st.leaves + 1 ≤ 4096 := hl
    have h1 := run_num (h := (x : Int)) hs (st := st) (.inl ⟨hw, by omega⟩)
    rw [if_neg (by omega)] at h1
    refine ⟨_, h1, .inl rfl, ?_⟩
    have e : sl s pre.length (pre.length + (Lib.itoa (x : Int)).length) = Lib.itoa (x : Int) := by rw [hs]; exact sl_mid _ _ _
    show numR _ (sl s pre.length (pre.length + (Lib.itoa (x : Int)).length)) = _
    rw [e]
    unfold numR
    rw [parse_itoa (by unfold In64; omega)]
    simp only
    rw [if_pos trivial, decide_eq_true (by omega), decide_eq_true hl]
    simp [BT.code, BT.lvs, BT.js]
  | .node l r h, s, pre, suf, st, hs, hw, hf, hl, hd => by
    obtain ⟨fl, fr, f64⟩ := hf
    have hl' : st.leaves + (l.lvs + r.lvs) ≤ 4096 := hl
    have hd' : st.stack.length + (max l.dep r.dep + 1) ≤ 4096 := hd
    -- the parenthesis
    have e40 : (40 : UInt8).toNat = 40 := by decide
    have e44 : (44 : UInt8).toNat = 44 := by decide
    have e41 : (41 : UInt8).toNat = 41 := by decide
    have e58 : (58 : UInt8).toNat = 58 := by decide
    have s1 : stepR s pre.length ((40 : UInt8).toNat : Int) st = ({ st with stack := st.stack ++ [(0, false)], want := 1 }, true) := by
      unfold stepR
      rw [e40, if_neg (by decide), if_pos (by decide), decide_eq_true (by omega), decide_eq_true (by omega)]
      rfl
    have r1 := runB_one s _ _ _ _ s1
    -- the left child
    have hs2 : s = (pre ++ [40]) ++ l.txt ++ (44 :: (r.txt ++ 41 :: 58 :: Lib.itoa h) ++ suf) := by
      rw [hs]
      simp [BT.txt, List.append_assoc]
    obtain ⟨st2, r2, p2⟩ := run_bt l s (pre ++ [40]) _ { st with stack := st.stack ++ [(0, false)], want := 1 } hs2 (by simp) fl (by simp; omega) (by simp; omega)
    rw [List.length_append, List.length_singleton] at r2 p2
    -- the comma
    have s3 := stepR_end p2 (c := 44) (.inl e44)
    have c3 : clsR { want := st2.want, bg := st2.bg, node := l.code st.joints.length, leaves := st.leaves + l.lvs, joints := st.joints ++ l.js st.joints.length, stack := st.stack ++ [(0, false)] } ((44 : UInt8).toNat : Int) = ({ want := 1, bg := st2.bg, node := l.code st.joints.length, leaves := st.leaves + l.lvs, joints := st.joints ++ l.js st.joints.length, stack := st.stack ++ [(l.code st.joints.length, true)] }, true) := by
      unfold clsR
      simp only [getD_snoc, set_snoc]
      rw [if_neg (by simp), if_pos trivial, e44]
      rfl
    have r3 := runB_one s _ _ _ _ (s3.trans c3)
    -- the right child
    have hs4 : s = (pre ++ [40] ++ l.txt ++ [44]) ++ r.txt ++ (41 :: 58 :: Lib.itoa h ++ suf) := by
      rw [hs2]
      simp [List.append_assoc]
    obtain ⟨st4, r4, p4⟩ := run_bt r s (pre ++ [40] ++ l.txt ++ [44]) _ { want := 1, bg := st2.bg, node := l.code st.joints.length, leaves := st.leaves + l.lvs, joints := st.joints ++ l.js st.joints.length, stack := st.stack ++ [(l.code st.joints.length, true)] } hs4 (by simp) fr (by simp; omega) (by simp; omega)
    have len4 : (pre ++ [40] ++ l.txt ++ [44]).length = pre.length + 1 + l.txt.length + 1 := by simp; omega
    rw [len4] at r4 p4
    have jl : (st.joints ++ l.js st.joints.length).length = st.joints.length + l.nj := by rw [List.length_append, BT.js_len]
    -- the closing parenthesis
    have s5 := stepR_end p4 (c := 41) (.inr (.inl e41))
    have c5 : clsR { want := st4.want, bg := st4.bg, node := r.code (st.joints ++ l.js st.joints.length).length, leaves := st.leaves + l.lvs + r.lvs, joints := st.joints ++ l.js st.joints.length ++ r.js (st.joints ++ l.js st.joints.length).length, stack := st.stack ++ [(l.code st.joints.length, true)] } ((41 : UInt8).toNat : Int) = ({ want := 3, bg := st4.bg, node := r.code (st.joints ++ l.js st.joints.length).length, leaves := st.leaves + l.lvs + r.lvs, joints := st.joints ++ l.js st.joints.length ++ r.js (st.joints ++ l.js st.joints.length).length ++ [⟨l.code st.joints.length, r.code (st.joints ++ l.js st.joints.length).length, 0⟩], stack := st.stack }, true) := by
      unfold clsR
      simp only [getD_snoc]
      rw [if_neg (by simp), if_neg (by simp), e41]
      simp
    have r5 := runB_one s _ _ _ _ (s5.trans c5)
    -- the colon
    have s6 : stepR s (pre.length + 1 + l.txt.length + 1 + r.txt.length + 1) ((58 : UInt8).toNat : Int) { want := 3, bg := st4.bg, node := r.code (st.joints ++ l.js st.joints.length).length, leaves := st.leaves + l.lvs + r.lvs, joints := st.joints ++ l.js st.joints.length ++ r.js (st.joints ++ l.js st.joints.length).length ++ [⟨l.code st.joints.length, r.code (st.joints ++ l.js st.joints.length).length, 0⟩], stack := st.stack } = ({ want := 4, bg := st4.bg, node := r.code (st.joints ++ l.js st.joints.length).length, leaves := st.leaves + l.lvs + r.lvs, joints := st.joints ++ l.js st.joints.length ++ r.js (st.joints ++ l.js st.joints.length).length ++ [⟨l.code st.joints.length, r.code (st.joints ++ l.js st.joints.length).length, 0⟩], stack := st.stack }, true) := by
      unfold stepR
      rw [e58, if_neg (by decide), if_neg (by decide), if_pos (by decide)]
      rfl
    have r6 := runB_one s _ _ _ _ s6
    -- the height
    have hs7 : s = (pre ++ [40] ++ l.txt ++ [44] ++ r.txt ++ [41] ++ [58]) ++ Lib.itoa h ++ suf := by
      rw [hs4]
      simp [List.append_assoc]
    have len7 : (pre ++ [40] ++ l.txt ++ [44] ++ r.txt ++ [41] ++ [58]).length = pre.length + 1 + l.txt.length + 1 + r.txt.length + 1 + 1 := by simp; omega
    have r7 := run_num hs7 (st := { want := 4, bg := st4.bg, node := r.code (st.joints ++ l.js st.joints.length).length, leaves := st.leaves + l.lvs + r.lvs, joints := st.joints ++ l.js st.joints.length ++ r.js (st.joints ++ l.js st.joints.length).length ++ [⟨l.code st.joints.length, r.code (st.joints ++ l.js st.joints.length).length, 0⟩], stack := st.stack }) (.inr rfl)
    rw [if_pos rfl, len7] at r7
    have etxt : (BT.node l r h).txt = [40] ++ (l.txt ++ ([44] ++ (r.txt ++ ([41] ++ ([58] ++ Lib.itoa h))))) := by simp [BT.txt]
    refine ⟨{ want := 5, bg := pre.length + 1 + l.txt.length + 1 + r.txt.length + 1 + 1, node := r.code (st.joints ++ l.js st.joints.length).length, leaves := st.leaves + l.lvs + r.lvs, joints := st.joints ++ l.js st.joints.length ++ r.js (st.joints ++ l.js st.joints.length).length ++ [⟨l.code st.joints.length, r.code (st.joints ++ l.js st.joints.length).length, 0⟩], stack := st.stack }, ?_, .inr rfl, ?_⟩
    · rw [etxt, runB_append s _ _ _ _ _ r1, List.length_singleton, runB_append s _ _ _ _ _ r2, runB_append s _ _ _ _ _ r3, List.length_singleton, runB_append s _ _ _ _ _ r4, runB_append s _ _ _ _ _ r5, List.length_singleton, runB_append s _ _ _ _ _ r6, List.length_singleton]
      exact r7
    · have e : sl s (pre.length + 1 + l.txt.length + 1 + r.txt.length + 1 + 1) (pre.length + (BT.node l r h).txt.length) = Lib.itoa h := by
        have := sl_mid (pre ++ [40] ++ l.txt ++ [44] ++ r.txt ++ [41] ++ [58]) (Lib.itoa h) suf
        rw [← hs7, len7] at this
        rw [etxt]
        refine Eq.trans ?_ this
        congr 1
        simp
        omega
      show numR _ (sl s (pre.length + 1 + l.txt.length + 1 + r.txt.length + 1 + 1) (pre.length + (BT.node l r h).txt.length)) = _
      rw [e]
      unfold numR
      rw [parse_itoa f64]
      simp only
      rw [if_neg (by decide), if_pos trivial]
      unfold setLast
      simp only [getD_snoc, set_snoc]
      have ej : (BT.node l r h).js st.joints.length = l.js st.joints.length ++ r.js (st.joints.length + l.nj) ++ [⟨l.code st.joints.length, r.code (st.joints.length + l.nj), h⟩] := rfl
      have ec : (BT.node l r h).code st.joints.length = -((st.joints.length + (l.nj + r.nj + 1) : Nat) : Int) := rfl
      have el : (BT.node l r h).lvs = l.lvs + r.lvs := rfl
      rw [jl, ej, ec, el]
      congr 2
      · rw [List.length_append, List.length_append, List.length_append, BT.js_len, BT.js_len, List.length_singleton]
        omega
      · omega
      · simp [List.append_assoc]

/-- The machine reads the text of a forest. -/
def fLvs (F : List BT) : Nat := (F.map BT.lvs).sum
def fJs : List BT → Nat → List Jt
  | [], _ => []
  | b :: F, base => b.js base ++ fJs F (base + b.nj)
theorem run_forest : ∀ (F : List BT) (s pre suf : List UInt8) (st : RdS), s = pre ++ fTxt F ++ suf → st.want = 0 → st.stack = [] → (∀ b ∈ F, b.Fit ∧ b.dep ≤ 4096) → st.leaves + fLvs F ≤ 4096 →
    ∃ st1, runB s pre.length (fTxt F) st = (st1, true) ∧ st1.want = 0 ∧ st1.leaves = st.leaves + fLvs F ∧ st1.joints = st.joints ++ fJs F st.joints.length
  | [], s, pre, suf, st, hs, hw, hst, hf, hl => ⟨st, rfl, hw, rfl, by simp [fJs]⟩
  | b :: F, s, pre, suf, st, hs, hw, hst, hf, hl => by
    have hl' : st.leaves + (b.lvs + fLvs F) ≤ 4096 := by
      unfold fLvs at hl ⊢
      simpa using hl
    have e59 : (59 : UInt8).toNat = 59 := by decide
    have ef : fTxt (b :: F) = b.txt ++ ([59] ++ fTxt F) := by simp [fTxt]
    have hs1 : s = pre ++ b.txt ++ ([59] ++ fTxt F ++ suf) := by rw [hs, ef]; simp [List.append_assoc]
    obtain ⟨f1, f2⟩ := hf b (List.mem_cons_self ..)
    obtain ⟨st1, r1, p1⟩ := run_bt b s pre _ st hs1 (by omega) f1 (by omega) (by rw [hst]; simpa using f2)
    have s2 := stepR_end p1 (c := 59) (.inr (.inr e59))
    have c2 : clsR { want := st1.want, bg := st1.bg, node := b.code st.joints.length, leaves := st.leaves + b.lvs, joints := st.joints ++ b.js st.joints.length, stack := st.stack } ((59 : UInt8).toNat : Int) = ({ want := 0, bg := st1.bg, node := b.code st.joints.length, leaves := st.leaves + b.lvs, joints := st.joints ++ b.js st.joints.length, stack := st.stack }, true) := by
      unfold clsR
      rw [if_pos (by simp [hst]), e59]
      rfl
    have r2 := runB_one s _ _ _ _ (s2.trans c2)
    have hs3 : s = (pre ++ b.txt ++ [59]) ++ fTxt F ++ suf := by rw [hs1]; simp [List.append_assoc]
    obtain ⟨st3, r3, h1, h2, h3⟩ := run_forest F s (pre ++ b.txt ++ [59]) suf { want := 0, bg := st1.bg, node := b.code st.joints.length, leaves := st.leaves + b.lvs, joints := st.joints ++ b.js st.joints.length, stack := st.stack } hs3 rfl hst (fun c hc => hf c (List.mem_cons_of_mem _ hc)) (by simp; omega)
    have len3 : (pre ++ b.txt ++ [59]).length = pre.length + b.txt.length + 1 := by simp; omega
    rw [len3] at r3
    refine ⟨st3, ?_, h1, ?_, ?_⟩
    · rw [ef, runB_append s _ _ _ _ _ r1, runB_append s _ _ _ _ _ r2]
      exact r3
    · rw [h2]
      unfold fLvs
      simp
      omega
    · rw [h3]
      have : (st.joints ++ b.js st.joints.length).length = st.joints.length + b.nj := by rw [List.length_append, BT.js_len]
      simp only [this]
      rw [List.append_assoc]
      rfl

end Go.Proofs.YthacjealoomioaaGreatDoor

/- The reference's reader of texts. No program in sight. -/
namespace Go.Proofs.YthacjealoomioaaGreatDoor
set_option linter.unusedVariables false
set_option linter.unusedSimpArgs false

/-- A part of a text: a leaf, or two parts with a height. -/
structure Pt where
  leaf : Int
  left : Int
  right : Int
  h : Int
deriving DecidableEq
def BT.sz : BT → Nat
  | .leaf _ => 1
  | .node l r _ => l.sz + r.sz + 1
def BT.ps : BT → Nat → List Pt
  | .leaf x, _ => [⟨x, 0, 0, 0⟩]
  | .node l r h, base => l.ps base ++ r.ps (base + l.sz) ++ [⟨-1, ((base + l.sz - 1 : Nat) : Int), ((base + l.sz + r.sz - 1 : Nat) : Int), h⟩]
end Go.Proofs.YthacjealoomioaaGreatDoor

/- The tree of joints: by the program's rounds, and by the reference's. No program in sight. -/
namespace Go.Proofs.YthacjealoomioaaGreatDoor
set_option linter.unusedVariables false
set_option linter.unusedSimpArgs false

def JA (J : List Jt) (i : Nat) : Jt := J.getD i jt0
def hsE (J : List Jt) : List Ed := J.map fun j => ⟨0, 0, j.h⟩
theorem hsE_len (J : List Jt) : (hsE J).length = J.length := List.length_map _
theorem hsE_w {J : List Jt} {i : Nat} (hi : i < J.length) : wI (hsE J) i = (JA J i).h := by
  unfold wI EA hsE JA
  rw [List.getD_eq_getElem?_getD, List.getElem?_map, List.getD_eq_getElem?_getD, List.getElem?_eq_getElem hi]
  rfl

/-- The joints by height, and then by index. -/
def ordJ (J : List Jt) : List Nat := ordL (hsE J)
def rkJ (J : List Jt) (i : Nat) : Nat := (ordJ J).idxOf i
theorem ordJ_len (J : List Jt) : (ordJ J).length = J.length := (ord_length _).trans (hsE_len J)
theorem ordJ_nodup (J : List Jt) : (ordJ J).Nodup := (ord_perm _).nodup_iff.2 List.nodup_range
theorem ordJ_mem {J : List Jt} {i : Nat} : i ∈ ordJ J ↔ i < J.length := by
  unfold ordJ
  rw [(ord_perm (hsE J)).mem_iff, List.mem_range, hsE_len]
theorem rk_lt {J : List Jt} {i : Nat} (hi : i < J.length) : rkJ J i < J.length := by
  have := List.idxOf_lt_length_iff.2 (ordJ_mem.2 hi)
  rw [ordJ_len] at this
  exact this
theorem at_rk {J : List Jt} {i : Nat} (hi : i < J.length) : (ordJ J).getD (rkJ J i) 0 = i := by
  have h := List.idxOf_lt_length_iff.2 (ordJ_mem.2 hi)
  show (ordJ J).getD ((ordJ J).idxOf i) 0 = i
  rw [List.getD_eq_getElem?_getD, List.getElem?_eq_getElem h]
  show (ordJ J)[(ordJ J).idxOf i] = i
  exact List.getElem_idxOf h
theorem ordJ_at_lt {J : List Jt} {k : Nat} (hk : k < J.length) : (ordJ J).getD k 0 < J.length := by
  rw [← ordJ_mem, List.getD_eq_getElem?_getD, List.getElem?_eq_getElem (by rw [ordJ_len]; exact hk)]
  exact List.getElem_mem _
theorem gd_inj {q : List Nat} (h : q.Nodup) {i j : Nat} (hi : i < q.length) (hj : j < q.length) (e : q.getD i 0 = q.getD j 0) : i = j := by
  rw [List.getD_eq_getElem?_getD, List.getD_eq_getElem?_getD, List.getElem?_eq_getElem hi, List.getElem?_eq_getElem hj] at e
  exact (List.getElem_inj h).1 e
theorem rk_at {J : List Jt} {k : Nat} (hk : k < J.length) : rkJ J ((ordJ J).getD k 0) = k :=
  gd_inj (ordJ_nodup J) (by rw [ordJ_len]; exact rk_lt (ordJ_at_lt hk)) (by rw [ordJ_len]; exact hk) (at_rk (ordJ_at_lt hk))
/-- The node that a code names. -/
def jx (c : Int) : Nat := (-1 - c).toNat
def nd (n : Nat) (J : List Jt) (c : Int) : Nat := if c < 0 then n + rkJ J (jx c) else c.toNat

/-- Joints that come from a forest: n leaves; lv: how many leaves are below each joint. -/
structure NJ (n : Nat) (J : List Jt) (V : Nat → Nat) : Prop where
  l : ∀ i, i < J.length → (0 ≤ (JA J i).l ∧ (JA J i).l < n) ∨ ((JA J i).l < 0 ∧ jx (JA J i).l < i)
  r : ∀ i, i < J.length → (0 ≤ (JA J i).r ∧ (JA J i).r < n) ∨ ((JA J i).r < 0 ∧ jx (JA J i).r < i)
  lr : ∀ i, i < J.length → (JA J i).l ≠ (JA J i).r
  ij : ∀ i j, i < J.length → j < J.length → i ≠ j → (JA J i).l ≠ (JA J j).l ∧ (JA J i).l ≠ (JA J j).r ∧ (JA J i).r ≠ (JA J j).r
  hl : ∀ i, i < J.length → (JA J i).l < 0 → (JA J (jx (JA J i).l)).h ≤ (JA J i).h
  hr : ∀ i, i < J.length → (JA J i).r < 0 → (JA J (jx (JA J i).r)).h ≤ (JA J i).h
  lv : ∀ i, i < J.length → V i = (if (JA J i).l < 0 then V (jx (JA J i).l) else 1) + (if (JA J i).r < 0 then V (jx (JA J i).r) else 1)
  lvn : ∀ i, i < J.length → V i ≤ 4096

/-- A code of a child. -/
def IsC (n : Nat) (J : List Jt) (c : Int) : Prop := (0 ≤ c ∧ c < n) ∨ (c < 0 ∧ jx c < J.length)
theorem NJ.cl {n : Nat} {J : List Jt} {lv : Nat → Nat} (h : NJ n J lv) {i : Nat} (hi : i < J.length) : IsC n J (JA J i).l := by
  rcases h.l i hi with h | h
  · exact .inl h
  · exact .inr ⟨h.1, by omega⟩
theorem NJ.cr {n : Nat} {J : List Jt} {lv : Nat → Nat} (h : NJ n J lv) {i : Nat} (hi : i < J.length) : IsC n J (JA J i).r := by
  rcases h.r i hi with h | h
  · exact .inl h
  · exact .inr ⟨h.1, by omega⟩

/-- One joint is put at its place. -/
def putJ (n : Nat) (J : List Jt) (t : Tr) (i : Nat) : Tr :=
  ⟨t.lv, t.left.set (n + rkJ J i) (nd n J (JA J i).l), t.right.set (n + rkJ J i) (nd n J (JA J i).r), (t.par.set (nd n J (JA J i).l) ((n + rkJ J i : Nat) : Int)).set (nd n J (JA J i).r) ((n + rkJ J i : Nat) : Int), t.hgt.set (n + rkJ J i) (JA J i).h, t.siz.set (n + rkJ J i) (IntKind.i64.wrap (gi t.siz (nd n J (JA J i).l) + gi t.siz (nd n J (JA J i).r)))⟩

def t0P (n m : Nat) : Tr := ⟨n, List.replicate (n + m) (-1), List.replicate (n + m) (-1), List.replicate (n + m) (-1), List.replicate (n + m) 0, List.replicate n 1 ++ List.replicate m 0⟩
def treeTo (n : Nat) (J : List Jt) : Nat → Option Tr
  | 0 => some (t0P n J.length)
  | i + 1 => match treeTo n J i with
    | none => none
    | some t => if n + J.length ≤ max (nd n J (JA J i).l) (nd n J (JA J i).r) then none else some (putJ n J t i)

/- The reference's rounds: by rank. -/
end Go.Proofs.YthacjealoomioaaGreatDoor

/- Forests that a valid tree has: their joints; the forest of a tree. No program in sight. -/
namespace Go.Proofs.YthacjealoomioaaGreatDoor
set_option linter.unusedVariables false
set_option linter.unusedSimpArgs false

def BT.leaves : BT → List Nat
  | .leaf x => [x]
  | .node l r _ => l.leaves ++ r.leaves
def BT.fst : BT → Nat
  | .leaf x => x
  | .node l _ _ => l.fst
/-- No higher than h. -/
def BT.Low : BT → Int → Prop
  | .leaf _, _ => True
  | .node _ _ h', h => h' ≤ h
def BT.Mono : BT → Prop
  | .leaf _ => True
  | .node l r h => l.Mono ∧ r.Mono ∧ l.Low h ∧ r.Low h
def BT.Lft : BT → Prop
  | .leaf _ => True
  | .node l r _ => l.Lft ∧ r.Lft ∧ l.fst < r.fst

structure CF (n : Nat) (F : List BT) : Prop where
  n4 : n ≤ 4096
  fit : ∀ b ∈ F, b.Fit
  mono : ∀ b ∈ F, b.Mono
  lft : ∀ b ∈ F, b.Lft
  perm : (F.flatMap BT.leaves).Perm (List.range n)
  srt : F.Pairwise fun a b => a.fst < b.fst

theorem leaves_len : ∀ b : BT, b.leaves.length = b.lvs
  | .leaf _ => rfl
  | .node l r _ => by rw [BT.leaves, List.length_append, leaves_len l, leaves_len r, BT.lvs]
theorem fLvs_len : ∀ F : List BT, (F.flatMap BT.leaves).length = fLvs F
  | [] => rfl
  | b :: F => by
    have := fLvs_len F
    unfold fLvs at *
    rw [List.flatMap_cons, List.length_append, leaves_len, this]
    simp
theorem CF.lvs {n : Nat} {F : List BT} (h : CF n F) : fLvs F = n := by
  rw [← fLvs_len, h.perm.length_eq, List.length_range]
def BT.nodes : BT → Nat → List Int
  | .leaf x, _ => [(x : Int)]
  | .node l r h, base => l.nodes base ++ r.nodes (base + l.nj) ++ [(BT.node l r h).code base]
def ch2 (j : Jt) : List Int := [j.l, j.r]
theorem chs_perm : ∀ (b : BT) (base : Nat), ((b.js base).flatMap ch2 ++ [b.code base]).Perm (b.nodes base)
  | .leaf x, base => List.Perm.refl _
  | .node l r h, base => by
    have h1 := chs_perm l base
    have h2 := chs_perm r (base + l.nj)
    have e : ((BT.node l r h).js base).flatMap ch2 = (l.js base).flatMap ch2 ++ (r.js (base + l.nj)).flatMap ch2 ++ [l.code base, r.code (base + l.nj)] := by
      rw [BT.js, List.flatMap_append, List.flatMap_append]
      rfl
    rw [e, BT.nodes, List.perm_iff_count]
    intro a
    have c1 := h1.count_eq a
    have c2 := h2.count_eq a
    simp only [List.count_append, List.count_cons, List.count_nil] at c1 c2 ⊢
    omega
def negs (base k : Nat) : List Int := (List.range k).map fun i => -((base + i + 1 : Nat) : Int)
theorem negs_add (base a b : Nat) : negs base (a + b) = negs base a ++ negs (base + a) b := by
  unfold negs
  rw [List.range_add, List.map_append, List.map_map]
  congr 1
  apply List.map_congr_left
  intro i _
  show -((base + (a + i) + 1 : Nat) : Int) = -((base + a + i + 1 : Nat) : Int)
  omega
theorem nodes_perm : ∀ (b : BT) (base : Nat), (b.nodes base).Perm (b.leaves.map (fun x : Nat => (x : Int)) ++ negs base b.nj)
  | .leaf x, base => List.Perm.refl _
  | .node l r h, base => by
    have h1 := nodes_perm l base
    have h2 := nodes_perm r (base + l.nj)
    have e : negs base (BT.node l r h).nj = negs base l.nj ++ negs (base + l.nj) r.nj ++ [(BT.node l r h).code base] := by
      show negs base (l.nj + r.nj + 1) = _
      rw [negs_add, negs_add]
      rfl
    rw [BT.nodes, e, BT.leaves, List.map_append, List.perm_iff_count]
    intro a
    have c1 := h1.count_eq a
    have c2 := h2.count_eq a
    simp only [List.count_append] at c1 c2 ⊢
    omega
def fNj (F : List BT) : Nat := (F.map BT.nj).sum
def fNodes : List BT → Nat → List Int
  | [], _ => []
  | b :: F, base => b.nodes base ++ fNodes F (base + b.nj)
def fCodes : List BT → Nat → List Int
  | [], _ => []
  | b :: F, base => b.code base :: fCodes F (base + b.nj)
theorem fJs_len : ∀ (F : List BT) (base : Nat), (fJs F base).length = fNj F
  | [], _ => rfl
  | b :: F, base => by
    rw [fJs, List.length_append, BT.js_len, fJs_len F]
    unfold fNj
    simp
theorem fchs_perm : ∀ (F : List BT) (base : Nat), ((fJs F base).flatMap ch2 ++ fCodes F base).Perm (fNodes F base)
  | [], _ => List.Perm.refl _
  | b :: F, base => by
    have h1 := chs_perm b base
    have h2 := fchs_perm F (base + b.nj)
    rw [fJs, fNodes, fCodes, List.flatMap_append, List.perm_iff_count]
    intro a
    have c1 := h1.count_eq a
    have c2 := h2.count_eq a
    simp only [List.count_append, List.count_cons, List.count_nil] at c1 c2 ⊢
    omega
theorem fnodes_perm : ∀ (F : List BT) (base : Nat), (fNodes F base).Perm ((F.flatMap BT.leaves).map (fun x : Nat => (x : Int)) ++ negs base (fNj F))
  | [], _ => List.Perm.refl _
  | b :: F, base => by
    have h1 := nodes_perm b base
    have h2 := fnodes_perm F (base + b.nj)
    have e : fNj (b :: F) = b.nj + fNj F := by unfold fNj; simp
    rw [fNodes, e, negs_add, List.flatMap_cons, List.map_append, List.perm_iff_count]
    intro a
    have c1 := h1.count_eq a
    have c2 := h2.count_eq a
    simp only [List.count_append] at c1 c2 ⊢
    omega

theorem CF.nodup {n : Nat} {F : List BT} (h : CF n F) : (fNodes F 0).Nodup := by
  rw [(fnodes_perm F 0).nodup_iff, List.nodup_append]
  have nd := h.perm.nodup_iff.2 List.nodup_range
  refine ⟨?_, ?_, fun a ha b hb e => ?_⟩
  · rw [List.nodup_iff_pairwise_ne, List.pairwise_map]
    exact (List.nodup_iff_pairwise_ne.1 nd).imp (fun {a b} hab e => hab (Int.ofNat.inj e))
  · unfold negs
    rw [List.nodup_iff_pairwise_ne, List.pairwise_map]
    exact (List.nodup_iff_pairwise_ne.1 List.nodup_range).imp (fun {a b} hab e => hab (by omega))
  · obtain ⟨x, _, rfl⟩ := List.mem_map.1 ha
    obtain ⟨i, _, rfl⟩ := List.mem_map.1 hb
    omega

theorem ch2_distinct : ∀ (J : List Jt), (J.flatMap ch2).Nodup → (∀ i, i < J.length → (JA J i).l ≠ (JA J i).r) ∧ ∀ i j, i < j → j < J.length → (JA J i).l ≠ (JA J j).l ∧ (JA J i).l ≠ (JA J j).r ∧ (JA J i).r ≠ (JA J j).l ∧ (JA J i).r ≠ (JA J j).r
  | [], _ => ⟨fun i hi => by simp at hi, fun i j _ hj => by simp at hj⟩
  | c :: J, h => by
    rw [List.flatMap_cons, List.nodup_append] at h
    obtain ⟨h1, h2, h3⟩ := h
    obtain ⟨k1, k2⟩ := ch2_distinct J h2
    have hc : c.l ≠ c.r := by
      unfold ch2 at h1
      simpa using h1
    have hm : ∀ j, j < J.length → (JA J j).l ∈ J.flatMap ch2 ∧ (JA J j).r ∈ J.flatMap ch2 := fun j hj => by
      have hjm : JA J j ∈ J := by
        unfold JA
        rw [List.getD_eq_getElem?_getD, List.getElem?_eq_getElem hj]
        exact List.getElem_mem hj
      exact ⟨List.mem_flatMap.2 ⟨_, hjm, by simp [ch2]⟩, List.mem_flatMap.2 ⟨_, hjm, by simp [ch2]⟩⟩
    refine ⟨fun i hi => ?_, fun i j hij hj => ?_⟩
    · cases i with
      | zero => exact hc
      | succ i => exact k1 i (by simpa using hi)
    · cases j with
      | zero => omega
      | succ j =>
        have hj' : j < J.length := by simpa using hj
        cases i with
        | zero =>
          obtain ⟨m1, m2⟩ := hm j hj'
          refine ⟨h3 c.l (by simp [ch2]) _ m1, h3 c.l (by simp [ch2]) _ m2, h3 c.r (by simp [ch2]) _ m1, h3 c.r (by simp [ch2]) _ m2⟩
        | succ i => exact k2 i j (by omega) hj'

/- The parts of the list of joints. -/
def BT.lvl : BT → List Nat
  | .leaf _ => []
  | .node l r _ => l.lvl ++ r.lvl ++ [l.lvs + r.lvs]
theorem lvl_len : ∀ b : BT, b.lvl.length = b.nj
  | .leaf _ => rfl
  | .node l r _ => by rw [BT.lvl, List.length_append, List.length_append, lvl_len l, lvl_len r, BT.nj]; rfl

/-- What holds of each joint of a tree whose joints begin at base. -/
structure SgAt (n : Nat) (J : List Jt) (V : Nat → Nat) (base i : Nat) : Prop where
  l : (0 ≤ (JA J i).l ∧ (JA J i).l < n) ∨ ((JA J i).l < 0 ∧ base ≤ jx (JA J i).l ∧ jx (JA J i).l < i)
  r : (0 ≤ (JA J i).r ∧ (JA J i).r < n) ∨ ((JA J i).r < 0 ∧ base ≤ jx (JA J i).r ∧ jx (JA J i).r < i)
  hl : (JA J i).l < 0 → (JA J (jx (JA J i).l)).h ≤ (JA J i).h
  hr : (JA J i).r < 0 → (JA J (jx (JA J i).r)).h ≤ (JA J i).h
  lv : V i = (if (JA J i).l < 0 then V (jx (JA J i).l) else 1) + (if (JA J i).r < 0 then V (jx (JA J i).r) else 1)
  lvn : V i ≤ n

theorem getD_part {α : Type} {A B : List α} {d : α} {k : Nat} (h : k < A.length) : (A ++ B).getD k d = A.getD k d := by
  rw [List.getD_eq_getElem?_getD, List.getElem?_append_left h, List.getD_eq_getElem?_getD]
theorem getD_part2 {α : Type} {A B : List α} {d : α} {k : Nat} : (A ++ B).getD (A.length + k) d = B.getD k d := by
  rw [List.getD_eq_getElem?_getD, List.getElem?_append_right (by omega), Nat.add_sub_cancel_left, List.getD_eq_getElem?_getD]

theorem code_node (l r : BT) (h : Int) (base : Nat) : (BT.node l r h).code base < 0 ∧ jx ((BT.node l r h).code base) = base + l.nj + r.nj := by
  have e : (BT.node l r h).code base = -((base + (l.nj + r.nj + 1) : Nat) : Int) := rfl
  rw [e]
  unfold jx
  omega

theorem seg_bt {n : Nat} {J : List Jt} {lv : Nat → Nat} : ∀ (b : BT) (base : Nat), b.Mono → (∀ x ∈ b.leaves, x < n) → b.lvs ≤ n → (∀ k, k < b.nj → JA J (base + k) = (b.js base).getD k jt0) → (∀ k, k < b.nj → lv (base + k) = b.lvl.getD k 0) →
    (∀ i, base ≤ i → i < base + b.nj → SgAt n J lv base i) ∧ ((0 ≤ b.code base ∧ b.code base < n ∧ b.lvs = 1) ∨ (b.code base < 0 ∧ base ≤ jx (b.code base) ∧ jx (b.code base) < base + b.nj ∧ lv (jx (b.code base)) = b.lvs ∧ ∀ H, b.Low H → (JA J (jx (b.code base))).h ≤ H))
  | .leaf x, base, hm, hx, hn, hJ, hv => ⟨fun i h1 h2 => by have : i < base + 0 := h2; omega, .inl ⟨by show (0 : Int) ≤ (x : Int); omega, by show (x : Int) < n; have := hx x (by simp [BT.leaves]); omega, rfl⟩⟩
  | .node l r h, base, hm, hx, hn, hJ, hv => by
    obtain ⟨m1, m2, w1, w2⟩ := hm
    have hn' : l.lvs + r.lvs ≤ n := hn
    have hnj : (BT.node l r h).nj = l.nj + r.nj + 1 := rfl
    have ejs : (BT.node l r h).js base = l.js base ++ r.js (base + l.nj) ++ [⟨l.code base, r.code (base + l.nj), h⟩] := rfl
    have elv : (BT.node l r h).lvl = l.lvl ++ r.lvl ++ [l.lvs + r.lvs] := rfl
    have jl := BT.js_len l base
    have jr := BT.js_len r (base + l.nj)
    have vl := lvl_len l
    have vr := lvl_len r
    obtain ⟨s1, t1⟩ := seg_bt (J := J) (lv := lv) l base m1 (fun x hx' => hx x (List.mem_append_left _ hx')) (by omega)
      (fun k hk => by rw [hJ k (by omega), ejs, List.append_assoc, getD_part (by omega)])
      (fun k hk => by rw [hv k (by omega), elv, List.append_assoc, getD_part (by omega)])
    obtain ⟨s2, t2⟩ := seg_bt (J := J) (lv := lv) r (base + l.nj) m2 (fun x hx' => hx x (List.mem_append_right _ hx')) (by omega)
      (fun k hk => by
        rw [show base + l.nj + k = base + (l.nj + k) by omega, hJ (l.nj + k) (by omega), ejs, List.append_assoc, ← jl, getD_part2, getD_part (by rw [BT.js_len]; exact hk), jl])
      (fun k hk => by
        rw [show base + l.nj + k = base + (l.nj + k) by omega, hv (l.nj + k) (by omega), elv, List.append_assoc, ← vl, getD_part2, getD_part (by rw [vr]; exact hk)])
    have hlast : JA J (base + (l.nj + r.nj)) = ⟨l.code base, r.code (base + l.nj), h⟩ := by
      rw [hJ (l.nj + r.nj) (by omega), ejs]
      have : l.nj + r.nj = (l.js base ++ r.js (base + l.nj)).length + 0 := by rw [List.length_append, jl, jr]; rfl
      rw [this, getD_part2]
      rfl
    have hlastv : lv (base + (l.nj + r.nj)) = l.lvs + r.lvs := by
      rw [hv (l.nj + r.nj) (by omega), elv]
      have : l.nj + r.nj = (l.lvl ++ r.lvl).length + 0 := by rw [List.length_append, vl, vr]; rfl
      rw [this, getD_part2]
      rfl
    obtain ⟨k1, k2⟩ := code_node l r h base
    refine ⟨fun i h1 h2 => ?_, .inr ⟨k1, by omega, by omega, ?_, fun H hH => ?_⟩⟩
    · by_cases c1 : i < base + l.nj
      · exact s1 i h1 c1
      · by_cases c2 : i < base + l.nj + r.nj
        · have s := s2 i (by omega) c2
          refine ⟨?_, ?_, s.hl, s.hr, s.lv, s.lvn⟩
          · rcases s.l with q | ⟨q1, q2, q3⟩
            · exact .inl q
            · exact .inr ⟨q1, by omega, q3⟩
          · rcases s.r with q | ⟨q1, q2, q3⟩
            · exact .inl q
            · exact .inr ⟨q1, by omega, q3⟩
        · obtain rfl : i = base + (l.nj + r.nj) := by omega
          refine ⟨?_, ?_, ?_, ?_, ?_, ?_⟩
          · rw [hlast]
            rcases t1 with q | ⟨q1, q2, q3, _⟩
            · exact .inl ⟨q.1, q.2.1⟩
            · exact .inr ⟨q1, q2, by show jx (l.code base) < _; omega⟩
          · rw [hlast]
            rcases t2 with q | ⟨q1, q2, q3, _⟩
            · exact .inl ⟨q.1, q.2.1⟩
            · exact .inr ⟨q1, by show base ≤ jx (r.code (base + l.nj)); omega, by show jx (r.code (base + l.nj)) < _; omega⟩
          · rw [hlast]
            intro hneg
            rcases t1 with q | ⟨_, _, _, _, q5⟩
            · have : l.code base < 0 := hneg
              omega
            · exact q5 h w1
          · rw [hlast]
            intro hneg
            rcases t2 with q | ⟨_, _, _, _, q5⟩
            · have : r.code (base + l.nj) < 0 := hneg
              omega
            · exact q5 h w2
          · rw [hlastv, hlast]
            simp only
            rcases t1 with q | ⟨q1, _, _, q4, _⟩ <;> rcases t2 with p | ⟨p1, _, _, p4, _⟩
            · rw [if_neg (by omega), if_neg (by omega), q.2.2, p.2.2]
            · rw [if_neg (by omega), if_pos p1, q.2.2, p4]
            · rw [if_pos q1, if_neg (by omega), q4, p.2.2]
            · rw [if_pos q1, if_pos p1, q4, p4]
          · rw [hlastv]; exact hn'
    · rw [k2, show base + l.nj + r.nj = base + (l.nj + r.nj) by omega, hlastv]; rfl
    · rw [k2, show base + l.nj + r.nj = base + (l.nj + r.nj) by omega, hlast]
      exact hH

def fLvl (F : List BT) : List Nat := F.flatMap BT.lvl
theorem seg_f {n : Nat} {J : List Jt} {lv : Nat → Nat} : ∀ (F : List BT) (base : Nat), (∀ b ∈ F, b.Mono) → (∀ x ∈ F.flatMap BT.leaves, x < n) → fLvs F ≤ n → (∀ k, k < fNj F → JA J (base + k) = (fJs F base).getD k jt0) → (∀ k, k < fNj F → lv (base + k) = (fLvl F).getD k 0) →
    ∀ i, base ≤ i → i < base + fNj F → ∃ base', base ≤ base' ∧ SgAt n J lv base' i
  | [], base, _, _, _, _, _, i, h1, h2 => by have : i < base + 0 := h2; omega
  | b :: F, base, hm, hx, hn, hJ, hv, i, h1, h2 => by
    have e1 : fNj (b :: F) = b.nj + fNj F := by unfold fNj; simp
    have e2 : fLvs (b :: F) = b.lvs + fLvs F := by unfold fLvs; simp
    have e3 : fLvl (b :: F) = b.lvl ++ fLvl F := by unfold fLvl; simp
    have e4 : fJs (b :: F) base = b.js base ++ fJs F (base + b.nj) := rfl
    have jb := BT.js_len b base
    have vb := lvl_len b
    by_cases c : i < base + b.nj
    · exact ⟨base, Nat.le_refl _, (seg_bt (J := J) (lv := lv) b base (hm b (List.mem_cons_self ..)) (fun x hx' => hx x (by rw [List.flatMap_cons]; exact List.mem_append_left _ hx')) (by omega)
        (fun k hk => by rw [hJ k (by omega), e4, getD_part (by omega)]) (fun k hk => by rw [hv k (by omega), e3, getD_part (by omega)])).1 i h1 c⟩
    · obtain ⟨b', h3, h4⟩ := seg_f (J := J) (lv := lv) F (base + b.nj) (fun a ha => hm a (List.mem_cons_of_mem _ ha)) (fun x hx' => hx x (by rw [List.flatMap_cons]; exact List.mem_append_right _ hx')) (by omega)
        (fun k hk => by rw [Nat.add_assoc, hJ (b.nj + k) (by omega), e4, ← jb, getD_part2, jb])
        (fun k hk => by rw [Nat.add_assoc, hv (b.nj + k) (by omega), e3, ← vb, getD_part2]) i (by omega) (by omega)
      exact ⟨b', by omega, h4⟩

/-- The joints of such a forest. -/
theorem CF.nj {n : Nat} {F : List BT} (h : CF n F) : NJ n (fJs F 0) (fun i => (fLvl F).getD i 0) := by
  have hseg := seg_f (n := n) (J := fJs F 0) (lv := fun i => (fLvl F).getD i 0) F 0 h.mono (fun x hx => List.mem_range.1 (h.perm.mem_iff.1 hx)) (by rw [h.lvs]; exact Nat.le_refl _) (fun k hk => by rw [Nat.zero_add]; rfl) (fun k hk => by rw [Nat.zero_add])
  have hat : ∀ i, i < (fJs F 0).length → ∃ base', SgAt n (fJs F 0) (fun i => (fLvl F).getD i 0) base' i := fun i hi => by
    rw [fJs_len] at hi
    obtain ⟨b', _, s⟩ := hseg i (Nat.zero_le _) (by omega)
    exact ⟨b', s⟩
  have hnd : ((fJs F 0).flatMap ch2).Nodup := by
    have := (fchs_perm F 0).nodup_iff.2 h.nodup
    exact (List.nodup_append.1 this).1
  obtain ⟨d1, d2⟩ := ch2_distinct _ hnd
  have h4 := h.n4
  refine ⟨fun i hi => ?_, fun i hi => ?_, d1, fun i j hi hj hne => ?_, fun i hi => ?_, fun i hi => ?_, fun i hi => ?_, fun i hi => ?_⟩
  · obtain ⟨b', s⟩ := hat i hi
    rcases s.l with q | q
    · exact .inl q
    · exact .inr ⟨q.1, q.2.2⟩
  · obtain ⟨b', s⟩ := hat i hi
    rcases s.r with q | q
    · exact .inl q
    · exact .inr ⟨q.1, q.2.2⟩
  · rcases Nat.lt_or_gt_of_ne hne with q | q
    · obtain ⟨a1, a2, a3, a4⟩ := d2 i j q hj
      exact ⟨a1, a2, a4⟩
    · obtain ⟨a1, a2, a3, a4⟩ := d2 j i q hi
      exact ⟨fun e => a1 e.symm, fun e => a3 e.symm, fun e => a4 e.symm⟩
  · obtain ⟨b', s⟩ := hat i hi
    exact s.hl
  · obtain ⟨b', s⟩ := hat i hi
    exact s.hr
  · obtain ⟨b', s⟩ := hat i hi
    exact s.lv
  · obtain ⟨b', s⟩ := hat i hi
    exact Nat.le_trans s.lvn h4

/- The forest of a tree. -/
def btF (t : Tr) (n : Nat) : Nat → Nat → BT
  | 0, x => .leaf x
  | f + 1, x => if x < n then .leaf x else .node (btF t n f (lc t x)) (btF t n f (rc t x)) (gi t.hgt x)
def bt (t : Tr) (n x : Nat) : BT := btF t n (x + 1) x
theorem btF_more {t : Tr} {n m : Nat} {ls : List Nat} (h : TV t n m ls) : ∀ d x, x < d → x < m → ∀ f, x < f → btF t n f x = btF t n (x + 1) x
  | 0, x, hd, _, f, hf => by omega
  | d + 1, x, hd, hx, f, hf => by
    obtain ⟨g, rfl⟩ : ∃ g, f = g + 1 := ⟨f - 1, by omega⟩
    rw [btF, btF]
    by_cases c : x < n
    · rw [if_pos c, if_pos c]
    · rw [if_neg c, if_neg c]
      obtain ⟨c1, c2, _⟩ := h.child (x := x) (by omega) hx
      rw [btF_more h d (lc t x) (by omega) (by omega) g (by omega), btF_more h d (rc t x) (by omega) (by omega) g (by omega), btF_more h d (lc t x) (by omega) (by omega) x c1, btF_more h d (rc t x) (by omega) (by omega) x c2]
theorem bt_leaf {t : Tr} {n x : Nat} (hx : x < n) : bt t n x = .leaf x := by unfold bt; rw [btF, if_pos hx]
theorem bt_node {t : Tr} {n m : Nat} {ls : List Nat} (h : TV t n m ls) {x : Nat} (h1 : n ≤ x) (h2 : x < m) : bt t n x = .node (bt t n (lc t x)) (bt t n (rc t x)) (gi t.hgt x) := by
  obtain ⟨c1, c2, _⟩ := h.child h1 h2
  unfold bt
  rw [btF, if_neg (by omega), btF_more h (lc t x + 1) (lc t x) (by omega) (by omega) x c1, btF_more h (rc t x + 1) (rc t x) (by omega) (by omega) x c2]

def frs (t : Tr) (n m : Nat) (ls : List Nat) : List BT := (rootsL t n m ls).map (bt t n)

/-- Induction over the nodes of a valid tree from the leaves up. -/
theorem TV.up_ind {t : Tr} {n m : Nat} {ls : List Nat} (h : TV t n m ls) {Q : Nat → Prop} (hl : ∀ x, x < n → Q x) (hi : ∀ x, n ≤ x → x < m → Q (lc t x) → Q (rc t x) → Q x) : ∀ x, x < m → Q x := by
  intro x
  induction x using Nat.strongRecOn with
  | _ x ih =>
    intro hx
    by_cases c : x < n
    · exact hl x c
    · obtain ⟨c1, c2, _⟩ := h.child (x := x) (by omega) hx
      exact hi x (by omega) hx (ih _ c1 (by omega)) (ih _ c2 (by omega))

theorem bt_fst {t : Tr} {n m : Nat} {ls : List Nat} (h : TV t n m ls) : ∀ x, x < m → (bt t n x).fst = ls.getD x 0 :=
  h.up_ind (fun x hx => by rw [bt_leaf hx, BT.fst, h.ls0 x hx]) (fun x h1 h2 e1 _ => by rw [bt_node h h1 h2, BT.fst, e1, h.ls1 x h1 h2])
theorem bt_leaves {t : Tr} {n m : Nat} {ls : List Nat} (h : TV t n m ls) : ∀ x, x < m → (bt t n x).leaves.Perm (leavesL t n m x) :=
  h.up_ind (fun x hx => by rw [bt_leaf hx, lv_leaf h hx]; exact List.Perm.refl _) (fun x h1 h2 e1 e2 => by
    rw [bt_node h h1 h2, BT.leaves]
    exact (e1.append e2).trans (lv_inner h h1 h2).symm)
theorem bt_fit {t : Tr} {n m : Nat} {ls : List Nat} (h : TV t n m ls) (h64 : ∀ x, x < m → In64 (gi t.hgt x)) : ∀ x, x < m → (bt t n x).Fit :=
  h.up_ind (fun x hx => by rw [bt_leaf hx]; show x < 4096; have := h.hn; omega) (fun x h1 h2 e1 e2 => by rw [bt_node h h1 h2]; exact ⟨e1, e2, h64 x h2⟩)
theorem bt_low {t : Tr} {n m : Nat} {ls : List Nat} (h : TV t n m ls) {x c : Nat} (hx : x < m) (hc : c < x) : (bt t n c).Low (gi t.hgt x) := by
  by_cases k : c < n
  · rw [bt_leaf k]; trivial
  · rw [bt_node h (by omega) (by omega)]
    have := h.mono (x := c) (by omega) (x - c) (by omega)
    rw [show c + (x - c) = x by omega] at this
    exact this
theorem bt_mono {t : Tr} {n m : Nat} {ls : List Nat} (h : TV t n m ls) : ∀ x, x < m → (bt t n x).Mono :=
  h.up_ind (fun x hx => by rw [bt_leaf hx]; trivial) (fun x h1 h2 e1 e2 => by
    obtain ⟨c1, c2, _⟩ := h.child h1 h2
    rw [bt_node h h1 h2]
    exact ⟨e1, e2, bt_low h h2 c1, bt_low h h2 c2⟩)
theorem bt_lft {t : Tr} {n m : Nat} {ls : List Nat} (h : TV t n m ls) : ∀ x, x < m → (bt t n x).Lft :=
  h.up_ind (fun x hx => by rw [bt_leaf hx]; trivial) (fun x h1 h2 e1 e2 => by
    obtain ⟨c1, c2, _⟩ := h.child h1 h2
    rw [bt_node h h1 h2]
    refine ⟨e1, e2, ?_⟩
    rw [bt_fst h _ (by omega), bt_fst h _ (by omega)]
    exact (h.inn x h1 h2).2.1.2.2)

theorem frs_cf {t : Tr} {n m : Nat} {ls : List Nat} (h : TV t n m ls) (h64 : ∀ x, x < m → In64 (gi t.hgt x)) : CF n (frs t n m ls) := by
  have hr : ∀ b ∈ frs t n m ls, ∃ r, r < m ∧ gi t.par r < 0 ∧ b = bt t n r := fun b hb => by
    obtain ⟨r, h1, rfl⟩ := List.mem_map.1 hb
    obtain ⟨h2, h3⟩ := (roots_mem h).1 h1
    exact ⟨r, h2, h3, rfl⟩
  refine ⟨h.hn, fun b hb => ?_, fun b hb => ?_, fun b hb => ?_, ?_, ?_⟩
  · obtain ⟨r, h1, _, rfl⟩ := hr b hb
    exact bt_fit h h64 r h1
  · obtain ⟨r, h1, _, rfl⟩ := hr b hb
    exact bt_mono h r h1
  · obtain ⟨r, h1, _, rfl⟩ := hr b hb
    exact bt_lft h r h1
  · have hnm := h.nm
    have e : (frs t n m ls).flatMap BT.leaves = (rootsL t n m ls).flatMap fun r => (bt t n r).leaves := by
      unfold frs
      rw [List.flatMap_map]
    rw [e]
    have hmem : ∀ r v, r ∈ rootsL t n m ls → (v ∈ (bt t n r).leaves ↔ v < n ∧ rt t m v = r) := fun r v hr => by
      obtain ⟨h1, h2⟩ := (roots_mem h).1 hr
      rw [(bt_leaves h r h1).mem_iff, lv_mem]
      constructor
      · rintro ⟨a, b⟩
        rw [bl_rt h h2 v (by omega), decide_eq_true_eq] at b
        exact ⟨a, b⟩
      · rintro ⟨a, b⟩
        exact ⟨a, by rw [bl_rt h h2 v (by omega), decide_eq_true_eq]; exact b⟩
    have hrn : (rootsL t n m ls).Nodup := (roots_perm h).nodup_iff.2 (List.nodup_range.filter _)
    refine (List.perm_ext_iff_of_nodup ?_ List.nodup_range).2 fun v => ?_
    · rw [List.nodup_iff_pairwise_ne, List.flatMap, List.pairwise_flatten]
      constructor
      · intro l hl
        obtain ⟨r, hr, rfl⟩ := List.mem_map.1 hl
        obtain ⟨h1, h2⟩ := (roots_mem h).1 hr
        exact List.nodup_iff_pairwise_ne.1 ((bt_leaves h r h1).nodup_iff.2 (List.nodup_range.filter _))
      · rw [List.pairwise_map]
        refine List.Pairwise.imp_of_mem (R := fun a b => a ≠ b) (fun {a b} ha hb hab x hx y hy e => ?_) hrn
        subst e
        have e1 := ((hmem a x ha).1 hx).2
        have e2 := ((hmem b x hb).1 hy).2
        exact hab (e1.symm.trans e2)
    · rw [List.mem_flatMap, List.mem_range]
      constructor
      · rintro ⟨r, hr, hv⟩
        exact ((hmem r v hr).1 hv).1
      · intro hv
        have hr : rt t m v ∈ rootsL t n m ls := (roots_mem h).2 (rt_lt h v (by omega))
        exact ⟨_, hr, (hmem _ v hr).2 ⟨hv, rfl⟩⟩
  · unfold frs
    rw [List.pairwise_map]
    refine List.Pairwise.imp_of_mem (R := fun x y => ls.getD x 0 < ls.getD y 0) (fun {a b} ha hb hab => ?_) (roots_sorted h)
    rw [bt_fst h a ((roots_mem h).1 ha).1, bt_fst h b ((roots_mem h).1 hb).1]
    exact hab

end Go.Proofs.YthacjealoomioaaGreatDoor

/- Parsing: the program's and the reference's answers are one. No program in sight. -/
namespace Go.Proofs.YthacjealoomioaaGreatDoor
set_option linter.unusedVariables false
set_option linter.unusedSimpArgs false

/-- The text of a tree; none if it is not valid. -/
def txtO (t : Tr) : Option (List UInt8) :=
  match lsL t with
  | none => none
  | some ls => some (fTxt (frs t t.lv.toNat t.par.length ls))
theorem txtO_tv {t : Tr} {n m : Nat} {ls : List Nat} (h : TV t n m ls) : txtO t = some (fTxt (frs t n m ls)) := by
  unfold txtO
  rw [h.ls_some]
  simp only
  rw [h.lv, Int.toNat_natCast, h.pl]
/-- The tree that the program makes of a text. -/
def progT (r : RdS × Bool) : Option Tr := if r.2 = true ∧ r.1.want = 0 then treeTo r.1.leaves r.1.joints r.1.joints.length else none

/- The joints that the reference's parts are. -/
/-- A tree whose heights fit. -/
def Hgt64 (t : Tr) : Prop := ∀ x, x < t.hgt.length → In64 (gi t.hgt x)

/-- Parsing: keep what has the text. -/
def keepT (s : List UInt8) (o : Option Tr) : Option Tr := match o with | none => none | some t => if txtO t = some s then some t else none

end Go.Proofs.YthacjealoomioaaGreatDoor
