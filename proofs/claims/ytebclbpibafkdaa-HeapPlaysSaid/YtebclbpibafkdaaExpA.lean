/- The schedule's object; valid, with, New, Len, Next, Set, Drop. -/
import Derived.Test.YtebclbpibafkdaaHeapJ
namespace Go.Proofs.Ytebclbpibafkdaa
set_option linter.unusedVariables false
set_option linter.unusedSimpArgs false
open Go.RowKit

/-- A schedule: its block, its slots, its entries (slot, time) in order; the heap's block and ghost. -/
structure EObj (w : World) (s slots : Nat) (S : List Ent) (q : Nat) (g : HG) : Prop where
  blk : Blk w s 65 [.int .i64 (slots : Nat), .pointer (some ⟨q, 0, none⟩)]
  obj : HObj w q slots S g
  ns : ¬ g.foot s

theorem EObj.below {w w' : World} {s slots q : Nat} {S : List Ent} {g : HG} (h : EObj w s slots S q g) (k : Below w.heap.size w w') : EObj w' s slots S q g :=
  ⟨h.blk.below k h.blk.lt, h.obj.below k, h.ns⟩

theorem EObj.mod {F : Nat → Prop} {w w' : World} {s slots q : Nat} {S : List Ent} {g : HG} (h : EObj w s slots S q g) (m : Mod F w w') (hF : ∀ k, g.foot k → ¬ F k) (hs : ¬ F s) : EObj w' s slots S q g :=
  ⟨h.blk.mod m hs, h.obj.mod m hF, h.ns⟩

theorem EObj.lt {w : World} {s slots q : Nat} {S : List Ent} {g : HG} (h : EObj w s slots S q g) : ∀ k, (g.foot k ∨ k = s) → k < w.heap.size := by
  rintro k (hk | rfl)
  · exact h.obj.rep.foot_lt k hk
  · exact h.blk.lt

structure EDone (v : Value) (w : World) (s slots : Nat) (S' : List Ent) (q : Nat) (g : HG) (e : Ending) (w' : World) : Prop where
  val : e = .returned v
  out : ∃ g', EObj w' s slots S' q g' ∧ Mod g.foot w w' ∧ ∀ k, g'.foot k → g.foot k ∨ w.heap.size ≤ k

/-- A heap's step as a step of the schedule. -/
theorem EObj.step {w w' : World} {s slots q : Nat} {S S' : List Ent} {g g' : HG} (h : EObj w s slots S q g) (ho : HObj w' q slots S' g') (hm : Mod g.foot w w') (hf : ∀ k, g'.foot k → g.foot k ∨ w.heap.size ≤ k) : EObj w' s slots S' q g' :=
  ⟨h.blk.mod hm h.ns, ho, fun hh => by
    rcases hf _ hh with a | a
    · exact h.ns a
    · have := h.blk.lt; omega⟩

structure Gives (R : Int → World → Prop) (e : Ending) (w' : World) : Prop where
  out : ∃ k, e = .returned (.int .i64 k) ∧ R k w'

set_option maxHeartbeats 400000 in
theorem evalid_ok (s q : Nat) (w : World) (c1 : w.cell? ⟨s, 1, none⟩ = some (.pointer (some ⟨q, 0, none⟩))) :
    Calls Try.prog 63 #[.pointer (some ⟨s, 0, none⟩)] w (Ret (.bool true) w) := by
  go_enter Try.func63, Try.ntmps63
  go_wp2
  go_ret
  exact ⟨rfl, rfl⟩

set_option maxHeartbeats 1000000 in
theorem with_set (R : Int → World → Prop) (w : World) (s slots : Nat) (S : List Ent) (q : Nat) (g : HG) (h : EObj w s slots S q g) (slot v : Int) (h0 : 0 ≤ slot) (h1 : slot < slots) (sch : Bool) (p0 p1 p2 : Value)
    (hkey : Calls Try.prog 50 #[.pointer (some ⟨q, 0, none⟩), .int .i64 slot] w (Ret (.tuple #[.int .i64 v, .bool sch]) w))
    (hdo : Calls Try.prog 69 #[.bool sch, p0, p1, p2] w (Gives R)) :
    Calls Try.prog 60 #[.pointer (some ⟨s, 0, none⟩), .int .i64 slot, .func (.func 69) #[] #[p0, p1, p2]] w (Gives R) := by
  have c0 := h.blk.cell (i := 0) rfl
  have c1 := h.blk.cell (i := 1) rfl
  have HK := Lib.hid hkey
  have HD := Lib.hid hdo
  clear h hkey hdo
  have t1 : decide (slot < 0) = false := by simp; omega
  have t2 : decide ((slots : Int) ≤ slot) = false := by simp; omega
  go_enter Try.func60, Try.ntmps60
  go_wp2_with (first
    | (go_at_call 63; refine (evalid_ok s q w c1).mono ?_; rintro e w' ⟨rfl, rfl⟩)
    | (go_at_call 50; refine (HK.out).mono ?_; rintro e w' ⟨rfl, rfl⟩))
  with_reducible refine (HD.out).mono ?_
  rintro e w2 ⟨k, rfl, hR⟩
  have HR := Lib.hid hR
  clear hR
  go_wp2_with fail
  go_ret
  exact ⟨_, rfl, HR.out⟩

set_option maxHeartbeats 1000000 in
theorem with_range_set (w : World) (s slots : Nat) (S : List Ent) (q : Nat) (g : HG) (h : EObj w s slots S q g) (slot : Int) (hi : ¬ (0 ≤ slot ∧ slot < slots)) (p0 p1 p2 : Value) :
    Calls Try.prog 60 #[.pointer (some ⟨s, 0, none⟩), .int .i64 slot, .func (.func 69) #[] #[p0, p1, p2]] w (Ret (.int .i64 3) w) := by
  have c0 := h.blk.cell (i := 0) rfl
  have c1 := h.blk.cell (i := 1) rfl
  clear h
  by_cases hs : slot < 0
  · have t1 : decide (slot < 0) = true := by simp; omega
    go_enter Try.func60, Try.ntmps60
    go_wp2_with (go_at_call 63; refine (evalid_ok s q w c1).mono ?_; rintro e w' ⟨rfl, rfl⟩)
    go_ret
    exact ⟨rfl, rfl⟩
  · have t1 : decide (slot < 0) = false := by simp; omega
    have t2 : decide ((slots : Int) ≤ slot) = true := by simp; omega
    go_enter Try.func60, Try.ntmps60
    go_wp2_with (go_at_call 63; refine (evalid_ok s q w c1).mono ?_; rintro e w' ⟨rfl, rfl⟩)
    go_ret
    exact ⟨rfl, rfl⟩

set_option maxHeartbeats 1000000 in
theorem with_drop (R : Int → World → Prop) (w : World) (s slots : Nat) (S : List Ent) (q : Nat) (g : HG) (h : EObj w s slots S q g) (slot v : Int) (h0 : 0 ≤ slot) (h1 : slot < slots) (sch : Bool) (p0 p1 : Value)
    (hkey : Calls Try.prog 50 #[.pointer (some ⟨q, 0, none⟩), .int .i64 slot] w (Ret (.tuple #[.int .i64 v, .bool sch]) w))
    (hdo : Calls Try.prog 68 #[.bool sch, p0, p1] w (Gives R)) :
    Calls Try.prog 60 #[.pointer (some ⟨s, 0, none⟩), .int .i64 slot, .func (.func 68) #[] #[p0, p1]] w (Gives R) := by
  have c0 := h.blk.cell (i := 0) rfl
  have c1 := h.blk.cell (i := 1) rfl
  have HK := Lib.hid hkey
  have HD := Lib.hid hdo
  clear h hkey hdo
  have t1 : decide (slot < 0) = false := by simp; omega
  have t2 : decide ((slots : Int) ≤ slot) = false := by simp; omega
  go_enter Try.func60, Try.ntmps60
  go_wp2_with (first
    | (go_at_call 63; refine (evalid_ok s q w c1).mono ?_; rintro e w' ⟨rfl, rfl⟩)
    | (go_at_call 50; refine (HK.out).mono ?_; rintro e w' ⟨rfl, rfl⟩))
  with_reducible refine (HD.out).mono ?_
  rintro e w2 ⟨k, rfl, hR⟩
  have HR := Lib.hid hR
  clear hR
  go_wp2_with fail
  go_ret
  exact ⟨_, rfl, HR.out⟩

set_option maxHeartbeats 1000000 in
theorem with_range_drop (w : World) (s slots : Nat) (S : List Ent) (q : Nat) (g : HG) (h : EObj w s slots S q g) (slot : Int) (hi : ¬ (0 ≤ slot ∧ slot < slots)) (p0 p1 : Value) :
    Calls Try.prog 60 #[.pointer (some ⟨s, 0, none⟩), .int .i64 slot, .func (.func 68) #[] #[p0, p1]] w (Ret (.int .i64 3) w) := by
  have c0 := h.blk.cell (i := 0) rfl
  have c1 := h.blk.cell (i := 1) rfl
  clear h
  by_cases hs : slot < 0
  · have t1 : decide (slot < 0) = true := by simp; omega
    go_enter Try.func60, Try.ntmps60
    go_wp2_with (go_at_call 63; refine (evalid_ok s q w c1).mono ?_; rintro e w' ⟨rfl, rfl⟩)
    go_ret
    exact ⟨rfl, rfl⟩
  · have t1 : decide (slot < 0) = false := by simp; omega
    have t2 : decide ((slots : Int) ≤ slot) = true := by simp; omega
    go_enter Try.func60, Try.ntmps60
    go_wp2_with (go_at_call 63; refine (evalid_ok s q w c1).mono ?_; rintro e w' ⟨rfl, rfl⟩)
    go_ret
    exact ⟨rfl, rfl⟩

set_option maxHeartbeats 1000000 in
theorem with_left (R : Int → World → Prop) (w : World) (s slots : Nat) (S : List Ent) (q : Nat) (g : HG) (h : EObj w s slots S q g) (slot v : Int) (h0 : 0 ≤ slot) (h1 : slot < slots) (sch : Bool) (p0 p1 p2 p3 : Value)
    (hkey : Calls Try.prog 50 #[.pointer (some ⟨q, 0, none⟩), .int .i64 slot] w (Ret (.tuple #[.int .i64 v, .bool sch]) w))
    (hdo : Calls Try.prog 61 #[.bool sch, p0, p1, p2, p3] w (Gives R)) :
    Calls Try.prog 60 #[.pointer (some ⟨s, 0, none⟩), .int .i64 slot, .func (.func 61) #[] #[p0, p1, p2, p3]] w (Gives R) := by
  have c0 := h.blk.cell (i := 0) rfl
  have c1 := h.blk.cell (i := 1) rfl
  have HK := Lib.hid hkey
  have HD := Lib.hid hdo
  clear h hkey hdo
  have t1 : decide (slot < 0) = false := by simp; omega
  have t2 : decide ((slots : Int) ≤ slot) = false := by simp; omega
  go_enter Try.func60, Try.ntmps60
  go_wp2_with (first
    | (go_at_call 63; refine (evalid_ok s q w c1).mono ?_; rintro e w' ⟨rfl, rfl⟩)
    | (go_at_call 50; refine (HK.out).mono ?_; rintro e w' ⟨rfl, rfl⟩))
  with_reducible refine (HD.out).mono ?_
  rintro e w2 ⟨k, rfl, hR⟩
  have HR := Lib.hid hR
  clear hR
  go_wp2_with fail
  go_ret
  exact ⟨_, rfl, HR.out⟩

set_option maxHeartbeats 1000000 in
theorem with_range_left (w : World) (s slots : Nat) (S : List Ent) (q : Nat) (g : HG) (h : EObj w s slots S q g) (slot : Int) (hi : ¬ (0 ≤ slot ∧ slot < slots)) (p0 p1 p2 p3 : Value) :
    Calls Try.prog 60 #[.pointer (some ⟨s, 0, none⟩), .int .i64 slot, .func (.func 61) #[] #[p0, p1, p2, p3]] w (Ret (.int .i64 3) w) := by
  have c0 := h.blk.cell (i := 0) rfl
  have c1 := h.blk.cell (i := 1) rfl
  clear h
  by_cases hs : slot < 0
  · have t1 : decide (slot < 0) = true := by simp; omega
    go_enter Try.func60, Try.ntmps60
    go_wp2_with (go_at_call 63; refine (evalid_ok s q w c1).mono ?_; rintro e w' ⟨rfl, rfl⟩)
    go_ret
    exact ⟨rfl, rfl⟩
  · have t1 : decide (slot < 0) = false := by simp; omega
    have t2 : decide ((slots : Int) ≤ slot) = true := by simp; omega
    go_enter Try.func60, Try.ntmps60
    go_wp2_with (go_at_call 63; refine (evalid_ok s q w c1).mono ?_; rintro e w' ⟨rfl, rfl⟩)
    go_ret
    exact ⟨rfl, rfl⟩

end Go.Proofs.Ytebclbpibafkdaa
