/- recon.down: the nodes from the last one on. recon.Check, recon.Least. -/
import Derived.Test.YtenhbfbfkcjimaaDoorZRcLt
import Derived.Test.YtenhbfbfkcjimaaDoorZRange
import Derived.Test.YtenhbfbfkcjimaaDoorZRcO
namespace Go.Proofs.YtenhbfbfkcjimaaDoor
set_option linter.unusedVariables false
set_option linter.unusedSimpArgs false
open Go.RowKit Go.Shelf
attribute [local go_sem] Oper.semAt_some

set_option maxHeartbeats 1000000 in
theorem down_any (A : TA) (t : Tr) (w : World) :
    Calls Tryd.prog 74 #[A.agg t] w
      (Ret (.func (.func 89) #[] #[.pointer (some ⟨w.heap.size, 0, none⟩)]) (w.alloc (.cells #[.int .i64 t.lv, .slice A.l.o t.left.length A.l.c, .slice A.r.o t.right.length A.r.c, .slice A.p.o t.par.length A.p.c, .slice A.h.o t.hgt.length A.h.c, .slice A.s.o t.siz.length A.s.c] 61))) := by
  show Calls _ _ #[.agg #[.int .i64 t.lv, .slice A.l.o t.left.length A.l.c, .slice A.r.o t.right.length A.r.c, .slice A.p.o t.par.length A.p.c, .slice A.h.o t.hgt.length A.h.c, .slice A.s.o t.siz.length A.s.c]] _ _
  go_enter Tryd.func74, Tryd.ntmps74
  go_wp2
  go_ret
  exact ⟨rfl, rfl⟩

/-- Where the way down stands: before node k - 1, or at the end. -/
def DnAt (I : Nat → World → Prop) (m : Nat) (s : Value) (W : World) : Prop := (∃ k : Nat, k < m ∧ s = .int .i64 k ∧ I (k + 1) W) ∨ (s = .int .i64 (-1) ∧ I 0 W)

theorem DnAt.next {I : Nat → World → Prop} {m k : Nat} {W : World} (hk : k ≤ m) (h : I k W) : DnAt I m (.int .i64 ((k : Int) - 1)) W := by
  cases k with
  | zero => exact .inr ⟨rfl, h⟩
  | succ k => exact .inl ⟨k, by omega, by congr 1; omega, h⟩

set_option maxHeartbeats 4000000 in
set_option maxRecDepth 100000 in
theorem down1_in (F : Nat) (tb : Nat) (A : TA) (t : Tr) (L : Nat) (hm : t.par.length ≤ 9223372036854775807) (I : Nat → World → Prop)
    (hI : ∀ j W, I j W → TBox W tb A t ∧ InRow .i64 W A.p.o t.par.length A.p.b A.p.f t.par) (W : World) (h : I t.par.length W)
    (hY : ∀ j W1, j < t.par.length → I (j + 1) W1 → YieldAt Fence.wide (F - 1) Tryd.prog L #[.int .i64 (j : Nat), .int .i64 (gi t.par j)] W1
      fun e W' => e = .returned (.bool true) ∧ I j W') :
    CallsIn Fence.wide F Tryd.prog 89 #[.func (.yield L) #[] #[], .pointer (some ⟨tb, 0, none⟩)] W
      fun e W' => (∃ v, e = .returned v) ∧ I 0 W' := by
  have H := Lib.hid h
  have HY := Lib.hid hY
  have HI := Lib.hid hI
  have c3 := (hI _ _ h).1.c3
  clear h hY hI
  refine callsIn_of_wp Tryd.func89 rfl trivial ?_ rfl
  simp only [Tryd.ntmps89, List.size_toArray, List.length_cons, List.length_nil, Nat.reduceAdd, Nat.reduceSub, Array.replicate_succ, Array.replicate_zero, List.push_toArray, List.append_toArray, List.nil_append, List.cons_append]
  generalize hlo : A.p.o = lo at *
  have HLO := Lib.hid hlo
  clear hlo
  gi_wp2_with fail
  clear c3
  gi_loopw [3] (fun s wr => DnAt I t.par.length s wr) (fun s _ => (intOf s + 1).toNat)
  case atStart => exact DnAt.next (Nat.le_refl _) H.out
  case round =>
    rcases hrel with ⟨k, hk, rfl, hi⟩ | ⟨rfl, hi⟩
    · have HA := Lib.hid hi
      have c3 := (HI.out _ _ hi).1.c3
      obtain ⟨e1, p1⟩ := (HI.out _ _ hi).2.get hk
      rw [HLO.out] at c3
      subst e1
      clear hi
      have t1 : (k : Int) < (t.par.length : Int) := by omega
      have t2 : (0 : Int) ≤ (k : Int) := by omega
      obtain ⟨fn, tmps, assign, body, hy, hR⟩ := HY.out k wr hk HA.out
      have HR := Lib.hid hR
      clear hR
      generalize gi t.par k = p at *
      gi_wp2_with fail
      refine ⟨fun h => by simp [Fence.wide] at h, HR.out.mono ?_⟩
      rintro e w5 ⟨rfl, hi5⟩
      have HI5 := Lib.hid hi5
      clear hi5 hy c3 p1
      gi_wp2_with fail
      go_roundw
      case rel => exact DnAt.next (by omega) HI5.out
      case measure => simp only [intOf]; omega
    · have HA := Lib.hid hi
      clear hi
      gi_wp2_with fail
      exact ⟨rfl, _, results_none rfl _ _ _, ⟨_, rfl⟩, HA.out⟩

/-- What Check returns. -/
def chk (t : Tr) : Int := match lsL t with | none => 2 | some _ => 0
theorem chk_none {t : Tr} (h : lsL t = none) : chk t = 2 := by unfold chk; rw [h]
theorem chk_some {t : Tr} {ls : List Nat} (h : lsL t = some ls) : chk t = 0 := by unfold chk; rw [h]

/-- A list that is returned: new, or nil. -/
structure LnPost (w : World) (o : Option (List Nat)) (e : Ending) (w' : World) : Prop where
  bad : o = none → e = .returned (.slice none 0 0)
  ok : ∀ l, o = some l → ∃ v, e = .returned v ∧ w'.ownsRow 0 3 1 v l.length (natV l) ∧ ∀ k, v.ownBlock = some k → w.heap.size ≤ k
  bel : Below w.heap.size w w'

theorem owns_blk2 {w : World} {b : Nat} {T : TypeId} {l : List Nat} (h : Blk w b T (natV l)) (hl : l.length ≤ 1000000) : w.ownsRow 0 T 1 (.slice (some ⟨b, 0, none⟩) l.length l.length) l.length (natV l) := by
  have := owns_blk h (by rw [natV_len]; omega)
  rw [natV_len] at this
  exact this

theorem ls_le {t : Tr} {ls : List Nat} (h : lsL t = some ls) : ls.length = t.par.length ∧ ls.length ≤ 8192 := by
  obtain ⟨⟨⟨h1, h2, h3, h4⟩, _⟩, e, _⟩ := lsL_iff.1 h
  rw [e, lowF_len]
  exact ⟨rfl, by omega⟩

end Go.Proofs.YtenhbfbfkcjimaaDoor
