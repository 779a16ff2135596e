/- The schedule's Copy; the reference's Copy, Drop, Set, Due. -/
import Derived.Test.YtebclbpibafkdaaCopyW
import Derived.Test.YtebclbpibafkdaaRefF
import Derived.Test.YtebclbpibafkdaaDue2
namespace Go.Proofs.Ytebclbpibafkdaa
set_option linter.unusedVariables false
set_option linter.unusedSimpArgs false
open Go.RowKit

theorem cs2_keep {w w' : World} {a b : Addr} {v1 v2 : Value} (h1 : Hid (w.cell? a = some v1)) (h2 : Hid (w.cell? b = some v2)) (hb : Below w.heap.size w w') :
    w'.cell? a = some v1 ∧ w'.cell? b = some v2 ∧ Below w.heap.size w w' :=
  ⟨(hb.cell (World.block_lt_of_cell? w _ h1.out)).trans h1.out, (hb.cell (World.block_lt_of_cell? w _ h2.out)).trans h2.out, hb⟩

theorem cp_bel {w W w1 : World} (h1 : Below w.heap.size w W) (h2 : Below W.heap.size W w1) : Below w.heap.size w w1 := h1.trans (h2.mono h1.size)

structure ECopied (w : World) (slots : Nat) (S : List Ent) (e : Ending) (w' : World) : Prop where
  out : ∃ s q g, EFresh w s slots S q g w' ∧ e = .returned (.pointer (some ⟨s, 0, none⟩))

set_option maxHeartbeats 1000000 in
set_option maxRecDepth 100000 in
theorem ecopy_ok (w : World) (s slots : Nat) (S : List Ent) (q : Nat) (g : HG) (h : EObj w s slots S q g) :
    Calls Try.prog 36 #[.pointer (some ⟨s, 0, none⟩)] w (ECopied w slots S) := by
  have c0 := h.blk.cell (i := 0) rfl
  have c1 := h.blk.cell (i := 1) rfl
  have HO0 := Lib.hid h.obj
  have C0 := Lib.hid c0
  have C1 := Lib.hid c1
  clear h
  go_enter Try.func36, Try.ntmps36
  go_wp2_with (go_at_call 63; refine (evalid_ok s q w c1).mono ?_; rintro e w' ⟨rfl, rfl⟩)
  go_region_held3 (fun w' => w'.cell? ⟨s, 0, none⟩ = some (.int .i64 (slots : Nat)) ∧ w'.cell? ⟨s, 1, none⟩ = some (.pointer (some ⟨q, 0, none⟩)) ∧ Below w.heap.size w w')
    (((try go_split_ands); refine cs2_keep C0 C1 ?_; first | assumption | exact (Below.refl _ _).drew | exact (Below.drew (by assumption)) | exact (Below.alloc (by assumption) (Below.size (by assumption)) _)))
    (first | (go_at_call 51; (try go_split_ands); refine (copy_ok _ q slots S g ?_).mono ?_; (exact HO0.out.below (by assumption)); rintro e w3 ⟨hb3, c, g', ho, hf, rfl⟩; have hbx := cp_bel (by assumption) hb3; have HX := Lib.hid ho; have HF := Lib.hid hf; have HB3 := Lib.hid hb3; clear ho hf hb3))
  have FIN : Hid (EFresh w w3.heap.size slots S c g' (w3.alloc (.cells #[.int .i64 (slots : Nat), .pointer (some ⟨c, 0, none⟩)] 65))) := by
    refine ⟨⟨Blk.new w3 _ [_, _], HX.out.below ((Below.refl _ _).alloc (Nat.le_refl _) _), fun hh => ?_⟩, hbx.alloc hbx.size _, fun k hk => HF.out k hk, hbx.size⟩
    have := HX.out.rep.foot_lt _ hh; omega
  clear HX HF HB3
  go_wp2_with fail
  go_ret
  exact ⟨_, _, _, FIN.out, rfl⟩

structure RCopied (w : World) (slots : Nat) (L : List Ent) (e : Ending) (w' : World) : Prop where
  bel : Below w.heap.size w w'
  out : ∃ r v, RObj w' r slots L v ∧ w.heap.size ≤ r ∧ (∀ k, v.ownBlock = some k → w.heap.size ≤ k) ∧ e = .returned (.pointer (some ⟨r, 0, none⟩))

set_option maxHeartbeats 1000000 in
set_option maxRecDepth 100000 in
theorem rcopy_ok (w : World) (r slots : Nat) (L : List Ent) (v : Value) (h : RObj w r slots L v) :
    Calls Try.prog 41 #[.pointer (some ⟨r, 0, none⟩)] w (RCopied w slots L) := by
  have c0 := h.blk.cell (i := 0) rfl
  have c1 := h.blk.cell (i := 1) rfl
  have HO0 := Lib.hid h
  have C0 := Lib.hid c0
  have C1 := Lib.hid c1
  clear h
  go_enter Try.func41, Try.ntmps41
  go_wp2_with (go_at_call 73; refine (rvalid_ok r w c0).mono ?_; rintro e w' ⟨rfl, rfl⟩)
  go_region_held3 (fun w' => w'.cell? ⟨r, 0, none⟩ = some (.bool true) ∧ w'.cell? ⟨r, 1, none⟩ = some (.int .i64 (slots : Nat)) ∧ Below w.heap.size w w')
    (((try go_split_ands); refine cs2_keep C0 C1 ?_; first | assumption | exact (Below.refl _ _).drew | exact (Below.drew (by assumption)) | exact (Below.alloc (by assumption) (Below.size (by assumption)) _)))
    (first | (go_at_call 71; (try go_split_ands); refine (rwithout_ok _ r slots L v ?_ (-1)).mono ?_; (exact HO0.out.below (by assumption)); rintro e w3 ⟨v', rfl, hrow⟩; obtain ⟨ao, cp, rfl⟩ := owns_slice hrow.own; have hbx := cp_bel (by assumption) hrow.bel; have HX := Lib.hid hrow; clear hrow))
  have hrow := HX.out
  rw [wo_all (by omega)] at hrow
  have FIN : Hid (RCopied w slots L (.returned (.pointer (some ⟨w3.heap.size, 0, none⟩))) (w3.alloc (.cells #[.bool true, .int .i64 (slots : Nat), .slice ao (wo (-1) L L.length).length cp] 100))) := by
    rw [wo_all (by omega)]
    refine ⟨hbx.alloc hbx.size _, w3.heap.size, _, ⟨Blk.new w3 _ [_, _, _], hrow.own.alloc _, fun e => ?_, HO0.out.len⟩, hbx.size, fun k hk => hrow.new k hk, rfl⟩
    have := (hrow.own.lt _ e).2; omega
  clear hrow HX
  go_wp2_with fail
  go_ret
  exact FIN.out

set_option maxHeartbeats 1000000 in
theorem rcopy_nil (w : World) :
    Calls Try.prog 41 #[.pointer none] w (Ret (.pointer none) w) := by
  go_enter Try.func41, Try.ntmps41
  go_wp2_with (go_at_call 73; refine (rvalid_nil w).mono ?_; rintro e w' ⟨rfl, rfl⟩)
  go_ret
  exact ⟨rfl, rfl⟩

structure RDone (v : Value) (w : World) (r slots : Nat) (L : List Ent) (e : Ending) (w' : World) : Prop where
  val : e = .returned v
  out : ∃ u, RObj w' r slots L u ∧ Mod (fun k => k = r) w w' ∧ ∀ k, u.ownBlock = some k → w.heap.size ≤ k

/-- The new list is stored. -/
theorem RObj.stored {w w1 : World} {r slots : Nat} {L L' : List Ent} {v v' : Value} (h : RObj w r slots L v) (hrow : ENewRow w L' v' w1) (hl : L'.length ≤ 65536) (x : Value) :
    RDone x w r slots L' (.returned x) (w1.setCell ⟨r, 2, none⟩ v') := by
  have hlt := h.blk.lt
  have hne : v'.ownBlock ≠ some r := fun e => by have := hrow.new r e; omega
  refine ⟨rfl, v', ⟨(h.blk.below hrow.bel hlt).set 2 v', owns_same hrow.own (fun k hk => Below.heap_setCell _ _ _ _ (fun e => hne (by have e' : k = r := e; rw [← e']; exact hk))), hne, hl⟩, (Mod.of_below (F := fun k => k = r) hrow.bel).setCell _ (fun _ => rfl) _, hrow.new⟩

set_option maxHeartbeats 1000000 in
theorem rdrop_nil (w : World) (slot : Int) :
    Calls Try.prog 39 #[.pointer none, .int .i64 slot] w (Ret (.int .i64 1) w) := by
  go_enter Try.func39, Try.ntmps39
  go_wp2_with (go_at_call 70; refine (rcheck_nil w slot).mono ?_; rintro e w' ⟨rfl, rfl⟩)
  go_ret
  exact ⟨rfl, rfl⟩

set_option maxHeartbeats 1000000 in
theorem rdrop_range (w : World) (r slots : Nat) (L : List Ent) (v : Value) (h : RObj w r slots L v) (slot : Int) (hi : ¬ (0 ≤ slot ∧ slot < slots)) :
    Calls Try.prog 39 #[.pointer (some ⟨r, 0, none⟩), .int .i64 slot] w (Ret (.int .i64 3) w) := by
  have HH := Lib.hid h
  have HI := Lib.hid hi
  clear h hi
  go_enter Try.func39, Try.ntmps39
  go_wp2_with (go_at_call 70; refine (rcheck_range w r slots L v HH.out slot HI.out).mono ?_; rintro e w' ⟨rfl, rfl⟩)
  go_ret
  exact ⟨rfl, rfl⟩

set_option maxHeartbeats 1000000 in
theorem rdrop_none (w : World) (r slots : Nat) (L : List Ent) (v : Value) (h : RObj w r slots L v) (slot : Int) (h0 : 0 ≤ slot) (h1 : slot < slots) (hn : rfind slot L = -1) :
    Calls Try.prog 39 #[.pointer (some ⟨r, 0, none⟩), .int .i64 slot] w (Ret (.int .i64 5) w) := by
  have HF : Hid (Calls Try.prog 72 #[.pointer (some ⟨r, 0, none⟩), .int .i64 slot] w (Ret (.int .i64 (-1)) w)) := by rw [← hn]; exact rfind_ok w r slots L v h slot
  have HH := Lib.hid h
  clear h hn
  go_enter Try.func39, Try.ntmps39
  go_wp2_with (first
    | (go_at_call 70; refine (rcheck_ok w r slots L v HH.out slot h0 h1).mono ?_; rintro e w' ⟨rfl, rfl⟩)
    | (go_at_call 72; refine (HF.out).mono ?_; rintro e w' ⟨rfl, rfl⟩))
  go_ret
  exact ⟨rfl, rfl⟩

set_option maxHeartbeats 1000000 in
theorem rdrop_some (w : World) (r slots : Nat) (L : List Ent) (v : Value) (h : RObj w r slots L v) (slot : Int) (h0 : 0 ≤ slot) (h1 : slot < slots) (p : Nat) (hp : p < L.length) (hf : rfind slot L = (p : Int)) :
    Calls Try.prog 39 #[.pointer (some ⟨r, 0, none⟩), .int .i64 slot] w (RDone (.int .i64 0) w r slots (wo (p : Int) L L.length)) := by
  have HF : Hid (Calls Try.prog 72 #[.pointer (some ⟨r, 0, none⟩), .int .i64 slot] w (Ret (.int .i64 p) w)) := by rw [← hf]; exact rfind_ok w r slots L v h slot
  have HH := Lib.hid h
  have t1 : decide ((p : Int) < 0) = false := by simp
  clear h hf
  go_enter Try.func39, Try.ntmps39
  go_wp2_with (first
    | (go_at_call 70; refine (rcheck_ok w r slots L v HH.out slot h0 h1).mono ?_; rintro e w' ⟨rfl, rfl⟩)
    | (go_at_call 72; refine (HF.out).mono ?_; rintro e w' ⟨rfl, rfl⟩))
  with_reducible refine (rwithout_ok w r slots L v HH.out p).mono ?_
  rintro e w1 ⟨v', rfl, hrow⟩
  obtain ⟨ao, cp, rfl⟩ := owns_slice hrow.own
  have FIN := Lib.hid (HH.out.stored hrow (Nat.le_trans (wo_length _ _ _) HH.out.len) (.int .i64 0))
  have B := HH.out.blk.below hrow.bel HH.out.blk.lt
  have c2 := B.cell (i := 2) rfl
  have f2 := B.free 2
  clear hrow B
  go_wp2_with fail
  go_ret
  exact FIN.out

end Go.Proofs.Ytebclbpibafkdaa
