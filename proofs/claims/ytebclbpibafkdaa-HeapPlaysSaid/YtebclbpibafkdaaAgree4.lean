/- Layer 4: the heap and the reference's agree; HeapNews. -/
import Derived.Test.YtebclbpibafkdaaR4D
import Derived.Test.YtebclbpibafkdaaListW
import Derived.Test.YtebclbpibafkdaaSameH
import Derived.Test.YtebclbpibafkdaaHNil
namespace Go.Proofs.Ytebclbpibafkdaa
set_option linter.unusedVariables false
set_option linter.unusedSimpArgs false
open Go.RowKit

theorem RRow.nil_of {w : World} {e : Ending} {w' : World} (h : Ret (.slice none 0 0) w e w') : RRow w [] e w' := by
  obtain ⟨rfl, rfl⟩ := h
  exact ⟨_, rfl, World.ownsRow_nil _ _ _ _, Below.refl _ _, by simp [Value.ownBlock]⟩

set_option maxHeartbeats 4000000 in
set_option maxRecDepth 100000 in
theorem agree4_gen (w : World) (s r : Value) (i a0 a1 d : Int) (p q : Bool) (S : List Ent) (hl : S.length ≤ 65536)
    (hnx : Calls Try.prog 57 #[s] w (RetB (.tuple #[.agg #[.int .i64 a0, .int .i64 a1], .bool p]) w))
    (hrx : ∀ W, Below w.heap.size w W → Calls Try.prog 77 #[r] W (RetB (.tuple #[.agg #[.int .i64 a0, .int .i64 a1], .bool p]) W))
    (hnl : ∀ W, Below w.heap.size w W → Calls Try.prog 50 #[s, .int .i64 i] W (Ret (.tuple #[.int .i64 d, .bool q]) W))
    (hrl : ∀ W, Below w.heap.size w W → Calls Try.prog 78 #[r, .int .i64 i] W (Ret (.tuple #[.int .i64 d, .bool q]) W))
    (hnn : ∀ W, Below w.heap.size w W → Calls Try.prog 24 #[s] W (Ret (.int .i64 (S.length : Nat)) W))
    (hrn : ∀ W, Below w.heap.size w W → Calls Try.prog 79 #[r] W (Ret (.int .i64 (S.length : Nat)) W))
    (hnt : ∀ W, Below w.heap.size w W → Calls Try.prog 42 #[s] W (RRow W S))
    (hrt : ∀ W, Below w.heap.size w W → Calls Try.prog 80 #[r] W (RRow W S)) :
    Calls Try.prog 46 #[s, r, .int .i64 i] w (RetB (.bool true) w) := by
  have H1 := Lib.hid hnx
  have H2 := Lib.hid hrx
  have H3 := Lib.hid hnl
  have H4 := Lib.hid hrl
  have H5 := Lib.hid hnn
  have H6 := Lib.hid hrn
  have H7 := Lib.hid hnt
  have H8 := Lib.hid hrt
  clear hnx hrx hnl hrl hnn hrn hnt hrt
  go_enter Try.func46, Try.ntmps46
  go_wp2_with fail
  with_reducible refine (H1.out).mono ?_
  rintro e w1 ⟨rfl, hb1⟩
  have HB2 := Lib.hid (hb1.alloc hb1.size (.cells #[.int .i64 a0, .int .i64 a1] 28))
  have BX := Lib.hid (Blk.new w1 28 [.int .i64 a0, .int .i64 a1])
  clear hb1
  go_wp2_with fail
  generalize hW : World.alloc w1 _ = W2 at *
  generalize w1.heap.size = x at *
  clear hW
  with_reducible refine (H2.out W2 HB2.out).mono ?_
  rintro e w3 ⟨rfl, hb3⟩
  have hb3' := HB2.out.trans (hb3.mono HB2.out.size)
  have HB4 := Lib.hid (hb3'.alloc hb3'.size (.cells #[.int .i64 a0, .int .i64 a1] 28))
  have BX4 := (BX.out.below hb3 BX.out.lt).alloc (.cells #[.int .i64 a0, .int .i64 a1] 28)
  have BY := Blk.new w3 28 [.int .i64 a0, .int .i64 a1]
  have x0 := BX4.cell (i := 0) rfl
  have x1 := BX4.cell (i := 1) rfl
  have y0 := BY.cell (i := 0) rfl
  have y1 := BY.cell (i := 1) rfl
  clear hb3 hb3' HB2 BX BX4 BY
  go_wp2_with fail
  generalize hW : World.alloc w3 _ = W4 at *
  generalize w3.heap.size = y at *
  clear hW
  with_reducible refine (H3.out W4 HB4.out).mono ?_
  rintro e w' ⟨rfl, rfl⟩
  go_wp2_with (first
    | (go_at_call 78; refine (H4.out W4 HB4.out).mono ?_; rintro e w' ⟨rfl, rfl⟩)
    | (go_at_call 24; refine (H5.out W4 HB4.out).mono ?_; rintro e w' ⟨rfl, rfl⟩)
    | (go_at_call 79; refine (H6.out W4 HB4.out).mono ?_; rintro e w' ⟨rfl, rfl⟩))
  with_reducible refine (H7.out W4 HB4.out).mono ?_
  rintro e w5 ⟨v, rfl, hrow⟩
  have HB5 := Lib.hid (HB4.out.trans (hrow.bel.mono HB4.out.size))
  have HV := Lib.hid hrow
  clear hrow x0 x1 y0 y1
  go_wp2_with fail
  with_reducible refine (H8.out w5 HB5.out).mono ?_
  rintro e w6 ⟨u, rfl, hrow⟩
  have HB6 := Lib.hid (HB5.out.trans (hrow.bel.mono HB5.out.size))
  have HV6 := Lib.hid (HV.out.below hrow.bel).own
  have HU := Lib.hid hrow.own
  clear hrow HV
  go_wp2_with fail
  with_reducible refine (same04 w6 v u S HV6.out HU.out hl).mono ?_
  rintro e w7 ⟨rfl, hb7⟩
  have HB7 := Lib.hid (HB6.out.trans (hb7.mono HB6.out.size))
  clear hb7
  go_wp2_with fail
  go_ret
  exact ⟨by simp, HB7.out⟩

theorem headV_form4 (S : List Ent) : ∃ a0 a1 p, headV S = .tuple #[.agg #[.int .i64 a0, .int .i64 a1], .bool p] := by
  cases S with
  | nil => exact ⟨0, 0, false, rfl⟩
  | cons e l => exact ⟨e.1, e.2, true, rfl⟩

theorem HObj.nodupS {w : World} {b slots : Nat} {S : List Ent} {g : HG} (h : HObj w b slots S g) : (S.map (·.1)).Nodup :=
  (h.perm.map _).nodup_iff.2 h.good.nodup

theorem HObj.idx4 {w : World} {b slots : Nat} {S : List Ent} {g : HG} (h : HObj w b slots S g) : ∀ e ∈ S, 0 ≤ e.1 ∧ e.1 < slots := by
  intro e he
  obtain ⟨p, hp, rfl⟩ := mem_ent (h.perm.mem_iff.1 he)
  obtain ⟨i, h1, h2, _⟩ := h.good.pos p hp
  have := h.hs
  rw [h1]; omega

/-- Where an index is: in both, or in neither. -/
theorem key4_both (w : World) (b slots : Nat) (S L : List Ent) (g : HG) (h : HObj w b slots S g) (r : Nat) (v : Value) (k : R4Obj w r slots L v) (hp : S.Perm L) (i : Int) :
    ∃ (d : Int) (q : Bool), (∀ W, Below w.heap.size w W → Calls Try.prog 50 #[.pointer (some ⟨b, 0, none⟩), .int .i64 i] W (Ret (.tuple #[.int .i64 d, .bool q]) W)) ∧
      ∀ W, Below w.heap.size w W → Calls Try.prog 78 #[.pointer (some ⟨r, 0, none⟩), .int .i64 i] W (Ret (.tuple #[.int .i64 d, .bool q]) W) := by
  rcases rfind_cases i L with ⟨p, hpl, hf, he⟩ | ⟨hf, hno⟩
  · have hm : ent L p ∈ S := hp.mem_iff.2 (ent_mem hpl)
    have hr := h.idx4 _ hm
    rw [he] at hr
    obtain ⟨n, rfl⟩ := Int.eq_ofNat_of_zero_le hr.1
    have hm' : ((n : Int), (ent L p).2) ∈ S := by rw [← he]; exact hm
    exact ⟨(ent L p).2, true, fun W hW => key_some W b slots S g (h.below hW) n (by omega) _ hm', fun W hW => r4key_some W r slots L v (k.below hW) n p hpl hf⟩
  · have hno' : ∀ e ∈ S, e.1 ≠ i := fun e he => hno e (hp.mem_iff.1 he)
    refine ⟨0, false, fun W hW => ?_, fun W hW => r4key_none W r slots L v (k.below hW) i hf⟩
    by_cases hr : 0 ≤ i ∧ i < slots
    · obtain ⟨n, rfl⟩ := Int.eq_ofNat_of_zero_le hr.1
      exact key_none W b slots S g (h.below hW) n (by omega) hno'
    · exact key_range W b slots S g (h.below hW) i hr

theorem agree4_ok (w : World) (b slots : Nat) (S L : List Ent) (g : HG) (h : HObj w b slots S g) (r : Nat) (v : Value) (k : R4Obj w r slots L v) (hp : S.Perm L) (i : Int) :
    Calls Try.prog 46 #[.pointer (some ⟨b, 0, none⟩), .pointer (some ⟨r, 0, none⟩), .int .i64 i] w (RetB (.bool true) w) := by
  obtain ⟨a0, a1, p, hv⟩ := headV_form4 S
  obtain ⟨d, q, h1, h2⟩ := key4_both w b slots S L g h r v k hp i
  have hl : S.length ≤ 65536 := by rw [hp.length_eq]; exact k.len
  exact agree4_gen w _ _ i a0 a1 d p q S hl (by rw [← hv]; exact min_any w b slots S g h) (fun W hW => by rw [← hv]; exact r4min_any W r slots L v (k.below hW) S h.sorted hp) h1 h2
    (fun W hW => len_ok W b slots S g (h.below hW)) (fun W hW => by rw [hp.length_eq]; exact r4len_ok W r slots L v (k.below hW)) (fun W hW => list_ok W b slots S g (h.below hW)) (fun W hW => r4list_ok W r slots L v (k.below hW) S h.sorted hp)

theorem agree4_nil (w : World) (i : Int) :
    Calls Try.prog 46 #[.pointer none, .pointer none, .int .i64 i] w (RetB (.bool true) w) :=
  agree4_gen w _ _ i 0 0 0 false false [] (by simp) (min_bad w _ ⟨.inl rfl⟩) (fun W _ => r4min_nil W) (fun W _ => key_bad W _ ⟨.inl rfl⟩ i) (fun W _ => r4key_nil W i)
    (fun W _ => hlen_bad W _ ⟨.inl rfl⟩) (fun W _ => r4len_nil W) (fun W _ => (list_bad W _ ⟨.inl rfl⟩).mono fun e w' h => RRow.nil_of h) (fun W _ => (r4list_nil W).mono fun e w' h => RRow.nil_of h)

set_option maxHeartbeats 400000 in
theorem hnew_low (n : Int) (w : World) (h : n < 0 ∨ 65536 < n) : Calls Try.prog 44 #[.int .i64 n] w (Ret (.tuple #[.pointer none, .int .i64 2]) w) := by
  rcases h with h | h
  · have t1 : decide (n < 0) = true := by simp; omega
    go_enter Try.func44, Try.ntmps44
    go_wp2
    go_ret2
    exact ⟨rfl, rfl⟩
  · have t1 : decide (n < 0) = false := by simp; omega
    go_enter Try.func44, Try.ntmps44
    go_wp2
    go_ret2
    exact ⟨rfl, rfl⟩

set_option maxHeartbeats 4000000 in
set_option maxRecDepth 100000 in
theorem hnews_law (slots i : Int) (w : World) :
    Calls Try.prog 15 #[.int .i64 slots, .int .i64 i] w (RetB (.bool true) w) := by
  by_cases hr : slots < 0 ∨ 65536 < slots
  · have HR := Lib.hid hr
    clear hr
    go_enter Try.func15, Try.ntmps15
    go_wp2_with (first
      | (go_at_call 44; refine (hnew_low slots w HR.out).mono ?_; rintro e w' ⟨rfl, rfl⟩)
      | (go_at_call 45; refine (r4new_low slots w HR.out).mono ?_; rintro e w' ⟨rfl, rfl⟩))
    with_reducible refine (agree4_nil w _).mono ?_
    rintro e w1 ⟨rfl, hb⟩
    have HB := Lib.hid hb
    clear hb
    go_wp2_with fail
    with_reducible refine (works04 _).mono ?_
    rintro e w2 ⟨rfl, hb⟩
    have HB2 := Lib.hid (HB.out.trans (hb.mono HB.out.size))
    clear hb
    go_wp2_with fail
    go_ret
    exact ⟨rfl, HB2.out⟩
  · obtain ⟨n, rfl⟩ := Int.eq_ofNat_of_zero_le (show 0 ≤ slots by omega)
    have hn : n ≤ 65536 := by omega
    clear hr
    go_enter Try.func15, Try.ntmps15
    go_wp2_with fail
    with_reducible refine (new_obj n w hn).mono ?_
    rintro e w1 ⟨hb1, b, g, ho, hf, rfl⟩
    have HO := Lib.hid ho
    have HB1 := Lib.hid hb1
    clear ho hf hb1
    go_wp2_with fail
    with_reducible refine (r4new_ok n w1 hn).mono ?_
    rintro e w2 ⟨hb2, r, v, hr, _, _, rfl⟩
    have HO2 := Lib.hid (HO.out.below hb2)
    have HR2 := Lib.hid hr
    have HB2 := Lib.hid (HB1.out.trans (hb2.mono HB1.out.size))
    clear hb2 hr HO HB1
    go_wp2_with fail
    with_reducible refine (agree4_ok w2 b n [] [] g HO2.out r v HR2.out (List.Perm.refl _) _).mono ?_
    rintro e w3 ⟨rfl, hb⟩
    have HB := Lib.hid (HB2.out.trans (hb.mono HB2.out.size))
    clear hb
    go_wp2_with fail
    with_reducible refine (works04 _).mono ?_
    rintro e w4 ⟨rfl, hb⟩
    have HB4 := Lib.hid (HB.out.trans (hb.mono HB.out.size))
    clear hb
    go_wp2_with fail
    go_ret
    exact ⟨rfl, HB4.out⟩

end Go.Proofs.Ytebclbpibafkdaa
