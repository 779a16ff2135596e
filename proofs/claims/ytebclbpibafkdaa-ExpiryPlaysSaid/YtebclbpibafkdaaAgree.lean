/- Layer 35: the schedule and the reference's agree. -/
import Derived.Test.YtebclbpibafkdaaRefF
import Derived.Test.YtebclbpibafkdaaENil
namespace Go.Proofs.Ytebclbpibafkdaa
set_option linter.unusedVariables false
set_option linter.unusedSimpArgs false
open Go.RowKit

theorem HObj.nodupI {w : World} {b slots : Nat} {S : List Ent} {g : HG} (h : HObj w b slots S g) : (S.map (·.1)).Nodup :=
  (h.perm.map _).nodup_iff.2 h.good.nodup

/-- Left of both. -/
theorem left_both (w : World) (s slots : Nat) (S : List Ent) (q : Nat) (g : HG) (h : EObj w s slots S q g) (r : Nat) (v : Value) (k : RObj w r slots S v) (slot now : Int) (hS : ∀ e ∈ S, I64 e.2) (hnow : I64 now) :
    ∃ d e0 : Int, (∀ W, Below w.heap.size w W → Calls Try.prog 27 #[.pointer (some ⟨s, 0, none⟩), .int .i64 slot, .int .i64 now] W (RetB (.tuple #[.int .i64 d, .int .i64 e0]) W)) ∧
      ∀ W, Below w.heap.size w W → Calls Try.prog 66 #[.pointer (some ⟨r, 0, none⟩), .int .i64 slot, .int .i64 now] W (Ret (.tuple #[.int .i64 d, .int .i64 e0]) W) := by
  by_cases hr : 0 ≤ slot ∧ slot < slots
  · obtain ⟨n, rfl⟩ := Int.eq_ofNat_of_zero_le hr.1
    have hn : n < slots := by omega
    rcases rfind_cases (n : Int) S with ⟨p, hp, hf, he⟩ | ⟨hf, hno⟩
    · have hm := ent_mem hp
      have hk1 := hS _ hm
      have hm' : ((n : Int), (ent S p).2) ∈ S := by rw [← he]; exact hm
      by_cases hd : I64 ((ent S p).2 - now)
      · exact ⟨_, _, fun V hV => eleft_some V s slots S q g (h.below hV) n now hn _ hm' _ _ (fun W => sub_fits _ _ W hk1 hnow hd) (fun x => absurd rfl x),
          fun W hW => rleft_fits W r slots S v (k.below hW) n now hr.1 hr.2 p hp hf _ rfl hk1 hnow hd⟩
      · exact ⟨_, _, fun V hV => eleft_some V s slots S q g (h.below hV) n now hn _ hm' _ _ (fun W => sub_over _ _ W hk1 hnow hd) (fun _ => rfl),
          fun W hW => rleft_over W r slots S v (k.below hW) n now hr.1 hr.2 p hp hf _ rfl hk1 hnow hd⟩
    · exact ⟨_, _, fun V hV => eleft_none V s slots S q g (h.below hV) n now hn hno, fun W hW => rleft_none W r slots S v (k.below hW) n now hr.1 hr.2 hf⟩
  · exact ⟨_, _, fun V hV => eleft_range V s slots S q g (h.below hV) slot now hr, fun W hW => rleft_range W r slots S v (k.below hW) slot now hr⟩

set_option maxHeartbeats 4000000 in
set_option maxRecDepth 100000 in
theorem agree_gen (w : World) (s r : Value) (slot now a0 a1 d e0 : Int) (n : Nat) (p : Bool)
    (hnx : Calls Try.prog 34 #[s] w (RetB (.tuple #[.agg #[.int .i64 a0, .int .i64 a1], .bool p]) w))
    (hrx : ∀ W, Below w.heap.size w W → Calls Try.prog 65 #[r] W (RetB (.tuple #[.agg #[.int .i64 a0, .int .i64 a1], .bool p]) W))
    (hnl : ∀ W, Below w.heap.size w W → Calls Try.prog 27 #[s, .int .i64 slot, .int .i64 now] W (RetB (.tuple #[.int .i64 d, .int .i64 e0]) W))
    (hrl : ∀ W, Below w.heap.size w W → Calls Try.prog 66 #[r, .int .i64 slot, .int .i64 now] W (Ret (.tuple #[.int .i64 d, .int .i64 e0]) W))
    (hnn : ∀ W, Below w.heap.size w W → Calls Try.prog 33 #[s] W (Ret (.int .i64 n) W))
    (hrn : ∀ W, Below w.heap.size w W → Calls Try.prog 67 #[r] W (Ret (.int .i64 n) W)) :
    Calls Try.prog 32 #[s, r, .int .i64 slot, .int .i64 now] w (RetB (.bool true) w) := by
  have H1 := Lib.hid hnx
  have H2 := Lib.hid hrx
  have H3 := Lib.hid hnl
  have H4 := Lib.hid hrl
  have H5 := Lib.hid hnn
  have H6 := Lib.hid hrn
  clear hnx hrx hnl hrl hnn hrn
  go_enter Try.func32, Try.ntmps32
  go_wp2_with fail
  with_reducible refine (H1.out).mono ?_
  rintro e w1 ⟨rfl, hb1⟩
  have HB2 := Lib.hid (hb1.alloc hb1.size (.cells #[.int .i64 a0, .int .i64 a1] 28))
  have BX := Lib.hid (Blk.new w1 28 [.int .i64 a0, .int .i64 a1])
  clear hb1
  go_wp2_with fail
  generalize hW : World.alloc w1 _ = W2 at *
  generalize w1.heap.size = x at *
  clear hW
  with_reducible refine (H2.out W2 HB2.out).mono ?_
  rintro e w3 ⟨rfl, hb3⟩
  have hb3' := HB2.out.trans (hb3.mono HB2.out.size)
  have HB4 := Lib.hid (hb3'.alloc hb3'.size (.cells #[.int .i64 a0, .int .i64 a1] 28))
  have BX4 := Lib.hid ((BX.out.below hb3 BX.out.lt).alloc (.cells #[.int .i64 a0, .int .i64 a1] 28))
  have BY := Lib.hid (Blk.new w3 28 [.int .i64 a0, .int .i64 a1])
  clear hb3 hb3' HB2 BX
  go_wp2_with fail
  generalize hW : World.alloc w3 _ = W4 at *
  generalize w3.heap.size = y at *
  clear hW
  with_reducible refine (H3.out W4 HB4.out).mono ?_
  rintro e w5 ⟨rfl, hb5⟩
  have HB5 := Lib.hid (HB4.out.trans (hb5.mono HB4.out.size))
  have BX5 := BX4.out.below hb5 BX4.out.lt
  have BY5 := BY.out.below hb5 BY.out.lt
  have x0 := BX5.cell (i := 0) rfl
  have x1 := BX5.cell (i := 1) rfl
  have y0 := BY5.cell (i := 0) rfl
  have y1 := BY5.cell (i := 1) rfl
  clear hb5 HB4 BX4 BY BX5 BY5
  go_wp2_with (first
    | (go_at_call 66; refine (H4.out w5 HB5.out).mono ?_; rintro e w' ⟨rfl, rfl⟩)
    | (go_at_call 33; refine (H5.out w5 HB5.out).mono ?_; rintro e w' ⟨rfl, rfl⟩)
    | (go_at_call 67; refine (H6.out w5 HB5.out).mono ?_; rintro e w' ⟨rfl, rfl⟩))
  go_ret
  exact ⟨by simp, HB5.out⟩

theorem headV_form (S : List Ent) : ∃ a0 a1 p, headV S = .tuple #[.agg #[.int .i64 a0, .int .i64 a1], .bool p] := by
  cases S with
  | nil => exact ⟨0, 0, false, rfl⟩
  | cons e l => exact ⟨e.1, e.2, true, rfl⟩

theorem agree_ok (w : World) (s slots : Nat) (S : List Ent) (q : Nat) (g : HG) (h : EObj w s slots S q g) (r : Nat) (v : Value) (k : RObj w r slots S v) (slot now : Int) (hS : ∀ e ∈ S, I64 e.2) (hnow : I64 now) :
    Calls Try.prog 32 #[.pointer (some ⟨s, 0, none⟩), .pointer (some ⟨r, 0, none⟩), .int .i64 slot, .int .i64 now] w (RetB (.bool true) w) := by
  obtain ⟨a0, a1, p, hv⟩ := headV_form S
  obtain ⟨d, e0, h1, h2⟩ := left_both w s slots S q g h r v k slot now hS hnow
  exact agree_gen w _ _ slot now a0 a1 d e0 S.length p (by rw [← hv]; exact enext_any w s slots S q g h) (fun W hW => by rw [← hv]; exact rnext_any W r slots S v (k.below hW)) h1 h2
    (fun W hW => elen_ok W s slots S q g (h.below hW)) (fun W hW => rlen_ok W r slots S v (k.below hW))

theorem agree_nil (w : World) (slot now : Int) :
    Calls Try.prog 32 #[.pointer none, .pointer none, .int .i64 slot, .int .i64 now] w (RetB (.bool true) w) :=
  agree_gen w _ _ slot now 0 0 0 1 0 false (enext_bad w _ ⟨.inl rfl⟩) (fun W _ => rnext_nil W) (fun W _ => eleft_bad W _ ⟨.inl rfl⟩ slot now) (fun W _ => rleft_nil W slot now)
    (fun W _ => elen_bad W _ ⟨.inl rfl⟩) (fun W _ => rlen_nil W)

set_option maxHeartbeats 4000000 in
set_option maxRecDepth 100000 in
theorem news_law (slots slot now : Int) (w : World) (hnow : I64 now) :
    Calls Try.prog 6 #[.int .i64 slots, .int .i64 slot, .int .i64 now] w (RetB (.bool true) w) := by
  have HI := Lib.hid hnow
  clear hnow
  by_cases hr : slots < 0 ∨ 65536 < slots
  · have HR := Lib.hid hr
    clear hr
    go_enter Try.func6, Try.ntmps6
    go_wp2_with (first
      | (go_at_call 30; refine (enew_low slots w HR.out).mono ?_; rintro e w' ⟨rfl, rfl⟩)
      | (go_at_call 31; refine (rnew_low slots w HR.out).mono ?_; rintro e w' ⟨rfl, rfl⟩))
    with_reducible refine (agree_nil w _ _).mono ?_
    rintro e w1 ⟨rfl, hb⟩
    have HB := Lib.hid hb
    clear hb
    go_wp2_with fail
    with_reducible refine (works35 _).mono ?_
    rintro e w2 ⟨rfl, hb⟩
    have HB2 := Lib.hid (HB.out.trans (hb.mono HB.out.size))
    clear hb
    go_wp2_with fail
    go_ret
    exact ⟨rfl, HB2.out⟩
  · obtain ⟨n, rfl⟩ := Int.eq_ofNat_of_zero_le (show 0 ≤ slots by omega)
    have hn : n ≤ 65536 := by omega
    clear hr
    go_enter Try.func6, Try.ntmps6
    go_wp2_with fail
    with_reducible refine (enew_ok n w hn).mono ?_
    rintro e w1 ⟨hb1, s, q, g, ho, hf, hs, rfl⟩
    have HO := Lib.hid ho
    have HB1 := Lib.hid hb1
    clear ho hf hs hb1
    go_wp2_with fail
    with_reducible refine (rnew_ok n w1 hn).mono ?_
    rintro e w2 ⟨hb2, r, v, hr, _, _, rfl⟩
    have HO2 := Lib.hid (HO.out.below hb2)
    have HR2 := Lib.hid hr
    have HB2 := Lib.hid (HB1.out.trans (hb2.mono HB1.out.size))
    clear hb2 hr HO HB1
    go_wp2_with fail
    with_reducible refine (agree_ok w2 s n [] q g HO2.out r v HR2.out _ _ (by simp) HI.out).mono ?_
    rintro e w3 ⟨rfl, hb⟩
    have HB := Lib.hid (HB2.out.trans (hb.mono HB2.out.size))
    clear hb
    go_wp2_with fail
    with_reducible refine (works35 _).mono ?_
    rintro e w4 ⟨rfl, hb⟩
    have HB4 := Lib.hid (HB.out.trans (hb.mono HB.out.size))
    clear hb
    go_wp2_with fail
    go_ret
    exact ⟨rfl, HB4.out⟩

end Go.Proofs.Ytebclbpibafkdaa
