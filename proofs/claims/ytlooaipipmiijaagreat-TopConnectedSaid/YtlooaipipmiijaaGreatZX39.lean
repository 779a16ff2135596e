/- Several texts in one: WnX, TpK, TpI, TpR. -/
import Derived.Test.YtlooaipipmiijaaGreatZX18
import Derived.Test.YtlooaipipmiijaaGreatZX24
import Derived.Test.YtlooaipipmiijaaGreatZX34
import Derived.Test.YtlooaipipmiijaaGreatZX38
namespace Go.Proofs.YtlooaipipmiijaaGreat
set_option linter.unusedVariables false
set_option linter.unusedSimpArgs false
open Go.RowKit
set_option maxHeartbeats 1000000 in
theorem wn_new_bad (w : World) (W E V D : Int) (h : ¬ CfgO W E V D) :
    Calls Tryz.prog 5 #[.agg #[.int .i64 W, .int .i64 E, .int .i64 V, .int .i64 D]] w (RetB (.tuple #[.pointer none, .int .i64 2]) w) := by
  have HB : Hid (Below w.heap.size w (w.alloc (.cells #[.int .i64 W, .int .i64 E, .int .i64 V, .int .i64 D] 23))) := bel_alloc w _
  have HX := Lib.hid (Blk.new w 23 [.int .i64 W, .int .i64 E, .int .i64 V, .int .i64 D])
  simp only [List.toArray] at HX
  have HF := Lib.hid (fun W1 => wn_from_bad W1 W E V D h)
  clear h
  go_enter Tryz.func5, Tryz.ntmps5
  go_upto_region 1 with fail
  generalize hw1 : w.alloc (.cells #[.int .i64 W, .int .i64 E, .int .i64 V, .int .i64 D] 23) = w1 at *
  generalize hz : w.heap.size = z at *
  have c0 := HX.out.cell (i := 0) rfl
  have c1 := HX.out.cell (i := 1) rfl
  have c2 := HX.out.cell (i := 2) rfl
  have c3 := HX.out.cell (i := 3) rfl
  have HI1 := Lib.hid (HF.out w1)
  go_wp2_with (go_at_call 17; refine HI1.out.mono ?_; rintro e w2 ⟨rfl, hb⟩; have HB2 := Lib.hid hb; clear hb)
  go_ret2
  refine ⟨rfl, ?_⟩
  have h1 := HB.out
  rw [← hz] at h1
  exact bel_next h1 HB2.out
theorem WnNw.lift {w w1 w2 : World} {W D : Int} {E V : Nat} {e : Ending} (h : WnNw w1 W E V D e w2) (hb : Below w.heap.size w w1) : WnNw w W E V D e w2 := by
  obtain ⟨⟨b, G, h1, h2, h3, h4, h5⟩, h6⟩ := h
  exact ⟨⟨b, G, h1, h2, h3, h4, fun k hk => Nat.le_trans hb.size (h5 k hk)⟩, bel_next hb h6⟩
set_option maxHeartbeats 1000000 in
theorem wn_new (w : World) (Wd D : Int) (E V : Nat) (h : CfgO Wd E V D) (hmx : Wd ≤ 9223372036854775807) :
    Calls Tryz.prog 5 #[.agg #[.int .i64 Wd, .int .i64 (E : Int), .int .i64 (V : Int), .int .i64 D]] w (WnNw w Wd E V D) := by
  have HB : Hid (Below w.heap.size w (w.alloc (.cells #[.int .i64 Wd, .int .i64 (E : Int), .int .i64 (V : Int), .int .i64 D] 23))) := bel_alloc w _
  have HX := Lib.hid (Blk.new w 23 [.int .i64 Wd, .int .i64 (E : Int), .int .i64 (V : Int), .int .i64 D])
  simp only [List.toArray] at HX
  have HF := Lib.hid (fun W1 => wn_from W1 Wd D E V h hmx)
  clear h hmx
  go_enter Tryz.func5, Tryz.ntmps5
  go_upto_region 1 with fail
  generalize hw1 : w.alloc (.cells #[.int .i64 Wd, .int .i64 (E : Int), .int .i64 (V : Int), .int .i64 D] 23) = w1 at *
  generalize hz : w.heap.size = z at *
  have c0 := HX.out.cell (i := 0) rfl
  have c1 := HX.out.cell (i := 1) rfl
  have c2 := HX.out.cell (i := 2) rfl
  have c3 := HX.out.cell (i := 3) rfl
  have HI1 := Lib.hid (HF.out w1)
  go_wp2_with (go_at_call 17; refine HI1.out.mono ?_; rintro e w2 hpo; have hq := hpo.ex; obtain ⟨b, G, he, _⟩ := hq; subst he; have HPO := Lib.hid hpo; clear hpo)
  go_ret2
  refine HPO.out.lift ?_
  have h1 := HB.out
  rw [← hz] at h1
  exact h1
def conB (all : List Rcd) (u v : Nat) : Bool := decide ((u ∈ idsL all ∧ v ∈ idsL all) ∧ v ∈ rchL all u MINT)
def conE (all : List Rcd) (u v : Nat) : Int := if u ∈ idsL all ∧ v ∈ idsL all then 0 else 13
def unB (all : List Rcd) (u v : Nat) : Bool := conB all u v && decide (u ≠ v)
def unT (W : Int) (all : List Rcd) (u v : Nat) : Int := if unB all u v = true then bestL all u v + W else 0
section
variable {w : World} {b : Nat} {G : WnG} {all : List Rcd}
theorem rd_connected (h : WnM w b G) (hl : WnL G all) (u v : Nat) : Calls Tryz.prog 13 #[.pointer (some ⟨b, 0, none⟩), .int .u64 (u : Int), .int .u64 (v : Int)] w (WnRt w b G (.tuple #[.bool (conB all u v), .int .i64 (conE all u v)])) := by
  obtain ⟨ge, F, he⟩ := hl.ed
  by_cases c : u ∈ idsL all ∧ v ∈ idsL all
  · obtain ⟨i, hi, i1, i2⟩ := hl.known he c.1
    obtain ⟨j, hj, j1, j2⟩ := hl.known he c.2
    refine (wn_connected w b G h he u v i j hi hj).mono ?_
    rintro e w' ⟨⟨x, rfl, hx⟩, hst⟩
    refine ⟨?_, hst⟩
    have e1 : conE all u v = 0 := if_pos c
    have e2 : x = conB all u v := by
      unfold conB
      rw [hl.conn he i1 j1, i2, j2] at hx
      cases x
      · refine (decide_eq_false fun k => ?_).symm
        exact absurd (hx.2 k.2) (by decide)
      · exact (decide_eq_true ⟨c, hx.1 rfl⟩).symm
    rw [e1, e2]
  · have hn : (gix G.g.LvT G.g.D u).isSome = false ∨ (gix G.g.LvT G.g.D v).isSome = false := by
      by_cases d : u ∈ idsL all
      · exact .inr (hl.unknown he fun k => c ⟨d, k⟩)
      · exact .inl (hl.unknown he d)
    have e1 : conE all u v = 13 := if_neg c
    have e2 : conB all u v = false := decide_eq_false fun k => c k.1
    rw [e1, e2]
    exact wn_connected_no w b G h u v hn
theorem rd_until (h : WnM w b G) (hl : WnL G all) (u v : Nat) : Calls Tryz.prog 10 #[.pointer (some ⟨b, 0, none⟩), .int .u64 (u : Int), .int .u64 (v : Int)] w (WnRt w b G (.tuple #[.int .i64 (unT G.W all u v), .bool (unB all u v), .int .i64 (conE all u v)])) := by
  obtain ⟨ge, F, he⟩ := hl.ed
  by_cases c : u ∈ idsL all ∧ v ∈ idsL all
  · obtain ⟨i, hi, i1, i2⟩ := hl.known he c.1
    obtain ⟨j, hj, j1, j2⟩ := hl.known he c.2
    refine (wn_until w b G h he u v i j hi hj).mono ?_
    rintro e w' ⟨hy, hno, hst⟩
    refine ⟨?_, hst⟩
    have e1 : conE all u v = 0 := if_pos c
    have hcb : conB all u v = true ↔ Rch (Lnk ge G.g.Lv) i j := by
      unfold conB
      rw [decide_eq_true_eq, hl.conn he i1 j1, i2, j2]
      exact ⟨fun k => k.2, fun k => ⟨c, k⟩⟩
    have hij : i = j ↔ u = v := ⟨fun k => by rw [← i2, ← j2, k], fun k => he.stl.ids.inj _ _ i1 j1 (by rw [i2, j2, k])⟩
    by_cases d : i ≠ j ∧ Rch (Lnk ge G.g.Lv) i j
    · obtain ⟨ex, rfl, hm, h1, h2⟩ := hy d.1 d.2
      have e3 := hl.best he i1 j1 hm h1 h2
      rw [i2, j2] at e3
      have e2 : unB all u v = true := by
        unfold unB
        rw [hcb.2 d.2, decide_eq_true (show u ≠ v from fun k => d.1 (hij.2 k))]; rfl
      have e4 : unT G.W all u v = ex := by unfold unT; rw [if_pos e2, ← e3]
      rw [e1, e2, e4]
    · have hd : i = j ∨ ¬ Rch (Lnk ge G.g.Lv) i j := by
        by_cases k : i = j
        · exact .inl k
        · exact .inr fun k2 => d ⟨k, k2⟩
      have e2 : unB all u v = false := by
        unfold unB
        rcases hd with k | k
        · rw [decide_eq_false (show ¬ u ≠ v from fun f => f (hij.1 k)), Bool.and_false]
        · rw [Bool.eq_false_iff.2 (fun f => k (hcb.1 f)), Bool.false_and]
      have e4 : unT G.W all u v = 0 := by unfold unT; rw [if_neg (by rw [e2]; decide)]
      rw [e1, e2, e4]
      exact hno hd
  · have hn : (gix G.g.LvT G.g.D u).isSome = false ∨ (gix G.g.LvT G.g.D v).isSome = false := by
      by_cases d : u ∈ idsL all
      · exact .inr (hl.unknown he fun k => c ⟨d, k⟩)
      · exact .inl (hl.unknown he d)
    have e1 : conE all u v = 13 := if_neg c
    have e0 : conB all u v = false := decide_eq_false fun k => c k.1
    have e2 : unB all u v = false := by unfold unB; rw [e0]; rfl
    have e4 : unT G.W all u v = 0 := by unfold unT; rw [if_neg (by rw [e2]; decide)]
    rw [e1, e2, e4]
    exact wn_until_no w b G h u v hn
theorem rd_size (h : WnM w b G) (hl : WnL G all) (u : Nat) (hu : u ∈ idsL all) : Calls Tryz.prog 38 #[.pointer (some ⟨b, 0, none⟩), .int .u64 (u : Int)] w (WnRt w b G (.tuple #[.int .i64 ((rchL all u MINT).length : Int), .int .i64 0])) := by
  obtain ⟨ge, F, he⟩ := hl.ed
  obtain ⟨i, hi, i1, i2⟩ := hl.known he hu
  have := wn_size w b G h he u i hi
  rw [hl.size he i1, i2] at this
  exact this
theorem rd_count (h : WnM w b G) (hl : WnL G all) : Calls Tryz.prog 35 #[.pointer (some ⟨b, 0, none⟩)] w (RetB (.tuple #[.int .i64 (all.length : Int), .int .i64 ((idsL all).length : Int), .int .i64 (treesL all : Int)]) w) := by
  obtain ⟨ge, F, he⟩ := hl.ed
  have := wn_count w b G h he
  rw [hl.trees h he, hl.len he, hl.ids he] at this
  exact this
theorem rd_live (h : WnM w b G) (hl : WnL G all) : Calls Tryz.prog 37 #[.pointer (some ⟨b, 0, none⟩)] w (WnLv w b G all.length) := by
  obtain ⟨ge, F, he⟩ := hl.ed
  have := wn_live w b G h he
  rw [hl.len he] at this
  exact this
end
end Go.Proofs.YtlooaipipmiijaaGreat

namespace Go.Proofs.YtlooaipipmiijaaGreat
set_option linter.unusedVariables false
set_option linter.unusedSimpArgs false
open Go.RowKit
def idV (l : List Nat) : List Value := l.map fun (x : Nat) => .int .u64 (x : Int)
theorem idV_get {l : List Nat} {i x : Nat} (h : l[i]? = some x) : (idV l)[i]? = some (.int .u64 (x : Int)) := by unfold idV; rw [List.getElem?_map, h]; rfl
theorem idV_snoc (l : List Nat) (x : Nat) : idV (l ++ [x]) = idV l ++ [.int .u64 (x : Int)] := by unfold idV; rw [List.map_append]; rfl
def encC (r : Rcd) : List Value := [.int .u64 (r.u : Int), .int .u64 (r.v : Int), .int .i64 r.wt, .int .i64 r.t]
def rcV (l : List Rcd) : List Value := encs encC l
theorem rcV_snoc (l : List Rcd) (r : Rcd) : rcV (l ++ [r]) = rcV l ++ encC r := by
  unfold rcV encs
  rw [List.flatMap_append, List.flatMap_singleton]
theorem rcV_get {l : List Rcd} {i : Nat} {r : Rcd} (h : l[i]? = some r) {j : Nat} (hj : j < 4) : (rcV l)[i * 4 + j]? = (encC r)[j]? := by
  have := encs_get (enc := encC) (k := 4) (fun _ => rfl) (by omega) l (i * 4 + j) r (by rw [show (i * 4 + j) / 4 = i by omega]; exact h)
  rwa [show (i * 4 + j) % 4 = j by omega] at this
theorem encC_one (r : Rcd) : ∀ v ∈ encC r, v.oneCell' = true := by
  intro v hv
  simp only [encC, List.mem_cons, List.not_mem_nil, or_false] at hv
  rcases hv with rfl | rfl | rfl | rfl <;> rfl
set_option maxHeartbeats 1000000 in
theorem tp_known (w : World) (v : Value) (l : List Nat) (id : Nat) (ho : w.ownsRow 0 25 1 v l.length (idV l)) (hl : l.length ≤ 65536) :
    Calls Tryz.prog 34 #[v, .int .u64 (id : Int)] w (Ret (.bool (decide (id ∈ l))) w) := by
  obtain ⟨ao, cp, rfl⟩ := owns_slice ho
  have HO := Lib.hid ho
  generalize hn : l.length = n at *
  have HN := Lib.hid hn
  clear hn ho
  go_enter Tryz.func34, Tryz.ntmps34
  go_wp2_with fail
  go_loop [5] (fun s5 => ∃ i : Nat, i ≤ n ∧ s5 = .int .i64 (i : Int) ∧ Hid (∀ j, j < i → l[j]? ≠ some id)) (fun s5 => n - (intOf s5).toNat)
  case atStart => exact ⟨0, Nat.zero_le _, rfl, fun j hj => absurd hj (Nat.not_lt_zero j)⟩
  case round =>
    obtain ⟨i, hi, rfl, HI⟩ := hrel
    by_cases hlt : i < n
    · obtain ⟨y, hy⟩ : ∃ y, l[i]? = some y := ⟨l[i]'(by rw [HN.out]; exact hlt), List.getElem?_eq_getElem (by rw [HN.out]; exact hlt)⟩
      obtain ⟨gb, cap, hv, _, _, _, hc, _⟩ := owns_form HO.out (by omega)
      injection hv with q1 _ q3
      subst q1 q3
      have c1 : w.cell? ⟨gb, i, none⟩ = some (.int .u64 (y : Int)) := (hc i (by omega)).trans (idV_get hy)
      have HY := Lib.hid hy
      have HII := Lib.hid hlt
      have hwi : IntKind.i64.wrap ((i : Int) + 1) = (i : Int) + 1 := IntWalk.i64_in _ (by omega)
      have t1 : decide ((i : Int) < (n : Int)) = true := decide_eq_true (by omega)
      have t2 : decide (i < n) = true := decide_eq_true hlt
      have ti : (i : Int) < (n : Int) := by omega
      clear hy hc
      by_cases e : y = id
      · subst e
        have t3 : ((y : Int) == (y : Int)) = true := by simp
        go_wp2_with fail
        go_ret
        refine ⟨?_, rfl⟩
        rw [decide_eq_true (List.mem_of_getElem? HY.out)]
        rfl
      · have t3 : ((y : Int) == (id : Int)) = false := by rw [beq_eq_false_iff_ne]; omega
        have HNE : Hid (∀ j, j < i + 1 → l[j]? ≠ some id) := fun j hj => by
          by_cases c : j = i
          · rw [c, HY.out]; intro q; injection q with q; exact e q
          · exact HI.out j (by omega)
        clear e
        go_wp2_with fail
        go_round
        case rel => exact ⟨i + 1, HII.out, by go_num, HNE⟩
        case measure => have := HII.out; simp [intOf]; omega
    · have t1 : decide ((i : Int) < (n : Int)) = false := decide_eq_false (by omega)
      have t2 : decide (i < n) = false := decide_eq_false hlt
      have hin : i = n := by omega
      subst hin
      go_wp2_with fail
      go_ret
      refine ⟨?_, rfl⟩
      rw [show decide (id ∈ l) = false from decide_eq_false ?_]
      rfl
      intro hm
      obtain ⟨k, hk⟩ := List.getElem?_of_mem hm
      have := (List.getElem?_eq_some_iff.1 hk).1
      exact HI.out k (by rw [HN.out] at this; exact this) hk
end Go.Proofs.YtlooaipipmiijaaGreat

namespace Go.Proofs.YtlooaipipmiijaaGreat
set_option linter.unusedVariables false
set_option linter.unusedSimpArgs false
open Go.RowKit
theorem fold_len : ∀ (l : List Rcd) (o : List Nat), (l.foldl addR o).length ≤ o.length + 2 * l.length
  | [], o => by simp
  | r :: l, o => by
    have ih := fold_len l (addR o r)
    have h1 := len_addI o r.u
    have h2 := len_addI (addI o r.u) r.v
    have e : (addR o r).length = (addI (addI o r.u) r.v).length := rfl
    have h3 : (if r.u ∈ o then 0 else 1) ≤ 1 := by split <;> omega
    have h4 : (if r.v ∈ addI o r.u then 0 else 1) ≤ 1 := by split <;> omega
    rw [List.foldl_cons, List.length_cons]
    omega
theorem ids_len (l : List Rcd) : (idsL l).length ≤ 2 * l.length := by have := fold_len l []; unfold idsL; simpa using this
theorem Tryz.infoU64S : (Tryz.prog.info? 25).map (fun i => (i.zero, i.size, i.bytes)) = some (some (.int .u64 0), 1, 8) := by kernel_rfl
theorem idV_one (x : Nat) : ∀ v ∈ [Value.int .u64 (x : Int)], v.oneCell' = true := by
  intro v hv
  rw [List.mem_singleton] at hv
  rw [hv]; rfl
structure IdB (w : World) (v : Value) (o : List Nat) (W : World) : Prop where
  own : W.ownsRow 0 25 1 v o.length (idV o)
  new : ∀ q, v.ownBlock = some q → w.heap.size ≤ q
  bel : Below w.heap.size w W
theorem IdB.nil (w : World) : IdB w (.slice none 0 0) [] w := ⟨World.ownsRow_nil _ _ _ _, fun q e => by simp [Value.ownBlock] at e, Below.refl _ _⟩
theorem IdB.app {w W w5 : World} {ao ao2 : Option Addr} {cp cp2 : Nat} {o : List Nat} {x : Nat} {T : TypeId} (h : IdB w (.slice ao o.length cp) o W) (ho : w5.ownsRow 0 25 1 (.slice ao2 (o.length + 1) cp2) (o.length + 1) (idV o ++ [.int .u64 (x : Int)])) (hg : (W.alloc (.cells #[.int .u64 (x : Int)] T)).grownBy w5 (Value.slice ao o.length cp).ownBlock) (hk : ∀ k, (Value.slice ao2 (o.length + 1) cp2).ownBlock = some k → (Value.slice ao o.length cp).ownBlock = some k ∨ (W.alloc (.cells #[.int .u64 (x : Int)] T)).heap.size ≤ k) : IdB w (.slice ao2 (o ++ [x]).length cp2) (o ++ [x]) w5 := by
  have e1 : (o ++ [x]).length = o.length + 1 := by simp
  have hs := h.bel.size
  refine ⟨?_, fun q e => ?_, ?_⟩
  · rw [e1, idV_snoc]; exact ho
  · rw [e1] at e
    rcases hk q e with c | c
    · exact h.new q c
    · rw [World.alloc, Array.size_push] at c
      omega
  · exact (h.bel.alloc hs (.cells #[.int .u64 (x : Int)] T)).grown hg (by rw [World.alloc, Array.size_push]; omega) fun q e => h.new q e
theorem IdB.slice {w W : World} {v : Value} {o : List Nat} (h : IdB w v o W) : ∃ ao cp, v = .slice ao o.length cp := by
  rcases h.own.2 with ⟨rfl, h0⟩ | ⟨g, cap, cur, rfl, _⟩
  · exact ⟨none, 0, by rw [h0]⟩
  · exact ⟨_, _, rfl⟩
set_option maxHeartbeats 4000000 in
set_option maxRecDepth 100000 in
theorem tp_ids (w : World) (v : Value) (l : List Rcd) (ho : w.ownsRow 0 33 4 v l.length (rcV l)) (hl : l.length ≤ 1000) (hb : ∀ r ∈ l, r.u < 18446744073709551616 ∧ r.v < 18446744073709551616) :
    Calls Tryz.prog 15 #[v] w (fun e w' => ∃ v', e = .returned v' ∧ IdB w v' (idsL l) w') := by
  obtain ⟨ao, cp, rfl⟩ := owns_slice ho
  have HO := Lib.hid ho
  have HIL : Hid (∀ k, (idsL (l.take k)).length ≤ 2 * l.length) := fun k => by have := ids_len (l.take k); rw [List.length_take] at this; omega
  generalize hn : l.length = n at *
  have HN := Lib.hid hn
  clear hn ho
  have HKN : Hid (∀ W v o id, IdB w v o W → o.length ≤ 65536 → Calls Tryz.prog 34 #[v, .int .u64 ((id : Nat) : Int)] W (Ret (.bool (decide (id ∈ o))) W)) := fun W v o id h h2 => tp_known W v o id h.own h2
  go_enter Tryz.func15, Tryz.ntmps15
  go_wp2_with fail
  go_loopw [3, 4] (fun s3 s4 wr => ∃ k : Nat, k ≤ n ∧ s4 = .int .i64 (k : Int) ∧ IdB w s3 (idsL (l.take k)) wr) (fun _ s4 _ => n - (intOf s4).toNat)
  case atStart => exact ⟨0, Nat.zero_le _, rfl, IdB.nil w⟩
  case round =>
    obtain ⟨k, hk, rfl, hid⟩ := hrel
    have HID := Lib.hid hid
    obtain ⟨ao3, cp3, rfl⟩ := hid.slice
    clear hid
    by_cases hlt : k < n
    · have t1 : decide ((k : Int) < (n : Int)) = true := decide_eq_true (by omega)
      have t2 : decide (k < n) = true := decide_eq_true hlt
      have hwk : IntKind.i64.wrap ((k : Int) + 1) = (k : Int) + 1 := IntWalk.i64_in _ (by omega)
      obtain ⟨r, hr⟩ : ∃ r, l[k]? = some r := ⟨l[k]'(by rw [HN.out]; exact hlt), List.getElem?_eq_getElem (by rw [HN.out]; exact hlt)⟩
      have HTK : Hid (idsL (l.take (k + 1)) = addI (addI (idsL (l.take k)) r.u) r.v) := by
        show _ = _
        rw [List.take_add_one, hr]
        exact idsL_snoc _ _
      obtain ⟨gb, cap, hv, _, _, hg, hc, _⟩ := owns_form HO.out (by omega)
      injection hv with q1 _ q3
      subst q1 q3
      have HC : Hid (∀ W, Below w.heap.size w W → W.cell? ⟨gb, k * 4, none⟩ = some (.int .u64 (r.u : Int)) ∧ W.cell? ⟨gb, k * 4 + 1, none⟩ = some (.int .u64 (r.v : Int))) := fun W hb => by
        rw [hb.cell (p := ⟨gb, k * 4, none⟩) hg, hb.cell (p := ⟨gb, k * 4 + 1, none⟩) hg, hc (k * 4) (by omega), hc (k * 4 + 1) (by omega), rcV_get hr (j := 1) (by omega)]
        have := rcV_get hr (j := 0) (by omega)
        rw [Nat.add_zero] at this
        exact ⟨this, rfl⟩
      have ti2 : (k : Int) < (n : Int) := by omega
      have HKL := Lib.hid hlt
      have HLL : Hid ((idsL (l.take k)).length ≤ 2000) := by show _ ≤ _; have := HIL.out k; omega
      generalize hoo : idsL (l.take k) = o at *
      clear hc hg hr hlt hoo
      obtain ⟨u, HU⟩ : ∃ u, Hid (r.u = u) := ⟨_, rfl⟩
      obtain ⟨y, HY⟩ : ∃ y, Hid (r.v = y) := ⟨_, rfl⟩
      rw [HU.out, HY.out] at HTK
      rw [HU.out, HY.out] at HC
      have cu := (HC.out wr HID.out.bel).1
      have cv := (HC.out wr HID.out.bel).2
      obtain ⟨m, HLE⟩ : ∃ m, Hid (o.length = m) := ⟨_, rfl⟩
      have HIDF := Lib.hid HID.out
      rw [HLE.out] at HID
      have hm : m ≤ 2000 := by rw [← HLE.out]; exact HLL.out
      rw [HLE.out]
      by_cases h1 : u ∈ o
      · have k1 : decide (u ∈ o) = true := decide_eq_true h1
        have HA1 : Hid (addI o u = o) := if_pos h1
        rw [HA1.out] at HTK
        clear h1
        have HKW := HKN.out wr _ o u HIDF.out (by have := HLL.out; omega)
        rw [k1, HLE.out] at HKW
        by_cases h2 : y ∈ o
        · have k2 : decide (y ∈ o) = true := decide_eq_true h2
          have HA2 : Hid (addI o y = o) := if_pos h2
          rw [HA2.out] at HTK
          clear h2
          have HKW2 := HKN.out wr _ o y HIDF.out (by have := HLL.out; omega)
          rw [k2, HLE.out] at HKW2
          go_wp2_with (first | (go_at_call 34; with_reducible refine HKW.mono ?_; rintro e w' ⟨rfl, rfl⟩) | (go_at_call 34; with_reducible refine HKW2.mono ?_; rintro e w' ⟨rfl, rfl⟩) | (at_builtin; apply keepIt2))
          go_roundw
          case rel => exact ⟨k + 1, HKL.out, rfl, by rw [HTK.out]; exact (HLE.out ▸ HIDF.out)⟩
          case measure => have := HKL.out; simp [intOf]; omega
        · have k2 : decide (y ∈ o) = false := decide_eq_false h2
          have HA2 : Hid (addI o y = o ++ [y]) := if_neg h2
          rw [HA2.out] at HTK
          clear h2
          have HKW2 := HKN.out wr _ o y HIDF.out (by have := HLL.out; omega)
          rw [k2, HLE.out] at HKW2
          have HOW : Hid ((wr.alloc (.cells #[.int .u64 (y : Int)] 25)).ownsRow 0 25 1 (.slice ao3 m cp3) m (idV o)) := by
            have := HIDF.out.own.alloc (.cells #[.int .u64 (y : Int)] 25)
            rwa [HLE.out] at this
          have HNS := Lib.hid (news_new wr 25 [.int .u64 (y : Int)])
          generalize hrows : idV o = rows at *
          have HROWS := Lib.hid hrows
          clear hrows
          go_wp2_with (first | (go_at_call 34; with_reducible refine HKW.mono ?_; rintro e w' ⟨rfl, rfl⟩) | (go_at_call 34; with_reducible refine HKW2.mono ?_; rintro e w' ⟨rfl, rfl⟩) | (at_builtin; apply keepIt2))
          apply Lib.hid
          refine (wpList_appendB 25 (.int .u64 0) 1 8 Tryz.underlying47 Tryz.infoU64S rfl (by decide) (.slice ao3 m cp3) m rows rfl HOW.out ⟨wr.heap.size, 0, none⟩ 1 1 [.int .u64 (y : Int)] rfl rfl HNS.out (idV_one y) (by unfold maxLen; omega) (by omega) ?_)
          intro v' w6 ho hg hkk
          obtain ⟨ao4, cp4, rfl⟩ := owns_slice ho
          have HI4 : Hid (IdB w (.slice ao4 (o ++ [y]).length cp4) (o ++ [y]) w6) := by
            refine HIDF.out.app (T := 25) ?_ ?_ ?_
            · rw [HLE.out, HROWS.out]; exact ho
            · rw [HLE.out]; exact hg
            · rw [HLE.out]; exact hkk
          have HL4 : Hid ((o ++ [y]).length = m + 1) := by show _ = _; rw [List.length_append, HLE.out]; rfl
          rw [HL4.out] at HI4
          clear ho hg hkk HOW HNS
          go_wp2_with fail
          go_roundw
          case rel => exact ⟨k + 1, HKL.out, rfl, by rw [HTK.out]; exact HI4.out⟩
          case measure => have := HKL.out; simp [intOf]; omega
      · have k1 : decide (u ∈ o) = false := decide_eq_false h1
        have HA1 : Hid (addI o u = o ++ [u]) := if_neg h1
        rw [HA1.out] at HTK
        clear h1
        have HKW := HKN.out wr _ o u HIDF.out (by have := HLL.out; omega)
        rw [k1, HLE.out] at HKW
        have HOW : Hid ((wr.alloc (.cells #[.int .u64 (u : Int)] 25)).ownsRow 0 25 1 (.slice ao3 m cp3) m (idV o)) := by
          have := HIDF.out.own.alloc (.cells #[.int .u64 (u : Int)] 25)
          rwa [HLE.out] at this
        have HNS := Lib.hid (news_new wr 25 [.int .u64 (u : Int)])
        generalize hrows : idV o = rows at *
        have HROWS := Lib.hid hrows
        clear hrows
        go_wp2_with (first | (go_at_call 34; with_reducible refine HKW.mono ?_; rintro e w' ⟨rfl, rfl⟩) | (at_builtin; apply keepIt2))
        apply Lib.hid
        refine (wpList_appendB 25 (.int .u64 0) 1 8 Tryz.underlying47 Tryz.infoU64S rfl (by decide) (.slice ao3 m cp3) m rows rfl HOW.out ⟨wr.heap.size, 0, none⟩ 1 1 [.int .u64 (u : Int)] rfl rfl HNS.out (idV_one u) (by unfold maxLen; omega) (by omega) ?_)
        intro v' w5 ho hg hkk
        obtain ⟨ao2, cp2, rfl⟩ := owns_slice ho
        have HI2F : Hid (IdB w (.slice ao2 (o ++ [u]).length cp2) (o ++ [u]) w5) := by
          refine HIDF.out.app (T := 25) ?_ ?_ ?_
          · rw [HLE.out, HROWS.out]; exact ho
          · rw [HLE.out]; exact hg
          · rw [HLE.out]; exact hkk
        have HLE2 : Hid ((o ++ [u]).length = m + 1) := by show _ = _; rw [List.length_append, HLE.out]; rfl
        clear ho hg hkk HOW HNS HKW cu cv HROWS HLE
        have HLE := Lib.hid HLE2.out
        clear HLE2
        have hm1 : m + 1 ≤ 2001 := by omega
        generalize o ++ [u] = o2 at *
        have HI2 := Lib.hid HI2F.out
        rw [HLE.out] at HI2
        have cv := (HC.out w5 HI2.out.bel).2
        by_cases h2 : y ∈ o2
        · have k2 : decide (y ∈ o2) = true := decide_eq_true h2
          have HA2 : Hid (addI o2 y = o2) := if_pos h2
          rw [HA2.out] at HTK
          clear h2
          have HKW2 := HKN.out w5 _ o2 y HI2F.out (by rw [HLE.out]; omega)
          rw [k2, HLE.out] at HKW2
          go_wp2_with (first | (go_at_call 34; with_reducible refine HKW2.mono ?_; rintro e w' ⟨rfl, rfl⟩) | (at_builtin; apply keepIt2))
          go_roundw
          case rel => exact ⟨k + 1, HKL.out, rfl, by rw [HTK.out]; exact (HLE.out ▸ HI2F.out)⟩
          case measure => have := HKL.out; simp [intOf]; omega
        · have k2 : decide (y ∈ o2) = false := decide_eq_false h2
          have HA2 : Hid (addI o2 y = o2 ++ [y]) := if_neg h2
          rw [HA2.out] at HTK
          clear h2
          have HKW2 := HKN.out w5 _ o2 y HI2F.out (by rw [HLE.out]; omega)
          rw [k2, HLE.out] at HKW2
          have HOW : Hid ((w5.alloc (.cells #[.int .u64 (y : Int)] 25)).ownsRow 0 25 1 (.slice ao2 (m + 1) cp2) (m + 1) (idV o2)) := by
            have := HI2F.out.own.alloc (.cells #[.int .u64 (y : Int)] 25)
            rwa [HLE.out] at this
          have HNS := Lib.hid (news_new w5 25 [.int .u64 (y : Int)])
          generalize hrows : idV o2 = rows at *
          have HROWS := Lib.hid hrows
          clear hrows
          go_wp2_with (first | (go_at_call 34; with_reducible refine HKW2.mono ?_; rintro e w' ⟨rfl, rfl⟩) | (at_builtin; apply keepIt2))
          apply Lib.hid
          refine (wpList_appendB 25 (.int .u64 0) 1 8 Tryz.underlying47 Tryz.infoU64S rfl (by decide) (.slice ao2 (m + 1) cp2) (m + 1) rows rfl HOW.out ⟨w5.heap.size, 0, none⟩ 1 1 [.int .u64 (y : Int)] rfl rfl HNS.out (idV_one y) (by unfold maxLen; omega) (by omega) ?_)
          intro v' w6 ho hg hkk
          obtain ⟨ao4, cp4, rfl⟩ := owns_slice ho
          have HI4 : Hid (IdB w (.slice ao4 (o2 ++ [y]).length cp4) (o2 ++ [y]) w6) := by
            refine HI2F.out.app (T := 25) ?_ ?_ ?_
            · rw [HLE.out, HROWS.out]; exact ho
            · rw [HLE.out]; exact hg
            · rw [HLE.out]; exact hkk
          have HL4 : Hid ((o2 ++ [y]).length = (m + 1) + 1) := by show _ = _; rw [List.length_append, HLE.out]; rfl
          rw [HL4.out] at HI4
          clear ho hg hkk HOW HNS
          go_wp2_with fail
          go_roundw
          case rel => exact ⟨k + 1, HKL.out, rfl, by rw [HTK.out]; exact HI4.out⟩
          case measure => have := HKL.out; simp [intOf]; omega
    · have t1 : decide ((k : Int) < (n : Int)) = false := decide_eq_false (by omega)
      have t2 : decide (k < n) = false := decide_eq_false hlt
      have hkn : k = n := by omega
      subst hkn
      have HE : Hid (l.take k = l) := by show _ = _; rw [← HN.out]; exact List.take_length
      rw [HE.out] at HID
      rw [HE.out]
      go_wp2_with fail
      go_ret
      exact ⟨_, rfl, HID.out⟩
end Go.Proofs.YtlooaipipmiijaaGreat

namespace Go.Proofs.YtlooaipipmiijaaGreat
set_option linter.unusedVariables false
set_option linter.unusedSimpArgs false
open Go.RowKit
theorem owns_new (w : World) (T : TypeId) (size n : Nat) (cs : List Value) (h : cs.length = n * size) (hn : n ≤ maxLen) : (w.alloc (.cells cs.toArray T)).ownsRow 0 T size (.slice (some ⟨w.heap.size, 0, none⟩) n n) n cs := by
  refine ⟨h, .inr ⟨w.heap.size, n, cs.toArray, rfl, Nat.zero_le _, ?_, Nat.le_refl _, hn, ?_, ?_⟩⟩
  · exact Blk.new w T cs
  · simp [h]
  · simp only [List.toList_toArray]
    exact List.take_of_length_le (by omega)
theorem rch_bound {l : List Rcd} {x : Nat} {o : List Nat} (hn : o.Nodup) (h : ∀ y, y ∈ o → y = x ∨ y ∈ idsL l) : o.length ≤ 2 * l.length + 1 := by
  have h1 : o.length ≤ (x :: idsL l).length := List.Nodup.length_le_of_subset hn fun y hy => by
    rcases h y hy with e | e
    · rw [e]; exact List.mem_cons_self
    · exact List.mem_cons_of_mem _ e
  have := ids_len l
  rw [List.length_cons] at h1
  omega
theorem pas_bound {l : List Rcd} {x : Nat} {t : Int} (k i : Nat) : (pasL (l.take i) t (itN (pasL l t) k [x])).length ≤ 2 * l.length + 1 := by
  refine rch_bound (x := x) (pas_nodup _ _ (it_nodup k)) fun y hy => ?_
  have := pas_rch (L := l) (l.take i) _ (fun r hr => List.mem_of_mem_take hr) (it_rch k) y hy
  rcases rch_ids this with e | e
  · exact .inl e.symm
  · exact .inr e.2
theorem idB_new (w : World) (x : Nat) : IdB w (.slice (some ⟨w.heap.size, 0, none⟩) 1 1) [x] (w.alloc (.cells #[.int .u64 (x : Int)] 25)) :=
  ⟨owns_new w 25 1 1 [.int .u64 (x : Int)] rfl (by decide), fun q e => by simp [Value.ownBlock] at e; omega, bel_alloc w _⟩
set_option maxHeartbeats 4000000 in
set_option maxRecDepth 100000 in
theorem tp_reach (w : World) (v : Value) (l : List Rcd) (x : Nat) (t : Int) (ho : w.ownsRow 0 33 4 v l.length (rcV l)) (hl : l.length ≤ 1000) :
    Calls Tryz.prog 36 #[v, .int .u64 (x : Int), .int .i64 t] w (fun e w' => ∃ v', e = .returned v' ∧ IdB w v' (rchL l x t) w') := by
  obtain ⟨ao, cp, rfl⟩ := owns_slice ho
  have HO := Lib.hid ho
  have HIL : Hid (∀ k i, (pasL (l.take i) t (itN (pasL l t) k [x])).length ≤ 2001) := fun k i => by have := pas_bound (l := l) (x := x) (t := t) k i; omega
  have HRD : Hid (itN (pasL l t) l.length [x] = rchL l x t) := rfl
  generalize hn : l.length = n at *
  have HN := Lib.hid hn
  clear hn ho
  have HKN : Hid (∀ W v o id, IdB w v o W → o.length ≤ 65536 → Calls Tryz.prog 34 #[v, .int .u64 ((id : Nat) : Int)] W (Ret (.bool (decide (id ∈ o))) W)) := fun W v o id h h2 => tp_known W v o id h.own h2
  have HNEW := Lib.hid (idB_new w x)
  go_enter Tryz.func36, Tryz.ntmps36
  go_wp2_with fail
  go_loopw [7, 8] (fun s7 s8 wr => ∃ k : Nat, k ≤ n ∧ s8 = .int .i64 (k : Int) ∧ IdB w s7 (itN (pasL l t) k [x]) wr) (fun _ s8 _ => n - (intOf s8).toNat)
  case atStart => exact ⟨0, Nat.zero_le _, rfl, HNEW.out⟩
  case round =>
    obtain ⟨k, hk, rfl, hid⟩ := hrel
    have HID0 := Lib.hid hid
    obtain ⟨ao7, cp7, hv7⟩ := hid.slice
    clear hid
    by_cases hlt : k < n
    · have t1 : decide ((k : Int) < (n : Int)) = true := decide_eq_true (by omega)
      have t2 : decide (k < n) = true := decide_eq_true hlt
      have hwk : IntKind.i64.wrap ((k : Int) + 1) = (k : Int) + 1 := IntWalk.i64_in _ (by omega)
      have HKL := Lib.hid hlt
      have hkn1 : k < 1000 := by omega
      clear hlt
      go_wp2_with fail
      go_loopw [7, 9] (fun s7 s9 wz => ∃ i : Nat, i ≤ n ∧ s9 = .int .i64 (i : Int) ∧ IdB w s7 (pasL (l.take i) t (itN (pasL l t) k [x])) wz) (fun _ s9 _ => n - (intOf s9).toNat)
      case atStart => exact ⟨0, Nat.zero_le _, rfl, by rw [List.take_zero]; exact HID0.out⟩
      case round =>
        obtain ⟨i, hi, rfl, hid⟩ := hrel
        clear HID0 hv7
        have HIDF := Lib.hid hid
        obtain ⟨ao3, cp3, rfl⟩ := hid.slice
        clear hid
        by_cases hli : i < n
        · have t3 : decide ((i : Int) < (n : Int)) = true := decide_eq_true (by omega)
          have t4 : decide (i < n) = true := decide_eq_true hli
          have hwi : IntKind.i64.wrap ((i : Int) + 1) = (i : Int) + 1 := IntWalk.i64_in _ (by omega)
          obtain ⟨r, hr⟩ : ∃ r, l[i]? = some r := ⟨l[i]'(by rw [HN.out]; exact hli), List.getElem?_eq_getElem (by rw [HN.out]; exact hli)⟩
          have HTK : Hid (pasL (l.take (i + 1)) t (itN (pasL l t) k [x]) = stpR t (pasL (l.take i) t (itN (pasL l t) k [x])) r) := by
            show _ = _
            rw [List.take_add_one, hr]
            unfold pasL
            rw [List.foldl_append]; rfl
          obtain ⟨gb, cap, hv, _, _, hg, hc, _⟩ := owns_form HO.out (by omega)
          injection hv with q1 _ q3
          subst q1 q3
          have HC : Hid (wr.cell? ⟨gb, i * 4, none⟩ = some (.int .u64 (r.u : Int)) ∧ wr.cell? ⟨gb, i * 4 + 1, none⟩ = some (.int .u64 (r.v : Int)) ∧ wr.cell? ⟨gb, i * 4 + 3, none⟩ = some (.int .i64 r.t)) := by
            have hb := HIDF.out.bel
            show _ ∧ _ ∧ _
            rw [hb.cell (p := ⟨gb, i * 4, none⟩) hg, hb.cell (p := ⟨gb, i * 4 + 1, none⟩) hg, hb.cell (p := ⟨gb, i * 4 + 3, none⟩) hg, hc (i * 4) (by omega), hc (i * 4 + 1) (by omega), hc (i * 4 + 3) (by omega), rcV_get hr (j := 1) (by omega), rcV_get hr (j := 3) (by omega)]
            have := rcV_get hr (j := 0) (by omega)
            rw [Nat.add_zero] at this
            exact ⟨this, rfl, rfl⟩
          have ti2 : (i : Int) < (n : Int) := by omega
          have HIL2 := Lib.hid hli
          have HLL : Hid ((pasL (l.take i) t (itN (pasL l t) k [x])).length ≤ 2001) := HIL.out k i
          generalize hoo : pasL (l.take i) t (itN (pasL l t) k [x]) = o at *
          clear hc hg hr hli hoo
          obtain ⟨u, HU⟩ : ∃ u, Hid (r.u = u) := ⟨_, rfl⟩
          obtain ⟨y, HY⟩ : ∃ y, Hid (r.v = y) := ⟨_, rfl⟩
          obtain ⟨rt, HRT⟩ : ∃ rt, Hid (r.t = rt) := ⟨_, rfl⟩
          have HST : Hid (stpR t o r = if rt < t then o else if u ∈ o ∧ y ∉ o then o ++ [y] else if y ∈ o ∧ u ∉ o then o ++ [u] else o) := by
            show _ = _
            unfold stpR
            rw [HU.out, HY.out, HRT.out]
          rw [HST.out] at HTK
          clear HST
          rw [HU.out, HY.out, HRT.out] at HC
          obtain ⟨cu, cv, ct⟩ := HC.out
          obtain ⟨m, HLE⟩ : ∃ m, Hid (o.length = m) := ⟨_, rfl⟩
          have HID := Lib.hid HIDF.out
          rw [HLE.out] at HID
          have hm : m ≤ 2001 := by rw [← HLE.out]; exact HLL.out
          rw [HLE.out]
          by_cases h0 : rt < t
          · have t5 : decide (rt < t) = true := decide_eq_true h0
            rw [if_pos h0] at HTK
            clear h0
            go_wp2_with fail
            go_roundw
            case rel => exact ⟨i + 1, HIL2.out, rfl, by rw [HTK.out]; exact HID.out⟩
            case measure => have := HIL2.out; simp [intOf]; omega
          · have t5 : decide (rt < t) = false := decide_eq_false h0
            rw [if_neg h0] at HTK
            clear h0
            have HK1 := HKN.out wr _ o u HIDF.out (by have := HLL.out; omega)
            have HK2 := HKN.out wr _ o y HIDF.out (by have := HLL.out; omega)
            rw [HLE.out] at HK1 HK2
            by_cases h1 : u ∈ o
            · by_cases h2 : y ∈ o
              · have k1 : decide (u ∈ o) = true := decide_eq_true h1
                have k2 : decide (y ∈ o) = true := decide_eq_true h2
                rw [k1] at HK1
                rw [k2] at HK2
                rw [if_neg (fun c => c.2 h2), if_neg (fun c => c.2 h1)] at HTK
                clear h1 h2 k1 k2
                go_wp2_with (first | (go_at_call 34; first | (with_reducible refine HK1.mono ?_; rintro e w' ⟨rfl, rfl⟩) | (with_reducible refine HK2.mono ?_; rintro e w' ⟨rfl, rfl⟩)))
                go_roundw
                case rel => exact ⟨i + 1, HIL2.out, rfl, by rw [HTK.out]; exact HID.out⟩
                case measure => have := HIL2.out; simp [intOf]; omega
              · have k1 : decide (u ∈ o) = true := decide_eq_true h1
                have k2 : decide (y ∈ o) = false := decide_eq_false h2
                rw [k1] at HK1
                rw [k2] at HK2
                rw [if_pos ⟨h1, h2⟩] at HTK
                clear h1 h2 k1 k2
                have HOW : Hid ((wr.alloc (.cells #[.int .u64 (y : Int)] 25)).ownsRow 0 25 1 (.slice ao3 m cp3) m (idV o)) := by
                  have := HIDF.out.own.alloc (.cells #[.int .u64 (y : Int)] 25)
                  rwa [HLE.out] at this
                have HNS := Lib.hid (news_new wr 25 [.int .u64 (y : Int)])
                generalize hrows : idV o = rows at *
                have HROWS := Lib.hid hrows
                clear hrows
                go_wp2_with (first | (go_at_call 34; first | (with_reducible refine HK1.mono ?_; rintro e w' ⟨rfl, rfl⟩) | (with_reducible refine HK2.mono ?_; rintro e w' ⟨rfl, rfl⟩)) | (at_builtin; apply keepIt2))
                apply Lib.hid
                refine (wpList_appendB 25 (.int .u64 0) 1 8 Tryz.underlying47 Tryz.infoU64S rfl (by decide) (.slice ao3 m cp3) m rows rfl HOW.out ⟨wr.heap.size, 0, none⟩ 1 1 [.int .u64 (y : Int)] rfl rfl HNS.out (idV_one y) (by unfold maxLen; omega) (by omega) ?_)
                intro v' w5 ho hg hkk
                obtain ⟨ao2, cp2, rfl⟩ := owns_slice ho
                have HI2 : Hid (IdB w (.slice ao2 (o ++ [y]).length cp2) (o ++ [y]) w5) := by
                  refine HIDF.out.app (T := 25) ?_ ?_ ?_
                  · rw [HLE.out, HROWS.out]; exact ho
                  · rw [HLE.out]; exact hg
                  · rw [HLE.out]; exact hkk
                have HLE2 : Hid ((o ++ [y]).length = m + 1) := by show _ = _; rw [List.length_append, HLE.out]; rfl
                rw [HLE2.out] at HI2
                clear ho hg hkk HOW HNS HK1 HK2 cu cv HROWS
                go_wp2_with fail
                go_roundw
                case rel => exact ⟨i + 1, HIL2.out, rfl, by rw [HTK.out]; exact HI2.out⟩
                case measure => have := HIL2.out; simp [intOf]; omega
            · by_cases h2 : y ∈ o
              · have k1 : decide (u ∈ o) = false := decide_eq_false h1
                have k2 : decide (y ∈ o) = true := decide_eq_true h2
                rw [k1] at HK1
                rw [k2] at HK2
                rw [if_neg (fun c => h1 c.1), if_pos ⟨h2, h1⟩] at HTK
                clear h1 h2 k1 k2
                have HOW : Hid ((wr.alloc (.cells #[.int .u64 (u : Int)] 25)).ownsRow 0 25 1 (.slice ao3 m cp3) m (idV o)) := by
                  have := HIDF.out.own.alloc (.cells #[.int .u64 (u : Int)] 25)
                  rwa [HLE.out] at this
                have HNS := Lib.hid (news_new wr 25 [.int .u64 (u : Int)])
                generalize hrows : idV o = rows at *
                have HROWS := Lib.hid hrows
                clear hrows
                go_wp2_with (first | (go_at_call 34; first | (with_reducible refine HK1.mono ?_; rintro e w' ⟨rfl, rfl⟩) | (with_reducible refine HK2.mono ?_; rintro e w' ⟨rfl, rfl⟩)) | (at_builtin; apply keepIt2))
                apply Lib.hid
                refine (wpList_appendB 25 (.int .u64 0) 1 8 Tryz.underlying47 Tryz.infoU64S rfl (by decide) (.slice ao3 m cp3) m rows rfl HOW.out ⟨wr.heap.size, 0, none⟩ 1 1 [.int .u64 (u : Int)] rfl rfl HNS.out (idV_one u) (by unfold maxLen; omega) (by omega) ?_)
                intro v' w5 ho hg hkk
                obtain ⟨ao2, cp2, rfl⟩ := owns_slice ho
                have HI2 : Hid (IdB w (.slice ao2 (o ++ [u]).length cp2) (o ++ [u]) w5) := by
                  refine HIDF.out.app (T := 25) ?_ ?_ ?_
                  · rw [HLE.out, HROWS.out]; exact ho
                  · rw [HLE.out]; exact hg
                  · rw [HLE.out]; exact hkk
                have HLE2 : Hid ((o ++ [u]).length = m + 1) := by show _ = _; rw [List.length_append, HLE.out]; rfl
                rw [HLE2.out] at HI2
                clear ho hg hkk HOW HNS HK1 HK2 cu cv HROWS
                go_wp2_with fail
                go_roundw
                case rel => exact ⟨i + 1, HIL2.out, rfl, by rw [HTK.out]; exact HI2.out⟩
                case measure => have := HIL2.out; simp [intOf]; omega
              · have k1 : decide (u ∈ o) = false := decide_eq_false h1
                have k2 : decide (y ∈ o) = false := decide_eq_false h2
                rw [k1] at HK1
                rw [k2] at HK2
                rw [if_neg (fun c => h1 c.1), if_neg (fun c => h2 c.1)] at HTK
                clear h1 h2 k1 k2
                go_wp2_with (first | (go_at_call 34; first | (with_reducible refine HK1.mono ?_; rintro e w' ⟨rfl, rfl⟩) | (with_reducible refine HK2.mono ?_; rintro e w' ⟨rfl, rfl⟩)))
                go_roundw
                case rel => exact ⟨i + 1, HIL2.out, rfl, by rw [HTK.out]; exact HID.out⟩
                case measure => have := HIL2.out; simp [intOf]; omega
        · have t3 : decide ((i : Int) < (n : Int)) = false := decide_eq_false (by omega)
          have t4 : decide (i < n) = false := decide_eq_false hli
          have hin : i = n := by omega
          have HE : Hid (pasL (l.take i) t (itN (pasL l t) k [x]) = itN (pasL l t) (k + 1) [x]) := by
            show _ = _
            rw [hin, ← HN.out, List.take_length]; rfl
          rw [HE.out] at HIDF
          rw [HE.out]
          clear hin
          go_wp2_with fail
          go_roundw
          case rel => exact ⟨k + 1, HKL.out, rfl, HIDF.out⟩
          case measure => have := HKL.out; simp [intOf]; omega
    · have t1 : decide ((k : Int) < (n : Int)) = false := decide_eq_false (by omega)
      have t2 : decide (k < n) = false := decide_eq_false hlt
      have hkn : k = n := by omega
      rw [hkn, HRD.out] at HID0
      subst hv7
      go_wp2_with fail
      go_ret
      exact ⟨_, by rw [hkn, HRD.out]; rfl, HID0.out⟩
end Go.Proofs.YtlooaipipmiijaaGreat
