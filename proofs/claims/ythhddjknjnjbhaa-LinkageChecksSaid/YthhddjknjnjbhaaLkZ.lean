/- The reference of layer 23: Run. -/
import Derived.Test.YthhddjknjnjbhaaLkY
import Derived.Test.YthhddjknjnjbhaaLkRf
namespace Go.Proofs.Ythhddjknjnjbhaa
set_option linter.unusedVariables false
set_option linter.unusedSimpArgs false
open Go.RowKit

def ints (l : List Nat) : List Int := l.map fun x : Nat => (x : Int)

theorem toN_ints (l : List Nat) : toN (ints l) = l := by
  unfold toN ints
  rw [List.map_map]
  have : (Int.toNat ∘ fun x : Nat => (x : Int)) = id := by funext x; simp
  rw [this, List.map_id]

theorem ints_len (l : List Nat) : (ints l).length = l.length := by simp [ints]

/-- The reference's clusters in memory. -/
structure RCl (w W : World) (v9 v11 : Value) (L : List (List Nat)) (vals : List Value) : Prop where
  len : vals.length = L.length
  outer : W.ownsRow 0 36 1 v9 L.length vals
  inner : ∀ i, i < L.length → ∃ g c, vals[i]? = some (.slice (some ⟨g, 0, none⟩) (L.getD i []).length c) ∧ InRow .i64 W (some ⟨g, 0, none⟩) (L.getD i []).length g 0 (ints (L.getD i [])) ∧ v9.ownBlock ≠ some g ∧ v11.ownBlock ≠ some g ∧ w.heap.size ≤ g ∧ g < W.heap.size
  new : ∀ x, v9.ownBlock = some x → w.heap.size ≤ x

theorem RCl.below {w W W' : World} {v9 v11 : Value} {L : List (List Nat)} {vals : List Value} (h : RCl w W v9 v11 L vals) (hb : Below W.heap.size W W') : RCl w W' v9 v11 L vals :=
  ⟨h.len, owns_mod h.outer (Mod.of_below (F := fun _ => False) hb) (fun _ _ h => h), fun i hi => by
    obtain ⟨g, c, h1, h2, h3, h4, h5, h6⟩ := h.inner i hi
    exact ⟨g, c, h1, h2.below hb, h3, h4, h5, Nat.lt_of_lt_of_le h6 hb.size⟩, h.new⟩

theorem Try.infoSlI : (Try.prog.info? 36).map (fun i => (i.zero, i.size, i.bytes)) = some (some (.slice none 0 0), 1, 24) := by kernel_rfl

theorem lv_start (n : Nat) : lv ((List.range n).map fun i => [i]) = (List.range n).map fun i => [i] := by
  unfold lv
  apply List.filter_eq_self.2
  intro l hl
  obtain ⟨i, _, rfl⟩ := List.mem_map.1 hl
  rfl

def singles (k : Nat) : List (List Nat) := (List.range k).map fun i => [i]

theorem singles_len (k : Nat) : (singles k).length = k := by simp [singles]
theorem singles_get {k i : Nat} (h : i < k) : (singles k).getD i [] = [i] := by
  unfold singles; rw [List.getD_eq_getElem?_getD, List.getElem?_map, List.getElem?_range h]; rfl

/-- One point more. -/
theorem RCl.push {w W : World} {v9 : Value} {k : Nat} {vals : List Value} (h : RCl w W v9 (.slice none 0 0) (singles k) vals) (hbs : w.heap.size ≤ W.heap.size) {v' : Value} {w2 : World}
    (ho : w2.ownsRow 0 36 1 v' (k + 1) (vals ++ [.slice (some ⟨W.heap.size, 0, none⟩) 1 1]))
    (hg : ((W.alloc (.cells #[.int .i64 k] 3)).alloc (.cells #[.slice (some ⟨W.heap.size, 0, none⟩) 1 1] 36)).grownBy w2 v9.ownBlock)
    (hn : ∀ x, v'.ownBlock = some x → v9.ownBlock = some x ∨ ((W.alloc (.cells #[.int .i64 k] 3)).alloc (.cells #[.slice (some ⟨W.heap.size, 0, none⟩) 1 1] 36)).heap.size ≤ x) :
    RCl w w2 v' (.slice none 0 0) (singles (k + 1)) (vals ++ [.slice (some ⟨W.heap.size, 0, none⟩) 1 1]) := by
  have hal : Below W.heap.size W ((W.alloc (.cells #[.int .i64 k] 3)).alloc (.cells #[.slice (some ⟨W.heap.size, 0, none⟩) 1 1] 36)) := ((Below.refl _ _).alloc (Nat.le_refl _) _).alloc (by simp) _
  have hsz : ((W.alloc (.cells #[.int .i64 k] 3)).alloc (.cells #[.slice (some ⟨W.heap.size, 0, none⟩) 1 1] 36)).heap.size = W.heap.size + 2 := by simp
  have hm : Mod (fun x => v9.ownBlock = some x) W w2 := (Mod.of_below hal).grown hg (fun x e _ => e)
  have hv : ∀ x, v9.ownBlock = some x → x < W.heap.size := fun x hx => (h.outer.lt x hx).2
  have hlen := h.len
  rw [singles_len] at hlen
  refine ⟨by simp [hlen, singles_len], by rw [singles_len]; exact ho, fun i hi => ?_, fun x hx => ?_⟩
  · rw [singles_len] at hi
    by_cases hik : i < k
    · obtain ⟨g, c, h1, h2, h3, h4, h5, h6⟩ := h.inner i (by rw [singles_len]; exact hik)
      rw [singles_get hik] at h1 h2
      rw [singles_get hi]
      refine ⟨g, c, by rw [List.getElem?_append_left (by omega)]; exact h1, h2.mod hm (fun _ e => h3 e), fun e => ?_, (fun e => by cases e), h5, Nat.lt_of_lt_of_le h6 hm.size⟩
      rcases hn g e with e' | e'
      · exact h3 e'
      · omega
    · obtain rfl : i = k := by omega
      rw [singles_get (by omega)]
      refine ⟨W.heap.size, 1, by rw [List.getElem?_append_right (by omega), hlen, Nat.sub_self]; rfl, ?_, fun e => ?_, (fun e => by cases e), hbs, ?_⟩
      · have hb : Blk (W.alloc (.cells #[.int .i64 i] 3)) W.heap.size 3 [.int .i64 i] := Blk.new W _ _
        have hb2 : Blk w2 W.heap.size 3 [.int .i64 i] := by
          have h2 := hb.alloc (.cells #[.slice (some ⟨W.heap.size, 0, none⟩) 1 1] 36)
          have hm2 : Mod (fun x => v9.ownBlock = some x) _ w2 := (Mod.refl (fun x => v9.ownBlock = some x) _).grown hg (fun x e _ => e)
          exact h2.mod hm2 (fun e => by have := hv _ e; omega)
        exact InRow.of_blk (z := [(i : Int)]) hb2
      · rcases hn _ e with e' | e'
        · have := hv _ e'; omega
        · omega
      · have := hg.size; omega
  · rcases hn x hx with e | e
    · exact h.new x e
    · omega

def lenW : Value → Nat
  | .slice _ n _ => n
  | _ => 0

/-- What holds between two rounds of the reference's Run. -/
structure RR (w : World) (n : Nat) (m : Int) (d : List Int) (q : Nat) (v9 v11 : Value) (vals : List Value) (W : World) : Prop where
  cl : RCl w W v9 v11 (lv (clS n m d q)) vals
  out : W.ownsRow 0 47 5 v11 q ((runS n m d q).ms.flatMap Mg.cells)
  dis : ∀ x, v11.ownBlock = some x → v9.ownBlock ≠ some x ∧ w.heap.size ≤ x
  bel : Below w.heap.size w W

/-- The numbers of the search. -/
def RB (s : Bs) : Prop := s.a < 0 ∨ (0 ≤ s.n ∧ s.n ≤ 215504279044096 ∧ 0 < s.d ∧ s.d ≤ 196)

theorem RB.upd {s : Bs} (h : RB s) (a b : Nat) {f : Int × Int} (hf : 0 ≤ f.1 ∧ f.1 ≤ 215504279044096 ∧ 0 < f.2 ∧ f.2 ≤ 196) : RB (s.upd a b f) := by
  unfold Bs.upd
  split
  · exact .inr hf
  · exact h

theorem distR_lim {n : Nat} {m : Int} {d : List Int} (hd : DOk n d) {A B : List Nat} (hA : 0 < A.length ∧ A.length ≤ 14) (hB : 0 < B.length ∧ B.length ≤ 14) :
    0 ≤ (distR m n d A B).1 ∧ (distR m n d A B).1 ≤ 215504279044096 ∧ 0 < (distR m n d A B).2 ∧ (distR m n d A B).2 ≤ 196 := by
  have hp : A.length * B.length ≤ 14 * 14 := Nat.mul_le_mul hA.2 hB.2
  have hp0 : 0 < A.length * B.length := Nat.mul_pos hA.1 hB.1
  have hg : ∀ m', 0 ≤ gap m' n d A B ∧ gap m' n d A B ≤ 215504279044096 := fun m' => by
    have h := gap_bounds (m := m') (M := 1099511627776) (by omega) hd.lim A B
    generalize A.length * B.length = p at *
    omega
  unfold distR
  split
  · have h3 := hg 3
    generalize A.length * B.length = p at *
    obtain ⟨e1, e2, e3, e4, e5⟩ := low_mul (x := gap 3 n d A B) (y := (p : Int)) h3.1 (by omega)
    generalize (Nat.gcd (gap 3 n d A B).toNat (p : Int).toNat : Int) = g at *
    have l1 : 1 * lowN (gap 3 n d A B) p ≤ g * lowN (gap 3 n d A B) p := Int.mul_le_mul_of_nonneg_right (by omega) e4
    have l2 : 1 * lowD (gap 3 n d A B) p ≤ g * lowD (gap 3 n d A B) p := Int.mul_le_mul_of_nonneg_right (by omega) (Int.le_of_lt e5)
    rw [Int.one_mul] at l1 l2
    rw [← e1] at l1
    rw [← e2] at l2
    exact ⟨e4, by omega, e5, by omega⟩
  · have := hg m
    exact ⟨this.1, this.2, by omega, by omega⟩

theorem lv_mem {cl : List (List Nat)} {i : Nat} (h : i < (lv cl).length) : (lv cl).getD i [] ≠ [] ∧ ((lv cl).getD i []).length ≤ cl.flatten.length ∧ ∀ x ∈ (lv cl).getD i [], x ∈ cl.flatten := by
  have e : (lv cl).getD i [] = (lv cl)[i] := by rw [List.getD_eq_getElem?_getD, List.getElem?_eq_getElem h]; rfl
  have hm : (lv cl).getD i [] ∈ lv cl := by rw [e]; exact List.getElem_mem h
  obtain ⟨h1, h2⟩ := List.mem_filter.1 hm
  obtain ⟨k, hk, hke⟩ := List.getElem_of_mem h1
  have hkc : CL cl k = (lv cl).getD i [] := by rw [← hke, CL_get hk]
  refine ⟨fun e => ?_, ?_, fun x hx => List.mem_flatten.2 ⟨_, h1, hx⟩⟩
  · rw [e] at h2; cases h2
  · have := flatten_ge (cl := cl) (i := k) (j := k + 1) (by omega)
    rw [hkc] at this
    omega

theorem frac_zero {w w' : World} (h : Below (w.alloc (.cells #[.int .i64 0, .int .i64 0] 38)).drew.heap.size (w.alloc (.cells #[.int .i64 0, .int .i64 0] 38)).drew w') : Blk w' w.heap.size 38 [.int .i64 0, .int .i64 0] :=
  (Blk.new w 38 [.int .i64 0, .int .i64 0]).drew.below h (by simp)

/-- A fraction lies in a new block. -/
structure FracAt (W : World) (p : Nat) (N D : Int) (wx : World) : Prop where
  blk : Blk wx p 38 [.int .i64 N, .int .i64 D]
  bel : Below W.heap.size W wx
  new : W.heap.size ≤ p

theorem fracA {W w' : World} {N D : Int} (h : Below W.heap.size W w') : FracAt W w'.heap.size N D (w'.alloc (.cells #[.int .i64 N, .int .i64 D] 38)) :=
  ⟨Blk.new _ _ _, h.alloc h.size _, h.size⟩

theorem fracB {W w' : World} {N D : Int} (h : Below W.heap.size W w') (hz : Blk w' W.heap.size 38 [.int .i64 0, .int .i64 0]) : FracAt W W.heap.size N D ((w'.setCell ⟨W.heap.size, 0, none⟩ (.int .i64 N)).setCell ⟨W.heap.size, 1, none⟩ (.int .i64 D)) :=
  ⟨(hz.set 0 _).set 1 _, bel_set (bel_set h (Nat.le_refl _)) (Nat.le_refl _), Nat.le_refl _⟩

theorem grown_blk {w w' : World} {b n c B : Nat} (hg : w.grownBy w' (Value.slice (some ⟨b, 0, none⟩) n c).ownBlock) (hb : B ≤ b) (hB : B ≤ w.heap.size) : Below B w w' :=
  grown_below hg (fun k hk => by simp [Value.ownBlock] at hk; omega) hB

theorem app_new {w : World} {v' : Value} {b n c B : Nat} (hn : ∀ k, v'.ownBlock = some k → (Value.slice (some ⟨b, 0, none⟩) n c).ownBlock = some k ∨ w.heap.size ≤ k) (hb : B ≤ b) (hB : B ≤ w.heap.size) : ∀ k, v'.ownBlock = some k → B ≤ k := fun k hk => by
  rcases hn k hk with e | e
  · simp [Value.ownBlock] at e; omega
  · omega

theorem app_new2 {w : World} {v v' : Value} {B : Nat} (hn : ∀ k, v'.ownBlock = some k → v.ownBlock = some k ∨ w.heap.size ≤ k) (hv : ∀ k, v.ownBlock = some k → B ≤ k) (hB : B ≤ w.heap.size) : ∀ k, v'.ownBlock = some k → B ≤ k := fun k hk => by
  rcases hn k hk with e | e
  · exact hv k e
  · omega

/-- 'append' in a region that draws its order: ints. -/
theorem step_appIn {ops : Array Oper} {d : Tmp} {s x : Operand} {po : String} {aft : Array Edge} {a : Act} {Q : Exit → Act → World → Prop} {K : Act → World → Prop} {w : World}
    (v : Value) (n : Nat) (xs : List Int) (hs : a.eval s = v) (hown : w.ownsRow 0 3 1 v n (xs.map fun y => .int .i64 y)) (ao : Option Addr) (len cap b off : Nat) (z : List Int) (hx : a.eval x = .slice ao len cap) (hin : InRow .i64 w ao len b off z) (hc : ao = none → cap = 0) (hl : n + len ≤ 1000000)
    (h : ∀ v' w', w'.ownsRow 0 3 1 v' (n + len) ((xs ++ z).map fun x => .int .i64 x) → w.grownBy w' v.ownBlock → (∀ k, v'.ownBlock = some k → v.ownBlock = some k ∨ w.heap.size ≤ k) → K (a.put (some d) v') w') :
    if Region.wanted ⟨some d, .call { callee := .builtin .append, args := #[s, x], argTypes := #[36, 36] }, 36, po, aft, none⟩ (yielded ops a.tmps) = true then
      Oper.wp Try.prog ⟨some d, .call { callee := .builtin .append, args := #[s, x], argTypes := #[36, 36] }, 36, po, aft, none⟩ a w K Q else K (a.put (some d) undef) w := by
  obtain ⟨v', w', hr, h2, h3, h4⟩ := run_appIn w v n xs hown ao len cap b off z hin hc hl
  rw [if_pos (by rfl)]
  unfold Oper.wp execOp
  simp only [resolve, invoke, builtin, Sem.run_bind, Sem.run_pure, Result.andThen_ok, List.map_toArray, List.map_cons, List.map_nil, hs, hx, hr]
  exact h v' w' h2 h3 h4

/-- 'append' in a region that draws its order. -/
theorem step_appB {P : Program} {ops : Array Oper} {d : Tmp} {t ty : TypeId} {s x : Operand} {po : String} {aft : Array Edge} {a : Act} {Q : Exit → Act → World → Prop} {K : Act → World → Prop} {w : World}
    (e : TypeId) (z : Value) (size bytes : Nat) (ht : P.underlying t = some (.slice e)) (hz : (P.info? e).map (fun i => (i.zero, i.size, i.bytes)) = some (some z, size, bytes))
    (hzs : z.cells.size = size) (hsz : 0 < size) (v : Value) (n : Nat) (xs : List Value) (hs : a.eval s = v) (hown : w.ownsRow 0 e size v n xs)
    (ad : Addr) (m c : Nat) (news : List Value) (hx : a.eval x = .slice (some ad) m c) (hl : news.length = m * size) (hnews : ∀ j u, news[j]? = some u → w.cell? (ad.add j) = some u) (h1 : ∀ u ∈ news, u.oneCell' = true)
    (h63 : n + m ≤ maxLen) (hbytes : (n + m) * bytes ≤ 140737488355328)
    (h : ∀ v' w', w'.ownsRow 0 e size v' (n + m) (xs ++ news) → w.grownBy w' v.ownBlock → (∀ k, v'.ownBlock = some k → v.ownBlock = some k ∨ w.heap.size ≤ k) → K (a.put (some d) v') w') :
    if Region.wanted ⟨some d, .call { callee := .builtin .append, args := #[s, x], argTypes := #[t, t] }, ty, po, aft, none⟩ (yielded ops a.tmps) = true then
      Oper.wp P ⟨some d, .call { callee := .builtin .append, args := #[s, x], argTypes := #[t, t] }, ty, po, aft, none⟩ a w K Q else K (a.put (some d) undef) w := by
  obtain ⟨v', w', hr, h2, h3, h4⟩ := run_appendB (P := P) w t ty e z size bytes ht hz hzs hsz v n xs hown ad m c news hl hnews h1 h63 hbytes
  rw [if_pos (by rfl)]
  unfold Oper.wp execOp
  simp only [resolve, invoke, builtin, Sem.run_bind, Sem.run_pure, Result.andThen_ok, List.map_toArray, List.map_cons, List.map_nil, hs, hx, hr]
  exact h v' w' h2 h3 h4

theorem six_keep {w w' : World} {p1 p2 p3 p4 p5 p6 : Addr} {v1 v2 v3 v4 v5 v6 : Value} (h1 : Hid (w.cell? p1 = some v1)) (h2 : Hid (w.cell? p2 = some v2)) (h3 : Hid (w.cell? p3 = some v3)) (h4 : Hid (w.cell? p4 = some v4)) (h5 : Hid (w.cell? p5 = some v5)) (h6 : Hid (w.cell? p6 = some v6)) (hb : Below w.heap.size w w') :
    w'.cell? p1 = some v1 ∧ w'.cell? p2 = some v2 ∧ w'.cell? p3 = some v3 ∧ w'.cell? p4 = some v4 ∧ w'.cell? p5 = some v5 ∧ w'.cell? p6 = some v6 ∧ Below w.heap.size w w' :=
  ⟨(hb.cell (World.block_lt_of_cell? w _ h1.out)).trans h1.out, (hb.cell (World.block_lt_of_cell? w _ h2.out)).trans h2.out, (hb.cell (World.block_lt_of_cell? w _ h3.out)).trans h3.out, (hb.cell (World.block_lt_of_cell? w _ h4.out)).trans h4.out, (hb.cell (World.block_lt_of_cell? w _ h5.out)).trans h5.out, (hb.cell (World.block_lt_of_cell? w _ h6.out)).trans h6.out, hb⟩

theorem six_keepM {F : Nat → Prop} {w w' : World} {p1 p2 p3 p4 p5 p6 : Addr} {v1 v2 v3 v4 v5 v6 : Value} (h1 : Hid (w.cell? p1 = some v1)) (h2 : Hid (w.cell? p2 = some v2)) (h3 : Hid (w.cell? p3 = some v3)) (h4 : Hid (w.cell? p4 = some v4)) (h5 : Hid (w.cell? p5 = some v5)) (h6 : Hid (w.cell? p6 = some v6))
    (n1 : ¬ F p1.block) (n2 : ¬ F p2.block) (n3 : ¬ F p3.block) (n4 : ¬ F p4.block) (n5 : ¬ F p5.block) (n6 : ¬ F p6.block) (hb : Mod F w w') :
    w'.cell? p1 = some v1 ∧ w'.cell? p2 = some v2 ∧ w'.cell? p3 = some v3 ∧ w'.cell? p4 = some v4 ∧ w'.cell? p5 = some v5 ∧ w'.cell? p6 = some v6 ∧ Mod F w w' :=
  ⟨(hb.cell (World.block_lt_of_cell? w _ h1.out) n1).trans h1.out, (hb.cell (World.block_lt_of_cell? w _ h2.out) n2).trans h2.out, (hb.cell (World.block_lt_of_cell? w _ h3.out) n3).trans h3.out, (hb.cell (World.block_lt_of_cell? w _ h4.out) n4).trans h4.out, (hb.cell (World.block_lt_of_cell? w _ h5.out) n5).trans h5.out, (hb.cell (World.block_lt_of_cell? w _ h6.out) n6).trans h6.out, hb⟩

theorem RCl.modOut {w W W' : World} {v9 v11 v6 : Value} {L : List (List Nat)} {vals : List Value} (h : RCl w W v9 v11 L vals) (hm : Mod (fun k => v11.ownBlock = some k) W W') (hd : ∀ x, v11.ownBlock = some x → v9.ownBlock ≠ some x) (hn : ∀ k, v6.ownBlock = some k → v11.ownBlock = some k ∨ W.heap.size ≤ k) : RCl w W' v9 v6 L vals :=
  ⟨h.len, owns_mod h.outer hm (fun x hx e => hd x e hx), fun i hi => by
    obtain ⟨g, c, h1, h2, h3, h4, h5, h6⟩ := h.inner i hi
    refine ⟨g, c, h1, h2.mod hm (fun _ e => h4 e), h3, fun e => ?_, h5, Nat.lt_of_lt_of_le h6 hm.size⟩
    rcases hn g e with e' | e'
    · exact h4 e'
    · omega, h.new⟩

theorem RCl.store {w W : World} {g9 ln sc : Nat} {v11 : Value} {L : List (List Nat)} {vals : List Value} (h : RCl w W (.slice (some ⟨g9, 0, none⟩) ln sc) v11 L vals) (hln : L.length = ln) {x : Nat} (hx : x < ln) {gn cn : Nat} {AB : List Nat}
    (hi : InRow .i64 W (some ⟨gn, 0, none⟩) AB.length gn 0 (ints AB)) (h9 : g9 ≠ gn) (h11 : v11.ownBlock ≠ some gn) (hw : w.heap.size ≤ gn) (hlt : gn < W.heap.size) :
    RCl w (W.setCell ⟨g9, x, none⟩ (.slice (some ⟨gn, 0, none⟩) AB.length cn)) (.slice (some ⟨g9, 0, none⟩) ln sc) v11 (L.set x AB) (vals.set x (.slice (some ⟨gn, 0, none⟩) AB.length cn)) := by
  have hm : Mod (fun k => k = g9) W (W.setCell ⟨g9, x, none⟩ (.slice (some ⟨gn, 0, none⟩) AB.length cn)) := Mod.setCell (Mod.refl (fun k => k = g9) W) ⟨g9, x, none⟩ (fun _ => rfl) _
  have hlen := h.len
  refine ⟨by simp [h.len], ?_, fun i hi' => ?_, h.new⟩
  · have := h.outer
    rw [hln] at this
    rw [List.length_set, hln]
    exact owns_set this x (by omega) _
  · rw [List.length_set] at hi'
    by_cases e : i = x
    · subst e
      have e1 : (L.set i AB).getD i [] = AB := by rw [List.getD_eq_getElem?_getD, List.getElem?_set_self (by omega)]; rfl
      rw [e1]
      exact ⟨gn, cn, List.getElem?_set_self (by omega), hi.mod hm (fun _ e => h9 (show gn = g9 from e).symm), fun e => h9 (by simpa [Value.ownBlock] using e), h11, hw, Nat.lt_of_lt_of_le hlt hm.size⟩
    · have e1 : (L.set x AB).getD i [] = L.getD i [] := by rw [List.getD_eq_getElem?_getD, List.getElem?_set_ne (by omega), List.getD_eq_getElem?_getD]
      rw [e1]
      obtain ⟨g, c, h1, h2, h3, h4, h5, h6⟩ := h.inner i hi'
      exact ⟨g, c, by rw [List.getElem?_set_ne (by omega)]; exact h1, h2.mod hm (fun _ e => h3 (by rw [show g = g9 from e]; rfl)), h3, h4, h5, Nat.lt_of_lt_of_le h6 hm.size⟩

theorem RCl.cut {w W W2 : World} {v9 v11 v' : Value} {L : List (List Nat)} {vals : List Value} (h : RCl w W v9 v11 L vals) {y : Nat} (hy : y < L.length) (hb : Below W.heap.size W W2) (hw : w.heap.size ≤ W.heap.size)
    (ho : W2.ownsRow 0 36 1 v' (L.take y ++ L.drop (y + 1)).length (vals.take y ++ vals.drop (y + 1))) (hn : ∀ k, v'.ownBlock = some k → W.heap.size ≤ k) :
    RCl w W2 v' v11 (L.take y ++ L.drop (y + 1)) (vals.take y ++ vals.drop (y + 1)) := by
  have hlen := h.len
  refine ⟨by simp [h.len], ho, fun i hi => ?_, fun x hx => Nat.le_trans hw (hn x hx)⟩
  have key : ∀ k, k < L.length → (L.take y ++ L.drop (y + 1)).getD i [] = L.getD k [] → (vals.take y ++ vals.drop (y + 1))[i]? = vals[k]? →
      ∃ g c, (vals.take y ++ vals.drop (y + 1))[i]? = some (.slice (some ⟨g, 0, none⟩) ((L.take y ++ L.drop (y + 1)).getD i []).length c) ∧ InRow .i64 W2 (some ⟨g, 0, none⟩) ((L.take y ++ L.drop (y + 1)).getD i []).length g 0 (ints ((L.take y ++ L.drop (y + 1)).getD i [])) ∧ v'.ownBlock ≠ some g ∧ v11.ownBlock ≠ some g ∧ w.heap.size ≤ g ∧ g < W2.heap.size := fun k hk e1 e2 => by
    obtain ⟨g, c, h1, h2, h3, h4, h5, h6⟩ := h.inner k hk
    rw [e1, e2]
    exact ⟨g, c, h1, h2.below hb, fun e => by have := hn g e; omega, h4, h5, Nat.lt_of_lt_of_le h6 hb.size⟩
  simp only [List.length_append, List.length_take, List.length_drop] at hi
  by_cases hiy : i < y
  · refine key i (by omega) ?_ ?_
    · rw [List.getD_eq_getElem?_getD, List.getElem?_append_left (by simp; omega), List.getElem?_take, if_pos hiy, List.getD_eq_getElem?_getD]
    · rw [List.getElem?_append_left (by simp; omega), List.getElem?_take, if_pos hiy]
  · refine key (i + 1) (by omega) ?_ ?_
    · rw [List.getD_eq_getElem?_getD, List.getElem?_append_right (by simp; omega), List.getElem?_drop, List.getD_eq_getElem?_getD]
      congr 2
      simp; omega
    · rw [List.getElem?_append_right (by simp; omega), List.getElem?_drop]
      congr 1
      simp; omega

theorem add_n (g o j : Nat) : (⟨g, o, none⟩ : Addr).add j = ⟨g, o + j, none⟩ := by unfold Addr.add; split <;> simp_all

theorem take_cells {W7 w' : World} {g9 ln y : Nat} {vals : List Value} (hc : ∀ k, k < ln → W7.cell? ⟨g9, k, none⟩ = vals[k]?) (hlt : g9 < W7.heap.size) (hb : Below W7.heap.size W7 w') (hy : y ≤ ln) : ∀ j u, (vals.take y)[j]? = some u → w'.cell? ((⟨g9, 0, none⟩ : Addr).add j) = some u := fun j u hu => by
  rw [List.getElem?_take] at hu
  split at hu
  · rw [add_n, Nat.zero_add, hb.cell hlt, hc j (by omega)]; exact hu
  · cases hu

theorem drop_cells {W7 w' : World} {g9 ln k : Nat} {vals : List Value} (hc : ∀ k, k < ln → W7.cell? ⟨g9, k, none⟩ = vals[k]?) (hl : vals.length = ln) (hlt : g9 < W7.heap.size) (hb : Below W7.heap.size W7 w') : ∀ j u, (vals.drop k)[j]? = some u → w'.cell? ((⟨g9, k, none⟩ : Addr).add j) = some u := fun j u hu => by
  rw [List.getElem?_drop] at hu
  have := (List.getElem?_eq_some_iff.1 hu).1
  rw [add_n, hb.cell hlt, hc (k + j) (by omega)]; exact hu

theorem drop_none {w' : World} {ad : Addr} {k : Nat} {vals : List Value} (hl : vals.length ≤ k) : ∀ j u, (vals.drop k)[j]? = some u → w'.cell? (ad.add j) = some u := fun j u hu => by
  rw [List.drop_of_length_le hl] at hu; cases hu

/-- The clusters without one of them. -/
structure ClAt (W7 : World) (len : Nat) (xs : List Value) (v9 : Value) (wx : World) : Prop where
  own : wx.ownsRow 0 36 1 v9 len xs
  bel : Below W7.heap.size W7 wx
  new : ∀ k, v9.ownBlock = some k → W7.heap.size ≤ k

/-- The merge is laid down. -/
structure OutAt (w5 : World) (v11 : Value) (q : Nat) (xs : List Value) (v6 : Value) (w6 : World) : Prop where
  own : w6.ownsRow 0 47 5 v6 (q + 1) xs
  mod : Mod (fun k => v11.ownBlock = some k) w5 w6
  new : ∀ k, v6.ownBlock = some k → v11.ownBlock = some k ∨ w5.heap.size ≤ k

theorem ints_head {l : List Nat} {a : Nat} (h : l.head? = some a) : (ints l).getD 0 0 = (a : Int) := by
  cases l with
  | nil => cases h
  | cons x l => simp at h; subst h; rfl

theorem Try.infoMergeZ : (Try.prog.info? 47).map (fun i => (i.zero, i.size, i.bytes)) = some (some (.agg #[.int .i64 0, .int .i64 0, .int .i64 0, .int .i64 0, .int .i64 0]), 5, 40) := by kernel_rfl

/-- What the reference's Run returns. -/
structure RRPost (n : Nat) (m : Int) (d : List Int) (w : World) (e : Ending) (w' : World) : Prop where
  out : ∃ v, e = .returned (.tuple #[v, .int .i64 0]) ∧ w'.ownsRow 0 47 5 v (n - 1) ((runL n m d).flatMap Mg.cells) ∧ Below w.heap.size w w'

set_option maxHeartbeats 8000000 in
set_option maxRecDepth 100000 in
theorem rrun_ok (w : World) (n : Nat) (m : Int) (hm : m = 1 ∨ m = 2 ∨ m = 3) (ao : Option Addr) (len cap b off : Nat) (d : List Int) (hz : InRow .i64 w ao len b off d) (hn : n ≤ 14) (hok : checkL n d = 0) :
    Calls Try.prog 12 #[.int .i64 n, .slice ao len cap, .int .i64 m] w (RRPost n m d w) := by
  have HD := Lib.hid (DOk.of_check hok)
  have HOK := Lib.hid hok
  have HZ := Lib.hid hz
  have HM := Lib.hid hm
  have hlb : len ≤ 16384 := by rw [← hz.size, HD.out.len]; exact Nat.le_trans (Nat.mul_le_mul hn hn) (by omega)
  have hdm := decide_eq_true hm
  clear hz hok hm
  go_enter Try.func12, Try.ntmps12
  go_wp2_with fail
  with_reducible refine (method_ok m w).mono ?_
  rintro e w1 ⟨rfl, rfl⟩
  rw [hdm]
  clear hdm
  go_wp2_with fail
  with_reducible refine (rcheck_any w n ao len cap b off d HZ.out (by omega)).mono ?_
  rintro e w1 ⟨rfl, hb1⟩
  rw [HOK.out]
  have HB1 := Lib.hid hb1
  clear hb1
  go_wp2_with fail
  go_loopw [9, 10] (fun s9 s10 wr => ∃ k : Nat, k ≤ n ∧ s10 = .int .i64 k ∧ ∃ vals, RCl w wr s9 (.slice none 0 0) (singles k) vals ∧ Below w.heap.size w wr) (fun _ s _ => n - (intOf s).toNat)
  case atStart => exact ⟨0, Nat.zero_le _, rfl, [], ⟨rfl, World.ownsRow_nil _ _ _ _, (fun i hi => by simp [singles] at hi), (fun x hx => by cases hx)⟩, HB1.out⟩
  case round =>
    obtain ⟨k, hk, rfl, vals, hc, hbl⟩ := hrel
    have ho := hc.outer
    rw [singles_len] at ho
    obtain ⟨so, sc, rfl⟩ := owns_slice ho
    have HC := Lib.hid hc
    have HO := Lib.hid ho
    have HBL := Lib.hid hbl
    clear hc ho hbl
    by_cases hkn : k < n
    · have HOWN := Lib.hid ((HO.out.alloc (.cells #[.int .i64 k] 3)).alloc (.cells #[.slice (some ⟨wr.heap.size, 0, none⟩) 1 1] 36))
      have HNEW := Lib.hid (news_new (wr.alloc (.cells #[.int .i64 k] 3)) 36 [.slice (some ⟨wr.heap.size, 0, none⟩) 1 1])
      have esz : (wr.alloc (.cells #[.int .i64 k] 3)).heap.size = wr.heap.size + 1 := by simp
      rw [esz] at HNEW
      clear esz
      go_wp2_with (at_builtin; with_reducible refine wpList_appendB 36 (.slice none 0 0) 1 24 Try.underlying61 Try.infoSlI rfl (by decide) (.slice so k sc) k vals rfl HOWN.out ⟨wr.heap.size + 1, 0, none⟩ 1 1 [.slice (some ⟨wr.heap.size, 0, none⟩) 1 1] rfl rfl HNEW.out (by simp [Value.oneCell']) (by unfold maxLen; omega) (by omega) ?_)
      intro v' w2 ho2 hg2 hn2
      have HP := Lib.hid (HC.out.push HBL.out.size ho2 hg2 hn2)
      have HB2 : Hid (Below w.heap.size w w2) := by
        have hal : Below wr.heap.size wr ((wr.alloc (.cells #[.int .i64 k] 3)).alloc (.cells #[.slice (some ⟨wr.heap.size, 0, none⟩) 1 1] 36)) := ((Below.refl _ _).alloc (Nat.le_refl _) _).alloc (by simp) _
        exact (HBL.out.trans (hal.mono HBL.out.size)).trans (grown_below hg2 (fun x hx => HC.out.new x hx) (Nat.le_trans HBL.out.size hal.size))
      clear ho2 hg2 hn2
      go_wp2_with fail
      go_roundw
      case rel => exact ⟨k + 1, by omega, by go_num, _, HP.out, HB2.out⟩
      case measure => simp [intOf]; omega
    · obtain rfl : n = k := by omega
      go_wp2_with fail
      obtain ⟨wq, rfl⟩ : ∃ wq : World, wq = wr := ⟨_, rfl⟩
      have HST : Hid (RR w n m d 0 (.slice so n sc) (.slice none 0 0) vals wq) := by
        refine ⟨?_, World.ownsRow_nil _ _ _ _, (fun x hx => by cases hx), HBL.out⟩
        have e : lv (clS n m d 0) = singles n := lv_start n
        rw [e]
        exact HC.out
      clear HC HO HBL
      go_loopw [9, 11] (fun s9 s11 wr => ∃ q : Nat, (q + 1 ≤ n ∨ q = 0) ∧ ∃ vals, RR w n m d q s9 s11 vals wr) (fun s _ _ => lenW s)
      case atStart => exact ⟨0, .inr rfl, vals, HST.out⟩
      case round =>
        obtain ⟨q, hq, vals, hr⟩ := hrel
        clear HST
        have HINV := Lib.hid (runS_inv HD.out HM.out q hq)
        have HR := Lib.hid hr
        have hlv : (lv (clS n m d q)).length + q = n := HINV.out.live
        obtain ⟨so, sc, rfl⟩ := owns_slice hr.cl.outer
        obtain ⟨lo, lc, rfl⟩ := owns_slice hr.out
        clear hr
        obtain ⟨L, hLe⟩ : ∃ L, L = lv (clS n m d q) := ⟨_, rfl⟩
        have HLE := Lib.hid hLe
        rw [← hLe] at hlv ⊢
        clear hLe
        obtain ⟨ln, HLN⟩ : ∃ ln, Hid (L.length = ln) := ⟨_, rfl⟩
        rw [HLN.out] at hlv ⊢
        by_cases hl1 : 1 < ln
        · have t1 : decide (1 < ln) = true := by simp [hl1]
          have t1' : decide ((1 : Int) < (ln : Int)) = true := by simp; omega
          go_wp2_with fail
          clear t1 t1'
          generalize hW1 : World.alloc wr _ = W1
          have HF1 : Hid (Blk W1 wr.heap.size 38 [.int .i64 0, .int .i64 0]) := by show Blk _ _ _ _; rw [← hW1]; exact Blk.new wr _ _
          have HB1 : Hid (Below wr.heap.size wr W1) := by show Below _ _ _; rw [← hW1]; exact (Below.refl _ _).alloc (Nat.le_refl _) _
          clear hW1
          have HFB : Hid (wr.heap.size < W1.heap.size) := HF1.out.lt
          obtain ⟨fb, HFE⟩ : ∃ fb, Hid (wr.heap.size = fb) := ⟨_, rfl⟩
          rw [HFE.out] at HF1 HFB ⊢
          obtain ⟨wq2, rfl⟩ : ∃ wq : World, wq = wr := ⟨_, rfl⟩
          go_loopw [12, 13, 15] (fun s12 s13 s15 wr => ∃ i : Nat, i ≤ ln ∧ s15 = .int .i64 i ∧ s12 = .int .i64 (rTo m n d L i).a ∧ s13 = .int .i64 (rTo m n d L i).b ∧ RB (rTo m n d L i) ∧ Blk wr fb 38 [.int .i64 (rTo m n d L i).n, .int .i64 (rTo m n d L i).d] ∧ Below fb wq2 wr) (fun _ _ s _ => ln - (intOf s).toNat)
          case atStart => exact ⟨0, Nat.zero_le _, rfl, rfl, rfl, .inl (show (-1 : Int) < 0 by decide), HF1.out, by rw [← HFE.out]; exact HB1.out⟩
          case round =>
            obtain ⟨i, hi, rfl, rfl, rfl, hrb, hfb, hbl⟩ := hrel
            have HRB := Lib.hid hrb
            have HFBK := Lib.hid hfb
            have HBLW := Lib.hid hbl
            clear hrb hfb hbl
            by_cases hil : i < ln
            · go_wp2_with fail
              obtain ⟨wq3, rfl⟩ : ∃ wq : World, wq = wr := ⟨_, rfl⟩
              go_loopw [12, 13, 16] (fun s12 s13 s16 wr => ∃ j : Nat, i < j ∧ j ≤ ln ∧ s16 = .int .i64 j ∧ s12 = .int .i64 (rRow m n d L (rTo m n d L i) i j).a ∧ s13 = .int .i64 (rRow m n d L (rTo m n d L i) i j).b ∧ RB (rRow m n d L (rTo m n d L i) i j) ∧ Blk wr fb 38 [.int .i64 (rRow m n d L (rTo m n d L i) i j).n, .int .i64 (rRow m n d L (rTo m n d L i) i j).d] ∧ Below fb wq2 wr) (fun _ _ s _ => ln - (intOf s).toNat)
              case atStart => exact ⟨i + 1, by omega, by omega, by go_num, by rw [rRow_start _ _ _ _ _ _ _ (Nat.le_refl _)], by rw [rRow_start _ _ _ _ _ _ _ (Nat.le_refl _)], by rw [rRow_start _ _ _ _ _ _ _ (Nat.le_refl _)]; exact HRB.out, by rw [rRow_start _ _ _ _ _ _ _ (Nat.le_refl _)]; exact HFBK.out, HBLW.out⟩
              case round =>
                obtain ⟨j, hij, hj, rfl, rfl, rfl, hrb, hfb, hbl⟩ := hrel
                clear HRB HFBK HBLW
                have HRB := Lib.hid hrb
                have HFBK := Lib.hid hfb
                have HBLW := Lib.hid hbl
                clear hrb hfb hbl
                by_cases hjl : j < ln
                · have HNX : Hid (rRow m n d L (rTo m n d L i) i (j + 1) = (rRow m n d L (rTo m n d L i) i j).upd i j (rdl m n d L i j)) := by show _ = _; rw [rRow, if_pos hij]
                  generalize rRow m n d L (rTo m n d L i) i j = s at *
                  have HCW : Hid (RCl w wr (.slice so ln sc) (.slice lo q lc) L vals) := by
                    have := HR.out.cl
                    rw [← HLE.out, HLN.out] at this
                    exact this.below (by rw [HFE.out]; exact HBLW.out)
                  have hou := HCW.out.outer
                  rw [HLN.out] at hou
                  obtain ⟨g9, c9, h9, _, _, _, hc9, hf9⟩ := owns_form hou (by omega)
                  obtain ⟨gi, ci, i1, i2, i3, i4, i5, i6⟩ := HCW.out.inner i (by rw [HLN.out]; exact hil)
                  obtain ⟨gj, cj, j1, j2, j3, j4, j5, j6⟩ := HCW.out.inner j (by rw [HLN.out]; exact hjl)
                  have d1 := hc9 i (by omega)
                  have d2 := hc9 j (by omega)
                  rw [i1] at d1
                  rw [j1] at d2
                  injection h9 with h91 h92 h93
                  subst h91
                  have D1 := Lib.hid d1
                  have D2 := Lib.hid d2
                  have I2 := Lib.hid i2
                  have J2 := Lib.hid j2
                  have HRDL : Hid (rdl m n d L i j = distR m n d (L.getD i []) (L.getD j [])) := rfl
                  clear hou hc9 hf9 i1 i2 i3 i4 i5 j1 j2 j3 j4 j5 h92 h93 d1 d2
                  have hfl : (clS n m d q).flatten.length = n := by have := HINV.out.perm.length_eq; rw [List.length_range] at this; exact this
                  have mi := lv_mem (cl := clS n m d q) (i := i) (by rw [← HLE.out, HLN.out]; exact hil)
                  have mj := lv_mem (cl := clS n m d q) (i := j) (by rw [← HLE.out, HLN.out]; exact hjl)
                  rw [← HLE.out, hfl] at mi mj
                  have hpi : 0 < (L.getD i []).length := List.length_pos_iff.2 mi.1
                  have hpj : 0 < (L.getD j []).length := List.length_pos_iff.2 mj.1
                  have hbi : inB n (ints (L.getD i [])) := fun x hx => by
                    obtain ⟨y, hy, rfl⟩ := List.mem_map.1 hx
                    have := List.mem_range.1 (HINV.out.perm.mem_iff.1 (mi.2.2 y hy))
                    omega
                  have hbj : inB n (ints (L.getD j [])) := fun x hx => by
                    obtain ⟨y, hy, rfl⟩ := List.mem_map.1 hx
                    have := List.mem_range.1 (HINV.out.perm.mem_iff.1 (mj.2.2 y hy))
                    omega
                  have HZW : Hid (InRow .i64 wr ao len b off d) := HZ.out.below (HR.out.bel.trans (HBLW.out.mono (by rw [← HFE.out]; exact HR.out.bel.size)))
                  have HLIM := Lib.hid (distR_lim (m := m) HD.out (A := L.getD i []) (B := L.getD j []) ⟨hpi, by have := mi.2.1; omega⟩ ⟨hpj, by have := mj.2.1; omega⟩)
                  have HDIST : Hid (∀ w', Below wr.heap.size wr w' → Calls Try.prog 26 #[.int .i64 n, .slice ao len cap, .int .i64 m, .slice (some ⟨gi, 0, none⟩) (L.getD i []).length ci, .slice (some ⟨gj, 0, none⟩) (L.getD j []).length cj] w' (RetB (.agg #[.int .i64 (distR m n d (L.getD i []) (L.getD j [])).1, .int .i64 (distR m n d (L.getD i []) (L.getD j [])).2]) w')) := fun w' hb' => by
                    have := rdist_ok w' n m HM.out ao len cap b off d (HZW.out.below hb') HD.out (some ⟨gi, 0, none⟩) (some ⟨gj, 0, none⟩) _ _ ci cj gi gj 0 0 _ _ (I2.out.below hb') (J2.out.below hb') (by have := mi.2.1; omega) (by have := mj.2.1; omega) hpi hpj hbi hbj
                    rw [toN_ints, toN_ints] at this
                    exact this
                  rw [← HRDL.out] at HDIST HLIM
                  obtain ⟨N, HN⟩ : ∃ N, Hid ((rdl m n d L i j).1 = N) := ⟨_, rfl⟩
                  obtain ⟨D, HDE⟩ : ∃ D, Hid ((rdl m n d L i j).2 = D) := ⟨_, rfl⟩
                  have HPAIR : Hid (rdl m n d L i j = (N, D)) := by show _ = _; rw [← HN.out, ← HDE.out]
                  rw [HN.out, HDE.out] at HDIST HLIM
                  clear hfl mi mj hbi hbj hpi hpj HRDL I2 J2 HZW HCW
                  generalize (L.getD i []).length = li at *
                  generalize (L.getD j []).length = lj at *
                  have y1 : (i : Int) < (ln : Int) := by omega
                  have y2 : (j : Int) < (ln : Int) := by omega
                  go_upto_region 21 with fail
                  obtain ⟨W, HWE⟩ : ∃ W : World, Hid (W = wr) := ⟨_, rfl⟩
                  have d1 := D1.out
                  have d2 := D2.out
                  go_cut [17] (fun s17 wx => ∃ p, s17 = .pointer (some ⟨p, 0, none⟩) ∧ FracAt wr p N D wx)
                  case first =>
                    go_region_held3 (fun w' => w'.cell? ⟨g9, i, none⟩ = some (.slice (some ⟨gi, 0, none⟩) li ci) ∧ w'.cell? ⟨g9, j, none⟩ = some (.slice (some ⟨gj, 0, none⟩) lj cj) ∧ Below wr.heap.size wr w')
                      (((try go_split_ands); refine two_keep D1 D2 ?_; first | assumption | exact (Below.refl _ _).drew | exact (Below.drew (by assumption)) | exact (Below.alloc (by assumption) (Below.size (by assumption)) _) | exact bel_set (bel_set (by assumption) (Nat.le_refl _)) (Nat.le_refl _)))
                      (first
                        | (go_at_call 26; (try go_split_ands); with_reducible refine (HDIST.out _ (by assumption)).mono ?_; rintro e w' ⟨rfl, hbx⟩; have hz := frac_zero hbx; have hz0 := hz.cell (i := 0) rfl; have hz1 := hz.cell (i := 1) rfl; have hf0 := hz.free 0; have hf1 := hz.free 1; have HZZ := Lib.hid hz; have hby := bel_then (by assumption) hbx; clear hbx hz)
                        | (go_at_call 26; (try go_split_ands); with_reducible refine (HDIST.out _ (by assumption)).mono ?_; rintro e w' ⟨rfl, hbx⟩; have hby := bel_then (by assumption) hbx; clear hbx))
                    all_goals
                      go_wp2_with fail
                      go_meet
                      first
                        | exact ⟨_, rfl, fracA hby⟩
                        | exact ⟨_, rfl, fracB hby HZZ.out⟩
                  case rest =>
                    obtain ⟨p, rfl, hp⟩ := hcut
                    have HP := Lib.hid hp
                    clear hp d1 d2
                    have HF3 := Lib.hid (HFBK.out.below HP.out.bel HFBK.out.lt)
                    have HB3 : Hid (Below fb wq2 wc) := HBLW.out.trans (HP.out.bel.mono (by have := HFBK.out.lt; omega))
                    have a0 := HP.out.blk.cell (i := 0) rfl
                    have a1 := HP.out.blk.cell (i := 1) rfl
                    have b0 := HF3.out.cell (i := 0) rfl
                    have b1 := HF3.out.cell (i := 1) rfl
                    have f0 := HF3.out.free 0
                    have f1 := HF3.out.free 1
                    have hpf : ¬ (p = fb) := by have h1 := HP.out.new; have h2 := HFBK.out.lt; omega
                    have HLIMP : Hid (0 ≤ (rdl m n d L i j).1 ∧ (rdl m n d L i j).1 ≤ 215504279044096 ∧ 0 < (rdl m n d L i j).2 ∧ (rdl m n d L i j).2 ≤ 196) := by rw [HPAIR.out]; exact HLIM.out
                    by_cases hs0 : s.a < 0
                    · have t2 : decide (s.a < 0) = true := by simp [hs0]
                      have HUPD : Hid (s.upd i j (rdl m n d L i j) = ⟨i, j, N, D⟩) := by show _ = _; rw [HPAIR.out]; unfold Bs.upd; rw [if_pos (.inl hs0)]
                      clear hs0
                      go_wp2_with fail
                      refine region_tail 5 (by kernel_rfl) (by kernel_rfl) ?_
                      intro w2 hw2
                      have e0 : w2.cell? ⟨p, 0, none⟩ = some (.int .i64 N) := by rw [hw2]; exact a0
                      have e1 : w2.cell? ⟨p, 1, none⟩ = some (.int .i64 D) := by rw [hw2]; exact a1
                      have e2 : w2.cell? ⟨fb, 0, none⟩ = some (.int .i64 s.n) := by rw [hw2]; exact b0
                      have e3 : w2.cell? ⟨fb, 1, none⟩ = some (.int .i64 s.d) := by rw [hw2]; exact b1
                      have e4 : w2.frozen? ⟨fb, 0, none⟩ = false := by rw [hw2]; exact f0
                      have e5 : w2.frozen? ⟨fb, 1, none⟩ = false := by rw [hw2]; exact f1
                      have HFIN : Hid (Blk ((w2.setCell ⟨fb, 0, none⟩ (.int .i64 N)).setCell ⟨fb, 1, none⟩ (.int .i64 D)) fb 38 [.int .i64 N, .int .i64 D] ∧ Below fb wq2 ((w2.setCell ⟨fb, 0, none⟩ (.int .i64 N)).setCell ⟨fb, 1, none⟩ (.int .i64 D))) := by
                        refine ⟨?_, ?_⟩
                        · rw [hw2]; exact ((HF3.out.drew.set 0 _).set 1 _)
                        · have hbb : Below fb wq2 w2 := by rw [hw2]; exact HB3.out.drew
                          exact hbb.trans (Mod.below (F := fun k => k = fb) (((Mod.refl (fun k => k = fb) _).setCell ⟨fb, 0, none⟩ (fun _ => rfl) _).setCell ⟨fb, 1, none⟩ (fun _ => rfl) _) (by have := hbb.size; rw [HFE.out] at this; exact this) (fun k hk => by have e : k = fb := hk; omega))
                      clear hw2 a0 a1 b0 b1 f0 f1
                      simp only [List.take_succ_cons, List.take_zero, List.drop_succ_cons, List.drop_zero]
                      repeat still_step
                      refine wpStill_nil ?_
                      go_wp2_with fail
                      go_roundw
                      case rel =>
                        refine ⟨j + 1, by omega, by omega, by go_num, by rw [HNX.out, HUPD.out], by rw [HNX.out, HUPD.out], by rw [HNX.out]; exact HRB.out.upd i j HLIMP.out, by rw [HNX.out, HUPD.out]; exact HFIN.out.1, HFIN.out.2⟩
                      case measure => simp [intOf]; omega
                    · have t2 : decide (s.a < 0) = false := by simp; omega
                      have hsb := HRB.out.resolve_left hs0
                      have hl := HLIM.out
                      have p1 : 0 ≤ N * s.d ∧ N * s.d ≤ 215504279044096 * 196 := ⟨Int.mul_nonneg hl.1 (by omega), Int.mul_le_mul hl.2.1 hsb.2.2.2 (by omega) (by omega)⟩
                      have p2 : 0 ≤ s.n * D ∧ s.n * D ≤ 215504279044096 * 196 := ⟨Int.mul_nonneg hsb.1 (by omega), Int.mul_le_mul hsb.2.1 hl.2.2.2 (by omega) (by omega)⟩
                      have HLS : Hid (lessB (N, D) (s.n, s.d) = decide (N * s.d < s.n * D)) := rfl
                      have w1' : IntKind.i64.wrap (N * s.d) = N * s.d := IntWalk.i64_in _ (by omega)
                      have w2' : IntKind.i64.wrap (s.n * D) = s.n * D := IntWalk.i64_in _ (by omega)
                      have HS0 := Lib.hid hs0
                      clear hs0 hsb hl
                      by_cases hlt : N * s.d < s.n * D
                      · have t3 : decide (N * s.d < s.n * D) = true := by simp [hlt]
                        have HUPD : Hid (s.upd i j (rdl m n d L i j) = ⟨i, j, N, D⟩) := by show _ = _; rw [HPAIR.out]; unfold Bs.upd; rw [if_pos (.inr (by rw [HLS.out]; exact t3))]
                        clear hlt
                        go_wp2_with fail
                        refine region_tail 5 (by kernel_rfl) (by kernel_rfl) ?_
                        intro w2 hw2
                        have e0 : w2.cell? ⟨p, 0, none⟩ = some (.int .i64 N) := by rw [hw2]; exact a0
                        have e1 : w2.cell? ⟨p, 1, none⟩ = some (.int .i64 D) := by rw [hw2]; exact a1
                        have e2 : w2.cell? ⟨fb, 0, none⟩ = some (.int .i64 s.n) := by rw [hw2]; exact b0
                        have e3 : w2.cell? ⟨fb, 1, none⟩ = some (.int .i64 s.d) := by rw [hw2]; exact b1
                        have e4 : w2.frozen? ⟨fb, 0, none⟩ = false := by rw [hw2]; exact f0
                        have e5 : w2.frozen? ⟨fb, 1, none⟩ = false := by rw [hw2]; exact f1
                        have HFIN : Hid (Blk ((w2.setCell ⟨fb, 0, none⟩ (.int .i64 N)).setCell ⟨fb, 1, none⟩ (.int .i64 D)) fb 38 [.int .i64 N, .int .i64 D] ∧ Below fb wq2 ((w2.setCell ⟨fb, 0, none⟩ (.int .i64 N)).setCell ⟨fb, 1, none⟩ (.int .i64 D))) := by
                          refine ⟨?_, ?_⟩
                          · rw [hw2]; exact ((HF3.out.drew.set 0 _).set 1 _)
                          · have hbb : Below fb wq2 w2 := by rw [hw2]; exact HB3.out.drew
                            exact hbb.trans (Mod.below (F := fun k => k = fb) (((Mod.refl (fun k => k = fb) _).setCell ⟨fb, 0, none⟩ (fun _ => rfl) _).setCell ⟨fb, 1, none⟩ (fun _ => rfl) _) (by have := hbb.size; rw [HFE.out] at this; exact this) (fun k hk => by have e : k = fb := hk; omega))
                        clear hw2 a0 a1 b0 b1 f0 f1
                        simp only [List.take_succ_cons, List.take_zero, List.drop_succ_cons, List.drop_zero]
                        repeat still_step
                        refine wpStill_nil ?_
                        go_wp2_with fail
                        go_roundw
                        case rel =>
                          refine ⟨j + 1, by omega, by omega, by go_num, by rw [HNX.out, HUPD.out], by rw [HNX.out, HUPD.out], by rw [HNX.out]; exact HRB.out.upd i j HLIMP.out, by rw [HNX.out, HUPD.out]; exact HFIN.out.1, HFIN.out.2⟩
                        case measure => simp [intOf]; omega
                      · have t3 : decide (N * s.d < s.n * D) = false := by simp; omega
                        have HUPD : Hid (s.upd i j (rdl m n d L i j) = s) := by
                          show _ = _
                          rw [HPAIR.out]
                          unfold Bs.upd
                          rw [if_neg]
                          rintro (hh | hh)
                          · exact HS0.out hh
                          · rw [HLS.out, t3] at hh; cases hh
                        clear hlt
                        go_wp2_with fail
                        go_roundw
                        case rel =>
                          refine ⟨j + 1, by omega, by omega, by go_num, by rw [HNX.out, HUPD.out], by rw [HNX.out, HUPD.out], by rw [HNX.out]; exact HRB.out.upd i j HLIMP.out, by rw [HNX.out, HUPD.out]; exact HF3.out, HB3.out⟩
                        case measure => simp [intOf]; omega
                · obtain rfl : ln = j := by omega
                  go_wp2_with fail
                  go_roundw
                  case rel => exact ⟨i + 1, by omega, by go_num, by rw [rTo, HLN.out], by rw [rTo, HLN.out], by rw [rTo, HLN.out]; exact HRB.out, by rw [rTo, HLN.out]; exact HFBK.out, HBLW.out⟩
                  case measure => simp [intOf]; omega
            · obtain rfl : ln = i := by omega
              obtain ⟨a, c, hpl, hbest⟩ := HINV.out.best (by omega)
              have HPL := Lib.hid hpl
              have HNE := Lib.hid (HINV.out.ne_of_PL hpl)
              have hcl := HINV.out.len
              have HBX : Hid (rTo m n d L ln = ⟨pos (clS n m d q) a, pos (clS n m d q) c, lowN (distL n m (runS n m d q).sz (runS n m d q).bt a c).1 (distL n m (runS n m d q).sz (runS n m d q).bt a c).2, lowD (distL n m (runS n m d q).sz (runS n m d q).bt a c).1 (distL n m (runS n m d q).sz (runS n m d q).bt a c).2⟩) := by
                show _ = _
                have := map_best HD.out HINV.out
                rw [← HLE.out, HLN.out, hbest] at this
                rw [this]
                unfold mapB
                rw [if_neg (by simp)]
                simp
              have hxy : pos (clS n m d q) a < pos (clS n m d q) c := pos_lt hpl.1 (by have := hpl.2.1; omega) HNE.out.1
              have hyl : pos (clS n m d q) c < ln := by
                have h1 := pos_lt (cl := clS n m d q) (a := c) (b := (clS n m d q).length) (by have := hpl.2.1; omega) (Nat.le_refl _) HNE.out.2
                rw [pos_end, ← HLE.out, HLN.out] at h1
                exact h1
              have HGX : Hid (L.getD (pos (clS n m d q) a) [] = CL (clS n m d q) a) := by show _ = _; rw [HLE.out]; exact lv_get HNE.out.1
              have HGY : Hid (L.getD (pos (clS n m d q) c) [] = CL (clS n m d q) c) := by show _ = _; rw [HLE.out]; exact lv_get HNE.out.2
              obtain ⟨N, HN⟩ : ∃ N, Hid (lowN (distL n m (runS n m d q).sz (runS n m d q).bt a c).1 (distL n m (runS n m d q).sz (runS n m d q).bt a c).2 = N) := ⟨_, rfl⟩
              obtain ⟨D, HDD⟩ : ∃ D, Hid (lowD (distL n m (runS n m d q).sz (runS n m d q).bt a c).1 (distL n m (runS n m d q).sz (runS n m d q).bt a c).2 = D) := ⟨_, rfl⟩
              rw [HN.out, HDD.out] at HBX
              have HBEST := Lib.hid hbest
              obtain ⟨x, HXE⟩ : ∃ x, Hid (pos (clS n m d q) a = x) := ⟨_, rfl⟩
              obtain ⟨y, HYE⟩ : ∃ y, Hid (pos (clS n m d q) c = y) := ⟨_, rfl⟩
              rw [HXE.out] at HBX hxy HGX
              rw [HYE.out] at HBX hxy hyl HGY
              rw [HBX.out] at HFBK ⊢
              dsimp only at HFBK ⊢
              have HCW : Hid (RCl w wr (.slice so ln sc) (.slice lo q lc) L vals) := by
                have := HR.out.cl
                rw [← HLE.out, HLN.out] at this
                exact this.below (by rw [HFE.out]; exact HBLW.out)
              have hou := HCW.out.outer
              rw [HLN.out] at hou
              obtain ⟨g9, c9, h9, _, _, _, hc9, hf9⟩ := owns_form hou (by omega)
              obtain ⟨gi, ci, i1, i2, i3, i4, i5, i6⟩ := HCW.out.inner x (by rw [HLN.out]; omega)
              obtain ⟨gj, cj, j1, j2, j3, j4, j5, j6⟩ := HCW.out.inner y (by rw [HLN.out]; exact hyl)
              have d1 := hc9 x (by omega)
              have d2 := hc9 y (by omega)
              rw [i1, HGX.out] at d1
              rw [j1, HGY.out] at d2
              rw [HGX.out] at i2
              rw [HGY.out] at j2
              injection h9 with h91 h92 h93
              subst h91
              have D1 := Lib.hid d1
              have D2 := Lib.hid d2
              have I2 := Lib.hid i2
              have J2 := Lib.hid j2
              have la1 := HINV.out.len1 a
              have lb1 := HINV.out.len1 c
              obtain ⟨la, HLA⟩ : ∃ la, Hid ((CL (clS n m d q) a).length = la) := ⟨_, rfl⟩
              obtain ⟨lb, HLB⟩ : ∃ lb, Hid ((CL (clS n m d q) c).length = lb) := ⟨_, rfl⟩
              rw [HLA.out] at d1 D1 I2 la1
              rw [HLB.out] at d2 D2 J2 lb1
              have NI : Hid (¬ ((Value.slice lo q lc).ownBlock = some gi)) := i4
              have NJ : Hid (¬ ((Value.slice lo q lc).ownBlock = some gj)) := j4
              have N9 : Hid (¬ ((Value.slice lo q lc).ownBlock = some g9)) := fun e => (HR.out.dis g9 e).1 rfl
              have NF : Hid (¬ ((Value.slice lo q lc).ownBlock = some fb)) := fun e => by have := (HR.out.out.lt fb e).2; rw [HFE.out] at this; omega
              clear hou hc9 hf9 i1 i2 i3 i4 i5 j1 j2 j3 j4 j5 h92 h93 hbest hpl
              have y1 : (x : Int) < (ln : Int) := by omega
              have y2 : (y : Int) < (ln : Int) := by omega
              go_upto_region 24 with fail
              go_region_held3 (fun w' => w'.cell? ⟨g9, x, none⟩ = some (.slice (some ⟨gi, 0, none⟩) la ci) ∧ w'.cell? ⟨g9, y, none⟩ = some (.slice (some ⟨gj, 0, none⟩) lb cj) ∧ Below wr.heap.size wr w')
                (((try go_split_ands); refine two_keep D1 D2 ?_; first | assumption | exact (Below.refl _ _).drew | exact (Below.drew (by assumption)) | exact (Below.alloc (by assumption) (Below.size (by assumption)) _)))
                (first
                  | ((try go_split_ands); refine step_appIn (.slice (some ⟨wr.heap.size, 0, none⟩) 0 0) 0 [] rfl (owns_empty wr 3) (some ⟨gi, 0, none⟩) la ci gi 0 (ints (CL (clS n m d q) a)) rfl (I2.out.below (by assumption)) (fun h => by cases h) (by omega) ?_; intro v1 w4 ho4 hg4 hn4; have hb4 : Below wr.heap.size wr w4 := Below.trans (by assumption) (grown_blk hg4 (Nat.le_refl _) (Below.size (by assumption))); have hnw4 := app_new hn4 (Nat.le_refl _) (Below.size (by assumption)); obtain ⟨vo1, vc1, rfl⟩ := owns_slice ho4; clear hg4 hn4)
                  | ((try go_split_ands); refine step_appIn (.slice vo1 (0 + la) vc1) (0 + la) ([] ++ ints (CL (clS n m d q) a)) rfl ho4 (some ⟨gj, 0, none⟩) lb cj gj 0 (ints (CL (clS n m d q) c)) rfl (J2.out.below (by assumption)) (fun h => by cases h) (by omega) ?_; intro v2 w5 ho5 hg5 hn5; have hb5 : Below wr.heap.size wr w5 := Below.trans hb4 (grown_below hg5 hnw4 (Below.size hb4)); have hnw5 := app_new2 hn5 hnw4 (Below.size hb4); obtain ⟨vo2, vc2, rfl⟩ := owns_slice ho5; clear hg5 hn5))
              have HO5 := Lib.hid ho5
              have HB5 := Lib.hid hb5
              have HNW5 := Lib.hid hnw5
              clear ho4 hb4 hnw4 ho5 hb5 hnw5 d1 d2
              have ci0 := I2.out.cell 0 (by rw [← HLA.out]; exact List.length_pos_iff.2 HNE.out.1)
              have cj0 := J2.out.cell 0 (by rw [← HLB.out]; exact List.length_pos_iff.2 HNE.out.2)
              rw [ints_head (HINV.out.head a HNE.out.1), Nat.add_zero] at ci0
              rw [ints_head (HINV.out.head c HNE.out.2), Nat.add_zero] at cj0
              have e1 := (HB5.out.cell (World.block_lt_of_cell? wr _ D1.out)).trans D1.out
              have e2 := (HB5.out.cell (World.block_lt_of_cell? wr _ D2.out)).trans D2.out
              have e3 := (HB5.out.cell (World.block_lt_of_cell? wr _ ci0)).trans ci0
              have e4 := (HB5.out.cell (World.block_lt_of_cell? wr _ cj0)).trans cj0
              have F5 := Lib.hid (HFBK.out.below HB5.out HFBK.out.lt)
              have e5 := F5.out.cell (i := 0) rfl
              have e6 := F5.out.cell (i := 1) rfl
              have E1 := Lib.hid e1
              have E2 := Lib.hid e2
              have E3 := Lib.hid e3
              have E4 := Lib.hid e4
              have E5 := Lib.hid e5
              have E6 := Lib.hid e6
              have HRO5 : Hid (w5.ownsRow 0 47 5 (.slice lo q lc) q ((runS n m d q).ms.flatMap Mg.cells)) := owns_mod (owns_mod HR.out.out (Mod.of_below (F := fun _ => False) (by rw [HFE.out]; exact HBLW.out)) (fun _ _ h => h)) (Mod.of_below (F := fun _ => False) HB5.out) (fun _ _ h => h)
              clear ci0 cj0
              have pos0a : (0 : Int) < (la : Int) := by have := List.length_pos_iff.2 HNE.out.1; rw [HLA.out] at this; omega
              have pos0b : (0 : Int) < (lb : Int) := by have := List.length_pos_iff.2 HNE.out.2; rw [HLB.out] at this; omega
              have pa0 : 0 < la := by omega
              have pb0 : 0 < lb := by omega
              have hlab : la + lb ≤ 28 := by omega
              obtain ⟨lab, HLAB⟩ : ∃ lab, Hid (la + lb = lab) := ⟨_, rfl⟩
              simp only [HLAB.out]
              go_upto_region 25 with fail
              have HOWN5 := Lib.hid (HRO5.out.alloc (.cells #[.int .i64 a, .int .i64 c, .int .i64 N, .int .i64 D, .int .i64 lab] 47))
              have HNEW5 := Lib.hid (news_new w5 47 [.int .i64 a, .int .i64 c, .int .i64 N, .int .i64 D, .int .i64 lab])
              go_cut [11] (fun s11 wx => OutAt w5 (.slice lo q lc) q ((runS n m d q).ms.flatMap Mg.cells ++ [.int .i64 a, .int .i64 c, .int .i64 N, .int .i64 D, .int .i64 lab]) s11 wx)
              case first =>
                go_region_held3 (fun w' => w'.cell? ⟨g9, x, none⟩ = some (.slice (some ⟨gi, 0, none⟩) la ci) ∧ w'.cell? ⟨g9, y, none⟩ = some (.slice (some ⟨gj, 0, none⟩) lb cj) ∧ w'.cell? ⟨gi, 0, none⟩ = some (.int .i64 a) ∧ w'.cell? ⟨gj, 0, none⟩ = some (.int .i64 c) ∧ w'.cell? ⟨fb, 0, none⟩ = some (.int .i64 N) ∧ w'.cell? ⟨fb, 1, none⟩ = some (.int .i64 D) ∧ Mod (fun k => (Value.slice lo q lc).ownBlock = some k) w5 w')
                  (((try go_split_ands); refine six_keepM E1 E2 E3 E4 E5 E6 N9.out N9.out NI.out NJ.out NF.out NF.out ?_; first | assumption | exact (Mod.refl _ _).drew | exact (Mod.drew (by assumption)) | exact (Mod.alloc (by assumption) _)))
                  (first
                    | ((try go_split_ands); refine step_appB 47 (.agg #[.int .i64 0, .int .i64 0, .int .i64 0, .int .i64 0, .int .i64 0]) 5 40 Try.underlying27 Try.infoMergeZ rfl (by decide) (.slice lo q lc) q ((runS n m d q).ms.flatMap Mg.cells) rfl HOWN5.out ⟨w5.heap.size, 0, none⟩ 1 1 [.int .i64 a, .int .i64 c, .int .i64 N, .int .i64 D, .int .i64 lab] rfl rfl HNEW5.out (by simp [Value.oneCell']) (by unfold maxLen; omega) (by omega) ?_; intro v6 w6 ho6 hg6 hn6; have hm6 : Mod (fun k => (Value.slice lo q lc).ownBlock = some k) w5 w6 := Mod.grown (by assumption) hg6 (fun k e _ => e); have hw6 := Mod.size (by assumption : Mod (fun k => (Value.slice lo q lc).ownBlock = some k) w5 _); have hout : OutAt w5 (.slice lo q lc) q _ v6 w6 := ⟨ho6, hm6, fun k hk => (hn6 k hk).imp id (fun e => Nat.le_trans (Nat.le_trans (Nat.le_succ _) (by simp)) e)⟩; clear hg6 hn6 ho6))
                all_goals
                  go_wp2_with fail
                  go_meet
                  exact hout
              case rest =>
                have HOUT := Lib.hid hcut
                have HC5 := Lib.hid (HCW.out.below HB5.out)
                have HC6 := Lib.hid (HC5.out.modOut HOUT.out.mod (fun x hx e => (HR.out.dis x hx).1 e) HOUT.out.new)
                have hlabE : (CL (clS n m d q) a ++ CL (clS n m d q) c).length = lab := by rw [List.length_append, HLA.out, HLB.out, HLAB.out]
                have ho5 := HO5.out
                rw [Nat.zero_add, HLAB.out] at ho5
                have hab0 : 0 < lab := by have := HLAB.out; omega
                obtain ⟨gn, cn, hvn, _, _, _, hcn, _⟩ := owns_form ho5 hab0
                injection hvn with hvo _ hvc
                subst hvo
                subst hvc
                have HROWN : Hid (InRow .i64 wc (some ⟨gn, 0, none⟩) (CL (clS n m d q) a ++ CL (clS n m d q) c).length gn 0 (ints (CL (clS n m d q) a ++ CL (clS n m d q) c))) := by
                  have hin5 : InRow .i64 w5 (some ⟨gn, 0, none⟩) (CL (clS n m d q) a ++ CL (clS n m d q) c).length gn 0 (ints (CL (clS n m d q) a ++ CL (clS n m d q) c)) := by
                    refine ⟨ints_len _, fun _ => rfl, fun k hk => ?_⟩
                    rw [hlabE] at hk
                    rw [Nat.zero_add, hcn k (by omega)]
                    have e : ([] ++ ints (CL (clS n m d q) a)) ++ ints (CL (clS n m d q) c) = ints (CL (clS n m d q) a ++ CL (clS n m d q) c) := by simp [ints]
                    rw [e]
                    have hkl : k < (ints (CL (clS n m d q) a ++ CL (clS n m d q) c)).length := by rw [ints_len, hlabE]; exact hk
                    simp [hkl]
                  refine hin5.mod HOUT.out.mod (fun _ e => ?_)
                  have h1 := HNW5.out gn rfl
                  have h2 := (HRO5.out.lt gn e).2
                  have h3 := (HR.out.out.lt gn e).2
                  have h4 := HBLW.out.size
                  omega
                have hg9 : g9 < wr.heap.size := (HCW.out.outer.lt g9 rfl).2
                have hgn : wr.heap.size ≤ gn := HNW5.out gn rfl
                have hgn5 : gn < w5.heap.size := (ho5.lt gn rfl).2
                have h56 := HOUT.out.mod.size
                have HNU : Hid (u11.ownBlock ≠ some gn) := fun e => by
                  rcases HOUT.out.new gn e with e' | e'
                  · have h3 := (HR.out.out.lt gn e').2
                    have h4 := HBLW.out.size
                    omega
                  · omega
                have HNU9 : Hid (u11.ownBlock ≠ some g9) := fun e => by
                  rcases HOUT.out.new g9 e with e' | e'
                  · exact N9.out e'
                  · have h4 := HB5.out.size; omega
                have hww : w.heap.size ≤ wr.heap.size := Nat.le_trans HR.out.bel.size HBLW.out.size
                have STO := Lib.hid (HC6.out.store HLN.out (x := x) (by omega) (cn := vc2) HROWN.out (by omega) HNU.out (by omega) (by omega))
                rw [hlabE] at STO
                have houtr := HC6.out.outer
                rw [HLN.out] at houtr
                obtain ⟨g60, c60, h90, hcap9, hcap8, _, hc6, hf6⟩ := owns_form houtr (by omega)
                injection h90 with h901 _ h903
                injection h901 with h902
                injection h902 with h904
                subst h904
                have hcapsc : ln ≤ sc := by rw [h903]; exact hcap9
                clear h903 hcap9 hcap8
                have s1 := hc6 x (by omega)
                have hvx : x < vals.length := by rw [HC6.out.len, HLN.out]; omega
                rw [List.getElem?_eq_getElem hvx] at s1
                have f1 := hf6 x
                have HOW6 := Lib.hid HOUT.out.own
                clear ho5 hcn houtr hc6 hf6 e1 e2 e3 e4 e5 e6
                generalize hvv : vals[x] = vx at s1
                clear hvv
                go_upto_region 27 with fail
                generalize hW7 : World.setCell wc _ _ = W7
                rw [hW7] at STO
                have HB7 : Hid (Below w.heap.size w W7 ∧ W7.heap.size = wc.heap.size ∧ W7.ownsRow 0 47 5 u11 (q + 1) ((runS n m d q).ms.flatMap Mg.cells ++ [.int .i64 a, .int .i64 c, .int .i64 N, .int .i64 D, .int .i64 lab])) := by
                  have hm : Mod (fun k => k = g9) wc W7 := by rw [← hW7]; exact Mod.setCell (Mod.refl (fun k => k = g9) wc) ⟨g9, x, none⟩ (fun _ => rfl) _
                  have b1 : Below w.heap.size w wr := HR.out.bel.trans (HBLW.out.mono (by rw [← HFE.out]; exact HR.out.bel.size))
                  have b2 : Below w.heap.size w w5 := b1.trans (HB5.out.mono hww)
                  have b3 : Below w.heap.size w wc := b2.trans (HOUT.out.mod.below b2.size (fun k hk => (HR.out.dis k hk).2))
                  refine ⟨b3.trans (hm.below b3.size (fun k hk => by have e : k = g9 := hk; have h5 := HR.out.cl.new g9 rfl; omega)), by rw [← hW7]; simp, owns_mod HOW6.out hm (fun k hk e => HNU9.out (by rw [← show k = g9 from e]; exact hk))⟩
                obtain ⟨vals7, HV7⟩ : ∃ v7, Hid (vals.set x (.slice (some ⟨gn, 0, none⟩) lab vc2) = v7) := ⟨_, rfl⟩
                obtain ⟨L7, HL7⟩ : ∃ l7, Hid (L.set x (CL (clS n m d q) a ++ CL (clS n m d q) c) = l7) := ⟨_, rfl⟩
                rw [HV7.out, HL7.out] at STO
                have hl7 : L7.length = ln := by rw [← HL7.out, List.length_set]; exact HLN.out
                have hv7 : vals7.length = ln := by rw [STO.out.len]; exact hl7
                have hou7 := STO.out.outer
                rw [hl7] at hou7
                obtain ⟨g70, c70, h90, _, _, _, hc7, _⟩ := owns_form hou7 (by omega)
                injection h90 with h901 _ h903
                injection h901 with h902
                injection h902 with h904
                subst h904
                clear h903
                have HC7 : Hid (∀ k, k < ln → W7.cell? ⟨g9, k, none⟩ = vals7[k]?) := fun k hk => hc7 k (by omega)
                have HONE : Hid (∀ u ∈ vals7, u.oneCell' = true) := fun u hu => by
                  obtain ⟨k, hk, rfl⟩ := List.getElem_of_mem hu
                  obtain ⟨g, cc, h1, _⟩ := STO.out.inner k (by rw [hl7, ← hv7]; exact hk)
                  rw [List.getElem?_eq_getElem hk] at h1
                  injection h1 with h1
                  rw [h1]; rfl
                clear hW7 hou7 hc7 s1 f1
                have u1 : (y : Int) ≤ (sc : Int) := by omega
                have u2 : (y : Int) + 1 ≤ (ln : Int) := by omega
                have u3 : (ln : Int) ≤ (sc : Int) := by omega
                have u4 : (0 : Int) ≤ (y : Int) + 1 := by omega
                have wv : IntKind.i64.wrap ((y : Int) + 1) = (y : Int) + 1 := IntWalk.i64_in _ (by omega)
                have hg97 : g9 < W7.heap.size := by have h1 := HB7.out.2.1; have h2 := HB5.out.size; omega
                by_cases hsc : sc = y + 1
                · have HSC : Hid (ln = y + 1) := by show _ = _; omega
                  have ux : (y : Int) ≤ (y : Int) + 1 := by omega
                  have ux2 : y ≤ y + 1 := by omega
                  go_region_held3 (fun w' => Below W7.heap.size W7 w')
                    ((first | assumption | exact (Below.refl _ _).drew | exact (Below.drew (by assumption)) | exact (Below.alloc (by assumption) (Below.size (by assumption)) _)))
                    (first
                      | (refine step_appB 36 (.slice none 0 0) 1 24 Try.underlying61 Try.infoSlI rfl (by decide) (.slice (some ⟨W7.heap.size, 0, none⟩) 0 0) 0 [] rfl (owns_empty W7 36) ⟨g9, 0, none⟩ y (y + 1) (vals7.take y) rfl (by simp; omega) (take_cells HC7.out hg97 (by assumption) (by omega)) (fun u hu => HONE.out u (List.mem_of_mem_take hu)) (by unfold maxLen; omega) (by omega) ?_; intro v7 w8 ho8 hg8 hn8; have hb8 : Below W7.heap.size W7 w8 := Below.trans (by assumption) (grown_blk hg8 (Nat.le_refl _) (Below.size (by assumption))); have hnw8 := app_new hn8 (Nat.le_refl _) (Below.size (by assumption)); obtain ⟨vo8, vc8, rfl⟩ := owns_slice ho8; clear hg8 hn8)
                      | (refine step_appB 36 (.slice none 0 0) 1 24 Try.underlying61 Try.infoSlI rfl (by decide) (.slice vo8 (0 + y) vc8) (0 + y) ([] ++ vals7.take y) rfl ho8 ⟨g9, 0, none⟩ (ln - (y + 1)) 0 (vals7.drop (y + 1)) rfl (by simp; omega) (drop_none (by have := HSC.out; omega)) (fun u hu => HONE.out u (List.mem_of_mem_drop hu)) (by unfold maxLen; omega) (by omega) ?_; intro v9 w9 ho9 hg9x hn9; have hb9 : Below W7.heap.size W7 w9 := Below.trans hb8 (grown_below hg9x hnw8 (Below.size hb8)); have hnw9 := app_new2 hn9 hnw8 (Below.size hb8); have hcla : ClAt W7 _ _ v9 w9 := ⟨ho9, hb9, hnw9⟩; clear hg9x hn9 ho9 hnw9))
                  all_goals
                    have HCL := Lib.hid hcla
                    have HFIN : Hid (RR w n m d (q + 1) v9 u11 (([] ++ vals7.take y) ++ vals7.drop (y + 1)) w9) := by
                      have hbel := HCL.out.bel
                      have hwW : w.heap.size ≤ W7.heap.size := HB7.out.1.size
                      have eL : lv (clS n m d (q + 1)) = L7.take y ++ L7.drop (y + 1) := by
                        have e1 : clS n m d (q + 1) = clU (clS n m d q) a c := by simp only [clS, HBEST.out, Int.toNat_natCast]
                        have hpl := HPL.out
                        rw [e1, lv_clU hpl.1 (by have := hpl.2.1; omega) HNE.out.1 HNE.out.2, HXE.out, HYE.out, ← HLE.out, HL7.out]
                      have eLen : (L7.take y ++ L7.drop (y + 1)).length = 0 + y + (ln - (y + 1)) := by simp [hl7]; omega
                      refine ⟨?_, ?_, fun k hk => ⟨fun e => ?_, ?_⟩, HB7.out.1.trans (hbel.mono hwW)⟩
                      · rw [eL, List.nil_append]
                        refine STO.out.cut (by rw [hl7]; exact hyl) hbel hwW ?_ HCL.out.new
                        rw [eLen]
                        have := HCL.out.own
                        rw [List.nil_append] at this
                        exact this
                      · have e2 : (runS n m d (q + 1)).ms.flatMap Mg.cells = (runS n m d q).ms.flatMap Mg.cells ++ [.int .i64 a, .int .i64 c, .int .i64 N, .int .i64 D, .int .i64 lab] := by
                          have e3 : (lab : Int) = (runS n m d q).sz.getD a 0 + (runS n m d q).sz.getD c 0 := by rw [HINV.out.szE, HINV.out.szE, HLA.out, HLB.out, ← HLAB.out]; simp
                          simp only [runS, HBEST.out, mgOf, Int.toNat_natCast, List.flatMap_append, List.flatMap_cons, List.flatMap_nil, List.append_nil, Mg.cells, HN.out, HDD.out, e3]
                        rw [e2]
                        exact owns_mod HB7.out.2.2 (Mod.of_below (F := fun _ => False) hbel) (fun _ _ h => h)
                      · have h1 := (HB7.out.2.2.lt k hk).2
                        have h2 := HCL.out.new k e
                        omega
                      · rcases HOUT.out.new k hk with e | e
                        · exact (HR.out.dis k e).2
                        · have := HB5.out.size; omega
                    have HLW : Hid (lenW v9 < ln) := by
                      obtain ⟨o, cc, e⟩ := owns_slice HCL.out.own
                      show lenW v9 < ln
                      rw [e]
                      show 0 + y + (ln - (y + 1)) < ln
                      omega
                    go_wp2_with fail
                    go_roundw
                    case rel => exact ⟨q + 1, .inl (by omega), _, HFIN.out⟩
                    case measure => exact HLW.out
                · have hsc' : ¬ (sc = y + 1) := hsc
                  go_region_held3 (fun w' => Below W7.heap.size W7 w')
                    ((first | assumption | exact (Below.refl _ _).drew | exact (Below.drew (by assumption)) | exact (Below.alloc (by assumption) (Below.size (by assumption)) _)))
                    (first
                      | (refine step_appB 36 (.slice none 0 0) 1 24 Try.underlying61 Try.infoSlI rfl (by decide) (.slice (some ⟨W7.heap.size, 0, none⟩) 0 0) 0 [] rfl (owns_empty W7 36) ⟨g9, 0, none⟩ y sc (vals7.take y) rfl (by simp; omega) (take_cells HC7.out hg97 (by assumption) (by omega)) (fun u hu => HONE.out u (List.mem_of_mem_take hu)) (by unfold maxLen; omega) (by omega) ?_; intro v7 w8 ho8 hg8 hn8; have hb8 : Below W7.heap.size W7 w8 := Below.trans (by assumption) (grown_blk hg8 (Nat.le_refl _) (Below.size (by assumption))); have hnw8 := app_new hn8 (Nat.le_refl _) (Below.size (by assumption)); obtain ⟨vo8, vc8, rfl⟩ := owns_slice ho8; clear hg8 hn8)
                      | (refine step_appB 36 (.slice none 0 0) 1 24 Try.underlying61 Try.infoSlI rfl (by decide) (.slice vo8 (0 + y) vc8) (0 + y) ([] ++ vals7.take y) rfl ho8 ⟨g9, y + 1, none⟩ (ln - (y + 1)) (sc - (y + 1)) (vals7.drop (y + 1)) rfl (by simp; omega) (drop_cells HC7.out hv7 hg97 hb8) (fun u hu => HONE.out u (List.mem_of_mem_drop hu)) (by unfold maxLen; omega) (by omega) ?_; intro v9 w9 ho9 hg9x hn9; have hb9 : Below W7.heap.size W7 w9 := Below.trans hb8 (grown_below hg9x hnw8 (Below.size hb8)); have hnw9 := app_new2 hn9 hnw8 (Below.size hb8); have hcla : ClAt W7 _ _ v9 w9 := ⟨ho9, hb9, hnw9⟩; clear hg9x hn9 ho9 hnw9))
                  have HCL := Lib.hid hcla
                  have HFIN : Hid (RR w n m d (q + 1) v9 u11 (([] ++ vals7.take y) ++ vals7.drop (y + 1)) w9) := by
                    have hbel := HCL.out.bel
                    have hwW : w.heap.size ≤ W7.heap.size := HB7.out.1.size
                    have eL : lv (clS n m d (q + 1)) = L7.take y ++ L7.drop (y + 1) := by
                      have e1 : clS n m d (q + 1) = clU (clS n m d q) a c := by simp only [clS, HBEST.out, Int.toNat_natCast]
                      have hpl := HPL.out
                      rw [e1, lv_clU hpl.1 (by have := hpl.2.1; omega) HNE.out.1 HNE.out.2, HXE.out, HYE.out, ← HLE.out, HL7.out]
                    have eLen : (L7.take y ++ L7.drop (y + 1)).length = 0 + y + (ln - (y + 1)) := by simp [hl7]; omega
                    refine ⟨?_, ?_, fun k hk => ⟨fun e => ?_, ?_⟩, HB7.out.1.trans (hbel.mono hwW)⟩
                    · rw [eL, List.nil_append]
                      refine STO.out.cut (by rw [hl7]; exact hyl) hbel hwW ?_ HCL.out.new
                      rw [eLen]
                      have := HCL.out.own
                      rw [List.nil_append] at this
                      exact this
                    · have e2 : (runS n m d (q + 1)).ms.flatMap Mg.cells = (runS n m d q).ms.flatMap Mg.cells ++ [.int .i64 a, .int .i64 c, .int .i64 N, .int .i64 D, .int .i64 lab] := by
                        have e3 : (lab : Int) = (runS n m d q).sz.getD a 0 + (runS n m d q).sz.getD c 0 := by rw [HINV.out.szE, HINV.out.szE, HLA.out, HLB.out, ← HLAB.out]; simp
                        simp only [runS, HBEST.out, mgOf, Int.toNat_natCast, List.flatMap_append, List.flatMap_cons, List.flatMap_nil, List.append_nil, Mg.cells, HN.out, HDD.out, e3]
                      rw [e2]
                      exact owns_mod HB7.out.2.2 (Mod.of_below (F := fun _ => False) hbel) (fun _ _ h => h)
                    · have h1 := (HB7.out.2.2.lt k hk).2
                      have h2 := HCL.out.new k e
                      omega
                    · rcases HOUT.out.new k hk with e | e
                      · exact (HR.out.dis k e).2
                      · have := HB5.out.size; omega
                  have HLW : Hid (lenW v9 < ln) := by
                    obtain ⟨o, cc, e⟩ := owns_slice HCL.out.own
                    show lenW v9 < ln
                    rw [e]
                    show 0 + y + (ln - (y + 1)) < ln
                    omega
                  go_wp2_with fail
                  go_roundw
                  case rel => exact ⟨q + 1, .inl (by omega), _, HFIN.out⟩
                  case measure => exact HLW.out
        · have t1 : decide (1 < ln) = false := by simp; omega
          have t1' : decide ((1 : Int) < (ln : Int)) = false := by simp; omega
          have hqn : q = n - 1 := by omega
          have HQ := Lib.hid hqn
          clear hqn
          go_wp2_with fail
          go_ret2
          refine ⟨⟨.slice lo q lc, rfl, ?_, HR.out.bel⟩⟩
          have := HR.out.out
          unfold runL
          rw [← HQ.out]
          exact this

end Go.Proofs.Ythhddjknjnjbhaa
