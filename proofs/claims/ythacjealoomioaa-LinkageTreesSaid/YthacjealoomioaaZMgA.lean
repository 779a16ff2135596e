/- Several texts in one: Base, Whole, LkI, App, LkO. -/
import Derived.WalkKit
import Derived.WalkSpells
import Derived.WalkLawsBesides
import Derived.BigQuiet
import Derived.Deep.QuietTactic
import Derived.Lib.Hide
import Derived.Lib.QuietBelow
import Derived.LaidEqlPtr
import Derived.OneCell
import Derived.StillTailTactics
import Derived.Deep.MidRow
/- General facts on worlds: which blocks a step may have changed; rows of cells; no program in sight. -/
namespace Go.Proofs.Ythacjealoomioaa
set_option linter.unusedVariables false
set_option linter.unusedSimpArgs false
open Go.RowKit

/-- From w to w' only blocks of F, and new ones, have changed. -/
structure Mod (F : Nat → Prop) (w w' : World) : Prop where
  os : w'.os = w.os
  tape : w'.tape = w.tape
  output : w'.output = w.output
  size : w.heap.size ≤ w'.heap.size
  block : ∀ k, k < w.heap.size → ¬ F k → w'.heap[k]? = w.heap[k]?

theorem Mod.refl (F : Nat → Prop) (w : World) : Mod F w w := ⟨rfl, rfl, rfl, Nat.le_refl _, fun _ _ _ => rfl⟩

theorem Mod.trans {F G : Nat → Prop} {a b c : World} (h : Mod F a b) (k : Mod G b c) (hg : ∀ x, x < a.heap.size → G x → F x) : Mod F a c :=
  ⟨k.os.trans h.os, k.tape.trans h.tape, k.output.trans h.output, Nat.le_trans h.size k.size,
    fun i hi hn => (k.block i (Nat.lt_of_lt_of_le hi h.size) (fun g => hn (hg i hi g))).trans (h.block i hi hn)⟩

theorem Mod.mono {F G : Nat → Prop} {w w' : World} (h : Mod F w w') (hg : ∀ x, x < w.heap.size → F x → G x) : Mod G w w' :=
  ⟨h.os, h.tape, h.output, h.size, fun i hi hn => h.block i hi (fun f => hn (hg i hi f))⟩

theorem Mod.of_below {F : Nat → Prop} {w w' : World} (h : Below w.heap.size w w') : Mod F w w' :=
  ⟨h.os, h.tape, h.output, h.size, fun i hi _ => h.block i hi⟩

theorem Mod.below {F : Nat → Prop} {w w' : World} {B : Nat} (h : Mod F w w') (hB : B ≤ w.heap.size) (hF : ∀ x, F x → B ≤ x) : Below B w w' :=
  ⟨h.os, h.tape, h.output, h.size, fun i hi => h.block i (Nat.lt_of_lt_of_le hi hB) (fun f => by have := hF i f; omega)⟩

theorem Mod.setCell {F : Nat → Prop} {a w : World} (h : Mod F a w) (p : Addr) (hp : p.block < a.heap.size → F p.block) (u : Value) : Mod F a (w.setCell p u) :=
  h.trans (G := fun x => x = p.block) ⟨rfl, rfl, rfl, by simp [World.setCell], fun k _ hk => Below.heap_setCell _ _ _ _ hk⟩
    (fun x hx e => by subst e; exact hp hx)

theorem Mod.alloc {F : Nat → Prop} {a w : World} (h : Mod F a w) (o : Obj) : Mod F a (w.alloc o) :=
  h.trans (G := fun _ => False) ⟨rfl, rfl, rfl, by simp, fun k hk _ => Below.heap_alloc _ _ _ hk⟩ (fun _ _ e => e.elim)

theorem Mod.drew {F : Nat → Prop} {a w : World} (h : Mod F a w) : Mod F a w.drew := ⟨h.os, h.tape, h.output, h.size, h.block⟩

theorem Mod.drewN {F : Nat → Prop} {a w : World} (h : Mod F a w) (n : Nat) : Mod F a (w.drewN n) := ⟨h.os, h.tape, h.output, h.size, h.block⟩

theorem Mod.grown {F : Nat → Prop} {a w w' : World} {row : Option Nat} (h : Mod F a w) (hg : w.grownBy w' row) (hr : ∀ k, row = some k → k < a.heap.size → F k) : Mod F a w' :=
  h.trans (G := fun x => some x = row) ⟨hg.os, hg.tape, hg.output, hg.size, fun k hk hn => hg.block k hk hn⟩ (fun x hx e => hr x e.symm hx)

theorem Mod.cell {F : Nat → Prop} {w w' : World} (h : Mod F w w') {p : Addr} (hp : p.block < w.heap.size) (hn : ¬ F p.block) : w'.cell? p = w.cell? p :=
  World.cell?_of_block (w := w) (h.block p.block hp hn)

theorem Mod.frozen {F : Nat → Prop} {w w' : World} (h : Mod F w w') {p : Addr} (hp : p.block < w.heap.size) (hn : ¬ F p.block) : w'.frozen? p = w.frozen? p :=
  World.frozen?_of_block (w := w) (h.block p.block hp hn)

theorem bel_drewN {B : Nat} {a w : World} (h : Below B a w) (n : Nat) : Below B a (w.drewN n) := ⟨h.os, h.tape, h.output, h.size, h.block⟩

/-- A block that is known whole. -/
def Blk (w : World) (b : Nat) (T : TypeId) (cs : List Value) : Prop := w.heap[b]? = some (.cells cs.toArray T (0, 0))

theorem Blk.lt {w : World} {b : Nat} {T : TypeId} {cs : List Value} (h : Blk w b T cs) : b < w.heap.size := (Array.getElem?_eq_some_iff.1 h).1

theorem Blk.cell {w : World} {b : Nat} {T : TypeId} {cs : List Value} (h : Blk w b T cs) {i : Nat} {v : Value} (hi : cs[i]? = some v) : w.cell? ⟨b, i, none⟩ = some v := by
  unfold Blk at h
  simp [World.cell?, h, hi]

theorem Blk.free {w : World} {b : Nat} {T : TypeId} {cs : List Value} (h : Blk w b T cs) (i : Nat) : w.frozen? ⟨b, i, none⟩ = false := by
  unfold Blk at h
  simp [World.frozen?, h]

theorem Blk.set {w : World} {b : Nat} {T : TypeId} {cs : List Value} (h : Blk w b T cs) (i : Nat) (v : Value) : Blk (w.setCell ⟨b, i, none⟩ v) b T (cs.set i v) := by
  unfold Blk at *
  simp [World.setCell, Array.getElem?_modify, h]

theorem Blk.other {w : World} {b : Nat} {T : TypeId} {cs : List Value} (h : Blk w b T cs) (p : Addr) (v : Value) (hp : b ≠ p.block) : Blk (w.setCell p v) b T cs := by
  unfold Blk at *
  rw [Below.heap_setCell _ _ _ _ hp]; exact h

theorem Blk.alloc {w : World} {b : Nat} {T : TypeId} {cs : List Value} (h : Blk w b T cs) (o : Obj) : Blk (w.alloc o) b T cs := by
  have := h.lt
  unfold Blk at *
  rw [Below.heap_alloc _ _ _ this]; exact h

theorem Blk.new (w : World) (T : TypeId) (cs : List Value) : Blk (w.alloc (.cells cs.toArray T)) w.heap.size T cs := heap_alloc_new w _

theorem Blk.new' (w : World) (T : TypeId) (cs : List Value) {n : Nat} (h : w.heap.size = n) : Blk (w.alloc (.cells cs.toArray T)) n T cs := by
  subst h; exact heap_alloc_new w _

theorem Blk.mod {F : Nat → Prop} {w w' : World} {b : Nat} {T : TypeId} {cs : List Value} (h : Blk w b T cs) (m : Mod F w w') (hn : ¬ F b) : Blk w' b T cs := by
  have := h.lt
  unfold Blk at *
  rw [m.block b this hn]; exact h

theorem Blk.below {B : Nat} {w w' : World} {b : Nat} {T : TypeId} {cs : List Value} (h : Blk w b T cs) (m : Below B w w') (hn : b < B) : Blk w' b T cs := by
  unfold Blk at *
  rw [m.block b hn]; exact h

theorem Blk.drew {w : World} {b : Nat} {T : TypeId} {cs : List Value} (h : Blk w b T cs) : Blk w.drew b T cs := h

theorem Blk.drewN {w : World} {b : Nat} {T : TypeId} {cs : List Value} (h : Blk w b T cs) (n : Nat) : Blk (w.drewN n) b T cs := h

theorem Blk.inj {w : World} {b : Nat} {T T' : TypeId} {cs cs' : List Value} (h : Blk w b T cs) (h' : Blk w b T' cs') : T = T' ∧ cs = cs' := by
  unfold Blk at *
  rw [h] at h'
  have h2 : cs = cs' ∧ T = T' := by simpa using h'
  exact ⟨h2.2, h2.1⟩

theorem news_new (w : World) (T : TypeId) (cs : List Value) : ∀ j u, cs[j]? = some u → (w.alloc (.cells cs.toArray T)).cell? ((⟨w.heap.size, 0, none⟩ : Addr).add j) = some u := by
  intro j u hu
  have hadd : (⟨w.heap.size, 0, none⟩ : Addr).add j = ⟨w.heap.size, j, none⟩ := by unfold Addr.add; split <;> simp_all
  rw [hadd]
  exact (Blk.new w T cs).cell hu

theorem ret_int {k : IntKind} {a b : Int} (h : a = b) : Ending.returned (.int k a) = .returned (.int k b) := by rw [h]
theorem ret_bool {a b : Bool} (h : a = b) : Ending.returned (.bool a) = .returned (.bool b) := by rw [h]

theorem madeCells_one (z : Value) (n : Nat) : (madeCells #[z] n).toList = List.replicate n z := by
  simp only [madeCells]
  apply List.ext_getElem?
  intro i
  by_cases h : i < n
  · simp [h, Nat.mod_one]
  · simp [h]

theorem Blk.of_owns {w : World} {base : Nat} {e : TypeId} {size g n : Nat} {xs : List Value} (h : w.ownsRow base e size (.slice (some ⟨g, 0, none⟩) n n) n xs) : Blk w g e xs := by
  rcases h.2 with ⟨h', _⟩ | ⟨g', cap, cur, h', _, hg, _, _, hs, htake⟩
  · simp at h'
  · simp only [Value.slice.injEq, Option.some.injEq, Addr.mk.injEq, and_true, true_and] at h'
    obtain ⟨rfl, rfl⟩ := h'
    unfold Blk
    rw [hg, ← htake, List.take_of_length_le (by simp [hs])]

/-- 'new(T)', 'var x T': a new block of zero cells. -/
theorem wpList_allocB {P : Program} {ops : Array Oper} {rest : List Oper} {d : Tmp} {T ty : TypeId} {pos : String} {aft : Array Edge} {a : Act} {Q : Exit → Act → World → Prop} {w : World}
    (z : Value) (hz : (P.info? T).bind (·.zero) = some z)
    (h : ∀ w1, Blk w1 w.heap.size T z.cells.toList → Below w.heap.size w w1 → wpList P ops Q rest (a.put (some d) (.pointer (some ⟨w.heap.size, 0, none⟩))) w1) :
    wpList P ops Q (⟨some d, .alloc T, ty, pos, aft, none⟩ :: rest) a w := by
  obtain ⟨i, hi, hzz⟩ := Option.bind_eq_some_iff.1 hz
  refine wpList_plain rfl fun K hK => ?_
  unfold Oper.wp
  simp [execOp, Instr.alloc, zeroValue, typeInfo, hi, hzz, newVar, newRow, newObj, Result.andThen]
  exact hK _ _ (h (w.alloc (.cells z.cells T)) (heap_alloc_new w _) ((Below.refl _ _).alloc (Nat.le_refl _) _))

/-- 'make([]T, n)' of elements of one cell. -/
theorem wpList_makeB {P : Program} {ops : Array Oper} {rest : List Oper} {d : Tmp} {t ty : TypeId} {l c : Operand} {pos : String} {aft : Array Edge} {a : Act} {Q : Exit → Act → World → Prop} {w : World}
    (e : TypeId) (z : Value) (bytes : Nat) (h1 : P.underlying t = some (.slice e)) (hz : (P.info? e).map (fun i => (i.zero, i.size, i.bytes)) = some (some z, 1, bytes)) (hone : z.cells = #[z])
    (kl kc : IntKind) (L C : Int) (n : Nat) (hl : a.eval l = .int kl L) (hc : a.eval c = .int kc C) (hL : L = (n : Int)) (hC : C = (n : Int)) (b2 : bytes * n ≤ 281474976710656) (b3 : n ≤ maxLen)
    (h : ∀ w1, Blk w1 w.heap.size e (List.replicate n z) → Below w.heap.size w w1 → wpList P ops Q rest (a.put (some d) (.slice (some ⟨w.heap.size, 0, none⟩) n n)) w1) :
    wpList P ops Q (⟨some d, .makeSlice t l c, ty, pos, aft, none⟩ :: rest) a w := by
  obtain ⟨i, hi, hz0, hz1, hz2⟩ := info_parts hz
  refine wpList_make_full w rfl l c t rfl 0 e i z 1 h1 hi hz0 hz1 kl kc L C n hl hc hL hC (by rw [hz2]; exact b2) b3 (Nat.zero_le _) ?_
  intro w' ho hg
  refine h w' ?_ ⟨hg.os, hg.tape, hg.output, hg.size, fun k hk => hg.block k hk (by simp)⟩
  have := Blk.of_owns ho
  rw [hone, Nat.mul_one, madeCells_one] at this
  exact this

/-- 'append' to a slice of the program's own: the same array, or a new one. -/
theorem run_appendB {P : Program} (w : World) (t ty e : TypeId) (z : Value) (size bytes : Nat) (ht : P.underlying t = some (.slice e)) (hz : (P.info? e).map (fun i => (i.zero, i.size, i.bytes)) = some (some z, size, bytes))
    (hzs : z.cells.size = size) (hsz : 0 < size) (v : Value) (n : Nat) (xs : List Value) (hown : w.ownsRow 0 e size v n xs)
    (a : Addr) (m c : Nat) (news : List Value) (hl : news.length = m * size) (hnews : ∀ j u, news[j]? = some u → w.cell? (a.add j) = some u) (h1 : ∀ u ∈ news, u.oneCell' = true)
    (h63 : n + m ≤ maxLen) (hbytes : (n + m) * bytes ≤ 140737488355328) :
    ∃ v' w', (Builtin.append_ #[t, t] ty #[v, .slice (some a) m c]).run P w = .ok v' w' ∧ w'.ownsRow 0 e size v' (n + m) (xs ++ news) ∧ w.grownBy w' v.ownBlock ∧
      (∀ k, v'.ownBlock = some k → v.ownBlock = some k ∨ w.heap.size ≤ k) := by
  obtain ⟨i, hi, hz0, hz1, hz2⟩ := info_parts hz
  obtain ⟨v', w', hr, ho, hg, _⟩ := run_append_own (P := P) w 0 t ty e i z size bytes ht hi hz0 hz1 hz2 hzs hsz v n xs hown a m c news hl hnews h1 h63 hbytes (Nat.zero_le _)
  refine ⟨v', w', hr, ho, hg, fun k hk => ?_⟩
  rcases hown.2 with ⟨rfl, rfl⟩ | ⟨g, cap, cur, rfl, hbg, hgg, hnc, hcm, hcs, htake⟩
  · have hx : xs = [] := List.eq_nil_of_length_eq_zero (by simpa using hown.1)
    subst hx
    obtain ⟨v2, w2, hr2, ho2, _, _⟩ := run_append_own (P := P) w w.heap.size t ty e i z size bytes ht hi hz0 hz1 hz2 hzs hsz (.slice none 0 0) 0 [] (World.ownsRow_nil w _ e size) a m c news hl hnews h1 h63 hbytes (Nat.le_refl _)
    rw [hr] at hr2
    injection hr2 with e1 e2
    subst e1; subst e2
    exact .inr (ho2.lt k hk).1
  · by_cases hroom : n + m ≤ cap
    · obtain ⟨w2, hr2, _, _⟩ := run_append_fits (P := P) w 0 t ty e i size ht hi hz1 g n cap xs hown a m c news hl hnews h1 hroom
      rw [hr] at hr2
      injection hr2 with e1 e2
      subst e1
      exact .inl hk
    · have holds : ∀ j u, xs[j]? = some u → w.cell? ((⟨g, 0, none⟩ : Addr).add j) = some u := hown.cells (g := g) rfl
      subst hz1
      have hr2 := run_append_grow (P := P) w t ty e i z ht hi hz0 ⟨g, 0, none⟩ n cap xs hown.1 holds a m c news hl hnews (by omega) (by simp only [maxLen] at h63; omega) (growslice_fits (by omega) (by rw [hz2]; exact hbytes))
      rw [hr] at hr2
      injection hr2 with e1 e2
      subst e1
      simp only [Value.ownBlock, Option.some.injEq] at hk
      exact .inr (Nat.le_of_eq hk)

theorem wpList_appendB {P : Program} {ops : Array Oper} {rest : List Oper} {d : Tmp} {t ty : TypeId} {s x : Operand} {pos : String} {aft : Array Edge} {a : Act} {Q : Exit → Act → World → Prop} {w : World}
    (e : TypeId) (z : Value) (size bytes : Nat) (ht : P.underlying t = some (.slice e)) (hz : (P.info? e).map (fun i => (i.zero, i.size, i.bytes)) = some (some z, size, bytes))
    (hzs : z.cells.size = size) (hsz : 0 < size) (v : Value) (n : Nat) (xs : List Value) (hs : a.eval s = v) (hown : w.ownsRow 0 e size v n xs)
    (ad : Addr) (m c : Nat) (news : List Value) (hx : a.eval x = .slice (some ad) m c) (hl : news.length = m * size) (hnews : ∀ j u, news[j]? = some u → w.cell? (ad.add j) = some u) (h1 : ∀ u ∈ news, u.oneCell' = true)
    (h63 : n + m ≤ maxLen) (hbytes : (n + m) * bytes ≤ 140737488355328)
    (h : ∀ v' w', w'.ownsRow 0 e size v' (n + m) (xs ++ news) → w.grownBy w' v.ownBlock → (∀ k, v'.ownBlock = some k → v.ownBlock = some k ∨ w.heap.size ≤ k) → wpList P ops Q rest (a.put (some d) v') w') :
    wpList P ops Q (⟨some d, .call { callee := .builtin .append, args := #[s, x], argTypes := #[t, t] }, ty, pos, aft, none⟩ :: rest) a w := by
  obtain ⟨v', w', hr, h2, h3, h4⟩ := run_appendB (P := P) w t ty e z size bytes ht hz hzs hsz v n xs hown ad m c news hl hnews h1 h63 hbytes
  refine wpList_plain rfl fun K hK => ?_
  unfold Oper.wp execOp
  simp only [resolve, invoke, builtin, Sem.run_bind, Sem.run_pure, Result.andThen_ok, List.map_toArray, List.map_cons, List.map_nil, hs, hx, hr]
  exact hK _ _ (h v' w' h2 h3 h4)

/-- A region that draws its order: the first n operations only read; the others come in one order behind them. -/
theorem region_tail {P : Program} {id : Nat} {Q : Exit → Act → World → Prop} {a : Act} {w : World} {l : List Oper} (n : Nat) (hm : P.follows .mixedOrders = true) (hB : Region.lexTailB .any l.toArray n = true)
    (h : ∀ w2, w2 = w.drew → wpStill P l.toArray w2 (fun a' => wpList P l.toArray Q (l.drop n) a' w2) (l.take n) a) : (Code.region id l.toArray true).wp P Q a w :=
  wp_region_still_tail n hm hB (h _ rfl)

/-- The call returns v and leaves the world as it was. -/
structure Ret (v : Value) (w : World) (e : Ending) (w' : World) : Prop where
  val : e = .returned v
  wld : w = w'

/-- The call returns v and leaves what was there as it was (it may make new memory). -/
structure RetB (v : Value) (w : World) (e : Ending) (w' : World) : Prop where
  val : e = .returned v
  bel : Below w.heap.size w w'

theorem Ret.still {P : Program} {f : FuncId} {args : Array Value} {w : World} {v : Value} (h : Calls P f args w (Ret v w)) : Calls P f args w (fun e w' => e = .returned v ∧ w' = w) :=
  h.mono fun _ _ ⟨a, b⟩ => ⟨a, b.symm⟩

theorem Ret.of_eq {v v' : Value} {w : World} (h : v = v') : Ret v' w (.returned v) w := ⟨by rw [h], rfl⟩

end Go.Proofs.Ythacjealoomioaa

/- Laws for a whole block: loaded, stored; make as an equation. No program in sight. -/
namespace Go.Proofs.Ythacjealoomioaa
set_option linter.unusedVariables false
set_option linter.unusedSimpArgs false
open Go.RowKit

theorem Blk.setAll {b : Nat} {T : TypeId} (vs : List Value) : ∀ {w : World} (pre old : List Value), Blk w b T (pre ++ old) → old.length = vs.length → Blk (w.setCells b pre.length vs) b T (pre ++ vs) := by
  induction vs with
  | nil =>
    intro w pre old h hl
    have : old = [] := List.eq_nil_of_length_eq_zero hl
    subst this
    exact h
  | cons v vs ih =>
    intro w pre old h hl
    match old, hl with
    | o :: old, hl =>
      have h1 := h.set pre.length v
      have e1 : (pre ++ o :: old).set pre.length v = (pre ++ [v]) ++ old := by simp
      rw [e1] at h1
      have h2 := ih (pre ++ [v]) old h1 (by simpa using hl)
      rw [List.append_assoc, List.length_append] at h2
      exact h2

theorem Mod.setCells {F : Nat → Prop} {b : Nat} (vs : List Value) : ∀ {a w : World} (o : Nat), Mod F a w → (b < a.heap.size → F b) → Mod F a (w.setCells b o vs) := by
  induction vs with
  | nil => intro a w o h _; exact h
  | cons v vs ih => intro a w o h hb; exact ih (o + 1) (h.setCell ⟨b, o, none⟩ hb v) hb

theorem wpList_loadBlk {P : Program} {ops : Array Oper} {rest : List Oper} {d : Tmp} {ty t1 : TypeId} {x : Operand} {pos : String} {aft : Array Edge} {a : Act} {Q : Exit → Act → World → Prop} {w : World}
    (g : Nat) (T : TypeId) (cs : List Value) (ds : TypeDesc) (hx : a.eval x = .pointer (some ⟨g, 0, none⟩)) (hg : Blk w g T cs)
    (hu : P.underlying ty = some ds) (hd : (match ds with | .struct _ | .array _ _ => true | _ => false) = true) (hi : (P.info? ty).map (·.size) = some cs.length)
    (h : wpList P ops Q rest (a.put (some d) (.agg cs.toArray)) w) : wpList P ops Q (⟨some d, .load ty x, t1, pos, aft, none⟩ :: rest) a w :=
  wpList_load_row rfl ty x rfl g hx T cs.toArray (0, 0) ds hg hu hd (by simpa using hi) h

theorem wpList_storeBlk {P : Program} {ops : Array Oper} {rest : List Oper} {ty t1 : TypeId} {x y : Operand} {pos : String} {aft : Array Edge} {a : Act} {Q : Exit → Act → World → Prop} {w : World}
    (g : Nat) (T : TypeId) (cs vs : List Value) (hx : a.eval x = .pointer (some ⟨g, 0, none⟩)) (hy : a.eval y = .agg vs.toArray) (hg : Blk w g T cs) (hl : cs.length = vs.length)
    (hi : (P.info? ty).map (·.size) = some vs.length) (h1 : ∀ v ∈ vs, v.oneCell' = true)
    (h : ∀ w1, Blk w1 g T vs → Mod (fun k => k = g) w w1 → wpList P ops Q rest (a.put none undef) w1) : wpList P ops Q (⟨none, .store ty x y, t1, pos, aft, none⟩ :: rest) a w := by
  refine wpList_store_mid rfl ty x y rfl g 0 vs.toArray hx hy (fun j hj => ?_) (by simpa using hi) (all_oneCell_toArray h1) ?_
  · simp only [List.size_toArray] at hj
    rw [Nat.zero_add]
    refine ⟨?_, hg.free j⟩
    have hjl : j < cs.length := by omega
    rw [hg.cell (List.getElem?_eq_getElem hjl)]; rfl
  · have hb := Blk.setAll vs (w := w) [] cs (T := T) hg hl
    have hm := Mod.setCells (F := fun k => k = g) (b := g) vs (a := w) (w := w) 0 (Mod.refl _ _) (fun _ => rfl)
    exact h _ hb hm

/-- 'make([]T, n)', T of one cell: the equation. -/
theorem run_makeE {P : Program} (t e : TypeId) (z : Value) (bytes : Nat) (ht : P.underlying t = some (.slice e)) (hz : (P.info? e).map (fun i => (i.zero, i.size, i.bytes)) = some (some z, 1, bytes)) (hone : z.cells = #[z])
    (kl kc : IntKind) (n : Nat) (b2 : bytes * n ≤ 281474976710656) (b3 : n ≤ maxLen) (w : World) :
    (Instr.makeSlice t (.int kl (n : Int)) (.int kc (n : Int))).run P w = .ok (.slice (some ⟨w.heap.size, 0, none⟩) n n) (w.alloc (.cells (List.replicate n z).toArray e)) := by
  obtain ⟨i, hi, hz0, hz1, hz2⟩ := info_parts hz
  unfold maxLen at b3
  have hb : (i.bytes : Int) * (n : Int) ≤ 281474976710656 := by
    have h : ((i.bytes * n : Nat) : Int) ≤ 281474976710656 := by rw [hz2]; omega
    rwa [Int.natCast_mul] at h
  have hr := run_make (P := P) w t e i z ht hi hz0 kl kc n n (by omega) (by omega) hb (by omega)
  simp only [Int.toNat_natCast] at hr
  rw [hr]
  have : madeCells z.cells (n * i.size) = (List.replicate n z).toArray := by
    apply Array.toList_inj.1
    rw [hz1, Nat.mul_one, hone, madeCells_one]
  rw [this]

end Go.Proofs.Ythacjealoomioaa

/- Slices of numbers: where they lie. No program in sight. -/
namespace Go.Proofs.Ythacjealoomioaa
set_option linter.unusedVariables false
set_option linter.unusedSimpArgs false
open Go.RowKit

/-- A slice of numbers that came in: where it has elements it leads to their cells. -/
structure InRow (k : IntKind) (w : World) (ao : Option Addr) (len : Nat) (b off : Nat) (z : List Int) : Prop where
  size : z.length = len
  adr : 0 < len → ao = some ⟨b, off, none⟩
  cell : ∀ i, i < len → w.cell? ⟨b, off + i, none⟩ = some (.int k (z.getD i 0))

theorem InRow.lt {k : IntKind} {w : World} {ao : Option Addr} {len b off : Nat} {z : List Int} (h : InRow k w ao len b off z) (hl : 0 < len) : b < w.heap.size :=
  World.block_lt_of_cell? w _ (h.cell 0 hl)

theorem InRow.below {k : IntKind} {w w' : World} {ao : Option Addr} {len b off : Nat} {z : List Int} (h : InRow k w ao len b off z) (hb : Below w.heap.size w w') : InRow k w' ao len b off z :=
  ⟨h.size, h.adr, fun i hi => (hb.cell (h.lt (by omega))).trans (h.cell i hi)⟩

theorem inRow_of {k : IntKind} {w : World} {a : Option Addr} {len cap : Nat} {zs : List Int}
    (h : (a = none ∧ len = 0 ∧ cap = 0 ∧ zs = []) ∨
      ∃ x, a = some x ∧ len ≤ cap ∧ cap ≤ maxLen ∧ zs.length = cap ∧ (∀ i, i < zs.length → w.cell? (x.add i) = some (.int k (zs.getD i 0))) ∧ ∀ n ∈ zs, (Lit.int k n).wf = true) :
    len ≤ 9223372036854775807 ∧ ∃ b off, InRow k w a len b off (zs.take len) ∧ ∀ n ∈ zs.take len, (Lit.int k n).wf = true := by
  rcases h with ⟨rfl, rfl, rfl, rfl⟩ | ⟨x, rfl, h1, h2, h3, h4, h5⟩
  · exact ⟨by omega, 0, 0, ⟨by simp, by omega, by omega⟩, by simp⟩
  · refine ⟨by unfold maxLen at h2; omega, x.block, x.off, ⟨by rw [List.length_take]; omega, fun h0 => ?_, fun i hi => ?_⟩, fun n hn => h5 n (List.mem_of_mem_take hn)⟩
    · have := h4 0 (by omega)
      have hx : x.add 0 = x := by simp [Addr.add]
      rw [hx] at this
      obtain ⟨b, o, s⟩ := x
      cases s with
      | none => rfl
      | some s =>
        simp only [World.cell?] at this
        split at this <;> simp at this
    · have h6 := h4 0 (by omega)
      have hx : x.add 0 = x := by simp [Addr.add]
      rw [hx] at h6
      have hs : x.spot = none := by
        cases hs : x.spot with
        | none => rfl
        | some s =>
          simp only [World.cell?] at h6
          split at h6 <;> simp [hs] at h6
      have h7 := h4 i (by omega)
      have ha : x.add i = ⟨x.block, x.off + i, none⟩ := by
        obtain ⟨b, o, s⟩ := x
        simp only at hs
        subst hs
        unfold Addr.add
        split
        · subst_vars; rfl
        · rfl
      rw [ha] at h7
      rw [h7]
      congr 2
      simp [List.getD, List.getElem?_take, hi]

theorem InRow.mod {k : IntKind} {w w' : World} {ao : Option Addr} {len b off : Nat} {z : List Int} {F : Nat → Prop} (h : InRow k w ao len b off z) (hm : Mod F w w') (hn : 0 < len → ¬ F b) : InRow k w' ao len b off z :=
  ⟨h.size, h.adr, fun i hi => (hm.cell (h.lt (by omega)) (hn (by omega))).trans (h.cell i hi)⟩

theorem InRow.of_blk {k : IntKind} {w : World} {b : Nat} {T : TypeId} {z : List Int} (h : Blk w b T (z.map fun x => .int k x)) : InRow k w (some ⟨b, 0, none⟩) z.length b 0 z :=
  ⟨rfl, fun _ => rfl, fun i hi => by rw [Nat.zero_add]; exact h.cell (by simp [hi])⟩

end Go.Proofs.Ythacjealoomioaa

/- append of one row of the program's own to another, also under a guard. -/
namespace Go.Proofs.Ythacjealoomioaa
set_option linter.unusedVariables false
set_option linter.unusedSimpArgs false
open Go.RowKit

theorem storeCells_nil (a : Addr) (P : Program) (w : World) : (storeCells a []).run P w = .ok () w := by
  simp [storeCells]

theorem run_append_nil {P : Program} (w : World) (t ty e : TypeId) (z : Value) (size bytes : Nat) (ht : P.underlying t = some (.slice e)) (hz : (P.info? e).map (fun i => (i.zero, i.size, i.bytes)) = some (some z, size, bytes))
    (base : Option Addr) (n cap : Nat) (h : n ≤ cap) :
    (Builtin.append_ #[t, t] ty #[.slice base n cap, .slice none 0 0]).run P w = .ok (.slice base n cap) w := by
  obtain ⟨i, hi, hz0, hz1, hz2⟩ := info_parts hz
  cases base <;> simp [Builtin.append_, run_underlying ht, sizeOf, typeInfo, hi, Builtin.lenOf, h, Builtin.firstCells, storeCells_nil]

theorem owns_cells {w : World} {e : TypeId} {size g cap n : Nat} {xs : List Value} (h : w.ownsRow 0 e size (.slice (some ⟨g, 0, none⟩) n cap) n xs) : ∀ j u, xs[j]? = some u → w.cell? ((⟨g, 0, none⟩ : Addr).add j) = some u := by
  intro j u hu
  rcases h.2 with ⟨h', _⟩ | ⟨g', cap', cur, h', _, hg, hn, _, hs, htake⟩
  · simp at h'
  · simp only [Value.slice.injEq, Option.some.injEq, Addr.mk.injEq, and_true, true_and] at h'
    obtain ⟨rfl, rfl⟩ := h'
    have hadd : (⟨g, 0, none⟩ : Addr).add j = ⟨g, j, none⟩ := by unfold Addr.add; split <;> simp_all
    have hj : j < xs.length := (List.getElem?_eq_some_iff.1 hu).1
    have hc : cur.toList[j]? = some u := by
      rw [← htake, List.getElem?_take] at hu
      split at hu
      · exact hu
      · cases hu
    rw [hadd]
    have := (show Blk w g e cur.toList from by unfold Blk; rw [hg])
    exact this.cell hc

/-- 'append(s, x...)' of two rows of the program's own. -/
theorem wpList_appendR {P : Program} {ops : Array Oper} {rest : List Oper} {d : Tmp} {t ty : TypeId} {s x : Operand} {pos : String} {aft : Array Edge} {gd : Option (Nat × Bool)} {a : Act} {Q : Exit → Act → World → Prop} {w : World}
    (hgd : Region.wanted ⟨some d, .call { callee := .builtin .append, args := #[s, x], argTypes := #[t, t] }, ty, pos, aft, gd⟩ (yielded ops a.tmps) = true)
    (e : TypeId) (z : Value) (size bytes : Nat) (ht : P.underlying t = some (.slice e)) (hz : (P.info? e).map (fun i => (i.zero, i.size, i.bytes)) = some (some z, size, bytes))
    (hzs : z.cells.size = size) (hsz : 0 < size) (v : Value) (n : Nat) (xs : List Value) (hs : a.eval s = v) (hown : w.ownsRow 0 e size v n xs)
    (u : Value) (m : Nat) (news : List Value) (hx : a.eval x = u) (hnews : w.ownsRow 0 e size u m news) (h1 : ∀ u ∈ news, u.oneCell' = true)
    (h63 : n + m ≤ maxLen) (hbytes : (n + m) * bytes ≤ 140737488355328)
    (h : ∀ v' w', w'.ownsRow 0 e size v' (n + m) (xs ++ news) → w.grownBy w' v.ownBlock → (∀ k, v'.ownBlock = some k → v.ownBlock = some k ∨ w.heap.size ≤ k) → wpList P ops Q rest (a.put (some d) v') w') :
    wpList P ops Q (⟨some d, .call { callee := .builtin .append, args := #[s, x], argTypes := #[t, t] }, ty, pos, aft, gd⟩ :: rest) a w := by
  have key : ∃ v' w', (Builtin.append_ #[t, t] ty #[v, u]).run P w = .ok v' w' ∧ w'.ownsRow 0 e size v' (n + m) (xs ++ news) ∧ w.grownBy w' v.ownBlock ∧ (∀ k, v'.ownBlock = some k → v.ownBlock = some k ∨ w.heap.size ≤ k) := by
    rcases hnews.2 with ⟨rfl, rfl⟩ | ⟨g, cap, cur, rfl, hr⟩
    · have hn0 : news = [] := List.eq_nil_of_length_eq_zero (by simpa using hnews.1)
      subst hn0
      rcases hown.2 with ⟨rfl, rfl⟩ | ⟨g, cap, cur, rfl, hbg, hgg, hnc, hcm, hcs, htake⟩
      · exact ⟨_, _, run_append_nil w t ty e z size bytes ht hz none 0 0 (Nat.le_refl _), by simpa using hown, World.grownBy.refl _ _, fun k hk => .inl hk⟩
      · exact ⟨_, _, run_append_nil w t ty e z size bytes ht hz _ _ _ hnc, by simpa using hown, World.grownBy.refl _ _, fun k hk => .inl hk⟩
    · exact run_appendB (P := P) w t ty e z size bytes ht hz hzs hsz v n xs hown ⟨g, 0, none⟩ m cap news hnews.1 (owns_cells hnews) h1 h63 hbytes
  obtain ⟨v', w', hr, h2, h3, h4⟩ := key
  refine BigFrame.wpList_want hgd fun K hK => ?_
  unfold Oper.wp execOp
  simp only [resolve, invoke, builtin, Sem.run_bind, Sem.run_pure, Result.andThen_ok, List.map_toArray, List.map_cons, List.map_nil, hs, hx, hr]
  exact hK _ _ (h v' w' h2 h3 h4)

end Go.Proofs.Ythacjealoomioaa

/- Rows of the program's own: general laws. No program in sight. -/
namespace Go.Proofs.Ythacjealoomioaa
set_option linter.unusedVariables false
set_option linter.unusedSimpArgs false
open Go.RowKit

theorem owns_same {w w' : World} {base : Nat} {e : TypeId} {size : Nat} {v : Value} {n : Nat} {xs : List Value} (h : w.ownsRow base e size v n xs) (hk : ∀ k, v.ownBlock = some k → w'.heap[k]? = w.heap[k]?) : w'.ownsRow base e size v n xs := by
  refine ⟨h.1, ?_⟩
  rcases h.2 with hn | ⟨g, cap, cur, rfl, hb, hgg, rest⟩
  · exact .inl hn
  · exact .inr ⟨g, cap, cur, rfl, hb, by rw [hk g rfl]; exact hgg, rest⟩

theorem owns_set {w : World} {base : Nat} {e : TypeId} {size g n cap : Nat} {xs : List Value} (h : w.ownsRow base e size (.slice (some ⟨g, 0, none⟩) n cap) n xs) (j : Nat) (hj : j < n * size) (u : Value) :
    (w.setCell ⟨g, j, none⟩ u).ownsRow base e size (.slice (some ⟨g, 0, none⟩) n cap) n (xs.set j u) := by
  refine ⟨by simpa using h.1, ?_⟩
  rcases h.2 with ⟨h', _⟩ | ⟨g', cap', cur, h', hb, hg, h1, h2, hs, htake⟩
  · simp at h'
  · simp only [Value.slice.injEq, Option.some.injEq, Addr.mk.injEq, and_true, true_and] at h'
    obtain ⟨rfl, rfl⟩ := h'
    refine .inr ⟨g, cap, cur.setIfInBounds j u, rfl, hb, ?_, h1, h2, by simpa using hs, ?_⟩
    · simp [World.setCell, Array.getElem?_modify, hg]
    · simp only [Array.toList_setIfInBounds]
      rw [← htake, List.take_set]

theorem owns_form {w : World} {base : Nat} {e : TypeId} {size : Nat} {v : Value} {n : Nat} {xs : List Value} (h : w.ownsRow base e size v n xs) (hn : 0 < n) :
    ∃ g cap, v = .slice (some ⟨g, 0, none⟩) n cap ∧ n ≤ cap ∧ cap ≤ maxLen ∧ g < w.heap.size ∧ (∀ j, j < n * size → w.cell? ⟨g, j, none⟩ = xs[j]?) ∧ (∀ j, w.frozen? ⟨g, j, none⟩ = false) := by
  rcases h.2 with ⟨_, h0⟩ | ⟨g, cap, cur, rfl, hb, hg, h1, h2, hs, htake⟩
  · omega
  · refine ⟨g, cap, rfl, h1, h2, (Array.getElem?_eq_some_iff.1 hg).1, fun j hj => h.cellAt j hj, fun j => by simp [World.frozen?, hg]⟩

theorem owns_slice {w : World} {base : Nat} {e : TypeId} {size : Nat} {v : Value} {n : Nat} {xs : List Value} (h : w.ownsRow base e size v n xs) : ∃ ao cap, v = .slice ao n cap := by
  rcases h.2 with ⟨rfl, rfl⟩ | ⟨g, cap, cur, rfl, _⟩
  · exact ⟨_, _, rfl⟩
  · exact ⟨_, _, rfl⟩

theorem owns_take {w : World} {base : Nat} {e : TypeId} {size g n cap : Nat} {xs : List Value} (h : w.ownsRow base e size (.slice (some ⟨g, 0, none⟩) n cap) n xs) (m : Nat) (hm : m ≤ n) :
    w.ownsRow base e size (.slice (some ⟨g, 0, none⟩) m cap) m (xs.take (m * size)) := by
  have hle : m * size ≤ n * size := Nat.mul_le_mul_right _ hm
  refine ⟨by rw [List.length_take, h.1]; omega, ?_⟩
  rcases h.2 with ⟨h', _⟩ | ⟨g', cap', cur, h', hb, hg, h1, h2, hs, htake⟩
  · simp at h'
  · simp only [Value.slice.injEq, Option.some.injEq, Addr.mk.injEq, and_true, true_and] at h'
    obtain ⟨rfl, rfl⟩ := h'
    refine .inr ⟨g, cap, cur, rfl, hb, hg, by omega, h2, hs, ?_⟩
    rw [← htake, List.take_take, Nat.min_eq_left hle]

theorem owns_mod {F : Nat → Prop} {w w' : World} {e : TypeId} {size n : Nat} {v : Value} {xs : List Value} (h : w.ownsRow 0 e size v n xs) (m : Mod F w w') (hF : ∀ x, v.ownBlock = some x → ¬ F x) : w'.ownsRow 0 e size v n xs := by
  refine ⟨h.1, ?_⟩
  rcases h.2 with h2 | ⟨g, cap, cur, rfl, h1, hg, hr⟩
  · exact .inl h2
  · refine .inr ⟨g, cap, cur, rfl, h1, ?_, hr⟩
    rw [m.block g (Array.getElem?_eq_some_iff.1 hg).1 (hF g rfl)]
    exact hg

theorem grown_below {w w' : World} {row : Option Nat} {B : Nat} (hg : w.grownBy w' row) (hr : ∀ k, row = some k → B ≤ k) (hB : B ≤ w.heap.size) : Below B w w' :=
  ((Mod.refl (fun k => row = some k) w).grown hg (fun k hk _ => hk)).below hB hr

theorem owns_empty (w : World) (T : TypeId) : (w.alloc (.cells #[] T)).ownsRow 0 T 1 (.slice (some ⟨w.heap.size, 0, none⟩) 0 0) 0 [] :=
  ⟨rfl, .inr ⟨w.heap.size, 0, #[], rfl, Nat.zero_le _, heap_alloc_new w _, Nat.le_refl _, by unfold maxLen; omega, rfl, rfl⟩⟩

theorem keepIt {p : Prop} (h : Hid p) : p := h.out

theorem one_ints (z : List Int) : ∀ u ∈ z.map (fun x => Value.int .i64 x), u.oneCell' = true := by
  intro u hu
  obtain ⟨x, _, rfl⟩ := List.mem_map.1 hu
  rfl

theorem owns_row {w : World} {e : TypeId} {v : Value} {z : List Int} (h : w.ownsRow 0 e 1 v z.length (z.map fun x => .int .i64 x)) : ∃ ao cap b, v = .slice ao z.length cap ∧ InRow .i64 w ao z.length b 0 z ∧ ∀ k, v.ownBlock = some k → k = b := by
  by_cases hz : 0 < z.length
  · obtain ⟨g, cap, rfl, _, _, _, hc, _⟩ := owns_form h hz
    refine ⟨_, _, g, rfl, ⟨rfl, fun _ => rfl, fun i hi => ?_⟩, fun k hk => by simpa [Value.ownBlock] using hk.symm⟩
    rw [Nat.zero_add, hc i (by omega)]
    simp [hi]
  · obtain ⟨ao, cap, rfl⟩ := owns_slice h
    refine ⟨ao, cap, (ao.map (·.block)).getD 0, rfl, ⟨rfl, fun h => by omega, fun i hi => by omega⟩, fun k hk => ?_⟩
    cases ao with
    | none => cases hk
    | some a => simpa [Value.ownBlock] using hk.symm

end Go.Proofs.Ythacjealoomioaa
