/- Several texts in one: Base, LcA. -/
import Derived.WalkKit
import Derived.WalkSpells
import Derived.WalkLawsBesides
import Derived.BigQuiet
import Derived.Deep.QuietTactic
import Derived.Lib.Hide
import Derived.Lib.QuietBelow
import Derived.LaidEqlPtr
import Derived.OneCell
import Derived.StillTailTactics
namespace Go.Proofs.YtlooaipipmiijaaGreat
set_option linter.unusedVariables false
set_option linter.unusedSimpArgs false
open Go.RowKit
structure Mod (F : Nat → Prop) (w w' : World) : Prop where
  os : w'.os = w.os
  tape : w'.tape = w.tape
  output : w'.output = w.output
  size : w.heap.size ≤ w'.heap.size
  block : ∀ k, k < w.heap.size → ¬ F k → w'.heap[k]? = w.heap[k]?
theorem Mod.refl (F : Nat → Prop) (w : World) : Mod F w w := ⟨rfl, rfl, rfl, Nat.le_refl _, fun _ _ _ => rfl⟩
theorem Mod.trans {F G : Nat → Prop} {a b c : World} (h : Mod F a b) (k : Mod G b c) (hg : ∀ x, x < a.heap.size → G x → F x) : Mod F a c :=
  ⟨k.os.trans h.os, k.tape.trans h.tape, k.output.trans h.output, Nat.le_trans h.size k.size,
    fun i hi hn => (k.block i (Nat.lt_of_lt_of_le hi h.size) (fun g => hn (hg i hi g))).trans (h.block i hi hn)⟩
theorem Mod.mono {F G : Nat → Prop} {w w' : World} (h : Mod F w w') (hg : ∀ x, x < w.heap.size → F x → G x) : Mod G w w' :=
  ⟨h.os, h.tape, h.output, h.size, fun i hi hn => h.block i hi (fun f => hn (hg i hi f))⟩
theorem Mod.of_below {F : Nat → Prop} {w w' : World} (h : Below w.heap.size w w') : Mod F w w' :=
  ⟨h.os, h.tape, h.output, h.size, fun i hi _ => h.block i hi⟩
theorem Mod.below {F : Nat → Prop} {w w' : World} {B : Nat} (h : Mod F w w') (hB : B ≤ w.heap.size) (hF : ∀ x, F x → B ≤ x) : Below B w w' :=
  ⟨h.os, h.tape, h.output, h.size, fun i hi => h.block i (Nat.lt_of_lt_of_le hi hB) (fun f => by have := hF i f; omega)⟩
theorem Mod.setCell {F : Nat → Prop} {a w : World} (h : Mod F a w) (p : Addr) (hp : p.block < a.heap.size → F p.block) (u : Value) : Mod F a (w.setCell p u) :=
  h.trans (G := fun x => x = p.block) ⟨rfl, rfl, rfl, by simp [World.setCell], fun k _ hk => Below.heap_setCell _ _ _ _ hk⟩
    (fun x hx e => by subst e; exact hp hx)
theorem Mod.alloc {F : Nat → Prop} {a w : World} (h : Mod F a w) (o : Obj) : Mod F a (w.alloc o) :=
  h.trans (G := fun _ => False) ⟨rfl, rfl, rfl, by simp, fun k hk _ => Below.heap_alloc _ _ _ hk⟩ (fun _ _ e => e.elim)
theorem Mod.drew {F : Nat → Prop} {a w : World} (h : Mod F a w) : Mod F a w.drew := ⟨h.os, h.tape, h.output, h.size, h.block⟩
theorem Mod.drewN {F : Nat → Prop} {a w : World} (h : Mod F a w) (n : Nat) : Mod F a (w.drewN n) := ⟨h.os, h.tape, h.output, h.size, h.block⟩
theorem Mod.grown {F : Nat → Prop} {a w w' : World} {row : Option Nat} (h : Mod F a w) (hg : w.grownBy w' row) (hr : ∀ k, row = some k → k < a.heap.size → F k) : Mod F a w' :=
  h.trans (G := fun x => some x = row) ⟨hg.os, hg.tape, hg.output, hg.size, fun k hk hn => hg.block k hk hn⟩ (fun x hx e => hr x e.symm hx)
theorem Mod.cell {F : Nat → Prop} {w w' : World} (h : Mod F w w') {p : Addr} (hp : p.block < w.heap.size) (hn : ¬ F p.block) : w'.cell? p = w.cell? p :=
  World.cell?_of_block (w := w) (h.block p.block hp hn)
theorem bel_drewN {B : Nat} {a w : World} (h : Below B a w) (n : Nat) : Below B a (w.drewN n) := ⟨h.os, h.tape, h.output, h.size, h.block⟩
def Blk (w : World) (b : Nat) (T : TypeId) (cs : List Value) : Prop := w.heap[b]? = some (.cells cs.toArray T (0, 0))
theorem Blk.lt {w : World} {b : Nat} {T : TypeId} {cs : List Value} (h : Blk w b T cs) : b < w.heap.size := (Array.getElem?_eq_some_iff.1 h).1
theorem Blk.cell {w : World} {b : Nat} {T : TypeId} {cs : List Value} (h : Blk w b T cs) {i : Nat} {v : Value} (hi : cs[i]? = some v) : w.cell? ⟨b, i, none⟩ = some v := by
  unfold Blk at h
  simp [World.cell?, h, hi]
theorem Blk.free {w : World} {b : Nat} {T : TypeId} {cs : List Value} (h : Blk w b T cs) (i : Nat) : w.frozen? ⟨b, i, none⟩ = false := by
  unfold Blk at h
  simp [World.frozen?, h]
theorem Blk.set {w : World} {b : Nat} {T : TypeId} {cs : List Value} (h : Blk w b T cs) (i : Nat) (v : Value) : Blk (w.setCell ⟨b, i, none⟩ v) b T (cs.set i v) := by
  unfold Blk at *
  simp [World.setCell, Array.getElem?_modify, h]
theorem Blk.other {w : World} {b : Nat} {T : TypeId} {cs : List Value} (h : Blk w b T cs) (p : Addr) (v : Value) (hp : b ≠ p.block) : Blk (w.setCell p v) b T cs := by
  unfold Blk at *
  rw [Below.heap_setCell _ _ _ _ hp]; exact h
theorem Blk.alloc {w : World} {b : Nat} {T : TypeId} {cs : List Value} (h : Blk w b T cs) (o : Obj) : Blk (w.alloc o) b T cs := by
  have := h.lt
  unfold Blk at *
  rw [Below.heap_alloc _ _ _ this]; exact h
theorem Blk.new (w : World) (T : TypeId) (cs : List Value) : Blk (w.alloc (.cells cs.toArray T)) w.heap.size T cs := heap_alloc_new w _
theorem Blk.new' (w : World) (T : TypeId) (cs : List Value) {n : Nat} (h : w.heap.size = n) : Blk (w.alloc (.cells cs.toArray T)) n T cs := by
  subst h; exact heap_alloc_new w _
theorem Blk.mod {F : Nat → Prop} {w w' : World} {b : Nat} {T : TypeId} {cs : List Value} (h : Blk w b T cs) (m : Mod F w w') (hn : ¬ F b) : Blk w' b T cs := by
  have := h.lt
  unfold Blk at *
  rw [m.block b this hn]; exact h
theorem Blk.below {B : Nat} {w w' : World} {b : Nat} {T : TypeId} {cs : List Value} (h : Blk w b T cs) (m : Below B w w') (hn : b < B) : Blk w' b T cs := by
  unfold Blk at *
  rw [m.block b hn]; exact h
theorem Blk.drew {w : World} {b : Nat} {T : TypeId} {cs : List Value} (h : Blk w b T cs) : Blk w.drew b T cs := h
theorem news_new (w : World) (T : TypeId) (cs : List Value) : ∀ j u, cs[j]? = some u → (w.alloc (.cells cs.toArray T)).cell? ((⟨w.heap.size, 0, none⟩ : Addr).add j) = some u := by
  intro j u hu
  have hadd : (⟨w.heap.size, 0, none⟩ : Addr).add j = ⟨w.heap.size, j, none⟩ := by unfold Addr.add; split <;> simp_all
  rw [hadd]
  exact (Blk.new w T cs).cell hu
theorem ret_int {k : IntKind} {a b : Int} (h : a = b) : Ending.returned (.int k a) = .returned (.int k b) := by rw [h]
theorem ret_bool {a b : Bool} (h : a = b) : Ending.returned (.bool a) = .returned (.bool b) := by rw [h]
theorem madeCells_one (z : Value) (n : Nat) : (madeCells #[z] n).toList = List.replicate n z := by
  simp only [madeCells]
  apply List.ext_getElem?
  intro i
  by_cases h : i < n
  · simp [h, Nat.mod_one]
  · simp [h]
theorem Blk.of_owns {w : World} {base : Nat} {e : TypeId} {size g n : Nat} {xs : List Value} (h : w.ownsRow base e size (.slice (some ⟨g, 0, none⟩) n n) n xs) : Blk w g e xs := by
  rcases h.2 with ⟨h', _⟩ | ⟨g', cap, cur, h', _, hg, _, _, hs, htake⟩
  · simp at h'
  · simp only [Value.slice.injEq, Option.some.injEq, Addr.mk.injEq, and_true, true_and] at h'
    obtain ⟨rfl, rfl⟩ := h'
    unfold Blk
    rw [hg, ← htake, List.take_of_length_le (by simp [hs])]
theorem wpList_allocB {P : Program} {ops : Array Oper} {rest : List Oper} {d : Tmp} {T ty : TypeId} {pos : String} {aft : Array Edge} {a : Act} {Q : Exit → Act → World → Prop} {w : World}
    (z : Value) (hz : (P.info? T).bind (·.zero) = some z)
    (h : ∀ w1, Blk w1 w.heap.size T z.cells.toList → Below w.heap.size w w1 → wpList P ops Q rest (a.put (some d) (.pointer (some ⟨w.heap.size, 0, none⟩))) w1) :
    wpList P ops Q (⟨some d, .alloc T, ty, pos, aft, none⟩ :: rest) a w := by
  obtain ⟨i, hi, hzz⟩ := Option.bind_eq_some_iff.1 hz
  refine wpList_plain rfl fun K hK => ?_
  unfold Oper.wp
  simp [execOp, Instr.alloc, zeroValue, typeInfo, hi, hzz, newVar, newRow, newObj, Result.andThen]
  exact hK _ _ (h (w.alloc (.cells z.cells T)) (heap_alloc_new w _) ((Below.refl _ _).alloc (Nat.le_refl _) _))
theorem wpList_makeB {P : Program} {ops : Array Oper} {rest : List Oper} {d : Tmp} {t ty : TypeId} {l c : Operand} {pos : String} {aft : Array Edge} {a : Act} {Q : Exit → Act → World → Prop} {w : World}
    (e : TypeId) (z : Value) (bytes : Nat) (h1 : P.underlying t = some (.slice e)) (hz : (P.info? e).map (fun i => (i.zero, i.size, i.bytes)) = some (some z, 1, bytes)) (hone : z.cells = #[z])
    (kl kc : IntKind) (L C : Int) (n : Nat) (hl : a.eval l = .int kl L) (hc : a.eval c = .int kc C) (hL : L = (n : Int)) (hC : C = (n : Int)) (b2 : bytes * n ≤ 281474976710656) (b3 : n ≤ maxLen)
    (h : ∀ w1, Blk w1 w.heap.size e (List.replicate n z) → Below w.heap.size w w1 → wpList P ops Q rest (a.put (some d) (.slice (some ⟨w.heap.size, 0, none⟩) n n)) w1) :
    wpList P ops Q (⟨some d, .makeSlice t l c, ty, pos, aft, none⟩ :: rest) a w := by
  obtain ⟨i, hi, hz0, hz1, hz2⟩ := info_parts hz
  refine wpList_make_full w rfl l c t rfl 0 e i z 1 h1 hi hz0 hz1 kl kc L C n hl hc hL hC (by rw [hz2]; exact b2) b3 (Nat.zero_le _) ?_
  intro w' ho hg
  refine h w' ?_ ⟨hg.os, hg.tape, hg.output, hg.size, fun k hk => hg.block k hk (by simp)⟩
  have := Blk.of_owns ho
  rw [hone, Nat.mul_one, madeCells_one] at this
  exact this
theorem run_appendB {P : Program} (w : World) (t ty e : TypeId) (z : Value) (size bytes : Nat) (ht : P.underlying t = some (.slice e)) (hz : (P.info? e).map (fun i => (i.zero, i.size, i.bytes)) = some (some z, size, bytes))
    (hzs : z.cells.size = size) (hsz : 0 < size) (v : Value) (n : Nat) (xs : List Value) (hown : w.ownsRow 0 e size v n xs)
    (a : Addr) (m c : Nat) (news : List Value) (hl : news.length = m * size) (hnews : ∀ j u, news[j]? = some u → w.cell? (a.add j) = some u) (h1 : ∀ u ∈ news, u.oneCell' = true)
    (h63 : n + m ≤ maxLen) (hbytes : (n + m) * bytes ≤ 140737488355328) :
    ∃ v' w', (Builtin.append_ #[t, t] ty #[v, .slice (some a) m c]).run P w = .ok v' w' ∧ w'.ownsRow 0 e size v' (n + m) (xs ++ news) ∧ w.grownBy w' v.ownBlock ∧
      (∀ k, v'.ownBlock = some k → v.ownBlock = some k ∨ w.heap.size ≤ k) := by
  obtain ⟨i, hi, hz0, hz1, hz2⟩ := info_parts hz
  obtain ⟨v', w', hr, ho, hg, _⟩ := run_append_own (P := P) w 0 t ty e i z size bytes ht hi hz0 hz1 hz2 hzs hsz v n xs hown a m c news hl hnews h1 h63 hbytes (Nat.zero_le _)
  refine ⟨v', w', hr, ho, hg, fun k hk => ?_⟩
  rcases hown.2 with ⟨rfl, rfl⟩ | ⟨g, cap, cur, rfl, hbg, hgg, hnc, hcm, hcs, htake⟩
  · have hx : xs = [] := List.eq_nil_of_length_eq_zero (by simpa using hown.1)
    subst hx
    obtain ⟨v2, w2, hr2, ho2, _, _⟩ := run_append_own (P := P) w w.heap.size t ty e i z size bytes ht hi hz0 hz1 hz2 hzs hsz (.slice none 0 0) 0 [] (World.ownsRow_nil w _ e size) a m c news hl hnews h1 h63 hbytes (Nat.le_refl _)
    rw [hr] at hr2
    injection hr2 with e1 e2
    subst e1; subst e2
    exact .inr (ho2.lt k hk).1
  · by_cases hroom : n + m ≤ cap
    · obtain ⟨w2, hr2, _, _⟩ := run_append_fits (P := P) w 0 t ty e i size ht hi hz1 g n cap xs hown a m c news hl hnews h1 hroom
      rw [hr] at hr2
      injection hr2 with e1 e2
      subst e1
      exact .inl hk
    · have holds : ∀ j u, xs[j]? = some u → w.cell? ((⟨g, 0, none⟩ : Addr).add j) = some u := hown.cells (g := g) rfl
      subst hz1
      have hr2 := run_append_grow (P := P) w t ty e i z ht hi hz0 ⟨g, 0, none⟩ n cap xs hown.1 holds a m c news hl hnews (by omega) (by simp only [maxLen] at h63; omega) (growslice_fits (by omega) (by rw [hz2]; exact hbytes))
      rw [hr] at hr2
      injection hr2 with e1 e2
      subst e1
      simp only [Value.ownBlock, Option.some.injEq] at hk
      exact .inr (Nat.le_of_eq hk)
theorem wpList_appendB {P : Program} {ops : Array Oper} {rest : List Oper} {d : Tmp} {t ty : TypeId} {s x : Operand} {pos : String} {aft : Array Edge} {a : Act} {Q : Exit → Act → World → Prop} {w : World}
    (e : TypeId) (z : Value) (size bytes : Nat) (ht : P.underlying t = some (.slice e)) (hz : (P.info? e).map (fun i => (i.zero, i.size, i.bytes)) = some (some z, size, bytes))
    (hzs : z.cells.size = size) (hsz : 0 < size) (v : Value) (n : Nat) (xs : List Value) (hs : a.eval s = v) (hown : w.ownsRow 0 e size v n xs)
    (ad : Addr) (m c : Nat) (news : List Value) (hx : a.eval x = .slice (some ad) m c) (hl : news.length = m * size) (hnews : ∀ j u, news[j]? = some u → w.cell? (ad.add j) = some u) (h1 : ∀ u ∈ news, u.oneCell' = true)
    (h63 : n + m ≤ maxLen) (hbytes : (n + m) * bytes ≤ 140737488355328)
    (h : ∀ v' w', w'.ownsRow 0 e size v' (n + m) (xs ++ news) → w.grownBy w' v.ownBlock → (∀ k, v'.ownBlock = some k → v.ownBlock = some k ∨ w.heap.size ≤ k) → wpList P ops Q rest (a.put (some d) v') w') :
    wpList P ops Q (⟨some d, .call { callee := .builtin .append, args := #[s, x], argTypes := #[t, t] }, ty, pos, aft, none⟩ :: rest) a w := by
  obtain ⟨v', w', hr, h2, h3, h4⟩ := run_appendB (P := P) w t ty e z size bytes ht hz hzs hsz v n xs hown ad m c news hl hnews h1 h63 hbytes
  refine wpList_plain rfl fun K hK => ?_
  unfold Oper.wp execOp
  simp only [resolve, invoke, builtin, Sem.run_bind, Sem.run_pure, Result.andThen_ok, List.map_toArray, List.map_cons, List.map_nil, hs, hx, hr]
  exact hK _ _ (h v' w' h2 h3 h4)
theorem region_tail {P : Program} {id : Nat} {Q : Exit → Act → World → Prop} {a : Act} {w : World} {l : List Oper} (n : Nat) (hm : P.follows .mixedOrders = true) (hB : Region.lexTailB .any l.toArray n = true)
    (h : ∀ w2, w2 = w.drew → wpStill P l.toArray w2 (fun a' => wpList P l.toArray Q (l.drop n) a' w2) (l.take n) a) : (Code.region id l.toArray true).wp P Q a w :=
  wp_region_still_tail n hm hB (h _ rfl)
structure Ret (v : Value) (w : World) (e : Ending) (w' : World) : Prop where
  val : e = .returned v
  wld : w = w'
structure RetB (v : Value) (w : World) (e : Ending) (w' : World) : Prop where
  val : e = .returned v
  bel : Below w.heap.size w w'
theorem Ret.still {P : Program} {f : FuncId} {args : Array Value} {w : World} {v : Value} (h : Calls P f args w (Ret v w)) : Calls P f args w (fun e w' => e = .returned v ∧ w' = w) :=
  h.mono fun _ _ ⟨a, b⟩ => ⟨a, b.symm⟩
end Go.Proofs.YtlooaipipmiijaaGreat

namespace Go.Proofs.YtlooaipipmiijaaGreat
set_option linter.unusedVariables false
set_option linter.unusedSimpArgs false
structure Nd where
  k0 : Nat
  k1 : Nat
  up : Nat
  fl : Bool
  key : Int
  sz : Int
  fst : Nat
  lt : Int
  tot : Int
def nd00 : Nd := ⟨0, 0, 0, false, 0, 0, 0, 0, 0⟩
abbrev NS := Nat → Nd
def updN (N : NS) (i : Nat) (v : Nd) : NS := fun x => if x = i then v else N x
theorem uN_same (N : NS) (i : Nat) (v : Nd) : updN N i v i = v := if_pos rfl
theorem uN_ne (N : NS) {i x : Nat} (v : Nd) (h : x ≠ i) : updN N i v x = N x := if_neg h
def w64 (x : Int) : Int := IntKind.i64.wrap x
theorem w64_in {x : Int} (h : -9223372036854775808 ≤ x ∧ x ≤ 9223372036854775807) : w64 x = x := IntWalk.i64_in x h
def kid (N : NS) (s : Bool) (i : Nat) : Nat := if s then (N i).k1 else (N i).k0
def Nd.setK (v : Nd) (s : Bool) (k : Nat) : Nd := if s then { v with k1 := k } else { v with k0 := k }
def befB (N : NS) (i j : Nat) : Bool := decide ((N i).key < (N j).key) || (decide ((N i).key = (N j).key) && decide (i < j))
def addK (N : NS) (v : Nd) (k : Nat) : Nd :=
  if k = 0 then v else { v with sz := w64 (v.sz + (N k).sz), tot := w64 (v.tot + (N k).tot), fst := if befB N (N k).fst v.fst then (N k).fst else v.fst }
def frsh (N : NS) (i : Nat) : Nd := addK N (addK N { N i with sz := 1, fst := i, tot := w64 (1 + (N i).lt) } (N i).k0) (N i).k1
def refN (N : NS) (i : Nat) : NS := updN N i (frsh N i)
def sideN (N : NS) (i : Nat) : Option Bool :=
  if (N i).up = 0 then none else if (N (N i).up).k0 = i then some false else if (N (N i).up).k1 = i then some true else none
def hangN (N : NS) (i : Nat) (s : Bool) (k : Nat) : NS :=
  if k = 0 then updN N i ((N i).setK s k) else updN (updN N i ((N i).setK s k)) k { updN N i ((N i).setK s k) k with up := i }
def rot1 (N : NS) (i : Nat) : NS :=
  match sideN N (N i).up with
  | some a => hangN N (N (N i).up).up a i
  | none => updN N i { N i with up := (N (N i).up).up }
def rot3 (N : NS) (i : Nat) : NS :=
  hangN (hangN (rot1 N i) (N i).up ((sideN N i).getD false) (kid (rot1 N i) (!(sideN N i).getD false) i)) i (!(sideN N i).getD false) (N i).up
def rotN (N : NS) (i : Nat) : NS := refN (refN (rot3 N i) (N i).up) i
def flipK (N : NS) (k : Nat) : NS := if k = 0 then N else updN N k { N k with fl := !(N k).fl }
def pushN (N : NS) (i : Nat) : NS :=
  if (N i).fl then flipK (flipK (updN N i { N i with fl := false, k0 := (N i).k1, k1 := (N i).k0 }) (N i).k1) (N i).k0 else N
structure RotP (N : NS) (i : Nat) : Prop where
  i0 : i ≠ 0
  p0 : (N i).up ≠ 0
  a0 : (rot3 N i (N i).up).k0 ≠ (N i).up
  a1 : (rot3 N i (N i).up).k1 ≠ (N i).up
  b0 : (refN (rot3 N i) (N i).up i).k0 ≠ i
  b1 : (refN (rot3 N i) (N i).up i).k1 ≠ i
inductive Sp where
  | nil
  | node (l : Sp) (i : Nat) (r : Sp)
def Sp.root : Sp → Nat
  | .nil => 0
  | .node _ i _ => i
def Sp.els : Sp → List Nat
  | .nil => []
  | .node l i r => l.els ++ i :: r.els
def nodeS (s : Bool) (t : Sp) (p : Nat) (b : Sp) : Sp := if s then .node b p t else .node t p b
def Rep (N : NS) : Sp → Nat → Prop
  | .nil, _ => True
  | .node l i r, u => i ≠ 0 ∧ (N i).up = u ∧ (N i).k0 = l.root ∧ (N i).k1 = r.root ∧ Rep N l i ∧ Rep N r i
def sq (N : NS) : Sp → List Nat
  | .nil => []
  | .node l i r => if (N i).fl then (sq N l ++ i :: sq N r).reverse else sq N l ++ i :: sq N r
def sumW (N : NS) (L : List Nat) : Int := L.foldr (fun x a => (1 + (N x).lt) + a) 0
structure IsMin (N : NS) (L : List Nat) (m : Nat) : Prop where
  mem : m ∈ L
  le : ∀ x, x ∈ L → befB N x m = false
structure Ok (N : NS) (i : Nat) (L : List Nat) : Prop where
  sz : (N i).sz = L.length
  tot : (N i).tot = sumW N L
  fst : IsMin N L (N i).fst
def Agg (N : NS) : Sp → Prop
  | .nil => True
  | .node l i r => Ok N i (l.els ++ i :: r.els) ∧ Agg N l ∧ Agg N r
theorem nodeS_root (s : Bool) (t : Sp) (p : Nat) (b : Sp) : (nodeS s t p b).root = p := by cases s <;> rfl
theorem nodeS_perm (s : Bool) (t : Sp) (p : Nat) (b : Sp) : (nodeS s t p b).els.Perm (p :: (t.els ++ b.els)) := by
  cases s
  · exact List.perm_middle
  · exact List.perm_middle.trans (List.Perm.cons p List.perm_append_comm)
theorem nodeS_mem {s : Bool} {t : Sp} {p : Nat} {b : Sp} {x : Nat} : x ∈ (nodeS s t p b).els ↔ x = p ∨ x ∈ t.els ∨ x ∈ b.els := by
  rw [(nodeS_perm s t p b).mem_iff]; simp
theorem nodeS_rep {N : NS} {s : Bool} {t : Sp} {p : Nat} {b : Sp} {u : Nat} : Rep N (nodeS s t p b) u ↔ p ≠ 0 ∧ (N p).up = u ∧ kid N s p = t.root ∧ kid N (!s) p = b.root ∧ Rep N t p ∧ Rep N b p := by
  cases s
  · exact Iff.rfl
  · show (p ≠ 0 ∧ (N p).up = u ∧ (N p).k0 = b.root ∧ (N p).k1 = t.root ∧ Rep N b p ∧ Rep N t p) ↔ _
    constructor
    · rintro ⟨a, b, c, d, e, f⟩; exact ⟨a, b, d, c, f, e⟩
    · rintro ⟨a, b, c, d, e, f⟩; exact ⟨a, b, d, c, f, e⟩
theorem nodeS_nodup {s : Bool} {t : Sp} {p : Nat} {b : Sp} : (nodeS s t p b).els.Nodup ↔ p ∉ t.els ∧ p ∉ b.els ∧ t.els.Nodup ∧ b.els.Nodup ∧ ∀ x, x ∈ t.els → x ∉ b.els := by
  rw [(nodeS_perm s t p b).nodup_iff, List.nodup_cons, List.nodup_append]
  simp only [List.mem_append, not_or]
  constructor
  · rintro ⟨⟨h1, h2⟩, h3, h4, h5⟩
    exact ⟨h1, h2, h3, h4, fun x hx hb => h5 x hx x hb rfl⟩
  · rintro ⟨h1, h2, h3, h4, h5⟩
    exact ⟨⟨h1, h2⟩, h3, h4, fun x hx y hy e => h5 x hx (e ▸ hy)⟩
theorem nodeS_sq {N : NS} {s : Bool} {t : Sp} {p : Nat} {b : Sp} (h : (N p).fl = false) : sq N (nodeS s t p b) = if s then sq N b ++ p :: sq N t else sq N t ++ p :: sq N b := by
  cases s <;> (unfold nodeS; simp [sq, h])
theorem sumW_cons (N : NS) (x : Nat) (L : List Nat) : sumW N (x :: L) = (1 + (N x).lt) + sumW N L := rfl
theorem sumW_append (N : NS) : ∀ L M : List Nat, sumW N (L ++ M) = sumW N L + sumW N M
  | [], M => by show _ = 0 + _; rw [Int.zero_add]; rfl
  | x :: L, M => by rw [List.cons_append, sumW_cons, sumW_cons, sumW_append N L M]; omega
theorem sumW_perm {N : NS} {L M : List Nat} (h : L.Perm M) : sumW N L = sumW N M := by
  induction h with
  | nil => rfl
  | cons x _ ih => rw [sumW_cons, sumW_cons, ih]
  | swap x y l => rw [sumW_cons, sumW_cons, sumW_cons, sumW_cons]; omega
  | trans _ _ h1 h2 => rw [h1, h2]
theorem sumW_congr {N N' : NS} : ∀ {L : List Nat}, (∀ x, x ∈ L → (N' x).lt = (N x).lt) → sumW N' L = sumW N L
  | [], _ => rfl
  | x :: L, h => by rw [sumW_cons, sumW_cons, h x (.head _), sumW_congr fun y hy => h y (.tail _ hy)]
theorem sumW_ge {N : NS} : ∀ {L : List Nat}, (∀ x, x ∈ L → 0 ≤ (N x).lt) → (L.length : Int) ≤ sumW N L
  | [], _ => Int.le_refl _
  | x :: L, h => by
    have := sumW_ge (N := N) (L := L) fun y hy => h y (.tail _ hy)
    have := h x (.head _)
    rw [sumW_cons, List.length_cons]; omega
theorem bef_irrefl (N : NS) (i : Nat) : befB N i i = false := by unfold befB; simp
theorem bef_congr {N N' : NS} {i j : Nat} (h1 : (N' i).key = (N i).key) (h2 : (N' j).key = (N j).key) : befB N' i j = befB N i j := by unfold befB; rw [h1, h2]
theorem bef_iff {N : NS} {i j : Nat} : befB N i j = true ↔ (N i).key < (N j).key ∨ (N i).key = (N j).key ∧ i < j := by unfold befB; simp
theorem bef_not {N : NS} {i j : Nat} : befB N i j = false ↔ ¬ ((N i).key < (N j).key ∨ (N i).key = (N j).key ∧ i < j) := by rw [← bef_iff]; simp
theorem IsMin.perm {N : NS} {L M : List Nat} {m : Nat} (h : IsMin N L m) (p : L.Perm M) : IsMin N M m := ⟨p.mem_iff.1 h.mem, fun x hx => h.le x (p.mem_iff.2 hx)⟩
theorem IsMin.congr {N N' : NS} {L : List Nat} {m : Nat} (h : IsMin N L m) (k : ∀ x, x ∈ L → (N' x).key = (N x).key) : IsMin N' L m := ⟨h.mem, fun x hx => by rw [bef_congr (k x hx) (k m h.mem)]; exact h.le x hx⟩
theorem IsMin.one (N : NS) (i : Nat) : IsMin N [i] i := ⟨.head _, fun x hx => by rw [List.mem_singleton.1 hx]; exact bef_irrefl N i⟩
theorem IsMin.two {N : NS} {L M : List Nat} {a b : Nat} (h : IsMin N L a) (k : IsMin N M b) : IsMin N (L ++ M) (if befB N b a then b else a) := by
  by_cases c : befB N b a = true
  · rw [if_pos c]
    refine ⟨List.mem_append.2 (.inr k.mem), fun x hx => ?_⟩
    rcases List.mem_append.1 hx with h1 | h1
    · have := bef_not.1 (h.le x h1)
      have := bef_iff.1 c
      rw [bef_not]; omega
    · exact k.le x h1
  · rw [if_neg c]
    refine ⟨List.mem_append.2 (.inl h.mem), fun x hx => ?_⟩
    rcases List.mem_append.1 hx with h1 | h1
    · exact h.le x h1
    · have := bef_not.1 (k.le x h1)
      have := bef_not.1 (Bool.eq_false_iff.2 c)
      rw [bef_not]; omega
theorem Ok.perm {N : NS} {i : Nat} {L M : List Nat} (h : Ok N i L) (p : L.Perm M) : Ok N i M := ⟨by rw [h.sz, p.length_eq], by rw [h.tot, sumW_perm p], h.fst.perm p⟩
theorem Ok.congr {N N' : NS} {i : Nat} {L : List Nat} (h : Ok N i L) (h1 : (N' i).sz = (N i).sz) (h2 : (N' i).tot = (N i).tot) (h3 : (N' i).fst = (N i).fst) (k : ∀ x, x ∈ L → (N' x).key = (N x).key ∧ (N' x).lt = (N x).lt) : Ok N' i L :=
  ⟨by rw [h1]; exact h.sz, by rw [h2, h.tot, sumW_congr fun x hx => (k x hx).2], by rw [h3]; exact h.fst.congr fun x hx => (k x hx).1⟩
theorem nodeS_agg {N : NS} {s : Bool} {t : Sp} {p : Nat} {b : Sp} : Agg N (nodeS s t p b) ↔ Ok N p (p :: (t.els ++ b.els)) ∧ Agg N t ∧ Agg N b := by
  cases s
  · exact ⟨fun ⟨a, b, c⟩ => ⟨a.perm List.perm_middle, b, c⟩, fun ⟨a, b, c⟩ => ⟨a.perm List.perm_middle.symm, b, c⟩⟩
  · exact ⟨fun ⟨a, b, c⟩ => ⟨a.perm (List.perm_middle.trans (List.Perm.cons p List.perm_append_comm)), c, b⟩, fun ⟨a, b, c⟩ => ⟨a.perm (List.perm_middle.trans (List.Perm.cons p List.perm_append_comm)).symm, c, b⟩⟩
theorem root_mem : ∀ {t : Sp}, t.root ≠ 0 → t.root ∈ t.els
  | .nil, h => absurd rfl h
  | .node l i r, _ => List.mem_append.2 (.inr (.head _))
theorem root_zero {N : NS} {u : Nat} : ∀ {t : Sp}, Rep N t u → t.root = 0 → t = .nil
  | .nil, _, _ => rfl
  | .node l i r, h, e => absurd e h.1
theorem rep_nz {N : NS} : ∀ {t : Sp} {u : Nat}, Rep N t u → ∀ x, x ∈ t.els → x ≠ 0
  | .node l i r, u, h, x, hx => by
    rcases List.mem_append.1 hx with h1 | h1
    · exact rep_nz h.2.2.2.2.1 x h1
    · rcases List.mem_cons.1 h1 with h1 | h1
      · rw [h1]; exact h.1
      · exact rep_nz h.2.2.2.2.2 x h1
theorem rep_congr {N N' : NS} : ∀ {t : Sp} {u : Nat}, Rep N t u → (∀ x, x ∈ t.els → (N' x).k0 = (N x).k0 ∧ (N' x).k1 = (N x).k1 ∧ (N' x).up = (N x).up) → Rep N' t u
  | .nil, _, _, _ => trivial
  | .node l i r, u, ⟨a, b, c, d, e, f⟩, h => by
    obtain ⟨h1, h2, h3⟩ := h i (List.mem_append.2 (.inr (.head _)))
    exact ⟨a, by rw [h3]; exact b, by rw [h1]; exact c, by rw [h2]; exact d, rep_congr e fun x hx => h x (List.mem_append.2 (.inl hx)), rep_congr f fun x hx => h x (List.mem_append.2 (.inr (.tail _ hx)))⟩
theorem rep_up {N N' : NS} {u u' : Nat} : ∀ {t : Sp}, Rep N t u → t.els.Nodup → (∀ x, x ∈ t.els → (N' x).k0 = (N x).k0 ∧ (N' x).k1 = (N x).k1) → (∀ x, x ∈ t.els → x ≠ t.root → (N' x).up = (N x).up) → (t.root ≠ 0 → (N' t.root).up = u') → Rep N' t u'
  | .nil, _, _, _, _, _ => trivial
  | .node l i r, ⟨a, b, c, d, e, f⟩, hn, h1, h2, h3 => by
    obtain ⟨n1, n2, n3⟩ := List.nodup_append.1 hn
    obtain ⟨k1, k2⟩ := h1 i (List.mem_append.2 (.inr (.head _)))
    refine ⟨a, h3 a, by rw [k1]; exact c, by rw [k2]; exact d, rep_congr e fun x hx => ?_, rep_congr f fun x hx => ?_⟩
    · have hm := List.mem_append.2 (Or.inl (b := x ∈ i :: r.els) hx)
      obtain ⟨j1, j2⟩ := h1 x hm
      exact ⟨j1, j2, h2 x hm fun e => n3 x hx i (.head _) e⟩
    · have hm := List.mem_append.2 (Or.inr (a := x ∈ l.els) (List.mem_cons_of_mem i hx))
      obtain ⟨j1, j2⟩ := h1 x hm
      refine ⟨j1, j2, h2 x hm fun e => ?_⟩
      rw [show x = i from e] at hx
      exact (List.nodup_cons.1 n2).1 hx
theorem sq_congr {N N' : NS} : ∀ {t : Sp}, (∀ x, x ∈ t.els → (N' x).fl = (N x).fl) → sq N' t = sq N t
  | .nil, _ => rfl
  | .node l i r, h => by
    unfold sq
    rw [h i (List.mem_append.2 (.inr (.head _))), sq_congr fun x hx => h x (List.mem_append.2 (.inl hx)), sq_congr fun x hx => h x (List.mem_append.2 (.inr (.tail _ hx)))]
theorem sq_perm {N : NS} : ∀ {t : Sp}, (sq N t).Perm t.els
  | .nil => List.Perm.refl _
  | .node l i r => by
    have := (sq_perm (N := N) (t := l)).append (List.Perm.cons i (sq_perm (N := N) (t := r)))
    unfold sq
    split
    · exact (List.reverse_perm _).trans this
    · exact this
theorem agg_congr {N N' : NS} : ∀ {t : Sp}, Agg N t → (∀ x, x ∈ t.els → (N' x).sz = (N x).sz ∧ (N' x).tot = (N x).tot ∧ (N' x).fst = (N x).fst ∧ (N' x).key = (N x).key ∧ (N' x).lt = (N x).lt) → Agg N' t
  | .nil, _, _ => trivial
  | .node l i r, ⟨a, b, c⟩, h => by
    obtain ⟨h1, h2, h3, _⟩ := h i (List.mem_append.2 (.inr (.head _)))
    exact ⟨a.congr h1 h2 h3 fun x hx => (h x hx).2.2.2, agg_congr b fun x hx => h x (List.mem_append.2 (.inl hx)), agg_congr c fun x hx => h x (List.mem_append.2 (.inr (.tail _ hx)))⟩
theorem agg_root {N : NS} : ∀ {t : Sp}, Agg N t → t.root ≠ 0 → Ok N t.root t.els
  | .nil, _, h => absurd rfl h
  | .node l i r, h, _ => h.1
theorem frsh_ok {N : NS} {i : Nat} {l r : Sp} {u v : Nat} (hl : Rep N l u) (hr : Rep N r v) (al : Agg N l) (ar : Agg N r) (e0 : (N i).k0 = l.root) (e1 : (N i).k1 = r.root)
    (h0 : ∀ x, x ∈ i :: (l.els ++ r.els) → 0 ≤ (N x).lt) (hs : sumW N (i :: (l.els ++ r.els)) ≤ 4611686018427387904) (hil : i ∉ l.els) (hir : i ∉ r.els) : Ok (refN N i) i (i :: (l.els ++ r.els)) := by
  have key : ∀ x, (refN N i x).key = (N x).key ∧ (refN N i x).lt = (N x).lt := fun x => by
    unfold refN
    by_cases e : x = i
    · subst e
      rw [uN_same]
      unfold frsh addK
      split <;> split <;> exact ⟨rfl, rfl⟩
    · rw [uN_ne N _ e]; exact ⟨rfl, rfl⟩
  have hi := h0 i (.head _)
  have gl := sumW_ge (N := N) (L := l.els) fun x hx => h0 x (.tail _ (List.mem_append.2 (.inl hx)))
  have gr := sumW_ge (N := N) (L := r.els) fun x hx => h0 x (.tail _ (List.mem_append.2 (.inr hx)))
  rw [sumW_cons, sumW_append] at hs
  have step : ∀ (t : Sp) (w : Nat), Rep N t w → Agg N t → ∀ (v : Nd) (L : List Nat), v.sz = L.length → v.tot = sumW N L → IsMin N L v.fst → (L.length : Int) ≤ sumW N L → (t.els.length : Int) ≤ sumW N t.els → sumW N L + sumW N t.els ≤ 4611686018427387904 →
      (addK N v t.root).sz = (L ++ t.els).length ∧ (addK N v t.root).tot = sumW N (L ++ t.els) ∧ IsMin N (L ++ t.els) (addK N v t.root).fst := by
    intro t w hr ha v L h1 h2 h3 h4 h5 h6
    unfold addK
    by_cases e : t.root = 0
    · rw [if_pos e, root_zero hr e]
      show _ = ((L ++ []).length : Int) ∧ _ = sumW N (L ++ []) ∧ IsMin N (L ++ []) _
      rw [List.append_nil]
      exact ⟨h1, h2, h3⟩
    · rw [if_neg e]
      have ok := agg_root ha e
      refine ⟨?_, ?_, h3.two ok.fst⟩
      · show w64 _ = _
        rw [h1, ok.sz, List.length_append]
        rw [w64_in (by omega)]
        omega
      · show w64 _ = _
        rw [h2, ok.tot, sumW_append]
        exact w64_in (by omega)
  have s1 := step l u hl al { N i with sz := 1, fst := i, tot := w64 (1 + (N i).lt) } [i] rfl (by show w64 _ = _; rw [w64_in (by omega)]; show _ = (1 + (N i).lt) + 0; omega) (IsMin.one N i) (by show (1 : Int) ≤ (1 + (N i).lt) + 0; omega) gl (by show ((1 + (N i).lt) + 0) + _ ≤ _; omega)
  have e2 : sumW N ([i] ++ l.els) = (1 + (N i).lt) + sumW N l.els := by rw [sumW_append]; show ((1 + (N i).lt) + 0) + _ = _; omega
  have s2 := step r v hr ar (addK N { N i with sz := 1, fst := i, tot := w64 (1 + (N i).lt) } l.root) ([i] ++ l.els) s1.1 s1.2.1 s1.2.2 (by rw [e2]; simp; omega) gr (by rw [e2]; omega)
  have e3 : [i] ++ l.els ++ r.els = i :: (l.els ++ r.els) := rfl
  rw [e3, ← e0, ← e1] at s2
  have e4 : refN N i i = frsh N i := uN_same N i _
  refine ⟨?_, ?_, ?_⟩
  · rw [e4]; exact s2.1
  · rw [e4, sumW_congr fun x hx => (key x).2]; exact s2.2.1
  · rw [e4]; exact s2.2.2.congr fun x hx => (key x).1
theorem side_kid {N : NS} {s : Bool} {t : Sp} {p : Nat} {b : Sp} {u : Nat} (h : Rep N (nodeS s t p b) u) (hn : (nodeS s t p b).els.Nodup) (ht : t.root ≠ 0) : sideN N t.root = some s ∧ (N t.root).up = p := by
  obtain ⟨p0, _, h1, h2, h3, h4⟩ := nodeS_rep.1 h
  obtain ⟨n1, n2, n3, n4, n5⟩ := nodeS_nodup.1 hn
  have hup : (N t.root).up = p := by
    cases t with
    | nil => exact absurd rfl ht
    | node l i r => exact h3.2.1
  refine ⟨?_, hup⟩
  have hb : b.root ≠ t.root := fun e => by
    have h5 := root_mem ht
    have h6 := root_mem (t := b) (by rw [e]; exact ht)
    rw [e] at h6
    exact n5 _ h5 h6
  unfold sideN
  rw [hup, if_neg p0]
  cases s with
  | false =>
    have h1' : (N p).k0 = t.root := h1
    rw [if_pos h1']
  | true =>
    have h1' : (N p).k1 = t.root := h1
    have h2' : (N p).k0 = b.root := h2
    rw [if_neg (by rw [h2']; exact hb), if_pos h1']
theorem side_root {N : NS} {i u : Nat} (h1 : (N i).up = u) (h2 : u = 0 ∨ (N u).k0 ≠ i ∧ (N u).k1 ≠ i) : sideN N i = none := by
  unfold sideN
  rw [h1]
  rcases h2 with h | ⟨h, k⟩
  · rw [if_pos h]
  · by_cases c : u = 0
    · rw [if_pos c]
    · rw [if_neg c, if_neg h, if_neg k]
theorem side_some {N : NS} {i : Nat} {s : Bool} (h : sideN N i = some s) : (N i).up ≠ 0 ∧ kid N s (N i).up = i := by
  unfold sideN at h
  split at h
  · cases h
  · rename_i h0
    refine ⟨h0, ?_⟩
    split at h
    · injection h with h; subst h; assumption
    · split at h
      · injection h with h; subst h; assumption
      · cases h
end Go.Proofs.YtlooaipipmiijaaGreat
