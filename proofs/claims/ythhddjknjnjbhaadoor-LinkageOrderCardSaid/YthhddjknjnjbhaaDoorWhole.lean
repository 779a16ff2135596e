/- Laws for a whole block: loaded, stored; make as an equation. No program in sight. -/
import Derived.Test.YthhddjknjnjbhaaDoorBase
import Derived.Deep.MidRow
namespace Go.Proofs.YthhddjknjnjbhaaDoor
set_option linter.unusedVariables false
set_option linter.unusedSimpArgs false
open Go.RowKit

theorem Blk.setAll {b : Nat} {T : TypeId} (vs : List Value) : ∀ {w : World} (pre old : List Value), Blk w b T (pre ++ old) → old.length = vs.length → Blk (w.setCells b pre.length vs) b T (pre ++ vs) := by
  induction vs with
  | nil =>
    intro w pre old h hl
    have : old = [] := List.eq_nil_of_length_eq_zero hl
    subst this
    exact h
  | cons v vs ih =>
    intro w pre old h hl
    match old, hl with
    | o :: old, hl =>
      have h1 := h.set pre.length v
      have e1 : (pre ++ o :: old).set pre.length v = (pre ++ [v]) ++ old := by simp
      rw [e1] at h1
      have h2 := ih (pre ++ [v]) old h1 (by simpa using hl)
      rw [List.append_assoc, List.length_append] at h2
      exact h2

theorem Mod.setCells {F : Nat → Prop} {b : Nat} (vs : List Value) : ∀ {a w : World} (o : Nat), Mod F a w → (b < a.heap.size → F b) → Mod F a (w.setCells b o vs) := by
  induction vs with
  | nil => intro a w o h _; exact h
  | cons v vs ih => intro a w o h hb; exact ih (o + 1) (h.setCell ⟨b, o, none⟩ hb v) hb

theorem wpList_loadBlk {P : Program} {ops : Array Oper} {rest : List Oper} {d : Tmp} {ty t1 : TypeId} {x : Operand} {pos : String} {aft : Array Edge} {a : Act} {Q : Exit → Act → World → Prop} {w : World}
    (g : Nat) (T : TypeId) (cs : List Value) (ds : TypeDesc) (hx : a.eval x = .pointer (some ⟨g, 0, none⟩)) (hg : Blk w g T cs)
    (hu : P.underlying ty = some ds) (hd : (match ds with | .struct _ | .array _ _ => true | _ => false) = true) (hi : (P.info? ty).map (·.size) = some cs.length)
    (h : wpList P ops Q rest (a.put (some d) (.agg cs.toArray)) w) : wpList P ops Q (⟨some d, .load ty x, t1, pos, aft, none⟩ :: rest) a w :=
  wpList_load_row rfl ty x rfl g hx T cs.toArray (0, 0) ds hg hu hd (by simpa using hi) h

theorem wpList_storeBlk {P : Program} {ops : Array Oper} {rest : List Oper} {ty t1 : TypeId} {x y : Operand} {pos : String} {aft : Array Edge} {a : Act} {Q : Exit → Act → World → Prop} {w : World}
    (g : Nat) (T : TypeId) (cs vs : List Value) (hx : a.eval x = .pointer (some ⟨g, 0, none⟩)) (hy : a.eval y = .agg vs.toArray) (hg : Blk w g T cs) (hl : cs.length = vs.length)
    (hi : (P.info? ty).map (·.size) = some vs.length) (h1 : ∀ v ∈ vs, v.oneCell' = true)
    (h : ∀ w1, Blk w1 g T vs → Mod (fun k => k = g) w w1 → wpList P ops Q rest (a.put none undef) w1) : wpList P ops Q (⟨none, .store ty x y, t1, pos, aft, none⟩ :: rest) a w := by
  refine wpList_store_mid rfl ty x y rfl g 0 vs.toArray hx hy (fun j hj => ?_) (by simpa using hi) (all_oneCell_toArray h1) ?_
  · simp only [List.size_toArray] at hj
    rw [Nat.zero_add]
    refine ⟨?_, hg.free j⟩
    have hjl : j < cs.length := by omega
    rw [hg.cell (List.getElem?_eq_getElem hjl)]; rfl
  · have hb := Blk.setAll vs (w := w) [] cs (T := T) hg hl
    have hm := Mod.setCells (F := fun k => k = g) (b := g) vs (a := w) (w := w) 0 (Mod.refl _ _) (fun _ => rfl)
    exact h _ hb hm

/-- 'make([]T, n)', T of one cell: the equation. -/
theorem run_makeE {P : Program} (t e : TypeId) (z : Value) (bytes : Nat) (ht : P.underlying t = some (.slice e)) (hz : (P.info? e).map (fun i => (i.zero, i.size, i.bytes)) = some (some z, 1, bytes)) (hone : z.cells = #[z])
    (kl kc : IntKind) (n : Nat) (b2 : bytes * n ≤ 281474976710656) (b3 : n ≤ maxLen) (w : World) :
    (Instr.makeSlice t (.int kl (n : Int)) (.int kc (n : Int))).run P w = .ok (.slice (some ⟨w.heap.size, 0, none⟩) n n) (w.alloc (.cells (List.replicate n z).toArray e)) := by
  obtain ⟨i, hi, hz0, hz1, hz2⟩ := info_parts hz
  unfold maxLen at b3
  have hb : (i.bytes : Int) * (n : Int) ≤ 281474976710656 := by
    have h : ((i.bytes * n : Nat) : Int) ≤ 281474976710656 := by rw [hz2]; omega
    rwa [Int.natCast_mul] at h
  have hr := run_make (P := P) w t e i z ht hi hz0 kl kc n n (by omega) (by omega) hb (by omega)
  simp only [Int.toNat_natCast] at hr
  rw [hr]
  have : madeCells z.cells (n * i.size) = (List.replicate n z).toArray := by
    apply Array.toList_inj.1
    rw [hz1, Nat.mul_one, hone, madeCells_one]
  rw [this]

end Go.Proofs.YthhddjknjnjbhaaDoor
