/- Several texts in one: StA, StB. -/
import Derived.Test.YtlooaipipmiijaaGreatZX18
namespace Go.Proofs.YtlooaipipmiijaaGreat
set_option linter.unusedVariables false
set_option linter.unusedSimpArgs false
open Go.RowKit
def upF {α : Type} (f : Nat → α) (i : Nat) (v : α) : Nat → α := fun x => if x = i then v else f x
theorem uF_same {α : Type} (f : Nat → α) (i : Nat) (v : α) : upF f i v i = v := if_pos rfl
theorem uF_ne {α : Type} (f : Nat → α) {i x : Nat} (v : α) (h : x ≠ i) : upF f i v x = f x := if_neg h
structure Lr where
  slot : Nat
  seq : Nat
  u : Nat
  v : Nat
  wt : Int
  t : Int
  ex : Int
def lr0 : Lr := ⟨0, 0, 0, 0, 0, 0, 0⟩
def lrc (r : Lr) : Nat → Value
  | 0 => .int .i64 (r.slot : Int)
  | 1 => .int .u64 (r.seq : Int)
  | 2 => .int .u64 (r.u : Int)
  | 3 => .int .u64 (r.v : Int)
  | 4 => .int .i64 r.wt
  | 5 => .int .i64 r.t
  | _ => .int .i64 r.ex
def lrL (r : Lr) : List Value := [.int .i64 (r.slot : Int), .int .u64 (r.seq : Int), .int .u64 (r.u : Int), .int .u64 (r.v : Int), .int .i64 r.wt, .int .i64 r.t, .int .i64 r.ex]
theorem lrL_get (r : Lr) {j : Nat} (hj : j < 7) : (lrL r)[j]? = some (lrc r j) := by
  match j, hj with
  | 0, _ => rfl
  | 1, _ => rfl
  | 2, _ => rfl
  | 3, _ => rfl
  | 4, _ => rfl
  | 5, _ => rfl
  | 6, _ => rfl
theorem lrL_one (r : Lr) : ∀ v ∈ lrL r, v.oneCell' = true := by
  intro v hv
  simp only [lrL, List.mem_cons, List.not_mem_nil, or_false] at hv
  rcases hv with rfl | rfl | rfl | rfl | rfl | rfl | rfl <;> rfl
def lrRow (n : Nat) (R : Nat → Lr) : List Value := (List.range (n * 7)).map fun q => lrc (R (q / 7)) (q % 7)
theorem lrRow_len (n : Nat) (R : Nat → Lr) : (lrRow n R).length = n * 7 := by unfold lrRow; rw [List.length_map, List.length_range]
theorem lrRow_at {n : Nat} {R : Nat → Lr} {q : Nat} (h : q < n * 7) : (lrRow n R)[q]? = some (lrc (R (q / 7)) (q % 7)) := by
  unfold lrRow; rw [List.getElem?_map, List.getElem?_range h]; rfl
theorem lrRow_get {n : Nat} {R : Nat → Lr} {i j : Nat} (hi : i < n) (hj : j < 7) : (lrRow n R)[i * 7 + j]? = some (lrc (R i) j) := by
  rw [lrRow_at (by omega), show (i * 7 + j) / 7 = i by omega, show (i * 7 + j) % 7 = j by omega]
theorem lrRow_one (n : Nat) (R : Nat → Lr) : ∀ v ∈ lrRow n R, v.oneCell' = true := by
  intro v hv
  unfold lrRow at hv
  obtain ⟨q, _, rfl⟩ := List.mem_map.1 hv
  show (lrc (R (q / 7)) (q % 7)).oneCell' = true
  exact lrL_one (R (q / 7)) _ (List.mem_of_getElem? (lrL_get _ (by omega)))
theorem lrRow_snoc (n : Nat) (R : Nat → Lr) (r : Lr) : lrRow n R ++ lrL r = lrRow (n + 1) (upF R n r) := by
  apply List.ext_getElem?
  intro q
  by_cases h1 : q < n * 7
  · rw [List.getElem?_append_left (by rw [lrRow_len]; exact h1), lrRow_at h1, lrRow_at (by omega), uF_ne _ _ (by omega)]
  · rw [List.getElem?_append_right (by rw [lrRow_len]; omega), lrRow_len]
    by_cases h2 : q < (n + 1) * 7
    · rw [lrRow_at h2, lrL_get _ (by omega), show q / 7 = n by omega, uF_same, show q % 7 = q - n * 7 by omega]
    · rw [List.getElem?_eq_none (l := lrL r) (by show 7 ≤ _; omega), List.getElem?_eq_none (by rw [lrRow_len]; omega)]
def setL (xs : List Value) (j : Nat) : List Value → List Value
  | [] => xs
  | v :: vs => setL (xs.set j v) (j + 1) vs
theorem setL_get : ∀ (vs xs : List Value) (j q : Nat), j + vs.length ≤ xs.length → (setL xs j vs)[q]? = if j ≤ q ∧ q < j + vs.length then vs[q - j]? else xs[q]?
  | [], xs, j, q, _ => by rw [if_neg (by simp)]; rfl
  | v :: vs, xs, j, q, h => by
    have hl : (v :: vs).length = vs.length + 1 := rfl
    show (setL (xs.set j v) (j + 1) vs)[q]? = _
    rw [setL_get vs (xs.set j v) (j + 1) q (by rw [List.length_set]; omega)]
    by_cases c : j + 1 ≤ q ∧ q < j + 1 + vs.length
    · rw [if_pos c, if_pos (by omega), show q - j = (q - (j + 1)) + 1 by omega]; rfl
    · rw [if_neg c, List.getElem?_set]
      by_cases d : j = q
      · rw [if_pos d, if_pos (by omega), if_pos (by omega), show q - j = 0 by omega]; rfl
      · rw [if_neg d, if_neg (by omega)]
theorem setL_row {n : Nat} {R : Nat → Lr} {i : Nat} (hi : i < n) (r : Lr) : setL (lrRow n R) (i * 7) (lrL r) = lrRow n (upF R i r) := by
  apply List.ext_getElem?
  intro q
  rw [setL_get _ _ _ _ (by rw [lrRow_len]; show i * 7 + 7 ≤ n * 7; omega)]
  have hl : (lrL r).length = 7 := rfl
  rw [hl]
  by_cases c : i * 7 ≤ q ∧ q < i * 7 + 7
  · rw [if_pos c, lrRow_at (by omega), lrL_get _ (by omega), show q / 7 = i by omega, uF_same, show q % 7 = q - i * 7 by omega]
  · rw [if_neg c]
    by_cases hq : q < n * 7
    · rw [lrRow_at hq, lrRow_at hq, uF_ne _ _ (by omega)]
    · rw [List.getElem?_eq_none (by rw [lrRow_len]; omega), List.getElem?_eq_none (by rw [lrRow_len]; omega)]
theorem owns_setCells {base : Nat} {e : TypeId} {size g n cap : Nat} : ∀ (vs xs : List Value) (w : World) (j : Nat), w.ownsRow base e size (.slice (some ⟨g, 0, none⟩) n cap) n xs → j + vs.length ≤ n * size → (w.setCells g j vs).ownsRow base e size (.slice (some ⟨g, 0, none⟩) n cap) n (setL xs j vs)
  | [], xs, w, j, h, _ => h
  | v :: vs, xs, w, j, h, hj => by
    have hl : (v :: vs).length = vs.length + 1 := rfl
    exact owns_setCells vs (xs.set j v) (w.setCell ⟨g, j, none⟩ v) (j + 1) (owns_set h j (by omega) v) (by omega)
structure SG where
  V : Nat
  E : Nat
  last : Nat
  ab : Nat
  beg : Nat
  Lv : Nat → Prop
  FA : Nat → Prop
  tb : Nat
  LvT : Nat → Prop
  D : Nat → Nat
  FT : Nat → Prop
  lv : Value
  nl : Nat
  R : Nat → Lr
  mb : Nat
  KI : Nat → Prop
  inc : Nat → List Nat
  gb : Nat → Nat
  gc : Nat → Nat
  c : Nat
  col : Nat → Nat
def SG.val (g : SG) (id : Nat) : Value := .slice (some ⟨g.gb id, 0, none⟩) (g.inc id).length (g.gc id)
noncomputable def SG.fm (g : SG) (i : Int) : Option Value := open Classical in if 0 ≤ i ∧ g.KI i.toNat then some (g.val i.toNat) else none
theorem SG.fm_yes {g : SG} {id : Nat} (h : g.KI id) : g.fm (id : Int) = some (g.val id) := by
  unfold SG.fm
  rw [if_pos ⟨by omega, h⟩]; rfl
theorem SG.fm_no {g : SG} {id : Nat} (h : ¬ g.KI id) : g.fm (id : Int) = none := by
  unfold SG.fm
  rw [if_neg (fun ⟨_, k⟩ => h k)]
structure StM (w : World) (b : Nat) (g : SG) : Prop where
  box : Blk w b 123 [.int .i64 (g.V : Int), .int .i64 (g.E : Int), .int .u64 (g.last : Int), .pointer (some ⟨g.ab, 0, none⟩), .pointer (some ⟨g.tb, 0, none⟩), g.lv, .map (some g.mb)]
  ar : ArO w g.ab g.E g.beg g.Lv g.FA
  tb : InO w g.tb g.V g.LvT g.D g.FT
  row : w.ownsRow 0 63 7 g.lv g.nl (lrRow g.nl g.R)
  map : MapK .u64 w Tryz.prog 25 g.mb g.c g.fm
  rows : ∀ id, g.KI id → w.ownsRow 0 3 1 (g.val id) (g.inc id).length (natV64 (g.inc id))
  k0 : g.col b = 0
  k1 : ∀ k, g.FA k → g.col k = 1
  k2 : ∀ k, g.FT k → g.col k = 2
  k3 : ∀ k, g.lv.ownBlock = some k → g.col k = 3
  k4 : g.col g.mb = 4
  k5 : ∀ id, g.KI id → g.col (g.gb id) = 5 + id
def SG.foot (g : SG) (b k : Nat) : Prop := k = b ∨ g.FA k ∨ g.FT k ∨ g.lv.ownBlock = some k ∨ k = g.mb ∨ ∃ id, g.KI id ∧ g.gb id = k
section
variable {w w' : World} {b : Nat} {g : SG} {j : Nat}
theorem StM.mBox (h : StM w b g) (m : Mod (fun k => g.col k = j) w w') (hj : 0 ≠ j) : Blk w' b 123 [.int .i64 (g.V : Int), .int .i64 (g.E : Int), .int .u64 (g.last : Int), .pointer (some ⟨g.ab, 0, none⟩), .pointer (some ⟨g.tb, 0, none⟩), g.lv, .map (some g.mb)] :=
  h.box.mod m (fun e => hj (h.k0.symm.trans e))
theorem StM.mAr (h : StM w b g) (m : Mod (fun k => g.col k = j) w w') (hj : 1 ≠ j) : ArO w' g.ab g.E g.beg g.Lv (fun k => g.FA k ∧ k < w.heap.size) :=
  h.ar.tight.mod m (fun k hk e => hj ((h.k1 k hk.1).symm.trans e))
theorem StM.mTb (h : StM w b g) (m : Mod (fun k => g.col k = j) w w') (hj : 2 ≠ j) : InO w' g.tb g.V g.LvT g.D (fun k => g.FT k ∧ k < w.heap.size) :=
  h.tb.tight.mod m (fun k hk e => hj ((h.k2 k hk.1).symm.trans e))
theorem StM.mRow (h : StM w b g) (m : Mod (fun k => g.col k = j) w w') (hj : 3 ≠ j) : w'.ownsRow 0 63 7 g.lv g.nl (lrRow g.nl g.R) :=
  owns_modL h.row m (fun k hk e => hj ((h.k3 k hk).symm.trans e))
theorem StM.mMap (h : StM w b g) (m : Mod (fun k => g.col k = j) w w') (hj : 4 ≠ j) : MapK .u64 w' Tryz.prog 25 g.mb g.c g.fm :=
  h.map.mod m (fun e => hj (h.k4.symm.trans e))
theorem StM.mRows (h : StM w b g) (m : Mod (fun k => g.col k = j) w w') {id : Nat} (hk : g.KI id) (hj : 5 + id ≠ j) : w'.ownsRow 0 3 1 (g.val id) (g.inc id).length (natV64 (g.inc id)) :=
  owns_modL (h.rows id hk) m (fun k e1 e => hj ((h.k5 id hk).symm.trans (by injection e1 with e1; rw [show g.gb id = k from e1]; exact e)))
theorem StM.gbl (h : StM w b g) {id : Nat} (hk : g.KI id) : g.gb id < w.heap.size := ((h.rows id hk).lt _ rfl).2
theorem StM.tight (h : StM w b g) : StM w b { g with FA := fun k => g.FA k ∧ k < w.heap.size, FT := fun k => g.FT k ∧ k < w.heap.size } :=
  ⟨h.box, h.ar.tight, h.tb.tight, h.row, h.map, h.rows, h.k0, fun k e => h.k1 k e.1, fun k e => h.k2 k e.1, h.k3, h.k4, h.k5⟩
def reco (w : World) (col : Nat → Nat) (j : Nat) : Nat → Nat := fun k => if k < w.heap.size then col k else j
theorem reco_lt {w : World} {col : Nat → Nat} {j k : Nat} (h : k < w.heap.size) : reco w col j k = col k := if_pos h
theorem reco_ge {w : World} {col : Nat → Nat} {j k : Nat} (h : w.heap.size ≤ k) : reco w col j k = j := if_neg (by omega)
theorem StM.below (h : StM w b g) (m : Below w.heap.size w w') : StM w' b g :=
  ⟨h.box.below m h.box.lt, h.ar.below m, h.tb.below m, owns_same h.row (fun k e => m.block k (h.row.lt k e).2), h.map.below m h.map.lt, fun id hk => owns_same (h.rows id hk) (fun k e => m.block k ((h.rows id hk).lt k e).2), h.k0, h.k1, h.k2, h.k3, h.k4, h.k5⟩
theorem StM.mod {M : Nat → Prop} (h : StM w b g) (m : Mod M w w') (hF : ∀ k, g.foot b k → ¬ M k) : StM w' b g :=
  ⟨h.box.mod m (hF _ (.inl rfl)), h.ar.mod m (fun k e => hF k (.inr (.inl e))), h.tb.mod m (fun k e => hF k (.inr (.inr (.inl e)))), owns_modL h.row m (fun k e => hF k (.inr (.inr (.inr (.inl e))))), h.map.mod m (hF _ (.inr (.inr (.inr (.inr (.inl rfl)))))),
    fun id hk => owns_modL (h.rows id hk) m (fun k e => hF k (.inr (.inr (.inr (.inr (.inr ⟨id, hk, by injection e⟩)))))), h.k0, h.k1, h.k2, h.k3, h.k4, h.k5⟩
theorem StM.stepAr (h : StM w b g) {beg' : Nat} {Lv' : Nat → Prop} (m : Mod (fun k => g.col k = 1) w w') (ha : ArO w' g.ab g.E beg' Lv' (fun k => g.FA k ∨ w.heap.size ≤ k)) :
    StM w' b { g with beg := beg', Lv := Lv', FA := fun k => (g.FA k ∨ w.heap.size ≤ k) ∧ k < w'.heap.size, FT := fun k => g.FT k ∧ k < w.heap.size, col := reco w g.col 1 } :=
  ⟨h.mBox m (by decide), ha.tight, h.mTb m (by decide), h.mRow m (by decide), h.mMap m (by decide), fun id hk => h.mRows m hk (by omega), (reco_lt h.box.lt).trans h.k0,
    fun k e => by
      show reco w g.col 1 k = 1
      by_cases c : k < w.heap.size
      · rw [reco_lt c]
        rcases e.1 with e | e
        · exact h.k1 k e
        · omega
      · exact reco_ge (by omega),
    fun k e => (reco_lt e.2).trans (h.k2 k e.1), fun k e => (reco_lt (h.row.lt k e).2).trans (h.k3 k e), (reco_lt h.map.lt).trans h.k4, fun id hk => (reco_lt (h.gbl hk)).trans (h.k5 id hk)⟩
theorem StM.stepTb (h : StM w b g) {LvT' : Nat → Prop} {D' : Nat → Nat} (m : Mod (fun k => g.col k = 2) w w') (ha : InO w' g.tb g.V LvT' D' (fun k => g.FT k ∨ w.heap.size ≤ k)) :
    StM w' b { g with LvT := LvT', D := D', FA := fun k => g.FA k ∧ k < w.heap.size, FT := fun k => (g.FT k ∨ w.heap.size ≤ k) ∧ k < w'.heap.size, col := reco w g.col 2 } :=
  ⟨h.mBox m (by decide), h.mAr m (by decide), ha.tight, h.mRow m (by decide), h.mMap m (by decide), fun id hk => h.mRows m hk (by omega), (reco_lt h.box.lt).trans h.k0,
    fun k e => (reco_lt e.2).trans (h.k1 k e.1),
    fun k e => by
      show reco w g.col 2 k = 2
      by_cases c : k < w.heap.size
      · rw [reco_lt c]
        rcases e.1 with e | e
        · exact h.k2 k e
        · omega
      · exact reco_ge (by omega),
    fun k e => (reco_lt (h.row.lt k e).2).trans (h.k3 k e), (reco_lt h.map.lt).trans h.k4, fun id hk => (reco_lt (h.gbl hk)).trans (h.k5 id hk)⟩
theorem StM.stepLast (h : StM w b g) (n : Nat) : StM (w.setCell ⟨b, 2, none⟩ (.int .u64 (n : Int))) b { g with last := n } := by
  have m : Mod (fun k => g.col k = 0) w (w.setCell ⟨b, 2, none⟩ (.int .u64 (n : Int))) := (Mod.refl _ w).setCell ⟨b, 2, none⟩ (fun _ => h.k0) _
  have t := h.tight
  exact ⟨h.box.set 2 _, h.ar.mod m (fun k hk e => by have := h.k1 k hk; omega), h.tb.mod m (fun k hk e => by have := h.k2 k hk; omega), h.mRow m (by decide), h.mMap m (by decide), fun id hk => h.mRows m hk (by omega), h.k0, h.k1, h.k2, h.k3, h.k4, h.k5⟩
theorem StM.stepGrow {w3 : World} {v : Value} {r : Lr} (h : StM w b g) (o : Obj) (ho : w3.ownsRow 0 63 7 v (g.nl + 1) (lrRow g.nl g.R ++ lrL r)) (hg : (w.alloc o).grownBy w3 g.lv.ownBlock) (hk : ∀ k, v.ownBlock = some k → g.lv.ownBlock = some k ∨ (w.alloc o).heap.size ≤ k) :
    Blk w3 b 123 [.int .i64 (g.V : Int), .int .i64 (g.E : Int), .int .u64 (g.last : Int), .pointer (some ⟨g.ab, 0, none⟩), .pointer (some ⟨g.tb, 0, none⟩), g.lv, .map (some g.mb)] ∧
    StM (w3.setCell ⟨b, 5, none⟩ v) b { g with lv := v, nl := g.nl + 1, R := upF g.R g.nl r, FA := fun k => g.FA k ∧ k < w.heap.size, FT := fun k => g.FT k ∧ k < w.heap.size, col := reco w g.col 3 } ∧ Mod (g.foot b) w (w3.setCell ⟨b, 5, none⟩ v) := by
  have hm : Mod (fun k => g.col k = 3) w w3 := ((Mod.refl _ w).alloc o).grown hg (fun k e _ => h.k3 k e)
  have hm1 : Mod (g.foot b) w w3 := ((Mod.refl (g.foot b) w).alloc o).grown hg (fun k e _ => .inr (.inr (.inr (.inl e))))
  have hsz : (w.alloc o).heap.size = w.heap.size + 1 := by simp
  have box3 := h.mBox hm (by decide)
  have hcv : ∀ k, v.ownBlock = some k → reco w g.col 3 k = 3 := fun k e => by
    rcases hk k e with c | c
    · rw [reco_lt (h.row.lt k c).2]; exact h.k3 k c
    · exact reco_ge (by omega)
  have m : Mod (fun k => reco w g.col 3 k = 0) w3 (w3.setCell ⟨b, 5, none⟩ v) := (Mod.refl (fun k => reco w g.col 3 k = 0) w3).setCell ⟨b, 5, none⟩ (fun _ => (reco_lt h.box.lt).trans h.k0) v
  refine ⟨box3, ⟨box3.set 5 v, (h.mAr hm (by decide)).mod m (fun k hk e => ?_), (h.mTb hm (by decide)).mod m (fun k hk e => ?_), ?_, (h.mMap hm (by decide)).mod m (fun e => ?_), fun id hid => owns_modL (h.mRows hm hid (by omega)) m (fun k e1 e => ?_), (reco_lt h.box.lt).trans h.k0, fun k e => (reco_lt e.2).trans (h.k1 k e.1), fun k e => (reco_lt e.2).trans (h.k2 k e.1), hcv, (reco_lt h.map.lt).trans h.k4, fun id hid => (reco_lt (h.gbl hid)).trans (h.k5 id hid)⟩, hm1.setCell _ (fun _ => .inl rfl) _⟩
  · rw [reco_lt hk.2, h.k1 k hk.1] at e; cases e
  · rw [reco_lt hk.2, h.k2 k hk.1] at e; cases e
  · rw [lrRow_snoc] at ho
    exact owns_modL ho m (fun k e1 e => by rw [hcv k e1] at e; cases e)
  · rw [reco_lt h.map.lt, h.k4] at e; cases e
  · injection e1 with e1
    have e1' : g.gb id = k := e1
    rw [← e1', reco_lt (h.gbl hid), h.k5 id hid] at e; omega
theorem StM.stepSet (h : StM w b g) {i lb cap : Nat} (hv : g.lv = .slice (some ⟨lb, 0, none⟩) g.nl cap) (hi : i < g.nl) (r : Lr) :
    StM (w.setCells lb (i * 7) (lrL r)) b { g with R := upF g.R i r } ∧ Mod (g.foot b) w (w.setCells lb (i * 7) (lrL r)) := by
  have hlb : g.lv.ownBlock = some lb := by rw [hv]; rfl
  have m : Mod (fun k => g.col k = 3) w (w.setCells lb (i * 7) (lrL r)) := Mod.setCells (lrL r) (i * 7) (Mod.refl _ w) (fun _ => h.k3 lb hlb)
  refine ⟨⟨h.mBox m (by decide), h.ar.mod m (fun k hk e => by have := h.k1 k hk; omega), h.tb.mod m (fun k hk e => by have := h.k2 k hk; omega), ?_, h.mMap m (by decide), fun id hk => h.mRows m hk (by omega), h.k0, h.k1, h.k2, h.k3, h.k4, h.k5⟩, Mod.setCells (lrL r) (i * 7) (Mod.refl _ w) (fun _ => .inr (.inr (.inr (.inl hlb))))⟩
  have hr := h.row
  show World.ownsRow _ 0 _ 7 g.lv g.nl (lrRow g.nl (upF g.R i r))
  rw [hv] at hr ⊢
  rw [← setL_row hi]
  exact owns_setCells (lrL r) _ w (i * 7) hr (by show i * 7 + 7 ≤ g.nl * 7; omega)
end
end Go.Proofs.YtlooaipipmiijaaGreat

namespace Go.Proofs.YtlooaipipmiijaaGreat
set_option linter.unusedVariables false
set_option linter.unusedSimpArgs false
open Go.RowKit
section
variable {w : World} {b : Nat} {g : SG}
theorem StM.s0 (h : StM w b g) : w.cell? ⟨b, 0, none⟩ = some (.int .i64 (g.V : Int)) := h.box.cell (i := 0) rfl
theorem StM.s1 (h : StM w b g) : w.cell? ⟨b, 1, none⟩ = some (.int .i64 (g.E : Int)) := h.box.cell (i := 1) rfl
theorem StM.s2 (h : StM w b g) : w.cell? ⟨b, 2, none⟩ = some (.int .u64 (g.last : Int)) := h.box.cell (i := 2) rfl
theorem StM.s3 (h : StM w b g) : w.cell? ⟨b, 3, none⟩ = some (.pointer (some ⟨g.ab, 0, none⟩)) := h.box.cell (i := 3) rfl
theorem StM.s4 (h : StM w b g) : w.cell? ⟨b, 4, none⟩ = some (.pointer (some ⟨g.tb, 0, none⟩)) := h.box.cell (i := 4) rfl
theorem StM.s5 (h : StM w b g) : w.cell? ⟨b, 5, none⟩ = some g.lv := h.box.cell (i := 5) rfl
theorem StM.s6 (h : StM w b g) : w.cell? ⟨b, 6, none⟩ = some (.map (some g.mb)) := h.box.cell (i := 6) rfl
end
set_option maxHeartbeats 400000 in
theorem st_valid (b mb : Nat) (w : World) (h6 : w.cell? ⟨b, 6, none⟩ = some (.map (some mb))) :
    Calls Tryz.prog 58 #[.pointer (some ⟨b, 0, none⟩)] w (Ret (.bool true) w) := by
  have hq : ∀ W, (binOp .neq 121 (.map (some mb)) (.map none)).run Tryz.prog W = .ok (.bool true) W := fun W => run_neq_map_nil W _ _ _ (some mb) Tryz.underlying121
  go_enter Tryz.func58, Tryz.ntmps58
  go_wp2
  go_ret
  exact ⟨rfl, rfl⟩
set_option maxHeartbeats 1000000 in
theorem st_index (w : World) (b : Nat) (g : SG) (h : StM w b g) (id : Nat) :
    Calls Tryz.prog 50 #[.pointer (some ⟨b, 0, none⟩), .int .u64 id] w (RetB (.tuple #[.int .i64 (((gix g.LvT g.D id).getD 0 : Nat) : Int), .bool (gix g.LvT g.D id).isSome]) w) := by
  have HV := Lib.hid (st_valid b g.mb w h.s6)
  have HG := Lib.hid (in_get w g.tb g.V g.LvT g.D g.FT h.tb id)
  have c4 := h.s4
  clear h
  generalize g.tb = tb at *
  go_enter Tryz.func50, Tryz.ntmps50
  go_wp2_with (first | (go_at_call 58; refine HV.out.mono ?_; rintro e w' ⟨rfl, rfl⟩) | (go_at_call 87; refine HG.out.mono ?_; rintro e w1 ⟨rfl, hb1⟩; have HB1 := Lib.hid hb1; clear hb1))
  go_ret2
  exact ⟨rfl, HB1.out⟩
set_option maxHeartbeats 1000000 in
theorem st_verts (w : World) (b : Nat) (g : SG) (h : StM w b g) : Calls Tryz.prog 74 #[.pointer (some ⟨b, 0, none⟩)] w (Ret (.int .i64 (cntP g.LvT g.V : Int)) w) := by
  have HV := Lib.hid (st_valid b g.mb w h.s6)
  have HG := Lib.hid (in_len w g.tb g.V g.LvT g.D g.FT h.tb)
  have c4 := h.s4
  clear h
  generalize g.tb = tb at *
  go_enter Tryz.func74, Tryz.ntmps74
  go_wp2_with (first | (go_at_call 58; refine HV.out.mono ?_; rintro e w' ⟨rfl, rfl⟩) | (go_at_call 86; refine HG.out.mono ?_; rintro e w' ⟨rfl, rfl⟩))
  go_ret
  exact ⟨rfl, rfl⟩
set_option maxHeartbeats 1000000 in
theorem st_len (w : World) (b : Nat) (g : SG) (h : StM w b g) : Calls Tryz.prog 75 #[.pointer (some ⟨b, 0, none⟩)] w (Ret (.int .i64 (cntP g.Lv g.E : Int)) w) := by
  have HV := Lib.hid (st_valid b g.mb w h.s6)
  have HG := Lib.hid (ar_len w g.ab g.E g.beg g.Lv g.FA h.ar)
  have c3 := h.s3
  clear h
  generalize g.ab = ab at *
  go_enter Tryz.func75, Tryz.ntmps75
  go_wp2_with (first | (go_at_call 58; refine HV.out.mono ?_; rintro e w' ⟨rfl, rfl⟩) | (go_at_call 85; refine HG.out.mono ?_; rintro e w' ⟨rfl, rfl⟩))
  go_ret
  exact ⟨rfl, rfl⟩
theorem InO.sz {w : World} {b S : Nat} {Lv : Nat → Prop} {D : Nat → Nat} {F : Nat → Prop} (h : InO w b S Lv D F) : S ≤ 65536 := by
  obtain ⟨G, L, FA, h1, h2, h3, h4, h5⟩ := h
  exact h3.sz.2
noncomputable def newN (g : SG) (id : Nat) : Nat := if (gix g.LvT g.D id).isSome then 0 else 1
theorem newN_le (g : SG) (id : Nat) : newN g id ≤ 1 := by unfold newN; split <;> omega
noncomputable def stChk (g : SG) (u v : Nat) : Nat := if u = v then 9 else if g.E ≤ cntP g.Lv g.E then 12 else if g.V < cntP g.LvT g.V + newN g u + newN g v then 11 else 0
set_option maxHeartbeats 4000000 in
set_option maxRecDepth 100000 in
theorem st_check (w : World) (b : Nat) (g : SG) (h : StM w b g) (u v : Nat) (wt t : Int) :
    Calls Tryz.prog 46 #[.pointer (some ⟨b, 0, none⟩), .agg #[.int .u64 u, .int .u64 v, .int .i64 wt, .int .i64 t]] w (RetB (.int .i64 ((stChk g u v : Nat) : Int)) w) := by
  have hbx : Below w.heap.size w (w.alloc (.cells #[.int .u64 u, .int .u64 v, .int .i64 wt, .int .i64 t] 33)) := bel_alloc w _
  have HBX := Lib.hid hbx
  have H1 := Lib.hid (h.below hbx)
  have hE : g.E ≤ 65536 := by have := h.ar.sz; omega
  have hcE := cntP_le (P := g.Lv) g.E
  have hcV := cntP_le (P := g.LvT) g.V
  clear h hbx
  have BX : Blk (w.alloc (.cells #[.int .u64 u, .int .u64 v, .int .i64 wt, .int .i64 t] 33)) w.heap.size 33 [.int .u64 u, .int .u64 v, .int .i64 wt, .int .i64 t] := Blk.new _ _ _
  have HV := Lib.hid (st_valid b g.mb _ H1.out.s6)
  have HB := Lib.hid BX
  have hV : g.V ≤ 65536 := H1.out.tb.sz
  have hnu := newN_le g u
  have hnv := newN_le g v
  clear BX
  go_enter Tryz.func46, Tryz.ntmps46
  go_upto_region 1 with fail
  obtain ⟨rb, HRB⟩ : ∃ rb, Hid (w.heap.size = rb) := ⟨_, rfl⟩
  rw [HRB.out] at HB
  simp only [HRB.out]
  generalize (w.alloc (.cells #[.int .u64 u, .int .u64 v, .int .i64 wt, .int .i64 t] 33)) = w1 at *
  have x0 := HB.out.cell (i := 0) rfl
  have x1 := HB.out.cell (i := 1) rfl
  by_cases huv : u = v
  · have t1 : ((u : Int) == (v : Int)) = true := by rw [huv]; simp
    have HR : Hid (stChk g u v = 9) := by show _ = _; unfold stChk; rw [if_pos huv]
    clear huv
    go_wp2_with (go_at_call 58; refine HV.out.mono ?_; rintro e w' ⟨rfl, rfl⟩)
    go_ret
    rw [HR.out]
    exact ⟨rfl, HBX.out⟩
  · have t1 : ((u : Int) == (v : Int)) = false := by rw [beq_eq_false_iff_ne]; omega
    go_upto_region 5 with (go_at_call 58; refine HV.out.mono ?_; rintro e w' ⟨rfl, rfl⟩)
    have HL : Hid (∀ nq, Calls Tryz.prog 85 #[.pointer (some ⟨g.ab, 0, none⟩)] (w1.drewN nq) (fun e w' => e = .returned (.int .i64 (cntP g.Lv g.E : Int)) ∧ w' = w1.drewN nq)) := fun nq => Ret.still (ar_len (w1.drewN nq) g.ab g.E g.beg g.Lv g.FA (H1.out.below (bel_drewN (Below.refl w1.heap.size w1) nq)).ar)
    have c1 := H1.out.s1
    have c3 := H1.out.s3
    by_cases hfull : g.E ≤ cntP g.Lv g.E
    · have t2 : decide ((g.E : Int) ≤ (cntP g.Lv g.E : Int)) = true := decide_eq_true (by omega)
      have t3 : decide (g.E ≤ cntP g.Lv g.E) = true := decide_eq_true hfull
      have HR : Hid (stChk g u v = 12) := by show _ = _; unfold stChk; rw [if_neg huv, if_pos hfull]
      clear huv hfull x0 x1
      go_quiet ((go_at_call 85; exact Calls.quiet_of_same (HL.out _)))
      go_wp2_with fail
      go_ret
      rw [HR.out]
      exact ⟨rfl, bel_drewN HBX.out _⟩
    · have t2 : decide ((g.E : Int) ≤ (cntP g.Lv g.E : Int)) = false := decide_eq_false (by omega)
      have t3 : decide (g.E ≤ cntP g.Lv g.E) = false := decide_eq_false hfull
      have HR : Hid (stChk g u v = if g.V < cntP g.LvT g.V + newN g u + newN g v then 11 else 0) := by show _ = _; unfold stChk; rw [if_neg huv, if_neg hfull]
      clear huv hfull
      go_quiet ((go_at_call 85; exact Calls.quiet_of_same (HL.out _)))
      have H2 := Lib.hid (H1.out.below (bel_drewN (Below.refl w1.heap.size w1) nq))
      have HB2 : Hid (Blk (w1.drewN nq) rb 33 [.int .u64 u, .int .u64 v, .int .i64 wt, .int .i64 t]) := HB.out
      have HBX2 : Hid (Below w.heap.size w (w1.drewN nq)) := bel_drewN HBX.out nq
      clear HL H1 HB HBX HV c1 c3 x0 x1
      generalize w1.drewN nq = w2 at *
      have HLT := Lib.hid (in_len w2 g.tb g.V g.LvT g.D g.FT H2.out.tb)
      have c4 := H2.out.s4
      have x0 := HB2.out.cell (i := 0) rfl
      have x1 := HB2.out.cell (i := 1) rfl
      go_wp2_with (go_at_call 86; refine HLT.out.mono ?_; rintro e w' ⟨rfl, rfl⟩)
      clear x0 x1 c4
      go_loopw [5, 38] (fun s5 s38 wr => ∃ k : Nat, k ≤ 2 ∧ s38 = .int .i64 (k : Int) ∧ s5 = .int .i64 ((cntP g.LvT g.V + (if 1 ≤ k then newN g u else 0) + (if 2 ≤ k then newN g v else 0) : Nat) : Int) ∧ StM wr b g ∧ Below w.heap.size w wr) (fun _ s38 _ => 2 - (intOf s38).toNat)
      case atStart => exact ⟨0, by omega, rfl, rfl, H2.out, HBX2.out⟩
      case round =>
        obtain ⟨k, hk, rfl, rfl, hm, hb⟩ := hrel
        have HM := Lib.hid hm
        have HBR := Lib.hid hb
        have i0 : ∀ w, (Instr.index 125 (.agg #[.int .u64 u, .int .u64 v]) (.int .i64 0)).run Tryz.prog w = .ok (.int .u64 u) w := fun _ => rfl
        have i1 : ∀ w, (Instr.index 125 (.agg #[.int .u64 u, .int .u64 v]) (.int .i64 1)).run Tryz.prog w = .ok (.int .u64 v) w := fun _ => rfl
        have c4 := hm.s4
        clear H2 HBX2 HB2 hm hb
        have hcs : k = 0 ∨ k = 1 ∨ k = 2 := by omega
        rcases hcs with rfl | rfl | rfl
        · have HG := Lib.hid (in_get wr g.tb g.V g.LvT g.D g.FT HM.out.tb u)
          obtain ⟨m, HMM⟩ : ∃ m, Hid (m = cntP g.LvT g.V + (if 1 ≤ 0 then newN g u else 0) + (if 2 ≤ 0 then newN g v else 0)) := ⟨_, Lib.hid rfl⟩
          have HM2 : Hid (m + newN g u = cntP g.LvT g.V + (if 1 ≤ 0 + 1 then newN g u else 0) + (if 2 ≤ 0 + 1 then newN g v else 0)) := by
            show _ = _
            rw [HMM.out]
            simp
          have hmb : m ≤ 65538 := by
            rw [HMM.out]
            simp only [Nat.reduceLeDiff, if_true, if_false]
            omega
          rw [← HMM.out]
          have hwm : IntKind.i64.wrap ((m : Int) + 1) = (m : Int) + 1 := IntWalk.i64_in _ (by omega)
          cases hgs : (gix g.LvT g.D u).isSome with
          | true =>
            have HN : Hid (newN g u = 0) := by show _ = _; unfold newN; rw [if_pos hgs]
            rw [hgs] at HG
            clear hgs
            generalize (gix g.LvT g.D u).getD 0 = gv at *
            generalize g.tb = tb at *
            go_wp2_with (go_at_call 87; refine HG.out.mono ?_; rintro e w4 ⟨rfl, hb4⟩; have HB4 := Lib.hid hb4; clear hb4)
            go_roundw
            case rel => exact ⟨0 + 1, by omega, rfl, by rw [← HM2.out, HN.out]; rfl, HM.out.below HB4.out, bel_then HBR.out HB4.out⟩
            case measure => simp [intOf]
          | false =>
            have HN : Hid (newN g u = 1) := by show _ = _; unfold newN; rw [if_neg (by rw [hgs]; simp)]
            rw [hgs] at HG
            clear hgs
            generalize (gix g.LvT g.D u).getD 0 = gv at *
            generalize g.tb = tb at *
            go_wp2_with (go_at_call 87; refine HG.out.mono ?_; rintro e w4 ⟨rfl, hb4⟩; have HB4 := Lib.hid hb4; clear hb4)
            go_roundw
            case rel => exact ⟨0 + 1, by omega, rfl, by rw [← HM2.out, HN.out]; rfl, HM.out.below HB4.out, bel_then HBR.out HB4.out⟩
            case measure => simp [intOf]
        · have HG := Lib.hid (in_get wr g.tb g.V g.LvT g.D g.FT HM.out.tb v)
          obtain ⟨m, HMM⟩ : ∃ m, Hid (m = cntP g.LvT g.V + (if 1 ≤ 1 then newN g u else 0) + (if 2 ≤ 1 then newN g v else 0)) := ⟨_, Lib.hid rfl⟩
          have HM2 : Hid (m + newN g v = cntP g.LvT g.V + (if 1 ≤ 1 + 1 then newN g u else 0) + (if 2 ≤ 1 + 1 then newN g v else 0)) := by
            show _ = _
            rw [HMM.out]
            simp
          have hmb : m ≤ 65538 := by
            rw [HMM.out]
            simp only [Nat.reduceLeDiff, if_true, if_false]
            omega
          rw [← HMM.out]
          have hwm : IntKind.i64.wrap ((m : Int) + 1) = (m : Int) + 1 := IntWalk.i64_in _ (by omega)
          cases hgs : (gix g.LvT g.D v).isSome with
          | true =>
            have HN : Hid (newN g v = 0) := by show _ = _; unfold newN; rw [if_pos hgs]
            rw [hgs] at HG
            clear hgs
            generalize (gix g.LvT g.D v).getD 0 = gv at *
            generalize g.tb = tb at *
            go_wp2_with (go_at_call 87; refine HG.out.mono ?_; rintro e w4 ⟨rfl, hb4⟩; have HB4 := Lib.hid hb4; clear hb4)
            go_roundw
            case rel => exact ⟨1 + 1, by omega, rfl, by rw [← HM2.out, HN.out]; rfl, HM.out.below HB4.out, bel_then HBR.out HB4.out⟩
            case measure => simp [intOf]
          | false =>
            have HN : Hid (newN g v = 1) := by show _ = _; unfold newN; rw [if_neg (by rw [hgs]; simp)]
            rw [hgs] at HG
            clear hgs
            generalize (gix g.LvT g.D v).getD 0 = gv at *
            generalize g.tb = tb at *
            go_wp2_with (go_at_call 87; refine HG.out.mono ?_; rintro e w4 ⟨rfl, hb4⟩; have HB4 := Lib.hid hb4; clear hb4)
            go_roundw
            case rel => exact ⟨1 + 1, by omega, rfl, by rw [← HM2.out, HN.out]; rfl, HM.out.below HB4.out, bel_then HBR.out HB4.out⟩
            case measure => simp [intOf]
        · obtain ⟨m, HMM⟩ : ∃ m, Hid (m = cntP g.LvT g.V + newN g u + newN g v) := ⟨_, Lib.hid rfl⟩
          have c0 := HM.out.s0
          simp only [Nat.le_refl, Nat.reduceLeDiff, if_true]
          rw [← HMM.out] at HR ⊢
          clear i0 i1
          by_cases hlt : g.V < m
          · have t2 : decide ((g.V : Int) < (m : Int)) = true := decide_eq_true (by omega)
            have t3 : decide (g.V < m) = true := decide_eq_true hlt
            have HR2 : Hid (stChk g u v = 11) := by show _ = _; rw [HR.out, if_pos hlt]
            clear hlt
            go_wp2_with fail
            go_ret
            rw [HR2.out]
            exact ⟨rfl, HBR.out⟩
          · have t2 : decide ((g.V : Int) < (m : Int)) = false := decide_eq_false (by omega)
            have t3 : decide (g.V < m) = false := decide_eq_false hlt
            have HR2 : Hid (stChk g u v = 0) := by show _ = _; rw [HR.out, if_neg hlt]
            clear hlt
            go_wp2_with fail
            go_ret
            rw [HR2.out]
            exact ⟨rfl, HBR.out⟩
end Go.Proofs.YtlooaipipmiijaaGreat
