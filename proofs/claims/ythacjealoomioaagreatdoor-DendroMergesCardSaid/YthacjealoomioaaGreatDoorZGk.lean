/- RcBw, RcBx. -/
import Derived.Test.YthacjealoomioaaGreatDoorZGi
import Derived.Test.YthacjealoomioaaGreatDoorZGe
import Derived.Test.YthacjealoomioaaGreatDoorZGa
import Derived.Test.YthacjealoomioaaGreatDoorZGh
import Derived.Test.YthacjealoomioaaGreatDoorZGb
import Derived.Deep.RegionHeld3
/- recon.Build: its memory; the region that makes the lists. -/
namespace Go.Proofs.YthacjealoomioaaGreatDoor
set_option linter.unusedVariables false
set_option linter.unusedSimpArgs false
open Go.RowKit

theorem Tryz.infoI64 : (Tryz.prog.info? 2).map (fun i => (i.zero, i.size, i.bytes)) = some (some (.int .i64 0), 1, 8) := by kernel_rfl
theorem Tryz.infoPair : (Tryz.prog.info? 145).map (fun i => (i.zero, i.size, i.bytes)) = some (some (.agg #[.int .i64 0, .int .i64 0]), 2, 16) := by kernel_rfl

/-- Where things lie while a tree is built. -/
structure BB where
  tb : Nat
  lb : Nat
  rb : Nat
  pb : Nat
  hb : Nat
  sb : Nat
  ub : Nat

def BB.mem (B : BB) (k : Nat) : Prop := k = B.tb ∨ k = B.lb ∨ k = B.rb ∨ k = B.pb ∨ k = B.hb ∨ k = B.sb ∨ k = B.ub
/-- The lists are apart. -/
def BB.five (B : BB) : Prop := (B.tb ≠ B.lb ∧ B.tb ≠ B.rb ∧ B.tb ≠ B.pb ∧ B.tb ≠ B.hb ∧ B.tb ≠ B.sb) ∧ (B.lb ≠ B.rb ∧ B.lb ≠ B.pb ∧ B.lb ≠ B.hb ∧ B.lb ≠ B.sb) ∧ (B.rb ≠ B.pb ∧ B.rb ≠ B.hb ∧ B.rb ≠ B.sb) ∧ (B.pb ≠ B.hb ∧ B.pb ≠ B.sb) ∧ B.hb ≠ B.sb
def BB.apart (B : BB) : Prop := B.five ∧ B.ub ≠ B.tb ∧ B.ub ≠ B.lb ∧ B.ub ≠ B.rb ∧ B.ub ≠ B.pb ∧ B.ub ≠ B.hb ∧ B.ub ≠ B.sb

def intV (l : List Int) : List Value := l.map fun x => Value.int .i64 x

/-- The box and the five lists. -/
structure BdT (w : World) (B : BB) (n m : Nat) (t : Tr) : Prop where
  box : Blk w B.tb 27 [.int .i64 (n : Int), .slice (some ⟨B.lb, 0, none⟩) m m, .slice (some ⟨B.rb, 0, none⟩) m m, .slice (some ⟨B.pb, 0, none⟩) m m, .slice (some ⟨B.hb, 0, none⟩) m m, .slice (some ⟨B.sb, 0, none⟩) m m]
  l : Blk w B.lb 3 (intV t.left)
  r : Blk w B.rb 3 (intV t.right)
  p : Blk w B.pb 3 (intV t.par)
  h : Blk w B.hb 2 (intV t.hgt)
  s : Blk w B.sb 3 (intV t.siz)
  ll : t.left.length = m
  rl : t.right.length = m
  pl : t.par.length = m
  hl : t.hgt.length = m
  sl : t.siz.length = m
  ap : B.five

theorem BdT.mod {F : Nat → Prop} {w w' : World} {B : BB} {n m : Nat} {t : Tr} (h : BdT w B n m t) (hm : Mod F w w') (h1 : ¬ F B.tb) (h2 : ¬ F B.lb) (h3 : ¬ F B.rb) (h4 : ¬ F B.pb) (h5 : ¬ F B.hb) (h6 : ¬ F B.sb) : BdT w' B n m t :=
  ⟨h.box.mod hm h1, h.l.mod hm h2, h.r.mod hm h3, h.p.mod hm h4, h.h.mod hm h5, h.s.mod hm h6, h.ll, h.rl, h.pl, h.hl, h.sl, h.ap⟩
theorem BdT.below {w w' : World} {B : BB} {n m : Nat} {t : Tr} (h : BdT w B n m t) (hb : Below w.heap.size w w') : BdT w' B n m t := h.mod (Mod.of_below (F := fun _ => False) hb) id id id id id id

theorem blkIV {w : World} {b : Nat} {T : TypeId} {l : List Int} (h : Blk w b T (intV l)) {i : Nat} (hi : i < l.length) : w.cell? ⟨b, i, none⟩ = some (.int .i64 (gi l i)) := blkI h hi
theorem blkIV_set {w : World} {b : Nat} {T : TypeId} {l : List Int} (h : Blk w b T (intV l)) (i : Nat) (x : Int) : Blk (w.setCell ⟨b, i, none⟩ (.int .i64 x)) b T (intV (l.set i x)) := blkI_set h i x

theorem BdT.setL {w : World} {B : BB} {n m : Nat} {t : Tr} (h : BdT w B n m t) (i : Nat) (x : Int) : BdT (w.setCell ⟨B.lb, i, none⟩ (.int .i64 x)) B n m { t with left := t.left.set i x } := by
  have ha := h.ap
  unfold BB.five at ha
  exact ⟨h.box.other _ _ (by show _ ≠ B.lb; omega), blkIV_set h.l i x, h.r.other _ _ (by show _ ≠ B.lb; omega), h.p.other _ _ (by show _ ≠ B.lb; omega), h.h.other _ _ (by show _ ≠ B.lb; omega), h.s.other _ _ (by show _ ≠ B.lb; omega), by simp [h.ll], h.rl, h.pl, h.hl, h.sl, h.ap⟩
theorem BdT.setR {w : World} {B : BB} {n m : Nat} {t : Tr} (h : BdT w B n m t) (i : Nat) (x : Int) : BdT (w.setCell ⟨B.rb, i, none⟩ (.int .i64 x)) B n m { t with right := t.right.set i x } := by
  have ha := h.ap
  unfold BB.five at ha
  exact ⟨h.box.other _ _ (by show _ ≠ B.rb; omega), h.l.other _ _ (by show _ ≠ B.rb; omega), blkIV_set h.r i x, h.p.other _ _ (by show _ ≠ B.rb; omega), h.h.other _ _ (by show _ ≠ B.rb; omega), h.s.other _ _ (by show _ ≠ B.rb; omega), h.ll, by simp [h.rl], h.pl, h.hl, h.sl, h.ap⟩
theorem BdT.setP {w : World} {B : BB} {n m : Nat} {t : Tr} (h : BdT w B n m t) (i : Nat) (x : Int) : BdT (w.setCell ⟨B.pb, i, none⟩ (.int .i64 x)) B n m { t with par := t.par.set i x } := by
  have ha := h.ap
  unfold BB.five at ha
  exact ⟨h.box.other _ _ (by show _ ≠ B.pb; omega), h.l.other _ _ (by show _ ≠ B.pb; omega), h.r.other _ _ (by show _ ≠ B.pb; omega), blkIV_set h.p i x, h.h.other _ _ (by show _ ≠ B.pb; omega), h.s.other _ _ (by show _ ≠ B.pb; omega), h.ll, h.rl, by simp [h.pl], h.hl, h.sl, h.ap⟩
theorem BdT.setH {w : World} {B : BB} {n m : Nat} {t : Tr} (h : BdT w B n m t) (i : Nat) (x : Int) : BdT (w.setCell ⟨B.hb, i, none⟩ (.int .i64 x)) B n m { t with hgt := t.hgt.set i x } := by
  have ha := h.ap
  unfold BB.five at ha
  exact ⟨h.box.other _ _ (by show _ ≠ B.hb; omega), h.l.other _ _ (by show _ ≠ B.hb; omega), h.r.other _ _ (by show _ ≠ B.hb; omega), h.p.other _ _ (by show _ ≠ B.hb; omega), blkIV_set h.h i x, h.s.other _ _ (by show _ ≠ B.hb; omega), h.ll, h.rl, h.pl, by simp [h.hl], h.sl, h.ap⟩
theorem BdT.setS {w : World} {B : BB} {n m : Nat} {t : Tr} (h : BdT w B n m t) (i : Nat) (x : Int) : BdT (w.setCell ⟨B.sb, i, none⟩ (.int .i64 x)) B n m { t with siz := t.siz.set i x } := by
  have ha := h.ap
  unfold BB.five at ha
  exact ⟨h.box.other _ _ (by show _ ≠ B.sb; omega), h.l.other _ _ (by show _ ≠ B.sb; omega), h.r.other _ _ (by show _ ≠ B.sb; omega), h.p.other _ _ (by show _ ≠ B.sb; omega), h.h.other _ _ (by show _ ≠ B.sb; omega), blkIV_set h.s i x, h.ll, h.rl, h.pl, h.hl, by simp [h.sl], h.ap⟩

/- The region that makes the lists. -/
def bof : Value → Nat
  | .slice (some a) _ _ => a.block
  | .pointer (some a) => a.block
  | _ => 0

def isMk (j : Nat) : Bool := j == 2 || j == 4 || j == 6 || j == 8 || j == 10
def isMv (j : Nat) : Bool := j == 0 || j == 1 || j == 3 || j == 5 || j == 7 || j == 9
def mkT (j : Nat) : TypeId := if j = 8 then 2 else 3

structure MkAt (w0 w : World) (m : Nat) (v : Value) (T : TypeId) : Prop where
  val : v = .slice (some ⟨bof v, 0, none⟩) m m
  blk : Blk w (bof v) T (List.replicate m (.int .i64 0))
  new : w0.heap.size ≤ bof v

structure B5 (w0 : World) (n m : Nat) (L : Nat → Bool) (xs : Nat → Value) (w : World) : Prop where
  bel : Below w0.heap.size w0 w
  mv : ∀ j, isMv j = true → L j = true → xs j = .int .i64 (if j = 0 then (n : Int) else m)
  mkk : ∀ j, isMk j = true → L j = true → MkAt w0 w m (xs j) (mkT j)
  bd : L 11 = true → (L 0 = true ∧ L 2 = true ∧ L 4 = true ∧ L 6 = true ∧ L 8 = true ∧ L 10 = true) ∧ xs 11 = .agg #[xs 0, xs 2, xs 4, xs 6, xs 8, xs 10]
  al : L 12 = true → xs 12 = .pointer (some ⟨bof (xs 12), 0, none⟩) ∧ w0.heap.size ≤ bof (xs 12) ∧ (L 13 = false → Blk w (bof (xs 12)) 27 [.int .i64 0, .slice none 0 0, .slice none 0 0, .slice none 0 0, .slice none 0 0, .slice none 0 0]) ∧
    (L 13 = true → L 11 = true ∧ Blk w (bof (xs 12)) 27 [xs 0, xs 2, xs 4, xs 6, xs 8, xs 10])
  st : L 13 = true → L 12 = true
  ne : ∀ j k, (isMk j = true ∨ j = 12) → (isMk k = true ∨ k = 12) → L j = true → L k = true → j ≠ k → bof (xs j) ≠ bof (xs k)

theorem B5.lt {w0 w : World} {n m : Nat} {L : Nat → Bool} {xs : Nat → Value} (h : B5 w0 n m L xs w) {j : Nat} (hj : isMk j = true ∨ j = 12) (hl : L j = true) : bof (xs j) < w.heap.size := by
  rcases hj with hj | rfl
  · exact (h.mkk j hj hl).blk.lt
  · obtain ⟨_, _, h1, h2⟩ := h.al hl
    cases hc : L 13 with
    | false => exact (h1 hc).lt
    | true => exact (h2 hc).2.lt

theorem upd_t {L : Nat → Bool} {i j : Nat} (h : upd L i true j = true) (hne : j ≠ i) : L j = true := by rwa [upd_ne _ _ hne] at h

/-- A step that only reads. -/
theorem B5.read {w0 w : World} {n m : Nat} {L : Nat → Bool} {xs : Nat → Value} (h : B5 w0 n m L xs w) {i : Nat} (hi : L i = false) (v : Value) (h1 : isMk i = false) (h2 : i ≠ 12) (h3 : i ≠ 13) (hmv : isMv i = true → v = .int .i64 (if i = 0 then (n : Int) else m))
    (hbd : i = 11 → (L 0 = true ∧ L 2 = true ∧ L 4 = true ∧ L 6 = true ∧ L 8 = true ∧ L 10 = true) ∧ v = .agg #[xs 0, xs 2, xs 4, xs 6, xs 8, xs 10]) : B5 w0 n m (upd L i true) (upd xs i v) w := by
  have nmk : ∀ j, isMk j = true → j ≠ i := fun j hj e => by rw [e, h1] at hj; cases hj
  have keep : ∀ j, L j = true → j ≠ i := fun j hj e => by rw [e, hi] at hj; cases hj
  refine ⟨h.bel, fun j hj hl => ?_, fun j hj hl => ?_, fun hl => ?_, fun hl => ?_, fun hl => ?_, fun j k hj hk hlj hlk hne => ?_⟩
  · by_cases e : j = i
    · subst e; rw [upd_same]; exact hmv hj
    · rw [upd_ne _ _ e]; exact h.mv j hj (upd_t hl e)
  · rw [upd_ne _ _ (nmk j hj)]; exact h.mkk j hj (upd_t hl (nmk j hj))
  · by_cases e : 11 = i
    · obtain ⟨⟨a0, a2, a4, a6, a8, a10⟩, hv⟩ := hbd e.symm
      have g : ∀ j, L j = true → upd L i true j = true := fun j hj => by rw [upd_ne _ _ (keep j hj)]; exact hj
      refine ⟨⟨g 0 a0, g 2 a2, g 4 a4, g 6 a6, g 8 a8, g 10 a10⟩, ?_⟩
      rw [upd_ne _ _ (keep 0 a0), upd_ne _ _ (keep 2 a2), upd_ne _ _ (keep 4 a4), upd_ne _ _ (keep 6 a6), upd_ne _ _ (keep 8 a8), upd_ne _ _ (keep 10 a10), ← hv, ← e, upd_same]
    · obtain ⟨⟨a0, a2, a4, a6, a8, a10⟩, hv⟩ := h.bd (upd_t hl e)
      have g : ∀ j, L j = true → upd L i true j = true := fun j hj => by rw [upd_ne _ _ (keep j hj)]; exact hj
      refine ⟨⟨g 0 a0, g 2 a2, g 4 a4, g 6 a6, g 8 a8, g 10 a10⟩, ?_⟩
      rw [upd_ne _ _ (keep 0 a0), upd_ne _ _ (keep 2 a2), upd_ne _ _ (keep 4 a4), upd_ne _ _ (keep 6 a6), upd_ne _ _ (keep 8 a8), upd_ne _ _ (keep 10 a10), upd_ne _ _ e]
      exact hv
  · obtain ⟨b1, b2, b3, b4⟩ := h.al (upd_t hl (fun e => h2 e.symm))
    rw [upd_ne _ _ (fun e => h2 e.symm), upd_ne _ _ (fun e => h3 e.symm)]
    refine ⟨b1, b2, b3, fun hc => ?_⟩
    obtain ⟨c1, c2⟩ := b4 hc
    obtain ⟨⟨a0, a2, a4, a6, a8, a10⟩, _⟩ := h.bd c1
    rw [upd_ne _ _ (keep 0 a0), upd_ne _ _ (keep 2 a2), upd_ne _ _ (keep 4 a4), upd_ne _ _ (keep 6 a6), upd_ne _ _ (keep 8 a8), upd_ne _ _ (keep 10 a10), upd_ne _ _ (keep 11 c1)]
    exact ⟨c1, c2⟩
  · rw [upd_ne _ _ (fun e => h2 e.symm)]
    exact h.st (upd_t hl (fun e => h3 e.symm))
  · have nj : j ≠ i := by rcases hj with hj | hj; exact nmk j hj; exact fun e => h2 (by omega)
    have nk : k ≠ i := by rcases hk with hk | hk; exact nmk k hk; exact fun e => h2 (by omega)
    rw [upd_ne _ _ nj, upd_ne _ _ nk]
    exact h.ne j k hj hk (upd_t hlj nj) (upd_t hlk nk) hne

/-- A step that makes a block. -/
theorem B5.more {w0 w w' : World} {n m : Nat} {L : Nat → Bool} {xs : Nat → Value} (h : B5 w0 n m L xs w) {i : Nat} (hi : L i = false) (v : Value) (h1 : isMk i = true ∨ i = 12) (hb : Below w.heap.size w w') (hv : bof v = w.heap.size)
    (hmk : isMk i = true → MkAt w0 w' m v (mkT i)) (hal : i = 12 → v = .pointer (some ⟨bof v, 0, none⟩) ∧ w0.heap.size ≤ bof v ∧ Blk w' (bof v) 27 [.int .i64 0, .slice none 0 0, .slice none 0 0, .slice none 0 0, .slice none 0 0, .slice none 0 0]) : B5 w0 n m (upd L i true) (upd xs i v) w' := by
  have keep : ∀ j, L j = true → j ≠ i := fun j hj e => by rw [e, hi] at hj; cases hj
  have nmv : ∀ j, isMv j = true → j ≠ i := fun j hj e => by
    subst e
    unfold isMv at hj
    unfold isMk at h1
    simp at hj h1
    omega
  have n11 : 11 ≠ i := fun e => by subst e; simp [isMk] at h1
  have n13 : 13 ≠ i := fun e => by subst e; simp [isMk] at h1
  refine ⟨bel_then h.bel hb, fun j hj hl => ?_, fun j hj hl => ?_, fun hl => ?_, fun hl => ?_, fun hl => ?_, fun j k hj hk hlj hlk hne => ?_⟩
  · rw [upd_ne _ _ (nmv j hj)]; exact h.mv j hj (upd_t hl (nmv j hj))
  · by_cases e : j = i
    · subst e; rw [upd_same]; exact hmk hj
    · rw [upd_ne _ _ e]
      obtain ⟨m1, m2, m3⟩ := h.mkk j hj (upd_t hl e)
      exact ⟨m1, m2.below hb m2.lt, m3⟩
  · obtain ⟨⟨a0, a2, a4, a6, a8, a10⟩, hv⟩ := h.bd (upd_t hl n11)
    have g : ∀ j, L j = true → upd L i true j = true := fun j hj => by rw [upd_ne _ _ (keep j hj)]; exact hj
    refine ⟨⟨g 0 a0, g 2 a2, g 4 a4, g 6 a6, g 8 a8, g 10 a10⟩, ?_⟩
    rw [upd_ne _ _ (keep 0 a0), upd_ne _ _ (keep 2 a2), upd_ne _ _ (keep 4 a4), upd_ne _ _ (keep 6 a6), upd_ne _ _ (keep 8 a8), upd_ne _ _ (keep 10 a10), upd_ne _ _ n11]
    exact hv
  · by_cases e : 12 = i
    · subst e
      obtain ⟨b1, b2, b3⟩ := hal rfl
      rw [upd_same, upd_ne _ _ n13]
      refine ⟨b1, b2, fun _ => b3, fun hc => ?_⟩
      have := h.st hc
      rw [hi] at this
      cases this
    · obtain ⟨b1, b2, b3, b4⟩ := h.al (upd_t hl e)
      rw [upd_ne _ _ e, upd_ne _ _ n13]
      refine ⟨b1, b2, fun hc => (b3 hc).below hb (b3 hc).lt, fun hc => ?_⟩
      obtain ⟨c1, c2⟩ := b4 hc
      obtain ⟨⟨a0, a2, a4, a6, a8, a10⟩, _⟩ := h.bd c1
      rw [upd_ne _ _ (keep 0 a0), upd_ne _ _ (keep 2 a2), upd_ne _ _ (keep 4 a4), upd_ne _ _ (keep 6 a6), upd_ne _ _ (keep 8 a8), upd_ne _ _ (keep 10 a10), upd_ne _ _ n11]
      exact ⟨c1, c2.below hb c2.lt⟩
  · have h12 := h.st (upd_t hl n13)
    rw [upd_ne _ _ (keep 12 h12)]
    exact h12
  · by_cases ej : j = i
    · subst ej
      have nk : k ≠ j := fun e => hne e.symm
      rw [upd_same, upd_ne _ _ nk, hv]
      have := h.lt hk (upd_t hlk nk)
      omega
    · by_cases ek : k = i
      · subst ek
        rw [upd_same, upd_ne _ _ ej, hv]
        have := h.lt hj (upd_t hlj ej)
        omega
      · rw [upd_ne _ _ ej, upd_ne _ _ ek]
        exact h.ne j k hj hk (upd_t hlj ej) (upd_t hlk ek) hne

/-- The store. -/
theorem B5.store {w0 w w' : World} {n m : Nat} {L : Nat → Bool} {xs : Nat → Value} (h : B5 w0 n m L xs w) (hi : L 13 = false) (h11 : L 11 = true) (h12 : L 12 = true) (v : Value) (hm : Mod (fun k => k = bof (xs 12)) w w') (hb : Blk w' (bof (xs 12)) 27 [xs 0, xs 2, xs 4, xs 6, xs 8, xs 10]) : B5 w0 n m (upd L 13 true) (upd xs 13 v) w' := by
  have keep : ∀ j, L j = true → j ≠ 13 := fun j hj e => by rw [e, hi] at hj; cases hj
  have nmv : ∀ j, isMv j = true → j ≠ 13 := fun j hj e => by subst e; cases hj
  have nmk : ∀ j, isMk j = true → j ≠ 13 := fun j hj e => by subst e; cases hj
  obtain ⟨b1, b2, _, _⟩ := h.al h12
  refine ⟨bel_mod h.bel hm (fun x e => by rw [e]; exact b2), fun j hj hl => ?_, fun j hj hl => ?_, fun hl => ?_, fun hl => ?_, fun hl => ?_, fun j k hj hk hlj hlk hne => ?_⟩
  · rw [upd_ne _ _ (nmv j hj)]; exact h.mv j hj (upd_t hl (nmv j hj))
  · rw [upd_ne _ _ (nmk j hj)]
    obtain ⟨m1, m2, m3⟩ := h.mkk j hj (upd_t hl (nmk j hj))
    refine ⟨m1, m2.mod hm (h.ne j 12 (.inl hj) (.inr rfl) (upd_t hl (nmk j hj)) h12 (fun e => by subst e; cases hj)), m3⟩
  · obtain ⟨⟨a0, a2, a4, a6, a8, a10⟩, hv⟩ := h.bd h11
    exact ⟨⟨a0, a2, a4, a6, a8, a10⟩, hv⟩
  · exact ⟨b1, b2, fun hc => (by cases hc), fun _ => ⟨h11, hb⟩⟩
  · exact h12
  · have nj : j ≠ 13 := by rcases hj with hj | hj; exact nmk j hj; omega
    have nk : k ≠ 13 := by rcases hk with hk | hk; exact nmk k hk; omega
    rw [upd_ne _ _ nj, upd_ne _ _ nk]
    exact h.ne j k hj hk (upd_t hlj nj) (upd_t hlk nk) hne

theorem wp_value {P : Program} {o : Oper} {a : Act} {w w' : World} {K : Act → World → Prop} {F : Exit → Act → World → Prop} {v : Value} (h : (execOp a.eval o).run P w = .ok (.value v) w') (hk : K (a.put o.dst v) w') : o.wp P a w K F := by
  unfold Oper.wp; rw [h]; exact hk

theorem run_allocB {P : Program} {w : World} {T : TypeId} {z : Value} (hz : (P.info? T).bind (·.zero) = some z) (ρ : Operand → Value) (d : Option Tmp) (ty : TypeId) (pos : String) (aft : Array Edge) :
    (execOp ρ ⟨d, .alloc T, ty, pos, aft, none⟩).run P w = .ok (.value (.pointer (some ⟨w.heap.size, 0, none⟩))) (w.alloc (.cells z.cells T)) := by
  obtain ⟨i, hi, hzz⟩ := Option.bind_eq_some_iff.1 hz
  simp [execOp, Instr.alloc, zeroValue, typeInfo, hi, hzz, newVar, newRow, newObj, Result.andThen]
  rfl

theorem madeCells_two (u : Value) (n : Nat) : (madeCells #[u, u] n).toList = List.replicate n u := by
  simp only [madeCells]
  apply List.ext_getElem?
  intro i
  by_cases h : i < n
  · have h2 : i % 2 = 0 ∨ i % 2 = 1 := by omega
    rcases h2 with h2 | h2 <;> simp [h, h2]
  · simp [h]

/-- 'make([]T, n)', T of two equal cells. -/
theorem wpList_makeB2 {P : Program} {ops : Array Oper} {rest : List Oper} {d : Tmp} {t ty : TypeId} {l c : Operand} {pos : String} {aft : Array Edge} {a : Act} {Q : Exit → Act → World → Prop} {w : World}
    (e : TypeId) (u : Value) (bytes : Nat) (h1 : P.underlying t = some (.slice e)) (hz : (P.info? e).map (fun i => (i.zero, i.size, i.bytes)) = some (some (.agg #[u, u]), 2, bytes))
    (kl kc : IntKind) (L C : Int) (n : Nat) (hl : a.eval l = .int kl L) (hc : a.eval c = .int kc C) (hL : L = (n : Int)) (hC : C = (n : Int)) (b2 : bytes * n ≤ 281474976710656) (b3 : n ≤ maxLen)
    (h : ∀ w1, Blk w1 w.heap.size e (List.replicate (n * 2) u) → Below w.heap.size w w1 → wpList P ops Q rest (a.put (some d) (.slice (some ⟨w.heap.size, 0, none⟩) n n)) w1) :
    wpList P ops Q (⟨some d, .makeSlice t l c, ty, pos, aft, none⟩ :: rest) a w := by
  obtain ⟨i, hi, hz0, hz1, hz2⟩ := info_parts hz
  refine wpList_make_full w rfl l c t rfl 0 e i (.agg #[u, u]) 2 h1 hi hz0 hz1 kl kc L C n hl hc hL hC (by rw [hz2]; exact b2) b3 (Nat.zero_le _) ?_
  intro w' ho hg
  refine h w' ?_ ⟨hg.os, hg.tape, hg.output, hg.size, fun k hk => hg.block k hk (by simp)⟩
  have := Blk.of_owns ho
  have e2 : (Value.agg #[u, u]).cells = #[u, u] := rfl
  rw [e2, madeCells_two] at this
  exact this

/-- -1 up to x, 0 behind. -/
def negI (m x : Nat) : List Int := List.replicate x (-1) ++ List.replicate (m - x) 0
theorem negI_zero (m : Nat) : negI m 0 = List.replicate m 0 := by simp [negI]
theorem negI_all (m : Nat) : negI m m = List.replicate m (-1) := by simp [negI]
theorem negI_step {m x : Nat} (h : x < m) : (negI m x).set x (-1) = negI m (x + 1) := by
  unfold negI
  rw [List.set_append_right _ _ (by simp), List.length_replicate, Nat.sub_self, show m - x = (m - (x + 1)) + 1 by omega, List.replicate_succ, List.set_cons_zero, List.replicate_succ', List.append_assoc]
  rfl
def oneI (m x : Nat) : List Int := List.replicate x 1 ++ List.replicate (m - x) 0
theorem oneI_zero (m : Nat) : oneI m 0 = List.replicate m 0 := by simp [oneI]
theorem oneI_step {m x : Nat} (h : x < m) : (oneI m x).set x 1 = oneI m (x + 1) := by
  unfold oneI
  rw [List.set_append_right _ _ (by simp), List.length_replicate, Nat.sub_self, show m - x = (m - (x + 1)) + 1 by omega, List.replicate_succ, List.set_cons_zero, List.replicate_succ', List.append_assoc]
  rfl
def tA (k m x : Nat) : Tr := ⟨k, negI m x, negI m x, negI m x, List.replicate m 0, List.replicate m 0⟩
def tB (k m x : Nat) : Tr := ⟨k, negI m m, negI m m, negI m m, List.replicate m 0, oneI m x⟩
theorem tA_zero (k m : Nat) : tA k m 0 = ⟨k, List.replicate m 0, List.replicate m 0, List.replicate m 0, List.replicate m 0, List.replicate m 0⟩ := by unfold tA; rw [negI_zero]
theorem tAB (k m : Nat) : tA k m m = tB k m 0 := by unfold tA tB; rw [oneI_zero]
theorem tB_end {k m F : Nat} (h : k + F = m) : tB k m k = (bd0 k F).t := by
  unfold tB bd0 oneI
  rw [negI_all, ← h, Nat.add_sub_cancel_left]

theorem uni_zero (n : Nat) : uni n (List.replicate n 0) (List.replicate n 0) = List.replicate (n * 2) 0 := by
  apply List.ext_getElem?
  intro i
  by_cases hi : i < n * 2
  · have h2 : i / 2 < n := by omega
    rw [uni_get hi, List.getElem?_replicate, if_pos hi]
    simp [h2]
  · rw [List.getElem?_eq_none (by simp [uni]; omega), List.getElem?_eq_none (by simp; omega)]

theorem BdT.ub {w : World} {tb lb rb pb hb sb u u' : Nat} {n m : Nat} {t : Tr} (h : BdT w ⟨tb, lb, rb, pb, hb, sb, u⟩ n m t) : BdT w ⟨tb, lb, rb, pb, hb, sb, u'⟩ n m t :=
  ⟨h.box, h.l, h.r, h.p, h.h, h.s, h.ll, h.rl, h.pl, h.hl, h.sl, h.ap⟩

theorem Mod.setAt {F : Nat → Prop} {a w : World} {b i : Nat} {u : Value} (h : Mod F a w) (hb : F b) : Mod F a (w.setCell ⟨b, i, none⟩ u) := h.setCell ⟨b, i, none⟩ (fun _ => hb) u

theorem BdT.drew {w : World} {B : BB} {n m : Nat} {t : Tr} (h : BdT w B n m t) : BdT w.drew B n m t := h.mod ((Mod.refl (fun _ => False) w).drew) id id id id id id
theorem BdT.drewN {w : World} {B : BB} {n m : Nat} {t : Tr} (h : BdT w B n m t) (q : Nat) : BdT (w.drewN q) B n m t := h.mod ((Mod.refl (fun _ => False) w).drewN q) id id id id id id

theorem run_maxI (x y : Int) (w : World) : (Builtin.max_ #[3, 3] 3 #[Value.int IntKind.i64 x, .int .i64 y]).run Tryz.prog w = .ok (.int .i64 (max x y)) w := by
  by_cases h : x < y
  · have h2 : ¬ y < x := by omega
    rw [Int.max_eq_right (by omega)]
    simp [go_sem, h, h2]
    try omega
  · rw [Int.max_eq_left (by omega)]
    by_cases h3 : y < x
    · simp [go_sem, h, h3]
      try omega
    · have : x = y := by omega
      subst this
      simp [go_sem]

theorem keepC1 {F : Nat → Prop} {w w' : World} {p1 : Addr} {v1 : Value} (h1 : Hid (w.cell? p1 = some v1)) (n1 : ¬ F p1.block) (hb : Mod F w w') : w'.cell? p1 = some v1 ∧ Mod F w w' :=
  ⟨(hb.cell (World.block_lt_of_cell? w _ h1.out) n1).trans h1.out, hb⟩

theorem keepC2 {F : Nat → Prop} {w w' : World} {p1 p2 : Addr} {v1 v2 : Value} (h1 : Hid (w.cell? p1 = some v1)) (h2 : Hid (w.cell? p2 = some v2)) (n1 : ¬ F p1.block) (n2 : ¬ F p2.block) (hb : Mod F w w') : w'.cell? p1 = some v1 ∧ w'.cell? p2 = some v2 ∧ Mod F w w' :=
  ⟨(hb.cell (World.block_lt_of_cell? w _ h1.out) n1).trans h1.out, (hb.cell (World.block_lt_of_cell? w _ h2.out) n2).trans h2.out, hb⟩
theorem keepC3 {F : Nat → Prop} {w w' : World} {p1 p2 p3 : Addr} {v1 v2 v3 : Value} (h1 : Hid (w.cell? p1 = some v1)) (h2 : Hid (w.cell? p2 = some v2)) (h3 : Hid (w.cell? p3 = some v3)) (n1 : ¬ F p1.block) (n2 : ¬ F p2.block) (n3 : ¬ F p3.block) (hb : Mod F w w') : w'.cell? p1 = some v1 ∧ w'.cell? p2 = some v2 ∧ w'.cell? p3 = some v3 ∧ Mod F w w' :=
  ⟨(hb.cell (World.block_lt_of_cell? w _ h1.out) n1).trans h1.out, (hb.cell (World.block_lt_of_cell? w _ h2.out) n2).trans h2.out, (hb.cell (World.block_lt_of_cell? w _ h3.out) n3).trans h3.out, hb⟩

end Go.Proofs.YthacjealoomioaaGreatDoor

/- recon.Build. -/
namespace Go.Proofs.YthacjealoomioaaGreatDoor
set_option linter.unusedVariables false
set_option linter.unusedSimpArgs false
open Go.RowKit

theorem step_t {s : Bd} {l : List Ed} {x i LF RG : Nat} {we sw : Int} (h1 : s.lf l i = LF) (h2 : s.rg l i = RG) (h3 : wI l i = we) (h4 : gi s.t.siz LF + gi s.t.siz RG = sw) :
    (s.step l x i).t = ⟨s.t.lv, s.t.left.set x LF, s.t.right.set x RG, (s.t.par.set LF x).set RG x, s.t.hgt.set x we, s.t.siz.set x sw⟩ := by
  subst h1 h2 h3 h4; rfl
theorem step_top {s : Bd} {l : List Ed} {x i LO : Nat} (h : s.lo l i = LO) : (s.step l x i).top = s.top.set LO x := by subst h; rfl
theorem step_k {s : Bd} {l : List Ed} {x i LO HI : Nat} (h : s.lo l i = LO) (h2 : s.hi l i = HI) : (s.step l x i).k = relN s.k LO HI := by subst h h2; rfl

/-- What Build returns. -/
structure TbPost (w : World) (n : Int) (l : List Ed) (e : Ending) (w' : World) : Prop where
  bad : newErr n l ≠ 0 → e = .returned (.tuple #[.agg #[.int .i64 0, .slice none 0 0, .slice none 0 0, .slice none 0 0, .slice none 0 0, .slice none 0 0], .int .i64 (newErr n l)])
  ok : newErr n l = 0 → ∃ B : BB, e = .returned (.tuple #[.agg #[.int .i64 n, .slice (some ⟨B.lb, 0, none⟩) (bdL n.toNat l).par.length (bdL n.toNat l).par.length, .slice (some ⟨B.rb, 0, none⟩) (bdL n.toNat l).par.length (bdL n.toNat l).par.length, .slice (some ⟨B.pb, 0, none⟩) (bdL n.toNat l).par.length (bdL n.toNat l).par.length, .slice (some ⟨B.hb, 0, none⟩) (bdL n.toNat l).par.length (bdL n.toNat l).par.length, .slice (some ⟨B.sb, 0, none⟩) (bdL n.toNat l).par.length (bdL n.toNat l).par.length], .int .i64 0]) ∧ BdT w' B n.toNat (bdL n.toNat l).par.length (bdL n.toNat l) ∧ ∀ k, B.mem k → w.heap.size ≤ k
  bel : Below w.heap.size w w'

set_option maxHeartbeats 8000000 in
set_option maxRecDepth 100000 in
theorem rbuild_ok (w : World) (n : Int) (ao : Option Addr) (m cap b off : Nat) (l : List Ed) (he : ERow w ao m b off l) (hm : m ≤ 9223372036854775807) (hnil : ao = none → cap = 0) (hn64 : -9223372036854775808 ≤ n ∧ n ≤ 9223372036854775807) :
    Calls Tryz.prog 53 #[.int .i64 n, .slice ao m cap] w (TbPost w n l) := by
  have HE := Lib.hid he
  have HS := Lib.hid he.size
  have HNIL := Lib.hid hnil
  have H64 := Lib.hid hn64
  have hb := bel_alloc w (.cells #[.int .i64 0, .slice none 0 0, .slice none 0 0, .slice none 0 0, .slice none 0 0, .slice none 0 0] 27)
  have HB0 := Lib.hid hb
  have HE0 := Lib.hid (he.below hb)
  have HR0 := Lib.hid (Blk.new w 27 [.int .i64 0, .slice none 0 0, .slice none 0 0, .slice none 0 0, .slice none 0 0, .slice none 0 0])
  clear he hnil hn64 hb
  go_enter Tryz.func53, Tryz.ntmps53
  go_wp2_with fail
  generalize (w.alloc (.cells #[.int .i64 0, .slice none 0 0, .slice none 0 0, .slice none 0 0, .slice none 0 0, .slice none 0 0] 27)) = w0 at *
  with_reducible refine (forest_ok w0 n ao m cap b off l HE0.out hm HNIL.out H64.out).mono ?_
  rintro e w1 ⟨hbad, hgood, hb1⟩
  have HB1 := Lib.hid (bel_then HB0.out hb1)
  have HR1 := Lib.hid (HR0.out.below hb1 HR0.out.lt)
  clear hb1 HR0
  by_cases hz : newErr n l = 0
  · obtain ⟨k, hk, hg⟩ := GOk.of_err hz
    obtain rfl := hk
    obtain ⟨v, rfl, hv, hvn⟩ := hgood hz
    have HZ := Lib.hid hz
    have HG := Lib.hid hg
    have hn := hg.hn
    have hm2 : m ≤ 16384 := by rw [← HS.out]; exact hg.hl
    rw [Int.toNat_natCast] at hv
    have HV := Lib.hid hv
    have HVN := Lib.hid hvn
    have hfl := forL_len hg
    have hFN : (forL k l).length = FN k l := rfl
    rw [hFN] at hv hfl HV
    obtain ⟨vo, vc, rfl⟩ := owns_slice hv
    clear hz hg hbad hgood hv hvn
    generalize hF : FN k l = F at *
    have HF := Lib.hid hF
    clear hF hFN
    go_wp2_with fail
    obtain ⟨mm, hmm⟩ : ∃ mm, k + F = mm := ⟨_, rfl⟩
    have hcast : (k : Int) + (F : Int) = (mm : Int) := by omega
    simp only [hcast]
    have HMM := Lib.hid hmm
    have hmm2 : mm ≤ 8192 := by omega
    clear hmm hcast
    have hmkI : ∀ w, (Instr.makeSlice 24 (.int .i64 (mm : Int)) (.int .i64 (mm : Int))).run Tryz.prog w = .ok (.slice (some ⟨w.heap.size, 0, none⟩) mm mm) (w.alloc (.cells (List.replicate mm (Value.int .i64 0)).toArray 3)) := fun w =>
      run_makeE 24 3 (.int .i64 0) 8 Tryz.underlying24 Tryz.infoInt rfl .i64 .i64 mm (by omega) (by unfold maxLen; omega) w
    have hmkH : ∀ w, (Instr.makeSlice 25 (.int .i64 (mm : Int)) (.int .i64 (mm : Int))).run Tryz.prog w = .ok (.slice (some ⟨w.heap.size, 0, none⟩) mm mm) (w.alloc (.cells (List.replicate mm (Value.int .i64 0)).toArray 2)) := fun w =>
      run_makeE 25 2 (.int .i64 0) 8 Tryz.underlying25 Tryz.infoI64 rfl .i64 .i64 mm (by omega) (by unfold maxLen; omega) w
    have HMI := Lib.hid hmkI
    have HMH := Lib.hid hmkH
    clear hmkI hmkH
    go_upto_region 5 with fail
    refine wp_region_bag (by kernel_rfl) (by kernel_rfl) (by kernel_rfl) (by kernel_rfl) (B5 w1 k mm) ?start ?step ?fin
    case start =>
      rintro W rfl
      exact ⟨(Below.refl _ _).drew, nofun, nofun, nofun, nofun, nofun, nofun⟩
    case step =>
      intro L xs W i o A hev hev2 hJ ho hi hdep
      have hmkI := HMI.out
      have hmkH := HMH.out
      have h14 : i < 14 := by have := (List.getElem?_eq_some_iff.1 ho).1; simpa using this
      have hi14 : i = 0 ∨ i = 1 ∨ i = 2 ∨ i = 3 ∨ i = 4 ∨ i = 5 ∨ i = 6 ∨ i = 7 ∨ i = 8 ∨ i = 9 ∨ i = 10 ∨ i = 11 ∨ i = 12 ∨ i = 13 := by omega
      rcases hi14 with rfl | rfl | rfl | rfl | rfl | rfl | rfl | rfl | rfl | rfl | rfl | rfl | rfl | rfl
      · -- move 0
        cases ho
        have ev := hev 0 (by kernel_rfl)
        exact wp_value (v := .int .i64 (k : Int)) (w' := W) (congrArg (fun z => Result.ok (Next.value z) W) ev) ⟨_, rfl, hJ.read hi _ rfl (by decide) (by decide) (fun _ => rfl) (fun e => by cases e)⟩
      · -- move 1
        cases ho
        have ev := hev 8 (by kernel_rfl)
        exact wp_value (v := .int .i64 (mm : Int)) (w' := W) (congrArg (fun z => Result.ok (Next.value z) W) ev) ⟨_, rfl, hJ.read hi _ rfl (by decide) (by decide) (fun _ => rfl) (fun e => by cases e)⟩
      · -- make 2
        cases ho
        have h1 : L 1 = true := hdep ⟨1, .data⟩ (by simp) (by rfl)
        have ev : A.eval (.tmp 35) = .int .i64 (mm : Int) := (hev2 1 35 h1 rfl (by simp)).trans (hJ.mv 1 rfl h1)
        refine wp_value (v := .slice (some ⟨W.heap.size, 0, none⟩) mm mm) (w' := W.alloc (.cells (List.replicate mm (.int .i64 0)).toArray 3)) (by
          simp only [execOp, Sem.run_bind, ev]
          rw [hmkI W]
          rfl) ⟨_, rfl, hJ.more hi _ (.inl rfl) (bel_alloc _ _) rfl (fun _ => ⟨rfl, Blk.new _ _ _, hJ.bel.size⟩) (fun e => by cases e)⟩
      · -- move 3
        cases ho
        have ev := hev 8 (by kernel_rfl)
        exact wp_value (v := .int .i64 (mm : Int)) (w' := W) (congrArg (fun z => Result.ok (Next.value z) W) ev) ⟨_, rfl, hJ.read hi _ rfl (by decide) (by decide) (fun _ => rfl) (fun e => by cases e)⟩
      · -- make 4
        cases ho
        have h3 : L 3 = true := hdep ⟨3, .data⟩ (by simp) (by rfl)
        have ev : A.eval (.tmp 37) = .int .i64 (mm : Int) := (hev2 3 37 h3 rfl (by simp)).trans (hJ.mv 3 rfl h3)
        refine wp_value (v := .slice (some ⟨W.heap.size, 0, none⟩) mm mm) (w' := W.alloc (.cells (List.replicate mm (.int .i64 0)).toArray 3)) (by
          simp only [execOp, Sem.run_bind, ev]
          rw [hmkI W]
          rfl) ⟨_, rfl, hJ.more hi _ (.inl rfl) (bel_alloc _ _) rfl (fun _ => ⟨rfl, Blk.new _ _ _, hJ.bel.size⟩) (fun e => by cases e)⟩
      · -- move 5
        cases ho
        have ev := hev 8 (by kernel_rfl)
        exact wp_value (v := .int .i64 (mm : Int)) (w' := W) (congrArg (fun z => Result.ok (Next.value z) W) ev) ⟨_, rfl, hJ.read hi _ rfl (by decide) (by decide) (fun _ => rfl) (fun e => by cases e)⟩
      · -- make 6
        cases ho
        have h5 : L 5 = true := hdep ⟨5, .data⟩ (by simp) (by rfl)
        have ev : A.eval (.tmp 39) = .int .i64 (mm : Int) := (hev2 5 39 h5 rfl (by simp)).trans (hJ.mv 5 rfl h5)
        refine wp_value (v := .slice (some ⟨W.heap.size, 0, none⟩) mm mm) (w' := W.alloc (.cells (List.replicate mm (.int .i64 0)).toArray 3)) (by
          simp only [execOp, Sem.run_bind, ev]
          rw [hmkI W]
          rfl) ⟨_, rfl, hJ.more hi _ (.inl rfl) (bel_alloc _ _) rfl (fun _ => ⟨rfl, Blk.new _ _ _, hJ.bel.size⟩) (fun e => by cases e)⟩
      · -- move 7
        cases ho
        have ev := hev 8 (by kernel_rfl)
        exact wp_value (v := .int .i64 (mm : Int)) (w' := W) (congrArg (fun z => Result.ok (Next.value z) W) ev) ⟨_, rfl, hJ.read hi _ rfl (by decide) (by decide) (fun _ => rfl) (fun e => by cases e)⟩
      · -- make 8
        cases ho
        have h7 : L 7 = true := hdep ⟨7, .data⟩ (by simp) (by rfl)
        have ev : A.eval (.tmp 41) = .int .i64 (mm : Int) := (hev2 7 41 h7 rfl (by simp)).trans (hJ.mv 7 rfl h7)
        refine wp_value (v := .slice (some ⟨W.heap.size, 0, none⟩) mm mm) (w' := W.alloc (.cells (List.replicate mm (.int .i64 0)).toArray 2)) (by
          simp only [execOp, Sem.run_bind, ev]
          rw [hmkH W]
          rfl) ⟨_, rfl, hJ.more hi _ (.inl rfl) (bel_alloc _ _) rfl (fun _ => ⟨rfl, Blk.new _ _ _, hJ.bel.size⟩) (fun e => by cases e)⟩
      · -- move 9
        cases ho
        have ev := hev 8 (by kernel_rfl)
        exact wp_value (v := .int .i64 (mm : Int)) (w' := W) (congrArg (fun z => Result.ok (Next.value z) W) ev) ⟨_, rfl, hJ.read hi _ rfl (by decide) (by decide) (fun _ => rfl) (fun e => by cases e)⟩
      · -- make 10
        cases ho
        have h9 : L 9 = true := hdep ⟨9, .data⟩ (by simp) (by rfl)
        have ev : A.eval (.tmp 43) = .int .i64 (mm : Int) := (hev2 9 43 h9 rfl (by simp)).trans (hJ.mv 9 rfl h9)
        refine wp_value (v := .slice (some ⟨W.heap.size, 0, none⟩) mm mm) (w' := W.alloc (.cells (List.replicate mm (.int .i64 0)).toArray 3)) (by
          simp only [execOp, Sem.run_bind, ev]
          rw [hmkI W]
          rfl) ⟨_, rfl, hJ.more hi _ (.inl rfl) (bel_alloc _ _) rfl (fun _ => ⟨rfl, Blk.new _ _ _, hJ.bel.size⟩) (fun e => by cases e)⟩
      · -- build
        cases ho
        have h0 : L 0 = true := hdep ⟨0, .data⟩ (by simp) (by rfl)
        have h2 : L 2 = true := hdep ⟨2, .data⟩ (by simp) (by rfl)
        have h4 : L 4 = true := hdep ⟨4, .data⟩ (by simp) (by rfl)
        have h6 : L 6 = true := hdep ⟨6, .data⟩ (by simp) (by rfl)
        have h8 : L 8 = true := hdep ⟨8, .data⟩ (by simp) (by rfl)
        have h10 : L 10 = true := hdep ⟨10, .data⟩ (by simp) (by rfl)
        have e0 := hev2 0 34 h0 rfl (by simp)
        have e2 := hev2 2 36 h2 rfl (by simp)
        have e4 := hev2 4 38 h4 rfl (by simp)
        have e6 := hev2 6 40 h6 rfl (by simp)
        have e8 := hev2 8 42 h8 rfl (by simp)
        have e10 := hev2 10 44 h10 rfl (by simp)
        have er : (Instr.build 27 #[(0, xs 0), (1, xs 2), (2, xs 4), (3, xs 6), (4, xs 8), (5, xs 10)]).run Tryz.prog W = .ok (.agg #[xs 0, xs 2, xs 4, xs 6, xs 8, xs 10]) W := by
          have o0 := hJ.mv 0 rfl h0
          have o2 := (hJ.mkk 2 rfl h2).val
          have o4 := (hJ.mkk 4 rfl h4).val
          have o6 := (hJ.mkk 6 rfl h6).val
          have o8 := (hJ.mkk 8 rfl h8).val
          have o10 := (hJ.mkk 10 rfl h10).val
          rw [o0, o2, o4, o6, o8, o10]
          exact run_build (P := Tryz.prog) W 27 _ _ (by kernel_rfl)
        exact wp_value (v := .agg #[xs 0, xs 2, xs 4, xs 6, xs 8, xs 10]) (w' := W) (by simp [execOp, e0, e2, e4, e6, e8, e10, er]) ⟨_, rfl, hJ.read hi _ rfl (by decide) (by decide) (fun h => by cases h) (fun _ => ⟨⟨h0, h2, h4, h6, h8, h10⟩, rfl⟩)⟩
      · -- alloc
        cases ho
        exact wp_value (v := .pointer (some ⟨W.heap.size, 0, none⟩)) (w' := W.alloc (.cells #[.int .i64 0, .slice none 0 0, .slice none 0 0, .slice none 0 0, .slice none 0 0, .slice none 0 0] 27)) (run_allocB (z := .agg #[.int .i64 0, .slice none 0 0, .slice none 0 0, .slice none 0 0, .slice none 0 0, .slice none 0 0]) (by kernel_rfl) _ _ _ _ _)
          ⟨_, rfl, hJ.more hi _ (.inr rfl) (bel_alloc _ _) rfl (fun e => by cases e) (fun _ => ⟨rfl, hJ.bel.size, Blk.new _ _ _⟩)⟩
      · -- store
        cases ho
        have h11 : L 11 = true := hdep ⟨11, .data⟩ (by simp) (by rfl)
        have h12 : L 12 = true := hdep ⟨12, .data⟩ (by simp) (by rfl)
        obtain ⟨b1, b2, b3, _⟩ := hJ.al h12
        obtain ⟨⟨h0, h2, h4, h6, h8, h10⟩, b5⟩ := hJ.bd h11
        have b4 := b3 hi
        have e9 := (hev2 12 9 h12 rfl (by simp)).trans b1
        have e45 := (hev2 11 45 h11 rfl (by simp)).trans b5
        have o0 := hJ.mv 0 rfl h0
        have o2 := (hJ.mkk 2 rfl h2).val
        have o4 := (hJ.mkk 4 rfl h4).val
        have o6 := (hJ.mkk 6 rfl h6).val
        have o8 := (hJ.mkk 8 rfl h8).val
        have o10 := (hJ.mkk 10 rfl h10).val
        refine wp_store_mid 27 _ _ rfl (bof (xs 12)) 0 #[xs 0, xs 2, xs 4, xs 6, xs 8, xs 10] e9 e45 (fun j hj => ?_) (by kernel_rfl) (by rw [o0, o2, o4, o6, o8, o10]; simp [Value.oneCell']) ⟨undef, rfl, hJ.store hi h11 h12 undef ?_ ?_⟩
        · have hj6 : j < 6 := hj
          rw [Nat.zero_add]
          refine ⟨?_, b4.free j⟩
          rw [b4.cell (List.getElem?_eq_getElem (by simpa using hj6))]; rfl
        · exact Mod.setCells (F := fun k => k = bof (xs 12)) (b := bof (xs 12)) _ (a := W) (w := W) 0 (Mod.refl _ _) (fun _ => rfl)
        · exact Blk.setAll (w := W) [xs 0, xs 2, xs 4, xs 6, xs 8, xs 10] [] _ b4 rfl
    case fin =>
      intro L xs W hall hJ
      replace hall : ∀ i, i < 14 → L i = true := hall
      have h12 := hall 12 (by simp)
      have h13 := hall 13 (by simp)
      obtain ⟨b1, b2, _, b4⟩ := hJ.al h12
      obtain ⟨_, b5⟩ := b4 h13
      have o0 := hJ.mv 0 rfl (hall 0 (by simp))
      have k2 := hJ.mkk 2 rfl (hall 2 (by simp))
      have k4 := hJ.mkk 4 rfl (hall 4 (by simp))
      have k6 := hJ.mkk 6 rfl (hall 6 (by simp))
      have k8 := hJ.mkk 8 rfl (hall 8 (by simp))
      have k10 := hJ.mkk 10 rfl (hall 10 (by simp))
      have hfive : BB.five ⟨bof (xs 12), bof (xs 2), bof (xs 4), bof (xs 6), bof (xs 8), bof (xs 10), 0⟩ := by
        have ne := fun j k hj hk hne => hJ.ne j k hj hk (hall j (hj.elim (fun h => by unfold isMk at h; simp at h; omega) (fun h => by omega))) (hall k (hk.elim (fun h => by unfold isMk at h; simp at h; omega) (fun h => by omega))) hne
        exact ⟨⟨ne 12 2 (.inr rfl) (.inl rfl) (by decide), ne 12 4 (.inr rfl) (.inl rfl) (by decide), ne 12 6 (.inr rfl) (.inl rfl) (by decide), ne 12 8 (.inr rfl) (.inl rfl) (by decide), ne 12 10 (.inr rfl) (.inl rfl) (by decide)⟩,
          ⟨ne 2 4 (.inl rfl) (.inl rfl) (by decide), ne 2 6 (.inl rfl) (.inl rfl) (by decide), ne 2 8 (.inl rfl) (.inl rfl) (by decide), ne 2 10 (.inl rfl) (.inl rfl) (by decide)⟩,
          ⟨ne 4 6 (.inl rfl) (.inl rfl) (by decide), ne 4 8 (.inl rfl) (.inl rfl) (by decide), ne 4 10 (.inl rfl) (.inl rfl) (by decide)⟩, ⟨ne 6 8 (.inl rfl) (.inl rfl) (by decide), ne 6 10 (.inl rfl) (.inl rfl) (by decide)⟩, ne 8 10 (.inl rfl) (.inl rfl) (by decide)⟩
      have hbel := hJ.bel
      have o1 := hJ.mv 1 rfl (hall 1 (by simp))
      have o3 := hJ.mv 3 rfl (hall 3 (by simp))
      have o5 := hJ.mv 5 rfl (hall 5 (by simp))
      have o7 := hJ.mv 7 rfl (hall 7 (by simp))
      have o9 := hJ.mv 9 rfl (hall 9 (by simp))
      have o11 := (hJ.bd (hall 11 (by simp))).2
      replace o0 : xs 0 = .int .i64 (k : Int) := o0
      replace o1 : xs 1 = .int .i64 (mm : Int) := o1
      replace o3 : xs 3 = .int .i64 (mm : Int) := o3
      replace o5 : xs 5 = .int .i64 (mm : Int) := o5
      replace o7 : xs 7 = .int .i64 (mm : Int) := o7
      replace o9 : xs 9 = .int .i64 (mm : Int) := o9
      have q2 := k2.val
      have q4 := k4.val
      have q6 := k6.val
      have q8 := k8.val
      have q10 := k10.val
      have n2 := k2.new
      have n4 := k4.new
      have n6 := k6.new
      have n8 := k8.new
      have n10 := k10.new
      have l2 : Blk W _ 3 _ := k2.blk
      have l4 : Blk W _ 3 _ := k4.blk
      have l6 : Blk W _ 3 _ := k6.blk
      have l8 : Blk W _ 2 _ := k8.blk
      have l10 : Blk W _ 3 _ := k10.blk
      simp only [putAll, Nat.zero_add, Nat.reduceAdd]
      obtain ⟨tb, hTB⟩ : ∃ x, bof (xs 12) = x := ⟨_, rfl⟩
      obtain ⟨lb, hLB⟩ : ∃ x, bof (xs 2) = x := ⟨_, rfl⟩
      obtain ⟨rb, hRB⟩ : ∃ x, bof (xs 4) = x := ⟨_, rfl⟩
      obtain ⟨pb, hPB⟩ : ∃ x, bof (xs 6) = x := ⟨_, rfl⟩
      obtain ⟨hb, hHB⟩ : ∃ x, bof (xs 8) = x := ⟨_, rfl⟩
      obtain ⟨sb, hSB⟩ : ∃ x, bof (xs 10) = x := ⟨_, rfl⟩
      rw [hTB] at b1 b2 b5 hfive
      rw [hLB] at q2 n2 l2 hfive
      rw [hRB] at q4 n4 l4 hfive
      rw [hPB] at q6 n6 l6 hfive
      rw [hHB] at q8 n8 l8 hfive
      rw [hSB] at q10 n10 l10 hfive
      rw [o0, q2, q4, q6, q8, q10] at b5 o11
      rw [o0, o1, q2, o3, q4, o5, q6, o7, q8, o9, q10, o11, b1]
      have HBT : Hid (BdT W ⟨tb, lb, rb, pb, hb, sb, 0⟩ k mm ⟨k, List.replicate mm 0, List.replicate mm 0, List.replicate mm 0, List.replicate mm 0, List.replicate mm 0⟩) := by
        have hrep : intV (List.replicate mm 0) = List.replicate mm (.int .i64 0) := by unfold intV; rw [List.map_replicate]
        exact ⟨b5, by rw [hrep]; exact l2, by rw [hrep]; exact l4, by rw [hrep]; exact l6, by rw [hrep]; exact l8, by rw [hrep]; exact l10, by simp, by simp, by simp, by simp, by simp, hfive⟩
      have HBEL := Lib.hid hbel
      have HNEW : Hid (w1.heap.size ≤ tb ∧ w1.heap.size ≤ lb ∧ w1.heap.size ≤ rb ∧ w1.heap.size ≤ pb ∧ w1.heap.size ≤ hb ∧ w1.heap.size ≤ sb) := ⟨b2, n2, n4, n6, n8, n10⟩
      clear hJ hall h12 h13 b1 b2 b4 b5 o0 o1 o3 o5 o7 o9 o11 k2 k4 k6 k8 k10 q2 q4 q6 q8 q10 n2 n4 n6 n8 n10 l2 l4 l6 l8 l10 hTB hLB hRB hPB hHB hSB hfive hbel HMI HMH
      go_wp2_with (at_make; apply keepIt)
      apply Lib.hid
      refine wpList_makeB2 145 (.int .i64 0) 16 Tryz.underlying144 Tryz.infoPair _ _ _ _ k rfl rfl rfl rfl (by omega) (by unfold maxLen; omega) ?_
      intro w3 hb3 hbw3
      have hW1 := HBEL.out.size
      have hrw := HNEW.out
      have HB3 : Hid (Blk w3 W.heap.size 145 (natV (uni k (List.replicate k 0) (List.replicate k 0)))) := by
        show Blk _ _ _ _
        rw [uni_zero, natV_zero]
        exact hb3
      have HBT3 := Lib.hid ((HBT.out.below hbw3).ub (u' := W.heap.size))
      have HW3 := Lib.hid (bel_then HB1.out (bel_then HBEL.out hbw3))
      have HE3 := Lib.hid (HE0.out.below (show Below w0.heap.size w0 w0 from Below.refl _ _))
      have htb := HBT.out.box.lt
      have hlb := HBT.out.l.lt
      have hrb := HBT.out.r.lt
      have hpb := HBT.out.p.lt
      have hhb := HBT.out.h.lt
      have hsb := HBT.out.s.lt
      have hw1 := HB1.out.size
      simp only at htb hlb hrb hpb hhb hsb
      have HAP : Hid (BB.apart ⟨tb, lb, rb, pb, hb, sb, W.heap.size⟩) := ⟨HBT3.out.ap, by show W.heap.size ≠ tb; omega, by show W.heap.size ≠ lb; omega, by show W.heap.size ≠ rb; omega, by show W.heap.size ≠ pb; omega, by show W.heap.size ≠ hb; omega, by show W.heap.size ≠ sb; omega⟩
      have HMW : Hid (∀ x, BB.mem ⟨tb, lb, rb, pb, hb, sb, W.heap.size⟩ x → w1.heap.size ≤ x) := by
        rintro x (e | e | e | e | e | e | e) <;> simp only at e <;> omega
      have HMWW : Hid (∀ x, BB.mem ⟨tb, lb, rb, pb, hb, sb, W.heap.size⟩ x → w.heap.size ≤ x) := fun x hx => Nat.le_trans hw1 (HMW.out x hx)
      have hW3s := hbw3.size
      have HV3 := Lib.hid (owns_mod HV.out (Mod.of_below (F := fun _ => False) (bel_then HBEL.out hbw3)) (fun _ _ h => h))
      have HVL : Hid (∀ x, (Value.slice vo F vc).ownBlock = some x → x < w1.heap.size) := fun x hx => (HV.out.lt x hx).2
      have HR3 := Lib.hid (HR1.out.below (bel_then HBEL.out hbw3) HR1.out.lt)
      have HRL : Hid (w.heap.size < w1.heap.size) := HR1.out.lt
      clear hb3 hbw3 HBT HNEW htb hlb hrb hpb hhb hsb hrw
      generalize W.heap.size = ub at *
      have HM0 : Hid (Mod (BB.mem ⟨tb, lb, rb, pb, hb, sb, ub⟩) w3 w3) := Mod.refl _ _
      rw [← tA_zero] at HBT3
      clear HE3
      have HE3 := Lib.hid (HE.out.below HW3.out)
      go_wp2_with fail
      go_loopw [49] (fun s wr => ∃ x : Nat, x ≤ mm ∧ s = .int .i64 x ∧ BdT wr ⟨tb, lb, rb, pb, hb, sb, ub⟩ k mm (tA k mm x) ∧ Mod (fun z => z = lb ∨ z = rb ∨ z = pb) w3 wr) (fun s _ => mm - (intOf s).toNat)
      case atStart => exact ⟨0, Nat.zero_le _, rfl, HBT3.out, Mod.refl _ _⟩
      case round =>
        obtain ⟨x, hx, rfl, hbt, hm3⟩ := hrel
        clear HBT3
        have HBT := Lib.hid hbt
        have HM := Lib.hid hm3
        clear hbt hm3
        by_cases hxm : x < mm
        · have c1 : wr.cell? ⟨tb, 1, none⟩ = some (.slice (some ⟨lb, 0, none⟩) mm mm) := HBT.out.box.cell (i := 1) rfl
          have c2 : wr.cell? ⟨tb, 2, none⟩ = some (.slice (some ⟨rb, 0, none⟩) mm mm) := HBT.out.box.cell (i := 2) rfl
          have c3 : wr.cell? ⟨tb, 3, none⟩ = some (.slice (some ⟨pb, 0, none⟩) mm mm) := HBT.out.box.cell (i := 3) rfl
          have l1 : wr.cell? ⟨lb, x, none⟩ = some (.int .i64 (gi (negI mm x) x)) := blkIV HBT.out.l (by rw [HBT.out.ll]; exact hxm)
          have r1 : wr.cell? ⟨rb, x, none⟩ = some (.int .i64 (gi (negI mm x) x)) := blkIV HBT.out.r (by rw [HBT.out.rl]; exact hxm)
          have p1 : wr.cell? ⟨pb, x, none⟩ = some (.int .i64 (gi (negI mm x) x)) := blkIV HBT.out.p (by rw [HBT.out.pl]; exact hxm)
          have f1 : wr.frozen? ⟨lb, x, none⟩ = false := HBT.out.l.free x
          have f2 : wr.frozen? ⟨rb, x, none⟩ = false := HBT.out.r.free x
          have f3 : wr.frozen? ⟨pb, x, none⟩ = false := HBT.out.p.free x
          have hap := HBT.out.ap
          unfold BB.five at hap
          simp only at hap
          have n1 : rb ≠ lb := by omega
          have n2 : pb ≠ lb := by omega
          have n3 : pb ≠ rb := by omega
          clear hap
          generalize gi (negI mm x) x = old at *
          have t1 : (x : Int) < (mm : Int) := by omega
          have t2 : (0 : Int) ≤ (x : Int) := by omega
          have C1 := Lib.hid c1
          have C2 := Lib.hid c2
          have C3 := Lib.hid c3
          have HB5 : Hid (BdT (((wr.setCell ⟨lb, x, none⟩ (.int .i64 (-1))).setCell ⟨rb, x, none⟩ (.int .i64 (-1))).setCell ⟨pb, x, none⟩ (.int .i64 (-1))) ⟨tb, lb, rb, pb, hb, sb, ub⟩ k mm (tA k mm (x + 1))) := by
            have := ((HBT.out.setL x (-1)).setR x (-1)).setP x (-1)
            simp only [tA, negI_step hxm] at this
            exact this
          have HM5 : Hid (Mod (fun z => z = lb ∨ z = rb ∨ z = pb) w3 (((wr.setCell ⟨lb, x, none⟩ (.int .i64 (-1))).setCell ⟨rb, x, none⟩ (.int .i64 (-1))).setCell ⟨pb, x, none⟩ (.int .i64 (-1)))) := ((HM.out.setAt (.inl rfl)).setAt (.inr (.inl rfl))).setAt (.inr (.inr rfl))
          have hap := HBT.out.ap
          unfold BB.five at hap
          simp only at hap
          have NF : Hid (¬ (tb = lb ∨ tb = rb ∨ tb = pb)) := by show ¬ _; omega
          clear hap
          go_wp2_with fail
          go_region_held3 (fun w' => w'.cell? ⟨tb, 1, none⟩ = some (.slice (some ⟨lb, 0, none⟩) mm mm) ∧ w'.cell? ⟨tb, 2, none⟩ = some (.slice (some ⟨rb, 0, none⟩) mm mm) ∧ w'.cell? ⟨tb, 3, none⟩ = some (.slice (some ⟨pb, 0, none⟩) mm mm) ∧ Mod (fun z => z = lb ∨ z = rb ∨ z = pb) wr w')
            (((try go_split_ands); refine keepC3 C1 C2 C3 NF.out NF.out NF.out ?_; first | assumption | (repeat (first | exact Mod.refl _ _ | apply Mod.drew | refine Mod.setAt ?_ (by simp)))))
            (fail)
          all_goals
            go_wp2_with fail
            go_roundw
            case rel => exact ⟨x + 1, by omega, by go_num, HB5.out.drew, HM5.out.drew⟩
            case measure => simp [intOf]; omega
        · obtain rfl : mm = x := by omega
          have t1 : ¬ (mm : Int) < (mm : Int) := by omega
          have HU : Hid (Blk wr ub 145 (natV (uni k (upI k 0) (upI k 0)))) := by
            have hne := HAP.out.2
            simp only at hne
            have := HB3.out.mod HM.out (by omega)
            rw [upI_zero]
            exact this
          have HM2 := Lib.hid (HM.out.mono (G := fun z => z = lb ∨ z = rb ∨ z = pb ∨ z = sb ∨ z = ub) (fun z _ h => by omega))
          rw [tAB] at HBT
          clear HB3 HM hxm
          go_wp2_with fail
          obtain ⟨wo, rfl⟩ : ∃ wo : World, wo = wr := ⟨_, rfl⟩
          go_loopw [66] (fun s wr => ∃ x : Nat, x ≤ k ∧ s = .int .i64 x ∧ BdT wr ⟨tb, lb, rb, pb, hb, sb, ub⟩ k mm (tB k mm x) ∧ Blk wr ub 145 (natV (uni k (upI k x) (upI k x))) ∧ Mod (fun z => z = lb ∨ z = rb ∨ z = pb ∨ z = sb ∨ z = ub) w3 wr) (fun s _ => k - (intOf s).toNat)
          case atStart => exact ⟨0, Nat.zero_le _, rfl, HBT.out, HU.out, HM2.out⟩
          case round =>
            obtain ⟨x, hx, rfl, hbt, hu, hm3⟩ := hrel
            clear HBT HU HM2
            have HBT := Lib.hid hbt
            have HU := Lib.hid hu
            have HM := Lib.hid hm3
            have hap := HAP.out
            unfold BB.apart BB.five at hap
            simp only at hap
            clear hbt hu hm3
            by_cases hxk : x < k
            · have hxm : x < mm := by have := HMM.out; omega
              have c5 : wr.cell? ⟨tb, 5, none⟩ = some (.slice (some ⟨sb, 0, none⟩) mm mm) := HBT.out.box.cell (i := 5) rfl
              have s1 : wr.cell? ⟨sb, x, none⟩ = some (.int .i64 (gi (oneI mm x) x)) := blkIV HBT.out.s (by rw [HBT.out.sl]; exact hxm)
              have f5 : wr.frozen? ⟨sb, x, none⟩ = false := HBT.out.s.free x
              have HB5 : Hid (BdT (wr.setCell ⟨sb, x, none⟩ (.int .i64 1)) ⟨tb, lb, rb, pb, hb, sb, ub⟩ k mm (tB k mm (x + 1))) := by
                have := HBT.out.setS x 1
                simp only [tB, oneI_step hxm] at this
                exact this
              have HU5 : Hid (Blk (wr.setCell ⟨sb, x, none⟩ (.int .i64 1)) ub 145 (natV (uni k (upI k x) (upI k x)))) := HU.out.other _ _ (by show ub ≠ sb; omega)
              have HM5 := Lib.hid (HM.out.setAt (b := sb) (i := x) (u := .int .i64 1) (.inr (.inr (.inr (.inl rfl)))))
              have t1 : (x : Int) < (mm : Int) := by omega
              have t2 : (0 : Int) ≤ (x : Int) := by omega
              have t3 : (x : Int) < (k : Int) := by omega
              have u0 := blkN HU5.out (i := x * 2) (by rw [uni_length]; omega)
              have u1 := blkN HU5.out (i := x * 2 + 1) (by rw [uni_length]; omega)
              have g0 := HU5.out.free (x * 2)
              have g1 := HU5.out.free (x * 2 + 1)
              have HNE : Hid (tb ≠ ub ∧ lb ≠ ub ∧ rb ≠ ub ∧ pb ≠ ub ∧ hb ≠ ub ∧ sb ≠ ub) := by show _ ∧ _; omega
              clear hap HU HM HBT
              generalize gi (oneI mm x) x = old at *
              generalize (uni k (upI k x) (upI k x)).getD (x * 2) 0 = o0 at *
              generalize (uni k (upI k x) (upI k x)).getD (x * 2 + 1) 0 = o1 at *
              have HU7 : Hid (Blk (((wr.setCell ⟨sb, x, none⟩ (.int .i64 1)).setCell ⟨ub, x * 2, none⟩ (.int .i64 x)).setCell ⟨ub, x * 2 + 1, none⟩ (.int .i64 x)) ub 145 (natV (uni k (upI k (x + 1)) (upI k (x + 1))))) := by
                have h1 := blkN_set HU5.out (x * 2) x
                rw [uni_set0 hxk (upI_length hx)] at h1
                have h2 := blkN_set h1 (x * 2 + 1) x
                rw [uni_set1 hxk (upI_length hx), upI_step hxk] at h2
                exact h2
              have hm7 : Mod (fun z => z = ub) (wr.setCell ⟨sb, x, none⟩ (.int .i64 1)) (((wr.setCell ⟨sb, x, none⟩ (.int .i64 1)).setCell ⟨ub, x * 2, none⟩ (.int .i64 x)).setCell ⟨ub, x * 2 + 1, none⟩ (.int .i64 x)) := ((Mod.refl (fun z => z = ub) _).setAt rfl).setAt rfl
              have HB7 := Lib.hid (HB5.out.mod hm7 HNE.out.1 HNE.out.2.1 HNE.out.2.2.1 HNE.out.2.2.2.1 HNE.out.2.2.2.2.1 HNE.out.2.2.2.2.2)
              have HM7 := Lib.hid (HM5.out.trans hm7 (fun z _ e => .inr (.inr (.inr (.inr e)))))
              clear hm7 HU5 HB5 HM5
              go_wp2_with fail
              go_roundw
              case rel => exact ⟨x + 1, by omega, by go_num, HB7.out, HU7.out, HM7.out⟩
              case measure => simp [intOf]; omega
            · obtain rfl : k = x := by omega
              have t1 : ¬ (k : Int) < (k : Int) := by omega
              rw [upI_end] at HU
              have HU0 : Hid (Blk wr ub 145 (natV (uni k (List.range k) (bdS k l 0).top))) := HU.out
              have HT0 : Hid (BdT wr ⟨tb, lb, rb, pb, hb, sb, ub⟩ k mm (bdS k l 0).t) := by
                have e : (bdS k l 0).t = (bd0 k F).t := by show (bd0 k (FN k l)).t = _; rw [HF.out]
                show BdT _ _ _ _ _
                rw [e, ← tB_end HMM.out]
                exact HBT.out
              have HM0' := Lib.hid (HM.out.mono (G := BB.mem ⟨tb, lb, rb, pb, hb, sb, ub⟩) (fun z _ h => by unfold BB.mem; simp only; omega))
              have HK0 : Hid (FInv k (bdS k l 0).k (List.range k)) := FInv.start k
              clear hap HU HBT HM hxk
              go_wp2_with fail
              obtain ⟨wo, rfl⟩ : ∃ wo : World, wo = wr := ⟨_, rfl⟩
              have HVW := Lib.hid HV3.out
              go_loopw [82] (fun s wr => ∃ j : Nat, j ≤ F ∧ s = .int .i64 j ∧ BdT wr ⟨tb, lb, rb, pb, hb, sb, ub⟩ k mm (bdS k l j).t ∧ (∃ up, Blk wr ub 145 (natV (uni k up (bdS k l j).top)) ∧ FInv k (bdS k l j).k up) ∧ Mod (BB.mem ⟨tb, lb, rb, pb, hb, sb, ub⟩) w3 wr) (fun s _ => F - (intOf s).toNat)
              case atStart => exact ⟨0, Nat.zero_le _, rfl, HT0.out, ⟨_, HU0.out, HK0.out⟩, HM0'.out⟩
              case round =>
                obtain ⟨j, hj, rfl, hbt, ⟨up, hu, hfi⟩, hm3⟩ := hrel
                clear HU0 HT0 HM0' HK0
                have HBT := Lib.hid hbt
                have HU := Lib.hid hu
                have HFI := Lib.hid hfi
                have HM := Lib.hid hm3
                clear hbt hu hfi hm3
                have HBR : Hid (Below w.heap.size w wr) := bel_mod HW3.out HM.out HMWW.out
                by_cases hjF : j < F
                · have hjl : j < (forL k l).length := by have := HF.out; unfold FN at this; omega
                  have hfel := for_lt (n := k) (l := l) hjl
                  have hF0 : fe k l j = (forL k l).getD j 0 := rfl
                  rw [← hF0] at hfel
                  have hVr := owns_mod HV3.out HM.out (fun z hz hb => by have := HVL.out z hz; have := HMW.out z hb; omega)
                  obtain ⟨vg, vcc, hvv, -, -, -, hcell, -⟩ := owns_form hVr (by omega)
                  have hcf := hcell j (by omega)
                  rw [natV_get hjl, ← hF0] at hcf
                  have hne := for_ne (n := k) (l := l) hjl
                  have hbdk : (bdTo k l (forL k l) j).k = (bdS k l j).k := rfl
                  rw [← hF0, hbdk] at hne
                  have HNE := Lib.hid hne
                  have e1 : vo = some ⟨vg, 0, none⟩ := by injection hvv
                  clear hvv
                  subst e1
                  clear hcell hVr hne hbdk hF0
                  obtain ⟨hbi, _, _⟩ := bd_inv3 HG.out j (by rw [HF.out]; omega)
                  have hfo := lohi (s := ⟨(bdS k l j).k, []⟩) HG.out hbi.kok hfel HNE.out
                  have hlo : min ((bdS k l j).k.getD (uN l (fe k l j)) 0) ((bdS k l j).k.getD (vN l (fe k l j)) 0) = (bdS k l j).lo l (fe k l j) := rfl
                  have hhi : max ((bdS k l j).k.getD (uN l (fe k l j)) 0) ((bdS k l j).k.getD (vN l (fe k l j)) 0) = (bdS k l j).hi l (fe k l j) := rfl
                  simp only [hlo, hhi] at hfo
                  obtain ⟨q1, q2, q3, q4⟩ := hfo
                  obtain ⟨a1, _, a3⟩ := hbi.top _ (by omega) q3
                  obtain ⟨b1, _, b3⟩ := hbi.top _ q2 q4
                  have hLR : (bdS k l j).top.getD ((bdS k l j).lo l (fe k l j)) 0 ≠ (bdS k l j).top.getD ((bdS k l j).hi l (fe k l j)) 0 := fun e => by rw [← e, a3] at b3; omega
                  clear a3 b3
                  have a4 := hbi.sz _ (by omega) q3
                  have b4 := hbi.sz _ q2 q4
                  have HTL := Lib.hid hbi.tl
                  have hkl := hbi.kok.len
                  have hcl := List.count_le_length (a := (bdS k l j).lo l (fe k l j)) (l := (bdS k l j).k)
                  have hcr := List.count_le_length (a := (bdS k l j).hi l (fe k l j)) (l := (bdS k l j).k)
                  have elf : (bdS k l j).top.getD ((bdS k l j).lo l (fe k l j)) 0 = (bdS k l j).lf l (fe k l j) := rfl
                  have erg : (bdS k l j).top.getD ((bdS k l j).hi l (fe k l j)) 0 = (bdS k l j).rg l (fe k l j) := rfl
                  rw [elf] at a1 a4 hLR
                  rw [erg] at b1 b4 hLR
                  have HSZ : Hid (0 ≤ gi (bdS k l j).t.siz ((bdS k l j).lf l (fe k l j)) ∧ gi (bdS k l j).t.siz ((bdS k l j).lf l (fe k l j)) ≤ 4096 ∧ 0 ≤ gi (bdS k l j).t.siz ((bdS k l j).rg l (fe k l j)) ∧ gi (bdS k l j).t.siz ((bdS k l j).rg l (fe k l j)) ≤ 4096) := by
                    show _ ∧ _
                    rw [a4, b4]
                    omega
                  have HELF := Lib.hid elf
                  have HERG := Lib.hid erg
                  have HSTEP := Lib.hid (bdS_succ k l j)
                  have HFO : Hid ((bdS k l j).lo l (fe k l j) < (bdS k l j).hi l (fe k l j) ∧ (bdS k l j).hi l (fe k l j) < k ∧ (bdS k l j).k.getD ((bdS k l j).lo l (fe k l j)) 0 = (bdS k l j).lo l (fe k l j) ∧ (bdS k l j).k.getD ((bdS k l j).hi l (fe k l j)) 0 = (bdS k l j).hi l (fe k l j)) := ⟨q1, q2, q3, q4⟩
                  have HKOK := Lib.hid hbi.kok
                  have HLO := Lib.hid hlo
                  have HHI := Lib.hid hhi
                  clear hbi a4 b4 hkl hcl hcr elf erg q3 q4 hlo hhi
                  have hUV := HG.out.uv (i := fe k l j) (by omega)
                  obtain ⟨hu', hv', _, eu, ev⟩ := hUV
                  obtain ⟨c0, c1, c2⟩ := (HE.out.below HBR.out).cell (fe k l j) (by rw [← HS.out]; exact hfel)
                  have hmp : 0 < m := by rw [← HS.out]; omega
                  obtain rfl := HE.out.adr hmp
                  have hbl : b < w.heap.size := HE.out.lt hmp
                  rw [eu] at c0
                  rw [ev] at c1
                  have ew : (EA l (fe k l j)).W = wI l (fe k l j) := rfl
                  rw [ew] at c2
                  clear eu ev ew
                  have HFI0 := HFI
                  obtain ⟨s0, hs0⟩ : ∃ s0, bdS k l j = s0 := ⟨_, rfl⟩
                  obtain ⟨s1, hs1⟩ : ∃ s1, bdS k l (j + 1) = s1 := ⟨_, rfl⟩
                  have HS1 := Lib.hid hs1
                  rw [hs0, hs1] at HSTEP
                  rw [hs0] at hLR HBT HU HFI HNE HSZ HELF HERG HFO HKOK HTL a1 b1 q1 q2 HLO HHI
                  clear hs0 hs1 HFI0
                  generalize hii : fe k l j = i at *
                  have HII := Lib.hid hii
                  clear hii
                  have him : i < m := by rw [← HS.out]; exact hfel
                  obtain ⟨LO, hLO⟩ : ∃ x, s0.lo l i = x := ⟨_, rfl⟩
                  obtain ⟨HI, hHI⟩ : ∃ x, s0.hi l i = x := ⟨_, rfl⟩
                  obtain ⟨LF, hLF⟩ : ∃ x, s0.lf l i = x := ⟨_, rfl⟩
                  obtain ⟨RG, hRG⟩ : ∃ x, s0.rg l i = x := ⟨_, rfl⟩
                  rw [hLO] at HFO HELF q1 HLO
                  rw [hHI] at HFO HERG q1 q2 HHI
                  rw [hLF] at HSZ HELF a1 hLR
                  rw [hRG] at HSZ HERG b1 hLR
                  have HLR := Lib.hid hLR
                  clear hLR
                  have HQLO := Lib.hid hLO
                  have HQHI := Lib.hid hHI
                  have HQLF := Lib.hid hLF
                  have HQRG := Lib.hid hRG
                  clear hLO hHI hLF hRG
                  obtain ⟨u, hu0⟩ : ∃ x, uN l i = x := ⟨_, rfl⟩
                  obtain ⟨v, hv0⟩ : ∃ x, vN l i = x := ⟨_, rfl⟩
                  obtain ⟨we, hwe⟩ : ∃ x, wI l i = x := ⟨_, rfl⟩
                  rw [hu0] at c0 hu' HNE HLO HHI
                  rw [hv0] at c1 hv' HNE HLO HHI
                  rw [hwe] at c2
                  have HWE := Lib.hid hwe
                  clear hu0 hv0 hwe
                  obtain ⟨ka, hka⟩ : ∃ x, s0.k.getD u 0 = x := ⟨_, rfl⟩
                  obtain ⟨kb, hkb⟩ : ∃ x, s0.k.getD v 0 = x := ⟨_, rfl⟩
                  rw [hka] at HNE HLO HHI
                  rw [hkb] at HNE HLO HHI
                  have HKA := Lib.hid hka
                  have HKB := Lib.hid hkb
                  clear hka hkb
                  obtain ⟨xx, hxx⟩ : ∃ xx, k + j = xx := ⟨_, rfl⟩
                  have hcast : (k : Int) + (j : Int) = (xx : Int) := by omega
                  have HXX := Lib.hid hxx
                  have hxm : xx < mm := by have := HMM.out; omega
                  have hlfx : LF < mm := by have := HMM.out; omega
                  have hrgx : RG < mm := by have := HMM.out; omega
                  clear hxx
                  have t1 : (j : Int) < (F : Int) := by omega
                  have t2 : (0 : Int) ≤ (j : Int) := by omega
                  have t3 : (i : Int) < (m : Int) := by omega
                  have t4 : (0 : Int) ≤ (i : Int) := by omega
                  have C0 := Lib.hid c0
                  have C1 := Lib.hid c1
                  have HNB : Hid (¬ (b = ub)) := by
                    have := HMW.out ub (.inr (.inr (.inr (.inr (.inr (.inr rfl))))))
                    have := HB1.out.size
                    show ¬ _
                    omega
                  go_wp2_with fail
                  clear hcast
                  go_upto_region 22 with fail
                  go_cut [16, 17] (fun s16 s17 wx => s16 = .int .i64 (ka : Int) ∧ s17 = .int .i64 (kb : Int) ∧ (∃ up', Blk wx ub 145 (natV (uni k up' s0.top)) ∧ FInv k s0.k up') ∧ Mod (fun z => z = ub) wr wx)
                  case first =>
                    go_region_held3 (fun w' => w'.cell? ⟨b, off + i * 3, none⟩ = some (.int .i64 u) ∧ w'.cell? ⟨b, off + i * 3 + 1, none⟩ = some (.int .i64 v) ∧ Mod (fun z => z = ub) wr w')
                      (((try go_split_ands); refine keepC2 C0 C1 HNB.out HNB.out ?_; first | assumption | exact (Mod.refl _ _).drew | exact (Mod.drew (by assumption))))
                      (first
                        | (go_at_call 84; (try go_split_ands); with_reducible (show Calls _ _ #[_, .int .i64 (u : Int)] _ _); (with_reducible refine (find_ok _ ub k s0.k up s0.top (HU.out.mod ((Mod.refl (fun _ => False) wr).drew) id) HFI.out (by omega) u hu').mono ?_); rintro e w4 ⟨rfl, ⟨up4, hb4, hi4⟩, hm4⟩; rw [HKA.out]; have hmA := Mod.trans (by assumption : Mod (fun z => z = ub) wr _) hm4 (fun _ _ h => h); clear hm4)
                        | (go_at_call 84; (try go_split_ands); with_reducible (show Calls _ _ #[_, .int .i64 (v : Int)] _ _); (with_reducible refine (find_ok _ ub k s0.k up4 s0.top hb4 hi4 (by omega) v hv').mono ?_); rintro e w5 ⟨rfl, ⟨up5, hb5, hi5⟩, hm5⟩; rw [HKB.out]; have hmB := Mod.trans hmA hm5 (fun _ _ h => h); clear hm5))
                    all_goals
                      go_wp2_with fail
                      go_meet
                      exact ⟨rfl, rfl, ⟨_, hb5, hi5⟩, hmB⟩
                  case rest =>
                    obtain ⟨rfl, rfl, ⟨up', hb', hi'⟩, hm'⟩ := hcut
                    have HU4 := Lib.hid hb'
                    have HFI4 := Lib.hid hi'
                    have HBT4 := Lib.hid (HBT.out.mod hm' (fun e => HAP.out.2.1 e.symm) (fun e => HAP.out.2.2.1 e.symm) (fun e => HAP.out.2.2.2.1 e.symm) (fun e => HAP.out.2.2.2.2.1 e.symm) (fun e => HAP.out.2.2.2.2.2.1 e.symm) (fun e => HAP.out.2.2.2.2.2.2 e.symm))
                    have HM4 := Lib.hid (HM.out.trans hm' (fun z _ e => .inr (.inr (.inr (.inr (.inr (.inr e)))))))
                    have HBR4 := Lib.hid (bel_mod HW3.out HM4.out HMWW.out)
                    clear hb' hi' hm' HBT HU HFI HM HBR c0 c1 c2 C0 C1 HVW
                    have hmin : ∀ w, (Builtin.min_ #[3, 3] 3 #[Value.int IntKind.i64 (ka : Int), .int .i64 (kb : Int)]).run Tryz.prog w = .ok (.int .i64 (LO : Int)) w := fun w => by
                      have h1 := run_minI (ka : Int) (kb : Int) w
                      have e : min (ka : Int) (kb : Int) = (LO : Int) := by have := HLO.out; omega
                      rw [e] at h1
                      exact h1
                    have hmax : ∀ w, (Builtin.max_ #[3, 3] 3 #[Value.int IntKind.i64 (ka : Int), .int .i64 (kb : Int)]).run Tryz.prog w = .ok (.int .i64 (HI : Int)) w := fun w => by
                      have h1 := run_maxI (ka : Int) (kb : Int) w
                      have e : max (ka : Int) (kb : Int) = (HI : Int) := by have := HHI.out; omega
                      rw [e] at h1
                      exact h1
                    have hLk : LO < k := by omega
                    have u1 := blkN HU4.out (i := LO * 2 + 1) (by rw [uni_length]; omega)
                    have u2 := blkN HU4.out (i := HI * 2 + 1) (by rw [uni_length]; omega)
                    rw [uni_at1 hLk, HELF.out] at u1
                    rw [uni_at1 q2, HERG.out] at u2
                    have t5 : (LO : Int) < (k : Int) := by omega
                    have t6 : (HI : Int) < (k : Int) := by omega
                    have t7 : (0 : Int) ≤ (LO : Int) := by omega
                    have t8 : (0 : Int) ≤ (HI : Int) := by omega
                    go_wp2_with fail
                    go_quiet (fail)
                    clear hmin hmax u1 u2
                    have HU5 : Hid (Blk (wc.drewN nq) ub 145 (natV (uni k up' s0.top))) := HU4.out.drewN nq
                    have HBT5 := Lib.hid (HBT4.out.drewN nq)
                    have HM5 := Lib.hid (HM4.out.drewN nq)
                    have HBR5 := Lib.hid (bel_drewN HBR4.out nq)
                    clear HU4 HBT4 HM4 HBR4
                    generalize wc.drewN nq = w5 at *
                    -- Left, Right
                    have c1 : w5.cell? ⟨tb, 1, none⟩ = some (.slice (some ⟨lb, 0, none⟩) mm mm) := HBT5.out.box.cell (i := 1) rfl
                    have c2 : w5.cell? ⟨tb, 2, none⟩ = some (.slice (some ⟨rb, 0, none⟩) mm mm) := HBT5.out.box.cell (i := 2) rfl
                    have l1 : w5.cell? ⟨lb, xx, none⟩ = some (.int .i64 (gi s0.t.left xx)) := blkIV HBT5.out.l (by rw [HBT5.out.ll]; exact hxm)
                    have r1 : w5.cell? ⟨rb, xx, none⟩ = some (.int .i64 (gi s0.t.right xx)) := blkIV HBT5.out.r (by rw [HBT5.out.rl]; exact hxm)
                    have f1 : w5.frozen? ⟨lb, xx, none⟩ = false := HBT5.out.l.free xx
                    have f2 : w5.frozen? ⟨rb, xx, none⟩ = false := HBT5.out.r.free xx
                    have C1 := Lib.hid c1
                    have C2 := Lib.hid c2
                    have n1 : rb ≠ lb := fun e => HAP.out.1.2.1.1 e.symm
                    have NF : Hid (¬ (tb = lb ∨ tb = rb)) := fun e => e.elim HAP.out.1.1.1 HAP.out.1.1.2.1
                    have t9 : (xx : Int) < (mm : Int) := by omega
                    have t10 : (0 : Int) ≤ (xx : Int) := by omega
                    generalize gi s0.t.left xx = o1 at *
                    generalize gi s0.t.right xx = o2 at *
                    go_wp2_with fail
                    go_cut [] (fun wx => wx = ((w5.setCell ⟨lb, xx, none⟩ (.int .i64 (LF : Int))).setCell ⟨rb, xx, none⟩ (.int .i64 (RG : Int))).drew)
                    case first =>
                      go_region_held3 (fun w' => w'.cell? ⟨tb, 1, none⟩ = some (.slice (some ⟨lb, 0, none⟩) mm mm) ∧ w'.cell? ⟨tb, 2, none⟩ = some (.slice (some ⟨rb, 0, none⟩) mm mm) ∧ Mod (fun z => z = lb ∨ z = rb) w5 w')
                        (((try go_split_ands); refine keepC2 C1 C2 NF.out NF.out ?_; first | assumption | (repeat (first | exact Mod.refl _ _ | apply Mod.drew | refine Mod.setAt ?_ (by simp)))))
                        (fail)
                      all_goals
                        go_wp2_with fail
                        go_meet
                        exact rfl
                    case rest =>
                      obtain rfl := hcut
                      have HBT6 := Lib.hid (((HBT5.out.setL xx LF).setR xx RG).drew)
                      have hm6 : Mod (fun z => z = lb ∨ z = rb) w5 ((w5.setCell ⟨lb, xx, none⟩ (.int .i64 (LF : Int))).setCell ⟨rb, xx, none⟩ (.int .i64 (RG : Int))).drew := (((Mod.refl (fun z => z = lb ∨ z = rb) w5).setAt (.inl rfl)).setAt (.inr rfl)).drew
                      have HU6 := Lib.hid (HU5.out.mod hm6 (fun e => e.elim HAP.out.2.2.1 HAP.out.2.2.2.1))
                      have HM6 := Lib.hid (HM5.out.trans hm6 (fun z _ e => e.elim (fun e => .inr (.inl e)) (fun e => .inr (.inr (.inl e)))))
                      have HBR6 := Lib.hid (bel_mod HW3.out HM6.out HMWW.out)
                      clear hm6 HU5 HBT5 HM5 HBR5 c1 c2 l1 r1 f1 f2 C1 C2 NF n1
                      generalize ((w5.setCell ⟨lb, xx, none⟩ (.int .i64 (LF : Int))).setCell ⟨rb, xx, none⟩ (.int .i64 (RG : Int))).drew = w6 at *
                      -- Parent
                      have c3 : w6.cell? ⟨tb, 3, none⟩ = some (.slice (some ⟨pb, 0, none⟩) mm mm) := HBT6.out.box.cell (i := 3) rfl
                      have p1 : w6.cell? ⟨pb, LF, none⟩ = some (.int .i64 (gi s0.t.par LF)) := blkIV HBT6.out.p (by rw [HBT6.out.pl]; exact hlfx)
                      have p2 : w6.cell? ⟨pb, RG, none⟩ = some (.int .i64 (gi s0.t.par RG)) := blkIV HBT6.out.p (by rw [HBT6.out.pl]; exact hrgx)
                      have f1 : w6.frozen? ⟨pb, LF, none⟩ = false := HBT6.out.p.free LF
                      have f2 : w6.frozen? ⟨pb, RG, none⟩ = false := HBT6.out.p.free RG
                      have C3 := Lib.hid c3
                      have NF : Hid (¬ (tb = pb)) := HAP.out.1.1.2.2.1
                      have n1 : RG ≠ LF := fun e => HLR.out e.symm
                      have t11 : (LF : Int) < (mm : Int) := by omega
                      have t12 : (0 : Int) ≤ (LF : Int) := by omega
                      have t13 : (RG : Int) < (mm : Int) := by omega
                      have t14 : (0 : Int) ≤ (RG : Int) := by omega
                      generalize gi s0.t.par LF = o3 at *
                      generalize gi s0.t.par RG = o4 at *
                      go_wp2_with fail
                      go_cut [] (fun wx => wx = ((w6.setCell ⟨pb, LF, none⟩ (.int .i64 (xx : Int))).setCell ⟨pb, RG, none⟩ (.int .i64 (xx : Int))).drew)
                      case first =>
                        go_region_held3 (fun w' => w'.cell? ⟨tb, 3, none⟩ = some (.slice (some ⟨pb, 0, none⟩) mm mm) ∧ Mod (fun z => z = pb) w6 w')
                          (((try go_split_ands); refine keepC1 C3 NF.out ?_; first | assumption | (repeat (first | exact Mod.refl _ _ | apply Mod.drew | refine Mod.setAt ?_ (by simp)))))
                          (fail)
                        all_goals
                          go_wp2_with fail
                          go_meet
                          exact rfl
                      case rest =>
                        obtain rfl := hcut
                        have HBT7 := Lib.hid (((HBT6.out.setP LF xx).setP RG xx).drew)
                        have hm7 : Mod (fun z => z = pb) w6 ((w6.setCell ⟨pb, LF, none⟩ (.int .i64 (xx : Int))).setCell ⟨pb, RG, none⟩ (.int .i64 (xx : Int))).drew := (((Mod.refl (fun z => z = pb) w6).setAt rfl).setAt rfl).drew
                        have HU7 := Lib.hid (HU6.out.mod hm7 HAP.out.2.2.2.2.1)
                        have HM7 := Lib.hid (HM6.out.trans hm7 (fun z _ e => .inr (.inr (.inr (.inl e)))))
                        have HBR7 := Lib.hid (bel_mod HW3.out HM7.out HMWW.out)
                        clear hm7 HU6 HBT6 HM6 HBR6 c3 p1 p2 f1 f2 C3 NF n1
                        generalize ((w6.setCell ⟨pb, LF, none⟩ (.int .i64 (xx : Int))).setCell ⟨pb, RG, none⟩ (.int .i64 (xx : Int))).drew = w7 at *
                        -- Height
                        have c4 : w7.cell? ⟨tb, 4, none⟩ = some (.slice (some ⟨hb, 0, none⟩) mm mm) := HBT7.out.box.cell (i := 4) rfl
                        have h1 : w7.cell? ⟨hb, xx, none⟩ = some (.int .i64 (gi s0.t.hgt xx)) := blkIV HBT7.out.h (by rw [HBT7.out.hl]; exact hxm)
                        have f1 : w7.frozen? ⟨hb, xx, none⟩ = false := HBT7.out.h.free xx
                        obtain ⟨_, _, c2⟩ := (HE.out.below HBR7.out).cell i him
                        have ew : (EA l i).W = wI l i := rfl
                        rw [ew, HWE.out] at c2
                        clear ew
                        generalize gi s0.t.hgt xx = o5 at *
                        go_wp2_with fail
                        refine region_tailD 8 (by kernel_rfl) (by kernel_rfl) ?_
                        intro w8 hw8
                        replace c4 := hw8.cell c4
                        replace h1 := hw8.cell h1
                        replace f1 := hw8.frozen f1
                        replace c2 := hw8.cell c2
                        have HBT8 := Lib.hid ((HBT7.out.mod (hw8.mod (Mod.refl (fun _ => False) w7)) id id id id id id).setH xx we)
                        have HU8 := Lib.hid (hw8.blk HU7.out)
                        have HM8 := Lib.hid (hw8.mod HM7.out)
                        have HBR8 := Lib.hid (hw8.bel HBR7.out)
                        clear hw8 HBT7 HU7 HM7 HBR7
                        simp only [List.take_succ_cons, List.take_zero, List.drop_succ_cons, List.drop_zero]
                        repeat still_step
                        refine wpStill_nil ?_
                        go_wp2_with fail
                        have hm9 : Mod (fun z => z = hb) w8 (w8.setCell ⟨hb, xx, none⟩ (.int .i64 we)) := (Mod.refl (fun z => z = hb) w8).setAt rfl
                        have HU9 := Lib.hid (HU8.out.mod hm9 HAP.out.2.2.2.2.2.1)
                        have HM9 := Lib.hid (HM8.out.trans hm9 (fun z _ e => .inr (.inr (.inr (.inr (.inl e))))))
                        have HBR9 := Lib.hid (bel_mod HW3.out HM9.out HMWW.out)
                        clear hm9 HU8 HM8 HBR8 c4 h1 f1 c2
                        generalize w8.setCell ⟨hb, xx, none⟩ (.int .i64 we) = w9 at *
                        -- Size
                        have c5 : w9.cell? ⟨tb, 5, none⟩ = some (.slice (some ⟨sb, 0, none⟩) mm mm) := HBT8.out.box.cell (i := 5) rfl
                        have s1x : w9.cell? ⟨sb, LF, none⟩ = some (.int .i64 (gi s0.t.siz LF)) := blkIV HBT8.out.s (by rw [HBT8.out.sl]; exact hlfx)
                        have s2x : w9.cell? ⟨sb, RG, none⟩ = some (.int .i64 (gi s0.t.siz RG)) := blkIV HBT8.out.s (by rw [HBT8.out.sl]; exact hrgx)
                        have s3x : w9.cell? ⟨sb, xx, none⟩ = some (.int .i64 (gi s0.t.siz xx)) := blkIV HBT8.out.s (by rw [HBT8.out.sl]; exact hxm)
                        have f1 : w9.frozen? ⟨sb, xx, none⟩ = false := HBT8.out.s.free xx
                        obtain ⟨sw, HSW⟩ : ∃ sw, Hid (gi s0.t.siz LF + gi s0.t.siz RG = sw) := ⟨_, rfl⟩
                        have HSW0 : Hid (gi s0.t.siz LF + gi s0.t.siz RG = sw) := HSW.out
                        have hsw : IntKind.i64.wrap (gi s0.t.siz LF + gi s0.t.siz RG) = sw := by rw [← HSW.out]; have := HSZ.out; exact Go.IntWalk.i64_in _ (by omega)
                        obtain ⟨z1, hz1⟩ : ∃ z, gi s0.t.siz LF = z := ⟨_, rfl⟩
                        obtain ⟨z2, hz2⟩ : ∃ z, gi s0.t.siz RG = z := ⟨_, rfl⟩
                        rw [hz1] at s1x hsw
                        rw [hz2] at s2x hsw
                        clear hz1 hz2
                        generalize gi s0.t.siz xx = z3 at *
                        go_wp2_with fail
                        refine region_tailD 14 (by kernel_rfl) (by kernel_rfl) ?_
                        intro w10 hw10
                        replace c5 := hw10.cell c5
                        replace s1x := hw10.cell s1x
                        replace s2x := hw10.cell s2x
                        replace s3x := hw10.cell s3x
                        replace f1 := hw10.frozen f1
                        have HBT10 := Lib.hid ((HBT8.out.mod (hw10.mod (Mod.refl (fun _ => False) w9)) id id id id id id).setS xx sw)
                        have HU10 := Lib.hid (hw10.blk HU9.out)
                        have HM10 := Lib.hid (hw10.mod HM9.out)
                        have HBR10 := Lib.hid (hw10.bel HBR9.out)
                        clear hw10 HBT8 HU9 HM9 HBR9
                        simp only [List.take_succ_cons, List.take_zero, List.drop_succ_cons, List.drop_zero]
                        repeat still_step
                        refine wpStill_nil ?_
                        go_wp2_with fail
                        have hm11 : Mod (fun z => z = sb) w10 (w10.setCell ⟨sb, xx, none⟩ (.int .i64 sw)) := (Mod.refl (fun z => z = sb) w10).setAt rfl
                        have HU11 := Lib.hid (HU10.out.mod hm11 HAP.out.2.2.2.2.2.2)
                        have HM11 := Lib.hid (HM10.out.trans hm11 (fun z _ e => .inr (.inr (.inr (.inr (.inr (.inl e)))))))
                        clear hm11 HU10 HM10 HBR10 c5 s1x s2x s3x f1 hsw
                        generalize w10.setCell ⟨sb, xx, none⟩ (.int .i64 sw) = w11 at *
                        -- sets
                        have u1 := blkN HU11.out (i := HI * 2) (by rw [uni_length]; omega)
                        have u2 := blkN HU11.out (i := LO * 2 + 1) (by rw [uni_length]; omega)
                        have f1 := HU11.out.free (HI * 2)
                        have f2 := HU11.out.free (LO * 2 + 1)
                        generalize (uni k up' s0.top).getD (HI * 2) 0 = o7 at *
                        generalize (uni k up' s0.top).getD (LO * 2 + 1) 0 = o8 at *
                        have n1 : LO * 2 + 1 ≠ HI * 2 := by omega
                        have t15 : LO < k := by omega
                        go_wp2_with fail
                        go_region_held3 (fun w' => Mod (fun z => z = ub) w11 w') (((try go_split_ands); first | assumption | (repeat (first | exact Mod.refl _ _ | apply Mod.drew | refine Mod.setAt ?_ (by simp))))) (fail)
                        all_goals
                          have hm12 : Mod (fun z => z = ub) w11 ((w11.setCell ⟨ub, HI * 2, none⟩ (.int .i64 (LO : Int))).setCell ⟨ub, LO * 2 + 1, none⟩ (.int .i64 (xx : Int))).drew := (((Mod.refl (fun z => z = ub) w11).setAt rfl).setAt rfl).drew
                          have HBT12 := Lib.hid (HBT10.out.mod hm12 (fun e => HAP.out.2.1 e.symm) (fun e => HAP.out.2.2.1 e.symm) (fun e => HAP.out.2.2.2.1 e.symm) (fun e => HAP.out.2.2.2.2.1 e.symm) (fun e => HAP.out.2.2.2.2.2.1 e.symm) (fun e => HAP.out.2.2.2.2.2.2 e.symm))
                          have HM12 := Lib.hid (HM11.out.trans hm12 (fun z _ e => .inr (.inr (.inr (.inr (.inr (.inr e)))))))
                          have HU12 : Hid (Blk ((w11.setCell ⟨ub, HI * 2, none⟩ (.int .i64 (LO : Int))).setCell ⟨ub, LO * 2 + 1, none⟩ (.int .i64 (xx : Int))).drew ub 145 (natV (uni k (up'.set HI LO) (s0.top.set LO xx)))) := by
                            have h1 := blkN_set HU11.out (HI * 2) LO
                            rw [uni_set0 q2 HFI4.out.ul] at h1
                            have h2 := blkN_set h1 (LO * 2 + 1) xx
                            rw [uni_set1 t15 HTL.out] at h2
                            exact h2
                          have HS : Hid (s1 = s0.step l xx i) := by
                            show _ = _
                            rw [HSTEP.out, HXX.out]
                          have HT1 : Hid (s1.t = ⟨s0.t.lv, s0.t.left.set xx LF, s0.t.right.set xx RG, (s0.t.par.set LF xx).set RG xx, s0.t.hgt.set xx we, s0.t.siz.set xx sw⟩) := (congrArg Bd.t HS.out).trans (step_t HQLF.out HQRG.out HWE.out HSW0.out)
                          have HTOP : Hid (s1.top = s0.top.set LO xx) := (congrArg Bd.top HS.out).trans (step_top HQLO.out)
                          have HK1 : Hid (s1.k = relN s0.k LO HI) := (congrArg Bd.k HS.out).trans (step_k HQLO.out HQHI.out)
                          have HFI12 : Hid (FInv k s1.k (up'.set HI LO)) := by
                            show FInv _ _ _
                            rw [HK1.out]
                            exact HFI4.out.join HKOK.out t15 q2 HFO.out.2.2.1 HFO.out.2.2.2 q1
                          rw [← HTOP.out] at HU12
                          have HBT13 : Hid (BdT ((w11.setCell ⟨ub, HI * 2, none⟩ (.int .i64 (LO : Int))).setCell ⟨ub, LO * 2 + 1, none⟩ (.int .i64 (xx : Int))).drew ⟨tb, lb, rb, pb, hb, sb, ub⟩ k mm s1.t) := by
                            show BdT _ _ _ _ _
                            rw [HT1.out]
                            exact HBT12.out
                          clear hm12 u1 u2 f1 f2 n1
                          go_wp2_with fail
                          go_roundw
                          case rel =>
                            refine ⟨j + 1, by omega, by go_num, ?_, ⟨up'.set HI LO, ?_, ?_⟩, HM12.out⟩
                            · rw [HS1.out]; exact HBT13.out
                            · rw [HS1.out]; exact HU12.out
                            · rw [HS1.out]; exact HFI12.out
                          case measure => simp [intOf]; omega
                · obtain rfl : F = j := by omega
                  have t1 : ¬ (F : Int) < (F : Int) := by omega
                  have hfin : (bdS k l F).t = bdL k l := by
                    show (bdTo k l (forL k l) F).t = (bdTo k l (forL k l) (forL k l).length).t
                    have := HF.out
                    unfold FN at this
                    rw [this]
                  rw [hfin] at HBT
                  have HPL := Lib.hid HBT.out.pl
                  have HFIN := Lib.hid hfin
                  have d0 : wr.cell? ⟨tb, 0, none⟩ = some (.int .i64 (k : Int)) := HBT.out.box.cell (i := 0) rfl
                  have d1 : wr.cell? ⟨tb, 1, none⟩ = some (.slice (some ⟨lb, 0, none⟩) mm mm) := HBT.out.box.cell (i := 1) rfl
                  have d2 : wr.cell? ⟨tb, 2, none⟩ = some (.slice (some ⟨rb, 0, none⟩) mm mm) := HBT.out.box.cell (i := 2) rfl
                  have d3 : wr.cell? ⟨tb, 3, none⟩ = some (.slice (some ⟨pb, 0, none⟩) mm mm) := HBT.out.box.cell (i := 3) rfl
                  have d4 : wr.cell? ⟨tb, 4, none⟩ = some (.slice (some ⟨hb, 0, none⟩) mm mm) := HBT.out.box.cell (i := 4) rfl
                  have d5 : wr.cell? ⟨tb, 5, none⟩ = some (.slice (some ⟨sb, 0, none⟩) mm mm) := HBT.out.box.cell (i := 5) rfl
                  have HRW := Lib.hid (HR3.out.mod HM.out (fun e => by have := HMW.out _ e; have := HRL.out; omega))
                  have HXN : Hid (∀ z, BB.mem ⟨tb, lb, rb, pb, hb, sb, ub⟩ z → z ≠ w.heap.size) := fun z hz e => by have := HMW.out z hz; have := HRL.out; omega
                  clear hfin
                  go_wp2_with (with_reducible refine wpList_storeBlk w.heap.size 27 [.int .i64 0, .slice none 0 0, .slice none 0 0, .slice none 0 0, .slice none 0 0, .slice none 0 0] [.int .i64 (k : Int), .slice (some ⟨lb, 0, none⟩) mm mm, .slice (some ⟨rb, 0, none⟩) mm mm, .slice (some ⟨pb, 0, none⟩) mm mm, .slice (some ⟨hb, 0, none⟩) mm mm, .slice (some ⟨sb, 0, none⟩) mm mm] rfl rfl HRW.out rfl (by kernel_rfl) (by simp [Value.oneCell']) ?_)
                  intro w5 hb5 hm5
                  have HBT5 := Lib.hid (HBT.out.mod hm5 (HXN.out _ (.inl rfl)) (HXN.out _ (.inr (.inl rfl))) (HXN.out _ (.inr (.inr (.inl rfl)))) (HXN.out _ (.inr (.inr (.inr (.inl rfl))))) (HXN.out _ (.inr (.inr (.inr (.inr (.inl rfl)))))) (HXN.out _ (.inr (.inr (.inr (.inr (.inr (.inl rfl))))))))
                  have HBR5 := Lib.hid (bel_mod HBR.out hm5 (fun x e => by rw [e]; exact Nat.le_refl _))
                  clear d0 d1 d2 d3 d4 d5
                  have d0 := hb5.cell (i := 0) rfl
                  have d1 := hb5.cell (i := 1) rfl
                  have d2 := hb5.cell (i := 2) rfl
                  have d3 := hb5.cell (i := 3) rfl
                  have d4 := hb5.cell (i := 4) rfl
                  have d5 := hb5.cell (i := 5) rfl
                  clear hb5 hm5
                  go_wp2_with fail
                  refine bodyPost_ret (v := .tuple #[.agg #[.int .i64 (k : Int), .slice (some ⟨lb, 0, none⟩) mm mm, .slice (some ⟨rb, 0, none⟩) mm mm, .slice (some ⟨pb, 0, none⟩) mm mm, .slice (some ⟨hb, 0, none⟩) mm mm, .slice (some ⟨sb, 0, none⟩) mm mm], .int .i64 0]) (by simp [results, Tryz.results53, go_sem, d0, d1, d2, d3, d4, d5]) rfl ?_
                  refine ⟨fun h => absurd HZ.out h, fun _ => ⟨⟨tb, lb, rb, pb, hb, sb, ub⟩, ?_, ?_, HMWW.out⟩, HBR5.out⟩
                  · rw [Int.toNat_natCast, HPL.out]
                  · rw [Int.toNat_natCast, HPL.out]; exact HBT5.out
  · obtain rfl := hbad hz
    have t1 : (newErr n l != 0) = true := by simp [hz]
    have HZ := Lib.hid hz
    have HR : Hid (∀ z, newErr n l = z → ∀ w2, Below w.heap.size w w2 → TbPost w n l (.returned (.tuple #[.agg #[.int .i64 0, .slice none 0 0, .slice none 0 0, .slice none 0 0, .slice none 0 0, .slice none 0 0], .int .i64 z])) w2) := fun z e w2 h => ⟨fun _ => by rw [e], fun h => absurd h HZ.out, h⟩
    clear hz hbad hgood
    go_wp2_with (with_reducible refine wpList_storeBlk w.heap.size 27 [.int .i64 0, .slice none 0 0, .slice none 0 0, .slice none 0 0, .slice none 0 0, .slice none 0 0] [.int .i64 0, .slice none 0 0, .slice none 0 0, .slice none 0 0, .slice none 0 0, .slice none 0 0] rfl rfl HR1.out rfl (by kernel_rfl) (by decide) ?_)
    intro w2 hb2 hm2
    have HW2 := Lib.hid (bel_mod HB1.out hm2 (fun x e => by omega))
    have d0 := hb2.cell (i := 0) rfl
    have d1 := hb2.cell (i := 1) rfl
    have d2 := hb2.cell (i := 2) rfl
    have d3 := hb2.cell (i := 3) rfl
    have d4 := hb2.cell (i := 4) rfl
    have d5 := hb2.cell (i := 5) rfl
    clear hb2 hm2
    go_wp2_with fail
    refine bodyPost_ret (v := .tuple #[.agg #[.int .i64 0, .slice none 0 0, .slice none 0 0, .slice none 0 0, .slice none 0 0, .slice none 0 0], .int .i64 (newErr n l)]) (by simp [results, Tryz.results53, go_sem, d0, d1, d2, d3, d4, d5]) rfl ?_
    exact HR.out _ rfl _ HW2.out

end Go.Proofs.YthacjealoomioaaGreatDoor
