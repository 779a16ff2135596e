/- RcBw. -/
import Derived.Test.YthacjealoomioaaGreatDoorZGe
import Derived.Test.YthacjealoomioaaGreatDoorZGa
import Derived.Test.YthacjealoomioaaGreatDoorZGh
import Derived.Test.YthacjealoomioaaGreatDoorZGg
import Derived.Test.YthacjealoomioaaGreatDoorZGb
import Derived.Deep.RegionHeld3
/- recon.Build: its memory; the region that makes the lists. -/
namespace Go.Proofs.YthacjealoomioaaGreatDoor
set_option linter.unusedVariables false
set_option linter.unusedSimpArgs false
open Go.RowKit

theorem Tryz.infoI64 : (Tryz.prog.info? 2).map (fun i => (i.zero, i.size, i.bytes)) = some (some (.int .i64 0), 1, 8) := by kernel_rfl
/-- Where things lie while a tree is built. -/
structure BB where
  tb : Nat
  lb : Nat
  rb : Nat
  pb : Nat
  hb : Nat
  sb : Nat
  ub : Nat

def BB.mem (B : BB) (k : Nat) : Prop := k = B.tb ∨ k = B.lb ∨ k = B.rb ∨ k = B.pb ∨ k = B.hb ∨ k = B.sb ∨ k = B.ub
/-- The lists are apart. -/
def BB.five (B : BB) : Prop := (B.tb ≠ B.lb ∧ B.tb ≠ B.rb ∧ B.tb ≠ B.pb ∧ B.tb ≠ B.hb ∧ B.tb ≠ B.sb) ∧ (B.lb ≠ B.rb ∧ B.lb ≠ B.pb ∧ B.lb ≠ B.hb ∧ B.lb ≠ B.sb) ∧ (B.rb ≠ B.pb ∧ B.rb ≠ B.hb ∧ B.rb ≠ B.sb) ∧ (B.pb ≠ B.hb ∧ B.pb ≠ B.sb) ∧ B.hb ≠ B.sb
def intV (l : List Int) : List Value := l.map fun x => Value.int .i64 x

/-- The box and the five lists. -/
structure BdT (w : World) (B : BB) (n m : Nat) (t : Tr) : Prop where
  box : Blk w B.tb 27 [.int .i64 (n : Int), .slice (some ⟨B.lb, 0, none⟩) m m, .slice (some ⟨B.rb, 0, none⟩) m m, .slice (some ⟨B.pb, 0, none⟩) m m, .slice (some ⟨B.hb, 0, none⟩) m m, .slice (some ⟨B.sb, 0, none⟩) m m]
  l : Blk w B.lb 3 (intV t.left)
  r : Blk w B.rb 3 (intV t.right)
  p : Blk w B.pb 3 (intV t.par)
  h : Blk w B.hb 2 (intV t.hgt)
  s : Blk w B.sb 3 (intV t.siz)
  ll : t.left.length = m
  rl : t.right.length = m
  pl : t.par.length = m
  hl : t.hgt.length = m
  sl : t.siz.length = m
  ap : B.five

theorem BdT.mod {F : Nat → Prop} {w w' : World} {B : BB} {n m : Nat} {t : Tr} (h : BdT w B n m t) (hm : Mod F w w') (h1 : ¬ F B.tb) (h2 : ¬ F B.lb) (h3 : ¬ F B.rb) (h4 : ¬ F B.pb) (h5 : ¬ F B.hb) (h6 : ¬ F B.sb) : BdT w' B n m t :=
  ⟨h.box.mod hm h1, h.l.mod hm h2, h.r.mod hm h3, h.p.mod hm h4, h.h.mod hm h5, h.s.mod hm h6, h.ll, h.rl, h.pl, h.hl, h.sl, h.ap⟩
theorem BdT.below {w w' : World} {B : BB} {n m : Nat} {t : Tr} (h : BdT w B n m t) (hb : Below w.heap.size w w') : BdT w' B n m t := h.mod (Mod.of_below (F := fun _ => False) hb) id id id id id id

theorem blkIV {w : World} {b : Nat} {T : TypeId} {l : List Int} (h : Blk w b T (intV l)) {i : Nat} (hi : i < l.length) : w.cell? ⟨b, i, none⟩ = some (.int .i64 (gi l i)) := blkI h hi
theorem blkIV_set {w : World} {b : Nat} {T : TypeId} {l : List Int} (h : Blk w b T (intV l)) (i : Nat) (x : Int) : Blk (w.setCell ⟨b, i, none⟩ (.int .i64 x)) b T (intV (l.set i x)) := blkI_set h i x

theorem BdT.setL {w : World} {B : BB} {n m : Nat} {t : Tr} (h : BdT w B n m t) (i : Nat) (x : Int) : BdT (w.setCell ⟨B.lb, i, none⟩ (.int .i64 x)) B n m { t with left := t.left.set i x } := by
  have ha := h.ap
  unfold BB.five at ha
  exact ⟨h.box.other _ _ (by show _ ≠ B.lb; omega), blkIV_set h.l i x, h.r.other _ _ (by show _ ≠ B.lb; omega), h.p.other _ _ (by show _ ≠ B.lb; omega), h.h.other _ _ (by show _ ≠ B.lb; omega), h.s.other _ _ (by show _ ≠ B.lb; omega), by simp [h.ll], h.rl, h.pl, h.hl, h.sl, h.ap⟩
theorem BdT.setR {w : World} {B : BB} {n m : Nat} {t : Tr} (h : BdT w B n m t) (i : Nat) (x : Int) : BdT (w.setCell ⟨B.rb, i, none⟩ (.int .i64 x)) B n m { t with right := t.right.set i x } := by
  have ha := h.ap
  unfold BB.five at ha
  exact ⟨h.box.other _ _ (by show _ ≠ B.rb; omega), h.l.other _ _ (by show _ ≠ B.rb; omega), blkIV_set h.r i x, h.p.other _ _ (by show _ ≠ B.rb; omega), h.h.other _ _ (by show _ ≠ B.rb; omega), h.s.other _ _ (by show _ ≠ B.rb; omega), h.ll, by simp [h.rl], h.pl, h.hl, h.sl, h.ap⟩
theorem BdT.setP {w : World} {B : BB} {n m : Nat} {t : Tr} (h : BdT w B n m t) (i : Nat) (x : Int) : BdT (w.setCell ⟨B.pb, i, none⟩ (.int .i64 x)) B n m { t with par := t.par.set i x } := by
  have ha := h.ap
  unfold BB.five at ha
  exact ⟨h.box.other _ _ (by show _ ≠ B.pb; omega), h.l.other _ _ (by show _ ≠ B.pb; omega), h.r.other _ _ (by show _ ≠ B.pb; omega), blkIV_set h.p i x, h.h.other _ _ (by show _ ≠ B.pb; omega), h.s.other _ _ (by show _ ≠ B.pb; omega), h.ll, h.rl, by simp [h.pl], h.hl, h.sl, h.ap⟩
theorem BdT.setH {w : World} {B : BB} {n m : Nat} {t : Tr} (h : BdT w B n m t) (i : Nat) (x : Int) : BdT (w.setCell ⟨B.hb, i, none⟩ (.int .i64 x)) B n m { t with hgt := t.hgt.set i x } := by
  have ha := h.ap
  unfold BB.five at ha
  exact ⟨h.box.other _ _ (by show _ ≠ B.hb; omega), h.l.other _ _ (by show _ ≠ B.hb; omega), h.r.other _ _ (by show _ ≠ B.hb; omega), h.p.other _ _ (by show _ ≠ B.hb; omega), blkIV_set h.h i x, h.s.other _ _ (by show _ ≠ B.hb; omega), h.ll, h.rl, h.pl, by simp [h.hl], h.sl, h.ap⟩
theorem BdT.setS {w : World} {B : BB} {n m : Nat} {t : Tr} (h : BdT w B n m t) (i : Nat) (x : Int) : BdT (w.setCell ⟨B.sb, i, none⟩ (.int .i64 x)) B n m { t with siz := t.siz.set i x } := by
  have ha := h.ap
  unfold BB.five at ha
  exact ⟨h.box.other _ _ (by show _ ≠ B.sb; omega), h.l.other _ _ (by show _ ≠ B.sb; omega), h.r.other _ _ (by show _ ≠ B.sb; omega), h.p.other _ _ (by show _ ≠ B.sb; omega), h.h.other _ _ (by show _ ≠ B.sb; omega), blkIV_set h.s i x, h.ll, h.rl, h.pl, h.hl, by simp [h.sl], h.ap⟩

/- The region that makes the lists. -/
def bof : Value → Nat
  | .slice (some a) _ _ => a.block
  | .pointer (some a) => a.block
  | _ => 0

def isMk (j : Nat) : Bool := j == 2 || j == 4 || j == 6 || j == 8 || j == 10
def isMv (j : Nat) : Bool := j == 0 || j == 1 || j == 3 || j == 5 || j == 7 || j == 9
def mkT (j : Nat) : TypeId := if j = 8 then 2 else 3

structure MkAt (w0 w : World) (m : Nat) (v : Value) (T : TypeId) : Prop where
  val : v = .slice (some ⟨bof v, 0, none⟩) m m
  blk : Blk w (bof v) T (List.replicate m (.int .i64 0))
  new : w0.heap.size ≤ bof v

structure B5 (w0 : World) (n m : Nat) (L : Nat → Bool) (xs : Nat → Value) (w : World) : Prop where
  bel : Below w0.heap.size w0 w
  mv : ∀ j, isMv j = true → L j = true → xs j = .int .i64 (if j = 0 then (n : Int) else m)
  mkk : ∀ j, isMk j = true → L j = true → MkAt w0 w m (xs j) (mkT j)
  bd : L 11 = true → (L 0 = true ∧ L 2 = true ∧ L 4 = true ∧ L 6 = true ∧ L 8 = true ∧ L 10 = true) ∧ xs 11 = .agg #[xs 0, xs 2, xs 4, xs 6, xs 8, xs 10]
  al : L 12 = true → xs 12 = .pointer (some ⟨bof (xs 12), 0, none⟩) ∧ w0.heap.size ≤ bof (xs 12) ∧ (L 13 = false → Blk w (bof (xs 12)) 27 [.int .i64 0, .slice none 0 0, .slice none 0 0, .slice none 0 0, .slice none 0 0, .slice none 0 0]) ∧
    (L 13 = true → L 11 = true ∧ Blk w (bof (xs 12)) 27 [xs 0, xs 2, xs 4, xs 6, xs 8, xs 10])
  st : L 13 = true → L 12 = true
  ne : ∀ j k, (isMk j = true ∨ j = 12) → (isMk k = true ∨ k = 12) → L j = true → L k = true → j ≠ k → bof (xs j) ≠ bof (xs k)

theorem B5.lt {w0 w : World} {n m : Nat} {L : Nat → Bool} {xs : Nat → Value} (h : B5 w0 n m L xs w) {j : Nat} (hj : isMk j = true ∨ j = 12) (hl : L j = true) : bof (xs j) < w.heap.size := by
  rcases hj with hj | rfl
  · exact (h.mkk j hj hl).blk.lt
  · obtain ⟨_, _, h1, h2⟩ := h.al hl
    cases hc : L 13 with
    | false => exact (h1 hc).lt
    | true => exact (h2 hc).2.lt

theorem upd_t {L : Nat → Bool} {i j : Nat} (h : upd L i true j = true) (hne : j ≠ i) : L j = true := by rwa [upd_ne _ _ hne] at h

/-- A step that only reads. -/
theorem B5.read {w0 w : World} {n m : Nat} {L : Nat → Bool} {xs : Nat → Value} (h : B5 w0 n m L xs w) {i : Nat} (hi : L i = false) (v : Value) (h1 : isMk i = false) (h2 : i ≠ 12) (h3 : i ≠ 13) (hmv : isMv i = true → v = .int .i64 (if i = 0 then (n : Int) else m))
    (hbd : i = 11 → (L 0 = true ∧ L 2 = true ∧ L 4 = true ∧ L 6 = true ∧ L 8 = true ∧ L 10 = true) ∧ v = .agg #[xs 0, xs 2, xs 4, xs 6, xs 8, xs 10]) : B5 w0 n m (upd L i true) (upd xs i v) w := by
  have nmk : ∀ j, isMk j = true → j ≠ i := fun j hj e => by rw [e, h1] at hj; cases hj
  have keep : ∀ j, L j = true → j ≠ i := fun j hj e => by rw [e, hi] at hj; cases hj
  refine ⟨h.bel, fun j hj hl => ?_, fun j hj hl => ?_, fun hl => ?_, fun hl => ?_, fun hl => ?_, fun j k hj hk hlj hlk hne => ?_⟩
  · by_cases e : j = i
    · subst e; rw [upd_same]; exact hmv hj
    · rw [upd_ne _ _ e]; exact h.mv j hj (upd_t hl e)
  · rw [upd_ne _ _ (nmk j hj)]; exact h.mkk j hj (upd_t hl (nmk j hj))
  · by_cases e : 11 = i
    · obtain ⟨⟨a0, a2, a4, a6, a8, a10⟩, hv⟩ := hbd e.symm
      have g : ∀ j, L j = true → upd L i true j = true := fun j hj => by rw [upd_ne _ _ (keep j hj)]; exact hj
      refine ⟨⟨g 0 a0, g 2 a2, g 4 a4, g 6 a6, g 8 a8, g 10 a10⟩, ?_⟩
      rw [upd_ne _ _ (keep 0 a0), upd_ne _ _ (keep 2 a2), upd_ne _ _ (keep 4 a4), upd_ne _ _ (keep 6 a6), upd_ne _ _ (keep 8 a8), upd_ne _ _ (keep 10 a10), ← hv, ← e, upd_same]
    · obtain ⟨⟨a0, a2, a4, a6, a8, a10⟩, hv⟩ := h.bd (upd_t hl e)
      have g : ∀ j, L j = true → upd L i true j = true := fun j hj => by rw [upd_ne _ _ (keep j hj)]; exact hj
      refine ⟨⟨g 0 a0, g 2 a2, g 4 a4, g 6 a6, g 8 a8, g 10 a10⟩, ?_⟩
      rw [upd_ne _ _ (keep 0 a0), upd_ne _ _ (keep 2 a2), upd_ne _ _ (keep 4 a4), upd_ne _ _ (keep 6 a6), upd_ne _ _ (keep 8 a8), upd_ne _ _ (keep 10 a10), upd_ne _ _ e]
      exact hv
  · obtain ⟨b1, b2, b3, b4⟩ := h.al (upd_t hl (fun e => h2 e.symm))
    rw [upd_ne _ _ (fun e => h2 e.symm), upd_ne _ _ (fun e => h3 e.symm)]
    refine ⟨b1, b2, b3, fun hc => ?_⟩
    obtain ⟨c1, c2⟩ := b4 hc
    obtain ⟨⟨a0, a2, a4, a6, a8, a10⟩, _⟩ := h.bd c1
    rw [upd_ne _ _ (keep 0 a0), upd_ne _ _ (keep 2 a2), upd_ne _ _ (keep 4 a4), upd_ne _ _ (keep 6 a6), upd_ne _ _ (keep 8 a8), upd_ne _ _ (keep 10 a10), upd_ne _ _ (keep 11 c1)]
    exact ⟨c1, c2⟩
  · rw [upd_ne _ _ (fun e => h2 e.symm)]
    exact h.st (upd_t hl (fun e => h3 e.symm))
  · have nj : j ≠ i := by rcases hj with hj | hj; exact nmk j hj; exact fun e => h2 (by omega)
    have nk : k ≠ i := by rcases hk with hk | hk; exact nmk k hk; exact fun e => h2 (by omega)
    rw [upd_ne _ _ nj, upd_ne _ _ nk]
    exact h.ne j k hj hk (upd_t hlj nj) (upd_t hlk nk) hne

/-- A step that makes a block. -/
theorem B5.more {w0 w w' : World} {n m : Nat} {L : Nat → Bool} {xs : Nat → Value} (h : B5 w0 n m L xs w) {i : Nat} (hi : L i = false) (v : Value) (h1 : isMk i = true ∨ i = 12) (hb : Below w.heap.size w w') (hv : bof v = w.heap.size)
    (hmk : isMk i = true → MkAt w0 w' m v (mkT i)) (hal : i = 12 → v = .pointer (some ⟨bof v, 0, none⟩) ∧ w0.heap.size ≤ bof v ∧ Blk w' (bof v) 27 [.int .i64 0, .slice none 0 0, .slice none 0 0, .slice none 0 0, .slice none 0 0, .slice none 0 0]) : B5 w0 n m (upd L i true) (upd xs i v) w' := by
  have keep : ∀ j, L j = true → j ≠ i := fun j hj e => by rw [e, hi] at hj; cases hj
  have nmv : ∀ j, isMv j = true → j ≠ i := fun j hj e => by
    subst e
    unfold isMv at hj
    unfold isMk at h1
    simp at hj h1
    omega
  have n11 : 11 ≠ i := fun e => by subst e; simp [isMk] at h1
  have n13 : 13 ≠ i := fun e => by subst e; simp [isMk] at h1
  refine ⟨bel_then h.bel hb, fun j hj hl => ?_, fun j hj hl => ?_, fun hl => ?_, fun hl => ?_, fun hl => ?_, fun j k hj hk hlj hlk hne => ?_⟩
  · rw [upd_ne _ _ (nmv j hj)]; exact h.mv j hj (upd_t hl (nmv j hj))
  · by_cases e : j = i
    · subst e; rw [upd_same]; exact hmk hj
    · rw [upd_ne _ _ e]
      obtain ⟨m1, m2, m3⟩ := h.mkk j hj (upd_t hl e)
      exact ⟨m1, m2.below hb m2.lt, m3⟩
  · obtain ⟨⟨a0, a2, a4, a6, a8, a10⟩, hv⟩ := h.bd (upd_t hl n11)
    have g : ∀ j, L j = true → upd L i true j = true := fun j hj => by rw [upd_ne _ _ (keep j hj)]; exact hj
    refine ⟨⟨g 0 a0, g 2 a2, g 4 a4, g 6 a6, g 8 a8, g 10 a10⟩, ?_⟩
    rw [upd_ne _ _ (keep 0 a0), upd_ne _ _ (keep 2 a2), upd_ne _ _ (keep 4 a4), upd_ne _ _ (keep 6 a6), upd_ne _ _ (keep 8 a8), upd_ne _ _ (keep 10 a10), upd_ne _ _ n11]
    exact hv
  · by_cases e : 12 = i
    · subst e
      obtain ⟨b1, b2, b3⟩ := hal rfl
      rw [upd_same, upd_ne _ _ n13]
      refine ⟨b1, b2, fun _ => b3, fun hc => ?_⟩
      have := h.st hc
      rw [hi] at this
      cases this
    · obtain ⟨b1, b2, b3, b4⟩ := h.al (upd_t hl e)
      rw [upd_ne _ _ e, upd_ne _ _ n13]
      refine ⟨b1, b2, fun hc => (b3 hc).below hb (b3 hc).lt, fun hc => ?_⟩
      obtain ⟨c1, c2⟩ := b4 hc
      obtain ⟨⟨a0, a2, a4, a6, a8, a10⟩, _⟩ := h.bd c1
      rw [upd_ne _ _ (keep 0 a0), upd_ne _ _ (keep 2 a2), upd_ne _ _ (keep 4 a4), upd_ne _ _ (keep 6 a6), upd_ne _ _ (keep 8 a8), upd_ne _ _ (keep 10 a10), upd_ne _ _ n11]
      exact ⟨c1, c2.below hb c2.lt⟩
  · have h12 := h.st (upd_t hl n13)
    rw [upd_ne _ _ (keep 12 h12)]
    exact h12
  · by_cases ej : j = i
    · subst ej
      have nk : k ≠ j := fun e => hne e.symm
      rw [upd_same, upd_ne _ _ nk, hv]
      have := h.lt hk (upd_t hlk nk)
      omega
    · by_cases ek : k = i
      · subst ek
        rw [upd_same, upd_ne _ _ ej, hv]
        have := h.lt hj (upd_t hlj ej)
        omega
      · rw [upd_ne _ _ ej, upd_ne _ _ ek]
        exact h.ne j k hj hk (upd_t hlj ej) (upd_t hlk ek) hne

/-- The store. -/
theorem B5.store {w0 w w' : World} {n m : Nat} {L : Nat → Bool} {xs : Nat → Value} (h : B5 w0 n m L xs w) (hi : L 13 = false) (h11 : L 11 = true) (h12 : L 12 = true) (v : Value) (hm : Mod (fun k => k = bof (xs 12)) w w') (hb : Blk w' (bof (xs 12)) 27 [xs 0, xs 2, xs 4, xs 6, xs 8, xs 10]) : B5 w0 n m (upd L 13 true) (upd xs 13 v) w' := by
  have keep : ∀ j, L j = true → j ≠ 13 := fun j hj e => by rw [e, hi] at hj; cases hj
  have nmv : ∀ j, isMv j = true → j ≠ 13 := fun j hj e => by subst e; cases hj
  have nmk : ∀ j, isMk j = true → j ≠ 13 := fun j hj e => by subst e; cases hj
  obtain ⟨b1, b2, _, _⟩ := h.al h12
  refine ⟨bel_mod h.bel hm (fun x e => by rw [e]; exact b2), fun j hj hl => ?_, fun j hj hl => ?_, fun hl => ?_, fun hl => ?_, fun hl => ?_, fun j k hj hk hlj hlk hne => ?_⟩
  · rw [upd_ne _ _ (nmv j hj)]; exact h.mv j hj (upd_t hl (nmv j hj))
  · rw [upd_ne _ _ (nmk j hj)]
    obtain ⟨m1, m2, m3⟩ := h.mkk j hj (upd_t hl (nmk j hj))
    refine ⟨m1, m2.mod hm (h.ne j 12 (.inl hj) (.inr rfl) (upd_t hl (nmk j hj)) h12 (fun e => by subst e; cases hj)), m3⟩
  · obtain ⟨⟨a0, a2, a4, a6, a8, a10⟩, hv⟩ := h.bd h11
    exact ⟨⟨a0, a2, a4, a6, a8, a10⟩, hv⟩
  · exact ⟨b1, b2, fun hc => (by cases hc), fun _ => ⟨h11, hb⟩⟩
  · exact h12
  · have nj : j ≠ 13 := by rcases hj with hj | hj; exact nmk j hj; omega
    have nk : k ≠ 13 := by rcases hk with hk | hk; exact nmk k hk; omega
    rw [upd_ne _ _ nj, upd_ne _ _ nk]
    exact h.ne j k hj hk (upd_t hlj nj) (upd_t hlk nk) hne

theorem wp_value {P : Program} {o : Oper} {a : Act} {w w' : World} {K : Act → World → Prop} {F : Exit → Act → World → Prop} {v : Value} (h : (execOp a.eval o).run P w = .ok (.value v) w') (hk : K (a.put o.dst v) w') : o.wp P a w K F := by
  unfold Oper.wp; rw [h]; exact hk

theorem run_allocB {P : Program} {w : World} {T : TypeId} {z : Value} (hz : (P.info? T).bind (·.zero) = some z) (ρ : Operand → Value) (d : Option Tmp) (ty : TypeId) (pos : String) (aft : Array Edge) :
    (execOp ρ ⟨d, .alloc T, ty, pos, aft, none⟩).run P w = .ok (.value (.pointer (some ⟨w.heap.size, 0, none⟩))) (w.alloc (.cells z.cells T)) := by
  obtain ⟨i, hi, hzz⟩ := Option.bind_eq_some_iff.1 hz
  simp [execOp, Instr.alloc, zeroValue, typeInfo, hi, hzz, newVar, newRow, newObj, Result.andThen]
  rfl

/-- -1 up to x, 0 behind. -/
def negI (m x : Nat) : List Int := List.replicate x (-1) ++ List.replicate (m - x) 0
theorem negI_zero (m : Nat) : negI m 0 = List.replicate m 0 := by simp [negI]
theorem negI_all (m : Nat) : negI m m = List.replicate m (-1) := by simp [negI]
theorem negI_step {m x : Nat} (h : x < m) : (negI m x).set x (-1) = negI m (x + 1) := by
  unfold negI
  rw [List.set_append_right _ _ (by simp), List.length_replicate, Nat.sub_self, show m - x = (m - (x + 1)) + 1 by omega, List.replicate_succ, List.set_cons_zero, List.replicate_succ', List.append_assoc]
  rfl
def oneI (m x : Nat) : List Int := List.replicate x 1 ++ List.replicate (m - x) 0
theorem oneI_zero (m : Nat) : oneI m 0 = List.replicate m 0 := by simp [oneI]
theorem oneI_step {m x : Nat} (h : x < m) : (oneI m x).set x 1 = oneI m (x + 1) := by
  unfold oneI
  rw [List.set_append_right _ _ (by simp), List.length_replicate, Nat.sub_self, show m - x = (m - (x + 1)) + 1 by omega, List.replicate_succ, List.set_cons_zero, List.replicate_succ', List.append_assoc]
  rfl
theorem BdT.ub {w : World} {tb lb rb pb hb sb u u' : Nat} {n m : Nat} {t : Tr} (h : BdT w ⟨tb, lb, rb, pb, hb, sb, u⟩ n m t) : BdT w ⟨tb, lb, rb, pb, hb, sb, u'⟩ n m t :=
  ⟨h.box, h.l, h.r, h.p, h.h, h.s, h.ll, h.rl, h.pl, h.hl, h.sl, h.ap⟩

theorem Mod.setAt {F : Nat → Prop} {a w : World} {b i : Nat} {u : Value} (h : Mod F a w) (hb : F b) : Mod F a (w.setCell ⟨b, i, none⟩ u) := h.setCell ⟨b, i, none⟩ (fun _ => hb) u

theorem BdT.drew {w : World} {B : BB} {n m : Nat} {t : Tr} (h : BdT w B n m t) : BdT w.drew B n m t := h.mod ((Mod.refl (fun _ => False) w).drew) id id id id id id
theorem BdT.drewN {w : World} {B : BB} {n m : Nat} {t : Tr} (h : BdT w B n m t) (q : Nat) : BdT (w.drewN q) B n m t := h.mod ((Mod.refl (fun _ => False) w).drewN q) id id id id id id

theorem run_maxI (x y : Int) (w : World) : (Builtin.max_ #[3, 3] 3 #[Value.int IntKind.i64 x, .int .i64 y]).run Tryz.prog w = .ok (.int .i64 (max x y)) w := by
  by_cases h : x < y
  · have h2 : ¬ y < x := by omega
    rw [Int.max_eq_right (by omega)]
    simp [go_sem, h, h2]
    try omega
  · rw [Int.max_eq_left (by omega)]
    by_cases h3 : y < x
    · simp [go_sem, h, h3]
      try omega
    · have : x = y := by omega
      subst this
      simp [go_sem]

theorem keepC1 {F : Nat → Prop} {w w' : World} {p1 : Addr} {v1 : Value} (h1 : Hid (w.cell? p1 = some v1)) (n1 : ¬ F p1.block) (hb : Mod F w w') : w'.cell? p1 = some v1 ∧ Mod F w w' :=
  ⟨(hb.cell (World.block_lt_of_cell? w _ h1.out) n1).trans h1.out, hb⟩

theorem keepC3 {F : Nat → Prop} {w w' : World} {p1 p2 p3 : Addr} {v1 v2 v3 : Value} (h1 : Hid (w.cell? p1 = some v1)) (h2 : Hid (w.cell? p2 = some v2)) (h3 : Hid (w.cell? p3 = some v3)) (n1 : ¬ F p1.block) (n2 : ¬ F p2.block) (n3 : ¬ F p3.block) (hb : Mod F w w') : w'.cell? p1 = some v1 ∧ w'.cell? p2 = some v2 ∧ w'.cell? p3 = some v3 ∧ Mod F w w' :=
  ⟨(hb.cell (World.block_lt_of_cell? w _ h1.out) n1).trans h1.out, (hb.cell (World.block_lt_of_cell? w _ h2.out) n2).trans h2.out, (hb.cell (World.block_lt_of_cell? w _ h3.out) n3).trans h3.out, hb⟩

end Go.Proofs.YthacjealoomioaaGreatDoor
