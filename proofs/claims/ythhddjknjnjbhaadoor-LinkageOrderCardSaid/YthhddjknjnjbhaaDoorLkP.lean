/- linkage: what the program computes, as plain functions. No program in sight. -/
import Derived.Test.YthhddjknjnjbhaaDoorBase
namespace Go.Proofs.YthhddjknjnjbhaaDoor
set_option linter.unusedVariables false
set_option linter.unusedSimpArgs false
open Go.RowKit

/-- A merge. -/
structure Mg where
  A : Int
  B : Int
  N : Int
  D : Int
  S : Int
deriving DecidableEq

def Mg.cells (m : Mg) : List Value := [.int .i64 m.A, .int .i64 m.B, .int .i64 m.N, .int .i64 m.D, .int .i64 m.S]

def I64 (x : Int) : Prop := -9223372036854775808 ≤ x ∧ x ≤ 9223372036854775807

/-- What the method makes of two values. -/
def mixV (m x y : Int) : Int := if m = 1 then min x y else if m = 2 then max x y else IntKind.i64.wrap (x + y)

def at2 (n : Nat) (d : List Int) (i j : Nat) : Int := d.getD (i * n + j) 0

/-- The diagonal and the mirrored entries, for rows before i. -/
def symTo (n : Nat) (d : List Int) : Nat → Bool
  | 0 => true
  | i + 1 => symTo n d i && decide (at2 n d i i = 0) && (List.range i).all fun j => decide (at2 n d i j = at2 n d j i)

def inLim (d : List Int) : Bool := d.all fun x => decide (0 ≤ x ∧ x ≤ 1099511627776)

/-- What Check returns. -/
def checkL (n : Int) (d : List Int) : Int :=
  if n < 0 ∨ 128 < n ∨ (d.length : Int) ≠ n * n then 2 else if symTo n.toNat d n.toNat = false then 2 else if inLim d = false then 3 else 0

/-- The distance of two clusters as numerator and denominator. -/
def distL (n : Nat) (m : Int) (sz bt : List Int) (a b : Nat) : Int × Int := (at2 n bt a b, if m = 3 then sz.getD a 0 * sz.getD b 0 else 1)

/-- What the search holds: the pair (or -1) and its distance. -/
structure Bs where
  a : Int
  b : Int
  n : Int
  d : Int
deriving DecidableEq

def Bs.none : Bs := ⟨-1, -1, 0, 0⟩

def lessB (x y : Int × Int) : Bool := decide (x.1 * y.2 < y.1 * x.2)

def Bs.upd (s : Bs) (a b : Nat) (f : Int × Int) : Bs := if s.a < 0 ∨ lessB f (s.n, s.d) = true then ⟨a, b, f.1, f.2⟩ else s

/-- The pairs (a, b') for b' < b behind s. -/
def bestRow (n : Nat) (m : Int) (sz bt : List Int) (s : Bs) (a : Nat) : Nat → Bs
  | 0 => s
  | b + 1 => if a < b ∧ 0 < sz.getD b 0 then (bestRow n m sz bt s a b).upd a b (distL n m sz bt a b) else bestRow n m sz bt s a b

def bestTo (n : Nat) (m : Int) (sz bt : List Int) : Nat → Bs
  | 0 => Bs.none
  | a + 1 => if sz.getD a 0 = 0 then bestTo n m sz bt a else bestRow n m sz bt (bestTo n m sz bt a) a n

theorem bestRow_start (n : Nat) (m : Int) (sz bt : List Int) (s : Bs) (a : Nat) : ∀ b, b ≤ a + 1 → bestRow n m sz bt s a b = s
  | 0, _ => rfl
  | b + 1, h => by
    rw [bestRow, if_neg (by omega)]
    exact bestRow_start n m sz bt s a b (by omega)

/-- The matrix after the columns before x were mixed. -/
def mixTo (n : Nat) (m : Int) (sz : List Int) (a b : Nat) (bt : List Int) : Nat → List Int
  | 0 => bt
  | x + 1 =>
    let l := mixTo n m sz a b bt x
    if sz.getD x 0 = 0 ∨ x = a ∨ x = b then l
    else (l.set (a * n + x) (mixV m (at2 n l a x) (at2 n l b x))).set (x * n + a) (mixV m (at2 n l a x) (at2 n l b x))

def szU (sz : List Int) (a b : Nat) : List Int := (sz.set a (sz.getD a 0 + sz.getD b 0)).set b 0

def lowN (x y : Int) : Int := x / (Nat.gcd x.toNat y.toNat : Int)
def lowD (x y : Int) : Int := y / (Nat.gcd x.toNat y.toNat : Int)

def mgOf (sz : List Int) (s : Bs) : Mg := ⟨s.a, s.b, lowN s.n s.d, lowD s.n s.d, sz.getD s.a.toNat 0 + sz.getD s.b.toNat 0⟩

structure Rs where
  sz : List Int
  bt : List Int
  ms : List Mg

def onesTo (n : Nat) : List Int := List.replicate n 1 ++ List.replicate (128 - n) 0

/-- After k rounds. -/
def runS (n : Nat) (m : Int) (d : List Int) : Nat → Rs
  | 0 => ⟨onesTo n, d, []⟩
  | k + 1 =>
    let r := runS n m d k
    let s := bestTo n m r.sz r.bt n
    ⟨szU r.sz s.a.toNat s.b.toNat, mixTo n m r.sz s.a.toNat s.b.toNat r.bt n, r.ms ++ [mgOf r.sz s]⟩

def runL (n : Nat) (m : Int) (d : List Int) : List Mg := (runS n m d (n - 1)).ms

example : runL 4 3 [0, 2, 6, 10, 2, 0, 5, 9, 6, 5, 0, 4, 10, 9, 4, 0] = [⟨0, 1, 2, 1, 2⟩, ⟨2, 3, 4, 1, 2⟩, ⟨0, 2, 15, 2, 4⟩] := by decide +kernel

end Go.Proofs.YthhddjknjnjbhaaDoor
