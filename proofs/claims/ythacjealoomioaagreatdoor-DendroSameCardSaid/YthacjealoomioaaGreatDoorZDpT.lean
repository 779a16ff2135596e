/- DpT. -/
import Derived.Test.YthacjealoomioaaGreatDoorZDpL
import Derived.Test.YthacjealoomioaaGreatDoorZOpenT
/- What comes in: a tree by value with room for its heights. -/
namespace Go.Proofs.YthacjealoomioaaGreatDoor
set_option linter.unusedVariables false
set_option linter.unusedSimpArgs false
open Go.ChangeShapes Go.WideShapes Go.RowKit Go.Deep

/-- A slice of 64-bit numbers that came in, with its room. -/
theorem open_rowC {H : Type} {enc : TypeId × Value → H} {P : Program} {w : World} {base : Nat} {held : Bool} {t e : TypeId} {fuel : Nat} {u : Value} {x : DataW H × List MemPlace}
    (ht : P.underlying t = some (.slice e)) (he : P.underlying e = some (.int .i64)) (hc : P.cellsOf e = 1) (h : DataW.trod enc P w base (fun _ => true) held fuel t [u] = some x) :
    ∃ (S : SA) (z : List Int), u = .slice S.o z.length S.c ∧ InRow .i64 w S.o z.length S.b S.f z ∧ z.length ≤ 9223372036854775807 ∧ (S.o = none → S.c = 0) ∧ (∀ n ∈ z, -9223372036854775808 ≤ n ∧ n ≤ 9223372036854775807) ∧ z.length ≤ S.c := by
  obtain ⟨S, z, rfl, i, l, n, ww⟩ := open_row ht he hc h
  refine ⟨S, z, rfl, i, l, n, ww, ?_⟩
  rcases open_ints ht he hc h with ⟨hcs, _⟩ | ⟨a, len, cap, zs, hcs, _, hl, hm, hz, _, hcell, hwf⟩
  · injection hcs with hcs
    injection hcs with h1 h2 h3
    omega
  · injection hcs with hcs
    injection hcs with h1 h2 h3
    omega

set_option maxRecDepth 100000 in
theorem open_treeC {H : Type} {enc : TypeId × Value → H} {w : World} {base : Nat} {held : Bool} {r : Reach} {b0 : Nat} {v : Value} {d : DataW H} {p : List MemPlace}
    (hv : Value.okWide Tryz.prog w r b0 27 v) (h : DataW.Trod enc Tryz.prog w base (fun _ => true) held 27 v d p) : ∃ (A : TA) (t : Tr), v = A.agg t ∧ TreeAt w A t ∧ (TrW t ∧ t.hgt.length ≤ A.h.c) := by
  obtain ⟨cs, n, rfl, hsz, hf⟩ := open_fields Tryz.underlying27 (by kernel_rfl) (by kernel_rfl) hv h
  obtain ⟨u0, y0, e0, h0⟩ := hf 0 _ rfl
  obtain ⟨u1, y1, e1, h1⟩ := hf 1 _ rfl
  obtain ⟨u2, y2, e2, h2⟩ := hf 2 _ rfl
  obtain ⟨u3, y3, e3, h3⟩ := hf 3 _ rfl
  obtain ⟨u4, y4, e4, h4⟩ := hf 4 _ rfl
  obtain ⟨u5, y5, e5, h5⟩ := hf 5 _ rfl
  obtain ⟨lv, q0, _, hw0⟩ := DataW.trod_int Tryz.underlying3 h0
  injection q0 with q0
  subst q0
  obtain ⟨S1, z1, rfl, i1, l1, n1, w1⟩ := open_row Tryz.underlying24 Tryz.underlying3 (by kernel_rfl) h1
  obtain ⟨S2, z2, rfl, i2, l2, n2, w2⟩ := open_row Tryz.underlying24 Tryz.underlying3 (by kernel_rfl) h2
  obtain ⟨S3, z3, rfl, i3, l3, n3, w3⟩ := open_row Tryz.underlying24 Tryz.underlying3 (by kernel_rfl) h3
  obtain ⟨S4, z4, rfl, i4, l4, n4, w4, c4⟩ := open_rowC Tryz.underlying25 Tryz.underlying2 (by kernel_rfl) h4
  obtain ⟨S5, z5, rfl, i5, l5, n5, w5⟩ := open_row Tryz.underlying24 Tryz.underlying3 (by kernel_rfl) h5
  refine ⟨⟨S1, S2, S3, S4, S5⟩, ⟨lv, z1, z2, z3, z4, z5⟩, ?_, ⟨i1, i2, i3, i4, i5, ⟨l1, l2, l3, l4, l5⟩, i64_bd hw0⟩, ⟨w1, w2, w3, w4, w5⟩, c4⟩
  congr 1
  apply Array.ext
  · exact hsz
  · intro i hi1 hi2
    have hi : i < 6 := by simpa using hi2
    have key : ∀ (i : Nat) (h : i < cs.size) u, cs[i]? = some u → cs[i] = u := fun i h u hu => by rw [Array.getElem?_eq_getElem h] at hu; injection hu
    have h6 : i = 0 ∨ i = 1 ∨ i = 2 ∨ i = 3 ∨ i = 4 ∨ i = 5 := by omega
    rcases h6 with rfl | rfl | rfl | rfl | rfl | rfl
    · exact key _ _ _ e0
    · exact key _ _ _ e1
    · exact key _ _ _ e2
    · exact key _ _ _ e3
    · exact key _ _ _ e4
    · exact key _ _ _ e5

theorem TrW.h64 {t : Tr} (h : TrW t) : Hgt64 t := fun x hx => by
  refine h.h _ ?_
  unfold gi
  rw [List.getD_eq_getElem?_getD, List.getElem?_eq_getElem hx]
  exact List.getElem_mem _

end Go.Proofs.YthacjealoomioaaGreatDoor
