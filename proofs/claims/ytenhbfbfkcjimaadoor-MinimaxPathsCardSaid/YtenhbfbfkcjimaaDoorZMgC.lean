/- Several texts in one: RgA. -/
import Derived.Test.YtenhbfbfkcjimaaDoorZRcI
import Derived.Test.YtenhbfbfkcjimaaDoorZRcM
import Derived.Test.YtenhbfbfkcjimaaDoorZMgK
import Derived.Test.YtenhbfbfkcjimaaDoorZMgB
import Derived.Test.YtenhbfbfkcjimaaDoorZStill
/- graph: valid, N, Under, parts, Labels; dsu.Labels. -/
namespace Go.Proofs.YtenhbfbfkcjimaaDoor
set_option linter.unusedVariables false
set_option linter.unusedSimpArgs false
open Go.RowKit

theorem Tryd.eqlGraph (a : Addr) (w : World) : (binOp .eql 97 (.pointer (some a)) (.pointer (some a))).run Tryd.prog w = .ok (.bool true) w := by
  have hj : ∃ j, Tryd.prog.info? 130 = some j := Option.isSome_iff_exists.1 (by kernel_rfl)
  obtain ⟨j, hj⟩ := hj
  exact run_eql_ptr_same w a Tryd.underlying97 hj

/-- The edges that are no heavier than th. -/
def undL (l : List Ed) (th : Int) : List Ed := l.filter fun e => decide (e.W ≤ th)
theorem EA_get {l : List Ed} {i : Nat} (h : i < l.length) : EA l i = l[i] := by unfold EA; rw [List.getD_eq_getElem?_getD, List.getElem?_eq_getElem h]; rfl
theorem und_succ {l : List Ed} {th : Int} {i : Nat} (h : i < l.length) : undL (l.take (i + 1)) th = if (EA l i).W ≤ th then undL (l.take i) th ++ [EA l i] else undL (l.take i) th := by
  unfold undL
  rw [List.take_succ_eq_append_getElem h, List.filter_append, ← EA_get h]
  by_cases hc : (EA l i).W ≤ th
  · rw [if_pos hc]; simp [hc]
  · rw [if_neg hc]; simp [hc]
theorem und_len (l : List Ed) (th : Int) (i : Nat) : (undL (l.take i) th).length ≤ i := by
  unfold undL
  have h1 := List.length_filter_le (fun e : Ed => decide (e.W ≤ th)) (l.take i)
  rw [List.length_take] at h1
  omega
theorem und_ok {n : Nat} {l : List Ed} (hg : GOk n l) (th : Int) : GOk n (undL l th) := by
  have hl : (undL l th).length ≤ l.length := List.length_filter_le _ _
  refine ⟨hg.hn, Nat.le_trans hl hg.hl, fun i hi => ?_⟩
  have hm2 : EA (undL l th) i ∈ l.filter fun e => decide (e.W ≤ th) := EA_mem hi
  have hm : EA (undL l th) i ∈ l := (List.mem_filter.1 hm2).1
  obtain ⟨j, hj⟩ := List.getElem?_of_mem hm
  have hlt := (List.getElem?_eq_some_iff.1 hj).1
  have e : EA l j = EA (undL l th) i := by rw [EA_get hlt]; exact (List.getElem?_eq_some_iff.1 hj).2
  rw [← e]
  exact hg.ed j hlt

theorem und_edr {l : List Ed} {th : Int} (u v : Nat) : EdR (undL l th) (fun _ => True) u v ↔ EdR l (fun i => wI l i ≤ th) u v := by
  constructor
  · rintro ⟨i, hi, _, rfl, rfl⟩
    have hm := EA_mem hi
    have hm2 : EA (undL l th) i ∈ l.filter fun e => decide (e.W ≤ th) := hm
    obtain ⟨h1, h2⟩ := List.mem_filter.1 hm2
    obtain ⟨j, hj⟩ := List.getElem?_of_mem h1
    have hlt := (List.getElem?_eq_some_iff.1 hj).1
    have e : EA l j = EA (undL l th) i := by rw [EA_get hlt]; exact (List.getElem?_eq_some_iff.1 hj).2
    refine ⟨j, hlt, ?_, ?_, ?_⟩
    · show (EA l j).W ≤ th
      rw [e]; exact of_decide_eq_true h2
    · unfold uN; rw [e]
    · unfold vN; rw [e]
  · rintro ⟨i, hi, hw, rfl, rfl⟩
    have hm : EA l i ∈ undL l th := List.mem_filter.2 ⟨EA_mem hi, decide_eq_true hw⟩
    obtain ⟨j, hj⟩ := List.getElem?_of_mem hm
    have hlt := (List.getElem?_eq_some_iff.1 hj).1
    have e : EA (undL l th) j = EA l i := by rw [EA_get hlt]; exact (List.getElem?_eq_some_iff.1 hj).2
    exact ⟨j, hlt, trivial, by unfold uN; rw [e], by unfold vN; rw [e]⟩

/-- The labels after the first i edges. -/
def parK (n : Nat) (l : List Ed) : Nat → List Nat
  | 0 => List.range n
  | i + 1 => joinK (parK n l i) (uN l i) (vN l i)
theorem joinK_un (k : List Nat) (a b : Nat) : joinK k a b = unK k a b := rfl
theorem parK_lab {n : Nat} {l : List Ed} (hg : GOk n l) : ∀ i, i ≤ l.length → IsLab n (EdR l fun j => j < i) (parK n l i)
  | 0, _ => (IsLab.start n).congr (fun a b => ⟨fun h => h.elim, fun ⟨j, _, h, _⟩ => by omega⟩)
  | i + 1, h => by
    obtain ⟨hu, hv, _⟩ := hg.uv (show i < l.length by omega)
    refine ((parK_lab hg i (by omega)).join hu hv).congr (fun a b => ⟨?_, ?_⟩)
    · rintro (⟨j, h1, h2, h3, h4⟩ | ⟨rfl, rfl⟩)
      · exact ⟨j, h1, by omega, h3, h4⟩
      · exact ⟨i, by omega, by omega, rfl, rfl⟩
    · rintro ⟨j, h1, h2, rfl, rfl⟩
      by_cases hj : j = i
      · subst hj; exact .inr ⟨rfl, rfl⟩
      · exact .inl ⟨j, h1, by omega, rfl, rfl⟩
theorem parK_all {n : Nat} {l : List Ed} (hg : GOk n l) : IsLab n (EdR l fun _ => True) (parK n l l.length) :=
  (parK_lab hg l.length (Nat.le_refl _)).congr (fun a b => ⟨fun ⟨j, h1, _, h⟩ => ⟨j, h1, trivial, h⟩, fun ⟨j, h1, _, h⟩ => ⟨j, h1, h1, h⟩⟩)

/-- The labels of a graph at a threshold are those of kruskal. -/
theorem und_labels {n : Nat} {l : List Ed} (hg : GOk n l) (th : Int) : parK n (undL l th) (undL l th).length = (foTo n l (cutT l th)).k :=
  ((parK_all (und_ok hg th)).congr (fun a b => und_edr a b)).unique (foTo_cut hg th)

end Go.Proofs.YtenhbfbfkcjimaaDoor
