/- The statements' points: a valid matrix out of any numbers. -/
import Derived.Test.YthhddjknjnjbhaaDoorLkU
import Derived.Test.YthhddjknjnjbhaaDoorLkG
namespace Go.Proofs.YthhddjknjnjbhaaDoor
set_option linter.unusedVariables false
set_option linter.unusedSimpArgs false
open Go.RowKit

/-- The k-th distance. -/
def pv (z : List Int) (k : Nat) : Int := if z.length = 0 then 0 else z.getD (k % z.length) 0 % 1099511627777

def put2 (n : Nat) (d : List Int) (i j : Nat) (v : Int) : List Int := (d.set (i * n + j) v).set (j * n + i) v

def ptRow (n : Nat) (z : List Int) (d : List Int) (i k : Nat) : Nat → List Int × Nat
  | 0 => (d, k)
  | j + 1 => if i < j then (put2 n (ptRow n z d i k j).1 i j (pv z (ptRow n z d i k j).2), (ptRow n z d i k j).2 + 1) else ptRow n z d i k j

def ptTo (n : Nat) (z : List Int) : Nat → List Int × Nat
  | 0 => (List.replicate (n * n) 0, 0)
  | i + 1 => ptRow n z (ptTo n z i).1 i (ptTo n z i).2 n

def ptsL (n : Nat) (z : List Int) : List Int := (ptTo n z n).1

theorem ptRow_start (n : Nat) (z : List Int) (d : List Int) (i k : Nat) : ∀ j, j ≤ i + 1 → ptRow n z d i k j = (d, k)
  | 0, _ => rfl
  | j + 1, h => by rw [ptRow, if_neg (by omega), ptRow_start n z d i k j (by omega)]

structure PtOk (n : Nat) (d : List Int) : Prop where
  len : d.length = n * n
  sym : ∀ i j, i < n → j < n → at2 n d i j = at2 n d j i
  zero : ∀ i, i < n → at2 n d i i = 0
  lim : ∀ x ∈ d, 0 ≤ x ∧ x ≤ 1099511627776

theorem pv_lim (z : List Int) (k : Nat) : 0 ≤ pv z k ∧ pv z k ≤ 1099511627776 := by
  unfold pv
  split
  · omega
  · omega

theorem at2_put2 {n : Nat} {d : List Int} (hl : d.length = n * n) {i j : Nat} (hi : i < n) (hj : j < n) (v : Int) {p q : Nat} (hp : p < n) (hq : q < n) :
    at2 n (put2 n d i j v) p q = if (p = j ∧ q = i) ∨ (p = i ∧ q = j) then v else at2 n d p q := by
  unfold put2
  rw [at2_set (by simp [hl]) hj hi hp hq, at2_set hl hi hj hp hq]
  by_cases h1 : p = j ∧ q = i
  · rw [if_pos h1, if_pos (.inl h1)]
  · rw [if_neg h1]
    by_cases h2 : p = i ∧ q = j
    · rw [if_pos h2, if_pos (.inr h2)]
    · rw [if_neg h2, if_neg (by omega)]

theorem PtOk.put {n : Nat} {d : List Int} (h : PtOk n d) {i j : Nat} (hi : i < n) (hj : j < n) (hij : i ≠ j) {v : Int} (hv : 0 ≤ v ∧ v ≤ 1099511627776) : PtOk n (put2 n d i j v) := by
  refine ⟨by simp [put2, h.len], fun p q hp hq => ?_, fun p hp => ?_, fun x hx => ?_⟩
  · rw [at2_put2 h.len hi hj v hp hq, at2_put2 h.len hi hj v hq hp, h.sym p q hp hq]
    by_cases hc : (p = j ∧ q = i) ∨ (p = i ∧ q = j)
    · rw [if_pos hc, if_pos (by omega)]
    · rw [if_neg hc, if_neg (by omega)]
  · rw [at2_put2 h.len hi hj v hp hp, if_neg (by omega)]
    exact h.zero p hp
  · unfold put2 at hx
    rcases List.mem_or_eq_of_mem_set hx with hx | rfl
    · rcases List.mem_or_eq_of_mem_set hx with hx | rfl
      · exact h.lim x hx
      · exact hv
    · exact hv

theorem ptRow_ok {n : Nat} {z d : List Int} {i k : Nat} (h : PtOk n d) (hi : i < n) : ∀ j, j ≤ n → PtOk n (ptRow n z d i k j).1
  | 0, _ => h
  | j + 1, hj => by
    rw [ptRow]
    split
    · exact (ptRow_ok h hi j (by omega)).put hi (by omega) (by omega) (pv_lim _ _)
    · exact ptRow_ok h hi j (by omega)

theorem ptTo_ok (n : Nat) (z : List Int) : ∀ i, i ≤ n → PtOk n (ptTo n z i).1
  | 0, _ => by
    refine ⟨by simp [ptTo], fun i j _ _ => ?_, fun i _ => ?_, fun x hx => ?_⟩
    · simp [ptTo, at2, List.getElem?_replicate]; split <;> split <;> rfl
    · simp [ptTo, at2, List.getElem?_replicate]; split <;> rfl
    · simp [ptTo] at hx; omega
  | i + 1, hi => ptRow_ok (ptTo_ok n z i (by omega)) (by omega) n (Nat.le_refl _)

theorem ptRow_le {n : Nat} {z d : List Int} {i k : Nat} : ∀ j, (ptRow n z d i k j).2 ≤ k + j
  | 0 => Nat.le_refl _
  | j + 1 => by
    have := ptRow_le (n := n) (z := z) (d := d) (i := i) (k := k) j
    rw [ptRow]
    split
    · simp only []; omega
    · omega

theorem ptTo_le (n : Nat) (z : List Int) : ∀ i, (ptTo n z i).2 ≤ i * n
  | 0 => by simp [ptTo]
  | i + 1 => by
    have h1 := ptTo_le n z i
    have h2 := ptRow_le (n := n) (z := z) (d := (ptTo n z i).1) (i := i) (k := (ptTo n z i).2) n
    rw [ptTo, Nat.succ_mul]
    omega

theorem symTo_of {n : Nat} {d : List Int} (hs : ∀ i j, i < n → j < n → at2 n d i j = at2 n d j i) (hz : ∀ i, i < n → at2 n d i i = 0) : ∀ k, k ≤ n → symTo n d k = true
  | 0, _ => rfl
  | k + 1, h => symTo_step (symTo_of hs hz k (by omega)) (hz k (by omega)) (fun j hj => hs k j (by omega) (by omega))

theorem pts_check {n : Nat} (hn : n ≤ 128) (z : List Int) : checkL n (ptsL n z) = 0 := by
  have h := ptTo_ok n z n (Nat.le_refl _)
  refine checkL_ok h.len hn (symTo_of h.sym h.zero n (Nat.le_refl _)) (fun i hi => h.lim _ ?_)
  rw [List.getD_eq_getElem?_getD, List.getElem?_eq_getElem hi]; exact List.getElem_mem hi

theorem pts_len (n : Nat) (z : List Int) : (ptsL n z).length = n * n := (ptTo_ok n z n (Nat.le_refl _)).len

theorem ptRow_zero {n : Nat} {z : List Int} (hz : z.length = 0) (L : Nat) (i k : Nat) : ∀ j, (ptRow n z (List.replicate L 0) i k j).1 = List.replicate L 0
  | 0 => rfl
  | j + 1 => by
    rw [ptRow]
    split
    · simp only [put2, ptRow_zero hz L i k j, pv, hz, if_true, List.set_replicate_self]
    · exact ptRow_zero hz L i k j

theorem ptTo_zero {n : Nat} {z : List Int} (hz : z.length = 0) : ∀ i, (ptTo n z i).1 = List.replicate (n * n) 0
  | 0 => rfl
  | i + 1 => by
    rw [ptTo, ptTo_zero hz i]
    exact ptRow_zero hz _ _ _ _

/-- What points returns. -/
structure PtPost (n : Nat) (z : List Int) (w : World) (e : Ending) (w' : World) : Prop where
  val : e = .returned (.slice (some ⟨w.heap.size, 0, none⟩) (n * n) (n * n))
  blk : Blk w' w.heap.size 2 ((ptsL n z).map fun y => .int .i64 y)
  bel : Below w.heap.size w w'

theorem Tryd.infoI64V : (Tryd.prog.info? 2).map (fun i => (i.zero, i.size, i.bytes)) = some (some (.int .i64 0), 1, 8) := by kernel_rfl

set_option maxHeartbeats 4000000 in
set_option maxRecDepth 100000 in
theorem points_ok (w : World) (n : Nat) (hn : n ≤ 128) (ao : Option Addr) (len cap b off : Nat) (z : List Int) (hz : InRow .u64 w ao len b off z) (hl : len ≤ 9223372036854775807) (hu : ∀ x ∈ z, 0 ≤ x ∧ x < 18446744073709551616) :
    Calls Tryd.prog 9 #[.int .i64 n, .slice ao len cap] w (PtPost n z w) := by
  have HZ := Lib.hid hz
  have HU := Lib.hid hu
  have enn : (n : Int) * (n : Int) = ((n * n : Nat) : Int) := by rw [Int.natCast_mul]
  have hnn : n * n ≤ 16384 := Nat.mul_le_mul hn hn
  obtain ⟨nn, HNN⟩ : ∃ nn, Hid (n * n = nn) := ⟨_, rfl⟩
  rw [HNN.out] at enn hnn
  clear hz hu
  go_enter Tryd.func9, Tryd.ntmps9
  go_wp2_with (at_make; refine wpList_makeB 2 (.int .i64 0) 8 Tryd.underlying23 Tryd.infoI64V rfl _ _ _ _ nn rfl rfl rfl rfl (by omega) (by unfold maxLen; omega) ?_; intro w1 B1 hb1)
  have HB1 : Hid (Blk w1 w.heap.size 2 ((ptTo n z 0).1.map fun y => .int .i64 y)) := by show Blk _ _ _ _; simp only [ptTo, HNN.out, List.map_replicate]; exact B1
  have HBL := Lib.hid hb1
  clear B1 hb1
  go_loopw [6, 7] (fun s6 s7 wr => ∃ i : Nat, i ≤ n ∧ s7 = .int .i64 i ∧ s6 = .int .i64 ((ptTo n z i).2 : Nat) ∧ Blk wr w.heap.size 2 ((ptTo n z i).1.map fun y => .int .i64 y) ∧ Below w.heap.size w wr) (fun _ s _ => n - (intOf s).toNat)
  case atStart => exact ⟨0, Nat.zero_le _, rfl, rfl, HB1.out, HBL.out⟩
  case round =>
    obtain ⟨i, hi, rfl, rfl, hb, hbl⟩ := hrel
    clear HB1 HBL
    have HB := Lib.hid hb
    have HBL := Lib.hid hbl
    clear hb hbl
    by_cases hin : i < n
    · have hk0 := ptTo_le n z i
      have hk1 : i * n + n ≤ nn := by rw [← HNN.out, ← Nat.succ_mul]; exact Nat.mul_le_mul_right n hin
      have HD0 := Lib.hid (ptTo_ok n z i hi)
      have HZE : Hid (z.length = 0 → (ptTo n z i).1 = List.replicate (n * n) 0) := fun h => ptTo_zero h i
      have HNX : Hid (ptTo n z (i + 1) = ptRow n z (ptTo n z i).1 i (ptTo n z i).2 n) := rfl
      generalize hd0 : (ptTo n z i).1 = d0 at *
      generalize hk0e : (ptTo n z i).2 = k0 at *
      clear hd0 hk0e
      generalize i * n = in0 at hk0 hk1
      go_wp2_with fail
      obtain ⟨wq, rfl⟩ : ∃ wq : World, wq = wr := ⟨_, rfl⟩
      go_loopw [6, 8] (fun s6 s8 wr => ∃ j : Nat, i < j ∧ j ≤ n ∧ s8 = .int .i64 j ∧ s6 = .int .i64 ((ptRow n z d0 i k0 j).2 : Nat) ∧ Blk wr w.heap.size 2 ((ptRow n z d0 i k0 j).1.map fun y => .int .i64 y) ∧ Below w.heap.size w wr) (fun _ s _ => n - (intOf s).toNat)
      case atStart => exact ⟨i + 1, by omega, by omega, by go_num, by rw [ptRow_start _ _ _ _ _ _ (Nat.le_refl _)], by rw [ptRow_start _ _ _ _ _ _ (Nat.le_refl _)]; exact HB.out, HBL.out⟩
      case round =>
        obtain ⟨j, hij, hj, rfl, rfl, hb, hbl⟩ := hrel
        clear HB HBL
        have HB := Lib.hid hb
        have HBL := Lib.hid hbl
        clear hb hbl
        by_cases hjn : j < n
        · have hkl := ptRow_le (n := n) (z := z) (d := d0) (i := i) (k := k0) j
          have HDJ := Lib.hid (ptRow_ok (z := z) (k := k0) HD0.out hin j hj)
          have HNJ : Hid (ptRow n z d0 i k0 (j + 1) = (put2 n (ptRow n z d0 i k0 j).1 i j (pv z (ptRow n z d0 i k0 j).2), (ptRow n z d0 i k0 j).2 + 1)) := by show _ = _; rw [ptRow, if_pos hij]
          have HZJ : Hid (z.length = 0 → (ptRow n z d0 i k0 j).1 = List.replicate (n * n) 0) := fun h => by rw [HZE.out h]; exact ptRow_zero h _ _ _ _
          generalize hdj : (ptRow n z d0 i k0 j).1 = dj at *
          generalize hkj : (ptRow n z d0 i k0 j).2 = kj at *
          clear hdj hkj
          have x1 : i * n + j < nn := by rw [← HNN.out]; exact idx_lt hin hjn
          have x2 : j * n + i < nn := by rw [← HNN.out]; exact idx_lt hjn hin
          have xne : i * n + j ≠ j * n + i := fun e => by have := idx_inj hjn hin e; omega
          have hdl : dj.length = nn := by rw [HDJ.out.len]; exact HNN.out
          have c1 := blk_int HB.out (i := i * n + j) (by omega)
          have c2 := blk_int HB.out (i := j * n + i) (by omega)
          have f1 := HB.out.free (i * n + j)
          have f2 := HB.out.free (j * n + i)
          have HPUT : Hid (∀ v, put2 n dj i j v = (dj.set (i * n + j) v).set (j * n + i) v) := fun v => rfl
          have m1 : (i : Int) * (n : Int) = ((i * n : Nat) : Int) := by rw [Int.natCast_mul]
          have m2 : (j : Int) * (n : Int) = ((j * n : Nat) : Int) := by rw [Int.natCast_mul]
          generalize i * n = im at *
          generalize j * n = jm at *
          obtain ⟨p, hp⟩ : ∃ p, im + j = p := ⟨_, rfl⟩
          obtain ⟨q, hq⟩ : ∃ q, jm + i = q := ⟨_, rfl⟩
          have m3 : (im : Int) + (j : Int) = (p : Int) := by omega
          have m4 : (jm : Int) + (i : Int) = (q : Int) := by omega
          rw [hp] at x1 xne c1 f1 HPUT
          rw [hq] at x2 xne c2 f2 HPUT
          have v1 : IntKind.i64.wrap (im : Int) = (im : Int) := IntWalk.i64_in _ (by omega)
          have v2 : IntKind.i64.wrap (jm : Int) = (jm : Int) := IntWalk.i64_in _ (by omega)
          have v3 : IntKind.i64.wrap (p : Int) = (p : Int) := IntWalk.i64_in _ (by omega)
          have v4 : IntKind.i64.wrap (q : Int) = (q : Int) := IntWalk.i64_in _ (by omega)
          have y1 : (p : Int) < (nn : Int) := by omega
          have y2 : (q : Int) < (nn : Int) := by omega
          have xne1 : ¬ (p = q) := xne
          have xne2 : ¬ (q = p) := fun e => xne e.symm
          clear hp hq xne
          by_cases hl0 : len = 0
          · have t1 : decide (0 < len) = false := by simp [hl0]
            have HZZ : Hid (dj = List.replicate (n * n) 0) := HZJ.out (by rw [HZ.out.size]; exact hl0)
            have HPV : Hid (pv z kj = 0) := by show _ = _; unfold pv; rw [if_pos (by rw [HZ.out.size]; exact hl0)]
            have g1 : dj.getD p 0 = 0 := by rw [HZZ.out, List.getD_eq_getElem?_getD, List.getElem?_replicate]; split <;> rfl
            rw [g1] at c1
            generalize dj.getD q 0 = x2v at c2
            clear g1 hl0
            go_wp2_with fail
            go_roundw
            case rel =>
              refine ⟨j + 1, by omega, by omega, by go_num, by rw [HNJ.out]; go_num, ?_, ?_⟩
              · rw [HNJ.out, HPV.out, HPUT.out]
                have e : dj.set p 0 = dj := by rw [HZZ.out, List.set_replicate_self]
                rw [e]
                exact blk_set_int HB.out q 0
              · exact HBL.out.trans (Mod.below (F := fun k => k = w.heap.size) ((Mod.refl (fun k => k = w.heap.size) _).setCell ⟨w.heap.size, q, none⟩ (fun _ => rfl) _) HBL.out.size (fun k hk => by have h2 : k = w.heap.size := hk; omega))
            case measure => simp [intOf]; omega
          · have t1 : decide (0 < len) = true := by simp; omega
            have hml : kj % len < len := Nat.mod_lt _ (by omega)
            obtain rfl := HZ.out.adr (by omega)
            have hbw := HZ.out.lt (by omega)
            have c3 := (HBL.out.cell (p := ⟨b, off + kj % len, none⟩) hbw).trans (HZ.out.cell (kj % len) hml)
            have HPV : Hid (pv z kj = z.getD (kj % len) 0 % 1099511627777) := by show _ = _; unfold pv; rw [if_neg (by rw [HZ.out.size]; exact hl0), HZ.out.size]
            have hzu := HU.out (z.getD (kj % len) 0) (by rw [List.getD_eq_getElem?_getD, List.getElem?_eq_getElem (by rw [HZ.out.size]; exact hml)]; exact List.getElem_mem _)
            generalize z.getD (kj % len) 0 = zv at c3 HPV hzu
            have r1 : (kj : Int) % (len : Int) = ((kj % len : Nat) : Int) := by simp
            have r2 : Int.tmod (kj : Int) (len : Int) = ((kj % len : Nat) : Int) := by rw [Int.tmod_eq_emod_of_nonneg (by omega)]; simp
            have r3 : Int.tmod zv 1099511627777 = zv % 1099511627777 := Int.tmod_eq_emod_of_nonneg hzu.1
            have hvr : 0 ≤ zv % 1099511627777 ∧ zv % 1099511627777 ≤ 1099511627776 := by omega
            have y3 : ((kj % len : Nat) : Int) < (len : Int) := by omega
            generalize kj % len = km at *
            generalize zv % 1099511627777 = vv at *
            generalize dj.getD p 0 = x1v at c1
            generalize dj.getD q 0 = x2v at c2
            clear hl0
            go_wp2_with fail
            go_roundw
            case rel =>
              refine ⟨j + 1, by omega, by omega, by go_num, by rw [HNJ.out]; go_num, ?_, ?_⟩
              · rw [HNJ.out, HPV.out, HPUT.out]
                exact blk_set_int (blk_set_int HB.out p vv) q vv
              · exact HBL.out.trans (Mod.below (F := fun k => k = w.heap.size) (((Mod.refl (fun k => k = w.heap.size) _).setCell ⟨w.heap.size, p, none⟩ (fun _ => rfl) _).setCell ⟨w.heap.size, q, none⟩ (fun _ => rfl) _) HBL.out.size (fun k hk => by have h2 : k = w.heap.size := hk; omega))
            case measure => simp [intOf]; omega
        · obtain rfl : n = j := by omega
          go_wp2_with fail
          go_roundw
          case rel => exact ⟨i + 1, by omega, by go_num, by rw [HNX.out], by rw [HNX.out]; exact HB.out, HBL.out⟩
          case measure => simp [intOf]; omega
    · obtain rfl : n = i := by omega
      go_wp2_with fail
      go_ret
      refine ⟨?_, HB.out, HBL.out⟩
      rw [HNN.out]; rfl

end Go.Proofs.YthhddjknjnjbhaaDoor
