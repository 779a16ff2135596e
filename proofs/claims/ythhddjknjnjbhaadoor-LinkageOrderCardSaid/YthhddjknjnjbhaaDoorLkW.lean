/- linkage: Between. -/
import Derived.Test.YthhddjknjnjbhaaDoorLkT
import Derived.Test.YthhddjknjnjbhaaDoorLkF
namespace Go.Proofs.YthhddjknjnjbhaaDoor
set_option linter.unusedVariables false
set_option linter.unusedSimpArgs false
open Go.RowKit Go.Shelf

theorem check_any (w : World) (n : Int) (ao : Option Addr) (len cap b off : Nat) (d : List Int) (hz : InRow .i64 w ao len b off d) (hlen : len ≤ 9223372036854775807) :
    Calls Tryd.prog 17 #[.int .i64 n, .slice ao len cap] w (RetB (.int .i64 (checkL n d)) w) := by
  by_cases h : n < 0 ∨ 128 < n ∨ (len : Int) ≠ n * n
  · rw [checkL_arg (by rw [hz.size]; exact h)]
    exact check_bad n ao len cap hlen w h
  · obtain ⟨k, rfl⟩ := Int.eq_ofNat_of_zero_le (show 0 ≤ n by omega)
    have e : ((k * k : Nat) : Int) = (k : Int) * k := by simp
    exact check_good k (by omega) ao len cap b off d w hz (by omega)

theorem mixF_spec {m : Int} (hm : m = 1 ∨ m = 2 ∨ m = 3) : ∃ k, mixF m = .func (.func k) #[] #[] ∧ (∀ args w, (callFunc k args).run Tryd.prog w = .ok (.enter k args) w) ∧ ∀ x y w, Calls Tryd.prog k #[.int .i64 x, .int .i64 y] w (Ret (.int .i64 (mixV m x y)) w) := by
  rcases hm with rfl | rfl | rfl
  · exact ⟨28, rfl, enters_of Tryd.func28 (by kernel_rfl) rfl, mix1⟩
  · exact ⟨29, rfl, enters_of Tryd.func29 (by kernel_rfl) rfl, mix2⟩
  · exact ⟨30, rfl, enters_of Tryd.func30 (by kernel_rfl) rfl, mix3⟩

theorem mixF_nil {m : Int} (h : ¬ (m = 1 ∨ m = 2 ∨ m = 3)) : mixF m = .nilFunc := by
  unfold mixF; rw [if_neg (by omega), if_neg (by omega), if_neg (by omega)]

def toN (l : List Int) : List Nat := l.map Int.toNat

/-- What Between returns: numerator, denominator, error. -/
def betL (n : Int) (d : List Int) (m : Int) (a b : List Int) : Int × Int × Int :=
  if ¬ (m = 1 ∨ m = 2 ∨ m = 3) then (0, 0, 2) else if checkL n d ≠ 0 then (0, 0, checkL n d) else if disL n.toNat a b ≠ 0 then (0, 0, disL n.toNat a b) else
    if m = 3 then (lowN (gap m n.toNat d (toN a) (toN b)) ((a.length * b.length : Nat) : Int), lowD (gap m n.toNat d (toN a) (toN b)) ((a.length * b.length : Nat) : Int), 0) else (gap m n.toNat d (toN a) (toN b), 1, 0)

theorem disL_zero {n : Nat} {a b : List Int} (h : disL n a b = 0) : inB n a ∧ inB n b ∧ 0 < a.length ∧ 0 < b.length ∧ (a ++ b).Nodup := by
  unfold disL at h
  split at h
  · cases h
  rename_i h1
  split at h
  · cases h
  rename_i h2
  split at h
  · rename_i h3
    rw [Bool.not_eq_false, List.all_eq_true] at h1
    refine ⟨fun x hx => by simpa using h1 x (List.mem_append_left _ hx), fun x hx => by simpa using h1 x (List.mem_append_right _ hx), by omega, by omega, h3⟩
  · cases h

theorem filter_len (n : Int) : ∀ l : List Int, l.Nodup → l.length ≤ (l.filter fun x => decide (x ≠ n)).length + 1
  | [], _ => by simp
  | x :: l, h => by
    obtain ⟨h1, h2⟩ := List.nodup_cons.1 h
    by_cases e : x = n
    · have : l.filter (fun y => decide (y ≠ n)) = l := by
        apply List.filter_eq_self.2
        intro y hy
        have : y ≠ n := fun e2 => h1 (by rw [e, ← e2]; exact hy)
        simpa using this
      simp only [List.filter_cons]
      rw [if_neg (by simp [e]), this]; simp
    · have := filter_len n l h2
      simp only [List.filter_cons]
      rw [if_pos (by simpa using e)]
      simp only [List.length_cons]
      omega

theorem nodup_len : ∀ (n : Nat) (l : List Int), l.Nodup → inB n l → l.length ≤ n
  | 0, l, _, h => by
    cases l with
    | nil => simp
    | cons x l => have := h x (by simp); omega
  | n + 1, l, hn, h => by
    have h1 := filter_len (n : Int) l hn
    have h2 := nodup_len n (l.filter fun x => decide (x ≠ (n : Int))) (hn.filter _) (fun x hx => by
      obtain ⟨hx1, hx2⟩ := List.mem_filter.1 hx
      have := h x hx1
      have h3 : x ≠ (n : Int) := by simpa using hx2
      omega)
    omega

/-- What was gone through. -/
def vis (n : Nat) (d : List Int) (a b : List Nat) (i j : Nat) : List Int := cross n d (a.take i) b ++ (b.take j).map fun y => at2 n d (a.getD i 0) y

theorem vis_next {n : Nat} {d : List Int} {a b : List Nat} {i : Nat} (hi : i < a.length) : vis n d a b i b.length = vis n d a b (i + 1) 0 := by
  unfold vis
  rw [List.take_succ_eq_append_getElem hi, cross_append, List.take_length, List.take_zero, List.map_nil, List.append_nil]
  have : a.getD i 0 = a[i] := by rw [List.getD_eq_getElem?_getD, List.getElem?_eq_getElem hi]; rfl
  rw [this]
  simp [cross]

theorem vis_step {n : Nat} {d : List Int} {a b : List Nat} {i j : Nat} (hj : j < b.length) : vis n d a b i (j + 1) = vis n d a b i j ++ [at2 n d (a.getD i 0) (b.getD j 0)] := by
  unfold vis
  have : b.getD j 0 = b[j] := by rw [List.getD_eq_getElem?_getD, List.getElem?_eq_getElem hj]; rfl
  rw [List.take_succ_eq_append_getElem hj, List.map_append, this, List.append_assoc]; rfl

theorem vis_end {n : Nat} {d : List Int} {a b : List Nat} : vis n d a b a.length 0 = cross n d a b := by simp [vis]

theorem vis_len {n : Nat} {d : List Int} {a b : List Nat} {i j : Nat} (hi : i ≤ a.length) (hj : j ≤ b.length) : (vis n d a b i j).length = i * b.length + j := by
  unfold vis
  rw [List.length_append, cross_length]
  simp only [List.length_take, List.length_map, Nat.min_eq_left hi, Nat.min_eq_left hj]

theorem vis_mem {n : Nat} {d : List Int} {a b : List Nat} {i j : Nat} {x : Int} (h : x ∈ vis n d a b i j) : ∃ p q, x = at2 n d p q := by
  unfold vis at h
  rcases List.mem_append.1 h with hh | hh
  · unfold cross at hh
    obtain ⟨p, _, hx⟩ := List.mem_flatMap.1 hh
    obtain ⟨q, _, rfl⟩ := List.mem_map.1 hx
    exact ⟨p, q, rfl⟩
  · obtain ⟨q, _, rfl⟩ := List.mem_map.1 hh
    exact ⟨_, q, rfl⟩

/-- What is held on the way. -/
def visA (m : Int) (n : Nat) (d : List Int) (a b : List Nat) (i j : Nat) : Int := if i + j = 0 then at2 n d (a.getD 0 0) (b.getD 0 0) else agg m (vis n d a b i j)

theorem visA_step {m : Int} (hm : m = 1 ∨ m = 2 ∨ m = 3) {n : Nat} {d : List Int} (hd : DOk n d) {a b : List Nat} {i j : Nat} (hla : a.length ≤ 128) (hlb : b.length ≤ 128) (hi : i < a.length) (hj : j < b.length) (h : 0 < i + j) :
    visA m n d a b i (j + 1) = mixV m (visA m n d a b i j) (at2 n d (a.getD i 0) (b.getD j 0)) := by
  unfold visA
  rw [if_neg (by omega), if_neg (by omega), vis_step hj]
  have hlen := vis_len (n := n) (d := d) (a := a) (b := b) (i := i) (j := j) (by omega) (by omega)
  have hpos : 0 < i * b.length + j := by
    rcases Nat.eq_zero_or_pos i with e | e
    · omega
    · have := Nat.mul_pos e (show 0 < b.length by omega); omega
  have hne : vis n d a b i j ≠ [] := fun e => by rw [e] at hlen; simp at hlen; omega
  have hbd := agg_bounds (m := m) (M := 1099511627776) (by omega) (vis n d a b i j) (fun x hx => by obtain ⟨p, q, rfl⟩ := vis_mem hx; exact hd.lim p q)
  have hle : i * b.length + j ≤ 128 * 128 := by have h := Nat.mul_le_mul (show i + 1 ≤ 128 by omega) hlb; rw [Nat.succ_mul] at h; omega
  rw [hlen] at hbd
  rw [agg_append hne (by simp)]
  have e1 : agg m [at2 n d (a.getD i 0) (b.getD j 0)] = at2 n d (a.getD i 0) (b.getD j 0) := rfl
  rw [e1]
  generalize i * b.length + j = L at *
  have hl := hd.lim (a.getD i 0) (b.getD j 0)
  exact (mixV_E hm ⟨hbd.1, Int.le_trans hbd.2 (by omega)⟩ ⟨hl.1, by omega⟩).symm

theorem visA_first {m : Int} {n : Nat} {d : List Int} {a b : List Nat} (hb : 0 < b.length) : visA m n d a b 0 1 = visA m n d a b 0 0 := by
  unfold visA
  rw [if_neg (by omega), if_pos rfl, vis_step hb]
  simp [vis, cross, agg]

theorem toN_getD {n : Nat} {l : List Int} (h : inB n l) {i : Nat} (hi : i < l.length) : ((toN l).getD i 0 : Int) = l.getD i 0 ∧ (toN l).getD i 0 < n := by
  have hm := h (l.getD i 0) (getD_mem hi)
  have e : (toN l).getD i 0 = (l.getD i 0).toNat := by
    unfold toN
    rw [List.getD_eq_getElem?_getD, List.getElem?_map, List.getD_eq_getElem?_getD, List.getElem?_eq_getElem hi]; rfl
  rw [e]
  omega

theorem betL_m {n : Int} {d : List Int} {m : Int} {a b : List Int} (h : ¬ (m = 1 ∨ m = 2 ∨ m = 3)) : betL n d m a b = (0, 0, 2) := by unfold betL; rw [if_pos h]
theorem betL_c {n : Int} {d : List Int} {m : Int} {a b : List Int} (hm : m = 1 ∨ m = 2 ∨ m = 3) (h : checkL n d ≠ 0) : betL n d m a b = (0, 0, checkL n d) := by unfold betL; rw [if_neg (by omega), if_pos h]
theorem betL_d {n : Nat} {d : List Int} {m : Int} {a b : List Int} (hm : m = 1 ∨ m = 2 ∨ m = 3) (hc : checkL n d = 0) (h : disL n a b ≠ 0) : betL n d m a b = (0, 0, disL n a b) := by
  unfold betL; rw [if_neg (by omega), if_neg (by omega), Int.toNat_natCast, if_pos h]
theorem betL_3 {n : Nat} {d : List Int} {a b : List Int} (hc : checkL n d = 0) (h : disL n a b = 0) : betL n d 3 a b = (lowN (gap 3 n d (toN a) (toN b)) ((a.length * b.length : Nat) : Int), lowD (gap 3 n d (toN a) (toN b)) ((a.length * b.length : Nat) : Int), 0) := by
  unfold betL; rw [if_neg (by omega), if_neg (by omega), Int.toNat_natCast, if_neg (by omega), if_pos rfl]
theorem betL_1 {n : Nat} {d : List Int} {m : Int} {a b : List Int} (hm : m = 1 ∨ m = 2 ∨ m = 3) (h3 : m ≠ 3) (hc : checkL n d = 0) (h : disL n a b = 0) : betL n d m a b = (gap m n d (toN a) (toN b), 1, 0) := by
  unfold betL; rw [if_neg (by omega), if_neg (by omega), Int.toNat_natCast, if_neg (by omega), if_neg h3]

def betV (r : Int × Int × Int) : Value := .tuple #[.agg #[.int .i64 r.1, .int .i64 r.2.1], .int .i64 r.2.2]

theorem checkL_nat {n : Int} {d : List Int} (h : checkL n d = 0) : ∃ k : Nat, n = k := by
  by_cases hn : n < 0
  · rw [checkL_arg (.inl hn)] at h; cases h
  · exact ⟨n.toNat, by omega⟩

set_option maxHeartbeats 8000000 in
set_option maxRecDepth 100000 in
theorem between_ok (w : World) (n : Int) (m : Int) (ao : Option Addr) (len cap b off : Nat) (d : List Int) (hz : InRow .i64 w ao len b off d) (hlen : len ≤ 9223372036854775807)
    (xo yo : Option Addr) (la lb ca cb pa pb oa ob : Nat) (xs ys : List Int) (hx : InRow .i64 w xo la pa oa xs) (hy : InRow .i64 w yo lb pb ob ys) (hla : la ≤ 1000000000) (hlb : lb ≤ 1000000000) :
    Calls Tryd.prog 15 #[.int .i64 n, .slice ao len cap, .int .i64 m, .slice xo la ca, .slice yo lb cb] w (RetB (betV (betL n d m xs ys)) w) := by
  have HZ := Lib.hid hz
  have HX := Lib.hid hx
  have HY := Lib.hid hy
  clear hz hx hy
  go_enter Tryd.func15, Tryd.ntmps15
  go_wp2_with fail
  generalize hW : World.alloc w _ = W
  have B0 : Hid (Blk W w.heap.size 33 [.int .i64 0, .int .i64 0]) := by show Blk _ _ _ _; rw [← hW]; exact Blk.new w _ _
  have HB : Hid (Below w.heap.size w W) := by show Below _ _ _; rw [← hW]; exact (Below.refl _ _).alloc (Nat.le_refl _) _
  clear hW
  with_reducible refine (mixer_ok m W).mono ?_
  rintro e w1 ⟨rfl, rfl⟩
  by_cases hm : m = 1 ∨ m = 2 ∨ m = 3
  · obtain ⟨fk, hfk, hen, hcl⟩ := mixF_spec hm
    have HM := Lib.hid hm
    have HCL := Lib.hid hcl
    have HEN := Lib.hid hen
    rw [hfk]
    clear hfk hm hcl hen
    have q1 : (binOp BinOp.eql 59 (Value.func (Fn.func fk) #[] #[]) Value.nilFunc).run Tryd.prog W = .ok (.bool false) W := rfl
    go_wp2_with fail
    clear q1
    with_reducible refine (check_any W n ao len cap b off d (HZ.out.below HB.out) hlen).mono ?_
    rintro e w1 ⟨rfl, hb1⟩
    have B1 := Lib.hid (B0.out.below hb1 B0.out.lt)
    have HB1 := Lib.hid (HB.out.trans (hb1.mono HB.out.size))
    clear hb1 B0 HB
    by_cases hc : checkL n d = 0
    · obtain ⟨k, rfl⟩ := checkL_nat hc
      have HDO := Lib.hid (DOk.of_check hc)
      have hk := HDO.out.hn
      have HC := Lib.hid hc
      rw [hc]
      clear hc
      go_wp2_with fail
      with_reducible refine (disjoint_ok w1 k hk xo yo la lb ca cb pa pb oa ob xs ys (HX.out.below HB1.out) (HY.out.below HB1.out) hla hlb).mono ?_
      rintro e w2 ⟨rfl, hb2⟩
      have B2 := Lib.hid (B1.out.below hb2 B1.out.lt)
      have HB2 := Lib.hid (HB1.out.trans (hb2.mono HB1.out.size))
      clear hb2 B1 HB1
      by_cases hdi : disL k xs ys = 0
      · have HDI := Lib.hid hdi
        rw [hdi]
        clear hdi
        obtain ⟨hbx, hby, hx0, hy0, hnd⟩ := disL_zero HDI.out
        have HBX := Lib.hid hbx
        have HBY := Lib.hid hby
        have hlab : la + lb ≤ k := by
          have := nodup_len k (xs ++ ys) hnd (fun z hz => by rcases List.mem_append.1 hz with h | h; exact hbx z h; exact hby z h)
          rw [List.length_append, HX.out.size, HY.out.size] at this
          exact this
        rw [HX.out.size] at hx0
        rw [HY.out.size] at hy0
        clear hbx hby hnd
        obtain rfl := HX.out.adr hx0
        obtain rfl := HY.out.adr hy0
        have HZ2 := Lib.hid (HZ.out.below HB2.out)
        have HX2 := Lib.hid (HX.out.below HB2.out)
        have HY2 := Lib.hid (HY.out.below HB2.out)
        have ga := toN_getD HBX.out (i := 0) (by rw [HX.out.size]; exact hx0)
        have gb := toN_getD HBY.out (i := 0) (by rw [HY.out.size]; exact hy0)
        have c0 := HX2.out.cell 0 hx0
        have c1 := HY2.out.cell 0 hy0
        rw [← ga.1, Nat.add_zero] at c0
        rw [← gb.1, Nat.add_zero] at c1
        have HLL : Hid (len = k * k) := by rw [← HZ.out.size]; exact HDO.out.len
        have hlz : 0 < len := by rw [HLL.out]; exact Nat.mul_pos (by omega) (by omega)
        obtain rfl := HZ.out.adr hlz
        have hix : (toN xs).getD 0 0 * k + (toN ys).getD 0 0 < len := by rw [HLL.out]; exact idx_lt ga.2 gb.2
        have c2 := HZ2.out.cell _ hix
        have hlb2 : len ≤ 16384 := by rw [HLL.out]; exact Nat.mul_le_mul hk hk
        have HV0 : Hid (visA m k d (toN xs) (toN ys) 0 0 = d.getD ((toN xs).getD 0 0 * k + (toN ys).getD 0 0) 0) := rfl
        obtain ⟨a0, HA0⟩ : ∃ a0, Hid ((toN xs).getD 0 0 = a0) := ⟨_, rfl⟩
        obtain ⟨b0, HB0⟩ : ∃ b0, Hid ((toN ys).getD 0 0 = b0) := ⟨_, rfl⟩
        rw [HA0.out] at c0 c2 hix HV0
        rw [HB0.out] at c1 c2 hix HV0
        have e1 : (a0 : Int) * (k : Int) = ((a0 * k : Nat) : Int) := by rw [Int.natCast_mul]
        generalize a0 * k = ak at *
        obtain ⟨ix, hixe⟩ : ∃ ix, ak + b0 = ix := ⟨_, rfl⟩
        have w0 : (ak : Int) + (b0 : Int) = (ix : Int) := by omega
        rw [hixe] at hix c2 HV0
        have i1 : (ix : Int) < (len : Int) := by omega
        have v1 : IntKind.i64.wrap (ak : Int) = (ak : Int) := IntWalk.i64_in _ (by omega)
        have v2 : IntKind.i64.wrap (ix : Int) = (ix : Int) := IntWalk.i64_in _ (by omega)
        clear hixe ga gb
        generalize d.getD ix 0 = z0 at c2 HV0
        go_wp2_with fail
        go_quiet (fail)
        have HB3 : Hid (Below w.heap.size w (w2.drewN nq)) := bel_drewN HB2.out _
        have B3 : Hid (Blk (w2.drewN nq) w.heap.size 33 [.int .i64 0, .int .i64 0]) := B2.out.drewN _
        have HZ3 := Lib.hid (HZ.out.below HB3.out)
        have HX3 := Lib.hid (HX.out.below HB3.out)
        have HY3 := Lib.hid (HY.out.below HB3.out)
        generalize w2.drewN nq = w3 at *
        go_wp2_with fail
        clear c0 c1 c2 e1 w0 v1 v2 i1 hix HZ2 HX2 HY2 B2 HB2
        rw [← HV0.out]
        clear HV0 HA0 HB0
        go_loopw [15, 54] (fun s15 s54 wr => ∃ i : Nat, i ≤ la ∧ s54 = .int .i64 i ∧ s15 = .int .i64 (visA m k d (toN xs) (toN ys) i 0) ∧ wr = w3) (fun _ s _ => la - (intOf s).toNat)
        case atStart => exact ⟨0, Nat.zero_le _, rfl, rfl, rfl⟩
        case round =>
          obtain ⟨i, hi, rfl, rfl, hwr⟩ := hrel
          subst hwr
          by_cases hil : i < la
          · have gi := toN_getD HBX.out (i := i) (by rw [HX.out.size]; exact hil)
            have c0 := HX3.out.cell i hil
            rw [← gi.1] at c0
            have t0 : (i : Int) < (la : Int) := by omega
            obtain ⟨xi, HXI⟩ : ∃ xi, Hid ((toN xs).getD i 0 = xi) := ⟨_, rfl⟩
            rw [HXI.out] at c0 gi
            have hxi := gi.2
            clear gi
            go_wp2_with fail
            obtain ⟨wq, hwq⟩ : ∃ wq : World, wq = wr := ⟨_, rfl⟩
            go_loopw [15, 61] (fun s15 s61 wr => ∃ j : Nat, j ≤ lb ∧ s61 = .int .i64 j ∧ s15 = .int .i64 (visA m k d (toN xs) (toN ys) i j) ∧ wr = wq) (fun _ s _ => lb - (intOf s).toNat)
            case atStart => exact ⟨0, Nat.zero_le _, rfl, rfl, hwq.symm⟩
            case round =>
              obtain ⟨j, hj, rfl, rfl, hwr⟩ := hrel
              subst hwr
              subst hwq
              by_cases hjl : j < lb
              · have gj := toN_getD HBY.out (i := j) (by rw [HY.out.size]; exact hjl)
                have c1 := HY3.out.cell j hjl
                rw [← gj.1] at c1
                have t1 : (j : Int) < (lb : Int) := by omega
                obtain ⟨yj, HYJ⟩ : ∃ yj, Hid ((toN ys).getD j 0 = yj) := ⟨_, rfl⟩
                rw [HYJ.out] at c1 gj
                have hyj := gj.2
                clear gj
                obtain ⟨ij, hij⟩ : ∃ ij, i + j = ij := ⟨_, rfl⟩
                have s0 : (i : Int) + (j : Int) = (ij : Int) := by omega
                have s1 : IntKind.i64.wrap (ij : Int) = (ij : Int) := IntWalk.i64_in _ (by omega)
                by_cases h0 : ij = 0
                · have t3 : decide (0 < ij) = false := by simp [h0]
                  have HN : Hid (visA m k d (toN xs) (toN ys) i (j + 1) = visA m k d (toN xs) (toN ys) i j) := by
                    show _ = _
                    rw [show i = 0 by omega, show j = 0 by omega]
                    exact visA_first (by simp only [toN, List.length_map]; rw [HY.out.size]; exact hy0)
                  clear h0 hij
                  generalize visA m k d (toN xs) (toN ys) i j = al at *
                  go_wp2_with fail
                  go_roundw
                  case rel => exact ⟨j + 1, by omega, by go_num, by rw [HN.out], by first | rfl | trivial⟩
                  case measure => simp [intOf]; omega
                · have t3 : decide (0 < ij) = true := by simp; omega
                  have HN : Hid (visA m k d (toN xs) (toN ys) i (j + 1) = mixV m (visA m k d (toN xs) (toN ys) i j) (at2 k d xi yj)) := by
                    show _ = _
                    rw [← HXI.out, ← HYJ.out]
                    exact visA_step HM.out HDO.out (by simp only [toN, List.length_map]; rw [HX.out.size]; omega) (by simp only [toN, List.length_map]; rw [HY.out.size]; omega) (by simp only [toN, List.length_map]; rw [HX.out.size]; exact hil) (by simp only [toN, List.length_map]; rw [HY.out.size]; exact hjl) (by omega)
                  have hix : xi * k + yj < len := by rw [HLL.out]; exact idx_lt hxi hyj
                  have c2 := HZ3.out.cell _ hix
                  have HAT : Hid (at2 k d xi yj = d.getD (xi * k + yj) 0) := rfl
                  have e1 : (xi : Int) * (k : Int) = ((xi * k : Nat) : Int) := by rw [Int.natCast_mul]
                  generalize xi * k = xk at *
                  obtain ⟨iy, hiy⟩ : ∃ iy, xk + yj = iy := ⟨_, rfl⟩
                  have w0 : (xk : Int) + (yj : Int) = (iy : Int) := by omega
                  rw [hiy] at hix c2 HAT
                  have i1 : (iy : Int) < (len : Int) := by omega
                  have v1 : IntKind.i64.wrap (xk : Int) = (xk : Int) := IntWalk.i64_in _ (by omega)
                  have v2 : IntKind.i64.wrap (iy : Int) = (iy : Int) := IntWalk.i64_in _ (by omega)
                  rw [← HAT.out] at c2
                  clear hiy h0 hij HAT
                  generalize at2 k d xi yj = dz at *
                  generalize visA m k d (toN xs) (toN ys) i j = al at *
                  have hen := HEN.out
                  go_wp2_with fail
                  with_reducible refine (HCL.out _ _ _).mono ?_
                  rintro e w4 ⟨rfl, rfl⟩
                  rw [← HN.out]
                  go_wp2_with fail
                  go_roundw
                  case rel => exact ⟨j + 1, by omega, by go_num, rfl, by first | rfl | trivial⟩
                  case measure => simp [intOf]; omega
              · obtain rfl : lb = j := by omega
                have HN : Hid (visA m k d (toN xs) (toN ys) i lb = visA m k d (toN xs) (toN ys) (i + 1) 0) := by
                  show _ = _
                  unfold visA
                  have := vis_next (n := k) (d := d) (a := toN xs) (b := toN ys) (i := i) (by simp only [toN, List.length_map]; rw [HX.out.size]; exact hil)
                  rw [show (toN ys).length = lb by simp only [toN, List.length_map]; exact HY.out.size] at this
                  rw [if_neg (by omega), if_neg (by omega), this]
                go_wp2_with fail
                go_roundw
                case rel => exact ⟨i + 1, by omega, by go_num, by rw [HN.out], by first | rfl | trivial⟩
                case measure => simp [intOf]; omega
          · obtain rfl : la = i := by omega
            have HG : Hid (visA m k d (toN xs) (toN ys) la 0 = gap m k d (toN xs) (toN ys)) := by
              show _ = _
              unfold visA gap
              rw [if_neg (by omega), ← vis_end, show (toN xs).length = la by simp only [toN, List.length_map]; exact HX.out.size]
            rw [HG.out]
            have hgl := gap_lim (m := m) HDO.out (l1 := toN xs) (l2 := toN ys) (by simp only [toN, List.length_map]; rw [HX.out.size]; omega) (by simp only [toN, List.length_map]; rw [HY.out.size]; omega)
            clear HG
            by_cases h3 : m = 3
            · subst h3
              have HE : Hid (betL k d 3 xs ys = (lowN (gap 3 k d (toN xs) (toN ys)) ((la * lb : Nat) : Int), lowD (gap 3 k d (toN xs) (toN ys)) ((la * lb : Nat) : Int), 0)) := by
                have := betL_3 (n := k) (d := d) (a := xs) (b := ys) HC.out HDI.out
                rw [HX.out.size, HY.out.size] at this
                exact this
              have hpos : 0 < la * lb := Nat.mul_pos hx0 hy0
              have hle : la * lb ≤ 128 * 128 := Nat.mul_le_mul (by omega) (by omega)
              have e1 : (la : Int) * (lb : Int) = ((la * lb : Nat) : Int) := by rw [Int.natCast_mul]
              generalize la * lb = ll at *
              generalize gap 3 k d (toN xs) (toN ys) = gg at *
              go_wp2_with fail
              with_reducible refine (reduce_int gg (ll : Int) hgl.1 (by omega) (by omega) (by omega) wr).mono ?_
              rintro e w4 ⟨rfl, hb4⟩
              have B4 := Lib.hid (B3.out.below hb4 B3.out.lt)
              have HB4 := Lib.hid (HB3.out.trans (hb4.mono HB3.out.size))
              have z0 := B4.out.cell (i := 0) rfl
              have z1 := B4.out.cell (i := 1) rfl
              have f0 := B4.out.free 0
              have f1 := B4.out.free 1
              clear hb4
              obtain ⟨p, HP⟩ : ∃ p, Hid (lowN gg (ll : Int) = p) := ⟨_, rfl⟩
              obtain ⟨q, HQ⟩ : ∃ q, Hid (lowD gg (ll : Int) = q) := ⟨_, rfl⟩
              rw [HP.out, HQ.out] at HE ⊢
              go_wp2_with fail
              refine bodyPost_ret (v := betV (p, q, 0)) ?_ rfl ⟨by rw [HE.out], ?_⟩
              · simp [results, Tryd.results15, go_sem, z0, z1, betV]
              · exact HB4.out.trans (Mod.below (F := fun x => x = w.heap.size) (((Mod.refl (fun x => x = w.heap.size) _).setCell ⟨w.heap.size, 0, none⟩ (fun _ => rfl) _).setCell ⟨w.heap.size, 1, none⟩ (fun _ => rfl) _) HB4.out.size (fun x hx => by have e : x = w.heap.size := hx; omega))
            · have t4 : (m != 3) = true := by simp [h3]
              have HE : Hid (betL k d m xs ys = (gap m k d (toN xs) (toN ys), 1, 0)) := betL_1 HM.out h3 HC.out HDI.out
              clear h3
              generalize gap m k d (toN xs) (toN ys) = gg at *
              have z0 := B3.out.cell (i := 0) rfl
              have z1 := B3.out.cell (i := 1) rfl
              have f0 := B3.out.free 0
              have f1 := B3.out.free 1
              go_wp2_with fail
              refine bodyPost_ret (v := betV (gg, 1, 0)) ?_ rfl ⟨by rw [HE.out], ?_⟩
              · simp [results, Tryd.results15, go_sem, z0, z1, betV]
              · exact HB3.out.trans (Mod.below (F := fun x => x = w.heap.size) (((Mod.refl (fun x => x = w.heap.size) _).setCell ⟨w.heap.size, 0, none⟩ (fun _ => rfl) _).setCell ⟨w.heap.size, 1, none⟩ (fun _ => rfl) _) HB3.out.size (fun x hx => by have e : x = w.heap.size := hx; omega))
      · have t5 : (disL k xs ys != 0) = true := by simp [hdi]
        have HE : Hid (betL k d m xs ys = (0, 0, disL k xs ys)) := betL_d HM.out HC.out hdi
        clear hdi
        have z0 := B2.out.cell (i := 0) rfl
        have z1 := B2.out.cell (i := 1) rfl
        have f0 := B2.out.free 0
        have f1 := B2.out.free 1
        generalize disL k xs ys = er at *
        go_wp2_with fail
        refine bodyPost_ret (v := betV (0, 0, er)) ?_ rfl ⟨by rw [HE.out], ?_⟩
        · simp [results, Tryd.results15, go_sem, z0, z1, betV]
        · exact HB2.out.trans (Mod.below (F := fun x => x = w.heap.size) (((Mod.refl (fun x => x = w.heap.size) _).setCell ⟨w.heap.size, 0, none⟩ (fun _ => rfl) _).setCell ⟨w.heap.size, 1, none⟩ (fun _ => rfl) _) HB2.out.size (fun x hx => by have e : x = w.heap.size := hx; omega))
    · have t5 : (checkL n d != 0) = true := by simp [hc]
      have HE : Hid (betL n d m xs ys = (0, 0, checkL n d)) := betL_c HM.out hc
      clear hc
      have z0 := B1.out.cell (i := 0) rfl
      have z1 := B1.out.cell (i := 1) rfl
      have f0 := B1.out.free 0
      have f1 := B1.out.free 1
      generalize checkL n d = er at *
      go_wp2_with fail
      refine bodyPost_ret (v := betV (0, 0, er)) ?_ rfl ⟨by rw [HE.out], ?_⟩
      · simp [results, Tryd.results15, go_sem, z0, z1, betV]
      · exact HB1.out.trans (Mod.below (F := fun x => x = w.heap.size) (((Mod.refl (fun x => x = w.heap.size) _).setCell ⟨w.heap.size, 0, none⟩ (fun _ => rfl) _).setCell ⟨w.heap.size, 1, none⟩ (fun _ => rfl) _) HB1.out.size (fun x hx => by have e : x = w.heap.size := hx; omega))
  · rw [mixF_nil hm]
    have HE : Hid (betL n d m xs ys = (0, 0, 2)) := betL_m hm
    clear hm
    have z0 := B0.out.cell (i := 0) rfl
    have z1 := B0.out.cell (i := 1) rfl
    have f0 := B0.out.free 0
    have f1 := B0.out.free 1
    have q1 : (binOp BinOp.eql 59 Value.nilFunc Value.nilFunc).run Tryd.prog W = .ok (.bool true) W := rfl
    go_wp2_with fail
    refine bodyPost_ret (v := betV (0, 0, 2)) ?_ rfl ⟨by rw [HE.out], ?_⟩
    · simp [results, Tryd.results15, go_sem, z0, z1, betV]
    · exact HB.out.trans (Mod.below (F := fun x => x = w.heap.size) (((Mod.refl (fun x => x = w.heap.size) _).setCell ⟨w.heap.size, 0, none⟩ (fun _ => rfl) _).setCell ⟨w.heap.size, 1, none⟩ (fun _ => rfl) _) HB.out.size (fun x hx => by have e : x = w.heap.size := hx; omega))

end Go.Proofs.YthhddjknjnjbhaaDoor
