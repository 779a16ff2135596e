/- The farthest vertex, plain; Farthest for any number. -/
import Derived.Test.YtenhbfbfkcjimaaDoorZMmH
import Derived.Test.YtenhbfbfkcjimaaDoorZMgO
namespace Go.Proofs.YtenhbfbfkcjimaaDoor
set_option linter.unusedVariables false
set_option linter.unusedSimpArgs false

theorem bl_rt_eq {t : Tr} {n m : Nat} {ls : List Nat} (h : TV t n m ls) {c : Nat} (hc : c < m) : ∀ x, x < m → bl t m c x = true → rt t m x = rt t m c := by
  refine h.down (fun x hx hp hb => ?_) (fun x p hx hp hlt hn e ih hb => ?_)
  · rw [bl_root h hx hp, decide_eq_true_eq] at hb
    rw [hb]
  · rw [bl_par h hx e, Bool.or_eq_true, decide_eq_true_eq] at hb
    rcases hb with hb | hb
    · rw [hb]
    · rw [rt_par h hx e]; exact ih hb

theorem mm_comp {n : Nat} {l : List Ed} (hg : GOk n l) {u w : Nat} {d : Int} (h : mmV n l u w = some d) (hne : w ≠ u) : w ∈ compL n l u := by
  obtain ⟨hu, hw⟩ := mmV_in h
  have tv := bdL_tv3 hg
  have hnm := tv.nm
  rw [mmV_ne (by omega), mV_nat (by omega) (by omega) (by omega)] at h
  obtain ⟨c, hc, _⟩ := Option.map_eq_some_iff.1 h
  have hcm := (comV_inner tv (by omega) (by omega) (by omega) hc).2
  unfold comV at hc
  have := List.find?_some hc
  rw [Bool.and_eq_true] at this
  have e1 := bl_rt_eq tv hcm u (by omega) this.1
  have e2 := bl_rt_eq tv hcm w (by omega) this.2
  unfold compL leavesL
  rw [List.mem_filter, List.mem_range]
  refine ⟨by omega, ?_⟩
  rw [bl_rt tv (rt_lt tv u (by omega)).2 w (by omega), decide_eq_true_eq, e1, e2]

/-- What Farthest says. -/
structure FarOk (n : Nat) (l : List Ed) (u : Int) (s : Far) : Prop where
  no : s.ok = false → s = ⟨0, 0, false⟩ ∧ ∀ w : Nat, w < n → (w : Int) ≠ u → mmV n l u w = none
  yes : s.ok = true → s.v < n ∧ (s.v : Int) ≠ u ∧ mmV n l u s.v = some s.t ∧ ∀ w : Nat, w < n → (w : Int) ≠ u → ∀ d, mmV n l u w = some d → d ≤ s.t ∧ (d = s.t → s.v ≤ w)

structure FarP (n : Nat) (l : List Ed) (u : Nat) (pre : List Nat) (s : Far) : Prop where
  no : s.ok = false → s = ⟨0, 0, false⟩ ∧ ∀ w ∈ pre, w ≠ u → mmV n l u w = none
  yes : s.ok = true → s.v ∈ pre ∧ s.v ≠ u ∧ mmV n l u s.v = some s.t ∧ ∀ w ∈ pre, w ≠ u → ∀ d, mmV n l u w = some d → d ≤ s.t ∧ (d = s.t → s.v ≤ w)

theorem FarP.step {n : Nat} {l : List Ed} {u : Nat} {pre : List Nat} {s : Far} (h : FarP n l u pre s) {x : Nat} (hx : ∀ y ∈ pre, y < x) : FarP n l u (pre ++ [x]) (farStep n l u s x) := by
  have hm : ∀ w, w ∈ pre ++ [x] → w ∈ pre ∨ w = x := fun w hw => by simpa using hw
  have stay : (∀ d, x ≠ u → mmV n l u x = some d → s.ok = true ∧ d ≤ s.t) → FarP n l u (pre ++ [x]) s := fun hs => by
    refine ⟨fun e => ⟨(h.no e).1, fun w hw hne => ?_⟩, fun e => ?_⟩
    · rcases hm w hw with hw | rfl
      · exact (h.no e).2 w hw hne
      · cases hmm : mmV n l u w with
        | none => rfl
        | some d => have := (hs d hne hmm).1; rw [e] at this; cases this
    · obtain ⟨h1, h2, h3, h4⟩ := h.yes e
      refine ⟨by simp [h1], h2, h3, fun w hw hne d hd => ?_⟩
      rcases hm w hw with hw | rfl
      · exact h4 w hw hne d hd
      · exact ⟨(hs d hne hd).2, fun _ => Nat.le_of_lt (hx _ h1)⟩
  unfold farStep
  cases hmm : mmV n l u x with
  | none => exact stay (fun d _ hd => by rw [hmm] at hd; cases hd)
  | some d =>
    show FarP n l u (pre ++ [x]) (if x ≠ u ∧ (s.ok = false ∨ s.t < d) then ⟨x, d, true⟩ else s)
    by_cases hc : x ≠ u ∧ (s.ok = false ∨ s.t < d)
    · rw [if_pos hc]
      refine ⟨fun e => (by cases e), fun _ => ⟨by simp, hc.1, hmm, fun w hw hne d' hd' => ?_⟩⟩
      rcases hm w hw with hw | rfl
      · rcases hc.2 with h0 | h0
        · rw [(h.no h0).2 w hw hne] at hd'; cases hd'
        · cases ho : s.ok with
          | false => rw [(h.no ho).2 w hw hne] at hd'; cases hd'
          | true =>
            have h4 := ((h.yes ho).2.2.2 w hw hne d' hd').1
            show d' ≤ d ∧ (d' = d → _)
            exact ⟨by omega, fun e => by omega⟩
      · rw [hmm] at hd'; injection hd' with hd'
        show d' ≤ d ∧ (d' = d → w ≤ w)
        exact ⟨by omega, fun _ => Nat.le_refl _⟩
    · rw [if_neg hc]
      refine stay (fun d' hne hd' => ?_)
      rw [hmm] at hd'; injection hd' with hd'
      subst hd'
      cases ho : s.ok with
      | false => exact absurd ⟨hne, .inl ho⟩ hc
      | true => exact ⟨rfl, by
          apply Classical.byContradiction
          intro hlt
          exact hc ⟨hne, .inr (by omega)⟩⟩

theorem farP_fold {n : Nat} {l : List Ed} {u : Nat} : ∀ (L pre : List Nat) (s : Far), FarP n l u pre s → L.Pairwise (· < ·) → (∀ y ∈ pre, ∀ x ∈ L, y < x) → FarP n l u (pre ++ L) (L.foldl (farStep n l u) s)
  | [], pre, s, h, _, _ => by rw [List.append_nil]; exact h
  | x :: L, pre, s, h, hp, hlt => by
    rw [List.pairwise_cons] at hp
    have := farP_fold L (pre ++ [x]) (farStep n l u s x) (h.step (fun y hy => hlt y hy x (List.mem_cons_self ..))) hp.2 (fun y hy z hz => by
      rcases (by simpa using hy : y ∈ pre ∨ y = x) with hy | rfl
      · exact hlt y hy z (List.mem_cons_of_mem _ hz)
      · exact hp.1 z hz)
    rw [List.append_assoc] at this
    exact this

theorem comp_sorted (n : Nat) (l : List Ed) (u : Nat) : (compL n l u).Pairwise (· < ·) := by
  unfold compL leavesL
  exact List.Pairwise.filter _ List.pairwise_lt_range

theorem farL_ok {n : Nat} {l : List Ed} (hg : GOk n l) {u : Nat} (hu : u < n) : FarOk n l u (farL n l u) := by
  have h := farP_fold (n := n) (l := l) (u := u) (compL n l u) [] ⟨0, 0, false⟩ ⟨fun _ => ⟨rfl, fun w hw => by cases hw⟩, fun e => by cases e⟩ (comp_sorted n l u) (fun y hy => by cases hy)
  rw [List.nil_append] at h
  have hlt : ∀ x, x ∈ compL n l u → x < n := fun x hx => by
    unfold compL leavesL at hx
    exact List.mem_range.1 (List.mem_filter.1 hx).1
  refine ⟨fun e => ⟨(h.no e).1, fun w hw hne => ?_⟩, fun e => ?_⟩
  · cases hmm : mmV n l (u : Int) (w : Int) with
    | none => rfl
    | some d =>
      have := (h.no e).2 w (mm_comp hg hmm (by omega)) (by omega)
      rw [hmm] at this; cases this
  · obtain ⟨h1, h2, h3, h4⟩ := h.yes e
    exact ⟨hlt _ h1, fun e => h2 (Int.ofNat.inj e), h3, fun w hw hne d hd => h4 w (mm_comp hg hd (by omega)) (by omega) d hd⟩

def farA (n : Nat) (l : List Ed) (u : Int) : Far := if 0 ≤ u ∧ u < n then farL n l u.toNat else ⟨0, 0, false⟩
theorem farA_ok {n : Nat} {l : List Ed} (hg : GOk n l) (u : Int) : FarOk n l u (farA n l u) := by
  unfold farA
  by_cases h : 0 ≤ u ∧ u < n
  · rw [if_pos h]
    obtain ⟨a, rfl⟩ := Int.eq_ofNat_of_zero_le h.1
    rw [Int.toNat_natCast]
    exact farL_ok hg (by omega)
  · rw [if_neg h]
    refine ⟨fun _ => ⟨rfl, fun w hw hne => ?_⟩, fun e => by cases e⟩
    cases hmm : mmV n l u (w : Int) with
    | none => rfl
    | some d => exact absurd (mmV_in hmm).1 h

theorem farthest_any (w : World) (M : MB) (n : Nat) (l : List Ed) (hM : MObj w M n l) (hg : GOk n l) (hT : Tab64 w) (u : Int) :
    Calls Tryd.prog 27 #[.pointer (some ⟨M.f, 0, none⟩), .int .i64 u] w (RetB (farR (farA n l u)) w) := by
  unfold farA
  by_cases h : 0 ≤ u ∧ u < n
  · rw [if_pos h]
    obtain ⟨a, rfl⟩ := Int.eq_ofNat_of_zero_le h.1
    rw [Int.toNat_natCast]
    exact farthest_ok w M n l hM hg hT a (by omega)
  · rw [if_neg h]
    exact farthest_no w _ ⟨_, rfl⟩ u (hM.noHas h)

end Go.Proofs.YtenhbfbfkcjimaaDoor
