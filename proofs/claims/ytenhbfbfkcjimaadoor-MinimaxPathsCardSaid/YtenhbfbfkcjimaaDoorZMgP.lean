/- Several texts in one: PkP, DsP. -/
import Derived.Test.YtenhbfbfkcjimaaDoorZMgO
import Derived.Test.YtenhbfbfkcjimaaDoorZMgL
import Derived.Test.YtenhbfbfkcjimaaDoorZMgB
/- Some edges of a graph, picked by their indexes: what they connect; the edge that joins two vertices first. No program in sight. -/
namespace Go.Proofs.YtenhbfbfkcjimaaDoor
set_option linter.unusedVariables false
set_option linter.unusedSimpArgs false

def pickE (l : List Ed) (P : List Nat) : List Ed := P.map (EA l)
theorem pickE_len (l : List Ed) (P : List Nat) : (pickE l P).length = P.length := List.length_map _
theorem pickE_at {l : List Ed} {P : List Nat} {i : Nat} (h : i < P.length) : EA (pickE l P) i = EA l (P.getD i 0) := by
  show (P.map (EA l)).getD i ed0 = _
  rw [List.getD_eq_getElem?_getD, List.getElem?_map, List.getD_eq_getElem?_getD, List.getElem?_eq_getElem h]
  rfl
theorem pickE_uN {l : List Ed} {P : List Nat} {i : Nat} (h : i < P.length) : uN (pickE l P) i = uN l (P.getD i 0) := by unfold uN; rw [pickE_at h]
theorem pickE_vN {l : List Ed} {P : List Nat} {i : Nat} (h : i < P.length) : vN (pickE l P) i = vN l (P.getD i 0) := by unfold vN; rw [pickE_at h]
theorem pickE_snoc (l : List Ed) (P : List Nat) (i : Nat) : pickE l (P ++ [i]) = pickE l P ++ [EA l i] := by unfold pickE; rw [List.map_append]; rfl
theorem pickE_arm {l : List Ed} {P : List Nat} {i : Nat} (h : i < P.length) {x y : Nat} : Arm (pickE l P) i x y ↔ Arm l (P.getD i 0) x y := by
  unfold Arm
  rw [pickE_uN h, pickE_vN h]

theorem pick_ok {n : Nat} {l : List Ed} {P : List Nat} (hg : GOk n l) (hp : ∀ i ∈ P, i < l.length) (hl : P.length ≤ 16384) : GOk n (pickE l P) := by
  refine ⟨hg.hn, by rw [pickE_len]; exact hl, fun i hi => ?_⟩
  rw [pickE_len] at hi
  rw [pickE_at hi]
  exact hg.ed _ (hp _ (getD_mem hi))

theorem pick_edr {l : List Ed} {P : List Nat} (hp : ∀ i ∈ P, i < l.length) (a b : Nat) : EdR (pickE l P) (fun _ => True) a b ↔ EdR l (fun i => i ∈ P) a b := by
  constructor
  · rintro ⟨i, h1, _, h3, h4⟩
    rw [pickE_len] at h1
    exact ⟨P.getD i 0, hp _ (getD_mem h1), getD_mem h1, by rw [h3, pickE_uN h1], by rw [h4, pickE_vN h1]⟩
  · rintro ⟨i, _, h2, h3, h4⟩
    obtain ⟨j, hj, e⟩ := mem_getD h2
    exact ⟨j, by rw [pickE_len]; exact hj, trivial, by rw [h3, pickE_uN hj, e], by rw [h4, pickE_vN hj, e]⟩

theorem pick_rel {l : List Ed} {P : List Nat} (hp : ∀ i ∈ P, i < l.length) : EdR (pickE l P) (fun _ => True) = EdR l (fun i => i ∈ P) := by
  funext a b
  exact propext (pick_edr hp a b)

/-- The labels of the first t edges in the order. -/
theorem pick_lab {n : Nat} {l : List Ed} (hg : GOk n l) {t : Nat} (ht : t ≤ l.length) {K : List Nat} (h : IsLab n (EdR (pickE l ((ordL l).take t)) fun _ => True) K) : K = (foTo n l t).k := by
  refine (h.congr (fun a b => pick_edr (fun i hi => ord_lt (List.mem_of_mem_take hi)) a b)).unique (foTo_lab hg t ht)

theorem foTo_out_succ (n : Nat) (l : List Ed) (t : Nat) : (foTo n l (t + 1)).out = (foTo n l t).out ∨ (foTo n l (t + 1)).out = (foTo n l t).out ++ [(ordL l).getD t 0] := by
  have e : foTo n l (t + 1) = (foTo n l t).step l ((ordL l).getD t 0) := rfl
  rw [e]
  unfold Fo.step
  split
  · exact .inl rfl
  · exact .inr rfl

theorem foTo_out_pre (n : Nat) (l : List Ed) (t : Nat) : ∀ d, ∃ r, (foTo n l (t + d)).out = (foTo n l t).out ++ r
  | 0 => ⟨[], by simp⟩
  | d + 1 => by
    obtain ⟨r, hr⟩ := foTo_out_pre n l t d
    rcases foTo_out_succ n l (t + d) with h | h
    · exact ⟨r, h.trans hr⟩
    · exact ⟨r ++ [(ordL l).getD (t + d) 0], by
        show (foTo n l (t + d + 1)).out = _
        rw [h, hr, List.append_assoc]⟩

/-- Joined by the edge t of the order and by none before it: this is the edge. -/
theorem edge_hit {n : Nat} {l : List Ed} (hg : GOk n l) {u v : Nat} (hu : u < n) (hv : v < n) (hne : u ≠ v) {t : Nat} (ht : t < l.length) (h0 : (foTo n l t).k.getD u 0 ≠ (foTo n l t).k.getD v 0) (h1 : (foTo n l (t + 1)).k.getD u 0 = (foTo n l (t + 1)).k.getD v 0) :
    edV n l u v = some ((ordL l).getD t 0) := by
  obtain ⟨d, hd, hlt⟩ := (com_edges hg hu hv hne (show t + 1 ≤ l.length by omega)).1 h1
  have hge : ¬ d < n + (foTo n l t).out.length := fun h => h0 ((com_edges hg hu hv hne (by omega)).2 ⟨d, hd, h⟩)
  have hm : mV n l u v = some d := by
    unfold mV
    rw [if_pos (by omega), Int.toNat_natCast, Int.toNat_natCast]
    exact hd
  unfold edV
  rw [hm]
  show some (fe n l (d - n)) = _
  congr 1
  rcases foTo_out_succ n l t with h | h
  · rw [h] at hlt; exact absurd hlt hge
  · rw [h, List.length_append, List.length_singleton] at hlt
    have e : d - n = (foTo n l t).out.length := by omega
    obtain ⟨r, hr⟩ := foTo_out_pre n l (t + 1) (l.length - (t + 1))
    rw [show t + 1 + (l.length - (t + 1)) = l.length by omega, h] at hr
    show (foTo n l l.length).out.getD (d - n) 0 = _
    rw [hr, e, List.getD_eq_getElem?_getD, List.append_assoc, List.getElem?_append_right (Nat.le_refl _), Nat.sub_self]
    rfl

/-- Joined by none. -/
theorem edge_none {n : Nat} {l : List Ed} (hg : GOk n l) {u v : Nat} (hu : u < n) (hv : v < n) (hne : u ≠ v) (h0 : (foTo n l l.length).k.getD u 0 ≠ (foTo n l l.length).k.getD v 0) : edV n l u v = none := by
  have hm : mV n l u v = none := by
    unfold mV
    rw [if_pos (by omega), Int.toNat_natCast, Int.toNat_natCast]
    cases hc : comV (bdL n l) (n + FN n l) u v with
    | none => rfl
    | some d =>
      obtain ⟨_, h2⟩ := comV_inner (bdL_tv3 hg) hu hv hne hc
      exact absurd ((com_edges hg hu hv hne (Nat.le_refl _)).2 ⟨d, hc, h2⟩) h0
  unfold edV
  rw [hm]
  rfl

end Go.Proofs.YtenhbfbfkcjimaaDoor

/- Distances in a graph, round by round; the way along falling distances in a forest. No program in sight. -/
namespace Go.Proofs.YtenhbfbfkcjimaaDoor
set_option linter.unusedVariables false
set_option linter.unusedSimpArgs false

abbrev AllR (l : List Ed) : Nat → Nat → Prop := EdR l fun _ => True

/-- The distances of round r after i edges. -/
structure DsI (n : Nat) (l : List Ed) (v r i : Nat) (d : List Int) : Prop where
  len : d.length = n
  at_ : ∀ x, x < n → gi d x = -1 ∨ ∃ k : Nat, k ≤ r + 1 ∧ gi d x = k ∧ Sh (AllR l) v k x
  low : ∀ x k, x < n → k ≤ r → Sh (AllR l) v k x → gi d x = k
  adj : ∀ j, j < i → ∀ x y, Arm l j x y → Sh (AllR l) v r x → gi d y ≠ -1

theorem DsI.start {n : Nat} {l : List Ed} {v : Nat} (hv : v < n) : DsI n l v 0 0 ((List.replicate n (-1)).set v 0) := by
  have hl : v < (List.replicate n (-1 : Int)).length := by rw [List.length_replicate]; exact hv
  refine ⟨by rw [List.length_set, List.length_replicate], fun x hx => ?_, fun x k hx hk hs => ?_, fun j hj => by omega⟩
  · by_cases e : x = v
    · subst e
      exact .inr ⟨0, by omega, by rw [gi_set_self hl]; rfl, Sh.self _ _⟩
    · exact .inl (by rw [gi_set_ne (fun h => e h.symm), gi_rep hx])
  · obtain rfl : k = 0 := by omega
    rw [hs.zero, gi_set_self hl]; rfl

theorem DsI.hit {n : Nat} {l : List Ed} {v r i : Nat} {d : List Int} (h : DsI n l v r i d) {x : Nat} (hx : x < n) (e : gi d x = (r : Int)) : Sh (AllR l) v r x := by
  rcases h.at_ x hx with h1 | ⟨k, _, h2, h3⟩
  · omega
  · obtain rfl : k = r := by omega
    exact h3

/-- One end at distance r, the other one not known. -/
theorem DsI.set {n : Nat} {l : List Ed} (hg : GOk n l) {v r i : Nat} {d : List Int} (h : DsI n l v r i d) (hi : i < l.length) {x y : Nat} (ha : Arm l i x y) (e1 : gi d x = (r : Int)) (e2 : gi d y = -1) : DsI n l v r (i + 1) (d.set y ((r : Int) + 1)) := by
  obtain ⟨hx, hy, hne⟩ := ha.ne hg hi
  have hyl : y < d.length := by rw [h.len]; exact hy
  have sx := h.hit hx e1
  have hr : AllR l x y ∨ AllR l y x := by
    rcases ha with ⟨h1, h2⟩ | ⟨h1, h2⟩
    · exact .inl ⟨i, hi, trivial, h1.symm, h2.symm⟩
    · exact .inr ⟨i, hi, trivial, h2.symm, h1.symm⟩
  obtain ⟨j, sj, hj, _⟩ := sx.edge hr
  have hj1 : j = r + 1 := by
    apply Classical.byContradiction
    intro hc
    have := h.low y j hy (by omega) sj
    omega
  subst hj1
  refine ⟨by rw [List.length_set]; exact h.len, fun z hz => ?_, fun z k hz hk hs => ?_, fun j hj a b hab hs => ?_⟩
  · by_cases e : z = y
    · subst e
      exact .inr ⟨r + 1, Nat.le_refl _, by rw [gi_set_self hyl]; rfl, sj⟩
    · rw [gi_set_ne (fun h => e h.symm)]
      exact h.at_ z hz
  · have : z ≠ y := fun e => by subst e; have := hs.unique sj; omega
    rw [gi_set_ne (fun h => this h.symm)]
    exact h.low z k hz hk hs
  · by_cases e : b = y
    · subst e
      rw [gi_set_self hyl]
      omega
    · rw [gi_set_ne (fun h => e h.symm)]
      by_cases hji : j < i
      · exact h.adj j hji a b hab hs
      · obtain rfl : j = i := by omega
        have hb : b = x ∧ a = y := by
          rcases ha with ⟨h1, h2⟩ | ⟨h1, h2⟩ <;> rcases hab with ⟨h3, h4⟩ | ⟨h3, h4⟩ <;> omega
        rw [hb.2] at hs
        have := hs.unique sj
        omega

theorem DsI.skip {n : Nat} {l : List Ed} (hg : GOk n l) {v r i : Nat} {d : List Int} (h : DsI n l v r i d) (hi : i < l.length) (c1 : gi d (uN l i) = (r : Int) → gi d (vN l i) ≠ -1) (c2 : gi d (vN l i) = (r : Int) → gi d (uN l i) ≠ -1) : DsI n l v r (i + 1) d := by
  obtain ⟨hu, hv, _⟩ := hg.uv hi
  refine ⟨h.len, h.at_, h.low, fun j hj a b hab hs => ?_⟩
  by_cases hji : j < i
  · exact h.adj j hji a b hab hs
  · obtain rfl : j = i := by omega
    rcases hab with ⟨h1, h2⟩ | ⟨h1, h2⟩
    · subst h1 h2
      exact c1 (h.low _ _ hu (Nat.le_refl _) hs)
    · subst h1 h2
      exact c2 (h.low _ _ hv (Nat.le_refl _) hs)

theorem DsI.next {n : Nat} {l : List Ed} (hg : GOk n l) {v r : Nat} {d : List Int} (h : DsI n l v r l.length d) : DsI n l v (r + 1) 0 d := by
  refine ⟨h.len, fun x hx => ?_, fun x k hx hk hs => ?_, fun j hj => by omega⟩
  · rcases h.at_ x hx with h1 | ⟨k, h1, h2, h3⟩
    · exact .inl h1
    · exact .inr ⟨k, by omega, h2, h3⟩
  · by_cases hk2 : k ≤ r
    · exact h.low x k hx hk2 hs
    · obtain rfl : k = r + 1 := by omega
      obtain ⟨y, hr, sy⟩ := hs.down
      obtain ⟨e, he1, _, he3⟩ := EdR.arm hr
      have := h.adj e he1 y x he3.symm sy
      rcases h.at_ x hx with h1 | ⟨k, h1, h2, h3⟩
      · exact absurd h1 this
      · rw [h2, h3.unique hs]

/-- A shortest walk is shorter than there are vertices. -/
theorem Sh.chain {n : Nat} {l : List Ed} (hg : GOk n l) {v : Nat} : ∀ k x, x < n → Sh (AllR l) v k x → ∃ q : List Nat, q.length = k + 1 ∧ q.Nodup ∧ ∀ y ∈ q, y < n ∧ ∃ j, j ≤ k ∧ Sh (AllR l) v j y
  | 0, x, hx, h => ⟨[x], rfl, by simp, fun y hy => by
      rw [List.mem_singleton] at hy
      subst hy
      exact ⟨hx, 0, Nat.le_refl _, h⟩⟩
  | k + 1, x, hx, h => by
    obtain ⟨y, hr, sy⟩ := h.down
    obtain ⟨e, he1, _, he3⟩ := EdR.arm hr
    obtain ⟨q, h1, h2, h3⟩ := Sh.chain hg k y (he3.ne hg he1).2.1 sy
    refine ⟨x :: q, by rw [List.length_cons, h1], List.nodup_cons.2 ⟨fun hm => ?_, h2⟩, fun z hz => ?_⟩
    · obtain ⟨_, j, hj, hs⟩ := h3 x hm
      have := hs.unique h
      omega
    · rcases List.mem_cons.1 hz with rfl | hz
      · exact ⟨hx, k + 1, Nat.le_refl _, h⟩
      · obtain ⟨a, j, b, c⟩ := h3 z hz
        exact ⟨a, j, by omega, c⟩

/-- What Dist returns. -/
structure DsF (n : Nat) (l : List Ed) (v : Nat) (d : List Int) : Prop where
  len : d.length = n
  no : ∀ x, x < n → gi d x = -1 → ¬ Con (AllR l) x v
  yes : ∀ x, x < n → gi d x ≠ -1 → ∃ k : Nat, k < n ∧ gi d x = k ∧ Sh (AllR l) v k x
  sh : ∀ x k, x < n → Sh (AllR l) v k x → gi d x = k

theorem DsI.fin {n : Nat} {l : List Ed} (hg : GOk n l) {v : Nat} {d : List Int} (h : DsI n l v n 0 d) : DsF n l v d := by
  have hk : ∀ x k, x < n → Sh (AllR l) v k x → k < n := fun x k hx hs => by
    obtain ⟨q, h1, h2, h3⟩ := Sh.chain hg k x hx hs
    have := nodup_bound n q h2 (fun y hy => (h3 y hy).1)
    omega
  have sh : ∀ x k, x < n → Sh (AllR l) v k x → gi d x = k := fun x k hx hs => h.low x k hx (Nat.le_of_lt (hk x k hx hs)) hs
  refine ⟨h.len, fun x hx e hc => ?_, fun x hx e => ?_, sh⟩
  · obtain ⟨k, hs⟩ := Sh.of_con hc
    have := sh x k hx hs
    omega
  · rcases h.at_ x hx with h1 | ⟨k, h1, h2, h3⟩
    · exact absurd h1 e
    · exact ⟨k, hk x k hx h3, h2, h3⟩

/- The arms of a vertex. -/
def arOne (l : List Ed) (x i : Nat) : List (Nat × Nat) := (if uN l i = x then [(i, vN l i)] else []) ++ (if vN l i = x then [(i, uN l i)] else [])
def arR (l : List Ed) (x : Nat) : Nat → List (Nat × Nat)
  | 0 => []
  | i + 1 => arR l x i ++ arOne l x i
theorem arOne_len (l : List Ed) (x i : Nat) : (arOne l x i).length ≤ 2 := by unfold arOne; split <;> split <;> simp
theorem arR_len (l : List Ed) (x : Nat) : ∀ i, (arR l x i).length ≤ 2 * i
  | 0 => Nat.le_refl _
  | i + 1 => by
    have h1 := arR_len l x i
    have h2 := arOne_len l x i
    unfold arR
    rw [List.length_append]
    omega
theorem arOne_mem {l : List Ed} {x i : Nat} {p : Nat × Nat} : p ∈ arOne l x i ↔ p.1 = i ∧ Arm l i x p.2 := by
  obtain ⟨a, b⟩ := p
  unfold arOne Arm
  simp only [List.mem_append]
  constructor
  · rintro (h | h)
    · split at h
      · rename_i e
        rw [List.mem_singleton] at h
        injection h with h1 h2
        exact ⟨h1, .inl ⟨e, h2.symm⟩⟩
      · cases h
    · split at h
      · rename_i e
        rw [List.mem_singleton] at h
        injection h with h1 h2
        exact ⟨h1, .inr ⟨e, h2.symm⟩⟩
      · cases h
  · rintro ⟨rfl, h | h⟩
    · exact .inl (by rw [if_pos h.1, ← h.2]; simp)
    · exact .inr (by rw [if_pos h.1, ← h.2]; simp)
theorem arR_mem {l : List Ed} {x : Nat} {p : Nat × Nat} : ∀ i, p ∈ arR l x i ↔ p.1 < i ∧ Arm l p.1 x p.2
  | 0 => by simp [arR]
  | i + 1 => by
    unfold arR
    rw [List.mem_append, arR_mem i, arOne_mem]
    constructor
    · rintro (⟨h1, h2⟩ | ⟨h1, h2⟩)
      · exact ⟨by omega, h2⟩
      · exact ⟨by omega, by rw [h1]; exact h2⟩
    · rintro ⟨h1, h2⟩
      by_cases e : p.1 < i
      · exact .inl ⟨e, h2⟩
      · have e : p.1 = i := by omega
        exact .inr ⟨e, by rw [← e]; exact h2⟩
theorem arR_nodup {n : Nat} {l : List Ed} (hg : GOk n l) (x : Nat) : ∀ i, i ≤ l.length → (arR l x i).Nodup
  | 0, _ => by simp [arR]
  | i + 1, hi => by
    unfold arR
    rw [List.nodup_append]
    refine ⟨arR_nodup hg x i (by omega), ?_, fun a ha b hb e => ?_⟩
    · have := (hg.uv (show i < l.length by omega)).2.2.1
      unfold arOne
      split <;> split <;> first | omega | simp
    · subst e
      have h1 := ((arR_mem i).1 ha).1
      have h2 := (arOne_mem.1 hb).1
      omega

theorem filter_single {α : Type} {p : α → Bool} {a : α} : ∀ {L : List α}, L.Nodup → a ∈ L → p a = true → (∀ b ∈ L, p b = true → b = a) → L.filter p = [a]
  | [], _, h, _, _ => by cases h
  | c :: L, hn, hm, hp, hu => by
    rw [List.nodup_cons] at hn
    by_cases e : c = a
    · subst e
      rw [List.filter_cons_of_pos hp]
      congr 1
      rw [List.filter_eq_nil_iff]
      intro b hb hpb
      have := hu b (List.mem_cons_of_mem _ hb) hpb
      subst this
      exact hn.1 hb
    · have hc : p c = false := by
        cases h : p c with
        | false => rfl
        | true => exact absurd (hu c (List.mem_cons_self ..) h) e
      rw [List.filter_cons_of_neg (by simp [hc])]
      refine filter_single hn.2 ?_ hp (fun b hb => hu b (List.mem_cons_of_mem _ hb))
      rcases List.mem_cons.1 hm with h | h
      · exact absurd h.symm e
      · exact h

/-- Towards v: those arms whose other end is nearer by one. -/
def nearB (d : List Int) (x : Nat) (p : Nat × Nat) : Bool := decide (gi d p.2 = gi d x - 1)

/-- From x in the forest one arm alone leads towards v. -/
theorem near_one {n : Nat} {l : List Ed} (hg : GOk n l) {v x k : Nat} {d : List Int} (hd : DsF n (pickE l (forL n l)) v d) (hx : x < n) (hs : Sh (AllR (pickE l (forL n l))) v (k + 1) x) :
    ∃ j y, (arR (pickE l (forL n l)) x (FN n l)).filter (nearB d x) = [(j, y)] ∧ j < FN n l ∧ y < n ∧ Sh (AllR (pickE l (forL n l))) v k y ∧ (∀ p, PathTo n l v y p → PathTo n l v x ((forL n l).getD j 0 :: p)) := by
  have hgp : GOk n (pickE l (forL n l)) := pick_ok hg (fun i hi => forL_mem hi) (Nat.le_trans (by
    have := nodup_bound l.length (forL n l) (for_nodup n l) (fun i hi => forL_mem hi)
    exact this) hg.hl)
  have hlen : (pickE l (forL n l)).length = FN n l := pickE_len _ _
  have hrel : AllR (pickE l (forL n l)) = EdR l (InF n l) := pick_rel (fun i hi => forL_mem hi)
  have hdx := hd.sh x _ hx hs
  have hxv : x ≠ v := fun e => by
    subst e
    have := hs.2 0 .here
    omega
  have step : ∀ j y, j < FN n l → Arm (pickE l (forL n l)) j x y → Sh (AllR (pickE l (forL n l))) v k y → InF n l ((forL n l).getD j 0) ∧ Arm l ((forL n l).getD j 0) x y ∧ Off n l x y v := fun j y hj ha hy => by
    refine ⟨getD_mem hj, (pickE_arm hj).1 ha, ?_⟩
    rw [hrel] at hy hs
    exact (hy.1.off (fun i hi => by have := hs.2 i hi; omega)).mono (fun a b ⟨i, a1, a2, a3⟩ => ⟨i, a1, a2, a3⟩)
  have isN : ∀ j y, j < FN n l → Arm (pickE l (forL n l)) j x y → (nearB d x (j, y) = true ↔ Sh (AllR (pickE l (forL n l))) v k y) := fun j y hj ha => by
    obtain ⟨_, hy, _⟩ := ha.ne hgp (by rw [hlen]; exact hj)
    unfold nearB
    rw [decide_eq_true_eq]
    show gi d y = gi d x - 1 ↔ _
    rw [hdx]
    constructor
    · intro e
      obtain ⟨i, _, h2, h3⟩ := hd.yes y hy (by omega)
      obtain rfl : i = k := by omega
      exact h3
    · intro h
      rw [hd.sh y _ hy h]; omega
  obtain ⟨y, hr, sy⟩ := hs.down
  obtain ⟨j, hj, _, ha⟩ := EdR.arm hr
  rw [hlen] at hj
  obtain ⟨_, hy, _⟩ := ha.ne hgp (by rw [hlen]; exact hj)
  obtain ⟨e1, e2, e3⟩ := step j y hj ha sy
  refine ⟨j, y, filter_single (arR_nodup hgp x _ (Nat.le_of_eq hlen.symm)) ((arR_mem _).2 ⟨hj, ha⟩) ((isN j y hj ha).2 sy) (fun b hb hp => ?_), hj, hy, sy, fun p hp => .step e1 e2 hxv e3 hp⟩
  obtain ⟨j', y'⟩ := b
  obtain ⟨hj', ha'⟩ := (arR_mem _).1 hb
  obtain ⟨f1, f2, f3⟩ := step j' y' hj' ha' ((isN j' y' hj' ha').1 hp)
  obtain ⟨g1, g2⟩ := arm_unique hg f1 f2 f3 e1 e2 e3
  rw [g2]
  congr 1
  exact getD_inj' (for_nodup n l) hj' hj g1

end Go.Proofs.YtenhbfbfkcjimaaDoor
