/- The heap's find, Key, Change, Remove. -/
import Derived.Test.YtebclbpibafkdaaHeapH
namespace Go.Proofs.Ytebclbpibafkdaa
set_option linter.unusedVariables false
set_option linter.unusedSimpArgs false
open Go.RowKit

/-- The entries but that of an index. -/
def del (i : Int) (S : List Ent) : List Ent := S.filter fun e => e.1 != i

def keyOf (i : Int) (S : List Ent) : Option Int := (S.find? fun e => e.1 == i).map (·.2)

theorem HObj.place {w : World} {b slots : Nat} {S : List Ent} {g : HG} (h : HObj w b slots S g) {i : Nat} (hi : i < slots) {k : Int} (hk : ((i : Int), k) ∈ S) :
    ∃ p, p < g.it.length ∧ g.pl i = p + 1 ∧ ent g.it p = ((i : Int), k) := by
  obtain ⟨p, hp, he⟩ := mem_ent (h.perm.mem_iff.1 hk)
  obtain ⟨j, a, _, c⟩ := h.good.pos p hp
  rw [he] at a
  have : j = i := by simp only at a; omega
  subst this
  exact ⟨p, hp, c, he⟩

set_option maxHeartbeats 1000000 in
theorem find_range (w : World) (b slots : Nat) (S : List Ent) (g : HG) (h : HObj w b slots S g) (i : Int) (hi : ¬ (0 ≤ i ∧ i < slots)) :
    Calls Try.prog 81 #[.pointer (some ⟨b, 0, none⟩), .int .i64 i] w (Ret (.tuple #[.int .i64 0, .int .i64 3]) w) := by
  have c0 := h.rep.hb.cell (i := 0) rfl
  have c1 := h.rep.hb.cell (i := 1) rfl
  rw [h.hb] at c0 c1
  rw [h.hs] at c1
  have hhas : hasB i (slots : Int) = false := by unfold hasB; exact decide_eq_false hi
  clear h hi
  go_enter Try.func81, Try.ntmps81
  go_wp2_with (first
    | (go_at_call 59; refine (valid_ok b w c0).mono ?_; rintro e w' ⟨rfl, rfl⟩)
    | (go_at_call 83; refine (has_any b i slots w c1).mono ?_; rintro e w' ⟨rfl, rfl⟩))
  go_ret2
  exact ⟨rfl, rfl⟩

set_option maxHeartbeats 1000000 in
theorem find_none (w : World) (b slots : Nat) (S : List Ent) (g : HG) (h : HObj w b slots S g) (i : Nat) (hi : i < slots) (hn : ∀ e ∈ S, e.1 ≠ (i : Int)) :
    Calls Try.prog 81 #[.pointer (some ⟨b, 0, none⟩), .int .i64 i] w (Ret (.tuple #[.int .i64 0, .int .i64 5]) w) := by
  have c0 := h.rep.hb.cell (i := 0) rfl
  have c1 := h.rep.hb.cell (i := 1) rfl
  rw [h.hb] at c0 c1
  rw [h.hs] at c1
  have hp0 := (h.pl_zero hi).2 hn
  have hpc : Hid (Calls Try.prog 84 #[.pointer (some ⟨b, 0, none⟩), .int .i64 i] w (Ret (.int .i64 (-1)) w)) := by
    have := place_at w g h.hb h.rep i (by rw [h.hs]; exact hi) (h.pl_le hi)
    rw [hp0] at this
    exact this
  have hhas : hasB (i : Int) (slots : Int) = true := by unfold hasB; simp; omega
  clear h hn hp0
  go_enter Try.func81, Try.ntmps81
  go_wp2_with (first
    | (go_at_call 59; refine (valid_ok b w c0).mono ?_; rintro e w' ⟨rfl, rfl⟩)
    | (go_at_call 83; refine (has_any b i slots w c1).mono ?_; rintro e w' ⟨rfl, rfl⟩)
    | (go_at_call 84; refine (hpc.out).mono ?_; rintro e w' ⟨rfl, rfl⟩))
  go_ret2
  exact ⟨rfl, rfl⟩

set_option maxHeartbeats 1000000 in
theorem find_some (w : World) (b slots : Nat) (S : List Ent) (g : HG) (h : HObj w b slots S g) (i p : Nat) (hi : i < slots) (hp : g.pl i = p + 1) :
    Calls Try.prog 81 #[.pointer (some ⟨b, 0, none⟩), .int .i64 i] w (Ret (.tuple #[.int .i64 p, .int .i64 0]) w) := by
  have c0 := h.rep.hb.cell (i := 0) rfl
  have c1 := h.rep.hb.cell (i := 1) rfl
  rw [h.hb] at c0 c1
  rw [h.hs] at c1
  have hpc : Hid (Calls Try.prog 84 #[.pointer (some ⟨b, 0, none⟩), .int .i64 i] w (Ret (.int .i64 p) w)) := by
    have := place_at w g h.hb h.rep i (by rw [h.hs]; exact hi) (h.pl_le hi)
    rw [hp, show (((p + 1 : Nat) : Int) - 1) = (p : Int) by omega] at this
    exact this
  have hhas : hasB (i : Int) (slots : Int) = true := by unfold hasB; simp; omega
  have hne : ((p : Int) == -1) = false := beq_eq_false_iff_ne.2 (by omega)
  clear h hp
  go_enter Try.func81, Try.ntmps81
  go_wp2_with (first
    | (go_at_call 59; refine (valid_ok b w c0).mono ?_; rintro e w' ⟨rfl, rfl⟩)
    | (go_at_call 83; refine (has_any b i slots w c1).mono ?_; rintro e w' ⟨rfl, rfl⟩)
    | (go_at_call 84; refine (hpc.out).mono ?_; rintro e w' ⟨rfl, rfl⟩))
  go_ret2
  exact ⟨rfl, rfl⟩

set_option maxHeartbeats 1000000 in
theorem key_range (w : World) (b slots : Nat) (S : List Ent) (g : HG) (h : HObj w b slots S g) (i : Int) (hi : ¬ (0 ≤ i ∧ i < slots)) :
    Calls Try.prog 50 #[.pointer (some ⟨b, 0, none⟩), .int .i64 i] w (Ret (.tuple #[.int .i64 0, .bool false]) w) := by
  have hf := Lib.hid (find_range w b slots S g h i hi)
  clear h hi
  go_enter Try.func50, Try.ntmps50
  go_wp2_with (go_at_call 81; refine (hf.out).mono ?_; rintro e w' ⟨rfl, rfl⟩)
  go_ret2
  exact ⟨rfl, rfl⟩

set_option maxHeartbeats 1000000 in
theorem key_none (w : World) (b slots : Nat) (S : List Ent) (g : HG) (h : HObj w b slots S g) (i : Nat) (hi : i < slots) (hn : ∀ e ∈ S, e.1 ≠ (i : Int)) :
    Calls Try.prog 50 #[.pointer (some ⟨b, 0, none⟩), .int .i64 i] w (Ret (.tuple #[.int .i64 0, .bool false]) w) := by
  have hf := Lib.hid (find_none w b slots S g h i hi hn)
  clear h hi hn
  go_enter Try.func50, Try.ntmps50
  go_wp2_with (go_at_call 81; refine (hf.out).mono ?_; rintro e w' ⟨rfl, rfl⟩)
  go_ret2
  exact ⟨rfl, rfl⟩

set_option maxHeartbeats 1000000 in
theorem key_some (w : World) (b slots : Nat) (S : List Ent) (g : HG) (h : HObj w b slots S g) (i : Nat) (hi : i < slots) (k : Int) (hk : ((i : Int), k) ∈ S) :
    Calls Try.prog 50 #[.pointer (some ⟨b, 0, none⟩), .int .i64 i] w (Ret (.tuple #[.int .i64 k, .bool true]) w) := by
  obtain ⟨p, hp, hpl, he⟩ := h.place hi hk
  have hf := Lib.hid (find_some w b slots S g h i p hi hpl)
  obtain ⟨ib, cap, hv, hc1, hc2, hlt, h0, hcell⟩ := h.rep.at hp
  have k1 := (hcell p hp).2
  rw [he] at k1
  rw [h.hb] at h0
  have hlen : g.it.length ≤ 65536 := Nat.le_trans h.good.len h.rep.hs
  clear h hk hpl he hv hcell
  generalize g.it.length = n at *
  go_enter Try.func50, Try.ntmps50
  go_wp2_with (go_at_call 81; refine (hf.out).mono ?_; rintro e w' ⟨rfl, rfl⟩)
  go_ret2
  exact ⟨rfl, rfl⟩

set_option maxHeartbeats 1000000 in
theorem remove_range (w : World) (b slots : Nat) (S : List Ent) (g : HG) (h : HObj w b slots S g) (i : Int) (hi : ¬ (0 ≤ i ∧ i < slots)) :
    Calls Try.prog 47 #[.pointer (some ⟨b, 0, none⟩), .int .i64 i] w (Ret (.int .i64 3) w) := by
  have hf := Lib.hid (find_range w b slots S g h i hi)
  clear h hi
  go_enter Try.func47, Try.ntmps47
  go_wp2_with (go_at_call 81; refine (hf.out).mono ?_; rintro e w' ⟨rfl, rfl⟩)
  go_ret
  exact ⟨rfl, rfl⟩

set_option maxHeartbeats 1000000 in
theorem remove_none (w : World) (b slots : Nat) (S : List Ent) (g : HG) (h : HObj w b slots S g) (i : Nat) (hi : i < slots) (hn : ∀ e ∈ S, e.1 ≠ (i : Int)) :
    Calls Try.prog 47 #[.pointer (some ⟨b, 0, none⟩), .int .i64 i] w (Ret (.int .i64 5) w) := by
  have hf := Lib.hid (find_none w b slots S g h i hi hn)
  clear h hi hn
  go_enter Try.func47, Try.ntmps47
  go_wp2_with (go_at_call 81; refine (hf.out).mono ?_; rintro e w' ⟨rfl, rfl⟩)
  go_ret
  exact ⟨rfl, rfl⟩

set_option maxHeartbeats 1000000 in
theorem change_range (w : World) (b slots : Nat) (S : List Ent) (g : HG) (h : HObj w b slots S g) (i k : Int) (hi : ¬ (0 ≤ i ∧ i < slots)) :
    Calls Try.prog 48 #[.pointer (some ⟨b, 0, none⟩), .int .i64 i, .int .i64 k] w (Ret (.int .i64 3) w) := by
  have hf := Lib.hid (find_range w b slots S g h i hi)
  clear h hi
  go_enter Try.func48, Try.ntmps48
  go_wp2_with (go_at_call 81; refine (hf.out).mono ?_; rintro e w' ⟨rfl, rfl⟩)
  go_ret
  exact ⟨rfl, rfl⟩

set_option maxHeartbeats 1000000 in
theorem change_none (w : World) (b slots : Nat) (S : List Ent) (g : HG) (h : HObj w b slots S g) (i : Nat) (k : Int) (hi : i < slots) (hn : ∀ e ∈ S, e.1 ≠ (i : Int)) :
    Calls Try.prog 48 #[.pointer (some ⟨b, 0, none⟩), .int .i64 i, .int .i64 k] w (Ret (.int .i64 5) w) := by
  have hf := Lib.hid (find_none w b slots S g h i hi hn)
  clear h hi hn
  go_enter Try.func48, Try.ntmps48
  go_wp2_with (go_at_call 81; refine (hf.out).mono ?_; rintro e w' ⟨rfl, rfl⟩)
  go_ret
  exact ⟨rfl, rfl⟩

theorem HObj.uniq {w : World} {b slots : Nat} {S : List Ent} {g : HG} (h : HObj w b slots S g) {x y : Ent} (hx : x ∈ S) (hy : y ∈ S) (e : x.1 = y.1) : x = y := by
  obtain ⟨p, hp, rfl⟩ := mem_ent (h.perm.mem_iff.1 hx)
  obtain ⟨q, hq, rfl⟩ := mem_ent (h.perm.mem_iff.1 hy)
  rw [h.good.inj hp hq e]

theorem del_perm {S T : List Ent} {x : Ent} (hu : ∀ y ∈ S, y.1 = x.1 → y = x) (hn : S.Nodup) (hp : (x :: T).Perm S) : (del x.1 S).Perm T := by
  have h1 : (del x.1 (x :: T)).Perm (del x.1 S) := hp.filter _
  have h2 : del x.1 (x :: T) = T := by
    unfold del
    rw [List.filter_cons, if_neg (by simp), List.filter_eq_self]
    intro y hy
    have hy' : y ∈ S := hp.mem_iff.1 (List.mem_cons_of_mem _ hy)
    have hne : y ≠ x := fun e => by
      subst e
      exact (List.nodup_cons.1 (hp.nodup_iff.2 hn)).1 hy
    have : y.1 ≠ x.1 := fun e => hne (hu y hy' e)
    simpa using this
  rw [h2] at h1
  exact h1.symm

theorem HObj.nodup {w : World} {b slots : Nat} {S : List Ent} {g : HG} (h : HObj w b slots S g) : S.Nodup := by
  rw [List.nodup_iff_pairwise_ne]
  exact h.sorted.imp fun hl e => by subst e; exact elt_irrefl _ hl

set_option maxHeartbeats 1000000 in
theorem remove_some (w : World) (b slots : Nat) (S : List Ent) (g : HG) (h : HObj w b slots S g) (i : Nat) (hi : i < slots) (k : Int) (hk : ((i : Int), k) ∈ S) :
    Calls Try.prog 47 #[.pointer (some ⟨b, 0, none⟩), .int .i64 i] w (HDone (.int .i64 0) w b slots (del (i : Int) S) g) := by
  obtain ⟨p, hp, hpl, he⟩ := h.place hi hk
  have hf := Lib.hid (find_some w b slots S g h i p hi hpl)
  have H := Lib.hid h
  have HE := Lib.hid he
  have HP := Lib.hid hp
  have HK := Lib.hid hk
  clear h hk hpl he hp
  go_enter Try.func47, Try.ntmps47
  go_wp2_with (go_at_call 81; refine (hf.out).mono ?_; rintro e w' ⟨rfl, rfl⟩)
  with_reducible refine (drop_at w g H.out.hb H.out.rep H.out.good H.out.heapy p HP.out).mono ?_
  rintro e w1 ⟨rfl, g1, st1, e1, e1h, e1p⟩
  have FIN : Hid (HDone (.int .i64 0) w b slots (del (i : Int) S) g (.returned (.int .i64 0)) w1) := by
    refine ⟨rfl, g1, ⟨st1.rep, e1, e1h, st1.b.trans H.out.hb, st1.slots.trans H.out.hs, ?_, sorted_filter H.out.sorted _⟩, st1.mod, st1.foot⟩
    rw [HE.out] at e1p
    exact del_perm (x := ((i : Int), k)) (fun y hy e => H.out.uniq hy HK.out e) H.out.nodup (e1p.trans H.out.perm.symm)
  clear st1 e1 e1h e1p
  go_wp2_with fail
  go_ret
  exact FIN.out

theorem ent_set {it : List Ent} {p : Nat} (hp : p < it.length) (x : Ent) (k : Nat) : ent (it.set p x) k = if k = p then x else ent it k := by
  unfold ent
  simp only [List.getD_eq_getElem?_getD, List.getElem?_set]
  by_cases e : p = k
  · subst e; simp [hp]
  · have : k ≠ p := fun h => e h.symm
    simp [e, this]

theorem Good.changed {g : HG} (h : Good g) {p : Nat} (hp : p < g.it.length) {x : Ent} (hx : x.1 = (ent g.it p).1) : Good { g with it := g.it.set p x } := by
  have he : ∀ k, (ent (g.it.set p x) k).1 = (ent g.it k).1 := fun k => by
    rw [ent_set hp]
    split
    · rename_i e; subst e; exact hx
    · rfl
  refine ⟨fun q hq => ?_, fun i hi h0 => ?_⟩
  · have hq' : q < g.it.length := by simpa using hq
    obtain ⟨i, a, b, c⟩ := h.pos q hq'
    exact ⟨i, (he q).trans a, b, c⟩
  · obtain ⟨q, a, b, c⟩ := h.back i hi h0
    exact ⟨q, by simpa using a, b, (he q).trans c⟩

set_option maxRecDepth 100000 in
set_option maxHeartbeats 1000000 in
theorem change_some (w : World) (b slots : Nat) (S : List Ent) (g : HG) (h : HObj w b slots S g) (i : Nat) (hi : i < slots) (k key : Int) (hk : ((i : Int), k) ∈ S) :
    Calls Try.prog 48 #[.pointer (some ⟨b, 0, none⟩), .int .i64 i, .int .i64 key] w (HDone (.int .i64 0) w b slots (ins ((i : Int), key) (del (i : Int) S)) g) := by
  obtain ⟨p, hp, hpl, he⟩ := h.place hi hk
  have hf := Lib.hid (find_some w b slots S g h i p hi hpl)
  obtain ⟨ib, cap, hv, hc1, hc2, hlt, h0, hcell⟩ := h.rep.at hp
  have k1 := (hcell p hp).2
  have hob : g.iv.ownBlock = some ib := by rw [hv]; rfl
  have f1 : w.frozen? ⟨ib, p * 2 + 1, none⟩ = false := by
    obtain ⟨ib', cap', hv', _, _, _, _, hfr⟩ := owns_form h.rep.hi (by omega)
    rw [hv] at hv'
    simp only [Value.slice.injEq, Option.some.injEq, Addr.mk.injEq, and_true, true_and] at hv'
    obtain ⟨rfl, rfl⟩ := hv'
    exact hfr _
  rw [he] at k1
  rw [h.hb] at h0
  have hlen : g.it.length ≤ 65536 := Nat.le_trans h.good.len h.rep.hs
  have hr1 : HRep (w.setCell ⟨ib, p * 2 + 1, none⟩ (.int .i64 key)) { g with it := g.it.set p ((i : Int), key) } := by
    refine h.rep.items ?_ ?_
    · have ho := h.rep.hi
      rw [hv] at ho
      have := owns_set ho (p * 2 + 1) (by omega) (.int .i64 key)
      rw [ents_set1 _ p hp, he] at this
      rw [List.length_set, hv]
      exact this
    · intro x _ hne
      exact Below.heap_setCell _ _ _ _ (fun e => hne (by rw [hob, e]))
  have hg1 : Good { g with it := g.it.set p ((i : Int), key) } := h.good.changed hp (by rw [he])
  have hst : HStep g w { g with it := g.it.set p ((i : Int), key) } (w.setCell ⟨ib, p * 2 + 1, none⟩ (.int .i64 key)) :=
    ⟨hr1, (Mod.refl _ _).setCell _ (fun _ => .inr (.inl hob)) _, rfl, rfl, fun x hx => .inl hx⟩
  have hU : UpInv (g.it.set p ((i : Int), key)) p := by
    refine upInv_set h.heapy (by simp) (by simpa using hp) fun x hx hxp => ?_
    rw [ent_set hp, if_neg hxp]
  have hperm : (g.it.set p ((i : Int), key)).Perm (ins ((i : Int), key) (del (i : Int) S)) := by
    refine (set_perm g.it p hp _).trans (List.Perm.trans (List.Perm.cons _ ?_) (ins_perm _ _).symm)
    refine (del_perm (x := ((i : Int), k)) (fun y hy e => h.uniq hy hk e) h.nodup ?_).symm
    have := eraseIdx_perm g.it p hp
    rw [← ent_eq hp, he] at this
    exact (h.perm.trans this).symm
  have hsort : Sorted (ins ((i : Int), key) (del (i : Int) S)) := by
    refine ins_sorted (sorted_filter h.sorted _) fun hm => ?_
    have := (List.mem_filter.1 hm).2
    simp at this
  have HSO := Lib.hid hsort
  have HPE := Lib.hid hperm
  have HU := Lib.hid hU
  have HST := Lib.hid hst
  have HG1 := Lib.hid hg1
  have H := Lib.hid h
  have hpl' : p < (g.it.set p ((i : Int), key)).length := by simpa using hp
  have HPL := Lib.hid hpl'
  clear hpl' hsort hperm hU hst hg1 hr1 hpl he hv hob hcell hk h
  generalize g.it.length = n at *
  go_enter Try.func48, Try.ntmps48
  go_wp2_with (go_at_call 81; refine (hf.out).mono ?_; rintro e w' ⟨rfl, rfl⟩)
  generalize hW : World.setCell w _ _ = W at HST ⊢
  clear hW
  with_reducible refine (settle_at W _ (HST.out.b.trans H.out.hb) HST.out.rep HG1.out p HPL.out HU.out).mono ?_
  rintro e w4 ⟨rfl, g4, st4, e4, e4p, e4h⟩
  have FIN : Hid (HDone (.int .i64 0) w b slots (ins ((i : Int), key) (del (i : Int) S)) g (.returned (.int .i64 0)) w4) := by
    have st := HST.out.trans st4
    exact ⟨rfl, g4, ⟨st.rep, e4, e4h, st.b.trans H.out.hb, st.slots.trans H.out.hs, (e4p.trans HPE.out).symm, HSO.out⟩, st.mod, st.foot⟩
  clear st4 e4 e4p e4h
  go_wp2_with fail
  go_ret
  exact FIN.out

end Go.Proofs.Ytebclbpibafkdaa
