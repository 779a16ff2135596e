/- The heap's drop, Min, Pop, Len. -/
import Derived.Test.YtebclbpibafkdaaHeapE
namespace Go.Proofs.Ytebclbpibafkdaa
set_option linter.unusedVariables false
set_option linter.unusedSimpArgs false
open Go.RowKit

theorem owns_take {w : World} {base : Nat} {e : TypeId} {size g n cap : Nat} {xs : List Value} (h : w.ownsRow base e size (.slice (some ⟨g, 0, none⟩) n cap) n xs) (m : Nat) (hm : m ≤ n) :
    w.ownsRow base e size (.slice (some ⟨g, 0, none⟩) m cap) m (xs.take (m * size)) := by
  have hle : m * size ≤ n * size := Nat.mul_le_mul_right _ hm
  refine ⟨by rw [List.length_take, h.1]; omega, ?_⟩
  rcases h.2 with ⟨h', _⟩ | ⟨g', cap', cur, h', hb, hg, h1, h2, hs, htake⟩
  · simp at h'
  · simp only [Value.slice.injEq, Option.some.injEq, Addr.mk.injEq, and_true, true_and] at h'
    obtain ⟨rfl, rfl⟩ := h'
    refine .inr ⟨g, cap, cur, rfl, hb, hg, by omega, h2, hs, ?_⟩
    rw [← htake, List.take_take, Nat.min_eq_left hle]

/-- The last entry goes. -/
theorem HRep.shorter {w : World} {g : HG} (hr : HRep w g) {b ib cap m : Nat} (hbb : g.b = b) (hv : g.iv = .slice (some ⟨ib, 0, none⟩) g.it.length cap) (hm : m ≤ g.it.length) :
    HStep g w { g with iv := .slice (some ⟨ib, 0, none⟩) m cap, it := g.it.take m } (w.setCell ⟨b, 2, none⟩ (.slice (some ⟨ib, 0, none⟩) m cap)) := by
  subst hbb
  have hob : g.iv.ownBlock = some ib := by rw [hv]; rfl
  have hlt := hr.foot_lt
  have d2 := hr.d2
  have d3 := hr.d3
  rw [hob] at d2 d3
  refine ⟨⟨hr.hb.set 2 _, ?_, hr.hp.other _ _ hr.d1.symm, ?_, hr.hn, hr.hs, hr.d1, d2, d3, ?_, hr.d5⟩, (Mod.refl _ _).setCell _ (fun _ => .inl rfl) _, rfl, rfl, ?_⟩
  · have ho := hr.hi
    rw [hv] at ho
    have h2 := owns_take ho m hm
    rw [ents_take] at h2
    have hl : (g.it.take m).length = m := by rw [List.length_take]; omega
    show World.ownsRow _ _ _ _ _ (g.it.take m).length _
    rw [hl]
    exact owns_same h2 fun k e => Below.heap_setCell _ _ _ _ (fun ee => d2 (by have e2 : k = g.b := ee; rw [← e2]; exact e))
  · intro j q hj hq
    exact (hr.ht j q hj hq).other _ _ (hr.d4 j q hj hq).1
  · intro j q hj hq
    have := hr.d4 j q hj hq
    rw [hob] at this
    exact this
  · rintro k (h | h | h | h)
    · exact .inl (.inl h)
    · exact .inl (.inr (.inl (by rw [hob]; exact h)))
    · exact .inl (.inr (.inr (.inl h)))
    · exact .inl (.inr (.inr (.inr h)))

theorem Good.popped {g g' : HG} (h : Good g) {m i : Nat} (hm : g.it.length = m + 1) (hi : (ent g.it m).1 = (i : Int)) (hs : g'.slots = g.slots) (hit : g'.it = g.it.take m) (hl : g'.pl = upd g.pl i 0) : Good g' := by
  have hpl : ∀ k, g'.pl k = if k = i then 0 else g.pl k := by intro k; rw [hl]; rfl
  have hlen : g'.it.length = m := by rw [hit, List.length_take]; omega
  have hent : ∀ p, p < m → ent g'.it p = ent g.it p := fun p hp => by rw [hit]; simp [ent, List.getElem?_take, hp]
  refine ⟨fun p hp => ?_, fun k hk hk0 => ?_⟩
  · rw [hlen] at hp
    obtain ⟨j, a, b, c⟩ := h.pos p (by omega)
    have : j ≠ i := fun e => by
      have := h.inj (p := p) (q := m) (by omega) (by omega) (by omega)
      omega
    exact ⟨j, by rw [hent p hp]; exact a, by rw [hs]; exact b, by rw [hpl, if_neg this]; exact c⟩
  · rw [hpl] at hk0 ⊢
    by_cases e : k = i
    · rw [if_pos e] at hk0; exact absurd rfl hk0
    · rw [if_neg e] at hk0 ⊢
      obtain ⟨p, hp, a, b⟩ := h.back k (by rw [← hs]; exact hk) hk0
      have : p ≠ m := fun ee => by subst ee; omega
      exact ⟨p, by omega, a, by rw [hent p (by omega)]; exact b⟩

set_option maxRecDepth 100000 in
set_option maxHeartbeats 2000000 in
theorem drop_at {b : Nat} (w : World) (g : HG) (hb : g.b = b) (hr : HRep w g) (hg : Good g) (hh : Heapy g.it) (p : Nat) (hp : p < g.it.length) :
    Calls Try.prog 58 #[.pointer (some ⟨b, 0, none⟩), .int .i64 p] w
      (HDoes (.tuple #[]) g w (fun g' => Good g' ∧ Heapy g'.it ∧ (ent g.it p :: g'.it).Perm g.it)) := by
  subst hb
  obtain ⟨m, hm⟩ : ∃ m, g.it.length = m + 1 := ⟨g.it.length - 1, by omega⟩
  have hlen := hg.len
  have hs := hr.hs
  obtain ⟨ib, cap, hv, hc1, hc2, hlt, h0, hcell⟩ := hr.at hp
  obtain ⟨i, hi, hil, _⟩ := hg.pos p hp
  rw [hm] at h0 hp hlen hc1
  have HR := Lib.hid hr
  have HGd := Lib.hid hg
  have HH := Lib.hid hh
  have HV := Lib.hid hv
  have HM := Lib.hid hm
  have HI := Lib.hid hi
  clear hcell hr hg hh hv hm hi
  go_enter Try.func58, Try.ntmps58
  go_wp2_with fail
  refine (swap_at w g rfl HR.out HGd.out.inRange (by rw [HM.out]; omega) p m (by rw [HM.out]; omega) (by rw [HM.out]; omega)).mono ?_
  rintro e w1 ⟨rfl, g1, st1, e1, e1'⟩
  have hpl : p < g.it.length := by rw [HM.out]; omega
  have hml : m < g.it.length := by rw [HM.out]; omega
  have hg1 : Good g1 := HGd.out.swap hpl hml st1.slots e1 e1'
  have hl1 : g1.it.length = m + 1 := by rw [e1, swapL_length]; exact HM.out
  have hent1 : (ent g1.it m) = ent g.it p := by rw [e1, ent_swapL hpl hml, if_pos rfl]
  obtain ⟨ib1, cap1, hv1, hd1, hd2, hlt1, h01, hcell1⟩ := st1.rep.at (p := m) (by omega)
  rw [st1.b, hl1] at h01
  have k1 := (hcell1 m (by omega)).1
  rw [hent1, HI.out] at k1
  have hil1 : i < g1.slots := by rw [st1.slots]; exact hil
  have ST1 := Lib.hid st1
  have HG1 := Lib.hid hg1
  have HL1 := Lib.hid hl1
  have HE1 : Hid (ent g1.it m = ent g.it p) := hent1
  have HV1 := Lib.hid hv1
  have E1 := Lib.hid e1
  have hd1' : m + 1 ≤ cap1 := by omega
  clear st1 hg1 hl1 hent1 hv1 hcell1 e1 e1' h0 hd1
  go_wp2_with fail
  refine (put_at w1 g1 ST1.out.b ST1.out.rep i hil1 0 (by omega) (-1) (by omega)).mono ?_
  rintro e w2 ⟨rfl, g2, st2, e2, e2v, e2'⟩
  have h02 := st2.rep.hb.cell (i := 2) rfl
  have f02 := st2.rep.hb.free 2
  rw [e2v, HV1.out, HL1.out, st2.b, ST1.out.b] at h02
  rw [st2.b, ST1.out.b] at f02
  have STT := Lib.hid (ST1.out.trans st2)
  have hv2 : g2.iv = .slice (some ⟨ib1, 0, none⟩) g2.it.length cap1 := by rw [e2v, HV1.out, e2]
  have st3 := st2.rep.shorter (m := m) (st2.b.trans ST1.out.b) hv2 (by rw [e2, HL1.out]; omega)
  have ST3 := Lib.hid (STT.out.trans st3)
  have hg3 : Good { g2 with iv := .slice (some ⟨ib1, 0, none⟩) m cap1, it := g2.it.take m } :=
    HG1.out.popped (m := m) (i := i) HL1.out (by rw [HE1.out]; exact HI.out) st2.slots (by show List.take m g2.it = _; rw [e2]) e2'
  have hperm3 : (ent g.it p :: g2.it.take m).Perm g.it := by
    have a1 : g1.it.Perm g.it := by rw [E1.out]; exact swapL_perm hpl hml
    have a2 := take_snoc_ent HL1.out
    rw [HE1.out] at a2
    rw [e2]
    refine List.Perm.trans (List.Perm.trans (List.perm_append_comm (l₁ := [ent g.it p]) (l₂ := g1.it.take m)) ?_) a1
    rw [← a2]
  have hlen3 : (g2.it.take m).length = m := by rw [List.length_take, e2, HL1.out]; omega
  have hk3 : ∀ k, k < (g2.it.take m).length → k ≠ p → ent (g2.it.take m) k = ent g.it k := by
    intro k hk hkp
    rw [hlen3] at hk
    have : ent (g2.it.take m) k = ent g1.it k := by rw [e2]; simp [ent, List.getElem?_take, hk]
    rw [this, E1.out, ent_swapL hpl hml, if_neg (by omega), if_neg hkp]
  have HG3 := Lib.hid hg3
  have HP3 := Lib.hid hperm3
  have HL3 := Lib.hid hlen3
  have HK3 := Lib.hid hk3
  clear st2 e2 e2v e2' hv2 st3 hg3 hperm3 hlen3 hk3 h01 k1
  by_cases hpm : p < m
  · have hU : Hid (UpInv (g2.it.take m) p) := upInv_set HH.out (by rw [HL3.out]; omega) (by rw [HL3.out]; exact hpm) HK3.out
    go_wp2_with fail
    generalize hW : World.setCell w2 _ _ = W at ST3 ⊢
    refine (settle_at W _ ST3.out.b ST3.out.rep HG3.out p (by show p < (g2.it.take m).length; rw [HL3.out]; exact hpm) hU.out).mono ?_
    rintro e w4 ⟨rfl, g4, st4, e4, e4p, e4h⟩
    have FIN : Hid (HDoes (.tuple #[]) g w (fun g' => Good g' ∧ Heapy g'.it ∧ (ent g.it p :: g'.it).Perm g.it) (.returned (.tuple #[])) w4) :=
      ⟨rfl, g4, ST3.out.trans st4, e4, e4h, (e4p.cons _).trans HP3.out⟩
    clear st4 e4 e4p e4h hW f02 h02
    go_wp2_with fail
    go_end0
    exact FIN.out
  · have hh3 : Hid (Heapy (g2.it.take m)) := by
      intro q q0 ql
      rw [HL3.out] at ql
      rw [HK3.out q (by rw [HL3.out]; exact ql) (by omega), HK3.out (par q) (by rw [HL3.out]; unfold par; omega) (by unfold par; omega)]
      exact HH.out q q0 (by omega)
    go_wp2_with fail
    go_end0
    exact ⟨rfl, _, ST3.out, HG3.out, hh3.out, HP3.out⟩

end Go.Proofs.Ytebclbpibafkdaa
