/- Several texts in one: InC, InD, InE. -/
import Derived.Test.YtlooaipipmiijaaGreatZX11
import Derived.Deep.DeepCutAuto
import Derived.Deep.CutBlock
namespace Go.Proofs.YtlooaipipmiijaaGreat
set_option linter.unusedVariables false
set_option linter.unusedSimpArgs false
open Go.RowKit Go.Shelf
attribute [local go_sem] Oper.semAt_some
structure FdI (w : World) (b id : Nat) (r : Loop) (v1 : Int) (v2 : Bool) (W : World) : Prop where
  xt : Blk W w.heap.size 120 [.pointer (some ⟨b, 0, none⟩)]
  xi : Blk W (w.heap.size + 1) 25 [.int .u64 id]
  r1 : Blk W (w.heap.size + 1 + 1) 3 [.int .i64 v1]
  r2 : Blk W (w.heap.size + 1 + 1 + 1) 4 [.bool v2]
  pt : Blk W (w.heap.size + 1 + 1 + 1 + 1) 120 [.pointer (some ⟨b, 0, none⟩)]
  pi : Blk W (w.heap.size + 1 + 1 + 1 + 1 + 1) 25 [.int .u64 id]
  df : W.heap[w.heap.size + 1 + 1 + 1 + 1 + 1 + 1]? = some (.deferred (some []))
  lp : W.heap[w.heap.size + 1 + 1 + 1 + 1 + 1 + 1 + 1]? = some (.loop r)
  bel : Below w.heap.size w W
theorem FdI.turn {w : World} {b id : Nat} {r : Loop} {v1 : Int} {v2 : Bool} {W : World} (h : FdI w b id r v1 v2 W) (r' : Loop) : FdI w b id r' v1 v2 (W.putObj (w.heap.size + 1 + 1 + 1 + 1 + 1 + 1 + 1) (.loop r')) := by
  have hm : Mod (fun k => k = w.heap.size + 1 + 1 + 1 + 1 + 1 + 1 + 1) W (W.putObj (w.heap.size + 1 + 1 + 1 + 1 + 1 + 1 + 1) (.loop r')) := (Mod.refl _ _).putObj _ _ (fun _ => rfl)
  have hl := (Array.getElem?_eq_some_iff.1 h.lp).1
  refine ⟨h.xt.mod hm (by omega), h.xi.mod hm (by omega), h.r1.mod hm (by omega), h.r2.mod hm (by omega), h.pt.mod hm (by omega), h.pi.mod hm (by omega), ?_, ?_, bel_mod h.bel hm (fun x e => by omega)⟩
  · rw [hm.block _ (by omega) (by omega)]; exact h.df
  · simp [World.putObj, hl]
theorem FdI.drewN {w : World} {b id : Nat} {r : Loop} {v1 : Int} {v2 : Bool} {W : World} (h : FdI w b id r v1 v2 W) {W2 : World} (hd : DrewOf W W2) : FdI w b id r v1 v2 W2 := by
  unfold DrewOf at hd; subst hd
  exact ⟨h.xt, h.xi, h.r1, h.r2, h.pt, h.pi, h.df, h.lp, h.bel.drew⟩
theorem FdI.set {w : World} {b id : Nat} {r : Loop} {v1 : Int} {v2 : Bool} {W : World} (h : FdI w b id r v1 v2 W) (u1 : Int) (u2 : Bool) : FdI w b id r u1 u2 ((W.setCell ⟨w.heap.size + 1 + 1, 0, none⟩ (.int .i64 u1)).setCell ⟨w.heap.size + 1 + 1 + 1, 0, none⟩ (.bool u2)) := by
  have hm : Mod (fun k => k = w.heap.size + 1 + 1 ∨ k = w.heap.size + 1 + 1 + 1) W ((W.setCell ⟨w.heap.size + 1 + 1, 0, none⟩ (.int .i64 u1)).setCell ⟨w.heap.size + 1 + 1 + 1, 0, none⟩ (.bool u2)) :=
    ((Mod.refl (fun k => k = w.heap.size + 1 + 1 ∨ k = w.heap.size + 1 + 1 + 1) W).setCell ⟨w.heap.size + 1 + 1, 0, none⟩ (fun _ => .inl rfl) _).setCell ⟨w.heap.size + 1 + 1 + 1, 0, none⟩ (fun _ => .inr rfl) _
  have hl := (Array.getElem?_eq_some_iff.1 h.lp).1
  refine ⟨h.xt.mod hm (by omega), h.xi.mod hm (by omega), (h.r1.set 0 _).other _ _ (by show w.heap.size + 1 + 1 ≠ w.heap.size + 1 + 1 + 1; omega), (h.r2.other ⟨w.heap.size + 1 + 1, 0, none⟩ _ (by show w.heap.size + 1 + 1 + 1 ≠ w.heap.size + 1 + 1; omega)).set 0 _, h.pt.mod hm (by omega), h.pi.mod hm (by omega), ?_, ?_, bel_mod h.bel hm (fun x e => by omega)⟩
  · rw [hm.block _ (by omega) (by omega)]; exact h.df
  · rw [hm.block _ (by omega) (by omega)]; exact h.lp
def FdN (G : IG) (D : Nat → Nat) (id k : Nat) : Prop := ∀ e, e < G.n → dst G.n (hF G.n id) e < k → G.C e ≠ 0 ∧ D (G.C e - 1) ≠ id
theorem FdN.step {G : IG} {D : Nat → Nat} {id k : Nat} (h : FdN G D id k) (hh : hF G.n id < G.n) (hk : k < G.n) (h0 : G.C (itC G.n (hF G.n id) k) ≠ 0) (h1 : D (G.C (itC G.n (hF G.n id) k) - 1) ≠ id) : FdN G D id (k + 1) := fun e he hd => by
  by_cases c : dst G.n (hF G.n id) e < k
  · exact h e he c
  · have hkd := itC_dst hh k hk
    have e1 := dst_inj hh he (itC_lt hh k) (by omega)
    rw [e1]; exact ⟨h0, h1⟩
def FdE (G : IG) (D : Nat → Nat) (id c : Nat) (f : Bool) : Prop :=
  c < G.n ∧ FdN G D id (dst G.n (hF G.n id) c) ∧ ((f = true ∧ G.C c ≠ 0 ∧ D (G.C c - 1) = id) ∨ (f = false ∧ G.C c = 0))
structure FdR (w : World) (G : IG) (D : Nat → Nat) (id : Nat) (e : Ending) (w' : World) : Prop where
  ex : ∃ c f, e = .returned (.tuple #[.int .i64 ((c : Nat) : Int), .bool f]) ∧ FdE G D id c f
  bel : Below w.heap.size w w'
set_option maxHeartbeats 4000000 in
set_option maxRecDepth 100000 in
theorem in_find (w : World) (b S L : Nat) (G : IG) (Lv : Nat → Prop) (D : Nat → Nat) (id : Nat) (hr : InR w b G L D) (hp : InP G S L Lv D) (hl : ∀ i, Lv i → i < L) :
    Calls Tryz.prog 103 #[.pointer (some ⟨b, 0, none⟩), .int .u64 id] w (FdR w G D id) := by
  refine (callsIn_wide (n := 3)).1 ?_
  have hh := (hF_val (id := id) hr.pw hr.mb).2
  have HH := Lib.hid hh
  have HR := Lib.hid hr
  have HP := Lib.hid hp
  have HLV := Lib.hid hl
  have hnb := hr.nb
  clear hr hp hl hh
  refine callsIn_of_wp_marks Tryz.func103 rfl trivial ?_ rfl
  simp only [Tryz.ntmps103, List.size_toArray, List.length_cons, List.length_nil, Nat.reduceAdd, Nat.reduceSub, Array.replicate_succ, Array.replicate_zero, List.push_toArray, List.append_toArray, List.nil_append, List.cons_append]
  gi_wp2_with fail
  refine ⟨trivial, CallsIn.mono (callsIn_wide.2 (in_probe _ b id)) ?_⟩
  rintro e w1 ⟨rfl, rfl⟩
  gi_wp2_with fail
  have HST : Hid (∀ r : Loop, FdI w b id r 0 false ((((((((w.alloc (.cells #[.pointer (some ⟨b, 0, none⟩)] 120)).alloc (.cells #[.int .u64 id] 25)).alloc (.cells #[.int .i64 0] 3)).alloc (.cells #[.bool false] 4)).alloc (.cells #[.pointer (some ⟨b, 0, none⟩)] 120)).alloc (.cells #[.int .u64 id] 25)).alloc (.deferred (some []))).alloc (.loop r))) := by
    intro r
    refine ⟨(((((((Blk.new w _ [_]).alloc _).alloc _).alloc _).alloc _).alloc _).alloc _).alloc _, ((((((Blk.new' (w.alloc _) _ [_] (by simp)).alloc _).alloc _).alloc _).alloc _).alloc _).alloc _, (((((Blk.new' ((w.alloc _).alloc _) _ [_] (by simp)).alloc _).alloc _).alloc _).alloc _).alloc _,
      ((((Blk.new' (((w.alloc _).alloc _).alloc _) _ [_] (by simp)).alloc _).alloc _).alloc _).alloc _, (((Blk.new' ((((w.alloc _).alloc _).alloc _).alloc _) _ [_] (by simp)).alloc _).alloc _).alloc _, ((Blk.new' (((((w.alloc _).alloc _).alloc _).alloc _).alloc _) _ [_] (by simp)).alloc _).alloc _, ?_, ?_, ?_⟩
    · rw [Below.heap_alloc _ _ _ (by simp)]
      have := World.alloc_heap_new ((((((w.alloc (.cells #[.pointer (some ⟨b, 0, none⟩)] 120)).alloc (.cells #[.int .u64 id] 25)).alloc (.cells #[.int .i64 0] 3)).alloc (.cells #[.bool false] 4)).alloc (.cells #[.pointer (some ⟨b, 0, none⟩)] 120)).alloc (.cells #[.int .u64 id] 25)) (.deferred (some []))
      simpa using this
    · have := World.alloc_heap_new (((((((w.alloc (.cells #[.pointer (some ⟨b, 0, none⟩)] 120)).alloc (.cells #[.int .u64 id] 25)).alloc (.cells #[.int .i64 0] 3)).alloc (.cells #[.bool false] 4)).alloc (.cells #[.pointer (some ⟨b, 0, none⟩)] 120)).alloc (.cells #[.int .u64 id] 25)).alloc (.deferred (some []))) (.loop r)
      simpa using this
    · exact ((((((((Below.refl _ _).alloc (Nat.le_refl _) _).alloc (by simp) _).alloc (by simp; omega) _).alloc (by simp; omega) _).alloc (by simp; omega) _).alloc (by simp; omega) _).alloc (by simp; omega) _).alloc (by simp; omega) _
  refine wp_rangeJ (gf := 142) (lb := #[.pointer (some ⟨w.heap.size + 1 + 1 + 1 + 1, 0, none⟩), .pointer (some ⟨w.heap.size + 1 + 1 + 1 + 1 + 1, 0, none⟩)]) rfl (enters_of Tryz.func142 (by kernel_rfl) rfl)
    (fun _ => False) (fun W2 => ∃ (r : Loop) (c : Nat) (f : Bool), FdI w b id r ((c : Nat) : Int) f W2 ∧ FdE G D id c f) ?call ?hN ?hR
  case hN => exact fun _ _ h => h.elim
  case call =>
    intro fn
    simp only [World.size_alloc, List.append_toArray, List.cons_append, List.nil_append]
    refine CallsIn.mono (pr1_in 2 b (w.heap.size + 1 + 1 + 1 + 1) (w.heap.size + 1 + 1 + 1 + 1 + 1) id G L D (w.heap.size + 1 + 1 + 1 + 1 + 1 + 1 + 1) (fun k X => FdN G D id k ∧ FdI w b id _ 0 false X) (fun X => ∃ (r : Loop) (c : Nat) (f : Bool), (r.state = .done ∧ r.pending = some .ret) ∧ FdI w b id r ((c : Nat) : Int) f X ∧ FdE G D id c f) ?_ _ ⟨fun e _ hd => absurd hd (Nat.not_lt_zero _), HST.out _⟩ ?_) ?_
    · rintro k X ⟨_, hX⟩
      exact ⟨hX.pt.cell (i := 0) rfl, hX.pi.cell (i := 0) rfl, HR.out.below hX.bel⟩
    · rintro k X hkn ⟨hN, hX⟩
      refine yieldAt_ofR hX.lp rfl ?a1 ?asg ?bd
      case asg =>
        intro K hK
        gi_wp2
        exact hK
      case bd =>
        intro r rb Wb hr hWb
        rw [hr] at hX ⊢
        have hX2 := hX.turn rb
        rw [← hWb] at hX2
        clear hX hWb hr
        have HX := Lib.hid hX2
        have HN := Lib.hid hN
        have hck := itC_lt HH.out k
        have HCK := Lib.hid hck
        have HDK := Lib.hid (itC_dst HH.out k hkn)
        have r1c := hX2.r1.cell (i := 0) rfl
        have r1f := hX2.r1.free 0
        have r2c := (hX2.r2.other ⟨w.heap.size + 1 + 1, 0, none⟩ (.int .i64 ((itC G.n (hF G.n id) k : Nat) : Int)) (by show w.heap.size + 1 + 1 + 1 ≠ w.heap.size + 1 + 1; omega)).cell (i := 0) rfl
        have r2f := (hX2.r2.other ⟨w.heap.size + 1 + 1, 0, none⟩ (.int .i64 ((itC G.n (hF G.n id) k : Nat) : Int)) (by show w.heap.size + 1 + 1 + 1 ≠ w.heap.size + 1 + 1; omega)).free 0
        have HSF := Lib.hid (hX2.set ((itC G.n (hF G.n id) k : Nat) : Int) false)
        clear hN
        by_cases h0 : G.C (itC G.n (hF G.n id) k) = 0
        · have t1 : (((G.C (itC G.n (hF G.n id) k) : Nat) : Int) == 0) = true := by rw [h0]; rfl
          have HE : Hid (FdE G D id (itC G.n (hF G.n id) k) false) := ⟨hck, by rw [HDK.out]; exact HN.out, .inr ⟨rfl, h0⟩⟩
          clear h0 hX2 hck
          generalize itC G.n (hF G.n id) k = c at *
          gi_wp2_with fail
          exact ⟨HSF.out.lp, .inr ⟨rfl, _, c, false, ⟨rfl, rfl⟩, HSF.out.turn _, HE.out⟩⟩
        · have t1 : (((G.C (itC G.n (hF G.n id) k) : Nat) : Int) == 0) = false := by rw [beq_eq_false_iff_ne]; omega
          have H0 := Lib.hid h0
          obtain ⟨i, hi1, hi2⟩ := HP.out.val hck h0
          have hil := HLV.out i hi2
          have hRb := HR.out.below hX2.bel
          obtain ⟨g, cap, hiv, ci, _, _⟩ := hRb.id hil
          have c2 := hRb.c2
          rw [hiv] at c2
          have xt := hX2.xt.cell (i := 0) rfl
          have xi := hX2.xi.cell (i := 0) rfl
          have hcv : IntKind.i64.wrap (((G.C (itC G.n (hF G.n id) k) : Nat) : Int) - 1) = (i : Int) := by
            rw [hi1]
            have := (HR.out.row.lt)
            have hL : L ≤ maxLen := by
              obtain ⟨_, _, _, h1, h2, _⟩ := owns_form HR.out.row (by omega)
              omega
            unfold maxLen at hL
            rw [IntWalk.i64_in _ (by omega)]; omega
          have ti1 : (i : Int) < (L : Int) := by omega
          have ti0 : (0 : Int) ≤ (i : Int) := by omega
          have HDI : Hid (D (G.C (itC G.n (hF G.n id) k) - 1) = D i) := by show _ = _; rw [hi1]; rfl
          have HNX : Hid (D i ≠ id → FdN G D id (k + 1)) := fun hne => HN.out.step HH.out hkn H0.out (by rw [HDI.out]; exact hne)
          have HEX : Hid (D i = id → FdE G D id (itC G.n (hF G.n id) k) true) := fun he => ⟨HCK.out, by rw [HDK.out]; exact HN.out, .inl ⟨rfl, H0.out, by rw [HDI.out]; exact he⟩⟩
          clear h0 hi1 hi2 hil hRb hiv hck hX2
          generalize G.C (itC G.n (hF G.n id) k) = cv at *
          generalize itC G.n (hF G.n id) k = c at *
          generalize D i = di at *
          have HDW : ∀ W6, DrewOf Wb W6 → Hid (FdI w b id rb 0 false W6) := fun W6 hw => HX.out.drewN hw
          gi_wp2_with fail
          refine region_tailIn 9 (by kernel_rfl) (by kernel_rfl) (by kernel_rfl) ?_
          intro W6 hw6
          have HX6 := HDW W6 hw6
          replace xt := hw6.cell xt
          replace xi := hw6.cell xi
          replace c2 := hw6.cell c2
          replace ci := hw6.cell ci
          clear hw6 HDW r1c r1f r2c r2f HSF HX
          simp only [List.take_succ_cons, List.take_zero, List.drop_succ_cons, List.drop_zero]
          by_cases he : di = id
          · have t3 : ((di : Int) == (id : Int)) = true := by rw [he]; simp
            have HE := Lib.hid (HEX.out he)
            have r1c := HX6.out.r1.cell (i := 0) rfl
            have r1f := HX6.out.r1.free 0
            have r2c := (HX6.out.r2.other ⟨w.heap.size + 1 + 1, 0, none⟩ (.int .i64 (c : Int)) (by show w.heap.size + 1 + 1 + 1 ≠ w.heap.size + 1 + 1; omega)).cell (i := 0) rfl
            have r2f := (HX6.out.r2.other ⟨w.heap.size + 1 + 1, 0, none⟩ (.int .i64 (c : Int)) (by show w.heap.size + 1 + 1 + 1 ≠ w.heap.size + 1 + 1; omega)).free 0
            have HST := Lib.hid (HX6.out.set (c : Int) true)
            clear he
            repeat still_step
            refine wpStill_nil ?_
            go_wp2_with fail
            refine ⟨rfl, ?_⟩
            gi_wp2_with fail
            exact ⟨HST.out.lp, .inr ⟨rfl, _, c, true, ⟨rfl, rfl⟩, HST.out.turn _, HE.out⟩⟩
          · have t3 : ((di : Int) == (id : Int)) = false := by rw [beq_eq_false_iff_ne]; omega
            have HNN := Lib.hid (HNX.out he)
            clear he
            repeat still_step
            refine wpStill_nil ?_
            go_wp2_with fail
            refine ⟨rfl, ?_⟩
            gi_wp2_with fail
            exact ⟨HX6.out.lp, .inl ⟨rfl, HNN.out, HX6.out.turn r⟩⟩
    · rintro e W3 ⟨hv, hJ | hI⟩
      · obtain ⟨r, c, f, ⟨h1, h2⟩, h3, h4⟩ := hJ
        exact ⟨hv, r, h3.lp, by rw [h1]; decide, .inr ⟨h2, r, c, f, h3, h4⟩⟩
      · exfalso
        obtain ⟨z, z1, z2⟩ := HP.out.tab.em
        exact (hI.1 z z1 (dst_lt HH.out z1)).1 z2
  case hR =>
    rintro W3 r' ⟨r, c, f, hi, he⟩
    simp only [World.size_alloc]
    have hi3 := hi.turn r'
    generalize World.putObj W3 _ _ = W4 at hi3 ⊢
    clear hi
    have hm5 : Mod (fun k => k = w.heap.size + 1 + 1 + 1 + 1 + 1 + 1) W4 (W4.putObj (w.heap.size + 1 + 1 + 1 + 1 + 1 + 1) (.deferred none)) := (Mod.refl _ _).putObj _ _ (fun _ => rfl)
    have c1 := (hi3.r1.mod hm5 (by omega)).cell (i := 0) rfl
    have c2 := (hi3.r2.mod hm5 (by omega)).cell (i := 0) rfl
    have HI := Lib.hid hi3
    have HE := Lib.hid he
    have HB := Lib.hid (bel_mod hi3.bel hm5 (fun x e => by omega))
    clear hi3 he hm5
    refine ⟨by simp, .inl ⟨_, _, rfl, run_takeDeferred HI.out.df, ?_⟩⟩
    refine ⟨_, results_cell2 (x := .int .i64 ((c : Nat) : Int)) (y := .bool f) rfl rfl rfl (by simp [go_sem, c1]) (by simp [go_sem, c2]), ?_⟩
    exact ⟨⟨c, f, rfl, HE.out⟩, HB.out⟩
end Go.Proofs.YtlooaipipmiijaaGreat

namespace Go.Proofs.YtlooaipipmiijaaGreat
set_option linter.unusedVariables false
set_option linter.unusedSimpArgs false
open Go.RowKit
noncomputable def gix (Lv : Nat → Prop) (D : Nat → Nat) (id : Nat) : Option Nat :=
  open Classical in if h : ∃ i, Lv i ∧ D i = id then some h.choose else none
theorem gix_some {Lv : Nat → Prop} {D : Nat → Nat} {id i : Nat} (hj : ∀ i j, Lv i → Lv j → D i = D j → i = j) (hi : Lv i) (e : D i = id) : gix Lv D id = some i := by
  have h : ∃ i, Lv i ∧ D i = id := ⟨i, hi, e⟩
  unfold gix
  rw [dif_pos h]
  exact congrArg some (hj _ _ h.choose_spec.1 hi (by rw [h.choose_spec.2, e]))
theorem gix_none {Lv : Nat → Prop} {D : Nat → Nat} {id : Nat} (h : ∀ i, Lv i → D i ≠ id) : gix Lv D id = none := by
  unfold gix
  rw [dif_neg (fun ⟨i, h1, h2⟩ => h i h1 h2)]
theorem gix_is {Lv : Nat → Prop} {D : Nat → Nat} {id i : Nat} (h : gix Lv D id = some i) : Lv i ∧ D i = id := by
  unfold gix at h
  split at h
  · rename_i c
    injection h with h
    rw [← h]; exact c.choose_spec
  · cases h
section
variable {w w' : World} {b : Nat} {G : IG} {S L : Nat} {Lv : Nat → Prop} {D : Nat → Nat}
theorem InP.yes (h : InP G S L Lv D) {id c : Nat} (he : FdE G D id c true) : ∃ i, G.C c = i + 1 ∧ Lv i ∧ D i = id := by
  rcases he.2.2 with ⟨_, h0, h1⟩ | ⟨h0, _⟩
  · obtain ⟨i, e1, e2⟩ := h.val he.1 h0
    exact ⟨i, e1, e2, by rw [e1] at h1; exact h1⟩
  · cases h0
theorem InP.no (h : InP G S L Lv D) {id c : Nat} (hh : hF G.n id < G.n) (he : FdE G D id c false) : ∀ i, Lv i → D i ≠ id := by
  rcases he.2.2 with ⟨h0, _⟩ | ⟨_, h0⟩
  · cases h0
  · intro i hi e
    obtain ⟨h1, d, d1, d2⟩ := (h.mem (i + 1)).1 ⟨i, rfl, hi⟩
    refine h.tab.absent hh he.1 h0 (X := fun v => v ≠ 0 ∧ D (v - 1) = id) (fun v hv => by rw [hv.2]) (fun e' he' hd => fun k => (he.2.1 e' he' hd).2 k.2) d d1 (by rw [d2]; exact h1) ?_
    rw [d2]; exact ⟨h1, e⟩
theorem InP.put (h : InP G S L Lv D) {id c i : Nat} (hh : hF G.n id < G.n) (he : FdE G D id c false) (hi : ¬ Lv i) (hiS : i < S) (hl : ∀ j, Lv j → j < S) (iv : Value) (L' : Nat) :
    InP { G with C := upC G.C c (i + 1), iv := iv } S L' (fun x => Lv x ∨ x = i) (upC D i id) := by
  have hno := h.no hh he
  have h0 : G.C c = 0 := by
    rcases he.2.2 with ⟨h0, _⟩ | ⟨_, h0⟩
    · cases h0
    · exact h0
  have hc := he.1
  have hn : ∀ d, d < G.n → G.C d ≠ i + 1 := fun d hd e => by
    obtain ⟨j, j1, j2⟩ := h.val hd (by omega)
    have : j = i := by omega
    exact hi (this ▸ j2)
  have htwo := h.two
  refine ⟨h.tab.put hh hc h0 (by omega) hn (fun e he' hd => (he.2.1 e he' hd).1) (by show hF G.n (upC D i id (i + 1 - 1)) = _; rw [show i + 1 - 1 = i by omega, uC_same]) (fun u hu hu0 => by show hF G.n (upC D i id (u - 1)) = _; rw [uC_ne _ _ (by omega)]) ?_, fun v => ?_, fun x y hx hy e => ?_, h.two⟩
  ·
    refine Classical.byContradiction fun hz => ?_
    have hz' : ∀ z, z < G.n → z ≠ c → G.C z ≠ 0 := fun z z1 z2 z3 => hz ⟨z, z1, z2, z3⟩
    have fl : ∀ z, z < G.n → z ≠ c → ∃ j, G.C z = j + 1 ∧ Lv j := fun z z1 z2 => h.val z1 (hz' z z1 z2)
    have := pig S G.n (fun j => if j < c then G.C j - 1 else if j + 1 < G.n then G.C (j + 1) - 1 else i) (fun j hj => by
      show (if j < c then G.C j - 1 else if j + 1 < G.n then G.C (j + 1) - 1 else i) < S
      split
      · obtain ⟨q, q1, q2⟩ := fl j hj (by omega)
        have := hl q q2; omega
      · split
        · obtain ⟨q, q1, q2⟩ := fl (j + 1) (by omega) (by omega)
          have := hl q q2; omega
        · exact hiS) (fun x y hx hy e => by
      have e' : (if x < c then G.C x - 1 else if x + 1 < G.n then G.C (x + 1) - 1 else i) = (if y < c then G.C y - 1 else if y + 1 < G.n then G.C (y + 1) - 1 else i) := e
      have neq : ∀ z, z < G.n → z ≠ c → G.C z - 1 ≠ i := fun z z1 z2 e => by
        obtain ⟨q, q1, q2⟩ := fl z z1 z2
        have : q = i := by omega
        exact hi (this ▸ q2)
      have inj : ∀ z z', z < G.n → z' < G.n → z ≠ c → z' ≠ c → G.C z - 1 = G.C z' - 1 → z = z' := fun z z' z1 z2 z3 z4 e => by
        have h1 := hz' z z1 z3
        have h2 := hz' z' z2 z4
        exact h.tab.uq z z' z1 z2 h1 (by omega)
      have cs : ∀ x, x < G.n → (∃ z, z < G.n ∧ z ≠ c ∧ (if x < c then G.C x - 1 else if x + 1 < G.n then G.C (x + 1) - 1 else i) = G.C z - 1 ∧ (z = x ∧ x < c ∨ z = x + 1 ∧ c ≤ x)) ∨ ((if x < c then G.C x - 1 else if x + 1 < G.n then G.C (x + 1) - 1 else i) = i ∧ x + 1 = G.n) := fun x hx => by
        by_cases c1 : x < c
        · rw [if_pos c1]; exact .inl ⟨x, hx, by omega, rfl, .inl ⟨rfl, c1⟩⟩
        · rw [if_neg c1]
          by_cases c2 : x + 1 < G.n
          · rw [if_pos c2]; exact .inl ⟨x + 1, c2, by omega, rfl, .inr ⟨rfl, by omega⟩⟩
          · rw [if_neg c2]; exact .inr ⟨rfl, by omega⟩
      rcases cs x hx with ⟨z, z1, z2, z3, z4⟩ | ⟨z3, z4⟩ <;> rcases cs y hy with ⟨y', y1, y2, y3, y4⟩ | ⟨y3, y4⟩
      · rw [z3, y3] at e'
        have := inj z y' z1 y1 z2 y2 e'; omega
      · rw [z3, y3] at e'; exact absurd e' (neq z z1 z2)
      · rw [z3, y3] at e'; exact absurd e'.symm (neq y' y1 y2)
      · omega)
    omega
  · constructor
    · rintro ⟨j, rfl, hj | rfl⟩
      · obtain ⟨h1, d, d1, d2⟩ := (h.mem (j + 1)).1 ⟨j, rfl, hj⟩
        exact ⟨h1, d, d1, by show upC G.C c (i + 1) d = _; rw [uC_ne _ _ (fun e => by rw [e, h0] at d2; omega)]; exact d2⟩
      · exact ⟨by omega, c, hc, uC_same _ _ _⟩
    · rintro ⟨h1, d, d1, d2⟩
      have d2' : upC G.C c (i + 1) d = v := d2
      by_cases e : d = c
      · rw [e, uC_same] at d2'
        exact ⟨i, d2'.symm, .inr rfl⟩
      · rw [uC_ne _ _ e] at d2'
        obtain ⟨j, j1, j2⟩ := (h.mem v).2 ⟨h1, d, d1, d2'⟩
        exact ⟨j, j1, .inl j2⟩
  · by_cases c1 : x = i <;> by_cases c2 : y = i
    · rw [c1, c2]
    · rw [c1, uC_same, uC_ne _ _ c2] at e
      exact absurd e.symm (hno y (hy.resolve_right c2))
    · rw [c2, uC_same, uC_ne _ _ c1] at e
      exact absurd e (hno x (hx.resolve_right c1))
    · rw [uC_ne _ _ c1, uC_ne _ _ c2] at e
      exact h.inj x y (hx.resolve_right c1) (hy.resolve_right c2) e
theorem InR.setC (h : InR w b G L D) {c : Nat} (hc : c < G.n) (v : Nat) : InR (w.setCell ⟨G.cb, c, none⟩ (.int .i64 (v : Int))) b { G with C := upC G.C c v } L D ∧ Mod (fun k => k = G.cb) w (w.setCell ⟨G.cb, c, none⟩ (.int .i64 (v : Int))) := by
  have m := (Mod.refl (fun x => x = G.cb) w).setCell ⟨G.cb, c, none⟩ (fun _ => rfl) (.int .i64 (v : Int))
  refine ⟨⟨h.box.mod m h.d1, ?_, owns_modL h.row m (fun x e => fun hx => h.d3 (by rw [← hx]; exact e)), h.pw, h.mb0, h.d1, h.d2, h.d3⟩, m⟩
  show World.ownsRow _ 0 _ 1 _ G.n (cRow G.n (upC G.C c v))
  rw [← cRow_set]
  exact owns_set h.cel c (by omega) _
theorem InR.setI (h : InR w b G L D) {i g cap : Nat} (hv : G.iv = .slice (some ⟨g, 0, none⟩) L cap) (hi : i < L) (v : Nat) : InR (w.setCell ⟨g, i, none⟩ (.int .u64 (v : Int))) b G L (upC D i v) ∧ Mod (fun k => k = g) w (w.setCell ⟨g, i, none⟩ (.int .u64 (v : Int))) ∧ G.foot b g := by
  have m := (Mod.refl (fun x => x = g) w).setCell ⟨g, i, none⟩ (fun _ => rfl) (.int .u64 (v : Int))
  have hg : G.iv.ownBlock = some g := by rw [hv]; rfl
  refine ⟨⟨h.box.mod m (fun e => h.d2 (by rw [e]; exact hg)), owns_modL h.cel m (fun x e => fun hx => h.d3 (by injection e with e; have e' : G.cb = x := e; rw [e', show x = g from hx]; exact hg)), ?_, h.pw, h.mb0, h.d1, h.d2, h.d3⟩, m, .inr (.inr hg)⟩
  have hr := h.row
  rw [hv] at hr ⊢
  rw [← idRow_set]
  exact owns_set hr i (by omega) _
theorem InR.grow {w3 : World} (h : InR w b G L D) (o : Obj) {v : Value} (ho : w3.ownsRow 0 25 1 v (L + 1) (idRow L D ++ [.int .u64 0])) (hg : (w.alloc o).grownBy w3 G.iv.ownBlock) (hk : ∀ k, v.ownBlock = some k → G.iv.ownBlock = some k ∨ (w.alloc o).heap.size ≤ k) :
    Blk w3 b 167 [.pointer (some ⟨b, 0, none⟩), .pointer (some ⟨G.ab, 0, none⟩), G.iv, .slice (some ⟨G.cb, 0, none⟩) G.n G.cp] ∧
    InR (w3.setCell ⟨b, 2, none⟩ v) b { G with iv := v } (L + 1) (upC D L 0) ∧ Mod (G.foot b) w (w3.setCell ⟨b, 2, none⟩ v) ∧ ∀ k, IG.foot { G with iv := v } b k → G.foot b k ∨ (w.heap.size ≤ k ∧ k < (w3.setCell ⟨b, 2, none⟩ v).heap.size) := by
  have hm := ((Mod.refl (fun k => G.iv.ownBlock = some k) w).alloc o).grown hg (fun k e _ => e)
  have hsz : (w.alloc o).heap.size = w.heap.size + 1 := by simp
  have box3 := h.box.mod hm h.d2
  have hbl := h.box.lt
  have hcl : G.cb < w.heap.size := (h.cel.lt _ rfl).2
  have hvb : v.ownBlock ≠ some b := fun e => by
    rcases hk _ e with c | c
    · exact h.d2 c
    · omega
  have hvc : v.ownBlock ≠ some G.cb := fun e => by
    rcases hk _ e with c | c
    · exact h.d3 c
    · omega
  have m := (Mod.refl (fun x => x = b) w3).setCell ⟨b, 2, none⟩ (fun _ => rfl) v
  have row3 : (w3.setCell ⟨b, 2, none⟩ v).ownsRow 0 25 1 v (L + 1) (idRow (L + 1) (upC D L 0)) := by
    rw [← idRow_snoc]
    exact owns_modL ho m (fun x e => fun hx => hvb (by rw [← hx]; exact e))
  refine ⟨box3, ⟨box3.set 2 v, owns_modL (owns_modL h.cel hm (fun x e => by injection e with e; rw [← e]; exact h.d3)) m (fun x e => by injection e with e; rw [← e]; exact fun hx => h.d1 (show G.cb = b from hx).symm), row3, h.pw, h.mb0, h.d1, hvb, hvc⟩, ?_, ?_⟩
  · exact (hm.mono (fun k _ e => (.inr (.inr e) : G.foot b k))).setCell ⟨b, 2, none⟩ (fun _ => .inl rfl) v
  · rintro k (e | e | e)
    · exact .inl (.inl e)
    · exact .inl (.inr (.inl e))
    · rcases hk k e with c | c
      · exact .inl (.inr (.inr c))
      · exact .inr ⟨by omega, (row3.lt k e).2⟩
end
set_option maxHeartbeats 2000000 in
theorem in_get (w : World) (b S : Nat) (Lv : Nat → Prop) (D : Nat → Nat) (F : Nat → Prop) (h : InO w b S Lv D F) (id : Nat) :
    Calls Tryz.prog 87 #[.pointer (some ⟨b, 0, none⟩), .int .u64 id] w (RetB (.tuple #[.int .i64 (((gix Lv D id).getD 0 : Nat) : Int), .bool (gix Lv D id).isSome]) w) := by
  obtain ⟨G, L, FA, hr, hp, ha, h4, h5⟩ := h
  have HV := Lib.hid (in_valid b w hr.c0)
  have HFD := Lib.hid (in_find w b S L G Lv D id hr hp (fun i hi => (ha.lvb hi).1))
  have hh := (hF_val (id := id) hr.pw hr.mb).2
  have HH := Lib.hid hh
  have HR := Lib.hid hr
  have HP := Lib.hid hp
  have hnb := hr.nb
  have HLV : Hid (∀ i, Lv i → i ≤ 65536) := fun i hi => by have := ha.lvb hi; omega
  clear hr hp ha h4 h5 hh
  go_enter Tryz.func87, Tryz.ntmps87
  go_upto_region 4 with (first | (go_at_call 102; refine HV.out.mono ?_; rintro e w' ⟨rfl, rfl⟩) | (go_at_call 103; refine HFD.out.mono ?_; rintro e w1 ⟨⟨c, f, rfl, hE⟩, hb1⟩; have HE := Lib.hid hE; have HB1 := Lib.hid hb1; clear hE hb1))
  cases f with
  | false =>
    have HN : Hid (gix Lv D id = none) := gix_none (HP.out.no HH.out HE.out)
    go_wp2_with fail
    go_ret2
    rw [HN.out]
    exact ⟨rfl, HB1.out⟩
  | true =>
    obtain ⟨i, e1, e2, e3⟩ := HP.out.yes HE.out
    have HN : Hid (gix Lv D id = some i) := gix_some HP.out.inj e2 e3
    have hi := HLV.out i e2
    have hR1 := HR.out.below HB1.out
    have c3 := hR1.c3
    have cc := hR1.cc HE.out.1
    rw [e1] at cc
    have hcn : (c : Int) < (G.n : Int) := by have := HE.out.1; omega
    have hw1 : IntKind.i64.wrap (((i + 1 : Nat) : Int) - 1) = (i : Int) := by rw [IntWalk.i64_in _ (by omega)]; omega
    clear e1 e2 e3 hR1
    generalize ((i + 1 : Nat) : Int) = i1 at *
    go_wp2_with fail
    go_ret2
    rw [HN.out]
    exact ⟨rfl, HB1.out⟩
end Go.Proofs.YtlooaipipmiijaaGreat

namespace Go.Proofs.YtlooaipipmiijaaGreat
set_option linter.unusedVariables false
set_option linter.unusedSimpArgs false
open Go.RowKit
theorem Tryz.infoU64 : (Tryz.prog.info? 25).map (fun i => (i.zero, i.size, i.bytes)) = some (some (.int .u64 0), 1, 8) := by kernel_rfl
structure InPt (w : World) (b S : Nat) (Lv : Nat → Prop) (D : Nat → Nat) (F : Nat → Prop) (id : Nat) (e : Ending) (w' : World) : Prop where
  old : ∀ i, Lv i → D i = id → e = .returned (.tuple #[.int .i64 (i : Int), .bool false, .int .i64 0]) ∧ InO w' b S Lv D F ∧ Below w.heap.size w w'
  full : (∀ i, Lv i → D i ≠ id) → cntP Lv S = S → e = .returned (.tuple #[.int .i64 0, .bool false, .int .i64 4]) ∧ InO w' b S Lv D F ∧ Below w.heap.size w w'
  new : (∀ i, Lv i → D i ≠ id) → cntP Lv S ≠ S → ∃ i, i < S ∧ ¬ Lv i ∧ e = .returned (.tuple #[.int .i64 (i : Int), .bool true, .int .i64 0]) ∧ InO w' b S (fun x => Lv x ∨ x = i) (upC D i id) (fun k => F k ∨ (w.heap.size ≤ k ∧ k < w'.heap.size)) ∧ Mod F w w'
theorem InO.putD {w w1 w2 w5 : World} {b S L beg : Nat} {G G5 : IG} {Lv' : Nat → Prop} {D D5 : Nat → Nat} {F FA : Nat → Prop} (h4 : ∀ k, FA k → ¬ G.foot b k ∧ F k) (h5 : ∀ k, G.foot b k → F k) (hb1 : Below w.heap.size w w1) (hR1 : InR w1 b G L D)
    (hao : ArO w2 G.ab S beg Lv' (fun k => FA k ∨ w1.heap.size ≤ k)) (hmd : Mod FA w1 w2) (hab : G5.ab = G.ab) (hR5 : InR w5 b G5 beg D5) (hP5 : InP G5 S beg Lv' D5) (hft : ∀ k, G5.foot b k → G.foot b k ∨ w2.heap.size ≤ k) (hm5 : Mod (fun k => G.foot b k ∨ w2.heap.size ≤ k) w2 w5) :
    InO w5 b S Lv' D5 (fun k => F k ∨ (w.heap.size ≤ k ∧ k < w5.heap.size)) ∧ Mod F w w5 := by
  have s1 := hb1.size
  have s2 := hmd.size
  have s5 := hm5.size
  have hfl := hR1.foot_lt
  have haw : ArO w5 G5.ab S beg Lv' (fun k => (FA k ∨ w1.heap.size ≤ k) ∧ k < w2.heap.size) := by
    rw [hab]
    refine hao.tight.mod hm5 ?_
    rintro k ⟨c | c, k2⟩ (d | d)
    · exact (h4 k c).1 d
    · omega
    · have := hfl k d; omega
    · omega
  refine ⟨⟨G5, beg, fun k => (FA k ∨ w1.heap.size ≤ k) ∧ k < w2.heap.size, hR5, hP5, haw, ?_, ?_⟩, ?_⟩
  · rintro k ⟨c, k2⟩
    refine ⟨fun d => ?_, ?_⟩
    · rcases hft k d with d | d
      · rcases c with c | c
        · exact (h4 k c).1 d
        · have := hfl k d; omega
      · omega
    · rcases c with c | c
      · exact .inl (h4 k c).2
      · exact .inr ⟨by omega, by omega⟩
  · intro k d
    rcases hft k d with e | e
    · exact .inl (h5 k e)
    · exact .inr ⟨by omega, hR5.foot_lt k d⟩
  · refine ((Mod.of_below (F := F) hb1).trans hmd (fun x _ e => (h4 x e).2)).trans hm5 (fun x hx e => ?_)
    rcases e with e | e
    · exact h5 x e
    · omega
theorem uC_uC (C : Nat → Nat) (c u v : Nat) : upC (upC C c u) c v = upC C c v := by
  funext x
  by_cases e : x = c
  · subst e; rw [uC_same, uC_same]
  · rw [uC_ne _ _ e, uC_ne _ _ e, uC_ne _ _ e]
set_option maxHeartbeats 4000000 in
set_option maxRecDepth 100000 in
theorem in_put (w : World) (b S : Nat) (Lv : Nat → Prop) (D : Nat → Nat) (F : Nat → Prop) (h : InO w b S Lv D F) (id : Nat) :
    Calls Tryz.prog 90 #[.pointer (some ⟨b, 0, none⟩), .int .u64 id] w (InPt w b S Lv D F id) := by
  have HO := Lib.hid h
  obtain ⟨G, L, FA, hr, hp, ha, h4, h5⟩ := h
  have HV := Lib.hid (in_valid b w hr.c0)
  have HFD := Lib.hid (in_find w b S L G Lv D id hr hp (fun i hi => (ha.lvb hi).1))
  have hh := (hF_val (id := id) hr.pw hr.mb).2
  have HH := Lib.hid hh
  have HR := Lib.hid hr
  have HP := Lib.hid hp
  have HA := Lib.hid ha
  have H4 := Lib.hid h4
  have H5 := Lib.hid h5
  have hnb := hr.nb
  have hsz := ha.sz
  have HLV : Hid (∀ i, Lv i → i ≤ 65536 ∧ i < S) := fun i hi => by have := ha.lvb hi; exact ⟨by omega, by omega⟩
  clear hr hp ha h4 h5 hh
  go_enter Tryz.func90, Tryz.ntmps90
  go_upto_region 4 with (first | (go_at_call 102; refine HV.out.mono ?_; rintro e w' ⟨rfl, rfl⟩) | (go_at_call 103; refine HFD.out.mono ?_; rintro e w1 ⟨⟨c, f, rfl, hE⟩, hb1⟩; have HE := Lib.hid hE; have HB1 := Lib.hid hb1; clear hE hb1))
  cases f with
  | true =>
    obtain ⟨i, e1, e2, e3⟩ := HP.out.yes HE.out
    have HI : Hid (Lv i ∧ D i = id) := ⟨e2, e3⟩
    have hi := (HLV.out i e2).1
    have hR1 := HR.out.below HB1.out
    have c3 := hR1.c3
    have cc := hR1.cc HE.out.1
    rw [e1] at cc
    have hcn : (c : Int) < (G.n : Int) := by have := HE.out.1; omega
    have hw1 : IntKind.i64.wrap (((i + 1 : Nat) : Int) - 1) = (i : Int) := by rw [IntWalk.i64_in _ (by omega)]; omega
    clear e1 e2 e3 hR1
    generalize ((i + 1 : Nat) : Int) = i1 at *
    go_wp2_with fail
    go_ret3
    refine ⟨fun j hj1 hj2 => ?_, fun hno _ => absurd HI.out.2 (hno i HI.out.1), fun hno _ => absurd HI.out.2 (hno i HI.out.1)⟩
    rw [HP.out.inj j i hj1 HI.out.1 (by rw [hj2, HI.out.2])]
    exact ⟨rfl, HO.out.below HB1.out, HB1.out⟩
  | false =>
    have HNO := Lib.hid (HP.out.no HH.out HE.out)
    have hR1 := HR.out.below HB1.out
    have c1 := hR1.c1
    have HA1 := HA.out.below HB1.out
    have HAL := Lib.hid (ar_alloc w1 G.ab S L Lv FA HA1)
    have HR1 := Lib.hid hR1
    have HC := HE.out.1
    have hcn : (c : Int) < (G.n : Int) := by omega
    have HAB := Lib.hid HA1.self
    clear hR1 HA1 HC
    by_cases hf : cntP Lv S = S
    · have HAN : Hid (Calls Tryz.prog 89 #[.pointer (some ⟨G.ab, 0, none⟩)] w1 (RetB (.tuple #[.int .i64 0, .int .i64 4]) w1)) := HAL.out.mono fun e w' q => ⟨(q.no hf).1, (q.no hf).2.2⟩
      have HF := Lib.hid hf
      clear hf
      generalize G.ab = ab at *
      go_wp2_with (go_at_call 89; refine HAN.out.mono ?_; rintro e w2 ⟨rfl, hb2⟩; have HB2 := Lib.hid hb2; clear hb2)
      go_ret3
      have HB := bel_then HB1.out HB2.out
      exact ⟨fun i h1 h2 => absurd h2 (HNO.out i h1), fun _ _ => ⟨rfl, HO.out.below HB, HB⟩, fun _ h => absurd HF.out h⟩
    · have HF := Lib.hid hf
      go_upto_region 9 with (go_at_call 89; refine HAL.out.mono ?_; rintro e w2 ⟨_, hok⟩; obtain ⟨i, beg, hi1, hi2, hi3, rfl, hao, hmd⟩ := hok hf; have HIS := Lib.hid (⟨hi1, hi2⟩ : i < S ∧ ¬ Lv i); have HI3 := Lib.hid hi3; have HAO := Lib.hid hao; have HMD := Lib.hid hmd; clear hok hi1 hi2 hi3 hao hmd hf c1)
      have HR2 := Lib.hid (HR1.out.mod HMD.out (fun k hk c => (H4.out k c).1 hk))
      have HCN : Hid (c < G.n) := HE.out.1
      have hiS : i ≤ 65536 := by have := HIS.out.1; omega
      have hwi : IntKind.i64.wrap ((i : Int) + 1) = (i : Int) + 1 := IntWalk.i64_in _ (by omega)
      obtain ⟨ao, cp, hiv0⟩ := owns_slice HR2.out.row
      have e2 := HR2.out.c2
      rw [hiv0] at e2
      have HIV := Lib.hid hiv0
      clear hiv0
      rcases HI3.out with ⟨hil, hbe⟩ | ⟨hil, hbe⟩
      · subst hbe
        have t1 : decide ((i : Int) = (beg : Int)) = false := decide_eq_false (by omega)
        have t2 : ((i : Int) == (beg : Int)) = false := by rw [beq_eq_false_iff_ne]; omega
        have t3 : decide (i = beg) = false := decide_eq_false (by omega)
        have HIL := Lib.hid hil
        clear HI3
        go_upto_region 11 with fail
        obtain ⟨g, cap, hiv, ci, cf, _⟩ := HR2.out.id (i := i) hil
        have c2 := HR2.out.c2
        rw [hiv] at c2
        have HS1 := Lib.hid (HR2.out.setI hiv hil id)
        have ti1 : (i : Int) < (beg : Int) := by omega
        clear hiv e2 t1 t2 t3
        go_upto_region 12 with fail
        clear c2 ci cf ti1
        generalize w2.setCell _ _ = w4 at *
        have c3 := HS1.out.1.c3
        have cc := HS1.out.1.cc HCN.out
        have cz := HS1.out.1.cel.frozenAt c
        have HS2 := Lib.hid (HS1.out.1.setC (c := c) HCN.out (i + 1))
        have tc : (c : Int) < (G.n : Int) := by have := HCN.out; omega
        go_wp2_with fail
        go_ret3
        have hm5 : Mod (fun k => G.foot b k ∨ w2.heap.size ≤ k) w2 (w4.setCell ⟨G.cb, c, none⟩ (.int .i64 ((i + 1 : Nat) : Int))) := (HS1.out.2.1.mono (fun k _ (e : k = g) => .inl (by rw [e]; exact HS1.out.2.2))).trans (HS2.out.2.mono (G := fun k => G.foot b k ∨ w2.heap.size ≤ k) (fun k _ e => .inl (.inr (.inl e)))) (fun k _ e => e)
        have hfin := InO.putD H4.out H5.out HB1.out HR1.out HAO.out HMD.out (G5 := { G with C := upC G.C c (i + 1) }) rfl HS2.out.1 (HP.out.put HH.out HE.out HIS.out.2 HIS.out.1 (fun j hj => (HLV.out j hj).2) G.iv beg) (fun k e => .inl e) hm5
        exact ⟨fun j h1 h2 => absurd h2 (HNO.out j h1), fun _ h => absurd h HF.out, fun _ _ => ⟨i, HIS.out.1, HIS.out.2, rfl, hfin.1, hfin.2⟩⟩
      · subst hbe hil
        have t1 : decide ((i : Int) = (i : Int)) = true := decide_eq_true rfl
        have t2 : ((i : Int) == (i : Int)) = true := by simp
        have hown : Hid ((w2.alloc (.cells #[.int .u64 0] 25)).ownsRow 0 25 1 (.slice ao i cp) i (idRow i D)) := by
          have := HR2.out.row.alloc (.cells #[.int .u64 0] 25)
          rw [HIV.out] at this
          exact this
        have hnews := Lib.hid (news_new w2 25 [.int .u64 0])
        have hbl := HR2.out.box.lt
        clear HI3
        go_upto_region 11 with (at_builtin; with_reducible refine wpList_appendB 25 (.int .u64 0) 1 8 Tryz.underlying47 Tryz.infoU64 rfl (by decide) (.slice ao i cp) i (idRow i D) rfl hown.out ⟨w2.heap.size, 0, none⟩ 1 1 [.int .u64 0] rfl rfl hnews.out (by simp [Value.oneCell']) (by unfold maxLen; omega) (by omega) ?_)
        intro v' w3 ho hg hk
        have HIV2 := Lib.hid (show G.iv.ownBlock = (Value.slice ao i cp).ownBlock from by rw [HIV.out])
        obtain ⟨ao2, cap2, rfl⟩ := owns_slice ho
        obtain ⟨box3, hr3, hm3, hf3⟩ := HR2.out.grow (.cells #[.int .u64 0] 25) ho (by rw [HIV2.out]; exact hg) (fun k e => by rw [HIV2.out, World.size_alloc]; exact hk k e)
        have d2 := box3.cell (i := 2) rfl
        have f2 := box3.free 2
        have HR3 := Lib.hid hr3
        have HM3 := Lib.hid hm3
        have HF3 := Lib.hid hf3
        rw [HIV.out] at d2
        clear box3 hr3 hm3 hf3 ho hg hk hown hnews e2 t1 t2
        go_upto_region 11 with fail
        clear d2 f2
        obtain ⟨G3, HG3⟩ : ∃ G3 : IG, Hid ({ G with iv := Value.slice ao2 (i + 1) cap2 } = G3) := ⟨_, rfl⟩
        have HE3 : Hid (G3.cb = G.cb ∧ G3.ab = G.ab ∧ G3.n = G.n ∧ G3.C = G.C ∧ G3.cp = G.cp) := by rw [← HG3.out]; exact ⟨rfl, rfl, rfl, rfl, rfl⟩
        rw [HG3.out] at HR3 HF3
        generalize w3.setCell _ _ = w3' at *
        obtain ⟨g, cap, hiv, ci, cf, _⟩ := HR3.out.id (i := i) (by omega)
        have c2 := HR3.out.c2
        rw [hiv] at c2
        have HS1 := Lib.hid (HR3.out.setI (i := i) hiv (by omega) id)
        have ti1 : (i : Int) < ((i + 1 : Nat) : Int) := by omega
        have ti2 : (i : Int) < (i : Int) + 1 := by omega
        clear hiv
        go_upto_region 12 with fail
        clear c2 ci cf ti1 ti2
        generalize w3'.setCell _ _ = w4 at *
        have c3 := HS1.out.1.c3
        rw [HE3.out.1, HE3.out.2.2.1, HE3.out.2.2.2.2] at c3
        have cc := HS1.out.1.cc (c := c) (by rw [HE3.out.2.2.1]; exact HCN.out)
        rw [HE3.out.1] at cc
        have cz := HS1.out.1.cel.frozenAt c
        rw [HE3.out.1] at cz
        have HS2 := Lib.hid (HS1.out.1.setC (c := c) (by rw [HE3.out.2.2.1]; exact HCN.out) (i + 1))
        rw [uC_uC] at HS2
        have HW : Hid (w4.setCell ⟨G3.cb, c, none⟩ (.int .i64 ((i + 1 : Nat) : Int)) = w4.setCell ⟨G.cb, c, none⟩ (.int .i64 ((i + 1 : Nat) : Int))) := by show _ = _; rw [HE3.out.1]
        rw [HW.out] at HS2
        have tc : (c : Int) < (G.n : Int) := by have := HCN.out; omega
        go_wp2_with fail
        go_ret3
        have hm5 : Mod (fun k => G.foot b k ∨ w2.heap.size ≤ k) w2 (w4.setCell ⟨G.cb, c, none⟩ (.int .i64 ((i + 1 : Nat) : Int))) := ((HM3.out.wide (fun k e => .inl e)).trans (HS1.out.2.1.mono (G := fun k => G.foot b k ∨ w2.heap.size ≤ k) (fun k _ (e : k = g) => by
          rcases HF3.out g HS1.out.2.2 with q | q
          · exact .inl (by rw [e]; exact q)
          · exact .inr (by rw [e]; exact q.1))) (fun k _ e => e)).trans (HS2.out.2.mono (G := fun k => G.foot b k ∨ w2.heap.size ≤ k) (fun k _ e => .inl (.inr (.inl (by rw [e, HE3.out.1]))))) (fun k _ e => e)
        have hfin := InO.putD H4.out H5.out HB1.out HR1.out HAO.out HMD.out (G5 := { G3 with C := upC G3.C c (i + 1) }) HE3.out.2.1 HS2.out.1 (by
          rw [← HG3.out]
          exact HP.out.put HH.out HE.out HIS.out.2 HIS.out.1 (fun j hj => (HLV.out j hj).2) (Value.slice ao2 (i + 1) cap2) (i + 1)) (fun k e => (HF3.out k e).imp (fun q => q) (fun q => q.1)) hm5
        exact ⟨fun j h1 h2 => absurd h2 (HNO.out j h1), fun _ h => absurd h HF.out, fun _ _ => ⟨i, HIS.out.1, HIS.out.2, rfl, hfin.1, hfin.2⟩⟩
end Go.Proofs.YtlooaipipmiijaaGreat
