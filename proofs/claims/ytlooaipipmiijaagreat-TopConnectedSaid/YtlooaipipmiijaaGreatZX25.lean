/- Several texts in one: StL, StN, LcM. -/
import Derived.Test.YtlooaipipmiijaaGreatZX05
import Derived.Test.YtlooaipipmiijaaGreatZX08
import Derived.Test.YtlooaipipmiijaaGreatZX24
import Derived.Deep.RegionHeld3
import Derived.Deep.CutBlock
import Derived.Deep.DeepCutAuto
import Derived.Test.YtlooaipipmiijaaGreatProg
namespace Go.Proofs.YtlooaipipmiijaaGreat
set_option linter.unusedVariables false
set_option linter.unusedSimpArgs false
open Go.RowKit
structure CpS (w W : World) (c : Nat) (vs : List Value) : Prop where
  box : Blk W c 123 vs
  bel : Below w.heap.size w W
  cc : w.heap.size ≤ c
theorem CpS.up {w W W1 : World} {c : Nat} {vs : List Value} (h : CpS w W c vs) (hb : Below W.heap.size W W1) : CpS w W1 c vs :=
  ⟨h.box.below hb h.box.lt, bel_next h.bel hb, h.cc⟩
theorem CpS.set {w W : World} {c : Nat} {vs : List Value} (h : CpS w W c vs) (j : Nat) (v : Value) : CpS w (W.setCell ⟨c, j, none⟩ v) c (vs.set j v) :=
  ⟨h.box.set j v, h.bel.setCell h.cc v, h.cc⟩
theorem CpS.mod {w W : World} {c : Nat} {vs : List Value} (h : CpS w W c vs) (j : Nat) (v : Value) : Mod (fun x => x = c) W (W.setCell ⟨c, j, none⟩ v) := (Mod.refl (fun x => x = c) W).setCell ⟨c, j, none⟩ (fun _ => rfl) v
theorem CpS.new {w : World} {vs : List Value} : CpS w (w.alloc (.cells vs.toArray 123)) w.heap.size vs := ⟨Blk.new w _ vs, bel_alloc w _, Nat.le_refl _⟩
def SG.lists (g : SG) (gb gc : Nat → Nat) : SG := { g with gb := gb, gc := gc }
theorem SG.lists_fm (g : SG) (gb gc : Nat → Nat) (i : Int) : ((g.lists gb gc).fm i).isSome = (g.fm i).isSome := by
  unfold SG.fm SG.lists
  by_cases c : 0 ≤ i ∧ g.KI i.toNat
  · rw [if_pos c, if_pos c]; rfl
  · rw [if_neg c, if_neg c]
structure CpL (w : World) (g : SG) (c ca ta nm h1 h2 h3 r : Nat) (la : Value) (gb gc : Nat → Nat) (left : Int → Bool) (W : World) : Prop where
  box : Blk W c 123 [.int .i64 (g.V : Int), .int .i64 (g.E : Int), .int .u64 (g.last : Int), .pointer (some ⟨ca, 0, none⟩), .pointer (some ⟨ta, 0, none⟩), la, .map (some nm)]
  ar : ArO W ca g.E g.beg g.Lv (fun k => c < k ∧ k < h1)
  tb : InO W ta g.V g.LvT g.D (fun k => h1 ≤ k ∧ k < h2)
  row : W.ownsRow 0 63 7 la g.nl (lrRow g.nl g.R)
  rowb : ∀ k, la.ownBlock = some k → h2 ≤ k ∧ k < h3
  ord : c < h1 ∧ h1 ≤ h2 ∧ h2 ≤ h3 ∧ h3 ≤ nm ∧ nm < r ∧ r < W.heap.size
  map : MapK .u64 W Tryz.prog 25 nm g.c (fun i => if left i then g.fm i else (g.lists gb gc).fm i)
  rows : ∀ id, g.KI id → left (id : Int) = false → W.ownsRow 0 3 1 (.slice (some ⟨gb id, 0, none⟩) (g.inc id).length (gc id)) (g.inc id).length (natV64 (g.inc id)) ∧ r < gb id
  inj : ∀ id id', g.KI id → g.KI id' → left (id : Int) = false → left (id' : Int) = false → gb id = gb id' → id = id'
  bel : Below w.heap.size w W
  cc : w.heap.size ≤ c
theorem CpL.turn {w W W' : World} {g : SG} {c ca ta nm h1 h2 h3 r : Nat} {la : Value} {gb gc : Nat → Nat} {left : Int → Bool} (h : CpL w g c ca ta nm h1 h2 h3 r la gb gc left W) (m : Mod (fun y => y = r) W W') (hs : W'.heap.size = W.heap.size) : CpL w g c ca ta nm h1 h2 h3 r la gb gc left W' := by
  obtain ⟨o1, o2, o3, o4, o5, o6⟩ := h.ord
  refine ⟨h.box.mod m (by omega), h.ar.mod m (fun k hk => by omega), h.tb.mod m (fun k hk => by omega), owns_modL h.row m (fun k e => by have := h.rowb k e; omega), h.rowb, ⟨o1, o2, o3, o4, o5, by omega⟩, h.map.mod m (by omega), fun id hk hl => ?_, h.inj, bel_mod h.bel m (fun x e => by have := h.cc; omega), h.cc⟩
  obtain ⟨r1, r2⟩ := h.rows id hk hl
  exact ⟨owns_modL r1 m (fun k e => by injection e with e; have e' : gb id = k := e; omega), r2⟩
theorem CpL.below {w W W' : World} {g : SG} {c ca ta nm h1 h2 h3 r : Nat} {la : Value} {gb gc : Nat → Nat} {left : Int → Bool} (h : CpL w g c ca ta nm h1 h2 h3 r la gb gc left W) (m : Below W.heap.size W W') : CpL w g c ca ta nm h1 h2 h3 r la gb gc left W' := by
  obtain ⟨o1, o2, o3, o4, o5, o6⟩ := h.ord
  exact ⟨h.box.below m h.box.lt, h.ar.below m, h.tb.below m, owns_same h.row (fun k e => m.block k (h.row.lt k e).2), h.rowb, ⟨o1, o2, o3, o4, o5, Nat.lt_of_lt_of_le o6 m.size⟩, h.map.below m h.map.lt, fun id hk hl => ⟨owns_same (h.rows id hk hl).1 (fun k e => m.block k ((h.rows id hk hl).1.lt k e).2), (h.rows id hk hl).2⟩, h.inj, bel_next h.bel m, h.cc⟩
theorem CpL.round {w W W1 W2 : World} {g : SG} {c ca ta nm h1 h2 h3 r q cap : Nat} {la : Value} {gb gc : Nat → Nat} {left : Int → Bool} (h : CpL w g c ca ta nm h1 h2 h3 r la gb gc left W) {id : Nat} (hk : g.KI id) (hl : left (id : Int) = true)
    (hn : NewRow W 3 1 (g.inc id).length (natV64 (g.inc id)) (.slice (some ⟨q, 0, none⟩) (g.inc id).length cap) W1)
    (hm : MapK .u64 W2 Tryz.prog 25 nm g.c (fun j => if j = (id : Int) then some (.slice (some ⟨q, 0, none⟩) (g.inc id).length cap) else if left j then g.fm j else (g.lists gb gc).fm j)) (m : Mod (fun x => x = nm) W1 W2) :
    CpL w g c ca ta nm h1 h2 h3 r la (upF gb id q) (upF gc id cap) (fun i => left i && !decide (i = (id : Int))) W2 := by
  have h' := h.below hn.bel
  obtain ⟨o1, o2, o3, o4, o5, o6⟩ := h.ord
  have hq : W.heap.size ≤ q := hn.new q rfl
  have hs1 := hn.bel.size
  have lf : ∀ x : Nat, (left (x : Int) && !decide ((x : Int) = (id : Int))) = false → x = id ∨ (x ≠ id ∧ left (x : Int) = false) := fun x e => by
    by_cases d : x = id
    · exact .inl d
    · refine .inr ⟨d, ?_⟩
      rw [decide_eq_false (by omega), Bool.not_false, Bool.and_true] at e
      exact e
  refine ⟨h'.box.mod m (by omega), h'.ar.mod m (fun k hk => by omega), h'.tb.mod m (fun k hk => by omega), owns_modL h'.row m (fun k e => by have := h.rowb k e; omega), h.rowb, ⟨o1, o2, o3, o4, o5, by have := m.size; omega⟩, hm.congr fun i => ?_, fun x hx e => ?_, fun x y hx hy ex ey e => ?_, bel_mod h'.bel m (fun x e => by have := h.cc; omega), h.cc⟩
  · by_cases d : i = (id : Int)
    · subst d
      rw [if_pos rfl, decide_eq_true rfl, Bool.not_true, Bool.and_false, if_neg (by simp), SG.fm_yes (g := g.lists (upF gb id q) (upF gc id cap)) hk]
      unfold SG.val SG.lists
      show _ = some (Value.slice (some ⟨upF gb id q id, 0, none⟩) (g.inc id).length (upF gc id cap id))
      rw [uF_same, uF_same]
    · rw [if_neg d, decide_eq_false d, Bool.not_false, Bool.and_true]
      by_cases f : left i = true
      · rw [if_pos f, if_pos f]
      · rw [if_neg f, if_neg f]
        unfold SG.fm
        by_cases k : 0 ≤ i ∧ g.KI i.toNat
        · rw [if_pos (show 0 ≤ i ∧ (g.lists (upF gb id q) (upF gc id cap)).KI i.toNat from k), if_pos (show 0 ≤ i ∧ (g.lists gb gc).KI i.toNat from k)]
          unfold SG.val SG.lists
          show some (Value.slice (some ⟨gb i.toNat, 0, none⟩) _ (gc i.toNat)) = some (Value.slice (some ⟨upF gb id q i.toNat, 0, none⟩) _ (upF gc id cap i.toNat))
          rw [uF_ne _ _ (by omega), uF_ne _ _ (by omega)]
        · rw [if_neg (show ¬ (0 ≤ i ∧ (g.lists (upF gb id q) (upF gc id cap)).KI i.toNat) from k), if_neg (show ¬ (0 ≤ i ∧ (g.lists gb gc).KI i.toNat) from k)]
  · rcases lf x e with rfl | ⟨d, e'⟩
    · rw [uF_same, uF_same]
      exact ⟨owns_modL hn.own m (fun k e => by injection e with e; have e' : q = k := e; omega), by omega⟩
    · rw [uF_ne _ _ d, uF_ne _ _ d]
      obtain ⟨r1, r2⟩ := h'.rows x hx e'
      exact ⟨owns_modL r1 m (fun k e => by injection e with e; have e' : gb x = k := e; omega), r2⟩
  · rcases lf x ex with rfl | ⟨dx, ex'⟩
    · rcases lf y ey with rfl | ⟨dy, ey'⟩
      · rfl
      · rw [uF_same, uF_ne _ _ dy] at e
        have := ((h.rows y hy ey').1.lt (gb y) rfl).2
        omega
    · rcases lf y ey with rfl | ⟨dy, ey'⟩
      · rw [uF_same, uF_ne _ _ dx] at e
        have := ((h.rows x hx ex').1.lt (gb x) rfl).2
        omega
      · rw [uF_ne _ _ dx, uF_ne _ _ dy] at e
        exact h.inj x y hx hy ex' ey' e
structure StCy (w : World) (g : SG) (e : Ending) (w' : World) : Prop where
  ex : ∃ c g', e = .returned (.pointer (some ⟨c, 0, none⟩)) ∧ StM w' c g' ∧ StL g' ∧ g'.V = g.V ∧ g'.E = g.E ∧ g'.last = g.last ∧ g'.Lv = g.Lv ∧ g'.R = g.R ∧ g'.LvT = g.LvT ∧ g'.D = g.D ∧ g'.KI = g.KI ∧ g'.inc = g.inc ∧ (∀ k, g'.foot c k → w.heap.size ≤ k) ∧ w.heap.size ≤ c
  bel : Below w.heap.size w w'
theorem CpL.done {w W : World} {g : SG} {c ca ta nm h1 h2 h3 r : Nat} {la : Value} {gb gc : Nat → Nat} {left : Int → Bool} (h : CpL w g c ca ta nm h1 h2 h3 r la gb gc left W) (hl : ∀ i, left i = false) (hg : StL g) : StCy w g (.returned (.pointer (some ⟨c, 0, none⟩))) W := by
  classical
  obtain ⟨o1, o2, o3, o4, o5, o6⟩ := h.ord
  have hcc := h.cc
  obtain ⟨g', hg'⟩ : ∃ g' : SG, g' = ⟨g.V, g.E, g.last, ca, g.beg, g.Lv, fun k => c < k ∧ k < h1, ta, g.LvT, g.D, fun k => h1 ≤ k ∧ k < h2, la, g.nl, g.R, nm, g.KI, g.inc, gb, gc, g.c, fun k => if k = c then 0 else if k < h1 then 1 else if k < h2 then 2 else if k < h3 then 3 else if k = nm then 4 else if d : ∃ id, g.KI id ∧ gb id = k then 5 + d.choose else 0⟩ := ⟨_, rfl⟩
  have hfm : g'.fm = (g.lists gb gc).fm := by rw [hg']; rfl
  refine ⟨⟨c, g', rfl, ?_, ?_, by rw [hg'], by rw [hg'], by rw [hg'], by rw [hg'], by rw [hg'], by rw [hg'], by rw [hg'], by rw [hg'], by rw [hg'], ?_, hcc⟩, h.bel⟩
  · refine ⟨by rw [hg']; exact h.box, by rw [hg']; exact h.ar, by rw [hg']; exact h.tb, by rw [hg']; exact h.row, ?_, ?_, by rw [hg']; exact if_pos rfl, ?_, ?_, ?_, ?_, ?_⟩
    · have hm := h.map.congr (G := g'.fm) fun i => by rw [hl i, if_neg (by simp), hfm]
      rw [hg'] at hm ⊢; exact hm
    · rw [hg']
      intro id hk
      exact (h.rows id hk (hl _)).1
    · rw [hg']
      intro k hk
      have hk' : c < k ∧ k < h1 := hk
      show (if k = c then 0 else if k < h1 then 1 else _) = 1
      rw [if_neg (by omega), if_pos (by omega)]
    · rw [hg']
      intro k hk
      have hk' : h1 ≤ k ∧ k < h2 := hk
      show (if k = c then 0 else if k < h1 then 1 else if k < h2 then 2 else _) = 2
      rw [if_neg (by omega), if_neg (by omega), if_pos (by omega)]
    · rw [hg']
      intro k hk
      have hk' := h.rowb k hk
      show (if k = c then 0 else if k < h1 then 1 else if k < h2 then 2 else if k < h3 then 3 else _) = 3
      rw [if_neg (by omega), if_neg (by omega), if_neg (by omega), if_pos (by omega)]
    · rw [hg']
      show (if nm = c then 0 else if nm < h1 then 1 else if nm < h2 then 2 else if nm < h3 then 3 else if nm = nm then 4 else _) = 4
      rw [if_neg (by omega), if_neg (by omega), if_neg (by omega), if_neg (by omega), if_pos rfl]
    · rw [hg']
      intro id hk
      have hk' := (h.rows id hk (hl _)).2
      have hd : ∃ x, g.KI x ∧ gb x = gb id := ⟨id, hk, rfl⟩
      show (if gb id = c then 0 else if gb id < h1 then 1 else if gb id < h2 then 2 else if gb id < h3 then 3 else if gb id = nm then 4 else if d : ∃ x, g.KI x ∧ gb x = gb id then 5 + d.choose else 0) = 5 + id
      rw [if_neg (by omega), if_neg (by omega), if_neg (by omega), if_neg (by omega), if_neg (by omega), dif_pos hd, h.inj hd.choose id hd.choose_spec.1 hk (hl _) (hl _) hd.choose_spec.2]
  · rw [hg']
    exact ⟨hg.ids.congr rfl rfl rfl rfl rfl rfl, hg.own, hg.seq, hg.lvn, hg.lvE, hg.nl, hg.szs⟩
  · rw [hg']
    rintro k (e | e | e | e | e | ⟨id, hk, e⟩)
    · omega
    · have e' : c < k ∧ k < h1 := e
      omega
    · have e' : h1 ≤ k ∧ k < h2 := e
      omega
    · have := h.rowb k e; omega
    · have e' : k = nm := e
      omega
    · have := (h.rows id hk (hl _)).2
      have e' : gb id = k := e
      omega
end Go.Proofs.YtlooaipipmiijaaGreat

namespace Go.Proofs.YtlooaipipmiijaaGreat
set_option linter.unusedVariables false
set_option linter.unusedSimpArgs false
open Go.RowKit
theorem nodup_pig {k : Nat} {l : List Nat} (h : l.Nodup) (hb : ∀ x ∈ l, x < k) : l.length ≤ k := by
  refine pig k l.length (fun i => l.getD i 0) (fun i hi => ?_) (fun i j hi hj e => ?_)
  · have : l.getD i 0 = l[i] := by simp [List.getD_eq_getElem?_getD, List.getElem?_eq_getElem hi]
    rw [this]; exact hb _ (List.getElem_mem _)
  · have e1 : l.getD i 0 = l[i] := by simp [List.getD_eq_getElem?_getD, List.getElem?_eq_getElem hi]
    have e2 : l.getD j 0 = l[j] := by simp [List.getD_eq_getElem?_getD, List.getElem?_eq_getElem hj]
    have e' : l[i] = l[j] := by rw [← e1, ← e2]; exact e
    exact (List.getElem_inj h).1 e'
structure MpS (c nm id n : Nat) (F : Int → Option Value) (w w' : World) : Prop where
  cell : w'.cell? ⟨c, 6, none⟩ = some (.map (some nm))
  mod : Mod (fun x => x = nm) w w'
  ex : ∃ F', MapK .u64 w' Tryz.prog 25 nm n F' ∧ (F' (id : Int)).isSome = true ∧ ∀ j, j ≠ (id : Int) → F' j = F j
theorem mp_keep {c nm id n : Nat} {F : Int → Option Value} {w w' : World} (h : MpS c nm id n F w w') : w'.cell? ⟨c, 6, none⟩ = some (.map (some nm)) ∧ MpS c nm id n F w w' := ⟨h.cell, h⟩
theorem mp_drew {c nm id n : Nat} {F : Int → Option Value} {w w' : World} (h : MpS c nm id n F w w') : MpS c nm id n F w w'.drew := by
  obtain ⟨F', h1, h2⟩ := h.ex
  exact ⟨h.cell, h.mod.drew, F', h1, h2⟩
theorem mp_up {c nm id n : Nat} {F : Int → Option Value} {w w' w2 : World} (h : MpS c nm id n F w w') (hb : Below w'.heap.size w' w2) : MpS c nm id n F w w2 := by
  obtain ⟨F', h1, h2⟩ := h.ex
  exact ⟨(hb.cell (World.block_lt_of_cell? w' _ h.cell)).trans h.cell, h.mod.trans (Mod.of_below hb) (fun x _ e => e), F', h1.below hb h1.lt, h2⟩
theorem mp_put {c nm id n : Nat} {F : Int → Option Value} {w w' : World} (h : MpS c nm id n F w w') (hc : c ≠ nm) (hn : n < maxLen) (hw : (Lit.int .u64 (id : Int)).wf = true) (v : Value) :
    ∃ w3, (Instr.mapUpdate 121 (.map (some nm)) (.int .u64 (id : Int)) v).run Tryz.prog w' = .ok () w3 ∧ MpS c nm id n F w w3 ∧ MapK .u64 w3 Tryz.prog 25 nm n (fun j => if j = (id : Int) then some v else F j) ∧ Mod (fun x => x = nm) w' w3 := by
  obtain ⟨F', h1, h2, h3⟩ := h.ex
  obtain ⟨w3, k1, k2, k3⟩ := h1.store Tryz.underlying25 Tryz.underlying121 hn hw v
  rw [if_pos h2] at k2
  have k4 : MapK .u64 w3 Tryz.prog 25 nm n (fun j => if j = (id : Int) then some v else F j) := k2.congr fun j => by
    by_cases e : j = (id : Int)
    · rw [if_pos e, if_pos e]
    · rw [if_neg e, if_neg e, h3 j e]
  refine ⟨w3, k1, ⟨(k3.cell (World.block_lt_of_cell? w' _ h.cell) hc).trans h.cell, h.mod.trans k3 (fun x _ e => e), _, k4, by rw [if_pos rfl]; rfl, fun j e => if_neg e⟩, k4, k3⟩
theorem mp_row {c nm id n m : Nat} {F : Int → Option Value} {w w' : World} {T : TypeId} {size : Nat} {v : Value} {xs : List Value} (h : MpS c nm id n F w w') (ho : w.ownsRow 0 T size v m xs) (hv : ∀ k, v.ownBlock = some k → k ≠ nm) : w'.ownsRow 0 T size v m xs :=
  owns_modL ho h.mod hv
theorem natV64_one (l : List Nat) : ∀ u ∈ natV64 l, u.oneCell' = true := by
  intro u hu
  unfold natV64 at hu
  obtain ⟨i, _, rfl⟩ := List.mem_map.1 hu
  rfl
set_option maxHeartbeats 8000000 in
set_option maxRecDepth 100000 in
theorem st_copy (w : World) (b : Nat) (g : SG) (h : StM w b g) (hl : StL g) : Calls Tryz.prog 29 #[.pointer (some ⟨b, 0, none⟩)] w (StCy w g) := by
  have HL := Lib.hid hl
  have H := Lib.hid h
  have HV := Lib.hid (st_valid b g.mb w h.s6)
  obtain ⟨ao, cp, hlv⟩ := owns_slice h.row
  have HLV := Lib.hid hlv
  have HP0 := Lib.hid (CpS.new (w := w) (vs := [.int .i64 (g.V : Int), .int .i64 (g.E : Int), .int .u64 (g.last : Int), .pointer (some ⟨g.ab, 0, none⟩), .pointer (some ⟨g.tb, 0, none⟩), .slice ao g.nl cp, .map (some g.mb)]))
  have c0 := h.box.cell (i := 0) rfl
  have c1 := h.box.cell (i := 1) rfl
  have c2 := h.box.cell (i := 2) rfl
  have c3 := h.box.cell (i := 3) rfl
  have c4 := h.box.cell (i := 4) rfl
  have c5 := h.box.cell (i := 5) rfl
  have c6 := h.box.cell (i := 6) rfl
  rw [hlv] at c5
  clear h hl hlv
  go_enter Tryz.func29, Tryz.ntmps29
  go_upto_region 4 with (go_at_call 58; refine HV.out.mono ?_; rintro e w' ⟨rfl, rfl⟩)
  clear c0 c1 c2 c3 c4 c5 c6 HV
  have HB0 := Lib.hid HP0.out.bel
  have HS0 : Hid ((w.alloc (.cells #[.int .i64 (g.V : Int), .int .i64 (g.E : Int), .int .u64 (g.last : Int), .pointer (some ⟨g.ab, 0, none⟩), .pointer (some ⟨g.tb, 0, none⟩), .slice ao g.nl cp, .map (some g.mb)] 123)).heap.size = w.heap.size + 1) := by show _ = _; simp
  generalize hW0 : w.alloc (.cells #[.int .i64 (g.V : Int), .int .i64 (g.E : Int), .int .u64 (g.last : Int), .pointer (some ⟨g.ab, 0, none⟩), .pointer (some ⟨g.tb, 0, none⟩), .slice ao g.nl cp, .map (some g.mb)] 123) = W0 at *
  generalize hcc : w.heap.size = c at *
  clear hW0
  have H0 := Lib.hid (H.out.below (by rw [hcc]; exact HB0.out))
  have c3 := H0.out.s3
  have HAC := Lib.hid (ar_copy W0 g.ab g.E g.beg g.Lv g.FA H0.out.ar)
  go_upto_region 5 with (go_at_call 65; refine HAC.out.mono ?_; rintro e w1 ⟨⟨ca, rfl, hao, hnc⟩, hb⟩; have HP1 := Lib.hid (HP0.out.up hb); have HAO := Lib.hid hao.tight; have HB1 := Lib.hid hb; have d3 := HP1.out.box.cell (i := 3) rfl; have f3 := HP1.out.box.free 3; clear hao hnc hb)
  clear c3 d3 f3
  have HP2 : Hid (CpS w (w1.setCell ⟨c, 3, none⟩ (.pointer (some ⟨ca, 0, none⟩))) c [.int .i64 (g.V : Int), .int .i64 (g.E : Int), .int .u64 (g.last : Int), .pointer (some ⟨ca, 0, none⟩), .pointer (some ⟨g.tb, 0, none⟩), .slice ao g.nl cp, .map (some g.mb)]) := Lib.hid (HP1.out.set 3 _)
  have HM1 := Lib.hid (HP1.out.mod 3 (.pointer (some ⟨ca, 0, none⟩)))
  have HA2 : Hid (ArO (w1.setCell ⟨c, 3, none⟩ (.pointer (some ⟨ca, 0, none⟩))) ca g.E g.beg g.Lv (fun k => c < k ∧ k < w1.heap.size)) :=
    (HAO.out.mod HM1.out (fun k hk => by have := HS0.out; omega)).wide (fun k hk => ⟨by have := HS0.out; omega, hk.2⟩)
  have HZ1 : Hid (c < w1.heap.size) := by show _ < _; have := HS0.out; have := HB1.out.size; omega
  have HS2 : Hid ((w1.setCell ⟨c, 3, none⟩ (.pointer (some ⟨ca, 0, none⟩))).heap.size = w1.heap.size) := World.size_setCell _ _ _
  generalize hW2 : w1.setCell ⟨c, 3, none⟩ (.pointer (some ⟨ca, 0, none⟩)) = W2 at *
  generalize hz1 : w1.heap.size = z1 at *
  clear hW2 HM1 HP1 HB1 HAO HAC HP0 HB0 H0 HS0
  have H2 := Lib.hid (H.out.below (by rw [hcc]; have := HP2.out.bel; rwa [hcc] at this))
  have c4 := H2.out.s4
  have HTC := Lib.hid (in_copy W2 g.tb g.V g.LvT g.D g.FT H2.out.tb)
  go_upto_region 6 with (go_at_call 66; refine HTC.out.mono ?_; rintro e w3 ⟨⟨ta, rfl, hio, hnc⟩, hb⟩; have HP3 := Lib.hid (HP2.out.up hb); have HIO := Lib.hid hio.tight; have HB3 := Lib.hid hb; have d4 := HP3.out.box.cell (i := 4) rfl; have f4 := HP3.out.box.free 4; clear hio hnc hb)
  clear c4 d4 f4
  have HP4 : Hid (CpS w (w3.setCell ⟨c, 4, none⟩ (.pointer (some ⟨ta, 0, none⟩))) c [.int .i64 (g.V : Int), .int .i64 (g.E : Int), .int .u64 (g.last : Int), .pointer (some ⟨ca, 0, none⟩), .pointer (some ⟨ta, 0, none⟩), .slice ao g.nl cp, .map (some g.mb)]) := Lib.hid (HP3.out.set 4 _)
  have HM3 := Lib.hid (HP3.out.mod 4 (.pointer (some ⟨ta, 0, none⟩)))
  have HA4 := Lib.hid ((HA2.out.below HB3.out).mod HM3.out (fun k hk => by omega))
  have HI4 : Hid (InO (w3.setCell ⟨c, 4, none⟩ (.pointer (some ⟨ta, 0, none⟩))) ta g.V g.LvT g.D (fun k => z1 ≤ k ∧ k < w3.heap.size)) :=
    (HIO.out.mod HM3.out (fun k hk => by have := HS2.out; have := HZ1.out; omega)).wide (fun k hk => ⟨by have := HS2.out; omega, hk.2⟩)
  have HZ3 : Hid (z1 ≤ w3.heap.size) := by show _ ≤ _; have := HS2.out; have := HB3.out.size; omega
  have HS4 : Hid ((w3.setCell ⟨c, 4, none⟩ (.pointer (some ⟨ta, 0, none⟩))).heap.size = w3.heap.size) := World.size_setCell _ _ _
  generalize hW4 : w3.setCell ⟨c, 4, none⟩ (.pointer (some ⟨ta, 0, none⟩)) = W4 at *
  generalize hz3 : w3.heap.size = z3 at *
  clear hW4 HM3 HP3 HB3 HIO HTC HP2 H2 HS2 HA2
  have H4 := Lib.hid (H.out.below (by rw [hcc]; have := HP4.out.bel; rwa [hcc] at this))
  have c5 := H4.out.s5
  rw [HLV.out] at c5
  have HLC := Lib.hid (clone_live W4 (.slice ao g.nl cp) g.nl (lrRow g.nl g.R) (by have := H4.out.row; rwa [HLV.out] at this) (by have := HL.out.nl; omega) (lrRow_one _ _))
  go_upto_region 7 with (go_at_call 67; refine HLC.out.mono ?_; rintro e w5 ⟨v, rfl, hrow⟩; obtain ⟨ao3, cp3, rfl⟩ := owns_slice hrow.own; have hb := hrow.bel; have HP5 := Lib.hid (HP4.out.up hb); have HRO := Lib.hid hrow; have HB5 := Lib.hid hb; have d5 := HP5.out.box.cell (i := 5) rfl; have f5 := HP5.out.box.free 5; clear hrow hb)
  clear c5 d5 f5
  have HP6 : Hid (CpS w (w5.setCell ⟨c, 5, none⟩ (.slice ao3 g.nl cp3)) c [.int .i64 (g.V : Int), .int .i64 (g.E : Int), .int .u64 (g.last : Int), .pointer (some ⟨ca, 0, none⟩), .pointer (some ⟨ta, 0, none⟩), .slice ao3 g.nl cp3, .map (some g.mb)]) := Lib.hid (HP5.out.set 5 _)
  have HM5 := Lib.hid (HP5.out.mod 5 (.slice ao3 g.nl cp3))
  have HA6 := Lib.hid ((HA4.out.below HB5.out).mod HM5.out (fun k hk => by omega))
  have HI6 := Lib.hid ((HI4.out.below HB5.out).mod HM5.out (fun k hk => by have := HZ1.out; omega))
  have HR6 := Lib.hid (owns_modL HRO.out.own HM5.out (fun k e => by have := HRO.out.new k e; have := HS4.out; have := HZ1.out; have := HZ3.out; omega))
  have HR7 : Hid (∀ k, (Value.slice ao3 g.nl cp3).ownBlock = some k → z3 ≤ k ∧ k < w5.heap.size) := by
    show ∀ k, _
    intro k e
    have := HRO.out.new k e
    have := HS4.out
    exact ⟨by omega, (HRO.out.own.lt k e).2⟩
  have HZ5 : Hid (z3 ≤ w5.heap.size) := by show _ ≤ _; have := HS4.out; have := HB5.out.size; omega
  have HS6 : Hid ((w5.setCell ⟨c, 5, none⟩ (.slice ao3 g.nl cp3)).heap.size = w5.heap.size) := World.size_setCell _ _ _
  generalize hW6 : w5.setCell ⟨c, 5, none⟩ (.slice ao3 g.nl cp3) = W6 at *
  generalize hz5 : w5.heap.size = z5 at *
  clear hW6 HM5 HP5 HB5 HRO HLC HP4 H4 HS4 HA4 HI4
  have H6 := Lib.hid (H.out.below (by rw [hcc]; have := HP6.out.bel; rwa [hcc] at this))
  have c6 := H6.out.s6
  have HMC := Lib.hid (clone_inc H6.out.map)
  go_upto_region 8 with (go_at_call 68; refine HMC.out.mono ?_; rintro e w7 ⟨rfl, hmk, hb⟩; have HP7 := Lib.hid (HP6.out.up hb); have HMK := Lib.hid hmk; have HB7 := Lib.hid hb; have d6 := HP7.out.box.cell (i := 6) rfl; have f6 := HP7.out.box.free 6; clear hmk hb)
  clear c6 d6 f6
  have HNM := HS6
  generalize hnm : W6.heap.size = nm at *
  have HP8 : Hid (CpS w (w7.setCell ⟨c, 6, none⟩ (.map (some nm))) c [.int .i64 (g.V : Int), .int .i64 (g.E : Int), .int .u64 (g.last : Int), .pointer (some ⟨ca, 0, none⟩), .pointer (some ⟨ta, 0, none⟩), .slice ao3 g.nl cp3, .map (some nm)]) := Lib.hid (HP7.out.set 6 _)
  have HM7 := Lib.hid (HP7.out.mod 6 (.map (some nm)))
  have HB7' : Hid (Below W6.heap.size W6 w7) := by show Below _ _ _; rw [hnm]; exact HB7.out
  have HA8 := Lib.hid ((HA6.out.below HB7'.out).mod HM7.out (fun k hk => by omega))
  have HI8 := Lib.hid ((HI6.out.below HB7'.out).mod HM7.out (fun k hk => by have := HZ1.out; omega))
  have HR8 := Lib.hid (owns_modL (owns_same HR6.out (fun k e => HB7'.out.block k (HR6.out.lt k e).2)) HM7.out (fun k e => by have := HR7.out k e; have := HZ1.out; have := HZ3.out; omega))
  have HK8 := Lib.hid (HMK.out.mod HM7.out (by have := HNM.out; have := HZ1.out; have := HZ3.out; have := HZ5.out; omega))
  have HS8 : Hid (nm < (w7.setCell ⟨c, 6, none⟩ (.map (some nm))).heap.size) := HK8.out.lt
  generalize hW8 : w7.setCell ⟨c, 6, none⟩ (.map (some nm)) = W8 at *
  clear hW8 HM7 HP7 HB7 HB7' HMK HMC HP6 H6 HS6 HA6 HI6 HR6
  have H8 := Lib.hid (H.out.below (by rw [hcc]; have := HP8.out.bel; rwa [hcc] at this))
  have c6 := H8.out.s6
  go_wp2_with (at_range; refine wpList_rangeK rfl _ rfl Tryz.underlying25 Tryz.underlying121 rfl H8.out.map ?_; intro w9 hrg hb9; have HRG := Lib.hid hrg; have HB9 := Lib.hid hb9; clear hrg hb9)
  have HIT : Hid (CpL w g c ca ta nm z1 z3 z5 W8.heap.size (.slice ao3 g.nl cp3) (fun _ => 0) (fun _ => 0) (fun i => (g.fm i).isSome) w9) := by
    have hv : ∀ id, g.KI id → ¬ (g.fm (id : Int)).isSome = false := fun id hk => by rw [SG.fm_yes hk]; simp
    refine ⟨(HP8.out.up HB9.out).box, HA8.out.below HB9.out, HI8.out.below HB9.out, owns_same HR8.out (fun k e => HB9.out.block k (HR8.out.lt k e).2), HR7.out, ⟨HZ1.out, HZ3.out, HZ5.out, by have := HNM.out; omega, HS8.out, HRG.out.lt⟩, (HK8.out.below HB9.out HK8.out.lt).congr fun i => ?_, fun id hk e => absurd e (hv id hk), fun id _ hk _ e => absurd e (hv id hk), bel_next HP8.out.bel HB9.out, HP8.out.cc⟩
    by_cases e : (g.fm i).isSome = true
    · rw [if_pos e]
    · rw [if_neg e]
      have e1 : g.fm i = none := by simpa using e
      have e2 : ((g.lists (fun _ => 0) (fun _ => 0)).fm i).isSome = false := by rw [SG.lists_fm, e1]; rfl
      rw [e1]
      exact (by simpa using e2 : (g.lists (fun _ => 0) (fun _ => 0)).fm i = none).symm
  have HRN := Lib.hid HRG.out.ne
  generalize W8.heap.size = r at *
  have HCS := Lib.hid (show w.heap.size = c from hcc)
  clear HP8 HA8 HI8 HR8 HK8 HS8 H8 HB9 c6 HR7
  go_frame
  go_loopw [] (fun wr => ∃ left cnt gb gc, RgK .u64 wr Tryz.prog 25 g.mb r g.c g.fm left cnt ∧ CpL w g c ca ta nm z1 z3 z5 r (.slice ao3 g.nl cp3) gb gc left wr) (fun wr => wr.rangeLeft g.mb r)
  case atStart => exact ⟨_, _, _, _, HRG.out, HIT.out⟩
  case round =>
    obtain ⟨left, cnt, gb, gc, hrg, hcp⟩ := hrel
    have HRK := Lib.hid hrg
    have HCP := Lib.hid hcp
    clear hrg hcp HRG HIT
    go_wp2_with (at_next; refine wpList_nextK rfl _ rfl Tryz.underlying25 rfl HRK.out ?_ ?_)
    · intro hc hl
      have HFIN := Lib.hid (HCP.out.done hl HL.out)
      go_wp2_with fail
      go_ret
      exact HFIN.out
    · intro x v w1 cnt1 hwx hlx hfx hrg1 hlt hm1 hs1 hen
      obtain ⟨id, hid⟩ : ∃ id : Nat, x = (id : Int) := by
        unfold SG.fm at hfx
        by_cases e : 0 ≤ x ∧ g.KI x.toNat
        · exact ⟨x.toNat, by omega⟩
        · rw [if_neg e] at hfx; cases hfx
      subst hid
      have hk : g.KI id := by
        unfold SG.fm at hfx
        by_cases e : 0 ≤ (id : Int) ∧ g.KI ((id : Int)).toNat
        · exact e.2
        · rw [if_neg e] at hfx; cases hfx
      have hv : v = g.val id := by rw [SG.fm_yes hk] at hfx; injection hfx with hfx; exact hfx.symm
      subst hv
      have HK := Lib.hid hk
      have HLX := Lib.hid hlx
      have HWX := Lib.hid hwx
      have HR1 := Lib.hid hrg1
      have HLT := Lib.hid hlt
      have HCP1 := Lib.hid (HCP.out.turn hm1 hs1)
      have HE1 := Lib.hid (HRK.out.left_eq)
      have HIN := Lib.hid ((HL.out.ids.inc id hk))
      have HNZ : Hid (0 < (g.inc id).length ∧ (g.inc id).length ≤ 1048576) := by
        obtain ⟨s, hs⟩ := (HL.out.ids.known id).1 hk
        have hm := (HIN.out s).2 hs
        refine ⟨List.length_pos_of_mem hm, ?_⟩
        have h1 := nodup_pig (HL.out.ids.nod id hk) (fun x hx => HL.out.lvn x ((HIN.out x).1 hx).1)
        have h2 := HL.out.nl
        omega
      have HSR : Hid (w1.ownsRow 0 3 1 (g.val id) (g.inc id).length (natV64 (g.inc id))) := (H.out.below (by rw [HCS.out]; have := HCP1.out.bel; rwa [HCS.out] at this)).rows id hk
      have C6 := Lib.hid (HCP1.out.box.cell (i := 6) rfl)
      clear hk hlx hwx hfx hrg1 hlt hm1 hs1 HCP HRK
      unfold SG.val at *
      go_upto_region 11 with fail
      have HM0 : Hid (MpS c nm id g.c (fun j => if left j then g.fm j else (g.lists gb gc).fm j) w1 w1) :=
        ⟨C6.out, Mod.refl _ _, _, HCP1.out.map, by show (if left (id : Int) = true then _ else _ : Option Value).isSome = true; rw [if_pos HLX.out, SG.fm_yes HK.out]; rfl, fun j _ => rfl⟩
      have HCN : Hid (c ≠ nm) := by show c ≠ nm; have := HCP1.out.ord; omega
      have HGM : Hid (g.gb id ≠ nm) := by show _ ≠ _; have := H.out.gbl HK.out; have := HCP1.out.ord; have := HCS.out; omega
      have HGC : Hid (g.c < maxLen) := by show _ < _; rw [HL.out.ids.cnt]; have := cntP_le (P := g.LvT) g.V; have := HL.out.szs; unfold maxLen; omega
      generalize hF : (fun j => if left j then g.fm j else (g.lists gb gc).fm j) = Fo at *
      have HF := Lib.hid hF
      clear hF
      go_region_held3 (fun w' => w'.cell? ⟨c, 6, none⟩ = some (.map (some nm)) ∧ MpS c nm id g.c Fo w1 w')
        (((try go_split_ands); refine mp_keep ?_; first | assumption | exact HM0.out | exact mp_drew HM0.out | exact mp_drew (by assumption)))
        ((go_at_call 69; (try go_split_ands); refine (clone_int _ (.slice (some ⟨g.gb id, 0, none⟩) (g.inc id).length (g.gc id)) (g.inc id).length (natV64 (g.inc id)) (mp_row (by assumption) HSR.out (fun k e => by injection e with e; have e' : g.gb id = k := e; have := HGM.out; omega)) HNZ.out.2 (natV64_one _)).mono ?_; rintro e w2 ⟨v, rfl, hrow⟩; obtain ⟨q, cp9, rfl, _⟩ := owns_form hrow.own HNZ.out.1; have hmp2 := mp_up (by assumption) hrow.bel; have HQ := Lib.hid hrow; obtain ⟨w3, hst, hmp3, hmk, hmd⟩ := mp_put hmp2 HCN.out HGC.out HWX.out (.slice (some ⟨q, 0, none⟩) (g.inc id).length cp9); have HMK := Lib.hid hmk; have HMD := Lib.hid hmd; clear hrow hmk hmd))
      all_goals
        have HDR := Lib.hid ((Below.refl w1.heap.size w1).drew)
        have HFC : Hid (CpL w g c ca ta nm z1 z3 z5 r (.slice ao3 g.nl cp3) (upF gb id q) (upF gc id cp9) (fun i => left i && !decide (i = (id : Int))) w3) :=
          (HCP1.out.below HDR.out).round HK.out HLX.out HQ.out (by rw [← HF.out] at HMK; exact HMK.out) HMD.out
        have HFR : Hid (RgK .u64 w3 Tryz.prog 25 g.mb r g.c g.fm (fun i => left i && !decide (i = (id : Int))) cnt1) :=
          ((HR1.out.below HDR.out).below HQ.out.bel).mod HMD.out (by have := H.out.map.lt; have := HCP1.out.ord; have := HCS.out; omega) (by have := HCP1.out.ord; omega)
        have HFM : Hid (w3.rangeLeft g.mb r < wr.rangeLeft g.mb r) := by
          show _ < _
          rw [HFR.out.left_eq, HE1.out]; exact HLT.out
        go_wp2_with fail
        go_roundw
        case rel => exact ⟨_, _, _, _, HFR.out, HFC.out⟩
        case measure => exact HFM.out
end Go.Proofs.YtlooaipipmiijaaGreat

namespace Go.Proofs.YtlooaipipmiijaaGreat
set_option linter.unusedVariables false
set_option linter.unusedSimpArgs false
open Go.RowKit
def ndc (v : Nd) : Nat → Value
  | 0 => .int .i64 (v.k0 : Int)
  | 1 => .int .i64 (v.k1 : Int)
  | 2 => .int .i64 (v.up : Int)
  | 3 => .bool v.fl
  | 4 => .int .i64 v.key
  | 5 => .int .i64 v.sz
  | 6 => .int .i64 (v.fst : Int)
  | 7 => .int .i64 v.lt
  | _ => .int .i64 v.tot
def ndCells (m : Nat) (N : NS) : List Value := (List.range (m * 9)).map fun q => ndc (N (q / 9)) (q % 9)
theorem nd_get {m : Nat} {N : NS} {i j : Nat} (hi : i < m) (hj : j < 9) : (ndCells m N)[i * 9 + j]? = some (ndc (N i) j) := by
  unfold ndCells
  rw [List.getElem?_map, List.getElem?_range (by omega)]
  show some (ndc (N ((i * 9 + j) / 9)) ((i * 9 + j) % 9)) = _
  rw [show (i * 9 + j) / 9 = i by omega, show (i * 9 + j) % 9 = j by omega]
theorem nd_set {m : Nat} {N : NS} {i j : Nat} {v : Nd} (hi : i < m) (hj : j < 9) (h : ∀ r, r < 9 → r ≠ j → ndc v r = ndc (N i) r) : (ndCells m N).set (i * 9 + j) (ndc v j) = ndCells m (updN N i v) := by
  unfold ndCells
  apply List.ext_getElem (by simp)
  intro q h1 h2
  rw [List.getElem_set]
  simp only [List.getElem_map, List.getElem_range]
  by_cases e : i * 9 + j = q
  · rw [if_pos e, show q / 9 = i by omega, show q % 9 = j by omega, uN_same]
  · rw [if_neg e]
    by_cases e2 : q / 9 = i
    · rw [e2, uN_same, h (q % 9) (by omega) (by omega)]
    · rw [uN_ne _ _ e2]
def BdN (n : Nat) (N : NS) : Prop := ∀ x, x ≤ n → (N x).k0 ≤ n ∧ (N x).k1 ≤ n ∧ (N x).up ≤ n ∧ (N x).fst ≤ n
theorem BdN.upd {n : Nat} {N : NS} (h : BdN n N) (i : Nat) {v : Nd} (hv : v.k0 ≤ n ∧ v.k1 ≤ n ∧ v.up ≤ n ∧ v.fst ≤ n) : BdN n (updN N i v) := fun x hx => by
  by_cases e : x = i
  · subst e; rw [uN_same]; exact hv
  · rw [uN_ne _ _ e]; exact h x hx
theorem setK_bd {n : Nat} {v : Nd} {s : Bool} {k : Nat} (hv : v.k0 ≤ n ∧ v.k1 ≤ n ∧ v.up ≤ n ∧ v.fst ≤ n) (hk : k ≤ n) : (v.setK s k).k0 ≤ n ∧ (v.setK s k).k1 ≤ n ∧ (v.setK s k).up ≤ n ∧ (v.setK s k).fst ≤ n := by
  obtain ⟨a, b, c, d⟩ := hv
  cases s
  · exact ⟨hk, b, c, d⟩
  · exact ⟨a, hk, c, d⟩
theorem BdN.kid {n : Nat} {N : NS} (h : BdN n N) {i : Nat} (s : Bool) (hi : i ≤ n) : kid N s i ≤ n := by
  obtain ⟨a, b, _⟩ := h i hi
  cases s
  · exact a
  · exact b
structure LObj (w : World) (p g n : Nat) (N : NS) (ed : Int) : Prop where
  mem : ∃ cap rest, Blk w p 174 [.pointer (some ⟨p, 0, none⟩), .slice (some ⟨g, 0, none⟩) (n + 1) cap, .int .i64 ed] ∧ Blk w g 171 (ndCells (n + 1) N ++ rest) ∧ (n + 1) * 9 + rest.length = cap * 9 ∧ cap ≤ maxLen
  ne : p ≠ g
  bd : BdN n N
  nb : n ≤ 1000000
section
variable {w w' : World} {p g n : Nat} {N : NS} {ed : Int}
theorem LObj.box (h : LObj w p g n N ed) : ∃ cap, Blk w p 174 [.pointer (some ⟨p, 0, none⟩), .slice (some ⟨g, 0, none⟩) (n + 1) cap, .int .i64 ed] := by obtain ⟨c, r, h1, _⟩ := h.mem; exact ⟨c, h1⟩
theorem LObj.row (h : LObj w p g n N ed) : ∃ rest, Blk w g 171 (ndCells (n + 1) N ++ rest) := by obtain ⟨c, r, _, h1, _⟩ := h.mem; exact ⟨r, h1⟩
theorem LObj.c0 (h : LObj w p g n N ed) : w.cell? ⟨p, 0, none⟩ = some (.pointer (some ⟨p, 0, none⟩)) := h.box.elim fun _ h => h.cell (i := 0) rfl
theorem LObj.c1 (h : LObj w p g n N ed) : ∃ cap, w.cell? ⟨p, 1, none⟩ = some (.slice (some ⟨g, 0, none⟩) (n + 1) cap) := h.box.elim fun c h => ⟨c, h.cell (i := 1) rfl⟩
theorem LObj.c2 (h : LObj w p g n N ed) : w.cell? ⟨p, 2, none⟩ = some (.int .i64 ed) := h.box.elim fun _ h => h.cell (i := 2) rfl
theorem nd_len (m : Nat) (N : NS) : (ndCells m N).length = m * 9 := by unfold ndCells; rw [List.length_map, List.length_range]
theorem LObj.at_ (h : LObj w p g n N ed) {i : Nat} (hi : i ≤ n) (j : Nat) (hj : j < 9) : w.cell? ⟨g, i * 9 + j, none⟩ = some (ndc (N i) j) := h.row.elim fun _ h => h.cell (by
  rw [List.getElem?_append_left (by rw [nd_len]; omega)]
  exact nd_get (by omega) hj)
theorem LObj.fr (h : LObj w p g n N ed) (q : Nat) : w.frozen? ⟨g, q, none⟩ = false := h.row.elim fun _ h => h.free q
theorem LObj.pfr (h : LObj w p g n N ed) (q : Nat) : w.frozen? ⟨p, q, none⟩ = false := h.box.elim fun _ h => h.free q
theorem LObj.plt (h : LObj w p g n N ed) : p < w.heap.size := h.box.elim fun _ h => h.lt
theorem LObj.glt (h : LObj w p g n N ed) : g < w.heap.size := h.row.elim fun _ h => h.lt
theorem LObj.mod {F : Nat → Prop} (h : LObj w p g n N ed) (m : Mod F w w') (h1 : ¬ F p) (h2 : ¬ F g) : LObj w' p g n N ed := ⟨h.mem.imp fun _ h => h.imp fun _ h => ⟨h.1.mod m h1, h.2.1.mod m h2, h.2.2⟩, h.ne, h.bd, h.nb⟩
theorem LObj.below (h : LObj w p g n N ed) (m : Below w.heap.size w w') : LObj w' p g n N ed := ⟨h.mem.imp fun _ h => h.imp fun _ h => ⟨h.1.below m h.1.lt, h.2.1.below m h.2.1.lt, h.2.2⟩, h.ne, h.bd, h.nb⟩
theorem LObj.set (h : LObj w p g n N ed) {i j : Nat} {v : Nd} (hi : i ≤ n) (hj : j < 9) (hv : v.k0 ≤ n ∧ v.k1 ≤ n ∧ v.up ≤ n ∧ v.fst ≤ n) (hr : ∀ r, r < 9 → r ≠ j → ndc v r = ndc (N i) r) {u : Value} (hu : u = ndc v j) :
    LObj (w.setCell ⟨g, i * 9 + j, none⟩ u) p g n (updN N i v) ed := by
  subst hu
  refine ⟨h.mem.imp fun _ h' => h'.imp fun rest hb => ⟨hb.1.other ⟨g, i * 9 + j, none⟩ _ h.ne, ?_, hb.2.2⟩, h.ne, h.bd.upd i hv, h.nb⟩
  have := hb.2.1.set (i * 9 + j) (ndc v j)
  rw [List.set_append_left _ _ (by rw [nd_len]; omega), nd_set (by omega) hj hr] at this
  exact this
end
theorem updN_twice (N : NS) (i : Nat) (u v : Nd) : updN (updN N i u) i v = updN N i v := by
  funext x
  by_cases e : x = i
  · subst e; rw [uN_same, uN_same]
  · rw [uN_ne _ _ e, uN_ne _ _ e, uN_ne _ _ e]
structure LPost (w : World) (p g n : Nat) (N' : NS) (ed : Int) (v : Value) (e : Ending) (w' : World) : Prop where
  val : e = .returned v
  obj : LObj w' p g n N' ed
  mod : Mod (fun x => x = g) w w'
set_option maxHeartbeats 4000000 in
set_option maxRecDepth 100000 in
theorem lc_before (w : World) (p g n : Nat) (N : NS) (ed : Int) (h : LObj w p g n N ed) (i j : Nat) (hi : i ≤ n) (hj : j ≤ n) :
    Calls Tryz.prog 138 #[.pointer (some ⟨p, 0, none⟩), .int .i64 (i : Int), .int .i64 (j : Int)] w (RetB (.bool (befB N i j)) w) := by
  obtain ⟨cap1, c1⟩ := h.c1
  have q1 := h.at_ hi 4 (by omega)
  have q2 := h.at_ hj 4 (by omega)
  have hn := h.nb
  have g1 : (i : Int) < (n + 1 : Nat) := by omega
  have g2 : (0 : Int) ≤ (i : Int) := by omega
  have g3 : (j : Int) < (n + 1 : Nat) := by omega
  have g4 : (0 : Int) ≤ (j : Int) := by omega
  replace q1 : w.cell? ⟨g, i * 9 + 4, none⟩ = some (.int .i64 (N i).key) := q1
  replace q2 : w.cell? ⟨g, j * 9 + 4, none⟩ = some (.int .i64 (N j).key) := q2
  obtain ⟨x, HX⟩ : ∃ x, Hid ((N i).key = x) := ⟨_, rfl⟩
  obtain ⟨y, HY⟩ : ∃ x, Hid ((N j).key = x) := ⟨_, rfl⟩
  have HB : Hid (befB N i j = (decide (x < y) || (decide (x = y) && decide (i < j)))) := by show _ = _; unfold befB; rw [HX.out, HY.out]
  rw [HX.out] at q1
  rw [HY.out] at q2
  clear h
  go_enter Tryz.func138, Tryz.ntmps138
  go_wp2_with fail
  go_quiet (fail)
  have hb : Below w.heap.size w (w.drewN nq) := bel_drewN (Below.refl _ _) nq
  by_cases h1 : x < y
  · have t1 : decide (x < y) = true := decide_eq_true h1
    have HR : Hid (befB N i j = true) := by show _ = _; rw [HB.out, t1]; rfl
    clear h1 HB
    go_wp2_with fail
    go_ret
    exact ⟨by rw [HR.out]; rfl, hb⟩
  · have t1 : decide (x < y) = false := decide_eq_false h1
    by_cases h2 : x = y
    · subst h2
      by_cases h3 : i < j
      · have t3 : decide (i < j) = true := decide_eq_true h3
        have t3' : decide ((i : Int) < (j : Int)) = true := decide_eq_true (by omega)
        have HR : Hid (befB N i j = true) := by show _ = _; rw [HB.out, t1, t3]; simp
        clear h1 h3 HB
        go_wp2_with fail
        go_ret
        exact ⟨by rw [HR.out]; rfl, hb⟩
      · have t3 : decide (i < j) = false := decide_eq_false h3
        have t3' : decide ((i : Int) < (j : Int)) = false := decide_eq_false (by omega)
        have HR : Hid (befB N i j = false) := by show _ = _; rw [HB.out, t1, t3]; simp
        clear h1 h3 HB
        go_wp2_with fail
        go_ret
        exact ⟨by rw [HR.out]; rfl, hb⟩
    · have t2 : (x == y) = false := by simpa using h2
      have t2' : decide (x = y) = false := decide_eq_false h2
      have HR : Hid (befB N i j = false) := by show _ = _; rw [HB.out, t1, t2']; rfl
      clear h1 h2 HB
      go_wp2_with fail
      go_ret
      exact ⟨by rw [HR.out]; rfl, hb⟩
end Go.Proofs.YtlooaipipmiijaaGreat
