/- Several texts in one: WnA, DueP, TpP, WnB. -/
import Derived.Test.YtlooaipipmiijaaGreatZX04
import Derived.Test.YtlooaipipmiijaaGreatZX05
import Derived.Test.YtlooaipipmiijaaGreatZX09
import Derived.Test.YtlooaipipmiijaaGreatZX17
import Derived.Test.YtlooaipipmiijaaGreatZX33
namespace Go.Proofs.YtlooaipipmiijaaGreat
set_option linter.unusedVariables false
set_option linter.unusedSimpArgs false
open Go.RowKit
structure WnG where
  W : Int
  E : Nat
  V : Nat
  D : Int
  now : Int
  cp : Nat
  sp : Nat
  ep : Nat
  qp : Nat
  fp : Nat
  g : SG
  Q : List Ent
  qg : HG
  f : FoG
  add : Nat
  exp : Nat
  col : Nat → Nat
structure WnM (w : World) (b : Nat) (G : WnG) : Prop where
  box : Blk w b 56 [.int .i64 G.W, .int .i64 (G.E : Int), .int .i64 (G.V : Int), .int .i64 G.D, .pointer (some ⟨G.cp, 0, none⟩), .pointer (some ⟨G.sp, 0, none⟩), .pointer (some ⟨G.ep, 0, none⟩), .pointer (some ⟨G.fp, 0, none⟩), .int .u64 (G.add : Int), .int .u64 (G.exp : Int)]
  clk : ClkO w G.cp G.W G.now
  sto : StM w G.sp G.g
  sch : EObj w G.ep G.E G.Q G.qp G.qg
  fo : FoM w G.fp G.f
  k0 : G.col b = 0
  k1 : G.col G.cp = 1
  k2 : ∀ k, G.g.foot G.sp k → k < w.heap.size ∧ G.col k = 2
  k3 : ∀ k, (k = G.ep ∨ G.qg.foot k) → G.col k = 3
  k4 : ∀ k, G.f.foot G.fp k → G.col k = 4
def WnG.foot (G : WnG) (b k : Nat) : Prop := k = b ∨ k = G.cp ∨ G.g.foot G.sp k ∨ (k = G.ep ∨ G.qg.foot k) ∨ G.f.foot G.fp k
section
variable {w w' : World} {b : Nat} {G : WnG}
theorem WnM.foot_lt (h : WnM w b G) : ∀ k, G.foot b k → k < w.heap.size := by
  rintro k (rfl | rfl | e | e | e)
  · exact h.box.lt
  · exact h.clk.box.lt
  · exact (h.k2 k e).1
  · exact h.sch.lt k e.symm
  · exact h.fo.foot_lt k e
theorem WnM.c2 (h : WnM w b G) : w.cell? ⟨b, 2, none⟩ = some (.int .i64 (G.V : Int)) := h.box.cell (i := 2) rfl
theorem WnM.c4 (h : WnM w b G) : w.cell? ⟨b, 4, none⟩ = some (.pointer (some ⟨G.cp, 0, none⟩)) := h.box.cell (i := 4) rfl
theorem WnM.c5 (h : WnM w b G) : w.cell? ⟨b, 5, none⟩ = some (.pointer (some ⟨G.sp, 0, none⟩)) := h.box.cell (i := 5) rfl
theorem WnM.c6 (h : WnM w b G) : w.cell? ⟨b, 6, none⟩ = some (.pointer (some ⟨G.ep, 0, none⟩)) := h.box.cell (i := 6) rfl
theorem WnM.c7 (h : WnM w b G) : w.cell? ⟨b, 7, none⟩ = some (.pointer (some ⟨G.fp, 0, none⟩)) := h.box.cell (i := 7) rfl
theorem WnM.c8 (h : WnM w b G) : w.cell? ⟨b, 8, none⟩ = some (.int .u64 (G.add : Int)) := h.box.cell (i := 8) rfl
theorem WnM.c9 (h : WnM w b G) : w.cell? ⟨b, 9, none⟩ = some (.int .u64 (G.exp : Int)) := h.box.cell (i := 9) rfl
theorem WnM.below (h : WnM w b G) (m : Below w.heap.size w w') : WnM w' b G :=
  ⟨h.box.below m h.box.lt, h.clk.below m, h.sto.below m, h.sch.below m, h.fo.below m, h.k0, h.k1, fun k hk => ⟨Nat.lt_of_lt_of_le (h.k2 k hk).1 m.size, (h.k2 k hk).2⟩, h.k3, h.k4⟩
theorem WnM.mod {M : Nat → Prop} (h : WnM w b G) (m : Mod M w w') (hF : ∀ k, G.foot b k → ¬ M k) : WnM w' b G :=
  ⟨h.box.mod m (hF _ (.inl rfl)), h.clk.mod m (hF _ (.inr (.inl rfl))), h.sto.mod m (fun k hk => hF k (.inr (.inr (.inl hk)))), h.sch.mod m (fun k hk => hF k (.inr (.inr (.inr (.inl (.inr hk)))))) (hF _ (.inr (.inr (.inr (.inl (.inl rfl)))))), h.fo.mod m (fun k hk => hF k (.inr (.inr (.inr (.inr hk))))), h.k0, h.k1, fun k hk => ⟨Nat.lt_of_lt_of_le (h.k2 k hk).1 m.size, (h.k2 k hk).2⟩, h.k3, h.k4⟩
structure WnS (b : Nat) (G : WnG) (w : World) (G' : WnG) (w' : World) : Prop where
  mem : WnM w' b G'
  mod : Mod (G.foot b) w w'
  ft : ∀ k, G'.foot b k → G.foot b k ∨ w.heap.size ≤ k
theorem WnS.refl (h : WnM w b G) : WnS b G w G w := ⟨h, Mod.refl _ _, fun _ h => .inl h⟩
theorem WnS.trans {G1 G2 : WnG} {w1 w2 : World} (h : WnS b G w G1 w1) (k : WnS b G1 w1 G2 w2) : WnS b G w G2 w2 := by
  have hs := h.mod.size
  refine ⟨k.mem, h.mod.trans k.mod fun x hx hf => ?_, fun x hx => ?_⟩
  · rcases h.ft x hf with a | a
    · exact a
    · omega
  · rcases k.ft x hx with a | a
    · exact h.ft x a
    · exact .inr (by omega)
theorem WnS.below {G1 : WnG} {w1 w2 : World} (h : WnS b G w G1 w1) (k : Below w1.heap.size w1 w2) : WnS b G w G1 w2 :=
  ⟨h.mem.below k, h.mod.trans (Mod.of_below (F := fun _ => False) k) (fun _ _ e => e.elim), h.ft⟩
theorem WnS.box {G1 : WnG} {w1 : World} (h : WnS b G w G1 w1) {x : Nat} {T : TypeId} {cs : List Value} (hb : Blk w x T cs) (hn : ¬ G.foot b x) : Blk w1 x T cs ∧ ¬ G1.foot b x :=
  ⟨hb.mod h.mod hn, fun e => by
    have := hb.lt
    rcases h.ft x e with a | a
    · exact hn a
    · omega⟩
theorem WnM.sClk (h : WnM w b G) {now' : Int} (m : Mod (fun x => x = G.cp) w w') (ho : ClkO w' G.cp G.W now') : WnS b G w { G with now := now' } w' := by
  have nb : ∀ k, G.col k ≠ 1 → ¬ k = G.cp := fun k hk e => hk (by rw [e]; exact h.k1)
  exact ⟨⟨h.box.mod m (nb b (by rw [h.k0]; decide)), ho, h.sto.mod m (fun k hk => nb k (by rw [(h.k2 k hk).2]; decide)), h.sch.mod m (fun k hk => nb k (by rw [h.k3 k (.inr hk)]; decide)) (nb _ (by rw [h.k3 _ (.inl rfl)]; decide)), h.fo.mod m (fun k hk => nb k (by rw [h.k4 k hk]; decide)), h.k0, h.k1, fun k hk => ⟨Nat.lt_of_lt_of_le (h.k2 k hk).1 m.size, (h.k2 k hk).2⟩, h.k3, h.k4⟩,
    m.wide (fun k e => .inr (.inl e)), fun k e => .inl e⟩
theorem SG.tight_foot {g : SG} {sp : Nat} {w : World} (h : StM w sp g) : ∀ k, ({ g with FA := fun k => g.FA k ∧ k < w.heap.size, FT := fun k => g.FT k ∧ k < w.heap.size } : SG).foot sp k → k < w.heap.size ∧ g.foot sp k := by
  rintro k (e | e | e | e | e | ⟨id, h1, e⟩)
  · exact ⟨by rw [e]; exact h.box.lt, .inl e⟩
  · exact ⟨e.2, .inr (.inl e.1)⟩
  · exact ⟨e.2, .inr (.inr (.inl e.1))⟩
  · exact ⟨(h.row.lt k e).2, .inr (.inr (.inr (.inl e)))⟩
  · exact ⟨by rw [show k = g.mb from e]; exact h.map.lt, .inr (.inr (.inr (.inr (.inl e))))⟩
  · exact ⟨by rw [← show g.gb id = k from e]; exact h.gbl h1, .inr (.inr (.inr (.inr (.inr ⟨id, h1, e⟩))))⟩
theorem WnM.sSto (h : WnM w b G) {g' : SG} (s : StS G.sp G.g w g' w') : WnS b G w { G with g := { g' with FA := fun k => g'.FA k ∧ k < w'.heap.size, FT := fun k => g'.FT k ∧ k < w'.heap.size }, col := reco w G.col 2 } w' := by
  have m := s.mod
  have nb : ∀ k, G.col k ≠ 2 → ¬ G.g.foot G.sp k := fun k hk e => hk (h.k2 k e).2
  have fl := h.foot_lt
  have tf := SG.tight_foot s.mem
  refine ⟨⟨h.box.mod m (nb b (by rw [h.k0]; decide)), h.clk.mod m (nb _ (by rw [h.k1]; decide)), s.mem.tight, h.sch.mod m (fun k hk => nb k (by rw [h.k3 k (.inr hk)]; decide)) (nb _ (by rw [h.k3 _ (.inl rfl)]; decide)), h.fo.mod m (fun k hk => nb k (by rw [h.k4 k hk]; decide)),
    (reco_lt h.box.lt).trans h.k0, (reco_lt h.clk.box.lt).trans h.k1, fun k hk => ⟨(tf k hk).1, ?_⟩, fun k hk => (reco_lt (fl k (.inr (.inr (.inr (.inl hk)))))).trans (h.k3 k hk), fun k hk => (reco_lt (h.fo.foot_lt k hk)).trans (h.k4 k hk)⟩,
    m.wide (fun k e => .inr (.inr (.inl e))), fun k e => ?_⟩
  · rcases s.ft k (tf k hk).2 with e | e
    · exact (reco_lt (h.k2 k e).1).trans (h.k2 k e).2
    · exact reco_ge e
  · rcases e with e | e | e | e | e
    · exact .inl (.inl e)
    · exact .inl (.inr (.inl e))
    · exact (s.ft k (tf k e).2).imp (fun e => .inr (.inr (.inl e))) id
    · exact .inl (.inr (.inr (.inr (.inl e))))
    · exact .inl (.inr (.inr (.inr (.inr e))))
theorem WnM.sSch (h : WnM w b G) {Q' : List Ent} {qg' : HG} (m : Mod G.qg.foot w w') (ho : EObj w' G.ep G.E Q' G.qp qg') (hf : ∀ k, qg'.foot k → G.qg.foot k ∨ w.heap.size ≤ k) : WnS b G w { G with Q := Q', qg := qg', col := reco w G.col 3 } w' := by
  have nb : ∀ k, G.col k ≠ 3 → ¬ G.qg.foot k := fun k hk e => hk (h.k3 k (.inr e))
  refine ⟨⟨h.box.mod m (nb b (by rw [h.k0]; decide)), h.clk.mod m (nb _ (by rw [h.k1]; decide)), h.sto.mod m (fun k hk => nb k (by rw [(h.k2 k hk).2]; decide)), ho, h.fo.mod m (fun k hk => nb k (by rw [h.k4 k hk]; decide)),
    (reco_lt h.box.lt).trans h.k0, (reco_lt h.clk.box.lt).trans h.k1, fun k hk => ⟨Nat.lt_of_lt_of_le (h.k2 k hk).1 m.size, (reco_lt (h.k2 k hk).1).trans (h.k2 k hk).2⟩, fun k hk => ?_, fun k hk => (reco_lt (h.fo.foot_lt k hk)).trans (h.k4 k hk)⟩,
    m.wide (fun k e => .inr (.inr (.inr (.inl (.inr e))))), fun k e => ?_⟩
  · have old : ∀ k, (k = G.ep ∨ G.qg.foot k) → reco w G.col 3 k = 3 := fun k e => (reco_lt (h.foot_lt k (.inr (.inr (.inr (.inl e)))))).trans (h.k3 k e)
    rcases hk with e | e
    · exact old k (.inl e)
    · rcases hf k e with e | e
      · exact old k (.inr e)
      · exact reco_ge e
  · rcases e with e | e | e | (e | e) | e
    · exact .inl (.inl e)
    · exact .inl (.inr (.inl e))
    · exact .inl (.inr (.inr (.inl e)))
    · exact .inl (.inr (.inr (.inr (.inl (.inl e)))))
    · exact (hf k e).imp (fun e => .inr (.inr (.inr (.inl (.inr e))))) id
    · exact .inl (.inr (.inr (.inr (.inr e))))
theorem WnM.sFo (h : WnM w b G) {f' : FoG} (s : FoS G.fp G.f w f' w') : WnS b G w { G with f := f', col := reco w G.col 4 } w' := by
  have m := s.mod
  have nb : ∀ k, G.col k ≠ 4 → ¬ G.f.foot G.fp k := fun k hk e => hk (h.k4 k e)
  refine ⟨⟨h.box.mod m (nb b (by rw [h.k0]; decide)), h.clk.mod m (nb _ (by rw [h.k1]; decide)), h.sto.mod m (fun k hk => nb k (by rw [(h.k2 k hk).2]; decide)), h.sch.mod m (fun k hk => nb k (by rw [h.k3 k (.inr hk)]; decide)) (nb _ (by rw [h.k3 _ (.inl rfl)]; decide)), s.mem,
    (reco_lt h.box.lt).trans h.k0, (reco_lt h.clk.box.lt).trans h.k1, fun k hk => ⟨Nat.lt_of_lt_of_le (h.k2 k hk).1 m.size, (reco_lt (h.k2 k hk).1).trans (h.k2 k hk).2⟩, fun k hk => (reco_lt (h.foot_lt k (.inr (.inr (.inr (.inl hk)))))).trans (h.k3 k hk), fun k hk => ?_⟩,
    m.wide (fun k e => .inr (.inr (.inr (.inr e)))), fun k e => ?_⟩
  · rcases s.ft k hk with e | e
    · exact (reco_lt (h.fo.foot_lt k e)).trans (h.k4 k e)
    · exact reco_ge e
  · rcases e with e | e | e | e | e
    · exact .inl (.inl e)
    · exact .inl (.inr (.inl e))
    · exact .inl (.inr (.inr (.inl e)))
    · exact .inl (.inr (.inr (.inr (.inl e))))
    · exact (s.ft k e).imp (fun e => .inr (.inr (.inr (.inr e)))) id
theorem WnM.boxMod (h : WnM w b G) {j : Nat} {v : Value} : Mod (fun x => x = b) w (w.setCell ⟨b, j, none⟩ v) := (Mod.refl (fun x => x = b) w).setCell ⟨b, j, none⟩ (fun _ => rfl) v
theorem WnM.sAdd (h : WnM w b G) (n : Nat) : WnS b G w { G with add := n } (w.setCell ⟨b, 8, none⟩ (.int .u64 (n : Int))) := by
  have m := h.boxMod (j := 8) (v := .int .u64 (n : Int))
  have nb : ∀ k, G.col k ≠ 0 → ¬ k = b := fun k hk e => hk (by rw [e]; exact h.k0)
  exact ⟨⟨h.box.set 8 _, h.clk.mod m (nb _ (by rw [h.k1]; decide)), h.sto.mod m (fun k hk => nb k (by rw [(h.k2 k hk).2]; decide)), h.sch.mod m (fun k hk => nb k (by rw [h.k3 k (.inr hk)]; decide)) (nb _ (by rw [h.k3 _ (.inl rfl)]; decide)), h.fo.mod m (fun k hk => nb k (by rw [h.k4 k hk]; decide)), h.k0, h.k1, fun k hk => ⟨Nat.lt_of_lt_of_le (h.k2 k hk).1 m.size, (h.k2 k hk).2⟩, h.k3, h.k4⟩,
    m.wide (fun k e => .inl e), fun k e => .inl e⟩
theorem WnM.sExp (h : WnM w b G) (n : Nat) : WnS b G w { G with exp := n } (w.setCell ⟨b, 9, none⟩ (.int .u64 (n : Int))) := by
  have m := h.boxMod (j := 9) (v := .int .u64 (n : Int))
  have nb : ∀ k, G.col k ≠ 0 → ¬ k = b := fun k hk e => hk (by rw [e]; exact h.k0)
  exact ⟨⟨h.box.set 9 _, h.clk.mod m (nb _ (by rw [h.k1]; decide)), h.sto.mod m (fun k hk => nb k (by rw [(h.k2 k hk).2]; decide)), h.sch.mod m (fun k hk => nb k (by rw [h.k3 k (.inr hk)]; decide)) (nb _ (by rw [h.k3 _ (.inl rfl)]; decide)), h.fo.mod m (fun k hk => nb k (by rw [h.k4 k hk]; decide)), h.k0, h.k1, fun k hk => ⟨Nat.lt_of_lt_of_le (h.k2 k hk).1 m.size, (h.k2 k hk).2⟩, h.k3, h.k4⟩,
    m.wide (fun k e => .inl e), fun k e => .inl e⟩
end
theorem Tryz.neqClk (w : World) (a : Addr) : (binOp .neq 51 (.pointer (some a)) (.pointer none)).run Tryz.prog w = .ok (.bool true) w := by kernel_rfl
set_option maxHeartbeats 400000 in
theorem wn_valid (b cp : Nat) (w : World) (h4 : w.cell? ⟨b, 4, none⟩ = some (.pointer (some ⟨cp, 0, none⟩))) :
    Calls Tryz.prog 18 #[.pointer (some ⟨b, 0, none⟩)] w (Ret (.bool true) w) := by
  go_enter Tryz.func18, Tryz.ntmps18
  go_wp2
  go_ret
  exact ⟨rfl, rfl⟩
set_option maxHeartbeats 400000 in
theorem wn_now (w : World) (b : Nat) (G : WnG) (h : WnM w b G) :
    Calls Tryz.prog 12 #[.pointer (some ⟨b, 0, none⟩)] w (Ret (.int .i64 G.now) w) := by
  have HV := Lib.hid (wn_valid b G.cp w h.c4)
  have HN := Lib.hid (clk_now w G.cp G.W G.now h.clk)
  have c4 := h.c4
  clear h
  go_enter Tryz.func12, Tryz.ntmps12
  go_wp2_with (first | (go_at_call 18; refine HV.out.mono ?_; rintro e w' ⟨rfl, rfl⟩) | (go_at_call 32; refine HN.out.mono ?_; rintro e w' ⟨rfl, rfl⟩))
  go_ret
  exact ⟨rfl, rfl⟩
end Go.Proofs.YtlooaipipmiijaaGreat

namespace Go.Proofs.YtlooaipipmiijaaGreat
set_option linter.unusedVariables false
set_option linter.unusedSimpArgs false
def isDue (now : Int) (e : Ent) : Bool := decide (e.2 ≤ now)
theorem due_filter {S : List Ent} (hs : Sorted S) (now : Int) : S.takeWhile (isDue now) = S.filter (isDue now) ∧ S.dropWhile (isDue now) = S.filter (fun e => !isDue now e) := by
  induction S with
  | nil => exact ⟨rfl, rfl⟩
  | cons x l ih =>
    obtain ⟨hx, hl⟩ := List.pairwise_cons.1 hs
    obtain ⟨i1, i2⟩ := ih hl
    by_cases h : isDue now x = true
    · simp [List.takeWhile_cons, List.dropWhile_cons, h, i1, i2]
    · have hall : ∀ y ∈ l, ¬ isDue now y = true := fun y hy => by
        have := hx y hy
        simp only [isDue, decide_eq_true_eq] at h ⊢
        unfold elt at this
        omega
      have f1 : l.filter (isDue now) = [] := List.filter_eq_nil_iff.2 hall
      have f2 : l.filter (fun e => !isDue now e) = l := List.filter_eq_self.2 fun y hy => by simp [hall y hy]
      simp [List.takeWhile_cons, List.dropWhile_cons, h, f1, f2]
end Go.Proofs.YtlooaipipmiijaaGreat

namespace Go.Proofs.YtlooaipipmiijaaGreat
set_option linter.unusedVariables false
set_option linter.unusedSimpArgs false
structure Rcd where
  u : Nat
  v : Nat
  wt : Int
  t : Int
def addI (l : List Nat) (x : Nat) : List Nat := if x ∈ l then l else l ++ [x]
def addR (l : List Nat) (r : Rcd) : List Nat := addI (addI l r.u) r.v
def idsL (l : List Rcd) : List Nat := l.foldl addR []
def stpR (t : Int) (out : List Nat) (r : Rcd) : List Nat := if r.t < t then out else if r.u ∈ out ∧ r.v ∉ out then out ++ [r.v] else if r.v ∈ out ∧ r.u ∉ out then out ++ [r.u] else out
def pasL (l : List Rcd) (t : Int) (out : List Nat) : List Nat := l.foldl (stpR t) out
def itN (f : List Nat → List Nat) : Nat → List Nat → List Nat
  | 0, o => o
  | n + 1, o => f (itN f n o)
def rchL (l : List Rcd) (x : Nat) (t : Int) : List Nat := itN (pasL l t) l.length [x]
def RL (l : List Rcd) (t : Int) (x y : Nat) : Prop := ∃ r, r ∈ l ∧ t ≤ r.t ∧ (r.u = x ∧ r.v = y ∨ r.u = y ∧ r.v = x)
theorem RL.sym {l : List Rcd} {t : Int} : ∀ x y, RL l t x y → RL l t y x := fun x y ⟨r, h1, h2, h3⟩ => ⟨r, h1, h2, h3.symm⟩
theorem mem_addI {l : List Nat} {x y : Nat} : y ∈ addI l x ↔ y ∈ l ∨ y = x := by
  unfold addI
  by_cases c : x ∈ l
  · rw [if_pos c]; exact ⟨.inl, fun h => h.elim id fun e => e ▸ c⟩
  · rw [if_neg c, List.mem_append, List.mem_singleton]
theorem nodup_snoc {l : List Nat} {x : Nat} (h : l.Nodup) (hx : x ∉ l) : (l ++ [x]).Nodup := by
  refine List.nodup_append.2 ⟨h, List.nodup_cons.2 ⟨List.not_mem_nil, List.nodup_nil⟩, fun a ha b hb e => ?_⟩
  rw [List.mem_singleton] at hb
  exact hx (by rw [← hb, ← e]; exact ha)
theorem nodup_addI {l : List Nat} {x : Nat} (h : l.Nodup) : (addI l x).Nodup := by
  unfold addI
  by_cases c : x ∈ l
  · rw [if_pos c]; exact h
  · rw [if_neg c]; exact nodup_snoc h c
theorem mem_foldR {y : Nat} : ∀ (l : List Rcd) (o : List Nat), y ∈ l.foldl addR o ↔ y ∈ o ∨ ∃ r, r ∈ l ∧ (r.u = y ∨ r.v = y)
  | [], o => ⟨.inl, fun h => h.elim id fun ⟨_, h, _⟩ => absurd h List.not_mem_nil⟩
  | r :: l, o => by
    show y ∈ l.foldl addR (addR o r) ↔ _
    rw [mem_foldR l (addR o r)]
    unfold addR
    rw [mem_addI, mem_addI]
    constructor
    · rintro (((h | h) | h) | ⟨q, h1, h2⟩)
      · exact .inl h
      · exact .inr ⟨r, List.mem_cons_self, .inl h.symm⟩
      · exact .inr ⟨r, List.mem_cons_self, .inr h.symm⟩
      · exact .inr ⟨q, List.mem_cons_of_mem _ h1, h2⟩
    · rintro (h | ⟨q, h1, h2⟩)
      · exact .inl (.inl (.inl h))
      · rcases List.mem_cons.1 h1 with e | e
        · subst e
          rcases h2 with h2 | h2
          · exact .inl (.inl (.inr h2.symm))
          · exact .inl (.inr h2.symm)
        · exact .inr ⟨q, e, h2⟩
theorem mem_idsL {y : Nat} {l : List Rcd} : y ∈ idsL l ↔ ∃ r, r ∈ l ∧ (r.u = y ∨ r.v = y) := by
  unfold idsL
  rw [mem_foldR]
  exact ⟨fun h => h.elim (fun h => absurd h List.not_mem_nil) id, .inr⟩
theorem nodup_foldR : ∀ (l : List Rcd) (o : List Nat), o.Nodup → (l.foldl addR o).Nodup
  | [], _, h => h
  | r :: l, o, h => nodup_foldR l (addR o r) (nodup_addI (nodup_addI h))
theorem nodup_idsL (l : List Rcd) : (idsL l).Nodup := nodup_foldR l [] List.nodup_nil
theorem idsL_snoc (l : List Rcd) (r : Rcd) : idsL (l ++ [r]) = addR (idsL l) r := by unfold idsL; rw [List.foldl_append]; rfl
theorem stp_cases (t : Int) (out : List Nat) (r : Rcd) : stpR t out r = out ∧ (t ≤ r.t → (r.u ∈ out ↔ r.v ∈ out)) ∨ ∃ x y, stpR t out r = out ++ [y] ∧ x ∈ out ∧ y ∉ out ∧ t ≤ r.t ∧ (r.u = x ∧ r.v = y ∨ r.u = y ∧ r.v = x) := by
  unfold stpR
  by_cases c : r.t < t
  · rw [if_pos c]; exact .inl ⟨rfl, fun k => absurd k (by omega)⟩
  rw [if_neg c]
  by_cases c1 : r.u ∈ out ∧ r.v ∉ out
  · rw [if_pos c1]; exact .inr ⟨r.u, r.v, rfl, c1.1, c1.2, by omega, .inl ⟨rfl, rfl⟩⟩
  rw [if_neg c1]
  by_cases c2 : r.v ∈ out ∧ r.u ∉ out
  · rw [if_pos c2]; exact .inr ⟨r.v, r.u, rfl, c2.1, c2.2, by omega, .inr ⟨rfl, rfl⟩⟩
  rw [if_neg c2]
  exact .inl ⟨rfl, fun _ => ⟨fun h => Classical.byContradiction fun k => c1 ⟨h, k⟩, fun h => Classical.byContradiction fun k => c2 ⟨h, k⟩⟩⟩
theorem pas_sub {t : Int} {x : Nat} : ∀ (l : List Rcd) (out : List Nat), x ∈ out → x ∈ pasL l t out
  | [], _, h => h
  | r :: l, out, h => by
    show x ∈ pasL l t (stpR t out r)
    refine pas_sub l _ ?_
    rcases stp_cases t out r with ⟨e, _⟩ | ⟨_, y, e, _⟩
    · rw [e]; exact h
    · rw [e]; exact List.mem_append_left _ h
theorem pas_len {t : Int} : ∀ (l : List Rcd) (out : List Nat), out.length ≤ (pasL l t out).length
  | [], _ => Nat.le_refl _
  | r :: l, out => by
    show _ ≤ (pasL l t (stpR t out r)).length
    refine Nat.le_trans ?_ (pas_len l _)
    rcases stp_cases t out r with ⟨e, _⟩ | ⟨_, y, e, _⟩
    · rw [e]; exact Nat.le_refl _
    · rw [e, List.length_append]; omega
theorem pas_nodup {t : Int} : ∀ (l : List Rcd) (out : List Nat), out.Nodup → (pasL l t out).Nodup
  | [], _, h => h
  | r :: l, out, h => by
    show (pasL l t (stpR t out r)).Nodup
    refine pas_nodup l _ ?_
    rcases stp_cases t out r with ⟨e, _⟩ | ⟨_, y, e, _, hy, _⟩
    · rw [e]; exact h
    · rw [e]; exact nodup_snoc h hy
theorem pas_fix {t : Int} : ∀ (l : List Rcd) (out : List Nat), pasL l t out = out → ∀ r, r ∈ l → t ≤ r.t → (r.u ∈ out ↔ r.v ∈ out)
  | [], _, _, r, h, _ => absurd h List.not_mem_nil
  | r :: l, out, hf, q, hq, ht => by
    have hf' : pasL l t (stpR t out r) = out := hf
    rcases stp_cases t out r with ⟨e, h⟩ | ⟨_, y, e, _⟩
    · rw [e] at hf'
      rcases List.mem_cons.1 hq with c | c
      · subst c; exact h ht
      · exact pas_fix l out hf' q c ht
    · rw [e] at hf'
      have := pas_len (t := t) l (out ++ [y])
      rw [hf', List.length_append] at this
      exact absurd this (by simp)
theorem pas_new {t : Int} : ∀ (l : List Rcd) (out : List Nat), pasL l t out ≠ out → ∃ r, r ∈ l ∧ t ≤ r.t ∧ ¬ (r.u ∈ out ∧ r.v ∈ out) ∧ r.u ∈ pasL l t out ∧ r.v ∈ pasL l t out
  | [], _, h => absurd rfl h
  | r :: l, out, h => by
    have h' : pasL l t (stpR t out r) ≠ out := h
    show ∃ q, q ∈ r :: l ∧ t ≤ q.t ∧ ¬ (q.u ∈ out ∧ q.v ∈ out) ∧ q.u ∈ pasL l t (stpR t out r) ∧ q.v ∈ pasL l t (stpR t out r)
    rcases stp_cases t out r with ⟨e, _⟩ | ⟨x, y, e, hx, hy, ht, k⟩
    · rw [e] at h' ⊢
      obtain ⟨q, h1, h2⟩ := pas_new l out h'
      exact ⟨q, List.mem_cons_of_mem _ h1, h2⟩
    · rw [e]
      have m1 : x ∈ pasL l t (out ++ [y]) := pas_sub l _ (List.mem_append_left _ hx)
      have m2 : y ∈ pasL l t (out ++ [y]) := pas_sub l _ (List.mem_append_right _ (List.mem_singleton.2 rfl))
      refine ⟨r, List.mem_cons_self, ht, ?_, ?_⟩
      · rcases k with ⟨k1, k2⟩ | ⟨k1, k2⟩
        · rw [k2]; exact fun c => hy c.2
        · rw [k1]; exact fun c => hy c.1
      · rcases k with ⟨k1, k2⟩ | ⟨k1, k2⟩
        · rw [k1, k2]; exact ⟨m1, m2⟩
        · rw [k1, k2]; exact ⟨m2, m1⟩
def ful (l : List Rcd) (t : Int) (out : List Nat) : Nat := l.countP fun r => decide (t ≤ r.t ∧ r.u ∈ out ∧ r.v ∈ out)
theorem countP_lt {α : Type} {p q : α → Bool} : ∀ l : List α, (∀ r, r ∈ l → p r = true → q r = true) → (∃ r, r ∈ l ∧ q r = true ∧ p r = false) → l.countP p + 1 ≤ l.countP q
  | [], _, ⟨_, h, _⟩ => absurd h List.not_mem_nil
  | a :: l, hi, ⟨r, hr, hq, hp⟩ => by
    have hmono : l.countP p ≤ l.countP q := List.countP_mono_left fun x hx => hi x (List.mem_cons_of_mem _ hx)
    rw [List.countP_cons, List.countP_cons]
    rcases List.mem_cons.1 hr with c | c
    · subst c
      rw [hp, hq]
      simp
      omega
    · have ih := countP_lt l (fun x hx => hi x (List.mem_cons_of_mem _ hx)) ⟨r, c, hq, hp⟩
      by_cases d : p a = true
      · rw [if_pos d, if_pos (hi a List.mem_cons_self d)]; omega
      · rw [if_neg d]
        split <;> omega
theorem ful_up {l : List Rcd} {t : Int} {out : List Nat} (h : pasL l t out ≠ out) : ful l t out + 1 ≤ ful l t (pasL l t out) := by
  refine countP_lt l (fun r hr k => ?_) ?_
  · have := of_decide_eq_true k
    exact decide_eq_true ⟨this.1, pas_sub l _ this.2.1, pas_sub l _ this.2.2⟩
  · obtain ⟨r, h1, h2, h3, h4, h5⟩ := pas_new l out h
    exact ⟨r, h1, decide_eq_true ⟨h2, h4, h5⟩, decide_eq_false fun k => h3 k.2⟩
theorem it_fix (l : List Rcd) (t : Int) (o : List Nat) : ∀ n, pasL l t (itN (pasL l t) n o) = itN (pasL l t) n o ∨ n ≤ ful l t (itN (pasL l t) n o)
  | 0 => .inr (Nat.zero_le _)
  | n + 1 => by
    show pasL l t (pasL l t (itN (pasL l t) n o)) = pasL l t (itN (pasL l t) n o) ∨ n + 1 ≤ ful l t (pasL l t (itN (pasL l t) n o))
    by_cases c : pasL l t (itN (pasL l t) n o) = itN (pasL l t) n o
    · exact .inl (by rw [c, c])
    · rcases it_fix l t o n with h | h
      · exact absurd h c
      · have := ful_up c
        exact .inr (by omega)
theorem rch_fix (l : List Rcd) (x : Nat) (t : Int) : pasL l t (rchL l x t) = rchL l x t := by
  unfold rchL
  rcases it_fix l t [x] l.length with h | h
  · exact h
  · refine Classical.byContradiction fun c => ?_
    have h1 := ful_up c
    have h2 : ful l t (pasL l t (itN (pasL l t) l.length [x])) ≤ l.length := List.countP_le_length
    omega
theorem pas_rch {L : List Rcd} {t : Int} {x : Nat} : ∀ (l : List Rcd) (out : List Nat), (∀ r, r ∈ l → r ∈ L) → (∀ y, y ∈ out → Rch (RL L t) x y) → ∀ y, y ∈ pasL l t out → Rch (RL L t) x y
  | [], _, _, h => h
  | r :: l, out, hl, h => by
    show ∀ y, y ∈ pasL l t (stpR t out r) → _
    refine pas_rch l _ (fun q hq => hl q (List.mem_cons_of_mem _ hq)) ?_
    rcases stp_cases t out r with ⟨e, _⟩ | ⟨a, b, e, ha, hb, ht, k⟩
    · rw [e]; exact h
    · rw [e]
      intro y hy
      rcases List.mem_append.1 hy with hy | hy
      · exact h y hy
      · rw [List.mem_singleton.1 hy]
        exact .step (h a ha) ⟨r, hl r List.mem_cons_self, ht, k⟩
theorem it_rch {l : List Rcd} {t : Int} {x : Nat} : ∀ n y, y ∈ itN (pasL l t) n [x] → Rch (RL l t) x y
  | 0, y, h => by rw [List.mem_singleton.1 h]; exact .refl
  | n + 1, y, h => pas_rch l _ (fun _ h => h) (it_rch n) y h
theorem it_self {l : List Rcd} {t : Int} {x : Nat} : ∀ n, x ∈ itN (pasL l t) n [x]
  | 0 => List.mem_singleton.2 rfl
  | n + 1 => pas_sub l _ (it_self n)
theorem it_nodup {l : List Rcd} {t : Int} {x : Nat} : ∀ n, (itN (pasL l t) n [x]).Nodup
  | 0 => List.nodup_cons.2 ⟨List.not_mem_nil, List.nodup_nil⟩
  | n + 1 => pas_nodup l _ (it_nodup n)
theorem nodup_rchL (l : List Rcd) (x : Nat) (t : Int) : (rchL l x t).Nodup := it_nodup _
theorem mem_rchL {l : List Rcd} {x y : Nat} {t : Int} : y ∈ rchL l x t ↔ Rch (RL l t) x y := by
  refine ⟨it_rch _ y, fun h => ?_⟩
  refine h.stay (S := fun z => z ∈ rchL l x t) (fun a b ha ⟨r, h1, h2, h3⟩ => ?_) (it_self _)
  have := pas_fix l _ (rch_fix l x t) r h1 h2
  rcases h3 with ⟨e1, e2⟩ | ⟨e1, e2⟩
  · rw [e1, e2] at this; exact this.1 ha
  · rw [e1, e2] at this; exact this.2 ha
theorem rch_ids {l : List Rcd} {x y : Nat} {t : Int} (h : Rch (RL l t) x y) : x = y ∨ (x ∈ idsL l ∧ y ∈ idsL l) := by
  induction h with
  | refl => exact .inl rfl
  | @step a b _ k ih =>
    obtain ⟨r, h1, h2, h3⟩ := k
    have hb : b ∈ idsL l := mem_idsL.2 ⟨r, h1, by rcases h3 with ⟨_, e⟩ | ⟨e, _⟩; exact .inr e; exact .inl e⟩
    have ha : a ∈ idsL l := mem_idsL.2 ⟨r, h1, by rcases h3 with ⟨e, _⟩ | ⟨_, e⟩; exact .inl e; exact .inr e⟩
    rcases ih with e | e
    · subst e; exact .inr ⟨ha, hb⟩
    · exact .inr ⟨e.1, hb⟩
def MINT : Int := -9223372036854775808
def bstF (L : List Rcd) (u v : Nat) (b : Int) (r : Rcd) : Int := if b < r.t ∧ v ∈ rchL L u r.t then r.t else b
def bestL (L : List Rcd) (u v : Nat) : Int := L.foldl (bstF L u v) MINT
theorem bst_fold {L : List Rcd} {u v : Nat} {T : Int} : ∀ (l : List Rcd) (b : Int), (∀ r, r ∈ l → v ∈ rchL L u r.t → r.t ≤ T) → b ≤ T → (b = T ∨ ∃ r, r ∈ l ∧ r.t = T ∧ v ∈ rchL L u r.t) → l.foldl (bstF L u v) b = T
  | [], b, _, _, h => h.elim id fun ⟨_, h, _⟩ => absurd h List.not_mem_nil
  | r :: l, b, h1, h2, h3 => by
    show l.foldl (bstF L u v) (bstF L u v b r) = T
    refine bst_fold l _ (fun q hq => h1 q (List.mem_cons_of_mem _ hq)) ?_ ?_
    · unfold bstF
      split
      · rename_i c; exact h1 r List.mem_cons_self c.2
      · exact h2
    · rcases h3 with h3 | ⟨q, hq, h4, h5⟩
      · left
        unfold bstF
        rw [if_neg]
        · exact h3
        · rintro ⟨c1, c2⟩
          have := h1 r List.mem_cons_self c2
          omega
      · rcases List.mem_cons.1 hq with c | c
        · subst c
          left
          unfold bstF
          by_cases d : b < q.t
          · rw [if_pos ⟨d, h5⟩]; exact h4
          · rw [if_neg (fun k => d k.1)]; omega
        · exact .inr ⟨q, c, h4, h5⟩
noncomputable def treesL (l : List Rcd) : Nat := cntP (fun i => ∀ k, k < i → (idsL l).getD k 0 ∉ rchL l ((idsL l).getD i 0) MINT) (idsL l).length
def chkL (E V : Nat) (l : List Rcd) (r : Rcd) : Nat := if E ≤ l.length then 12 else if V < (idsL (l ++ [r])).length then 11 else 0
theorem len_addI (l : List Nat) (x : Nat) : (addI l x).length = l.length + if x ∈ l then 0 else 1 := by
  unfold addI
  by_cases c : x ∈ l
  · rw [if_pos c, if_pos c]; rfl
  · rw [if_neg c, if_neg c, List.length_append]; rfl
theorem ids_mono {l l' : List Rcd} (h : ∀ r, r ∈ l → r ∈ l') : (idsL l).length ≤ (idsL l').length :=
  List.Nodup.length_le_of_subset (nodup_idsL l) fun x hx => by
    obtain ⟨r, h1, h2⟩ := mem_idsL.1 hx
    exact mem_idsL.2 ⟨r, h r h1, h2⟩
theorem chk_mono {E V : Nat} {l : List Rcd} {r : Rcd} (h : chkL E V l r = 0) (p : Rcd → Bool) : chkL E V (l.filter p) r = 0 := by
  unfold chkL at h ⊢
  by_cases c : E ≤ l.length
  · rw [if_pos c] at h; cases h
  rw [if_neg c] at h
  by_cases d : V < (idsL (l ++ [r])).length
  · rw [if_pos d] at h; cases h
  have h1 := List.length_filter_le p l
  have h2 := ids_mono (l := l.filter p ++ [r]) (l' := l ++ [r]) fun q hq => by
    rcases List.mem_append.1 hq with k | k
    · exact List.mem_append_left _ (List.mem_filter.1 k).1
    · exact List.mem_append_right _ k
  rw [if_neg (by omega), if_neg (by omega)]
section
open Classical
theorem cntP_list (P : Nat → Prop) : ∀ n, cntP P n = ((List.range n).filter fun x => decide (P x)).length
  | 0 => rfl
  | n + 1 => by
    rw [List.range_succ, List.filter_append, List.length_append, ← cntP_list P n]
    show cntP P n + (if P n then 1 else 0) = _
    by_cases c : P n
    · rw [if_pos c, List.filter_cons_of_pos (by exact decide_eq_true c)]; rfl
    · rw [if_neg c, List.filter_cons_of_neg (by rw [decide_eq_false c]; decide)]; rfl
theorem nodup_mapP {P : Nat → Prop} {n : Nat} {f : Nat → Nat} (hi : ∀ x y, x < n → y < n → P x → P y → f x = f y → x = y) : (((List.range n).filter fun x => decide (P x)).map f).Nodup := by
  refine List.pairwise_map.2 ?_
  refine ((List.nodup_range (n := n)).filter _).imp_of_mem ?_
  intro a b ha hb hne e
  rw [List.mem_filter, List.mem_range, decide_eq_true_eq] at ha hb
  exact hne (hi a b ha.1 hb.1 ha.2 hb.2 e)
theorem cnt_inj {P Q : Nat → Prop} {n m : Nat} (f : Nat → Nat) (h : ∀ x, x < n → P x → f x < m ∧ Q (f x)) (hi : ∀ x y, x < n → y < n → P x → P y → f x = f y → x = y) : cntP P n ≤ cntP Q m := by
  rw [cntP_list P, cntP_list Q, ← List.length_map (f := f)]
  refine List.Nodup.length_le_of_subset (nodup_mapP hi) fun y hy => ?_
  obtain ⟨x, hx, rfl⟩ := List.mem_map.1 hy
  rw [List.mem_filter, List.mem_range, decide_eq_true_eq] at hx
  have := h x hx.1 hx.2
  exact List.mem_filter.2 ⟨List.mem_range.2 this.1, decide_eq_true this.2⟩
theorem cnt_names {P : Nat → Prop} {V : Nat} {L : List Nat} {D : Nat → Nat} (hL : L.Nodup) (hD : ∀ x y, x < V → y < V → P x → P y → D x = D y → x = y) (h : ∀ y, y ∈ L ↔ ∃ x, x < V ∧ P x ∧ D x = y) : cntP P V = L.length := by
  rw [cntP_list P, ← List.length_map (f := D)]
  refine ((List.perm_ext_iff_of_nodup (nodup_mapP hD) hL).2 fun y => ?_).length_eq
  rw [List.mem_map, h y]
  constructor
  · rintro ⟨x, hx, e⟩
    rw [List.mem_filter, List.mem_range, decide_eq_true_eq] at hx
    exact ⟨x, hx.1, hx.2, e⟩
  · rintro ⟨x, h1, h2, e⟩
    exact ⟨x, List.mem_filter.2 ⟨List.mem_range.2 h1, decide_eq_true h2⟩, e⟩
theorem gd_el {q : List Nat} {i : Nat} (h : i < q.length) : q.getD i 0 = q[i] := by
  rw [List.getD_eq_getElem?_getD, List.getElem?_eq_getElem h]; rfl
theorem parts_list {P : Nat → Prop} {V : Nat} {R R' : Nat → Nat → Prop} {L : List Nat} {D : Nat → Nat} (hL : L.Nodup) (hD : ∀ x y, P x → P y → D x = D y → x = y) (hV : ∀ x, P x → x < V) (h : ∀ y, y ∈ L ↔ ∃ x, P x ∧ D x = y)
    (hr : ∀ x, R x x) (hs : ∀ x y, R x y → R y x) (ht : ∀ x y z, R x y → R y z → R x z) (hr' : ∀ x, R' x x) (hs' : ∀ x y, R' x y → R' y x) (ht' : ∀ x y z, R' x y → R' y z → R' x z)
    (hP : ∀ x y, R x y → x = y ∨ (P x ∧ P y)) (hRR : ∀ x y, P x → P y → (R x y ↔ R' (D x) (D y))) :
    parts V R + L.length = V + cntP (Lst fun a b => R' (L.getD a 0) (L.getD b 0)) L.length := by
  have hnP : ∀ x, ¬ P x → Lst R x := fun x hx w hw k => by
    rcases hP w x k with e | e
    · omega
    · exact hx e.2
  have e1 : cntP (fun v => Lst R v ∧ ¬ ¬ P v) V + cntP (fun v => ¬ P v) V = cntP (Lst R) V := cntP_sub V (fun x _ hx => hnP x hx)
  have e2 : cntP (fun v => True ∧ ¬ P v) V + cntP P V = cntP (fun _ => True) V := cntP_sub V (fun _ _ _ => trivial)
  have e3 : cntP (fun _ => True) V = V := cnt_all V (fun _ _ => trivial)
  have e4 : cntP P V = L.length := cnt_names hL (fun x y _ _ => hD x y) fun y => by
    rw [h y]
    exact ⟨fun ⟨x, h1, h2⟩ => ⟨x, hV x h1, h1, h2⟩, fun ⟨x, _, h1, h2⟩ => ⟨x, h1, h2⟩⟩
  have e6 : cntP (fun v => True ∧ ¬ P v) V = cntP (fun v => ¬ P v) V := cntP_congr V fun x _ => ⟨fun k => k.2, fun k => ⟨trivial, k⟩⟩
  have hf : ∀ v, P v → ∃ l, l < L.length ∧ Lst (fun a b => R' (L.getD a 0) (L.getD b 0)) l ∧ R' (L.getD l 0) (D v) := fun v hv => by
    obtain ⟨k, hk, e⟩ := List.getElem_of_mem ((h (D v)).2 ⟨v, hv, rfl⟩)
    obtain ⟨l, h1, h2, h3⟩ := lst_ex (R := fun a b => R' (L.getD a 0) (L.getD b 0)) (fun _ => hr' _) (fun _ _ _ => ht' _ _ _) (k + 1) k (Nat.lt_succ_self k)
    refine ⟨l, by omega, h3, ?_⟩
    have e' : L.getD k 0 = D v := by rw [gd_el hk, e]
    rw [← e']; exact h2
  have hg : ∀ i, i < L.length → ∃ x, P x ∧ Lst R x ∧ R' (D x) (L.getD i 0) := fun i hi => by
    obtain ⟨x, h1, h2⟩ := (h (L.getD i 0)).1 (by rw [gd_el hi]; exact List.getElem_mem hi)
    obtain ⟨l, h3, h4, h5⟩ := lst_ex hr ht (x + 1) x (Nat.lt_succ_self x)
    have hl : P l := by
      rcases hP l x h4 with e | e
      · rw [e]; exact h1
      · exact e.1
    exact ⟨l, hl, h5, by rw [← h2]; exact (hRR l x hl h1).1 h4⟩
  have e5 : cntP (fun v => Lst R v ∧ ¬ ¬ P v) V = cntP (Lst fun a b => R' (L.getD a 0) (L.getD b 0)) L.length := by
    refine Nat.le_antisymm (cnt_inj (fun v => if k : P v then (hf v k).choose else 0) (fun v _ k => ?_) fun v v' _ _ k k' e => ?_) (cnt_inj (fun i => if k : i < L.length then (hg i k).choose else 0) (fun i hi k => ?_) fun i j hi hj k k' e => ?_)
    · have kp := Classical.not_not.1 k.2
      show (if k : P v then (hf v k).choose else 0) < _ ∧ Lst _ (if k : P v then (hf v k).choose else 0)
      rw [dif_pos kp]
      exact ⟨(hf v kp).choose_spec.1, (hf v kp).choose_spec.2.1⟩
    · have kp := Classical.not_not.1 k.2
      have kp' := Classical.not_not.1 k'.2
      have e' : (if k : P v then (hf v k).choose else 0) = (if k : P v' then (hf v' k).choose else 0) := e
      rw [dif_pos kp, dif_pos kp'] at e'
      have r1 := (hf v kp).choose_spec.2.2
      have r2 := (hf v' kp').choose_spec.2.2
      rw [e'] at r1
      exact lst_uniq hs k.1 k'.1 ((hRR v v' kp kp').2 (ht' _ _ _ (hs' _ _ r1) r2))
    · show (if k : i < L.length then (hg i k).choose else 0) < _ ∧ Lst R (if k : i < L.length then (hg i k).choose else 0) ∧ ¬ ¬ P (if k : i < L.length then (hg i k).choose else 0)
      rw [dif_pos hi]
      exact ⟨hV _ (hg i hi).choose_spec.1, (hg i hi).choose_spec.2.1, fun c => c (hg i hi).choose_spec.1⟩
    · have e' : (if k : i < L.length then (hg i k).choose else 0) = (if k : j < L.length then (hg j k).choose else 0) := e
      rw [dif_pos hi, dif_pos hj] at e'
      have r1 := (hg i hi).choose_spec.2.2
      have r2 := (hg j hj).choose_spec.2.2
      rw [e'] at r1
      exact lst_uniq (R := fun a b => R' (L.getD a 0) (L.getD b 0)) (fun _ _ => hs' _ _) k k' (ht' _ _ _ (hs' _ _ r1) r2)
  unfold parts
  omega
end
end Go.Proofs.YtlooaipipmiijaaGreat

namespace Go.Proofs.YtlooaipipmiijaaGreat
set_option linter.unusedVariables false
set_option linter.unusedSimpArgs false
open Go.RowKit
def Lr.rcd (r : Lr) : Rcd := ⟨r.u, r.v, r.wt, r.t⟩
structure WnE (G : WnG) (ge : Nat → GE) (F : Nat → Prop) : Prop where
  stl : StL G.g
  gV : G.g.V = G.V
  gE : G.g.E = G.E
  fV : G.f.V = G.V
  fS : G.f.S = G.E
  fo : FoP G.f ge G.g.Lv F
  ge : ∀ s, G.g.Lv s → (ge s).exp = (G.g.R s).ex ∧ (G.g.LvT (ge s).a ∧ G.g.D (ge s).a = (G.g.R s).u) ∧ (G.g.LvT (ge s).b ∧ G.g.D (ge s).b = (G.g.R s).v)
  ex : ∀ s, G.g.Lv s → (G.g.R s).ex = (G.g.R s).t + G.W ∧ (G.g.R s).ex ≤ 9223372036854775807
  last : G.g.last = G.add
  cfg : 1 ≤ G.E ∧ G.E ≤ 16384 ∧ 2 ≤ G.V ∧ G.V ≤ 4096 ∧ 1 ≤ G.W ∧ G.W ≤ 9223372036854775807
structure WnL (G : WnG) (all : List Rcd) : Prop where
  ed : ∃ ge F, WnE G ge F
  q : G.Q = G.f.Q
  now : 0 ≤ G.now ∧ G.now ≤ 9223372036854775807
  live : ∀ s, G.g.Lv s → G.now < (G.g.R s).ex
  all : ∃ ss : List Nat, ss.Nodup ∧ (∀ s, s ∈ ss ↔ G.g.Lv s) ∧ all = ss.map (fun s => (G.g.R s).rcd)
section
variable {G : WnG} {ge : Nat → GE} {F : Nat → Prop}
theorem end_known {g : SG} (h : StL g) {s id : Nat} (hs : Ends g id s) : ∃ i, g.LvT i ∧ g.D i = id :=
  (h.ids.table id).1 ((h.ids.known id).2 ⟨s, hs⟩)
theorem WnE.remove (h : WnE G ge F) {slot : Nat} {f' : FoG} {F' : Nat → Prop} {g' : SG} (hs : G.g.Lv slot) (hf : FoP f' ge (fun t => G.g.Lv t ∧ t ≠ slot) F') (fV : f'.V = G.f.V) (fS : f'.S = G.f.S) (hg : StL g') (gV : g'.V = G.g.V) (gE : g'.E = G.g.E) (gl : g'.last = G.g.last) (hLv : g'.Lv = (fun x => G.g.Lv x ∧ x ≠ slot)) (hR : ∀ s, s ≠ slot → g'.R s = G.g.R s) (hT : ∀ i, g'.LvT i → G.g.LvT i ∧ g'.D i = G.g.D i)
    {G' : WnG} (e1 : G'.g = g') (e2 : G'.f = f') (e3 : G'.V = G.V) (e4 : G'.E = G.E) (e5 : G'.W = G.W) (e6 : G'.add = G.add) : WnE G' ge F' := by
  have hinj := h.stl.ids.inj
  refine ⟨by rw [e1]; exact hg, by rw [e1, e3, gV]; exact h.gV, by rw [e1, e4, gE]; exact h.gE, by rw [e2, e3, fV]; exact h.fV, by rw [e2, e4, fS]; exact h.fS, by rw [e1, e2, hLv]; exact hf, fun s k => ?_, fun s k => ?_, by rw [e1, e6, gl]; exact h.last, by rw [e3, e4, e5]; exact h.cfg⟩
  · rw [e1] at k ⊢
    have k' := k
    rw [hLv] at k'
    obtain ⟨k1, k2⟩ := k'
    obtain ⟨a1, ⟨a2, a3⟩, a4, a5⟩ := h.ge s k1
    rw [hR s k2]
    refine ⟨a1, ?_, ?_⟩
    · obtain ⟨i, i1, i2⟩ := end_known hg (id := (G.g.R s).u) ⟨k, .inl (by rw [hR s k2])⟩
      obtain ⟨i3, i4⟩ := hT i i1
      have : i = (ge s).a := hinj _ _ i3 a2 (by rw [← i4, i2, a3])
      rw [← this]; exact ⟨i1, i2⟩
    · obtain ⟨i, i1, i2⟩ := end_known hg (id := (G.g.R s).v) ⟨k, .inr (by rw [hR s k2])⟩
      obtain ⟨i3, i4⟩ := hT i i1
      have : i = (ge s).b := hinj _ _ i3 a4 (by rw [← i4, i2, a5])
      rw [← this]; exact ⟨i1, i2⟩
  · rw [e1] at k ⊢
    rw [hLv] at k
    rw [hR s k.2, e5]; exact h.ex s k.1
theorem WnE.insert (h : WnE G ge F) {slot x y : Nat} {r : Lr} {f' : FoG} {F' : Nat → Prop} {g' : SG} (hs : ¬ G.g.Lv slot) (hf : FoP f' (upF ge slot ⟨x, y, r.ex⟩) (fun t => G.g.Lv t ∨ t = slot) F') (fV : f'.V = G.f.V) (fS : f'.S = G.f.S) (hg : StL g') (gV : g'.V = G.g.V) (gE : g'.E = G.g.E) (hLv : g'.Lv = (fun x => G.g.Lv x ∨ x = slot)) (hR : ∀ s, G.g.Lv s → g'.R s = G.g.R s) (hr : g'.R slot = r) (hT : ∀ i, G.g.LvT i → g'.LvT i ∧ g'.D i = G.g.D i)
    (hx : g'.LvT x ∧ g'.D x = r.u) (hy : g'.LvT y ∧ g'.D y = r.v) (hex : r.ex = r.t + G.W ∧ r.ex ≤ 9223372036854775807)
    {G' : WnG} (e1 : G'.g = g') (e2 : G'.f = f') (e3 : G'.V = G.V) (e4 : G'.E = G.E) (e5 : G'.W = G.W) (e6 : g'.last = G'.add) : WnE G' (upF ge slot ⟨x, y, r.ex⟩) F' := by
  refine ⟨by rw [e1]; exact hg, by rw [e1, e3, gV]; exact h.gV, by rw [e1, e4, gE]; exact h.gE, by rw [e2, e3, fV]; exact h.fV, by rw [e2, e4, fS]; exact h.fS, by rw [e1, e2, hLv]; exact hf, fun s k => ?_, fun s k => ?_, by rw [e1]; exact e6, by rw [e3, e4, e5]; exact h.cfg⟩
  · rw [e1] at k ⊢
    rw [hLv] at k
    rcases k with k | k
    · have hne : s ≠ slot := fun c => hs (c ▸ k)
      obtain ⟨a1, ⟨a2, a3⟩, a4, a5⟩ := h.ge s k
      rw [uF_ne _ _ hne, hR s k]
      exact ⟨a1, ⟨(hT _ a2).1, by rw [(hT _ a2).2]; exact a3⟩, (hT _ a4).1, by rw [(hT _ a4).2]; exact a5⟩
    · rw [k, uF_same, hr]
      exact ⟨rfl, hx, hy⟩
  · rw [e1] at k ⊢
    rw [hLv] at k
    rcases k with k | k
    · rw [hR s k, e5]; exact h.ex s k
    · rw [k, hr, e5]; exact hex
theorem WnE.ent (h : WnE G ge F) {i k : Int} : (i, k) ∈ G.f.Q ↔ ∃ s : Nat, i = (s : Int) ∧ G.g.Lv s ∧ k = (G.g.R s).ex := by
  rw [h.fo.que i k]
  constructor
  · rintro ⟨s, h1, h2, h3⟩; exact ⟨s, h1, h2, by rw [h3]; exact (h.ge s h2).1⟩
  · rintro ⟨s, h1, h2, h3⟩; exact ⟨s, h1, h2, by rw [h3]; exact (h.ge s h2).1.symm⟩
end
end Go.Proofs.YtlooaipipmiijaaGreat
