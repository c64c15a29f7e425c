/- One TwL Rows2 Many Datas, joined. -/
import Derived.Test.YtcffhfcjfjfokaaSw3
import Derived.Test.YtcffhfcjfjfokaaSw5
import Derived.Test.YtcffhfcjfjfokaaSw6
set_option linter.unusedVariables false
set_option linter.unusedSimpArgs false
/- The law's one: a content of its own. -/
namespace Go.Proofs.Ytcffhfcjfjfokaa
open Go.RowKit
/-- What a cell holds. -/
def celOf (W : World) (a : Addr) : Value := (W.cell? a).getD undef
theorem celOf_some {W : World} {a : Addr} (h : (W.cell? a).isSome = true) : W.cell? a = some (celOf W a) := by
  unfold celOf
  obtain ⟨u, hu⟩ := Option.isSome_iff_exists.1 h
  rw [hu]; rfl
/-- The world stands as the call found it, with its two boxes behind. -/
structure OneT (w : World) (F : Array Value) (W : World) : Prop where
  bel : Below (w.heap.size + 1) (box1 w F 39) W
  there : ∀ j, j < 7 → (W.cell? ⟨w.heap.size + 1, j, none⟩).isSome = true ∧ W.frozen? ⟨w.heap.size + 1, j, none⟩ = false
  size : w.heap.size + 2 ≤ W.heap.size
theorem OneT.drew {w W : World} {F : Array Value} (h : OneT w F W) : OneT w F W.drew := ⟨Below.drew h.bel, h.there, h.size⟩
theorem OneT.below {w W W' : World} {F : Array Value} (h : OneT w F W) (hb : Below W.heap.size W W') : OneT w F W' := by
  have hs := h.size
  refine ⟨h.bel.trans (hb.mono (by omega)), fun j hj => ?_, Nat.le_trans hs hb.size⟩
  rw [hb.cell (p := ⟨w.heap.size + 1, j, none⟩) (by show w.heap.size + 1 < _; omega), hb.frozen (p := ⟨w.heap.size + 1, j, none⟩) (by show w.heap.size + 1 < _; omega)]
  exact h.there j hj
theorem OneT.alloc {w W : World} {F : Array Value} (h : OneT w F W) (o : Obj) : OneT w F (W.alloc o) := h.below ((Below.refl _ _).alloc (Nat.le_refl _) _)
theorem OneT.undrew {w W : World} {F : Array Value} (h : OneT w F W.drew) : OneT w F W := ⟨⟨h.bel.os, h.bel.tape, h.bel.output, h.bel.size, h.bel.block⟩, h.there, h.size⟩
theorem OneT.allocD {w W : World} {F : Array Value} (h : OneT w F W.drew) (o : Obj) : OneT w F (W.alloc o).drew := (h.undrew.alloc o).drew
theorem OneT.set {w W : World} {F : Array Value} (h : OneT w F W) (k : Nat) (v : Value) : OneT w F (W.setCell ⟨w.heap.size + 1, k, none⟩ v) := by
  refine ⟨h.bel.setCell (by show w.heap.size + 1 ≤ w.heap.size + 1; omega) _, fun j hj => ?_, by rw [World.size_setCell]; exact h.size⟩
  rw [World.frozen?_setCell]
  refine ⟨?_, (h.there j hj).2⟩
  obtain ⟨u, hu⟩ := Option.isSome_iff_exists.1 (h.there j hj).1
  obtain ⟨v', hv'⟩ := RowKit.cell?_setCell_some (p := ⟨w.heap.size + 1, k, none⟩) (x := v) hu
  rw [hv']; rfl
theorem OneT.set_true {w W : World} {F : Array Value} (k : Nat) (v : Value) (h : OneT w F W) : OneT w F (W.setCell ⟨w.heap.size + 1, k, none⟩ v) = True := eq_true (h.set k v)
theorem OneT.set7 {w W : World} {F : Array Value} (h : OneT w F W) (v0 v1 v2 v3 v4 v5 v6 : Value) : OneT w F ((((((((W.setCell ⟨w.heap.size + 1, 0, none⟩ v0).setCell ⟨w.heap.size + 1, 1, none⟩ v1).setCell ⟨w.heap.size + 1, 2, none⟩ v2).setCell ⟨w.heap.size + 1, 3, none⟩ v3).setCell ⟨w.heap.size + 1, 4, none⟩ v4).setCell ⟨w.heap.size + 1, 5, none⟩ v5).setCell ⟨w.heap.size + 1, 6, none⟩ v6)) :=
  ((((((h.set 0 v0).set 1 v1).set 2 v2).set 3 v3).set 4 v4).set 5 v5).set 6 v6
theorem OneT.read {w W : World} {F : Array Value} (h : OneT w F W) (v0 v1 v2 v3 v4 v5 v6 : Value) :
    ((((((((W.setCell ⟨w.heap.size + 1, 0, none⟩ v0).setCell ⟨w.heap.size + 1, 1, none⟩ v1).setCell ⟨w.heap.size + 1, 2, none⟩ v2).setCell ⟨w.heap.size + 1, 3, none⟩ v3).setCell ⟨w.heap.size + 1, 4, none⟩ v4).setCell ⟨w.heap.size + 1, 5, none⟩ v5).setCell ⟨w.heap.size + 1, 6, none⟩ v6)).cell? ⟨w.heap.size + 1, 0, none⟩ = some v0 ∧ ((((((((W.setCell ⟨w.heap.size + 1, 0, none⟩ v0).setCell ⟨w.heap.size + 1, 1, none⟩ v1).setCell ⟨w.heap.size + 1, 2, none⟩ v2).setCell ⟨w.heap.size + 1, 3, none⟩ v3).setCell ⟨w.heap.size + 1, 4, none⟩ v4).setCell ⟨w.heap.size + 1, 5, none⟩ v5).setCell ⟨w.heap.size + 1, 6, none⟩ v6)).cell? ⟨w.heap.size + 1, 1, none⟩ = some v1 ∧ ((((((((W.setCell ⟨w.heap.size + 1, 0, none⟩ v0).setCell ⟨w.heap.size + 1, 1, none⟩ v1).setCell ⟨w.heap.size + 1, 2, none⟩ v2).setCell ⟨w.heap.size + 1, 3, none⟩ v3).setCell ⟨w.heap.size + 1, 4, none⟩ v4).setCell ⟨w.heap.size + 1, 5, none⟩ v5).setCell ⟨w.heap.size + 1, 6, none⟩ v6)).cell? ⟨w.heap.size + 1, 2, none⟩ = some v2 ∧ ((((((((W.setCell ⟨w.heap.size + 1, 0, none⟩ v0).setCell ⟨w.heap.size + 1, 1, none⟩ v1).setCell ⟨w.heap.size + 1, 2, none⟩ v2).setCell ⟨w.heap.size + 1, 3, none⟩ v3).setCell ⟨w.heap.size + 1, 4, none⟩ v4).setCell ⟨w.heap.size + 1, 5, none⟩ v5).setCell ⟨w.heap.size + 1, 6, none⟩ v6)).cell? ⟨w.heap.size + 1, 3, none⟩ = some v3 ∧ ((((((((W.setCell ⟨w.heap.size + 1, 0, none⟩ v0).setCell ⟨w.heap.size + 1, 1, none⟩ v1).setCell ⟨w.heap.size + 1, 2, none⟩ v2).setCell ⟨w.heap.size + 1, 3, none⟩ v3).setCell ⟨w.heap.size + 1, 4, none⟩ v4).setCell ⟨w.heap.size + 1, 5, none⟩ v5).setCell ⟨w.heap.size + 1, 6, none⟩ v6)).cell? ⟨w.heap.size + 1, 4, none⟩ = some v4 ∧ ((((((((W.setCell ⟨w.heap.size + 1, 0, none⟩ v0).setCell ⟨w.heap.size + 1, 1, none⟩ v1).setCell ⟨w.heap.size + 1, 2, none⟩ v2).setCell ⟨w.heap.size + 1, 3, none⟩ v3).setCell ⟨w.heap.size + 1, 4, none⟩ v4).setCell ⟨w.heap.size + 1, 5, none⟩ v5).setCell ⟨w.heap.size + 1, 6, none⟩ v6)).cell? ⟨w.heap.size + 1, 5, none⟩ = some v5 ∧ ((((((((W.setCell ⟨w.heap.size + 1, 0, none⟩ v0).setCell ⟨w.heap.size + 1, 1, none⟩ v1).setCell ⟨w.heap.size + 1, 2, none⟩ v2).setCell ⟨w.heap.size + 1, 3, none⟩ v3).setCell ⟨w.heap.size + 1, 4, none⟩ v4).setCell ⟨w.heap.size + 1, 5, none⟩ v5).setCell ⟨w.heap.size + 1, 6, none⟩ v6)).cell? ⟨w.heap.size + 1, 6, none⟩ = some v6 := by
  have d0 := celOf_some (h.there 0 (by omega)).1
  have d1 := celOf_some (h.there 1 (by omega)).1
  have d2 := celOf_some (h.there 2 (by omega)).1
  have d3 := celOf_some (h.there 3 (by omega)).1
  have d4 := celOf_some (h.there 4 (by omega)).1
  have d5 := celOf_some (h.there 5 (by omega)).1
  have d6 := celOf_some (h.there 6 (by omega)).1
  refine ⟨?_, ?_, ?_, ?_, ?_, ?_, ?_⟩ <;> simp [go_sem, d0, d1, d2, d3, d4, d5, d6]
/-- What one answers: the same content, in lists of its own. -/
def OnePost (f : Fl) (w : World) (x : Ending) (w' : World) : Prop := (∃ X cX Y cY, x = .returned (.agg (flc f.e f.l f.i f.c f.base X f.slots.length cX Y f.have_.length cY)) ∧ FlRows w' w'.heap.size f X cX Y cY ∧ FRow w' w.heap.size 2 eSlot X f.slots ∧ FRow w' w.heap.size 1 eInt Y f.have_) ∧ Below w.heap.size w w'
abbrev onez : Array Value := #[.int .i64 0, .int .i64 0, .int .i64 0, .int .i64 0, .int .i64 0, .slice none 0 0, .slice none 0 0]
set_option maxRecDepth 100000 in
set_option maxHeartbeats 4000000 in
theorem one_any (f : Fl) (A B : Option Addr) (cA cB N : Nat) (w : World) (hN : N ≤ w.heap.size) (hr : FlRows w N f A cA B cB) (hbS : f.slots.length * 16 ≤ 140737488351232) (hbH : f.have_.length * 8 ≤ 140737488351232) :
    Calls Try.prog 38 #[.agg (flc f.e f.l f.i f.c f.base A f.slots.length cA B f.have_.length cB)] w (OnePost f w) := by
  have h0 : OneT w (flc f.e f.l f.i f.c f.base A f.slots.length cA B f.have_.length cB) ((box1 w (flc f.e f.l f.i f.c f.base A f.slots.length cA B f.have_.length cB) 39).alloc (.cells onez 39)) := ⟨(Below.refl _ _).alloc (by simp) _, fun j hj => by
    refine ⟨?_, World.frozen?_alloc_at _ _ _ _ (by simp)⟩
    rw [World.cell?_alloc_at _ _ _ _ (by simp)]
    match j, hj with
    | 0, _ | 1, _ | 2, _ | 3, _ | 4, _ | 5, _ | 6, _ => rfl, by simp⟩
  have hall : ∀ W : World, OneT w (flc f.e f.l f.i f.c f.base A f.slots.length cA B f.have_.length cB) W → (OneT w (flc f.e f.l f.i f.c f.base A f.slots.length cA B f.have_.length cB) W ∧ W.cell? ⟨w.heap.size, 0, none⟩ = some (.int .i64 f.e) ∧ W.cell? ⟨w.heap.size, 1, none⟩ = some (.int .i64 f.l) ∧ W.cell? ⟨w.heap.size, 2, none⟩ = some (.int .i64 f.i) ∧ W.cell? ⟨w.heap.size, 3, none⟩ = some (.int .i64 f.c) ∧ W.cell? ⟨w.heap.size, 4, none⟩ = some (.int .i64 f.base) ∧ W.cell? ⟨w.heap.size, 5, none⟩ = some (.slice A f.slots.length cA) ∧ W.cell? ⟨w.heap.size, 6, none⟩ = some (.slice B f.have_.length cB) ∧ W.cell? ⟨w.heap.size + 1, 0, none⟩ = some (celOf W ⟨w.heap.size + 1, 0, none⟩) ∧ W.cell? ⟨w.heap.size + 1, 1, none⟩ = some (celOf W ⟨w.heap.size + 1, 1, none⟩) ∧ W.cell? ⟨w.heap.size + 1, 2, none⟩ = some (celOf W ⟨w.heap.size + 1, 2, none⟩) ∧ W.cell? ⟨w.heap.size + 1, 3, none⟩ = some (celOf W ⟨w.heap.size + 1, 3, none⟩) ∧ W.cell? ⟨w.heap.size + 1, 4, none⟩ = some (celOf W ⟨w.heap.size + 1, 4, none⟩) ∧ W.cell? ⟨w.heap.size + 1, 5, none⟩ = some (celOf W ⟨w.heap.size + 1, 5, none⟩) ∧ W.cell? ⟨w.heap.size + 1, 6, none⟩ = some (celOf W ⟨w.heap.size + 1, 6, none⟩) ∧ W.frozen? ⟨w.heap.size + 1, 0, none⟩ = false ∧ W.frozen? ⟨w.heap.size + 1, 1, none⟩ = false ∧ W.frozen? ⟨w.heap.size + 1, 2, none⟩ = false ∧ W.frozen? ⟨w.heap.size + 1, 3, none⟩ = false ∧ W.frozen? ⟨w.heap.size + 1, 4, none⟩ = false ∧ W.frozen? ⟨w.heap.size + 1, 5, none⟩ = false ∧ W.frozen? ⟨w.heap.size + 1, 6, none⟩ = false) := fun W h => by
    obtain ⟨-, hc, -, -⟩ := box1_facts h.bel
    exact ⟨h, hc 0, hc 1, hc 2, hc 3, hc 4, hc 5, hc 6, celOf_some (h.there 0 (by omega)).1, celOf_some (h.there 1 (by omega)).1, celOf_some (h.there 2 (by omega)).1, celOf_some (h.there 3 (by omega)).1, celOf_some (h.there 4 (by omega)).1, celOf_some (h.there 5 (by omega)).1, celOf_some (h.there 6 (by omega)).1,
      (h.there 0 (by omega)).2, (h.there 1 (by omega)).2, (h.there 2 (by omega)).2, (h.there 3 (by omega)).2, (h.there 4 (by omega)).2, (h.there 5 (by omega)).2, (h.there 6 (by omega)).2⟩
  have hS : ∀ W : World, OneT w (flc f.e f.l f.i f.c f.base A f.slots.length cA B f.have_.length cB) W → RowAt W N 2 eSlot A f.slots := fun W h => hr.slots.below (box1_facts h.bel).1 hN
  have hH : ∀ W : World, OneT w (flc f.e f.l f.i f.c f.base A f.slots.length cA B f.have_.length cB) W → RowAt W N 1 eInt B f.have_ := fun W h => hr.have_.below (box1_facts h.bel).1 hN
  obtain ⟨-, -, hlS, hcS, hlH, hcH⟩ := hr
  replace hall := Lib.hid hall
  replace hS := Lib.hid hS
  replace hH := Lib.hid hH
  have h0d := h0.drew
  go_enter Try.func38, Try.ntmps38
  go_wp2_with fail
  go_region_held3 (fun W => OneT w (flc f.e f.l f.i f.c f.base A f.slots.length cA B f.have_.length cB) W ∧ W.cell? ⟨w.heap.size, 0, none⟩ = some (.int .i64 f.e) ∧ W.cell? ⟨w.heap.size, 1, none⟩ = some (.int .i64 f.l) ∧ W.cell? ⟨w.heap.size, 2, none⟩ = some (.int .i64 f.i) ∧ W.cell? ⟨w.heap.size, 3, none⟩ = some (.int .i64 f.c) ∧ W.cell? ⟨w.heap.size, 4, none⟩ = some (.int .i64 f.base) ∧ W.cell? ⟨w.heap.size, 5, none⟩ = some (.slice A f.slots.length cA) ∧ W.cell? ⟨w.heap.size, 6, none⟩ = some (.slice B f.have_.length cB) ∧ W.cell? ⟨w.heap.size + 1, 0, none⟩ = some (celOf W ⟨w.heap.size + 1, 0, none⟩) ∧ W.cell? ⟨w.heap.size + 1, 1, none⟩ = some (celOf W ⟨w.heap.size + 1, 1, none⟩) ∧ W.cell? ⟨w.heap.size + 1, 2, none⟩ = some (celOf W ⟨w.heap.size + 1, 2, none⟩) ∧ W.cell? ⟨w.heap.size + 1, 3, none⟩ = some (celOf W ⟨w.heap.size + 1, 3, none⟩) ∧ W.cell? ⟨w.heap.size + 1, 4, none⟩ = some (celOf W ⟨w.heap.size + 1, 4, none⟩) ∧ W.cell? ⟨w.heap.size + 1, 5, none⟩ = some (celOf W ⟨w.heap.size + 1, 5, none⟩) ∧ W.cell? ⟨w.heap.size + 1, 6, none⟩ = some (celOf W ⟨w.heap.size + 1, 6, none⟩) ∧ W.frozen? ⟨w.heap.size + 1, 0, none⟩ = false ∧ W.frozen? ⟨w.heap.size + 1, 1, none⟩ = false ∧ W.frozen? ⟨w.heap.size + 1, 2, none⟩ = false ∧ W.frozen? ⟨w.heap.size + 1, 3, none⟩ = false ∧ W.frozen? ⟨w.heap.size + 1, 4, none⟩ = false ∧ W.frozen? ⟨w.heap.size + 1, 5, none⟩ = false ∧ W.frozen? ⟨w.heap.size + 1, 6, none⟩ = false)
    ((refine hall.out _ ?_; first | (have hO := (‹OneT w _ _ ∧ _›).1; simp (config := { maxDischargeDepth := 20 }) only [OneT.set_true, hO]; done) | with_reducible exact h0d | (with_reducible refine OneT.alloc ?_ _; exact (‹OneT w _ _ ∧ _›).1) | (with_reducible refine OneT.allocD ?_ _; exact (‹OneT w _ _ ∧ _›).1) | (with_reducible refine OneT.below ?_ hb1; exact (‹OneT w _ _ ∧ _›).1) | (with_reducible refine OneT.below ?_ hb2; exact (‹OneT w _ _ ∧ _›).1) | (with_reducible refine OneT.set7 ?_ _ _ _ _ _ _ _; exact (‹OneT w _ _ ∧ _›).1)))
    (first
      | (refine step_append_fresh rfl (.tmp 7) (.tmp 9) 36 rfl 66 2 16 _ Try.underlying36 info66 rfl (by decide) eSlot len_eSlot one_eSlot _ A cA N f.slots.length f.slots rfl rfl rfl (hS.out _ (‹OneT w _ _ ∧ _›).1) (by omega) (by omega) ?_; intro A1 c1 w1 hr1 hl1 hm1 hb1; replace hr1 := Lib.hid hr1)
      | (refine step_append_fresh rfl (.tmp 11) (.tmp 13) 37 rfl 3 1 8 _ Try.underlying37 info3 rfl (by decide) eInt len_eInt one_eInt _ B cB N f.have_.length f.have_ rfl rfl rfl (hH.out _ (‹OneT w _ _ ∧ _›).1) (by omega) (by omega) ?_; intro A2 c2 w2 hr2 hl2 hm2 hb2; replace hr2 := Lib.hid hr2))
  all_goals clear hall hS hH
  all_goals (first
    | (have hAll : OneT w (flc f.e f.l f.i f.c f.base A f.slots.length cA B f.have_.length cB) w2 ∧ FRow w2 (w.heap.size + 2) 2 eSlot A1 f.slots ∧ FRow w2 (w.heap.size + 2) 1 eInt A2 f.have_ := ⟨(((h0.alloc _).drew.below hb1).alloc _).below hb2, FRow.lower ((hr1.out.below ((Below.refl _ _).alloc (Nat.le_refl _) _)).below hb2) (by have h1 := hb1.size; have h2 := hb2.size; simp at h1 h2 ⊢; try omega), FRow.lower (hr2.out) (by have h1 := hb1.size; have h2 := hb2.size; simp at h1 h2 ⊢; try omega)⟩; obtain ⟨hO, hR1, hR2⟩ := hAll)
    | (have hAll : OneT w (flc f.e f.l f.i f.c f.base A f.slots.length cA B f.have_.length cB) w2 ∧ FRow w2 (w.heap.size + 2) 2 eSlot A1 f.slots ∧ FRow w2 (w.heap.size + 2) 1 eInt A2 f.have_ := ⟨((((h0.alloc _).alloc _).drew).below hb1).below hb2, FRow.lower (hr1.out.below hb2) (by have h1 := hb1.size; have h2 := hb2.size; simp at h1 h2 ⊢; try omega), FRow.lower (hr2.out) (by have h1 := hb1.size; have h2 := hb2.size; simp at h1 h2 ⊢; try omega)⟩; obtain ⟨hO, hR1, hR2⟩ := hAll)
    | (have hAll : OneT w (flc f.e f.l f.i f.c f.base A f.slots.length cA B f.have_.length cB) w1 ∧ FRow w1 (w.heap.size + 2) 2 eSlot A1 f.slots ∧ FRow w1 (w.heap.size + 2) 1 eInt A2 f.have_ := ⟨((((h0.alloc _).alloc _).drew).below hb2).below hb1, FRow.lower (hr1.out) (by have h1 := hb1.size; have h2 := hb2.size; simp at h1 h2 ⊢; try omega), FRow.lower (hr2.out.below hb1) (by have h1 := hb1.size; have h2 := hb2.size; simp at h1 h2 ⊢; try omega)⟩; obtain ⟨hO, hR1, hR2⟩ := hAll)
    | (have hAll : OneT w (flc f.e f.l f.i f.c f.base A f.slots.length cA B f.have_.length cB) w1 ∧ FRow w1 (w.heap.size + 2) 2 eSlot A1 f.slots ∧ FRow w1 (w.heap.size + 2) 1 eInt A2 f.have_ := ⟨(((h0.alloc _).drew.below hb2).alloc _).below hb1, FRow.lower (hr1.out) (by have h1 := hb1.size; have h2 := hb2.size; simp at h1 h2 ⊢; try omega), FRow.lower ((hr2.out.below ((Below.refl _ _).alloc (Nat.le_refl _) _)).below hb1) (by have h1 := hb1.size; have h2 := hb2.size; simp at h1 h2 ⊢; try omega)⟩; obtain ⟨hO, hR1, hR2⟩ := hAll))
  all_goals
    obtain ⟨r0, r1, r2, r3, r4, r5, r6⟩ := hO.read (.int .i64 f.e) (.int .i64 f.l) (.int .i64 f.i) (.int .i64 f.c) (.int .i64 f.base) (.slice A1 f.slots.length c1) (.slice A2 f.have_.length c2)
    have hO7 := hO.set7 (.int .i64 f.e) (.int .i64 f.l) (.int .i64 f.i) (.int .i64 f.c) (.int .i64 f.base) (.slice A1 f.slots.length c1) (.slice A2 f.have_.length c2)
    have hF1 := (((((((hR1.setCell (p := ⟨w.heap.size + 1, 0, none⟩) (Nat.lt_succ_self _) (.int .i64 f.e)).setCell (p := ⟨w.heap.size + 1, 1, none⟩) (Nat.lt_succ_self _) (.int .i64 f.l)).setCell (p := ⟨w.heap.size + 1, 2, none⟩) (Nat.lt_succ_self _) (.int .i64 f.i)).setCell (p := ⟨w.heap.size + 1, 3, none⟩) (Nat.lt_succ_self _) (.int .i64 f.c)).setCell (p := ⟨w.heap.size + 1, 4, none⟩) (Nat.lt_succ_self _) (.int .i64 f.base)).setCell (p := ⟨w.heap.size + 1, 5, none⟩) (Nat.lt_succ_self _) (.slice A1 f.slots.length c1)).setCell (p := ⟨w.heap.size + 1, 6, none⟩) (Nat.lt_succ_self _) (.slice A2 f.have_.length c2))
    have hF2 := (((((((hR2.setCell (p := ⟨w.heap.size + 1, 0, none⟩) (Nat.lt_succ_self _) (.int .i64 f.e)).setCell (p := ⟨w.heap.size + 1, 1, none⟩) (Nat.lt_succ_self _) (.int .i64 f.l)).setCell (p := ⟨w.heap.size + 1, 2, none⟩) (Nat.lt_succ_self _) (.int .i64 f.i)).setCell (p := ⟨w.heap.size + 1, 3, none⟩) (Nat.lt_succ_self _) (.int .i64 f.c)).setCell (p := ⟨w.heap.size + 1, 4, none⟩) (Nat.lt_succ_self _) (.int .i64 f.base)).setCell (p := ⟨w.heap.size + 1, 5, none⟩) (Nat.lt_succ_self _) (.slice A1 f.slots.length c1)).setCell (p := ⟨w.heap.size + 1, 6, none⟩) (Nat.lt_succ_self _) (.slice A2 f.have_.length c2))
    have hb9 := (box1_facts hO7.bel).1
    have hz9 := hO7.size
    clear hb1 hb2 hr1 hr2 hR1 hR2 hO h0 h0d
    go_wp2
    refine bodyPost_ret (v := .agg #[.int .i64 f.e, .int .i64 f.l, .int .i64 f.i, .int .i64 f.c, .int .i64 f.base, .slice A1 f.slots.length c1, .slice A2 f.have_.length c2]) (by simp [results, Try.results38, go_sem, r0, r1, r2, r3, r4, r5, r6]) rfl ?_
    exact ⟨⟨A1, c1, A2, c2, rfl, ⟨hF1.row, hF2.row, hl1, hm1, hl2, hm2⟩, hF1.lower (by omega), hF2.lower (by omega)⟩, hb9⟩
end Go.Proofs.Ytcffhfcjfjfokaa
/- What the law's twins answers: every content twice over, in lists of its own. -/
namespace Go.Proofs.Ytcffhfcjfjfokaa
open Go.RowKit
theorem info39 : (Try.prog.info? 39).map (fun i => (i.zero, i.size, i.bytes)) = some (some (.agg #[.int .i64 0, .int .i64 0, .int .i64 0, .int .i64 0, .int .i64 0, .slice none 0 0, .slice none 0 0]), 7, 88) := by kernel_rfl
theorem info57 : (Try.prog.info? 57).map (fun i => (i.zero, i.size, i.bytes)) = some (some (.agg #[.int .i64 0, .int .i64 0, .int .i64 0, .int .i64 0, .int .i64 0, .slice none 0 0, .slice none 0 0, .slice none 0 0, .slice none 0 0]), 9, 136) := by kernel_rfl
theorem len_flTw (x : Tw) : (flTw x).length = 7 := rfl
theorem len_eTw (x : Tw) : (eTw x).length = 9 := rfl
theorem one_flTw (x : Tw) : ∀ u ∈ flTw x, u.oneCell' = true := by intro u hu; simp [flTw] at hu; rcases hu with rfl | rfl | rfl | rfl | rfl | rfl | rfl <;> rfl
theorem one_eTw (x : Tw) : ∀ u ∈ eTw x, u.oneCell' = true := by intro u hu; simp [eTw] at hu; rcases hu with rfl | rfl | rfl | rfl | rfl | rfl | rfl | rfl | rfl <;> rfl
theorem TwOwn.keep {w w' : World} {base B : Nat} {t : Tw} (h : TwOwn w base t) (hb : Below B w w') (h2 : t.g2 < B) (h4 : t.g4 < B) : TwOwn w' base t :=
  ⟨h.s.keep hb (by intro k hk; simp [blk] at hk; omega), h.h.keep hb (by intro k hk; simp [blk] at hk; omega)⟩
theorem TwOwn.lt {w : World} {base : Nat} {t : Tw} (h : TwOwn w base t) : t.g2 < w.heap.size ∧ t.g4 < w.heap.size :=
  ⟨(h.s.lo t.g2 rfl).2, (h.h.lo t.g4 rfl).2⟩
theorem TwOwn.alloc {w : World} {base : Nat} {t : Tw} (h : TwOwn w base t) (o : Obj) : TwOwn (w.alloc o) base t := ⟨h.s.alloc o, h.h.alloc o⟩
theorem TwOwn.kept {w w' : World} {base : Nat} {t : Tw} {row : Option Nat} (h : TwOwn w base t) (hg : w.grownBy w' row) (h2 : some t.g2 ≠ row) (h4 : some t.g4 ≠ row) : TwOwn w' base t :=
  ⟨h.s.kept hg (.inr h2), h.h.kept hg (.inr h4)⟩
theorem TwOwn.lower {w : World} {base base' : Nat} {t : Tw} (h : TwOwn w base t) (hb : base' ≤ base) : TwOwn w base' t := ⟨h.s.lower hb, h.h.lower hb⟩
theorem TwOwn.beside {w w' : World} {base base' e sz : Nat} {α : Type} {enc : α → List Value} {T : Option Addr} {c : Nat} {l : List α} {t : Tw} (h : TwOwn w base t) (ho : Owns w base' e sz enc T c l) (hg : w.grownBy w' (blk T)) (h1 : 66 ≠ e) (h2 : 3 ≠ e) : TwOwn w' base t :=
  ⟨h.s.kept hg (h.s.ne ho h1), h.h.kept hg (h.h.ne ho h2)⟩
theorem row_new_at {α : Type} (w : World) (e : TypeId) (sz : Nat) (enc : α → List Value) (x : α) (cs : Array Value) (hcs : cs.toList = enc x) {g : Nat} (hg : g = w.heap.size) : RowAt (w.alloc (.cells cs e)) (g + 1) sz enc (some ⟨g, 0, none⟩) [x] := by
  subst hg; exact row_new w e sz enc x cs hcs
/-- The contents' lists are small enough. -/
def Small (fs : List Fl) : Prop := fs.length ≤ 1048576 ∧ ∀ f ∈ fs, f.slots.length ≤ 1048576 ∧ f.have_.length ≤ 1048576
structure TwRel (w wr : World) (fs : List Fl) (q : Nat) (ts : List Tw) (T : Option Addr) (cT : Nat) (I : Option Addr) (cI : Nat) : Prop where
  len : ts.length = q
  fst : ts.map Tw.f = fs.take q
  own : Owns wr w.heap.size 57 9 eTw T cT ts
  inn : Owns wr w.heap.size 39 7 flTw I cI ts
  each : ∀ t ∈ ts, TwOwn wr w.heap.size t
  bel : Below w.heap.size w wr
def TwinsPost (fs : List Fl) (w : World) (e : Ending) (w' : World) : Prop := ∃ (ts : List Tw) (T : Option Addr) (cT : Nat) (I : Option Addr) (cI : Nat), e = .returned (.tuple #[.slice T fs.length cT, .slice I fs.length cI]) ∧ ts.map Tw.f = fs ∧ TwRel w w' fs fs.length ts T cT I cI
set_option maxRecDepth 100000 in
set_option maxHeartbeats 4000000 in
theorem twins_any (A : Option Addr) (cA N : Nat) (fs : List Fl) (w : World) (hN : N ≤ w.heap.size) (hA : Fls w N A fs) (hsm : Small fs) :
    Calls Try.prog 13 #[.slice A fs.length cA] w (TwinsPost fs w) := by
  obtain ⟨hl, hsm⟩ := hsm
  go_enter Try.func13, Try.ntmps13
  go_wp2
  go_loopw [4, 5, 6] (fun t n k wr => ∃ (q : Nat) (ts : List Tw) (T : Option Addr) (cT : Nat) (I : Option Addr) (cI : Nat), k = .int .i64 q ∧ q ≤ fs.length ∧ t = .slice T q cT ∧ n = .slice I q cI ∧ TwRel w wr fs q ts T cT I cI) (fun _ _ k _ => fs.length - (intOf k).toNat)
  case atStart => exact ⟨0, [], none, 0, some ⟨w.heap.size, 0, none⟩, 0, rfl, by omega, rfl, rfl, ⟨rfl, by simp, owns_nil _ _ _ _ _, owns_empty _ _ _ _ _ (Nat.le_refl _), by simp, (Below.refl _ _).alloc (Nat.le_refl _) _⟩⟩
  case round =>
    obtain ⟨q, ts, T, cT, I, cI, rfl, hq, rfl, rfl, hR⟩ := hrel
    have hb := hR.bel
    have hsz := hb.size
    by_cases hlt : q < fs.length
    · obtain ⟨g, o, f, X, cX, Y, cY, rfl, hg, hf, ⟨c0, c1, c2, c3, c4, c5, c6⟩, hr⟩ := (hA.below hb hN).at_ hlt
      obtain ⟨s1, s2⟩ := hsm f (List.mem_of_getElem? hf.out)
      have hgw : g < wr.heap.size := by omega
      clear hsm hA
      have hTb := hR.own.lo
      have hIb := hR.inn.lo
      go_wp2_with (first | (go_at_call 23; refine (twin_any f X Y cX cY N _ (by omega) hr (by omega) (by omega)).mono ?_; rintro e w' ⟨t, rfl, rfl, htw, hbw⟩; have hbs := hbw.size; have ho1 := ((hR.own.keep hbw (fun k hk => (hTb k hk).2)).alloc (.cells (eTw t).toArray 57)).alloc (.cells (eTw t).toArray 57); have hi1 := ((hR.inn.keep hbw (fun k hk => (hIb k hk).2)).alloc (.cells (eTw t).toArray 57)).alloc (.cells (eTw t).toArray 57); have he1 : ∀ x ∈ ts, TwOwn ((w'.alloc (.cells (eTw t).toArray 57)).alloc (.cells (eTw t).toArray 57)) w.heap.size x := fun x hx => (((hR.each x hx).keep hbw (hR.each x hx).lt.1 (hR.each x hx).lt.2).alloc _).alloc _; have ht1 : TwOwn ((w'.alloc (.cells (eTw t).toArray 57)).alloc (.cells (eTw t).toArray 57)) w.heap.size t := ((htw.lower hsz).alloc _).alloc _; have hb1 : Below w.heap.size w ((w'.alloc (.cells (eTw t).toArray 57)).alloc (.cells (eTw t).toArray 57)) := ((hb.trans (hbw.mono hsz)).alloc (by omega) _).alloc (by simp only [World.size_alloc]; omega) _; unfold eTw) | (at_builtin; refine wpList_append_rows _ rfl (.tmp 20) (.tmp 22) 23 rfl w.heap.size 57 9 136 _ Try.underlying23 info57 rfl (by decide) eTw len_eTw one_eTw T cT ts (some ⟨w'.heap.size + 1, 0, none⟩) 1 (w'.heap.size + 2) q 1 [t] rfl rfl ?_ rfl ?_ ?_ ?_ ?_ ?_ ?_))
      · exact hR.len
      · exact ho1
      · refine row_new_at _ _ _ eTw t _ rfl ?_
        rw [World.size_alloc]
      · omega
      · omega
      · simp only [World.size_alloc]; omega
      · intro T2 cT2 w2 ho2 hg2 hk2
        have hgs := hg2.size
        simp only [World.size_alloc] at hgs
        have hcell : ∀ i, w2.cell? ⟨w'.heap.size, i, none⟩ = (eTw t).toArray[i]? := fun i => by
          rw [World.cell?_of_block (a := ⟨w'.heap.size, i, none⟩) (hg2.block w'.heap.size (by simp only [World.size_alloc]; omega) (fun e => by have := (hTb _ e.symm).2; omega))]
          rw [World.cell?_alloc_past _ _ _ (by simp only [World.size_alloc]; omega)]
          exact World.cell?_alloc_at _ _ _ _ rfl
        unfold eTw at hcell
        have hi2 := hi1.kept hg2 (hi1.ne ho1 (by decide))
        have he2 : ∀ x ∈ ts, TwOwn w2 w.heap.size x := fun x hx => (he1 x hx).beside ho1 hg2 (by decide) (by decide)
        have ht2 := ht1.beside ho1 hg2 (by decide) (by decide)
        have hb2 := hb1.grown hg2 (by simp only [World.size_alloc]; omega) (fun k hk => (hTb k hk).1)
        have hw2 : w'.heap.size < w2.heap.size := by omega
        have hR0 := Lib.hid hR.fst
        have hRl := Lib.hid hR.len
        clear ho1 hi1 he1 ht1 hb1 hg2 hk2 hR htw hbw hb
        go_wp2_with (at_builtin; refine wpList_append_rows _ rfl (.tmp 24) (.tmp 27) 22 rfl w.heap.size 39 7 88 _ Try.underlying22 info39 rfl (by decide) flTw len_flTw one_flTw I cI ts (some ⟨w2.heap.size, 0, none⟩) 1 (w2.heap.size + 1) q 1 [t] rfl rfl ?_ rfl ?_ ?_ ?_ ?_ ?_ ?_)
        · exact hRl.out
        · exact hi2.alloc _
        · exact row_new _ _ _ flTw t _ rfl
        · omega
        · omega
        · simp only [World.size_alloc]; omega
        · intro I2 cI2 w3 hi3 hg3 hk3
          have ho3 := (ho2.alloc (.cells (flTw t).toArray 39)).kept hg3 ((ho2.alloc (.cells (flTw t).toArray 39)).ne (hi2.alloc (.cells (flTw t).toArray 39)) (by decide))
          have he3 : ∀ x ∈ ts ++ [t], TwOwn w3 w.heap.size x := fun x hx => by
            rcases List.mem_append.1 hx with h | h
            · exact ((he2 x h).alloc _).beside (hi2.alloc (.cells (flTw t).toArray 39)) hg3 (by decide) (by decide)
            · simp at h; subst h; exact (ht2.alloc _).beside (hi2.alloc (.cells (flTw x).toArray 39)) hg3 (by decide) (by decide)
          have hb3 := (hb2.alloc (by omega) (.cells (flTw t).toArray 39)).grown hg3 (by simp only [World.size_alloc]; omega) (fun k hk => (hIb k hk).1)
          clear ho2 hi2 he2 ht2 hb2 hcell hg3 hk3
          go_wp2
          go_roundw
          case rel =>
            go_light
            exact ⟨q + 1, ts ++ [t], T2, cT2, I2, cI2, by go_num, by omega, rfl, rfl, ⟨by simp [hRl.out], by rw [List.map_append, hR0.out, List.take_add_one, hf.out]; rfl, ho3, hi3, he3, hb3⟩⟩
          case measure => go_light; simp [intOf]; omega
    · obtain rfl : q = fs.length := by omega
      go_wp2
      go_ret2
      go_light
      exact ⟨ts, T, cT, I, cI, rfl, by rw [hR.fst, List.take_length], hR⟩
end Go.Proofs.Ytcffhfcjfjfokaa
/- Contents as they lie in memory. -/
namespace Go.Proofs.Ytcffhfcjfjfokaa
open Go.RowKit
/-- A content as it lies in memory: with its lists' places. -/
structure Rw where
  f : Fl
  X : Option Addr
  cX : Nat
  Y : Option Addr
  cY : Nat
def eRw (r : Rw) : List Value := [.int .i64 r.f.e, .int .i64 r.f.l, .int .i64 r.f.i, .int .i64 r.f.c, .int .i64 r.f.base, .slice r.X r.f.slots.length r.cX, .slice r.Y r.f.have_.length r.cY]
theorem len_eRw (x : Rw) : (eRw x).length = 7 := rfl
theorem one_eRw (x : Rw) : ∀ u ∈ eRw x, u.oneCell' = true := by intro u hu; simp [eRw] at hu; rcases hu with rfl | rfl | rfl | rfl | rfl | rfl | rfl <;> rfl
structure Rws (w : World) (N : Nat) (A : Option Addr) (rs : List Rw) : Prop where
  row : RowAt w N 7 eRw A rs
  each : ∀ r ∈ rs, FlRows w N r.f r.X r.cX r.Y r.cY
theorem fls_rows {w : World} {N : Nat} {A : Option Addr} {fs : List Fl} (h : Fls w N A fs) : ∃ rs : List Rw, rs.map Rw.f = fs ∧ Rws w N A rs := by
  by_cases h0 : 0 < fs.length
  · obtain ⟨b, off, hA, hb, hc⟩ := h h0
    have key : ∀ n, n ≤ fs.length → ∃ rs : List Rw, rs.map Rw.f = fs.take n ∧ (∀ k r, rs[k]? = some r → FlAt w N b (off + k * 7) r.f r.X r.cX r.Y r.cY ∧ FlRows w N r.f r.X r.cX r.Y r.cY) := by
      intro n
      induction n with
      | zero => intro _; exact ⟨[], by simp, by intro k r hr; simp at hr⟩
      | succ n ih =>
        intro hn
        obtain ⟨rs, h1, h2⟩ := ih (by omega)
        have hlen : rs.length = n := by have := congrArg List.length h1; simp at this; omega
        obtain ⟨X, cX, Y, cY, h3, h4⟩ := hc n fs[n] (List.getElem?_eq_getElem (by omega))
        refine ⟨rs ++ [⟨fs[n], X, cX, Y, cY⟩], ?_, fun k r hr => ?_⟩
        · rw [List.map_append, h1, List.take_add_one, List.getElem?_eq_getElem (by omega)]; rfl
        · by_cases hk : k < rs.length
          · rw [List.getElem?_append_left hk] at hr; exact h2 k r hr
          · rw [List.getElem?_append_right (by omega)] at hr
            obtain rfl : k = n := by
              have := (List.getElem?_eq_some_iff.1 hr).1; simp at this; omega
            rw [hlen] at hr; simp at hr; subst hr
            exact ⟨h3, h4⟩
    obtain ⟨rs, h1, h2⟩ := key fs.length (Nat.le_refl _)
    rw [List.take_length] at h1
    refine ⟨rs, h1, ⟨fun _ => ⟨b, off, hA, hb, fun k r hr j u hu => ?_⟩, fun r hr => ?_⟩⟩
    · obtain ⟨⟨c0, c1, c2, c3, c4, c5, c6⟩, _⟩ := h2 k r hr
      match j, hu with
      | 0, hu => simp [eRw] at hu; subst hu; exact c0
      | 1, hu => simp [eRw] at hu; subst hu; exact c1
      | 2, hu => simp [eRw] at hu; subst hu; exact c2
      | 3, hu => simp [eRw] at hu; subst hu; exact c3
      | 4, hu => simp [eRw] at hu; subst hu; exact c4
      | 5, hu => simp [eRw] at hu; subst hu; exact c5
      | 6, hu => simp [eRw] at hu; subst hu; exact c6
      | n + 7, hu => simp [eRw] at hu
    · obtain ⟨k, hk⟩ := List.mem_iff_getElem?.1 hr
      exact (h2 k r hk).2
  · have : fs = [] := List.eq_nil_of_length_eq_zero (by omega)
    subst this
    exact ⟨[], rfl, ⟨fun h => absurd h (by simp), by simp⟩⟩
theorem rows_fls {w : World} {N : Nat} {A : Option Addr} {rs : List Rw} (h : Rws w N A rs) : Fls w N A (rs.map Rw.f) := fun h0 => by
  obtain ⟨b, off, hA, hb, hc⟩ := h.row (by simpa using h0)
  refine ⟨b, off, hA, hb, fun k f hf => ?_⟩
  rw [List.getElem?_map] at hf
  cases hr : rs[k]? with
  | none => rw [hr] at hf; cases hf
  | some r =>
    rw [hr] at hf; cases hf
    refine ⟨r.X, r.cX, r.Y, r.cY, ⟨?_, ?_, ?_, ?_, ?_, ?_, ?_⟩, h.each r (List.mem_of_getElem? hr)⟩
    · exact hc k r hr 0 _ rfl
    · exact hc k r hr 1 _ rfl
    · exact hc k r hr 2 _ rfl
    · exact hc k r hr 3 _ rfl
    · exact hc k r hr 4 _ rfl
    · exact hc k r hr 5 _ rfl
    · exact hc k r hr 6 _ rfl
end Go.Proofs.Ytcffhfcjfjfokaa
/- The law's many: contents of their own. -/
namespace Go.Proofs.Ytcffhfcjfjfokaa
open Go.RowKit
/-- A row in another block than B's. -/
def FarRow {α : Type} (w : World) (B : Option Addr) (sz : Nat) (enc : α → List Value) (A : Option Addr) (l : List α) : Prop :=
  0 < l.length → ∃ b off, A = some ⟨b, off, none⟩ ∧ some b ≠ blk B ∧ b < w.heap.size ∧ ∀ k x, l[k]? = some x → ∀ j u, (enc x)[j]? = some u → w.cell? ⟨b, off + k * sz + j, none⟩ = some u
section
variable {α : Type} {w w' : World} {lo sz : Nat} {enc : α → List Value} {A B B' : Option Addr} {l : List α}
theorem FarRow.row (h : FarRow w B sz enc A l) : RowAt w w.heap.size sz enc A l := fun h0 => by
  obtain ⟨b, off, e, _, hb, hc⟩ := h h0
  exact ⟨b, off, e, hb, hc⟩
theorem FarRow.of_row (h : FRow w lo sz enc A l) (hB : ∀ k, blk B = some k → k < lo) : FarRow w B sz enc A l := fun h0 => by
  obtain ⟨b, off, e, h1, h2, hc⟩ := h h0
  exact ⟨b, off, e, fun e2 => by have := hB b e2.symm; omega, h2, hc⟩
theorem FarRow.below (h : FarRow w B sz enc A l) (hb : Below w.heap.size w w') : FarRow w' B sz enc A l := fun h0 => by
  obtain ⟨b, off, e, h1, h2, hc⟩ := h h0
  exact ⟨b, off, e, h1, Nat.lt_of_lt_of_le h2 hb.size, fun k x hk j u hu => (hb.cell (p := ⟨b, _, none⟩) h2).trans (hc k x hk j u hu)⟩
theorem FarRow.grown (h : FarRow w B sz enc A l) (hg : w.grownBy w' (blk B)) (hk : blk B' = blk B ∨ blk B' = some w.heap.size) : FarRow w' B' sz enc A l := fun h0 => by
  obtain ⟨b, off, e, h1, h2, hc⟩ := h h0
  refine ⟨b, off, e, fun e2 => ?_, Nat.lt_of_lt_of_le h2 hg.size, fun k x hk j u hu => (hg.cell_far ⟨b, _, none⟩ h2 h1).trans (hc k x hk j u hu)⟩
  rcases hk with hk | hk
  · exact h1 (e2.trans hk)
  · rw [hk] at e2; injection e2 with e2; omega
end
/-- A content whose lists lie in other blocks than B's. -/
def FarFl (w : World) (B : Option Addr) (r : Rw) : Prop := FlRows w w.heap.size r.f r.X r.cX r.Y r.cY ∧ FarRow w B 2 eSlot r.X r.f.slots ∧ FarRow w B 1 eInt r.Y r.f.have_
theorem FarFl.below {w w' : World} {B : Option Addr} {r : Rw} (h : FarFl w B r) (hb : Below w.heap.size w w') : FarFl w' B r :=
  ⟨⟨(h.2.1.below hb).row, (h.2.2.below hb).row, h.1.lenS, h.1.capS, h.1.lenH, h.1.capH⟩, h.2.1.below hb, h.2.2.below hb⟩
theorem FarFl.grown {w w' : World} {B B' : Option Addr} {r : Rw} (h : FarFl w B r) (hg : w.grownBy w' (blk B)) (hk : blk B' = blk B ∨ blk B' = some w.heap.size) : FarFl w' B' r :=
  ⟨⟨(h.2.1.grown hg hk).row, (h.2.2.grown hg hk).row, h.1.lenS, h.1.capS, h.1.lenH, h.1.capH⟩, h.2.1.grown hg hk, h.2.2.grown hg hk⟩
set_option maxRecDepth 100000 in
set_option maxHeartbeats 4000000 in
theorem many_any (A : Option Addr) (cA N : Nat) (fs : List Fl) (w : World) (hN : N ≤ w.heap.size) (hA : Fls w N A fs) (hsm : Small fs) :
    Calls Try.prog 28 #[.slice A fs.length cA] w fun x w' => (∃ B c, x = .returned (.slice B fs.length c) ∧ Fls w' w'.heap.size B fs) ∧ Below w.heap.size w w' := by
  have hl : fs.length ≤ 1048576 := hsm.1
  replace hsm := Lib.hid hsm
  go_enter Try.func28, Try.ntmps28
  go_wp2
  go_loopw [3, 4] (fun a k wr => ∃ (i : Nat) (rs : List Rw) (B : Option Addr) (c : Nat), k = .int .i64 i ∧ a = .slice B i c ∧ rs.length = i ∧ i ≤ fs.length ∧ Hid (rs.map Rw.f = fs.take i) ∧ Owns wr w.heap.size 39 7 eRw B c rs ∧ (∀ r ∈ rs, FarFl wr B r) ∧ Below w.heap.size w wr) (fun _ k _ => fs.length - (intOf k).toNat)
  case atStart => exact ⟨0, [], _, 0, rfl, rfl, rfl, by omega, by show List.map _ _ = _; simp, owns_empty _ _ _ _ _ (Nat.le_refl _), by simp, (Below.refl _ _).alloc (Nat.le_refl _) _⟩
  case round =>
    obtain ⟨i, rs, B, c, rfl, rfl, hrl, hi, hrs, ho, hfar, hb⟩ := hrel
    have hrl' := Lib.hid hrl
    have hszr := hb.size
    replace hfar := Lib.hid hfar
    by_cases hlt : i < fs.length
    · obtain ⟨g, o, f, X, cX, Y, cY, rfl, hg, hf, ⟨c0, c1, c2, c3, c4, c5, c6⟩, hr⟩ := (hA.below hb hN).at_ hlt
      have hgw : g < wr.heap.size := by omega
      obtain ⟨hs1, hs2⟩ := hsm.out.2 f (List.mem_of_getElem? hf.out)
      have hlo := ho.lo
      replace ho := Lib.hid ho
      clear hrl
      go_wp2_with (first
        | (go_at_call 38; refine (one_any f X Y cX cY N wr (by omega) hr (by omega) (by omega)).mono ?_; rintro e w1 ⟨⟨X1, cX1, Y1, cY1, rfl, hfr, hX1, hY1⟩, hb1⟩; replace hX1 := Lib.hid hX1; replace hY1 := Lib.hid hY1; replace hfr := Lib.hid hfr; have hs1' := hb1.size)
        | (at_builtin; refine wpList_append_rows _ rfl (.tmp 12) (.tmp 18) 22 rfl w.heap.size 39 7 88 _ Try.underlying22 info39 rfl (by decide) eRw len_eRw one_eRw B c rs (some ⟨w1.heap.size, 0, none⟩) 1 (w1.heap.size + 1) i 1 [⟨f, X1, cX1, Y1, cY1⟩] rfl rfl hrl'.out rfl ((ho.out.keep hb1 (fun k hk => (hlo k hk).2)).alloc _) (row_new _ _ _ _ _ _ rfl) (by omega) (by omega) (by simp; omega) ?_)
        | fail)
      intro A3 cc3 w3 ho3 hg3 hk3
      replace hk3 : blk A3 = blk B ∨ blk A3 = some (w1.alloc (.cells #[.int .i64 f.e, .int .i64 f.l, .int .i64 f.i, .int .i64 f.c, .int .i64 f.base, .slice X1 f.slots.length cX1, .slice Y1 f.have_.length cY1] 39)).heap.size := by simpa using hk3
      have hb13 : Below w1.heap.size w1 (w1.alloc (.cells #[.int .i64 f.e, .int .i64 f.l, .int .i64 f.i, .int .i64 f.c, .int .i64 f.base, .slice X1 f.slots.length cX1, .slice Y1 f.have_.length cY1] 39)) := (Below.refl _ _).alloc (Nat.le_refl _) _
      have hnew : FarFl w1 B ⟨f, X1, cX1, Y1, cY1⟩ := ⟨hfr.out, FarRow.of_row hX1.out (fun k hk => (hlo k hk).2), FarRow.of_row hY1.out (fun k hk => (hlo k hk).2)⟩
      have hbw3 : Below w.heap.size w w3 := ((hb.trans (hb1.mono hszr)).alloc (by omega) _).grown hg3 (by simp only [World.size_alloc]; omega) (fun k hk => (hlo k hk).1)
      have hfar3 : ∀ r ∈ rs ++ [⟨f, X1, cX1, Y1, cY1⟩], FarFl w3 A3 r := fun r hr' => by
        rcases List.mem_append.1 hr' with h | h
        · exact (((hfar.out r h).below hb1).below hb13).grown hg3 hk3
        · obtain rfl := List.mem_singleton.1 h
          exact (hnew.below hb13).grown hg3 hk3
      replace hfar3 := Lib.hid hfar3
      replace ho3 := Lib.hid ho3
      clear hg3 hk3 hnew hb13 hlo c0 c1 c2 c3 c4 c5 c6
      have hrs3 : Hid ((rs ++ [(⟨f, X1, cX1, Y1, cY1⟩ : Rw)]).map Rw.f = fs.take (i + 1)) := by
        show List.map Rw.f (rs ++ [⟨f, X1, cX1, Y1, cY1⟩]) = _
        rw [List.map_append, hrs.out, List.take_add_one, hf.out]; rfl
      go_wp2
      go_roundw
      case rel => go_light; exact ⟨i + 1, rs ++ [⟨f, X1, cX1, Y1, cY1⟩], A3, cc3, by go_num, rfl, by rw [List.length_append, hrl'.out]; rfl, by omega, hrs3, ho3.out, hfar3.out, hbw3⟩
      case measure => go_light; simp [intOf]; omega
    · obtain rfl : i = fs.length := by omega
      have hF : Fls wr wr.heap.size B fs := by
        have := rows_fls (w := wr) (N := wr.heap.size) (A := B) (rs := rs) ⟨ho.row len_eRw, fun r hr => (hfar.out r hr).1⟩
        rw [hrs.out, List.take_length] at this; exact this
      replace ho := Lib.hid ho
      replace hF := Lib.hid hF
      clear hrl
      go_wp2
      go_ret
      exact ⟨⟨B, c, rfl, hF.out⟩, hb⟩
end Go.Proofs.Ytcffhfcjfjfokaa
/- The law's datas: messages of their own. -/
namespace Go.Proofs.Ytcffhfcjfjfokaa
open Go.RowKit
theorem info5 : (Try.prog.info? 5).map (fun i => (i.zero, i.size, i.bytes)) = some (some (.int .u8 0), 1, 1) := by kernel_rfl
theorem info113 : (Try.prog.info? 113).map (fun i => (i.zero, i.size, i.bytes)) = some (some (.agg #[.int .i64 0, .int .i64 0, .int .i64 0, .slice none 0 0]), 4, 48) := by kernel_rfl
/-- Messages that are not too many and not too long. -/
def SmallD (ds : List Dt) : Prop := ds.length ≤ 1048576 ∧ ∀ d ∈ ds, d.body.length ≤ 1048576
/-- A message whose bytes lie in another block than B's. -/
def FarDr (w : World) (B : Option Addr) (r : Dr) : Prop := (r.d.body.length ≤ r.c ∧ r.c ≤ 9223372036854775807) ∧ FarRow w B 1 eByte r.B r.d.body
theorem FarDr.below {w w' : World} {B : Option Addr} {r : Dr} (h : FarDr w B r) (hb : Below w.heap.size w w') : FarDr w' B r := ⟨h.1, h.2.below hb⟩
theorem FarDr.grown {w w' : World} {B B' : Option Addr} {r : Dr} (h : FarDr w B r) (hg : w.grownBy w' (blk B)) (hk : blk B' = blk B ∨ blk B' = some w.heap.size) : FarDr w' B' r := ⟨h.1, h.2.grown hg hk⟩
set_option maxRecDepth 100000 in
set_option maxHeartbeats 4000000 in
theorem datas_any (A : Option Addr) (cA N : Nat) (ds : List Dt) (w : World) (hN : N ≤ w.heap.size) (hA : Dts w N A ds) (hsm : SmallD ds) :
    Calls Try.prog 18 #[.slice A ds.length cA] w fun x w' => (∃ B c, x = .returned (.slice B ds.length c) ∧ Dts w' w'.heap.size B ds) ∧ Below w.heap.size w w' := by
  have hl : ds.length ≤ 1048576 := hsm.1
  replace hsm := Lib.hid hsm
  go_enter Try.func18, Try.ntmps18
  go_wp2
  go_loopw [3, 4] (fun a k wr => ∃ (i : Nat) (rs : List Dr) (B : Option Addr) (c : Nat), k = .int .i64 i ∧ a = .slice B i c ∧ rs.length = i ∧ i ≤ ds.length ∧ Hid (rs.map Dr.d = ds.take i) ∧ Owns wr w.heap.size 113 4 eDr B c rs ∧ (∀ r ∈ rs, FarDr wr B r) ∧ Below w.heap.size w wr) (fun _ k _ => ds.length - (intOf k).toNat)
  case atStart => exact ⟨0, [], _, 0, rfl, rfl, rfl, by omega, by show List.map _ _ = _; simp, owns_empty _ _ _ _ _ (Nat.le_refl _), by simp, (Below.refl _ _).alloc (Nat.le_refl _) _⟩
  case round =>
    obtain ⟨i, rs, B, c, rfl, rfl, hrl, hi, hrs, ho, hfar, hb⟩ := hrel
    have hrl' := Lib.hid hrl
    have hszr := hb.size
    replace hfar := Lib.hid hfar
    by_cases hlt : i < ds.length
    · obtain ⟨g, o, d, X, cX, hAe, hg, hd, c0, c1, c2, c3, hX⟩ := (hA.below hb hN).at_ hlt
      subst hAe
      have hgw : g < wr.heap.size := by omega
      have hs1 := hsm.out.2 d (List.mem_of_getElem? hd.out)
      have hlo := ho.lo
      replace ho := Lib.hid ho
      clear hrl
      go_wp2_with (at_builtin; refine wpList_append_rows _ rfl (.tmp 17) (.tmp 19) 52 rfl (wr.heap.size + 1) 5 1 1 _ Try.underlying52 info5 rfl (by decide) eByte len_eByte one_eByte (some ⟨wr.heap.size + 1, 0, none⟩) 0 [] X cX N 0 d.body.length d.body rfl rfl rfl rfl (owns_empty_at _ _ _ _ _ (by simp) (Nat.le_refl _)) (hX.row.below (((Below.refl wr.heap.size wr).alloc (Nat.le_refl _) _).alloc (by simp) _) (by omega)) (by omega) (by omega) (by simp) ?_)
      intro A1 cc1 w1 ho1 hg1 hk1
      have hb1 : Below (wr.heap.size + 1) (box1 wr #[.int .i64 d.s, .int .i64 d.q, .int .i64 d.b, .slice X d.body.length cX] 113) w1 := ((Below.refl _ _).alloc (by simp) _).grown hg1 (by simp) (by intro k hk; simp [blk] at hk; omega)
      obtain ⟨hb10, hc1, hf1, hsz1⟩ := box1_facts hb1
      have q0 := hc1 0
      have q1 := hc1 1
      have q2 := hc1 2
      have q3 := hc1 3
      have z3 := hf1 3
      simp at q0 q1 q2 q3
      have hlo1 := ho1.lo
      have hlen1 := ho1.len
      have hF1 := FRow.of_owns ho1 len_eByte
      replace ho1 := Lib.hid ho1
      replace hF1 := Lib.hid hF1
      clear hg1 hk1 hc1 hf1 c0 c1 c2 c3 hX
      have hb2 : Below wr.heap.size wr (w1.setCell ⟨wr.heap.size, 3, none⟩ (.slice A1 d.body.length cc1)) := hb10.setCell (by show wr.heap.size ≤ wr.heap.size; omega) _
      have hF2 : FRow (w1.setCell ⟨wr.heap.size, 3, none⟩ (.slice A1 d.body.length cc1)) (wr.heap.size + 1) 1 eByte A1 d.body := hF1.out.setCell (Nat.lt_succ_self _) _
      have hsz2 : (w1.setCell ⟨wr.heap.size, 3, none⟩ (.slice A1 d.body.length cc1)).heap.size = w1.heap.size := World.size_setCell _ _ _
      replace hF2 := Lib.hid hF2
      replace hb2 := Lib.hid hb2
      go_wp2_with (at_builtin; refine wpList_append_rows _ rfl (.tmp 22) (.tmp 24) 40 rfl w.heap.size 113 4 48 _ Try.underlying40 info113 rfl (by decide) eDr len_eDr one_eDr B c rs (some ⟨w1.heap.size, 0, none⟩) 1 (w1.heap.size + 1) i 1 [⟨d, A1, cc1⟩] rfl rfl hrl'.out rfl ((ho.out.keep hb2.out (fun k hk => (hlo k hk).2)).alloc _) (by have := row_new (w1.setCell ⟨wr.heap.size, 3, none⟩ (.slice A1 d.body.length cc1)) 113 4 eDr ⟨d, A1, cc1⟩ #[.int .i64 d.s, .int .i64 d.q, .int .i64 d.b, .slice A1 d.body.length cc1] rfl; rw [hsz2] at this; exact this) (by omega) (by omega) (by simp; omega) ?_)
      intro A3 cc3 w3 ho3 hg3 hk3
      replace hk3 : blk A3 = blk B ∨ blk A3 = some ((w1.setCell ⟨wr.heap.size, 3, none⟩ (.slice A1 d.body.length cc1)).alloc (.cells #[.int .i64 d.s, .int .i64 d.q, .int .i64 d.b, .slice A1 d.body.length cc1] 113)).heap.size := by simpa using hk3
      have hb13 : Below (w1.setCell ⟨wr.heap.size, 3, none⟩ (.slice A1 d.body.length cc1)).heap.size (w1.setCell ⟨wr.heap.size, 3, none⟩ (.slice A1 d.body.length cc1)) ((w1.setCell ⟨wr.heap.size, 3, none⟩ (.slice A1 d.body.length cc1)).alloc (.cells #[.int .i64 d.s, .int .i64 d.q, .int .i64 d.b, .slice A1 d.body.length cc1] 113)) := (Below.refl _ _).alloc (Nat.le_refl _) _
      have hnew : FarDr (w1.setCell ⟨wr.heap.size, 3, none⟩ (.slice A1 d.body.length cc1)) B ⟨d, A1, cc1⟩ := ⟨hlen1, FarRow.of_row hF2.out (fun k hk => by have := (hlo k hk).2; omega)⟩
      have hbw3 : Below w.heap.size w w3 := ((hb.trans (hb2.out.mono hszr)).alloc (by rw [hsz2]; omega) (.cells #[.int .i64 d.s, .int .i64 d.q, .int .i64 d.b, .slice A1 d.body.length cc1] 113)).grown hg3 (by simp only [World.size_alloc]; omega) (fun k hk => (hlo k hk).1)
      have hfar3 : ∀ r ∈ rs ++ [⟨d, A1, cc1⟩], FarDr w3 A3 r := fun r hr' => by
        rcases List.mem_append.1 hr' with h | h
        · exact (((hfar.out r h).below hb2.out).below hb13).grown hg3 hk3
        · obtain rfl := List.mem_singleton.1 h
          exact (hnew.below hb13).grown hg3 hk3
      have hrs3 : Hid ((rs ++ [(⟨d, A1, cc1⟩ : Dr)]).map Dr.d = ds.take (i + 1)) := by
        show List.map Dr.d (rs ++ [⟨d, A1, cc1⟩]) = _
        rw [List.map_append, hrs.out, List.take_add_one, hd.out]; rfl
      replace hfar3 := Lib.hid hfar3
      replace ho3 := Lib.hid ho3
      clear hg3 hk3 hnew hb13 hlo q0 q1 q2 q3 z3
      go_wp2
      go_roundw
      case rel => go_light; exact ⟨i + 1, rs ++ [⟨d, A1, cc1⟩], A3, cc3, by go_num, rfl, by rw [List.length_append, hrl'.out]; rfl, by omega, hrs3, ho3.out, hfar3.out, hbw3⟩
      case measure => go_light; simp [intOf]; omega
    · obtain rfl : i = ds.length := by omega
      have hF : Dts wr wr.heap.size B ds := ⟨rs, by rw [hrs.out, List.take_length], ho.row len_eDr, fun r hr => ⟨(hfar.out r hr).2.row, (hfar.out r hr).1.1, (hfar.out r hr).1.2⟩⟩
      replace ho := Lib.hid ho
      replace hF := Lib.hid hF
      clear hrl
      go_wp2
      go_ret
      exact ⟨⟨B, c, rfl, hF.out⟩, hb⟩
end Go.Proofs.Ytcffhfcjfjfokaa
