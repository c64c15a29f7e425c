/- One2 FsW, joined. -/
import Derived.Test.YtcffhfcjfjfokaaSu4
import Derived.Test.YtcffhfcjfjfokaaSu5
set_option linter.unusedVariables false
set_option linter.unusedSimpArgs false
namespace Go.Proofs.Ytcffhfcjfjfokaa
open Go Go.RowKit
section
variable {P : Program}
theorem step_append_own {α : Type} {ops : Array Oper} {o : Oper} {a : Act} {w : World} {K : Act → World → Prop} {Q : Exit → Act → World → Prop} (hgd : o.guard = none) (s x : Operand) (t : TypeId)
    (ho : o.op = .call { callee := .builtin .append, args := #[s, x], argTypes := #[t, t] })
    (e : TypeId) (sz bytes : Nat) (z : Value) (ht : P.underlying t = some (.slice e)) (hinfo : (P.info? e).map (fun i => (i.zero, i.size, i.bytes)) = some (some z, sz, bytes))
    (hzs : z.cells.size = sz) (hsz : 0 < sz) (enc : α → List Value) (henc : ∀ x, (enc x).length = sz) (hone : ∀ x, ∀ u ∈ enc x, u.oneCell' = true)
    (A B : Option Addr) (cB N m : Nat) (l : List α) (hs : a.eval s = .slice A 0 0) (hx : a.eval x = .slice B m cB) (hm : l.length = m) (hr : RowAt w N sz enc B l) (hbytes : m * bytes ≤ 140737488351232) (h63 : m ≤ 9223372036854775807)
    (h : ∀ A' c' w', OwnW w' w.heap.size e sz enc A' c' l → Below w.heap.size w w' → K (a.put o.dst (.slice A' m c')) w') :
    if Region.wanted o (yielded ops a.tmps) = true then o.wp P a w K Q else K (a.put o.dst undef) w := by
  subst hm
  obtain ⟨i, hi, hz, hsize, hby⟩ := info_parts hinfo
  have hw : Region.wanted o (yielded ops a.tmps) = true := by simp [Region.wanted, hgd]
  rw [if_pos hw]
  have key : ∃ A' c' w', (Builtin.append_ #[t, t] o.type #[.slice A 0 0, .slice B l.length cB]).run P w = .ok (.slice A' l.length c') w' ∧ OwnW w' w.heap.size e sz enc A' c' l ∧ Below w.heap.size w w' := by
    by_cases h0 : 0 < l.length
    · obtain ⟨b, off, rfl, hb, hc⟩ := hr h0
      obtain ⟨v', w', h1, h2, h3, _, h5⟩ := run_append_own_at (P := P) w w.heap.size t o.type e i z sz bytes ht hi hz hsize hby hzs hsz (.slice none 0 0) 0 _ (owns_nil (α := α) w w.heap.size e sz enc) ⟨b, off, none⟩ l.length cB (l.flatMap enc)
        (length_flat henc l) (fun j u hu => by
          obtain ⟨k, r, x, hk, hr', rfl⟩ := flatMap_of henc l j u hu
          have := hc k x hk r u hr'
          by_cases hz0 : k * sz + r = 0
          · rw [hz0]; simp only [Addr.add, if_true]
            have e0 : off + k * sz + r = off := by omega
            rw [e0] at this; exact this
          · simp only [Addr.add, if_neg hz0]
            rw [← Nat.add_assoc]; exact this)
        (fun u hu => by obtain ⟨x, _, hux⟩ := List.mem_flatMap.1 hu; exact hone x u hux) (by simp only [maxLen]; omega) (by rw [Nat.zero_add]; omega) (Nat.le_refl _)
      rw [Nat.zero_add, List.flatMap_nil, List.nil_append] at h2
      obtain ⟨g, cap, rfl, hg1, hg2⟩ := World.ownsRow.form h2 h0
      have hO : Owns w' w.heap.size e sz enc (some ⟨g, 0, none⟩) cap l := h2
      refine ⟨some ⟨g, 0, none⟩, cap, w', ?_, OwnW.of hO, (Below.refl w.heap.size w).grown h3 (Nat.le_refl _) (by intro k hk; cases hk)⟩
      cases A with
      | none => exact h1
      | some ga => rw [run_append_zero w t o.type e i ht hi ga _ _ _ h0 (by rw [hby]; omega)]; exact h1
    · have hl : l = [] := List.eq_nil_of_length_eq_zero (by omega)
      subst hl
      exact ⟨A, 0, w, run_append_none w t o.type e i ht hi A B cB, ⟨Nat.le_refl _, fun h2 => absurd h2 (by omega)⟩, Below.refl _ _⟩
  obtain ⟨A', c', w', hrun, h2, h5⟩ := key
  unfold Oper.wp execOp
  simp only [ho, resolve, invoke, builtin, Sem.run_bind, Sem.run_pure, Result.andThen_ok, List.map_toArray, List.map_cons, List.map_nil, hs, hx, hrun]
  exact h A' c' w' h2 h5
end
def OneOwn (f : Fl) (w : World) (x : Ending) (w' : World) : Prop := (∃ X cX Y cY, x = .returned (.agg (flc f.e f.l f.i f.c f.base X f.slots.length cX Y f.have_.length cY)) ∧ OwnW w' w.heap.size 66 2 eSlot X cX f.slots ∧ OwnW w' w.heap.size 3 1 eInt Y cY f.have_) ∧ Below w.heap.size w w'
set_option maxRecDepth 100000 in
set_option maxHeartbeats 4000000 in
theorem one_own (f : Fl) (A B : Option Addr) (cA cB N : Nat) (w : World) (hN : N ≤ w.heap.size) (hr : FlRows w N f A cA B cB) (hbS : f.slots.length * 16 ≤ 140737488351232) (hbH : f.have_.length * 8 ≤ 140737488351232) :
    Calls Try.prog 38 #[.agg (flc f.e f.l f.i f.c f.base A f.slots.length cA B f.have_.length cB)] w (OneOwn f w) := by
  have h0 : OneT w (flc f.e f.l f.i f.c f.base A f.slots.length cA B f.have_.length cB) ((box1 w (flc f.e f.l f.i f.c f.base A f.slots.length cA B f.have_.length cB) 39).alloc (.cells onez 39)) := ⟨(Below.refl _ _).alloc (by simp) _, fun j hj => by
    refine ⟨?_, World.frozen?_alloc_at _ _ _ _ (by simp)⟩
    rw [World.cell?_alloc_at _ _ _ _ (by simp)]
    match j, hj with
    | 0, _ | 1, _ | 2, _ | 3, _ | 4, _ | 5, _ | 6, _ => rfl, by simp⟩
  have hall : ∀ W : World, OneT w (flc f.e f.l f.i f.c f.base A f.slots.length cA B f.have_.length cB) W → (OneT w (flc f.e f.l f.i f.c f.base A f.slots.length cA B f.have_.length cB) W ∧ W.cell? ⟨w.heap.size, 0, none⟩ = some (.int .i64 f.e) ∧ W.cell? ⟨w.heap.size, 1, none⟩ = some (.int .i64 f.l) ∧ W.cell? ⟨w.heap.size, 2, none⟩ = some (.int .i64 f.i) ∧ W.cell? ⟨w.heap.size, 3, none⟩ = some (.int .i64 f.c) ∧ W.cell? ⟨w.heap.size, 4, none⟩ = some (.int .i64 f.base) ∧ W.cell? ⟨w.heap.size, 5, none⟩ = some (.slice A f.slots.length cA) ∧ W.cell? ⟨w.heap.size, 6, none⟩ = some (.slice B f.have_.length cB) ∧ W.cell? ⟨w.heap.size + 1, 0, none⟩ = some (celOf W ⟨w.heap.size + 1, 0, none⟩) ∧ W.cell? ⟨w.heap.size + 1, 1, none⟩ = some (celOf W ⟨w.heap.size + 1, 1, none⟩) ∧ W.cell? ⟨w.heap.size + 1, 2, none⟩ = some (celOf W ⟨w.heap.size + 1, 2, none⟩) ∧ W.cell? ⟨w.heap.size + 1, 3, none⟩ = some (celOf W ⟨w.heap.size + 1, 3, none⟩) ∧ W.cell? ⟨w.heap.size + 1, 4, none⟩ = some (celOf W ⟨w.heap.size + 1, 4, none⟩) ∧ W.cell? ⟨w.heap.size + 1, 5, none⟩ = some (celOf W ⟨w.heap.size + 1, 5, none⟩) ∧ W.cell? ⟨w.heap.size + 1, 6, none⟩ = some (celOf W ⟨w.heap.size + 1, 6, none⟩) ∧ W.frozen? ⟨w.heap.size + 1, 0, none⟩ = false ∧ W.frozen? ⟨w.heap.size + 1, 1, none⟩ = false ∧ W.frozen? ⟨w.heap.size + 1, 2, none⟩ = false ∧ W.frozen? ⟨w.heap.size + 1, 3, none⟩ = false ∧ W.frozen? ⟨w.heap.size + 1, 4, none⟩ = false ∧ W.frozen? ⟨w.heap.size + 1, 5, none⟩ = false ∧ W.frozen? ⟨w.heap.size + 1, 6, none⟩ = false) := fun W h => by
    obtain ⟨-, hc, -, -⟩ := box1_facts h.bel
    exact ⟨h, hc 0, hc 1, hc 2, hc 3, hc 4, hc 5, hc 6, celOf_some (h.there 0 (by omega)).1, celOf_some (h.there 1 (by omega)).1, celOf_some (h.there 2 (by omega)).1, celOf_some (h.there 3 (by omega)).1, celOf_some (h.there 4 (by omega)).1, celOf_some (h.there 5 (by omega)).1, celOf_some (h.there 6 (by omega)).1,
      (h.there 0 (by omega)).2, (h.there 1 (by omega)).2, (h.there 2 (by omega)).2, (h.there 3 (by omega)).2, (h.there 4 (by omega)).2, (h.there 5 (by omega)).2, (h.there 6 (by omega)).2⟩
  have hS : ∀ W : World, OneT w (flc f.e f.l f.i f.c f.base A f.slots.length cA B f.have_.length cB) W → RowAt W N 2 eSlot A f.slots := fun W h => hr.slots.below (box1_facts h.bel).1 hN
  have hH : ∀ W : World, OneT w (flc f.e f.l f.i f.c f.base A f.slots.length cA B f.have_.length cB) W → RowAt W N 1 eInt B f.have_ := fun W h => hr.have_.below (box1_facts h.bel).1 hN
  obtain ⟨-, -, hlS, hcS, hlH, hcH⟩ := hr
  replace hall := Lib.hid hall
  replace hS := Lib.hid hS
  replace hH := Lib.hid hH
  have h0d := h0.drew
  go_enter Try.func38, Try.ntmps38
  go_wp2_with fail
  go_region_held3 (fun W => OneT w (flc f.e f.l f.i f.c f.base A f.slots.length cA B f.have_.length cB) W ∧ W.cell? ⟨w.heap.size, 0, none⟩ = some (.int .i64 f.e) ∧ W.cell? ⟨w.heap.size, 1, none⟩ = some (.int .i64 f.l) ∧ W.cell? ⟨w.heap.size, 2, none⟩ = some (.int .i64 f.i) ∧ W.cell? ⟨w.heap.size, 3, none⟩ = some (.int .i64 f.c) ∧ W.cell? ⟨w.heap.size, 4, none⟩ = some (.int .i64 f.base) ∧ W.cell? ⟨w.heap.size, 5, none⟩ = some (.slice A f.slots.length cA) ∧ W.cell? ⟨w.heap.size, 6, none⟩ = some (.slice B f.have_.length cB) ∧ W.cell? ⟨w.heap.size + 1, 0, none⟩ = some (celOf W ⟨w.heap.size + 1, 0, none⟩) ∧ W.cell? ⟨w.heap.size + 1, 1, none⟩ = some (celOf W ⟨w.heap.size + 1, 1, none⟩) ∧ W.cell? ⟨w.heap.size + 1, 2, none⟩ = some (celOf W ⟨w.heap.size + 1, 2, none⟩) ∧ W.cell? ⟨w.heap.size + 1, 3, none⟩ = some (celOf W ⟨w.heap.size + 1, 3, none⟩) ∧ W.cell? ⟨w.heap.size + 1, 4, none⟩ = some (celOf W ⟨w.heap.size + 1, 4, none⟩) ∧ W.cell? ⟨w.heap.size + 1, 5, none⟩ = some (celOf W ⟨w.heap.size + 1, 5, none⟩) ∧ W.cell? ⟨w.heap.size + 1, 6, none⟩ = some (celOf W ⟨w.heap.size + 1, 6, none⟩) ∧ W.frozen? ⟨w.heap.size + 1, 0, none⟩ = false ∧ W.frozen? ⟨w.heap.size + 1, 1, none⟩ = false ∧ W.frozen? ⟨w.heap.size + 1, 2, none⟩ = false ∧ W.frozen? ⟨w.heap.size + 1, 3, none⟩ = false ∧ W.frozen? ⟨w.heap.size + 1, 4, none⟩ = false ∧ W.frozen? ⟨w.heap.size + 1, 5, none⟩ = false ∧ W.frozen? ⟨w.heap.size + 1, 6, none⟩ = false)
    ((refine hall.out _ ?_; first | (have hO := (‹OneT w _ _ ∧ _›).1; simp (config := { maxDischargeDepth := 20 }) only [OneT.set_true, hO]; done) | with_reducible exact h0d | (with_reducible refine OneT.alloc ?_ _; exact (‹OneT w _ _ ∧ _›).1) | (with_reducible refine OneT.allocD ?_ _; exact (‹OneT w _ _ ∧ _›).1) | (with_reducible refine OneT.below ?_ hb1; exact (‹OneT w _ _ ∧ _›).1) | (with_reducible refine OneT.below ?_ hb2; exact (‹OneT w _ _ ∧ _›).1) | (with_reducible refine OneT.set7 ?_ _ _ _ _ _ _ _; exact (‹OneT w _ _ ∧ _›).1)))
    (first
      | (refine step_append_own rfl (.tmp 7) (.tmp 9) 36 rfl 66 2 16 _ Try.underlying36 info66 rfl (by decide) eSlot len_eSlot one_eSlot _ A cA N f.slots.length f.slots rfl rfl rfl (hS.out _ (‹OneT w _ _ ∧ _›).1) (by omega) (by omega) ?_; intro A1 c1 w1 hr1 hb1; replace hr1 := Lib.hid hr1)
      | (refine step_append_own rfl (.tmp 11) (.tmp 13) 37 rfl 3 1 8 _ Try.underlying37 info3 rfl (by decide) eInt len_eInt one_eInt _ B cB N f.have_.length f.have_ rfl rfl rfl (hH.out _ (‹OneT w _ _ ∧ _›).1) (by omega) (by omega) ?_; intro A2 c2 w2 hr2 hb2; replace hr2 := Lib.hid hr2))
  all_goals clear hall hS hH
  all_goals (first
    | (have hAll : OneT w (flc f.e f.l f.i f.c f.base A f.slots.length cA B f.have_.length cB) w2 ∧ OwnW w2 (w.heap.size + 2) 66 2 eSlot A1 c1 f.slots ∧ OwnW w2 (w.heap.size + 2) 3 1 eInt A2 c2 f.have_ := ⟨(((h0.alloc _).drew.below hb1).alloc _).below hb2, OwnW.lower ((hr1.out.below ((Below.refl _ _).alloc (Nat.le_refl _) _)).below hb2) (by have h1 := hb1.size; have h2 := hb2.size; simp at h1 h2 ⊢; try omega), OwnW.lower (hr2.out) (by have h1 := hb1.size; have h2 := hb2.size; simp at h1 h2 ⊢; try omega)⟩; obtain ⟨hO, hR1, hR2⟩ := hAll)
    | (have hAll : OneT w (flc f.e f.l f.i f.c f.base A f.slots.length cA B f.have_.length cB) w2 ∧ OwnW w2 (w.heap.size + 2) 66 2 eSlot A1 c1 f.slots ∧ OwnW w2 (w.heap.size + 2) 3 1 eInt A2 c2 f.have_ := ⟨((((h0.alloc _).alloc _).drew).below hb1).below hb2, OwnW.lower (hr1.out.below hb2) (by have h1 := hb1.size; have h2 := hb2.size; simp at h1 h2 ⊢; try omega), OwnW.lower (hr2.out) (by have h1 := hb1.size; have h2 := hb2.size; simp at h1 h2 ⊢; try omega)⟩; obtain ⟨hO, hR1, hR2⟩ := hAll)
    | (have hAll : OneT w (flc f.e f.l f.i f.c f.base A f.slots.length cA B f.have_.length cB) w1 ∧ OwnW w1 (w.heap.size + 2) 66 2 eSlot A1 c1 f.slots ∧ OwnW w1 (w.heap.size + 2) 3 1 eInt A2 c2 f.have_ := ⟨((((h0.alloc _).alloc _).drew).below hb2).below hb1, OwnW.lower (hr1.out) (by have h1 := hb1.size; have h2 := hb2.size; simp at h1 h2 ⊢; try omega), OwnW.lower (hr2.out.below hb1) (by have h1 := hb1.size; have h2 := hb2.size; simp at h1 h2 ⊢; try omega)⟩; obtain ⟨hO, hR1, hR2⟩ := hAll)
    | (have hAll : OneT w (flc f.e f.l f.i f.c f.base A f.slots.length cA B f.have_.length cB) w1 ∧ OwnW w1 (w.heap.size + 2) 66 2 eSlot A1 c1 f.slots ∧ OwnW w1 (w.heap.size + 2) 3 1 eInt A2 c2 f.have_ := ⟨(((h0.alloc _).drew.below hb2).alloc _).below hb1, OwnW.lower (hr1.out) (by have h1 := hb1.size; have h2 := hb2.size; simp at h1 h2 ⊢; try omega), OwnW.lower ((hr2.out.below ((Below.refl _ _).alloc (Nat.le_refl _) _)).below hb1) (by have h1 := hb1.size; have h2 := hb2.size; simp at h1 h2 ⊢; try omega)⟩; obtain ⟨hO, hR1, hR2⟩ := hAll))
  all_goals
    obtain ⟨r0, r1, r2, r3, r4, r5, r6⟩ := hO.read (.int .i64 f.e) (.int .i64 f.l) (.int .i64 f.i) (.int .i64 f.c) (.int .i64 f.base) (.slice A1 f.slots.length c1) (.slice A2 f.have_.length c2)
    have hO7 := hO.set7 (.int .i64 f.e) (.int .i64 f.l) (.int .i64 f.i) (.int .i64 f.c) (.int .i64 f.base) (.slice A1 f.slots.length c1) (.slice A2 f.have_.length c2)
    have hF1 := (((((((hR1.setCell (g := w.heap.size + 1) (Nat.lt_succ_self _) 0 (.int .i64 f.e)).setCell (g := w.heap.size + 1) (Nat.lt_succ_self _) 1 (.int .i64 f.l)).setCell (g := w.heap.size + 1) (Nat.lt_succ_self _) 2 (.int .i64 f.i)).setCell (g := w.heap.size + 1) (Nat.lt_succ_self _) 3 (.int .i64 f.c)).setCell (g := w.heap.size + 1) (Nat.lt_succ_self _) 4 (.int .i64 f.base)).setCell (g := w.heap.size + 1) (Nat.lt_succ_self _) 5 (.slice A1 f.slots.length c1)).setCell (g := w.heap.size + 1) (Nat.lt_succ_self _) 6 (.slice A2 f.have_.length c2))
    have hF2 := (((((((hR2.setCell (g := w.heap.size + 1) (Nat.lt_succ_self _) 0 (.int .i64 f.e)).setCell (g := w.heap.size + 1) (Nat.lt_succ_self _) 1 (.int .i64 f.l)).setCell (g := w.heap.size + 1) (Nat.lt_succ_self _) 2 (.int .i64 f.i)).setCell (g := w.heap.size + 1) (Nat.lt_succ_self _) 3 (.int .i64 f.c)).setCell (g := w.heap.size + 1) (Nat.lt_succ_self _) 4 (.int .i64 f.base)).setCell (g := w.heap.size + 1) (Nat.lt_succ_self _) 5 (.slice A1 f.slots.length c1)).setCell (g := w.heap.size + 1) (Nat.lt_succ_self _) 6 (.slice A2 f.have_.length c2))
    have hb9 := (box1_facts hO7.bel).1
    have hz9 := hO7.size
    clear hb1 hb2 hr1 hr2 hR1 hR2 hO h0 h0d
    go_wp2
    refine bodyPost_ret (v := .agg #[.int .i64 f.e, .int .i64 f.l, .int .i64 f.i, .int .i64 f.c, .int .i64 f.base, .slice A1 f.slots.length c1, .slice A2 f.have_.length c2]) (by simp [results, Try.results38, go_sem, r0, r1, r2, r3, r4, r5, r6]) rfl ?_
    exact ⟨⟨A1, c1, A2, c2, rfl, hF1.lower (by omega), hF2.lower (by omega)⟩, hb9⟩
end Go.Proofs.Ytcffhfcjfjfokaa
namespace Go.Proofs.Ytcffhfcjfjfokaa
open Go Go.RowKit
theorem OwnW.neO {α β : Type} {w : World} {base base' sz sz' c c' : Nat} {e e' : TypeId} {enc : α → List Value} {enc' : β → List Value} {A A' : Option Addr} {l : List α} {l' : List β} (h : OwnW w base e sz enc A c l) (h' : Owns w base' e' sz' enc' A' c' l') (he : e ≠ e') : ∀ k, bw A c = some k → blk A' ≠ some k := fun k h1 h2 => by
  rcases (h.own (bw_blk h1).2).ne h' he with e | e
  · rw [(bw_blk h1).1] at e; cases e
  · exact e ((bw_blk h1).1.trans h2.symm)
structure FsW (w : World) (base : Nat) (B : Option Addr) (c : Nat) (rs : List Rw) : Prop where
  own : Owns w base 39 7 eRw B c rs
  each : ∀ r ∈ rs, OwnW w base 66 2 eSlot r.X r.cX r.f.slots ∧ OwnW w base 3 1 eInt r.Y r.cY r.f.have_
  dis : ∀ (k j : Nat) (x y : Rw), k ≠ j → rs[k]? = some x → rs[j]? = some y → (∀ q, bw x.X x.cX = some q → bw y.X y.cX ≠ some q) ∧ (∀ q, bw x.Y x.cY = some q → bw y.Y y.cY ≠ some q)
def fblks (B : Option Addr) (rs : List Rw) : List Nat := (blk B).toList ++ rs.flatMap fun r => (bw r.X r.cX).toList ++ (bw r.Y r.cY).toList
section
variable {w w' : World} {base c c' g : Nat} {B B' : Option Addr} {rs : List Rw} {r : Rw} {S : List Nat}
theorem fblks_B (h : blk B = some g) : g ∈ fblks B rs := List.mem_append.2 (.inl (by rw [h]; simp))
theorem fblks_X (hr : r ∈ rs) (h : bw r.X r.cX = some g) : g ∈ fblks B rs := List.mem_append.2 (.inr (List.mem_flatMap.2 ⟨r, hr, List.mem_append.2 (.inl (by rw [h]; simp))⟩))
theorem fblks_Y (hr : r ∈ rs) (h : bw r.Y r.cY = some g) : g ∈ fblks B rs := List.mem_append.2 (.inr (List.mem_flatMap.2 ⟨r, hr, List.mem_append.2 (.inr (by rw [h]; simp))⟩))
theorem FsW.fx (h : FsW w base B c rs) (hf : Fx S w w') (hd : ∀ k ∈ fblks B rs, k ∉ S) : FsW w' base B c rs :=
  ⟨h.own.fx hf fun k hk => hd k (fblks_B hk), fun r hr => ⟨(h.each r hr).1.fx hf fun k hk => hd k (fblks_X hr hk), (h.each r hr).2.fx hf fun k hk => hd k (fblks_Y hr hk)⟩, h.dis⟩
theorem FsW.below (h : FsW w base B c rs) (hb : Below w.heap.size w w') : FsW w' base B c rs := h.fx (S := []) (.below hb) fun _ _ => by simp
theorem FsW.lower {base' : Nat} (h : FsW w base B c rs) (hb : base' ≤ base) : FsW w base' B c rs := ⟨h.own.base hb, fun r hr => ⟨(h.each r hr).1.lower hb, (h.each r hr).2.lower hb⟩, h.dis⟩
theorem FsW.fls (h : FsW w base B c rs) : Fls w w.heap.size B (rs.map Rw.f) :=
  rows_fls ⟨h.own.row len_eRw, fun r hr => by
    obtain ⟨o1, o2⟩ := h.each r hr
    exact ⟨o1.row len_eSlot, o2.row len_eInt, o1.len, o1.cap, o2.len, o2.cap⟩⟩
theorem FsW.push (h : FsW w base B c rs) (hz : base ≤ w.heap.size) (hf : Fx (blk B).toList w w') (hX : OwnW w' w.heap.size 66 2 eSlot r.X r.cX r.f.slots) (hY : OwnW w' w.heap.size 3 1 eInt r.Y r.cY r.f.have_) (ho : Owns w' base 39 7 eRw B' c' (rs ++ [r])) : FsW w' base B' c' (rs ++ [r]) := by
  have hold : ∀ x ∈ rs, OwnW w' base 66 2 eSlot x.X x.cX x.f.slots ∧ OwnW w' base 3 1 eInt x.Y x.cY x.f.have_ := fun x hx =>
    ⟨(h.each x hx).1.fx hf fun k hk hm => (h.each x hx).1.neO h.own (by decide) k hk (by simpa [Option.mem_toList] using hm), (h.each x hx).2.fx hf fun k hk hm => (h.each x hx).2.neO h.own (by decide) k hk (by simpa [Option.mem_toList] using hm)⟩
  have hget : ∀ k x, (rs ++ [r])[k]? = some x → (k < rs.length ∧ rs[k]? = some x) ∨ (k = rs.length ∧ x = r) := fun k x hx => by
    have hkl := (List.getElem?_eq_some_iff.1 hx).1
    rw [List.length_append] at hkl
    by_cases e : k < rs.length
    · rw [List.getElem?_append_left e] at hx; exact .inl ⟨e, hx⟩
    · have : k = rs.length := by simp at hkl; omega
      subst this
      rw [List.getElem?_append_right (Nat.le_refl _), Nat.sub_self] at hx
      injection hx with hx; exact .inr ⟨rfl, hx.symm⟩
  refine ⟨ho, fun x hx => ?_, fun k j x y hne hx hy => ?_⟩
  · rcases List.mem_append.1 hx with hx | hx
    · exact hold x hx
    · obtain rfl := List.mem_singleton.1 hx
      exact ⟨hX.lower hz, hY.lower hz⟩
  · rcases hget k x hx with ⟨e1, e2⟩ | ⟨e1, rfl⟩ <;> rcases hget j y hy with ⟨e3, e4⟩ | ⟨e3, rfl⟩
    · exact h.dis k j x y hne e2 e4
    · have hm := List.mem_of_getElem? e2
      exact ⟨fun q h1 h2 => by have := ((h.each x hm).1.lo q h1).2; have := (hX.lo q h2).1; omega, fun q h1 h2 => by have := ((h.each x hm).2.lo q h1).2; have := (hY.lo q h2).1; omega⟩
    · have hm := List.mem_of_getElem? e4
      exact ⟨fun q h1 h2 => by have := ((h.each y hm).1.lo q h2).2; have := (hX.lo q h1).1; omega, fun q h1 h2 => by have := ((h.each y hm).2.lo q h2).2; have := (hY.lo q h1).1; omega⟩
    · omega
theorem FsW.put {i : Nat} {r' : Rw} (h : FsW w base B c rs) (hz : base ≤ w.heap.size) (hi : rs[i]? = some r) (hf : Fx ((blk B).toList ++ ((bw r.X r.cX).toList ++ (bw r.Y r.cY).toList)) w w') (ho : Owns w' base 39 7 eRw B c (rs.set i r'))
    (hX : OwnW w' base 66 2 eSlot r'.X r'.cX r'.f.slots) (hY : OwnW w' base 3 1 eInt r'.Y r'.cY r'.f.have_)
    (kX : ∀ k, bw r'.X r'.cX = some k → bw r.X r.cX = some k ∨ w.heap.size ≤ k) (kY : ∀ k, bw r'.Y r'.cY = some k → bw r.Y r.cY = some k ∨ w.heap.size ≤ k) : FsW w' base B c (rs.set i r') := by
  have hil := (List.getElem?_eq_some_iff.1 hi).1
  have hrm := List.mem_of_getElem? hi
  have hS : ∀ k, k ∈ (blk B).toList ++ ((bw r.X r.cX).toList ++ (bw r.Y r.cY).toList) → blk B = some k ∨ bw r.X r.cX = some k ∨ bw r.Y r.cY = some k := fun k hk => by
    rcases List.mem_append.1 hk with hk | hk
    · left; simpa [Option.mem_toList] using hk
    · rcases List.mem_append.1 hk with hk | hk
      · right; left; simpa [Option.mem_toList] using hk
      · right; right; simpa [Option.mem_toList] using hk
  have hget : ∀ k, (rs.set i r')[k]? = if k = i then some r' else rs[k]? := fun k => by
    by_cases e1 : k = i
    · subst e1; rw [List.getElem?_set_self hil, if_pos rfl]
    · rw [List.getElem?_set_ne (fun e2 => e1 e2.symm), if_neg e1]
  have hold : ∀ (k : Nat) (x : Rw), k ≠ i → rs[k]? = some x → OwnW w' base 66 2 eSlot x.X x.cX x.f.slots ∧ OwnW w' base 3 1 eInt x.Y x.cY x.f.have_ := fun k x hne hx => by
    have hm := List.mem_of_getElem? hx
    obtain ⟨e1, e2⟩ := h.each x hm
    obtain ⟨e3, e4⟩ := h.each r hrm
    obtain ⟨d1, d2⟩ := h.dis k i x r hne hx hi
    refine ⟨e1.fx hf fun q hq hm => ?_, e2.fx hf fun q hq hm => ?_⟩
    · rcases hS q hm with e | e | e
      · exact e1.neO h.own (by decide) q hq e
      · exact d1 q hq e
      · exact e1.ne e4 (by decide) q hq e
    · rcases hS q hm with e | e | e
      · exact e2.neO h.own (by decide) q hq e
      · exact e2.ne e3 (by decide) q hq e
      · exact d2 q hq e
  refine ⟨ho, fun x hx => ?_, fun k j x y hne hx hy => ?_⟩
  · obtain ⟨k, hk⟩ := List.mem_iff_getElem?.1 hx
    rw [hget] at hk
    split at hk
    · injection hk with hk; subst hk; exact ⟨hX, hY⟩
    · rename_i hne; exact hold k x hne hk
  · rw [hget] at hx hy
    split at hx <;> split at hy
    · omega
    · rename_i e1 e2
      injection hx with hx; subst hx
      have hm := List.mem_of_getElem? hy
      obtain ⟨d1, d2⟩ := h.dis j i y r e2 hy hi
      refine ⟨fun q h1 h2 => ?_, fun q h1 h2 => ?_⟩
      · rcases kX q h1 with e | e
        · exact d1 q h2 e
        · have := ((h.each y hm).1.lo q h2).2; omega
      · rcases kY q h1 with e | e
        · exact d2 q h2 e
        · have := ((h.each y hm).2.lo q h2).2; omega
    · rename_i e1 e2
      injection hy with hy; subst hy
      have hm := List.mem_of_getElem? hx
      obtain ⟨d1, d2⟩ := h.dis k i x r e1 hx hi
      refine ⟨fun q h1 h2 => ?_, fun q h1 h2 => ?_⟩
      · rcases kX q h2 with e | e
        · exact d1 q h1 e
        · have := ((h.each x hm).1.lo q h1).2; omega
      · rcases kY q h2 with e | e
        · exact d2 q h1 e
        · have := ((h.each x hm).2.lo q h1).2; omega
    · exact h.dis k j x y hne hx hy
end
theorem FlAt.range {w : World} {N b o : Nat} {f : Fl} {X Y : Option Addr} {cX cY : Nat} (h : FlAt w N b o f X cX Y cY) : w.rangeAt b o (flc f.e f.l f.i f.c f.base X f.slots.length cX Y f.have_.length cY).toList := by
  obtain ⟨h0, h1, h2, h3, h4, h5, h6⟩ := h
  intro j u hu
  match j with
  | 0 => injection hu with hu; subst hu; exact h0
  | 1 => injection hu with hu; subst hu; exact h1
  | 2 => injection hu with hu; subst hu; exact h2
  | 3 => injection hu with hu; subst hu; exact h3
  | 4 => injection hu with hu; subst hu; exact h4
  | 5 => injection hu with hu; subst hu; exact h5
  | 6 => injection hu with hu; subst hu; exact h6
  | j + 7 => exact absurd hu (by simp)
theorem bs22z (W : World) : (Instr.buildSlice 22 0 #[]).run Try.prog W = .ok (.slice (some ⟨W.heap.size, 0, none⟩) 0 0) (W.alloc (.cells #[] 39)) := by kernel_rfl
theorem bs22 (W : World) (e l i c u : Int) (A : Option Addr) (n cA : Nat) (B : Option Addr) (m cB : Nat) : (Instr.buildSlice 22 1 #[(0, .agg (flc e l i c u A n cA B m cB))]).run Try.prog W = .ok (.slice (some ⟨W.heap.size, 0, none⟩) 1 1) (W.alloc (.cells (flc e l i c u A n cA B m cB) 39)) := by kernel_rfl
structure MSt where
  i : Nat
  A : Option Addr
  c : Nat
  rs : List Rw
set_option maxRecDepth 100000 in
theorem many_w (A : Option Addr) (cA N : Nat) (fs : List Fl) (w : World) (hN : N ≤ w.heap.size) (hA : Fls w N A fs) (hsm : Small fs) :
    Calls Try.prog 28 #[.slice A fs.length cA] w fun x w' => (∃ B c rs, x = .returned (.slice B fs.length c) ∧ rs.map Rw.f = fs ∧ FsW w' w.heap.size B c rs) ∧ Below w.heap.size w w' := by
  have hl : fs.length ≤ 1048576 := hsm.1
  refine calls_vc tab_ok Try.func28 rfl ?_
  repeat ((conv => whnf); first | (refine VCmp.tt (by omega) ?_) | (refine VCmp.ff (by omega) ?_) | (refine VIn.mk (IntWalk.i64_in _ (by omega)) ?_) | (refine VIdx.mk _ rfl (by omega) ?_) | (refine VIdx.mk 0 rfl (by omega) ?_))
  try (conv => whnf)
  refine VBs.mk _ _ (bs22z w) ?_
  have ho0 : FsW (w.alloc (.cells #[] 39)) w.heap.size (some ⟨w.heap.size, 0, none⟩) 0 [] := ⟨owns_empty _ _ _ _ _ (Nat.le_refl _), fun r hr => by simp at hr, fun k j x y _ hx => by simp at hx⟩
  have hb0 : Below w.heap.size w (w.alloc (.cells #[] 39)) := (Below.refl _ _).alloc (Nat.le_refl _) _
  generalize w.alloc (.cells #[] 39) = w0 at ho0 hb0 ⊢
  repeat ((conv => whnf); first | (refine VCmp.tt (by omega) ?_) | (refine VCmp.ff (by omega) ?_) | (refine VIn.mk (IntWalk.i64_in _ (by omega)) ?_) | (refine VIdx.mk _ rfl (by omega) ?_) | (refine VIdx.mk 0 rfl (by omega) ?_))
  try (conv => whnf)
  refine VLoop.mk MSt (fun x => [(0, .slice A fs.length cA), (3, .slice x.A x.i x.c), (4, .int .i64 x.i)]) (fun x W => x.rs.length = x.i ∧ x.i ≤ fs.length ∧ x.rs.map Rw.f = fs.take x.i ∧ FsW W w.heap.size x.A x.c x.rs ∧ Below w.heap.size w W) (fun x => fs.length - x.i) ⟨0, _, 0, []⟩ ⟨rfl, rfl, rfl, trivial⟩ ⟨rfl, Nat.zero_le _, by simp, ho0, hb0⟩ ?_
  clear ho0 hb0 w0
  rintro ⟨i, B, c, rs⟩ wr ⟨hrl, hi, hrs, hF, hb⟩
  dsimp only at hrl hi hrs hF ⊢
  by_cases hlt : i < fs.length
  case neg =>
    have hie : i = fs.length := by omega
    repeat ((conv => whnf); first | (refine VCmp.tt (by omega) ?_) | (refine VCmp.ff (by omega) ?_) | (refine VIn.mk (IntWalk.i64_in _ (by omega)) ?_) | (refine VIdx.mk _ rfl (by omega) ?_) | (refine VIdx.mk 0 rfl (by omega) ?_))
    try (conv => whnf)
    rw [hie] at hrs
    rw [List.take_length] at hrs
    exact .mk ⟨⟨B, c, rs, by rw [hie]; rfl, hrs, hF⟩, hb⟩
  obtain ⟨g, o, f, X, cX, Y, cY, rfl, hg, hf, hat, hr⟩ := (hA.below hb hN).at_ hlt
  obtain ⟨hs1, hs2⟩ := hsm.2 f (List.mem_of_getElem? hf.out)
  have hsz := hb.size
  have e39 := Ld.of (load39 hat.range)
  repeat ((conv => whnf); first | (refine VLoad.mk _ e39 ?_) | (refine VCmp.tt (by omega) ?_) | (refine VCmp.ff (by omega) ?_) | (refine VIn.mk (IntWalk.i64_in _ (by omega)) ?_) | (refine VIdx.mk _ rfl (by omega) ?_) | (refine VIdx.mk 0 rfl (by omega) ?_))
  try (conv => whnf)
  refine VCall.mk _ (one_own f X Y cX cY N wr (by omega) hr (by omega) (by omega)) ?_
  rintro _ w1 ⟨⟨X1, cX1, Y1, cY1, rfl, hX1, hY1⟩, b1⟩
  refine ⟨_, rfl, ?_⟩
  have z1 := b1.size
  repeat ((conv => whnf); first | (refine VCmp.tt (by omega) ?_) | (refine VCmp.ff (by omega) ?_) | (refine VIn.mk (IntWalk.i64_in _ (by omega)) ?_) | (refine VIdx.mk _ rfl (by omega) ?_) | (refine VIdx.mk 0 rfl (by omega) ?_))
  try (conv => whnf)
  refine VBs.mk _ _ (bs22 w1 f.e f.l f.i f.c f.base X1 f.slots.length cX1 Y1 f.have_.length cY1) ?_
  have b2 : Below w1.heap.size w1 (w1.alloc (.cells (flc f.e f.l f.i f.c f.base X1 f.slots.length cX1 Y1 f.have_.length cY1) 39)) := (Below.refl _ _).alloc (Nat.le_refl _) _
  have z2 : (w1.alloc (.cells (flc f.e f.l f.i f.c f.base X1 f.slots.length cX1 Y1 f.have_.length cY1) 39)).heap.size = w1.heap.size + 1 := by simp
  have hrow := row_new w1 39 7 eRw (⟨f, X1, cX1, Y1, cY1⟩ : Rw) (flc f.e f.l f.i f.c f.base X1 f.slots.length cX1 Y1 f.have_.length cY1) rfl
  generalize w1.alloc (.cells (flc f.e f.l f.i f.c f.base X1 f.slots.length cX1 Y1 f.have_.length cY1) 39) = w2 at b2 z2 hrow ⊢
  have b12 : Below wr.heap.size wr w2 := b1.trans (b2.mono z1)
  have F2 := hF.below b12
  repeat ((conv => whnf); first | (refine VCmp.tt (by omega) ?_) | (refine VCmp.ff (by omega) ?_) | (refine VIn.mk (IntWalk.i64_in _ (by omega)) ?_) | (refine VIdx.mk _ rfl (by omega) ?_) | (refine VIdx.mk 0 rfl (by omega) ?_))
  try (conv => whnf)
  refine VApp.rows w.heap.size 7 88 _ Try.underlying22 info39 rfl (by decide) eRw len_eRw one_eRw rs [⟨f, X1, cX1, Y1, cY1⟩] hrl rfl F2.own hrow (by omega) (by omega) (by omega) fun A3 c3 w3 ho3 hg3 hk3 => ?_
  have f3 : Fx (blk B).toList w2 w3 := .grown hg3 fun k hk => by rw [hk]; simp
  have f03 : Fx (blk B).toList wr w3 := Fx.trans (S := (blk B).toList) (.below b12) f3 fun k hk => .inl hk
  have hne : ∀ (k : Nat), k ∈ (blk B).toList → k < wr.heap.size := fun k hk => (hF.own.lo k (by simpa [Option.mem_toList] using hk)).2
  have hX3 : OwnW w3 wr.heap.size 66 2 eSlot X1 cX1 f.slots := (hX1.below b2).fx f3 fun k hk hm => by have := hne k hm; have := (hX1.lo k hk).1; omega
  have hY3 : OwnW w3 wr.heap.size 3 1 eInt Y1 cY1 f.have_ := (hY1.below b2).fx f3 fun k hk hm => by have := hne k hm; have := (hY1.lo k hk).1; omega
  have F3 := hF.push (r := ⟨f, X1, cX1, Y1, cY1⟩) hsz f03 hX3 hY3 ho3
  repeat ((conv => whnf); first | (refine VCmp.tt (by omega) ?_) | (refine VCmp.ff (by omega) ?_) | (refine VIn.mk (IntWalk.i64_in _ (by omega)) ?_) | (refine VIdx.mk _ rfl (by omega) ?_) | (refine VIdx.mk 0 rfl (by omega) ?_))
  try (conv => whnf)
  refine .mk ⟨i + 1, A3, c3, rs ++ [⟨f, X1, cX1, Y1, cY1⟩]⟩ ⟨rfl, rfl, rfl, trivial⟩ ⟨by rw [List.length_append, hrl]; rfl, by show i + 1 ≤ fs.length; omega, ?_, F3, ?_⟩ (by show fs.length - (i + 1) < fs.length - i; omega)
  · show List.map Rw.f (rs ++ [⟨f, X1, cX1, Y1, cY1⟩]) = _
    rw [List.map_append, hrs, List.take_add_one, hf.out]; rfl
  · exact (hb.trans (b12.mono hsz)).grown hg3 (by omega) (fun k hk => (hF.own.lo k hk).1)
end Go.Proofs.Ytcffhfcjfjfokaa
