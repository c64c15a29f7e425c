/- Read RValid RLeav, joined. -/
import Derived.Outline
import Derived.Test.YtfbeggdbjpmppaaMw3
import Derived.Test.YtfbeggdbjpmppaaMw4
import Derived.Test.YtfbeggdbjpmppaaMw6
import Derived.Test.YtfbeggdbjpmppaaMw8
import Derived.Test.YtfbeggdbjpmppaaMw9
import Derived.Test.YtfbeggdbjpmppaaMw14
set_option linter.unusedVariables false
set_option linter.unusedSimpArgs false
/- The program's read: a proposal that is handed in, as it is kept. -/
namespace Go.Proofs.Ytfbeggdbjpmppaa
open Go.RowKit
abbrev prA (S V : Option Addr) (cS cV : Nat) (p : Pr) : Array Value := #[.slice S p.set.length cS, .int .i64 p.cid, .int .i64 p.rev, .int .i64 p.top, .int .i64 p.prev.e, .int .i64 p.prev.l, .int .i64 p.prev.i, .int .i64 p.prev.c, .slice V p.vec.length cV]
/-- The worlds inside read: the parameter's box, the result's variable, the one that is filled. -/
structure Rd0 (w : World) (S V : Option Addr) (cS cV : Nat) (p : Pr) (W : World) : Prop where
  bel : Below (w.heap.size + 1) (box1 w (prA S V cS cV p) 31) W
  out : W.there (w.heap.size + 1) 0 39
  var : W.there (w.heap.size + 2) 0 39
  size : w.heap.size + 3 ≤ W.heap.size
theorem Rd0.facts {w W : World} {S V : Option Addr} {cS cV : Nat} {p : Pr} (h : Rd0 w S V cS cV p W) : Below w.heap.size w W ∧ (∀ j, W.cell? ⟨w.heap.size, j, none⟩ = (prA S V cS cV p)[j]?) := by
  obtain ⟨a, c, -, -⟩ := box1_facts h.bel
  exact ⟨a, c⟩
theorem Rd0.below {w W W' : World} {S V : Option Addr} {cS cV : Nat} {p : Pr} (h : Rd0 w S V cS cV p W) (hb : Below W.heap.size W W') : Rd0 w S V cS cV p W' :=
  ⟨h.bel.trans (hb.mono (by have := h.size; omega)), there_below h.out hb (by have := h.size; omega), there_below h.var hb (by have := h.size; omega), Nat.le_trans h.size hb.size⟩
theorem Rd0.drew {w W : World} {S V : Option Addr} {cS cV : Nat} {p : Pr} (h : Rd0 w S V cS cV p W) : Rd0 w S V cS cV p W.drew := h.below (Below.drew (Below.refl _ _))
theorem Rd0.put {w W : World} {S V : Option Addr} {cS cV : Nat} {p : Pr} (h : Rd0 w S V cS cV p W) (o : Nat) (vs : List Value) : Rd0 w S V cS cV p (W.setCells (w.heap.size + 2) o vs) :=
  ⟨below_sets h.bel (by omega) _ _ (by have := h.size; omega), World.there_setCells h.out _ _ _, World.there_setCells h.var _ _ _, by rw [size_sets]; exact h.size⟩
structure RdT (w : World) (S V : Option Addr) (cS cV : Nat) (p : Pr) (t : Wish) (W : World) : Prop where
  bel : Below (w.heap.size + 1) (box1 w (prA S V cS cV p) 31) W
  out : W.there (w.heap.size + 1) 0 39
  var : WVar W (w.heap.size + 2) t
  size : w.heap.size + 3 ≤ W.heap.size
theorem RdT.facts {w W : World} {S V : Option Addr} {cS cV : Nat} {p : Pr} {t : Wish} (h : RdT w S V cS cV p t W) : Below w.heap.size w W ∧ (∀ j, W.cell? ⟨w.heap.size, j, none⟩ = (prA S V cS cV p)[j]?) := by
  obtain ⟨a, c, -, -⟩ := box1_facts h.bel
  exact ⟨a, c⟩
theorem RdT.below {w W W' : World} {S V : Option Addr} {cS cV : Nat} {p : Pr} {t : Wish} (h : RdT w S V cS cV p t W) (hb : Below W.heap.size W W') : RdT w S V cS cV p t W' :=
  ⟨h.bel.trans (hb.mono (by have := h.size; omega)), there_below h.out hb (by have := h.size; omega), h.var.below hb (by have := h.size; omega), Nat.le_trans h.size hb.size⟩
theorem RdT.drew {w W : World} {S V : Option Addr} {cS cV : Nat} {p : Pr} {t : Wish} (h : RdT w S V cS cV p t W) : RdT w S V cS cV p t W.drew := h.below (Below.drew (Below.refl _ _))
theorem RdT.drewN {w W : World} {S V : Option Addr} {cS cV : Nat} {p : Pr} {t : Wish} (h : RdT w S V cS cV p t W) (n : Nat) : RdT w S V cS cV p t (W.drewN n) := h.below (below_drewN (Below.refl _ _) n)
theorem RdT.put {w W : World} {S V : Option Addr} {cS cV : Nat} {p : Pr} {t u : Wish} (h : RdT w S V cS cV p t W) {o : Nat} {vs : List Value} (hv : WVar (W.setCells (w.heap.size + 2) o vs) (w.heap.size + 2) u) : RdT w S V cS cV p u (W.setCells (w.heap.size + 2) o vs) :=
  ⟨below_sets h.bel (by omega) _ _ (by have := h.size; omega), World.there_setCells h.out _ _ _, hv, by rw [size_sets]; exact h.size⟩
theorem RdT.ret {w W w7 : World} {S V : Option Addr} {cS cV : Nat} {p : Pr} {t : Wish} (h : RdT w S V cS cV p t W) (hw : w7 = W.setCells (w.heap.size + 1) 0 (wishL t)) :
    (loadVar 96 ⟨w.heap.size + 1, 0, none⟩).run Try.prog w7 = .ok (.agg (wishA t)) w7 ∧ Below w.heap.size w w7 := by
  subst hw
  refine ⟨run_loadVar_wish _ _ _ t (World.rangeAt_setCells_same _ _ _ _ (by rw [len_wishL h.var.len.l1 h.var.len.l2]; exact h.out)) h.var.len, below_sets h.facts.1 (by omega) _ _ (by have := h.size; omega)⟩
theorem RdT.out1 {w W : World} {S V : Option Addr} {cS cV : Nat} {p : Pr} {t : Wish} (h : RdT w S V cS cV p t W) (vs : List Value) : RdT w S V cS cV p t (W.setCells (w.heap.size + 1) 0 vs) :=
  ⟨below_sets h.bel (Nat.le_refl _) _ _ (by have := h.size; omega), World.there_setCells h.out _ _ _, h.var.other (by omega) _ _, by rw [size_sets]; exact h.size⟩
theorem RdT.cells {w W : World} {S V : Option Addr} {cS cV : Nat} {p : Pr} {t : Wish} (h : RdT w S V cS cV p t W) :
    W.cell? ⟨w.heap.size, 1, none⟩ = some (.int .i64 p.cid) ∧ W.cell? ⟨w.heap.size, 2, none⟩ = some (.int .i64 p.rev) ∧ W.cell? ⟨w.heap.size, 3, none⟩ = some (.int .i64 p.top) ∧
    W.cell? ⟨w.heap.size, 4, none⟩ = some (.int .i64 p.prev.e) ∧ W.cell? ⟨w.heap.size, 5, none⟩ = some (.int .i64 p.prev.l) ∧ W.cell? ⟨w.heap.size, 6, none⟩ = some (.int .i64 p.prev.i) ∧ W.cell? ⟨w.heap.size, 7, none⟩ = some (.int .i64 p.prev.c) := by
  have f := h.facts.2
  exact ⟨f 1, f 2, f 3, f 4, f 5, f 6, f 7⟩
theorem RdT.setAt {w W : World} {S V : Option Addr} {cS cV : Nat} {p : Pr} {t : Wish} (h : RdT w S V cS cV p t W) {j : Nat} (hj : j < 16) :
    W.cell? ⟨w.heap.size + 2, j, none⟩ = some (.int .i64 (nth t.set j)) ∧ W.cell? ⟨w.heap.size + 2, 16 + j, none⟩ = some (.int .i64 (nth t.vec j)) := by
  obtain ⟨a, c, _⟩ := (wish_parts h.var.len.l1 h.var.len.l2).1 h.var.rng
  have l1 := h.var.len.l1
  have l2 := h.var.len.l2
  have r1 := rangeAt_cell a (nth_some (l := t.set) (k := j) (by omega))
  have r2 := rangeAt_cell c (nth_some (l := t.vec) (k := j) (by omega))
  rw [Nat.zero_add] at r1 r2
  exact ⟨r1, r2⟩
theorem vecB_no {p : Pr} {j : Nat} (hj : j < 16) (h1 : nth (pad p.set) j = 0) (h2 : nth (pad p.vec) j ≠ 0) : p.vecB = false := by
  rw [Bool.eq_false_iff]
  intro h
  unfold Pr.vecB at h
  have := List.all_eq_true.1 h j (List.mem_range.2 hj)
  simp [h1, h2] at this
theorem vecB_yes {p : Pr} (h : ∀ j, j < 16 → nth (pad p.set) j = 0 → nth (pad p.vec) j = 0) : p.vecB = true := by
  unfold Pr.vecB
  refine List.all_eq_true.2 fun j hj => ?_
  have := h j (List.mem_range.1 hj)
  by_cases e : nth (pad p.set) j = 0
  · simp [e, this e]
  · simp [e]
set_option maxRecDepth 100000 in
set_option maxHeartbeats 8000000 in
theorem read_any (b : Nat) (s : St) (M : Option Addr) (cM : Nat) (S V : Option Addr) (cS cV N : Nat) (p : Pr) (q : Nat) (inc : Int) (w : World) (h : AgAt w b s M cM) (hb : b < w.heap.size) (hn : s.n ≤ 16) (hq : q < s.n) (hN : N ≤ w.heap.size) (hS : RowAt w N 1 eInt S p.set) (hV : RowAt w N 1 eInt V p.vec)
    (hl1 : p.set.length ≤ 9223372036854775807) (hl2 : p.vec.length ≤ 9223372036854775807) :
    Calls Try.prog 52 #[.pointer (some ⟨b, 0, none⟩), .int .i64 q, .int .i64 inc, .agg (prA S V cS cV p)] w fun x w' => (∃ t, x = .returned (.tuple #[.agg (wishA t), .bool (p.goodB q inc s.n)]) ∧ WLen t ∧ (p.goodB q inc s.n = true → t = p.wish)) ∧ Below w.heap.size w w' := by
  obtain ⟨t0, ht0⟩ : ∃ t0 : Wish, t0 = ⟨zeros, zeros, p.cid, p.rev, p.top, ⟨p.prev.e, p.prev.l, p.prev.i, p.prev.c⟩⟩ := ⟨_, rfl⟩
  have hl0 : WLen t0 := by rw [ht0]; exact ⟨len_zeros, len_zeros⟩
  replace ht0 := Lib.hid ht0
  replace hl0 := Lib.hid hl0
  go_enter Try.func52, Try.ntmps52
  go_wp2_with (first
    | (refine wpList_alloc96 rfl rfl ?_)
    | (refine wpList_build96 rfl (.tmp 15) (.tmp 17) (.tmp 19) (.tmp 21) rfl _ _ _ _ _ _ _ (by rfl) (by rfl) (by rfl) (by rfl) ?_; rw [← ht0.out])
    | (refine wpList_store96 rfl (.tmp 10) (.tmp 22) rfl _ 0 (by rfl) t0 (by rfl) (by exact there_new96 _ _ wlen_zero) hl0.out ?_; intro w3 hw3)
    | fail)
  have h3 : RdT w S V cS cV p t0 w3 := by
    rw [hw3.out]
    have hv := (WVar.new ((w.alloc (.cells (prA S V cS cV p) 31)).alloc (.cells (wishA Wish.zero) 96)) Wish.zero wlen_zero).put hl0.out
    have e2 : ((w.alloc (.cells (prA S V cS cV p) 31)).alloc (.cells (wishA Wish.zero) 96)).heap.size = w.heap.size + 2 := by simp only [World.size_alloc]
    rw [e2] at hv ⊢
    refine ⟨below_sets (((Below.refl _ _).alloc (by rw [World.size_alloc]; exact Nat.le_refl _) _).alloc (by simp only [World.size_alloc]; omega) _) (by omega) _ _ (by simp), World.there_setCells (World.there_alloc ?_ _) _ _ _, hv, by simp [size_sets]⟩
    have := there_new96 (w.alloc (.cells (prA S V cS cV p) 31)) Wish.zero wlen_zero; rwa [World.size_alloc] at this
  have h30 : Rd0 w S V cS cV p w3.drew := ⟨h3.drew.bel, h3.drew.out, h3.drew.var.there, h3.drew.size⟩
  have L25 : ∀ W, Rd0 w S V cS cV p W → (loadVar 27 ⟨w.heap.size, 0, none⟩).run Try.prog W = .ok (.slice S p.set.length cS) W := fun W hW => load27 ((hW.facts.2 0).trans rfl)
  have L39 : ∀ W, Rd0 w S V cS cV p W → (loadVar 27 ⟨w.heap.size, 8, none⟩).run Try.prog W = .ok (.slice V p.vec.length cV) W := fun W hW => load27 ((hW.facts.2 8).trans rfl)
  have Ln : ∀ W, Rd0 w S V cS cV p W → (loadVar 3 ⟨b, 0, none⟩).run Try.prog W = .ok (.int .i64 s.n) W := fun W hW => load3 ((hW.facts.1.cell (p := ⟨b, 0, none⟩) hb).trans h.n)
  have hNs : ∀ W, Rd0 w S V cS cV p W → RowAt W N 1 eInt S p.set ∧ RowAt W N 1 eInt V p.vec ∧ N ≤ W.heap.size := fun W hW => by
    obtain ⟨f1, f2⟩ := hW.facts
    exact ⟨hS.below f1 hN, hV.below f1 hN, by have := hW.size; omega⟩
  have hC : ∀ x : Prop, (∀ W, Rd0 w S V cS cV p W → x) ↔ x := fun x => ⟨fun f => f _ h30, fun f _ _ => f⟩
  replace hNs := Lib.hid hNs
  replace L25 := Lib.hid L25
  replace L39 := Lib.hid L39
  replace Ln := Lib.hid Ln
  replace hw3 := Lib.hid hw3
  replace h := Lib.hid h
  replace h3 := Lib.hid h3
  replace h30 := Lib.hid h30
  clear hS hV
  refine wp_region_ord [([0, 1, 2, 3, 4, 5], 6), ([7, 8, 9, 10], 11)] [12] (Rd0 w S V cS cV p) rfl (by kernel_rfl) rfl h30.out ?_
  refine WO.seg rfl ?_ h30.out
  simp only [picks, pick, List.cons_append, List.nil_append, List.append_nil]
  repeat (first
    | go_big_quiet_skip
    | (refine wpQuiet_loadC (by rfl) 27 (.tmp 24) rfl w.heap.size 0 (by rfl) _ L25.out ?_; go_simp)
    | (refine wpQuiet_loadC (by rfl) 3 (.tmp 28) rfl b 0 (by rfl) _ Ln.out ?_; go_simp)
    | go_big_quiet_step (fail))
  refine wpQuiet_nil ?_
  intro K hK
  go_simp
  go_at_call 56
  refine (pack_any S cS N s.n p.set _ (hNs.out _ h30.out).2.2 hn (hNs.out _ h30.out).1 hl1).mono ?_
  rintro e w5 ⟨⟨m, rfl, hm, hmp⟩, hb5⟩
  have h5 := h30.out.below hb5
  have t5 := Lib.hid (h3.out.drew.below hb5)
  replace hmp := Lib.hid hmp
  replace h5 := Lib.hid h5
  go_wp2_with fail
  refine hK.out _ _ h5.out ?_
  clear hK K
  refine WO.seg rfl ?_ h5.out
  simp only [picks, pick, List.cons_append, List.nil_append, List.append_nil]
  repeat go_big_quiet_step (fail)
  refine wpQuiet_nil ?_
  intro K hK
  rw [if_pos (by rfl)]
  refine wp_store94 (.tmp 33) (.tmp 31) rfl rfl (w.heap.size + 2) 0 (by rfl) m (by rfl) (World.there.at t5.out.var.there (by omega)) hm ?_
  intro w6 hw6
  have h6 : RdT w S V cS cV p { t0 with set := m } w6 := by rw [hw6.out]; exact t5.out.put (t5.out.var.setSet hm)
  have h60 : Rd0 w S V cS cV p w6 := ⟨h6.bel, h6.out, h6.var.there, h6.size⟩
  refine hK.out _ _ h60 ?_
  clear hK K
  refine WO.end_ ?_
  simp only [picks, pick, List.cons_append, List.nil_append, List.append_nil]
  repeat go_big_quiet_step (fail)
  refine wpQuiet_nil ?_
  replace h6 := Lib.hid h6
  replace h60 := Lib.hid h60
  clear h5 t5 hC
  cases hp1 : packB p.set s.n with
  | false =>
    have hg := Lib.hid (show p.goodB q inc s.n = false by unfold Pr.goodB; rw [hp1]; rfl)
    go_wp2_with (first
      | (refine wpList_load96 rfl (.tmp 10) rfl (w.heap.size + 2) 0 (by rfl) _ h6.out.var.rng h6.out.var.len ?_)
      | (refine wpList_store96 rfl (.tmp 8) (.tmp 36) rfl (w.heap.size + 1) 0 (by rfl) _ (by rfl) h6.out.out h6.out.var.len ?_; intro w7 hw7)
      | fail)
    obtain ⟨r1, r2⟩ := h6.out.ret hw7.out
    exact bodyPost_ret (res_cell_tmp (p := 8) (u := 9) (ty := 96) rfl rfl r1) rfl ⟨⟨_, by rw [hg.out]; rfl, h6.out.var.len, fun e => Bool.noConfusion (hg.out.symm.trans e)⟩, r2⟩
  | true =>
    obtain rfl : m = pad p.set := hmp.out hp1
    have hC : ∀ x : Prop, (∀ W, Rd0 w S V cS cV p W → x) ↔ x := fun x => ⟨fun f => f _ h60.out, fun f _ _ => f⟩
    go_wp2_with fail
    have hd6 := Lib.hid h60.out.drew
    refine wp_region_ord [([0, 1, 2, 3, 4, 5], 6), ([7, 8, 9, 10], 11)] [12] (Rd0 w S V cS cV p) rfl (by kernel_rfl) rfl hd6.out ?_
    refine WO.seg rfl ?_ hd6.out
    simp only [picks, pick, List.cons_append, List.nil_append, List.append_nil]
    repeat (first
      | go_big_quiet_skip
      | (refine wpQuiet_loadC (by rfl) 27 (.tmp 38) rfl w.heap.size 8 (by rfl) _ L39.out ?_; go_simp)
      | (refine wpQuiet_loadC (by rfl) 3 (.tmp 42) rfl b 0 (by rfl) _ Ln.out ?_; go_simp)
      | go_big_quiet_step (fail))
    refine wpQuiet_nil ?_
    intro K hK
    go_simp
    go_at_call 56
    refine (pack_any V cV N s.n p.vec _ (hNs.out _ hd6.out).2.2 hn (hNs.out _ hd6.out).2.1 hl2).mono ?_
    rintro e w7 ⟨⟨m, rfl, hm2, hmp2⟩, hb7⟩
    have h7 := hd6.out.below hb7
    have t7 := Lib.hid (h6.out.drew.below hb7)
    replace hmp2 := Lib.hid hmp2
    replace h7 := Lib.hid h7
    go_wp2_with fail
    refine hK.out _ _ h7.out ?_
    clear hK K
    refine WO.seg rfl ?_ h7.out
    simp only [picks, pick, List.cons_append, List.nil_append, List.append_nil]
    repeat go_big_quiet_step (fail)
    refine wpQuiet_nil ?_
    intro K hK
    rw [if_pos (by rfl)]
    refine wp_store94 (.tmp 47) (.tmp 45) rfl rfl (w.heap.size + 2) 16 (by rfl) m (by rfl) (World.there.at t7.out.var.there (by omega)) hm2 ?_
    intro w8 hw8
    have h8 : RdT w S V cS cV p { t0 with set := pad p.set, vec := m } w8 := by rw [hw8.out]; exact t7.out.put (t7.out.var.setVec hm2)
    have h80 : Rd0 w S V cS cV p w8 := ⟨h8.bel, h8.out, h8.var.there, h8.size⟩
    refine hK.out _ _ h80 ?_
    clear hK K
    refine WO.end_ ?_
    simp only [picks, pick, List.cons_append, List.nil_append, List.append_nil]
    repeat go_big_quiet_step (fail)
    refine wpQuiet_nil ?_
    clear h7 t7 hC h6 h60 hd6 hw6 hmp
    obtain ⟨k1, k2, k3, k4, k5, k6, k7⟩ := h8.cells
    replace h8 := Lib.hid h8
    clear h80
    cases hp2 : packB p.vec s.n with
    | false =>
      have hg := Lib.hid (show p.goodB q inc s.n = false by unfold Pr.goodB; rw [hp2]; simp)
      clear k1 k2 k3 k4 k5 k6 k7
      go_wp2_with (first
        | (refine wpList_load96 rfl (.tmp 10) rfl (w.heap.size + 2) 0 (by rfl) _ h8.out.var.rng h8.out.var.len ?_)
        | (refine wpList_store96 rfl (.tmp 8) (.tmp 50) rfl (w.heap.size + 1) 0 (by rfl) _ (by rfl) h8.out.out h8.out.var.len ?_; intro w9 hw9)
        | fail)
      obtain ⟨r1, r2⟩ := h8.out.ret hw9.out
      exact bodyPost_ret (res_cell_tmp (p := 8) (u := 9) (ty := 96) rfl rfl r1) rfl ⟨⟨_, by rw [hg.out]; rfl, h8.out.var.len, fun e => Bool.noConfusion (hg.out.symm.trans e)⟩, r2⟩
    | true =>
      obtain rfl : m = pad p.vec := hmp2.out hp2
      have ht2 : ({ t0 with set := pad p.set, vec := pad p.vec } : Wish) = p.wish := by rw [ht0.out]; rfl
      rw [ht2] at h8
      clear hw8 hmp2 hm hm2
      have hnum : p.cid < 1 ∨ (1 ≤ p.cid ∧ 4611686018427387904 < p.cid) ∨ (1 ≤ p.cid ∧ p.cid ≤ 4611686018427387904 ∧ p.rev < 1) ∨ (1 ≤ p.cid ∧ p.cid ≤ 4611686018427387904 ∧ 1 ≤ p.rev ∧ 4611686018427387904 < p.rev) ∨
          (1 ≤ p.cid ∧ p.cid ≤ 4611686018427387904 ∧ 1 ≤ p.rev ∧ p.rev ≤ 4611686018427387904 ∧ p.top < 0) ∨ (1 ≤ p.cid ∧ p.cid ≤ 4611686018427387904 ∧ 1 ≤ p.rev ∧ p.rev ≤ 4611686018427387904 ∧ 0 ≤ p.top ∧ 4611686018427387904 ≤ p.top) ∨
          (1 ≤ p.cid ∧ p.cid ≤ 4611686018427387904 ∧ 1 ≤ p.rev ∧ p.rev ≤ 4611686018427387904 ∧ 0 ≤ p.top ∧ p.top < 4611686018427387904) := by omega
      have hnB : (1 ≤ p.cid ∧ p.cid ≤ 4611686018427387904 ∧ 1 ≤ p.rev ∧ p.rev ≤ 4611686018427387904 ∧ 0 ≤ p.top ∧ p.top < 4611686018427387904) ∨ p.goodB q inc s.n = false := by
        by_cases e : 1 ≤ p.cid ∧ p.cid ≤ 4611686018427387904 ∧ 1 ≤ p.rev ∧ p.rev ≤ 4611686018427387904 ∧ 0 ≤ p.top ∧ p.top < 4611686018427387904
        · exact .inl e
        · right; unfold Pr.goodB; rw [show p.numB = false from decide_eq_false e]; simp
      rcases hnum with n1 | ⟨n1, n2⟩ | ⟨n1, n2, n3⟩ | ⟨n1, n2, n3, n4⟩ | ⟨n1, n2, n3, n4, n5⟩ | ⟨n1, n2, n3, n4, n5, n6⟩ | ⟨n1, n2, n3, n4, n5, n6⟩
      rotate_left 6
      · replace hnB := Lib.hid hnB
        have hnum := Lib.hid (show p.numB = true from decide_eq_true ⟨n1, n2, n3, n4, n5, n6⟩)
        have hls : (pad p.set).length = 16 := h8.out.var.len.l1
        have hlv : (pad p.vec).length = 16 := h8.out.var.len.l2
        have rv : w8.rangeAt (w.heap.size + 2) 16 (ints (pad p.vec)) := ((wish_parts h8.out.var.len.l1 h8.out.var.len.l2).1 h8.out.var.rng).2.1
        replace hls := Lib.hid hls
        replace hlv := Lib.hid hlv
        replace rv := Lib.hid rv
        go_wp2_with (first
          | (refine wpList_load94 rfl (.tmp 80) rfl (w.heap.size + 2) 16 (by rfl) _ rv.out hlv.out ?_)
          | fail)
        go_loopw [82] (fun k wr => ∃ i : Nat, k = .int .i64 i ∧ i ≤ 16 ∧ Hid (∀ j, j < i → nth (pad p.set) j = 0 → nth (pad p.vec) j = 0) ∧ wr = w8) (fun k _ => 16 - (intOf k).toNat)
        case atStart => exact ⟨0, rfl, by omega, (fun j hj => by omega), rfl⟩
        case round =>
          obtain ⟨i, rfl, hi, hok, rfl⟩ := hrel
          replace hok := Lib.hid hok
          by_cases hlt : i < 16
          · have hiI : (i : Int) < 16 := by omega
            obtain ⟨a1, a2⟩ := h8.out.setAt hlt
            change wr.cell? ⟨w.heap.size + 2, i, none⟩ = some (.int .i64 (nth (pad p.set) i)) at a1
            have a3 : ∀ W : World, (Instr.index 94 (.agg (arr (pad p.vec))) (.int .i64 i)).run Try.prog W = .ok (.int .i64 (nth (pad p.vec) i)) W := fun W => run_index94 W hlt (nth_some (by rw [hlv.out]; exact hlt))
            clear a2 k1 k2 k3 k4 k5 k6 k7
            by_cases z1 : nth (pad p.set) i = 0
            · have z1' : (nth (pad p.set) i == 0) = true := by simp [z1]
              by_cases z2 : nth (pad p.vec) i = 0
              · have z2' : (nth (pad p.vec) i != 0) = false := by simp [z2]
                have hok' := Lib.hid (show ∀ j, j < i + 1 → nth (pad p.set) j = 0 → nth (pad p.vec) j = 0 from fun j hj => by
                  by_cases e : j = i
                  · subst e; exact fun _ => z2
                  · exact hok.out j (by omega))
                replace z1 := Lib.hid z1
                replace z2 := Lib.hid z2
                go_wp2
                go_roundw
                case rel => go_light; exact ⟨i + 1, by go_num, by omega, hok'.out, trivial⟩
                case measure => go_light; simp [intOf]; omega
              · have z2' : (nth (pad p.vec) i != 0) = true := by simp [z2]
                have hg := Lib.hid (show p.goodB q inc s.n = false by unfold Pr.goodB; rw [vecB_no hlt z1 z2]; simp)
                replace z1 := Lib.hid z1
                replace z2 := Lib.hid z2
                go_wp2_with (first
                  | (refine wpList_load96 rfl (.tmp 10) rfl (w.heap.size + 2) 0 (by rfl) _ h8.out.var.rng h8.out.var.len ?_)
                  | (refine wpList_store96 rfl (.tmp 8) (.tmp 95) rfl (w.heap.size + 1) 0 (by rfl) _ (by rfl) h8.out.out h8.out.var.len ?_; intro w9 hw9)
                  | fail)
                obtain ⟨r1, r2⟩ := h8.out.ret hw9.out
                exact bodyPost_ret (res_cell_tmp (p := 8) (u := 9) (ty := 96) rfl rfl r1) rfl ⟨⟨_, by rw [hg.out]; rfl, h8.out.var.len, fun e => Bool.noConfusion (hg.out.symm.trans e)⟩, r2⟩
            · have z1' : (nth (pad p.set) i == 0) = false := by simp [z1]
              have hok' := Lib.hid (show ∀ j, j < i + 1 → nth (pad p.set) j = 0 → nth (pad p.vec) j = 0 from fun j hj => by
                by_cases e : j = i
                · subst e; exact fun x => absurd x z1
                · exact hok.out j (by omega))
              replace z1 := Lib.hid z1
              go_wp2
              go_roundw
              case rel => go_light; exact ⟨i + 1, by go_num, by omega, hok'.out, trivial⟩
              case measure => go_light; simp [intOf]; omega
          · obtain rfl : i = 16 := by omega
            have hvB := Lib.hid (vecB_yes hok.out)
            clear k1 k2 k3 k4 k5 k6 k7
            go_wp2_with fail
            have hd8 := h8.out.drew
            have hqI : (q : Int) < 16 := by omega
            have hq16 : q < 16 := by omega
            have hC : ∀ x : Prop, (∀ W, RdT w S V cS cV p p.wish W → x) ↔ x := fun x => ⟨fun f => f _ hd8, fun f _ _ => f⟩
            have L97 : ∀ W, RdT w S V cS cV p p.wish W → (loadVar 96 ⟨w.heap.size + 2, 0, none⟩).run Try.prog W = .ok (.agg (wishA p.wish)) W := fun W hW => run_loadVar_wish W _ _ _ hW.var.rng hW.var.len
            have L101 : ∀ W, RdT w S V cS cV p p.wish W → (loadVar 3 ⟨w.heap.size + 2, q, none⟩).run Try.prog W = .ok (.int .i64 (nth (pad p.set) q)) W := fun W hW => load3 (hW.setAt hq16).1
            have L108 : ∀ W, RdT w S V cS cV p p.wish W → (loadVar 3 ⟨w.heap.size + 2, 16 + q, none⟩).run Try.prog W = .ok (.int .i64 (nth (pad p.vec) q)) W := fun W hW => load3 (hW.setAt hq16).2
            have L110 : ∀ W, RdT w S V cS cV p p.wish W → (loadVar 3 ⟨w.heap.size, 1, none⟩).run Try.prog W = .ok (.int .i64 p.cid) W := fun W hW => load3 hW.cells.1
            have L116 : ∀ W, RdT w S V cS cV p p.wish W → (loadVar 29 ⟨w.heap.size, 4, none⟩).run Try.prog W = .ok (.agg (vidC p.prev)) W := fun W hW => load29 hW.cells.2.2.2.1 hW.cells.2.2.2.2.1 hW.cells.2.2.2.2.2.1 hW.cells.2.2.2.2.2.2
            replace L97 := Lib.hid L97
            replace L101 := Lib.hid L101
            replace L108 := Lib.hid L108
            replace L110 := Lib.hid L110
            replace L116 := Lib.hid L116
            replace hd8 := Lib.hid hd8
            have hgood : p.goodB q inc s.n = (decide (nth (pad p.set) q = inc) && decide (nth (pad p.vec) q = p.cid) && validB p.prev s.n) := by
              unfold Pr.goodB; rw [hp1, hp2, hnum.out, hvB.out]; simp only [Bool.true_and]
            have hrun : ∀ (good : Bool) (W : World), p.goodB q inc s.n = good → RdT w S V cS cV p p.wish W → ∀ w9, Hid (w9 = W.setCells (w.heap.size + 1) 0 (wishL p.wish)) → RdT w S V cS cV p p.wish w9 ∧ (loadVar 96 ⟨w.heap.size + 1, 0, none⟩).run Try.prog w9 = .ok (.agg (wishA p.wish)) w9 ∧ Below w.heap.size w w9 := fun good W _ hW w9 h9 => by
              obtain ⟨r1, r2⟩ := hW.ret h9.out
              exact ⟨by rw [h9.out]; exact hW.out1 _, r1, r2⟩
            replace hrun := Lib.hid hrun
            replace hgood := Lib.hid hgood
            refine wp_region_ord [([0, 1, 2, 3, 4, 5, 6, 7, 8, 9, 10, 11, 12, 13, 14, 15, 16, 17, 18, 19], 20), ([21], 22)] [23] (RdT w S V cS cV p p.wish) rfl (by kernel_rfl) rfl hd8.out ?_
            refine WO.seg rfl ?_ hd8.out
            simp only [picks, pick, List.cons_append, List.nil_append, List.append_nil]
            by_cases g1 : nth (pad p.set) q = inc
            · have g1' : (nth (pad p.set) q == inc) = true := by simp [g1]
              by_cases g2 : nth (pad p.vec) q = p.cid
              · have g2' : (nth (pad p.vec) q == p.cid) = true := by simp [g2]
                have hg := Lib.hid (show p.goodB q inc s.n = validB p.prev s.n by rw [hgood.out]; simp [g1, g2])
                replace g1 := Lib.hid g1
                replace g2 := Lib.hid g2
                repeat (first
                  | go_big_quiet_skip
                  | (refine wpQuiet_loadC (by rfl) 96 (.tmp 10) rfl (w.heap.size + 2) 0 (by rfl) _ L97.out ?_; go_simp)
                  | (refine wpQuiet_loadC (by rfl) 3 (.tmp 100) rfl (w.heap.size + 2) q (by rfl) _ L101.out ?_; go_simp)
                  | (refine wpQuiet_loadC (by rfl) 3 (.tmp 107) rfl (w.heap.size + 2) (16 + q) (by rfl) _ L108.out ?_; go_simp)
                  | (refine wpQuiet_loadC (by rfl) 3 (.tmp 109) rfl w.heap.size 1 (by rfl) _ L110.out ?_; go_simp)
                  | (refine wpQuiet_loadC (by rfl) 29 (.tmp 115) rfl w.heap.size 4 (by rfl) _ L116.out ?_; go_simp)
                  | go_big_quiet_step (fail))
                refine wpQuiet_nil ?_
                intro K hK
                go_simp
                go_at_call 67
                refine (valid_any b s M cM p.prev _ (h.out.same (hd8.out.facts.1.block b hb)) (Nat.lt_of_lt_of_le hb hd8.out.facts.1.size)).mono ?_
                rintro e w8' ⟨rfl, hb8⟩
                have hd9 := hd8.out.below hb8
                go_wp2_with fail
                refine hK.out _ _ hd9 ?_
                clear hK K
                refine WO.seg rfl ?_ hd9
                simp only [picks, pick, List.cons_append, List.nil_append, List.append_nil]
                repeat go_big_quiet_step (fail)
                refine wpQuiet_nil ?_
                intro K hK
                rw [if_pos (by rfl)]
                refine wp_store96 (.tmp 8) (.tmp 97) rfl rfl (w.heap.size + 1) 0 (by rfl) p.wish (by rfl) hd9.out h8.out.var.len ?_
                intro w9 hw9
                obtain ⟨h9, r1, r2⟩ := hrun.out _ _ hg.out hd9 w9 hw9
                refine hK.out _ _ h9 ?_
                clear hK K
                refine WO.end_ ?_
                simp only [picks, pick, List.cons_append, List.nil_append, List.append_nil]
                repeat go_big_quiet_step (fail)
                refine wpQuiet_nil ?_
                clear hC
                go_wp2
                exact bodyPost_ret (res_cell_tmp (p := 8) (u := 9) (ty := 96) rfl rfl r1) rfl ⟨⟨_, by rw [hg.out]; rfl, h8.out.var.len, fun _ => rfl⟩, r2⟩
              · have g2' : (nth (pad p.vec) q == p.cid) = false := by simp [g2]
                have hg := Lib.hid (show p.goodB q inc s.n = false by rw [hgood.out]; simp [g2])
                replace g1 := Lib.hid g1
                replace g2 := Lib.hid g2
                repeat (first
                  | go_big_quiet_skip
                  | (refine wpQuiet_loadC (by rfl) 96 (.tmp 10) rfl (w.heap.size + 2) 0 (by rfl) _ L97.out ?_; go_simp)
                  | (refine wpQuiet_loadC (by rfl) 3 (.tmp 100) rfl (w.heap.size + 2) q (by rfl) _ L101.out ?_; go_simp)
                  | (refine wpQuiet_loadC (by rfl) 3 (.tmp 107) rfl (w.heap.size + 2) (16 + q) (by rfl) _ L108.out ?_; go_simp)
                  | (refine wpQuiet_loadC (by rfl) 3 (.tmp 109) rfl w.heap.size 1 (by rfl) _ L110.out ?_; go_simp)
                  | (refine wpQuiet_loadC (by rfl) 29 (.tmp 115) rfl w.heap.size 4 (by rfl) _ L116.out ?_; go_simp)
                  | go_big_quiet_step (fail))
                refine wpQuiet_nil ?_
                intro K hK
                go_simp
                refine hK.out _ _ hd8.out ?_
                clear hK K
                refine WO.seg rfl ?_ hd8.out
                simp only [picks, pick, List.cons_append, List.nil_append, List.append_nil]
                repeat go_big_quiet_step (fail)
                refine wpQuiet_nil ?_
                intro K hK
                rw [if_pos (by rfl)]
                refine wp_store96 (.tmp 8) (.tmp 97) rfl rfl (w.heap.size + 1) 0 (by rfl) p.wish (by rfl) hd8.out.out h8.out.var.len ?_
                intro w9 hw9
                obtain ⟨h9, r1, r2⟩ := hrun.out _ _ hg.out hd8.out w9 hw9
                refine hK.out _ _ h9 ?_
                clear hK K
                refine WO.end_ ?_
                simp only [picks, pick, List.cons_append, List.nil_append, List.append_nil]
                repeat go_big_quiet_step (fail)
                refine wpQuiet_nil ?_
                clear hC
                go_wp2
                exact bodyPost_ret (res_cell_tmp (p := 8) (u := 9) (ty := 96) rfl rfl r1) rfl ⟨⟨_, by rw [hg.out]; rfl, h8.out.var.len, fun e => Bool.noConfusion (hg.out.symm.trans e)⟩, r2⟩
            · have g1' : (nth (pad p.set) q == inc) = false := by simp [g1]
              have hg := Lib.hid (show p.goodB q inc s.n = false by rw [hgood.out]; simp [g1])
              replace g1 := Lib.hid g1
              repeat (first
                | go_big_quiet_skip
                | (refine wpQuiet_loadC (by rfl) 96 (.tmp 10) rfl (w.heap.size + 2) 0 (by rfl) _ L97.out ?_; go_simp)
                | (refine wpQuiet_loadC (by rfl) 3 (.tmp 100) rfl (w.heap.size + 2) q (by rfl) _ L101.out ?_; go_simp)
                | (refine wpQuiet_loadC (by rfl) 3 (.tmp 107) rfl (w.heap.size + 2) (16 + q) (by rfl) _ L108.out ?_; go_simp)
                | (refine wpQuiet_loadC (by rfl) 3 (.tmp 109) rfl w.heap.size 1 (by rfl) _ L110.out ?_; go_simp)
                | (refine wpQuiet_loadC (by rfl) 29 (.tmp 115) rfl w.heap.size 4 (by rfl) _ L116.out ?_; go_simp)
                | go_big_quiet_step (fail))
              refine wpQuiet_nil ?_
              intro K hK
              go_simp
              refine hK.out _ _ hd8.out ?_
              clear hK K
              refine WO.seg rfl ?_ hd8.out
              simp only [picks, pick, List.cons_append, List.nil_append, List.append_nil]
              repeat go_big_quiet_step (fail)
              refine wpQuiet_nil ?_
              intro K hK
              rw [if_pos (by rfl)]
              refine wp_store96 (.tmp 8) (.tmp 97) rfl rfl (w.heap.size + 1) 0 (by rfl) p.wish (by rfl) hd8.out.out h8.out.var.len ?_
              intro w9 hw9
              obtain ⟨h9, r1, r2⟩ := hrun.out _ _ hg.out hd8.out w9 hw9
              refine hK.out _ _ h9 ?_
              clear hK K
              refine WO.end_ ?_
              simp only [picks, pick, List.cons_append, List.nil_append, List.append_nil]
              repeat go_big_quiet_step (fail)
              refine wpQuiet_nil ?_
              clear hC
              go_wp2
              exact bodyPost_ret (res_cell_tmp (p := 8) (u := 9) (ty := 96) rfl rfl r1) rfl ⟨⟨_, by rw [hg.out]; rfl, h8.out.var.len, fun e => Bool.noConfusion (hg.out.symm.trans e)⟩, r2⟩
      all_goals
        obtain hg : p.goodB q inc s.n = false := hnB.resolve_left (by omega)
        replace hg := Lib.hid hg
        clear hnB
        go_wp2_with (first
          | (refine wpList_load96 rfl (.tmp 10) rfl (w.heap.size + 2) 0 (by rfl) _ h8.out.var.rng h8.out.var.len ?_)
          | (refine wpList_store96 rfl (.tmp 8) (.tmp 79) rfl (w.heap.size + 1) 0 (by rfl) _ (by rfl) h8.out.out h8.out.var.len ?_; intro w9 hw9)
          | fail)
        obtain ⟨r1, r2⟩ := h8.out.ret hw9.out
        exact bodyPost_ret (res_cell_tmp (p := 8) (u := 9) (ty := 96) rfl rfl r1) rfl ⟨⟨_, by rw [hg.out]; rfl, h8.out.var.len, fun e => Bool.noConfusion (hg.out.symm.trans e)⟩, r2⟩
end Go.Proofs.Ytfbeggdbjpmppaa
/- The document's Valid. -/
namespace Go.Proofs.Ytfbeggdbjpmppaa
open Go.RowKit
theorem nth_pad {l : List Int} {q : Nat} (h : q < l.length) : nth (pad l) q = nth l q := by unfold nth pad; rw [List.getElem?_append_left h]
theorem nth_pad_over {l : List Int} {q : Nat} (h : l.length ≤ q) : nth (pad l) q = 0 := by
  unfold nth pad
  rw [List.getElem?_append_right h, List.getElem?_replicate]
  split <;> rfl
/-- The rows' zeros, up to place k. -/
def zerTo (p : Pr) (k : Nat) : Prop := ∀ j, j < k → nth p.set j = 0 → nth p.vec j = 0
theorem vecB_of {p : Pr} {n : Nat} (h1 : p.set.length = n) (h2 : p.vec.length = n) (h : zerTo p n) : p.vecB = true := by
  refine vecB_yes fun j hj h0 => ?_
  by_cases hj : j < n
  · rw [nth_pad (by omega)] at h0 ⊢; exact h j hj h0
  · exact nth_pad_over (by omega)
theorem vecB_not {p : Pr} {j : Nat} (hj : j < 16) (h1 : j < p.set.length) (h2 : j < p.vec.length) (h3 : nth p.set j = 0) (h4 : nth p.vec j ≠ 0) : p.vecB = false := by
  rw [Bool.eq_false_iff]
  intro h
  unfold Pr.vecB at h
  have := List.all_eq_true.1 h j (List.mem_range.2 hj)
  rw [nth_pad h1, nth_pad h2] at this
  simp [h3, h4] at this
theorem int_at {w : World} {N : Nat} {A : Option Addr} {l : List Int} (h : RowAt w N 1 eInt A l) {k : Nat} (hk : k < l.length) : ∃ g o, A = some ⟨g, o, none⟩ ∧ g < N ∧ w.cell? ⟨g, o + k, none⟩ = some (.int .i64 (nth l k)) := by
  obtain ⟨g, o, x, h1, h2, h3, h4⟩ := h.int hk
  refine ⟨g, o, h1, h2, ?_⟩
  unfold nth; rw [h3.out]; exact h4
set_option maxRecDepth 100000 in
set_option maxHeartbeats 4000000 in
theorem rvalid_any (S V : Option Addr) (cS cV N : Nat) (p : Pr) (q n : Nat) (inc : Int) (w : World) (hN : N ≤ w.heap.size) (hS : RowAt w N 1 eInt S p.set) (hV : RowAt w N 1 eInt V p.vec) (hq : q < n) (hn : n ≤ 16) (hl1 : p.set.length ≤ 9223372036854775807) (hl2 : p.vec.length ≤ 9223372036854775807) :
    Calls Try.prog 72 #[.agg (prA S V cS cV p), .int .i64 q, .int .i64 inc, .int .i64 n] w fun x w' => x = .returned (.bool (p.goodB q inc n)) ∧ Below w.heap.size w w' := by
  obtain ⟨wA, hwA⟩ : ∃ wA, wA = w.alloc (.cells (prA S V cS cV p) 31) := ⟨_, rfl⟩
  have zA : wA.heap.size = w.heap.size + 1 := by rw [hwA, World.size_alloc]
  have hbA : Below w.heap.size w wA := by rw [hwA]; exact below_box1 _ _ _
  have vA : PVar wA w.heap.size S p.set.length cS V p.vec.length cV p := by rw [hwA]; exact PVar.new w S p.set.length cS V p.vec.length cV p 31
  have hx : ∀ W, Below w.heap.size w W → RowAt W N 1 eInt S p.set ∧ RowAt W N 1 eInt V p.vec ∧ N ≤ W.heap.size := fun W hW => ⟨hS.below hW hN, hV.below hW hN, Nat.le_trans hN hW.size⟩
  replace hx := Lib.hid hx
  clear hS hV
  have k0 := vA.c0
  replace vA := Lib.hid vA
  replace hbA := Lib.hid hbA
  replace hwA := Lib.hid hwA
  cases hp1 : packB p.set n with
  | false =>
    have hg := Lib.hid (show p.goodB q inc n = false by unfold Pr.goodB; rw [hp1]; rfl)
    have hp1' := Lib.hid hp1
    clear hp1
    go_enter Try.func72, Try.ntmps72
    go_wp2_with (first
      | (rw [← hwA.out]
         go_at_call 69
         refine (counts_any S cS N p.set n wA (hx.out _ hbA.out).2.2 (hx.out _ hbA.out).1 hl1 hn).mono ?_
         rintro e w1 ⟨rfl, hb1⟩
         rw [hp1'.out])
      | fail)
    refine wp_region_quiet_lit (by kernel_rfl) (by kernel_rfl) ?_
    repeat (first | go_big_quiet_skip | go_big_quiet_step (fail))
    refine wpQuiet_nil ?_
    first | rintro _ ⟨nq, rfl⟩ | intro nq
    go_wp2
    go_ret
    exact ⟨ret_bool hg.out.symm, below_drewN (hbA.out.trans (hb1.mono (by omega))) _⟩
  | true =>
    have hl1e := Lib.hid (packB_len hp1)
    have hp1' := Lib.hid hp1
    clear hp1
    cases hp2 : packB p.vec n with
    | false =>
      have hg := Lib.hid (show p.goodB q inc n = false by unfold Pr.goodB; rw [hp1'.out, hp2]; rfl)
      have hp2' := Lib.hid hp2
      clear hp2
      go_enter Try.func72, Try.ntmps72
      go_wp2_with (first
        | (rw [← hwA.out]
           go_at_call 69
           with_reducible refine (counts_any S cS N p.set n wA (hx.out _ hbA.out).2.2 (hx.out _ hbA.out).1 hl1 hn).mono ?_
           rintro e w1 ⟨rfl, hb1⟩
           rw [hp1'.out]
           have b1 := Lib.hid (hbA.out.trans (hb1.mono (by omega)))
           have k8 := (vA.out.same (hb1.block _ (by omega))).c8)
        | (go_at_call 69
           refine (counts_any V cV N p.vec n w1 (hx.out _ b1.out).2.2 (hx.out _ b1.out).2.1 hl2 hn).mono ?_
           rintro e w2 ⟨rfl, hb2⟩
           rw [hp2'.out])
        | fail)
      refine wp_region_quiet_lit (by kernel_rfl) (by kernel_rfl) ?_
      repeat (first | go_big_quiet_skip | go_big_quiet_step (fail))
      refine wpQuiet_nil ?_
      first | rintro _ ⟨nq, rfl⟩ | intro nq
      go_wp2
      go_ret
      exact ⟨ret_bool hg.out.symm, below_drewN (b1.out.trans (hb2.mono (by have := hb1.size; omega))) _⟩
    | true =>
      have hl2e := Lib.hid (packB_len hp2)
      have hp2' := Lib.hid hp2
      clear hp2
      go_enter Try.func72, Try.ntmps72
      go_wp2_with (first
        | (rw [← hwA.out]
           go_at_call 69
           with_reducible refine (counts_any S cS N p.set n wA (hx.out _ hbA.out).2.2 (hx.out _ hbA.out).1 hl1 hn).mono ?_
           rintro e w1 ⟨rfl, hb1⟩
           rw [hp1'.out]
           have b1 := Lib.hid (hbA.out.trans (hb1.mono (by omega)))
           have k8 := (vA.out.same (hb1.block _ (by omega))).c8)
        | (go_at_call 69
           refine (counts_any V cV N p.vec n w1 (hx.out _ b1.out).2.2 (hx.out _ b1.out).2.1 hl2 hn).mono ?_
           rintro e w2 ⟨rfl, hb2⟩
           rw [hp2'.out]
           have z1 := hb1.size
           have b2 := Lib.hid (b1.out.trans (hb2.mono (by omega)))
           have v2 := Lib.hid ((vA.out.same (hb1.block _ (by omega))).same (hb2.block _ (by omega)))
           clear k0 k8)
        | fail)
      have z2 := hb2.size
      have k0 := v2.out.c0
      have k1 := v2.out.c1
      have k8 := v2.out.c8
      have hqs : q < p.set.length := by rw [hl1e.out]; exact hq
      have hqv : q < p.vec.length := by rw [hl2e.out]; exact hq
      obtain ⟨gS, oS, hSe, hgS, cs⟩ := int_at (hx.out _ b2.out).1 hqs
      obtain ⟨gV, oV, hVe, hgV, cv⟩ := int_at (hx.out _ b2.out).2.1 hqv
      rw [hSe] at k0
      rw [hVe] at k8
      have hgood : p.goodB q inc n = (p.numB && p.vecB && decide (nth p.set q = inc) && decide (nth p.vec q = p.cid) && validB p.prev n) := by
        unfold Pr.goodB
        rw [hp1'.out, hp2'.out, nth_pad hqs, nth_pad hqv]; rfl
      replace hgood := Lib.hid hgood
      replace hSe := Lib.hid hSe
      replace hVe := Lib.hid hVe
      by_cases e1 : nth p.set q = inc
      · have c1 : (nth p.set q != inc) = false := by simp [e1]
        by_cases e2 : nth p.vec q = p.cid
        · have c2 : (nth p.vec q != p.cid) = false := by simp [e2]
          by_cases hnum : p.numB = true
          · have hnum' := of_decide_eq_true hnum
            obtain ⟨n1, n2, n3, n4, n5, n6⟩ := hnum'
            refine wp_region_quiet_lit (by kernel_rfl) (by kernel_rfl) ?_
            repeat (first | go_big_quiet_skip | go_big_quiet_step (fail))
            refine wpQuiet_nil ?_
            first | rintro _ ⟨nq, rfl⟩ | intro nq
            have k2 : w2.cell? ⟨w.heap.size, 2, none⟩ = some (.int .i64 p.rev) := v2.out.c2
            have k3 : w2.cell? ⟨w.heap.size, 3, none⟩ = some (.int .i64 p.top) := v2.out.c3
            have bq := Lib.hid (below_drewN b2.out nq)
            have e1' := Lib.hid e1
            have e2' := Lib.hid e2
            have hnum2 := Lib.hid hnum
            clear e1 e2 hnum cs cv
            go_wp2
            go_loopw [10] (fun k wr => ∃ i : Nat, k = .int .i64 i ∧ i ≤ n ∧ zerTo p i ∧ Below w2.heap.size w2 wr) (fun k _ => n - (intOf k).toNat)
            case atStart => exact ⟨0, rfl, by omega, fun j hj => by omega, below_drewN (Below.refl _ _) _⟩
            case round =>
              obtain ⟨i, rfl, hi, hz, hb⟩ := hrel
              have hsz := hb.size
              have vr := v2.out.same (hb.block w.heap.size (by omega))
              have br := b2.out.trans (hb.mono (by omega))
              clear k0 k8 k1 k2 k3
              have k0 := vr.c0
              have k8 := vr.c8
              rw [hSe.out] at k0
              rw [hVe.out] at k8
              replace hz := Lib.hid hz
              by_cases hlt : i < n
              · obtain ⟨g', o', hSe', hgS', cs⟩ := int_at (hx.out _ br).1 (show i < p.set.length by rw [hl1e.out]; exact hlt)
                obtain ⟨rfl, rfl⟩ : g' = gS ∧ o' = oS := by have := hSe.out.symm.trans hSe'; injection this with this; injection this with h1 h2; exact ⟨h1.symm, h2.symm⟩
                obtain ⟨g2, o2, hVe', hgV', cv⟩ := int_at (hx.out _ br).2.1 (show i < p.vec.length by rw [hl2e.out]; exact hlt)
                obtain ⟨rfl, rfl⟩ : g2 = gV ∧ o2 = oV := by have := hVe.out.symm.trans hVe'; injection this with this; injection this with h1 h2; exact ⟨h1.symm, h2.symm⟩
                have his : i < p.set.length := by rw [hl1e.out]; exact hlt
                have hiv : i < p.vec.length := by rw [hl2e.out]; exact hlt
                replace hSe' := Lib.hid hSe'
                replace hVe' := Lib.hid hVe'
                by_cases z0 : nth p.set i = 0
                · have b0 : (nth p.set i == 0) = true := by simp [z0]
                  by_cases z1 : nth p.vec i = 0
                  · have b1 : (nth p.vec i != 0) = false := by simp [z1]
                    have hz' := Lib.hid (show zerTo p (i + 1) from fun j hj h0 => by
                      by_cases e : j = i
                      · subst e; exact z1
                      · exact hz.out j (by omega) h0)
                    replace z0 := Lib.hid z0
                    replace z1 := Lib.hid z1
                    go_wp2
                    go_roundw
                    case rel => go_light; exact ⟨i + 1, by go_num, by omega, hz'.out, hb⟩
                    case measure => go_light; simp [intOf]; omega
                  · have b1 : (nth p.vec i != 0) = true := by simp [z1]
                    have hg := Lib.hid (show p.goodB q inc n = false by rw [hgood.out, vecB_not (by omega) his hiv z0 z1]; simp)
                    replace z0 := Lib.hid z0
                    replace z1 := Lib.hid z1
                    go_wp2
                    go_ret
                    exact ⟨ret_bool hg.out.symm, br⟩
                · have b0 : (nth p.set i == 0) = false := by simp [z0]
                  have hz' := Lib.hid (show zerTo p (i + 1) from fun j hj h0 => by
                    by_cases e : j = i
                    · subst e; exact absurd h0 z0
                    · exact hz.out j (by omega) h0)
                  replace z0 := Lib.hid z0
                  go_wp2
                  go_roundw
                  case rel => go_light; exact ⟨i + 1, by go_num, by omega, hz'.out, hb⟩
                  case measure => go_light; simp [intOf]; omega
              · obtain rfl : i = n := by omega
                have hvb := vecB_of hl1e.out hl2e.out hz.out
                have k4 := vr.c4
                have k5 := vr.c5
                have k6 := vr.c6
                have k7 := vr.c7
                have hgv : p.goodB q inc i = validB p.prev i := by
                  rw [hgood.out, hnum2.out, hvb, decide_eq_true e1'.out, decide_eq_true e2'.out]; rfl
                have hbr := Lib.hid br
                have hvr := Lib.hid vr
                clear vr br
                cases hv0 : vidEq p.prev Vid.zero with
                | true =>
                  have hg := Lib.hid (show p.goodB q inc i = true by
                    rw [hgv]; unfold validB; rw [show decide (p.prev = Vid.zero) = true from hv0]; rfl)
                  have hv0' := Lib.hid hv0
                  clear hv0 hgv hvb
                  go_wp2_with (first
                    | (go_at_call 79
                       refine (none_any p.prev wr).mono ?_
                       rintro e w5 ⟨rfl, hb5⟩
                       rw [hv0'.out])
                    | fail)
                  go_ret
                  exact ⟨ret_bool hg.out.symm, hbr.out.trans (hb5.mono (by omega))⟩
                | false =>
                  have hg := Lib.hid (show p.goodB q inc i = wholeB p.prev i by
                    rw [hgv]; unfold validB wholeB; rw [show decide (p.prev = Vid.zero) = false from hv0]; rfl)
                  have hv0' := Lib.hid hv0
                  clear hv0 hgv hvb
                  go_wp2_with (first
                    | (go_at_call 79
                       refine (none_any p.prev wr).mono ?_
                       rintro e w5 ⟨rfl, hb5⟩
                       rw [hv0'.out]
                       have v5 := hvr.out.same (hb5.block _ (by omega))
                       have j4 := v5.c4
                       have j5 := v5.c5
                       have j6 := v5.c6
                       have j7 := v5.c7
                       replace v5 := Lib.hid v5
                       clear k4 k5 k6 k7 k0 k8)
                    | (go_at_call 83
                       refine (whole_any p.prev i w5).mono ?_
                       rintro e w6 ⟨rfl, hb6⟩)
                    | fail)
                  go_ret
                  exact ⟨ret_bool hg.out.symm, (hbr.out.trans (hb5.mono (by omega))).trans (hb6.mono (by have := hb5.size; omega))⟩
          · have hg := Lib.hid (show p.goodB q inc n = false by rw [hgood.out]; simp only [Bool.not_eq_true] at hnum; rw [hnum]; rfl)
            have hc : p.cid < 1 ∨ (1 ≤ p.cid ∧ 4611686018427387904 < p.cid) ∨ (1 ≤ p.cid ∧ p.cid ≤ 4611686018427387904 ∧ p.rev < 1) ∨ (1 ≤ p.cid ∧ p.cid ≤ 4611686018427387904 ∧ 1 ≤ p.rev ∧ 4611686018427387904 < p.rev) ∨ (1 ≤ p.cid ∧ p.cid ≤ 4611686018427387904 ∧ 1 ≤ p.rev ∧ p.rev ≤ 4611686018427387904 ∧ p.top < 0) ∨ (1 ≤ p.cid ∧ p.cid ≤ 4611686018427387904 ∧ 1 ≤ p.rev ∧ p.rev ≤ 4611686018427387904 ∧ 0 ≤ p.top ∧ 4611686018427387904 ≤ p.top) := by
              unfold Pr.numB at hnum
              rw [decide_eq_true_eq] at hnum; omega
            clear hnum
            refine wp_region_quiet_lit (by kernel_rfl) (by kernel_rfl) ?_
            repeat (first | go_big_quiet_skip | go_big_quiet_step (fail))
            refine wpQuiet_nil ?_
            first | rintro _ ⟨nq, rfl⟩ | intro nq
            have k2 : w2.cell? ⟨w.heap.size, 2, none⟩ = some (.int .i64 p.rev) := v2.out.c2
            have k3 : w2.cell? ⟨w.heap.size, 3, none⟩ = some (.int .i64 p.top) := v2.out.c3
            have bq := Lib.hid (below_drewN b2.out nq)
            have e1' := Lib.hid e1
            have e2' := Lib.hid e2
            clear e1 e2 cs cv
            rcases hc with h1 | ⟨h1, h2⟩ | ⟨h1, h2, h3⟩ | ⟨h1, h2, h3, h4⟩ | ⟨h1, h2, h3, h4, h5⟩ | ⟨h1, h2, h3, h4, h5, h6⟩
            all_goals
              go_wp2
              go_ret
              exact ⟨ret_bool hg.out.symm, bq.out⟩
        · have c2 : (nth p.vec q != p.cid) = true := by simp [e2]
          have hg := Lib.hid (show p.goodB q inc n = false by rw [hgood.out, decide_eq_false e2]; simp)
          replace e1 := Lib.hid e1
          replace e2 := Lib.hid e2
          refine wp_region_quiet_lit (by kernel_rfl) (by kernel_rfl) ?_
          repeat (first | go_big_quiet_skip | go_big_quiet_step (fail))
          refine wpQuiet_nil ?_
          first | rintro _ ⟨nq, rfl⟩ | intro nq
          go_wp2
          go_ret
          exact ⟨ret_bool hg.out.symm, below_drewN b2.out _⟩
      · have c1 : (nth p.set q != inc) = true := by simp [e1]
        have hg := Lib.hid (show p.goodB q inc n = false by rw [hgood.out, decide_eq_false e1]; simp)
        replace e1 := Lib.hid e1
        refine wp_region_quiet_lit (by kernel_rfl) (by kernel_rfl) ?_
        repeat (first | go_big_quiet_skip | go_big_quiet_step (fail))
        refine wpQuiet_nil ?_
        first | rintro _ ⟨nq, rfl⟩ | intro nq
        go_wp2
        go_ret
        exact ⟨ret_bool hg.out.symm, below_drewN b2.out _⟩
end Go.Proofs.Ytfbeggdbjpmppaa
/- The document's leaves. -/
namespace Go.Proofs.Ytfbeggdbjpmppaa
open Go.RowKit
theorem leaves_yes {ms : List Mb} {q inc cid : Int} {k : Nat} {m : Mb} (hr : ∀ (i j : Nat) (a b : Mb), ms[i]? = some a → ms[j]? = some b → a.p = b.p → i = j) (hm : ms[k]? = some m) (h1 : m.p = q) (h2 : m.i = inc) (h3 : m.c < cid) : leavesB ms q inc cid = true := by
  unfold leavesB
  have hf : ms.find? (fun m => decide (m.p = q)) = some m := by
    refine find_here (k := k) (fun j y hj hy => ?_) hm (decide_eq_true h1)
    refine decide_eq_false fun e => ?_
    have := hr j k y m hy hm (e.trans h1.symm); omega
  rw [hf]; exact decide_eq_true ⟨h2, h3⟩
theorem leaves_no {ms : List Mb} {q inc cid : Int} {k : Nat} (h : upto (fun m => ¬ (m.p = q ∧ m.i = inc ∧ m.c < cid)) ms k) (hk : ms.length ≤ k) : leavesB ms q inc cid = false := by
  unfold leavesB
  cases hf : ms.find? (fun m => decide (m.p = q)) with
  | none => rfl
  | some m =>
    have hm := List.mem_of_find?_eq_some hf
    have hp := List.find?_some hf
    have := upto_all h hk m hm
    exact decide_eq_false fun e => this ⟨by simpa using hp, e.1, e.2⟩
set_option maxRecDepth 100000 in
set_option maxHeartbeats 1000000 in
theorem leaves_any (b : Nat) (F : List Nat) (s : St) (hs : List HdR) (X : Ptrs) (q inc cid : Int) (w : World) (h : RefAt w b F s hs X) (hR : RInv s) :
    Calls Try.prog 75 #[.pointer (some ⟨b, 0, none⟩), .int .i64 q, .int .i64 inc, .int .i64 cid] w fun x w' => x = .returned (.bool (leavesB s.mem q inc cid)) ∧ Below w.heap.size w w' := by
  have q0 := h.mem
  have hbl := h.bl
  have hl := hR.len
  replace hR := Lib.hid hR
  replace h := Lib.hid h
  go_enter Try.func75, Try.ntmps75
  go_wp2
  go_loopw [9] (fun k wr => ∃ i : Nat, k = .int .i64 i ∧ i ≤ s.mem.length ∧ upto (fun m => ¬ (m.p = q ∧ m.i = inc ∧ m.c < cid)) s.mem i ∧ Below w.heap.size w wr) (fun k _ => s.mem.length - (intOf k).toNat)
  case atStart => exact ⟨0, rfl, by omega, upto_zero _ _, Below.refl _ _⟩
  case round =>
    obtain ⟨i, rfl, hi, hup, hb⟩ := hrel
    have hsz := hb.size
    have hr := h.out.below hb
    have k0 := hr.mem
    replace hup := Lib.hid hup
    clear q0
    by_cases hlt : i < s.mem.length
    · obtain ⟨g, o, m, hAe, hg, hm, c0, c1, c2⟩ := hr.rmem.row.mb hlt
      have hba := Lib.hid (hb.alloc hsz (.cells #[.int .i64 m.p, .int .i64 m.i, .int .i64 m.c] 43))
      replace hr := Lib.hid hr
      rw [hAe] at k0
      replace hAe := Lib.hid hAe
      have hgo : ¬ (m.p = q ∧ m.i = inc ∧ m.c < cid) → upto (fun m => ¬ (m.p = q ∧ m.i = inc ∧ m.c < cid)) s.mem (i + 1) := fun hn => upto_succ hup.out (fun z hz => by rw [hm.out] at hz; cases hz; exact hn)
      replace hgo := Lib.hid hgo
      by_cases e1 : m.p = q
      · have b1 : (m.p == q) = true := by simp [e1]
        by_cases e2 : m.i = inc
        · have b2 : (m.i == inc) = true := by simp [e2]
          by_cases e3 : m.c < cid
          · have hf := Lib.hid (leaves_yes hR.out.rise hm.out e1 e2 e3)
            replace e1 := Lib.hid e1
            replace e2 := Lib.hid e2
            go_wp2
            go_ret
            exact ⟨ret_bool hf.out.symm, hba.out⟩
          · have hup' := Lib.hid (hgo.out (fun x => e3 x.2.2))
            replace e1 := Lib.hid e1
            replace e2 := Lib.hid e2
            go_wp2
            go_roundw
            case rel => go_light; exact ⟨i + 1, by go_num, by omega, hup'.out, hba.out⟩
            case measure => go_light; simp [intOf]; omega
        · have b2 : (m.i == inc) = false := by simp [e2]
          have hup' := Lib.hid (hgo.out (fun x => e2 x.2.1))
          replace e1 := Lib.hid e1
          replace e2 := Lib.hid e2
          go_wp2
          go_roundw
          case rel => go_light; exact ⟨i + 1, by go_num, by omega, hup'.out, hba.out⟩
          case measure => go_light; simp [intOf]; omega
      · have b1 : (m.p == q) = false := by simp [e1]
        have hup' := Lib.hid (hgo.out (fun x => e1 x.1))
        replace e1 := Lib.hid e1
        go_wp2
        go_roundw
        case rel => go_light; exact ⟨i + 1, by go_num, by omega, hup'.out, hba.out⟩
        case measure => go_light; simp [intOf]; omega
    · have hno := Lib.hid (leaves_no hup.out (by omega))
      go_wp2
      go_ret
      exact ⟨ret_bool hno.out.symm, hb⟩
end Go.Proofs.Ytfbeggdbjpmppaa
