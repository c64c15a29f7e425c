/- Read RValid RTkL Ord2 RTkA RTake Take1 TkA, joined. -/
import Derived.Outline
import Derived.StillTail
import Derived.Deep.DeepCutAuto
import Derived.Test.YtfbeggdbjpmppaaMg3
import Derived.Test.YtfbeggdbjpmppaaMg4
import Derived.Test.YtfbeggdbjpmppaaMg5
import Derived.Test.YtfbeggdbjpmppaaMg6
import Derived.Test.YtfbeggdbjpmppaaMg7
import Derived.Test.YtfbeggdbjpmppaaMg8
import Derived.Test.YtfbeggdbjpmppaaMg9
set_option linter.unusedVariables false
set_option linter.unusedSimpArgs false
namespace Go.Proofs.Ytfbeggdbjpmppaa
open Go.RowKit
abbrev prA (S V : Option Addr) (cS cV : Nat) (p : Pr) : Array Value := #[.slice S p.set.length cS, .int .i64 p.cid, .int .i64 p.rev, .int .i64 p.top, .int .i64 p.prev.e, .int .i64 p.prev.l, .int .i64 p.prev.i, .int .i64 p.prev.c, .slice V p.vec.length cV]
structure Rd0 (w : World) (S V : Option Addr) (cS cV : Nat) (p : Pr) (W : World) : Prop where
  bel : Below (w.heap.size + 1) (box1 w (prA S V cS cV p) 31) W
  out : W.there (w.heap.size + 1) 0 39
  var : W.there (w.heap.size + 2) 0 39
  size : w.heap.size + 3 ≤ W.heap.size
theorem Rd0.facts {w W : World} {S V : Option Addr} {cS cV : Nat} {p : Pr} (h : Rd0 w S V cS cV p W) : Below w.heap.size w W ∧ (∀ j, W.cell? ⟨w.heap.size, j, none⟩ = (prA S V cS cV p)[j]?) := by
  obtain ⟨a, c, -, -⟩ := box1_facts h.bel
  exact ⟨a, c⟩
theorem Rd0.below {w W W' : World} {S V : Option Addr} {cS cV : Nat} {p : Pr} (h : Rd0 w S V cS cV p W) (hb : Below W.heap.size W W') : Rd0 w S V cS cV p W' :=
  ⟨h.bel.trans (hb.mono (by have := h.size; omega)), there_below h.out hb (by have := h.size; omega), there_below h.var hb (by have := h.size; omega), Nat.le_trans h.size hb.size⟩
theorem Rd0.drew {w W : World} {S V : Option Addr} {cS cV : Nat} {p : Pr} (h : Rd0 w S V cS cV p W) : Rd0 w S V cS cV p W.drew := h.below (Below.drew (Below.refl _ _))
theorem Rd0.put {w W : World} {S V : Option Addr} {cS cV : Nat} {p : Pr} (h : Rd0 w S V cS cV p W) (o : Nat) (vs : List Value) : Rd0 w S V cS cV p (W.setCells (w.heap.size + 2) o vs) :=
  ⟨below_sets h.bel (by omega) _ _ (by have := h.size; omega), World.there_setCells h.out _ _ _, World.there_setCells h.var _ _ _, by rw [size_sets]; exact h.size⟩
structure RdT (w : World) (S V : Option Addr) (cS cV : Nat) (p : Pr) (t : Wish) (W : World) : Prop where
  bel : Below (w.heap.size + 1) (box1 w (prA S V cS cV p) 31) W
  out : W.there (w.heap.size + 1) 0 39
  var : WVar W (w.heap.size + 2) t
  size : w.heap.size + 3 ≤ W.heap.size
theorem RdT.facts {w W : World} {S V : Option Addr} {cS cV : Nat} {p : Pr} {t : Wish} (h : RdT w S V cS cV p t W) : Below w.heap.size w W ∧ (∀ j, W.cell? ⟨w.heap.size, j, none⟩ = (prA S V cS cV p)[j]?) := by
  obtain ⟨a, c, -, -⟩ := box1_facts h.bel
  exact ⟨a, c⟩
theorem RdT.below {w W W' : World} {S V : Option Addr} {cS cV : Nat} {p : Pr} {t : Wish} (h : RdT w S V cS cV p t W) (hb : Below W.heap.size W W') : RdT w S V cS cV p t W' :=
  ⟨h.bel.trans (hb.mono (by have := h.size; omega)), there_below h.out hb (by have := h.size; omega), h.var.below hb (by have := h.size; omega), Nat.le_trans h.size hb.size⟩
theorem RdT.drew {w W : World} {S V : Option Addr} {cS cV : Nat} {p : Pr} {t : Wish} (h : RdT w S V cS cV p t W) : RdT w S V cS cV p t W.drew := h.below (Below.drew (Below.refl _ _))
theorem RdT.drewN {w W : World} {S V : Option Addr} {cS cV : Nat} {p : Pr} {t : Wish} (h : RdT w S V cS cV p t W) (n : Nat) : RdT w S V cS cV p t (W.drewN n) := h.below (below_drewN (Below.refl _ _) n)
theorem RdT.put {w W : World} {S V : Option Addr} {cS cV : Nat} {p : Pr} {t u : Wish} (h : RdT w S V cS cV p t W) {o : Nat} {vs : List Value} (hv : WVar (W.setCells (w.heap.size + 2) o vs) (w.heap.size + 2) u) : RdT w S V cS cV p u (W.setCells (w.heap.size + 2) o vs) :=
  ⟨below_sets h.bel (by omega) _ _ (by have := h.size; omega), World.there_setCells h.out _ _ _, hv, by rw [size_sets]; exact h.size⟩
theorem RdT.ret {w W w7 : World} {S V : Option Addr} {cS cV : Nat} {p : Pr} {t : Wish} (h : RdT w S V cS cV p t W) (hw : w7 = W.setCells (w.heap.size + 1) 0 (wishL t)) :
    (loadVar 96 ⟨w.heap.size + 1, 0, none⟩).run Try.prog w7 = .ok (.agg (wishA t)) w7 ∧ Below w.heap.size w w7 := by
  subst hw
  refine ⟨run_loadVar_wish _ _ _ t (World.rangeAt_setCells_same _ _ _ _ (by rw [len_wishL h.var.len.l1 h.var.len.l2]; exact h.out)) h.var.len, below_sets h.facts.1 (by omega) _ _ (by have := h.size; omega)⟩
theorem RdT.out1 {w W : World} {S V : Option Addr} {cS cV : Nat} {p : Pr} {t : Wish} (h : RdT w S V cS cV p t W) (vs : List Value) : RdT w S V cS cV p t (W.setCells (w.heap.size + 1) 0 vs) :=
  ⟨below_sets h.bel (Nat.le_refl _) _ _ (by have := h.size; omega), World.there_setCells h.out _ _ _, h.var.other (by omega) _ _, by rw [size_sets]; exact h.size⟩
theorem RdT.cells {w W : World} {S V : Option Addr} {cS cV : Nat} {p : Pr} {t : Wish} (h : RdT w S V cS cV p t W) :
    W.cell? ⟨w.heap.size, 1, none⟩ = some (.int .i64 p.cid) ∧ W.cell? ⟨w.heap.size, 2, none⟩ = some (.int .i64 p.rev) ∧ W.cell? ⟨w.heap.size, 3, none⟩ = some (.int .i64 p.top) ∧
    W.cell? ⟨w.heap.size, 4, none⟩ = some (.int .i64 p.prev.e) ∧ W.cell? ⟨w.heap.size, 5, none⟩ = some (.int .i64 p.prev.l) ∧ W.cell? ⟨w.heap.size, 6, none⟩ = some (.int .i64 p.prev.i) ∧ W.cell? ⟨w.heap.size, 7, none⟩ = some (.int .i64 p.prev.c) := by
  have f := h.facts.2
  exact ⟨f 1, f 2, f 3, f 4, f 5, f 6, f 7⟩
theorem RdT.setAt {w W : World} {S V : Option Addr} {cS cV : Nat} {p : Pr} {t : Wish} (h : RdT w S V cS cV p t W) {j : Nat} (hj : j < 16) :
    W.cell? ⟨w.heap.size + 2, j, none⟩ = some (.int .i64 (nth t.set j)) ∧ W.cell? ⟨w.heap.size + 2, 16 + j, none⟩ = some (.int .i64 (nth t.vec j)) := by
  obtain ⟨a, c, _⟩ := (wish_parts h.var.len.l1 h.var.len.l2).1 h.var.rng
  have l1 := h.var.len.l1
  have l2 := h.var.len.l2
  have r1 := rangeAt_cell a (nth_some (l := t.set) (k := j) (by omega))
  have r2 := rangeAt_cell c (nth_some (l := t.vec) (k := j) (by omega))
  rw [Nat.zero_add] at r1 r2
  exact ⟨r1, r2⟩
theorem vecB_no {p : Pr} {j : Nat} (hj : j < 16) (h1 : nth (pad p.set) j = 0) (h2 : nth (pad p.vec) j ≠ 0) : p.vecB = false := by
  rw [Bool.eq_false_iff]
  intro h
  unfold Pr.vecB at h
  have := List.all_eq_true.1 h j (List.mem_range.2 hj)
  simp [h1, h2] at this
theorem vecB_yes {p : Pr} (h : ∀ j, j < 16 → nth (pad p.set) j = 0 → nth (pad p.vec) j = 0) : p.vecB = true := by
  unfold Pr.vecB
  refine List.all_eq_true.2 fun j hj => ?_
  have := h j (List.mem_range.1 hj)
  by_cases e : nth (pad p.set) j = 0
  · simp [e, this e]
  · simp [e]
set_option maxRecDepth 100000 in
set_option maxHeartbeats 8000000 in
theorem read_any (b : Nat) (s : St) (M : Option Addr) (cM : Nat) (S V : Option Addr) (cS cV N : Nat) (p : Pr) (q : Nat) (inc : Int) (w : World) (h : AgAt w b s M cM) (hb : b < w.heap.size) (hn : s.n ≤ 16) (hq : q < s.n) (hN : N ≤ w.heap.size) (hS : RowAt w N 1 eInt S p.set) (hV : RowAt w N 1 eInt V p.vec)
    (hl1 : p.set.length ≤ 9223372036854775807) (hl2 : p.vec.length ≤ 9223372036854775807) :
    Calls Try.prog 52 #[.pointer (some ⟨b, 0, none⟩), .int .i64 q, .int .i64 inc, .agg (prA S V cS cV p)] w fun x w' => (∃ t, x = .returned (.tuple #[.agg (wishA t), .bool (p.goodB q inc s.n)]) ∧ WLen t ∧ (p.goodB q inc s.n = true → t = p.wish)) ∧ Below w.heap.size w w' := by
  obtain ⟨t0, ht0⟩ : ∃ t0 : Wish, t0 = ⟨zeros, zeros, p.cid, p.rev, p.top, ⟨p.prev.e, p.prev.l, p.prev.i, p.prev.c⟩⟩ := ⟨_, rfl⟩
  have hl0 : WLen t0 := by rw [ht0]; exact ⟨len_zeros, len_zeros⟩
  replace ht0 := Lib.hid ht0
  replace hl0 := Lib.hid hl0
  go_enter Try.func52, Try.ntmps52
  go_wp2_with (first
    | (refine wpList_alloc96 rfl rfl ?_)
    | (refine wpList_build96 rfl (.tmp 15) (.tmp 17) (.tmp 19) (.tmp 21) rfl _ _ _ _ _ _ _ (by rfl) (by rfl) (by rfl) (by rfl) ?_; rw [← ht0.out])
    | (refine wpList_store96 rfl (.tmp 10) (.tmp 22) rfl _ 0 (by rfl) t0 (by rfl) (by exact there_new96 _ _ wlen_zero) hl0.out ?_; intro w3 hw3)
    | fail)
  have h3 : RdT w S V cS cV p t0 w3 := by
    rw [hw3.out]
    have hv := (WVar.new ((w.alloc (.cells (prA S V cS cV p) 31)).alloc (.cells (wishA Wish.zero) 96)) Wish.zero wlen_zero).put hl0.out
    have e2 : ((w.alloc (.cells (prA S V cS cV p) 31)).alloc (.cells (wishA Wish.zero) 96)).heap.size = w.heap.size + 2 := by simp only [World.size_alloc]
    rw [e2] at hv ⊢
    refine ⟨below_sets (((Below.refl _ _).alloc (by rw [World.size_alloc]; exact Nat.le_refl _) _).alloc (by simp only [World.size_alloc]; omega) _) (by omega) _ _ (by simp), World.there_setCells (World.there_alloc ?_ _) _ _ _, hv, by simp [size_sets]⟩
    have := there_new96 (w.alloc (.cells (prA S V cS cV p) 31)) Wish.zero wlen_zero; rwa [World.size_alloc] at this
  have h30 : Rd0 w S V cS cV p w3.drew := ⟨h3.drew.bel, h3.drew.out, h3.drew.var.there, h3.drew.size⟩
  have L25 : ∀ W, Rd0 w S V cS cV p W → (loadVar 27 ⟨w.heap.size, 0, none⟩).run Try.prog W = .ok (.slice S p.set.length cS) W := fun W hW => load27 ((hW.facts.2 0).trans rfl)
  have L39 : ∀ W, Rd0 w S V cS cV p W → (loadVar 27 ⟨w.heap.size, 8, none⟩).run Try.prog W = .ok (.slice V p.vec.length cV) W := fun W hW => load27 ((hW.facts.2 8).trans rfl)
  have Ln : ∀ W, Rd0 w S V cS cV p W → (loadVar 3 ⟨b, 0, none⟩).run Try.prog W = .ok (.int .i64 s.n) W := fun W hW => load3 ((hW.facts.1.cell (p := ⟨b, 0, none⟩) hb).trans h.n)
  have hNs : ∀ W, Rd0 w S V cS cV p W → RowAt W N 1 eInt S p.set ∧ RowAt W N 1 eInt V p.vec ∧ N ≤ W.heap.size := fun W hW => by
    obtain ⟨f1, f2⟩ := hW.facts
    exact ⟨hS.below f1 hN, hV.below f1 hN, by have := hW.size; omega⟩
  have hC : ∀ x : Prop, (∀ W, Rd0 w S V cS cV p W → x) ↔ x := fun x => ⟨fun f => f _ h30, fun f _ _ => f⟩
  replace hNs := Lib.hid hNs
  replace L25 := Lib.hid L25
  replace L39 := Lib.hid L39
  replace Ln := Lib.hid Ln
  replace hw3 := Lib.hid hw3
  replace h := Lib.hid h
  replace h3 := Lib.hid h3
  replace h30 := Lib.hid h30
  clear hS hV
  refine wp_region_ord [([0, 1, 2, 3, 4, 5], 6), ([7, 8, 9, 10], 11)] [12] (Rd0 w S V cS cV p) rfl (by kernel_rfl) rfl h30.out ?_
  refine WO.seg rfl ?_ h30.out
  simp only [picks, pick, List.cons_append, List.nil_append, List.append_nil]
  repeat (first
    | go_big_quiet_skip
    | (refine wpQuiet_loadC (by rfl) 27 (.tmp 24) rfl w.heap.size 0 (by rfl) _ L25.out ?_; go_simp)
    | (refine wpQuiet_loadC (by rfl) 3 (.tmp 28) rfl b 0 (by rfl) _ Ln.out ?_; go_simp)
    | go_big_quiet_step (fail))
  refine wpQuiet_nil ?_
  intro K hK
  go_simp
  go_at_call 56
  refine (pack_any S cS N s.n p.set _ (hNs.out _ h30.out).2.2 hn (hNs.out _ h30.out).1 hl1).mono ?_
  rintro e w5 ⟨⟨m, rfl, hm, hmp⟩, hb5⟩
  have h5 := h30.out.below hb5
  have t5 := Lib.hid (h3.out.drew.below hb5)
  replace hmp := Lib.hid hmp
  replace h5 := Lib.hid h5
  go_wp2_with fail
  refine hK.out _ _ h5.out ?_
  clear hK K
  refine WO.seg rfl ?_ h5.out
  simp only [picks, pick, List.cons_append, List.nil_append, List.append_nil]
  repeat go_big_quiet_step (fail)
  refine wpQuiet_nil ?_
  intro K hK
  rw [if_pos (by rfl)]
  refine wp_store94 (.tmp 33) (.tmp 31) rfl rfl (w.heap.size + 2) 0 (by rfl) m (by rfl) (World.there.at t5.out.var.there (by omega)) hm ?_
  intro w6 hw6
  have h6 : RdT w S V cS cV p { t0 with set := m } w6 := by rw [hw6.out]; exact t5.out.put (t5.out.var.setSet hm)
  have h60 : Rd0 w S V cS cV p w6 := ⟨h6.bel, h6.out, h6.var.there, h6.size⟩
  refine hK.out _ _ h60 ?_
  clear hK K
  refine WO.end_ ?_
  simp only [picks, pick, List.cons_append, List.nil_append, List.append_nil]
  repeat go_big_quiet_step (fail)
  refine wpQuiet_nil ?_
  replace h6 := Lib.hid h6
  replace h60 := Lib.hid h60
  clear h5 t5 hC
  cases hp1 : packB p.set s.n with
  | false =>
    have hg := Lib.hid (show p.goodB q inc s.n = false by unfold Pr.goodB; rw [hp1]; rfl)
    go_wp2_with (first
      | (refine wpList_load96 rfl (.tmp 10) rfl (w.heap.size + 2) 0 (by rfl) _ h6.out.var.rng h6.out.var.len ?_)
      | (refine wpList_store96 rfl (.tmp 8) (.tmp 36) rfl (w.heap.size + 1) 0 (by rfl) _ (by rfl) h6.out.out h6.out.var.len ?_; intro w7 hw7)
      | fail)
    obtain ⟨r1, r2⟩ := h6.out.ret hw7.out
    exact bodyPost_ret (res_cell_tmp (p := 8) (u := 9) (ty := 96) rfl rfl r1) rfl ⟨⟨_, by rw [hg.out]; rfl, h6.out.var.len, fun e => Bool.noConfusion (hg.out.symm.trans e)⟩, r2⟩
  | true =>
    obtain rfl : m = pad p.set := hmp.out hp1
    have hC : ∀ x : Prop, (∀ W, Rd0 w S V cS cV p W → x) ↔ x := fun x => ⟨fun f => f _ h60.out, fun f _ _ => f⟩
    go_wp2_with fail
    have hd6 := Lib.hid h60.out.drew
    refine wp_region_ord [([0, 1, 2, 3, 4, 5], 6), ([7, 8, 9, 10], 11)] [12] (Rd0 w S V cS cV p) rfl (by kernel_rfl) rfl hd6.out ?_
    refine WO.seg rfl ?_ hd6.out
    simp only [picks, pick, List.cons_append, List.nil_append, List.append_nil]
    repeat (first
      | go_big_quiet_skip
      | (refine wpQuiet_loadC (by rfl) 27 (.tmp 38) rfl w.heap.size 8 (by rfl) _ L39.out ?_; go_simp)
      | (refine wpQuiet_loadC (by rfl) 3 (.tmp 42) rfl b 0 (by rfl) _ Ln.out ?_; go_simp)
      | go_big_quiet_step (fail))
    refine wpQuiet_nil ?_
    intro K hK
    go_simp
    go_at_call 56
    refine (pack_any V cV N s.n p.vec _ (hNs.out _ hd6.out).2.2 hn (hNs.out _ hd6.out).2.1 hl2).mono ?_
    rintro e w7 ⟨⟨m, rfl, hm2, hmp2⟩, hb7⟩
    have h7 := hd6.out.below hb7
    have t7 := Lib.hid (h6.out.drew.below hb7)
    replace hmp2 := Lib.hid hmp2
    replace h7 := Lib.hid h7
    go_wp2_with fail
    refine hK.out _ _ h7.out ?_
    clear hK K
    refine WO.seg rfl ?_ h7.out
    simp only [picks, pick, List.cons_append, List.nil_append, List.append_nil]
    repeat go_big_quiet_step (fail)
    refine wpQuiet_nil ?_
    intro K hK
    rw [if_pos (by rfl)]
    refine wp_store94 (.tmp 47) (.tmp 45) rfl rfl (w.heap.size + 2) 16 (by rfl) m (by rfl) (World.there.at t7.out.var.there (by omega)) hm2 ?_
    intro w8 hw8
    have h8 : RdT w S V cS cV p { t0 with set := pad p.set, vec := m } w8 := by rw [hw8.out]; exact t7.out.put (t7.out.var.setVec hm2)
    have h80 : Rd0 w S V cS cV p w8 := ⟨h8.bel, h8.out, h8.var.there, h8.size⟩
    refine hK.out _ _ h80 ?_
    clear hK K
    refine WO.end_ ?_
    simp only [picks, pick, List.cons_append, List.nil_append, List.append_nil]
    repeat go_big_quiet_step (fail)
    refine wpQuiet_nil ?_
    clear h7 t7 hC h6 h60 hd6 hw6 hmp
    obtain ⟨k1, k2, k3, k4, k5, k6, k7⟩ := h8.cells
    replace h8 := Lib.hid h8
    clear h80
    cases hp2 : packB p.vec s.n with
    | false =>
      have hg := Lib.hid (show p.goodB q inc s.n = false by unfold Pr.goodB; rw [hp2]; simp)
      clear k1 k2 k3 k4 k5 k6 k7
      go_wp2_with (first
        | (refine wpList_load96 rfl (.tmp 10) rfl (w.heap.size + 2) 0 (by rfl) _ h8.out.var.rng h8.out.var.len ?_)
        | (refine wpList_store96 rfl (.tmp 8) (.tmp 50) rfl (w.heap.size + 1) 0 (by rfl) _ (by rfl) h8.out.out h8.out.var.len ?_; intro w9 hw9)
        | fail)
      obtain ⟨r1, r2⟩ := h8.out.ret hw9.out
      exact bodyPost_ret (res_cell_tmp (p := 8) (u := 9) (ty := 96) rfl rfl r1) rfl ⟨⟨_, by rw [hg.out]; rfl, h8.out.var.len, fun e => Bool.noConfusion (hg.out.symm.trans e)⟩, r2⟩
    | true =>
      obtain rfl : m = pad p.vec := hmp2.out hp2
      have ht2 : ({ t0 with set := pad p.set, vec := pad p.vec } : Wish) = p.wish := by rw [ht0.out]; rfl
      rw [ht2] at h8
      clear hw8 hmp2 hm hm2
      have hnum : p.cid < 1 ∨ (1 ≤ p.cid ∧ 4611686018427387904 < p.cid) ∨ (1 ≤ p.cid ∧ p.cid ≤ 4611686018427387904 ∧ p.rev < 1) ∨ (1 ≤ p.cid ∧ p.cid ≤ 4611686018427387904 ∧ 1 ≤ p.rev ∧ 4611686018427387904 < p.rev) ∨
          (1 ≤ p.cid ∧ p.cid ≤ 4611686018427387904 ∧ 1 ≤ p.rev ∧ p.rev ≤ 4611686018427387904 ∧ p.top < 0) ∨ (1 ≤ p.cid ∧ p.cid ≤ 4611686018427387904 ∧ 1 ≤ p.rev ∧ p.rev ≤ 4611686018427387904 ∧ 0 ≤ p.top ∧ 4611686018427387904 ≤ p.top) ∨
          (1 ≤ p.cid ∧ p.cid ≤ 4611686018427387904 ∧ 1 ≤ p.rev ∧ p.rev ≤ 4611686018427387904 ∧ 0 ≤ p.top ∧ p.top < 4611686018427387904) := by omega
      have hnB : (1 ≤ p.cid ∧ p.cid ≤ 4611686018427387904 ∧ 1 ≤ p.rev ∧ p.rev ≤ 4611686018427387904 ∧ 0 ≤ p.top ∧ p.top < 4611686018427387904) ∨ p.goodB q inc s.n = false := by
        by_cases e : 1 ≤ p.cid ∧ p.cid ≤ 4611686018427387904 ∧ 1 ≤ p.rev ∧ p.rev ≤ 4611686018427387904 ∧ 0 ≤ p.top ∧ p.top < 4611686018427387904
        · exact .inl e
        · right; unfold Pr.goodB; rw [show p.numB = false from decide_eq_false e]; simp
      rcases hnum with n1 | ⟨n1, n2⟩ | ⟨n1, n2, n3⟩ | ⟨n1, n2, n3, n4⟩ | ⟨n1, n2, n3, n4, n5⟩ | ⟨n1, n2, n3, n4, n5, n6⟩ | ⟨n1, n2, n3, n4, n5, n6⟩
      rotate_left 6
      · replace hnB := Lib.hid hnB
        have hnum := Lib.hid (show p.numB = true from decide_eq_true ⟨n1, n2, n3, n4, n5, n6⟩)
        have hls : (pad p.set).length = 16 := h8.out.var.len.l1
        have hlv : (pad p.vec).length = 16 := h8.out.var.len.l2
        have rv : w8.rangeAt (w.heap.size + 2) 16 (ints (pad p.vec)) := ((wish_parts h8.out.var.len.l1 h8.out.var.len.l2).1 h8.out.var.rng).2.1
        replace hls := Lib.hid hls
        replace hlv := Lib.hid hlv
        replace rv := Lib.hid rv
        go_wp2_with (first
          | (refine wpList_load94 rfl (.tmp 80) rfl (w.heap.size + 2) 16 (by rfl) _ rv.out hlv.out ?_)
          | fail)
        go_loopw [82] (fun k wr => ∃ i : Nat, k = .int .i64 i ∧ i ≤ 16 ∧ Hid (∀ j, j < i → nth (pad p.set) j = 0 → nth (pad p.vec) j = 0) ∧ wr = w8) (fun k _ => 16 - (intOf k).toNat)
        case atStart => exact ⟨0, rfl, by omega, (fun j hj => by omega), rfl⟩
        case round =>
          obtain ⟨i, rfl, hi, hok, rfl⟩ := hrel
          replace hok := Lib.hid hok
          by_cases hlt : i < 16
          · have hiI : (i : Int) < 16 := by omega
            obtain ⟨a1, a2⟩ := h8.out.setAt hlt
            change wr.cell? ⟨w.heap.size + 2, i, none⟩ = some (.int .i64 (nth (pad p.set) i)) at a1
            have a3 : ∀ W : World, (Instr.index 94 (.agg (arr (pad p.vec))) (.int .i64 i)).run Try.prog W = .ok (.int .i64 (nth (pad p.vec) i)) W := fun W => run_index94 W hlt (nth_some (by rw [hlv.out]; exact hlt))
            clear a2 k1 k2 k3 k4 k5 k6 k7
            by_cases z1 : nth (pad p.set) i = 0
            · have z1' : (nth (pad p.set) i == 0) = true := by simp [z1]
              by_cases z2 : nth (pad p.vec) i = 0
              · have z2' : (nth (pad p.vec) i != 0) = false := by simp [z2]
                have hok' := Lib.hid (show ∀ j, j < i + 1 → nth (pad p.set) j = 0 → nth (pad p.vec) j = 0 from fun j hj => by
                  by_cases e : j = i
                  · subst e; exact fun _ => z2
                  · exact hok.out j (by omega))
                replace z1 := Lib.hid z1
                replace z2 := Lib.hid z2
                go_wp2
                go_roundw
                case rel => go_light; exact ⟨i + 1, by go_num, by omega, hok'.out, trivial⟩
                case measure => go_light; simp [intOf]; omega
              · have z2' : (nth (pad p.vec) i != 0) = true := by simp [z2]
                have hg := Lib.hid (show p.goodB q inc s.n = false by unfold Pr.goodB; rw [vecB_no hlt z1 z2]; simp)
                replace z1 := Lib.hid z1
                replace z2 := Lib.hid z2
                go_wp2_with (first
                  | (refine wpList_load96 rfl (.tmp 10) rfl (w.heap.size + 2) 0 (by rfl) _ h8.out.var.rng h8.out.var.len ?_)
                  | (refine wpList_store96 rfl (.tmp 8) (.tmp 95) rfl (w.heap.size + 1) 0 (by rfl) _ (by rfl) h8.out.out h8.out.var.len ?_; intro w9 hw9)
                  | fail)
                obtain ⟨r1, r2⟩ := h8.out.ret hw9.out
                exact bodyPost_ret (res_cell_tmp (p := 8) (u := 9) (ty := 96) rfl rfl r1) rfl ⟨⟨_, by rw [hg.out]; rfl, h8.out.var.len, fun e => Bool.noConfusion (hg.out.symm.trans e)⟩, r2⟩
            · have z1' : (nth (pad p.set) i == 0) = false := by simp [z1]
              have hok' := Lib.hid (show ∀ j, j < i + 1 → nth (pad p.set) j = 0 → nth (pad p.vec) j = 0 from fun j hj => by
                by_cases e : j = i
                · subst e; exact fun x => absurd x z1
                · exact hok.out j (by omega))
              replace z1 := Lib.hid z1
              go_wp2
              go_roundw
              case rel => go_light; exact ⟨i + 1, by go_num, by omega, hok'.out, trivial⟩
              case measure => go_light; simp [intOf]; omega
          · obtain rfl : i = 16 := by omega
            have hvB := Lib.hid (vecB_yes hok.out)
            clear k1 k2 k3 k4 k5 k6 k7
            go_wp2_with fail
            have hd8 := h8.out.drew
            have hqI : (q : Int) < 16 := by omega
            have hq16 : q < 16 := by omega
            have hC : ∀ x : Prop, (∀ W, RdT w S V cS cV p p.wish W → x) ↔ x := fun x => ⟨fun f => f _ hd8, fun f _ _ => f⟩
            have L97 : ∀ W, RdT w S V cS cV p p.wish W → (loadVar 96 ⟨w.heap.size + 2, 0, none⟩).run Try.prog W = .ok (.agg (wishA p.wish)) W := fun W hW => run_loadVar_wish W _ _ _ hW.var.rng hW.var.len
            have L101 : ∀ W, RdT w S V cS cV p p.wish W → (loadVar 3 ⟨w.heap.size + 2, q, none⟩).run Try.prog W = .ok (.int .i64 (nth (pad p.set) q)) W := fun W hW => load3 (hW.setAt hq16).1
            have L108 : ∀ W, RdT w S V cS cV p p.wish W → (loadVar 3 ⟨w.heap.size + 2, 16 + q, none⟩).run Try.prog W = .ok (.int .i64 (nth (pad p.vec) q)) W := fun W hW => load3 (hW.setAt hq16).2
            have L110 : ∀ W, RdT w S V cS cV p p.wish W → (loadVar 3 ⟨w.heap.size, 1, none⟩).run Try.prog W = .ok (.int .i64 p.cid) W := fun W hW => load3 hW.cells.1
            have L116 : ∀ W, RdT w S V cS cV p p.wish W → (loadVar 29 ⟨w.heap.size, 4, none⟩).run Try.prog W = .ok (.agg (vidC p.prev)) W := fun W hW => load29 hW.cells.2.2.2.1 hW.cells.2.2.2.2.1 hW.cells.2.2.2.2.2.1 hW.cells.2.2.2.2.2.2
            replace L97 := Lib.hid L97
            replace L101 := Lib.hid L101
            replace L108 := Lib.hid L108
            replace L110 := Lib.hid L110
            replace L116 := Lib.hid L116
            replace hd8 := Lib.hid hd8
            have hgood : p.goodB q inc s.n = (decide (nth (pad p.set) q = inc) && decide (nth (pad p.vec) q = p.cid) && validB p.prev s.n) := by
              unfold Pr.goodB; rw [hp1, hp2, hnum.out, hvB.out]; simp only [Bool.true_and]
            have hrun : ∀ (good : Bool) (W : World), p.goodB q inc s.n = good → RdT w S V cS cV p p.wish W → ∀ w9, Hid (w9 = W.setCells (w.heap.size + 1) 0 (wishL p.wish)) → RdT w S V cS cV p p.wish w9 ∧ (loadVar 96 ⟨w.heap.size + 1, 0, none⟩).run Try.prog w9 = .ok (.agg (wishA p.wish)) w9 ∧ Below w.heap.size w w9 := fun good W _ hW w9 h9 => by
              obtain ⟨r1, r2⟩ := hW.ret h9.out
              exact ⟨by rw [h9.out]; exact hW.out1 _, r1, r2⟩
            replace hrun := Lib.hid hrun
            replace hgood := Lib.hid hgood
            refine wp_region_ord [([0, 1, 2, 3, 4, 5, 6, 7, 8, 9, 10, 11, 12, 13, 14, 15, 16, 17, 18, 19], 20), ([21], 22)] [23] (RdT w S V cS cV p p.wish) rfl (by kernel_rfl) rfl hd8.out ?_
            refine WO.seg rfl ?_ hd8.out
            simp only [picks, pick, List.cons_append, List.nil_append, List.append_nil]
            by_cases g1 : nth (pad p.set) q = inc
            · have g1' : (nth (pad p.set) q == inc) = true := by simp [g1]
              by_cases g2 : nth (pad p.vec) q = p.cid
              · have g2' : (nth (pad p.vec) q == p.cid) = true := by simp [g2]
                have hg := Lib.hid (show p.goodB q inc s.n = validB p.prev s.n by rw [hgood.out]; simp [g1, g2])
                replace g1 := Lib.hid g1
                replace g2 := Lib.hid g2
                repeat (first
                  | go_big_quiet_skip
                  | (refine wpQuiet_loadC (by rfl) 96 (.tmp 10) rfl (w.heap.size + 2) 0 (by rfl) _ L97.out ?_; go_simp)
                  | (refine wpQuiet_loadC (by rfl) 3 (.tmp 100) rfl (w.heap.size + 2) q (by rfl) _ L101.out ?_; go_simp)
                  | (refine wpQuiet_loadC (by rfl) 3 (.tmp 107) rfl (w.heap.size + 2) (16 + q) (by rfl) _ L108.out ?_; go_simp)
                  | (refine wpQuiet_loadC (by rfl) 3 (.tmp 109) rfl w.heap.size 1 (by rfl) _ L110.out ?_; go_simp)
                  | (refine wpQuiet_loadC (by rfl) 29 (.tmp 115) rfl w.heap.size 4 (by rfl) _ L116.out ?_; go_simp)
                  | go_big_quiet_step (fail))
                refine wpQuiet_nil ?_
                intro K hK
                go_simp
                go_at_call 67
                refine (valid_any b s M cM p.prev _ (h.out.same (hd8.out.facts.1.block b hb)) (Nat.lt_of_lt_of_le hb hd8.out.facts.1.size)).mono ?_
                rintro e w8' ⟨rfl, hb8⟩
                have hd9 := hd8.out.below hb8
                go_wp2_with fail
                refine hK.out _ _ hd9 ?_
                clear hK K
                refine WO.seg rfl ?_ hd9
                simp only [picks, pick, List.cons_append, List.nil_append, List.append_nil]
                repeat go_big_quiet_step (fail)
                refine wpQuiet_nil ?_
                intro K hK
                rw [if_pos (by rfl)]
                refine wp_store96 (.tmp 8) (.tmp 97) rfl rfl (w.heap.size + 1) 0 (by rfl) p.wish (by rfl) hd9.out h8.out.var.len ?_
                intro w9 hw9
                obtain ⟨h9, r1, r2⟩ := hrun.out _ _ hg.out hd9 w9 hw9
                refine hK.out _ _ h9 ?_
                clear hK K
                refine WO.end_ ?_
                simp only [picks, pick, List.cons_append, List.nil_append, List.append_nil]
                repeat go_big_quiet_step (fail)
                refine wpQuiet_nil ?_
                clear hC
                go_wp2
                exact bodyPost_ret (res_cell_tmp (p := 8) (u := 9) (ty := 96) rfl rfl r1) rfl ⟨⟨_, by rw [hg.out]; rfl, h8.out.var.len, fun _ => rfl⟩, r2⟩
              · have g2' : (nth (pad p.vec) q == p.cid) = false := by simp [g2]
                have hg := Lib.hid (show p.goodB q inc s.n = false by rw [hgood.out]; simp [g2])
                replace g1 := Lib.hid g1
                replace g2 := Lib.hid g2
                repeat (first
                  | go_big_quiet_skip
                  | (refine wpQuiet_loadC (by rfl) 96 (.tmp 10) rfl (w.heap.size + 2) 0 (by rfl) _ L97.out ?_; go_simp)
                  | (refine wpQuiet_loadC (by rfl) 3 (.tmp 100) rfl (w.heap.size + 2) q (by rfl) _ L101.out ?_; go_simp)
                  | (refine wpQuiet_loadC (by rfl) 3 (.tmp 107) rfl (w.heap.size + 2) (16 + q) (by rfl) _ L108.out ?_; go_simp)
                  | (refine wpQuiet_loadC (by rfl) 3 (.tmp 109) rfl w.heap.size 1 (by rfl) _ L110.out ?_; go_simp)
                  | (refine wpQuiet_loadC (by rfl) 29 (.tmp 115) rfl w.heap.size 4 (by rfl) _ L116.out ?_; go_simp)
                  | go_big_quiet_step (fail))
                refine wpQuiet_nil ?_
                intro K hK
                go_simp
                refine hK.out _ _ hd8.out ?_
                clear hK K
                refine WO.seg rfl ?_ hd8.out
                simp only [picks, pick, List.cons_append, List.nil_append, List.append_nil]
                repeat go_big_quiet_step (fail)
                refine wpQuiet_nil ?_
                intro K hK
                rw [if_pos (by rfl)]
                refine wp_store96 (.tmp 8) (.tmp 97) rfl rfl (w.heap.size + 1) 0 (by rfl) p.wish (by rfl) hd8.out.out h8.out.var.len ?_
                intro w9 hw9
                obtain ⟨h9, r1, r2⟩ := hrun.out _ _ hg.out hd8.out w9 hw9
                refine hK.out _ _ h9 ?_
                clear hK K
                refine WO.end_ ?_
                simp only [picks, pick, List.cons_append, List.nil_append, List.append_nil]
                repeat go_big_quiet_step (fail)
                refine wpQuiet_nil ?_
                clear hC
                go_wp2
                exact bodyPost_ret (res_cell_tmp (p := 8) (u := 9) (ty := 96) rfl rfl r1) rfl ⟨⟨_, by rw [hg.out]; rfl, h8.out.var.len, fun e => Bool.noConfusion (hg.out.symm.trans e)⟩, r2⟩
            · have g1' : (nth (pad p.set) q == inc) = false := by simp [g1]
              have hg := Lib.hid (show p.goodB q inc s.n = false by rw [hgood.out]; simp [g1])
              replace g1 := Lib.hid g1
              repeat (first
                | go_big_quiet_skip
                | (refine wpQuiet_loadC (by rfl) 96 (.tmp 10) rfl (w.heap.size + 2) 0 (by rfl) _ L97.out ?_; go_simp)
                | (refine wpQuiet_loadC (by rfl) 3 (.tmp 100) rfl (w.heap.size + 2) q (by rfl) _ L101.out ?_; go_simp)
                | (refine wpQuiet_loadC (by rfl) 3 (.tmp 107) rfl (w.heap.size + 2) (16 + q) (by rfl) _ L108.out ?_; go_simp)
                | (refine wpQuiet_loadC (by rfl) 3 (.tmp 109) rfl w.heap.size 1 (by rfl) _ L110.out ?_; go_simp)
                | (refine wpQuiet_loadC (by rfl) 29 (.tmp 115) rfl w.heap.size 4 (by rfl) _ L116.out ?_; go_simp)
                | go_big_quiet_step (fail))
              refine wpQuiet_nil ?_
              intro K hK
              go_simp
              refine hK.out _ _ hd8.out ?_
              clear hK K
              refine WO.seg rfl ?_ hd8.out
              simp only [picks, pick, List.cons_append, List.nil_append, List.append_nil]
              repeat go_big_quiet_step (fail)
              refine wpQuiet_nil ?_
              intro K hK
              rw [if_pos (by rfl)]
              refine wp_store96 (.tmp 8) (.tmp 97) rfl rfl (w.heap.size + 1) 0 (by rfl) p.wish (by rfl) hd8.out.out h8.out.var.len ?_
              intro w9 hw9
              obtain ⟨h9, r1, r2⟩ := hrun.out _ _ hg.out hd8.out w9 hw9
              refine hK.out _ _ h9 ?_
              clear hK K
              refine WO.end_ ?_
              simp only [picks, pick, List.cons_append, List.nil_append, List.append_nil]
              repeat go_big_quiet_step (fail)
              refine wpQuiet_nil ?_
              clear hC
              go_wp2
              exact bodyPost_ret (res_cell_tmp (p := 8) (u := 9) (ty := 96) rfl rfl r1) rfl ⟨⟨_, by rw [hg.out]; rfl, h8.out.var.len, fun e => Bool.noConfusion (hg.out.symm.trans e)⟩, r2⟩
      all_goals
        obtain hg : p.goodB q inc s.n = false := hnB.resolve_left (by omega)
        replace hg := Lib.hid hg
        clear hnB
        go_wp2_with (first
          | (refine wpList_load96 rfl (.tmp 10) rfl (w.heap.size + 2) 0 (by rfl) _ h8.out.var.rng h8.out.var.len ?_)
          | (refine wpList_store96 rfl (.tmp 8) (.tmp 79) rfl (w.heap.size + 1) 0 (by rfl) _ (by rfl) h8.out.out h8.out.var.len ?_; intro w9 hw9)
          | fail)
        obtain ⟨r1, r2⟩ := h8.out.ret hw9.out
        exact bodyPost_ret (res_cell_tmp (p := 8) (u := 9) (ty := 96) rfl rfl r1) rfl ⟨⟨_, by rw [hg.out]; rfl, h8.out.var.len, fun e => Bool.noConfusion (hg.out.symm.trans e)⟩, r2⟩
end Go.Proofs.Ytfbeggdbjpmppaa
namespace Go.Proofs.Ytfbeggdbjpmppaa
open Go.RowKit
theorem nth_pad_over {l : List Int} {q : Nat} (h : l.length ≤ q) : nth (pad l) q = 0 := by
  unfold nth pad
  rw [List.getElem?_append_right h, List.getElem?_replicate]
  split <;> rfl
end Go.Proofs.Ytfbeggdbjpmppaa
namespace Go.Proofs.Ytfbeggdbjpmppaa
open Go.RowKit
section
variable {ops : Array Oper} {S : World → Prop} {Q : Act → Prop} {a : Act} {o : Oper} {rest : List Oper}
end
section
variable {P : Program} (w : World)
end
section
variable {w w' : World} {b : Nat} {F F' : List Nat} {s t : St} {hs hs' : List HdR} {X : Ptrs}
end
theorem lt_some {s : St} {H : List Hd} (r : Rep s H) {q : Nat} (hq : q < 16) {j : Nat} {x : Hd} (hn : late H q = some j) (hx : H[j]? = some x) : (s.lt q).inc = x.inc ∧ (s.lt q).w.rev = x.p.rev := by rw [r.yes q hq j x hn hx]; exact ⟨rfl, rfl⟩
end Go.Proofs.Ytfbeggdbjpmppaa
namespace Go.Proofs.Ytfbeggdbjpmppaa
open Go.RowKit
set_option maxRecDepth 100000 in
set_option maxHeartbeats 4000000 in
theorem take_bad (b : Nat) (s : St) (M : Option Addr) (cM : Nat) (S V : Option Addr) (cS cV : Nat) (p : Pr) (q inc : Int) (w : World) (h : AgAt w b s M cM) (hb : b < w.heap.size) (hc : q < 0 ∨ (s.n : Int) ≤ q ∨ q = s.self ∨ inc < 1 ∨ 4611686018427387904 < inc) :
    Calls Try.prog 36 #[.pointer (some ⟨b, 0, none⟩), .int .i64 q, .int .i64 inc, .agg (prA S V cS cV p)] w fun x w' => x = .returned (.tuple #[.bool false, .int .i64 1]) ∧ Left w w' b s M cM := by
  have hb1 : Below w.heap.size w (w.alloc (.cells (prA S V cS cV p) 31)) := (Below.refl _ _).alloc (Nat.le_refl _) _
  have q0 := h.n
  have q1 := h.self
  replace h := Lib.hid h
  replace hb1 := Lib.hid hb1
  have hc' : q < 0 ∨ (0 ≤ q ∧ (s.n : Int) ≤ q) ∨ (0 ≤ q ∧ q < s.n ∧ q = s.self) ∨ (0 ≤ q ∧ q < s.n ∧ q ≠ s.self ∧ inc < 1) ∨ (0 ≤ q ∧ q < s.n ∧ q ≠ s.self ∧ 1 ≤ inc ∧ 4611686018427387904 < inc) := by omega
  clear hc
  rcases hc' with h1 | ⟨h1, h2⟩ | ⟨h1, h2, h3⟩ | ⟨h1, h2, h3, h4⟩ | ⟨h1, h2, h3, h4, h5⟩
  · go_enter Try.func36, Try.ntmps36
    go_wp2
    go_ret2
    exact ⟨rfl, Left.below h.out hb hb1.out⟩
  · go_enter Try.func36, Try.ntmps36
    go_wp2
    go_ret2
    exact ⟨rfl, Left.below h.out hb hb1.out⟩
  · have b3 : (q == (s.self : Int)) = true := by simp [h3]
    replace h3 := Lib.hid h3
    go_enter Try.func36, Try.ntmps36
    go_wp2
    go_ret2
    exact ⟨rfl, Left.below h.out hb hb1.out⟩
  · have b3 : (q == (s.self : Int)) = false := by simp [h3]
    replace h3 := Lib.hid h3
    go_enter Try.func36, Try.ntmps36
    go_wp2
    go_ret2
    exact ⟨rfl, Left.below h.out hb hb1.out⟩
  · have b3 : (q == (s.self : Int)) = false := by simp [h3]
    replace h3 := Lib.hid h3
    go_enter Try.func36, Try.ntmps36
    go_wp2
    go_ret2
    exact ⟨rfl, Left.below h.out hb hb1.out⟩
set_option maxRecDepth 100000 in
set_option maxHeartbeats 4000000 in
theorem take_unfit (b : Nat) (s : St) (M : Option Addr) (cM : Nat) (S V : Option Addr) (cS cV N : Nat) (p : Pr) (q : Nat) (inc : Int) (w : World) (h : AgAt w b s M cM) (hb : b < w.heap.size) (hI : Inv s) (hq : q < s.n) (hs : q ≠ s.self) (hi1 : 1 ≤ inc) (hi2 : inc ≤ 4611686018427387904)
    (hN : N ≤ w.heap.size) (hS : RowAt w N 1 eInt S p.set) (hV : RowAt w N 1 eInt V p.vec) (hl1 : p.set.length ≤ 9223372036854775807) (hl2 : p.vec.length ≤ 9223372036854775807) (hg : p.goodB q inc s.n = false) :
    Calls Try.prog 36 #[.pointer (some ⟨b, 0, none⟩), .int .i64 q, .int .i64 inc, .agg (prA S V cS cV p)] w fun x w' => x = .returned (.tuple #[.bool false, .int .i64 60]) ∧ Left w w' b s M cM := by
  have hb0 : Below w.heap.size w (w.alloc (.cells (prA S V cS cV p) 31)) := (Below.refl _ _).alloc (Nat.le_refl _) _
  have z0 : (w.alloc (.cells (prA S V cS cV p) 31)).heap.size = w.heap.size + 1 := World.size_alloc _ _
  have h0 := Lib.hid (h.same (hb0.block b hb))
  have q0 := h.n
  have q1 := h.self
  have hn := hI.n2
  have rS := Lib.hid (hS.below hb0 hN)
  have rV := Lib.hid (hV.below hb0 hN)
  have b3 : ((q : Int) == (s.self : Int)) = false := by simp; omega
  replace h := Lib.hid h
  replace hb0 := Lib.hid hb0
  replace hI := Lib.hid hI
  replace hg := Lib.hid hg
  replace z0 := Lib.hid z0
  clear hS hV
  go_enter Try.func36, Try.ntmps36
  go_wp2_with (first
    | (go_at_call 52
       refine (read_any b s M cM S V cS cV N p q inc _ (by exact h0.out) (by rw [z0.out]; omega) hn hq (by rw [z0.out]; omega) (by exact rS.out) (by exact rV.out) hl1 hl2).mono ?_
       rintro e w1 ⟨⟨t, rfl, hwl, -⟩, hb1⟩
       rw [hg.out]
       rw [z0.out] at hb1
       have z1 := hb1.size
       rw [z0.out] at z1
       have b1 := Lib.hid (hb0.out.trans (hb1.mono (Nat.le_succ _)))
       replace hwl := Lib.hid hwl
       clear q0 q1)
    | (refine wpList_alloc96 rfl rfl ?_)
    | (refine wpList_store96 rfl (.tmp 10) (.tmp 46) rfl w1.heap.size 0 (by rfl) t (by rfl) (there_new96 _ _ wlen_zero) hwl.out ?_
       intro w2 hw2)
    | fail)
  go_ret2
  exact ⟨rfl, Left.below h.out hb (by rw [hw2.out]; exact below_sets (b1.out.alloc (by omega) _) (by omega) _ _ (by simp; omega))⟩
end Go.Proofs.Ytfbeggdbjpmppaa
namespace Go.Proofs.Ytfbeggdbjpmppaa
open Go.RowKit
structure TkR (w0 : World) (b : Nat) (s : St) (M : Option Addr) (cM v o : Nat) (t : Wish) (l : Lt) (w : World) : Prop where
  at_ : AgAt w b s M cM
  new : WVar w v t
  old : LVar w o l
  grown : w0.grownBy w (some b)
  v0 : w0.heap.size ≤ v
  o0 : w0.heap.size ≤ o
  vw : v < w.heap.size
  ow : o < w.heap.size
section
variable {w0 w w' : World} {b : Nat} {s : St} {M : Option Addr} {cM v o : Nat} {t : Wish} {l : Lt}
theorem TkR.below (h : TkR w0 b s M cM v o t l w) (hb : b < w0.heap.size) (hw : Below w.heap.size w w') : TkR w0 b s M cM v o t l w' :=
  ⟨h.at_.same (hw.block b (by have := h.v0; have := h.vw; omega)), h.new.below hw h.vw, h.old.below hw h.ow, h.grown.trans (World.grownBy.but (grown_below hw) _), h.v0, h.o0, Nat.lt_of_lt_of_le h.vw hw.size, Nat.lt_of_lt_of_le h.ow hw.size⟩
theorem TkR.put (h : TkR w0 b s M cM v o t l w) (hb : b < w0.heap.size) {s' : St} (ha : AgAt w' b s' M cM) (hg : w.grownBy w' (some b)) : TkR w0 b s' M cM v o t l w' :=
  ⟨ha, h.new.same (hg.block v h.vw (by intro e; injection e with e; have := h.v0; omega)), h.old.same (hg.block o h.ow (by intro e; injection e with e; have := h.o0; omega)), h.grown.trans hg, h.v0, h.o0, Nat.lt_of_lt_of_le h.vw hg.size, Nat.lt_of_lt_of_le h.ow hg.size⟩
end
set_option maxRecDepth 100000 in
set_option maxHeartbeats 2000000 in
theorem take_old (b : Nat) (s : St) (M : Option Addr) (cM : Nat) (S V : Option Addr) (cS cV N : Nat) (p : Pr) (q : Nat) (inc : Int) (w : World) (h : AgAt w b s M cM) (hb : b < w.heap.size) (hI : Inv s) (hq : q < s.n) (hs : q ≠ s.self) (hi1 : 1 ≤ inc) (hi2 : inc ≤ 4611686018427387904)
    (hN : N ≤ w.heap.size) (hS : RowAt w N 1 eInt S p.set) (hV : RowAt w N 1 eInt V p.vec) (hl1 : p.set.length ≤ 9223372036854775807) (hl2 : p.vec.length ≤ 9223372036854775807) (hg : p.goodB q inc s.n = true) (hM : ∀ W, w.grownBy W (some b) → RowAt W W.heap.size 3 eMb M s.mem) (hml : s.mem.length ≤ 16) (c1 : inc < (s.lt q).inc) :
    Calls Try.prog 36 #[.pointer (some ⟨b, 0, none⟩), .int .i64 q, .int .i64 inc, .agg (prA S V cS cV p)] w fun x w' => x = .returned (.tuple #[.bool (s.take q inc p).1, .int .i64 (s.take q inc p).2.1]) ∧ Left w w' b (s.take q inc p).2.2 M cM := by
  have hb0 : Below w.heap.size w (w.alloc (.cells (prA S V cS cV p) 31)) := (Below.refl _ _).alloc (Nat.le_refl _) _
  have z0 : (w.alloc (.cells (prA S V cS cV p) 31)).heap.size = w.heap.size + 1 := World.size_alloc _ _
  have h0 := Lib.hid (h.same (hb0.block b hb))
  have q0 := h.n
  have q1 := h.self
  have hn := hI.n2
  have hq16 : q < 16 := by omega
  have hol : WLen (s.lt q).w := ⟨h.l3 q hq16, h.l4 q hq16⟩
  have rS := Lib.hid (hS.below hb0 hN)
  have rV := Lib.hid (hV.below hb0 hN)
  have b3 : ((q : Int) == (s.self : Int)) = false := by simp; omega
  have hargs : ¬ ((q : Int) < 0 ∨ (s.n : Int) ≤ q ∨ (q : Int) = s.self ∨ inc < 1 ∨ 4611686018427387904 < inc) := by omega
  have htk : s.take q inc p = if inc < (s.lt q).inc then (false, 50, s) else if (s.lt q).inc = inc ∧ p.rev ≤ (s.lt q).w.rev then (false, 51, s) else
      (if s.opn then
        if (s.put q inc p.wish).heard = (s.put q inc p.wish).own.vec then (false, 0, s.put q inc p.wish)
        else if (s.put q inc p.wish).own.rev < 4611686018427387904 then (false, 0, { (s.put q inc p.wish) with own := { (s.put q inc p.wish).own with vec := (s.put q inc p.wish).heard, rev := (s.put q inc p.wish).own.rev + 1 } })
        else (false, 3, s)
      else if leavesB (s.put q inc p.wish).mem q inc p.cid = false then (false, 0, s.put q inc p.wish)
      else if (s.put q inc p.wish).spent then (false, 3, s)
      else (true, 0, (s.put q inc p.wish).begin_ (s.put q inc p.wish).own.set)) := by
    unfold St.take
    rw [if_neg hargs, if_neg (by rw [Int.toNat_natCast, hg]; decide)]
    rfl
  replace htk := Lib.hid htk
  have hgw := Lib.hid (good_wish hI.n2 hg)
  replace h := Lib.hid h
  replace hb0 := Lib.hid hb0
  replace hI := Lib.hid hI
  replace hg := Lib.hid hg
  replace z0 := Lib.hid z0
  replace hM := Lib.hid hM
  clear hS hV hargs
  have hans := Lib.hid (show s.take q inc p = (false, 50, s) by rw [htk.out, if_pos c1])
  have d1 : decide (inc < (s.lt q).inc) = true := decide_eq_true c1
  replace c1 := Lib.hid c1
  go_enter Try.func36, Try.ntmps36
  go_wp2_with (first
    | (go_at_call 52
       refine (read_any b s M cM S V cS cV N p q inc _ (by exact h0.out) (by rw [z0.out]; omega) hn hq (by rw [z0.out]; omega) (by exact rS.out) (by exact rV.out) hl1 hl2).mono ?_
       rintro e w1 ⟨⟨t, rfl, hwl, hgt⟩, hb1⟩
       rw [hg.out]
       obtain rfl := hgt hg.out
       rw [z0.out] at hb1
       have z1 := hb1.size
       rw [z0.out] at z1
       have b1 := Lib.hid (hb0.out.trans (hb1.mono (Nat.le_succ _)))
       replace hwl := Lib.hid hwl
       clear q0 q1 hgt)
    | (refine wpList_alloc96 rfl rfl ?_)
    | (refine wpList_store96 rfl (.tmp 10) (.tmp 46) rfl w1.heap.size 0 (by rfl) p.wish (by rfl) (there_new96 _ _ wlen_zero) hwl.out ?_
       intro w2 hw2
       have z2 : w2.heap.size = w1.heap.size + 1 := by rw [hw2.out, size_sets, World.size_alloc]
       have v2 : WVar w2 w1.heap.size p.wish := by rw [hw2.out]; exact (WVar.new w1 Wish.zero wlen_zero).put hwl.out
       have b2 : Below w.heap.size w w2 := by rw [hw2.out]; exact below_sets (b1.out.alloc (by omega) _) (by omega) _ _ (by simp; omega)
       have h2 := h.out.same (b2.block b hb)
       replace v2 := Lib.hid v2
       replace b2 := Lib.hid b2
       replace h2 := Lib.hid h2
       replace z2 := Lib.hid z2)
    | (refine wpList_load98 rfl (.tmp 54) rfl b (43 + q * 40) (by rfl) (s.lt q) (h2.out.other hq16) hol ?_)
    | (refine wpList_alloc98 rfl rfl ?_)
    | (refine wpList_store98 rfl (.tmp 12) (.tmp 55) rfl w2.heap.size 0 (by rfl) (s.lt q) (by rfl) (there_new98 _ _ wlen_zero) hol ?_
       intro w3 hw3
       have hT : TkR w b s M cM w1.heap.size w2.heap.size p.wish (s.lt q) w3 := by
         have z2' := z2.out
         have b23 : Below w2.heap.size w2 w3 := by rw [hw3.out]; exact below_sets ((Below.refl _ _).alloc (Nat.le_refl _) _) (Nat.le_refl _) _ _ (by simp)
         have z3 : w3.heap.size = w2.heap.size + 1 := by rw [hw3.out, size_sets, World.size_alloc]
         refine ⟨h2.out.same (b23.block b (by omega)), v2.out.below b23 (by omega), by rw [hw3.out]; exact LVar.put (there_new98 _ _ wlen_zero) hol, (World.grownBy.but (grown_below b2.out) _).trans (World.grownBy.but (grown_below b23) _), by omega, by omega, by omega, by omega⟩
       have k1 : w3.cell? ⟨w2.heap.size, 0, none⟩ = some (.int .i64 (s.lt q).inc) := (lt_parts.1 hT.old.rng).1
       have k2 : w3.cell? ⟨w2.heap.size, 34, none⟩ = some (.int .i64 (s.lt q).w.rev) := ((wish_parts hol.l1 hol.l2).1 (lt_parts.1 hT.old.rng).2).2.2.2.1
       have k3 : w3.cell? ⟨w1.heap.size, 33, none⟩ = some (.int .i64 p.rev) := hT.new.cells.2.2.2.1
       replace hT := Lib.hid hT)
    | fail)
  go_ret2
  exact ⟨by rw [hans.out]; rfl, by rw [hans.out]; exact ⟨hT.out.at_, hT.out.grown⟩⟩
set_option maxRecDepth 100000 in
set_option maxHeartbeats 2000000 in
theorem take_stale (b : Nat) (s : St) (M : Option Addr) (cM : Nat) (S V : Option Addr) (cS cV N : Nat) (p : Pr) (q : Nat) (inc : Int) (w : World) (h : AgAt w b s M cM) (hb : b < w.heap.size) (hI : Inv s) (hq : q < s.n) (hs : q ≠ s.self) (hi1 : 1 ≤ inc) (hi2 : inc ≤ 4611686018427387904)
    (hN : N ≤ w.heap.size) (hS : RowAt w N 1 eInt S p.set) (hV : RowAt w N 1 eInt V p.vec) (hl1 : p.set.length ≤ 9223372036854775807) (hl2 : p.vec.length ≤ 9223372036854775807) (hg : p.goodB q inc s.n = true) (hM : ∀ W, w.grownBy W (some b) → RowAt W W.heap.size 3 eMb M s.mem) (hml : s.mem.length ≤ 16) (c1 : ¬ inc < (s.lt q).inc) (c2 : (s.lt q).inc = inc) (c3 : p.rev ≤ (s.lt q).w.rev) :
    Calls Try.prog 36 #[.pointer (some ⟨b, 0, none⟩), .int .i64 q, .int .i64 inc, .agg (prA S V cS cV p)] w fun x w' => x = .returned (.tuple #[.bool (s.take q inc p).1, .int .i64 (s.take q inc p).2.1]) ∧ Left w w' b (s.take q inc p).2.2 M cM := by
  have hb0 : Below w.heap.size w (w.alloc (.cells (prA S V cS cV p) 31)) := (Below.refl _ _).alloc (Nat.le_refl _) _
  have z0 : (w.alloc (.cells (prA S V cS cV p) 31)).heap.size = w.heap.size + 1 := World.size_alloc _ _
  have h0 := Lib.hid (h.same (hb0.block b hb))
  have q0 := h.n
  have q1 := h.self
  have hn := hI.n2
  have hq16 : q < 16 := by omega
  have hol : WLen (s.lt q).w := ⟨h.l3 q hq16, h.l4 q hq16⟩
  have rS := Lib.hid (hS.below hb0 hN)
  have rV := Lib.hid (hV.below hb0 hN)
  have b3 : ((q : Int) == (s.self : Int)) = false := by simp; omega
  have hargs : ¬ ((q : Int) < 0 ∨ (s.n : Int) ≤ q ∨ (q : Int) = s.self ∨ inc < 1 ∨ 4611686018427387904 < inc) := by omega
  have htk : s.take q inc p = if inc < (s.lt q).inc then (false, 50, s) else if (s.lt q).inc = inc ∧ p.rev ≤ (s.lt q).w.rev then (false, 51, s) else
      (if s.opn then
        if (s.put q inc p.wish).heard = (s.put q inc p.wish).own.vec then (false, 0, s.put q inc p.wish)
        else if (s.put q inc p.wish).own.rev < 4611686018427387904 then (false, 0, { (s.put q inc p.wish) with own := { (s.put q inc p.wish).own with vec := (s.put q inc p.wish).heard, rev := (s.put q inc p.wish).own.rev + 1 } })
        else (false, 3, s)
      else if leavesB (s.put q inc p.wish).mem q inc p.cid = false then (false, 0, s.put q inc p.wish)
      else if (s.put q inc p.wish).spent then (false, 3, s)
      else (true, 0, (s.put q inc p.wish).begin_ (s.put q inc p.wish).own.set)) := by
    unfold St.take
    rw [if_neg hargs, if_neg (by rw [Int.toNat_natCast, hg]; decide)]
    rfl
  replace htk := Lib.hid htk
  have hgw := Lib.hid (good_wish hI.n2 hg)
  replace h := Lib.hid h
  replace hb0 := Lib.hid hb0
  replace hI := Lib.hid hI
  replace hg := Lib.hid hg
  replace z0 := Lib.hid z0
  replace hM := Lib.hid hM
  clear hS hV hargs
  have d1 : decide (inc < (s.lt q).inc) = false := decide_eq_false c1
  have hans := Lib.hid (show s.take q inc p = (false, 51, s) by rw [htk.out, if_neg c1, if_pos ⟨c2, c3⟩])
  have d2 : ((s.lt q).inc == inc) = true := by simp [c2]
  have d3 : decide (p.rev ≤ (s.lt q).w.rev) = true := decide_eq_true c3
  replace c2 := Lib.hid c2
  go_enter Try.func36, Try.ntmps36
  go_wp2_with (first
    | (go_at_call 52
       refine (read_any b s M cM S V cS cV N p q inc _ (by exact h0.out) (by rw [z0.out]; omega) hn hq (by rw [z0.out]; omega) (by exact rS.out) (by exact rV.out) hl1 hl2).mono ?_
       rintro e w1 ⟨⟨t, rfl, hwl, hgt⟩, hb1⟩
       rw [hg.out]
       obtain rfl := hgt hg.out
       rw [z0.out] at hb1
       have z1 := hb1.size
       rw [z0.out] at z1
       have b1 := Lib.hid (hb0.out.trans (hb1.mono (Nat.le_succ _)))
       replace hwl := Lib.hid hwl
       clear q0 q1 hgt)
    | (refine wpList_alloc96 rfl rfl ?_)
    | (refine wpList_store96 rfl (.tmp 10) (.tmp 46) rfl w1.heap.size 0 (by rfl) p.wish (by rfl) (there_new96 _ _ wlen_zero) hwl.out ?_
       intro w2 hw2
       have z2 : w2.heap.size = w1.heap.size + 1 := by rw [hw2.out, size_sets, World.size_alloc]
       have v2 : WVar w2 w1.heap.size p.wish := by rw [hw2.out]; exact (WVar.new w1 Wish.zero wlen_zero).put hwl.out
       have b2 : Below w.heap.size w w2 := by rw [hw2.out]; exact below_sets (b1.out.alloc (by omega) _) (by omega) _ _ (by simp; omega)
       have h2 := h.out.same (b2.block b hb)
       replace v2 := Lib.hid v2
       replace b2 := Lib.hid b2
       replace h2 := Lib.hid h2
       replace z2 := Lib.hid z2)
    | (refine wpList_load98 rfl (.tmp 54) rfl b (43 + q * 40) (by rfl) (s.lt q) (h2.out.other hq16) hol ?_)
    | (refine wpList_alloc98 rfl rfl ?_)
    | (refine wpList_store98 rfl (.tmp 12) (.tmp 55) rfl w2.heap.size 0 (by rfl) (s.lt q) (by rfl) (there_new98 _ _ wlen_zero) hol ?_
       intro w3 hw3
       have hT : TkR w b s M cM w1.heap.size w2.heap.size p.wish (s.lt q) w3 := by
         have z2' := z2.out
         have b23 : Below w2.heap.size w2 w3 := by rw [hw3.out]; exact below_sets ((Below.refl _ _).alloc (Nat.le_refl _) _) (Nat.le_refl _) _ _ (by simp)
         have z3 : w3.heap.size = w2.heap.size + 1 := by rw [hw3.out, size_sets, World.size_alloc]
         refine ⟨h2.out.same (b23.block b (by omega)), v2.out.below b23 (by omega), by rw [hw3.out]; exact LVar.put (there_new98 _ _ wlen_zero) hol, (World.grownBy.but (grown_below b2.out) _).trans (World.grownBy.but (grown_below b23) _), by omega, by omega, by omega, by omega⟩
       have k1 : w3.cell? ⟨w2.heap.size, 0, none⟩ = some (.int .i64 (s.lt q).inc) := (lt_parts.1 hT.old.rng).1
       have k2 : w3.cell? ⟨w2.heap.size, 34, none⟩ = some (.int .i64 (s.lt q).w.rev) := ((wish_parts hol.l1 hol.l2).1 (lt_parts.1 hT.old.rng).2).2.2.2.1
       have k3 : w3.cell? ⟨w1.heap.size, 33, none⟩ = some (.int .i64 p.rev) := hT.new.cells.2.2.2.1
       replace hT := Lib.hid hT)
    | fail)
  go_ret2
  exact ⟨by rw [hans.out]; rfl, by rw [hans.out]; exact ⟨hT.out.at_, hT.out.grown⟩⟩
end Go.Proofs.Ytfbeggdbjpmppaa
