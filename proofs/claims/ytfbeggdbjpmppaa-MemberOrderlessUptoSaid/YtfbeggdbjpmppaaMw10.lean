/- REst, joined. -/
import Derived.Test.YtfbeggdbjpmppaaMw9
set_option linter.unusedVariables false
set_option linter.unusedSimpArgs false
/- The document's Estimate. -/
namespace Go.Proofs.Ytfbeggdbjpmppaa
open Go.RowKit
theorem counts_any' (A : Option Addr) (cA N : Nat) (l : List Int) (m n : Nat) (w : World) (hm : l.length = m) (hN : N ≤ w.heap.size) (hA : RowAt w N 1 eInt A l) (hl : m ≤ 9223372036854775807) (hn : n ≤ 16) :
    Calls Try.prog 69 #[.slice A m cA, .int .i64 n] w fun x w' => x = .returned (.bool (packB l n)) ∧ Below w.heap.size w w' := by
  subst hm
  exact counts_any A cA N l n w hN hA hl hn
theorem equal_two (A B : Option Addr) (cA cB N : Nat) (l m : List Int) (k n : Nat) (w : World) (hk : l.length = k) (hm : m.length = n) (hN : N ≤ w.heap.size) (hA : RowAt w N 1 eInt A l) (hB : RowAt w N 1 eInt B m) (hl : k ≤ 9223372036854775807) (hn : n ≤ 1000000) :
    Calls Try.prog 70 #[.slice A k cA, .slice B n cB] w fun x w' => x = .returned (.bool (decide (l = m))) ∧ Below w.heap.size w w' := by
  subst hk
  exact equal_any' A B cA cB N l m n w hN hA hB hm hl hn
theorem prVar_set (w : World) (b : Nat) (S : Option Addr) (n cS : Nat) (V : Option Addr) (cV : Nat) (o : Wish) : w.setCells b 9 (prV S n cS V n cV (o.pr n)).toList = w.setCells b 9 [.slice S n cS, .int .i64 o.cid, .int .i64 o.rev, .int .i64 o.top, .int .i64 o.prev.e, .int .i64 o.prev.l, .int .i64 o.prev.i, .int .i64 o.prev.c, .slice V n cV] := rfl
theorem same_set {s : St} (hR : RInv s) (hI : Inv s) {l : List Int} (hl : l.length = s.n) : pad l = s.own.set ↔ l = s.own.set.take s.n := by
  rw [hR.set]
  have := hI.n2
  have e : (s.own.set.take s.n).length = s.n := len_take16 hI.own.set hI.n2
  rw [pad_inj (by rw [hl, e]), take_pad e]
set_option maxRecDepth 100000 in
set_option maxHeartbeats 1000000 in
theorem rest_a (b : Nat) (F : List Nat) (s : St) (hs : List HdR) (X : Ptrs) (A : Option Addr) (c N m : Nat) (l : List Int) (w : World) (hm : l.length = m) (h : RefAt w b F s hs X) (hF : ∀ x ∈ F, x < w.heap.size) (hI : Inv s) (hR : RInv s) (hlen : hs.length ≤ 1000000) (hN : N ≤ w.heap.size) (hA : RowAt w N 1 eInt A l) (hl : m ≤ 9223372036854775807) (hp0 : packB l s.n = false) :
    Calls Try.prog 58 #[.pointer (some ⟨b, 0, none⟩), .slice A m c] w fun x w' => x = .returned (.tuple #[.bool (s.estimate l).1, .int .i64 (s.estimate l).2.1]) ∧ RLeft w w' b F (s.estimate l).2.2 hs.length (blk X.A) := by
  have hn := hI.n2
  have hbl := h.bl
  have hsf := hI.self
  have q0 := h.n
  have hx : ∀ W, Below w.heap.size w W → RowAt W N 1 eInt A l ∧ N ≤ W.heap.size := fun W hW => ⟨hA.below hW hN, Nat.le_trans hN hW.size⟩
  have hself : (s.self : Int) < 16 := by omega
  replace hx := Lib.hid hx
  have hans := Lib.hid (show s.estimate l = (false, 60, s) by unfold St.estimate; rw [if_pos (.inl hp0)])
  have hp := Lib.hid hp0
  clear hp0
  replace h := Lib.hid h
  replace hm := Lib.hid hm
  replace hR := Lib.hid hR
  replace hI := Lib.hid hI
  replace hF := Lib.hid hF
  go_enter Try.func58, Try.ntmps58
  go_wp2_with (first
    | (go_at_call 69
       refine (counts_any' A c N l m s.n w hm.out hN hA hl hn).mono ?_
       rintro e w1 ⟨rfl, hb1⟩
       rw [hp.out]
       clear q0
       replace hb1 := Lib.hid hb1)
    | fail)
  refine wp_region_quiet_lit (by kernel_rfl) (by kernel_rfl) ?_
  repeat (first | go_big_quiet_skip | go_big_quiet_step (fail))
  refine wpQuiet_nil ?_
  first | rintro _ ⟨nq, rfl⟩ | intro nq
  go_wp2
  go_ret2
  exact ⟨by rw [hans.out]; rfl, by rw [hans.out]; exact h.out.left (below_drewN hb1.out nq) hF.out (Nat.le_refl _)⟩
set_option maxRecDepth 100000 in
set_option maxHeartbeats 1000000 in
theorem rest_b (b : Nat) (F : List Nat) (s : St) (hs : List HdR) (X : Ptrs) (A : Option Addr) (c N m : Nat) (l : List Int) (w : World) (hm : l.length = m) (h : RefAt w b F s hs X) (hF : ∀ x ∈ F, x < w.heap.size) (hI : Inv s) (hR : RInv s) (hlen : hs.length ≤ 1000000) (hN : N ≤ w.heap.size) (hA : RowAt w N 1 eInt A l) (hl : m ≤ 9223372036854775807) (hp0 : packB l s.n = true) (hi : ¬ nth l s.self = s.inc) :
    Calls Try.prog 58 #[.pointer (some ⟨b, 0, none⟩), .slice A m c] w fun x w' => x = .returned (.tuple #[.bool (s.estimate l).1, .int .i64 (s.estimate l).2.1]) ∧ RLeft w w' b F (s.estimate l).2.2 hs.length (blk X.A) := by
  have hn := hI.n2
  have hbl := h.bl
  have hsf := hI.self
  have q0 := h.n
  have hx : ∀ W, Below w.heap.size w W → RowAt W N 1 eInt A l ∧ N ≤ W.heap.size := fun W hW => ⟨hA.below hW hN, Nat.le_trans hN hW.size⟩
  have hself : (s.self : Int) < 16 := by omega
  replace hx := Lib.hid hx
  have hp := Lib.hid hp0
  have hln : m = s.n := by rw [← hm]; exact packB_len hp0
  subst hln
  have hme : nth (pad l) s.self = nth l s.self := nth_pad' (by rw [hm]; exact hsf)
  obtain ⟨gA, oA, hAe, hgA, -⟩ := int_at' hA (k := s.self) (by omega)
  have hcell : ∀ W, Below w.heap.size w W → W.cell? ⟨gA, oA + s.self, none⟩ = some (.int .i64 (nth l s.self)) := fun W hW => by
    obtain ⟨g, o, e1, _, e3⟩ := int_at' (hA.below hW hN) (k := s.self) (by omega)
    rw [hAe] at e1; injection e1 with e1; injection e1 with e1 e2; subst e1 e2; exact e3
  replace hcell := Lib.hid hcell
  have hsI : (s.self : Int) < (s.n : Int) := by omega
  subst hAe
  clear hp0
  have b1 : (nth l s.self != s.inc) = true := by simp [hi]
  have hans := Lib.hid (show s.estimate l = (false, 60, s) by unfold St.estimate; rw [if_pos (.inr (by rw [hme]; exact hi))])
  replace hi := Lib.hid hi
  replace hme := Lib.hid hme
  replace h := Lib.hid h
  replace hm := Lib.hid hm
  replace hR := Lib.hid hR
  replace hI := Lib.hid hI
  replace hF := Lib.hid hF
  go_enter Try.func58, Try.ntmps58
  go_wp2_with (first
    | (go_at_call 69
       refine (counts_any' _ c N l s.n s.n w hm.out hN hA hl hn).mono ?_
       rintro e w1 ⟨rfl, hb1⟩
       rw [hp.out]
       clear q0
       have h1 := h.out.below hb1
       have q1 := h1.self
       have q2 := h1.inc
       have q3 := hcell.out _ hb1
       have z1 := hb1.size
       have b1' := Lib.hid hb1
       replace h1 := Lib.hid h1
       clear hb1)
    | fail)
  refine wp_region_quiet_lit (by kernel_rfl) (by kernel_rfl) ?_
  repeat (first | go_big_quiet_skip | go_big_quiet_step (fail))
  refine wpQuiet_nil ?_
  first | rintro _ ⟨nq, rfl⟩ | intro nq
  go_wp2
  go_ret2
  exact ⟨by rw [hans.out]; rfl, by rw [hans.out]; exact h.out.left (below_drewN b1'.out nq) hF.out (Nat.le_refl _)⟩
set_option maxRecDepth 100000 in
set_option maxHeartbeats 1000000 in
theorem rest_c (b : Nat) (F : List Nat) (s : St) (hs : List HdR) (X : Ptrs) (A : Option Addr) (c N m : Nat) (l : List Int) (w : World) (hm : l.length = m) (h : RefAt w b F s hs X) (hF : ∀ x ∈ F, x < w.heap.size) (hI : Inv s) (hR : RInv s) (hlen : hs.length ≤ 1000000) (hN : N ≤ w.heap.size) (hA : RowAt w N 1 eInt A l) (hl : m ≤ 9223372036854775807) (hp0 : packB l s.n = true) (hi : nth l s.self = s.inc) (he : l = s.own.set.take s.n) :
    Calls Try.prog 58 #[.pointer (some ⟨b, 0, none⟩), .slice A m c] w fun x w' => x = .returned (.tuple #[.bool (s.estimate l).1, .int .i64 (s.estimate l).2.1]) ∧ RLeft w w' b F (s.estimate l).2.2 hs.length (blk X.A) := by
  have hn := hI.n2
  have hbl := h.bl
  have hsf := hI.self
  have q0 := h.n
  have hx : ∀ W, Below w.heap.size w W → RowAt W N 1 eInt A l ∧ N ≤ W.heap.size := fun W hW => ⟨hA.below hW hN, Nat.le_trans hN hW.size⟩
  have hself : (s.self : Int) < 16 := by omega
  replace hx := Lib.hid hx
  have hp := Lib.hid hp0
  have hln : m = s.n := by rw [← hm]; exact packB_len hp0
  subst hln
  have hme : nth (pad l) s.self = nth l s.self := nth_pad' (by rw [hm]; exact hsf)
  obtain ⟨gA, oA, hAe, hgA, -⟩ := int_at' hA (k := s.self) (by omega)
  have hcell : ∀ W, Below w.heap.size w W → W.cell? ⟨gA, oA + s.self, none⟩ = some (.int .i64 (nth l s.self)) := fun W hW => by
    obtain ⟨g, o, e1, _, e3⟩ := int_at' (hA.below hW hN) (k := s.self) (by omega)
    rw [hAe] at e1; injection e1 with e1; injection e1 with e1 e2; subst e1 e2; exact e3
  replace hcell := Lib.hid hcell
  have hsI : (s.self : Int) < (s.n : Int) := by omega
  subst hAe
  clear hp0
  have b1 : (nth l s.self != s.inc) = false := by simp [hi]
  have hi' : ¬ (packB l s.n = false ∨ nth (pad l) s.self ≠ s.inc) := by
    rw [hme, hp.out]; simp [hi]
  have hans := Lib.hid (show s.estimate l = (false, 0, s) by unfold St.estimate; rw [if_neg hi', if_pos ((same_set hR hI hm).2 he)])
  have hd := Lib.hid (show decide (l = s.own.set.take s.n) = true from decide_eq_true he)
  replace he := Lib.hid he
  replace hi := Lib.hid hi
  replace hi' := Lib.hid hi'
  replace hme := Lib.hid hme
  replace h := Lib.hid h
  replace hm := Lib.hid hm
  replace hR := Lib.hid hR
  replace hI := Lib.hid hI
  replace hF := Lib.hid hF
  go_enter Try.func58, Try.ntmps58
  go_wp2_with (first
    | (go_at_call 69
       refine (counts_any' _ c N l s.n s.n w hm.out hN hA hl hn).mono ?_
       rintro e w1 ⟨rfl, hb1⟩
       rw [hp.out]
       clear q0
       have h1 := h.out.below hb1
       have q1 := h1.self
       have q2 := h1.inc
       have q3 := hcell.out _ hb1
       have z1 := hb1.size
       have b1' := Lib.hid hb1
       replace h1 := Lib.hid h1
       clear hb1)
    | fail)
  refine wp_region_quiet_lit (by kernel_rfl) (by kernel_rfl) ?_
  repeat (first | go_big_quiet_skip | go_big_quiet_step (fail))
  refine wpQuiet_nil ?_
  first | rintro _ ⟨nq, rfl⟩ | intro nq
  have b2 := below_drewN b1'.out nq
  have h2 := h.out.below b2
  have q4 := h2.set
  have z2 : (w1.drewN nq).heap.size = w1.heap.size := rfl
  clear q1 q2 q3
  replace h2 := Lib.hid h2
  replace b2 := Lib.hid b2
  go_wp2_with (first
    | (go_at_call 70
       refine (equal_two _ X.S c X.cS (w1.drewN nq).heap.size l (s.own.set.take s.n) s.n s.n (w1.drewN nq) hm.out (len_take16 hI.out.own.set hn) (Nat.le_refl _) ((hx.out _ b2.out).1.more (hx.out _ b2.out).2) h2.out.rset.row hl (by omega)).mono ?_
       rintro e w3 ⟨rfl, hb3⟩
       rw [hd.out]
       have z3 := hb3.size
       have b3 := b2.out.trans (hb3.mono (by omega))
       have h3 := h.out.below b3
       clear q4
       replace b3 := Lib.hid b3
       replace h3 := Lib.hid h3)
    | fail)
  go_wp2
  go_ret2
  exact ⟨by rw [hans.out]; rfl, by rw [hans.out]; exact h.out.left b3.out hF.out (Nat.le_refl _)⟩
set_option maxRecDepth 100000 in
set_option maxHeartbeats 1000000 in
theorem rest_d (b : Nat) (F : List Nat) (s : St) (hs : List HdR) (X : Ptrs) (A : Option Addr) (c N m : Nat) (l : List Int) (w : World) (hm : l.length = m) (h : RefAt w b F s hs X) (hF : ∀ x ∈ F, x < w.heap.size) (hI : Inv s) (hR : RInv s) (hlen : hs.length ≤ 1000000) (hN : N ≤ w.heap.size) (hA : RowAt w N 1 eInt A l) (hl : m ≤ 9223372036854775807) (hp0 : packB l s.n = true) (hi : nth l s.self = s.inc) (he : ¬ l = s.own.set.take s.n) (hsp : s.spent = true) :
    Calls Try.prog 58 #[.pointer (some ⟨b, 0, none⟩), .slice A m c] w fun x w' => x = .returned (.tuple #[.bool (s.estimate l).1, .int .i64 (s.estimate l).2.1]) ∧ RLeft w w' b F (s.estimate l).2.2 hs.length (blk X.A) := by
  have hn := hI.n2
  have hbl := h.bl
  have hsf := hI.self
  have q0 := h.n
  have hx : ∀ W, Below w.heap.size w W → RowAt W N 1 eInt A l ∧ N ≤ W.heap.size := fun W hW => ⟨hA.below hW hN, Nat.le_trans hN hW.size⟩
  have hself : (s.self : Int) < 16 := by omega
  replace hx := Lib.hid hx
  have hp := Lib.hid hp0
  have hln : m = s.n := by rw [← hm]; exact packB_len hp0
  subst hln
  have hme : nth (pad l) s.self = nth l s.self := nth_pad' (by rw [hm]; exact hsf)
  obtain ⟨gA, oA, hAe, hgA, -⟩ := int_at' hA (k := s.self) (by omega)
  have hcell : ∀ W, Below w.heap.size w W → W.cell? ⟨gA, oA + s.self, none⟩ = some (.int .i64 (nth l s.self)) := fun W hW => by
    obtain ⟨g, o, e1, _, e3⟩ := int_at' (hA.below hW hN) (k := s.self) (by omega)
    rw [hAe] at e1; injection e1 with e1; injection e1 with e1 e2; subst e1 e2; exact e3
  replace hcell := Lib.hid hcell
  have hsI : (s.self : Int) < (s.n : Int) := by omega
  subst hAe
  clear hp0
  have b1 : (nth l s.self != s.inc) = false := by simp [hi]
  have hi' : ¬ (packB l s.n = false ∨ nth (pad l) s.self ≠ s.inc) := by
    rw [hme, hp.out]; simp [hi]
  have hd := Lib.hid (show decide (l = s.own.set.take s.n) = false from decide_eq_false he)
  have he' : ¬ pad l = s.own.set := fun e => he ((same_set hR hI hm).1 e)
  replace he := Lib.hid he
  have hans := Lib.hid (show s.estimate l = (false, 3, s) by unfold St.estimate; rw [if_neg hi', if_neg he', if_pos hsp])
  replace he' := Lib.hid he'
  replace hsp := Lib.hid hsp
  replace hi := Lib.hid hi
  replace hi' := Lib.hid hi'
  replace hme := Lib.hid hme
  replace h := Lib.hid h
  replace hm := Lib.hid hm
  replace hR := Lib.hid hR
  replace hI := Lib.hid hI
  replace hF := Lib.hid hF
  go_enter Try.func58, Try.ntmps58
  go_wp2_with (first
    | (go_at_call 69
       refine (counts_any' _ c N l s.n s.n w hm.out hN hA hl hn).mono ?_
       rintro e w1 ⟨rfl, hb1⟩
       rw [hp.out]
       clear q0
       have h1 := h.out.below hb1
       have q1 := h1.self
       have q2 := h1.inc
       have q3 := hcell.out _ hb1
       have z1 := hb1.size
       have b1' := Lib.hid hb1
       replace h1 := Lib.hid h1
       clear hb1)
    | fail)
  refine wp_region_quiet_lit (by kernel_rfl) (by kernel_rfl) ?_
  repeat (first | go_big_quiet_skip | go_big_quiet_step (fail))
  refine wpQuiet_nil ?_
  first | rintro _ ⟨nq, rfl⟩ | intro nq
  have b2 := below_drewN b1'.out nq
  have h2 := h.out.below b2
  have q4 := h2.set
  have z2 : (w1.drewN nq).heap.size = w1.heap.size := rfl
  clear q1 q2 q3
  replace h2 := Lib.hid h2
  replace b2 := Lib.hid b2
  go_wp2_with (first
    | (go_at_call 70
       refine (equal_two _ X.S c X.cS (w1.drewN nq).heap.size l (s.own.set.take s.n) s.n s.n (w1.drewN nq) hm.out (len_take16 hI.out.own.set hn) (Nat.le_refl _) ((hx.out _ b2.out).1.more (hx.out _ b2.out).2) h2.out.rset.row hl (by omega)).mono ?_
       rintro e w3 ⟨rfl, hb3⟩
       rw [hd.out]
       have z3 := hb3.size
       have b3 := b2.out.trans (hb3.mono (by omega))
       have h3 := h.out.below b3
       clear q4
       replace b3 := Lib.hid b3
       replace h3 := Lib.hid h3)
    | fail)
  go_wp2_with (first
    | (go_at_call 71
       refine (rbegin_no b F s hs X _ _ _ w3 h3.out hsp.out).mono ?_
       rintro e w4 ⟨rfl, hb4⟩
       have z4 := hb4.size
       have b4 := b3.out.trans (hb4.mono (by omega))
       replace b4 := Lib.hid b4)
    | (refine wpList_store31 rfl (.tmp 8) (.tmp 44) rfl w4.heap.size 0 (by rfl) X.S s.n X.cS X.V s.n X.cV (s.own.pr s.n) (by rfl) (there_new w4 prZ 31) ?_
       intro w5 hw5)
    | fail)
  go_ret2
  exact ⟨by rw [hans.out]; rfl, by rw [hans.out]; exact h.out.left (by rw [hw5.out]; exact below_sets (b4.out.alloc (by omega) _) (by omega) _ _ (by simp; omega)) hF.out (Nat.le_refl _)⟩
set_option maxRecDepth 100000 in
set_option maxHeartbeats 1000000 in
theorem rest_e (b : Nat) (F : List Nat) (s : St) (hs : List HdR) (X : Ptrs) (A : Option Addr) (c N m : Nat) (l : List Int) (w : World) (hm : l.length = m) (h : RefAt w b F s hs X) (hF : ∀ x ∈ F, x < w.heap.size) (hI : Inv s) (hR : RInv s) (hlen : hs.length ≤ 1000000) (hN : N ≤ w.heap.size) (hA : RowAt w N 1 eInt A l) (hl : m ≤ 9223372036854775807) (hp0 : packB l s.n = true) (hi : nth l s.self = s.inc) (he : ¬ l = s.own.set.take s.n) (hsp : ¬ s.spent = true) :
    Calls Try.prog 58 #[.pointer (some ⟨b, 0, none⟩), .slice A m c] w fun x w' => x = .returned (.tuple #[.bool (s.estimate l).1, .int .i64 (s.estimate l).2.1]) ∧ RLeft w w' b F (s.estimate l).2.2 hs.length (blk X.A) := by
  have hn := hI.n2
  have hbl := h.bl
  have hsf := hI.self
  have q0 := h.n
  have hx : ∀ W, Below w.heap.size w W → RowAt W N 1 eInt A l ∧ N ≤ W.heap.size := fun W hW => ⟨hA.below hW hN, Nat.le_trans hN hW.size⟩
  have hself : (s.self : Int) < 16 := by omega
  replace hx := Lib.hid hx
  have hp := Lib.hid hp0
  have hln : m = s.n := by rw [← hm]; exact packB_len hp0
  subst hln
  have hme : nth (pad l) s.self = nth l s.self := nth_pad' (by rw [hm]; exact hsf)
  obtain ⟨gA, oA, hAe, hgA, -⟩ := int_at' hA (k := s.self) (by omega)
  have hcell : ∀ W, Below w.heap.size w W → W.cell? ⟨gA, oA + s.self, none⟩ = some (.int .i64 (nth l s.self)) := fun W hW => by
    obtain ⟨g, o, e1, _, e3⟩ := int_at' (hA.below hW hN) (k := s.self) (by omega)
    rw [hAe] at e1; injection e1 with e1; injection e1 with e1 e2; subst e1 e2; exact e3
  replace hcell := Lib.hid hcell
  have hsI : (s.self : Int) < (s.n : Int) := by omega
  subst hAe
  clear hp0
  have b1 : (nth l s.self != s.inc) = false := by simp [hi]
  have hi' : ¬ (packB l s.n = false ∨ nth (pad l) s.self ≠ s.inc) := by
    rw [hme, hp.out]; simp [hi]
  have hd := Lib.hid (show decide (l = s.own.set.take s.n) = false from decide_eq_false he)
  have he' : ¬ pad l = s.own.set := fun e => he ((same_set hR hI hm).1 e)
  replace he := Lib.hid he
  have hsp' : s.spent = false := by simpa using hsp
  have hans := Lib.hid (show s.estimate l = (true, 0, s.begin_ (pad l)) by unfold St.estimate; rw [if_neg hi', if_neg he', if_neg hsp])
  replace he' := Lib.hid he'
  replace hsp' := Lib.hid hsp'
  replace hsp := Lib.hid hsp
  replace hi := Lib.hid hi
  replace hi' := Lib.hid hi'
  replace hme := Lib.hid hme
  replace h := Lib.hid h
  replace hm := Lib.hid hm
  replace hR := Lib.hid hR
  replace hI := Lib.hid hI
  replace hF := Lib.hid hF
  go_enter Try.func58, Try.ntmps58
  go_wp2_with (first
    | (go_at_call 69
       refine (counts_any' _ c N l s.n s.n w hm.out hN hA hl hn).mono ?_
       rintro e w1 ⟨rfl, hb1⟩
       rw [hp.out]
       clear q0
       have h1 := h.out.below hb1
       have q1 := h1.self
       have q2 := h1.inc
       have q3 := hcell.out _ hb1
       have z1 := hb1.size
       have b1' := Lib.hid hb1
       replace h1 := Lib.hid h1
       clear hb1)
    | fail)
  refine wp_region_quiet_lit (by kernel_rfl) (by kernel_rfl) ?_
  repeat (first | go_big_quiet_skip | go_big_quiet_step (fail))
  refine wpQuiet_nil ?_
  first | rintro _ ⟨nq, rfl⟩ | intro nq
  have b2 := below_drewN b1'.out nq
  have h2 := h.out.below b2
  have q4 := h2.set
  have z2 : (w1.drewN nq).heap.size = w1.heap.size := rfl
  clear q1 q2 q3
  replace h2 := Lib.hid h2
  replace b2 := Lib.hid b2
  go_wp2_with (first
    | (go_at_call 70
       refine (equal_two _ X.S c X.cS (w1.drewN nq).heap.size l (s.own.set.take s.n) s.n s.n (w1.drewN nq) hm.out (len_take16 hI.out.own.set hn) (Nat.le_refl _) ((hx.out _ b2.out).1.more (hx.out _ b2.out).2) h2.out.rset.row hl (by omega)).mono ?_
       rintro e w3 ⟨rfl, hb3⟩
       rw [hd.out]
       have z3 := hb3.size
       have b3 := b2.out.trans (hb3.mono (by omega))
       have h3 := h.out.below b3
       clear q4
       replace b3 := Lib.hid b3
       replace h3 := Lib.hid h3)
    | fail)
  go_wp2_with (first
    | (go_at_call 71
       refine (rbegin_yes b F s hs X _ c N l w3 h3.out hI.out hR.out hlen hsp'.out hm.out (hx.out _ b3.out).2 (hx.out _ b3.out).1).mono ?_
       rintro e w4 ⟨S, cS, V, cV, rfl, rS, rV, hb4⟩
       have z4 := hb4.size
       have b4 := b3.out.trans (hb4.mono (by omega))
       have h4 := h.out.below b4
       replace b4 := Lib.hid b4
       replace h4 := Lib.hid h4
       replace rS := Lib.hid rS
       replace rV := Lib.hid rV)
    | (refine wpList_store31 rfl (.tmp 8) (.tmp 44) rfl w4.heap.size 0 (by rfl) S s.n cS V s.n cV ((s.begin_ (pad l)).own.pr s.n) (by rfl) (there_new w4 prZ 31) ?_
       intro w5 hw5
       have p5 : PVar w5 w4.heap.size S s.n cS V s.n cV ((s.begin_ (pad l)).own.pr s.n) := by rw [hw5.out]; exact PVar.put (there_new w4 prZ 31)
       have b45 : Below w4.heap.size w4 w5 := by rw [hw5.out]; exact below_sets ((Below.refl _ _).alloc (Nat.le_refl _) _) (Nat.le_refl _) _ _ (by simp)
       have z5 := b45.size
       have b5 := b4.out.trans (b45.mono (by omega))
       have h5 := h.out.below b5
       have rS5 := (rS.out.below b45).low (lo' := w.heap.size) (by omega)
       have rV5 := (rV.out.below b45).low (lo' := w.heap.size) (by omega)
       have t5 := World.there.at h5.there (o := 9) (m := 9) (by omega)
       replace p5 := Lib.hid p5
       replace b5 := Lib.hid b5
       replace h5 := Lib.hid h5
       replace rS5 := Lib.hid rS5
       replace rV5 := Lib.hid rV5
       replace t5 := Lib.hid t5)
    | (refine wpList_loadR rfl 31 (.tmp 8) rfl w4.heap.size 0 (by rfl) _ (by exact p5.out.load) ?_)
    | (refine wpList_store31 rfl (.tmp 51) (.tmp 49) rfl b 9 (by rfl) S s.n cS V s.n cV ((s.begin_ (pad l)).own.pr s.n) (by rfl) t5.out ?_
       intro w6 hw6
       have h6 := h5.out.setOwn (s.begin_ (pad l)).own S cS V cV (rS5.out.away hF.out |> fun r => by rw [show (s.begin_ (pad l)).own.set = pad l from rfl, take_pad hm.out]; exact r) (rV5.out.away hF.out)
       rw [← prVar_set, ← hw6.out] at h6
       have g6 : w5.grownBy w6 (some b) := by rw [hw6.out]; exact grown_sets _ _ _ _
       have k6 : w6.cell? ⟨b, 8, none⟩ = some (.bool s.opn) := h6.opn
       have f6 := there_frozen h6.there (k := 8) (by omega)
       have h7 := h6.setOpn true
       replace h6 := Lib.hid h6
       replace h7 := Lib.hid h7)
    | fail)
  have z6 := g6.size
  have c7 : Chg w (w6.setCell ⟨b, 8, none⟩ (.bool true)) b (blk X.A) := ((Chg.ofBelow b5.out).trans (Chg.ofGrown g6)).trans (Chg.ofGrown (grown_cell _ _ _ _))
  go_ret2
  exact ⟨by rw [hans.out]; rfl, by rw [hans.out]; exact ⟨⟨F, hs, _, h7.out, fun _ h => h, fun _ h => .inl h, fun x hx => Nat.lt_of_lt_of_le (hF.out x hx) c7.size, Nat.le_refl _, fun _ hk => .inl hk⟩, c7⟩⟩
theorem rest_any (b : Nat) (F : List Nat) (s : St) (hs : List HdR) (X : Ptrs) (A : Option Addr) (c N m : Nat) (l : List Int) (w : World) (hm : l.length = m) (h : RefAt w b F s hs X) (hF : ∀ x ∈ F, x < w.heap.size) (hI : Inv s) (hR : RInv s) (hlen : hs.length ≤ 1000000) (hN : N ≤ w.heap.size) (hA : RowAt w N 1 eInt A l) (hl : m ≤ 9223372036854775807) :
    Calls Try.prog 58 #[.pointer (some ⟨b, 0, none⟩), .slice A m c] w fun x w' => x = .returned (.tuple #[.bool (s.estimate l).1, .int .i64 (s.estimate l).2.1]) ∧ RLeft w w' b F (s.estimate l).2.2 hs.length (blk X.A) := by
  cases hp : packB l s.n with
  | false => exact rest_a b F s hs X A c N m l w hm h hF hI hR hlen hN hA hl hp
  | true =>
    by_cases hi : nth l s.self = s.inc
    · by_cases he : l = s.own.set.take s.n
      · exact rest_c b F s hs X A c N m l w hm h hF hI hR hlen hN hA hl hp hi he
      · by_cases hsp : s.spent = true
        · exact rest_d b F s hs X A c N m l w hm h hF hI hR hlen hN hA hl hp hi he hsp
        · exact rest_e b F s hs X A c N m l w hm h hF hI hR hlen hN hA hl hp hi he hsp
    · exact rest_b b F s hs X A c N m l w hm h hF hI hR hlen hN hA hl hp hi
end Go.Proofs.Ytfbeggdbjpmppaa
