/- TkA TkAll LawE PlC, joined. -/
import Derived.Deep.DeepCutAuto
import Derived.Test.YtfbeggdbjpmppaaMw2
import Derived.Test.YtfbeggdbjpmppaaMw5
import Derived.Test.YtfbeggdbjpmppaaMw13
import Derived.Test.YtfbeggdbjpmppaaMw14
import Derived.Test.YtfbeggdbjpmppaaMw17
set_option linter.unusedVariables false
set_option linter.unusedSimpArgs false
/- The program's Take: what is old; what is taken. -/
namespace Go.Proofs.Ytfbeggdbjpmppaa
open Go.RowKit
/-- Behind the reading: the agent as it was, the proposal, the old one. -/
structure TkR (w0 : World) (b : Nat) (s : St) (M : Option Addr) (cM v o : Nat) (t : Wish) (l : Lt) (w : World) : Prop where
  at_ : AgAt w b s M cM
  new : WVar w v t
  old : LVar w o l
  grown : w0.grownBy w (some b)
  v0 : w0.heap.size ≤ v
  o0 : w0.heap.size ≤ o
  vw : v < w.heap.size
  ow : o < w.heap.size
section
variable {w0 w w' : World} {b : Nat} {s : St} {M : Option Addr} {cM v o : Nat} {t : Wish} {l : Lt}
theorem TkR.below (h : TkR w0 b s M cM v o t l w) (hb : b < w0.heap.size) (hw : Below w.heap.size w w') : TkR w0 b s M cM v o t l w' :=
  ⟨h.at_.same (hw.block b (by have := h.v0; have := h.vw; omega)), h.new.below hw h.vw, h.old.below hw h.ow, h.grown.trans (World.grownBy.but (grown_below hw) _), h.v0, h.o0, Nat.lt_of_lt_of_le h.vw hw.size, Nat.lt_of_lt_of_le h.ow hw.size⟩
theorem TkR.put (h : TkR w0 b s M cM v o t l w) (hb : b < w0.heap.size) {s' : St} (ha : AgAt w' b s' M cM) (hg : w.grownBy w' (some b)) : TkR w0 b s' M cM v o t l w' :=
  ⟨ha, h.new.same (hg.block v h.vw (by intro e; injection e with e; have := h.v0; omega)), h.old.same (hg.block o h.ow (by intro e; injection e with e; have := h.o0; omega)), h.grown.trans hg, h.v0, h.o0, Nat.lt_of_lt_of_le h.vw hg.size, Nat.lt_of_lt_of_le h.ow hg.size⟩
end
set_option maxRecDepth 100000 in
set_option maxHeartbeats 2000000 in
theorem take_old (b : Nat) (s : St) (M : Option Addr) (cM : Nat) (S V : Option Addr) (cS cV N : Nat) (p : Pr) (q : Nat) (inc : Int) (w : World) (h : AgAt w b s M cM) (hb : b < w.heap.size) (hI : Inv s) (hq : q < s.n) (hs : q ≠ s.self) (hi1 : 1 ≤ inc) (hi2 : inc ≤ 4611686018427387904)
    (hN : N ≤ w.heap.size) (hS : RowAt w N 1 eInt S p.set) (hV : RowAt w N 1 eInt V p.vec) (hl1 : p.set.length ≤ 9223372036854775807) (hl2 : p.vec.length ≤ 9223372036854775807) (hg : p.goodB q inc s.n = true) (hM : ∀ W, w.grownBy W (some b) → RowAt W W.heap.size 3 eMb M s.mem) (hml : s.mem.length ≤ 16) (c1 : inc < (s.lt q).inc) :
    Calls Try.prog 36 #[.pointer (some ⟨b, 0, none⟩), .int .i64 q, .int .i64 inc, .agg (prA S V cS cV p)] w fun x w' => x = .returned (.tuple #[.bool (s.take q inc p).1, .int .i64 (s.take q inc p).2.1]) ∧ Left w w' b (s.take q inc p).2.2 M cM := by
  have hb0 : Below w.heap.size w (w.alloc (.cells (prA S V cS cV p) 31)) := (Below.refl _ _).alloc (Nat.le_refl _) _
  have z0 : (w.alloc (.cells (prA S V cS cV p) 31)).heap.size = w.heap.size + 1 := World.size_alloc _ _
  have h0 := Lib.hid (h.same (hb0.block b hb))
  have q0 := h.n
  have q1 := h.self
  have hn := hI.n2
  have hq16 : q < 16 := by omega
  have hol : WLen (s.lt q).w := ⟨h.l3 q hq16, h.l4 q hq16⟩
  have rS := Lib.hid (hS.below hb0 hN)
  have rV := Lib.hid (hV.below hb0 hN)
  have b3 : ((q : Int) == (s.self : Int)) = false := by simp; omega
  have hargs : ¬ ((q : Int) < 0 ∨ (s.n : Int) ≤ q ∨ (q : Int) = s.self ∨ inc < 1 ∨ 4611686018427387904 < inc) := by omega
  have htk : s.take q inc p = if inc < (s.lt q).inc then (false, 50, s) else if (s.lt q).inc = inc ∧ p.rev ≤ (s.lt q).w.rev then (false, 51, s) else
      (if s.opn then
        if (s.put q inc p.wish).heard = (s.put q inc p.wish).own.vec then (false, 0, s.put q inc p.wish)
        else if (s.put q inc p.wish).own.rev < 4611686018427387904 then (false, 0, { (s.put q inc p.wish) with own := { (s.put q inc p.wish).own with vec := (s.put q inc p.wish).heard, rev := (s.put q inc p.wish).own.rev + 1 } })
        else (false, 3, s)
      else if leavesB (s.put q inc p.wish).mem q inc p.cid = false then (false, 0, s.put q inc p.wish)
      else if (s.put q inc p.wish).spent then (false, 3, s)
      else (true, 0, (s.put q inc p.wish).begin_ (s.put q inc p.wish).own.set)) := by
    unfold St.take
    rw [if_neg hargs, if_neg (by rw [Int.toNat_natCast, hg]; decide)]
    rfl
  replace htk := Lib.hid htk
  have hgw := Lib.hid (good_wish hI.n2 hg)
  replace h := Lib.hid h
  replace hb0 := Lib.hid hb0
  replace hI := Lib.hid hI
  replace hg := Lib.hid hg
  replace z0 := Lib.hid z0
  replace hM := Lib.hid hM
  clear hS hV hargs
  have hans := Lib.hid (show s.take q inc p = (false, 50, s) by rw [htk.out, if_pos c1])
  have d1 : decide (inc < (s.lt q).inc) = true := decide_eq_true c1
  replace c1 := Lib.hid c1
  go_enter Try.func36, Try.ntmps36
  go_wp2_with (first
    | (go_at_call 52
       refine (read_any b s M cM S V cS cV N p q inc _ (by exact h0.out) (by rw [z0.out]; omega) hn hq (by rw [z0.out]; omega) (by exact rS.out) (by exact rV.out) hl1 hl2).mono ?_
       rintro e w1 ⟨⟨t, rfl, hwl, hgt⟩, hb1⟩
       rw [hg.out]
       obtain rfl := hgt hg.out
       rw [z0.out] at hb1
       have z1 := hb1.size
       rw [z0.out] at z1
       have b1 := Lib.hid (hb0.out.trans (hb1.mono (Nat.le_succ _)))
       replace hwl := Lib.hid hwl
       clear q0 q1 hgt)
    | (refine wpList_alloc96 rfl rfl ?_)
    | (refine wpList_store96 rfl (.tmp 10) (.tmp 46) rfl w1.heap.size 0 (by rfl) p.wish (by rfl) (there_new96 _ _ wlen_zero) hwl.out ?_
       intro w2 hw2
       have z2 : w2.heap.size = w1.heap.size + 1 := by rw [hw2.out, size_sets, World.size_alloc]
       have v2 : WVar w2 w1.heap.size p.wish := by rw [hw2.out]; exact (WVar.new w1 Wish.zero wlen_zero).put hwl.out
       have b2 : Below w.heap.size w w2 := by rw [hw2.out]; exact below_sets (b1.out.alloc (by omega) _) (by omega) _ _ (by simp; omega)
       have h2 := h.out.same (b2.block b hb)
       replace v2 := Lib.hid v2
       replace b2 := Lib.hid b2
       replace h2 := Lib.hid h2
       replace z2 := Lib.hid z2)
    | (refine wpList_load98 rfl (.tmp 54) rfl b (43 + q * 40) (by rfl) (s.lt q) (h2.out.other hq16) hol ?_)
    | (refine wpList_alloc98 rfl rfl ?_)
    | (refine wpList_store98 rfl (.tmp 12) (.tmp 55) rfl w2.heap.size 0 (by rfl) (s.lt q) (by rfl) (there_new98 _ _ wlen_zero) hol ?_
       intro w3 hw3
       have hT : TkR w b s M cM w1.heap.size w2.heap.size p.wish (s.lt q) w3 := by
         have z2' := z2.out
         have b23 : Below w2.heap.size w2 w3 := by rw [hw3.out]; exact below_sets ((Below.refl _ _).alloc (Nat.le_refl _) _) (Nat.le_refl _) _ _ (by simp)
         have z3 : w3.heap.size = w2.heap.size + 1 := by rw [hw3.out, size_sets, World.size_alloc]
         refine ⟨h2.out.same (b23.block b (by omega)), v2.out.below b23 (by omega), by rw [hw3.out]; exact LVar.put (there_new98 _ _ wlen_zero) hol, (World.grownBy.but (grown_below b2.out) _).trans (World.grownBy.but (grown_below b23) _), by omega, by omega, by omega, by omega⟩
       have k1 : w3.cell? ⟨w2.heap.size, 0, none⟩ = some (.int .i64 (s.lt q).inc) := (lt_parts.1 hT.old.rng).1
       have k2 : w3.cell? ⟨w2.heap.size, 34, none⟩ = some (.int .i64 (s.lt q).w.rev) := ((wish_parts hol.l1 hol.l2).1 (lt_parts.1 hT.old.rng).2).2.2.2.1
       have k3 : w3.cell? ⟨w1.heap.size, 33, none⟩ = some (.int .i64 p.rev) := hT.new.cells.2.2.2.1
       replace hT := Lib.hid hT)
    | fail)
  go_ret2
  exact ⟨by rw [hans.out]; rfl, by rw [hans.out]; exact ⟨hT.out.at_, hT.out.grown⟩⟩
set_option maxRecDepth 100000 in
set_option maxHeartbeats 2000000 in
theorem take_stale (b : Nat) (s : St) (M : Option Addr) (cM : Nat) (S V : Option Addr) (cS cV N : Nat) (p : Pr) (q : Nat) (inc : Int) (w : World) (h : AgAt w b s M cM) (hb : b < w.heap.size) (hI : Inv s) (hq : q < s.n) (hs : q ≠ s.self) (hi1 : 1 ≤ inc) (hi2 : inc ≤ 4611686018427387904)
    (hN : N ≤ w.heap.size) (hS : RowAt w N 1 eInt S p.set) (hV : RowAt w N 1 eInt V p.vec) (hl1 : p.set.length ≤ 9223372036854775807) (hl2 : p.vec.length ≤ 9223372036854775807) (hg : p.goodB q inc s.n = true) (hM : ∀ W, w.grownBy W (some b) → RowAt W W.heap.size 3 eMb M s.mem) (hml : s.mem.length ≤ 16) (c1 : ¬ inc < (s.lt q).inc) (c2 : (s.lt q).inc = inc) (c3 : p.rev ≤ (s.lt q).w.rev) :
    Calls Try.prog 36 #[.pointer (some ⟨b, 0, none⟩), .int .i64 q, .int .i64 inc, .agg (prA S V cS cV p)] w fun x w' => x = .returned (.tuple #[.bool (s.take q inc p).1, .int .i64 (s.take q inc p).2.1]) ∧ Left w w' b (s.take q inc p).2.2 M cM := by
  have hb0 : Below w.heap.size w (w.alloc (.cells (prA S V cS cV p) 31)) := (Below.refl _ _).alloc (Nat.le_refl _) _
  have z0 : (w.alloc (.cells (prA S V cS cV p) 31)).heap.size = w.heap.size + 1 := World.size_alloc _ _
  have h0 := Lib.hid (h.same (hb0.block b hb))
  have q0 := h.n
  have q1 := h.self
  have hn := hI.n2
  have hq16 : q < 16 := by omega
  have hol : WLen (s.lt q).w := ⟨h.l3 q hq16, h.l4 q hq16⟩
  have rS := Lib.hid (hS.below hb0 hN)
  have rV := Lib.hid (hV.below hb0 hN)
  have b3 : ((q : Int) == (s.self : Int)) = false := by simp; omega
  have hargs : ¬ ((q : Int) < 0 ∨ (s.n : Int) ≤ q ∨ (q : Int) = s.self ∨ inc < 1 ∨ 4611686018427387904 < inc) := by omega
  have htk : s.take q inc p = if inc < (s.lt q).inc then (false, 50, s) else if (s.lt q).inc = inc ∧ p.rev ≤ (s.lt q).w.rev then (false, 51, s) else
      (if s.opn then
        if (s.put q inc p.wish).heard = (s.put q inc p.wish).own.vec then (false, 0, s.put q inc p.wish)
        else if (s.put q inc p.wish).own.rev < 4611686018427387904 then (false, 0, { (s.put q inc p.wish) with own := { (s.put q inc p.wish).own with vec := (s.put q inc p.wish).heard, rev := (s.put q inc p.wish).own.rev + 1 } })
        else (false, 3, s)
      else if leavesB (s.put q inc p.wish).mem q inc p.cid = false then (false, 0, s.put q inc p.wish)
      else if (s.put q inc p.wish).spent then (false, 3, s)
      else (true, 0, (s.put q inc p.wish).begin_ (s.put q inc p.wish).own.set)) := by
    unfold St.take
    rw [if_neg hargs, if_neg (by rw [Int.toNat_natCast, hg]; decide)]
    rfl
  replace htk := Lib.hid htk
  have hgw := Lib.hid (good_wish hI.n2 hg)
  replace h := Lib.hid h
  replace hb0 := Lib.hid hb0
  replace hI := Lib.hid hI
  replace hg := Lib.hid hg
  replace z0 := Lib.hid z0
  replace hM := Lib.hid hM
  clear hS hV hargs
  have d1 : decide (inc < (s.lt q).inc) = false := decide_eq_false c1
  have hans := Lib.hid (show s.take q inc p = (false, 51, s) by rw [htk.out, if_neg c1, if_pos ⟨c2, c3⟩])
  have d2 : ((s.lt q).inc == inc) = true := by simp [c2]
  have d3 : decide (p.rev ≤ (s.lt q).w.rev) = true := decide_eq_true c3
  replace c2 := Lib.hid c2
  go_enter Try.func36, Try.ntmps36
  go_wp2_with (first
    | (go_at_call 52
       refine (read_any b s M cM S V cS cV N p q inc _ (by exact h0.out) (by rw [z0.out]; omega) hn hq (by rw [z0.out]; omega) (by exact rS.out) (by exact rV.out) hl1 hl2).mono ?_
       rintro e w1 ⟨⟨t, rfl, hwl, hgt⟩, hb1⟩
       rw [hg.out]
       obtain rfl := hgt hg.out
       rw [z0.out] at hb1
       have z1 := hb1.size
       rw [z0.out] at z1
       have b1 := Lib.hid (hb0.out.trans (hb1.mono (Nat.le_succ _)))
       replace hwl := Lib.hid hwl
       clear q0 q1 hgt)
    | (refine wpList_alloc96 rfl rfl ?_)
    | (refine wpList_store96 rfl (.tmp 10) (.tmp 46) rfl w1.heap.size 0 (by rfl) p.wish (by rfl) (there_new96 _ _ wlen_zero) hwl.out ?_
       intro w2 hw2
       have z2 : w2.heap.size = w1.heap.size + 1 := by rw [hw2.out, size_sets, World.size_alloc]
       have v2 : WVar w2 w1.heap.size p.wish := by rw [hw2.out]; exact (WVar.new w1 Wish.zero wlen_zero).put hwl.out
       have b2 : Below w.heap.size w w2 := by rw [hw2.out]; exact below_sets (b1.out.alloc (by omega) _) (by omega) _ _ (by simp; omega)
       have h2 := h.out.same (b2.block b hb)
       replace v2 := Lib.hid v2
       replace b2 := Lib.hid b2
       replace h2 := Lib.hid h2
       replace z2 := Lib.hid z2)
    | (refine wpList_load98 rfl (.tmp 54) rfl b (43 + q * 40) (by rfl) (s.lt q) (h2.out.other hq16) hol ?_)
    | (refine wpList_alloc98 rfl rfl ?_)
    | (refine wpList_store98 rfl (.tmp 12) (.tmp 55) rfl w2.heap.size 0 (by rfl) (s.lt q) (by rfl) (there_new98 _ _ wlen_zero) hol ?_
       intro w3 hw3
       have hT : TkR w b s M cM w1.heap.size w2.heap.size p.wish (s.lt q) w3 := by
         have z2' := z2.out
         have b23 : Below w2.heap.size w2 w3 := by rw [hw3.out]; exact below_sets ((Below.refl _ _).alloc (Nat.le_refl _) _) (Nat.le_refl _) _ _ (by simp)
         have z3 : w3.heap.size = w2.heap.size + 1 := by rw [hw3.out, size_sets, World.size_alloc]
         refine ⟨h2.out.same (b23.block b (by omega)), v2.out.below b23 (by omega), by rw [hw3.out]; exact LVar.put (there_new98 _ _ wlen_zero) hol, (World.grownBy.but (grown_below b2.out) _).trans (World.grownBy.but (grown_below b23) _), by omega, by omega, by omega, by omega⟩
       have k1 : w3.cell? ⟨w2.heap.size, 0, none⟩ = some (.int .i64 (s.lt q).inc) := (lt_parts.1 hT.old.rng).1
       have k2 : w3.cell? ⟨w2.heap.size, 34, none⟩ = some (.int .i64 (s.lt q).w.rev) := ((wish_parts hol.l1 hol.l2).1 (lt_parts.1 hT.old.rng).2).2.2.2.1
       have k3 : w3.cell? ⟨w1.heap.size, 33, none⟩ = some (.int .i64 p.rev) := hT.new.cells.2.2.2.1
       replace hT := Lib.hid hT)
    | fail)
  go_ret2
  exact ⟨by rw [hans.out]; rfl, by rw [hans.out]; exact ⟨hT.out.at_, hT.out.grown⟩⟩
end Go.Proofs.Ytfbeggdbjpmppaa
/- The program's Take: what is taken. -/
namespace Go.Proofs.Ytfbeggdbjpmppaa
open Go.RowKit
set_option maxRecDepth 100000 in
set_option maxHeartbeats 8000000 in
theorem take_fits (b : Nat) (s : St) (M : Option Addr) (cM : Nat) (S V : Option Addr) (cS cV N : Nat) (p : Pr) (q : Nat) (inc : Int) (w : World) (h : AgAt w b s M cM) (hb : b < w.heap.size) (hI : Inv s) (hq : q < s.n) (hs : q ≠ s.self) (hi1 : 1 ≤ inc) (hi2 : inc ≤ 4611686018427387904)
    (hN : N ≤ w.heap.size) (hS : RowAt w N 1 eInt S p.set) (hV : RowAt w N 1 eInt V p.vec) (hl1 : p.set.length ≤ 9223372036854775807) (hl2 : p.vec.length ≤ 9223372036854775807) (hg : p.goodB q inc s.n = true) (hM : ∀ W, w.grownBy W (some b) → RowAt W W.heap.size 3 eMb M s.mem) (hml : s.mem.length ≤ 16) (c1 : ¬ inc < (s.lt q).inc) (c2 : ¬ ((s.lt q).inc = inc ∧ p.rev ≤ (s.lt q).w.rev)) :
    Calls Try.prog 36 #[.pointer (some ⟨b, 0, none⟩), .int .i64 q, .int .i64 inc, .agg (prA S V cS cV p)] w fun x w' => x = .returned (.tuple #[.bool (s.take q inc p).1, .int .i64 (s.take q inc p).2.1]) ∧ Left w w' b (s.take q inc p).2.2 M cM := by
  have hb0 : Below w.heap.size w (w.alloc (.cells (prA S V cS cV p) 31)) := (Below.refl _ _).alloc (Nat.le_refl _) _
  have z0 : (w.alloc (.cells (prA S V cS cV p) 31)).heap.size = w.heap.size + 1 := World.size_alloc _ _
  have h0 := Lib.hid (h.same (hb0.block b hb))
  have q0 := h.n
  have q1 := h.self
  have hn := hI.n2
  have hq16 : q < 16 := by omega
  have hol : WLen (s.lt q).w := ⟨h.l3 q hq16, h.l4 q hq16⟩
  have rS := Lib.hid (hS.below hb0 hN)
  have rV := Lib.hid (hV.below hb0 hN)
  have b3 : ((q : Int) == (s.self : Int)) = false := by simp; omega
  have hargs : ¬ ((q : Int) < 0 ∨ (s.n : Int) ≤ q ∨ (q : Int) = s.self ∨ inc < 1 ∨ 4611686018427387904 < inc) := by omega
  have htk : s.take q inc p = if inc < (s.lt q).inc then (false, 50, s) else if (s.lt q).inc = inc ∧ p.rev ≤ (s.lt q).w.rev then (false, 51, s) else
      (if s.opn then
        if (s.put q inc p.wish).heard = (s.put q inc p.wish).own.vec then (false, 0, s.put q inc p.wish)
        else if (s.put q inc p.wish).own.rev < 4611686018427387904 then (false, 0, { (s.put q inc p.wish) with own := { (s.put q inc p.wish).own with vec := (s.put q inc p.wish).heard, rev := (s.put q inc p.wish).own.rev + 1 } })
        else (false, 3, s)
      else if leavesB (s.put q inc p.wish).mem q inc p.cid = false then (false, 0, s.put q inc p.wish)
      else if (s.put q inc p.wish).spent then (false, 3, s)
      else (true, 0, (s.put q inc p.wish).begin_ (s.put q inc p.wish).own.set)) := by
    unfold St.take
    rw [if_neg hargs, if_neg (by rw [Int.toNat_natCast, hg]; decide)]
    rfl
  replace htk := Lib.hid htk
  have hgw := Lib.hid (good_wish hI.n2 hg)
  replace h := Lib.hid h
  replace hb0 := Lib.hid hb0
  replace hI := Lib.hid hI
  replace hg := Lib.hid hg
  replace z0 := Lib.hid z0
  replace hM := Lib.hid hM
  clear hS hV hargs
  have d1 : decide (inc < (s.lt q).inc) = false := decide_eq_false c1
  have c1' : Hid (¬ inc < (s.lt q).inc) := Lib.hid c1
  have c2' : Hid (¬ ((s.lt q).inc = inc ∧ p.rev ≤ (s.lt q).w.rev)) := Lib.hid c2
  clear c1 c2
  go_enter Try.func36, Try.ntmps36
  go_upto_region 9 with (first
    | (go_at_call 52
       refine (read_any b s M cM S V cS cV N p q inc _ (by exact h0.out) (by rw [z0.out]; omega) hn hq (by rw [z0.out]; omega) (by exact rS.out) (by exact rV.out) hl1 hl2).mono ?_
       rintro e w1 ⟨⟨t, rfl, hwl, hgt⟩, hb1⟩
       rw [hg.out]
       obtain rfl := hgt hg.out
       rw [z0.out] at hb1
       have z1 := hb1.size
       rw [z0.out] at z1
       have b1 := Lib.hid (hb0.out.trans (hb1.mono (Nat.le_succ _)))
       replace hwl := Lib.hid hwl
       clear q0 q1 hgt)
    | (refine wpList_alloc96 rfl rfl ?_)
    | (refine wpList_store96 rfl (.tmp 10) (.tmp 46) rfl w1.heap.size 0 (by rfl) p.wish (by rfl) (there_new96 _ _ wlen_zero) hwl.out ?_
       intro w2 hw2
       have z2 : w2.heap.size = w1.heap.size + 1 := by rw [hw2.out, size_sets, World.size_alloc]
       have v2 : WVar w2 w1.heap.size p.wish := by rw [hw2.out]; exact (WVar.new w1 Wish.zero wlen_zero).put hwl.out
       have b2 : Below w.heap.size w w2 := by rw [hw2.out]; exact below_sets (b1.out.alloc (by omega) _) (by omega) _ _ (by simp; omega)
       have h2 := h.out.same (b2.block b hb)
       replace v2 := Lib.hid v2
       replace b2 := Lib.hid b2
       replace h2 := Lib.hid h2
       replace z2 := Lib.hid z2)
    | (refine wpList_load98 rfl (.tmp 54) rfl b (43 + q * 40) (by rfl) (s.lt q) (h2.out.other hq16) hol ?_)
    | (refine wpList_alloc98 rfl rfl ?_)
    | (refine wpList_store98 rfl (.tmp 12) (.tmp 55) rfl w2.heap.size 0 (by rfl) (s.lt q) (by rfl) (there_new98 _ _ wlen_zero) hol ?_
       intro w3 hw3
       have hT : TkR w b s M cM w1.heap.size w2.heap.size p.wish (s.lt q) w3 := by
         have z2' := z2.out
         have b23 : Below w2.heap.size w2 w3 := by rw [hw3.out]; exact below_sets ((Below.refl _ _).alloc (Nat.le_refl _) _) (Nat.le_refl _) _ _ (by simp)
         have z3 : w3.heap.size = w2.heap.size + 1 := by rw [hw3.out, size_sets, World.size_alloc]
         refine ⟨h2.out.same (b23.block b (by omega)), v2.out.below b23 (by omega), by rw [hw3.out]; exact LVar.put (there_new98 _ _ wlen_zero) hol, (World.grownBy.but (grown_below b2.out) _).trans (World.grownBy.but (grown_below b23) _), by omega, by omega, by omega, by omega⟩
       have k1 : w3.cell? ⟨w2.heap.size, 0, none⟩ = some (.int .i64 (s.lt q).inc) := (lt_parts.1 hT.old.rng).1
       have k2 : w3.cell? ⟨w2.heap.size, 34, none⟩ = some (.int .i64 (s.lt q).w.rev) := ((wish_parts hol.l1 hol.l2).1 (lt_parts.1 hT.old.rng).2).2.2.2.1
       have k3 : w3.cell? ⟨w1.heap.size, 33, none⟩ = some (.int .i64 p.rev) := hT.new.cells.2.2.2.1
       replace hT := Lib.hid hT)
    | fail)
  go_cut [61] (fun s61 wx => s61 = .bool false ∧ wx = w3)
  case first =>
    cases d2 : ((s.lt q).inc == inc) with
    | true =>
      have d3 : decide (p.rev ≤ (s.lt q).w.rev) = false := decide_eq_false (fun x => c2'.out ⟨by simpa using d2, x⟩)
      go_wp2_with fail
      go_meet
      exact ⟨rfl, rfl⟩
    | false =>
      go_wp2_with fail
      go_meet
      exact ⟨rfl, rfl⟩
  case rest =>
    obtain ⟨rfl, hwc⟩ := hcut
    obtain rfl : w3 = wc := hwc.symm
    go_wp2_with fail
    try simp only [Act.put, List.setIfInBounds_toArray, List.set_cons_zero, List.set_cons_succ]
    obtain ⟨v, hv⟩ : ∃ v, v = w1.heap.size := ⟨_, rfl⟩
    obtain ⟨o, ho⟩ : ∃ o, o = w2.heap.size := ⟨_, rfl⟩
    rw [← hv, ← ho] at hT
    rw [← hv, ← ho]
    replace hv := Lib.hid hv
    replace ho := Lib.hid ho
    have hS4 : TkR w b s M cM v o p.wish (s.lt q) w3.drew := hT.out.below hb (Below.drew (Below.refl _ _))
    have hV4 : WVar w3.drew v p.wish := hS4.new
    have hC : ∀ x' : Prop, (∀ W, WVar W v p.wish → x') ↔ x' := fun x' => ⟨fun f => f _ hV4, fun f _ _ => f⟩
    have L77 : ∀ W, WVar W v p.wish → (loadVar 96 ⟨v, 0, none⟩).run Try.prog W = .ok (.agg (wishA p.wish)) W := fun W hW => run_loadVar_wish W v 0 p.wish hW.rng hwl.out
    replace L77 := Lib.hid L77
    replace hS4 := Lib.hid hS4
    replace hV4 := Lib.hid hV4
    clear k1 k2 k3
    refine wp_region_ord [([0, 1, 2, 3, 4, 5, 6, 7], 8)] [] (fun W => WVar W v p.wish) rfl (by kernel_rfl) rfl hV4.out ?_
    refine WO.seg rfl ?_ hV4.out
    simp only [picks, pick, List.cons_append, List.nil_append, List.append_nil]
    repeat (first
      | go_big_quiet_skip
      | (refine wpQuiet_loadC (by rfl) 96 (.tmp 10) rfl v 0 (by rfl) _ L77.out ?_; simp only [Act.put, List.setIfInBounds_toArray, List.set_cons_zero, List.set_cons_succ])
      | (refine wpQuiet_build98 (by rfl) (.tmp 76) (.tmp 77) rfl inc p.wish (by rfl) (by rfl) hwl.out ?_; simp only [Act.put, List.setIfInBounds_toArray, List.set_cons_zero, List.set_cons_succ])
      | go_big_quiet_step (fail))
    refine wpQuiet_nil ?_
    intro K hK
    rw [if_pos (by rfl)]
    refine wp_store98 (.tmp 81) (.tmp 78) rfl rfl b (43 + q * 40) (by rfl) ⟨inc, p.wish⟩ (by rfl) (World.there.at hS4.out.at_.there (by omega)) hwl.out ?_
    intro w5 hw5
    obtain ⟨t, ht⟩ : ∃ t, t = s.put q inc p.wish := ⟨_, rfl⟩
    have hT5 : TkR w b t M cM v o p.wish (s.lt q) w5 := by
      rw [hw5.out, ht]
      exact hS4.out.put hb (hS4.out.at_.setLt q hq16 hI.out.oth ⟨inc, p.wish⟩ hwl.out.l1 hwl.out.l2) (grown_sets _ _ _ _)
    have hIt : Inv t := by rw [ht]; exact put_inv hI.out hgw.out
    have htn : t.n = s.n := by rw [ht]; rfl
    have hto : t.opn = s.opn := by rw [ht]; rfl
    have htm : t.mem = s.mem := by rw [ht]; rfl
    have hback : t.put q (s.lt q).inc (s.lt q).w = s := by rw [ht]; exact put_back (hI.out.lt_some hq16)
    have hoth : t.oth.length = 16 := hIt.oth
    have k3 := hT5.at_.opn
    rw [hto] at k3
    replace hT5 := Lib.hid hT5
    replace hIt := Lib.hid hIt
    replace htn := Lib.hid htn
    replace hto := Lib.hid hto
    replace htm := Lib.hid htm
    replace hback := Lib.hid hback
    replace hoth := Lib.hid hoth
    replace ht := Lib.hid ht
    refine hK.out _ _ hT5.out.new ?_
    clear hK K
    refine WO.end_ ?_
    simp only [picks]
    refine wpQuiet_nil ?_
    clear hC L77 hV4
    have z5 : b < w5.heap.size := by have := hT5.out.v0; have := hT5.out.vw; omega
    cases hop : s.opn with
    | true =>
      rw [hop] at k3
      by_cases f1 : (s.put q inc p.wish).heard = (s.put q inc p.wish).own.vec
      ·
        have hans := Lib.hid (show s.take q inc p = (false, 0, s.put q inc p.wish) by rw [htk.out, if_neg (Int.not_lt.2 c1'.out), if_neg c2'.out, if_pos hop, if_pos f1])
        try rw [← ht.out] at hans
        replace hop := Lib.hid hop
        have g1 : (t.heard == t.own.vec) = true := by rw [ht.out]; simp [f1]
        have f1' := Lib.hid f1
        clear f1
        go_wp2_with (first
          | (go_at_call 53
             refine (heard_any b t M cM w5 hT5.out.at_ z5 (by rw [htn.out]; exact hn) hIt.out.self).mono ?_
             rintro e w6 ⟨rfl, hb6⟩
             have hT6 := Lib.hid (hT5.out.below hb hb6)
             have z6 := hb6.size
             clear k3)
          | (refine wpList_alloc94 rfl rfl ?_)
          | (refine wpList_store94 rfl (.tmp 13) (.tmp 87) rfl w6.heap.size 0 (by rfl) t.heard (by rfl) (by have := there_new w6 (arr zeros) 94; rwa [size_arr, len_zeros] at this) (len_heard t) ?_
             intro w7 hw7
             have r7 : w7.rangeAt w6.heap.size 0 (ints t.heard) := by rw [hw7.out]; exact World.rangeAt_setCells_same _ _ _ _ (by rw [len_ints, len_heard]; have := there_new w6 (arr zeros) 94; rwa [size_arr, len_zeros] at this)
             have hb67 : Below w6.heap.size w6 w7 := by rw [hw7.out]; exact below_sets ((Below.refl _ _).alloc (Nat.le_refl _) _) (Nat.le_refl _) _ _ (by simp)
             have z7 : w6.heap.size < w7.heap.size := by rw [hw7.out, size_sets]; simp
             have hT7 := Lib.hid (hT6.out.below hb hb67)
             replace r7 := Lib.hid r7)
          | fail)
        have rn := fun W : World => run_eql_arr W t.heard t.own.vec (len_heard t) hIt.out.own.vec
        try simp only [Act.put, List.setIfInBounds_toArray, List.set_cons_zero, List.set_cons_succ]
        refine wp_region_quiet_lit (by kernel_rfl) (by kernel_rfl) ?_
        repeat (first
          | go_big_quiet_skip
          | (refine wpQuiet_load94 (by rfl) (.tmp 13) rfl w6.heap.size 0 (by rfl) _ r7.out (len_heard t) ?_; go_simp)
          | (refine wpQuiet_load94 (by rfl) (.tmp 92) rfl b 20 (by rfl) _ hT7.out.at_.vec hIt.out.own.vec ?_; go_simp)
          | go_big_quiet_step (fail))
        refine wpQuiet_nil ?_
        first | rintro _ ⟨nq, rfl⟩ | intro nq
        have hT8 := Lib.hid (hT7.out.below hb (below_drewN (Below.refl _ _) nq))
        go_wp2
        go_ret2
        exact ⟨by rw [hans.out]; rfl, by rw [hans.out]; exact ⟨hT8.out.at_, hT8.out.grown⟩⟩
      · by_cases f2 : (s.put q inc p.wish).own.rev < 4611686018427387904
        ·
          have hans := Lib.hid (show s.take q inc p = (false, 0, { (s.put q inc p.wish) with own := { (s.put q inc p.wish).own with vec := (s.put q inc p.wish).heard, rev := (s.put q inc p.wish).own.rev + 1 } }) by rw [htk.out, if_neg (Int.not_lt.2 c1'.out), if_neg c2'.out, if_pos hop, if_neg f1, if_pos f2])
          try rw [← ht.out] at hans
          replace hop := Lib.hid hop
          have g1 : (t.heard == t.own.vec) = false := by rw [ht.out]; simp [f1]
          have g2 : decide (t.own.rev < 4611686018427387904) = true := by rw [ht.out]; exact decide_eq_true f2
          have g3 : t.own.rev < 4611686018427387904 := by rw [ht.out]; exact f2
          have g4 := hIt.out.own.rev
          have hwr : IntKind.i64.wrap (t.own.rev + 1) = t.own.rev + 1 := by rw [IntKind.wrap_i64]; omega
          replace f1 := Lib.hid f1
          replace f2 := Lib.hid f2
          go_wp2_with (first
            | (go_at_call 53
               refine (heard_any b t M cM w5 hT5.out.at_ z5 (by rw [htn.out]; exact hn) hIt.out.self).mono ?_
               rintro e w6 ⟨rfl, hb6⟩
               have hT6 := Lib.hid (hT5.out.below hb hb6)
               have z6 := hb6.size
               clear k3)
            | (refine wpList_alloc94 rfl rfl ?_)
            | (refine wpList_store94 rfl (.tmp 13) (.tmp 87) rfl w6.heap.size 0 (by rfl) t.heard (by rfl) (by have := there_new w6 (arr zeros) 94; rwa [size_arr, len_zeros] at this) (len_heard t) ?_
               intro w7 hw7
               have r7 : w7.rangeAt w6.heap.size 0 (ints t.heard) := by rw [hw7.out]; exact World.rangeAt_setCells_same _ _ _ _ (by rw [len_ints, len_heard]; have := there_new w6 (arr zeros) 94; rwa [size_arr, len_zeros] at this)
               have hb67 : Below w6.heap.size w6 w7 := by rw [hw7.out]; exact below_sets ((Below.refl _ _).alloc (Nat.le_refl _) _) (Nat.le_refl _) _ _ (by simp)
               have z7 : w6.heap.size < w7.heap.size := by rw [hw7.out, size_sets]; simp
               have hT7 := Lib.hid (hT6.out.below hb hb67)
               replace r7 := Lib.hid r7)
            | fail)
          have rn := fun W : World => run_eql_arr W t.heard t.own.vec (len_heard t) hIt.out.own.vec
          try simp only [Act.put, List.setIfInBounds_toArray, List.set_cons_zero, List.set_cons_succ]
          refine wp_region_quiet_lit (by kernel_rfl) (by kernel_rfl) ?_
          repeat (first
            | go_big_quiet_skip
            | (refine wpQuiet_load94 (by rfl) (.tmp 13) rfl w6.heap.size 0 (by rfl) _ r7.out (len_heard t) ?_; go_simp)
            | (refine wpQuiet_load94 (by rfl) (.tmp 92) rfl b 20 (by rfl) _ hT7.out.at_.vec hIt.out.own.vec ?_; go_simp)
            | go_big_quiet_step (fail))
          refine wpQuiet_nil ?_
          first | rintro _ ⟨nq, rfl⟩ | intro nq
          have hT8 := Lib.hid (hT7.out.below hb (below_drewN (Below.refl _ _) nq))
          have k7 : w7.cell? ⟨b, 37, none⟩ = some (.int .i64 t.own.rev) := hT7.out.at_.rev
          go_wp2_with (first
            | (refine wpList_load94 rfl (.tmp 13) rfl w6.heap.size 0 (by rfl) t.heard (by exact r7.out) (len_heard t) ?_)
            | (refine wpList_store94 rfl (.tmp 105) (.tmp 102) rfl b 20 (by rfl) t.heard (by rfl) (World.there.at hT8.out.at_.there (by omega)) (len_heard t) ?_
               intro w9 hw9
               have h9 := hT8.out.at_.setVec t.heard (len_heard t)
               rw [← hw9.out] at h9
               have g9 : w.grownBy w9 (some b) := by rw [hw9.out]; exact hT8.out.grown.trans (grown_sets _ _ _ _)
               have k9 : w9.cell? ⟨b, 37, none⟩ = some (.int .i64 t.own.rev) := h9.rev
               have f9 : w9.frozen? ⟨b, 37, none⟩ = false := there_frozen (k := 37) h9.there (by omega)
               have h10 := h9.setRev (t.own.rev + 1)
               have g10 := g9.trans (grown_cell w9 b 37 (.int .i64 (t.own.rev + 1)))
               replace h9 := Lib.hid h9
               replace h10 := Lib.hid h10
               replace g10 := Lib.hid g10
               clear k7)
            | fail)
          go_ret2
          exact ⟨by rw [hans.out]; rfl, by rw [hans.out]; exact ⟨h10.out, g10.out⟩⟩
        ·
          have hans := Lib.hid (show s.take q inc p = (false, 3, s) by rw [htk.out, if_neg (Int.not_lt.2 c1'.out), if_neg c2'.out, if_pos hop, if_neg f1, if_neg f2])
          try rw [← ht.out] at hans
          replace hop := Lib.hid hop
          have g1 : (t.heard == t.own.vec) = false := by rw [ht.out]; simp [f1]
          have g2 : decide (t.own.rev < 4611686018427387904) = false := by rw [ht.out]; exact decide_eq_false (by omega)
          replace f1 := Lib.hid f1
          replace f2 := Lib.hid f2
          go_wp2_with (first
            | (go_at_call 53
               refine (heard_any b t M cM w5 hT5.out.at_ z5 (by rw [htn.out]; exact hn) hIt.out.self).mono ?_
               rintro e w6 ⟨rfl, hb6⟩
               have hT6 := Lib.hid (hT5.out.below hb hb6)
               have z6 := hb6.size
               clear k3)
            | (refine wpList_alloc94 rfl rfl ?_)
            | (refine wpList_store94 rfl (.tmp 13) (.tmp 87) rfl w6.heap.size 0 (by rfl) t.heard (by rfl) (by have := there_new w6 (arr zeros) 94; rwa [size_arr, len_zeros] at this) (len_heard t) ?_
               intro w7 hw7
               have r7 : w7.rangeAt w6.heap.size 0 (ints t.heard) := by rw [hw7.out]; exact World.rangeAt_setCells_same _ _ _ _ (by rw [len_ints, len_heard]; have := there_new w6 (arr zeros) 94; rwa [size_arr, len_zeros] at this)
               have hb67 : Below w6.heap.size w6 w7 := by rw [hw7.out]; exact below_sets ((Below.refl _ _).alloc (Nat.le_refl _) _) (Nat.le_refl _) _ _ (by simp)
               have z7 : w6.heap.size < w7.heap.size := by rw [hw7.out, size_sets]; simp
               have hT7 := Lib.hid (hT6.out.below hb hb67)
               replace r7 := Lib.hid r7)
            | fail)
          have rn := fun W : World => run_eql_arr W t.heard t.own.vec (len_heard t) hIt.out.own.vec
          try simp only [Act.put, List.setIfInBounds_toArray, List.set_cons_zero, List.set_cons_succ]
          refine wp_region_quiet_lit (by kernel_rfl) (by kernel_rfl) ?_
          repeat (first
            | go_big_quiet_skip
            | (refine wpQuiet_load94 (by rfl) (.tmp 13) rfl w6.heap.size 0 (by rfl) _ r7.out (len_heard t) ?_; go_simp)
            | (refine wpQuiet_load94 (by rfl) (.tmp 92) rfl b 20 (by rfl) _ hT7.out.at_.vec hIt.out.own.vec ?_; go_simp)
            | go_big_quiet_step (fail))
          refine wpQuiet_nil ?_
          first | rintro _ ⟨nq, rfl⟩ | intro nq
          have hT8 := Lib.hid (hT7.out.below hb (below_drewN (Below.refl _ _) nq))
          have k7 : w7.cell? ⟨b, 37, none⟩ = some (.int .i64 t.own.rev) := hT7.out.at_.rev
          go_wp2
          try simp only [Act.put, List.setIfInBounds_toArray, List.set_cons_zero, List.set_cons_succ]
          have hS8 := hT8.out.below hb (Below.drew (Below.refl _ _))
          have hV8 := hS8.old
          have hC : ∀ x' : Prop, (∀ W, LVar W o (s.lt q) → x') ↔ x' := fun x' => ⟨fun f => f _ hV8, fun f _ _ => f⟩
          have L131 : ∀ W, LVar W o (s.lt q) → (loadVar 98 ⟨o, 0, none⟩).run Try.prog W = .ok (.agg (ltA (s.lt q))) W := fun W hW => run_loadVar98 W o 0 (s.lt q) hW.rng hol
          replace L131 := Lib.hid L131
          replace hS8 := Lib.hid hS8
          replace hV8 := Lib.hid hV8
          refine wp_region_ord [([0, 1, 2, 3, 4, 5], 6)] [] (fun W => LVar W o (s.lt q)) rfl (by kernel_rfl) rfl hV8.out ?_
          refine WO.seg rfl ?_ hV8.out
          simp only [picks, pick, List.cons_append, List.nil_append, List.append_nil]
          repeat (first
            | go_big_quiet_skip
            | (refine wpQuiet_loadC (by rfl) 98 (.tmp 12) rfl o 0 (by rfl) _ L131.out ?_; simp only [Act.put, List.setIfInBounds_toArray, List.set_cons_zero, List.set_cons_succ])
            | go_big_quiet_step (fail))
          refine wpQuiet_nil ?_
          intro K hK
          rw [if_pos (by rfl)]
          refine wp_store98 (.tmp 134) (.tmp 131) rfl rfl b (43 + q * 40) (by rfl) (s.lt q) (by rfl) (World.there.at hS8.out.at_.there (by omega)) hol ?_
          intro w9 hw9
          have h9 : AgAt w9 b s M cM := by
            have := hS8.out.at_.setLt q hq16 hoth.out (s.lt q) hol.l1 hol.l2
            rw [hback.out] at this
            rw [hw9.out]; exact this
          have g9 : w.grownBy w9 (some b) := by rw [hw9.out]; exact hS8.out.grown.trans (grown_sets _ _ _ _)
          have v9 : LVar w9 o (s.lt q) := by rw [hw9.out]; exact hV8.out.same ((grown_sets _ _ _ _).block o hS8.out.ow (by intro e; injection e with e; have := hS8.out.o0; omega))
          refine hK.out _ _ v9 ?_
          clear hK K
          refine WO.end_ ?_
          simp only [picks]
          refine wpQuiet_nil ?_
          clear hC
          go_wp2
          go_ret2
          exact ⟨by rw [hans.out]; rfl, by rw [hans.out]; exact ⟨h9, g9⟩⟩
    | false =>
      rw [hop] at k3
      by_cases f1 : leavesB (s.put q inc p.wish).mem q inc p.cid = false
      ·
        have hans := Lib.hid (show s.take q inc p = (false, 0, s.put q inc p.wish) by rw [htk.out, if_neg (Int.not_lt.2 c1'.out), if_neg c2'.out, if_neg (by rw [hop]; decide), if_pos f1])
        have f1' := Lib.hid f1
        clear f1
        try rw [← ht.out] at hans
        replace hop := Lib.hid hop
        have k32 : w5.cell? ⟨v, 32, none⟩ = some (.int .i64 p.cid) := hT5.out.new.cells.2.2.1
        have hrow5 := hM.out w5 hT5.out.grown
        rw [← htm.out] at hrow5
        replace hrow5 := Lib.hid hrow5
        go_wp2_with (first
          | (go_at_call 54
             refine (leaving_any b t M cM w5.heap.size q inc p.cid w5 hT5.out.at_ z5 (Nat.le_refl _) hrow5.out (by rw [htm.out]; omega)).mono ?_
             rintro e w6 ⟨rfl, hb6⟩
             rw [show leavesB t.mem q inc p.cid = false by rw [ht.out]; exact f1'.out]
             have hT6 := Lib.hid (hT5.out.below hb hb6)
             have z6 := hb6.size
             clear k3 k32)
          | fail)
        go_ret2
        exact ⟨by rw [hans.out]; rfl, by rw [hans.out]; exact ⟨hT6.out.at_, hT6.out.grown⟩⟩
      · by_cases f2 : (s.put q inc p.wish).spent = true
        ·
          have hans := Lib.hid (show s.take q inc p = (false, 3, s) by rw [htk.out, if_neg (Int.not_lt.2 c1'.out), if_neg c2'.out, if_neg (by rw [hop]; decide), if_neg f1, if_pos f2])
          have f1' : Hid (leavesB (s.put q inc p.wish).mem q inc p.cid = true) := Lib.hid (by simpa using f1)
          clear f1
          try rw [← ht.out] at hans
          replace hop := Lib.hid hop
          replace f2 := Lib.hid f2
          have k32 : w5.cell? ⟨v, 32, none⟩ = some (.int .i64 p.cid) := hT5.out.new.cells.2.2.1
          have hrow5 := hM.out w5 hT5.out.grown
          rw [← htm.out] at hrow5
          replace hrow5 := Lib.hid hrow5
          go_wp2_with (first
            | (go_at_call 54
               refine (leaving_any b t M cM w5.heap.size q inc p.cid w5 hT5.out.at_ z5 (Nat.le_refl _) hrow5.out (by rw [htm.out]; omega)).mono ?_
               rintro e w6 ⟨rfl, hb6⟩
               rw [show leavesB t.mem q inc p.cid = true by rw [ht.out]; exact f1'.out]
               have hT6 := Lib.hid (hT5.out.below hb hb6)
               have z6 := hb6.size
               clear k3 k32)
            | (refine wpList_load94 rfl (.tmp 126) rfl b 4 (by rfl) t.own.set hT6.out.at_.set hIt.out.own.set ?_)
            | (go_at_call 55
               refine (begin_no b t M cM t.own.set w6 hT6.out.at_ (by omega) (by rw [ht.out]; exact f2.out)).mono ?_
               rintro e w7 ⟨rfl, hb7⟩
               have hT7 := Lib.hid (hT6.out.below hb hb7))
            | fail)
          try simp only [Act.put, List.setIfInBounds_toArray, List.set_cons_zero, List.set_cons_succ]
          have hS8 := hT7.out.below hb (Below.drew (Below.refl _ _))
          have hV8 := hS8.old
          have hC : ∀ x' : Prop, (∀ W, LVar W o (s.lt q) → x') ↔ x' := fun x' => ⟨fun f => f _ hV8, fun f _ _ => f⟩
          have L131 : ∀ W, LVar W o (s.lt q) → (loadVar 98 ⟨o, 0, none⟩).run Try.prog W = .ok (.agg (ltA (s.lt q))) W := fun W hW => run_loadVar98 W o 0 (s.lt q) hW.rng hol
          replace L131 := Lib.hid L131
          replace hS8 := Lib.hid hS8
          replace hV8 := Lib.hid hV8
          refine wp_region_ord [([0, 1, 2, 3, 4, 5], 6)] [] (fun W => LVar W o (s.lt q)) rfl (by kernel_rfl) rfl hV8.out ?_
          refine WO.seg rfl ?_ hV8.out
          simp only [picks, pick, List.cons_append, List.nil_append, List.append_nil]
          repeat (first
            | go_big_quiet_skip
            | (refine wpQuiet_loadC (by rfl) 98 (.tmp 12) rfl o 0 (by rfl) _ L131.out ?_; simp only [Act.put, List.setIfInBounds_toArray, List.set_cons_zero, List.set_cons_succ])
            | go_big_quiet_step (fail))
          refine wpQuiet_nil ?_
          intro K hK
          rw [if_pos (by rfl)]
          refine wp_store98 (.tmp 134) (.tmp 131) rfl rfl b (43 + q * 40) (by rfl) (s.lt q) (by rfl) (World.there.at hS8.out.at_.there (by omega)) hol ?_
          intro w9 hw9
          have h9 : AgAt w9 b s M cM := by
            have := hS8.out.at_.setLt q hq16 hoth.out (s.lt q) hol.l1 hol.l2
            rw [hback.out] at this
            rw [hw9.out]; exact this
          have g9 : w.grownBy w9 (some b) := by rw [hw9.out]; exact hS8.out.grown.trans (grown_sets _ _ _ _)
          have v9 : LVar w9 o (s.lt q) := by rw [hw9.out]; exact hV8.out.same ((grown_sets _ _ _ _).block o hS8.out.ow (by intro e; injection e with e; have := hS8.out.o0; omega))
          refine hK.out _ _ v9 ?_
          clear hK K
          refine WO.end_ ?_
          simp only [picks]
          refine wpQuiet_nil ?_
          clear hC
          go_wp2
          go_ret2
          exact ⟨by rw [hans.out]; rfl, by rw [hans.out]; exact ⟨h9, g9⟩⟩
        ·
          have hans := Lib.hid (show s.take q inc p = (true, 0, (s.put q inc p.wish).begin_ (s.put q inc p.wish).own.set) by rw [htk.out, if_neg (Int.not_lt.2 c1'.out), if_neg c2'.out, if_neg (by rw [hop]; decide), if_neg f1, if_neg f2])
          have f1' : Hid (leavesB (s.put q inc p.wish).mem q inc p.cid = true) := Lib.hid (by simpa using f1)
          clear f1
          try rw [← ht.out] at hans
          replace hop := Lib.hid hop
          replace f2 := Lib.hid f2
          have k32 : w5.cell? ⟨v, 32, none⟩ = some (.int .i64 p.cid) := hT5.out.new.cells.2.2.1
          have hrow5 := hM.out w5 hT5.out.grown
          rw [← htm.out] at hrow5
          replace hrow5 := Lib.hid hrow5
          go_wp2_with (first
            | (go_at_call 54
               refine (leaving_any b t M cM w5.heap.size q inc p.cid w5 hT5.out.at_ z5 (Nat.le_refl _) hrow5.out (by rw [htm.out]; omega)).mono ?_
               rintro e w6 ⟨rfl, hb6⟩
               rw [show leavesB t.mem q inc p.cid = true by rw [ht.out]; exact f1'.out]
               have hT6 := Lib.hid (hT5.out.below hb hb6)
               have z6 := hb6.size
               clear k3 k32)
            | (refine wpList_load94 rfl (.tmp 126) rfl b 4 (by rfl) t.own.set hT6.out.at_.set hIt.out.own.set ?_)
            | (go_at_call 55
               refine (begin_yes b t M cM t.own.set w6 hT6.out.at_ (by omega) hIt.out (by rw [ht.out]; simpa using f2.out) hIt.out.own.set).mono ?_
               rintro e w7 ⟨rfl, h7, g7⟩)
            | fail)
          go_ret2
          exact ⟨by rw [hans.out]; rfl, by rw [hans.out]; exact ⟨h7, hT6.out.grown.trans g7⟩⟩
theorem take_any (b : Nat) (s : St) (M : Option Addr) (cM : Nat) (S V : Option Addr) (cS cV N : Nat) (p : Pr) (q inc : Int) (w : World) (h : AgAt w b s M cM) (hb : b < w.heap.size) (hI : Inv s)
    (hN : N ≤ w.heap.size) (hS : RowAt w N 1 eInt S p.set) (hV : RowAt w N 1 eInt V p.vec) (hl1 : p.set.length ≤ 9223372036854775807) (hl2 : p.vec.length ≤ 9223372036854775807) (hM : ∀ W, w.grownBy W (some b) → RowAt W W.heap.size 3 eMb M s.mem) (hml : s.mem.length ≤ 16) :
    Calls Try.prog 36 #[.pointer (some ⟨b, 0, none⟩), .int .i64 q, .int .i64 inc, .agg (prA S V cS cV p)] w fun x w' => x = .returned (.tuple #[.bool (s.take q inc p).1, .int .i64 (s.take q inc p).2.1]) ∧ Left w w' b (s.take q inc p).2.2 M cM := by
  by_cases hc : q < 0 ∨ (s.n : Int) ≤ q ∨ q = s.self ∨ inc < 1 ∨ 4611686018427387904 < inc
  · have e : s.take q inc p = (false, 1, s) := by unfold St.take; rw [if_pos hc]
    rw [e]
    exact take_bad b s M cM S V cS cV p q inc w h hb hc
  · obtain ⟨k, rfl⟩ := Int.eq_ofNat_of_zero_le (show 0 ≤ q by omega)
    have k1 : k < s.n := by omega
    have k2 : k ≠ s.self := by omega
    have i1 : 1 ≤ inc := by omega
    have i2 : inc ≤ 4611686018427387904 := by omega
    cases hg : p.goodB k inc s.n with
    | false =>
      have e : s.take k inc p = (false, 60, s) := by unfold St.take; rw [if_neg hc, if_pos (by rw [Int.toNat_natCast]; exact hg)]
      rw [e]
      exact take_unfit b s M cM S V cS cV N p k inc w h hb hI k1 k2 i1 i2 hN hS hV hl1 hl2 hg
    | true =>
      by_cases c1 : inc < (s.lt k).inc
      · exact take_old b s M cM S V cS cV N p k inc w h hb hI k1 k2 i1 i2 hN hS hV hl1 hl2 hg hM hml c1
      · by_cases c2 : (s.lt k).inc = inc ∧ p.rev ≤ (s.lt k).w.rev
        · exact take_stale b s M cM S V cS cV N p k inc w h hb hI k1 k2 i1 i2 hN hS hV hl1 hl2 hg hM hml c1 c2.1 c2.2
        · exact take_fits b s M cM S V cS cV N p k inc w h hb hI k1 k2 i1 i2 hN hS hV hl1 hl2 hg hM hml c1 c2
end Go.Proofs.Ytfbeggdbjpmppaa
/- Both agents in one memory: what each call leaves of the other. -/
namespace Go.Proofs.Ytfbeggdbjpmppaa
open Go.RowKit
theorem own_same {α : Type} {w w' : World} {base sz c g : Nat} {e : TypeId} {enc : α → List Value} {l : List α} (h : Owns w base e sz enc (some ⟨g, 0, none⟩) c l) (hg : w'.heap[g]? = w.heap[g]?) : Owns w' base e sz enc (some ⟨g, 0, none⟩) c l := by
  refine ⟨h.1, ?_⟩
  rcases h.2 with h2 | ⟨g', cap, cur, hv, hbase, hh, hr⟩
  · exact .inl h2
  · refine .inr ⟨g', cap, cur, hv, hbase, ?_, hr⟩
    have : (some (⟨g, 0, none⟩ : Addr)) = some ⟨g', 0, none⟩ := by injection hv
    injection this with this; injection this with e1 _
    rw [← e1, hg, e1]; exact hh
theorem begin_mem (s : St) (x : List Int) : (s.begin_ x).mem = s.mem := rfl
theorem estimate_mem (s : St) (l : List Int) : (s.estimate l).2.2.mem = s.mem := by
  unfold St.estimate
  split
  · rfl
  · split
    · rfl
    · split <;> rfl
theorem take_mem (s : St) (q inc : Int) (p : Pr) : (s.take q inc p).2.2.mem = s.mem := by
  unfold St.take
  split
  · rfl
  · split
    · rfl
    · split
      · rfl
      · split
        · rfl
        · dsimp only
          split
          · split
            · rfl
            · split <;> rfl
          · split
            · rfl
            · split <;> rfl
theorem install_rinv' {s : St} (h : RInv s) (hi : Inv s) : RInv s.install := install_rinv h hi
/-- The program's agent at block a in state s, the document's at block b in state t; what the blocks of G hold is nobody's row. -/
structure Duo (w0 : World) (a b : Nat) (G F : List Nat) (s t : St) (hs : List HdR) (X : Ptrs) (M : Option Addr) (cM : Nat) (w : World) : Prop where
  ag : AgAt w a s M cM
  rf : RefAt w b F t hs X
  rM : RowF w F 3 eMb M s.mem
  aG : a ∈ G
  gF : ∀ x ∈ G, x ∈ F ∧ x ≠ b ∧ blk X.A ≠ some x
  lo : ∀ x ∈ F, w0.heap.size ≤ x
  hi : ∀ x ∈ F, x < w.heap.size
  inv : Inv s
  rinv : RInv s
  invt : Inv t
  rinvt : RInv t
  bel : Below w0.heap.size w0 w
section
variable {w0 w w' : World} {a b : Nat} {G F : List Nat} {s t s' t' : St} {hs : List HdR} {X : Ptrs} {M : Option Addr} {cM : Nat}
theorem Duo.sz (h : Duo w0 a b G F s t hs X M cM w) : a < w.heap.size ∧ b < w.heap.size ∧ a ≠ b ∧ w0.heap.size ≤ a ∧ w0.heap.size ≤ b := by
  obtain ⟨h1, h2, _⟩ := h.gF a h.aG
  exact ⟨h.hi a h1, h.rf.bl, h2, h.lo a h1, h.lo b h.rf.bF⟩
theorem Duo.below (h : Duo w0 a b G F s t hs X M cM w) (hb : Below w.heap.size w w') : Duo w0 a b G F s t hs X M cM w' :=
  ⟨h.ag.same (hb.block a h.sz.1), h.rf.below hb, h.rM.below hb, h.aG, h.gF, h.lo, fun x hx => Nat.lt_of_lt_of_le (h.hi x hx) hb.size, h.inv, h.rinv, h.invt, h.rinvt, h.bel.trans (hb.mono (by have := h.bel.size; omega))⟩
/-- A new block joins those that hold nobody's row. -/
theorem Duo.add (h : Duo w0 a b G F s t hs X M cM w) (hb : Below w.heap.size w w') {g : Nat} (hg1 : w.heap.size ≤ g) (hg2 : g < w'.heap.size) : Duo w0 a b (g :: G) (g :: F) s t hs X M cM w' := by
  have hz := h.bel.size
  have h2 : ∀ x ∈ g :: F, x ∈ F ∨ w.heap.size ≤ x := fun x hx => (List.mem_cons.1 hx).elim (fun e => .inr (by omega)) .inl
  refine ⟨h.ag.same (hb.block a h.sz.1), (h.rf.more (fun x hx => List.mem_cons_of_mem _ hx) h2).below hb, (h.rM.more h2).below hb, List.mem_cons_of_mem _ h.aG, fun x hx => ?_, fun x hx => ?_, fun x hx => ?_, h.inv, h.rinv, h.invt, h.rinvt, h.bel.trans (hb.mono (by omega))⟩
  · rcases List.mem_cons.1 hx with e | e
    · subst e
      refine ⟨List.mem_cons_self .., by have := h.sz.2.1; omega, fun e => by have := h.hi _ (h.rf.aF _ e); omega⟩
    · obtain ⟨h3, h4, h5⟩ := h.gF x e
      exact ⟨List.mem_cons_of_mem _ h3, h4, h5⟩
  · rcases List.mem_cons.1 hx with e | e
    · omega
    · exact h.lo x e
  · rcases List.mem_cons.1 hx with e | e
    · omega
    · exact Nat.lt_of_lt_of_le (h.hi x e) hb.size
theorem Duo.own (h : Duo w0 a b G F s t hs X M cM w) (hl : ∀ x, x ∈ [a] → x ∈ G) : Duo w0 a b [a] F s t hs X M cM w :=
  ⟨h.ag, h.rf, h.rM, List.mem_cons_self .., fun x hx => h.gF x (hl x hx), h.lo, h.hi, h.inv, h.rinv, h.invt, h.rinvt, h.bel⟩
theorem grown_bel {x : Nat} (hb : Below w0.heap.size w0 w) (hg : w.grownBy w' (some x)) (hx : w0.heap.size ≤ x) : Below w0.heap.size w0 w' :=
  hb.grown hg (by have := hb.size; omega) (fun k hk => by injection hk with hk; omega)
/-- Such a block is written full. -/
theorem Duo.spoil (h : Duo w0 a b G F s t hs X M cM w) {x : Nat} (hx : x ∈ G) (hxa : x ≠ a) (hg : w.grownBy w' (some x)) : Duo w0 a b G F s t hs X M cM w' := by
  obtain ⟨h1, h2, h3⟩ := h.gF x hx
  exact ⟨h.ag.same (hg.block a h.sz.1 (by intro e; injection e with e; exact hxa e.symm)), h.rf.other hg h1 h2 h3, h.rM.keep hg.size (fun k hk hn => hg.block k hk (by intro e; injection e with e; subst e; exact hn h1)), h.aG, h.gF, h.lo, fun y hy => Nat.lt_of_lt_of_le (h.hi y hy) hg.size, h.inv, h.rinv, h.invt, h.rinvt, grown_bel h.bel hg (h.lo x h1)⟩
/-- The program's agent has been called. -/
theorem Duo.prog (h : Duo w0 a b G F s t hs X M cM w) (hl : Left w w' a s' M cM) (hm : s'.mem = s.mem) (hi : Inv s') (hr : RInv s') : Duo w0 a b G F s' t hs X M cM w' := by
  obtain ⟨h1, h2, h3⟩ := h.gF a h.aG
  have hg := hl.grown
  exact ⟨hl.at_, h.rf.other hg h1 h2 h3, by rw [hm]; exact h.rM.keep hg.size (fun k hk hn => hg.block k hk (by intro e; injection e with e; subst e; exact hn h1)), h.aG, h.gF, h.lo, fun y hy => Nat.lt_of_lt_of_le (h.hi y hy) hg.size, hi, hr, h.invt, h.rinvt, grown_bel h.bel hg (h.lo a h1)⟩
theorem Duo.progM (h : Duo w0 a b G F s t hs X M cM w) {M' : Option Addr} {cM' : Nat} (hl : Left w w' a s' M' cM') (hm : RowN w' w.heap.size 3 eMb M' s'.mem) (hi : Inv s') (hr : RInv s') : Duo w0 a b G F s' t hs X M' cM' w' := by
  obtain ⟨h1, h2, h3⟩ := h.gF a h.aG
  have hg := hl.grown
  exact ⟨hl.at_, h.rf.other hg h1 h2 h3, hm.away (fun x hx => h.hi x hx), h.aG, h.gF, h.lo, fun y hy => Nat.lt_of_lt_of_le (h.hi y hy) hg.size, hi, hr, h.invt, h.rinvt, grown_bel h.bel hg (h.lo a h1)⟩
/-- The document's agent has been called. -/
theorem Duo.ref (h : Duo w0 a b G F s t hs X M cM w) {n : Nat} (hl : RLeft w w' b F t' n (blk X.A)) (hi : Inv t') (hr : RInv t') :
    (∃ F' hs' X', Duo w0 a b G F' s t' hs' X' M cM w' ∧ hs'.length ≤ n) ∧ ∀ x ∈ G, w'.heap[x]? = w.heap[x]? := by
  obtain ⟨⟨F', hs', X', r, f1, f2, f3, hn, f4⟩, c⟩ := hl
  have hk : ∀ x ∈ G, w'.heap[x]? = w.heap[x]? := fun x hx => by
    obtain ⟨h1, h2, h3⟩ := h.gF x hx
    exact c.block x (h.hi x h1) h2 (fun e => h3 e.symm)
  refine ⟨⟨F', hs', X', ⟨h.ag.same (hk a h.aG), r, ?_, h.aG, fun x hx => ?_, fun x hx => ?_, f3, h.inv, h.rinv, hi, hr, ?_⟩, hn⟩, hk⟩
  · exact (h.rM.more f2).keep c.size (fun k hk hF => c.block k hk (fun e => hF (e ▸ f1 _ h.rf.bF)) (fun e => hF (f1 k (h.rf.aF k e.symm))))
  · obtain ⟨h1, h2, h3⟩ := h.gF x hx
    refine ⟨f1 x h1, h2, fun e => ?_⟩
    rcases f4 x e with e2 | e2
    · exact h3 e2
    · have := h.hi x h1; omega
  · rcases f2 x hx with e | e
    · exact h.lo x e
    · have := h.bel.size; omega
  · have hz := h.bel.size
    refine ⟨c.os.trans h.bel.os, c.tape.trans h.bel.tape, c.output.trans h.bel.output, Nat.le_trans hz c.size, fun k hk => (c.block k (by omega) (fun e => by have := h.lo b h.rf.bF; omega) (fun e => by have := h.lo k (h.rf.aF k e.symm); omega)).trans (h.bel.block k hk)⟩
end
end Go.Proofs.Ytfbeggdbjpmppaa
/- The law's plays: what is common. -/
namespace Go.Proofs.Ytfbeggdbjpmppaa
open Go.RowKit
/-- A call as it is handed over. -/
structure OpD where
  k : Int
  q : Int
  i : Int
  ls : List Int
  p : Pr
/-- Where its lists lie. -/
structure OpP where
  A : Option Addr
  cA : Nat
  S : Option Addr
  cS : Nat
  V : Option Addr
  cV : Nat
abbrev opA (o : OpD) (P : OpP) : Array Value := #[.int .i64 o.k, .int .i64 o.q, .int .i64 o.i, .slice P.A o.ls.length P.cA, .slice P.S o.p.set.length P.cS, .int .i64 o.p.cid, .int .i64 o.p.rev, .int .i64 o.p.top, .int .i64 o.p.prev.e, .int .i64 o.p.prev.l, .int .i64 o.p.prev.i, .int .i64 o.p.prev.c, .slice P.V o.p.vec.length P.cV]
/-- The lists of a call lie below block N, in world w. -/
structure OpAt (w : World) (N : Nat) (o : OpD) (P : OpP) : Prop where
  a : RowAt w N 1 eInt P.A o.ls
  s : RowAt w N 1 eInt P.S o.p.set
  v : RowAt w N 1 eInt P.V o.p.vec
  la : o.ls.length ≤ 2000000
  lS : o.p.set.length ≤ 2000000
  lv : o.p.vec.length ≤ 2000000
theorem OpAt.below {w w' : World} {N : Nat} {o : OpD} {P : OpP} (h : OpAt w N o P) (hb : Below N w w') : OpAt w' N o P := ⟨h.a.below hb (Nat.le_refl _), h.s.below hb (Nat.le_refl _), h.v.below hb (Nat.le_refl _), h.la, h.lS, h.lv⟩
/-- Behind a call: the answers were alike, both agents are in one state. -/
def PlPost (w0 : World) (a b : Nat) (n : Nat) (x : Ending) (w' : World) : Prop :=
  x = .returned (.bool true) ∧ ∃ F s hs X M cM, Duo w0 a b [a] F s s hs X M cM w' ∧ hs.length ≤ n
theorem Owns.there {w : World} {base g c : Nat} {l : List Int} (h : Owns w base 3 1 eInt (some ⟨g, 0, none⟩) c l) : w.there g 0 l.length := fun j hj => by
  rw [Nat.zero_add]
  refine ⟨?_, World.ownsRow.frozenAt h j⟩
  rw [World.ownsRow.cellAt h j (by omega)]
  rw [List.getElem?_eq_getElem (by rw [length_flat len_eInt]; omega)]; rfl
theorem Duo.adds {w0 w w' : World} {a b : Nat} {G F : List Nat} {s t : St} {hs : List HdR} {X : Ptrs} {M : Option Addr} {cM : Nat} (h : Duo w0 a b G F s t hs X M cM w) (hb : Below w.heap.size w w') (gs : List Nat) (hg : ∀ g ∈ gs, w.heap.size ≤ g ∧ g < w'.heap.size) : Duo w0 a b (gs ++ G) (gs ++ F) s t hs X M cM w' := by
  have hz := h.bel.size
  have h2 : ∀ x ∈ gs ++ F, x ∈ F ∨ w.heap.size ≤ x := fun x hx => (List.mem_append.1 hx).elim (fun e => .inr (hg x e).1) .inl
  refine ⟨h.ag.same (hb.block a h.sz.1), (h.rf.more (fun x hx => List.mem_append_right _ hx) h2).below hb, (h.rM.more h2).below hb, List.mem_append_right _ h.aG, fun x hx => ?_, fun x hx => ?_, fun x hx => ?_, h.inv, h.rinv, h.invt, h.rinvt, h.bel.trans (hb.mono (by omega))⟩
  · rcases List.mem_append.1 hx with e | e
    · have := (hg x e).1
      refine ⟨List.mem_append_left _ e, by have := h.sz.2.1; omega, fun e2 => by have := h.hi _ (h.rf.aF _ e2); omega⟩
    · obtain ⟨h3, h4, h5⟩ := h.gF x e
      exact ⟨List.mem_append_right _ h3, h4, h5⟩
  · rcases List.mem_append.1 hx with e | e
    · have := (hg x e).1; omega
    · exact h.lo x e
  · rcases List.mem_append.1 hx with e | e
    · exact (hg x e).2
    · exact Nat.lt_of_lt_of_le (h.hi x e) hb.size
theorem prSame_refl (p : Pr) (ls lv : List Int) : prSame p ls lv p ls lv = true := by unfold prSame vidEq; simp
theorem viSame_refl (v : Vid) (ms : List Mb) : viSame v ms v ms = true := by unfold viSame vidEq; simp
theorem estimate_any' (b : Nat) (s : St) (M : Option Addr) (cM : Nat) (A : Option Addr) (cA N n : Nat) (l : List Int) (w : World) (hn : l.length = n) (h : AgAt w b s M cM) (hb : b < w.heap.size) (hI : Inv s) (hN : N ≤ w.heap.size) (hA : RowAt w N 1 eInt A l) (hl : n ≤ 9223372036854775807) :
    Calls Try.prog 37 #[.pointer (some ⟨b, 0, none⟩), .slice A n cA] w fun x w' => x = .returned (.tuple #[.bool (s.estimate l).1, .int .i64 (s.estimate l).2.1]) ∧ Left w w' b (s.estimate l).2.2 M cM := by
  subst hn
  exact estimate_any b s M cM A cA N l w h hb hI hN hA hl
theorem row_prefix {w : World} {N : Nat} {A : Option Addr} {l m : List Int} (h : RowAt w N 1 eInt A (l ++ m)) : RowAt w N 1 eInt A l := fun h0 => by
  obtain ⟨b, off, e, hb, hc⟩ := h (by rw [List.length_append]; omega)
  exact ⟨b, off, e, hb, fun k x hx j u hu => hc k x (by rw [List.getElem?_append_left (List.getElem?_eq_some_iff.1 hx).1]; exact hx) j u hu⟩
end Go.Proofs.Ytfbeggdbjpmppaa
