/- Duty's second closure: is the message owed to the node q by the node self? -/
import Derived.Test.YtcffhfcjfjfokaaFirst
import Derived.Deep.RegionHeld3
namespace Go.Proofs.Ytcffhfcjfjfokaa
open Go.RowKit
open Classical in
/-- Is self the lowest node that has it? -/
noncomputable def firstB (who : List Int) (hs : List Bool) (self : Int) : Bool :=
  decide (∃ i : Nat, who[i]? = some self ∧ hs[i]? = some true ∧ ∀ (j : Nat) (y : Int), hs[j]? = some true → who[j]? = some y → self ≤ y)
theorem first_eq {who : List Int} {hs : List Bool} {r self : Int} (h : FirstIs who hs r) (h0 : 0 ≤ self) : (r == self) = firstB who hs self := by
  unfold firstB
  rcases h with ⟨rfl, hn⟩ | ⟨i, h1, h2, h3⟩
  · rw [beq_eq_false_iff_ne.2 (by omega)]
    symm
    refine @decide_eq_false _ (Classical.propDecidable _) ?_
    rintro ⟨i, hi, hh, _⟩
    exact hn i (List.getElem?_eq_some_iff.1 hi).1 hh
  · by_cases e : r = self
    · subst e
      rw [beq_self_eq_true]
      symm
      exact @decide_eq_true _ (Classical.propDecidable _) ⟨i, h1, h2, h3⟩
    · rw [beq_eq_false_iff_ne.2 e]
      symm
      refine @decide_eq_false _ (Classical.propDecidable _) ?_
      rintro ⟨j, k1, k2, k3⟩
      have := h3 j self k2 k1
      have := k3 i r h2 h1
      omega
theorem low_eq {who : List Int} {hs : List Bool} {r self : Int} {me : Nat} (h : LowTo who hs who.length r) (hm : who[me]? = some self) (hl : hs.length = who.length) (hn : who.Nodup) : (r == (me : Int)) = firstB who hs self := by
  unfold firstB
  rcases h with ⟨rfl, hn'⟩ | ⟨i, x, hi, h1, h2, rfl, h3⟩
  · rw [beq_eq_false_iff_ne.2 (by omega)]
    symm
    refine @decide_eq_false _ (Classical.propDecidable _) ?_
    rintro ⟨i, hi, hh, _⟩
    exact hn' i (List.getElem?_eq_some_iff.1 hi).1 hh
  · by_cases e : i = me
    · subst e
      rw [h2] at hm; cases hm
      rw [beq_self_eq_true]
      symm
      exact @decide_eq_true _ (Classical.propDecidable _) ⟨i, h2, h1, fun j y hj hy => h3 j y (List.getElem?_eq_some_iff.1 hy).1 hj hy⟩
    · rw [beq_eq_false_iff_ne.2 (by omega)]
      symm
      refine @decide_eq_false _ (Classical.propDecidable _) ?_
      rintro ⟨j, k1, k2, k3⟩
      have e2 : j = me := Decidable.byContradiction fun h => apart_of_nodup hn h k1 hm
      subst e2
      have a1 := h3 j self (List.getElem?_eq_some_iff.1 k1).1 k2 k1
      have a2 := k3 i x h1 h2
      have : x = self := by omega
      subst this
      exact apart_of_nodup hn e h2 k1
set_option maxRecDepth 100000 in
set_option maxHeartbeats 4000000 in
theorem owe_any (ba bp bq bf bs N q iy : Nat) (self : Int) (who arr : List Int) (A : Option Addr) (cA : Nat) (fs : List Fl) (f : Fl) (a b : Int) (w : World) (hN : N ≤ w.heap.size) (hbp : bp < w.heap.size) (hba : ba < w.heap.size) (hbq : bq < w.heap.size) (hbf : bf < w.heap.size) (hbs : bs < w.heap.size)
    (hcp : w.rangeAt bp 0 (arrC arr)) (hca : w.cell? ⟨ba, 0, none⟩ = some (.slice A who.length cA)) (hcq : w.cell? ⟨bq, 0, none⟩ = some (.int .i64 q)) (hcs : w.cell? ⟨bs, 0, none⟩ = some (.int .i64 self))
    (hcf : w.cell? ⟨bf, 0, none⟩ = some (.func (.func 67) #[] #[.pointer (some ⟨bp, 0, none⟩), .pointer (some ⟨ba, 0, none⟩)]))
    (hA : Fls w N A fs) (hlen : fs.length = who.length) (hl : who.length ≤ 9223372036854775807) (hP : PlArr who who.length arr) (hq : q < 16) (hy : arr[q]? = some ((iy : Int) + 1)) (hf : fs[iy]? = some f) (h0 : 0 ≤ self)
    (hs : ∀ f ∈ fs, 0 ≤ a ∧ a < f.have_.length) :
    Calls Try.prog 68 #[.agg #[.int .i64 a, .int .i64 b], .pointer (some ⟨ba, 0, none⟩), .pointer (some ⟨bp, 0, none⟩), .pointer (some ⟨bq, 0, none⟩), .pointer (some ⟨bf, 0, none⟩), .pointer (some ⟨bs, 0, none⟩)] w fun x w' => x = .returned (.bool (!havB f.have_ a b && firstB who (hadL fs a b) self)) ∧ Below w.heap.size w w' := by
  have hiy : iy < fs.length := (List.getElem?_eq_some_iff.1 hf).1
  obtain ⟨g', o', f', X, cX, Y, cY, rfl, hg', hf', ⟨c0, c1, c2, c3, c4, c5, c6⟩, hr⟩ := hA.at_ hiy
  obtain rfl : f = f' := by have := hf'.out; rw [hf] at this; cases this; rfl
  obtain ⟨hs0, hs1⟩ := hs f (List.mem_of_getElem? hf)
  have hgw : g' < w.heap.size := by omega
  have hcpq : w.cell? ⟨bp, q, none⟩ = some (.int .i64 ((iy : Int) + 1)) := by have := hcp q _ (arrC_at hy); rw [Nat.zero_add] at this; exact this
  have hbx : ∀ W : World, Below (w.heap.size + 1) (box1 w #[.int .i64 a, .int .i64 b] 66) W → Below w.heap.size w W := fun W h => (box1_facts h).1
  have hall : ∀ W : World, Below (w.heap.size + 1) (box1 w #[.int .i64 a, .int .i64 b] 66) W → (Below (w.heap.size + 1) (box1 w #[.int .i64 a, .int .i64 b] 66) W ∧ W.cell? ⟨w.heap.size, 0, none⟩ = some (.int .i64 a) ∧ W.cell? ⟨w.heap.size, 1, none⟩ = some (.int .i64 b) ∧
      W.cell? ⟨ba, 0, none⟩ = some (.slice (some ⟨g', o', none⟩) who.length cA) ∧ W.cell? ⟨bq, 0, none⟩ = some (.int .i64 q) ∧ W.cell? ⟨bp, q, none⟩ = some (.int .i64 ((iy : Int) + 1)) ∧
      W.cell? ⟨g', o' + iy * 7, none⟩ = some (.int .i64 f.e) ∧ W.cell? ⟨g', o' + iy * 7 + 1, none⟩ = some (.int .i64 f.l) ∧ W.cell? ⟨g', o' + iy * 7 + 2, none⟩ = some (.int .i64 f.i) ∧ W.cell? ⟨g', o' + iy * 7 + 3, none⟩ = some (.int .i64 f.c) ∧
      W.cell? ⟨g', o' + iy * 7 + 4, none⟩ = some (.int .i64 f.base) ∧ W.cell? ⟨g', o' + iy * 7 + 5, none⟩ = some (.slice X f.slots.length cX) ∧ W.cell? ⟨g', o' + iy * 7 + 6, none⟩ = some (.slice Y f.have_.length cY) ∧
      W.cell? ⟨bf, 0, none⟩ = some (.func (.func 67) #[] #[.pointer (some ⟨bp, 0, none⟩), .pointer (some ⟨ba, 0, none⟩)]) ∧ W.cell? ⟨bs, 0, none⟩ = some (.int .i64 self)) := fun W h => by
    have h1 := hbx W h
    obtain ⟨-, hc, -, -⟩ := box1_facts h
    exact ⟨h, hc 0, hc 1, (h1.cell (p := ⟨ba, 0, none⟩) hba).trans hca, (h1.cell (p := ⟨bq, 0, none⟩) hbq).trans hcq, (h1.cell (p := ⟨bp, q, none⟩) hbp).trans hcpq,
      (h1.cell (p := ⟨g', _, none⟩) hgw).trans c0, (h1.cell (p := ⟨g', _, none⟩) hgw).trans c1, (h1.cell (p := ⟨g', _, none⟩) hgw).trans c2, (h1.cell (p := ⟨g', _, none⟩) hgw).trans c3, (h1.cell (p := ⟨g', _, none⟩) hgw).trans c4, (h1.cell (p := ⟨g', _, none⟩) hgw).trans c5, (h1.cell (p := ⟨g', _, none⟩) hgw).trans c6,
      (h1.cell (p := ⟨bf, 0, none⟩) hbf).trans hcf, (h1.cell (p := ⟨bs, 0, none⟩) hbs).trans hcs⟩
  have h61 : ∀ W : World, Below (w.heap.size + 1) (box1 w #[.int .i64 a, .int .i64 b] 66) W → Calls Try.prog 61 #[.agg #[.int .i64 f.e, .int .i64 f.l, .int .i64 f.i, .int .i64 f.c, .int .i64 f.base, .slice X f.slots.length cX, .slice Y f.have_.length cY], .agg #[.int .i64 a, .int .i64 b]] W fun e W' => e = .returned (.bool (havB f.have_ a b)) ∧ Below (w.heap.size + 1) (box1 w #[.int .i64 a, .int .i64 b] 66) W' := fun W h => by
    have h1 := hbx W h
    exact (has_any f.e f.l f.i f.c f.base _ Y cY N f.have_ a b W hs0 hs1 (by have := h1.size; omega) (hr.have_.below h1 hN)).mono fun e W' ⟨e1, e2⟩ => ⟨e1, h.trans (e2.mono (by have := h.size; simpa using this))⟩
  have h67 : ∀ W : World, Below (w.heap.size + 1) (box1 w #[.int .i64 a, .int .i64 b] 66) W → Calls Try.prog 67 #[.agg #[.int .i64 a, .int .i64 b], .pointer (some ⟨bp, 0, none⟩), .pointer (some ⟨ba, 0, none⟩)] W fun e W' => (∃ r, e = .returned (.int .i64 r) ∧ (r == self) = firstB who (hadL fs a b) self) ∧ Below (w.heap.size + 1) (box1 w #[.int .i64 a, .int .i64 b] 66) W' := fun W h => by
    have h1 := hbx W h
    refine (first_any bp ba N who arr _ cA fs a b W (by have := h1.size; omega) (by have := h1.size; omega) (by have := h1.size; omega) (fun j v hv => (h1.cell (p := ⟨bp, 0 + j, none⟩) hbp).trans (hcp j v hv)) ((h1.cell (p := ⟨ba, 0, none⟩) hba).trans hca) (hA.below h1 hN) hlen hl hP hs).mono ?_
    rintro e W' ⟨⟨r, rfl, hfi⟩, e2⟩
    exact ⟨⟨r, rfl, first_eq hfi h0⟩, h.trans (e2.mono (by have := h.size; simpa using this))⟩
  have hwr : IntKind.i64.wrap ((iy : Int) + 1 - 1) = iy := by rw [show (iy : Int) + 1 - 1 = iy by omega]; exact IntWalk.i64_in _ (by omega)
  have hwr2 : IntKind.i64.wrap (iy : Int) = iy := IntWalk.i64_in _ (by omega)
  have hiw : iy < who.length := by omega
  have hq16 : (q : Int) < 16 := by omega
  replace hall := Lib.hid hall
  replace h61 := Lib.hid h61
  replace h67 := Lib.hid h67
  replace hbx := Lib.hid hbx
  clear hs hP hA hcp hf hf' hy hr
  cases hh : havB f.have_ a b with
  | true =>
    replace hh := Lib.hid hh
    go_enter Try.func68, Try.ntmps68
    go_wp2
    refine wp_region_mid 8 (by kernel_rfl) rfl (by kernel_rfl) ?_
    simp only [List.take_succ_cons, List.take_zero]
    repeat (refine WS.step (fun K hK => ?_); go_simp; refine hK.out _ ?_; clear hK K)
    refine WS.nil ?_
    intro K hK
    go_simp
    go_at_call 61
    refine (h61.out (box1 w #[.int .i64 a, .int .i64 b] 66).drew (Below.drew (Below.refl _ _))).mono ?_
    rintro e w2 ⟨rfl, hbw2⟩
    rw [hh.out]
    go_wp2_with fail
    refine hK.out _ _ ?_
    clear hK K
    simp only [List.drop_succ_cons, List.drop_zero]
    repeat (refine WS.step (fun K hK => ?_); go_simp; refine hK.out _ ?_; clear hK K)
    refine WS.nil ?_
    go_wp2
    go_ret
    exact ⟨ret_bool (by simp), hbx.out _ hbw2⟩
  | false =>
    replace hh := Lib.hid hh
    clear hca hcq hcs hcf c0 c1 c2 c3 c4 c5 c6 hcpq
    go_enter Try.func68, Try.ntmps68
    go_wp2
    go_region_held3 (fun W => Below (w.heap.size + 1) (box1 w #[.int .i64 a, .int .i64 b] 66) W ∧ W.cell? ⟨w.heap.size, 0, none⟩ = some (.int .i64 a) ∧ W.cell? ⟨w.heap.size, 1, none⟩ = some (.int .i64 b) ∧
      W.cell? ⟨ba, 0, none⟩ = some (.slice (some ⟨g', o', none⟩) who.length cA) ∧ W.cell? ⟨bq, 0, none⟩ = some (.int .i64 q) ∧ W.cell? ⟨bp, q, none⟩ = some (.int .i64 ((iy : Int) + 1)) ∧
      W.cell? ⟨g', o' + iy * 7, none⟩ = some (.int .i64 f.e) ∧ W.cell? ⟨g', o' + iy * 7 + 1, none⟩ = some (.int .i64 f.l) ∧ W.cell? ⟨g', o' + iy * 7 + 2, none⟩ = some (.int .i64 f.i) ∧ W.cell? ⟨g', o' + iy * 7 + 3, none⟩ = some (.int .i64 f.c) ∧
      W.cell? ⟨g', o' + iy * 7 + 4, none⟩ = some (.int .i64 f.base) ∧ W.cell? ⟨g', o' + iy * 7 + 5, none⟩ = some (.slice X f.slots.length cX) ∧ W.cell? ⟨g', o' + iy * 7 + 6, none⟩ = some (.slice Y f.have_.length cY) ∧
      W.cell? ⟨bf, 0, none⟩ = some (.func (.func 67) #[] #[.pointer (some ⟨bp, 0, none⟩), .pointer (some ⟨ba, 0, none⟩)]) ∧ W.cell? ⟨bs, 0, none⟩ = some (.int .i64 self))
      (first | exact hall.out _ (Below.drew (Below.refl _ _)) | exact hall.out _ hbw2 | go_keep)
      (first | (go_at_call 61; refine (h61.out _ (‹Below (w.heap.size + 1) _ _ ∧ _›).1).mono ?_; rintro e w2 ⟨rfl, hbw2⟩; rw [hh.out]) | (go_at_call 67; refine (h67.out _ (‹Below (w.heap.size + 1) _ _ ∧ _›).1).mono ?_; rintro e w2 ⟨⟨r, rfl, hfi⟩, hbw2⟩; replace hfi := Lib.hid hfi))
    have hbl := (‹Below (w.heap.size + 1) _ _ ∧ _›).1
    have hbz := hbx.out _ hbl
    go_wp2
    go_ret
    exact ⟨ret_bool (by rw [hfi.out]; simp), hbz⟩
end Go.Proofs.Ytcffhfcjfjfokaa
