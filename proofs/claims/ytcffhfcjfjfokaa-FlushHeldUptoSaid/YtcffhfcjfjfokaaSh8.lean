/- BoWr WrK Write BoGr, joined. -/
import Derived.Test.YtcffhfcjfjfokaaSh7
set_option linter.unusedVariables false
set_option linter.unusedSimpArgs false
/- The law's book: an element is written. -/
namespace Go.Proofs.Ytcffhfcjfjfokaa
open Go Go.RowKit
section
variable {W : World} {base hb : Nat} {x : BX} {o : List Value}
theorem Bo.wry (h : Bo W base hb x o) (hQ : x.y.Q = []) {i j g : Nat} {r : RowX Int} (hi : x.y.P[i]? = some r) (hg : r.A = some ⟨g, 0, none⟩) (hj : j < r.l.length) (v : Int) :
    Bo (W.setCells g (j * 1) (eByte v)) base hb { x with y := { x.y with P := x.y.P.set i ⟨r.A, r.c, r.l.set j v⟩ } } o := by
  have ho := h.y.k.o r (List.mem_of_getElem? hi)
  have hgr : W.grownBy (W.setCells g (j * 1) (eByte v)) (blk r.A) := by rw [hg]; exact grown_sets _ _ _ _
  have hbg : (W.setCells g (j * 1) (eByte v)).heap[hb]? = W.heap[hb]? := hgr.block hb (by have := h.hz; have := h.z; omega) (fun e => by
    have := (ho.lo hb e.symm).1
    have := h.hz
    omega)
  have hk := h.y.write len_eByte (by decide) hQ hi hg hj v
  refine ⟨hk, h.i.other ho (by decide) (by decide) hgr, h.s.other ho (by decide) (by decide) hgr, h.f.other ho (by decide) (by decide) hgr, h.d.other ho (by decide) (by decide) hgr, h.m.other ho (by decide) (by decide) hgr, ?_, there_same h.t hbg, h.hz, Nat.le_trans h.z hgr.size⟩
  have hr := range_same h.r hbg
  unfold kxC at hr ⊢
  dsimp only
  rw [List.length_set]
  exact hr
theorem Bo.wri (h : Bo W base hb x o) (hQ : x.i.Q = []) {i j g : Nat} {r : RowX Int} (hi : x.i.P[i]? = some r) (hg : r.A = some ⟨g, 0, none⟩) (hj : j < r.l.length) (v : Int) :
    Bo (W.setCells g (j * 1) (eInt v)) base hb { x with i := { x.i with P := x.i.P.set i ⟨r.A, r.c, r.l.set j v⟩ } } o := by
  have ho := h.i.k.o r (List.mem_of_getElem? hi)
  have hgr : W.grownBy (W.setCells g (j * 1) (eInt v)) (blk r.A) := by rw [hg]; exact grown_sets _ _ _ _
  have hbg : (W.setCells g (j * 1) (eInt v)).heap[hb]? = W.heap[hb]? := hgr.block hb (by have := h.hz; have := h.z; omega) (fun e => by
    have := (ho.lo hb e.symm).1
    have := h.hz
    omega)
  have hk := h.i.write len_eInt (by decide) hQ hi hg hj v
  refine ⟨h.y.other ho (by decide) (by decide) hgr, hk, h.s.other ho (by decide) (by decide) hgr, h.f.other ho (by decide) (by decide) hgr, h.d.other ho (by decide) (by decide) hgr, h.m.other ho (by decide) (by decide) hgr, ?_, there_same h.t hbg, h.hz, Nat.le_trans h.z hgr.size⟩
  have hr := range_same h.r hbg
  unfold kxC at hr ⊢
  dsimp only
  rw [List.length_set]
  exact hr
theorem Bo.wrs (h : Bo W base hb x o) (hQ : x.s.Q = []) {i j g : Nat} {r : RowX (Int × Int)} (hi : x.s.P[i]? = some r) (hg : r.A = some ⟨g, 0, none⟩) (hj : j < r.l.length) (v : (Int × Int)) :
    Bo (W.setCells g (j * 2) (eSlot v)) base hb { x with s := { x.s with P := x.s.P.set i ⟨r.A, r.c, r.l.set j v⟩ } } o := by
  have ho := h.s.k.o r (List.mem_of_getElem? hi)
  have hgr : W.grownBy (W.setCells g (j * 2) (eSlot v)) (blk r.A) := by rw [hg]; exact grown_sets _ _ _ _
  have hbg : (W.setCells g (j * 2) (eSlot v)).heap[hb]? = W.heap[hb]? := hgr.block hb (by have := h.hz; have := h.z; omega) (fun e => by
    have := (ho.lo hb e.symm).1
    have := h.hz
    omega)
  have hk := h.s.write len_eSlot (by decide) hQ hi hg hj v
  refine ⟨h.y.other ho (by decide) (by decide) hgr, h.i.other ho (by decide) (by decide) hgr, hk, h.f.other ho (by decide) (by decide) hgr, h.d.other ho (by decide) (by decide) hgr, h.m.other ho (by decide) (by decide) hgr, ?_, there_same h.t hbg, h.hz, Nat.le_trans h.z hgr.size⟩
  have hr := range_same h.r hbg
  unfold kxC at hr ⊢
  dsimp only
  rw [List.length_set]
  exact hr
theorem Bo.wrf (h : Bo W base hb x o) (hQ : x.f.Q = []) {i j g : Nat} {r : RowX Rw} (hi : x.f.P[i]? = some r) (hg : r.A = some ⟨g, 0, none⟩) (hj : j < r.l.length) (v : Rw) :
    Bo (W.setCells g (j * 7) (eRw v)) base hb { x with f := { x.f with P := x.f.P.set i ⟨r.A, r.c, r.l.set j v⟩ } } o := by
  have ho := h.f.k.o r (List.mem_of_getElem? hi)
  have hgr : W.grownBy (W.setCells g (j * 7) (eRw v)) (blk r.A) := by rw [hg]; exact grown_sets _ _ _ _
  have hbg : (W.setCells g (j * 7) (eRw v)).heap[hb]? = W.heap[hb]? := hgr.block hb (by have := h.hz; have := h.z; omega) (fun e => by
    have := (ho.lo hb e.symm).1
    have := h.hz
    omega)
  have hk := h.f.write len_eRw (by decide) hQ hi hg hj v
  refine ⟨h.y.other ho (by decide) (by decide) hgr, h.i.other ho (by decide) (by decide) hgr, h.s.other ho (by decide) (by decide) hgr, hk, h.d.other ho (by decide) (by decide) hgr, h.m.other ho (by decide) (by decide) hgr, ?_, there_same h.t hbg, h.hz, Nat.le_trans h.z hgr.size⟩
  have hr := range_same h.r hbg
  unfold kxC at hr ⊢
  dsimp only
  rw [List.length_set]
  exact hr
theorem Bo.wrd (h : Bo W base hb x o) (hQ : x.d.Q = []) {i j g : Nat} {r : RowX Dr} (hi : x.d.P[i]? = some r) (hg : r.A = some ⟨g, 0, none⟩) (hj : j < r.l.length) (v : Dr) :
    Bo (W.setCells g (j * 4) (eDr v)) base hb { x with d := { x.d with P := x.d.P.set i ⟨r.A, r.c, r.l.set j v⟩ } } o := by
  have ho := h.d.k.o r (List.mem_of_getElem? hi)
  have hgr : W.grownBy (W.setCells g (j * 4) (eDr v)) (blk r.A) := by rw [hg]; exact grown_sets _ _ _ _
  have hbg : (W.setCells g (j * 4) (eDr v)).heap[hb]? = W.heap[hb]? := hgr.block hb (by have := h.hz; have := h.z; omega) (fun e => by
    have := (ho.lo hb e.symm).1
    have := h.hz
    omega)
  have hk := h.d.write len_eDr (by decide) hQ hi hg hj v
  refine ⟨h.y.other ho (by decide) (by decide) hgr, h.i.other ho (by decide) (by decide) hgr, h.s.other ho (by decide) (by decide) hgr, h.f.other ho (by decide) (by decide) hgr, hk, h.m.other ho (by decide) (by decide) hgr, ?_, there_same h.t hbg, h.hz, Nat.le_trans h.z hgr.size⟩
  have hr := range_same h.r hbg
  unfold kxC at hr ⊢
  dsimp only
  rw [List.length_set]
  exact hr
theorem Bo.wrm (h : Bo W base hb x o) (hQ : x.m.Q = []) {i j g : Nat} {r : RowX Dr} (hi : x.m.P[i]? = some r) (hg : r.A = some ⟨g, 0, none⟩) (hj : j < r.l.length) (v : Dr) :
    Bo (W.setCells g (j * 4) (eDr v)) base hb { x with m := { x.m with P := x.m.P.set i ⟨r.A, r.c, r.l.set j v⟩ } } o := by
  have ho := h.m.k.o r (List.mem_of_getElem? hi)
  have hgr : W.grownBy (W.setCells g (j * 4) (eDr v)) (blk r.A) := by rw [hg]; exact grown_sets _ _ _ _
  have hbg : (W.setCells g (j * 4) (eDr v)).heap[hb]? = W.heap[hb]? := hgr.block hb (by have := h.hz; have := h.z; omega) (fun e => by
    have := (ho.lo hb e.symm).1
    have := h.hz
    omega)
  have hk := h.m.write len_eDr (by decide) hQ hi hg hj v
  refine ⟨h.y.other ho (by decide) (by decide) hgr, h.i.other ho (by decide) (by decide) hgr, h.s.other ho (by decide) (by decide) hgr, h.f.other ho (by decide) (by decide) hgr, h.d.other ho (by decide) (by decide) hgr, hk, ?_, there_same h.t hbg, h.hz, Nat.le_trans h.z hgr.size⟩
  have hr := range_same h.r hbg
  unfold kxC at hr ⊢
  dsimp only
  rw [List.length_set]
  exact hr
end
end Go.Proofs.Ytcffhfcjfjfokaa
/- Words for the law's write. -/
namespace Go.Proofs.Ytcffhfcjfjfokaa
open Go Go.RowKit
/-- The rows as they stand: those below i are full of their mark. -/
structure Shw {α : Type} (S : List (RowX α)) (R : List (RowX α)) (i : Nat) (m : Nat → α) : Prop where
  len : S.length = R.length
  same : ∀ (k : Nat) (x r : RowX α), S[k]? = some x → R[k]? = some r → x.A = r.A ∧ x.c = r.c ∧ x.l.length = r.l.length
  full : ∀ (k : Nat) (x : RowX α), k < i → S[k]? = some x → x.l = List.replicate x.l.length (m k)
section
variable {α : Type} {S R : List (RowX α)} {i j : Nat} {m : Nat → α} {x : RowX α}
theorem Shw.start (R : List (RowX α)) (m : Nat → α) : Shw R R 0 m := ⟨rfl, fun k x r hx hr => by rw [hx] at hr; injection hr with hr; subst hr; exact ⟨rfl, rfl, rfl⟩, fun k x hk _ => by omega⟩
theorem Shw.write (h : Shw S R i m) (hx : S[i]? = some x) (v : α) : Shw (S.set i ⟨x.A, x.c, x.l.set j v⟩) R i m := by
  have hi := (List.getElem?_eq_some_iff.1 hx).1
  refine ⟨by rw [List.length_set]; exact h.len, fun k y r hy hr => ?_, fun k y hk hy => ?_⟩
  · by_cases e : k = i
    · subst e
      rw [List.getElem?_set_self hi] at hy; injection hy with hy; subst hy
      have := h.same k x r hx hr
      exact ⟨this.1, this.2.1, by rw [List.length_set]; exact this.2.2⟩
    · rw [List.getElem?_set_ne (fun e2 => e e2.symm)] at hy; exact h.same k y r hy hr
  · rw [List.getElem?_set_ne (by omega)] at hy; exact h.full k y hk hy
theorem Shw.next (h : Shw S R i m) (hx : S[i]? = some x) (hf : ∀ t, t < x.l.length → x.l[t]? = some (m i)) : Shw S R (i + 1) m :=
  ⟨h.len, h.same, fun k y hk hy => by
    by_cases e : k = i
    · subst e; rw [hx] at hy; injection hy with hy; subst hy
      apply List.ext_getElem?
      intro t
      by_cases ht : t < x.l.length
      · rw [hf t ht, List.getElem?_replicate, if_pos ht]
      · rw [List.getElem?_eq_none (by omega), List.getElem?_eq_none (by rw [List.length_replicate]; omega)]
    · exact h.full k y (by omega) hy⟩
theorem Kb.row {α : Type} {W : World} {base sz : Nat} {tl e : TypeId} {enc : α → List Value} {zs : Nat → List α} {x : KX α} (h : Kb W base tl e sz enc zs x) {i : Nat} {r : RowX α} (hi : x.P[i]? = some r) : ∃ g, x.L = some ⟨g, 0, none⟩ ∧ W.cell? ⟨g, i, none⟩ = some (.slice r.A r.l.length r.c) := by
  obtain ⟨g, e, hc⟩ := h.l.cell len_eTr (k := i) (x := rowT r) (by rw [List.getElem?_map, hi]; rfl)
  refine ⟨g, e, ?_⟩
  have := hc 0 _ rfl
  rw [Nat.mul_one, Nat.add_zero] at this
  exact this
end
end Go.Proofs.Ytcffhfcjfjfokaa
/- The law's write: every list full of its own mark. -/
namespace Go.Proofs.Ytcffhfcjfjfokaa
open Go Go.RowKit
/-- All blocks of a kind, or of the book, are in S. -/
def KxIn {α : Type} (x : KX α) (S : List Nat) : Prop := (∀ r ∈ x.P, ∀ q, blk r.A = some q → q ∈ S) ∧ (∀ q, blk x.L = some q → q ∈ S) ∧ (∀ q, blk x.M = some q → q ∈ S)
structure BkIn (x : BX) (S : List Nat) : Prop where
  y : KxIn x.y S
  i : KxIn x.i S
  s : KxIn x.s S
  f : KxIn x.f S
  d : KxIn x.d S
  m : KxIn x.m S
theorem Shw.inS {α : Type} {T R : List (RowX α)} {i k : Nat} {m : Nat → α} {r : RowX α} {S : List Nat} (h : Shw T R i m) (hS : ∀ r ∈ R, ∀ q, blk r.A = some q → q ∈ S) (hr : T[k]? = some r) : ∀ q, blk r.A = some q → q ∈ S := fun q hq => by
  have hk := (List.getElem?_eq_some_iff.1 hr).1
  have hk2 : R[k]? = some (R[k]'(by have := h.len; omega)) := List.getElem?_eq_getElem _
  have e := (h.same k r _ hr hk2).1
  exact hS _ (List.getElem_mem _) q (by rw [← e]; exact hq)
theorem bldS (W : World) (n : Int) : (Instr.build 66 #[(1, .int .i64 n)]).run Try.prog W = .ok (.agg (eSlot (0, n)).toArray) W := by kernel_rfl
theorem bldF (W : World) (n : Int) : (Instr.build 39 #[(1, .int .i64 n)]).run Try.prog W = .ok (.agg #[.int .i64 0, .int .i64 0, .int .i64 0, .int .i64 0, .int .i64 n, .slice none 0 0, .slice none 0 0]) W := by kernel_rfl
theorem bldD (W : World) (n : Int) : (Instr.build 113 #[(1, .int .i64 n)]).run Try.prog W = .ok (.agg #[.int .i64 0, .int .i64 n, .int .i64 0, .slice none 0 0]) W := by kernel_rfl
theorem bldM (W : World) (n : Int) : (Instr.build 54 #[(2, .int .i64 n)]).run Try.prog W = .ok (.agg #[.int .i64 0, .int .i64 0, .int .i64 n, .slice none 0 0]) W := by kernel_rfl
set_option maxRecDepth 100000 in
set_option maxHeartbeats 4000000 in
theorem write_any {w : World} {base hb : Nat} {x : BX} {o : List Value} {S : List Nat} (hS : BkIn x S) (h : Bo w base hb x o) (qy : x.y.Q = []) (qi : x.i.Q = []) (qs : x.s.Q = []) (qf : x.f.Q = []) (qd : x.d.Q = []) (qm : x.m.Q = []) (bl : x.y.P.length ≤ 1000000000000 ∧ x.i.P.length ≤ 1000000000000 ∧ x.s.P.length ≤ 1000000000000 ∧ x.f.P.length ≤ 1000000000000 ∧ x.d.P.length ≤ 1000000000000 ∧ x.m.P.length ≤ 1000000000000) : Calls Try.prog 91 #[.pointer (some ⟨hb, 0, none⟩)] w fun e w' => e = .returned (.tuple #[]) ∧ Fx S w w' ∧ ∃ Sy Si Ss Sf Sd Sm, Shw Sy x.y.P x.y.P.length byM ∧ Shw Si x.i.P x.i.P.length inM ∧ Shw Ss x.s.P x.s.P.length slM ∧ Shw Sf x.f.P x.f.P.length flM ∧ Shw Sd x.d.P x.d.P.length daM ∧ Shw Sm x.m.P x.m.P.length msM ∧ Bo w' base hb ⟨{ x.y with P := Sy }, { x.i with P := Si }, { x.s with P := Ss }, { x.f with P := Sf }, { x.d with P := Sd }, { x.m with P := Sm }⟩ o := by
  refine calls_vc tab_ok Try.func91 rfl ?_
  obtain ⟨bl1, bl2, bl3, bl4, bl5, bl6⟩ := bl
  have HW : Fx S w w := Fx.refl _ _
  have HB : Bo w base hb x o := h
  repeat (conv => whnf
          first
          | (refine VCmp.tt (by omega) ?_)
          | (refine VCmp.ff (by omega) ?_)
          | (refine VIn.mk (IntWalk.i64_in _ (by omega)) ?_)
          | (refine VIdx.mk _ rfl (by omega) ?_)
          | (refine VIdx.mk 0 rfl (by omega) ?_))
  try (conv => whnf)
  -- kind y
  refine VLoop.mk (Nat × List (RowX Int)) (fun u => [(0, .pointer (some ⟨hb, 0, none⟩)), (2, .int .i64 u.1)]) (fun u W => u.1 ≤ x.y.P.length ∧ Bo W base hb ((fun T => (⟨{ x.y with P := T }, x.i, x.s, x.f, x.d, x.m⟩ : BX)) u.2) o ∧ Shw u.2 x.y.P u.1 byM ∧ Fx S w W) (fun u => x.y.P.length - u.1) (0, x.y.P) ⟨rfl, rfl, trivial⟩ ⟨Nat.zero_le _, HB, Shw.start _ _, HW⟩ ?_
  clear HB HW
  rintro ⟨i, Sy⟩ wry ⟨hi, B, hSy, bw⟩
  dsimp only at hi B hSy ⊢
  have hSl := hSy.len
  have L1 : ∀ W T', Bo W base hb ((fun T => (⟨{ x.y with P := T }, x.i, x.s, x.f, x.d, x.m⟩ : BX)) T') o → Ld Try.prog 51 hb 0 (Eq W) (.slice x.y.L T'.length x.y.cL) := fun W T' B' => .of (load_cell (by kernel_rfl) (B'.r 0 _ rfl))
  have L1w := L1 wry Sy B
  by_cases hil : i < x.y.P.length
  case pos =>
    repeat (conv => whnf
            first
            | (refine VLoad.mk _ L1w ?_)
            | (refine VCmp.tt (by omega) ?_)
            | (refine VCmp.ff (by omega) ?_)
            | (refine VIn.mk (IntWalk.i64_in _ (by omega)) ?_)
            | (refine VIdx.mk _ rfl (by omega) ?_)
            | (refine VIdx.mk 0 rfl (by omega) ?_))
    try (conv => whnf)
    refine VLoop.mk (Nat × List (RowX Int)) (fun u => [(0, .pointer (some ⟨hb, 0, none⟩)), (2, .int .i64 i), (3, .int .i64 u.1)]) (fun u W => Bo W base hb ((fun T => (⟨{ x.y with P := T }, x.i, x.s, x.f, x.d, x.m⟩ : BX)) u.2) o ∧ Shw u.2 x.y.P i byM ∧ Fx S w W ∧ ∃ r, u.2[i]? = some r ∧ u.1 ≤ r.l.length ∧ ∀ t, t < u.1 → r.l[t]? = some (byM i)) (fun u => ((u.2[i]?).map fun r => r.l.length).getD 0 - u.1) (0, Sy) ⟨rfl, rfl, rfl, trivial⟩ ⟨B, hSy, bw, _, List.getElem?_eq_getElem (show i < Sy.length by omega), Nat.zero_le _, fun t ht => absurd ht (Nat.not_lt_zero _)⟩ ?_
    clear B hSy bw L1w hSl
    rintro ⟨j, T⟩ wj ⟨B, hSy, bw, r, hr, hj, hf⟩
    dsimp only at B hSy hr hj hf ⊢
    have hSl := hSy.len
    have L1w := L1 wj T B
    obtain ⟨gL, hgL, hcL⟩ := B.y.row hr
    dsimp only at hgL
    rw [hgL] at L1w
    have L2 : Ld Try.prog 52 gL (0 + i) (Eq wj) (.slice r.A r.l.length r.c) := .of (load_cell (by kernel_rfl) (by rw [Nat.zero_add]; exact hcL))
    have hlc := B.y.l.len
    dsimp only at hlc
    rw [List.length_map] at hlc
    have hrc := (B.y.k.o r (List.mem_of_getElem? hr)).len
    by_cases hjl : j < r.l.length
    case pos =>
      obtain ⟨g, hg, _⟩ := (B.y.k.o r (List.mem_of_getElem? hr)).cell len_eByte (show r.l[j]? = some (r.l[j]'(by omega)) from List.getElem?_eq_getElem _)
      rw [hg] at L2
      repeat (conv => whnf
              first
              | (refine VLoad.mk _ L1w ?_)
              | (refine VLoad.mk _ L2 ?_)
              | (refine VCmp.tt (by omega) ?_)
              | (refine VCmp.ff (by omega) ?_)
              | (refine VIn.mk (IntWalk.i64_in _ (by omega)) ?_)
              | (refine VIdx.mk _ rfl (by omega) ?_)
              | (refine VIdx.mk 0 rfl (by omega) ?_))
      try (conv => whnf)
      have Bd := B.below (Below.refl _ _).drew
      have L1d := L1 wj.drew T Bd
      rw [hgL] at L1d
      have L2d : Ld Try.prog 52 gL (0 + i) (Eq wj.drew) (.slice r.A r.l.length r.c) := .of (load_cell (by kernel_rfl) (by rw [Nat.zero_add]; exact hcL))
      rw [hg] at L2d
      have hrow := Bd.y.k.o r (List.mem_of_getElem? hr)
      have hth : wj.drew.there g 0 (r.l.length * 1) := by rw [hg] at hrow; exact hrow.there len_eByte
      refine VDraw.mk 11 [([0, 1, 2, 3, 4, 5, 6, 7, 8], 9), ([10], 11)] [] (Eq wj.drew) (by kernel_rfl) (by kernel_rfl) (rfl) ?_
      repeat (conv => whnf
              first
              | (refine VLoad.mk _ L1d ?_)
              | (refine VLoad.mk _ L2d ?_)
              | (refine VCmp.tt (by omega) ?_)
              | (refine VCmp.ff (by omega) ?_)
              | (refine VIn.mk (IntWalk.i64_in _ (by omega)) ?_)
              | (refine VIdx.mk _ rfl (by omega) ?_)
              | (refine VIdx.mk 0 rfl (by omega) ?_))
      try (conv => whnf)
      refine VCall.mk _ (byteOf_any i wj.drew) ?_
      rintro _ wk ⟨rfl, hwk⟩
      refine ⟨_, rfl, ?_⟩
      rw [← hwk]
      repeat (conv => whnf
              first
              | (refine VS.mk rfl ?_)
              | (refine VCmp.tt (by omega) ?_)
              | (refine VCmp.ff (by omega) ?_)
              | (refine VIn.mk (IntWalk.i64_in _ (by omega)) ?_)
              | (refine VIdx.mk _ rfl (by omega) ?_)
              | (refine VIdx.mk 0 rfl (by omega) ?_))
      try (conv => whnf)
      refine VStore.cell (by kernel_rfl) (hth j (by omega)).1 (hth j (by omega)).2 rfl rfl fun w2 hw2 => ?_
      have hw2' : w2 = wj.drew.setCells g (j * 1) (eByte (byM i)) := by rw [hw2.out, Nat.mul_one, show 0 + mulO j 1 = j by rw [mulO_eq]; omega]; rfl
      have B2 := Bd.wry qy hr hg hjl (byM i)
      have b2 : Fx S w w2 := by
        rw [hw2']
        exact (bw.drew).trans (.grown (grown_sets _ _ _ _) fun q hq => by injection hq with hq; subst hq; exact hSy.inS hS.y.1 hr g (by rw [hg]; rfl)) fun k hk => .inl hk
      repeat (conv => whnf
              first
              | (refine VS.last rfl ?_)
              | (refine VCmp.tt (by omega) ?_)
              | (refine VCmp.ff (by omega) ?_)
              | (refine VIn.mk (IntWalk.i64_in _ (by omega)) ?_)
              | (refine VIdx.mk _ rfl (by omega) ?_)
              | (refine VIdx.mk 0 rfl (by omega) ?_))
      try (conv => whnf)
      refine .mk (j + 1, T.set i ⟨r.A, r.c, r.l.set j (byM i)⟩) ⟨rfl, rfl, rfl, trivial⟩ ⟨by rw [hw2']; exact B2, hSy.write hr _, b2, _, List.getElem?_set_self (List.getElem?_eq_some_iff.1 hr).1, by show j + 1 ≤ (r.l.set j _).length; rw [List.length_set]; omega, fun t ht => ?_⟩ ?_
      · show (r.l.set j _)[t]? = _
        by_cases e : t = j
        · subst e; rw [List.getElem?_set_self (by omega)]
        · rw [List.getElem?_set_ne (fun e2 => e e2.symm)]; exact hf t (by have : t < j + 1 := ht; omega)
      · show _ - (j + 1) < _ - j
        dsimp only
        rw [List.getElem?_set_self (List.getElem?_eq_some_iff.1 hr).1, hr]
        simp only [Option.map_some, Option.getD_some, List.length_set]
        omega
    case neg =>
      repeat (conv => whnf
              first
              | (refine VLoad.mk _ L1w ?_)
              | (refine VLoad.mk _ L2 ?_)
              | (refine VCmp.tt (by omega) ?_)
              | (refine VCmp.ff (by omega) ?_)
              | (refine VIn.mk (IntWalk.i64_in _ (by omega)) ?_)
              | (refine VIdx.mk _ rfl (by omega) ?_)
              | (refine VIdx.mk 0 rfl (by omega) ?_))
      try (conv => whnf)
      refine .mk (i + 1, T) ⟨rfl, rfl, trivial⟩ ⟨hil, B, hSy.next hr fun t ht => hf t (by omega), bw⟩ (by show _ - (i + 1) < _ - i; omega)
  repeat (conv => whnf
          first
          | (refine VLoad.mk _ L1w ?_)
          | (refine VCmp.tt (by omega) ?_)
          | (refine VCmp.ff (by omega) ?_)
          | (refine VIn.mk (IntWalk.i64_in _ (by omega)) ?_)
          | (refine VIdx.mk _ rfl (by omega) ?_)
          | (refine VIdx.mk 0 rfl (by omega) ?_))
  try (conv => whnf)
  rw [show i = x.y.P.length by omega] at hSy
  have HW : Fx S w wry := bw
  have HB := B
  clear L1 L1w B bw hSl hil hi
  -- kind i
  refine VLoop.mk (Nat × List (RowX Int)) (fun u => [(0, .pointer (some ⟨hb, 0, none⟩)), (4, .int .i64 u.1)]) (fun u W => u.1 ≤ x.i.P.length ∧ Bo W base hb ((fun T => (⟨{ x.y with P := Sy }, { x.i with P := T }, x.s, x.f, x.d, x.m⟩ : BX)) u.2) o ∧ Shw u.2 x.i.P u.1 inM ∧ Fx S w W) (fun u => x.i.P.length - u.1) (0, x.i.P) ⟨rfl, rfl, trivial⟩ ⟨Nat.zero_le _, HB, Shw.start _ _, HW⟩ ?_
  clear HB HW
  rintro ⟨i, Si⟩ wri ⟨hi, B, hSi, bw⟩
  dsimp only at hi B hSi ⊢
  have hSl := hSi.len
  have L1 : ∀ W T', Bo W base hb ((fun T => (⟨{ x.y with P := Sy }, { x.i with P := T }, x.s, x.f, x.d, x.m⟩ : BX)) T') o → Ld Try.prog 99 hb 2 (Eq W) (.slice x.i.L T'.length x.i.cL) := fun W T' B' => .of (load_cell (by kernel_rfl) (B'.r 2 _ rfl))
  have L1w := L1 wri Si B
  by_cases hil : i < x.i.P.length
  case pos =>
    repeat (conv => whnf
            first
            | (refine VLoad.mk _ L1w ?_)
            | (refine VCmp.tt (by omega) ?_)
            | (refine VCmp.ff (by omega) ?_)
            | (refine VIn.mk (IntWalk.i64_in _ (by omega)) ?_)
            | (refine VIdx.mk _ rfl (by omega) ?_)
            | (refine VIdx.mk 0 rfl (by omega) ?_))
    try (conv => whnf)
    refine VLoop.mk (Nat × List (RowX Int)) (fun u => [(0, .pointer (some ⟨hb, 0, none⟩)), (4, .int .i64 i), (5, .int .i64 u.1)]) (fun u W => Bo W base hb ((fun T => (⟨{ x.y with P := Sy }, { x.i with P := T }, x.s, x.f, x.d, x.m⟩ : BX)) u.2) o ∧ Shw u.2 x.i.P i inM ∧ Fx S w W ∧ ∃ r, u.2[i]? = some r ∧ u.1 ≤ r.l.length ∧ ∀ t, t < u.1 → r.l[t]? = some (inM i)) (fun u => ((u.2[i]?).map fun r => r.l.length).getD 0 - u.1) (0, Si) ⟨rfl, rfl, rfl, trivial⟩ ⟨B, hSi, bw, _, List.getElem?_eq_getElem (show i < Si.length by omega), Nat.zero_le _, fun t ht => absurd ht (Nat.not_lt_zero _)⟩ ?_
    clear B hSi bw L1w hSl
    rintro ⟨j, T⟩ wj ⟨B, hSi, bw, r, hr, hj, hf⟩
    dsimp only at B hSi hr hj hf ⊢
    have hSl := hSi.len
    have L1w := L1 wj T B
    obtain ⟨gL, hgL, hcL⟩ := B.i.row hr
    dsimp only at hgL
    rw [hgL] at L1w
    have L2 : Ld Try.prog 37 gL (0 + i) (Eq wj) (.slice r.A r.l.length r.c) := .of (load_cell (by kernel_rfl) (by rw [Nat.zero_add]; exact hcL))
    have hlc := B.i.l.len
    dsimp only at hlc
    rw [List.length_map] at hlc
    have hrc := (B.i.k.o r (List.mem_of_getElem? hr)).len
    by_cases hjl : j < r.l.length
    case pos =>
      obtain ⟨g, hg, _⟩ := (B.i.k.o r (List.mem_of_getElem? hr)).cell len_eInt (show r.l[j]? = some (r.l[j]'(by omega)) from List.getElem?_eq_getElem _)
      rw [hg] at L2
      repeat (conv => whnf
              first
              | (refine VLoad.mk _ L1w ?_)
              | (refine VLoad.mk _ L2 ?_)
              | (refine VCmp.tt (by omega) ?_)
              | (refine VCmp.ff (by omega) ?_)
              | (refine VIn.mk (IntWalk.i64_in _ (by omega)) ?_)
              | (refine VIdx.mk _ rfl (by omega) ?_)
              | (refine VIdx.mk 0 rfl (by omega) ?_))
      try (conv => whnf)
      have hrow := B.i.k.o r (List.mem_of_getElem? hr)
      have hth : wj.there g 0 (r.l.length * 1) := by rw [hg] at hrow; exact hrow.there len_eInt
      refine VStore.cell (by kernel_rfl) (hth j (by omega)).1 (hth j (by omega)).2 rfl rfl fun w2 hw2 => ?_
      have hw2' : w2 = wj.setCells g (j * 1) (eInt (inM i)) := by rw [hw2.out, Nat.mul_one, show 0 + mulO j 1 = j by rw [mulO_eq]; omega]; rfl
      have B2 := B.wri qi hr hg hjl (inM i)
      have b2 : Fx S w w2 := by
        rw [hw2']
        exact bw.trans (.grown (grown_sets _ _ _ _) fun q hq => by injection hq with hq; subst hq; exact hSi.inS hS.i.1 hr g (by rw [hg]; rfl)) fun k hk => .inl hk
      repeat (conv => whnf
              first
              | (refine VCmp.tt (by omega) ?_)
              | (refine VCmp.ff (by omega) ?_)
              | (refine VIn.mk (IntWalk.i64_in _ (by omega)) ?_)
              | (refine VIdx.mk _ rfl (by omega) ?_)
              | (refine VIdx.mk 0 rfl (by omega) ?_))
      try (conv => whnf)
      refine .mk (j + 1, T.set i ⟨r.A, r.c, r.l.set j (inM i)⟩) ⟨rfl, rfl, rfl, trivial⟩ ⟨by rw [hw2']; exact B2, hSi.write hr _, b2, _, List.getElem?_set_self (List.getElem?_eq_some_iff.1 hr).1, by show j + 1 ≤ (r.l.set j _).length; rw [List.length_set]; omega, fun t ht => ?_⟩ ?_
      · show (r.l.set j _)[t]? = _
        by_cases e : t = j
        · subst e; rw [List.getElem?_set_self (by omega)]
        · rw [List.getElem?_set_ne (fun e2 => e e2.symm)]; exact hf t (by have : t < j + 1 := ht; omega)
      · show _ - (j + 1) < _ - j
        dsimp only
        rw [List.getElem?_set_self (List.getElem?_eq_some_iff.1 hr).1, hr]
        simp only [Option.map_some, Option.getD_some, List.length_set]
        omega
    case neg =>
      repeat (conv => whnf
              first
              | (refine VLoad.mk _ L1w ?_)
              | (refine VLoad.mk _ L2 ?_)
              | (refine VCmp.tt (by omega) ?_)
              | (refine VCmp.ff (by omega) ?_)
              | (refine VIn.mk (IntWalk.i64_in _ (by omega)) ?_)
              | (refine VIdx.mk _ rfl (by omega) ?_)
              | (refine VIdx.mk 0 rfl (by omega) ?_))
      try (conv => whnf)
      refine .mk (i + 1, T) ⟨rfl, rfl, trivial⟩ ⟨hil, B, hSi.next hr fun t ht => hf t (by omega), bw⟩ (by show _ - (i + 1) < _ - i; omega)
  repeat (conv => whnf
          first
          | (refine VLoad.mk _ L1w ?_)
          | (refine VCmp.tt (by omega) ?_)
          | (refine VCmp.ff (by omega) ?_)
          | (refine VIn.mk (IntWalk.i64_in _ (by omega)) ?_)
          | (refine VIdx.mk _ rfl (by omega) ?_)
          | (refine VIdx.mk 0 rfl (by omega) ?_))
  try (conv => whnf)
  rw [show i = x.i.P.length by omega] at hSi
  have HW : Fx S w wri := bw
  have HB := B
  clear L1 L1w B bw hSl hil hi
  -- kind s
  refine VLoop.mk (Nat × List (RowX (Int × Int))) (fun u => [(0, .pointer (some ⟨hb, 0, none⟩)), (6, .int .i64 u.1)]) (fun u W => u.1 ≤ x.s.P.length ∧ Bo W base hb ((fun T => (⟨{ x.y with P := Sy }, { x.i with P := Si }, { x.s with P := T }, x.f, x.d, x.m⟩ : BX)) u.2) o ∧ Shw u.2 x.s.P u.1 slM ∧ Fx S w W) (fun u => x.s.P.length - u.1) (0, x.s.P) ⟨rfl, rfl, trivial⟩ ⟨Nat.zero_le _, HB, Shw.start _ _, HW⟩ ?_
  clear HB HW
  rintro ⟨i, Ss⟩ wrs ⟨hi, B, hSs, bw⟩
  dsimp only at hi B hSs ⊢
  have hSl := hSs.len
  have L1 : ∀ W T', Bo W base hb ((fun T => (⟨{ x.y with P := Sy }, { x.i with P := Si }, { x.s with P := T }, x.f, x.d, x.m⟩ : BX)) T') o → Ld Try.prog 100 hb 4 (Eq W) (.slice x.s.L T'.length x.s.cL) := fun W T' B' => .of (load_cell (by kernel_rfl) (B'.r 4 _ rfl))
  have L1w := L1 wrs Ss B
  by_cases hil : i < x.s.P.length
  case pos =>
    repeat (conv => whnf
            first
            | (refine VLoad.mk _ L1w ?_)
            | (refine VCmp.tt (by omega) ?_)
            | (refine VCmp.ff (by omega) ?_)
            | (refine VIn.mk (IntWalk.i64_in _ (by omega)) ?_)
            | (refine VIdx.mk _ rfl (by omega) ?_)
            | (refine VIdx.mk 0 rfl (by omega) ?_))
    try (conv => whnf)
    refine VLoop.mk (Nat × List (RowX (Int × Int))) (fun u => [(0, .pointer (some ⟨hb, 0, none⟩)), (6, .int .i64 i), (7, .int .i64 u.1)]) (fun u W => Bo W base hb ((fun T => (⟨{ x.y with P := Sy }, { x.i with P := Si }, { x.s with P := T }, x.f, x.d, x.m⟩ : BX)) u.2) o ∧ Shw u.2 x.s.P i slM ∧ Fx S w W ∧ ∃ r, u.2[i]? = some r ∧ u.1 ≤ r.l.length ∧ ∀ t, t < u.1 → r.l[t]? = some (slM i)) (fun u => ((u.2[i]?).map fun r => r.l.length).getD 0 - u.1) (0, Ss) ⟨rfl, rfl, rfl, trivial⟩ ⟨B, hSs, bw, _, List.getElem?_eq_getElem (show i < Ss.length by omega), Nat.zero_le _, fun t ht => absurd ht (Nat.not_lt_zero _)⟩ ?_
    clear B hSs bw L1w hSl
    rintro ⟨j, T⟩ wj ⟨B, hSs, bw, r, hr, hj, hf⟩
    dsimp only at B hSs hr hj hf ⊢
    have hSl := hSs.len
    have L1w := L1 wj T B
    obtain ⟨gL, hgL, hcL⟩ := B.s.row hr
    dsimp only at hgL
    rw [hgL] at L1w
    have L2 : Ld Try.prog 36 gL (0 + i) (Eq wj) (.slice r.A r.l.length r.c) := .of (load_cell (by kernel_rfl) (by rw [Nat.zero_add]; exact hcL))
    have hlc := B.s.l.len
    dsimp only at hlc
    rw [List.length_map] at hlc
    have hrc := (B.s.k.o r (List.mem_of_getElem? hr)).len
    by_cases hjl : j < r.l.length
    case pos =>
      obtain ⟨g, hg, _⟩ := (B.s.k.o r (List.mem_of_getElem? hr)).cell len_eSlot (show r.l[j]? = some (r.l[j]'(by omega)) from List.getElem?_eq_getElem _)
      rw [hg] at L2
      repeat (conv => whnf
              first
              | (refine VLoad.mk _ L1w ?_)
              | (refine VLoad.mk _ L2 ?_)
              | (refine VCmp.tt (by omega) ?_)
              | (refine VCmp.ff (by omega) ?_)
              | (refine VIn.mk (IntWalk.i64_in _ (by omega)) ?_)
              | (refine VIdx.mk _ rfl (by omega) ?_)
              | (refine VIdx.mk 0 rfl (by omega) ?_))
      try (conv => whnf)
      have hrow := B.s.k.o r (List.mem_of_getElem? hr)
      have hth : wj.there g 0 (r.l.length * 2) := by rw [hg] at hrow; exact hrow.there len_eSlot
      refine VBuild.mk _ (fun W => bldS W _) ?_
      repeat (conv => whnf
              first
              | (refine VCmp.tt (by omega) ?_)
              | (refine VCmp.ff (by omega) ?_)
              | (refine VIn.mk (IntWalk.i64_in _ (by omega)) ?_)
              | (refine VIdx.mk _ rfl (by omega) ?_)
              | (refine VIdx.mk 0 rfl (by omega) ?_))
      try (conv => whnf)
      have hm : (j + 1) * 2 ≤ r.l.length * 2 := Nat.mul_le_mul_right _ hjl
      have th2 : wj.there g (0 + j * 2) 2 := fun t ht => by
        have := hth (j * 2 + t) (by omega)
        rw [show 0 + j * 2 + t = 0 + (j * 2 + t) by omega]; exact this
      refine VStore.mid th2 (by kernel_rfl) (all_oneCell_toArray (cs := eSlot _) (one_eSlot _)) fun w2 hw2 => ?_
      have hw2' : w2 = wj.setCells g (j * 2) (eSlot (slM i)) := by rw [hw2.out, show 0 + mulO j 2 = j * 2 by rw [mulO_eq]; omega]; rfl
      have B2 := B.wrs qs hr hg hjl (slM i)
      have b2 : Fx S w w2 := by
        rw [hw2']
        exact bw.trans (.grown (grown_sets _ _ _ _) fun q hq => by injection hq with hq; subst hq; exact hSs.inS hS.s.1 hr g (by rw [hg]; rfl)) fun k hk => .inl hk
      repeat (conv => whnf
              first
              | (refine VCmp.tt (by omega) ?_)
              | (refine VCmp.ff (by omega) ?_)
              | (refine VIn.mk (IntWalk.i64_in _ (by omega)) ?_)
              | (refine VIdx.mk _ rfl (by omega) ?_)
              | (refine VIdx.mk 0 rfl (by omega) ?_))
      try (conv => whnf)
      refine .mk (j + 1, T.set i ⟨r.A, r.c, r.l.set j (slM i)⟩) ⟨rfl, rfl, rfl, trivial⟩ ⟨by rw [hw2']; exact B2, hSs.write hr _, b2, _, List.getElem?_set_self (List.getElem?_eq_some_iff.1 hr).1, by show j + 1 ≤ (r.l.set j _).length; rw [List.length_set]; omega, fun t ht => ?_⟩ ?_
      · show (r.l.set j _)[t]? = _
        by_cases e : t = j
        · subst e; rw [List.getElem?_set_self (by omega)]
        · rw [List.getElem?_set_ne (fun e2 => e e2.symm)]; exact hf t (by have : t < j + 1 := ht; omega)
      · show _ - (j + 1) < _ - j
        dsimp only
        rw [List.getElem?_set_self (List.getElem?_eq_some_iff.1 hr).1, hr]
        simp only [Option.map_some, Option.getD_some, List.length_set]
        omega
    case neg =>
      repeat (conv => whnf
              first
              | (refine VLoad.mk _ L1w ?_)
              | (refine VLoad.mk _ L2 ?_)
              | (refine VCmp.tt (by omega) ?_)
              | (refine VCmp.ff (by omega) ?_)
              | (refine VIn.mk (IntWalk.i64_in _ (by omega)) ?_)
              | (refine VIdx.mk _ rfl (by omega) ?_)
              | (refine VIdx.mk 0 rfl (by omega) ?_))
      try (conv => whnf)
      refine .mk (i + 1, T) ⟨rfl, rfl, trivial⟩ ⟨hil, B, hSs.next hr fun t ht => hf t (by omega), bw⟩ (by show _ - (i + 1) < _ - i; omega)
  repeat (conv => whnf
          first
          | (refine VLoad.mk _ L1w ?_)
          | (refine VCmp.tt (by omega) ?_)
          | (refine VCmp.ff (by omega) ?_)
          | (refine VIn.mk (IntWalk.i64_in _ (by omega)) ?_)
          | (refine VIdx.mk _ rfl (by omega) ?_)
          | (refine VIdx.mk 0 rfl (by omega) ?_))
  try (conv => whnf)
  rw [show i = x.s.P.length by omega] at hSs
  have HW : Fx S w wrs := bw
  have HB := B
  clear L1 L1w B bw hSl hil hi
  -- kind f
  refine VLoop.mk (Nat × List (RowX Rw)) (fun u => [(0, .pointer (some ⟨hb, 0, none⟩)), (8, .int .i64 u.1)]) (fun u W => u.1 ≤ x.f.P.length ∧ Bo W base hb ((fun T => (⟨{ x.y with P := Sy }, { x.i with P := Si }, { x.s with P := Ss }, { x.f with P := T }, x.d, x.m⟩ : BX)) u.2) o ∧ Shw u.2 x.f.P u.1 flM ∧ Fx S w W) (fun u => x.f.P.length - u.1) (0, x.f.P) ⟨rfl, rfl, trivial⟩ ⟨Nat.zero_le _, HB, Shw.start _ _, HW⟩ ?_
  clear HB HW
  rintro ⟨i, Sf⟩ wrf ⟨hi, B, hSf, bw⟩
  dsimp only at hi B hSf ⊢
  have hSl := hSf.len
  have L1 : ∀ W T', Bo W base hb ((fun T => (⟨{ x.y with P := Sy }, { x.i with P := Si }, { x.s with P := Ss }, { x.f with P := T }, x.d, x.m⟩ : BX)) T') o → Ld Try.prog 101 hb 6 (Eq W) (.slice x.f.L T'.length x.f.cL) := fun W T' B' => .of (load_cell (by kernel_rfl) (B'.r 6 _ rfl))
  have L1w := L1 wrf Sf B
  by_cases hil : i < x.f.P.length
  case pos =>
    repeat (conv => whnf
            first
            | (refine VLoad.mk _ L1w ?_)
            | (refine VCmp.tt (by omega) ?_)
            | (refine VCmp.ff (by omega) ?_)
            | (refine VIn.mk (IntWalk.i64_in _ (by omega)) ?_)
            | (refine VIdx.mk _ rfl (by omega) ?_)
            | (refine VIdx.mk 0 rfl (by omega) ?_))
    try (conv => whnf)
    refine VLoop.mk (Nat × List (RowX Rw)) (fun u => [(0, .pointer (some ⟨hb, 0, none⟩)), (8, .int .i64 i), (9, .int .i64 u.1)]) (fun u W => Bo W base hb ((fun T => (⟨{ x.y with P := Sy }, { x.i with P := Si }, { x.s with P := Ss }, { x.f with P := T }, x.d, x.m⟩ : BX)) u.2) o ∧ Shw u.2 x.f.P i flM ∧ Fx S w W ∧ ∃ r, u.2[i]? = some r ∧ u.1 ≤ r.l.length ∧ ∀ t, t < u.1 → r.l[t]? = some (flM i)) (fun u => ((u.2[i]?).map fun r => r.l.length).getD 0 - u.1) (0, Sf) ⟨rfl, rfl, rfl, trivial⟩ ⟨B, hSf, bw, _, List.getElem?_eq_getElem (show i < Sf.length by omega), Nat.zero_le _, fun t ht => absurd ht (Nat.not_lt_zero _)⟩ ?_
    clear B hSf bw L1w hSl
    rintro ⟨j, T⟩ wj ⟨B, hSf, bw, r, hr, hj, hf⟩
    dsimp only at B hSf hr hj hf ⊢
    have hSl := hSf.len
    have L1w := L1 wj T B
    obtain ⟨gL, hgL, hcL⟩ := B.f.row hr
    dsimp only at hgL
    rw [hgL] at L1w
    have L2 : Ld Try.prog 22 gL (0 + i) (Eq wj) (.slice r.A r.l.length r.c) := .of (load_cell (by kernel_rfl) (by rw [Nat.zero_add]; exact hcL))
    have hlc := B.f.l.len
    dsimp only at hlc
    rw [List.length_map] at hlc
    have hrc := (B.f.k.o r (List.mem_of_getElem? hr)).len
    by_cases hjl : j < r.l.length
    case pos =>
      obtain ⟨g, hg, _⟩ := (B.f.k.o r (List.mem_of_getElem? hr)).cell len_eRw (show r.l[j]? = some (r.l[j]'(by omega)) from List.getElem?_eq_getElem _)
      rw [hg] at L2
      repeat (conv => whnf
              first
              | (refine VLoad.mk _ L1w ?_)
              | (refine VLoad.mk _ L2 ?_)
              | (refine VCmp.tt (by omega) ?_)
              | (refine VCmp.ff (by omega) ?_)
              | (refine VIn.mk (IntWalk.i64_in _ (by omega)) ?_)
              | (refine VIdx.mk _ rfl (by omega) ?_)
              | (refine VIdx.mk 0 rfl (by omega) ?_))
      try (conv => whnf)
      have hrow := B.f.k.o r (List.mem_of_getElem? hr)
      have hth : wj.there g 0 (r.l.length * 7) := by rw [hg] at hrow; exact hrow.there len_eRw
      refine VBuild.mk _ (fun W => bldF W _) ?_
      repeat (conv => whnf
              first
              | (refine VCmp.tt (by omega) ?_)
              | (refine VCmp.ff (by omega) ?_)
              | (refine VIn.mk (IntWalk.i64_in _ (by omega)) ?_)
              | (refine VIdx.mk _ rfl (by omega) ?_)
              | (refine VIdx.mk 0 rfl (by omega) ?_))
      try (conv => whnf)
      have hm : (j + 1) * 7 ≤ r.l.length * 7 := Nat.mul_le_mul_right _ hjl
      have th2 : wj.there g (0 + j * 7) 7 := fun t ht => by
        have := hth (j * 7 + t) (by omega)
        rw [show 0 + j * 7 + t = 0 + (j * 7 + t) by omega]; exact this
      refine VStore.mid th2 (by kernel_rfl) (all_oneCell_toArray (cs := eRw (flM i)) (one_eRw _)) fun w2 hw2 => ?_
      have hw2' : w2 = wj.setCells g (j * 7) (eRw (flM i)) := by rw [hw2.out, show 0 + mulO j 7 = j * 7 by rw [mulO_eq]; omega]; rfl
      have B2 := B.wrf qf hr hg hjl (flM i)
      have b2 : Fx S w w2 := by
        rw [hw2']
        exact bw.trans (.grown (grown_sets _ _ _ _) fun q hq => by injection hq with hq; subst hq; exact hSf.inS hS.f.1 hr g (by rw [hg]; rfl)) fun k hk => .inl hk
      repeat (conv => whnf
              first
              | (refine VCmp.tt (by omega) ?_)
              | (refine VCmp.ff (by omega) ?_)
              | (refine VIn.mk (IntWalk.i64_in _ (by omega)) ?_)
              | (refine VIdx.mk _ rfl (by omega) ?_)
              | (refine VIdx.mk 0 rfl (by omega) ?_))
      try (conv => whnf)
      refine .mk (j + 1, T.set i ⟨r.A, r.c, r.l.set j (flM i)⟩) ⟨rfl, rfl, rfl, trivial⟩ ⟨by rw [hw2']; exact B2, hSf.write hr _, b2, _, List.getElem?_set_self (List.getElem?_eq_some_iff.1 hr).1, by show j + 1 ≤ (r.l.set j _).length; rw [List.length_set]; omega, fun t ht => ?_⟩ ?_
      · show (r.l.set j _)[t]? = _
        by_cases e : t = j
        · subst e; rw [List.getElem?_set_self (by omega)]
        · rw [List.getElem?_set_ne (fun e2 => e e2.symm)]; exact hf t (by have : t < j + 1 := ht; omega)
      · show _ - (j + 1) < _ - j
        dsimp only
        rw [List.getElem?_set_self (List.getElem?_eq_some_iff.1 hr).1, hr]
        simp only [Option.map_some, Option.getD_some, List.length_set]
        omega
    case neg =>
      repeat (conv => whnf
              first
              | (refine VLoad.mk _ L1w ?_)
              | (refine VLoad.mk _ L2 ?_)
              | (refine VCmp.tt (by omega) ?_)
              | (refine VCmp.ff (by omega) ?_)
              | (refine VIn.mk (IntWalk.i64_in _ (by omega)) ?_)
              | (refine VIdx.mk _ rfl (by omega) ?_)
              | (refine VIdx.mk 0 rfl (by omega) ?_))
      try (conv => whnf)
      refine .mk (i + 1, T) ⟨rfl, rfl, trivial⟩ ⟨hil, B, hSf.next hr fun t ht => hf t (by omega), bw⟩ (by show _ - (i + 1) < _ - i; omega)
  repeat (conv => whnf
          first
          | (refine VLoad.mk _ L1w ?_)
          | (refine VCmp.tt (by omega) ?_)
          | (refine VCmp.ff (by omega) ?_)
          | (refine VIn.mk (IntWalk.i64_in _ (by omega)) ?_)
          | (refine VIdx.mk _ rfl (by omega) ?_)
          | (refine VIdx.mk 0 rfl (by omega) ?_))
  try (conv => whnf)
  rw [show i = x.f.P.length by omega] at hSf
  have HW : Fx S w wrf := bw
  have HB := B
  clear L1 L1w B bw hSl hil hi
  -- kind d
  refine VLoop.mk (Nat × List (RowX Dr)) (fun u => [(0, .pointer (some ⟨hb, 0, none⟩)), (10, .int .i64 u.1)]) (fun u W => u.1 ≤ x.d.P.length ∧ Bo W base hb ((fun T => (⟨{ x.y with P := Sy }, { x.i with P := Si }, { x.s with P := Ss }, { x.f with P := Sf }, { x.d with P := T }, x.m⟩ : BX)) u.2) o ∧ Shw u.2 x.d.P u.1 daM ∧ Fx S w W) (fun u => x.d.P.length - u.1) (0, x.d.P) ⟨rfl, rfl, trivial⟩ ⟨Nat.zero_le _, HB, Shw.start _ _, HW⟩ ?_
  clear HB HW
  rintro ⟨i, Sd⟩ wrd ⟨hi, B, hSd, bw⟩
  dsimp only at hi B hSd ⊢
  have hSl := hSd.len
  have L1 : ∀ W T', Bo W base hb ((fun T => (⟨{ x.y with P := Sy }, { x.i with P := Si }, { x.s with P := Ss }, { x.f with P := Sf }, { x.d with P := T }, x.m⟩ : BX)) T') o → Ld Try.prog 102 hb 8 (Eq W) (.slice x.d.L T'.length x.d.cL) := fun W T' B' => .of (load_cell (by kernel_rfl) (B'.r 8 _ rfl))
  have L1w := L1 wrd Sd B
  by_cases hil : i < x.d.P.length
  case pos =>
    repeat (conv => whnf
            first
            | (refine VLoad.mk _ L1w ?_)
            | (refine VCmp.tt (by omega) ?_)
            | (refine VCmp.ff (by omega) ?_)
            | (refine VIn.mk (IntWalk.i64_in _ (by omega)) ?_)
            | (refine VIdx.mk _ rfl (by omega) ?_)
            | (refine VIdx.mk 0 rfl (by omega) ?_))
    try (conv => whnf)
    refine VLoop.mk (Nat × List (RowX Dr)) (fun u => [(0, .pointer (some ⟨hb, 0, none⟩)), (10, .int .i64 i), (11, .int .i64 u.1)]) (fun u W => Bo W base hb ((fun T => (⟨{ x.y with P := Sy }, { x.i with P := Si }, { x.s with P := Ss }, { x.f with P := Sf }, { x.d with P := T }, x.m⟩ : BX)) u.2) o ∧ Shw u.2 x.d.P i daM ∧ Fx S w W ∧ ∃ r, u.2[i]? = some r ∧ u.1 ≤ r.l.length ∧ ∀ t, t < u.1 → r.l[t]? = some (daM i)) (fun u => ((u.2[i]?).map fun r => r.l.length).getD 0 - u.1) (0, Sd) ⟨rfl, rfl, rfl, trivial⟩ ⟨B, hSd, bw, _, List.getElem?_eq_getElem (show i < Sd.length by omega), Nat.zero_le _, fun t ht => absurd ht (Nat.not_lt_zero _)⟩ ?_
    clear B hSd bw L1w hSl
    rintro ⟨j, T⟩ wj ⟨B, hSd, bw, r, hr, hj, hf⟩
    dsimp only at B hSd hr hj hf ⊢
    have hSl := hSd.len
    have L1w := L1 wj T B
    obtain ⟨gL, hgL, hcL⟩ := B.d.row hr
    dsimp only at hgL
    rw [hgL] at L1w
    have L2 : Ld Try.prog 40 gL (0 + i) (Eq wj) (.slice r.A r.l.length r.c) := .of (load_cell (by kernel_rfl) (by rw [Nat.zero_add]; exact hcL))
    have hlc := B.d.l.len
    dsimp only at hlc
    rw [List.length_map] at hlc
    have hrc := (B.d.k.o r (List.mem_of_getElem? hr)).len
    by_cases hjl : j < r.l.length
    case pos =>
      obtain ⟨g, hg, _⟩ := (B.d.k.o r (List.mem_of_getElem? hr)).cell len_eDr (show r.l[j]? = some (r.l[j]'(by omega)) from List.getElem?_eq_getElem _)
      rw [hg] at L2
      repeat (conv => whnf
              first
              | (refine VLoad.mk _ L1w ?_)
              | (refine VLoad.mk _ L2 ?_)
              | (refine VCmp.tt (by omega) ?_)
              | (refine VCmp.ff (by omega) ?_)
              | (refine VIn.mk (IntWalk.i64_in _ (by omega)) ?_)
              | (refine VIdx.mk _ rfl (by omega) ?_)
              | (refine VIdx.mk 0 rfl (by omega) ?_))
      try (conv => whnf)
      have hrow := B.d.k.o r (List.mem_of_getElem? hr)
      have hth : wj.there g 0 (r.l.length * 4) := by rw [hg] at hrow; exact hrow.there len_eDr
      refine VBuild.mk _ (fun W => bldD W _) ?_
      repeat (conv => whnf
              first
              | (refine VCmp.tt (by omega) ?_)
              | (refine VCmp.ff (by omega) ?_)
              | (refine VIn.mk (IntWalk.i64_in _ (by omega)) ?_)
              | (refine VIdx.mk _ rfl (by omega) ?_)
              | (refine VIdx.mk 0 rfl (by omega) ?_))
      try (conv => whnf)
      have hm : (j + 1) * 4 ≤ r.l.length * 4 := Nat.mul_le_mul_right _ hjl
      have th2 : wj.there g (0 + j * 4) 4 := fun t ht => by
        have := hth (j * 4 + t) (by omega)
        rw [show 0 + j * 4 + t = 0 + (j * 4 + t) by omega]; exact this
      refine VStore.mid th2 (by kernel_rfl) (all_oneCell_toArray (cs := eDr (daM i)) (one_eDr _)) fun w2 hw2 => ?_
      have hw2' : w2 = wj.setCells g (j * 4) (eDr (daM i)) := by rw [hw2.out, show 0 + mulO j 4 = j * 4 by rw [mulO_eq]; omega]; rfl
      have B2 := B.wrd qd hr hg hjl (daM i)
      have b2 : Fx S w w2 := by
        rw [hw2']
        exact bw.trans (.grown (grown_sets _ _ _ _) fun q hq => by injection hq with hq; subst hq; exact hSd.inS hS.d.1 hr g (by rw [hg]; rfl)) fun k hk => .inl hk
      repeat (conv => whnf
              first
              | (refine VCmp.tt (by omega) ?_)
              | (refine VCmp.ff (by omega) ?_)
              | (refine VIn.mk (IntWalk.i64_in _ (by omega)) ?_)
              | (refine VIdx.mk _ rfl (by omega) ?_)
              | (refine VIdx.mk 0 rfl (by omega) ?_))
      try (conv => whnf)
      refine .mk (j + 1, T.set i ⟨r.A, r.c, r.l.set j (daM i)⟩) ⟨rfl, rfl, rfl, trivial⟩ ⟨by rw [hw2']; exact B2, hSd.write hr _, b2, _, List.getElem?_set_self (List.getElem?_eq_some_iff.1 hr).1, by show j + 1 ≤ (r.l.set j _).length; rw [List.length_set]; omega, fun t ht => ?_⟩ ?_
      · show (r.l.set j _)[t]? = _
        by_cases e : t = j
        · subst e; rw [List.getElem?_set_self (by omega)]
        · rw [List.getElem?_set_ne (fun e2 => e e2.symm)]; exact hf t (by have : t < j + 1 := ht; omega)
      · show _ - (j + 1) < _ - j
        dsimp only
        rw [List.getElem?_set_self (List.getElem?_eq_some_iff.1 hr).1, hr]
        simp only [Option.map_some, Option.getD_some, List.length_set]
        omega
    case neg =>
      repeat (conv => whnf
              first
              | (refine VLoad.mk _ L1w ?_)
              | (refine VLoad.mk _ L2 ?_)
              | (refine VCmp.tt (by omega) ?_)
              | (refine VCmp.ff (by omega) ?_)
              | (refine VIn.mk (IntWalk.i64_in _ (by omega)) ?_)
              | (refine VIdx.mk _ rfl (by omega) ?_)
              | (refine VIdx.mk 0 rfl (by omega) ?_))
      try (conv => whnf)
      refine .mk (i + 1, T) ⟨rfl, rfl, trivial⟩ ⟨hil, B, hSd.next hr fun t ht => hf t (by omega), bw⟩ (by show _ - (i + 1) < _ - i; omega)
  repeat (conv => whnf
          first
          | (refine VLoad.mk _ L1w ?_)
          | (refine VCmp.tt (by omega) ?_)
          | (refine VCmp.ff (by omega) ?_)
          | (refine VIn.mk (IntWalk.i64_in _ (by omega)) ?_)
          | (refine VIdx.mk _ rfl (by omega) ?_)
          | (refine VIdx.mk 0 rfl (by omega) ?_))
  try (conv => whnf)
  rw [show i = x.d.P.length by omega] at hSd
  have HW : Fx S w wrd := bw
  have HB := B
  clear L1 L1w B bw hSl hil hi
  -- kind m
  refine VLoop.mk (Nat × List (RowX Dr)) (fun u => [(0, .pointer (some ⟨hb, 0, none⟩)), (12, .int .i64 u.1)]) (fun u W => u.1 ≤ x.m.P.length ∧ Bo W base hb ((fun T => (⟨{ x.y with P := Sy }, { x.i with P := Si }, { x.s with P := Ss }, { x.f with P := Sf }, { x.d with P := Sd }, { x.m with P := T }⟩ : BX)) u.2) o ∧ Shw u.2 x.m.P u.1 msM ∧ Fx S w W) (fun u => x.m.P.length - u.1) (0, x.m.P) ⟨rfl, rfl, trivial⟩ ⟨Nat.zero_le _, HB, Shw.start _ _, HW⟩ ?_
  clear HB HW
  rintro ⟨i, Sm⟩ wrm ⟨hi, B, hSm, bw⟩
  dsimp only at hi B hSm ⊢
  have hSl := hSm.len
  have L1 : ∀ W T', Bo W base hb ((fun T => (⟨{ x.y with P := Sy }, { x.i with P := Si }, { x.s with P := Ss }, { x.f with P := Sf }, { x.d with P := Sd }, { x.m with P := T }⟩ : BX)) T') o → Ld Try.prog 103 hb 10 (Eq W) (.slice x.m.L T'.length x.m.cL) := fun W T' B' => .of (load_cell (by kernel_rfl) (B'.r 10 _ rfl))
  have L1w := L1 wrm Sm B
  by_cases hil : i < x.m.P.length
  case pos =>
    repeat (conv => whnf
            first
            | (refine VLoad.mk _ L1w ?_)
            | (refine VCmp.tt (by omega) ?_)
            | (refine VCmp.ff (by omega) ?_)
            | (refine VIn.mk (IntWalk.i64_in _ (by omega)) ?_)
            | (refine VIdx.mk _ rfl (by omega) ?_)
            | (refine VIdx.mk 0 rfl (by omega) ?_))
    try (conv => whnf)
    refine VLoop.mk (Nat × List (RowX Dr)) (fun u => [(0, .pointer (some ⟨hb, 0, none⟩)), (12, .int .i64 i), (13, .int .i64 u.1)]) (fun u W => Bo W base hb ((fun T => (⟨{ x.y with P := Sy }, { x.i with P := Si }, { x.s with P := Ss }, { x.f with P := Sf }, { x.d with P := Sd }, { x.m with P := T }⟩ : BX)) u.2) o ∧ Shw u.2 x.m.P i msM ∧ Fx S w W ∧ ∃ r, u.2[i]? = some r ∧ u.1 ≤ r.l.length ∧ ∀ t, t < u.1 → r.l[t]? = some (msM i)) (fun u => ((u.2[i]?).map fun r => r.l.length).getD 0 - u.1) (0, Sm) ⟨rfl, rfl, rfl, trivial⟩ ⟨B, hSm, bw, _, List.getElem?_eq_getElem (show i < Sm.length by omega), Nat.zero_le _, fun t ht => absurd ht (Nat.not_lt_zero _)⟩ ?_
    clear B hSm bw L1w hSl
    rintro ⟨j, T⟩ wj ⟨B, hSm, bw, r, hr, hj, hf⟩
    dsimp only at B hSm hr hj hf ⊢
    have hSl := hSm.len
    have L1w := L1 wj T B
    obtain ⟨gL, hgL, hcL⟩ := B.m.row hr
    dsimp only at hgL
    rw [hgL] at L1w
    have L2 : Ld Try.prog 44 gL (0 + i) (Eq wj) (.slice r.A r.l.length r.c) := .of (load_cell (by kernel_rfl) (by rw [Nat.zero_add]; exact hcL))
    have hlc := B.m.l.len
    dsimp only at hlc
    rw [List.length_map] at hlc
    have hrc := (B.m.k.o r (List.mem_of_getElem? hr)).len
    by_cases hjl : j < r.l.length
    case pos =>
      obtain ⟨g, hg, _⟩ := (B.m.k.o r (List.mem_of_getElem? hr)).cell len_eDr (show r.l[j]? = some (r.l[j]'(by omega)) from List.getElem?_eq_getElem _)
      rw [hg] at L2
      repeat (conv => whnf
              first
              | (refine VLoad.mk _ L1w ?_)
              | (refine VLoad.mk _ L2 ?_)
              | (refine VCmp.tt (by omega) ?_)
              | (refine VCmp.ff (by omega) ?_)
              | (refine VIn.mk (IntWalk.i64_in _ (by omega)) ?_)
              | (refine VIdx.mk _ rfl (by omega) ?_)
              | (refine VIdx.mk 0 rfl (by omega) ?_))
      try (conv => whnf)
      have hrow := B.m.k.o r (List.mem_of_getElem? hr)
      have hth : wj.there g 0 (r.l.length * 4) := by rw [hg] at hrow; exact hrow.there len_eDr
      refine VBuild.mk _ (fun W => bldM W _) ?_
      repeat (conv => whnf
              first
              | (refine VCmp.tt (by omega) ?_)
              | (refine VCmp.ff (by omega) ?_)
              | (refine VIn.mk (IntWalk.i64_in _ (by omega)) ?_)
              | (refine VIdx.mk _ rfl (by omega) ?_)
              | (refine VIdx.mk 0 rfl (by omega) ?_))
      try (conv => whnf)
      have hm : (j + 1) * 4 ≤ r.l.length * 4 := Nat.mul_le_mul_right _ hjl
      have th2 : wj.there g (0 + j * 4) 4 := fun t ht => by
        have := hth (j * 4 + t) (by omega)
        rw [show 0 + j * 4 + t = 0 + (j * 4 + t) by omega]; exact this
      refine VStore.mid th2 (by kernel_rfl) (all_oneCell_toArray (cs := eDr (msM i)) (one_eDr _)) fun w2 hw2 => ?_
      have hw2' : w2 = wj.setCells g (j * 4) (eDr (msM i)) := by rw [hw2.out, show 0 + mulO j 4 = j * 4 by rw [mulO_eq]; omega]; rfl
      have B2 := B.wrm qm hr hg hjl (msM i)
      have b2 : Fx S w w2 := by
        rw [hw2']
        exact bw.trans (.grown (grown_sets _ _ _ _) fun q hq => by injection hq with hq; subst hq; exact hSm.inS hS.m.1 hr g (by rw [hg]; rfl)) fun k hk => .inl hk
      repeat (conv => whnf
              first
              | (refine VCmp.tt (by omega) ?_)
              | (refine VCmp.ff (by omega) ?_)
              | (refine VIn.mk (IntWalk.i64_in _ (by omega)) ?_)
              | (refine VIdx.mk _ rfl (by omega) ?_)
              | (refine VIdx.mk 0 rfl (by omega) ?_))
      try (conv => whnf)
      refine .mk (j + 1, T.set i ⟨r.A, r.c, r.l.set j (msM i)⟩) ⟨rfl, rfl, rfl, trivial⟩ ⟨by rw [hw2']; exact B2, hSm.write hr _, b2, _, List.getElem?_set_self (List.getElem?_eq_some_iff.1 hr).1, by show j + 1 ≤ (r.l.set j _).length; rw [List.length_set]; omega, fun t ht => ?_⟩ ?_
      · show (r.l.set j _)[t]? = _
        by_cases e : t = j
        · subst e; rw [List.getElem?_set_self (by omega)]
        · rw [List.getElem?_set_ne (fun e2 => e e2.symm)]; exact hf t (by have : t < j + 1 := ht; omega)
      · show _ - (j + 1) < _ - j
        dsimp only
        rw [List.getElem?_set_self (List.getElem?_eq_some_iff.1 hr).1, hr]
        simp only [Option.map_some, Option.getD_some, List.length_set]
        omega
    case neg =>
      repeat (conv => whnf
              first
              | (refine VLoad.mk _ L1w ?_)
              | (refine VLoad.mk _ L2 ?_)
              | (refine VCmp.tt (by omega) ?_)
              | (refine VCmp.ff (by omega) ?_)
              | (refine VIn.mk (IntWalk.i64_in _ (by omega)) ?_)
              | (refine VIdx.mk _ rfl (by omega) ?_)
              | (refine VIdx.mk 0 rfl (by omega) ?_))
      try (conv => whnf)
      refine .mk (i + 1, T) ⟨rfl, rfl, trivial⟩ ⟨hil, B, hSm.next hr fun t ht => hf t (by omega), bw⟩ (by show _ - (i + 1) < _ - i; omega)
  repeat (conv => whnf
          first
          | (refine VLoad.mk _ L1w ?_)
          | (refine VCmp.tt (by omega) ?_)
          | (refine VCmp.ff (by omega) ?_)
          | (refine VIn.mk (IntWalk.i64_in _ (by omega)) ?_)
          | (refine VIdx.mk _ rfl (by omega) ?_)
          | (refine VIdx.mk 0 rfl (by omega) ?_))
  try (conv => whnf)
  rw [show i = x.m.P.length by omega] at hSm
  have HW : Fx S w wrm := bw
  have HB := B
  clear L1 L1w B bw hSl hil hi
  exact .mk ⟨rfl, HW, Sy, Si, Ss, Sf, Sd, Sm, hSy, hSi, hSs, hSf, hSd, hSm, HB⟩
end Go.Proofs.Ytcffhfcjfjfokaa
/- The law's book: a longer row is made and listed. -/
namespace Go.Proofs.Ytcffhfcjfjfokaa
open Go Go.RowKit
theorem moreT_push {α : Type} {P : List (RowX α)} {Q : List (Option Addr × Nat)} {r : RowX α} (h : Q.length ≤ P.length) (hr : P[Q.length]? = some r) (y : Option Addr × Nat) : moreT P (Q ++ [y]) = moreT P Q ++ [(y.1, r.l.length + 64, y.2)] := by
  have hl := (List.getElem?_eq_some_iff.1 hr).1
  apply List.ext_getElem?
  intro k
  by_cases hk : k < Q.length
  · have hq : Q[k]? = some Q[k] := List.getElem?_eq_getElem hk
    have hp : P[k]? = some (P[k]'(by omega)) := List.getElem?_eq_getElem _
    rw [List.getElem?_append_left (by rw [moreT_len h]; exact hk), moreT_at hp hq, moreT_at hp (by rw [List.getElem?_append_left hk]; exact hq)]
  · by_cases e : k = Q.length
    · subst e
      rw [List.getElem?_append_right (by rw [moreT_len h]; exact Nat.le_refl _), moreT_len h, Nat.sub_self, moreT_at hr (y := y) (by rw [List.getElem?_append_right (Nat.le_refl _), Nat.sub_self]; rfl)]; rfl
    · rw [List.getElem?_eq_none (by rw [moreT_len (by rw [List.length_append]; simp; omega), List.length_append]; simp; omega), List.getElem?_eq_none (by rw [List.length_append, moreT_len h]; simp; omega)]
section
variable {α : Type} {W0 W W1 W2 : World} {base sz : Nat} {tl e : TypeId} {enc : α → List Value} {zs : Nat → List α} {x : KX α}
theorem Kb.more (h : Kb W0 base tl e sz enc zs x) (ht : tl ≠ e) {r : RowX α} (hi : x.P[x.Q.length]? = some r) {A : Option Addr} {c : Nat} (G : Gr W0 base e sz enc r A c (zs x.Q.length) W) (hb : Below W.heap.size W W1) {M : Option Addr} {cM : Nat} (ho : Owns W2 base tl 1 eTr M cM (moreT x.P x.Q ++ [(A, r.l.length + 64, c)])) (hg : W1.grownBy W2 (blk x.M)) (hk : blk M = blk x.M ∨ blk M = some W1.heap.size) :
    Kb W2 base tl e sz enc zs { x with M := M, cM := cM, Q := x.Q ++ [(A, c)] } := by
  have hr := h.k.o r (List.mem_of_getElem? hi)
  have hl := h.l.kept G.g (h.l.ne hr ht)
  have hm := h.m.kept G.g (h.m.ne hr ht)
  have hl1 := hl.keep hb fun k hk => (hl.lo k hk).2
  have hm1 := hm.keep hb fun k hk => (hm.lo k hk).2
  have hk1 := (h.k.grow hi G).below hb
  refine ⟨hk1.other hm1 (fun e1 => ht e1.symm) hg, ?_, ?_, ?_⟩
  · refine hl1.same fun q hq => hg.block q (hl1.lo q hq).2 (fun e1 => h.lm q hq e1.symm)
  · dsimp only
    rw [moreT_push h.k.len hi]
    exact ho
  · intro q hq e1
    rcases hk with e2 | e2
    · exact h.lm q hq (by rw [← e2]; exact e1)
    · rw [e2] at e1; injection e1 with e1
      have := (hl1.lo q hq).2; omega
end
end Go.Proofs.Ytcffhfcjfjfokaa
