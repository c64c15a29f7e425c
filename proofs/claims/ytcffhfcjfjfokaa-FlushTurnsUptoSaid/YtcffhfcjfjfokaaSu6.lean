/- Write BoGr BoMr BoM6, joined. -/
import Derived.Test.YtcffhfcjfjfokaaSu5
set_option linter.unusedVariables false
set_option linter.unusedSimpArgs false
namespace Go.Proofs.Ytcffhfcjfjfokaa
open Go Go.RowKit
def KxIn {α : Type} (x : KX α) (S : List Nat) : Prop := (∀ r ∈ x.P, ∀ q, blk r.A = some q → q ∈ S) ∧ (∀ q, blk x.L = some q → q ∈ S) ∧ (∀ q, blk x.M = some q → q ∈ S)
structure BkIn (x : BX) (S : List Nat) : Prop where
  y : KxIn x.y S
  i : KxIn x.i S
  s : KxIn x.s S
  f : KxIn x.f S
  d : KxIn x.d S
  m : KxIn x.m S
theorem Shw.inS {α : Type} {T R : List (RowX α)} {i k : Nat} {m : Nat → α} {r : RowX α} {S : List Nat} (h : Shw T R i m) (hS : ∀ r ∈ R, ∀ q, blk r.A = some q → q ∈ S) (hr : T[k]? = some r) : ∀ q, blk r.A = some q → q ∈ S := fun q hq => by
  have hk := (List.getElem?_eq_some_iff.1 hr).1
  have hk2 : R[k]? = some (R[k]'(by have := h.len; omega)) := List.getElem?_eq_getElem _
  have e := (h.same k r _ hr hk2).1
  exact hS _ (List.getElem_mem _) q (by rw [← e]; exact hq)
theorem bldS (W : World) (n : Int) : (Instr.build 66 #[(1, .int .i64 n)]).run Try.prog W = .ok (.agg (eSlot (0, n)).toArray) W := by kernel_rfl
theorem bldF (W : World) (n : Int) : (Instr.build 39 #[(1, .int .i64 n)]).run Try.prog W = .ok (.agg #[.int .i64 0, .int .i64 0, .int .i64 0, .int .i64 0, .int .i64 n, .slice none 0 0, .slice none 0 0]) W := by kernel_rfl
theorem bldD (W : World) (n : Int) : (Instr.build 113 #[(1, .int .i64 n)]).run Try.prog W = .ok (.agg #[.int .i64 0, .int .i64 n, .int .i64 0, .slice none 0 0]) W := by kernel_rfl
theorem bldM (W : World) (n : Int) : (Instr.build 54 #[(2, .int .i64 n)]).run Try.prog W = .ok (.agg #[.int .i64 0, .int .i64 0, .int .i64 n, .slice none 0 0]) W := by kernel_rfl
set_option maxRecDepth 100000 in
set_option maxHeartbeats 4000000 in
theorem write_any {w : World} {base hb : Nat} {x : BX} {o : List Value} {S : List Nat} (hS : BkIn x S) (h : Bo w base hb x o) (qy : x.y.Q = []) (qi : x.i.Q = []) (qs : x.s.Q = []) (qf : x.f.Q = []) (qd : x.d.Q = []) (qm : x.m.Q = []) (bl : x.y.P.length ≤ 1000000000000 ∧ x.i.P.length ≤ 1000000000000 ∧ x.s.P.length ≤ 1000000000000 ∧ x.f.P.length ≤ 1000000000000 ∧ x.d.P.length ≤ 1000000000000 ∧ x.m.P.length ≤ 1000000000000) : Calls Try.prog 91 #[.pointer (some ⟨hb, 0, none⟩)] w fun e w' => e = .returned (.tuple #[]) ∧ Fx S w w' ∧ ∃ Sy Si Ss Sf Sd Sm, Shw Sy x.y.P x.y.P.length byM ∧ Shw Si x.i.P x.i.P.length inM ∧ Shw Ss x.s.P x.s.P.length slM ∧ Shw Sf x.f.P x.f.P.length flM ∧ Shw Sd x.d.P x.d.P.length daM ∧ Shw Sm x.m.P x.m.P.length msM ∧ Bo w' base hb ⟨{ x.y with P := Sy }, { x.i with P := Si }, { x.s with P := Ss }, { x.f with P := Sf }, { x.d with P := Sd }, { x.m with P := Sm }⟩ o := by
  refine calls_vc tab_ok Try.func91 rfl ?_
  obtain ⟨bl1, bl2, bl3, bl4, bl5, bl6⟩ := bl
  have HW : Fx S w w := Fx.refl _ _
  have HB : Bo w base hb x o := h
  repeat ((conv => whnf); first | (refine VCmp.tt (by omega) ?_) | (refine VCmp.ff (by omega) ?_) | (refine VIn.mk (IntWalk.i64_in _ (by omega)) ?_) | (refine VIdx.mk _ rfl (by omega) ?_) | (refine VIdx.mk 0 rfl (by omega) ?_))
  try (conv => whnf)
  -- kind y
  refine VLoop.mk (Nat × List (RowX Int)) (fun u => [(0, .pointer (some ⟨hb, 0, none⟩)), (2, .int .i64 u.1)]) (fun u W => u.1 ≤ x.y.P.length ∧ Bo W base hb ((fun T => (⟨{ x.y with P := T }, x.i, x.s, x.f, x.d, x.m⟩ : BX)) u.2) o ∧ Shw u.2 x.y.P u.1 byM ∧ Fx S w W) (fun u => x.y.P.length - u.1) (0, x.y.P) ⟨rfl, rfl, trivial⟩ ⟨Nat.zero_le _, HB, Shw.start _ _, HW⟩ ?_
  clear HB HW
  rintro ⟨i, Sy⟩ wry ⟨hi, B, hSy, bw⟩
  dsimp only at hi B hSy ⊢
  have hSl := hSy.len
  have L1 : ∀ W T', Bo W base hb ((fun T => (⟨{ x.y with P := T }, x.i, x.s, x.f, x.d, x.m⟩ : BX)) T') o → Ld Try.prog 51 hb 0 (Eq W) (.slice x.y.L T'.length x.y.cL) := fun W T' B' => .of (load_cell (by kernel_rfl) (B'.r 0 _ rfl))
  have L1w := L1 wry Sy B
  by_cases hil : i < x.y.P.length
  case pos =>
    repeat ((conv => whnf); first | (refine VLoad.mk _ L1w ?_) | (refine VCmp.tt (by omega) ?_) | (refine VCmp.ff (by omega) ?_) | (refine VIn.mk (IntWalk.i64_in _ (by omega)) ?_) | (refine VIdx.mk _ rfl (by omega) ?_) | (refine VIdx.mk 0 rfl (by omega) ?_))
    try (conv => whnf)
    refine VLoop.mk (Nat × List (RowX Int)) (fun u => [(0, .pointer (some ⟨hb, 0, none⟩)), (2, .int .i64 i), (3, .int .i64 u.1)]) (fun u W => Bo W base hb ((fun T => (⟨{ x.y with P := T }, x.i, x.s, x.f, x.d, x.m⟩ : BX)) u.2) o ∧ Shw u.2 x.y.P i byM ∧ Fx S w W ∧ ∃ r, u.2[i]? = some r ∧ u.1 ≤ r.l.length ∧ ∀ t, t < u.1 → r.l[t]? = some (byM i)) (fun u => ((u.2[i]?).map fun r => r.l.length).getD 0 - u.1) (0, Sy) ⟨rfl, rfl, rfl, trivial⟩ ⟨B, hSy, bw, _, List.getElem?_eq_getElem (show i < Sy.length by omega), Nat.zero_le _, fun t ht => absurd ht (Nat.not_lt_zero _)⟩ ?_
    clear B hSy bw L1w hSl
    rintro ⟨j, T⟩ wj ⟨B, hSy, bw, r, hr, hj, hf⟩
    dsimp only at B hSy hr hj hf ⊢
    have hSl := hSy.len
    have L1w := L1 wj T B
    obtain ⟨gL, hgL, hcL⟩ := B.y.row hr
    dsimp only at hgL
    rw [hgL] at L1w
    have L2 : Ld Try.prog 52 gL (0 + i) (Eq wj) (.slice r.A r.l.length r.c) := .of (load_cell (by kernel_rfl) (by rw [Nat.zero_add]; exact hcL))
    have hlc := B.y.l.len
    dsimp only at hlc
    rw [List.length_map] at hlc
    have hrc := (B.y.k.o r (List.mem_of_getElem? hr)).len
    by_cases hjl : j < r.l.length
    case pos =>
      obtain ⟨g, hg, _⟩ := (B.y.k.o r (List.mem_of_getElem? hr)).cell len_eByte (show r.l[j]? = some (r.l[j]'(by omega)) from List.getElem?_eq_getElem _)
      rw [hg] at L2
      repeat ((conv => whnf); first | (refine VLoad.mk _ L1w ?_) | (refine VLoad.mk _ L2 ?_) | (refine VCmp.tt (by omega) ?_) | (refine VCmp.ff (by omega) ?_) | (refine VIn.mk (IntWalk.i64_in _ (by omega)) ?_) | (refine VIdx.mk _ rfl (by omega) ?_) | (refine VIdx.mk 0 rfl (by omega) ?_))
      try (conv => whnf)
      have Bd := B.below (Below.refl _ _).drew
      have L1d := L1 wj.drew T Bd
      rw [hgL] at L1d
      have L2d : Ld Try.prog 52 gL (0 + i) (Eq wj.drew) (.slice r.A r.l.length r.c) := .of (load_cell (by kernel_rfl) (by rw [Nat.zero_add]; exact hcL))
      rw [hg] at L2d
      have hrow := Bd.y.k.o r (List.mem_of_getElem? hr)
      have hth : wj.drew.there g 0 (r.l.length * 1) := by rw [hg] at hrow; exact hrow.there len_eByte
      refine VDraw.mk 11 [([0, 1, 2, 3, 4, 5, 6, 7, 8], 9), ([10], 11)] [] (Eq wj.drew) (by kernel_rfl) (by kernel_rfl) (rfl) ?_
      repeat ((conv => whnf); first | (refine VLoad.mk _ L1d ?_) | (refine VLoad.mk _ L2d ?_) | (refine VCmp.tt (by omega) ?_) | (refine VCmp.ff (by omega) ?_) | (refine VIn.mk (IntWalk.i64_in _ (by omega)) ?_) | (refine VIdx.mk _ rfl (by omega) ?_) | (refine VIdx.mk 0 rfl (by omega) ?_))
      try (conv => whnf)
      refine VCall.mk _ (byteOf_any i wj.drew) ?_
      rintro _ wk ⟨rfl, hwk⟩
      refine ⟨_, rfl, ?_⟩
      rw [← hwk]
      repeat ((conv => whnf); first | (refine VS.mk rfl ?_) | (refine VCmp.tt (by omega) ?_) | (refine VCmp.ff (by omega) ?_) | (refine VIn.mk (IntWalk.i64_in _ (by omega)) ?_) | (refine VIdx.mk _ rfl (by omega) ?_) | (refine VIdx.mk 0 rfl (by omega) ?_))
      try (conv => whnf)
      refine VStore.cell (by kernel_rfl) (hth j (by omega)).1 (hth j (by omega)).2 rfl rfl fun w2 hw2 => ?_
      have hw2' : w2 = wj.drew.setCells g (j * 1) (eByte (byM i)) := by rw [hw2.out, Nat.mul_one, show 0 + mulO j 1 = j by rw [mulO_eq]; omega]; rfl
      have B2 := Bd.wry qy hr hg hjl (byM i)
      have b2 : Fx S w w2 := by
        rw [hw2']
        exact (bw.drew).trans (.grown (grown_sets _ _ _ _) fun q hq => by injection hq with hq; subst hq; exact hSy.inS hS.y.1 hr g (by rw [hg]; rfl)) fun k hk => .inl hk
      repeat ((conv => whnf); first | (refine VS.last rfl ?_) | (refine VCmp.tt (by omega) ?_) | (refine VCmp.ff (by omega) ?_) | (refine VIn.mk (IntWalk.i64_in _ (by omega)) ?_) | (refine VIdx.mk _ rfl (by omega) ?_) | (refine VIdx.mk 0 rfl (by omega) ?_))
      try (conv => whnf)
      refine .mk (j + 1, T.set i ⟨r.A, r.c, r.l.set j (byM i)⟩) ⟨rfl, rfl, rfl, trivial⟩ ⟨by rw [hw2']; exact B2, hSy.write hr _, b2, _, List.getElem?_set_self (List.getElem?_eq_some_iff.1 hr).1, by show j + 1 ≤ (r.l.set j _).length; rw [List.length_set]; omega, fun t ht => ?_⟩ ?_
      · show (r.l.set j _)[t]? = _
        by_cases e : t = j
        · subst e; rw [List.getElem?_set_self (by omega)]
        · rw [List.getElem?_set_ne (fun e2 => e e2.symm)]; exact hf t (by have : t < j + 1 := ht; omega)
      · show _ - (j + 1) < _ - j
        dsimp only
        rw [List.getElem?_set_self (List.getElem?_eq_some_iff.1 hr).1, hr]
        simp only [Option.map_some, Option.getD_some, List.length_set]
        omega
    case neg =>
      repeat ((conv => whnf); first | (refine VLoad.mk _ L1w ?_) | (refine VLoad.mk _ L2 ?_) | (refine VCmp.tt (by omega) ?_) | (refine VCmp.ff (by omega) ?_) | (refine VIn.mk (IntWalk.i64_in _ (by omega)) ?_) | (refine VIdx.mk _ rfl (by omega) ?_) | (refine VIdx.mk 0 rfl (by omega) ?_))
      try (conv => whnf)
      refine .mk (i + 1, T) ⟨rfl, rfl, trivial⟩ ⟨hil, B, hSy.next hr fun t ht => hf t (by omega), bw⟩ (by show _ - (i + 1) < _ - i; omega)
  repeat ((conv => whnf); first | (refine VLoad.mk _ L1w ?_) | (refine VCmp.tt (by omega) ?_) | (refine VCmp.ff (by omega) ?_) | (refine VIn.mk (IntWalk.i64_in _ (by omega)) ?_) | (refine VIdx.mk _ rfl (by omega) ?_) | (refine VIdx.mk 0 rfl (by omega) ?_))
  try (conv => whnf)
  rw [show i = x.y.P.length by omega] at hSy
  have HW : Fx S w wry := bw
  have HB := B
  clear L1 L1w B bw hSl hil hi
  -- kind i
  refine VLoop.mk (Nat × List (RowX Int)) (fun u => [(0, .pointer (some ⟨hb, 0, none⟩)), (4, .int .i64 u.1)]) (fun u W => u.1 ≤ x.i.P.length ∧ Bo W base hb ((fun T => (⟨{ x.y with P := Sy }, { x.i with P := T }, x.s, x.f, x.d, x.m⟩ : BX)) u.2) o ∧ Shw u.2 x.i.P u.1 inM ∧ Fx S w W) (fun u => x.i.P.length - u.1) (0, x.i.P) ⟨rfl, rfl, trivial⟩ ⟨Nat.zero_le _, HB, Shw.start _ _, HW⟩ ?_
  clear HB HW
  rintro ⟨i, Si⟩ wri ⟨hi, B, hSi, bw⟩
  dsimp only at hi B hSi ⊢
  have hSl := hSi.len
  have L1 : ∀ W T', Bo W base hb ((fun T => (⟨{ x.y with P := Sy }, { x.i with P := T }, x.s, x.f, x.d, x.m⟩ : BX)) T') o → Ld Try.prog 99 hb 2 (Eq W) (.slice x.i.L T'.length x.i.cL) := fun W T' B' => .of (load_cell (by kernel_rfl) (B'.r 2 _ rfl))
  have L1w := L1 wri Si B
  by_cases hil : i < x.i.P.length
  case pos =>
    repeat ((conv => whnf); first | (refine VLoad.mk _ L1w ?_) | (refine VCmp.tt (by omega) ?_) | (refine VCmp.ff (by omega) ?_) | (refine VIn.mk (IntWalk.i64_in _ (by omega)) ?_) | (refine VIdx.mk _ rfl (by omega) ?_) | (refine VIdx.mk 0 rfl (by omega) ?_))
    try (conv => whnf)
    refine VLoop.mk (Nat × List (RowX Int)) (fun u => [(0, .pointer (some ⟨hb, 0, none⟩)), (4, .int .i64 i), (5, .int .i64 u.1)]) (fun u W => Bo W base hb ((fun T => (⟨{ x.y with P := Sy }, { x.i with P := T }, x.s, x.f, x.d, x.m⟩ : BX)) u.2) o ∧ Shw u.2 x.i.P i inM ∧ Fx S w W ∧ ∃ r, u.2[i]? = some r ∧ u.1 ≤ r.l.length ∧ ∀ t, t < u.1 → r.l[t]? = some (inM i)) (fun u => ((u.2[i]?).map fun r => r.l.length).getD 0 - u.1) (0, Si) ⟨rfl, rfl, rfl, trivial⟩ ⟨B, hSi, bw, _, List.getElem?_eq_getElem (show i < Si.length by omega), Nat.zero_le _, fun t ht => absurd ht (Nat.not_lt_zero _)⟩ ?_
    clear B hSi bw L1w hSl
    rintro ⟨j, T⟩ wj ⟨B, hSi, bw, r, hr, hj, hf⟩
    dsimp only at B hSi hr hj hf ⊢
    have hSl := hSi.len
    have L1w := L1 wj T B
    obtain ⟨gL, hgL, hcL⟩ := B.i.row hr
    dsimp only at hgL
    rw [hgL] at L1w
    have L2 : Ld Try.prog 37 gL (0 + i) (Eq wj) (.slice r.A r.l.length r.c) := .of (load_cell (by kernel_rfl) (by rw [Nat.zero_add]; exact hcL))
    have hlc := B.i.l.len
    dsimp only at hlc
    rw [List.length_map] at hlc
    have hrc := (B.i.k.o r (List.mem_of_getElem? hr)).len
    by_cases hjl : j < r.l.length
    case pos =>
      obtain ⟨g, hg, _⟩ := (B.i.k.o r (List.mem_of_getElem? hr)).cell len_eInt (show r.l[j]? = some (r.l[j]'(by omega)) from List.getElem?_eq_getElem _)
      rw [hg] at L2
      repeat ((conv => whnf); first | (refine VLoad.mk _ L1w ?_) | (refine VLoad.mk _ L2 ?_) | (refine VCmp.tt (by omega) ?_) | (refine VCmp.ff (by omega) ?_) | (refine VIn.mk (IntWalk.i64_in _ (by omega)) ?_) | (refine VIdx.mk _ rfl (by omega) ?_) | (refine VIdx.mk 0 rfl (by omega) ?_))
      try (conv => whnf)
      have hrow := B.i.k.o r (List.mem_of_getElem? hr)
      have hth : wj.there g 0 (r.l.length * 1) := by rw [hg] at hrow; exact hrow.there len_eInt
      refine VStore.cell (by kernel_rfl) (hth j (by omega)).1 (hth j (by omega)).2 rfl rfl fun w2 hw2 => ?_
      have hw2' : w2 = wj.setCells g (j * 1) (eInt (inM i)) := by rw [hw2.out, Nat.mul_one, show 0 + mulO j 1 = j by rw [mulO_eq]; omega]; rfl
      have B2 := B.wri qi hr hg hjl (inM i)
      have b2 : Fx S w w2 := by
        rw [hw2']
        exact bw.trans (.grown (grown_sets _ _ _ _) fun q hq => by injection hq with hq; subst hq; exact hSi.inS hS.i.1 hr g (by rw [hg]; rfl)) fun k hk => .inl hk
      repeat ((conv => whnf); first | (refine VCmp.tt (by omega) ?_) | (refine VCmp.ff (by omega) ?_) | (refine VIn.mk (IntWalk.i64_in _ (by omega)) ?_) | (refine VIdx.mk _ rfl (by omega) ?_) | (refine VIdx.mk 0 rfl (by omega) ?_))
      try (conv => whnf)
      refine .mk (j + 1, T.set i ⟨r.A, r.c, r.l.set j (inM i)⟩) ⟨rfl, rfl, rfl, trivial⟩ ⟨by rw [hw2']; exact B2, hSi.write hr _, b2, _, List.getElem?_set_self (List.getElem?_eq_some_iff.1 hr).1, by show j + 1 ≤ (r.l.set j _).length; rw [List.length_set]; omega, fun t ht => ?_⟩ ?_
      · show (r.l.set j _)[t]? = _
        by_cases e : t = j
        · subst e; rw [List.getElem?_set_self (by omega)]
        · rw [List.getElem?_set_ne (fun e2 => e e2.symm)]; exact hf t (by have : t < j + 1 := ht; omega)
      · show _ - (j + 1) < _ - j
        dsimp only
        rw [List.getElem?_set_self (List.getElem?_eq_some_iff.1 hr).1, hr]
        simp only [Option.map_some, Option.getD_some, List.length_set]
        omega
    case neg =>
      repeat ((conv => whnf); first | (refine VLoad.mk _ L1w ?_) | (refine VLoad.mk _ L2 ?_) | (refine VCmp.tt (by omega) ?_) | (refine VCmp.ff (by omega) ?_) | (refine VIn.mk (IntWalk.i64_in _ (by omega)) ?_) | (refine VIdx.mk _ rfl (by omega) ?_) | (refine VIdx.mk 0 rfl (by omega) ?_))
      try (conv => whnf)
      refine .mk (i + 1, T) ⟨rfl, rfl, trivial⟩ ⟨hil, B, hSi.next hr fun t ht => hf t (by omega), bw⟩ (by show _ - (i + 1) < _ - i; omega)
  repeat ((conv => whnf); first | (refine VLoad.mk _ L1w ?_) | (refine VCmp.tt (by omega) ?_) | (refine VCmp.ff (by omega) ?_) | (refine VIn.mk (IntWalk.i64_in _ (by omega)) ?_) | (refine VIdx.mk _ rfl (by omega) ?_) | (refine VIdx.mk 0 rfl (by omega) ?_))
  try (conv => whnf)
  rw [show i = x.i.P.length by omega] at hSi
  have HW : Fx S w wri := bw
  have HB := B
  clear L1 L1w B bw hSl hil hi
  -- kind s
  refine VLoop.mk (Nat × List (RowX (Int × Int))) (fun u => [(0, .pointer (some ⟨hb, 0, none⟩)), (6, .int .i64 u.1)]) (fun u W => u.1 ≤ x.s.P.length ∧ Bo W base hb ((fun T => (⟨{ x.y with P := Sy }, { x.i with P := Si }, { x.s with P := T }, x.f, x.d, x.m⟩ : BX)) u.2) o ∧ Shw u.2 x.s.P u.1 slM ∧ Fx S w W) (fun u => x.s.P.length - u.1) (0, x.s.P) ⟨rfl, rfl, trivial⟩ ⟨Nat.zero_le _, HB, Shw.start _ _, HW⟩ ?_
  clear HB HW
  rintro ⟨i, Ss⟩ wrs ⟨hi, B, hSs, bw⟩
  dsimp only at hi B hSs ⊢
  have hSl := hSs.len
  have L1 : ∀ W T', Bo W base hb ((fun T => (⟨{ x.y with P := Sy }, { x.i with P := Si }, { x.s with P := T }, x.f, x.d, x.m⟩ : BX)) T') o → Ld Try.prog 100 hb 4 (Eq W) (.slice x.s.L T'.length x.s.cL) := fun W T' B' => .of (load_cell (by kernel_rfl) (B'.r 4 _ rfl))
  have L1w := L1 wrs Ss B
  by_cases hil : i < x.s.P.length
  case pos =>
    repeat ((conv => whnf); first | (refine VLoad.mk _ L1w ?_) | (refine VCmp.tt (by omega) ?_) | (refine VCmp.ff (by omega) ?_) | (refine VIn.mk (IntWalk.i64_in _ (by omega)) ?_) | (refine VIdx.mk _ rfl (by omega) ?_) | (refine VIdx.mk 0 rfl (by omega) ?_))
    try (conv => whnf)
    refine VLoop.mk (Nat × List (RowX (Int × Int))) (fun u => [(0, .pointer (some ⟨hb, 0, none⟩)), (6, .int .i64 i), (7, .int .i64 u.1)]) (fun u W => Bo W base hb ((fun T => (⟨{ x.y with P := Sy }, { x.i with P := Si }, { x.s with P := T }, x.f, x.d, x.m⟩ : BX)) u.2) o ∧ Shw u.2 x.s.P i slM ∧ Fx S w W ∧ ∃ r, u.2[i]? = some r ∧ u.1 ≤ r.l.length ∧ ∀ t, t < u.1 → r.l[t]? = some (slM i)) (fun u => ((u.2[i]?).map fun r => r.l.length).getD 0 - u.1) (0, Ss) ⟨rfl, rfl, rfl, trivial⟩ ⟨B, hSs, bw, _, List.getElem?_eq_getElem (show i < Ss.length by omega), Nat.zero_le _, fun t ht => absurd ht (Nat.not_lt_zero _)⟩ ?_
    clear B hSs bw L1w hSl
    rintro ⟨j, T⟩ wj ⟨B, hSs, bw, r, hr, hj, hf⟩
    dsimp only at B hSs hr hj hf ⊢
    have hSl := hSs.len
    have L1w := L1 wj T B
    obtain ⟨gL, hgL, hcL⟩ := B.s.row hr
    dsimp only at hgL
    rw [hgL] at L1w
    have L2 : Ld Try.prog 36 gL (0 + i) (Eq wj) (.slice r.A r.l.length r.c) := .of (load_cell (by kernel_rfl) (by rw [Nat.zero_add]; exact hcL))
    have hlc := B.s.l.len
    dsimp only at hlc
    rw [List.length_map] at hlc
    have hrc := (B.s.k.o r (List.mem_of_getElem? hr)).len
    by_cases hjl : j < r.l.length
    case pos =>
      obtain ⟨g, hg, _⟩ := (B.s.k.o r (List.mem_of_getElem? hr)).cell len_eSlot (show r.l[j]? = some (r.l[j]'(by omega)) from List.getElem?_eq_getElem _)
      rw [hg] at L2
      repeat ((conv => whnf); first | (refine VLoad.mk _ L1w ?_) | (refine VLoad.mk _ L2 ?_) | (refine VCmp.tt (by omega) ?_) | (refine VCmp.ff (by omega) ?_) | (refine VIn.mk (IntWalk.i64_in _ (by omega)) ?_) | (refine VIdx.mk _ rfl (by omega) ?_) | (refine VIdx.mk 0 rfl (by omega) ?_))
      try (conv => whnf)
      have hrow := B.s.k.o r (List.mem_of_getElem? hr)
      have hth : wj.there g 0 (r.l.length * 2) := by rw [hg] at hrow; exact hrow.there len_eSlot
      refine VBuild.mk _ (fun W => bldS W _) ?_
      repeat ((conv => whnf); first | (refine VCmp.tt (by omega) ?_) | (refine VCmp.ff (by omega) ?_) | (refine VIn.mk (IntWalk.i64_in _ (by omega)) ?_) | (refine VIdx.mk _ rfl (by omega) ?_) | (refine VIdx.mk 0 rfl (by omega) ?_))
      try (conv => whnf)
      have hm : (j + 1) * 2 ≤ r.l.length * 2 := Nat.mul_le_mul_right _ hjl
      have th2 : wj.there g (0 + j * 2) 2 := fun t ht => by
        have := hth (j * 2 + t) (by omega)
        rw [show 0 + j * 2 + t = 0 + (j * 2 + t) by omega]; exact this
      refine VStore.mid th2 (by kernel_rfl) (all_oneCell_toArray (cs := eSlot _) (one_eSlot _)) fun w2 hw2 => ?_
      have hw2' : w2 = wj.setCells g (j * 2) (eSlot (slM i)) := by rw [hw2.out, show 0 + mulO j 2 = j * 2 by rw [mulO_eq]; omega]; rfl
      have B2 := B.wrs qs hr hg hjl (slM i)
      have b2 : Fx S w w2 := by
        rw [hw2']
        exact bw.trans (.grown (grown_sets _ _ _ _) fun q hq => by injection hq with hq; subst hq; exact hSs.inS hS.s.1 hr g (by rw [hg]; rfl)) fun k hk => .inl hk
      repeat ((conv => whnf); first | (refine VCmp.tt (by omega) ?_) | (refine VCmp.ff (by omega) ?_) | (refine VIn.mk (IntWalk.i64_in _ (by omega)) ?_) | (refine VIdx.mk _ rfl (by omega) ?_) | (refine VIdx.mk 0 rfl (by omega) ?_))
      try (conv => whnf)
      refine .mk (j + 1, T.set i ⟨r.A, r.c, r.l.set j (slM i)⟩) ⟨rfl, rfl, rfl, trivial⟩ ⟨by rw [hw2']; exact B2, hSs.write hr _, b2, _, List.getElem?_set_self (List.getElem?_eq_some_iff.1 hr).1, by show j + 1 ≤ (r.l.set j _).length; rw [List.length_set]; omega, fun t ht => ?_⟩ ?_
      · show (r.l.set j _)[t]? = _
        by_cases e : t = j
        · subst e; rw [List.getElem?_set_self (by omega)]
        · rw [List.getElem?_set_ne (fun e2 => e e2.symm)]; exact hf t (by have : t < j + 1 := ht; omega)
      · show _ - (j + 1) < _ - j
        dsimp only
        rw [List.getElem?_set_self (List.getElem?_eq_some_iff.1 hr).1, hr]
        simp only [Option.map_some, Option.getD_some, List.length_set]
        omega
    case neg =>
      repeat ((conv => whnf); first | (refine VLoad.mk _ L1w ?_) | (refine VLoad.mk _ L2 ?_) | (refine VCmp.tt (by omega) ?_) | (refine VCmp.ff (by omega) ?_) | (refine VIn.mk (IntWalk.i64_in _ (by omega)) ?_) | (refine VIdx.mk _ rfl (by omega) ?_) | (refine VIdx.mk 0 rfl (by omega) ?_))
      try (conv => whnf)
      refine .mk (i + 1, T) ⟨rfl, rfl, trivial⟩ ⟨hil, B, hSs.next hr fun t ht => hf t (by omega), bw⟩ (by show _ - (i + 1) < _ - i; omega)
  repeat ((conv => whnf); first | (refine VLoad.mk _ L1w ?_) | (refine VCmp.tt (by omega) ?_) | (refine VCmp.ff (by omega) ?_) | (refine VIn.mk (IntWalk.i64_in _ (by omega)) ?_) | (refine VIdx.mk _ rfl (by omega) ?_) | (refine VIdx.mk 0 rfl (by omega) ?_))
  try (conv => whnf)
  rw [show i = x.s.P.length by omega] at hSs
  have HW : Fx S w wrs := bw
  have HB := B
  clear L1 L1w B bw hSl hil hi
  -- kind f
  refine VLoop.mk (Nat × List (RowX Rw)) (fun u => [(0, .pointer (some ⟨hb, 0, none⟩)), (8, .int .i64 u.1)]) (fun u W => u.1 ≤ x.f.P.length ∧ Bo W base hb ((fun T => (⟨{ x.y with P := Sy }, { x.i with P := Si }, { x.s with P := Ss }, { x.f with P := T }, x.d, x.m⟩ : BX)) u.2) o ∧ Shw u.2 x.f.P u.1 flM ∧ Fx S w W) (fun u => x.f.P.length - u.1) (0, x.f.P) ⟨rfl, rfl, trivial⟩ ⟨Nat.zero_le _, HB, Shw.start _ _, HW⟩ ?_
  clear HB HW
  rintro ⟨i, Sf⟩ wrf ⟨hi, B, hSf, bw⟩
  dsimp only at hi B hSf ⊢
  have hSl := hSf.len
  have L1 : ∀ W T', Bo W base hb ((fun T => (⟨{ x.y with P := Sy }, { x.i with P := Si }, { x.s with P := Ss }, { x.f with P := T }, x.d, x.m⟩ : BX)) T') o → Ld Try.prog 101 hb 6 (Eq W) (.slice x.f.L T'.length x.f.cL) := fun W T' B' => .of (load_cell (by kernel_rfl) (B'.r 6 _ rfl))
  have L1w := L1 wrf Sf B
  by_cases hil : i < x.f.P.length
  case pos =>
    repeat ((conv => whnf); first | (refine VLoad.mk _ L1w ?_) | (refine VCmp.tt (by omega) ?_) | (refine VCmp.ff (by omega) ?_) | (refine VIn.mk (IntWalk.i64_in _ (by omega)) ?_) | (refine VIdx.mk _ rfl (by omega) ?_) | (refine VIdx.mk 0 rfl (by omega) ?_))
    try (conv => whnf)
    refine VLoop.mk (Nat × List (RowX Rw)) (fun u => [(0, .pointer (some ⟨hb, 0, none⟩)), (8, .int .i64 i), (9, .int .i64 u.1)]) (fun u W => Bo W base hb ((fun T => (⟨{ x.y with P := Sy }, { x.i with P := Si }, { x.s with P := Ss }, { x.f with P := T }, x.d, x.m⟩ : BX)) u.2) o ∧ Shw u.2 x.f.P i flM ∧ Fx S w W ∧ ∃ r, u.2[i]? = some r ∧ u.1 ≤ r.l.length ∧ ∀ t, t < u.1 → r.l[t]? = some (flM i)) (fun u => ((u.2[i]?).map fun r => r.l.length).getD 0 - u.1) (0, Sf) ⟨rfl, rfl, rfl, trivial⟩ ⟨B, hSf, bw, _, List.getElem?_eq_getElem (show i < Sf.length by omega), Nat.zero_le _, fun t ht => absurd ht (Nat.not_lt_zero _)⟩ ?_
    clear B hSf bw L1w hSl
    rintro ⟨j, T⟩ wj ⟨B, hSf, bw, r, hr, hj, hf⟩
    dsimp only at B hSf hr hj hf ⊢
    have hSl := hSf.len
    have L1w := L1 wj T B
    obtain ⟨gL, hgL, hcL⟩ := B.f.row hr
    dsimp only at hgL
    rw [hgL] at L1w
    have L2 : Ld Try.prog 22 gL (0 + i) (Eq wj) (.slice r.A r.l.length r.c) := .of (load_cell (by kernel_rfl) (by rw [Nat.zero_add]; exact hcL))
    have hlc := B.f.l.len
    dsimp only at hlc
    rw [List.length_map] at hlc
    have hrc := (B.f.k.o r (List.mem_of_getElem? hr)).len
    by_cases hjl : j < r.l.length
    case pos =>
      obtain ⟨g, hg, _⟩ := (B.f.k.o r (List.mem_of_getElem? hr)).cell len_eRw (show r.l[j]? = some (r.l[j]'(by omega)) from List.getElem?_eq_getElem _)
      rw [hg] at L2
      repeat ((conv => whnf); first | (refine VLoad.mk _ L1w ?_) | (refine VLoad.mk _ L2 ?_) | (refine VCmp.tt (by omega) ?_) | (refine VCmp.ff (by omega) ?_) | (refine VIn.mk (IntWalk.i64_in _ (by omega)) ?_) | (refine VIdx.mk _ rfl (by omega) ?_) | (refine VIdx.mk 0 rfl (by omega) ?_))
      try (conv => whnf)
      have hrow := B.f.k.o r (List.mem_of_getElem? hr)
      have hth : wj.there g 0 (r.l.length * 7) := by rw [hg] at hrow; exact hrow.there len_eRw
      refine VBuild.mk _ (fun W => bldF W _) ?_
      repeat ((conv => whnf); first | (refine VCmp.tt (by omega) ?_) | (refine VCmp.ff (by omega) ?_) | (refine VIn.mk (IntWalk.i64_in _ (by omega)) ?_) | (refine VIdx.mk _ rfl (by omega) ?_) | (refine VIdx.mk 0 rfl (by omega) ?_))
      try (conv => whnf)
      have hm : (j + 1) * 7 ≤ r.l.length * 7 := Nat.mul_le_mul_right _ hjl
      have th2 : wj.there g (0 + j * 7) 7 := fun t ht => by
        have := hth (j * 7 + t) (by omega)
        rw [show 0 + j * 7 + t = 0 + (j * 7 + t) by omega]; exact this
      refine VStore.mid th2 (by kernel_rfl) (all_oneCell_toArray (cs := eRw (flM i)) (one_eRw _)) fun w2 hw2 => ?_
      have hw2' : w2 = wj.setCells g (j * 7) (eRw (flM i)) := by rw [hw2.out, show 0 + mulO j 7 = j * 7 by rw [mulO_eq]; omega]; rfl
      have B2 := B.wrf qf hr hg hjl (flM i)
      have b2 : Fx S w w2 := by
        rw [hw2']
        exact bw.trans (.grown (grown_sets _ _ _ _) fun q hq => by injection hq with hq; subst hq; exact hSf.inS hS.f.1 hr g (by rw [hg]; rfl)) fun k hk => .inl hk
      repeat ((conv => whnf); first | (refine VCmp.tt (by omega) ?_) | (refine VCmp.ff (by omega) ?_) | (refine VIn.mk (IntWalk.i64_in _ (by omega)) ?_) | (refine VIdx.mk _ rfl (by omega) ?_) | (refine VIdx.mk 0 rfl (by omega) ?_))
      try (conv => whnf)
      refine .mk (j + 1, T.set i ⟨r.A, r.c, r.l.set j (flM i)⟩) ⟨rfl, rfl, rfl, trivial⟩ ⟨by rw [hw2']; exact B2, hSf.write hr _, b2, _, List.getElem?_set_self (List.getElem?_eq_some_iff.1 hr).1, by show j + 1 ≤ (r.l.set j _).length; rw [List.length_set]; omega, fun t ht => ?_⟩ ?_
      · show (r.l.set j _)[t]? = _
        by_cases e : t = j
        · subst e; rw [List.getElem?_set_self (by omega)]
        · rw [List.getElem?_set_ne (fun e2 => e e2.symm)]; exact hf t (by have : t < j + 1 := ht; omega)
      · show _ - (j + 1) < _ - j
        dsimp only
        rw [List.getElem?_set_self (List.getElem?_eq_some_iff.1 hr).1, hr]
        simp only [Option.map_some, Option.getD_some, List.length_set]
        omega
    case neg =>
      repeat ((conv => whnf); first | (refine VLoad.mk _ L1w ?_) | (refine VLoad.mk _ L2 ?_) | (refine VCmp.tt (by omega) ?_) | (refine VCmp.ff (by omega) ?_) | (refine VIn.mk (IntWalk.i64_in _ (by omega)) ?_) | (refine VIdx.mk _ rfl (by omega) ?_) | (refine VIdx.mk 0 rfl (by omega) ?_))
      try (conv => whnf)
      refine .mk (i + 1, T) ⟨rfl, rfl, trivial⟩ ⟨hil, B, hSf.next hr fun t ht => hf t (by omega), bw⟩ (by show _ - (i + 1) < _ - i; omega)
  repeat ((conv => whnf); first | (refine VLoad.mk _ L1w ?_) | (refine VCmp.tt (by omega) ?_) | (refine VCmp.ff (by omega) ?_) | (refine VIn.mk (IntWalk.i64_in _ (by omega)) ?_) | (refine VIdx.mk _ rfl (by omega) ?_) | (refine VIdx.mk 0 rfl (by omega) ?_))
  try (conv => whnf)
  rw [show i = x.f.P.length by omega] at hSf
  have HW : Fx S w wrf := bw
  have HB := B
  clear L1 L1w B bw hSl hil hi
  -- kind d
  refine VLoop.mk (Nat × List (RowX Dr)) (fun u => [(0, .pointer (some ⟨hb, 0, none⟩)), (10, .int .i64 u.1)]) (fun u W => u.1 ≤ x.d.P.length ∧ Bo W base hb ((fun T => (⟨{ x.y with P := Sy }, { x.i with P := Si }, { x.s with P := Ss }, { x.f with P := Sf }, { x.d with P := T }, x.m⟩ : BX)) u.2) o ∧ Shw u.2 x.d.P u.1 daM ∧ Fx S w W) (fun u => x.d.P.length - u.1) (0, x.d.P) ⟨rfl, rfl, trivial⟩ ⟨Nat.zero_le _, HB, Shw.start _ _, HW⟩ ?_
  clear HB HW
  rintro ⟨i, Sd⟩ wrd ⟨hi, B, hSd, bw⟩
  dsimp only at hi B hSd ⊢
  have hSl := hSd.len
  have L1 : ∀ W T', Bo W base hb ((fun T => (⟨{ x.y with P := Sy }, { x.i with P := Si }, { x.s with P := Ss }, { x.f with P := Sf }, { x.d with P := T }, x.m⟩ : BX)) T') o → Ld Try.prog 102 hb 8 (Eq W) (.slice x.d.L T'.length x.d.cL) := fun W T' B' => .of (load_cell (by kernel_rfl) (B'.r 8 _ rfl))
  have L1w := L1 wrd Sd B
  by_cases hil : i < x.d.P.length
  case pos =>
    repeat ((conv => whnf); first | (refine VLoad.mk _ L1w ?_) | (refine VCmp.tt (by omega) ?_) | (refine VCmp.ff (by omega) ?_) | (refine VIn.mk (IntWalk.i64_in _ (by omega)) ?_) | (refine VIdx.mk _ rfl (by omega) ?_) | (refine VIdx.mk 0 rfl (by omega) ?_))
    try (conv => whnf)
    refine VLoop.mk (Nat × List (RowX Dr)) (fun u => [(0, .pointer (some ⟨hb, 0, none⟩)), (10, .int .i64 i), (11, .int .i64 u.1)]) (fun u W => Bo W base hb ((fun T => (⟨{ x.y with P := Sy }, { x.i with P := Si }, { x.s with P := Ss }, { x.f with P := Sf }, { x.d with P := T }, x.m⟩ : BX)) u.2) o ∧ Shw u.2 x.d.P i daM ∧ Fx S w W ∧ ∃ r, u.2[i]? = some r ∧ u.1 ≤ r.l.length ∧ ∀ t, t < u.1 → r.l[t]? = some (daM i)) (fun u => ((u.2[i]?).map fun r => r.l.length).getD 0 - u.1) (0, Sd) ⟨rfl, rfl, rfl, trivial⟩ ⟨B, hSd, bw, _, List.getElem?_eq_getElem (show i < Sd.length by omega), Nat.zero_le _, fun t ht => absurd ht (Nat.not_lt_zero _)⟩ ?_
    clear B hSd bw L1w hSl
    rintro ⟨j, T⟩ wj ⟨B, hSd, bw, r, hr, hj, hf⟩
    dsimp only at B hSd hr hj hf ⊢
    have hSl := hSd.len
    have L1w := L1 wj T B
    obtain ⟨gL, hgL, hcL⟩ := B.d.row hr
    dsimp only at hgL
    rw [hgL] at L1w
    have L2 : Ld Try.prog 40 gL (0 + i) (Eq wj) (.slice r.A r.l.length r.c) := .of (load_cell (by kernel_rfl) (by rw [Nat.zero_add]; exact hcL))
    have hlc := B.d.l.len
    dsimp only at hlc
    rw [List.length_map] at hlc
    have hrc := (B.d.k.o r (List.mem_of_getElem? hr)).len
    by_cases hjl : j < r.l.length
    case pos =>
      obtain ⟨g, hg, _⟩ := (B.d.k.o r (List.mem_of_getElem? hr)).cell len_eDr (show r.l[j]? = some (r.l[j]'(by omega)) from List.getElem?_eq_getElem _)
      rw [hg] at L2
      repeat ((conv => whnf); first | (refine VLoad.mk _ L1w ?_) | (refine VLoad.mk _ L2 ?_) | (refine VCmp.tt (by omega) ?_) | (refine VCmp.ff (by omega) ?_) | (refine VIn.mk (IntWalk.i64_in _ (by omega)) ?_) | (refine VIdx.mk _ rfl (by omega) ?_) | (refine VIdx.mk 0 rfl (by omega) ?_))
      try (conv => whnf)
      have hrow := B.d.k.o r (List.mem_of_getElem? hr)
      have hth : wj.there g 0 (r.l.length * 4) := by rw [hg] at hrow; exact hrow.there len_eDr
      refine VBuild.mk _ (fun W => bldD W _) ?_
      repeat ((conv => whnf); first | (refine VCmp.tt (by omega) ?_) | (refine VCmp.ff (by omega) ?_) | (refine VIn.mk (IntWalk.i64_in _ (by omega)) ?_) | (refine VIdx.mk _ rfl (by omega) ?_) | (refine VIdx.mk 0 rfl (by omega) ?_))
      try (conv => whnf)
      have hm : (j + 1) * 4 ≤ r.l.length * 4 := Nat.mul_le_mul_right _ hjl
      have th2 : wj.there g (0 + j * 4) 4 := fun t ht => by
        have := hth (j * 4 + t) (by omega)
        rw [show 0 + j * 4 + t = 0 + (j * 4 + t) by omega]; exact this
      refine VStore.mid th2 (by kernel_rfl) (all_oneCell_toArray (cs := eDr (daM i)) (one_eDr _)) fun w2 hw2 => ?_
      have hw2' : w2 = wj.setCells g (j * 4) (eDr (daM i)) := by rw [hw2.out, show 0 + mulO j 4 = j * 4 by rw [mulO_eq]; omega]; rfl
      have B2 := B.wrd qd hr hg hjl (daM i)
      have b2 : Fx S w w2 := by
        rw [hw2']
        exact bw.trans (.grown (grown_sets _ _ _ _) fun q hq => by injection hq with hq; subst hq; exact hSd.inS hS.d.1 hr g (by rw [hg]; rfl)) fun k hk => .inl hk
      repeat ((conv => whnf); first | (refine VCmp.tt (by omega) ?_) | (refine VCmp.ff (by omega) ?_) | (refine VIn.mk (IntWalk.i64_in _ (by omega)) ?_) | (refine VIdx.mk _ rfl (by omega) ?_) | (refine VIdx.mk 0 rfl (by omega) ?_))
      try (conv => whnf)
      refine .mk (j + 1, T.set i ⟨r.A, r.c, r.l.set j (daM i)⟩) ⟨rfl, rfl, rfl, trivial⟩ ⟨by rw [hw2']; exact B2, hSd.write hr _, b2, _, List.getElem?_set_self (List.getElem?_eq_some_iff.1 hr).1, by show j + 1 ≤ (r.l.set j _).length; rw [List.length_set]; omega, fun t ht => ?_⟩ ?_
      · show (r.l.set j _)[t]? = _
        by_cases e : t = j
        · subst e; rw [List.getElem?_set_self (by omega)]
        · rw [List.getElem?_set_ne (fun e2 => e e2.symm)]; exact hf t (by have : t < j + 1 := ht; omega)
      · show _ - (j + 1) < _ - j
        dsimp only
        rw [List.getElem?_set_self (List.getElem?_eq_some_iff.1 hr).1, hr]
        simp only [Option.map_some, Option.getD_some, List.length_set]
        omega
    case neg =>
      repeat ((conv => whnf); first | (refine VLoad.mk _ L1w ?_) | (refine VLoad.mk _ L2 ?_) | (refine VCmp.tt (by omega) ?_) | (refine VCmp.ff (by omega) ?_) | (refine VIn.mk (IntWalk.i64_in _ (by omega)) ?_) | (refine VIdx.mk _ rfl (by omega) ?_) | (refine VIdx.mk 0 rfl (by omega) ?_))
      try (conv => whnf)
      refine .mk (i + 1, T) ⟨rfl, rfl, trivial⟩ ⟨hil, B, hSd.next hr fun t ht => hf t (by omega), bw⟩ (by show _ - (i + 1) < _ - i; omega)
  repeat ((conv => whnf); first | (refine VLoad.mk _ L1w ?_) | (refine VCmp.tt (by omega) ?_) | (refine VCmp.ff (by omega) ?_) | (refine VIn.mk (IntWalk.i64_in _ (by omega)) ?_) | (refine VIdx.mk _ rfl (by omega) ?_) | (refine VIdx.mk 0 rfl (by omega) ?_))
  try (conv => whnf)
  rw [show i = x.d.P.length by omega] at hSd
  have HW : Fx S w wrd := bw
  have HB := B
  clear L1 L1w B bw hSl hil hi
  -- kind m
  refine VLoop.mk (Nat × List (RowX Dr)) (fun u => [(0, .pointer (some ⟨hb, 0, none⟩)), (12, .int .i64 u.1)]) (fun u W => u.1 ≤ x.m.P.length ∧ Bo W base hb ((fun T => (⟨{ x.y with P := Sy }, { x.i with P := Si }, { x.s with P := Ss }, { x.f with P := Sf }, { x.d with P := Sd }, { x.m with P := T }⟩ : BX)) u.2) o ∧ Shw u.2 x.m.P u.1 msM ∧ Fx S w W) (fun u => x.m.P.length - u.1) (0, x.m.P) ⟨rfl, rfl, trivial⟩ ⟨Nat.zero_le _, HB, Shw.start _ _, HW⟩ ?_
  clear HB HW
  rintro ⟨i, Sm⟩ wrm ⟨hi, B, hSm, bw⟩
  dsimp only at hi B hSm ⊢
  have hSl := hSm.len
  have L1 : ∀ W T', Bo W base hb ((fun T => (⟨{ x.y with P := Sy }, { x.i with P := Si }, { x.s with P := Ss }, { x.f with P := Sf }, { x.d with P := Sd }, { x.m with P := T }⟩ : BX)) T') o → Ld Try.prog 103 hb 10 (Eq W) (.slice x.m.L T'.length x.m.cL) := fun W T' B' => .of (load_cell (by kernel_rfl) (B'.r 10 _ rfl))
  have L1w := L1 wrm Sm B
  by_cases hil : i < x.m.P.length
  case pos =>
    repeat ((conv => whnf); first | (refine VLoad.mk _ L1w ?_) | (refine VCmp.tt (by omega) ?_) | (refine VCmp.ff (by omega) ?_) | (refine VIn.mk (IntWalk.i64_in _ (by omega)) ?_) | (refine VIdx.mk _ rfl (by omega) ?_) | (refine VIdx.mk 0 rfl (by omega) ?_))
    try (conv => whnf)
    refine VLoop.mk (Nat × List (RowX Dr)) (fun u => [(0, .pointer (some ⟨hb, 0, none⟩)), (12, .int .i64 i), (13, .int .i64 u.1)]) (fun u W => Bo W base hb ((fun T => (⟨{ x.y with P := Sy }, { x.i with P := Si }, { x.s with P := Ss }, { x.f with P := Sf }, { x.d with P := Sd }, { x.m with P := T }⟩ : BX)) u.2) o ∧ Shw u.2 x.m.P i msM ∧ Fx S w W ∧ ∃ r, u.2[i]? = some r ∧ u.1 ≤ r.l.length ∧ ∀ t, t < u.1 → r.l[t]? = some (msM i)) (fun u => ((u.2[i]?).map fun r => r.l.length).getD 0 - u.1) (0, Sm) ⟨rfl, rfl, rfl, trivial⟩ ⟨B, hSm, bw, _, List.getElem?_eq_getElem (show i < Sm.length by omega), Nat.zero_le _, fun t ht => absurd ht (Nat.not_lt_zero _)⟩ ?_
    clear B hSm bw L1w hSl
    rintro ⟨j, T⟩ wj ⟨B, hSm, bw, r, hr, hj, hf⟩
    dsimp only at B hSm hr hj hf ⊢
    have hSl := hSm.len
    have L1w := L1 wj T B
    obtain ⟨gL, hgL, hcL⟩ := B.m.row hr
    dsimp only at hgL
    rw [hgL] at L1w
    have L2 : Ld Try.prog 44 gL (0 + i) (Eq wj) (.slice r.A r.l.length r.c) := .of (load_cell (by kernel_rfl) (by rw [Nat.zero_add]; exact hcL))
    have hlc := B.m.l.len
    dsimp only at hlc
    rw [List.length_map] at hlc
    have hrc := (B.m.k.o r (List.mem_of_getElem? hr)).len
    by_cases hjl : j < r.l.length
    case pos =>
      obtain ⟨g, hg, _⟩ := (B.m.k.o r (List.mem_of_getElem? hr)).cell len_eDr (show r.l[j]? = some (r.l[j]'(by omega)) from List.getElem?_eq_getElem _)
      rw [hg] at L2
      repeat ((conv => whnf); first | (refine VLoad.mk _ L1w ?_) | (refine VLoad.mk _ L2 ?_) | (refine VCmp.tt (by omega) ?_) | (refine VCmp.ff (by omega) ?_) | (refine VIn.mk (IntWalk.i64_in _ (by omega)) ?_) | (refine VIdx.mk _ rfl (by omega) ?_) | (refine VIdx.mk 0 rfl (by omega) ?_))
      try (conv => whnf)
      have hrow := B.m.k.o r (List.mem_of_getElem? hr)
      have hth : wj.there g 0 (r.l.length * 4) := by rw [hg] at hrow; exact hrow.there len_eDr
      refine VBuild.mk _ (fun W => bldM W _) ?_
      repeat ((conv => whnf); first | (refine VCmp.tt (by omega) ?_) | (refine VCmp.ff (by omega) ?_) | (refine VIn.mk (IntWalk.i64_in _ (by omega)) ?_) | (refine VIdx.mk _ rfl (by omega) ?_) | (refine VIdx.mk 0 rfl (by omega) ?_))
      try (conv => whnf)
      have hm : (j + 1) * 4 ≤ r.l.length * 4 := Nat.mul_le_mul_right _ hjl
      have th2 : wj.there g (0 + j * 4) 4 := fun t ht => by
        have := hth (j * 4 + t) (by omega)
        rw [show 0 + j * 4 + t = 0 + (j * 4 + t) by omega]; exact this
      refine VStore.mid th2 (by kernel_rfl) (all_oneCell_toArray (cs := eDr (msM i)) (one_eDr _)) fun w2 hw2 => ?_
      have hw2' : w2 = wj.setCells g (j * 4) (eDr (msM i)) := by rw [hw2.out, show 0 + mulO j 4 = j * 4 by rw [mulO_eq]; omega]; rfl
      have B2 := B.wrm qm hr hg hjl (msM i)
      have b2 : Fx S w w2 := by
        rw [hw2']
        exact bw.trans (.grown (grown_sets _ _ _ _) fun q hq => by injection hq with hq; subst hq; exact hSm.inS hS.m.1 hr g (by rw [hg]; rfl)) fun k hk => .inl hk
      repeat ((conv => whnf); first | (refine VCmp.tt (by omega) ?_) | (refine VCmp.ff (by omega) ?_) | (refine VIn.mk (IntWalk.i64_in _ (by omega)) ?_) | (refine VIdx.mk _ rfl (by omega) ?_) | (refine VIdx.mk 0 rfl (by omega) ?_))
      try (conv => whnf)
      refine .mk (j + 1, T.set i ⟨r.A, r.c, r.l.set j (msM i)⟩) ⟨rfl, rfl, rfl, trivial⟩ ⟨by rw [hw2']; exact B2, hSm.write hr _, b2, _, List.getElem?_set_self (List.getElem?_eq_some_iff.1 hr).1, by show j + 1 ≤ (r.l.set j _).length; rw [List.length_set]; omega, fun t ht => ?_⟩ ?_
      · show (r.l.set j _)[t]? = _
        by_cases e : t = j
        · subst e; rw [List.getElem?_set_self (by omega)]
        · rw [List.getElem?_set_ne (fun e2 => e e2.symm)]; exact hf t (by have : t < j + 1 := ht; omega)
      · show _ - (j + 1) < _ - j
        dsimp only
        rw [List.getElem?_set_self (List.getElem?_eq_some_iff.1 hr).1, hr]
        simp only [Option.map_some, Option.getD_some, List.length_set]
        omega
    case neg =>
      repeat ((conv => whnf); first | (refine VLoad.mk _ L1w ?_) | (refine VLoad.mk _ L2 ?_) | (refine VCmp.tt (by omega) ?_) | (refine VCmp.ff (by omega) ?_) | (refine VIn.mk (IntWalk.i64_in _ (by omega)) ?_) | (refine VIdx.mk _ rfl (by omega) ?_) | (refine VIdx.mk 0 rfl (by omega) ?_))
      try (conv => whnf)
      refine .mk (i + 1, T) ⟨rfl, rfl, trivial⟩ ⟨hil, B, hSm.next hr fun t ht => hf t (by omega), bw⟩ (by show _ - (i + 1) < _ - i; omega)
  repeat ((conv => whnf); first | (refine VLoad.mk _ L1w ?_) | (refine VCmp.tt (by omega) ?_) | (refine VCmp.ff (by omega) ?_) | (refine VIn.mk (IntWalk.i64_in _ (by omega)) ?_) | (refine VIdx.mk _ rfl (by omega) ?_) | (refine VIdx.mk 0 rfl (by omega) ?_))
  try (conv => whnf)
  rw [show i = x.m.P.length by omega] at hSm
  have HW : Fx S w wrm := bw
  have HB := B
  clear L1 L1w B bw hSl hil hi
  exact .mk ⟨rfl, HW, Sy, Si, Ss, Sf, Sd, Sm, hSy, hSi, hSs, hSf, hSd, hSm, HB⟩
end Go.Proofs.Ytcffhfcjfjfokaa
namespace Go.Proofs.Ytcffhfcjfjfokaa
open Go Go.RowKit
theorem moreT_push {α : Type} {P : List (RowX α)} {Q : List (Option Addr × Nat)} {r : RowX α} (h : Q.length ≤ P.length) (hr : P[Q.length]? = some r) (y : Option Addr × Nat) : moreT P (Q ++ [y]) = moreT P Q ++ [(y.1, r.l.length + 64, y.2)] := by
  have hl := (List.getElem?_eq_some_iff.1 hr).1
  apply List.ext_getElem?
  intro k
  by_cases hk : k < Q.length
  · have hq : Q[k]? = some Q[k] := List.getElem?_eq_getElem hk
    have hp : P[k]? = some (P[k]'(by omega)) := List.getElem?_eq_getElem _
    rw [List.getElem?_append_left (by rw [moreT_len h]; exact hk), moreT_at hp hq, moreT_at hp (by rw [List.getElem?_append_left hk]; exact hq)]
  · by_cases e : k = Q.length
    · subst e
      rw [List.getElem?_append_right (by rw [moreT_len h]; exact Nat.le_refl _), moreT_len h, Nat.sub_self, moreT_at hr (y := y) (by rw [List.getElem?_append_right (Nat.le_refl _), Nat.sub_self]; rfl)]; rfl
    · rw [List.getElem?_eq_none (by rw [moreT_len (by rw [List.length_append]; simp; omega), List.length_append]; simp; omega), List.getElem?_eq_none (by rw [List.length_append, moreT_len h]; simp; omega)]
section
variable {α : Type} {W0 W W1 W2 : World} {base sz : Nat} {tl e : TypeId} {enc : α → List Value} {zs : Nat → List α} {x : KX α}
theorem Kb.more (h : Kb W0 base tl e sz enc zs x) (ht : tl ≠ e) {r : RowX α} (hi : x.P[x.Q.length]? = some r) {A : Option Addr} {c : Nat} (G : Gr W0 base e sz enc r A c (zs x.Q.length) W) (hb : Below W.heap.size W W1) {M : Option Addr} {cM : Nat} (ho : Owns W2 base tl 1 eTr M cM (moreT x.P x.Q ++ [(A, r.l.length + 64, c)])) (hg : W1.grownBy W2 (blk x.M)) (hk : blk M = blk x.M ∨ blk M = some W1.heap.size) :
    Kb W2 base tl e sz enc zs { x with M := M, cM := cM, Q := x.Q ++ [(A, c)] } := by
  have hr := h.k.o r (List.mem_of_getElem? hi)
  have hl := h.l.kept G.g (h.l.ne hr ht)
  have hm := h.m.kept G.g (h.m.ne hr ht)
  have hl1 := hl.keep hb fun k hk => (hl.lo k hk).2
  have hm1 := hm.keep hb fun k hk => (hm.lo k hk).2
  have hk1 := (h.k.grow hi G).below hb
  refine ⟨hk1.other hm1 (fun e1 => ht e1.symm) hg, ?_, ?_, ?_⟩
  · refine hl1.same fun q hq => hg.block q (hl1.lo q hq).2 (fun e1 => h.lm q hq e1.symm)
  · dsimp only
    rw [moreT_push h.k.len hi]
    exact ho
  · intro q hq e1
    rcases hk with e2 | e2
    · exact h.lm q hq (by rw [← e2]; exact e1)
    · rw [e2] at e1; injection e1 with e1
      have := (hl1.lo q hq).2; omega
end
end Go.Proofs.Ytcffhfcjfjfokaa
namespace Go.Proofs.Ytcffhfcjfjfokaa
open Go Go.RowKit
section
variable {α : Type} {W W' : World} {base sz hb : Nat} {tl e : TypeId} {enc : α → List Value} {zs : Nat → List α} {x : KX α}
theorem Kb.cell (h : Kb W base tl e sz enc zs x) (hg : W.grownBy W' (some hb)) (hz : hb < base) : Kb W' base tl e sz enc zs x :=
  ⟨h.k.keep fun k hk1 hk2 => ⟨fun y hy e1 => hg.block k hk2 (fun e2 => by injection e2 with e2; omega), fun y hy e1 => hg.block k hk2 (fun e2 => by injection e2 with e2; omega)⟩,
    h.l.same fun q hq => hg.block q (h.l.lo q hq).2 (fun e2 => by injection e2 with e2; have := (h.l.lo q hq).1; omega), h.m.same fun q hq => hg.block q (h.m.lo q hq).2 (fun e2 => by injection e2 with e2; have := (h.m.lo q hq).1; omega), h.lm⟩
theorem Kb.aside {β : Type} {W0 W1 W2 W3 : World} {sz' : Nat} {tl' e' : TypeId} {enc' : β → List Value} {zs' : Nat → List β} {x' : KX β} (h : Kb W0 base tl e sz enc zs x) (h' : Kb W0 base tl' e' sz' enc' zs' x') (n1 : e ≠ e') (n2 : tl ≠ e') (n3 : e ≠ tl') (n4 : tl ≠ tl') (n5 : tl' ≠ e') {r : RowX β} (hi : r ∈ x'.P) {A : Option Addr} {c : Nat} {m : List β} (G : Gr W0 base e' sz' enc' r A c m W) (hb' : Below W.heap.size W W1) (hg : W1.grownBy W2 (blk x'.M)) (hg3 : W2.grownBy W3 (some hb)) (hz : hb < base) : Kb W3 base tl e sz enc zs x := by
  have hr := h'.k.o r hi
  have a := (h.other hr n1 n2 G.g).below hb'
  have hm := (h'.m.kept G.g (h'.m.ne hr n5)).keep hb' fun k hk => ((h'.m.kept G.g (h'.m.ne hr n5)).lo k hk).2
  exact (a.other hm n3 n4 hg).cell hg3 hz
end
end Go.Proofs.Ytcffhfcjfjfokaa
namespace Go.Proofs.Ytcffhfcjfjfokaa
open Go Go.RowKit
section
variable {W0 W W1 W2 : World} {base hb : Nat} {x : BX} {o : List Value}
theorem Bo.more_y (h : Bo W0 base hb x o) (hol : o.length = 4) {r : RowX Int} (hi : x.y.P[x.y.Q.length]? = some r) {A : Option Addr} {c : Nat} (G : Gr W0 base 5 1 eByte r A c (z64 byM x.y.Q.length) W) (hb1 : Below W.heap.size W W1) {M : Option Addr} {cM : Nat} (ho : Owns W2 base 52 1 eTr M cM (moreT x.y.P x.y.Q ++ [(A, r.l.length + 64, c)])) (hg : W1.grownBy W2 (blk x.y.M)) (hk : blk M = blk x.y.M ∨ blk M = some W1.heap.size) :
    Bo (W2.setCell ⟨hb, 1, none⟩ (.slice M (x.y.Q.length + 1) cM)) base hb { x with y := { x.y with M := M, cM := cM, Q := x.y.Q ++ [(A, c)] } } o := by
  have g3 : W2.grownBy (W2.setCell ⟨hb, 1, none⟩ (.slice M (x.y.Q.length + 1) cM)) (some hb) := grown_cell _ _ _ _
  have hk := (h.y.more (by decide) hi G hb1 ho hg hk).cell g3 h.hz
  have hr := h.y.k.o r (List.mem_of_getElem? hi)
  have hsame : W2.heap[hb]? = W0.heap[hb]? := by
    have hz := h.hz
    have z0 := h.z
    have e1 := G.g.block hb (by omega) (fun e => by have := (hr.lo hb e.symm).1; omega)
    have e2 := hb1.block hb (by have := G.g.size; omega)
    have e3 := hg.block hb (by have := G.g.size; have := hb1.size; omega) (fun e => by have := (h.y.m.lo hb e.symm).1; omega)
    exact e3.trans (e2.trans e1)
  have hr2 := range_same h.r hsame
  have ht2 := there_same h.t hsame
  refine ⟨hk, h.i.aside h.y (by decide) (by decide) (by decide) (by decide) (by decide) (List.mem_of_getElem? hi) G hb1 hg g3 h.hz, h.s.aside h.y (by decide) (by decide) (by decide) (by decide) (by decide) (List.mem_of_getElem? hi) G hb1 hg g3 h.hz, h.f.aside h.y (by decide) (by decide) (by decide) (by decide) (by decide) (List.mem_of_getElem? hi) G hb1 hg g3 h.hz, h.d.aside h.y (by decide) (by decide) (by decide) (by decide) (by decide) (List.mem_of_getElem? hi) G hb1 hg g3 h.hz, h.m.aside h.y (by decide) (by decide) (by decide) (by decide) (by decide) (List.mem_of_getElem? hi) G hb1 hg g3 h.hz, ?_, there_set ht2 _ _, h.hz, ?_⟩
  · have := rng_put (o := 1) (vs := [.slice M (x.y.Q.length + 1) cM]) hr2 ht2 (by simp [kxC, hol]) (by simp)
    unfold kxC at this ⊢
    dsimp only
    rw [List.length_append]
    exact this
  · have := g3.size; have := hg.size; have := hb1.size; have := G.g.size; have := h.z; omega
theorem Bo.more_i (h : Bo W0 base hb x o) (hol : o.length = 4) {r : RowX Int} (hi : x.i.P[x.i.Q.length]? = some r) {A : Option Addr} {c : Nat} (G : Gr W0 base 3 1 eInt r A c (z64 inM x.i.Q.length) W) (hb1 : Below W.heap.size W W1) {M : Option Addr} {cM : Nat} (ho : Owns W2 base 37 1 eTr M cM (moreT x.i.P x.i.Q ++ [(A, r.l.length + 64, c)])) (hg : W1.grownBy W2 (blk x.i.M)) (hk : blk M = blk x.i.M ∨ blk M = some W1.heap.size) :
    Bo (W2.setCell ⟨hb, 3, none⟩ (.slice M (x.i.Q.length + 1) cM)) base hb { x with i := { x.i with M := M, cM := cM, Q := x.i.Q ++ [(A, c)] } } o := by
  have g3 : W2.grownBy (W2.setCell ⟨hb, 3, none⟩ (.slice M (x.i.Q.length + 1) cM)) (some hb) := grown_cell _ _ _ _
  have hk := (h.i.more (by decide) hi G hb1 ho hg hk).cell g3 h.hz
  have hr := h.i.k.o r (List.mem_of_getElem? hi)
  have hsame : W2.heap[hb]? = W0.heap[hb]? := by
    have hz := h.hz
    have z0 := h.z
    have e1 := G.g.block hb (by omega) (fun e => by have := (hr.lo hb e.symm).1; omega)
    have e2 := hb1.block hb (by have := G.g.size; omega)
    have e3 := hg.block hb (by have := G.g.size; have := hb1.size; omega) (fun e => by have := (h.i.m.lo hb e.symm).1; omega)
    exact e3.trans (e2.trans e1)
  have hr2 := range_same h.r hsame
  have ht2 := there_same h.t hsame
  refine ⟨h.y.aside h.i (by decide) (by decide) (by decide) (by decide) (by decide) (List.mem_of_getElem? hi) G hb1 hg g3 h.hz, hk, h.s.aside h.i (by decide) (by decide) (by decide) (by decide) (by decide) (List.mem_of_getElem? hi) G hb1 hg g3 h.hz, h.f.aside h.i (by decide) (by decide) (by decide) (by decide) (by decide) (List.mem_of_getElem? hi) G hb1 hg g3 h.hz, h.d.aside h.i (by decide) (by decide) (by decide) (by decide) (by decide) (List.mem_of_getElem? hi) G hb1 hg g3 h.hz, h.m.aside h.i (by decide) (by decide) (by decide) (by decide) (by decide) (List.mem_of_getElem? hi) G hb1 hg g3 h.hz, ?_, there_set ht2 _ _, h.hz, ?_⟩
  · have := rng_put (o := 3) (vs := [.slice M (x.i.Q.length + 1) cM]) hr2 ht2 (by simp [kxC, hol]) (by simp)
    unfold kxC at this ⊢
    dsimp only
    rw [List.length_append]
    exact this
  · have := g3.size; have := hg.size; have := hb1.size; have := G.g.size; have := h.z; omega
theorem Bo.more_s (h : Bo W0 base hb x o) (hol : o.length = 4) {r : RowX (Int × Int)} (hi : x.s.P[x.s.Q.length]? = some r) {A : Option Addr} {c : Nat} (G : Gr W0 base 66 2 eSlot r A c (z64 slM x.s.Q.length) W) (hb1 : Below W.heap.size W W1) {M : Option Addr} {cM : Nat} (ho : Owns W2 base 36 1 eTr M cM (moreT x.s.P x.s.Q ++ [(A, r.l.length + 64, c)])) (hg : W1.grownBy W2 (blk x.s.M)) (hk : blk M = blk x.s.M ∨ blk M = some W1.heap.size) :
    Bo (W2.setCell ⟨hb, 5, none⟩ (.slice M (x.s.Q.length + 1) cM)) base hb { x with s := { x.s with M := M, cM := cM, Q := x.s.Q ++ [(A, c)] } } o := by
  have g3 : W2.grownBy (W2.setCell ⟨hb, 5, none⟩ (.slice M (x.s.Q.length + 1) cM)) (some hb) := grown_cell _ _ _ _
  have hk := (h.s.more (by decide) hi G hb1 ho hg hk).cell g3 h.hz
  have hr := h.s.k.o r (List.mem_of_getElem? hi)
  have hsame : W2.heap[hb]? = W0.heap[hb]? := by
    have hz := h.hz
    have z0 := h.z
    have e1 := G.g.block hb (by omega) (fun e => by have := (hr.lo hb e.symm).1; omega)
    have e2 := hb1.block hb (by have := G.g.size; omega)
    have e3 := hg.block hb (by have := G.g.size; have := hb1.size; omega) (fun e => by have := (h.s.m.lo hb e.symm).1; omega)
    exact e3.trans (e2.trans e1)
  have hr2 := range_same h.r hsame
  have ht2 := there_same h.t hsame
  refine ⟨h.y.aside h.s (by decide) (by decide) (by decide) (by decide) (by decide) (List.mem_of_getElem? hi) G hb1 hg g3 h.hz, h.i.aside h.s (by decide) (by decide) (by decide) (by decide) (by decide) (List.mem_of_getElem? hi) G hb1 hg g3 h.hz, hk, h.f.aside h.s (by decide) (by decide) (by decide) (by decide) (by decide) (List.mem_of_getElem? hi) G hb1 hg g3 h.hz, h.d.aside h.s (by decide) (by decide) (by decide) (by decide) (by decide) (List.mem_of_getElem? hi) G hb1 hg g3 h.hz, h.m.aside h.s (by decide) (by decide) (by decide) (by decide) (by decide) (List.mem_of_getElem? hi) G hb1 hg g3 h.hz, ?_, there_set ht2 _ _, h.hz, ?_⟩
  · have := rng_put (o := 5) (vs := [.slice M (x.s.Q.length + 1) cM]) hr2 ht2 (by simp [kxC, hol]) (by simp)
    unfold kxC at this ⊢
    dsimp only
    rw [List.length_append]
    exact this
  · have := g3.size; have := hg.size; have := hb1.size; have := G.g.size; have := h.z; omega
theorem Bo.more_f (h : Bo W0 base hb x o) (hol : o.length = 4) {r : RowX Rw} (hi : x.f.P[x.f.Q.length]? = some r) {A : Option Addr} {c : Nat} (G : Gr W0 base 39 7 eRw r A c (z64 flM x.f.Q.length) W) (hb1 : Below W.heap.size W W1) {M : Option Addr} {cM : Nat} (ho : Owns W2 base 22 1 eTr M cM (moreT x.f.P x.f.Q ++ [(A, r.l.length + 64, c)])) (hg : W1.grownBy W2 (blk x.f.M)) (hk : blk M = blk x.f.M ∨ blk M = some W1.heap.size) :
    Bo (W2.setCell ⟨hb, 7, none⟩ (.slice M (x.f.Q.length + 1) cM)) base hb { x with f := { x.f with M := M, cM := cM, Q := x.f.Q ++ [(A, c)] } } o := by
  have g3 : W2.grownBy (W2.setCell ⟨hb, 7, none⟩ (.slice M (x.f.Q.length + 1) cM)) (some hb) := grown_cell _ _ _ _
  have hk := (h.f.more (by decide) hi G hb1 ho hg hk).cell g3 h.hz
  have hr := h.f.k.o r (List.mem_of_getElem? hi)
  have hsame : W2.heap[hb]? = W0.heap[hb]? := by
    have hz := h.hz
    have z0 := h.z
    have e1 := G.g.block hb (by omega) (fun e => by have := (hr.lo hb e.symm).1; omega)
    have e2 := hb1.block hb (by have := G.g.size; omega)
    have e3 := hg.block hb (by have := G.g.size; have := hb1.size; omega) (fun e => by have := (h.f.m.lo hb e.symm).1; omega)
    exact e3.trans (e2.trans e1)
  have hr2 := range_same h.r hsame
  have ht2 := there_same h.t hsame
  refine ⟨h.y.aside h.f (by decide) (by decide) (by decide) (by decide) (by decide) (List.mem_of_getElem? hi) G hb1 hg g3 h.hz, h.i.aside h.f (by decide) (by decide) (by decide) (by decide) (by decide) (List.mem_of_getElem? hi) G hb1 hg g3 h.hz, h.s.aside h.f (by decide) (by decide) (by decide) (by decide) (by decide) (List.mem_of_getElem? hi) G hb1 hg g3 h.hz, hk, h.d.aside h.f (by decide) (by decide) (by decide) (by decide) (by decide) (List.mem_of_getElem? hi) G hb1 hg g3 h.hz, h.m.aside h.f (by decide) (by decide) (by decide) (by decide) (by decide) (List.mem_of_getElem? hi) G hb1 hg g3 h.hz, ?_, there_set ht2 _ _, h.hz, ?_⟩
  · have := rng_put (o := 7) (vs := [.slice M (x.f.Q.length + 1) cM]) hr2 ht2 (by simp [kxC, hol]) (by simp)
    unfold kxC at this ⊢
    dsimp only
    rw [List.length_append]
    exact this
  · have := g3.size; have := hg.size; have := hb1.size; have := G.g.size; have := h.z; omega
theorem Bo.more_d (h : Bo W0 base hb x o) (hol : o.length = 4) {r : RowX Dr} (hi : x.d.P[x.d.Q.length]? = some r) {A : Option Addr} {c : Nat} (G : Gr W0 base 113 4 eDr r A c (z64 daM x.d.Q.length) W) (hb1 : Below W.heap.size W W1) {M : Option Addr} {cM : Nat} (ho : Owns W2 base 40 1 eTr M cM (moreT x.d.P x.d.Q ++ [(A, r.l.length + 64, c)])) (hg : W1.grownBy W2 (blk x.d.M)) (hk : blk M = blk x.d.M ∨ blk M = some W1.heap.size) :
    Bo (W2.setCell ⟨hb, 9, none⟩ (.slice M (x.d.Q.length + 1) cM)) base hb { x with d := { x.d with M := M, cM := cM, Q := x.d.Q ++ [(A, c)] } } o := by
  have g3 : W2.grownBy (W2.setCell ⟨hb, 9, none⟩ (.slice M (x.d.Q.length + 1) cM)) (some hb) := grown_cell _ _ _ _
  have hk := (h.d.more (by decide) hi G hb1 ho hg hk).cell g3 h.hz
  have hr := h.d.k.o r (List.mem_of_getElem? hi)
  have hsame : W2.heap[hb]? = W0.heap[hb]? := by
    have hz := h.hz
    have z0 := h.z
    have e1 := G.g.block hb (by omega) (fun e => by have := (hr.lo hb e.symm).1; omega)
    have e2 := hb1.block hb (by have := G.g.size; omega)
    have e3 := hg.block hb (by have := G.g.size; have := hb1.size; omega) (fun e => by have := (h.d.m.lo hb e.symm).1; omega)
    exact e3.trans (e2.trans e1)
  have hr2 := range_same h.r hsame
  have ht2 := there_same h.t hsame
  refine ⟨h.y.aside h.d (by decide) (by decide) (by decide) (by decide) (by decide) (List.mem_of_getElem? hi) G hb1 hg g3 h.hz, h.i.aside h.d (by decide) (by decide) (by decide) (by decide) (by decide) (List.mem_of_getElem? hi) G hb1 hg g3 h.hz, h.s.aside h.d (by decide) (by decide) (by decide) (by decide) (by decide) (List.mem_of_getElem? hi) G hb1 hg g3 h.hz, h.f.aside h.d (by decide) (by decide) (by decide) (by decide) (by decide) (List.mem_of_getElem? hi) G hb1 hg g3 h.hz, hk, h.m.aside h.d (by decide) (by decide) (by decide) (by decide) (by decide) (List.mem_of_getElem? hi) G hb1 hg g3 h.hz, ?_, there_set ht2 _ _, h.hz, ?_⟩
  · have := rng_put (o := 9) (vs := [.slice M (x.d.Q.length + 1) cM]) hr2 ht2 (by simp [kxC, hol]) (by simp)
    unfold kxC at this ⊢
    dsimp only
    rw [List.length_append]
    exact this
  · have := g3.size; have := hg.size; have := hb1.size; have := G.g.size; have := h.z; omega
theorem Bo.more_m (h : Bo W0 base hb x o) (hol : o.length = 4) {r : RowX Dr} (hi : x.m.P[x.m.Q.length]? = some r) {A : Option Addr} {c : Nat} (G : Gr W0 base 54 4 eDr r A c (z64 msM x.m.Q.length) W) (hb1 : Below W.heap.size W W1) {M : Option Addr} {cM : Nat} (ho : Owns W2 base 44 1 eTr M cM (moreT x.m.P x.m.Q ++ [(A, r.l.length + 64, c)])) (hg : W1.grownBy W2 (blk x.m.M)) (hk : blk M = blk x.m.M ∨ blk M = some W1.heap.size) :
    Bo (W2.setCell ⟨hb, 11, none⟩ (.slice M (x.m.Q.length + 1) cM)) base hb { x with m := { x.m with M := M, cM := cM, Q := x.m.Q ++ [(A, c)] } } o := by
  have g3 : W2.grownBy (W2.setCell ⟨hb, 11, none⟩ (.slice M (x.m.Q.length + 1) cM)) (some hb) := grown_cell _ _ _ _
  have hk := (h.m.more (by decide) hi G hb1 ho hg hk).cell g3 h.hz
  have hr := h.m.k.o r (List.mem_of_getElem? hi)
  have hsame : W2.heap[hb]? = W0.heap[hb]? := by
    have hz := h.hz
    have z0 := h.z
    have e1 := G.g.block hb (by omega) (fun e => by have := (hr.lo hb e.symm).1; omega)
    have e2 := hb1.block hb (by have := G.g.size; omega)
    have e3 := hg.block hb (by have := G.g.size; have := hb1.size; omega) (fun e => by have := (h.m.m.lo hb e.symm).1; omega)
    exact e3.trans (e2.trans e1)
  have hr2 := range_same h.r hsame
  have ht2 := there_same h.t hsame
  refine ⟨h.y.aside h.m (by decide) (by decide) (by decide) (by decide) (by decide) (List.mem_of_getElem? hi) G hb1 hg g3 h.hz, h.i.aside h.m (by decide) (by decide) (by decide) (by decide) (by decide) (List.mem_of_getElem? hi) G hb1 hg g3 h.hz, h.s.aside h.m (by decide) (by decide) (by decide) (by decide) (by decide) (List.mem_of_getElem? hi) G hb1 hg g3 h.hz, h.f.aside h.m (by decide) (by decide) (by decide) (by decide) (by decide) (List.mem_of_getElem? hi) G hb1 hg g3 h.hz, h.d.aside h.m (by decide) (by decide) (by decide) (by decide) (by decide) (List.mem_of_getElem? hi) G hb1 hg g3 h.hz, hk, ?_, there_set ht2 _ _, h.hz, ?_⟩
  · have := rng_put (o := 11) (vs := [.slice M (x.m.Q.length + 1) cM]) hr2 ht2 (by simp [kxC, hol]) (by simp)
    unfold kxC at this ⊢
    dsimp only
    rw [List.length_append]
    exact this
  · have := g3.size; have := hg.size; have := hb1.size; have := G.g.size; have := h.z; omega
end
end Go.Proofs.Ytcffhfcjfjfokaa
