/- LentK LentI LentD, joined. -/
import Derived.Test.YtcffhfcjfjfokaaSu9
import Derived.Test.YtcffhfcjfjfokaaSu16
set_option linter.unusedVariables false
set_option linter.unusedSimpArgs false
namespace Go.Proofs.Ytcffhfcjfjfokaa
open Go Go.RowKit
structure LX (α : Type) where
  L : Option Addr
  c : Nat
  P : List (RowX α)
def MkAt {α : Type} (l : List α) (mk : Nat → α) : Prop := 64 ≤ l.length ∧ ∀ j, j < 64 → l[l.length - 64 + j]? = some (mk j)
theorem MkAt.of {α : Type} (l : List α) (mk : Nat → α) : MkAt (l ++ (List.range 64).map mk) mk := by
  refine ⟨by simp, fun j hj => ?_⟩
  rw [List.getElem?_append_right (by simp), List.length_append, List.length_map, List.length_range, Nat.add_sub_cancel, show l.length + j - l.length = j by omega, List.getElem?_map, List.getElem?_range hj]; rfl
def LnB {α : Type} (x : LX α) (q : Nat) : Prop := blk x.L = some q ∨ ∃ r ∈ x.P, blk r.A = some q
structure Ln {α : Type} (W : World) (base : Nat) (tl e : TypeId) (sz : Nat) (enc : α → List Value) (mk : Nat → α) (x : LX α) : Prop where
  l : Owns W base tl 1 eTr x.L x.c (x.P.map rowT)
  o : ∀ r ∈ x.P, Owns W base e sz enc r.A r.c r.l
  m : ∀ r ∈ x.P, MkAt r.l mk
def eM3 (t : Int × Int × Int) : List Value := [.int .i64 t.1, .int .i64 t.2.1, .int .i64 t.2.2]
theorem len_eM3 (t : Int × Int × Int) : (eM3 t).length = 3 := rfl
theorem one_eM3 (t : Int × Int × Int) : ∀ u ∈ eM3 t, u.oneCell' = true := by intro u hu; simp [eM3] at hu; rcases hu with rfl | rfl | rfl <;> rfl
def lkI (j : Nat) : Int := -700 - (j : Int)
def lkY (j : Nat) : Int := 200 + ((j % 7 : Nat) : Int)
def lkM (j : Nat) : Int × Int × Int := (-700 - (j : Int), 0, 0)
def lkD (j : Nat) : Dr := ⟨⟨0, -700 - (j : Int), 0, []⟩, none, 0⟩
structure LtX where
  i : LX Int
  y : LX Int
  m : LX (Int × Int × Int)
  d : LX Dr
def lxC {α : Type} (x : LX α) : List Value := [.slice x.L x.P.length x.c]
structure Lt (W : World) (base lb : Nat) (x : LtX) : Prop where
  i : Ln W base 37 3 1 eInt lkI x.i
  y : Ln W base 52 5 1 eByte lkY x.y
  m : Ln W base 93 168 3 eM3 lkM x.m
  d : Ln W base 40 113 4 eDr lkD x.d
  r : W.rangeAt lb 0 (lxC x.i ++ lxC x.y ++ lxC x.m ++ lxC x.d)
  t : W.there lb 0 4
  hz : lb < base
  z : base ≤ W.heap.size
section
variable {α : Type} {W W' W0 W1 W2 W3 : World} {base sz lb : Nat} {tl e : TypeId} {enc : α → List Value} {mk : Nat → α} {x : LX α}
theorem Ln.below (h : Ln W base tl e sz enc mk x) (hb : Below W.heap.size W W') : Ln W' base tl e sz enc mk x :=
  ⟨h.l.keep hb fun k hk => (h.l.lo k hk).2, fun r hr => (h.o r hr).keep hb fun k hk => ((h.o r hr).lo k hk).2, h.m⟩
theorem Lt.below {x : LtX} (h : Lt W base lb x) (hw : Below W.heap.size W W') : Lt W' base lb x :=
  ⟨h.i.below hw, h.y.below hw, h.m.below hw, h.d.below hw, range_same h.r (hw.block lb (by have := h.hz; have := h.z; omega)), there_same h.t (hw.block lb (by have := h.hz; have := h.z; omega)), h.hz, Nat.le_trans h.z hw.size⟩
theorem Ln.row (h : Ln W base tl e sz enc mk x) (hsz : ∀ x, (enc x).length = sz) {i j : Nat} {r : RowX α} (hi : x.P[i]? = some r) (hj : j < 64) : ∃ gL g, x.L = some ⟨gL, 0, none⟩ ∧ r.A = some ⟨g, 0, none⟩ ∧ 64 ≤ r.l.length ∧ r.l.length ≤ 9223372036854775807 ∧ W.cell? ⟨gL, i, none⟩ = some (.slice (some ⟨g, 0, none⟩) r.l.length r.c) ∧ W.rangeAt g ((r.l.length - 64 + j) * sz) (enc (mk j)) := by
  have hm := h.m r (List.mem_of_getElem? hi)
  have ho := h.o r (List.mem_of_getElem? hi)
  obtain ⟨gL, e1, hc⟩ := h.l.cell len_eTr (k := i) (x := rowT r) (by rw [List.getElem?_map, hi]; rfl)
  obtain ⟨g, e2, hr⟩ := ho.cell hsz (hm.2 j hj)
  have hl := ho.len
  refine ⟨gL, g, e1, e2, hm.1, by omega, ?_, hr⟩
  have := hc 0 _ rfl
  rw [Nat.mul_one, Nat.add_zero] at this
  rw [← e2]; exact this
theorem Ln.beside {β : Type} {sz' : Nat} {tl' e' : TypeId} {enc' : β → List Value} {mk' : Nat → β} {x' : LX β} (h : Ln W0 base tl e sz enc mk x) (h' : Ln W0 base tl' e' sz' enc' mk' x') (n3 : e ≠ tl') (n4 : tl ≠ tl') (hb' : Below W0.heap.size W0 W1) (hg : W1.grownBy W2 (blk x'.L)) (hg3 : W2.grownBy W3 (some lb)) (hz : lb < base) : Ln W3 base tl e sz enc mk x := by
  have hL := h'.l.keep hb' fun k hk => (h'.l.lo k hk).2
  exact ⟨h.l.past hb' hL n4 hg hg3 hz, fun r hr => (h.o r hr).past hb' hL n3 hg hg3 hz, h.m⟩
theorem Ln.push (h : Ln W0 base tl e sz enc mk x) (ht : tl ≠ e) (hb' : Below W0.heap.size W0 W1) {r : RowX α} (ho : Owns W1 base e sz enc r.A r.c r.l) (hm : MkAt r.l mk) {L : Option Addr} {cL : Nat} (hl : Owns W2 base tl 1 eTr L cL (x.P.map rowT ++ [rowT r])) (hg : W1.grownBy W2 (blk x.L)) (hg3 : W2.grownBy W3 (some lb)) (hz : lb < base) : Ln W3 base tl e sz enc mk ⟨L, cL, x.P ++ [r]⟩ := by
  have hL := h.l.keep hb' fun k hk => (h.l.lo k hk).2
  refine ⟨?_, fun s hs => ?_, fun s hs => ?_⟩
  · dsimp only
    rw [List.map_append]
    exact hl.same fun q hq => hg3.block q (hl.lo q hq).2 fun e1 => by injection e1 with e1; have := (hl.lo q hq).1; omega
  · rcases List.mem_append.1 hs with hs | hs
    · exact (h.o s hs).past hb' hL (fun e1 => ht e1.symm) hg hg3 hz
    · obtain rfl := List.mem_singleton.1 hs
      have h2 := ho.kept hg (ho.ne hL (fun e1 => ht e1.symm))
      exact h2.same fun q hq => hg3.block q (h2.lo q hq).2 fun e1 => by injection e1 with e1; have := (h2.lo q hq).1; omega
  · rcases List.mem_append.1 hs with hs | hs
    · exact h.m s hs
    · obtain rfl := List.mem_singleton.1 hs
      exact hm
end
theorem rem7 (k : Nat) (W : World) : (binOp .rem 3 (.int .i64 k) (.int .i64 7)).run Try.prog W = .ok (.int .i64 ((k % 7 : Nat) : Int)) W := by
  have e1 : (k : Int).tmod 7 = ((k % 7 : Nat) : Int) := by rw [Int.tmod_eq_emod_of_nonneg (by omega)]; omega
  have e2 : IntKind.i64.wrap ((k % 7 : Nat) : Int) = ((k % 7 : Nat) : Int) := IntWalk.i64_in _ (by omega)
  simp [binOp, go_sem, e1, e2]
set_option maxRecDepth 100000 in
set_option maxHeartbeats 4000000 in
theorem kept_any {w : World} {base lb : Nat} {x : LtX} (h : Lt w base lb x) : Calls Try.prog 89 #[.pointer (some ⟨lb, 0, none⟩)] w fun e w' => e = .returned (.bool true) ∧ Below w.heap.size w w' := by
  refine calls_vc tab_ok Try.func89 rfl ?_
  repeat ((conv => whnf); first | (refine VCmp.tt (by omega) ?_) | (refine VCmp.ff (by omega) ?_) | (refine VIn.mk (IntWalk.i64_in _ (by omega)) ?_) | (refine VIdx.mk _ rfl (by omega) ?_) | (refine VIdx.mk 0 rfl (by omega) ?_))
  try (conv => whnf)
  refine VLoop.mk Nat (fun j => [(0, .pointer (some ⟨lb, 0, none⟩)), (3, .bool true), (4, .int .i64 j)]) (fun j W => j ≤ 64 ∧ Below w.heap.size w W) (fun j => 64 - j) 0 ⟨rfl, rfl, rfl, trivial⟩ ⟨Nat.zero_le _, Below.refl _ _⟩ ?_
  rintro j wj ⟨hj, HW⟩
  by_cases hjl : j < 64
  case pos =>
    repeat ((conv => whnf); first | (refine VCmp.tt (by omega) ?_) | (refine VCmp.ff (by omega) ?_) | (refine VIn.mk (IntWalk.i64_in _ (by omega)) ?_) | (refine VIdx.mk _ rfl (by omega) ?_) | (refine VIdx.mk 0 rfl (by omega) ?_))
    try (conv => whnf)
    refine VLoop.mk Nat (fun i => [(0, .pointer (some ⟨lb, 0, none⟩)), (3, .bool true), (4, .int .i64 j), (5, .int .i64 i)]) (fun i W => i ≤ x.i.P.length ∧ Below w.heap.size w W) (fun i => x.i.P.length - i) 0 ⟨rfl, rfl, rfl, rfl, trivial⟩ ⟨Nat.zero_le _, HW⟩ ?_
    clear HW
    rintro i wi ⟨hi, bi⟩
    have B := (h.below bi)
    have hLl := B.i.l.len
    rw [List.length_map] at hLl
    have L1 : Ld Try.prog 99 lb 0 (Eq wi) (.slice x.i.L x.i.P.length x.i.c) := .of (load_cell (by kernel_rfl) (B.r 0 _ rfl))
    by_cases hil : i < x.i.P.length
    case pos =>
      obtain ⟨r, hri⟩ : ∃ r, x.i.P[i]? = some r := ⟨_, List.getElem?_eq_getElem hil⟩
      have Bd := (h.below bi.drew)
      obtain ⟨gL, g, hgL, hgA, h64, h63, hcL, hcD⟩ := Bd.i.row len_eInt hri hjl
      have L2 : Ld Try.prog 99 lb 0 (Eq wi.drew) (.slice x.i.L x.i.P.length x.i.c) := .of (load_cell (by kernel_rfl) (Bd.r 0 _ rfl))
      rw [hgL] at L2
      have L3 : Ld Try.prog 37 gL (0 + i) (Eq wi.drew) (.slice (some ⟨g, 0, none⟩) r.l.length r.c) := .of (load_cell (by kernel_rfl) (by rw [Nat.zero_add]; exact hcL))
      have L4 : Ld Try.prog 3 g (0 + (r.l.length - 64 + j)) (Eq wi.drew) (.int .i64 (-700 - (j : Int))) := .of (by rw [Nat.zero_add]; exact ld3n (hcD 0 _ rfl))
      repeat ((conv => whnf); first | (refine VLoad.mk _ L1 ?_) | (refine VCmp.tt (by omega) ?_) | (refine VCmp.ff (by omega) ?_) | (refine VIn.mk (IntWalk.i64_in _ (by omega)) ?_) | (refine VIdx.mk _ rfl (by omega) ?_) | (refine VIdx.mk 0 rfl (by omega) ?_))
      try (conv => whnf)
      refine VDraw.mk 1000 [] [0, 1, 2, 3, 4, 5, 6, 7, 8, 9, 10, 11, 12, 13, 14, 15, 16, 17, 18, 19, 20, 21, 22, 23, 24, 25, 26] (Eq wi.drew) (by kernel_rfl) (by kernel_rfl) (rfl) ?_
      repeat ((conv => whnf); first | (refine VLoad.mk _ L2 ?_) | (refine VLoad.mk _ L3 ?_) | (refine VLoad.mk _ L4 ?_) | (refine VIdx.mk (r.l.length - 64 + j) (by omega) (by omega) ?_) | (refine VCmp.tt (by omega) ?_) | (refine VCmp.ff (by omega) ?_) | (refine VIn.mk (IntWalk.i64_in _ (by omega)) ?_) | (refine VIdx.mk _ rfl (by omega) ?_) | (refine VIdx.mk 0 rfl (by omega) ?_))
      try (conv => whnf)
      skip
      repeat ((conv => whnf); first | (refine VLoad.mk _ L2 ?_) | (refine VLoad.mk _ L3 ?_) | (refine VLoad.mk _ L4 ?_) | (refine VIdx.mk (r.l.length - 64 + j) (by omega) (by omega) ?_) | (refine VCmp.tt (by omega) ?_) | (refine VCmp.ff (by omega) ?_) | (refine VIn.mk (IntWalk.i64_in _ (by omega)) ?_) | (refine VIdx.mk _ rfl (by omega) ?_) | (refine VIdx.mk 0 rfl (by omega) ?_))
      try (conv => whnf)
      exact .mk (i + 1) ⟨rfl, rfl, rfl, rfl, trivial⟩ ⟨hil, bi.drew⟩ (by omega)
    repeat ((conv => whnf); first | (refine VLoad.mk _ L1 ?_) | (refine VCmp.tt (by omega) ?_) | (refine VCmp.ff (by omega) ?_) | (refine VIn.mk (IntWalk.i64_in _ (by omega)) ?_) | (refine VIdx.mk _ rfl (by omega) ?_) | (refine VIdx.mk 0 rfl (by omega) ?_))
    try (conv => whnf)
    have HW := bi
    clear L1 B bi hil hi hLl
    refine VLoop.mk Nat (fun i => [(0, .pointer (some ⟨lb, 0, none⟩)), (3, .bool true), (4, .int .i64 j), (6, .int .i64 i)]) (fun i W => i ≤ x.y.P.length ∧ Below w.heap.size w W) (fun i => x.y.P.length - i) 0 ⟨rfl, rfl, rfl, rfl, trivial⟩ ⟨Nat.zero_le _, HW⟩ ?_
    clear HW
    rintro i wi ⟨hi, bi⟩
    have B := (h.below bi)
    have hLl := B.y.l.len
    rw [List.length_map] at hLl
    have L1 : Ld Try.prog 51 lb 1 (Eq wi) (.slice x.y.L x.y.P.length x.y.c) := .of (load_cell (by kernel_rfl) (B.r 1 _ rfl))
    by_cases hil : i < x.y.P.length
    case pos =>
      obtain ⟨r, hri⟩ : ∃ r, x.y.P[i]? = some r := ⟨_, List.getElem?_eq_getElem hil⟩
      have Bd := (h.below bi.drew)
      obtain ⟨gL, g, hgL, hgA, h64, h63, hcL, hcD⟩ := Bd.y.row len_eByte hri hjl
      have L2 : Ld Try.prog 51 lb 1 (Eq wi.drew) (.slice x.y.L x.y.P.length x.y.c) := .of (load_cell (by kernel_rfl) (Bd.r 1 _ rfl))
      rw [hgL] at L2
      have L3 : Ld Try.prog 52 gL (0 + i) (Eq wi.drew) (.slice (some ⟨g, 0, none⟩) r.l.length r.c) := .of (load_cell (by kernel_rfl) (by rw [Nat.zero_add]; exact hcL))
      have L4 : Ld Try.prog 5 g (0 + (r.l.length - 64 + j)) (Eq wi.drew) (.int .u8 (200 + ((j % 7 : Nat) : Int))) := .of (by rw [Nat.zero_add]; exact ld5n (hcD 0 _ rfl))
      repeat ((conv => whnf); first | (refine VLoad.mk _ L1 ?_) | (refine VCmp.tt (by omega) ?_) | (refine VCmp.ff (by omega) ?_) | (refine VIn.mk (IntWalk.i64_in _ (by omega)) ?_) | (refine VIdx.mk _ rfl (by omega) ?_) | (refine VIdx.mk 0 rfl (by omega) ?_))
      try (conv => whnf)
      refine VDraw.mk 1000 [] [0, 1, 2, 3, 4, 5, 6, 7, 8, 9, 10, 11, 12, 13, 14, 15, 16, 17, 18, 19, 20, 21, 22, 23, 24, 25, 26, 27, 28] (Eq wi.drew) (by kernel_rfl) (by kernel_rfl) (rfl) ?_
      repeat ((conv => whnf); first | (refine VLoad.mk _ L2 ?_) | (refine VLoad.mk _ L3 ?_) | (refine VLoad.mk _ L4 ?_) | (refine VIdx.mk (r.l.length - 64 + j) (by omega) (by omega) ?_) | (refine VCmp.tt (by omega) ?_) | (refine VCmp.ff (by omega) ?_) | (refine VIn.mk (IntWalk.i64_in _ (by omega)) ?_) | (refine VIdx.mk _ rfl (by omega) ?_) | (refine VIdx.mk 0 rfl (by omega) ?_))
      try (conv => whnf)
      refine VQ.mk (.int .i64 ((j % 7 : Nat) : Int)) (fun a ha W _ => ?_) ?_
      · have h3 := ha (.tmp 79) _ rfl
        have h4 := ha (.const (.int .i64 7)) _ rfl
        have := rem7 j W
        have hg : Sem.run Try.prog (eqGuard .rem 3 (.tmp 79) (.const (.int .i64 7)) (.int .i64 j) (.int .i64 7)) W = .ok () W := rfl
        simp only [execOp, h3, h4, Sem.run_bind, hg, this, Result.andThen_ok, Sem.run_pure]
      have c7 := u8_in (200 + ((j % 7 : Nat) : Int)) (by omega) (by omega)
      repeat ((conv => whnf); first | (refine VIn.mk c7 ?_) | (refine VCmp.tt (by omega) ?_) | (refine VCmp.ff (by omega) ?_) | (refine VIn.mk (IntWalk.i64_in _ (by omega)) ?_) | (refine VIdx.mk _ rfl (by omega) ?_) | (refine VIdx.mk 0 rfl (by omega) ?_))
      try (conv => whnf)
      repeat ((conv => whnf); first | (refine VLoad.mk _ L2 ?_) | (refine VLoad.mk _ L3 ?_) | (refine VLoad.mk _ L4 ?_) | (refine VIdx.mk (r.l.length - 64 + j) (by omega) (by omega) ?_) | (refine VCmp.tt (by omega) ?_) | (refine VCmp.ff (by omega) ?_) | (refine VIn.mk (IntWalk.i64_in _ (by omega)) ?_) | (refine VIdx.mk _ rfl (by omega) ?_) | (refine VIdx.mk 0 rfl (by omega) ?_))
      try (conv => whnf)
      exact .mk (i + 1) ⟨rfl, rfl, rfl, rfl, trivial⟩ ⟨hil, bi.drew⟩ (by omega)
    repeat ((conv => whnf); first | (refine VLoad.mk _ L1 ?_) | (refine VCmp.tt (by omega) ?_) | (refine VCmp.ff (by omega) ?_) | (refine VIn.mk (IntWalk.i64_in _ (by omega)) ?_) | (refine VIdx.mk _ rfl (by omega) ?_) | (refine VIdx.mk 0 rfl (by omega) ?_))
    try (conv => whnf)
    have HW := bi
    clear L1 B bi hil hi hLl
    refine VLoop.mk Nat (fun i => [(0, .pointer (some ⟨lb, 0, none⟩)), (3, .bool true), (4, .int .i64 j), (7, .int .i64 i)]) (fun i W => i ≤ x.m.P.length ∧ Below w.heap.size w W) (fun i => x.m.P.length - i) 0 ⟨rfl, rfl, rfl, rfl, trivial⟩ ⟨Nat.zero_le _, HW⟩ ?_
    clear HW
    rintro i wi ⟨hi, bi⟩
    have B := (h.below bi)
    have hLl := B.m.l.len
    rw [List.length_map] at hLl
    have L1 : Ld Try.prog 145 lb 2 (Eq wi) (.slice x.m.L x.m.P.length x.m.c) := .of (load_cell (by kernel_rfl) (B.r 2 _ rfl))
    by_cases hil : i < x.m.P.length
    case pos =>
      obtain ⟨r, hri⟩ : ∃ r, x.m.P[i]? = some r := ⟨_, List.getElem?_eq_getElem hil⟩
      have Bd := (h.below bi.drew)
      obtain ⟨gL, g, hgL, hgA, h64, h63, hcL, hcD⟩ := Bd.m.row len_eM3 hri hjl
      have L2 : Ld Try.prog 145 lb 2 (Eq wi.drew) (.slice x.m.L x.m.P.length x.m.c) := .of (load_cell (by kernel_rfl) (Bd.r 2 _ rfl))
      rw [hgL] at L2
      have L3 : Ld Try.prog 93 gL (0 + i) (Eq wi.drew) (.slice (some ⟨g, 0, none⟩) r.l.length r.c) := .of (load_cell (by kernel_rfl) (by rw [Nat.zero_add]; exact hcL))
      have L4 : Ld Try.prog 3 g (0 + (r.l.length - 64 + j) * 3) (Eq wi.drew) (.int .i64 (-700 - (j : Int))) := .of (by rw [Nat.zero_add]; exact load3 (hcD 0 _ rfl))
      repeat ((conv => whnf); first | (refine VLoad.mk _ L1 ?_) | (refine VCmp.tt (by omega) ?_) | (refine VCmp.ff (by omega) ?_) | (refine VIn.mk (IntWalk.i64_in _ (by omega)) ?_) | (refine VIdx.mk _ rfl (by omega) ?_) | (refine VIdx.mk 0 rfl (by omega) ?_))
      try (conv => whnf)
      refine VDraw.mk 1000 [] [0, 1, 2, 3, 4, 5, 6, 7, 8, 9, 10, 11, 12, 13, 14, 15, 16, 17, 18, 19, 20, 21, 22, 23, 24, 25, 26, 27] (Eq wi.drew) (by kernel_rfl) (by kernel_rfl) (rfl) ?_
      repeat ((conv => whnf); first | (refine VLoad.mk _ L2 ?_) | (refine VLoad.mk _ L3 ?_) | (refine VLoad.mk _ L4 ?_) | (refine VIdx.mk (r.l.length - 64 + j) (by omega) (by omega) ?_) | (refine VCmp.tt (by omega) ?_) | (refine VCmp.ff (by omega) ?_) | (refine VIn.mk (IntWalk.i64_in _ (by omega)) ?_) | (refine VIdx.mk _ rfl (by omega) ?_) | (refine VIdx.mk 0 rfl (by omega) ?_))
      try (conv => whnf)
      skip
      repeat ((conv => whnf); first | (refine VLoad.mk _ L2 ?_) | (refine VLoad.mk _ L3 ?_) | (refine VLoad.mk _ L4 ?_) | (refine VIdx.mk (r.l.length - 64 + j) (by omega) (by omega) ?_) | (refine VCmp.tt (by omega) ?_) | (refine VCmp.ff (by omega) ?_) | (refine VIn.mk (IntWalk.i64_in _ (by omega)) ?_) | (refine VIdx.mk _ rfl (by omega) ?_) | (refine VIdx.mk 0 rfl (by omega) ?_))
      try (conv => whnf)
      exact .mk (i + 1) ⟨rfl, rfl, rfl, rfl, trivial⟩ ⟨hil, bi.drew⟩ (by omega)
    repeat ((conv => whnf); first | (refine VLoad.mk _ L1 ?_) | (refine VCmp.tt (by omega) ?_) | (refine VCmp.ff (by omega) ?_) | (refine VIn.mk (IntWalk.i64_in _ (by omega)) ?_) | (refine VIdx.mk _ rfl (by omega) ?_) | (refine VIdx.mk 0 rfl (by omega) ?_))
    try (conv => whnf)
    have HW := bi
    clear L1 B bi hil hi hLl
    refine VLoop.mk Nat (fun i => [(0, .pointer (some ⟨lb, 0, none⟩)), (3, .bool true), (4, .int .i64 j), (8, .int .i64 i)]) (fun i W => i ≤ x.d.P.length ∧ Below w.heap.size w W) (fun i => x.d.P.length - i) 0 ⟨rfl, rfl, rfl, rfl, trivial⟩ ⟨Nat.zero_le _, HW⟩ ?_
    clear HW
    rintro i wi ⟨hi, bi⟩
    have B := (h.below bi)
    have hLl := B.d.l.len
    rw [List.length_map] at hLl
    have L1 : Ld Try.prog 102 lb 3 (Eq wi) (.slice x.d.L x.d.P.length x.d.c) := .of (load_cell (by kernel_rfl) (B.r 3 _ rfl))
    by_cases hil : i < x.d.P.length
    case pos =>
      obtain ⟨r, hri⟩ : ∃ r, x.d.P[i]? = some r := ⟨_, List.getElem?_eq_getElem hil⟩
      have Bd := (h.below bi.drew)
      obtain ⟨gL, g, hgL, hgA, h64, h63, hcL, hcD⟩ := Bd.d.row len_eDr hri hjl
      have L2 : Ld Try.prog 102 lb 3 (Eq wi.drew) (.slice x.d.L x.d.P.length x.d.c) := .of (load_cell (by kernel_rfl) (Bd.r 3 _ rfl))
      rw [hgL] at L2
      have L3 : Ld Try.prog 40 gL (0 + i) (Eq wi.drew) (.slice (some ⟨g, 0, none⟩) r.l.length r.c) := .of (load_cell (by kernel_rfl) (by rw [Nat.zero_add]; exact hcL))
      have L4 : Ld Try.prog 3 g (0 + (r.l.length - 64 + j) * 4 + 1) (Eq wi.drew) (.int .i64 (-700 - (j : Int))) := .of (by rw [Nat.zero_add]; exact load3 (hcD 1 _ rfl))
      repeat ((conv => whnf); first | (refine VLoad.mk _ L1 ?_) | (refine VCmp.tt (by omega) ?_) | (refine VCmp.ff (by omega) ?_) | (refine VIn.mk (IntWalk.i64_in _ (by omega)) ?_) | (refine VIdx.mk _ rfl (by omega) ?_) | (refine VIdx.mk 0 rfl (by omega) ?_))
      try (conv => whnf)
      refine VDraw.mk 1000 [] [0, 1, 2, 3, 4, 5, 6, 7, 8, 9, 10, 11, 12, 13, 14, 15, 16, 17, 18, 19, 20, 21, 22, 23, 24, 25, 26, 27] (Eq wi.drew) (by kernel_rfl) (by kernel_rfl) (rfl) ?_
      repeat ((conv => whnf); first | (refine VLoad.mk _ L2 ?_) | (refine VLoad.mk _ L3 ?_) | (refine VLoad.mk _ L4 ?_) | (refine VIdx.mk (r.l.length - 64 + j) (by omega) (by omega) ?_) | (refine VCmp.tt (by omega) ?_) | (refine VCmp.ff (by omega) ?_) | (refine VIn.mk (IntWalk.i64_in _ (by omega)) ?_) | (refine VIdx.mk _ rfl (by omega) ?_) | (refine VIdx.mk 0 rfl (by omega) ?_))
      try (conv => whnf)
      skip
      repeat ((conv => whnf); first | (refine VLoad.mk _ L2 ?_) | (refine VLoad.mk _ L3 ?_) | (refine VLoad.mk _ L4 ?_) | (refine VIdx.mk (r.l.length - 64 + j) (by omega) (by omega) ?_) | (refine VCmp.tt (by omega) ?_) | (refine VCmp.ff (by omega) ?_) | (refine VIn.mk (IntWalk.i64_in _ (by omega)) ?_) | (refine VIdx.mk _ rfl (by omega) ?_) | (refine VIdx.mk 0 rfl (by omega) ?_))
      try (conv => whnf)
      exact .mk (i + 1) ⟨rfl, rfl, rfl, rfl, trivial⟩ ⟨hil, bi.drew⟩ (by omega)
    repeat ((conv => whnf); first | (refine VLoad.mk _ L1 ?_) | (refine VCmp.tt (by omega) ?_) | (refine VCmp.ff (by omega) ?_) | (refine VIn.mk (IntWalk.i64_in _ (by omega)) ?_) | (refine VIdx.mk _ rfl (by omega) ?_) | (refine VIdx.mk 0 rfl (by omega) ?_))
    try (conv => whnf)
    have HW := bi
    clear L1 B bi hil hi hLl
    exact .mk (j + 1) ⟨rfl, rfl, rfl, trivial⟩ ⟨hjl, HW⟩ (by omega)
  case neg =>
    repeat ((conv => whnf); first | (refine VCmp.tt (by omega) ?_) | (refine VCmp.ff (by omega) ?_) | (refine VIn.mk (IntWalk.i64_in _ (by omega)) ?_) | (refine VIdx.mk _ rfl (by omega) ?_) | (refine VIdx.mk 0 rfl (by omega) ?_))
    try (conv => whnf)
    exact .mk ⟨rfl, HW⟩
def lent0 : Array Value := #[.slice none 0 0, .slice none 0 0, .slice none 0 0, .slice none 0 0]
def ltx0 : LtX := ⟨⟨none, 0, []⟩, ⟨none, 0, []⟩, ⟨none, 0, []⟩, ⟨none, 0, []⟩⟩
theorem lt_new (w : World) : Lt (w.alloc (.cells lent0 147)) (w.heap.size + 1) w.heap.size ltx0 := by
  have z : (w.alloc (.cells lent0 147)).heap.size = w.heap.size + 1 := by simp
  exact ⟨⟨owns_nil _ _ _ _ _, fun r hr => (by cases hr), fun r hr => (by cases hr)⟩, ⟨owns_nil _ _ _ _ _, fun r hr => (by cases hr), fun r hr => (by cases hr)⟩, ⟨owns_nil _ _ _ _ _, fun r hr => (by cases hr), fun r hr => (by cases hr)⟩, ⟨owns_nil _ _ _ _ _, fun r hr => (by cases hr), fun r hr => (by cases hr)⟩,
    range_new w lent0 147, there_new w lent0 147, Nat.lt_succ_self _, by omega⟩
end Go.Proofs.Ytcffhfcjfjfokaa
namespace Go.Proofs.Ytcffhfcjfjfokaa
open Go Go.RowKit
theorem VSl.cutTo {A : Option Addr} {n c es h : Nat} {K : Value → Prop} (hh : h ≤ c) (hk : K (.slice A h c)) : VSl A n c es 0 h K :=
  .mk 0 h rfl rfl (Nat.zero_le _) hh (by
    have e : (if c = 0 then A else A.map (·.add (0 * es))) = A := by
      split
      · rfl
      · cases A with
        | none => rfl
        | some a => simp [Addr.add]
    rw [e, Nat.sub_zero]; exact hk)
theorem VApp.more {P : Program} {α : Type} {w : World} {ty0 : TypeId} {t e : TypeId} {K : Value → World → Prop}
    (base : Nat) (sz bytes : Nat) (z : Value) (ht : P.underlying t = some (.slice e)) (hinfo : (P.info? e).map (fun i => (i.zero, i.size, i.bytes)) = some (some z, sz, bytes))
    (hzs : z.cells.size = sz) (hsz : 0 < sz) (enc : α → List Value) (henc : ∀ x, (enc x).length = sz) (hone : ∀ x, ∀ u ∈ enc x, u.oneCell' = true)
    {A : Option Addr} {c : Nat} (xs : List α) {B : Option Addr} {cB N n m : Nat} (l : List α) (hn : xs.length = n) (hm : l.length = m)
    (hown : OwnW w base e sz enc A c xs) (hr : RowAt w N sz enc B l)
    (h63 : n + m ≤ 9223372036854775807) (hbytes : (n + m) * bytes ≤ 140737488355328) (hbase : base ≤ w.heap.size)
    (h : ∀ A' c' w', OwnW w' base e sz enc A' c' (xs ++ l) → w.grownBy w' (bw A c) → (∀ k, bw A' c' = some k → bw A c = some k ∨ k = w.heap.size) → K (.slice A' (n + m) c') w') : VApp P #[t, t] ty0 [.slice A n c, .slice B m cB] w K := by
  by_cases h0 : 0 < c
  · have hbw : bw A c = blk A := by unfold bw; rw [if_neg (by omega)]
    refine VApp.rows base sz bytes z ht hinfo hzs hsz enc henc hone xs l hn hm (hown.own h0) hr h63 hbytes hbase fun A' c' w' ho hg hk => ?_
    refine h A' c' w' (.of ho) (by rw [hbw]; exact hg) fun k hk' => ?_
    rw [hbw]
    rcases hk with e1 | e1
    · left; rw [← e1]; exact (bw_blk hk').1
    · right; rw [(bw_blk hk').1] at e1; injection e1
  · have hl := hown.len
    have hx : xs = [] := List.eq_nil_of_length_eq_zero (by omega)
    subst hx
    have hn0 : n = 0 := hn.symm
    subst hn0
    refine VApp.rowsW base sz bytes z ht hinfo hzs hsz enc henc hone [] l hm hown hr (by omega) (by rw [Nat.zero_add] at hbytes; exact hbytes) hbase fun A' c' w' ho hg hk => ?_
    rw [← Nat.zero_add m]
    exact h A' c' w' (by rw [List.nil_append]; exact ho) hg hk
theorem bs37z' (W : World) : (Instr.buildSlice 37 0 #[]).run Try.prog W = .ok (.slice (some ⟨W.heap.size, 0, none⟩) 0 0) (W.alloc (.cells #[] 3)) := by kernel_rfl
theorem row_front {α : Type} {w : World} {N sz : Nat} {enc : α → List Value} {A : Option Addr} {l m : List α} (h : RowAt w N sz enc A (l ++ m)) : RowAt w N sz enc A l := fun h0 => by
  obtain ⟨b, off, e, hb, hc⟩ := h (by rw [List.length_append]; omega)
  refine ⟨b, off, e, hb, fun k x hk => hc k x ?_⟩
  have := (List.getElem?_eq_some_iff.1 hk).1
  rw [List.getElem?_append_left this]; exact hk
theorem mapRange_succ {α : Type} (f : Nat → α) (j : Nat) : (List.range (j + 1)).map f = (List.range j).map f ++ [f j] := by
  rw [List.range_succ, List.map_append]; rfl
end Go.Proofs.Ytcffhfcjfjfokaa
namespace Go.Proofs.Ytcffhfcjfjfokaa
open Go Go.RowKit
section
variable {α : Type} {W W' : World} {base sz lb : Nat} {tl e : TypeId} {enc : α → List Value} {mk : Nat → α} {x : LX α} {S : List Nat}
theorem Ln.lo (h : Ln W base tl e sz enc mk x) {q : Nat} (hq : LnB x q) : base ≤ q ∧ q < W.heap.size := by
  rcases hq with e1 | ⟨r, hr, e1⟩
  · exact h.l.lo q e1
  · exact (h.o r hr).lo q e1
theorem Ln.fx (h : Ln W base tl e sz enc mk x) (hf : Fx S W W') (hS : ∀ q ∈ S, ¬ LnB x q) : Ln W' base tl e sz enc mk x :=
  ⟨h.l.fx hf fun q hq hm => hS q hm (.inl hq), fun r hr => (h.o r hr).fx hf fun q hq hm => hS q hm (.inr ⟨r, hr, hq⟩), h.m⟩
theorem Lt.fx {x : LtX} (h : Lt W base lb x) (hf : Fx S W W') (hS : ∀ q ∈ S, q ≠ lb ∧ ¬ LnB x.i q ∧ ¬ LnB x.y q ∧ ¬ LnB x.m q ∧ ¬ LnB x.d q) : Lt W' base lb x :=
  ⟨h.i.fx hf fun q hq => (hS q hq).2.1, h.y.fx hf fun q hq => (hS q hq).2.2.1, h.m.fx hf fun q hq => (hS q hq).2.2.2.1, h.d.fx hf fun q hq => (hS q hq).2.2.2.2,
    range_same h.r (hf.block lb (by have := h.hz; have := h.z; omega) fun hm => (hS lb hm).1 rfl), there_same h.t (hf.block lb (by have := h.hz; have := h.z; omega) fun hm => (hS lb hm).1 rfl), h.hz, Nat.le_trans h.z hf.size⟩
end
structure LD where
  k : Nat
  A : Option Addr
  c : Nat
  al : List Dr
  L : Option Addr
  cL : Nat
  R : List (RowX Int)
def Hd (R : List (RowX Int)) (a : Dr) : Prop := ∃ r ∈ R, r.A = a.B ∧ r.c = a.c ∧ ∃ t, r.l = a.d.body ++ t
structure LDo (w : World) (base lb : Nat) (x : LtX) (ds : List Dt) (u : LD) (W : World) : Prop where
  k : u.k ≤ ds.length
  lt : Lt W base lb { x with y := ⟨u.L, u.cL, x.y.P ++ u.R⟩ }
  own : Owns W w.heap.size 113 4 eDr u.A u.c u.al
  e : u.al.map Dr.d = ds.take u.k
  n : u.R.length = u.k
  hd : ∀ a ∈ u.al, Hd u.R a
  b : Below lb w W
  f : Fx (lb :: ((blk x.y.L).toList ++ (blk x.d.L).toList)) w W
  fl : ∀ q, blk u.L = some q → blk x.y.L = some q ∨ w.heap.size ≤ q
  fr : ∀ r ∈ u.R, ∀ q, blk r.A = some q → w.heap.size ≤ q
set_option maxRecDepth 100000 in
set_option maxHeartbeats 4000000 in
theorem lentDatas_any {w : World} {base lb : Nat} {x : LtX} {M : Option Addr} {cM N : Nat} {rs : List Dr} (h : Lt w base lb x) (hpy : x.y.P.length ≤ 1000) (hpd : x.d.P.length ≤ 1000) (hN : N ≤ lb) (hM : Drs w N M rs) (hsm : SmallD (rs.map Dr.d)) : Calls Try.prog 86 #[.pointer (some ⟨lb, 0, none⟩), .slice M rs.length cM] w fun e w' => Fx (lb :: ((blk x.y.L).toList ++ (blk x.d.L).toList)) w w' ∧ Below lb w w' ∧ ∃ A c Ly cLy R Ld_ cLd rd, e = .returned (.slice A rs.length c) ∧ Lt w' base lb { x with y := ⟨Ly, cLy, x.y.P ++ R⟩, d := ⟨Ld_, cLd, x.d.P ++ [rd]⟩ } ∧ Dts w' w'.heap.size A (rs.map Dr.d) ∧ R.length = rs.length ∧ (∀ q, LnB (⟨Ly, cLy, x.y.P ++ R⟩ : LX Int) q → LnB x.y q ∨ w.heap.size ≤ q) ∧ (∀ q, LnB (⟨Ld_, cLd, x.d.P ++ [rd]⟩ : LX Dr) q → LnB x.d q ∨ w.heap.size ≤ q) ∧ ∃ al m, rd.A = A ∧ rd.c = c ∧ rd.l = al ++ m ∧ al.map Dr.d = rs.map Dr.d ∧ ∀ a ∈ al, Hd R a := by
  have hl : rs.length ≤ 1048576 := by have := hsm.1; rwa [List.length_map] at this
  refine calls_vc tab_ok Try.func86 rfl ?_
  have hz := h.hz
  have hbz := h.z
  have hx : ∀ W, Below lb w W → Drs W N M rs := fun W hW => ⟨hM.row.below hW hN, fun r h1 => (hM.each r h1).below hW hN⟩
  repeat ((conv => whnf); first | (refine VCmp.tt (by omega) ?_) | (refine VCmp.ff (by omega) ?_) | (refine VIn.mk (IntWalk.i64_in _ (by omega)) ?_) | (refine VIdx.mk _ rfl (by omega) ?_) | (refine VIdx.mk 0 rfl (by omega) ?_))
  try (conv => whnf)
  refine VLoop.mk LD (fun u => [(0, .pointer (some ⟨lb, 0, none⟩)), (1, .slice M rs.length cM), (5, .slice u.A u.al.length u.c), (6, .int .i64 u.k)]) (LDo w base lb x (rs.map Dr.d)) (fun u => rs.length - u.k) ⟨0, none, 0, [], x.y.L, x.y.c, []⟩ ⟨rfl, rfl, rfl, rfl, trivial⟩ ⟨Nat.zero_le _, by dsimp only; rw [List.append_nil]; exact h, owns_nil _ _ _ _ _, by simp, rfl, fun a ha => (by cases ha), Below.refl _ _, Fx.refl _ _, fun q hq => .inl hq, fun r hr => (by cases hr)⟩ ?_
  rintro ⟨k, A, c, al, L, cL, R⟩ wr ⟨hk, hlt, hown, he, hn, hhd, br, fr, fl, frr⟩
  dsimp only at hk hlt hown he hn hhd br fr fl frr ⊢
  rw [List.length_map] at hk
  have hal : al.length = k := by have := congrArg List.length he; rw [List.length_map, List.length_take, List.length_map] at this; omega
  have hbr := br.size
  by_cases hkl : k < rs.length
  case pos =>
    obtain ⟨bA, oR, rfl, hbA2, hrow⟩ := (hx _ br).row (by omega)
    obtain ⟨r, hrk⟩ : ∃ r, rs[k]? = some r := ⟨_, List.getElem?_eq_getElem hkl⟩
    have hmem := List.mem_of_getElem? hrk
    have hdk : (rs.map Dr.d)[k]? = some r.d := by rw [List.getElem?_map, hrk]; rfl
    have hbl := hsm.2 r.d (List.mem_map.2 ⟨r, hmem, rfl⟩)
    have Lr : Ld Try.prog 113 bA (oR + k * 4) (Eq wr) (.agg (drA r)) := .of (load113 (fun j u hu => hrow k r hrk j u hu))
    repeat ((conv => whnf); first | (refine VLoad.mk _ Lr ?_) | (refine VCmp.tt (by omega) ?_) | (refine VCmp.ff (by omega) ?_) | (refine VIn.mk (IntWalk.i64_in _ (by omega)) ?_) | (refine VIdx.mk _ rfl (by omega) ?_) | (refine VIdx.mk 0 rfl (by omega) ?_))
    try (conv => whnf)
    refine .mk _ run_zero113 ?_
    conv => whnf
    refine .mk fun x3 hx3 => ?_
    repeat ((conv => whnf); first | (refine VCmp.tt (by omega) ?_) | (refine VCmp.ff (by omega) ?_) | (refine VIn.mk (IntWalk.i64_in _ (by omega)) ?_) | (refine VIdx.mk _ rfl (by omega) ?_) | (refine VIdx.mk 0 rfl (by omega) ?_))
    try (conv => whnf)
    refine VStore.new hx3 (by kernel_rfl) rfl (one_drA r) fun x4 hx4 => ?_
    have c4 : Below wr.heap.size wr x4 := by rw [hx4.out]; exact (Below.refl _ _).alloc (Nat.le_refl _) _
    have z4 : x4.heap.size = wr.heap.size + 1 := by rw [hx4.out]; simp
    have r4 : x4.rangeAt wr.heap.size 0 (eDr r) := by rw [hx4.out]; exact range_new wr (drA r) 113
    have t4 : x4.there wr.heap.size 0 4 := by rw [hx4.out]; exact there_new wr (drA r) 113
    clear hx4 hx3
    repeat ((conv => whnf); first | (refine VCmp.tt (by omega) ?_) | (refine VCmp.ff (by omega) ?_) | (refine VIn.mk (IntWalk.i64_in _ (by omega)) ?_) | (refine VIdx.mk _ rfl (by omega) ?_) | (refine VIdx.mk 0 rfl (by omega) ?_))
    try (conv => whnf)
    refine VBs.mk _ _ (bs52z x4) ?_
    have c5 : Below x4.heap.size x4 (x4.alloc (.cells #[] 5)) := (Below.refl _ _).alloc (Nat.le_refl _) _
    have z5 : (x4.alloc (.cells #[] 5)).heap.size = x4.heap.size + 1 := by simp
    have ho5 : Owns (x4.alloc (.cells #[] 5)) x4.heap.size 5 1 eByte (some ⟨x4.heap.size, 0, none⟩) 0 ([] : List Int) := owns_empty _ _ _ _ _ (Nat.le_refl _)
    have r5 : (x4.alloc (.cells #[] 5)).rangeAt wr.heap.size 0 (eDr r) := range_same r4 (c5.block _ (by omega))
    generalize x4.alloc (.cells #[] 5) = x5 at c5 z5 ho5 r5 ⊢
    have Ly : Ld Try.prog 52 wr.heap.size 3 (Eq x5) (.slice r.B r.d.body.length r.c) := .of (load52 (r5 3 _ rfl))
    have b5 : Below lb w x5 := br.trans ((c4.trans (c5.mono (by omega))).mono (by omega))
    repeat ((conv => whnf); first | (refine VLoad.mk _ Ly ?_) | (refine VCmp.tt (by omega) ?_) | (refine VCmp.ff (by omega) ?_) | (refine VIn.mk (IntWalk.i64_in _ (by omega)) ?_) | (refine VIdx.mk _ rfl (by omega) ?_) | (refine VIdx.mk 0 rfl (by omega) ?_))
    try (conv => whnf)
    refine VApp.rows x4.heap.size 1 1 _ Try.underlying52 info5 rfl (by decide) eByte len_eByte one_eByte ([] : List Int) r.d.body rfl rfl ho5 ((hx _ b5).each r hmem).row (by omega) (by omega) (by omega) fun A1 c1 w1 ho1 hg1 hk1 => ?_
    have hc1 : Below x4.heap.size x4 w1 := c5.grown hg1 (by omega) (by intro q hq; simp [blk] at hq; omega)
    clear hg1 hk1 ho5 r5 Ly b5 z5 c5
    rw [List.nil_append] at ho1
    repeat ((conv => whnf); first | (refine VCmp.tt (by omega) ?_) | (refine VCmp.ff (by omega) ?_) | (refine VIn.mk (IntWalk.i64_in _ (by omega)) ?_) | (refine VIdx.mk _ rfl (by omega) ?_) | (refine VIdx.mk 0 rfl (by omega) ?_))
    try (conv => whnf)
    refine VLoop.mk (Nat × Option Addr × Nat) (fun u => [(0, .pointer (some ⟨lb, 0, none⟩)), (1, .slice (some ⟨bA, oR, none⟩) rs.length cM), (5, .slice A al.length c), (6, .int .i64 k), (7, .pointer (some ⟨wr.heap.size, 0, none⟩)), (8, .slice u.2.1 (r.d.body.length + u.1) u.2.2), (9, .int .i64 u.1)]) (fun u W => u.1 ≤ 64 ∧ Below x4.heap.size x4 W ∧ Owns W x4.heap.size 5 1 eByte u.2.1 u.2.2 (r.d.body ++ (List.range u.1).map lkY)) (fun u => 64 - u.1) (0, A1, c1) ⟨rfl, rfl, rfl, rfl, rfl, by show some (Value.slice A1 (0 + r.d.body.length) c1) = some (Value.slice A1 (r.d.body.length + 0) c1); rw [Nat.zero_add, Nat.add_zero], rfl, trivial⟩ ⟨Nat.zero_le _, hc1, by simpa using ho1⟩ ?_
    clear ho1 hc1
    rintro ⟨j, Aj, cj⟩ wj ⟨hj, bj, O⟩
    dsimp only at hj O ⊢
    have zj := bj.size
    have hO := O.len
    rw [List.length_append, List.length_map, List.length_range] at hO
    by_cases hjl : j < 64
    case pos =>
      repeat ((conv => whnf); first | (refine VCmp.tt (by omega) ?_) | (refine VCmp.ff (by omega) ?_) | (refine VIn.mk (IntWalk.i64_in _ (by omega)) ?_) | (refine VIdx.mk _ rfl (by omega) ?_) | (refine VIdx.mk 0 rfl (by omega) ?_))
      try (conv => whnf)
      refine VQ.mk (.int .i64 ((j % 7 : Nat) : Int)) (fun a ha W _ => ?_) ?_
      · have h3 := ha (.tmp 30) _ rfl
        have h4 := ha (.const (.int .i64 7)) _ rfl
        have := rem7 j W
        have hg : Sem.run Try.prog (eqGuard .rem 3 (.tmp 30) (.const (.int .i64 7)) (.int .i64 j) (.int .i64 7)) W = .ok () W := rfl
        simp only [execOp, h3, h4, Sem.run_bind, hg, this, Result.andThen_ok, Sem.run_pure]
      have c7 := u8_in (200 + ((j % 7 : Nat) : Int)) (by omega) (by omega)
      repeat ((conv => whnf); first | (refine VIn.mk c7 ?_) | (refine VCmp.tt (by omega) ?_) | (refine VCmp.ff (by omega) ?_) | (refine VIn.mk (IntWalk.i64_in _ (by omega)) ?_) | (refine VIdx.mk _ rfl (by omega) ?_) | (refine VIdx.mk 0 rfl (by omega) ?_))
      try (conv => whnf)
      refine VBs.mk _ _ (bs52b wj (lkY j)) ?_
      have d1 : Below wj.heap.size wj (wj.alloc (.cells #[.int .u8 (lkY j)] 5)) := (Below.refl _ _).alloc (Nat.le_refl _) _
      have hr1 := row_new wj 5 1 eByte (lkY j) #[.int .u8 (lkY j)] rfl
      generalize wj.alloc (.cells #[.int .u8 (lkY j)] 5) = w3 at d1 hr1 ⊢
      have z3 := d1.size
      have O3 := O.keep d1 fun k hk => (O.lo k hk).2
      repeat ((conv => whnf); first | (refine VCmp.tt (by omega) ?_) | (refine VCmp.ff (by omega) ?_) | (refine VIn.mk (IntWalk.i64_in _ (by omega)) ?_) | (refine VIdx.mk _ rfl (by omega) ?_) | (refine VIdx.mk 0 rfl (by omega) ?_))
      try (conv => whnf)
      refine VApp.rows x4.heap.size 1 1 _ Try.underlying52 info5 rfl (by decide) eByte len_eByte one_eByte (r.d.body ++ (List.range j).map lkY) [lkY j] (by simp) rfl O3 hr1 (by omega) (by omega) (by omega) fun A2 c2 w4 oA hgA hkA => ?_
      have b4 : Below x4.heap.size x4 w4 := (bj.trans (d1.mono zj)).grown hgA (by omega) (fun k hk => (O3.lo k hk).1)
      repeat ((conv => whnf); first | (refine VCmp.tt (by omega) ?_) | (refine VCmp.ff (by omega) ?_) | (refine VIn.mk (IntWalk.i64_in _ (by omega)) ?_) | (refine VIdx.mk _ rfl (by omega) ?_) | (refine VIdx.mk 0 rfl (by omega) ?_))
      try (conv => whnf)
      refine .mk (j + 1, A2, c2) ⟨rfl, rfl, rfl, rfl, rfl, rfl, rfl, trivial⟩ ⟨hjl, b4, ?_⟩ (by show 64 - (j + 1) < 64 - j; omega)
      dsimp only
      rw [mapRange_succ, ← List.append_assoc]
      exact oA
    case neg =>
      have hj64 : j = 64 := by omega
      subst hj64
      have brj : Below wr.heap.size wr wj := c4.trans (bj.mono (by omega))
      have B := hlt.below brj
      have rj : wj.rangeAt wr.heap.size 0 (eDr r) := range_same r4 (bj.block _ (by omega))
      have tj : wj.there wr.heap.size 0 4 := there_same t4 (bj.block _ (by omega))
      have L1 : Ld Try.prog 51 lb 1 (Eq wj) (.slice L (x.y.P ++ R).length cL) := .of (load_cell (by kernel_rfl) (B.r 1 _ rfl))
      have hPR : (x.y.P ++ R).length = x.y.P.length + k := by rw [List.length_append, hn]
      obtain ⟨row, hrowe⟩ : ∃ row : RowX Int, row = ⟨Aj, cj, r.d.body ++ (List.range 64).map lkY⟩ := ⟨_, rfl⟩
      have er : row.l.length = r.d.body.length + 64 := by rw [hrowe]; simp
      have hrA : row.A = Aj := by rw [hrowe]
      have hrc : row.c = cj := by rw [hrowe]
      have hrm : MkAt row.l lkY := by rw [hrowe]; exact MkAt.of _ _
      have hrt : row.l = r.d.body ++ (List.range 64).map lkY := by rw [hrowe]
      have O' : Owns wj x4.heap.size 5 1 eByte row.A row.c row.l := by rw [hrowe]; exact O
      clear hrowe O
      repeat ((conv => whnf); first | (refine VLoad.mk _ L1 ?_) | (refine VCmp.tt (by omega) ?_) | (refine VCmp.ff (by omega) ?_) | (refine VIn.mk (IntWalk.i64_in _ (by omega)) ?_) | (refine VIdx.mk _ rfl (by omega) ?_) | (refine VIdx.mk 0 rfl (by omega) ?_))
      try (conv => whnf)
      refine VBs.mk _ _ (bs51 wj Aj (r.d.body.length + 64) cj) ?_
      have d1 : Below wj.heap.size wj (wj.alloc (.cells #[.slice Aj (r.d.body.length + 64) cj] 52)) := (Below.refl _ _).alloc (Nat.le_refl _) _
      have hr1 := row_new wj 52 1 eTr (rowT row) #[.slice Aj (r.d.body.length + 64) cj] (by rw [← hrA, ← hrc, ← er]; rfl)
      generalize wj.alloc (.cells #[.slice Aj (r.d.body.length + 64) cj] 52) = w3 at d1 hr1 ⊢
      have z3 := d1.size
      have hl1 := B.y.l.keep d1 fun k hk => (B.y.l.lo k hk).2
      repeat ((conv => whnf); first | (refine VCmp.tt (by omega) ?_) | (refine VCmp.ff (by omega) ?_) | (refine VIn.mk (IntWalk.i64_in _ (by omega)) ?_) | (refine VIdx.mk _ rfl (by omega) ?_) | (refine VIdx.mk 0 rfl (by omega) ?_))
      try (conv => whnf)
      refine VApp.rows base 1 24 _ Try.underlying51 info52z rfl (by decide) eTr len_eTr one_eTr ((x.y.P ++ R).map rowT) [rowT row] (by rw [List.length_map]) rfl hl1 hr1 (by omega) (by omega) (by omega) fun L2 cL2 w4 ho2 hg2 hk2 => ?_
      have hs2 : w4.heap[lb]? = wj.heap[lb]? := (hg2.block lb (by omega) (fun e => by have := (hl1.lo lb e.symm).1; omega)).trans (d1.block lb (by omega))
      have t2 := there_same B.t hs2
      have r2 := range_same B.r hs2
      have hLwr : ∀ q, blk L = some q → q < wr.heap.size := fun q hq => (hlt.y.l.lo q hq).2
      have hsd : w4.heap[wr.heap.size]? = wj.heap[wr.heap.size]? := (hg2.block _ (by omega) (fun e => by have := hLwr _ e.symm; omega)).trans (d1.block _ (by omega))
      repeat ((conv => whnf); first | (refine VCmp.tt (by omega) ?_) | (refine VCmp.ff (by omega) ?_) | (refine VIn.mk (IntWalk.i64_in _ (by omega)) ?_) | (refine VIdx.mk _ rfl (by omega) ?_) | (refine VIdx.mk 0 rfl (by omega) ?_))
      try (conv => whnf)
      refine VStore.cell (by kernel_rfl) (t2 1 (by omega)).1 (t2 1 (by omega)).2 rfl rfl fun w5 hw5 => ?_
      have g3 : w4.grownBy w5 (some lb) := by rw [hw5.out]; exact grown_cell _ _ _ _
      have O1 := O'.keep d1 fun k hk => (O'.lo k hk).2
      have B3 := B.y.push (by decide) d1 (r := row) (O1.base (by omega)) hrm ho2 hg2 g3 hz
      have b5 : Below lb w w5 := (((br.trans (brj.mono (by omega))).trans (d1.mono (by omega))).grown hg2 (by omega) (fun q hq => by have := (hl1.lo q hq).1; omega)).grown g3 (by have := hg2.size; omega) (fun q hq => by injection hq with hq; omega)
      have zz5 : w3.heap.size ≤ w5.heap.size := by have := hg2.size; have := g3.size; omega
      have z5 : base ≤ w5.heap.size := by omega
      have r5 : w5.rangeAt lb 0 (lxC x.i ++ lxC (⟨L2, cL2, x.y.P ++ R ++ [row]⟩ : LX Int) ++ lxC x.m ++ lxC x.d) := by
        have := rng_put (o := 1) (vs := [.slice L2 ((x.y.P ++ R).length + 1) cL2]) r2 t2 (by simp [lxC]) (by simp)
        rw [hw5.out]
        unfold lxC at this ⊢
        dsimp only
        rw [List.length_append (bs := [row])]
        exact this
      have t5 : w5.there lb 0 4 := by rw [hw5.out]; exact there_set t2 _ _
      have T5 : Lt w5 base lb { x with y := ⟨L2, cL2, x.y.P ++ (R ++ [row])⟩ } := by
        rw [← List.append_assoc]
        exact ⟨B.i.beside B.y (by decide) (by decide) d1 hg2 g3 hz, B3, B.m.beside B.y (by decide) (by decide) d1 hg2 g3 hz, B.d.beside B.y (by decide) (by decide) d1 hg2 g3 hz, r5, t5, hz, z5⟩
      have own5 : Owns w5 w.heap.size 113 4 eDr A c al := hown.past (brj.trans (d1.mono (by omega))) hl1 (by decide) hg2 g3 (by omega)
      have hd5 : w5.heap[wr.heap.size]? = wj.heap[wr.heap.size]? := (g3.block _ (by have := hg2.size; omega) (by intro e; injection e with e; omega)).trans hsd
      have rd5 := range_same rj hd5
      have td5 := there_same tj hd5
      have hrow5 := (hx _ b5).row (by omega)
      obtain ⟨bA', oR', eA, _, hrw5⟩ := hrow5
      injection eA with eA; injection eA with eA1 eA2; subst eA1; subst eA2
      have Lb : Ld Try.prog 52 bA (oR + k * 4 + 3) (Eq w5) (.slice r.B r.d.body.length r.c) := .of (load52 (hrw5 k r hrk 3 _ rfl))
      repeat ((conv => whnf); first | (refine VLoad.mk _ Lb ?_) | (refine VSl.cutTo (by omega) ?_) | (refine VCmp.tt (by omega) ?_) | (refine VCmp.ff (by omega) ?_) | (refine VIn.mk (IntWalk.i64_in _ (by omega)) ?_) | (refine VIdx.mk _ rfl (by omega) ?_) | (refine VIdx.mk 0 rfl (by omega) ?_))
      try (conv => whnf)
      refine VStore.cell (by kernel_rfl) (by rw [show addO 0 3 = 0 + 3 from rfl, rd5 3 _ rfl]; rfl) (by rw [show addO 0 3 = 3 from rfl]; exact there_frozen td5 (by omega)) rfl rfl fun w6 hw6 => ?_
      have g6 : w5.grownBy w6 (some wr.heap.size) := by rw [hw6.out]; exact grown_cell _ _ _ _
      have m6 : w6.rangeAt wr.heap.size 0 (eDr ⟨r.d, Aj, cj⟩) := by
        have := rng_put (o := 3) (vs := [.slice Aj r.d.body.length cj]) rd5 td5 rfl (by simp)
        rw [hw6.out]; exact this
      have hnot : ∀ q ∈ [wr.heap.size], q ≠ lb ∧ ¬ LnB x.i q ∧ ¬ LnB (⟨L2, cL2, x.y.P ++ (R ++ [row])⟩ : LX Int) q ∧ ¬ LnB x.m q ∧ ¬ LnB x.d q := fun q hq => by
        obtain rfl := List.mem_singleton.1 hq
        refine ⟨by omega, fun hb => by have := (hlt.i.lo hb).2; omega, fun hb => ?_, fun hb => by have := (hlt.m.lo hb).2; omega, fun hb => by have := (hlt.d.lo hb).2; omega⟩
        rcases hb with e1 | ⟨s, hs, e1⟩
        · dsimp only at e1
          rcases hk2 with e2 | e2
          · have := hLwr _ (e2 ▸ e1); omega
          · rw [e2] at e1; injection e1 with e1; omega
        · rw [← List.append_assoc] at hs
          rcases List.mem_append.1 hs with hs | hs
          · have := ((hlt.y.o s hs).lo _ e1).2; omega
          · obtain rfl := List.mem_singleton.1 hs
            have := (O'.lo _ e1).1; omega
      have T6 := T5.fx (S := [wr.heap.size]) (.grown g6 fun q hq => by injection hq with hq; subst hq; exact List.mem_singleton.2 rfl) hnot
      have own6 : Owns w6 w.heap.size 113 4 eDr A c al := own5.same fun q hq => g6.block q (own5.lo q hq).2 (by intro e; injection e with e; have := (hown.lo q hq).2; omega)
      have b6 : Below lb w w6 := b5.grown g6 (by omega) (fun q hq => by injection hq with hq; omega)
      have z6 := g6.size
      have Lm6 : Ld Try.prog 113 wr.heap.size 0 (Eq w6) (.agg (drA ⟨r.d, Aj, cj⟩)) := .of (load113 m6)
      repeat ((conv => whnf); first | (refine VLoad.mk _ Lm6 ?_) | (refine VCmp.tt (by omega) ?_) | (refine VCmp.ff (by omega) ?_) | (refine VIn.mk (IntWalk.i64_in _ (by omega)) ?_) | (refine VIdx.mk _ rfl (by omega) ?_) | (refine VIdx.mk 0 rfl (by omega) ?_))
      try (conv => whnf)
      refine VBs.mk _ _ (bs40 w6 ⟨r.d, Aj, cj⟩) ?_
      have d7 : Below w6.heap.size w6 (w6.alloc (.cells (drA ⟨r.d, Aj, cj⟩) 113)) := (Below.refl _ _).alloc (Nat.le_refl _) _
      have hr7 := row_new w6 113 4 eDr ⟨r.d, Aj, cj⟩ (drA ⟨r.d, Aj, cj⟩) rfl
      generalize w6.alloc (.cells (drA ⟨r.d, Aj, cj⟩) 113) = w7 at d7 hr7 ⊢
      have z7 := d7.size
      have own7 := own6.keep d7 fun q hq => (own6.lo q hq).2
      repeat ((conv => whnf); first | (refine VCmp.tt (by omega) ?_) | (refine VCmp.ff (by omega) ?_) | (refine VIn.mk (IntWalk.i64_in _ (by omega)) ?_) | (refine VIdx.mk _ rfl (by omega) ?_) | (refine VIdx.mk 0 rfl (by omega) ?_))
      try (conv => whnf)
      refine VApp.rows w.heap.size 4 48 _ Try.underlying40 info113 rfl (by decide) eDr len_eDr one_eDr al [⟨r.d, Aj, cj⟩] rfl rfl own7 hr7 (by omega) (by omega) (by omega) fun A8 c8 w8 ho8 hg8 hk8 => ?_
      have T8 := (T6.below d7).fx (S := (blk A).toList) (.grown hg8 fun q hq => by rw [hq]; simp) (fun q hq => by
        have hq : blk A = some q := by simpa [Option.mem_toList] using hq
        have q1 := hown.lo q hq
        refine ⟨by omega, fun hb => ?_, fun hb => ?_, fun hb => ?_, fun hb => by have := (h.d.lo hb).2; omega⟩
        · have := (h.i.lo hb).2; omega
        · rcases hb with e1 | ⟨s, hs, e1⟩
          · rcases (T6.below d7).y.l.ne own7 (by decide) with e2 | e2
            · dsimp only at e1 e2; rw [e1] at e2; cases e2
            · exact e2 (e1.trans hq.symm)
          · rcases ((T6.below d7).y.o s hs).ne own7 (by decide) with e2 | e2
            · rw [e1] at e2; cases e2
            · exact e2 (e1.trans hq.symm)
        · have := (h.m.lo hb).2; omega)
      have b8 : Below lb w w8 := (b6.trans (d7.mono (by omega))).grown hg8 (by omega) (fun q hq => by have := (own7.lo q hq).1; omega)
      have inL : ∀ q, blk L = some q → q ∈ lb :: ((blk x.y.L).toList ++ (blk x.d.L).toList) ∨ w.heap.size ≤ q := fun q hq => (fl q hq).imp (fun e => List.mem_cons_of_mem _ (List.mem_append.2 (.inl (by rw [e]; simp)))) id
      have f5 : Fx (lb :: ((blk x.y.L).toList ++ (blk x.d.L).toList)) w w5 := ((fr.trans (.below (S := []) (brj.trans (d1.mono (by omega)))) fun q hq => (by cases hq)).trans (.grown (S := (blk L).toList) hg2 fun q hq => by rw [hq]; simp) fun q hq => inL q (by simpa [Option.mem_toList] using hq)).trans (.grown (S := [lb]) g3 fun q hq => by injection hq with hq; subst hq; exact List.mem_singleton.2 rfl) fun q hq => .inl (by obtain rfl := List.mem_singleton.1 hq; exact List.mem_cons_self ..)
      have f8 : Fx (lb :: ((blk x.y.L).toList ++ (blk x.d.L).toList)) w w8 := ((f5.trans (.grown (S := [wr.heap.size]) g6 fun q hq => by injection hq with hq; subst hq; exact List.mem_singleton.2 rfl) fun q hq => .inr (by obtain rfl := List.mem_singleton.1 hq; exact fr.size)).trans (.below (S := []) d7) fun q hq => (by cases hq)).trans (.grown (S := (blk A).toList) hg8 fun q hq => by rw [hq]; simp) fun q hq => .inr (hown.lo q (by simpa [Option.mem_toList] using hq)).1
      repeat ((conv => whnf); first | (refine VCmp.tt (by omega) ?_) | (refine VCmp.ff (by omega) ?_) | (refine VIn.mk (IntWalk.i64_in _ (by omega)) ?_) | (refine VIdx.mk _ rfl (by omega) ?_) | (refine VIdx.mk 0 rfl (by omega) ?_))
      try (conv => whnf)
      refine .mk ⟨k + 1, A8, c8, al ++ [⟨r.d, Aj, cj⟩], L2, cL2, R ++ [row]⟩ ⟨rfl, rfl, by show some (Value.slice A8 (al.length + 1) c8) = _; rw [List.length_append]; rfl, rfl, trivial⟩ ⟨by show k + 1 ≤ _; rw [List.length_map]; omega, T8, ho8, ?_, by show (R ++ [row]).length = _; rw [List.length_append, hn]; rfl, ?_, b8, f8, fun q hq => ?_, fun s hs q hq => ?_⟩ (by show rs.length - (k + 1) < rs.length - k; omega)
      · show (al ++ [_]).map Dr.d = _
        rw [List.map_append, he, List.take_add_one, hdk]; rfl
      · intro a ha
        rcases List.mem_append.1 ha with ha | ha
        · obtain ⟨s, hs, hs'⟩ := hhd a ha
          exact ⟨s, List.mem_append.2 (.inl hs), hs'⟩
        · obtain rfl := List.mem_singleton.1 ha
          exact ⟨row, List.mem_append.2 (.inr (List.mem_singleton.2 rfl)), hrA, hrc, _, hrt⟩
      · rcases hk2 with e | e
        · exact fl q (e ▸ hq)
        · right; dsimp only at hq; rw [e] at hq; injection hq with hq; have := fr.size; omega
      · rcases List.mem_append.1 hs with hs | hs
        · exact frr s hs q hq
        · obtain rfl := List.mem_singleton.1 hs
          have := (O'.lo q hq).1; have := fr.size; omega
  case neg =>
    have hke : k = rs.length := by omega
    subst hke
    repeat ((conv => whnf); first | (refine VCmp.tt (by omega) ?_) | (refine VCmp.ff (by omega) ?_) | (refine VIn.mk (IntWalk.i64_in _ (by omega)) ?_) | (refine VIdx.mk _ rfl (by omega) ?_) | (refine VIdx.mk 0 rfl (by omega) ?_))
    try (conv => whnf)
    refine VLoop.mk (Nat × Option Addr × Nat) (fun u => [(0, .pointer (some ⟨lb, 0, none⟩)), (1, .slice M rs.length cM), (5, .slice u.2.1 (rs.length + u.1) u.2.2), (10, .int .i64 u.1)]) (fun u W => u.1 ≤ 64 ∧ Below lb w W ∧ Fx (lb :: ((blk x.y.L).toList ++ (blk x.d.L).toList)) w W ∧ Lt W base lb { x with y := ⟨L, cL, x.y.P ++ R⟩ } ∧ Owns W w.heap.size 113 4 eDr u.2.1 u.2.2 (al ++ (List.range u.1).map lkD)) (fun u => 64 - u.1) (0, A, c) ⟨rfl, rfl, by show some (Value.slice A al.length c) = _; rw [hal]; rfl, rfl, trivial⟩ ⟨Nat.zero_le _, br, fr, hlt, by simpa using hown⟩ ?_
    clear hlt hown br hbr fr
    rintro ⟨j, Aj, cj⟩ wj ⟨hj, bj, fj, T, O⟩
    dsimp only at hj O ⊢
    have zj := bj.size
    have hO := O.len
    rw [List.length_append, List.length_map, List.length_range] at hO
    have zT := T.z
    by_cases hjl : j < 64
    case pos =>
      repeat ((conv => whnf); first | (refine VCmp.tt (by omega) ?_) | (refine VCmp.ff (by omega) ?_) | (refine VIn.mk (IntWalk.i64_in _ (by omega)) ?_) | (refine VIdx.mk _ rfl (by omega) ?_) | (refine VIdx.mk 0 rfl (by omega) ?_))
      try (conv => whnf)
      refine VBuild.mk _ (fun W => bldD W (-700 - (j : Int))) ?_
      repeat ((conv => whnf); first | (refine VCmp.tt (by omega) ?_) | (refine VCmp.ff (by omega) ?_) | (refine VIn.mk (IntWalk.i64_in _ (by omega)) ?_) | (refine VIdx.mk _ rfl (by omega) ?_) | (refine VIdx.mk 0 rfl (by omega) ?_))
      try (conv => whnf)
      refine VBs.mk _ _ (bs40b wj (-700 - (j : Int))) ?_
      have d1 : Below wj.heap.size wj (wj.alloc (.cells #[.int .i64 0, .int .i64 (-700 - (j : Int)), .int .i64 0, .slice none 0 0] 113)) := (Below.refl _ _).alloc (Nat.le_refl _) _
      have hr1 := row_new wj 113 4 eDr (lkD j) #[.int .i64 0, .int .i64 (-700 - (j : Int)), .int .i64 0, .slice none 0 0] rfl
      generalize wj.alloc (.cells #[.int .i64 0, .int .i64 (-700 - (j : Int)), .int .i64 0, .slice none 0 0] 113) = w3 at d1 hr1 ⊢
      have z3 := d1.size
      have O3 := O.keep d1 fun k hk => (O.lo k hk).2
      repeat ((conv => whnf); first | (refine VCmp.tt (by omega) ?_) | (refine VCmp.ff (by omega) ?_) | (refine VIn.mk (IntWalk.i64_in _ (by omega)) ?_) | (refine VIdx.mk _ rfl (by omega) ?_) | (refine VIdx.mk 0 rfl (by omega) ?_))
      try (conv => whnf)
      refine VApp.rows w.heap.size 4 48 _ Try.underlying40 info113 rfl (by decide) eDr len_eDr one_eDr (al ++ (List.range j).map lkD) [lkD j] (by simp [hal]) rfl O3 hr1 (by omega) (by omega) (by omega) fun A2 c2 w4 oA hgA hkA => ?_
      have T4 := (T.below d1).fx (S := (blk Aj).toList) (.grown hgA fun q hq => by rw [hq]; simp) (fun q hq => by
        have hq : blk Aj = some q := by simpa [Option.mem_toList] using hq
        have q1 := O.lo q hq
        refine ⟨by omega, fun hb => ?_, fun hb => ?_, fun hb => ?_, fun hb => by have := (h.d.lo hb).2; omega⟩
        · have := (h.i.lo hb).2; omega
        · rcases hb with e1 | ⟨s, hs, e1⟩
          · rcases (T.below d1).y.l.ne O3 (by decide) with e2 | e2
            · dsimp only at e1 e2; rw [e1] at e2; cases e2
            · exact e2 (e1.trans hq.symm)
          · rcases ((T.below d1).y.o s hs).ne O3 (by decide) with e2 | e2
            · rw [e1] at e2; cases e2
            · exact e2 (e1.trans hq.symm)
        · have := (h.m.lo hb).2; omega)
      have b4 : Below lb w w4 := (bj.trans (d1.mono (by omega))).grown hgA (by omega) (fun k hk => by have := (O3.lo k hk).1; omega)
      have f4 : Fx (lb :: ((blk x.y.L).toList ++ (blk x.d.L).toList)) w w4 := (fj.trans (.below (S := []) d1) fun q hq => (by cases hq)).trans (.grown (S := (blk Aj).toList) hgA fun q hq => by rw [hq]; simp) fun q hq => .inr (O.lo q (by simpa [Option.mem_toList] using hq)).1
      repeat ((conv => whnf); first | (refine VCmp.tt (by omega) ?_) | (refine VCmp.ff (by omega) ?_) | (refine VIn.mk (IntWalk.i64_in _ (by omega)) ?_) | (refine VIdx.mk _ rfl (by omega) ?_) | (refine VIdx.mk 0 rfl (by omega) ?_))
      try (conv => whnf)
      refine .mk (j + 1, A2, c2) ⟨rfl, rfl, rfl, rfl, trivial⟩ ⟨hjl, b4, f4, T4, ?_⟩ (by show 64 - (j + 1) < 64 - j; omega)
      dsimp only
      rw [mapRange_succ, ← List.append_assoc]
      exact oA
    case neg =>
      have hj64 : j = 64 := by omega
      subst hj64
      have L1 : Ld Try.prog 102 lb 3 (Eq wj) (.slice x.d.L x.d.P.length x.d.c) := .of (load_cell (by kernel_rfl) (T.r 3 _ rfl))
      have er : rowT (⟨Aj, cj, al ++ (List.range 64).map lkD⟩ : RowX Dr) = (Aj, rs.length + 64, cj) := by unfold rowT; simp [hal]
      repeat ((conv => whnf); first | (refine VLoad.mk _ L1 ?_) | (refine VCmp.tt (by omega) ?_) | (refine VCmp.ff (by omega) ?_) | (refine VIn.mk (IntWalk.i64_in _ (by omega)) ?_) | (refine VIdx.mk _ rfl (by omega) ?_) | (refine VIdx.mk 0 rfl (by omega) ?_))
      try (conv => whnf)
      refine VBs.mk _ _ (bs102 wj Aj (rs.length + 64) cj) ?_
      have d1 : Below wj.heap.size wj (wj.alloc (.cells #[.slice Aj (rs.length + 64) cj] 40)) := (Below.refl _ _).alloc (Nat.le_refl _) _
      have hr1 := row_new wj 40 1 eTr (Aj, rs.length + 64, cj) #[.slice Aj (rs.length + 64) cj] rfl
      generalize wj.alloc (.cells #[.slice Aj (rs.length + 64) cj] 40) = w3 at d1 hr1 ⊢
      have z3 := d1.size
      have hl1 := T.d.l.keep d1 fun k hk => (T.d.l.lo k hk).2
      repeat ((conv => whnf); first | (refine VCmp.tt (by omega) ?_) | (refine VCmp.ff (by omega) ?_) | (refine VIn.mk (IntWalk.i64_in _ (by omega)) ?_) | (refine VIdx.mk _ rfl (by omega) ?_) | (refine VIdx.mk 0 rfl (by omega) ?_))
      try (conv => whnf)
      refine VApp.rows base 1 24 _ Try.underlying102 info40z rfl (by decide) eTr len_eTr one_eTr (x.d.P.map rowT) [(Aj, rs.length + 64, cj)] (by rw [List.length_map]) rfl hl1 hr1 (by omega) (by omega) (by omega) fun L2 cL2 w4 ho2 hg2 hk2 => ?_
      have hs2 : w4.heap[lb]? = wj.heap[lb]? := (hg2.block lb (by omega) (fun e => by have := (hl1.lo lb e.symm).1; omega)).trans (d1.block lb (by omega))
      have t2 := there_same T.t hs2
      have r2 := range_same T.r hs2
      repeat ((conv => whnf); first | (refine VCmp.tt (by omega) ?_) | (refine VCmp.ff (by omega) ?_) | (refine VIn.mk (IntWalk.i64_in _ (by omega)) ?_) | (refine VIdx.mk _ rfl (by omega) ?_) | (refine VIdx.mk 0 rfl (by omega) ?_))
      try (conv => whnf)
      refine VStore.cell (by kernel_rfl) (t2 3 (by omega)).1 (t2 3 (by omega)).2 rfl rfl fun w5 hw5 => ?_
      have g3 : w4.grownBy w5 (some lb) := by rw [hw5.out]; exact grown_cell _ _ _ _
      have O1 := O.keep d1 fun k hk => (O.lo k hk).2
      have B3 := T.d.push (by decide) d1 (r := ⟨Aj, cj, al ++ (List.range 64).map lkD⟩) (O1.base (by omega)) (MkAt.of _ _) (by rw [er]; exact ho2) hg2 g3 hz
      have b5 : Below lb w w5 := ((bj.trans (d1.mono (by omega))).grown hg2 (by omega) (fun q hq => by have := (hl1.lo q hq).1; omega)).grown g3 (by have := hg2.size; omega) (fun q hq => by injection hq with hq; omega)
      have z5 : base ≤ w5.heap.size := by have := hg2.size; have := g3.size; omega
      have r5 : w5.rangeAt lb 0 (lxC x.i ++ lxC (⟨L, cL, x.y.P ++ R⟩ : LX Int) ++ lxC x.m ++ lxC (⟨L2, cL2, x.d.P ++ [⟨Aj, cj, al ++ (List.range 64).map lkD⟩]⟩ : LX Dr)) := by
        have := rng_put (o := 3) (vs := [.slice L2 (x.d.P.length + 1) cL2]) r2 t2 (by simp [lxC]) (by simp)
        rw [hw5.out]
        unfold lxC at this ⊢
        dsimp only
        rw [List.length_append (bs := [_])]
        exact this
      have t5 : w5.there lb 0 4 := by rw [hw5.out]; exact there_set t2 _ _
      have oA : Owns w5 base 113 4 eDr Aj cj (al ++ (List.range 64).map lkD) := B3.o _ (List.mem_append.2 (.inr (List.mem_singleton.2 rfl)))
      have hy5 := T.y.beside T.d (by decide) (by decide) d1 hg2 g3 hz
      have f5 : Fx (lb :: ((blk x.y.L).toList ++ (blk x.d.L).toList)) w w5 := ((fj.trans (.below (S := []) d1) fun q hq => (by cases hq)).trans (.grown (S := (blk x.d.L).toList) hg2 fun q hq => by rw [hq]; simp) fun q hq => .inl (List.mem_cons_of_mem _ (List.mem_append.2 (.inr hq)))).trans (.grown (S := [lb]) g3 fun q hq => by injection hq with hq; subst hq; exact List.mem_singleton.2 rfl) fun q hq => .inl (by obtain rfl := List.mem_singleton.1 hq; exact List.mem_cons_self ..)
      repeat ((conv => whnf); first | (refine VSl.cutTo (by omega) ?_) | (refine VCmp.tt (by omega) ?_) | (refine VCmp.ff (by omega) ?_) | (refine VIn.mk (IntWalk.i64_in _ (by omega)) ?_) | (refine VIdx.mk _ rfl (by omega) ?_) | (refine VIdx.mk 0 rfl (by omega) ?_))
      try (conv => whnf)
      refine .mk ⟨f5, b5, Aj, cj, L, cL, R, L2, cL2, _, rfl, ⟨T.i.beside T.d (by decide) (by decide) d1 hg2 g3 hz, hy5, T.m.beside T.d (by decide) (by decide) d1 hg2 g3 hz, B3, r5, t5, hz, z5⟩, ⟨al, by rw [he, ← List.length_map (f := Dr.d), List.take_length], row_front (oA.row len_eDr), fun a ha => ?_⟩, hn, fun q hq => ?_, fun q hq => ?_, al, _, rfl, rfl, rfl, by rw [he, ← List.length_map (f := Dr.d), List.take_length], hhd⟩
      rotate_left
      · rcases hq with e | ⟨s, hs, e⟩
        · exact (fl q e).imp .inl id
        · rcases List.mem_append.1 hs with hs | hs
          · exact .inl (.inr ⟨s, hs, e⟩)
          · exact .inr (frr s hs q e)
      · rcases hq with e | ⟨s, hs, e⟩
        · rcases hk2 with e2 | e2
          · exact .inl (.inl (e2.symm.trans e))
          · right; dsimp only at e; rw [e2] at e; injection e with e; have := fj.size; omega
        · rcases List.mem_append.1 hs with hs | hs
          · exact .inl (.inr ⟨s, hs, e⟩)
          · obtain rfl := List.mem_singleton.1 hs
            exact .inr (O.lo q e).1
      obtain ⟨s, hs, e1, e2, t, e3⟩ := hhd a ha
      have hos := hy5.o s (List.mem_append.2 (.inr hs))
      rw [e1, e2, e3] at hos
      have hlen := hos.len
      rw [List.length_append] at hlen
      exact ⟨row_front (hos.row len_eByte), by omega, hlen.2⟩
end Go.Proofs.Ytcffhfcjfjfokaa
