/- LentK LentI One2, joined. -/
import Derived.Test.YtcffhfcjfjfokaaSh6
import Derived.Test.YtcffhfcjfjfokaaSh7
import Derived.Test.YtcffhfcjfjfokaaSh12
set_option linter.unusedVariables false
set_option linter.unusedSimpArgs false
/- The law's lent lists: rows with many marks behind each; are all marks there? -/
namespace Go.Proofs.Ytcffhfcjfjfokaa
open Go Go.RowKit
structure LX (α : Type) where
  L : Option Addr
  c : Nat
  P : List (RowX α)
def MkAt {α : Type} (l : List α) (mk : Nat → α) : Prop := 64 ≤ l.length ∧ ∀ j, j < 64 → l[l.length - 64 + j]? = some (mk j)
theorem MkAt.of {α : Type} (l : List α) (mk : Nat → α) : MkAt (l ++ (List.range 64).map mk) mk := by
  refine ⟨by simp, fun j hj => ?_⟩
  rw [List.getElem?_append_right (by simp), List.length_append, List.length_map, List.length_range, Nat.add_sub_cancel, show l.length + j - l.length = j by omega, List.getElem?_map, List.getElem?_range hj]; rfl
structure Ln {α : Type} (W : World) (base : Nat) (tl e : TypeId) (sz : Nat) (enc : α → List Value) (mk : Nat → α) (x : LX α) : Prop where
  l : Owns W base tl 1 eTr x.L x.c (x.P.map rowT)
  o : ∀ r ∈ x.P, Owns W base e sz enc r.A r.c r.l
  m : ∀ r ∈ x.P, MkAt r.l mk
def eM3 (t : Int × Int × Int) : List Value := [.int .i64 t.1, .int .i64 t.2.1, .int .i64 t.2.2]
theorem len_eM3 (t : Int × Int × Int) : (eM3 t).length = 3 := rfl
theorem one_eM3 (t : Int × Int × Int) : ∀ u ∈ eM3 t, u.oneCell' = true := by intro u hu; simp [eM3] at hu; rcases hu with rfl | rfl | rfl <;> rfl
def lkI (j : Nat) : Int := -700 - (j : Int)
def lkY (j : Nat) : Int := 200 + ((j % 7 : Nat) : Int)
def lkM (j : Nat) : Int × Int × Int := (-700 - (j : Int), 0, 0)
def lkD (j : Nat) : Dr := ⟨⟨0, -700 - (j : Int), 0, []⟩, none, 0⟩
structure LtX where
  i : LX Int
  y : LX Int
  m : LX (Int × Int × Int)
  d : LX Dr
def lxC {α : Type} (x : LX α) : List Value := [.slice x.L x.P.length x.c]
structure Lt (W : World) (base lb : Nat) (x : LtX) : Prop where
  i : Ln W base 37 3 1 eInt lkI x.i
  y : Ln W base 52 5 1 eByte lkY x.y
  m : Ln W base 93 168 3 eM3 lkM x.m
  d : Ln W base 40 113 4 eDr lkD x.d
  r : W.rangeAt lb 0 (lxC x.i ++ lxC x.y ++ lxC x.m ++ lxC x.d)
  t : W.there lb 0 4
  hz : lb < base
  z : base ≤ W.heap.size
section
variable {α : Type} {W W' W0 W1 W2 W3 : World} {base sz lb : Nat} {tl e : TypeId} {enc : α → List Value} {mk : Nat → α} {x : LX α}
theorem Ln.below (h : Ln W base tl e sz enc mk x) (hb : Below W.heap.size W W') : Ln W' base tl e sz enc mk x :=
  ⟨h.l.keep hb fun k hk => (h.l.lo k hk).2, fun r hr => (h.o r hr).keep hb fun k hk => ((h.o r hr).lo k hk).2, h.m⟩
theorem Lt.below {x : LtX} (h : Lt W base lb x) (hw : Below W.heap.size W W') : Lt W' base lb x :=
  ⟨h.i.below hw, h.y.below hw, h.m.below hw, h.d.below hw, range_same h.r (hw.block lb (by have := h.hz; have := h.z; omega)), there_same h.t (hw.block lb (by have := h.hz; have := h.z; omega)), h.hz, Nat.le_trans h.z hw.size⟩
theorem Ln.row (h : Ln W base tl e sz enc mk x) (hsz : ∀ x, (enc x).length = sz) {i j : Nat} {r : RowX α} (hi : x.P[i]? = some r) (hj : j < 64) : ∃ gL g, x.L = some ⟨gL, 0, none⟩ ∧ r.A = some ⟨g, 0, none⟩ ∧ 64 ≤ r.l.length ∧ r.l.length ≤ 9223372036854775807 ∧ W.cell? ⟨gL, i, none⟩ = some (.slice (some ⟨g, 0, none⟩) r.l.length r.c) ∧ W.rangeAt g ((r.l.length - 64 + j) * sz) (enc (mk j)) := by
  have hm := h.m r (List.mem_of_getElem? hi)
  have ho := h.o r (List.mem_of_getElem? hi)
  obtain ⟨gL, e1, hc⟩ := h.l.cell len_eTr (k := i) (x := rowT r) (by rw [List.getElem?_map, hi]; rfl)
  obtain ⟨g, e2, hr⟩ := ho.cell hsz (hm.2 j hj)
  have hl := ho.len
  refine ⟨gL, g, e1, e2, hm.1, by omega, ?_, hr⟩
  have := hc 0 _ rfl
  rw [Nat.mul_one, Nat.add_zero] at this
  rw [← e2]; exact this
/-- The other kinds, behind a row put into kind (tl', e'). -/
theorem Ln.beside {β : Type} {sz' : Nat} {tl' e' : TypeId} {enc' : β → List Value} {mk' : Nat → β} {x' : LX β} (h : Ln W0 base tl e sz enc mk x) (h' : Ln W0 base tl' e' sz' enc' mk' x') (n3 : e ≠ tl') (n4 : tl ≠ tl') (hb' : Below W0.heap.size W0 W1) (hg : W1.grownBy W2 (blk x'.L)) (hg3 : W2.grownBy W3 (some lb)) (hz : lb < base) : Ln W3 base tl e sz enc mk x := by
  have hL := h'.l.keep hb' fun k hk => (h'.l.lo k hk).2
  exact ⟨h.l.past hb' hL n4 hg hg3 hz, fun r hr => (h.o r hr).past hb' hL n3 hg hg3 hz, h.m⟩
theorem Ln.push (h : Ln W0 base tl e sz enc mk x) (ht : tl ≠ e) (hb' : Below W0.heap.size W0 W1) {r : RowX α} (ho : Owns W1 base e sz enc r.A r.c r.l) (hm : MkAt r.l mk) {L : Option Addr} {cL : Nat} (hl : Owns W2 base tl 1 eTr L cL (x.P.map rowT ++ [rowT r])) (hg : W1.grownBy W2 (blk x.L)) (hg3 : W2.grownBy W3 (some lb)) (hz : lb < base) : Ln W3 base tl e sz enc mk ⟨L, cL, x.P ++ [r]⟩ := by
  have hL := h.l.keep hb' fun k hk => (h.l.lo k hk).2
  refine ⟨?_, fun s hs => ?_, fun s hs => ?_⟩
  · dsimp only
    rw [List.map_append]
    exact hl.same fun q hq => hg3.block q (hl.lo q hq).2 fun e1 => by injection e1 with e1; have := (hl.lo q hq).1; omega
  · rcases List.mem_append.1 hs with hs | hs
    · exact (h.o s hs).past hb' hL (fun e1 => ht e1.symm) hg hg3 hz
    · obtain rfl := List.mem_singleton.1 hs
      have h2 := ho.kept hg (ho.ne hL (fun e1 => ht e1.symm))
      exact h2.same fun q hq => hg3.block q (h2.lo q hq).2 fun e1 => by injection e1 with e1; have := (h2.lo q hq).1; omega
  · rcases List.mem_append.1 hs with hs | hs
    · exact h.m s hs
    · obtain rfl := List.mem_singleton.1 hs
      exact hm
end
theorem rem7 (k : Nat) (W : World) : (binOp .rem 3 (.int .i64 k) (.int .i64 7)).run Try.prog W = .ok (.int .i64 ((k % 7 : Nat) : Int)) W := by
  have e1 : (k : Int).tmod 7 = ((k % 7 : Nat) : Int) := by rw [Int.tmod_eq_emod_of_nonneg (by omega)]; omega
  have e2 : IntKind.i64.wrap ((k % 7 : Nat) : Int) = ((k % 7 : Nat) : Int) := IntWalk.i64_in _ (by omega)
  simp [binOp, go_sem, e1, e2]
set_option maxRecDepth 100000 in
set_option maxHeartbeats 4000000 in
theorem kept_any {w : World} {base lb : Nat} {x : LtX} (h : Lt w base lb x) : Calls Try.prog 89 #[.pointer (some ⟨lb, 0, none⟩)] w fun e w' => e = .returned (.bool true) ∧ Below w.heap.size w w' := by
  refine calls_vc tab_ok Try.func89 rfl ?_
  repeat (conv => whnf
          first
          | (refine VCmp.tt (by omega) ?_)
          | (refine VCmp.ff (by omega) ?_)
          | (refine VIn.mk (IntWalk.i64_in _ (by omega)) ?_)
          | (refine VIdx.mk _ rfl (by omega) ?_)
          | (refine VIdx.mk 0 rfl (by omega) ?_))
  try (conv => whnf)
  refine VLoop.mk Nat (fun j => [(0, .pointer (some ⟨lb, 0, none⟩)), (3, .bool true), (4, .int .i64 j)]) (fun j W => j ≤ 64 ∧ Below w.heap.size w W) (fun j => 64 - j) 0 ⟨rfl, rfl, rfl, trivial⟩ ⟨Nat.zero_le _, Below.refl _ _⟩ ?_
  rintro j wj ⟨hj, HW⟩
  by_cases hjl : j < 64
  case pos =>
    repeat (conv => whnf
            first
            | (refine VCmp.tt (by omega) ?_)
            | (refine VCmp.ff (by omega) ?_)
            | (refine VIn.mk (IntWalk.i64_in _ (by omega)) ?_)
            | (refine VIdx.mk _ rfl (by omega) ?_)
            | (refine VIdx.mk 0 rfl (by omega) ?_))
    try (conv => whnf)
    refine VLoop.mk Nat (fun i => [(0, .pointer (some ⟨lb, 0, none⟩)), (3, .bool true), (4, .int .i64 j), (5, .int .i64 i)]) (fun i W => i ≤ x.i.P.length ∧ Below w.heap.size w W) (fun i => x.i.P.length - i) 0 ⟨rfl, rfl, rfl, rfl, trivial⟩ ⟨Nat.zero_le _, HW⟩ ?_
    clear HW
    rintro i wi ⟨hi, bi⟩
    have B := (h.below bi)
    have hLl := B.i.l.len
    rw [List.length_map] at hLl
    have L1 : Ld Try.prog 99 lb 0 (Eq wi) (.slice x.i.L x.i.P.length x.i.c) := .of (load_cell (by kernel_rfl) (B.r 0 _ rfl))
    by_cases hil : i < x.i.P.length
    case pos =>
      obtain ⟨r, hri⟩ : ∃ r, x.i.P[i]? = some r := ⟨_, List.getElem?_eq_getElem hil⟩
      have Bd := (h.below bi.drew)
      obtain ⟨gL, g, hgL, hgA, h64, h63, hcL, hcD⟩ := Bd.i.row len_eInt hri hjl
      have L2 : Ld Try.prog 99 lb 0 (Eq wi.drew) (.slice x.i.L x.i.P.length x.i.c) := .of (load_cell (by kernel_rfl) (Bd.r 0 _ rfl))
      rw [hgL] at L2
      have L3 : Ld Try.prog 37 gL (0 + i) (Eq wi.drew) (.slice (some ⟨g, 0, none⟩) r.l.length r.c) := .of (load_cell (by kernel_rfl) (by rw [Nat.zero_add]; exact hcL))
      have L4 : Ld Try.prog 3 g (0 + (r.l.length - 64 + j)) (Eq wi.drew) (.int .i64 (-700 - (j : Int))) := .of (by rw [Nat.zero_add]; exact ld3n (hcD 0 _ rfl))
      repeat (conv => whnf
              first
              | (refine VLoad.mk _ L1 ?_)
              | (refine VCmp.tt (by omega) ?_)
              | (refine VCmp.ff (by omega) ?_)
              | (refine VIn.mk (IntWalk.i64_in _ (by omega)) ?_)
              | (refine VIdx.mk _ rfl (by omega) ?_)
              | (refine VIdx.mk 0 rfl (by omega) ?_))
      try (conv => whnf)
      refine VDraw.mk 1000 [] [0, 1, 2, 3, 4, 5, 6, 7, 8, 9, 10, 11, 12, 13, 14, 15, 16, 17, 18, 19, 20, 21, 22, 23, 24, 25, 26] (Eq wi.drew) (by kernel_rfl) (by kernel_rfl) (rfl) ?_
      repeat (conv => whnf
              first
              | (refine VLoad.mk _ L2 ?_)
              | (refine VLoad.mk _ L3 ?_)
              | (refine VLoad.mk _ L4 ?_)
              | (refine VIdx.mk (r.l.length - 64 + j) (by omega) (by omega) ?_)
              | (refine VCmp.tt (by omega) ?_)
              | (refine VCmp.ff (by omega) ?_)
              | (refine VIn.mk (IntWalk.i64_in _ (by omega)) ?_)
              | (refine VIdx.mk _ rfl (by omega) ?_)
              | (refine VIdx.mk 0 rfl (by omega) ?_))
      try (conv => whnf)
      skip
      repeat (conv => whnf
              first
              | (refine VLoad.mk _ L2 ?_)
              | (refine VLoad.mk _ L3 ?_)
              | (refine VLoad.mk _ L4 ?_)
              | (refine VIdx.mk (r.l.length - 64 + j) (by omega) (by omega) ?_)
              | (refine VCmp.tt (by omega) ?_)
              | (refine VCmp.ff (by omega) ?_)
              | (refine VIn.mk (IntWalk.i64_in _ (by omega)) ?_)
              | (refine VIdx.mk _ rfl (by omega) ?_)
              | (refine VIdx.mk 0 rfl (by omega) ?_))
      try (conv => whnf)
      exact .mk (i + 1) ⟨rfl, rfl, rfl, rfl, trivial⟩ ⟨hil, bi.drew⟩ (by omega)
    repeat (conv => whnf
            first
            | (refine VLoad.mk _ L1 ?_)
            | (refine VCmp.tt (by omega) ?_)
            | (refine VCmp.ff (by omega) ?_)
            | (refine VIn.mk (IntWalk.i64_in _ (by omega)) ?_)
            | (refine VIdx.mk _ rfl (by omega) ?_)
            | (refine VIdx.mk 0 rfl (by omega) ?_))
    try (conv => whnf)
    have HW := bi
    clear L1 B bi hil hi hLl
    refine VLoop.mk Nat (fun i => [(0, .pointer (some ⟨lb, 0, none⟩)), (3, .bool true), (4, .int .i64 j), (6, .int .i64 i)]) (fun i W => i ≤ x.y.P.length ∧ Below w.heap.size w W) (fun i => x.y.P.length - i) 0 ⟨rfl, rfl, rfl, rfl, trivial⟩ ⟨Nat.zero_le _, HW⟩ ?_
    clear HW
    rintro i wi ⟨hi, bi⟩
    have B := (h.below bi)
    have hLl := B.y.l.len
    rw [List.length_map] at hLl
    have L1 : Ld Try.prog 51 lb 1 (Eq wi) (.slice x.y.L x.y.P.length x.y.c) := .of (load_cell (by kernel_rfl) (B.r 1 _ rfl))
    by_cases hil : i < x.y.P.length
    case pos =>
      obtain ⟨r, hri⟩ : ∃ r, x.y.P[i]? = some r := ⟨_, List.getElem?_eq_getElem hil⟩
      have Bd := (h.below bi.drew)
      obtain ⟨gL, g, hgL, hgA, h64, h63, hcL, hcD⟩ := Bd.y.row len_eByte hri hjl
      have L2 : Ld Try.prog 51 lb 1 (Eq wi.drew) (.slice x.y.L x.y.P.length x.y.c) := .of (load_cell (by kernel_rfl) (Bd.r 1 _ rfl))
      rw [hgL] at L2
      have L3 : Ld Try.prog 52 gL (0 + i) (Eq wi.drew) (.slice (some ⟨g, 0, none⟩) r.l.length r.c) := .of (load_cell (by kernel_rfl) (by rw [Nat.zero_add]; exact hcL))
      have L4 : Ld Try.prog 5 g (0 + (r.l.length - 64 + j)) (Eq wi.drew) (.int .u8 (200 + ((j % 7 : Nat) : Int))) := .of (by rw [Nat.zero_add]; exact ld5n (hcD 0 _ rfl))
      repeat (conv => whnf
              first
              | (refine VLoad.mk _ L1 ?_)
              | (refine VCmp.tt (by omega) ?_)
              | (refine VCmp.ff (by omega) ?_)
              | (refine VIn.mk (IntWalk.i64_in _ (by omega)) ?_)
              | (refine VIdx.mk _ rfl (by omega) ?_)
              | (refine VIdx.mk 0 rfl (by omega) ?_))
      try (conv => whnf)
      refine VDraw.mk 1000 [] [0, 1, 2, 3, 4, 5, 6, 7, 8, 9, 10, 11, 12, 13, 14, 15, 16, 17, 18, 19, 20, 21, 22, 23, 24, 25, 26, 27, 28] (Eq wi.drew) (by kernel_rfl) (by kernel_rfl) (rfl) ?_
      repeat (conv => whnf
              first
              | (refine VLoad.mk _ L2 ?_)
              | (refine VLoad.mk _ L3 ?_)
              | (refine VLoad.mk _ L4 ?_)
              | (refine VIdx.mk (r.l.length - 64 + j) (by omega) (by omega) ?_)
              | (refine VCmp.tt (by omega) ?_)
              | (refine VCmp.ff (by omega) ?_)
              | (refine VIn.mk (IntWalk.i64_in _ (by omega)) ?_)
              | (refine VIdx.mk _ rfl (by omega) ?_)
              | (refine VIdx.mk 0 rfl (by omega) ?_))
      try (conv => whnf)
      refine VQ.mk (.int .i64 ((j % 7 : Nat) : Int)) (fun a ha W _ => ?_) ?_
      · have h3 := ha (.tmp 79) _ rfl
        have h4 := ha (.const (.int .i64 7)) _ rfl
        have := rem7 j W
        have hg : Sem.run Try.prog (eqGuard .rem 3 (.tmp 79) (.const (.int .i64 7)) (.int .i64 j) (.int .i64 7)) W = .ok () W := rfl
        simp only [execOp, h3, h4, Sem.run_bind, hg, this, Result.andThen_ok, Sem.run_pure]
      have c7 := u8_in (200 + ((j % 7 : Nat) : Int)) (by omega) (by omega)
      repeat (conv => whnf
              first
              | (refine VIn.mk c7 ?_)
              | (refine VCmp.tt (by omega) ?_)
              | (refine VCmp.ff (by omega) ?_)
              | (refine VIn.mk (IntWalk.i64_in _ (by omega)) ?_)
              | (refine VIdx.mk _ rfl (by omega) ?_)
              | (refine VIdx.mk 0 rfl (by omega) ?_))
      try (conv => whnf)
      repeat (conv => whnf
              first
              | (refine VLoad.mk _ L2 ?_)
              | (refine VLoad.mk _ L3 ?_)
              | (refine VLoad.mk _ L4 ?_)
              | (refine VIdx.mk (r.l.length - 64 + j) (by omega) (by omega) ?_)
              | (refine VCmp.tt (by omega) ?_)
              | (refine VCmp.ff (by omega) ?_)
              | (refine VIn.mk (IntWalk.i64_in _ (by omega)) ?_)
              | (refine VIdx.mk _ rfl (by omega) ?_)
              | (refine VIdx.mk 0 rfl (by omega) ?_))
      try (conv => whnf)
      exact .mk (i + 1) ⟨rfl, rfl, rfl, rfl, trivial⟩ ⟨hil, bi.drew⟩ (by omega)
    repeat (conv => whnf
            first
            | (refine VLoad.mk _ L1 ?_)
            | (refine VCmp.tt (by omega) ?_)
            | (refine VCmp.ff (by omega) ?_)
            | (refine VIn.mk (IntWalk.i64_in _ (by omega)) ?_)
            | (refine VIdx.mk _ rfl (by omega) ?_)
            | (refine VIdx.mk 0 rfl (by omega) ?_))
    try (conv => whnf)
    have HW := bi
    clear L1 B bi hil hi hLl
    refine VLoop.mk Nat (fun i => [(0, .pointer (some ⟨lb, 0, none⟩)), (3, .bool true), (4, .int .i64 j), (7, .int .i64 i)]) (fun i W => i ≤ x.m.P.length ∧ Below w.heap.size w W) (fun i => x.m.P.length - i) 0 ⟨rfl, rfl, rfl, rfl, trivial⟩ ⟨Nat.zero_le _, HW⟩ ?_
    clear HW
    rintro i wi ⟨hi, bi⟩
    have B := (h.below bi)
    have hLl := B.m.l.len
    rw [List.length_map] at hLl
    have L1 : Ld Try.prog 145 lb 2 (Eq wi) (.slice x.m.L x.m.P.length x.m.c) := .of (load_cell (by kernel_rfl) (B.r 2 _ rfl))
    by_cases hil : i < x.m.P.length
    case pos =>
      obtain ⟨r, hri⟩ : ∃ r, x.m.P[i]? = some r := ⟨_, List.getElem?_eq_getElem hil⟩
      have Bd := (h.below bi.drew)
      obtain ⟨gL, g, hgL, hgA, h64, h63, hcL, hcD⟩ := Bd.m.row len_eM3 hri hjl
      have L2 : Ld Try.prog 145 lb 2 (Eq wi.drew) (.slice x.m.L x.m.P.length x.m.c) := .of (load_cell (by kernel_rfl) (Bd.r 2 _ rfl))
      rw [hgL] at L2
      have L3 : Ld Try.prog 93 gL (0 + i) (Eq wi.drew) (.slice (some ⟨g, 0, none⟩) r.l.length r.c) := .of (load_cell (by kernel_rfl) (by rw [Nat.zero_add]; exact hcL))
      have L4 : Ld Try.prog 3 g (0 + (r.l.length - 64 + j) * 3) (Eq wi.drew) (.int .i64 (-700 - (j : Int))) := .of (by rw [Nat.zero_add]; exact load3 (hcD 0 _ rfl))
      repeat (conv => whnf
              first
              | (refine VLoad.mk _ L1 ?_)
              | (refine VCmp.tt (by omega) ?_)
              | (refine VCmp.ff (by omega) ?_)
              | (refine VIn.mk (IntWalk.i64_in _ (by omega)) ?_)
              | (refine VIdx.mk _ rfl (by omega) ?_)
              | (refine VIdx.mk 0 rfl (by omega) ?_))
      try (conv => whnf)
      refine VDraw.mk 1000 [] [0, 1, 2, 3, 4, 5, 6, 7, 8, 9, 10, 11, 12, 13, 14, 15, 16, 17, 18, 19, 20, 21, 22, 23, 24, 25, 26, 27] (Eq wi.drew) (by kernel_rfl) (by kernel_rfl) (rfl) ?_
      repeat (conv => whnf
              first
              | (refine VLoad.mk _ L2 ?_)
              | (refine VLoad.mk _ L3 ?_)
              | (refine VLoad.mk _ L4 ?_)
              | (refine VIdx.mk (r.l.length - 64 + j) (by omega) (by omega) ?_)
              | (refine VCmp.tt (by omega) ?_)
              | (refine VCmp.ff (by omega) ?_)
              | (refine VIn.mk (IntWalk.i64_in _ (by omega)) ?_)
              | (refine VIdx.mk _ rfl (by omega) ?_)
              | (refine VIdx.mk 0 rfl (by omega) ?_))
      try (conv => whnf)
      skip
      repeat (conv => whnf
              first
              | (refine VLoad.mk _ L2 ?_)
              | (refine VLoad.mk _ L3 ?_)
              | (refine VLoad.mk _ L4 ?_)
              | (refine VIdx.mk (r.l.length - 64 + j) (by omega) (by omega) ?_)
              | (refine VCmp.tt (by omega) ?_)
              | (refine VCmp.ff (by omega) ?_)
              | (refine VIn.mk (IntWalk.i64_in _ (by omega)) ?_)
              | (refine VIdx.mk _ rfl (by omega) ?_)
              | (refine VIdx.mk 0 rfl (by omega) ?_))
      try (conv => whnf)
      exact .mk (i + 1) ⟨rfl, rfl, rfl, rfl, trivial⟩ ⟨hil, bi.drew⟩ (by omega)
    repeat (conv => whnf
            first
            | (refine VLoad.mk _ L1 ?_)
            | (refine VCmp.tt (by omega) ?_)
            | (refine VCmp.ff (by omega) ?_)
            | (refine VIn.mk (IntWalk.i64_in _ (by omega)) ?_)
            | (refine VIdx.mk _ rfl (by omega) ?_)
            | (refine VIdx.mk 0 rfl (by omega) ?_))
    try (conv => whnf)
    have HW := bi
    clear L1 B bi hil hi hLl
    refine VLoop.mk Nat (fun i => [(0, .pointer (some ⟨lb, 0, none⟩)), (3, .bool true), (4, .int .i64 j), (8, .int .i64 i)]) (fun i W => i ≤ x.d.P.length ∧ Below w.heap.size w W) (fun i => x.d.P.length - i) 0 ⟨rfl, rfl, rfl, rfl, trivial⟩ ⟨Nat.zero_le _, HW⟩ ?_
    clear HW
    rintro i wi ⟨hi, bi⟩
    have B := (h.below bi)
    have hLl := B.d.l.len
    rw [List.length_map] at hLl
    have L1 : Ld Try.prog 102 lb 3 (Eq wi) (.slice x.d.L x.d.P.length x.d.c) := .of (load_cell (by kernel_rfl) (B.r 3 _ rfl))
    by_cases hil : i < x.d.P.length
    case pos =>
      obtain ⟨r, hri⟩ : ∃ r, x.d.P[i]? = some r := ⟨_, List.getElem?_eq_getElem hil⟩
      have Bd := (h.below bi.drew)
      obtain ⟨gL, g, hgL, hgA, h64, h63, hcL, hcD⟩ := Bd.d.row len_eDr hri hjl
      have L2 : Ld Try.prog 102 lb 3 (Eq wi.drew) (.slice x.d.L x.d.P.length x.d.c) := .of (load_cell (by kernel_rfl) (Bd.r 3 _ rfl))
      rw [hgL] at L2
      have L3 : Ld Try.prog 40 gL (0 + i) (Eq wi.drew) (.slice (some ⟨g, 0, none⟩) r.l.length r.c) := .of (load_cell (by kernel_rfl) (by rw [Nat.zero_add]; exact hcL))
      have L4 : Ld Try.prog 3 g (0 + (r.l.length - 64 + j) * 4 + 1) (Eq wi.drew) (.int .i64 (-700 - (j : Int))) := .of (by rw [Nat.zero_add]; exact load3 (hcD 1 _ rfl))
      repeat (conv => whnf
              first
              | (refine VLoad.mk _ L1 ?_)
              | (refine VCmp.tt (by omega) ?_)
              | (refine VCmp.ff (by omega) ?_)
              | (refine VIn.mk (IntWalk.i64_in _ (by omega)) ?_)
              | (refine VIdx.mk _ rfl (by omega) ?_)
              | (refine VIdx.mk 0 rfl (by omega) ?_))
      try (conv => whnf)
      refine VDraw.mk 1000 [] [0, 1, 2, 3, 4, 5, 6, 7, 8, 9, 10, 11, 12, 13, 14, 15, 16, 17, 18, 19, 20, 21, 22, 23, 24, 25, 26, 27] (Eq wi.drew) (by kernel_rfl) (by kernel_rfl) (rfl) ?_
      repeat (conv => whnf
              first
              | (refine VLoad.mk _ L2 ?_)
              | (refine VLoad.mk _ L3 ?_)
              | (refine VLoad.mk _ L4 ?_)
              | (refine VIdx.mk (r.l.length - 64 + j) (by omega) (by omega) ?_)
              | (refine VCmp.tt (by omega) ?_)
              | (refine VCmp.ff (by omega) ?_)
              | (refine VIn.mk (IntWalk.i64_in _ (by omega)) ?_)
              | (refine VIdx.mk _ rfl (by omega) ?_)
              | (refine VIdx.mk 0 rfl (by omega) ?_))
      try (conv => whnf)
      skip
      repeat (conv => whnf
              first
              | (refine VLoad.mk _ L2 ?_)
              | (refine VLoad.mk _ L3 ?_)
              | (refine VLoad.mk _ L4 ?_)
              | (refine VIdx.mk (r.l.length - 64 + j) (by omega) (by omega) ?_)
              | (refine VCmp.tt (by omega) ?_)
              | (refine VCmp.ff (by omega) ?_)
              | (refine VIn.mk (IntWalk.i64_in _ (by omega)) ?_)
              | (refine VIdx.mk _ rfl (by omega) ?_)
              | (refine VIdx.mk 0 rfl (by omega) ?_))
      try (conv => whnf)
      exact .mk (i + 1) ⟨rfl, rfl, rfl, rfl, trivial⟩ ⟨hil, bi.drew⟩ (by omega)
    repeat (conv => whnf
            first
            | (refine VLoad.mk _ L1 ?_)
            | (refine VCmp.tt (by omega) ?_)
            | (refine VCmp.ff (by omega) ?_)
            | (refine VIn.mk (IntWalk.i64_in _ (by omega)) ?_)
            | (refine VIdx.mk _ rfl (by omega) ?_)
            | (refine VIdx.mk 0 rfl (by omega) ?_))
    try (conv => whnf)
    have HW := bi
    clear L1 B bi hil hi hLl
    exact .mk (j + 1) ⟨rfl, rfl, rfl, trivial⟩ ⟨hjl, HW⟩ (by omega)
  case neg =>
    repeat (conv => whnf
            first
            | (refine VCmp.tt (by omega) ?_)
            | (refine VCmp.ff (by omega) ?_)
            | (refine VIn.mk (IntWalk.i64_in _ (by omega)) ?_)
            | (refine VIdx.mk _ rfl (by omega) ?_)
            | (refine VIdx.mk 0 rfl (by omega) ?_))
    try (conv => whnf)
    exact .mk ⟨rfl, HW⟩
def lent0 : Array Value := #[.slice none 0 0, .slice none 0 0, .slice none 0 0, .slice none 0 0]
theorem bld147 (W : World) : (Instr.build 147 #[]).run Try.prog W = .ok (.agg lent0) W := by kernel_rfl
def ltx0 : LtX := ⟨⟨none, 0, []⟩, ⟨none, 0, []⟩, ⟨none, 0, []⟩, ⟨none, 0, []⟩⟩
theorem lt_new (w : World) : Lt (w.alloc (.cells lent0 147)) (w.heap.size + 1) w.heap.size ltx0 := by
  have z : (w.alloc (.cells lent0 147)).heap.size = w.heap.size + 1 := by simp
  exact ⟨⟨owns_nil _ _ _ _ _, fun r hr => (by cases hr), fun r hr => (by cases hr)⟩, ⟨owns_nil _ _ _ _ _, fun r hr => (by cases hr), fun r hr => (by cases hr)⟩, ⟨owns_nil _ _ _ _ _, fun r hr => (by cases hr), fun r hr => (by cases hr)⟩, ⟨owns_nil _ _ _ _ _, fun r hr => (by cases hr), fun r hr => (by cases hr)⟩,
    range_new w lent0 147, there_new w lent0 147, Nat.lt_succ_self _, by omega⟩
end Go.Proofs.Ytcffhfcjfjfokaa
/- The law's lent lists of numbers. -/
namespace Go.Proofs.Ytcffhfcjfjfokaa
open Go Go.RowKit
theorem VSl.cutTo {A : Option Addr} {n c es h : Nat} {K : Value → Prop} (hh : h ≤ c) (hk : K (.slice A h c)) : VSl A n c es 0 h K :=
  .mk 0 h rfl rfl (Nat.zero_le _) hh (by
    have e : (if c = 0 then A else A.map (·.add (0 * es))) = A := by
      split
      · rfl
      · cases A with
        | none => rfl
        | some a => simp [Addr.add]
    rw [e, Nat.sub_zero]; exact hk)
/-- append onto an own row, as far as there is room. -/
theorem VApp.more {P : Program} {α : Type} {w : World} {ty0 : TypeId} {t e : TypeId} {K : Value → World → Prop}
    (base : Nat) (sz bytes : Nat) (z : Value) (ht : P.underlying t = some (.slice e)) (hinfo : (P.info? e).map (fun i => (i.zero, i.size, i.bytes)) = some (some z, sz, bytes))
    (hzs : z.cells.size = sz) (hsz : 0 < sz) (enc : α → List Value) (henc : ∀ x, (enc x).length = sz) (hone : ∀ x, ∀ u ∈ enc x, u.oneCell' = true)
    {A : Option Addr} {c : Nat} (xs : List α) {B : Option Addr} {cB N n m : Nat} (l : List α) (hn : xs.length = n) (hm : l.length = m)
    (hown : OwnW w base e sz enc A c xs) (hr : RowAt w N sz enc B l)
    (h63 : n + m ≤ 9223372036854775807) (hbytes : (n + m) * bytes ≤ 140737488355328) (hbase : base ≤ w.heap.size)
    (h : ∀ A' c' w', OwnW w' base e sz enc A' c' (xs ++ l) → w.grownBy w' (bw A c) → (∀ k, bw A' c' = some k → bw A c = some k ∨ k = w.heap.size) → K (.slice A' (n + m) c') w') : VApp P #[t, t] ty0 [.slice A n c, .slice B m cB] w K := by
  by_cases h0 : 0 < c
  · have hbw : bw A c = blk A := by unfold bw; rw [if_neg (by omega)]
    refine VApp.rows base sz bytes z ht hinfo hzs hsz enc henc hone xs l hn hm (hown.own h0) hr h63 hbytes hbase fun A' c' w' ho hg hk => ?_
    refine h A' c' w' (.of ho) (by rw [hbw]; exact hg) fun k hk' => ?_
    rw [hbw]
    rcases hk with e1 | e1
    · left; rw [← e1]; exact (bw_blk hk').1
    · right; rw [(bw_blk hk').1] at e1; injection e1
  · have hl := hown.len
    have hx : xs = [] := List.eq_nil_of_length_eq_zero (by omega)
    subst hx
    have hn0 : n = 0 := hn.symm
    subst hn0
    refine VApp.rowsW base sz bytes z ht hinfo hzs hsz enc henc hone [] l hm hown hr (by omega) (by rw [Nat.zero_add] at hbytes; exact hbytes) hbase fun A' c' w' ho hg hk => ?_
    rw [← Nat.zero_add m]
    exact h A' c' w' (by rw [List.nil_append]; exact ho) hg hk
theorem bs37z' (W : World) : (Instr.buildSlice 37 0 #[]).run Try.prog W = .ok (.slice (some ⟨W.heap.size, 0, none⟩) 0 0) (W.alloc (.cells #[] 3)) := by kernel_rfl
theorem row_front {α : Type} {w : World} {N sz : Nat} {enc : α → List Value} {A : Option Addr} {l m : List α} (h : RowAt w N sz enc A (l ++ m)) : RowAt w N sz enc A l := fun h0 => by
  obtain ⟨b, off, e, hb, hc⟩ := h (by rw [List.length_append]; omega)
  refine ⟨b, off, e, hb, fun k x hk => hc k x ?_⟩
  have := (List.getElem?_eq_some_iff.1 hk).1
  rw [List.getElem?_append_left this]; exact hk
theorem mapRange_succ {α : Type} (f : Nat → α) (j : Nat) : (List.range (j + 1)).map f = (List.range j).map f ++ [f j] := by
  rw [List.range_succ, List.map_append]; rfl
set_option maxRecDepth 100000 in
set_option maxHeartbeats 4000000 in
theorem lentInts_any {w : World} {base lb : Nat} {x : LtX} {C : Option Addr} {cC N : Nat} {who : List Int} (h : Lt w base lb x) (hp : x.i.P.length ≤ 1000) (hN : N ≤ w.heap.size) (hC : RowAt w N 1 eInt C who) (hl : who.length ≤ 1048576) : Calls Try.prog 95 #[.pointer (some ⟨lb, 0, none⟩), .slice C who.length cC] w fun e w' => Fx (lb :: (blk x.i.L).toList) w w' ∧ Below lb w w' ∧ ∃ A c L cL r, e = .returned (.slice A who.length c) ∧ Lt w' base lb { x with i := ⟨L, cL, x.i.P ++ [r]⟩ } ∧ RowAt w' w'.heap.size 1 eInt A who ∧ who.length ≤ c ∧ c ≤ 9223372036854775807 := by
  refine calls_vc tab_ok Try.func95 rfl ?_
  have hz := h.hz
  have hbz := h.z
  repeat (conv => whnf
          first
          | (refine VCmp.tt (by omega) ?_)
          | (refine VCmp.ff (by omega) ?_)
          | (refine VIn.mk (IntWalk.i64_in _ (by omega)) ?_)
          | (refine VIdx.mk _ rfl (by omega) ?_)
          | (refine VIdx.mk 0 rfl (by omega) ?_))
  try (conv => whnf)
  refine VBs.mk _ _ (bs37z' w) ?_
  have c1 : Below w.heap.size w (w.alloc (.cells #[] 3)) := (Below.refl _ _).alloc (Nat.le_refl _) _
  have z1 : (w.alloc (.cells #[] 3)).heap.size = w.heap.size + 1 := by simp
  generalize w.alloc (.cells #[] 3) = w1 at c1 z1 ⊢
  repeat (conv => whnf
          first
          | (refine VCmp.tt (by omega) ?_)
          | (refine VCmp.ff (by omega) ?_)
          | (refine VIn.mk (IntWalk.i64_in _ (by omega)) ?_)
          | (refine VIdx.mk _ rfl (by omega) ?_)
          | (refine VIdx.mk 0 rfl (by omega) ?_))
  try (conv => whnf)
  refine VApp.rowsW w.heap.size 1 8 _ Try.underlying37 info3 rfl (by decide) eInt len_eInt one_eInt ([] : List Int) who rfl ⟨Nat.zero_le _, fun h => absurd h (by omega)⟩ (hC.below c1 hN) (by omega) (by omega) (by omega) fun E cE w2 oE hgE hkE => ?_
  have c2 : Below w.heap.size w w2 := c1.grown hgE (by omega) (fun k hk => by cases hk)
  repeat (conv => whnf
          first
          | (refine VCmp.tt (by omega) ?_)
          | (refine VCmp.ff (by omega) ?_)
          | (refine VIn.mk (IntWalk.i64_in _ (by omega)) ?_)
          | (refine VIdx.mk _ rfl (by omega) ?_)
          | (refine VIdx.mk 0 rfl (by omega) ?_))
  try (conv => whnf)
  refine VLoop.mk (Nat × Option Addr × Nat) (fun u => [(0, .pointer (some ⟨lb, 0, none⟩)), (1, .slice C who.length cC), (5, .slice u.2.1 (who.length + u.1) u.2.2), (6, .int .i64 u.1)]) (fun u W => u.1 ≤ 64 ∧ Below w.heap.size w W ∧ OwnW W w.heap.size 3 1 eInt u.2.1 u.2.2 (who ++ (List.range u.1).map lkI)) (fun u => 64 - u.1) (0, E, cE) ⟨rfl, rfl, rfl, rfl, trivial⟩ ⟨Nat.zero_le _, c2, by simpa using oE⟩ ?_
  clear oE c2 hgE hkE
  rintro ⟨j, A, c⟩ wj ⟨hj, bj, O⟩
  dsimp only at hj O ⊢
  have zj := bj.size
  have hO := O.len
  have hOc := O.cap
  rw [List.length_append, List.length_map, List.length_range] at hO
  by_cases hjl : j < 64
  case pos =>
    repeat (conv => whnf
            first
            | (refine VCmp.tt (by omega) ?_)
            | (refine VCmp.ff (by omega) ?_)
            | (refine VIn.mk (IntWalk.i64_in _ (by omega)) ?_)
            | (refine VIdx.mk _ rfl (by omega) ?_)
            | (refine VIdx.mk 0 rfl (by omega) ?_))
    try (conv => whnf)
    refine VBs.mk _ _ (bs37b wj (-700 - (j : Int))) ?_
    have d1 : Below wj.heap.size wj (wj.alloc (.cells #[.int .i64 (-700 - (j : Int))] 3)) := (Below.refl _ _).alloc (Nat.le_refl _) _
    have hr1 := row_new wj 3 1 eInt (-700 - (j : Int)) #[.int .i64 (-700 - (j : Int))] rfl
    generalize wj.alloc (.cells #[.int .i64 (-700 - (j : Int))] 3) = w3 at d1 hr1 ⊢
    have z3 := d1.size
    repeat (conv => whnf
            first
            | (refine VCmp.tt (by omega) ?_)
            | (refine VCmp.ff (by omega) ?_)
            | (refine VIn.mk (IntWalk.i64_in _ (by omega)) ?_)
            | (refine VIdx.mk _ rfl (by omega) ?_)
            | (refine VIdx.mk 0 rfl (by omega) ?_))
    try (conv => whnf)
    refine VApp.more w.heap.size 1 8 _ Try.underlying37 info3 rfl (by decide) eInt len_eInt one_eInt (who ++ (List.range j).map lkI) [lkI j] (by simp) rfl (O.below d1) hr1 (by omega) (by omega) (by omega) fun A2 c2 w4 oA hgA hkA => ?_
    have b4 : Below w.heap.size w w4 := (bj.trans (d1.mono zj)).grown hgA (by omega) (fun k hk => ((O.below d1).lo k hk).1)
    repeat (conv => whnf
            first
            | (refine VCmp.tt (by omega) ?_)
            | (refine VCmp.ff (by omega) ?_)
            | (refine VIn.mk (IntWalk.i64_in _ (by omega)) ?_)
            | (refine VIdx.mk _ rfl (by omega) ?_)
            | (refine VIdx.mk 0 rfl (by omega) ?_))
    try (conv => whnf)
    refine .mk (j + 1, A2, c2) ⟨rfl, rfl, rfl, rfl, trivial⟩ ⟨hjl, b4, ?_⟩ (by show 64 - (j + 1) < 64 - j; omega)
    dsimp only
    rw [mapRange_succ, ← List.append_assoc]
    exact oA
  case neg =>
    have hj64 : j = 64 := by omega
    subst hj64
    have B := h.below bj
    have L1 : Ld Try.prog 99 lb 0 (Eq wj) (.slice x.i.L x.i.P.length x.i.c) := .of (load_cell (by kernel_rfl) (B.r 0 _ rfl))
    have ho := O.own (by omega)
    repeat (conv => whnf
            first
            | (refine VLoad.mk _ L1 ?_)
            | (refine VCmp.tt (by omega) ?_)
            | (refine VCmp.ff (by omega) ?_)
            | (refine VIn.mk (IntWalk.i64_in _ (by omega)) ?_)
            | (refine VIdx.mk _ rfl (by omega) ?_)
            | (refine VIdx.mk 0 rfl (by omega) ?_))
    try (conv => whnf)
    refine VBs.mk _ _ (bs99 wj A (who.length + 64) c) ?_
    have d1 : Below wj.heap.size wj (wj.alloc (.cells #[.slice A (who.length + 64) c] 37)) := (Below.refl _ _).alloc (Nat.le_refl _) _
    have hr1 := row_new wj 37 1 eTr (A, who.length + 64, c) #[.slice A (who.length + 64) c] rfl
    generalize wj.alloc (.cells #[.slice A (who.length + 64) c] 37) = w3 at d1 hr1 ⊢
    have z3 := d1.size
    have hl1 := B.i.l.keep d1 fun k hk => (B.i.l.lo k hk).2
    have er : rowT (⟨A, c, who ++ (List.range 64).map lkI⟩ : RowX Int) = (A, who.length + 64, c) := by unfold rowT; simp
    repeat (conv => whnf
            first
            | (refine VCmp.tt (by omega) ?_)
            | (refine VCmp.ff (by omega) ?_)
            | (refine VIn.mk (IntWalk.i64_in _ (by omega)) ?_)
            | (refine VIdx.mk _ rfl (by omega) ?_)
            | (refine VIdx.mk 0 rfl (by omega) ?_))
    try (conv => whnf)
    refine VApp.rows base 1 24 _ Try.underlying99 info37z rfl (by decide) eTr len_eTr one_eTr (x.i.P.map rowT) [(A, who.length + 64, c)] (by rw [List.length_map]) rfl hl1 hr1 (by omega) (by omega) (by omega) fun L2 cL2 w4 ho2 hg2 hk2 => ?_
    have hs2 : w4.heap[lb]? = wj.heap[lb]? := (hg2.block lb (by omega) (fun e => by have := (hl1.lo lb e.symm).1; omega)).trans (d1.block lb (by omega))
    have t2 := there_same B.t hs2
    have r2 := range_same B.r hs2
    repeat (conv => whnf
            first
            | (refine VCmp.tt (by omega) ?_)
            | (refine VCmp.ff (by omega) ?_)
            | (refine VIn.mk (IntWalk.i64_in _ (by omega)) ?_)
            | (refine VIdx.mk _ rfl (by omega) ?_)
            | (refine VIdx.mk 0 rfl (by omega) ?_))
    try (conv => whnf)
    refine VStore.cell (by kernel_rfl) (t2 0 (by omega)).1 (t2 0 (by omega)).2 rfl rfl fun w5 hw5 => ?_
    have g3 : w4.grownBy w5 (some lb) := by rw [hw5.out]; exact grown_cell _ _ _ _
    have ho' : Owns wj base 3 1 eInt A c (who ++ (List.range 64).map lkI) := ho.base (by omega)
    have ho1 := ho'.keep d1 fun k hk => (ho'.lo k hk).2
    have B3 := B.i.push (by decide) d1 (r := ⟨A, c, who ++ (List.range 64).map lkI⟩) ho1 (MkAt.of _ _) (by rw [er]; exact ho2) hg2 g3 hz
    have b5 : Below lb w w5 := (((bj.trans (d1.mono zj)).mono (by omega)).grown hg2 (by omega) (fun q hq => by have := (hl1.lo q hq).1; omega)).grown g3 (by have := hg2.size; omega) (fun q hq => by injection hq with hq; omega)
    have z5 : base ≤ w5.heap.size := by have := hg2.size; have := g3.size; omega
    have r5 : w5.rangeAt lb 0 (lxC (⟨L2, cL2, x.i.P ++ [⟨A, c, who ++ (List.range 64).map lkI⟩]⟩ : LX Int) ++ lxC x.y ++ lxC x.m ++ lxC x.d) := by
      have := rng_put (o := 0) (vs := [.slice L2 (x.i.P.length + 1) cL2]) r2 t2 (by simp [lxC]) (by simp)
      rw [hw5.out]
      unfold lxC at this ⊢
      dsimp only
      rw [List.length_append]
      exact this
    have t5 : w5.there lb 0 4 := by rw [hw5.out]; exact there_set t2 _ _
    have oA : Owns w5 base 3 1 eInt A c (who ++ (List.range 64).map lkI) := B3.o _ (List.mem_append.2 (.inr (List.mem_singleton.2 rfl)))
    have f5 : Fx (lb :: (blk x.i.L).toList) w w5 := ((Fx.below (S := lb :: (blk x.i.L).toList) (bj.trans (d1.mono zj))).trans (.grown (S := (blk x.i.L).toList) hg2 fun q hq => by rw [hq]; simp) fun q hq => .inl (List.mem_cons_of_mem _ hq)).trans (.grown (S := [lb]) g3 fun q hq => by injection hq with hq; subst hq; exact List.mem_singleton.2 rfl) fun q hq => .inl (by obtain rfl := List.mem_singleton.1 hq; exact List.mem_cons_self ..)
    repeat (conv => whnf
            first
            | (refine VSl.cutTo (by omega) ?_)
            | (refine VCmp.tt (by omega) ?_)
            | (refine VCmp.ff (by omega) ?_)
            | (refine VIn.mk (IntWalk.i64_in _ (by omega)) ?_)
            | (refine VIdx.mk _ rfl (by omega) ?_)
            | (refine VIdx.mk 0 rfl (by omega) ?_))
    try (conv => whnf)
    refine .mk ⟨f5, b5, A, c, L2, cL2, _, rfl, ⟨B3, B.y.beside B.i (by decide) (by decide) d1 hg2 g3 hz, B.m.beside B.i (by decide) (by decide) d1 hg2 g3 hz, B.d.beside B.i (by decide) (by decide) d1 hg2 g3 hz, r5, t5, hz, z5⟩, row_front (oA.row len_eInt), by omega, by omega⟩
end Go.Proofs.Ytcffhfcjfjfokaa
/- The law's one: a content of its own, with room that counts. -/
namespace Go.Proofs.Ytcffhfcjfjfokaa
open Go Go.RowKit
section
variable {P : Program}
/-- append onto an empty slice literal, at a step of a region that draws its order: a row that is owned. -/
theorem step_append_own {α : Type} {ops : Array Oper} {o : Oper} {a : Act} {w : World} {K : Act → World → Prop} {Q : Exit → Act → World → Prop} (hgd : o.guard = none) (s x : Operand) (t : TypeId)
    (ho : o.op = .call { callee := .builtin .append, args := #[s, x], argTypes := #[t, t] })
    (e : TypeId) (sz bytes : Nat) (z : Value) (ht : P.underlying t = some (.slice e)) (hinfo : (P.info? e).map (fun i => (i.zero, i.size, i.bytes)) = some (some z, sz, bytes))
    (hzs : z.cells.size = sz) (hsz : 0 < sz) (enc : α → List Value) (henc : ∀ x, (enc x).length = sz) (hone : ∀ x, ∀ u ∈ enc x, u.oneCell' = true)
    (A B : Option Addr) (cB N m : Nat) (l : List α) (hs : a.eval s = .slice A 0 0) (hx : a.eval x = .slice B m cB) (hm : l.length = m) (hr : RowAt w N sz enc B l) (hbytes : m * bytes ≤ 140737488351232) (h63 : m ≤ 9223372036854775807)
    (h : ∀ A' c' w', OwnW w' w.heap.size e sz enc A' c' l → Below w.heap.size w w' → K (a.put o.dst (.slice A' m c')) w') :
    if Region.wanted o (yielded ops a.tmps) = true then o.wp P a w K Q else K (a.put o.dst undef) w := by
  subst hm
  obtain ⟨i, hi, hz, hsize, hby⟩ := info_parts hinfo
  have hw : Region.wanted o (yielded ops a.tmps) = true := by simp [Region.wanted, hgd]
  rw [if_pos hw]
  have key : ∃ A' c' w', (Builtin.append_ #[t, t] o.type #[.slice A 0 0, .slice B l.length cB]).run P w = .ok (.slice A' l.length c') w' ∧ OwnW w' w.heap.size e sz enc A' c' l ∧ Below w.heap.size w w' := by
    by_cases h0 : 0 < l.length
    · obtain ⟨b, off, rfl, hb, hc⟩ := hr h0
      obtain ⟨v', w', h1, h2, h3, _, h5⟩ := run_append_own_at (P := P) w w.heap.size t o.type e i z sz bytes ht hi hz hsize hby hzs hsz (.slice none 0 0) 0 _ (owns_nil (α := α) w w.heap.size e sz enc) ⟨b, off, none⟩ l.length cB (l.flatMap enc)
        (length_flat henc l) (fun j u hu => by
          obtain ⟨k, r, x, hk, hr', rfl⟩ := flatMap_of henc l j u hu
          have := hc k x hk r u hr'
          by_cases hz0 : k * sz + r = 0
          · rw [hz0]; simp only [Addr.add, if_true]
            have e0 : off + k * sz + r = off := by omega
            rw [e0] at this; exact this
          · simp only [Addr.add, if_neg hz0]
            rw [← Nat.add_assoc]; exact this)
        (fun u hu => by obtain ⟨x, _, hux⟩ := List.mem_flatMap.1 hu; exact hone x u hux) (by simp only [maxLen]; omega) (by rw [Nat.zero_add]; omega) (Nat.le_refl _)
      rw [Nat.zero_add, List.flatMap_nil, List.nil_append] at h2
      obtain ⟨g, cap, rfl, hg1, hg2⟩ := World.ownsRow.form h2 h0
      have hO : Owns w' w.heap.size e sz enc (some ⟨g, 0, none⟩) cap l := h2
      refine ⟨some ⟨g, 0, none⟩, cap, w', ?_, OwnW.of hO, (Below.refl w.heap.size w).grown h3 (Nat.le_refl _) (by intro k hk; cases hk)⟩
      cases A with
      | none => exact h1
      | some ga => rw [run_append_zero w t o.type e i ht hi ga _ _ _ h0 (by rw [hby]; omega)]; exact h1
    · have hl : l = [] := List.eq_nil_of_length_eq_zero (by omega)
      subst hl
      exact ⟨A, 0, w, run_append_none w t o.type e i ht hi A B cB, ⟨Nat.le_refl _, fun h2 => absurd h2 (by omega)⟩, Below.refl _ _⟩
  obtain ⟨A', c', w', hrun, h2, h5⟩ := key
  unfold Oper.wp execOp
  simp only [ho, resolve, invoke, builtin, Sem.run_bind, Sem.run_pure, Result.andThen_ok, List.map_toArray, List.map_cons, List.map_nil, hs, hx, hrun]
  exact h A' c' w' h2 h5
end
/-- What one answers: the same content, in lists of its own. -/
def OneOwn (f : Fl) (w : World) (x : Ending) (w' : World) : Prop := (∃ X cX Y cY, x = .returned (.agg (flc f.e f.l f.i f.c f.base X f.slots.length cX Y f.have_.length cY)) ∧ OwnW w' w.heap.size 66 2 eSlot X cX f.slots ∧ OwnW w' w.heap.size 3 1 eInt Y cY f.have_) ∧ Below w.heap.size w w'
set_option maxRecDepth 100000 in
set_option maxHeartbeats 4000000 in
theorem one_own (f : Fl) (A B : Option Addr) (cA cB N : Nat) (w : World) (hN : N ≤ w.heap.size) (hr : FlRows w N f A cA B cB) (hbS : f.slots.length * 16 ≤ 140737488351232) (hbH : f.have_.length * 8 ≤ 140737488351232) :
    Calls Try.prog 38 #[.agg (flc f.e f.l f.i f.c f.base A f.slots.length cA B f.have_.length cB)] w (OneOwn f w) := by
  have h0 : OneT w (flc f.e f.l f.i f.c f.base A f.slots.length cA B f.have_.length cB) ((box1 w (flc f.e f.l f.i f.c f.base A f.slots.length cA B f.have_.length cB) 39).alloc (.cells onez 39)) := ⟨(Below.refl _ _).alloc (by simp) _, fun j hj => by
    refine ⟨?_, World.frozen?_alloc_at _ _ _ _ (by simp)⟩
    rw [World.cell?_alloc_at _ _ _ _ (by simp)]
    match j, hj with
    | 0, _ | 1, _ | 2, _ | 3, _ | 4, _ | 5, _ | 6, _ => rfl, by simp⟩
  have hall : ∀ W : World, OneT w (flc f.e f.l f.i f.c f.base A f.slots.length cA B f.have_.length cB) W → (OneT w (flc f.e f.l f.i f.c f.base A f.slots.length cA B f.have_.length cB) W ∧ W.cell? ⟨w.heap.size, 0, none⟩ = some (.int .i64 f.e) ∧ W.cell? ⟨w.heap.size, 1, none⟩ = some (.int .i64 f.l) ∧ W.cell? ⟨w.heap.size, 2, none⟩ = some (.int .i64 f.i) ∧ W.cell? ⟨w.heap.size, 3, none⟩ = some (.int .i64 f.c) ∧ W.cell? ⟨w.heap.size, 4, none⟩ = some (.int .i64 f.base) ∧ W.cell? ⟨w.heap.size, 5, none⟩ = some (.slice A f.slots.length cA) ∧ W.cell? ⟨w.heap.size, 6, none⟩ = some (.slice B f.have_.length cB) ∧ W.cell? ⟨w.heap.size + 1, 0, none⟩ = some (celOf W ⟨w.heap.size + 1, 0, none⟩) ∧ W.cell? ⟨w.heap.size + 1, 1, none⟩ = some (celOf W ⟨w.heap.size + 1, 1, none⟩) ∧ W.cell? ⟨w.heap.size + 1, 2, none⟩ = some (celOf W ⟨w.heap.size + 1, 2, none⟩) ∧ W.cell? ⟨w.heap.size + 1, 3, none⟩ = some (celOf W ⟨w.heap.size + 1, 3, none⟩) ∧ W.cell? ⟨w.heap.size + 1, 4, none⟩ = some (celOf W ⟨w.heap.size + 1, 4, none⟩) ∧ W.cell? ⟨w.heap.size + 1, 5, none⟩ = some (celOf W ⟨w.heap.size + 1, 5, none⟩) ∧ W.cell? ⟨w.heap.size + 1, 6, none⟩ = some (celOf W ⟨w.heap.size + 1, 6, none⟩) ∧ W.frozen? ⟨w.heap.size + 1, 0, none⟩ = false ∧ W.frozen? ⟨w.heap.size + 1, 1, none⟩ = false ∧ W.frozen? ⟨w.heap.size + 1, 2, none⟩ = false ∧ W.frozen? ⟨w.heap.size + 1, 3, none⟩ = false ∧ W.frozen? ⟨w.heap.size + 1, 4, none⟩ = false ∧ W.frozen? ⟨w.heap.size + 1, 5, none⟩ = false ∧ W.frozen? ⟨w.heap.size + 1, 6, none⟩ = false) := fun W h => by
    obtain ⟨-, hc, -, -⟩ := box1_facts h.bel
    exact ⟨h, hc 0, hc 1, hc 2, hc 3, hc 4, hc 5, hc 6, celOf_some (h.there 0 (by omega)).1, celOf_some (h.there 1 (by omega)).1, celOf_some (h.there 2 (by omega)).1, celOf_some (h.there 3 (by omega)).1, celOf_some (h.there 4 (by omega)).1, celOf_some (h.there 5 (by omega)).1, celOf_some (h.there 6 (by omega)).1,
      (h.there 0 (by omega)).2, (h.there 1 (by omega)).2, (h.there 2 (by omega)).2, (h.there 3 (by omega)).2, (h.there 4 (by omega)).2, (h.there 5 (by omega)).2, (h.there 6 (by omega)).2⟩
  have hS : ∀ W : World, OneT w (flc f.e f.l f.i f.c f.base A f.slots.length cA B f.have_.length cB) W → RowAt W N 2 eSlot A f.slots := fun W h => hr.slots.below (box1_facts h.bel).1 hN
  have hH : ∀ W : World, OneT w (flc f.e f.l f.i f.c f.base A f.slots.length cA B f.have_.length cB) W → RowAt W N 1 eInt B f.have_ := fun W h => hr.have_.below (box1_facts h.bel).1 hN
  obtain ⟨-, -, hlS, hcS, hlH, hcH⟩ := hr
  replace hall := Lib.hid hall
  replace hS := Lib.hid hS
  replace hH := Lib.hid hH
  have h0d := h0.drew
  go_enter Try.func38, Try.ntmps38
  go_wp2_with fail
  go_region_held3 (fun W => OneT w (flc f.e f.l f.i f.c f.base A f.slots.length cA B f.have_.length cB) W ∧ W.cell? ⟨w.heap.size, 0, none⟩ = some (.int .i64 f.e) ∧ W.cell? ⟨w.heap.size, 1, none⟩ = some (.int .i64 f.l) ∧ W.cell? ⟨w.heap.size, 2, none⟩ = some (.int .i64 f.i) ∧ W.cell? ⟨w.heap.size, 3, none⟩ = some (.int .i64 f.c) ∧ W.cell? ⟨w.heap.size, 4, none⟩ = some (.int .i64 f.base) ∧ W.cell? ⟨w.heap.size, 5, none⟩ = some (.slice A f.slots.length cA) ∧ W.cell? ⟨w.heap.size, 6, none⟩ = some (.slice B f.have_.length cB) ∧ W.cell? ⟨w.heap.size + 1, 0, none⟩ = some (celOf W ⟨w.heap.size + 1, 0, none⟩) ∧ W.cell? ⟨w.heap.size + 1, 1, none⟩ = some (celOf W ⟨w.heap.size + 1, 1, none⟩) ∧ W.cell? ⟨w.heap.size + 1, 2, none⟩ = some (celOf W ⟨w.heap.size + 1, 2, none⟩) ∧ W.cell? ⟨w.heap.size + 1, 3, none⟩ = some (celOf W ⟨w.heap.size + 1, 3, none⟩) ∧ W.cell? ⟨w.heap.size + 1, 4, none⟩ = some (celOf W ⟨w.heap.size + 1, 4, none⟩) ∧ W.cell? ⟨w.heap.size + 1, 5, none⟩ = some (celOf W ⟨w.heap.size + 1, 5, none⟩) ∧ W.cell? ⟨w.heap.size + 1, 6, none⟩ = some (celOf W ⟨w.heap.size + 1, 6, none⟩) ∧ W.frozen? ⟨w.heap.size + 1, 0, none⟩ = false ∧ W.frozen? ⟨w.heap.size + 1, 1, none⟩ = false ∧ W.frozen? ⟨w.heap.size + 1, 2, none⟩ = false ∧ W.frozen? ⟨w.heap.size + 1, 3, none⟩ = false ∧ W.frozen? ⟨w.heap.size + 1, 4, none⟩ = false ∧ W.frozen? ⟨w.heap.size + 1, 5, none⟩ = false ∧ W.frozen? ⟨w.heap.size + 1, 6, none⟩ = false)
    ((refine hall.out _ ?_; first | (have hO := (‹OneT w _ _ ∧ _›).1; simp (config := { maxDischargeDepth := 20 }) only [OneT.set_true, hO]; done) | with_reducible exact h0d | (with_reducible refine OneT.alloc ?_ _; exact (‹OneT w _ _ ∧ _›).1) | (with_reducible refine OneT.allocD ?_ _; exact (‹OneT w _ _ ∧ _›).1) | (with_reducible refine OneT.below ?_ hb1; exact (‹OneT w _ _ ∧ _›).1) | (with_reducible refine OneT.below ?_ hb2; exact (‹OneT w _ _ ∧ _›).1) | (with_reducible refine OneT.set7 ?_ _ _ _ _ _ _ _; exact (‹OneT w _ _ ∧ _›).1)))
    (first
      | (refine step_append_own rfl (.tmp 7) (.tmp 9) 36 rfl 66 2 16 _ Try.underlying36 info66 rfl (by decide) eSlot len_eSlot one_eSlot _ A cA N f.slots.length f.slots rfl rfl rfl (hS.out _ (‹OneT w _ _ ∧ _›).1) (by omega) (by omega) ?_; intro A1 c1 w1 hr1 hb1; replace hr1 := Lib.hid hr1)
      | (refine step_append_own rfl (.tmp 11) (.tmp 13) 37 rfl 3 1 8 _ Try.underlying37 info3 rfl (by decide) eInt len_eInt one_eInt _ B cB N f.have_.length f.have_ rfl rfl rfl (hH.out _ (‹OneT w _ _ ∧ _›).1) (by omega) (by omega) ?_; intro A2 c2 w2 hr2 hb2; replace hr2 := Lib.hid hr2))
  all_goals clear hall hS hH
  all_goals (first
    | (have hAll : OneT w (flc f.e f.l f.i f.c f.base A f.slots.length cA B f.have_.length cB) w2 ∧ OwnW w2 (w.heap.size + 2) 66 2 eSlot A1 c1 f.slots ∧ OwnW w2 (w.heap.size + 2) 3 1 eInt A2 c2 f.have_ := ⟨(((h0.alloc _).drew.below hb1).alloc _).below hb2, OwnW.lower ((hr1.out.below ((Below.refl _ _).alloc (Nat.le_refl _) _)).below hb2) (by have h1 := hb1.size; have h2 := hb2.size; simp at h1 h2 ⊢; try omega), OwnW.lower (hr2.out) (by have h1 := hb1.size; have h2 := hb2.size; simp at h1 h2 ⊢; try omega)⟩; obtain ⟨hO, hR1, hR2⟩ := hAll)
    | (have hAll : OneT w (flc f.e f.l f.i f.c f.base A f.slots.length cA B f.have_.length cB) w2 ∧ OwnW w2 (w.heap.size + 2) 66 2 eSlot A1 c1 f.slots ∧ OwnW w2 (w.heap.size + 2) 3 1 eInt A2 c2 f.have_ := ⟨((((h0.alloc _).alloc _).drew).below hb1).below hb2, OwnW.lower (hr1.out.below hb2) (by have h1 := hb1.size; have h2 := hb2.size; simp at h1 h2 ⊢; try omega), OwnW.lower (hr2.out) (by have h1 := hb1.size; have h2 := hb2.size; simp at h1 h2 ⊢; try omega)⟩; obtain ⟨hO, hR1, hR2⟩ := hAll)
    | (have hAll : OneT w (flc f.e f.l f.i f.c f.base A f.slots.length cA B f.have_.length cB) w1 ∧ OwnW w1 (w.heap.size + 2) 66 2 eSlot A1 c1 f.slots ∧ OwnW w1 (w.heap.size + 2) 3 1 eInt A2 c2 f.have_ := ⟨((((h0.alloc _).alloc _).drew).below hb2).below hb1, OwnW.lower (hr1.out) (by have h1 := hb1.size; have h2 := hb2.size; simp at h1 h2 ⊢; try omega), OwnW.lower (hr2.out.below hb1) (by have h1 := hb1.size; have h2 := hb2.size; simp at h1 h2 ⊢; try omega)⟩; obtain ⟨hO, hR1, hR2⟩ := hAll)
    | (have hAll : OneT w (flc f.e f.l f.i f.c f.base A f.slots.length cA B f.have_.length cB) w1 ∧ OwnW w1 (w.heap.size + 2) 66 2 eSlot A1 c1 f.slots ∧ OwnW w1 (w.heap.size + 2) 3 1 eInt A2 c2 f.have_ := ⟨(((h0.alloc _).drew.below hb2).alloc _).below hb1, OwnW.lower (hr1.out) (by have h1 := hb1.size; have h2 := hb2.size; simp at h1 h2 ⊢; try omega), OwnW.lower ((hr2.out.below ((Below.refl _ _).alloc (Nat.le_refl _) _)).below hb1) (by have h1 := hb1.size; have h2 := hb2.size; simp at h1 h2 ⊢; try omega)⟩; obtain ⟨hO, hR1, hR2⟩ := hAll))
  all_goals
    obtain ⟨r0, r1, r2, r3, r4, r5, r6⟩ := hO.read (.int .i64 f.e) (.int .i64 f.l) (.int .i64 f.i) (.int .i64 f.c) (.int .i64 f.base) (.slice A1 f.slots.length c1) (.slice A2 f.have_.length c2)
    have hO7 := hO.set7 (.int .i64 f.e) (.int .i64 f.l) (.int .i64 f.i) (.int .i64 f.c) (.int .i64 f.base) (.slice A1 f.slots.length c1) (.slice A2 f.have_.length c2)
    have hF1 := (((((((hR1.setCell (g := w.heap.size + 1) (Nat.lt_succ_self _) 0 (.int .i64 f.e)).setCell (g := w.heap.size + 1) (Nat.lt_succ_self _) 1 (.int .i64 f.l)).setCell (g := w.heap.size + 1) (Nat.lt_succ_self _) 2 (.int .i64 f.i)).setCell (g := w.heap.size + 1) (Nat.lt_succ_self _) 3 (.int .i64 f.c)).setCell (g := w.heap.size + 1) (Nat.lt_succ_self _) 4 (.int .i64 f.base)).setCell (g := w.heap.size + 1) (Nat.lt_succ_self _) 5 (.slice A1 f.slots.length c1)).setCell (g := w.heap.size + 1) (Nat.lt_succ_self _) 6 (.slice A2 f.have_.length c2))
    have hF2 := (((((((hR2.setCell (g := w.heap.size + 1) (Nat.lt_succ_self _) 0 (.int .i64 f.e)).setCell (g := w.heap.size + 1) (Nat.lt_succ_self _) 1 (.int .i64 f.l)).setCell (g := w.heap.size + 1) (Nat.lt_succ_self _) 2 (.int .i64 f.i)).setCell (g := w.heap.size + 1) (Nat.lt_succ_self _) 3 (.int .i64 f.c)).setCell (g := w.heap.size + 1) (Nat.lt_succ_self _) 4 (.int .i64 f.base)).setCell (g := w.heap.size + 1) (Nat.lt_succ_self _) 5 (.slice A1 f.slots.length c1)).setCell (g := w.heap.size + 1) (Nat.lt_succ_self _) 6 (.slice A2 f.have_.length c2))
    have hb9 := (box1_facts hO7.bel).1
    have hz9 := hO7.size
    clear hb1 hb2 hr1 hr2 hR1 hR2 hO h0 h0d
    go_wp2
    refine bodyPost_ret (v := .agg #[.int .i64 f.e, .int .i64 f.l, .int .i64 f.i, .int .i64 f.c, .int .i64 f.base, .slice A1 f.slots.length c1, .slice A2 f.have_.length c2]) (by simp [results, Try.results38, go_sem, r0, r1, r2, r3, r4, r5, r6]) rfl ?_
    exact ⟨⟨A1, c1, A2, c2, rfl, hF1.lower (by omega), hF2.lower (by omega)⟩, hb9⟩
end Go.Proofs.Ytcffhfcjfjfokaa
