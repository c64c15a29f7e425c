/- GrowM, joined. -/
import Derived.Test.YtcffhfcjfjfokaaSu6
set_option linter.unusedVariables false
set_option linter.unusedSimpArgs false
namespace Go.Proofs.Ytcffhfcjfjfokaa
open Go Go.RowKit
theorem Gr.below {α : Type} {W W' W'' : World} {base sz : Nat} {e : TypeId} {enc : α → List Value} {r : RowX α} {A : Option Addr} {c : Nat} {m : List α} (h : Gr W base e sz enc r A c m W') (hb : Below W'.heap.size W' W'') : Gr W base e sz enc r A c m W'' :=
  ⟨h.x.keep hb fun k hk => (h.x.lo k hk).2, h.y.keep hb fun k hk => (h.y.lo k hk).2, ⟨hb.os.trans h.g.os, hb.tape.trans h.g.tape, hb.output.trans h.g.output, Nat.le_trans h.g.size hb.size, fun k hk hn => (hb.block k (Nat.lt_of_lt_of_le hk h.g.size)).trans (h.g.block k hk hn)⟩, h.k, h.lt⟩
theorem info52z : (Try.prog.info? 52).map (fun i => (i.zero, i.size, i.bytes)) = some (some (.slice none 0 0), 1, 24) := by kernel_rfl
theorem bs51 (W : World) (A : Option Addr) (n c : Nat) : (Instr.buildSlice 51 1 #[(0, .slice A n c)]).run Try.prog W = .ok (.slice (some ⟨W.heap.size, 0, none⟩) 1 1) (W.alloc (.cells #[.slice A n c] 52)) := by kernel_rfl
theorem info37z : (Try.prog.info? 37).map (fun i => (i.zero, i.size, i.bytes)) = some (some (.slice none 0 0), 1, 24) := by kernel_rfl
theorem bs99 (W : World) (A : Option Addr) (n c : Nat) : (Instr.buildSlice 99 1 #[(0, .slice A n c)]).run Try.prog W = .ok (.slice (some ⟨W.heap.size, 0, none⟩) 1 1) (W.alloc (.cells #[.slice A n c] 37)) := by kernel_rfl
theorem info36z : (Try.prog.info? 36).map (fun i => (i.zero, i.size, i.bytes)) = some (some (.slice none 0 0), 1, 24) := by kernel_rfl
theorem bs100 (W : World) (A : Option Addr) (n c : Nat) : (Instr.buildSlice 100 1 #[(0, .slice A n c)]).run Try.prog W = .ok (.slice (some ⟨W.heap.size, 0, none⟩) 1 1) (W.alloc (.cells #[.slice A n c] 36)) := by kernel_rfl
theorem info22z : (Try.prog.info? 22).map (fun i => (i.zero, i.size, i.bytes)) = some (some (.slice none 0 0), 1, 24) := by kernel_rfl
theorem bs101 (W : World) (A : Option Addr) (n c : Nat) : (Instr.buildSlice 101 1 #[(0, .slice A n c)]).run Try.prog W = .ok (.slice (some ⟨W.heap.size, 0, none⟩) 1 1) (W.alloc (.cells #[.slice A n c] 22)) := by kernel_rfl
theorem info40z : (Try.prog.info? 40).map (fun i => (i.zero, i.size, i.bytes)) = some (some (.slice none 0 0), 1, 24) := by kernel_rfl
theorem bs102 (W : World) (A : Option Addr) (n c : Nat) : (Instr.buildSlice 102 1 #[(0, .slice A n c)]).run Try.prog W = .ok (.slice (some ⟨W.heap.size, 0, none⟩) 1 1) (W.alloc (.cells #[.slice A n c] 40)) := by kernel_rfl
theorem info44z : (Try.prog.info? 44).map (fun i => (i.zero, i.size, i.bytes)) = some (some (.slice none 0 0), 1, 24) := by kernel_rfl
theorem bs103 (W : World) (A : Option Addr) (n c : Nat) : (Instr.buildSlice 103 1 #[(0, .slice A n c)]).run Try.prog W = .ok (.slice (some ⟨W.heap.size, 0, none⟩) 1 1) (W.alloc (.cells #[.slice A n c] 44)) := by kernel_rfl
theorem bs52b (W : World) (n : Int) : (Instr.buildSlice 52 1 #[(0, .int .u8 n)]).run Try.prog W = .ok (.slice (some ⟨W.heap.size, 0, none⟩) 1 1) (W.alloc (.cells #[.int .u8 n] 5)) := by kernel_rfl
theorem bs37b (W : World) (n : Int) : (Instr.buildSlice 37 1 #[(0, .int .i64 n)]).run Try.prog W = .ok (.slice (some ⟨W.heap.size, 0, none⟩) 1 1) (W.alloc (.cells #[.int .i64 n] 3)) := by kernel_rfl
theorem bs36b (W : World) (n : Int) : (Instr.buildSlice 36 1 #[(0, .agg (eSlot (0, n)).toArray)]).run Try.prog W = .ok (.slice (some ⟨W.heap.size, 0, none⟩) 1 1) (W.alloc (.cells #[.int .i64 0, .int .i64 n] 66)) := by kernel_rfl
theorem bs22b (W : World) (n : Int) : (Instr.buildSlice 22 1 #[(0, .agg #[.int .i64 0, .int .i64 0, .int .i64 0, .int .i64 0, .int .i64 n, .slice none 0 0, .slice none 0 0])]).run Try.prog W = .ok (.slice (some ⟨W.heap.size, 0, none⟩) 1 1) (W.alloc (.cells #[.int .i64 0, .int .i64 0, .int .i64 0, .int .i64 0, .int .i64 n, .slice none 0 0, .slice none 0 0] 39)) := by kernel_rfl
theorem bs40b (W : World) (n : Int) : (Instr.buildSlice 40 1 #[(0, .agg #[.int .i64 0, .int .i64 n, .int .i64 0, .slice none 0 0])]).run Try.prog W = .ok (.slice (some ⟨W.heap.size, 0, none⟩) 1 1) (W.alloc (.cells #[.int .i64 0, .int .i64 n, .int .i64 0, .slice none 0 0] 113)) := by kernel_rfl
theorem bs44b (W : World) (n : Int) : (Instr.buildSlice 44 1 #[(0, .agg #[.int .i64 0, .int .i64 0, .int .i64 n, .slice none 0 0])]).run Try.prog W = .ok (.slice (some ⟨W.heap.size, 0, none⟩) 1 1) (W.alloc (.cells #[.int .i64 0, .int .i64 0, .int .i64 n, .slice none 0 0] 54)) := by kernel_rfl
theorem info54g : (Try.prog.info? 54).map (fun i => (i.zero, i.size, i.bytes)) = some (some (.agg #[.int .i64 0, .int .i64 0, .int .i64 0, .slice none 0 0]), 4, 48) := by kernel_rfl
set_option maxRecDepth 100000 in
set_option maxHeartbeats 4000000 in
theorem growM_any {w : World} {base hb : Nat} {x : BX} {o : List Value} {S : List Nat} (kSd : KxIn x.d S) (kSm : KxIn x.m S) (hbS : hb ∈ S) (h : Bo w base hb x o) (hol : o.length = 4) (qd : x.d.Q = []) (qm : x.m.Q = []) (bbd : ∀ r ∈ x.d.P, r.l.length ≤ 1048576) (bbm : ∀ r ∈ x.m.P, r.l.length ≤ 1048576) (ld : x.d.P.length ≤ 1000000000000) (lm : x.m.P.length ≤ 1000000000000) : Calls Try.prog 114 #[.pointer (some ⟨hb, 0, none⟩)] w fun e w' => e = .returned (.tuple #[]) ∧ Fx S w w' ∧ ∃ Md cMd Qd Mm cMm Qm, Qd.length = x.d.P.length ∧ Qm.length = x.m.P.length ∧ Bo w' base hb ⟨x.y, x.i, x.s, x.f, { x.d with M := Md, cM := cMd, Q := Qd }, { x.m with M := Mm, cM := cMm, Q := Qm }⟩ o := by
  refine calls_vc tab_ok Try.func114 rfl ?_
  have HW : Fx S w w := Fx.refl _ _
  have HB : Bo w base hb x o := h
  repeat ((conv => whnf); first | (refine VCmp.tt (by omega) ?_) | (refine VCmp.ff (by omega) ?_) | (refine VIn.mk (IntWalk.i64_in _ (by omega)) ?_) | (refine VIdx.mk _ rfl (by omega) ?_) | (refine VIdx.mk 0 rfl (by omega) ?_))
  try (conv => whnf)
  -- kind d
  refine VLoop.mk (Option Addr × Nat × List (Option Addr × Nat)) (fun u => [(0, .pointer (some ⟨hb, 0, none⟩)), (2, .int .i64 u.2.2.length)]) (fun u W => u.2.2.length ≤ x.d.P.length ∧ Bo W base hb ((fun M cM Q => (⟨x.y, x.i, x.s, x.f, { x.d with M := M, cM := cM, Q := Q }, x.m⟩ : BX)) u.1 u.2.1 u.2.2) o ∧ Fx S w W ∧ ∀ q, blk u.1 = some q → q ∈ S ∨ w.heap.size ≤ q) (fun u => x.d.P.length - u.2.2.length) (x.d.M, x.d.cM, x.d.Q) ⟨rfl, by show some (Value.int .i64 0) = _; rw [qd]; rfl, trivial⟩ ⟨by rw [qd]; exact Nat.zero_le _, HB, HW, fun q hq => .inl (kSd.2.2 q hq)⟩ ?_
  clear HB HW
  rintro ⟨Md, cMd, Qd⟩ wrd ⟨hi, B, bw, hM⟩
  dsimp only at hi B hM ⊢
  have L1 : Ld Try.prog 102 hb 8 (Eq wrd) (.slice x.d.L x.d.P.length x.d.cL) := .of (load_cell (by kernel_rfl) (B.r 8 _ rfl))
  by_cases hil : Qd.length < x.d.P.length
  case pos =>
    have hri : x.d.P[Qd.length]? = some (x.d.P[Qd.length]'hil) := List.getElem?_eq_getElem hil
    have hrm : x.d.P[Qd.length]'hil ∈ x.d.P := List.getElem_mem _
    generalize x.d.P[Qd.length]'hil = r at hri hrm
    obtain ⟨gL, hgL, hcL⟩ := B.d.row hri
    dsimp only at hgL
    rw [hgL] at L1
    have L2 : Ld Try.prog 40 gL (0 + Qd.length) (Eq wrd) (.slice r.A r.l.length r.c) := .of (load_cell (by kernel_rfl) (by rw [Nat.zero_add]; exact hcL))
    have hrl := bbd r hrm
    repeat ((conv => whnf); first | (refine VLoad.mk _ L1 ?_) | (refine VLoad.mk _ L2 ?_) | (refine VCmp.tt (by omega) ?_) | (refine VCmp.ff (by omega) ?_) | (refine VIn.mk (IntWalk.i64_in _ (by omega)) ?_) | (refine VIdx.mk _ rfl (by omega) ?_) | (refine VIdx.mk 0 rfl (by omega) ?_))
    try (conv => whnf)
    refine VLoop.mk (Nat × Option Addr × Nat) (fun u => [(0, .pointer (some ⟨hb, 0, none⟩)), (2, .int .i64 Qd.length), (3, .slice u.2.1 (r.l.length + u.1) u.2.2), (4, .int .i64 u.1)]) (fun u W => u.1 ≤ 64 ∧ Gr wrd base 113 4 eDr r u.2.1 u.2.2 (List.replicate u.1 (daM Qd.length)) W) (fun u => 64 - u.1) (0, r.A, r.c) ⟨rfl, rfl, rfl, rfl, trivial⟩ ⟨Nat.zero_le _, Gr.start (B.d.k.o r hrm)⟩ ?_
    rintro ⟨j, A, c⟩ wj ⟨hj, G⟩
    dsimp only at hj G ⊢
    by_cases hjl : j < 64
    case pos =>
      repeat ((conv => whnf); first | (refine VCmp.tt (by omega) ?_) | (refine VCmp.ff (by omega) ?_) | (refine VIn.mk (IntWalk.i64_in _ (by omega)) ?_) | (refine VIdx.mk _ rfl (by omega) ?_) | (refine VIdx.mk 0 rfl (by omega) ?_))
      try (conv => whnf)
      refine VBuild.mk _ (fun W => bldD W (-1000 - (Qd.length : Int))) ?_
      repeat ((conv => whnf); first | (refine VCmp.tt (by omega) ?_) | (refine VCmp.ff (by omega) ?_) | (refine VIn.mk (IntWalk.i64_in _ (by omega)) ?_) | (refine VIdx.mk _ rfl (by omega) ?_) | (refine VIdx.mk 0 rfl (by omega) ?_))
      try (conv => whnf)
      refine VBs.mk _ _ (bs40b wj (-1000 - (Qd.length : Int))) ?_
      have c1 : Below wj.heap.size wj (wj.alloc (.cells #[.int .i64 0, .int .i64 (-1000 - (Qd.length : Int)), .int .i64 0, .slice none 0 0] 113)) := (Below.refl _ _).alloc (Nat.le_refl _) _
      have hnc : ∀ t u, (eDr (daM Qd.length))[t]? = some u → (wj.alloc (.cells #[.int .i64 0, .int .i64 (-1000 - (Qd.length : Int)), .int .i64 0, .slice none 0 0] 113)).cell? ⟨wj.heap.size, t, none⟩ = some u := fun t u hu => by
        have := range_new wj #[.int .i64 0, .int .i64 (-1000 - (Qd.length : Int)), .int .i64 0, .slice none 0 0] 113 t u hu
        rwa [Nat.zero_add] at this
      generalize wj.alloc (.cells #[.int .i64 0, .int .i64 (-1000 - (Qd.length : Int)), .int .i64 0, .slice none 0 0] 113) = w1 at c1 hnc ⊢
      have G1 := G.below c1
      have zb := B.z
      have zg := G1.g.size
      repeat ((conv => whnf); first | (refine VCmp.tt (by omega) ?_) | (refine VCmp.ff (by omega) ?_) | (refine VIn.mk (IntWalk.i64_in _ (by omega)) ?_) | (refine VIdx.mk _ rfl (by omega) ?_) | (refine VIdx.mk 0 rfl (by omega) ?_))
      try (conv => whnf)
      refine VApp.keep base 4 48 _ Try.underlying40 info113 rfl (by decide) eDr len_eDr one_eDr (r.l ++ List.replicate j (daM Qd.length)) (daM Qd.length) (by simp) G1.y hnc (by omega) (by omega) (by omega) fun A2 c2 w2 hoA hoB hg2 hk2 => ?_
      have G2 := G1.next len_eDr (by decide) hoA hoB hg2 hk2
      repeat ((conv => whnf); first | (refine VCmp.tt (by omega) ?_) | (refine VCmp.ff (by omega) ?_) | (refine VIn.mk (IntWalk.i64_in _ (by omega)) ?_) | (refine VIdx.mk _ rfl (by omega) ?_) | (refine VIdx.mk 0 rfl (by omega) ?_))
      try (conv => whnf)
      refine .mk (j + 1, A2, c2) ⟨rfl, rfl, rfl, rfl, trivial⟩ ⟨hjl, ?_⟩ (by show 64 - (j + 1) < 64 - j; omega)
      dsimp only
      rw [List.replicate_succ']
      exact G2
    case neg =>
      have hj64 : j = 64 := by omega
      subst hj64
      have hrow := B.d.k.o r hrm
      have hz := B.hz
      have zb := B.z
      have zg := G.g.size
      have hsame : wj.heap[hb]? = wrd.heap[hb]? := G.g.block hb (by omega) (fun e => by have := (hrow.lo hb e.symm).1; omega)
      have rj := range_same B.r hsame
      have tj := there_same B.t hsame
      have L3 : Ld Try.prog 102 hb 9 (Eq wj) (.slice Md Qd.length cMd) := .of (load_cell (by kernel_rfl) (rj 9 _ rfl))
      repeat ((conv => whnf); first | (refine VLoad.mk _ L3 ?_) | (refine VCmp.tt (by omega) ?_) | (refine VCmp.ff (by omega) ?_) | (refine VIn.mk (IntWalk.i64_in _ (by omega)) ?_) | (refine VIdx.mk _ rfl (by omega) ?_) | (refine VIdx.mk 0 rfl (by omega) ?_))
      try (conv => whnf)
      refine VBs.mk _ _ (bs102 wj A (r.l.length + 64) c) ?_
      have c1 : Below wj.heap.size wj (wj.alloc (.cells #[.slice A (r.l.length + 64) c] 40)) := (Below.refl _ _).alloc (Nat.le_refl _) _
      have hr1 := row_new wj 40 1 eTr (A, r.l.length + 64, c) #[.slice A (r.l.length + 64) c] rfl
      generalize wj.alloc (.cells #[.slice A (r.l.length + 64) c] 40) = w1 at c1 hr1 ⊢
      have z1 := c1.size
      have hm := B.d.m
      dsimp only at hm
      have hlm : (moreT x.d.P Qd).length = Qd.length := moreT_len hi
      have m1 := (hm.kept G.g (hm.ne hrow (by decide))).keep c1 fun k hk => ((hm.kept G.g (hm.ne hrow (by decide))).lo k hk).2
      repeat ((conv => whnf); first | (refine VCmp.tt (by omega) ?_) | (refine VCmp.ff (by omega) ?_) | (refine VIn.mk (IntWalk.i64_in _ (by omega)) ?_) | (refine VIdx.mk _ rfl (by omega) ?_) | (refine VIdx.mk 0 rfl (by omega) ?_))
      try (conv => whnf)
      refine VApp.rows base 1 24 _ Try.underlying102 info40z rfl (by decide) eTr len_eTr one_eTr (moreT x.d.P Qd) [(A, r.l.length + 64, c)] hlm rfl m1 hr1 (by omega) (by omega) (by omega) fun M2 cM2 w2 ho2 hg2 hk2 => ?_
      have hs2 : w2.heap[hb]? = wj.heap[hb]? := (hg2.block hb (by omega) (fun e => by have := (m1.lo hb e.symm).1; omega)).trans (c1.block hb (by omega))
      have t2 := there_same tj hs2
      repeat ((conv => whnf); first | (refine VCmp.tt (by omega) ?_) | (refine VCmp.ff (by omega) ?_) | (refine VIn.mk (IntWalk.i64_in _ (by omega)) ?_) | (refine VIdx.mk _ rfl (by omega) ?_) | (refine VIdx.mk 0 rfl (by omega) ?_))
      try (conv => whnf)
      refine VStore.cell (by kernel_rfl) (t2 9 (by omega)).1 (t2 9 (by omega)).2 rfl rfl fun w3 hw3 => ?_
      have B3 := B.more_d hol hri G c1 ho2 hg2 hk2
      have b3 : Fx S w w3 := by
        rw [hw3.out]
        exact (((bw.trans (.grown (S := S) G.g fun q hq => kSd.1 r hrm q hq) fun k hk => .inl hk).trans (.below (S := S) c1) fun k hk => .inl hk).trans (.grown (S := (blk Md).toList) hg2 fun k hk => by rw [hk]; simp) fun k hk => hM k (by simpa using hk)).trans (.grown (S := S) (grown_cell _ _ _ _) fun k hk => by injection hk with hk; subst hk; exact hbS) fun k hk => .inl hk
      have hM2 : ∀ q, blk M2 = some q → q ∈ S ∨ w.heap.size ≤ q := fun q hq => hk2.elim (fun e => hM q (by rw [← e]; exact hq)) fun e => .inr (by rw [e] at hq; injection hq with hq; have := bw.size; omega)
      repeat ((conv => whnf); first | (refine VCmp.tt (by omega) ?_) | (refine VCmp.ff (by omega) ?_) | (refine VIn.mk (IntWalk.i64_in _ (by omega)) ?_) | (refine VIdx.mk _ rfl (by omega) ?_) | (refine VIdx.mk 0 rfl (by omega) ?_))
      try (conv => whnf)
      refine .mk (M2, cM2, Qd ++ [(A, c)]) ⟨rfl, by show some _ = some (Value.int .i64 ((Qd ++ [(A, c)]).length : Nat)); rw [List.length_append]; rfl, trivial⟩ ⟨by show (Qd ++ [(A, c)]).length ≤ _; rw [List.length_append]; exact hil, by rw [hw3.out]; exact B3, b3, hM2⟩ (by show _ - (Qd ++ [(A, c)]).length < _ - Qd.length; rw [List.length_append]; show _ - (Qd.length + 1) < _; omega)
  repeat ((conv => whnf); first | (refine VLoad.mk _ L1 ?_) | (refine VCmp.tt (by omega) ?_) | (refine VCmp.ff (by omega) ?_) | (refine VIn.mk (IntWalk.i64_in _ (by omega)) ?_) | (refine VIdx.mk _ rfl (by omega) ?_) | (refine VIdx.mk 0 rfl (by omega) ?_))
  try (conv => whnf)
  have HW : Fx S w wrd := bw
  have HB := B
  have hQd : Qd.length = x.d.P.length := by omega
  clear L1 B bw hil hi
  -- kind m
  refine VLoop.mk (Option Addr × Nat × List (Option Addr × Nat)) (fun u => [(0, .pointer (some ⟨hb, 0, none⟩)), (5, .int .i64 u.2.2.length)]) (fun u W => u.2.2.length ≤ x.m.P.length ∧ Bo W base hb ((fun M cM Q => (⟨x.y, x.i, x.s, x.f, { x.d with M := Md, cM := cMd, Q := Qd }, { x.m with M := M, cM := cM, Q := Q }⟩ : BX)) u.1 u.2.1 u.2.2) o ∧ Fx S w W ∧ ∀ q, blk u.1 = some q → q ∈ S ∨ w.heap.size ≤ q) (fun u => x.m.P.length - u.2.2.length) (x.m.M, x.m.cM, x.m.Q) ⟨rfl, by show some (Value.int .i64 0) = _; rw [qm]; rfl, trivial⟩ ⟨by rw [qm]; exact Nat.zero_le _, HB, HW, fun q hq => .inl (kSm.2.2 q hq)⟩ ?_
  clear HB HW
  rintro ⟨Mm, cMm, Qm⟩ wrm ⟨hi, B, bw, hM⟩
  dsimp only at hi B hM ⊢
  have L1 : Ld Try.prog 103 hb 10 (Eq wrm) (.slice x.m.L x.m.P.length x.m.cL) := .of (load_cell (by kernel_rfl) (B.r 10 _ rfl))
  by_cases hil : Qm.length < x.m.P.length
  case pos =>
    have hri : x.m.P[Qm.length]? = some (x.m.P[Qm.length]'hil) := List.getElem?_eq_getElem hil
    have hrm : x.m.P[Qm.length]'hil ∈ x.m.P := List.getElem_mem _
    generalize x.m.P[Qm.length]'hil = r at hri hrm
    obtain ⟨gL, hgL, hcL⟩ := B.m.row hri
    dsimp only at hgL
    rw [hgL] at L1
    have L2 : Ld Try.prog 44 gL (0 + Qm.length) (Eq wrm) (.slice r.A r.l.length r.c) := .of (load_cell (by kernel_rfl) (by rw [Nat.zero_add]; exact hcL))
    have hrl := bbm r hrm
    repeat ((conv => whnf); first | (refine VLoad.mk _ L1 ?_) | (refine VLoad.mk _ L2 ?_) | (refine VCmp.tt (by omega) ?_) | (refine VCmp.ff (by omega) ?_) | (refine VIn.mk (IntWalk.i64_in _ (by omega)) ?_) | (refine VIdx.mk _ rfl (by omega) ?_) | (refine VIdx.mk 0 rfl (by omega) ?_))
    try (conv => whnf)
    refine VLoop.mk (Nat × Option Addr × Nat) (fun u => [(0, .pointer (some ⟨hb, 0, none⟩)), (5, .int .i64 Qm.length), (6, .slice u.2.1 (r.l.length + u.1) u.2.2), (7, .int .i64 u.1)]) (fun u W => u.1 ≤ 64 ∧ Gr wrm base 54 4 eDr r u.2.1 u.2.2 (List.replicate u.1 (msM Qm.length)) W) (fun u => 64 - u.1) (0, r.A, r.c) ⟨rfl, rfl, rfl, rfl, trivial⟩ ⟨Nat.zero_le _, Gr.start (B.m.k.o r hrm)⟩ ?_
    rintro ⟨j, A, c⟩ wj ⟨hj, G⟩
    dsimp only at hj G ⊢
    by_cases hjl : j < 64
    case pos =>
      repeat ((conv => whnf); first | (refine VCmp.tt (by omega) ?_) | (refine VCmp.ff (by omega) ?_) | (refine VIn.mk (IntWalk.i64_in _ (by omega)) ?_) | (refine VIdx.mk _ rfl (by omega) ?_) | (refine VIdx.mk 0 rfl (by omega) ?_))
      try (conv => whnf)
      refine VBuild.mk _ (fun W => bldM W (-1000 - (Qm.length : Int))) ?_
      repeat ((conv => whnf); first | (refine VCmp.tt (by omega) ?_) | (refine VCmp.ff (by omega) ?_) | (refine VIn.mk (IntWalk.i64_in _ (by omega)) ?_) | (refine VIdx.mk _ rfl (by omega) ?_) | (refine VIdx.mk 0 rfl (by omega) ?_))
      try (conv => whnf)
      refine VBs.mk _ _ (bs44b wj (-1000 - (Qm.length : Int))) ?_
      have c1 : Below wj.heap.size wj (wj.alloc (.cells #[.int .i64 0, .int .i64 0, .int .i64 (-1000 - (Qm.length : Int)), .slice none 0 0] 54)) := (Below.refl _ _).alloc (Nat.le_refl _) _
      have hnc : ∀ t u, (eDr (msM Qm.length))[t]? = some u → (wj.alloc (.cells #[.int .i64 0, .int .i64 0, .int .i64 (-1000 - (Qm.length : Int)), .slice none 0 0] 54)).cell? ⟨wj.heap.size, t, none⟩ = some u := fun t u hu => by
        have := range_new wj #[.int .i64 0, .int .i64 0, .int .i64 (-1000 - (Qm.length : Int)), .slice none 0 0] 54 t u hu
        rwa [Nat.zero_add] at this
      generalize wj.alloc (.cells #[.int .i64 0, .int .i64 0, .int .i64 (-1000 - (Qm.length : Int)), .slice none 0 0] 54) = w1 at c1 hnc ⊢
      have G1 := G.below c1
      have zb := B.z
      have zg := G1.g.size
      repeat ((conv => whnf); first | (refine VCmp.tt (by omega) ?_) | (refine VCmp.ff (by omega) ?_) | (refine VIn.mk (IntWalk.i64_in _ (by omega)) ?_) | (refine VIdx.mk _ rfl (by omega) ?_) | (refine VIdx.mk 0 rfl (by omega) ?_))
      try (conv => whnf)
      refine VApp.keep base 4 48 _ Try.underlying44 info54g rfl (by decide) eDr len_eDr one_eDr (r.l ++ List.replicate j (msM Qm.length)) (msM Qm.length) (by simp) G1.y hnc (by omega) (by omega) (by omega) fun A2 c2 w2 hoA hoB hg2 hk2 => ?_
      have G2 := G1.next len_eDr (by decide) hoA hoB hg2 hk2
      repeat ((conv => whnf); first | (refine VCmp.tt (by omega) ?_) | (refine VCmp.ff (by omega) ?_) | (refine VIn.mk (IntWalk.i64_in _ (by omega)) ?_) | (refine VIdx.mk _ rfl (by omega) ?_) | (refine VIdx.mk 0 rfl (by omega) ?_))
      try (conv => whnf)
      refine .mk (j + 1, A2, c2) ⟨rfl, rfl, rfl, rfl, trivial⟩ ⟨hjl, ?_⟩ (by show 64 - (j + 1) < 64 - j; omega)
      dsimp only
      rw [List.replicate_succ']
      exact G2
    case neg =>
      have hj64 : j = 64 := by omega
      subst hj64
      have hrow := B.m.k.o r hrm
      have hz := B.hz
      have zb := B.z
      have zg := G.g.size
      have hsame : wj.heap[hb]? = wrm.heap[hb]? := G.g.block hb (by omega) (fun e => by have := (hrow.lo hb e.symm).1; omega)
      have rj := range_same B.r hsame
      have tj := there_same B.t hsame
      have L3 : Ld Try.prog 103 hb 11 (Eq wj) (.slice Mm Qm.length cMm) := .of (load_cell (by kernel_rfl) (rj 11 _ rfl))
      repeat ((conv => whnf); first | (refine VLoad.mk _ L3 ?_) | (refine VCmp.tt (by omega) ?_) | (refine VCmp.ff (by omega) ?_) | (refine VIn.mk (IntWalk.i64_in _ (by omega)) ?_) | (refine VIdx.mk _ rfl (by omega) ?_) | (refine VIdx.mk 0 rfl (by omega) ?_))
      try (conv => whnf)
      refine VBs.mk _ _ (bs103 wj A (r.l.length + 64) c) ?_
      have c1 : Below wj.heap.size wj (wj.alloc (.cells #[.slice A (r.l.length + 64) c] 44)) := (Below.refl _ _).alloc (Nat.le_refl _) _
      have hr1 := row_new wj 44 1 eTr (A, r.l.length + 64, c) #[.slice A (r.l.length + 64) c] rfl
      generalize wj.alloc (.cells #[.slice A (r.l.length + 64) c] 44) = w1 at c1 hr1 ⊢
      have z1 := c1.size
      have hm := B.m.m
      dsimp only at hm
      have hlm : (moreT x.m.P Qm).length = Qm.length := moreT_len hi
      have m1 := (hm.kept G.g (hm.ne hrow (by decide))).keep c1 fun k hk => ((hm.kept G.g (hm.ne hrow (by decide))).lo k hk).2
      repeat ((conv => whnf); first | (refine VCmp.tt (by omega) ?_) | (refine VCmp.ff (by omega) ?_) | (refine VIn.mk (IntWalk.i64_in _ (by omega)) ?_) | (refine VIdx.mk _ rfl (by omega) ?_) | (refine VIdx.mk 0 rfl (by omega) ?_))
      try (conv => whnf)
      refine VApp.rows base 1 24 _ Try.underlying103 info44z rfl (by decide) eTr len_eTr one_eTr (moreT x.m.P Qm) [(A, r.l.length + 64, c)] hlm rfl m1 hr1 (by omega) (by omega) (by omega) fun M2 cM2 w2 ho2 hg2 hk2 => ?_
      have hs2 : w2.heap[hb]? = wj.heap[hb]? := (hg2.block hb (by omega) (fun e => by have := (m1.lo hb e.symm).1; omega)).trans (c1.block hb (by omega))
      have t2 := there_same tj hs2
      repeat ((conv => whnf); first | (refine VCmp.tt (by omega) ?_) | (refine VCmp.ff (by omega) ?_) | (refine VIn.mk (IntWalk.i64_in _ (by omega)) ?_) | (refine VIdx.mk _ rfl (by omega) ?_) | (refine VIdx.mk 0 rfl (by omega) ?_))
      try (conv => whnf)
      refine VStore.cell (by kernel_rfl) (t2 11 (by omega)).1 (t2 11 (by omega)).2 rfl rfl fun w3 hw3 => ?_
      have B3 := B.more_m hol hri G c1 ho2 hg2 hk2
      have b3 : Fx S w w3 := by
        rw [hw3.out]
        exact (((bw.trans (.grown (S := S) G.g fun q hq => kSm.1 r hrm q hq) fun k hk => .inl hk).trans (.below (S := S) c1) fun k hk => .inl hk).trans (.grown (S := (blk Mm).toList) hg2 fun k hk => by rw [hk]; simp) fun k hk => hM k (by simpa using hk)).trans (.grown (S := S) (grown_cell _ _ _ _) fun k hk => by injection hk with hk; subst hk; exact hbS) fun k hk => .inl hk
      have hM2 : ∀ q, blk M2 = some q → q ∈ S ∨ w.heap.size ≤ q := fun q hq => hk2.elim (fun e => hM q (by rw [← e]; exact hq)) fun e => .inr (by rw [e] at hq; injection hq with hq; have := bw.size; omega)
      repeat ((conv => whnf); first | (refine VCmp.tt (by omega) ?_) | (refine VCmp.ff (by omega) ?_) | (refine VIn.mk (IntWalk.i64_in _ (by omega)) ?_) | (refine VIdx.mk _ rfl (by omega) ?_) | (refine VIdx.mk 0 rfl (by omega) ?_))
      try (conv => whnf)
      refine .mk (M2, cM2, Qm ++ [(A, c)]) ⟨rfl, by show some _ = some (Value.int .i64 ((Qm ++ [(A, c)]).length : Nat)); rw [List.length_append]; rfl, trivial⟩ ⟨by show (Qm ++ [(A, c)]).length ≤ _; rw [List.length_append]; exact hil, by rw [hw3.out]; exact B3, b3, hM2⟩ (by show _ - (Qm ++ [(A, c)]).length < _ - Qm.length; rw [List.length_append]; show _ - (Qm.length + 1) < _; omega)
  repeat ((conv => whnf); first | (refine VLoad.mk _ L1 ?_) | (refine VCmp.tt (by omega) ?_) | (refine VCmp.ff (by omega) ?_) | (refine VIn.mk (IntWalk.i64_in _ (by omega)) ?_) | (refine VIdx.mk _ rfl (by omega) ?_) | (refine VIdx.mk 0 rfl (by omega) ?_))
  try (conv => whnf)
  have HW : Fx S w wrm := bw
  have HB := B
  have hQm : Qm.length = x.m.P.length := by omega
  clear L1 B bw hil hi
  exact .mk ⟨rfl, HW, Md, cMd, Qd, Mm, cMm, Qm, hQd, hQm, HB⟩
end Go.Proofs.Ytcffhfcjfjfokaa
