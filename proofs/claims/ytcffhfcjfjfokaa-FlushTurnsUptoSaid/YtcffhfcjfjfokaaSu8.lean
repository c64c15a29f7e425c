/- Grow Plain, joined. -/
import Derived.Test.YtcffhfcjfjfokaaSu7
set_option linter.unusedVariables false
set_option linter.unusedSimpArgs false
namespace Go.Proofs.Ytcffhfcjfjfokaa
open Go Go.RowKit
set_option maxRecDepth 100000 in
set_option maxHeartbeats 4000000 in
theorem grow_any {w : World} {base hb : Nat} {x : BX} {o : List Value} {S : List Nat} (kSy : KxIn x.y S) (kSi : KxIn x.i S) (kSs : KxIn x.s S) (kSf : KxIn x.f S) (kSd : KxIn x.d S) (kSm : KxIn x.m S) (hbS : hb ∈ S) (h : Bo w base hb x o) (hol : o.length = 4) (qy : x.y.Q = []) (qi : x.i.Q = []) (qs : x.s.Q = []) (qf : x.f.Q = []) (qd : x.d.Q = []) (qm : x.m.Q = []) (bby : ∀ r ∈ x.y.P, r.l.length ≤ 1048576) (bbi : ∀ r ∈ x.i.P, r.l.length ≤ 1048576) (bbs : ∀ r ∈ x.s.P, r.l.length ≤ 1048576) (bbf : ∀ r ∈ x.f.P, r.l.length ≤ 1048576) (bbd : ∀ r ∈ x.d.P, r.l.length ≤ 1048576) (bbm : ∀ r ∈ x.m.P, r.l.length ≤ 1048576) (ly : x.y.P.length ≤ 1000000000000) (li : x.i.P.length ≤ 1000000000000) (ls : x.s.P.length ≤ 1000000000000) (lf : x.f.P.length ≤ 1000000000000) (ld : x.d.P.length ≤ 1000000000000) (lm : x.m.P.length ≤ 1000000000000) : Calls Try.prog 92 #[.pointer (some ⟨hb, 0, none⟩)] w fun e w' => e = .returned (.tuple #[]) ∧ Fx S w w' ∧ ∃ My cMy Qy Mi cMi Qi Ms cMs Qs Mf cMf Qf Md cMd Qd Mm cMm Qm, Qy.length = x.y.P.length ∧ Qi.length = x.i.P.length ∧ Qs.length = x.s.P.length ∧ Qf.length = x.f.P.length ∧ Qd.length = x.d.P.length ∧ Qm.length = x.m.P.length ∧ Bo w' base hb ⟨{ x.y with M := My, cM := cMy, Q := Qy }, { x.i with M := Mi, cM := cMi, Q := Qi }, { x.s with M := Ms, cM := cMs, Q := Qs }, { x.f with M := Mf, cM := cMf, Q := Qf }, { x.d with M := Md, cM := cMd, Q := Qd }, { x.m with M := Mm, cM := cMm, Q := Qm }⟩ o := by
  refine calls_vc tab_ok Try.func92 rfl ?_
  have HW : Fx S w w := Fx.refl _ _
  have HB : Bo w base hb x o := h
  repeat ((conv => whnf); first | (refine VCmp.tt (by omega) ?_) | (refine VCmp.ff (by omega) ?_) | (refine VIn.mk (IntWalk.i64_in _ (by omega)) ?_) | (refine VIdx.mk _ rfl (by omega) ?_) | (refine VIdx.mk 0 rfl (by omega) ?_))
  try (conv => whnf)
  -- kind y
  refine VLoop.mk (Option Addr × Nat × List (Option Addr × Nat)) (fun u => [(0, .pointer (some ⟨hb, 0, none⟩)), (2, .int .i64 u.2.2.length)]) (fun u W => u.2.2.length ≤ x.y.P.length ∧ Bo W base hb ((fun M cM Q => (⟨{ x.y with M := M, cM := cM, Q := Q }, x.i, x.s, x.f, x.d, x.m⟩ : BX)) u.1 u.2.1 u.2.2) o ∧ Fx S w W ∧ ∀ q, blk u.1 = some q → q ∈ S ∨ w.heap.size ≤ q) (fun u => x.y.P.length - u.2.2.length) (x.y.M, x.y.cM, x.y.Q) ⟨rfl, by show some (Value.int .i64 0) = _; rw [qy]; rfl, trivial⟩ ⟨by rw [qy]; exact Nat.zero_le _, HB, HW, fun q hq => .inl (kSy.2.2 q hq)⟩ ?_
  clear HB HW
  rintro ⟨My, cMy, Qy⟩ wry ⟨hi, B, bw, hM⟩
  dsimp only at hi B hM ⊢
  have L1 : Ld Try.prog 51 hb 0 (Eq wry) (.slice x.y.L x.y.P.length x.y.cL) := .of (load_cell (by kernel_rfl) (B.r 0 _ rfl))
  by_cases hil : Qy.length < x.y.P.length
  case pos =>
    have hri : x.y.P[Qy.length]? = some (x.y.P[Qy.length]'hil) := List.getElem?_eq_getElem hil
    have hrm : x.y.P[Qy.length]'hil ∈ x.y.P := List.getElem_mem _
    generalize x.y.P[Qy.length]'hil = r at hri hrm
    obtain ⟨gL, hgL, hcL⟩ := B.y.row hri
    dsimp only at hgL
    rw [hgL] at L1
    have L2 : Ld Try.prog 52 gL (0 + Qy.length) (Eq wry) (.slice r.A r.l.length r.c) := .of (load_cell (by kernel_rfl) (by rw [Nat.zero_add]; exact hcL))
    have hrl := bby r hrm
    repeat ((conv => whnf); first | (refine VLoad.mk _ L1 ?_) | (refine VLoad.mk _ L2 ?_) | (refine VCmp.tt (by omega) ?_) | (refine VCmp.ff (by omega) ?_) | (refine VIn.mk (IntWalk.i64_in _ (by omega)) ?_) | (refine VIdx.mk _ rfl (by omega) ?_) | (refine VIdx.mk 0 rfl (by omega) ?_))
    try (conv => whnf)
    refine VLoop.mk (Nat × Option Addr × Nat) (fun u => [(0, .pointer (some ⟨hb, 0, none⟩)), (2, .int .i64 Qy.length), (3, .slice u.2.1 (r.l.length + u.1) u.2.2), (4, .int .i64 u.1)]) (fun u W => u.1 ≤ 64 ∧ Gr wry base 5 1 eByte r u.2.1 u.2.2 (List.replicate u.1 (byM Qy.length)) W) (fun u => 64 - u.1) (0, r.A, r.c) ⟨rfl, rfl, rfl, rfl, trivial⟩ ⟨Nat.zero_le _, Gr.start (B.y.k.o r hrm)⟩ ?_
    rintro ⟨j, A, c⟩ wj ⟨hj, G⟩
    dsimp only at hj G ⊢
    by_cases hjl : j < 64
    case pos =>
      repeat ((conv => whnf); first | (refine VCmp.tt (by omega) ?_) | (refine VCmp.ff (by omega) ?_) | (refine VIn.mk (IntWalk.i64_in _ (by omega)) ?_) | (refine VIdx.mk _ rfl (by omega) ?_) | (refine VIdx.mk 0 rfl (by omega) ?_))
      try (conv => whnf)
      refine VCall.mk _ (byteOf_any Qy.length wj) ?_
      rintro _ wk ⟨rfl, hwk⟩
      refine ⟨_, rfl, ?_⟩
      rw [← hwk]
      repeat ((conv => whnf); first | (refine VCmp.tt (by omega) ?_) | (refine VCmp.ff (by omega) ?_) | (refine VIn.mk (IntWalk.i64_in _ (by omega)) ?_) | (refine VIdx.mk _ rfl (by omega) ?_) | (refine VIdx.mk 0 rfl (by omega) ?_))
      try (conv => whnf)
      refine VBs.mk _ _ (bs52b wj (byM Qy.length)) ?_
      have c1 : Below wj.heap.size wj (wj.alloc (.cells #[.int .u8 (byM Qy.length)] 5)) := (Below.refl _ _).alloc (Nat.le_refl _) _
      have hnc : ∀ t u, (eByte (byM Qy.length))[t]? = some u → (wj.alloc (.cells #[.int .u8 (byM Qy.length)] 5)).cell? ⟨wj.heap.size, t, none⟩ = some u := fun t u hu => by
        have := range_new wj #[.int .u8 (byM Qy.length)] 5 t u hu
        rwa [Nat.zero_add] at this
      generalize wj.alloc (.cells #[.int .u8 (byM Qy.length)] 5) = w1 at c1 hnc ⊢
      have G1 := G.below c1
      have zb := B.z
      have zg := G1.g.size
      repeat ((conv => whnf); first | (refine VCmp.tt (by omega) ?_) | (refine VCmp.ff (by omega) ?_) | (refine VIn.mk (IntWalk.i64_in _ (by omega)) ?_) | (refine VIdx.mk _ rfl (by omega) ?_) | (refine VIdx.mk 0 rfl (by omega) ?_))
      try (conv => whnf)
      refine VApp.keep base 1 1 _ Try.underlying52 info5 rfl (by decide) eByte len_eByte one_eByte (r.l ++ List.replicate j (byM Qy.length)) (byM Qy.length) (by simp) G1.y hnc (by omega) (by omega) (by omega) fun A2 c2 w2 hoA hoB hg2 hk2 => ?_
      have G2 := G1.next len_eByte (by decide) hoA hoB hg2 hk2
      repeat ((conv => whnf); first | (refine VCmp.tt (by omega) ?_) | (refine VCmp.ff (by omega) ?_) | (refine VIn.mk (IntWalk.i64_in _ (by omega)) ?_) | (refine VIdx.mk _ rfl (by omega) ?_) | (refine VIdx.mk 0 rfl (by omega) ?_))
      try (conv => whnf)
      refine .mk (j + 1, A2, c2) ⟨rfl, rfl, rfl, rfl, trivial⟩ ⟨hjl, ?_⟩ (by show 64 - (j + 1) < 64 - j; omega)
      dsimp only
      rw [List.replicate_succ']
      exact G2
    case neg =>
      have hj64 : j = 64 := by omega
      subst hj64
      have hrow := B.y.k.o r hrm
      have hz := B.hz
      have zb := B.z
      have zg := G.g.size
      have hsame : wj.heap[hb]? = wry.heap[hb]? := G.g.block hb (by omega) (fun e => by have := (hrow.lo hb e.symm).1; omega)
      have rj := range_same B.r hsame
      have tj := there_same B.t hsame
      have L3 : Ld Try.prog 51 hb 1 (Eq wj) (.slice My Qy.length cMy) := .of (load_cell (by kernel_rfl) (rj 1 _ rfl))
      repeat ((conv => whnf); first | (refine VLoad.mk _ L3 ?_) | (refine VCmp.tt (by omega) ?_) | (refine VCmp.ff (by omega) ?_) | (refine VIn.mk (IntWalk.i64_in _ (by omega)) ?_) | (refine VIdx.mk _ rfl (by omega) ?_) | (refine VIdx.mk 0 rfl (by omega) ?_))
      try (conv => whnf)
      refine VBs.mk _ _ (bs51 wj A (r.l.length + 64) c) ?_
      have c1 : Below wj.heap.size wj (wj.alloc (.cells #[.slice A (r.l.length + 64) c] 52)) := (Below.refl _ _).alloc (Nat.le_refl _) _
      have hr1 := row_new wj 52 1 eTr (A, r.l.length + 64, c) #[.slice A (r.l.length + 64) c] rfl
      generalize wj.alloc (.cells #[.slice A (r.l.length + 64) c] 52) = w1 at c1 hr1 ⊢
      have z1 := c1.size
      have hm := B.y.m
      dsimp only at hm
      have hlm : (moreT x.y.P Qy).length = Qy.length := moreT_len hi
      have m1 := (hm.kept G.g (hm.ne hrow (by decide))).keep c1 fun k hk => ((hm.kept G.g (hm.ne hrow (by decide))).lo k hk).2
      repeat ((conv => whnf); first | (refine VCmp.tt (by omega) ?_) | (refine VCmp.ff (by omega) ?_) | (refine VIn.mk (IntWalk.i64_in _ (by omega)) ?_) | (refine VIdx.mk _ rfl (by omega) ?_) | (refine VIdx.mk 0 rfl (by omega) ?_))
      try (conv => whnf)
      refine VApp.rows base 1 24 _ Try.underlying51 info52z rfl (by decide) eTr len_eTr one_eTr (moreT x.y.P Qy) [(A, r.l.length + 64, c)] hlm rfl m1 hr1 (by omega) (by omega) (by omega) fun M2 cM2 w2 ho2 hg2 hk2 => ?_
      have hs2 : w2.heap[hb]? = wj.heap[hb]? := (hg2.block hb (by omega) (fun e => by have := (m1.lo hb e.symm).1; omega)).trans (c1.block hb (by omega))
      have t2 := there_same tj hs2
      repeat ((conv => whnf); first | (refine VCmp.tt (by omega) ?_) | (refine VCmp.ff (by omega) ?_) | (refine VIn.mk (IntWalk.i64_in _ (by omega)) ?_) | (refine VIdx.mk _ rfl (by omega) ?_) | (refine VIdx.mk 0 rfl (by omega) ?_))
      try (conv => whnf)
      refine VStore.cell (by kernel_rfl) (t2 1 (by omega)).1 (t2 1 (by omega)).2 rfl rfl fun w3 hw3 => ?_
      have B3 := B.more_y hol hri G c1 ho2 hg2 hk2
      have b3 : Fx S w w3 := by
        rw [hw3.out]
        exact (((bw.trans (.grown (S := S) G.g fun q hq => kSy.1 r hrm q hq) fun k hk => .inl hk).trans (.below (S := S) c1) fun k hk => .inl hk).trans (.grown (S := (blk My).toList) hg2 fun k hk => by rw [hk]; simp) fun k hk => hM k (by simpa using hk)).trans (.grown (S := S) (grown_cell _ _ _ _) fun k hk => by injection hk with hk; subst hk; exact hbS) fun k hk => .inl hk
      have hM2 : ∀ q, blk M2 = some q → q ∈ S ∨ w.heap.size ≤ q := fun q hq => hk2.elim (fun e => hM q (by rw [← e]; exact hq)) fun e => .inr (by rw [e] at hq; injection hq with hq; have := bw.size; omega)
      repeat ((conv => whnf); first | (refine VCmp.tt (by omega) ?_) | (refine VCmp.ff (by omega) ?_) | (refine VIn.mk (IntWalk.i64_in _ (by omega)) ?_) | (refine VIdx.mk _ rfl (by omega) ?_) | (refine VIdx.mk 0 rfl (by omega) ?_))
      try (conv => whnf)
      refine .mk (M2, cM2, Qy ++ [(A, c)]) ⟨rfl, by show some _ = some (Value.int .i64 ((Qy ++ [(A, c)]).length : Nat)); rw [List.length_append]; rfl, trivial⟩ ⟨by show (Qy ++ [(A, c)]).length ≤ _; rw [List.length_append]; exact hil, by rw [hw3.out]; exact B3, b3, hM2⟩ (by show _ - (Qy ++ [(A, c)]).length < _ - Qy.length; rw [List.length_append]; show _ - (Qy.length + 1) < _; omega)
  repeat ((conv => whnf); first | (refine VLoad.mk _ L1 ?_) | (refine VCmp.tt (by omega) ?_) | (refine VCmp.ff (by omega) ?_) | (refine VIn.mk (IntWalk.i64_in _ (by omega)) ?_) | (refine VIdx.mk _ rfl (by omega) ?_) | (refine VIdx.mk 0 rfl (by omega) ?_))
  try (conv => whnf)
  have HW : Fx S w wry := bw
  have HB := B
  have hQy : Qy.length = x.y.P.length := by omega
  clear L1 B bw hil hi
  -- kind i
  refine VLoop.mk (Option Addr × Nat × List (Option Addr × Nat)) (fun u => [(0, .pointer (some ⟨hb, 0, none⟩)), (5, .int .i64 u.2.2.length)]) (fun u W => u.2.2.length ≤ x.i.P.length ∧ Bo W base hb ((fun M cM Q => (⟨{ x.y with M := My, cM := cMy, Q := Qy }, { x.i with M := M, cM := cM, Q := Q }, x.s, x.f, x.d, x.m⟩ : BX)) u.1 u.2.1 u.2.2) o ∧ Fx S w W ∧ ∀ q, blk u.1 = some q → q ∈ S ∨ w.heap.size ≤ q) (fun u => x.i.P.length - u.2.2.length) (x.i.M, x.i.cM, x.i.Q) ⟨rfl, by show some (Value.int .i64 0) = _; rw [qi]; rfl, trivial⟩ ⟨by rw [qi]; exact Nat.zero_le _, HB, HW, fun q hq => .inl (kSi.2.2 q hq)⟩ ?_
  clear HB HW
  rintro ⟨Mi, cMi, Qi⟩ wri ⟨hi, B, bw, hM⟩
  dsimp only at hi B hM ⊢
  have L1 : Ld Try.prog 99 hb 2 (Eq wri) (.slice x.i.L x.i.P.length x.i.cL) := .of (load_cell (by kernel_rfl) (B.r 2 _ rfl))
  by_cases hil : Qi.length < x.i.P.length
  case pos =>
    have hri : x.i.P[Qi.length]? = some (x.i.P[Qi.length]'hil) := List.getElem?_eq_getElem hil
    have hrm : x.i.P[Qi.length]'hil ∈ x.i.P := List.getElem_mem _
    generalize x.i.P[Qi.length]'hil = r at hri hrm
    obtain ⟨gL, hgL, hcL⟩ := B.i.row hri
    dsimp only at hgL
    rw [hgL] at L1
    have L2 : Ld Try.prog 37 gL (0 + Qi.length) (Eq wri) (.slice r.A r.l.length r.c) := .of (load_cell (by kernel_rfl) (by rw [Nat.zero_add]; exact hcL))
    have hrl := bbi r hrm
    repeat ((conv => whnf); first | (refine VLoad.mk _ L1 ?_) | (refine VLoad.mk _ L2 ?_) | (refine VCmp.tt (by omega) ?_) | (refine VCmp.ff (by omega) ?_) | (refine VIn.mk (IntWalk.i64_in _ (by omega)) ?_) | (refine VIdx.mk _ rfl (by omega) ?_) | (refine VIdx.mk 0 rfl (by omega) ?_))
    try (conv => whnf)
    refine VLoop.mk (Nat × Option Addr × Nat) (fun u => [(0, .pointer (some ⟨hb, 0, none⟩)), (5, .int .i64 Qi.length), (6, .slice u.2.1 (r.l.length + u.1) u.2.2), (7, .int .i64 u.1)]) (fun u W => u.1 ≤ 64 ∧ Gr wri base 3 1 eInt r u.2.1 u.2.2 (List.replicate u.1 (inM Qi.length)) W) (fun u => 64 - u.1) (0, r.A, r.c) ⟨rfl, rfl, rfl, rfl, trivial⟩ ⟨Nat.zero_le _, Gr.start (B.i.k.o r hrm)⟩ ?_
    rintro ⟨j, A, c⟩ wj ⟨hj, G⟩
    dsimp only at hj G ⊢
    by_cases hjl : j < 64
    case pos =>
      repeat ((conv => whnf); first | (refine VCmp.tt (by omega) ?_) | (refine VCmp.ff (by omega) ?_) | (refine VIn.mk (IntWalk.i64_in _ (by omega)) ?_) | (refine VIdx.mk _ rfl (by omega) ?_) | (refine VIdx.mk 0 rfl (by omega) ?_))
      try (conv => whnf)
      refine VBs.mk _ _ (bs37b wj (-1000 - (Qi.length : Int))) ?_
      have c1 : Below wj.heap.size wj (wj.alloc (.cells #[.int .i64 (-1000 - (Qi.length : Int))] 3)) := (Below.refl _ _).alloc (Nat.le_refl _) _
      have hnc : ∀ t u, (eInt (inM Qi.length))[t]? = some u → (wj.alloc (.cells #[.int .i64 (-1000 - (Qi.length : Int))] 3)).cell? ⟨wj.heap.size, t, none⟩ = some u := fun t u hu => by
        have := range_new wj #[.int .i64 (-1000 - (Qi.length : Int))] 3 t u hu
        rwa [Nat.zero_add] at this
      generalize wj.alloc (.cells #[.int .i64 (-1000 - (Qi.length : Int))] 3) = w1 at c1 hnc ⊢
      have G1 := G.below c1
      have zb := B.z
      have zg := G1.g.size
      repeat ((conv => whnf); first | (refine VCmp.tt (by omega) ?_) | (refine VCmp.ff (by omega) ?_) | (refine VIn.mk (IntWalk.i64_in _ (by omega)) ?_) | (refine VIdx.mk _ rfl (by omega) ?_) | (refine VIdx.mk 0 rfl (by omega) ?_))
      try (conv => whnf)
      refine VApp.keep base 1 8 _ Try.underlying37 info3 rfl (by decide) eInt len_eInt one_eInt (r.l ++ List.replicate j (inM Qi.length)) (inM Qi.length) (by simp) G1.y hnc (by omega) (by omega) (by omega) fun A2 c2 w2 hoA hoB hg2 hk2 => ?_
      have G2 := G1.next len_eInt (by decide) hoA hoB hg2 hk2
      repeat ((conv => whnf); first | (refine VCmp.tt (by omega) ?_) | (refine VCmp.ff (by omega) ?_) | (refine VIn.mk (IntWalk.i64_in _ (by omega)) ?_) | (refine VIdx.mk _ rfl (by omega) ?_) | (refine VIdx.mk 0 rfl (by omega) ?_))
      try (conv => whnf)
      refine .mk (j + 1, A2, c2) ⟨rfl, rfl, rfl, rfl, trivial⟩ ⟨hjl, ?_⟩ (by show 64 - (j + 1) < 64 - j; omega)
      dsimp only
      rw [List.replicate_succ']
      exact G2
    case neg =>
      have hj64 : j = 64 := by omega
      subst hj64
      have hrow := B.i.k.o r hrm
      have hz := B.hz
      have zb := B.z
      have zg := G.g.size
      have hsame : wj.heap[hb]? = wri.heap[hb]? := G.g.block hb (by omega) (fun e => by have := (hrow.lo hb e.symm).1; omega)
      have rj := range_same B.r hsame
      have tj := there_same B.t hsame
      have L3 : Ld Try.prog 99 hb 3 (Eq wj) (.slice Mi Qi.length cMi) := .of (load_cell (by kernel_rfl) (rj 3 _ rfl))
      repeat ((conv => whnf); first | (refine VLoad.mk _ L3 ?_) | (refine VCmp.tt (by omega) ?_) | (refine VCmp.ff (by omega) ?_) | (refine VIn.mk (IntWalk.i64_in _ (by omega)) ?_) | (refine VIdx.mk _ rfl (by omega) ?_) | (refine VIdx.mk 0 rfl (by omega) ?_))
      try (conv => whnf)
      refine VBs.mk _ _ (bs99 wj A (r.l.length + 64) c) ?_
      have c1 : Below wj.heap.size wj (wj.alloc (.cells #[.slice A (r.l.length + 64) c] 37)) := (Below.refl _ _).alloc (Nat.le_refl _) _
      have hr1 := row_new wj 37 1 eTr (A, r.l.length + 64, c) #[.slice A (r.l.length + 64) c] rfl
      generalize wj.alloc (.cells #[.slice A (r.l.length + 64) c] 37) = w1 at c1 hr1 ⊢
      have z1 := c1.size
      have hm := B.i.m
      dsimp only at hm
      have hlm : (moreT x.i.P Qi).length = Qi.length := moreT_len hi
      have m1 := (hm.kept G.g (hm.ne hrow (by decide))).keep c1 fun k hk => ((hm.kept G.g (hm.ne hrow (by decide))).lo k hk).2
      repeat ((conv => whnf); first | (refine VCmp.tt (by omega) ?_) | (refine VCmp.ff (by omega) ?_) | (refine VIn.mk (IntWalk.i64_in _ (by omega)) ?_) | (refine VIdx.mk _ rfl (by omega) ?_) | (refine VIdx.mk 0 rfl (by omega) ?_))
      try (conv => whnf)
      refine VApp.rows base 1 24 _ Try.underlying99 info37z rfl (by decide) eTr len_eTr one_eTr (moreT x.i.P Qi) [(A, r.l.length + 64, c)] hlm rfl m1 hr1 (by omega) (by omega) (by omega) fun M2 cM2 w2 ho2 hg2 hk2 => ?_
      have hs2 : w2.heap[hb]? = wj.heap[hb]? := (hg2.block hb (by omega) (fun e => by have := (m1.lo hb e.symm).1; omega)).trans (c1.block hb (by omega))
      have t2 := there_same tj hs2
      repeat ((conv => whnf); first | (refine VCmp.tt (by omega) ?_) | (refine VCmp.ff (by omega) ?_) | (refine VIn.mk (IntWalk.i64_in _ (by omega)) ?_) | (refine VIdx.mk _ rfl (by omega) ?_) | (refine VIdx.mk 0 rfl (by omega) ?_))
      try (conv => whnf)
      refine VStore.cell (by kernel_rfl) (t2 3 (by omega)).1 (t2 3 (by omega)).2 rfl rfl fun w3 hw3 => ?_
      have B3 := B.more_i hol hri G c1 ho2 hg2 hk2
      have b3 : Fx S w w3 := by
        rw [hw3.out]
        exact (((bw.trans (.grown (S := S) G.g fun q hq => kSi.1 r hrm q hq) fun k hk => .inl hk).trans (.below (S := S) c1) fun k hk => .inl hk).trans (.grown (S := (blk Mi).toList) hg2 fun k hk => by rw [hk]; simp) fun k hk => hM k (by simpa using hk)).trans (.grown (S := S) (grown_cell _ _ _ _) fun k hk => by injection hk with hk; subst hk; exact hbS) fun k hk => .inl hk
      have hM2 : ∀ q, blk M2 = some q → q ∈ S ∨ w.heap.size ≤ q := fun q hq => hk2.elim (fun e => hM q (by rw [← e]; exact hq)) fun e => .inr (by rw [e] at hq; injection hq with hq; have := bw.size; omega)
      repeat ((conv => whnf); first | (refine VCmp.tt (by omega) ?_) | (refine VCmp.ff (by omega) ?_) | (refine VIn.mk (IntWalk.i64_in _ (by omega)) ?_) | (refine VIdx.mk _ rfl (by omega) ?_) | (refine VIdx.mk 0 rfl (by omega) ?_))
      try (conv => whnf)
      refine .mk (M2, cM2, Qi ++ [(A, c)]) ⟨rfl, by show some _ = some (Value.int .i64 ((Qi ++ [(A, c)]).length : Nat)); rw [List.length_append]; rfl, trivial⟩ ⟨by show (Qi ++ [(A, c)]).length ≤ _; rw [List.length_append]; exact hil, by rw [hw3.out]; exact B3, b3, hM2⟩ (by show _ - (Qi ++ [(A, c)]).length < _ - Qi.length; rw [List.length_append]; show _ - (Qi.length + 1) < _; omega)
  repeat ((conv => whnf); first | (refine VLoad.mk _ L1 ?_) | (refine VCmp.tt (by omega) ?_) | (refine VCmp.ff (by omega) ?_) | (refine VIn.mk (IntWalk.i64_in _ (by omega)) ?_) | (refine VIdx.mk _ rfl (by omega) ?_) | (refine VIdx.mk 0 rfl (by omega) ?_))
  try (conv => whnf)
  have HW : Fx S w wri := bw
  have HB := B
  have hQi : Qi.length = x.i.P.length := by omega
  clear L1 B bw hil hi
  -- kind s
  refine VLoop.mk (Option Addr × Nat × List (Option Addr × Nat)) (fun u => [(0, .pointer (some ⟨hb, 0, none⟩)), (8, .int .i64 u.2.2.length)]) (fun u W => u.2.2.length ≤ x.s.P.length ∧ Bo W base hb ((fun M cM Q => (⟨{ x.y with M := My, cM := cMy, Q := Qy }, { x.i with M := Mi, cM := cMi, Q := Qi }, { x.s with M := M, cM := cM, Q := Q }, x.f, x.d, x.m⟩ : BX)) u.1 u.2.1 u.2.2) o ∧ Fx S w W ∧ ∀ q, blk u.1 = some q → q ∈ S ∨ w.heap.size ≤ q) (fun u => x.s.P.length - u.2.2.length) (x.s.M, x.s.cM, x.s.Q) ⟨rfl, by show some (Value.int .i64 0) = _; rw [qs]; rfl, trivial⟩ ⟨by rw [qs]; exact Nat.zero_le _, HB, HW, fun q hq => .inl (kSs.2.2 q hq)⟩ ?_
  clear HB HW
  rintro ⟨Ms, cMs, Qs⟩ wrs ⟨hi, B, bw, hM⟩
  dsimp only at hi B hM ⊢
  have L1 : Ld Try.prog 100 hb 4 (Eq wrs) (.slice x.s.L x.s.P.length x.s.cL) := .of (load_cell (by kernel_rfl) (B.r 4 _ rfl))
  by_cases hil : Qs.length < x.s.P.length
  case pos =>
    have hri : x.s.P[Qs.length]? = some (x.s.P[Qs.length]'hil) := List.getElem?_eq_getElem hil
    have hrm : x.s.P[Qs.length]'hil ∈ x.s.P := List.getElem_mem _
    generalize x.s.P[Qs.length]'hil = r at hri hrm
    obtain ⟨gL, hgL, hcL⟩ := B.s.row hri
    dsimp only at hgL
    rw [hgL] at L1
    have L2 : Ld Try.prog 36 gL (0 + Qs.length) (Eq wrs) (.slice r.A r.l.length r.c) := .of (load_cell (by kernel_rfl) (by rw [Nat.zero_add]; exact hcL))
    have hrl := bbs r hrm
    repeat ((conv => whnf); first | (refine VLoad.mk _ L1 ?_) | (refine VLoad.mk _ L2 ?_) | (refine VCmp.tt (by omega) ?_) | (refine VCmp.ff (by omega) ?_) | (refine VIn.mk (IntWalk.i64_in _ (by omega)) ?_) | (refine VIdx.mk _ rfl (by omega) ?_) | (refine VIdx.mk 0 rfl (by omega) ?_))
    try (conv => whnf)
    refine VLoop.mk (Nat × Option Addr × Nat) (fun u => [(0, .pointer (some ⟨hb, 0, none⟩)), (8, .int .i64 Qs.length), (9, .slice u.2.1 (r.l.length + u.1) u.2.2), (10, .int .i64 u.1)]) (fun u W => u.1 ≤ 64 ∧ Gr wrs base 66 2 eSlot r u.2.1 u.2.2 (List.replicate u.1 (slM Qs.length)) W) (fun u => 64 - u.1) (0, r.A, r.c) ⟨rfl, rfl, rfl, rfl, trivial⟩ ⟨Nat.zero_le _, Gr.start (B.s.k.o r hrm)⟩ ?_
    rintro ⟨j, A, c⟩ wj ⟨hj, G⟩
    dsimp only at hj G ⊢
    by_cases hjl : j < 64
    case pos =>
      repeat ((conv => whnf); first | (refine VCmp.tt (by omega) ?_) | (refine VCmp.ff (by omega) ?_) | (refine VIn.mk (IntWalk.i64_in _ (by omega)) ?_) | (refine VIdx.mk _ rfl (by omega) ?_) | (refine VIdx.mk 0 rfl (by omega) ?_))
      try (conv => whnf)
      refine VBuild.mk _ (fun W => bldS W (-1000 - (Qs.length : Int))) ?_
      repeat ((conv => whnf); first | (refine VCmp.tt (by omega) ?_) | (refine VCmp.ff (by omega) ?_) | (refine VIn.mk (IntWalk.i64_in _ (by omega)) ?_) | (refine VIdx.mk _ rfl (by omega) ?_) | (refine VIdx.mk 0 rfl (by omega) ?_))
      try (conv => whnf)
      refine VBs.mk _ _ (bs36b wj (-1000 - (Qs.length : Int))) ?_
      have c1 : Below wj.heap.size wj (wj.alloc (.cells #[.int .i64 0, .int .i64 (-1000 - (Qs.length : Int))] 66)) := (Below.refl _ _).alloc (Nat.le_refl _) _
      have hnc : ∀ t u, (eSlot (slM Qs.length))[t]? = some u → (wj.alloc (.cells #[.int .i64 0, .int .i64 (-1000 - (Qs.length : Int))] 66)).cell? ⟨wj.heap.size, t, none⟩ = some u := fun t u hu => by
        have := range_new wj #[.int .i64 0, .int .i64 (-1000 - (Qs.length : Int))] 66 t u hu
        rwa [Nat.zero_add] at this
      generalize wj.alloc (.cells #[.int .i64 0, .int .i64 (-1000 - (Qs.length : Int))] 66) = w1 at c1 hnc ⊢
      have G1 := G.below c1
      have zb := B.z
      have zg := G1.g.size
      repeat ((conv => whnf); first | (refine VCmp.tt (by omega) ?_) | (refine VCmp.ff (by omega) ?_) | (refine VIn.mk (IntWalk.i64_in _ (by omega)) ?_) | (refine VIdx.mk _ rfl (by omega) ?_) | (refine VIdx.mk 0 rfl (by omega) ?_))
      try (conv => whnf)
      refine VApp.keep base 2 16 _ Try.underlying36 info66 rfl (by decide) eSlot len_eSlot one_eSlot (r.l ++ List.replicate j (slM Qs.length)) (slM Qs.length) (by simp) G1.y hnc (by omega) (by omega) (by omega) fun A2 c2 w2 hoA hoB hg2 hk2 => ?_
      have G2 := G1.next len_eSlot (by decide) hoA hoB hg2 hk2
      repeat ((conv => whnf); first | (refine VCmp.tt (by omega) ?_) | (refine VCmp.ff (by omega) ?_) | (refine VIn.mk (IntWalk.i64_in _ (by omega)) ?_) | (refine VIdx.mk _ rfl (by omega) ?_) | (refine VIdx.mk 0 rfl (by omega) ?_))
      try (conv => whnf)
      refine .mk (j + 1, A2, c2) ⟨rfl, rfl, rfl, rfl, trivial⟩ ⟨hjl, ?_⟩ (by show 64 - (j + 1) < 64 - j; omega)
      dsimp only
      rw [List.replicate_succ']
      exact G2
    case neg =>
      have hj64 : j = 64 := by omega
      subst hj64
      have hrow := B.s.k.o r hrm
      have hz := B.hz
      have zb := B.z
      have zg := G.g.size
      have hsame : wj.heap[hb]? = wrs.heap[hb]? := G.g.block hb (by omega) (fun e => by have := (hrow.lo hb e.symm).1; omega)
      have rj := range_same B.r hsame
      have tj := there_same B.t hsame
      have L3 : Ld Try.prog 100 hb 5 (Eq wj) (.slice Ms Qs.length cMs) := .of (load_cell (by kernel_rfl) (rj 5 _ rfl))
      repeat ((conv => whnf); first | (refine VLoad.mk _ L3 ?_) | (refine VCmp.tt (by omega) ?_) | (refine VCmp.ff (by omega) ?_) | (refine VIn.mk (IntWalk.i64_in _ (by omega)) ?_) | (refine VIdx.mk _ rfl (by omega) ?_) | (refine VIdx.mk 0 rfl (by omega) ?_))
      try (conv => whnf)
      refine VBs.mk _ _ (bs100 wj A (r.l.length + 64) c) ?_
      have c1 : Below wj.heap.size wj (wj.alloc (.cells #[.slice A (r.l.length + 64) c] 36)) := (Below.refl _ _).alloc (Nat.le_refl _) _
      have hr1 := row_new wj 36 1 eTr (A, r.l.length + 64, c) #[.slice A (r.l.length + 64) c] rfl
      generalize wj.alloc (.cells #[.slice A (r.l.length + 64) c] 36) = w1 at c1 hr1 ⊢
      have z1 := c1.size
      have hm := B.s.m
      dsimp only at hm
      have hlm : (moreT x.s.P Qs).length = Qs.length := moreT_len hi
      have m1 := (hm.kept G.g (hm.ne hrow (by decide))).keep c1 fun k hk => ((hm.kept G.g (hm.ne hrow (by decide))).lo k hk).2
      repeat ((conv => whnf); first | (refine VCmp.tt (by omega) ?_) | (refine VCmp.ff (by omega) ?_) | (refine VIn.mk (IntWalk.i64_in _ (by omega)) ?_) | (refine VIdx.mk _ rfl (by omega) ?_) | (refine VIdx.mk 0 rfl (by omega) ?_))
      try (conv => whnf)
      refine VApp.rows base 1 24 _ Try.underlying100 info36z rfl (by decide) eTr len_eTr one_eTr (moreT x.s.P Qs) [(A, r.l.length + 64, c)] hlm rfl m1 hr1 (by omega) (by omega) (by omega) fun M2 cM2 w2 ho2 hg2 hk2 => ?_
      have hs2 : w2.heap[hb]? = wj.heap[hb]? := (hg2.block hb (by omega) (fun e => by have := (m1.lo hb e.symm).1; omega)).trans (c1.block hb (by omega))
      have t2 := there_same tj hs2
      repeat ((conv => whnf); first | (refine VCmp.tt (by omega) ?_) | (refine VCmp.ff (by omega) ?_) | (refine VIn.mk (IntWalk.i64_in _ (by omega)) ?_) | (refine VIdx.mk _ rfl (by omega) ?_) | (refine VIdx.mk 0 rfl (by omega) ?_))
      try (conv => whnf)
      refine VStore.cell (by kernel_rfl) (t2 5 (by omega)).1 (t2 5 (by omega)).2 rfl rfl fun w3 hw3 => ?_
      have B3 := B.more_s hol hri G c1 ho2 hg2 hk2
      have b3 : Fx S w w3 := by
        rw [hw3.out]
        exact (((bw.trans (.grown (S := S) G.g fun q hq => kSs.1 r hrm q hq) fun k hk => .inl hk).trans (.below (S := S) c1) fun k hk => .inl hk).trans (.grown (S := (blk Ms).toList) hg2 fun k hk => by rw [hk]; simp) fun k hk => hM k (by simpa using hk)).trans (.grown (S := S) (grown_cell _ _ _ _) fun k hk => by injection hk with hk; subst hk; exact hbS) fun k hk => .inl hk
      have hM2 : ∀ q, blk M2 = some q → q ∈ S ∨ w.heap.size ≤ q := fun q hq => hk2.elim (fun e => hM q (by rw [← e]; exact hq)) fun e => .inr (by rw [e] at hq; injection hq with hq; have := bw.size; omega)
      repeat ((conv => whnf); first | (refine VCmp.tt (by omega) ?_) | (refine VCmp.ff (by omega) ?_) | (refine VIn.mk (IntWalk.i64_in _ (by omega)) ?_) | (refine VIdx.mk _ rfl (by omega) ?_) | (refine VIdx.mk 0 rfl (by omega) ?_))
      try (conv => whnf)
      refine .mk (M2, cM2, Qs ++ [(A, c)]) ⟨rfl, by show some _ = some (Value.int .i64 ((Qs ++ [(A, c)]).length : Nat)); rw [List.length_append]; rfl, trivial⟩ ⟨by show (Qs ++ [(A, c)]).length ≤ _; rw [List.length_append]; exact hil, by rw [hw3.out]; exact B3, b3, hM2⟩ (by show _ - (Qs ++ [(A, c)]).length < _ - Qs.length; rw [List.length_append]; show _ - (Qs.length + 1) < _; omega)
  repeat ((conv => whnf); first | (refine VLoad.mk _ L1 ?_) | (refine VCmp.tt (by omega) ?_) | (refine VCmp.ff (by omega) ?_) | (refine VIn.mk (IntWalk.i64_in _ (by omega)) ?_) | (refine VIdx.mk _ rfl (by omega) ?_) | (refine VIdx.mk 0 rfl (by omega) ?_))
  try (conv => whnf)
  have HW : Fx S w wrs := bw
  have HB := B
  have hQs : Qs.length = x.s.P.length := by omega
  clear L1 B bw hil hi
  -- kind f
  refine VLoop.mk (Option Addr × Nat × List (Option Addr × Nat)) (fun u => [(0, .pointer (some ⟨hb, 0, none⟩)), (11, .int .i64 u.2.2.length)]) (fun u W => u.2.2.length ≤ x.f.P.length ∧ Bo W base hb ((fun M cM Q => (⟨{ x.y with M := My, cM := cMy, Q := Qy }, { x.i with M := Mi, cM := cMi, Q := Qi }, { x.s with M := Ms, cM := cMs, Q := Qs }, { x.f with M := M, cM := cM, Q := Q }, x.d, x.m⟩ : BX)) u.1 u.2.1 u.2.2) o ∧ Fx S w W ∧ ∀ q, blk u.1 = some q → q ∈ S ∨ w.heap.size ≤ q) (fun u => x.f.P.length - u.2.2.length) (x.f.M, x.f.cM, x.f.Q) ⟨rfl, by show some (Value.int .i64 0) = _; rw [qf]; rfl, trivial⟩ ⟨by rw [qf]; exact Nat.zero_le _, HB, HW, fun q hq => .inl (kSf.2.2 q hq)⟩ ?_
  clear HB HW
  rintro ⟨Mf, cMf, Qf⟩ wrf ⟨hi, B, bw, hM⟩
  dsimp only at hi B hM ⊢
  have L1 : Ld Try.prog 101 hb 6 (Eq wrf) (.slice x.f.L x.f.P.length x.f.cL) := .of (load_cell (by kernel_rfl) (B.r 6 _ rfl))
  by_cases hil : Qf.length < x.f.P.length
  case pos =>
    have hri : x.f.P[Qf.length]? = some (x.f.P[Qf.length]'hil) := List.getElem?_eq_getElem hil
    have hrm : x.f.P[Qf.length]'hil ∈ x.f.P := List.getElem_mem _
    generalize x.f.P[Qf.length]'hil = r at hri hrm
    obtain ⟨gL, hgL, hcL⟩ := B.f.row hri
    dsimp only at hgL
    rw [hgL] at L1
    have L2 : Ld Try.prog 22 gL (0 + Qf.length) (Eq wrf) (.slice r.A r.l.length r.c) := .of (load_cell (by kernel_rfl) (by rw [Nat.zero_add]; exact hcL))
    have hrl := bbf r hrm
    repeat ((conv => whnf); first | (refine VLoad.mk _ L1 ?_) | (refine VLoad.mk _ L2 ?_) | (refine VCmp.tt (by omega) ?_) | (refine VCmp.ff (by omega) ?_) | (refine VIn.mk (IntWalk.i64_in _ (by omega)) ?_) | (refine VIdx.mk _ rfl (by omega) ?_) | (refine VIdx.mk 0 rfl (by omega) ?_))
    try (conv => whnf)
    refine VLoop.mk (Nat × Option Addr × Nat) (fun u => [(0, .pointer (some ⟨hb, 0, none⟩)), (11, .int .i64 Qf.length), (12, .slice u.2.1 (r.l.length + u.1) u.2.2), (13, .int .i64 u.1)]) (fun u W => u.1 ≤ 64 ∧ Gr wrf base 39 7 eRw r u.2.1 u.2.2 (List.replicate u.1 (flM Qf.length)) W) (fun u => 64 - u.1) (0, r.A, r.c) ⟨rfl, rfl, rfl, rfl, trivial⟩ ⟨Nat.zero_le _, Gr.start (B.f.k.o r hrm)⟩ ?_
    rintro ⟨j, A, c⟩ wj ⟨hj, G⟩
    dsimp only at hj G ⊢
    by_cases hjl : j < 64
    case pos =>
      repeat ((conv => whnf); first | (refine VCmp.tt (by omega) ?_) | (refine VCmp.ff (by omega) ?_) | (refine VIn.mk (IntWalk.i64_in _ (by omega)) ?_) | (refine VIdx.mk _ rfl (by omega) ?_) | (refine VIdx.mk 0 rfl (by omega) ?_))
      try (conv => whnf)
      refine VBuild.mk _ (fun W => bldF W (-1000 - (Qf.length : Int))) ?_
      repeat ((conv => whnf); first | (refine VCmp.tt (by omega) ?_) | (refine VCmp.ff (by omega) ?_) | (refine VIn.mk (IntWalk.i64_in _ (by omega)) ?_) | (refine VIdx.mk _ rfl (by omega) ?_) | (refine VIdx.mk 0 rfl (by omega) ?_))
      try (conv => whnf)
      refine VBs.mk _ _ (bs22b wj (-1000 - (Qf.length : Int))) ?_
      have c1 : Below wj.heap.size wj (wj.alloc (.cells #[.int .i64 0, .int .i64 0, .int .i64 0, .int .i64 0, .int .i64 (-1000 - (Qf.length : Int)), .slice none 0 0, .slice none 0 0] 39)) := (Below.refl _ _).alloc (Nat.le_refl _) _
      have hnc : ∀ t u, (eRw (flM Qf.length))[t]? = some u → (wj.alloc (.cells #[.int .i64 0, .int .i64 0, .int .i64 0, .int .i64 0, .int .i64 (-1000 - (Qf.length : Int)), .slice none 0 0, .slice none 0 0] 39)).cell? ⟨wj.heap.size, t, none⟩ = some u := fun t u hu => by
        have := range_new wj #[.int .i64 0, .int .i64 0, .int .i64 0, .int .i64 0, .int .i64 (-1000 - (Qf.length : Int)), .slice none 0 0, .slice none 0 0] 39 t u hu
        rwa [Nat.zero_add] at this
      generalize wj.alloc (.cells #[.int .i64 0, .int .i64 0, .int .i64 0, .int .i64 0, .int .i64 (-1000 - (Qf.length : Int)), .slice none 0 0, .slice none 0 0] 39) = w1 at c1 hnc ⊢
      have G1 := G.below c1
      have zb := B.z
      have zg := G1.g.size
      repeat ((conv => whnf); first | (refine VCmp.tt (by omega) ?_) | (refine VCmp.ff (by omega) ?_) | (refine VIn.mk (IntWalk.i64_in _ (by omega)) ?_) | (refine VIdx.mk _ rfl (by omega) ?_) | (refine VIdx.mk 0 rfl (by omega) ?_))
      try (conv => whnf)
      refine VApp.keep base 7 88 _ Try.underlying22 info39 rfl (by decide) eRw len_eRw one_eRw (r.l ++ List.replicate j (flM Qf.length)) (flM Qf.length) (by simp) G1.y hnc (by omega) (by omega) (by omega) fun A2 c2 w2 hoA hoB hg2 hk2 => ?_
      have G2 := G1.next len_eRw (by decide) hoA hoB hg2 hk2
      repeat ((conv => whnf); first | (refine VCmp.tt (by omega) ?_) | (refine VCmp.ff (by omega) ?_) | (refine VIn.mk (IntWalk.i64_in _ (by omega)) ?_) | (refine VIdx.mk _ rfl (by omega) ?_) | (refine VIdx.mk 0 rfl (by omega) ?_))
      try (conv => whnf)
      refine .mk (j + 1, A2, c2) ⟨rfl, rfl, rfl, rfl, trivial⟩ ⟨hjl, ?_⟩ (by show 64 - (j + 1) < 64 - j; omega)
      dsimp only
      rw [List.replicate_succ']
      exact G2
    case neg =>
      have hj64 : j = 64 := by omega
      subst hj64
      have hrow := B.f.k.o r hrm
      have hz := B.hz
      have zb := B.z
      have zg := G.g.size
      have hsame : wj.heap[hb]? = wrf.heap[hb]? := G.g.block hb (by omega) (fun e => by have := (hrow.lo hb e.symm).1; omega)
      have rj := range_same B.r hsame
      have tj := there_same B.t hsame
      have L3 : Ld Try.prog 101 hb 7 (Eq wj) (.slice Mf Qf.length cMf) := .of (load_cell (by kernel_rfl) (rj 7 _ rfl))
      repeat ((conv => whnf); first | (refine VLoad.mk _ L3 ?_) | (refine VCmp.tt (by omega) ?_) | (refine VCmp.ff (by omega) ?_) | (refine VIn.mk (IntWalk.i64_in _ (by omega)) ?_) | (refine VIdx.mk _ rfl (by omega) ?_) | (refine VIdx.mk 0 rfl (by omega) ?_))
      try (conv => whnf)
      refine VBs.mk _ _ (bs101 wj A (r.l.length + 64) c) ?_
      have c1 : Below wj.heap.size wj (wj.alloc (.cells #[.slice A (r.l.length + 64) c] 22)) := (Below.refl _ _).alloc (Nat.le_refl _) _
      have hr1 := row_new wj 22 1 eTr (A, r.l.length + 64, c) #[.slice A (r.l.length + 64) c] rfl
      generalize wj.alloc (.cells #[.slice A (r.l.length + 64) c] 22) = w1 at c1 hr1 ⊢
      have z1 := c1.size
      have hm := B.f.m
      dsimp only at hm
      have hlm : (moreT x.f.P Qf).length = Qf.length := moreT_len hi
      have m1 := (hm.kept G.g (hm.ne hrow (by decide))).keep c1 fun k hk => ((hm.kept G.g (hm.ne hrow (by decide))).lo k hk).2
      repeat ((conv => whnf); first | (refine VCmp.tt (by omega) ?_) | (refine VCmp.ff (by omega) ?_) | (refine VIn.mk (IntWalk.i64_in _ (by omega)) ?_) | (refine VIdx.mk _ rfl (by omega) ?_) | (refine VIdx.mk 0 rfl (by omega) ?_))
      try (conv => whnf)
      refine VApp.rows base 1 24 _ Try.underlying101 info22z rfl (by decide) eTr len_eTr one_eTr (moreT x.f.P Qf) [(A, r.l.length + 64, c)] hlm rfl m1 hr1 (by omega) (by omega) (by omega) fun M2 cM2 w2 ho2 hg2 hk2 => ?_
      have hs2 : w2.heap[hb]? = wj.heap[hb]? := (hg2.block hb (by omega) (fun e => by have := (m1.lo hb e.symm).1; omega)).trans (c1.block hb (by omega))
      have t2 := there_same tj hs2
      repeat ((conv => whnf); first | (refine VCmp.tt (by omega) ?_) | (refine VCmp.ff (by omega) ?_) | (refine VIn.mk (IntWalk.i64_in _ (by omega)) ?_) | (refine VIdx.mk _ rfl (by omega) ?_) | (refine VIdx.mk 0 rfl (by omega) ?_))
      try (conv => whnf)
      refine VStore.cell (by kernel_rfl) (t2 7 (by omega)).1 (t2 7 (by omega)).2 rfl rfl fun w3 hw3 => ?_
      have B3 := B.more_f hol hri G c1 ho2 hg2 hk2
      have b3 : Fx S w w3 := by
        rw [hw3.out]
        exact (((bw.trans (.grown (S := S) G.g fun q hq => kSf.1 r hrm q hq) fun k hk => .inl hk).trans (.below (S := S) c1) fun k hk => .inl hk).trans (.grown (S := (blk Mf).toList) hg2 fun k hk => by rw [hk]; simp) fun k hk => hM k (by simpa using hk)).trans (.grown (S := S) (grown_cell _ _ _ _) fun k hk => by injection hk with hk; subst hk; exact hbS) fun k hk => .inl hk
      have hM2 : ∀ q, blk M2 = some q → q ∈ S ∨ w.heap.size ≤ q := fun q hq => hk2.elim (fun e => hM q (by rw [← e]; exact hq)) fun e => .inr (by rw [e] at hq; injection hq with hq; have := bw.size; omega)
      repeat ((conv => whnf); first | (refine VCmp.tt (by omega) ?_) | (refine VCmp.ff (by omega) ?_) | (refine VIn.mk (IntWalk.i64_in _ (by omega)) ?_) | (refine VIdx.mk _ rfl (by omega) ?_) | (refine VIdx.mk 0 rfl (by omega) ?_))
      try (conv => whnf)
      refine .mk (M2, cM2, Qf ++ [(A, c)]) ⟨rfl, by show some _ = some (Value.int .i64 ((Qf ++ [(A, c)]).length : Nat)); rw [List.length_append]; rfl, trivial⟩ ⟨by show (Qf ++ [(A, c)]).length ≤ _; rw [List.length_append]; exact hil, by rw [hw3.out]; exact B3, b3, hM2⟩ (by show _ - (Qf ++ [(A, c)]).length < _ - Qf.length; rw [List.length_append]; show _ - (Qf.length + 1) < _; omega)
  repeat ((conv => whnf); first | (refine VLoad.mk _ L1 ?_) | (refine VCmp.tt (by omega) ?_) | (refine VCmp.ff (by omega) ?_) | (refine VIn.mk (IntWalk.i64_in _ (by omega)) ?_) | (refine VIdx.mk _ rfl (by omega) ?_) | (refine VIdx.mk 0 rfl (by omega) ?_))
  try (conv => whnf)
  have HW : Fx S w wrf := bw
  have HB := B
  have hQf : Qf.length = x.f.P.length := by omega
  clear L1 B bw hil hi
  repeat ((conv => whnf); first | (refine VCmp.tt (by omega) ?_) | (refine VCmp.ff (by omega) ?_) | (refine VIn.mk (IntWalk.i64_in _ (by omega)) ?_) | (refine VIdx.mk _ rfl (by omega) ?_) | (refine VIdx.mk 0 rfl (by omega) ?_))
  try (conv => whnf)
  refine VCall.mk _ (growM_any (S := S) (by exact kSd) (by exact kSm) hbS HB hol (by exact qd) (by exact qm) (by exact bbd) (by exact bbm) (by exact ld) (by exact lm)) ?_
  rintro _ wz ⟨rfl, bz, Md, cMd, Qd, Mm, cMm, Qm, hQd, hQm, BZ⟩
  refine ⟨_, rfl, ?_⟩
  repeat ((conv => whnf); first | (refine VCmp.tt (by omega) ?_) | (refine VCmp.ff (by omega) ?_) | (refine VIn.mk (IntWalk.i64_in _ (by omega)) ?_) | (refine VIdx.mk _ rfl (by omega) ?_) | (refine VIdx.mk 0 rfl (by omega) ?_))
  try (conv => whnf)
  exact .mk ⟨rfl, HW.trans bz fun k hk => .inl hk, My, cMy, Qy, Mi, cMi, Qi, Ms, cMs, Qs, Mf, cMf, Qf, Md, cMd, Qd, Mm, cMm, Qm, hQy, hQi, hQs, hQf, hQd, hQm, BZ⟩
end Go.Proofs.Ytcffhfcjfjfokaa
namespace Go.Proofs.Ytcffhfcjfjfokaa
open Go Go.RowKit
theorem full_at {α : Type} {l : List α} {m : α} {j : Nat} (h : l = List.replicate l.length m) (hj : j < l.length) : l[j]? = some m := by rw [h, List.getElem?_replicate, if_pos hj]
theorem full_more {α : Type} {l : List α} {m : Nat → α} {i j : Nat} (h : l = List.replicate l.length (m i)) (hj : j < l.length + 64) : (l ++ z64 m i)[j]? = some (m i) := by
  rw [h, z64, List.replicate_append_replicate, List.getElem?_replicate, if_pos hj]
theorem Kb.mrow {α : Type} {W : World} {base sz : Nat} {tl e : TypeId} {enc : α → List Value} {zs : Nat → List α} {x : KX α} (h : Kb W base tl e sz enc zs x) {i : Nat} {r : RowX α} {y : Option Addr × Nat} (hi : x.P[i]? = some r) (hy : x.Q[i]? = some y) : ∃ g, x.M = some ⟨g, 0, none⟩ ∧ W.cell? ⟨g, i, none⟩ = some (.slice y.1 (r.l.length + 64) y.2) := by
  obtain ⟨g, e, hc⟩ := h.m.cell len_eTr (k := i) (moreT_at hi hy)
  refine ⟨g, e, ?_⟩
  have := hc 0 _ rfl
  rw [Nat.mul_one, Nat.add_zero] at this
  exact this
theorem ld5n {W : World} {g j : Nat} {n : Int} (h : W.cell? ⟨g, j * 1 + 0, none⟩ = some (.int .u8 n)) : (loadVar 5 ⟨g, j, none⟩).run Try.prog W = .ok (.int .u8 n) W := by
  rw [Nat.mul_one, Nat.add_zero] at h; exact load_cell (by kernel_rfl) h
theorem ld3n {W : World} {g j : Nat} {n : Int} (h : W.cell? ⟨g, j * 1 + 0, none⟩ = some (.int .i64 n)) : (loadVar 3 ⟨g, j, none⟩).run Try.prog W = .ok (.int .i64 n) W := by
  rw [Nat.mul_one, Nat.add_zero] at h; exact load3 h
set_option maxRecDepth 100000 in
set_option maxHeartbeats 4000000 in
theorem plain_any {w : World} {base hb : Nat} {x : BX} {o : List Value} (h : Bo w base hb x o) (qy : x.y.Q.length = x.y.P.length) (qi : x.i.Q.length = x.i.P.length) (qs : x.s.Q.length = x.s.P.length) (fy : ∀ k r, x.y.P[k]? = some r → r.l = List.replicate r.l.length (byM k)) (fi : ∀ k r, x.i.P[k]? = some r → r.l = List.replicate r.l.length (inM k)) (fs : ∀ k r, x.s.P[k]? = some r → r.l = List.replicate r.l.length (slM k)) (bby : ∀ r ∈ x.y.P, r.l.length ≤ 1048576) (bbi : ∀ r ∈ x.i.P, r.l.length ≤ 1048576) (bbs : ∀ r ∈ x.s.P, r.l.length ≤ 1048576) (ly : x.y.P.length ≤ 1000000000000) (li : x.i.P.length ≤ 1000000000000) (ls : x.s.P.length ≤ 1000000000000) : Calls Try.prog 93 #[.pointer (some ⟨hb, 0, none⟩)] w fun e w' => e = .returned (.bool true) ∧ Below w.heap.size w w' := by
  refine calls_vc tab_ok Try.func93 rfl ?_
  have HW : Below w.heap.size w w := Below.refl _ _
  repeat ((conv => whnf); first | (refine VCmp.tt (by omega) ?_) | (refine VCmp.ff (by omega) ?_) | (refine VIn.mk (IntWalk.i64_in _ (by omega)) ?_) | (refine VIdx.mk _ rfl (by omega) ?_) | (refine VIdx.mk 0 rfl (by omega) ?_))
  try (conv => whnf)
  -- kind y
  refine VLoop.mk Nat (fun i => [(0, .pointer (some ⟨hb, 0, none⟩)), (3, .int .i64 i)]) (fun i W => i ≤ x.y.P.length ∧ Below w.heap.size w W) (fun i => x.y.P.length - i) 0 ⟨rfl, rfl, trivial⟩ ⟨Nat.zero_le _, HW⟩ ?_
  clear HW
  rintro i wr ⟨hi, bw⟩
  have B := h.below bw
  have L1 : Ld Try.prog 51 hb 0 (Eq wr) (.slice x.y.L x.y.P.length x.y.cL) := .of (load_cell (by kernel_rfl) (B.r 0 _ rfl))
  by_cases hil : i < x.y.P.length
  case pos =>
    obtain ⟨r, hri⟩ : ∃ r, x.y.P[i]? = some r := ⟨_, List.getElem?_eq_getElem hil⟩
    obtain ⟨y, hyi⟩ : ∃ y, x.y.Q[i]? = some y := ⟨_, List.getElem?_eq_getElem (by rw [qy]; exact hil)⟩
    obtain ⟨gL, hgL, hcL⟩ := B.y.row hri
    rw [hgL] at L1
    have L2 : Ld Try.prog 52 gL (0 + i) (Eq wr) (.slice r.A r.l.length r.c) := .of (load_cell (by kernel_rfl) (by rw [Nat.zero_add]; exact hcL))
    have hfr := fy i r hri
    have hrl := bby r (List.mem_of_getElem? hri)
    repeat ((conv => whnf); first | (refine VLoad.mk _ L1 ?_) | (refine VLoad.mk _ L2 ?_) | (refine VCmp.tt (by omega) ?_) | (refine VCmp.ff (by omega) ?_) | (refine VIn.mk (IntWalk.i64_in _ (by omega)) ?_) | (refine VIdx.mk _ rfl (by omega) ?_) | (refine VIdx.mk 0 rfl (by omega) ?_))
    try (conv => whnf)
    refine VLoop.mk Nat (fun j => [(0, .pointer (some ⟨hb, 0, none⟩)), (3, .int .i64 i), (4, .int .i64 r.l.length), (5, .int .i64 j)]) (fun j W => j ≤ r.l.length + 64 ∧ Below w.heap.size w W) (fun j => r.l.length + 64 - j) 0 ⟨rfl, rfl, rfl, rfl, trivial⟩ ⟨Nat.zero_le _, bw⟩ ?_
    clear bw B L1 L2 hcL hgL
    rintro j wj ⟨hj, bj⟩
    by_cases hjl : j < r.l.length + 64
    case pos =>
      have B := h.below bj.drew
      have L1 : Ld Try.prog 51 hb 0 (Eq wj.drew) (.slice x.y.L x.y.P.length x.y.cL) := .of (load_cell (by kernel_rfl) (B.r 0 _ rfl))
      have L3 : Ld Try.prog 51 hb 1 (Eq wj.drew) (.slice x.y.M x.y.Q.length x.y.cM) := .of (load_cell (by kernel_rfl) (B.r 1 _ rfl))
      obtain ⟨gL, hgL, hcL⟩ := B.y.row hri
      obtain ⟨gM, hgM, hcM⟩ := B.y.mrow hri hyi
      rw [hgL] at L1
      rw [hgM] at L3
      have L2 : Ld Try.prog 52 gL (0 + i) (Eq wj.drew) (.slice r.A r.l.length r.c) := .of (load_cell (by kernel_rfl) (by rw [Nat.zero_add]; exact hcL))
      have L4 : Ld Try.prog 52 gM (0 + i) (Eq wj.drew) (.slice y.1 (r.l.length + 64) y.2) := .of (load_cell (by kernel_rfl) (by rw [Nat.zero_add]; exact hcM))
      obtain ⟨gD, hgD, hcD⟩ := (B.y.k.d i r y hri hyi).cell len_eByte (full_more hfr hjl)
      rw [hgD] at L4
      have L6 : Ld Try.prog 5 gD (0 + j) (Eq wj.drew) (.int .u8 (byM i)) := .of (by rw [Nat.zero_add]; exact ld5n (hcD 0 _ rfl))
      by_cases hjr : j < r.l.length
      · obtain ⟨gR, hgR, hcR⟩ := (B.y.k.o r (List.mem_of_getElem? hri)).cell len_eByte (full_at hfr hjr)
        rw [hgR] at L2
        have L5 : Ld Try.prog 5 gR (0 + j) (Eq wj.drew) (.int .u8 (byM i)) := .of (by rw [Nat.zero_add]; exact ld5n (hcR 0 _ rfl))
        clear hcR hcD hcL hcM
        repeat ((conv => whnf); first | (refine VCmp.tt (by omega) ?_) | (refine VCmp.ff (by omega) ?_) | (refine VIn.mk (IntWalk.i64_in _ (by omega)) ?_) | (refine VIdx.mk _ rfl (by omega) ?_) | (refine VIdx.mk 0 rfl (by omega) ?_))
        try (conv => whnf)
        refine VDraw.mk 1000 [([0, 1, 2, 3, 4, 5, 6, 7, 8, 9, 10], 11), ([12, 13, 14, 15, 16, 17, 18, 19, 20, 21, 22, 23, 24, 25, 26, 27, 28], 29)] [30, 31, 32] (Eq wj.drew) (by kernel_rfl) (by kernel_rfl) (rfl) ?_
        repeat ((conv => whnf); first | (refine VLoad.mk _ L1 ?_) | (refine VLoad.mk _ L2 ?_) | (refine VLoad.mk _ L3 ?_) | (refine VLoad.mk _ L4 ?_) | (refine VLoad.mk _ L5 ?_) | (refine VLoad.mk _ L6 ?_) | (refine VCmp.tt (by omega) ?_) | (refine VCmp.ff (by omega) ?_) | (refine VIn.mk (IntWalk.i64_in _ (by omega)) ?_) | (refine VIdx.mk _ rfl (by omega) ?_) | (refine VIdx.mk 0 rfl (by omega) ?_))
        try (conv => whnf)
        refine VCall.mk _ (byteOf_any i wj.drew) ?_
        rintro _ wk ⟨rfl, hwk⟩
        refine ⟨_, rfl, ?_⟩
        rw [← hwk]
        repeat ((conv => whnf); first | (refine VLoad.mk _ L1 ?_) | (refine VLoad.mk _ L2 ?_) | (refine VLoad.mk _ L3 ?_) | (refine VLoad.mk _ L4 ?_) | (refine VLoad.mk _ L5 ?_) | (refine VLoad.mk _ L6 ?_) | (refine VS.mk rfl ?_) | (refine VCmp.tt (by omega) ?_) | (refine VCmp.ff (by omega) ?_) | (refine VIn.mk (IntWalk.i64_in _ (by omega)) ?_) | (refine VIdx.mk _ rfl (by omega) ?_) | (refine VIdx.mk 0 rfl (by omega) ?_))
        try (conv => whnf)
        first
          | (refine VCall.mk _ (byteOf_any i wj.drew) ?_
             rintro _ wl ⟨rfl, hwl⟩
             refine ⟨_, rfl, ?_⟩
             rw [← hwl])
          | skip
        repeat ((conv => whnf); first | (refine VLoad.mk _ L1 ?_) | (refine VLoad.mk _ L2 ?_) | (refine VLoad.mk _ L3 ?_) | (refine VLoad.mk _ L4 ?_) | (refine VLoad.mk _ L5 ?_) | (refine VLoad.mk _ L6 ?_) | (refine VS.mk rfl ?_) | (refine VCmp.tt (by omega) ?_) | (refine VCmp.ff (by omega) ?_) | (refine VIn.mk (IntWalk.i64_in _ (by omega)) ?_) | (refine VIdx.mk _ rfl (by omega) ?_) | (refine VIdx.mk 0 rfl (by omega) ?_))
        try (conv => whnf)
        exact .mk (j + 1) ⟨rfl, rfl, rfl, rfl, trivial⟩ ⟨hjl, bj.drew⟩ (by omega)
      · clear hcD hcL hcM
        repeat ((conv => whnf); first | (refine VCmp.tt (by omega) ?_) | (refine VCmp.ff (by omega) ?_) | (refine VIn.mk (IntWalk.i64_in _ (by omega)) ?_) | (refine VIdx.mk _ rfl (by omega) ?_) | (refine VIdx.mk 0 rfl (by omega) ?_))
        try (conv => whnf)
        refine VDraw.mk 1000 [([0, 1, 2, 3, 4, 5, 6, 7, 8, 9, 10], 11), ([12, 13, 14, 15, 16, 17, 18, 19, 20, 21, 22, 23, 24, 25, 26, 27, 28], 29)] [30, 31, 32] (Eq wj.drew) (by kernel_rfl) (by kernel_rfl) (rfl) ?_
        repeat ((conv => whnf); first | (refine VLoad.mk _ L1 ?_) | (refine VLoad.mk _ L2 ?_) | (refine VLoad.mk _ L3 ?_) | (refine VLoad.mk _ L4 ?_) | (refine VLoad.mk _ L6 ?_) | (refine VCmp.tt (by omega) ?_) | (refine VCmp.ff (by omega) ?_) | (refine VIn.mk (IntWalk.i64_in _ (by omega)) ?_) | (refine VIdx.mk _ rfl (by omega) ?_) | (refine VIdx.mk 0 rfl (by omega) ?_))
        try (conv => whnf)
        refine VCall.mk _ (byteOf_any i wj.drew) ?_
        rintro _ wk ⟨rfl, hwk⟩
        refine ⟨_, rfl, ?_⟩
        rw [← hwk]
        repeat ((conv => whnf); first | (refine VLoad.mk _ L1 ?_) | (refine VLoad.mk _ L2 ?_) | (refine VLoad.mk _ L3 ?_) | (refine VLoad.mk _ L4 ?_) | (refine VLoad.mk _ L6 ?_) | (refine VS.mk rfl ?_) | (refine VCmp.tt (by omega) ?_) | (refine VCmp.ff (by omega) ?_) | (refine VIn.mk (IntWalk.i64_in _ (by omega)) ?_) | (refine VIdx.mk _ rfl (by omega) ?_) | (refine VIdx.mk 0 rfl (by omega) ?_))
        try (conv => whnf)
        first
          | (refine VCall.mk _ (byteOf_any i wj.drew) ?_
             rintro _ wl ⟨rfl, hwl⟩
             refine ⟨_, rfl, ?_⟩
             rw [← hwl])
          | skip
        repeat ((conv => whnf); first | (refine VLoad.mk _ L1 ?_) | (refine VLoad.mk _ L2 ?_) | (refine VLoad.mk _ L3 ?_) | (refine VLoad.mk _ L4 ?_) | (refine VLoad.mk _ L6 ?_) | (refine VS.mk rfl ?_) | (refine VCmp.tt (by omega) ?_) | (refine VCmp.ff (by omega) ?_) | (refine VIn.mk (IntWalk.i64_in _ (by omega)) ?_) | (refine VIdx.mk _ rfl (by omega) ?_) | (refine VIdx.mk 0 rfl (by omega) ?_))
        try (conv => whnf)
        exact .mk (j + 1) ⟨rfl, rfl, rfl, rfl, trivial⟩ ⟨hjl, bj.drew⟩ (by omega)
    case neg =>
      repeat ((conv => whnf); first | (refine VCmp.tt (by omega) ?_) | (refine VCmp.ff (by omega) ?_) | (refine VIn.mk (IntWalk.i64_in _ (by omega)) ?_) | (refine VIdx.mk _ rfl (by omega) ?_) | (refine VIdx.mk 0 rfl (by omega) ?_))
      try (conv => whnf)
      exact .mk (i + 1) ⟨rfl, rfl, trivial⟩ ⟨hil, bj⟩ (by omega)
  repeat ((conv => whnf); first | (refine VLoad.mk _ L1 ?_) | (refine VCmp.tt (by omega) ?_) | (refine VCmp.ff (by omega) ?_) | (refine VIn.mk (IntWalk.i64_in _ (by omega)) ?_) | (refine VIdx.mk _ rfl (by omega) ?_) | (refine VIdx.mk 0 rfl (by omega) ?_))
  try (conv => whnf)
  have HW := bw
  clear L1 B bw hil hi
  -- kind i
  refine VLoop.mk Nat (fun i => [(0, .pointer (some ⟨hb, 0, none⟩)), (6, .int .i64 i)]) (fun i W => i ≤ x.i.P.length ∧ Below w.heap.size w W) (fun i => x.i.P.length - i) 0 ⟨rfl, rfl, trivial⟩ ⟨Nat.zero_le _, HW⟩ ?_
  clear HW
  rintro i wr ⟨hi, bw⟩
  have B := h.below bw
  have L1 : Ld Try.prog 99 hb 2 (Eq wr) (.slice x.i.L x.i.P.length x.i.cL) := .of (load_cell (by kernel_rfl) (B.r 2 _ rfl))
  by_cases hil : i < x.i.P.length
  case pos =>
    obtain ⟨r, hri⟩ : ∃ r, x.i.P[i]? = some r := ⟨_, List.getElem?_eq_getElem hil⟩
    obtain ⟨y, hyi⟩ : ∃ y, x.i.Q[i]? = some y := ⟨_, List.getElem?_eq_getElem (by rw [qi]; exact hil)⟩
    obtain ⟨gL, hgL, hcL⟩ := B.i.row hri
    rw [hgL] at L1
    have L2 : Ld Try.prog 37 gL (0 + i) (Eq wr) (.slice r.A r.l.length r.c) := .of (load_cell (by kernel_rfl) (by rw [Nat.zero_add]; exact hcL))
    have hfr := fi i r hri
    have hrl := bbi r (List.mem_of_getElem? hri)
    repeat ((conv => whnf); first | (refine VLoad.mk _ L1 ?_) | (refine VLoad.mk _ L2 ?_) | (refine VCmp.tt (by omega) ?_) | (refine VCmp.ff (by omega) ?_) | (refine VIn.mk (IntWalk.i64_in _ (by omega)) ?_) | (refine VIdx.mk _ rfl (by omega) ?_) | (refine VIdx.mk 0 rfl (by omega) ?_))
    try (conv => whnf)
    refine VLoop.mk Nat (fun j => [(0, .pointer (some ⟨hb, 0, none⟩)), (6, .int .i64 i), (7, .int .i64 r.l.length), (8, .int .i64 j)]) (fun j W => j ≤ r.l.length + 64 ∧ Below w.heap.size w W) (fun j => r.l.length + 64 - j) 0 ⟨rfl, rfl, rfl, rfl, trivial⟩ ⟨Nat.zero_le _, bw⟩ ?_
    clear bw B L1 L2 hcL hgL
    rintro j wj ⟨hj, bj⟩
    by_cases hjl : j < r.l.length + 64
    case pos =>
      have B := h.below bj
      have L1 : Ld Try.prog 99 hb 2 (Eq wj) (.slice x.i.L x.i.P.length x.i.cL) := .of (load_cell (by kernel_rfl) (B.r 2 _ rfl))
      have L3 : Ld Try.prog 99 hb 3 (Eq wj) (.slice x.i.M x.i.Q.length x.i.cM) := .of (load_cell (by kernel_rfl) (B.r 3 _ rfl))
      obtain ⟨gL, hgL, hcL⟩ := B.i.row hri
      obtain ⟨gM, hgM, hcM⟩ := B.i.mrow hri hyi
      rw [hgL] at L1
      rw [hgM] at L3
      have L2 : Ld Try.prog 37 gL (0 + i) (Eq wj) (.slice r.A r.l.length r.c) := .of (load_cell (by kernel_rfl) (by rw [Nat.zero_add]; exact hcL))
      have L4 : Ld Try.prog 37 gM (0 + i) (Eq wj) (.slice y.1 (r.l.length + 64) y.2) := .of (load_cell (by kernel_rfl) (by rw [Nat.zero_add]; exact hcM))
      obtain ⟨gD, hgD, hcD⟩ := (B.i.k.d i r y hri hyi).cell len_eInt (full_more hfr hjl)
      rw [hgD] at L4
      have L6 : Ld Try.prog 3 gD (0 + j) (Eq wj) (.int .i64 (-1000 - (i : Int))) := .of (by rw [Nat.zero_add]; exact ld3n (hcD 0 _ rfl))
      by_cases hjr : j < r.l.length
      · obtain ⟨gR, hgR, hcR⟩ := (B.i.k.o r (List.mem_of_getElem? hri)).cell len_eInt (full_at hfr hjr)
        rw [hgR] at L2
        have L5 : Ld Try.prog 3 gR (0 + j) (Eq wj) (.int .i64 (-1000 - (i : Int))) := .of (by rw [Nat.zero_add]; exact ld3n (hcR 0 _ rfl))
        clear hcR hcD hcL hcM
        repeat ((conv => whnf); first | (refine VLoad.mk _ L1 ?_) | (refine VLoad.mk _ L2 ?_) | (refine VLoad.mk _ L3 ?_) | (refine VLoad.mk _ L4 ?_) | (refine VLoad.mk _ L5 ?_) | (refine VLoad.mk _ L6 ?_) | (refine VCmp.tt (by omega) ?_) | (refine VCmp.ff (by omega) ?_) | (refine VIn.mk (IntWalk.i64_in _ (by omega)) ?_) | (refine VIdx.mk _ rfl (by omega) ?_) | (refine VIdx.mk 0 rfl (by omega) ?_))
        try (conv => whnf)
        exact .mk (j + 1) ⟨rfl, rfl, rfl, rfl, trivial⟩ ⟨hjl, bj⟩ (by omega)
      · clear hcD hcL hcM
        repeat ((conv => whnf); first | (refine VLoad.mk _ L1 ?_) | (refine VLoad.mk _ L2 ?_) | (refine VLoad.mk _ L3 ?_) | (refine VLoad.mk _ L4 ?_) | (refine VLoad.mk _ L6 ?_) | (refine VCmp.tt (by omega) ?_) | (refine VCmp.ff (by omega) ?_) | (refine VIn.mk (IntWalk.i64_in _ (by omega)) ?_) | (refine VIdx.mk _ rfl (by omega) ?_) | (refine VIdx.mk 0 rfl (by omega) ?_))
        try (conv => whnf)
        exact .mk (j + 1) ⟨rfl, rfl, rfl, rfl, trivial⟩ ⟨hjl, bj⟩ (by omega)
    case neg =>
      repeat ((conv => whnf); first | (refine VCmp.tt (by omega) ?_) | (refine VCmp.ff (by omega) ?_) | (refine VIn.mk (IntWalk.i64_in _ (by omega)) ?_) | (refine VIdx.mk _ rfl (by omega) ?_) | (refine VIdx.mk 0 rfl (by omega) ?_))
      try (conv => whnf)
      exact .mk (i + 1) ⟨rfl, rfl, trivial⟩ ⟨hil, bj⟩ (by omega)
  repeat ((conv => whnf); first | (refine VLoad.mk _ L1 ?_) | (refine VCmp.tt (by omega) ?_) | (refine VCmp.ff (by omega) ?_) | (refine VIn.mk (IntWalk.i64_in _ (by omega)) ?_) | (refine VIdx.mk _ rfl (by omega) ?_) | (refine VIdx.mk 0 rfl (by omega) ?_))
  try (conv => whnf)
  have HW := bw
  clear L1 B bw hil hi
  -- kind s
  refine VLoop.mk Nat (fun i => [(0, .pointer (some ⟨hb, 0, none⟩)), (9, .int .i64 i)]) (fun i W => i ≤ x.s.P.length ∧ Below w.heap.size w W) (fun i => x.s.P.length - i) 0 ⟨rfl, rfl, trivial⟩ ⟨Nat.zero_le _, HW⟩ ?_
  clear HW
  rintro i wr ⟨hi, bw⟩
  have B := h.below bw
  have L1 : Ld Try.prog 100 hb 4 (Eq wr) (.slice x.s.L x.s.P.length x.s.cL) := .of (load_cell (by kernel_rfl) (B.r 4 _ rfl))
  by_cases hil : i < x.s.P.length
  case pos =>
    obtain ⟨r, hri⟩ : ∃ r, x.s.P[i]? = some r := ⟨_, List.getElem?_eq_getElem hil⟩
    obtain ⟨y, hyi⟩ : ∃ y, x.s.Q[i]? = some y := ⟨_, List.getElem?_eq_getElem (by rw [qs]; exact hil)⟩
    obtain ⟨gL, hgL, hcL⟩ := B.s.row hri
    rw [hgL] at L1
    have L2 : Ld Try.prog 36 gL (0 + i) (Eq wr) (.slice r.A r.l.length r.c) := .of (load_cell (by kernel_rfl) (by rw [Nat.zero_add]; exact hcL))
    have hfr := fs i r hri
    have hrl := bbs r (List.mem_of_getElem? hri)
    repeat ((conv => whnf); first | (refine VLoad.mk _ L1 ?_) | (refine VLoad.mk _ L2 ?_) | (refine VCmp.tt (by omega) ?_) | (refine VCmp.ff (by omega) ?_) | (refine VIn.mk (IntWalk.i64_in _ (by omega)) ?_) | (refine VIdx.mk _ rfl (by omega) ?_) | (refine VIdx.mk 0 rfl (by omega) ?_))
    try (conv => whnf)
    refine VLoop.mk Nat (fun j => [(0, .pointer (some ⟨hb, 0, none⟩)), (9, .int .i64 i), (10, .int .i64 r.l.length), (11, .int .i64 j)]) (fun j W => j ≤ r.l.length + 64 ∧ Below w.heap.size w W) (fun j => r.l.length + 64 - j) 0 ⟨rfl, rfl, rfl, rfl, trivial⟩ ⟨Nat.zero_le _, bw⟩ ?_
    clear bw B L1 L2 hcL hgL
    rintro j wj ⟨hj, bj⟩
    by_cases hjl : j < r.l.length + 64
    case pos =>
      have B := h.below bj
      have L1 : Ld Try.prog 100 hb 4 (Eq wj) (.slice x.s.L x.s.P.length x.s.cL) := .of (load_cell (by kernel_rfl) (B.r 4 _ rfl))
      have L3 : Ld Try.prog 100 hb 5 (Eq wj) (.slice x.s.M x.s.Q.length x.s.cM) := .of (load_cell (by kernel_rfl) (B.r 5 _ rfl))
      obtain ⟨gL, hgL, hcL⟩ := B.s.row hri
      obtain ⟨gM, hgM, hcM⟩ := B.s.mrow hri hyi
      rw [hgL] at L1
      rw [hgM] at L3
      have L2 : Ld Try.prog 36 gL (0 + i) (Eq wj) (.slice r.A r.l.length r.c) := .of (load_cell (by kernel_rfl) (by rw [Nat.zero_add]; exact hcL))
      have L4 : Ld Try.prog 36 gM (0 + i) (Eq wj) (.slice y.1 (r.l.length + 64) y.2) := .of (load_cell (by kernel_rfl) (by rw [Nat.zero_add]; exact hcM))
      obtain ⟨gD, hgD, hcD⟩ := (B.s.k.d i r y hri hyi).cell len_eSlot (full_more hfr hjl)
      rw [hgD] at L4
      have L6 : Ld Try.prog 3 gD (0 + j * 2 + 1) (Eq wj) (.int .i64 (-1000 - (i : Int))) := .of (by rw [Nat.zero_add]; exact load3 (hcD 1 _ rfl))
      by_cases hjr : j < r.l.length
      · obtain ⟨gR, hgR, hcR⟩ := (B.s.k.o r (List.mem_of_getElem? hri)).cell len_eSlot (full_at hfr hjr)
        rw [hgR] at L2
        have L5 : Ld Try.prog 3 gR (0 + j * 2 + 1) (Eq wj) (.int .i64 (-1000 - (i : Int))) := .of (by rw [Nat.zero_add]; exact load3 (hcR 1 _ rfl))
        clear hcR hcD hcL hcM
        repeat ((conv => whnf); first | (refine VLoad.mk _ L1 ?_) | (refine VLoad.mk _ L2 ?_) | (refine VLoad.mk _ L3 ?_) | (refine VLoad.mk _ L4 ?_) | (refine VLoad.mk _ L5 ?_) | (refine VLoad.mk _ L6 ?_) | (refine VCmp.tt (by omega) ?_) | (refine VCmp.ff (by omega) ?_) | (refine VIn.mk (IntWalk.i64_in _ (by omega)) ?_) | (refine VIdx.mk _ rfl (by omega) ?_) | (refine VIdx.mk 0 rfl (by omega) ?_))
        try (conv => whnf)
        exact .mk (j + 1) ⟨rfl, rfl, rfl, rfl, trivial⟩ ⟨hjl, bj⟩ (by omega)
      · clear hcD hcL hcM
        repeat ((conv => whnf); first | (refine VLoad.mk _ L1 ?_) | (refine VLoad.mk _ L2 ?_) | (refine VLoad.mk _ L3 ?_) | (refine VLoad.mk _ L4 ?_) | (refine VLoad.mk _ L6 ?_) | (refine VCmp.tt (by omega) ?_) | (refine VCmp.ff (by omega) ?_) | (refine VIn.mk (IntWalk.i64_in _ (by omega)) ?_) | (refine VIdx.mk _ rfl (by omega) ?_) | (refine VIdx.mk 0 rfl (by omega) ?_))
        try (conv => whnf)
        exact .mk (j + 1) ⟨rfl, rfl, rfl, rfl, trivial⟩ ⟨hjl, bj⟩ (by omega)
    case neg =>
      repeat ((conv => whnf); first | (refine VCmp.tt (by omega) ?_) | (refine VCmp.ff (by omega) ?_) | (refine VIn.mk (IntWalk.i64_in _ (by omega)) ?_) | (refine VIdx.mk _ rfl (by omega) ?_) | (refine VIdx.mk 0 rfl (by omega) ?_))
      try (conv => whnf)
      exact .mk (i + 1) ⟨rfl, rfl, trivial⟩ ⟨hil, bj⟩ (by omega)
  repeat ((conv => whnf); first | (refine VLoad.mk _ L1 ?_) | (refine VCmp.tt (by omega) ?_) | (refine VCmp.ff (by omega) ?_) | (refine VIn.mk (IntWalk.i64_in _ (by omega)) ?_) | (refine VIdx.mk _ rfl (by omega) ?_) | (refine VIdx.mk 0 rfl (by omega) ?_))
  try (conv => whnf)
  have HW := bw
  clear L1 B bw hil hi
  exact .mk ⟨rfl, HW⟩
end Go.Proofs.Ytcffhfcjfjfokaa
