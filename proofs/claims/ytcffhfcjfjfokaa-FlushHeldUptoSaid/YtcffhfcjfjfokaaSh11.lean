/- Plain RestB SameFls SameIn, joined. -/
import Derived.StillTailTactics
import Derived.Test.YtcffhfcjfjfokaaSh5
import Derived.Test.YtcffhfcjfjfokaaSh10
set_option linter.unusedVariables false
set_option linter.unusedSimpArgs false
/- The law's plain: have the lists of bytes, numbers and slots their own marks? -/
namespace Go.Proofs.Ytcffhfcjfjfokaa
open Go Go.RowKit
theorem full_at {α : Type} {l : List α} {m : α} {j : Nat} (h : l = List.replicate l.length m) (hj : j < l.length) : l[j]? = some m := by rw [h, List.getElem?_replicate, if_pos hj]
theorem full_more {α : Type} {l : List α} {m : Nat → α} {i j : Nat} (h : l = List.replicate l.length (m i)) (hj : j < l.length + 64) : (l ++ z64 m i)[j]? = some (m i) := by
  rw [h, z64, List.replicate_append_replicate, List.getElem?_replicate, if_pos hj]
theorem Kb.mrow {α : Type} {W : World} {base sz : Nat} {tl e : TypeId} {enc : α → List Value} {zs : Nat → List α} {x : KX α} (h : Kb W base tl e sz enc zs x) {i : Nat} {r : RowX α} {y : Option Addr × Nat} (hi : x.P[i]? = some r) (hy : x.Q[i]? = some y) : ∃ g, x.M = some ⟨g, 0, none⟩ ∧ W.cell? ⟨g, i, none⟩ = some (.slice y.1 (r.l.length + 64) y.2) := by
  obtain ⟨g, e, hc⟩ := h.m.cell len_eTr (k := i) (moreT_at hi hy)
  refine ⟨g, e, ?_⟩
  have := hc 0 _ rfl
  rw [Nat.mul_one, Nat.add_zero] at this
  exact this
theorem ld5n {W : World} {g j : Nat} {n : Int} (h : W.cell? ⟨g, j * 1 + 0, none⟩ = some (.int .u8 n)) : (loadVar 5 ⟨g, j, none⟩).run Try.prog W = .ok (.int .u8 n) W := by
  rw [Nat.mul_one, Nat.add_zero] at h; exact load_cell (by kernel_rfl) h
theorem ld3n {W : World} {g j : Nat} {n : Int} (h : W.cell? ⟨g, j * 1 + 0, none⟩ = some (.int .i64 n)) : (loadVar 3 ⟨g, j, none⟩).run Try.prog W = .ok (.int .i64 n) W := by
  rw [Nat.mul_one, Nat.add_zero] at h; exact load3 h
set_option maxRecDepth 100000 in
set_option maxHeartbeats 4000000 in
theorem plain_any {w : World} {base hb : Nat} {x : BX} {o : List Value} (h : Bo w base hb x o) (qy : x.y.Q.length = x.y.P.length) (qi : x.i.Q.length = x.i.P.length) (qs : x.s.Q.length = x.s.P.length) (fy : ∀ k r, x.y.P[k]? = some r → r.l = List.replicate r.l.length (byM k)) (fi : ∀ k r, x.i.P[k]? = some r → r.l = List.replicate r.l.length (inM k)) (fs : ∀ k r, x.s.P[k]? = some r → r.l = List.replicate r.l.length (slM k)) (bby : ∀ r ∈ x.y.P, r.l.length ≤ 1048576) (bbi : ∀ r ∈ x.i.P, r.l.length ≤ 1048576) (bbs : ∀ r ∈ x.s.P, r.l.length ≤ 1048576) (ly : x.y.P.length ≤ 1000000000000) (li : x.i.P.length ≤ 1000000000000) (ls : x.s.P.length ≤ 1000000000000) : Calls Try.prog 93 #[.pointer (some ⟨hb, 0, none⟩)] w fun e w' => e = .returned (.bool true) ∧ Below w.heap.size w w' := by
  refine calls_vc tab_ok Try.func93 rfl ?_
  have HW : Below w.heap.size w w := Below.refl _ _
  repeat (conv => whnf
          first
          | (refine VCmp.tt (by omega) ?_)
          | (refine VCmp.ff (by omega) ?_)
          | (refine VIn.mk (IntWalk.i64_in _ (by omega)) ?_)
          | (refine VIdx.mk _ rfl (by omega) ?_)
          | (refine VIdx.mk 0 rfl (by omega) ?_))
  try (conv => whnf)
  -- kind y
  refine VLoop.mk Nat (fun i => [(0, .pointer (some ⟨hb, 0, none⟩)), (3, .int .i64 i)]) (fun i W => i ≤ x.y.P.length ∧ Below w.heap.size w W) (fun i => x.y.P.length - i) 0 ⟨rfl, rfl, trivial⟩ ⟨Nat.zero_le _, HW⟩ ?_
  clear HW
  rintro i wr ⟨hi, bw⟩
  have B := h.below bw
  have L1 : Ld Try.prog 51 hb 0 (Eq wr) (.slice x.y.L x.y.P.length x.y.cL) := .of (load_cell (by kernel_rfl) (B.r 0 _ rfl))
  by_cases hil : i < x.y.P.length
  case pos =>
    obtain ⟨r, hri⟩ : ∃ r, x.y.P[i]? = some r := ⟨_, List.getElem?_eq_getElem hil⟩
    obtain ⟨y, hyi⟩ : ∃ y, x.y.Q[i]? = some y := ⟨_, List.getElem?_eq_getElem (by rw [qy]; exact hil)⟩
    obtain ⟨gL, hgL, hcL⟩ := B.y.row hri
    rw [hgL] at L1
    have L2 : Ld Try.prog 52 gL (0 + i) (Eq wr) (.slice r.A r.l.length r.c) := .of (load_cell (by kernel_rfl) (by rw [Nat.zero_add]; exact hcL))
    have hfr := fy i r hri
    have hrl := bby r (List.mem_of_getElem? hri)
    repeat (conv => whnf
            first
            | (refine VLoad.mk _ L1 ?_)
            | (refine VLoad.mk _ L2 ?_)
            | (refine VCmp.tt (by omega) ?_)
            | (refine VCmp.ff (by omega) ?_)
            | (refine VIn.mk (IntWalk.i64_in _ (by omega)) ?_)
            | (refine VIdx.mk _ rfl (by omega) ?_)
            | (refine VIdx.mk 0 rfl (by omega) ?_))
    try (conv => whnf)
    refine VLoop.mk Nat (fun j => [(0, .pointer (some ⟨hb, 0, none⟩)), (3, .int .i64 i), (4, .int .i64 r.l.length), (5, .int .i64 j)]) (fun j W => j ≤ r.l.length + 64 ∧ Below w.heap.size w W) (fun j => r.l.length + 64 - j) 0 ⟨rfl, rfl, rfl, rfl, trivial⟩ ⟨Nat.zero_le _, bw⟩ ?_
    clear bw B L1 L2 hcL hgL
    rintro j wj ⟨hj, bj⟩
    by_cases hjl : j < r.l.length + 64
    case pos =>
      have B := h.below bj.drew
      have L1 : Ld Try.prog 51 hb 0 (Eq wj.drew) (.slice x.y.L x.y.P.length x.y.cL) := .of (load_cell (by kernel_rfl) (B.r 0 _ rfl))
      have L3 : Ld Try.prog 51 hb 1 (Eq wj.drew) (.slice x.y.M x.y.Q.length x.y.cM) := .of (load_cell (by kernel_rfl) (B.r 1 _ rfl))
      obtain ⟨gL, hgL, hcL⟩ := B.y.row hri
      obtain ⟨gM, hgM, hcM⟩ := B.y.mrow hri hyi
      rw [hgL] at L1
      rw [hgM] at L3
      have L2 : Ld Try.prog 52 gL (0 + i) (Eq wj.drew) (.slice r.A r.l.length r.c) := .of (load_cell (by kernel_rfl) (by rw [Nat.zero_add]; exact hcL))
      have L4 : Ld Try.prog 52 gM (0 + i) (Eq wj.drew) (.slice y.1 (r.l.length + 64) y.2) := .of (load_cell (by kernel_rfl) (by rw [Nat.zero_add]; exact hcM))
      obtain ⟨gD, hgD, hcD⟩ := (B.y.k.d i r y hri hyi).cell len_eByte (full_more hfr hjl)
      rw [hgD] at L4
      have L6 : Ld Try.prog 5 gD (0 + j) (Eq wj.drew) (.int .u8 (byM i)) := .of (by rw [Nat.zero_add]; exact ld5n (hcD 0 _ rfl))
      by_cases hjr : j < r.l.length
      · obtain ⟨gR, hgR, hcR⟩ := (B.y.k.o r (List.mem_of_getElem? hri)).cell len_eByte (full_at hfr hjr)
        rw [hgR] at L2
        have L5 : Ld Try.prog 5 gR (0 + j) (Eq wj.drew) (.int .u8 (byM i)) := .of (by rw [Nat.zero_add]; exact ld5n (hcR 0 _ rfl))
        clear hcR hcD hcL hcM
        repeat (conv => whnf
                first
                | (refine VCmp.tt (by omega) ?_)
                | (refine VCmp.ff (by omega) ?_)
                | (refine VIn.mk (IntWalk.i64_in _ (by omega)) ?_)
                | (refine VIdx.mk _ rfl (by omega) ?_)
                | (refine VIdx.mk 0 rfl (by omega) ?_))
        try (conv => whnf)
        refine VDraw.mk 1000 [([0, 1, 2, 3, 4, 5, 6, 7, 8, 9, 10], 11), ([12, 13, 14, 15, 16, 17, 18, 19, 20, 21, 22, 23, 24, 25, 26, 27, 28], 29)] [30, 31, 32] (Eq wj.drew) (by kernel_rfl) (by kernel_rfl) (rfl) ?_
        repeat (conv => whnf
                first
                | (refine VLoad.mk _ L1 ?_)
                | (refine VLoad.mk _ L2 ?_)
                | (refine VLoad.mk _ L3 ?_)
                | (refine VLoad.mk _ L4 ?_)
                | (refine VLoad.mk _ L5 ?_)
                | (refine VLoad.mk _ L6 ?_)
                | (refine VCmp.tt (by omega) ?_)
                | (refine VCmp.ff (by omega) ?_)
                | (refine VIn.mk (IntWalk.i64_in _ (by omega)) ?_)
                | (refine VIdx.mk _ rfl (by omega) ?_)
                | (refine VIdx.mk 0 rfl (by omega) ?_))
        try (conv => whnf)
        refine VCall.mk _ (byteOf_any i wj.drew) ?_
        rintro _ wk ⟨rfl, hwk⟩
        refine ⟨_, rfl, ?_⟩
        rw [← hwk]
        repeat (conv => whnf
                first
                | (refine VLoad.mk _ L1 ?_)
                | (refine VLoad.mk _ L2 ?_)
                | (refine VLoad.mk _ L3 ?_)
                | (refine VLoad.mk _ L4 ?_)
                | (refine VLoad.mk _ L5 ?_)
                | (refine VLoad.mk _ L6 ?_)
                | (refine VS.mk rfl ?_)
                | (refine VCmp.tt (by omega) ?_)
                | (refine VCmp.ff (by omega) ?_)
                | (refine VIn.mk (IntWalk.i64_in _ (by omega)) ?_)
                | (refine VIdx.mk _ rfl (by omega) ?_)
                | (refine VIdx.mk 0 rfl (by omega) ?_))
        try (conv => whnf)
        first
          | (refine VCall.mk _ (byteOf_any i wj.drew) ?_
             rintro _ wl ⟨rfl, hwl⟩
             refine ⟨_, rfl, ?_⟩
             rw [← hwl])
          | skip
        repeat (conv => whnf
                first
                | (refine VLoad.mk _ L1 ?_)
                | (refine VLoad.mk _ L2 ?_)
                | (refine VLoad.mk _ L3 ?_)
                | (refine VLoad.mk _ L4 ?_)
                | (refine VLoad.mk _ L5 ?_)
                | (refine VLoad.mk _ L6 ?_)
                | (refine VS.mk rfl ?_)
                | (refine VCmp.tt (by omega) ?_)
                | (refine VCmp.ff (by omega) ?_)
                | (refine VIn.mk (IntWalk.i64_in _ (by omega)) ?_)
                | (refine VIdx.mk _ rfl (by omega) ?_)
                | (refine VIdx.mk 0 rfl (by omega) ?_))
        try (conv => whnf)
        exact .mk (j + 1) ⟨rfl, rfl, rfl, rfl, trivial⟩ ⟨hjl, bj.drew⟩ (by omega)
      · clear hcD hcL hcM
        repeat (conv => whnf
                first
                | (refine VCmp.tt (by omega) ?_)
                | (refine VCmp.ff (by omega) ?_)
                | (refine VIn.mk (IntWalk.i64_in _ (by omega)) ?_)
                | (refine VIdx.mk _ rfl (by omega) ?_)
                | (refine VIdx.mk 0 rfl (by omega) ?_))
        try (conv => whnf)
        refine VDraw.mk 1000 [([0, 1, 2, 3, 4, 5, 6, 7, 8, 9, 10], 11), ([12, 13, 14, 15, 16, 17, 18, 19, 20, 21, 22, 23, 24, 25, 26, 27, 28], 29)] [30, 31, 32] (Eq wj.drew) (by kernel_rfl) (by kernel_rfl) (rfl) ?_
        repeat (conv => whnf
                first
                | (refine VLoad.mk _ L1 ?_)
                | (refine VLoad.mk _ L2 ?_)
                | (refine VLoad.mk _ L3 ?_)
                | (refine VLoad.mk _ L4 ?_)
                | (refine VLoad.mk _ L6 ?_)
                | (refine VCmp.tt (by omega) ?_)
                | (refine VCmp.ff (by omega) ?_)
                | (refine VIn.mk (IntWalk.i64_in _ (by omega)) ?_)
                | (refine VIdx.mk _ rfl (by omega) ?_)
                | (refine VIdx.mk 0 rfl (by omega) ?_))
        try (conv => whnf)
        refine VCall.mk _ (byteOf_any i wj.drew) ?_
        rintro _ wk ⟨rfl, hwk⟩
        refine ⟨_, rfl, ?_⟩
        rw [← hwk]
        repeat (conv => whnf
                first
                | (refine VLoad.mk _ L1 ?_)
                | (refine VLoad.mk _ L2 ?_)
                | (refine VLoad.mk _ L3 ?_)
                | (refine VLoad.mk _ L4 ?_)
                | (refine VLoad.mk _ L6 ?_)
                | (refine VS.mk rfl ?_)
                | (refine VCmp.tt (by omega) ?_)
                | (refine VCmp.ff (by omega) ?_)
                | (refine VIn.mk (IntWalk.i64_in _ (by omega)) ?_)
                | (refine VIdx.mk _ rfl (by omega) ?_)
                | (refine VIdx.mk 0 rfl (by omega) ?_))
        try (conv => whnf)
        first
          | (refine VCall.mk _ (byteOf_any i wj.drew) ?_
             rintro _ wl ⟨rfl, hwl⟩
             refine ⟨_, rfl, ?_⟩
             rw [← hwl])
          | skip
        repeat (conv => whnf
                first
                | (refine VLoad.mk _ L1 ?_)
                | (refine VLoad.mk _ L2 ?_)
                | (refine VLoad.mk _ L3 ?_)
                | (refine VLoad.mk _ L4 ?_)
                | (refine VLoad.mk _ L6 ?_)
                | (refine VS.mk rfl ?_)
                | (refine VCmp.tt (by omega) ?_)
                | (refine VCmp.ff (by omega) ?_)
                | (refine VIn.mk (IntWalk.i64_in _ (by omega)) ?_)
                | (refine VIdx.mk _ rfl (by omega) ?_)
                | (refine VIdx.mk 0 rfl (by omega) ?_))
        try (conv => whnf)
        exact .mk (j + 1) ⟨rfl, rfl, rfl, rfl, trivial⟩ ⟨hjl, bj.drew⟩ (by omega)
    case neg =>
      repeat (conv => whnf
              first
              | (refine VCmp.tt (by omega) ?_)
              | (refine VCmp.ff (by omega) ?_)
              | (refine VIn.mk (IntWalk.i64_in _ (by omega)) ?_)
              | (refine VIdx.mk _ rfl (by omega) ?_)
              | (refine VIdx.mk 0 rfl (by omega) ?_))
      try (conv => whnf)
      exact .mk (i + 1) ⟨rfl, rfl, trivial⟩ ⟨hil, bj⟩ (by omega)
  repeat (conv => whnf
          first
          | (refine VLoad.mk _ L1 ?_)
          | (refine VCmp.tt (by omega) ?_)
          | (refine VCmp.ff (by omega) ?_)
          | (refine VIn.mk (IntWalk.i64_in _ (by omega)) ?_)
          | (refine VIdx.mk _ rfl (by omega) ?_)
          | (refine VIdx.mk 0 rfl (by omega) ?_))
  try (conv => whnf)
  have HW := bw
  clear L1 B bw hil hi
  -- kind i
  refine VLoop.mk Nat (fun i => [(0, .pointer (some ⟨hb, 0, none⟩)), (6, .int .i64 i)]) (fun i W => i ≤ x.i.P.length ∧ Below w.heap.size w W) (fun i => x.i.P.length - i) 0 ⟨rfl, rfl, trivial⟩ ⟨Nat.zero_le _, HW⟩ ?_
  clear HW
  rintro i wr ⟨hi, bw⟩
  have B := h.below bw
  have L1 : Ld Try.prog 99 hb 2 (Eq wr) (.slice x.i.L x.i.P.length x.i.cL) := .of (load_cell (by kernel_rfl) (B.r 2 _ rfl))
  by_cases hil : i < x.i.P.length
  case pos =>
    obtain ⟨r, hri⟩ : ∃ r, x.i.P[i]? = some r := ⟨_, List.getElem?_eq_getElem hil⟩
    obtain ⟨y, hyi⟩ : ∃ y, x.i.Q[i]? = some y := ⟨_, List.getElem?_eq_getElem (by rw [qi]; exact hil)⟩
    obtain ⟨gL, hgL, hcL⟩ := B.i.row hri
    rw [hgL] at L1
    have L2 : Ld Try.prog 37 gL (0 + i) (Eq wr) (.slice r.A r.l.length r.c) := .of (load_cell (by kernel_rfl) (by rw [Nat.zero_add]; exact hcL))
    have hfr := fi i r hri
    have hrl := bbi r (List.mem_of_getElem? hri)
    repeat (conv => whnf
            first
            | (refine VLoad.mk _ L1 ?_)
            | (refine VLoad.mk _ L2 ?_)
            | (refine VCmp.tt (by omega) ?_)
            | (refine VCmp.ff (by omega) ?_)
            | (refine VIn.mk (IntWalk.i64_in _ (by omega)) ?_)
            | (refine VIdx.mk _ rfl (by omega) ?_)
            | (refine VIdx.mk 0 rfl (by omega) ?_))
    try (conv => whnf)
    refine VLoop.mk Nat (fun j => [(0, .pointer (some ⟨hb, 0, none⟩)), (6, .int .i64 i), (7, .int .i64 r.l.length), (8, .int .i64 j)]) (fun j W => j ≤ r.l.length + 64 ∧ Below w.heap.size w W) (fun j => r.l.length + 64 - j) 0 ⟨rfl, rfl, rfl, rfl, trivial⟩ ⟨Nat.zero_le _, bw⟩ ?_
    clear bw B L1 L2 hcL hgL
    rintro j wj ⟨hj, bj⟩
    by_cases hjl : j < r.l.length + 64
    case pos =>
      have B := h.below bj
      have L1 : Ld Try.prog 99 hb 2 (Eq wj) (.slice x.i.L x.i.P.length x.i.cL) := .of (load_cell (by kernel_rfl) (B.r 2 _ rfl))
      have L3 : Ld Try.prog 99 hb 3 (Eq wj) (.slice x.i.M x.i.Q.length x.i.cM) := .of (load_cell (by kernel_rfl) (B.r 3 _ rfl))
      obtain ⟨gL, hgL, hcL⟩ := B.i.row hri
      obtain ⟨gM, hgM, hcM⟩ := B.i.mrow hri hyi
      rw [hgL] at L1
      rw [hgM] at L3
      have L2 : Ld Try.prog 37 gL (0 + i) (Eq wj) (.slice r.A r.l.length r.c) := .of (load_cell (by kernel_rfl) (by rw [Nat.zero_add]; exact hcL))
      have L4 : Ld Try.prog 37 gM (0 + i) (Eq wj) (.slice y.1 (r.l.length + 64) y.2) := .of (load_cell (by kernel_rfl) (by rw [Nat.zero_add]; exact hcM))
      obtain ⟨gD, hgD, hcD⟩ := (B.i.k.d i r y hri hyi).cell len_eInt (full_more hfr hjl)
      rw [hgD] at L4
      have L6 : Ld Try.prog 3 gD (0 + j) (Eq wj) (.int .i64 (-1000 - (i : Int))) := .of (by rw [Nat.zero_add]; exact ld3n (hcD 0 _ rfl))
      by_cases hjr : j < r.l.length
      · obtain ⟨gR, hgR, hcR⟩ := (B.i.k.o r (List.mem_of_getElem? hri)).cell len_eInt (full_at hfr hjr)
        rw [hgR] at L2
        have L5 : Ld Try.prog 3 gR (0 + j) (Eq wj) (.int .i64 (-1000 - (i : Int))) := .of (by rw [Nat.zero_add]; exact ld3n (hcR 0 _ rfl))
        clear hcR hcD hcL hcM
        repeat (conv => whnf
                first
                | (refine VLoad.mk _ L1 ?_)
                | (refine VLoad.mk _ L2 ?_)
                | (refine VLoad.mk _ L3 ?_)
                | (refine VLoad.mk _ L4 ?_)
                | (refine VLoad.mk _ L5 ?_)
                | (refine VLoad.mk _ L6 ?_)
                | (refine VCmp.tt (by omega) ?_)
                | (refine VCmp.ff (by omega) ?_)
                | (refine VIn.mk (IntWalk.i64_in _ (by omega)) ?_)
                | (refine VIdx.mk _ rfl (by omega) ?_)
                | (refine VIdx.mk 0 rfl (by omega) ?_))
        try (conv => whnf)
        exact .mk (j + 1) ⟨rfl, rfl, rfl, rfl, trivial⟩ ⟨hjl, bj⟩ (by omega)
      · clear hcD hcL hcM
        repeat (conv => whnf
                first
                | (refine VLoad.mk _ L1 ?_)
                | (refine VLoad.mk _ L2 ?_)
                | (refine VLoad.mk _ L3 ?_)
                | (refine VLoad.mk _ L4 ?_)
                | (refine VLoad.mk _ L6 ?_)
                | (refine VCmp.tt (by omega) ?_)
                | (refine VCmp.ff (by omega) ?_)
                | (refine VIn.mk (IntWalk.i64_in _ (by omega)) ?_)
                | (refine VIdx.mk _ rfl (by omega) ?_)
                | (refine VIdx.mk 0 rfl (by omega) ?_))
        try (conv => whnf)
        exact .mk (j + 1) ⟨rfl, rfl, rfl, rfl, trivial⟩ ⟨hjl, bj⟩ (by omega)
    case neg =>
      repeat (conv => whnf
              first
              | (refine VCmp.tt (by omega) ?_)
              | (refine VCmp.ff (by omega) ?_)
              | (refine VIn.mk (IntWalk.i64_in _ (by omega)) ?_)
              | (refine VIdx.mk _ rfl (by omega) ?_)
              | (refine VIdx.mk 0 rfl (by omega) ?_))
      try (conv => whnf)
      exact .mk (i + 1) ⟨rfl, rfl, trivial⟩ ⟨hil, bj⟩ (by omega)
  repeat (conv => whnf
          first
          | (refine VLoad.mk _ L1 ?_)
          | (refine VCmp.tt (by omega) ?_)
          | (refine VCmp.ff (by omega) ?_)
          | (refine VIn.mk (IntWalk.i64_in _ (by omega)) ?_)
          | (refine VIdx.mk _ rfl (by omega) ?_)
          | (refine VIdx.mk 0 rfl (by omega) ?_))
  try (conv => whnf)
  have HW := bw
  clear L1 B bw hil hi
  -- kind s
  refine VLoop.mk Nat (fun i => [(0, .pointer (some ⟨hb, 0, none⟩)), (9, .int .i64 i)]) (fun i W => i ≤ x.s.P.length ∧ Below w.heap.size w W) (fun i => x.s.P.length - i) 0 ⟨rfl, rfl, trivial⟩ ⟨Nat.zero_le _, HW⟩ ?_
  clear HW
  rintro i wr ⟨hi, bw⟩
  have B := h.below bw
  have L1 : Ld Try.prog 100 hb 4 (Eq wr) (.slice x.s.L x.s.P.length x.s.cL) := .of (load_cell (by kernel_rfl) (B.r 4 _ rfl))
  by_cases hil : i < x.s.P.length
  case pos =>
    obtain ⟨r, hri⟩ : ∃ r, x.s.P[i]? = some r := ⟨_, List.getElem?_eq_getElem hil⟩
    obtain ⟨y, hyi⟩ : ∃ y, x.s.Q[i]? = some y := ⟨_, List.getElem?_eq_getElem (by rw [qs]; exact hil)⟩
    obtain ⟨gL, hgL, hcL⟩ := B.s.row hri
    rw [hgL] at L1
    have L2 : Ld Try.prog 36 gL (0 + i) (Eq wr) (.slice r.A r.l.length r.c) := .of (load_cell (by kernel_rfl) (by rw [Nat.zero_add]; exact hcL))
    have hfr := fs i r hri
    have hrl := bbs r (List.mem_of_getElem? hri)
    repeat (conv => whnf
            first
            | (refine VLoad.mk _ L1 ?_)
            | (refine VLoad.mk _ L2 ?_)
            | (refine VCmp.tt (by omega) ?_)
            | (refine VCmp.ff (by omega) ?_)
            | (refine VIn.mk (IntWalk.i64_in _ (by omega)) ?_)
            | (refine VIdx.mk _ rfl (by omega) ?_)
            | (refine VIdx.mk 0 rfl (by omega) ?_))
    try (conv => whnf)
    refine VLoop.mk Nat (fun j => [(0, .pointer (some ⟨hb, 0, none⟩)), (9, .int .i64 i), (10, .int .i64 r.l.length), (11, .int .i64 j)]) (fun j W => j ≤ r.l.length + 64 ∧ Below w.heap.size w W) (fun j => r.l.length + 64 - j) 0 ⟨rfl, rfl, rfl, rfl, trivial⟩ ⟨Nat.zero_le _, bw⟩ ?_
    clear bw B L1 L2 hcL hgL
    rintro j wj ⟨hj, bj⟩
    by_cases hjl : j < r.l.length + 64
    case pos =>
      have B := h.below bj
      have L1 : Ld Try.prog 100 hb 4 (Eq wj) (.slice x.s.L x.s.P.length x.s.cL) := .of (load_cell (by kernel_rfl) (B.r 4 _ rfl))
      have L3 : Ld Try.prog 100 hb 5 (Eq wj) (.slice x.s.M x.s.Q.length x.s.cM) := .of (load_cell (by kernel_rfl) (B.r 5 _ rfl))
      obtain ⟨gL, hgL, hcL⟩ := B.s.row hri
      obtain ⟨gM, hgM, hcM⟩ := B.s.mrow hri hyi
      rw [hgL] at L1
      rw [hgM] at L3
      have L2 : Ld Try.prog 36 gL (0 + i) (Eq wj) (.slice r.A r.l.length r.c) := .of (load_cell (by kernel_rfl) (by rw [Nat.zero_add]; exact hcL))
      have L4 : Ld Try.prog 36 gM (0 + i) (Eq wj) (.slice y.1 (r.l.length + 64) y.2) := .of (load_cell (by kernel_rfl) (by rw [Nat.zero_add]; exact hcM))
      obtain ⟨gD, hgD, hcD⟩ := (B.s.k.d i r y hri hyi).cell len_eSlot (full_more hfr hjl)
      rw [hgD] at L4
      have L6 : Ld Try.prog 3 gD (0 + j * 2 + 1) (Eq wj) (.int .i64 (-1000 - (i : Int))) := .of (by rw [Nat.zero_add]; exact load3 (hcD 1 _ rfl))
      by_cases hjr : j < r.l.length
      · obtain ⟨gR, hgR, hcR⟩ := (B.s.k.o r (List.mem_of_getElem? hri)).cell len_eSlot (full_at hfr hjr)
        rw [hgR] at L2
        have L5 : Ld Try.prog 3 gR (0 + j * 2 + 1) (Eq wj) (.int .i64 (-1000 - (i : Int))) := .of (by rw [Nat.zero_add]; exact load3 (hcR 1 _ rfl))
        clear hcR hcD hcL hcM
        repeat (conv => whnf
                first
                | (refine VLoad.mk _ L1 ?_)
                | (refine VLoad.mk _ L2 ?_)
                | (refine VLoad.mk _ L3 ?_)
                | (refine VLoad.mk _ L4 ?_)
                | (refine VLoad.mk _ L5 ?_)
                | (refine VLoad.mk _ L6 ?_)
                | (refine VCmp.tt (by omega) ?_)
                | (refine VCmp.ff (by omega) ?_)
                | (refine VIn.mk (IntWalk.i64_in _ (by omega)) ?_)
                | (refine VIdx.mk _ rfl (by omega) ?_)
                | (refine VIdx.mk 0 rfl (by omega) ?_))
        try (conv => whnf)
        exact .mk (j + 1) ⟨rfl, rfl, rfl, rfl, trivial⟩ ⟨hjl, bj⟩ (by omega)
      · clear hcD hcL hcM
        repeat (conv => whnf
                first
                | (refine VLoad.mk _ L1 ?_)
                | (refine VLoad.mk _ L2 ?_)
                | (refine VLoad.mk _ L3 ?_)
                | (refine VLoad.mk _ L4 ?_)
                | (refine VLoad.mk _ L6 ?_)
                | (refine VCmp.tt (by omega) ?_)
                | (refine VCmp.ff (by omega) ?_)
                | (refine VIn.mk (IntWalk.i64_in _ (by omega)) ?_)
                | (refine VIdx.mk _ rfl (by omega) ?_)
                | (refine VIdx.mk 0 rfl (by omega) ?_))
        try (conv => whnf)
        exact .mk (j + 1) ⟨rfl, rfl, rfl, rfl, trivial⟩ ⟨hjl, bj⟩ (by omega)
    case neg =>
      repeat (conv => whnf
              first
              | (refine VCmp.tt (by omega) ?_)
              | (refine VCmp.ff (by omega) ?_)
              | (refine VIn.mk (IntWalk.i64_in _ (by omega)) ?_)
              | (refine VIdx.mk _ rfl (by omega) ?_)
              | (refine VIdx.mk 0 rfl (by omega) ?_))
      try (conv => whnf)
      exact .mk (i + 1) ⟨rfl, rfl, trivial⟩ ⟨hil, bj⟩ (by omega)
  repeat (conv => whnf
          first
          | (refine VLoad.mk _ L1 ?_)
          | (refine VCmp.tt (by omega) ?_)
          | (refine VCmp.ff (by omega) ?_)
          | (refine VIn.mk (IntWalk.i64_in _ (by omega)) ?_)
          | (refine VIdx.mk _ rfl (by omega) ?_)
          | (refine VIdx.mk 0 rfl (by omega) ?_))
  try (conv => whnf)
  have HW := bw
  clear L1 B bw hil hi
  exact .mk ⟨rfl, HW⟩
end Go.Proofs.Ytcffhfcjfjfokaa
/- The law's rest: have the outer lists their own marks? -/
namespace Go.Proofs.Ytcffhfcjfjfokaa
open Go Go.RowKit
set_option maxRecDepth 100000 in
set_option maxHeartbeats 4000000 in
theorem restB_any {w : World} {base hb : Nat} {x : BX} {o : List Value} (h : Bo w base hb x o) (qf : x.f.Q.length = x.f.P.length) (qd : x.d.Q.length = x.d.P.length) (qm : x.m.Q.length = x.m.P.length) (ff : ∀ k r, x.f.P[k]? = some r → r.l = List.replicate r.l.length (flM k)) (fd : ∀ k r, x.d.P[k]? = some r → r.l = List.replicate r.l.length (daM k)) (fm : ∀ k r, x.m.P[k]? = some r → r.l = List.replicate r.l.length (msM k)) (bbf : ∀ r ∈ x.f.P, r.l.length ≤ 1048576) (bbd : ∀ r ∈ x.d.P, r.l.length ≤ 1048576) (bbm : ∀ r ∈ x.m.P, r.l.length ≤ 1048576) (lf : x.f.P.length ≤ 1000000000000) (ld : x.d.P.length ≤ 1000000000000) (lm : x.m.P.length ≤ 1000000000000) : Calls Try.prog 94 #[.pointer (some ⟨hb, 0, none⟩)] w fun e w' => e = .returned (.bool true) ∧ Below w.heap.size w w' := by
  refine calls_vc tab_ok Try.func94 rfl ?_
  have HW : Below w.heap.size w w := Below.refl _ _
  repeat (conv => whnf
          first
          | (refine VCmp.tt (by omega) ?_)
          | (refine VCmp.ff (by omega) ?_)
          | (refine VIn.mk (IntWalk.i64_in _ (by omega)) ?_)
          | (refine VIdx.mk _ rfl (by omega) ?_)
          | (refine VIdx.mk 0 rfl (by omega) ?_))
  try (conv => whnf)
  -- kind f
  refine VLoop.mk Nat (fun i => [(0, .pointer (some ⟨hb, 0, none⟩)), (3, .int .i64 i)]) (fun i W => i ≤ x.f.P.length ∧ Below w.heap.size w W) (fun i => x.f.P.length - i) 0 ⟨rfl, rfl, trivial⟩ ⟨Nat.zero_le _, HW⟩ ?_
  clear HW
  rintro i wr ⟨hi, bw⟩
  have B := h.below bw
  have L1 : Ld Try.prog 101 hb 6 (Eq wr) (.slice x.f.L x.f.P.length x.f.cL) := .of (load_cell (by kernel_rfl) (B.r 6 _ rfl))
  by_cases hil : i < x.f.P.length
  case pos =>
    obtain ⟨r, hri⟩ : ∃ r, x.f.P[i]? = some r := ⟨_, List.getElem?_eq_getElem hil⟩
    obtain ⟨y, hyi⟩ : ∃ y, x.f.Q[i]? = some y := ⟨_, List.getElem?_eq_getElem (by rw [qf]; exact hil)⟩
    obtain ⟨gL, hgL, hcL⟩ := B.f.row hri
    rw [hgL] at L1
    have L2 : Ld Try.prog 22 gL (0 + i) (Eq wr) (.slice r.A r.l.length r.c) := .of (load_cell (by kernel_rfl) (by rw [Nat.zero_add]; exact hcL))
    have hfr := ff i r hri
    have hrl := bbf r (List.mem_of_getElem? hri)
    repeat (conv => whnf
            first
            | (refine VLoad.mk _ L1 ?_)
            | (refine VLoad.mk _ L2 ?_)
            | (refine VCmp.tt (by omega) ?_)
            | (refine VCmp.ff (by omega) ?_)
            | (refine VIn.mk (IntWalk.i64_in _ (by omega)) ?_)
            | (refine VIdx.mk _ rfl (by omega) ?_)
            | (refine VIdx.mk 0 rfl (by omega) ?_))
    try (conv => whnf)
    refine VLoop.mk Nat (fun j => [(0, .pointer (some ⟨hb, 0, none⟩)), (3, .int .i64 i), (4, .int .i64 r.l.length), (5, .int .i64 j)]) (fun j W => j ≤ r.l.length + 64 ∧ Below w.heap.size w W) (fun j => r.l.length + 64 - j) 0 ⟨rfl, rfl, rfl, rfl, trivial⟩ ⟨Nat.zero_le _, bw⟩ ?_
    clear bw B L1 L2 hcL hgL
    rintro j wj ⟨hj, bj⟩
    by_cases hjl : j < r.l.length + 64
    case pos =>
      have B := h.below bj
      have L1 : Ld Try.prog 101 hb 6 (Eq wj) (.slice x.f.L x.f.P.length x.f.cL) := .of (load_cell (by kernel_rfl) (B.r 6 _ rfl))
      have L3 : Ld Try.prog 101 hb 7 (Eq wj) (.slice x.f.M x.f.Q.length x.f.cM) := .of (load_cell (by kernel_rfl) (B.r 7 _ rfl))
      obtain ⟨gL, hgL, hcL⟩ := B.f.row hri
      obtain ⟨gM, hgM, hcM⟩ := B.f.mrow hri hyi
      rw [hgL] at L1
      rw [hgM] at L3
      have L2 : Ld Try.prog 22 gL (0 + i) (Eq wj) (.slice r.A r.l.length r.c) := .of (load_cell (by kernel_rfl) (by rw [Nat.zero_add]; exact hcL))
      have L4 : Ld Try.prog 22 gM (0 + i) (Eq wj) (.slice y.1 (r.l.length + 64) y.2) := .of (load_cell (by kernel_rfl) (by rw [Nat.zero_add]; exact hcM))
      obtain ⟨gD, hgD, hcD⟩ := (B.f.k.d i r y hri hyi).cell len_eRw (full_more hfr hjl)
      rw [hgD] at L4
      have L6 : Ld Try.prog 3 gD (0 + j * 7 + 4) (Eq wj) (.int .i64 (-1000 - (i : Int))) := .of (by rw [Nat.zero_add]; exact load3 (hcD 4 _ rfl))
      by_cases hjr : j < r.l.length
      · obtain ⟨gR, hgR, hcR⟩ := (B.f.k.o r (List.mem_of_getElem? hri)).cell len_eRw (full_at hfr hjr)
        rw [hgR] at L2
        have L5 : Ld Try.prog 3 gR (0 + j * 7 + 4) (Eq wj) (.int .i64 (-1000 - (i : Int))) := .of (by rw [Nat.zero_add]; exact load3 (hcR 4 _ rfl))
        clear hcR hcD hcL hcM
        repeat (conv => whnf
                first
                | (refine VLoad.mk _ L1 ?_)
                | (refine VLoad.mk _ L2 ?_)
                | (refine VLoad.mk _ L3 ?_)
                | (refine VLoad.mk _ L4 ?_)
                | (refine VLoad.mk _ L5 ?_)
                | (refine VLoad.mk _ L6 ?_)
                | (refine VCmp.tt (by omega) ?_)
                | (refine VCmp.ff (by omega) ?_)
                | (refine VIn.mk (IntWalk.i64_in _ (by omega)) ?_)
                | (refine VIdx.mk _ rfl (by omega) ?_)
                | (refine VIdx.mk 0 rfl (by omega) ?_))
        try (conv => whnf)
        exact .mk (j + 1) ⟨rfl, rfl, rfl, rfl, trivial⟩ ⟨hjl, bj⟩ (by omega)
      · clear hcD hcL hcM
        repeat (conv => whnf
                first
                | (refine VLoad.mk _ L1 ?_)
                | (refine VLoad.mk _ L2 ?_)
                | (refine VLoad.mk _ L3 ?_)
                | (refine VLoad.mk _ L4 ?_)
                | (refine VLoad.mk _ L6 ?_)
                | (refine VCmp.tt (by omega) ?_)
                | (refine VCmp.ff (by omega) ?_)
                | (refine VIn.mk (IntWalk.i64_in _ (by omega)) ?_)
                | (refine VIdx.mk _ rfl (by omega) ?_)
                | (refine VIdx.mk 0 rfl (by omega) ?_))
        try (conv => whnf)
        exact .mk (j + 1) ⟨rfl, rfl, rfl, rfl, trivial⟩ ⟨hjl, bj⟩ (by omega)
    case neg =>
      repeat (conv => whnf
              first
              | (refine VCmp.tt (by omega) ?_)
              | (refine VCmp.ff (by omega) ?_)
              | (refine VIn.mk (IntWalk.i64_in _ (by omega)) ?_)
              | (refine VIdx.mk _ rfl (by omega) ?_)
              | (refine VIdx.mk 0 rfl (by omega) ?_))
      try (conv => whnf)
      exact .mk (i + 1) ⟨rfl, rfl, trivial⟩ ⟨hil, bj⟩ (by omega)
  repeat (conv => whnf
          first
          | (refine VLoad.mk _ L1 ?_)
          | (refine VCmp.tt (by omega) ?_)
          | (refine VCmp.ff (by omega) ?_)
          | (refine VIn.mk (IntWalk.i64_in _ (by omega)) ?_)
          | (refine VIdx.mk _ rfl (by omega) ?_)
          | (refine VIdx.mk 0 rfl (by omega) ?_))
  try (conv => whnf)
  have HW := bw
  clear L1 B bw hil hi
  -- kind d
  refine VLoop.mk Nat (fun i => [(0, .pointer (some ⟨hb, 0, none⟩)), (6, .int .i64 i)]) (fun i W => i ≤ x.d.P.length ∧ Below w.heap.size w W) (fun i => x.d.P.length - i) 0 ⟨rfl, rfl, trivial⟩ ⟨Nat.zero_le _, HW⟩ ?_
  clear HW
  rintro i wr ⟨hi, bw⟩
  have B := h.below bw
  have L1 : Ld Try.prog 102 hb 8 (Eq wr) (.slice x.d.L x.d.P.length x.d.cL) := .of (load_cell (by kernel_rfl) (B.r 8 _ rfl))
  by_cases hil : i < x.d.P.length
  case pos =>
    obtain ⟨r, hri⟩ : ∃ r, x.d.P[i]? = some r := ⟨_, List.getElem?_eq_getElem hil⟩
    obtain ⟨y, hyi⟩ : ∃ y, x.d.Q[i]? = some y := ⟨_, List.getElem?_eq_getElem (by rw [qd]; exact hil)⟩
    obtain ⟨gL, hgL, hcL⟩ := B.d.row hri
    rw [hgL] at L1
    have L2 : Ld Try.prog 40 gL (0 + i) (Eq wr) (.slice r.A r.l.length r.c) := .of (load_cell (by kernel_rfl) (by rw [Nat.zero_add]; exact hcL))
    have hfr := fd i r hri
    have hrl := bbd r (List.mem_of_getElem? hri)
    repeat (conv => whnf
            first
            | (refine VLoad.mk _ L1 ?_)
            | (refine VLoad.mk _ L2 ?_)
            | (refine VCmp.tt (by omega) ?_)
            | (refine VCmp.ff (by omega) ?_)
            | (refine VIn.mk (IntWalk.i64_in _ (by omega)) ?_)
            | (refine VIdx.mk _ rfl (by omega) ?_)
            | (refine VIdx.mk 0 rfl (by omega) ?_))
    try (conv => whnf)
    refine VLoop.mk Nat (fun j => [(0, .pointer (some ⟨hb, 0, none⟩)), (6, .int .i64 i), (7, .int .i64 r.l.length), (8, .int .i64 j)]) (fun j W => j ≤ r.l.length + 64 ∧ Below w.heap.size w W) (fun j => r.l.length + 64 - j) 0 ⟨rfl, rfl, rfl, rfl, trivial⟩ ⟨Nat.zero_le _, bw⟩ ?_
    clear bw B L1 L2 hcL hgL
    rintro j wj ⟨hj, bj⟩
    by_cases hjl : j < r.l.length + 64
    case pos =>
      have B := h.below bj
      have L1 : Ld Try.prog 102 hb 8 (Eq wj) (.slice x.d.L x.d.P.length x.d.cL) := .of (load_cell (by kernel_rfl) (B.r 8 _ rfl))
      have L3 : Ld Try.prog 102 hb 9 (Eq wj) (.slice x.d.M x.d.Q.length x.d.cM) := .of (load_cell (by kernel_rfl) (B.r 9 _ rfl))
      obtain ⟨gL, hgL, hcL⟩ := B.d.row hri
      obtain ⟨gM, hgM, hcM⟩ := B.d.mrow hri hyi
      rw [hgL] at L1
      rw [hgM] at L3
      have L2 : Ld Try.prog 40 gL (0 + i) (Eq wj) (.slice r.A r.l.length r.c) := .of (load_cell (by kernel_rfl) (by rw [Nat.zero_add]; exact hcL))
      have L4 : Ld Try.prog 40 gM (0 + i) (Eq wj) (.slice y.1 (r.l.length + 64) y.2) := .of (load_cell (by kernel_rfl) (by rw [Nat.zero_add]; exact hcM))
      obtain ⟨gD, hgD, hcD⟩ := (B.d.k.d i r y hri hyi).cell len_eDr (full_more hfr hjl)
      rw [hgD] at L4
      have L6 : Ld Try.prog 3 gD (0 + j * 4 + 1) (Eq wj) (.int .i64 (-1000 - (i : Int))) := .of (by rw [Nat.zero_add]; exact load3 (hcD 1 _ rfl))
      by_cases hjr : j < r.l.length
      · obtain ⟨gR, hgR, hcR⟩ := (B.d.k.o r (List.mem_of_getElem? hri)).cell len_eDr (full_at hfr hjr)
        rw [hgR] at L2
        have L5 : Ld Try.prog 3 gR (0 + j * 4 + 1) (Eq wj) (.int .i64 (-1000 - (i : Int))) := .of (by rw [Nat.zero_add]; exact load3 (hcR 1 _ rfl))
        clear hcR hcD hcL hcM
        repeat (conv => whnf
                first
                | (refine VLoad.mk _ L1 ?_)
                | (refine VLoad.mk _ L2 ?_)
                | (refine VLoad.mk _ L3 ?_)
                | (refine VLoad.mk _ L4 ?_)
                | (refine VLoad.mk _ L5 ?_)
                | (refine VLoad.mk _ L6 ?_)
                | (refine VCmp.tt (by omega) ?_)
                | (refine VCmp.ff (by omega) ?_)
                | (refine VIn.mk (IntWalk.i64_in _ (by omega)) ?_)
                | (refine VIdx.mk _ rfl (by omega) ?_)
                | (refine VIdx.mk 0 rfl (by omega) ?_))
        try (conv => whnf)
        exact .mk (j + 1) ⟨rfl, rfl, rfl, rfl, trivial⟩ ⟨hjl, bj⟩ (by omega)
      · clear hcD hcL hcM
        repeat (conv => whnf
                first
                | (refine VLoad.mk _ L1 ?_)
                | (refine VLoad.mk _ L2 ?_)
                | (refine VLoad.mk _ L3 ?_)
                | (refine VLoad.mk _ L4 ?_)
                | (refine VLoad.mk _ L6 ?_)
                | (refine VCmp.tt (by omega) ?_)
                | (refine VCmp.ff (by omega) ?_)
                | (refine VIn.mk (IntWalk.i64_in _ (by omega)) ?_)
                | (refine VIdx.mk _ rfl (by omega) ?_)
                | (refine VIdx.mk 0 rfl (by omega) ?_))
        try (conv => whnf)
        exact .mk (j + 1) ⟨rfl, rfl, rfl, rfl, trivial⟩ ⟨hjl, bj⟩ (by omega)
    case neg =>
      repeat (conv => whnf
              first
              | (refine VCmp.tt (by omega) ?_)
              | (refine VCmp.ff (by omega) ?_)
              | (refine VIn.mk (IntWalk.i64_in _ (by omega)) ?_)
              | (refine VIdx.mk _ rfl (by omega) ?_)
              | (refine VIdx.mk 0 rfl (by omega) ?_))
      try (conv => whnf)
      exact .mk (i + 1) ⟨rfl, rfl, trivial⟩ ⟨hil, bj⟩ (by omega)
  repeat (conv => whnf
          first
          | (refine VLoad.mk _ L1 ?_)
          | (refine VCmp.tt (by omega) ?_)
          | (refine VCmp.ff (by omega) ?_)
          | (refine VIn.mk (IntWalk.i64_in _ (by omega)) ?_)
          | (refine VIdx.mk _ rfl (by omega) ?_)
          | (refine VIdx.mk 0 rfl (by omega) ?_))
  try (conv => whnf)
  have HW := bw
  clear L1 B bw hil hi
  -- kind m
  refine VLoop.mk Nat (fun i => [(0, .pointer (some ⟨hb, 0, none⟩)), (9, .int .i64 i)]) (fun i W => i ≤ x.m.P.length ∧ Below w.heap.size w W) (fun i => x.m.P.length - i) 0 ⟨rfl, rfl, trivial⟩ ⟨Nat.zero_le _, HW⟩ ?_
  clear HW
  rintro i wr ⟨hi, bw⟩
  have B := h.below bw
  have L1 : Ld Try.prog 103 hb 10 (Eq wr) (.slice x.m.L x.m.P.length x.m.cL) := .of (load_cell (by kernel_rfl) (B.r 10 _ rfl))
  by_cases hil : i < x.m.P.length
  case pos =>
    obtain ⟨r, hri⟩ : ∃ r, x.m.P[i]? = some r := ⟨_, List.getElem?_eq_getElem hil⟩
    obtain ⟨y, hyi⟩ : ∃ y, x.m.Q[i]? = some y := ⟨_, List.getElem?_eq_getElem (by rw [qm]; exact hil)⟩
    obtain ⟨gL, hgL, hcL⟩ := B.m.row hri
    rw [hgL] at L1
    have L2 : Ld Try.prog 44 gL (0 + i) (Eq wr) (.slice r.A r.l.length r.c) := .of (load_cell (by kernel_rfl) (by rw [Nat.zero_add]; exact hcL))
    have hfr := fm i r hri
    have hrl := bbm r (List.mem_of_getElem? hri)
    repeat (conv => whnf
            first
            | (refine VLoad.mk _ L1 ?_)
            | (refine VLoad.mk _ L2 ?_)
            | (refine VCmp.tt (by omega) ?_)
            | (refine VCmp.ff (by omega) ?_)
            | (refine VIn.mk (IntWalk.i64_in _ (by omega)) ?_)
            | (refine VIdx.mk _ rfl (by omega) ?_)
            | (refine VIdx.mk 0 rfl (by omega) ?_))
    try (conv => whnf)
    refine VLoop.mk Nat (fun j => [(0, .pointer (some ⟨hb, 0, none⟩)), (9, .int .i64 i), (10, .int .i64 r.l.length), (11, .int .i64 j)]) (fun j W => j ≤ r.l.length + 64 ∧ Below w.heap.size w W) (fun j => r.l.length + 64 - j) 0 ⟨rfl, rfl, rfl, rfl, trivial⟩ ⟨Nat.zero_le _, bw⟩ ?_
    clear bw B L1 L2 hcL hgL
    rintro j wj ⟨hj, bj⟩
    by_cases hjl : j < r.l.length + 64
    case pos =>
      have B := h.below bj
      have L1 : Ld Try.prog 103 hb 10 (Eq wj) (.slice x.m.L x.m.P.length x.m.cL) := .of (load_cell (by kernel_rfl) (B.r 10 _ rfl))
      have L3 : Ld Try.prog 103 hb 11 (Eq wj) (.slice x.m.M x.m.Q.length x.m.cM) := .of (load_cell (by kernel_rfl) (B.r 11 _ rfl))
      obtain ⟨gL, hgL, hcL⟩ := B.m.row hri
      obtain ⟨gM, hgM, hcM⟩ := B.m.mrow hri hyi
      rw [hgL] at L1
      rw [hgM] at L3
      have L2 : Ld Try.prog 44 gL (0 + i) (Eq wj) (.slice r.A r.l.length r.c) := .of (load_cell (by kernel_rfl) (by rw [Nat.zero_add]; exact hcL))
      have L4 : Ld Try.prog 44 gM (0 + i) (Eq wj) (.slice y.1 (r.l.length + 64) y.2) := .of (load_cell (by kernel_rfl) (by rw [Nat.zero_add]; exact hcM))
      obtain ⟨gD, hgD, hcD⟩ := (B.m.k.d i r y hri hyi).cell len_eDr (full_more hfr hjl)
      rw [hgD] at L4
      have L6 : Ld Try.prog 3 gD (0 + j * 4 + 2) (Eq wj) (.int .i64 (-1000 - (i : Int))) := .of (by rw [Nat.zero_add]; exact load3 (hcD 2 _ rfl))
      by_cases hjr : j < r.l.length
      · obtain ⟨gR, hgR, hcR⟩ := (B.m.k.o r (List.mem_of_getElem? hri)).cell len_eDr (full_at hfr hjr)
        rw [hgR] at L2
        have L5 : Ld Try.prog 3 gR (0 + j * 4 + 2) (Eq wj) (.int .i64 (-1000 - (i : Int))) := .of (by rw [Nat.zero_add]; exact load3 (hcR 2 _ rfl))
        clear hcR hcD hcL hcM
        repeat (conv => whnf
                first
                | (refine VLoad.mk _ L1 ?_)
                | (refine VLoad.mk _ L2 ?_)
                | (refine VLoad.mk _ L3 ?_)
                | (refine VLoad.mk _ L4 ?_)
                | (refine VLoad.mk _ L5 ?_)
                | (refine VLoad.mk _ L6 ?_)
                | (refine VCmp.tt (by omega) ?_)
                | (refine VCmp.ff (by omega) ?_)
                | (refine VIn.mk (IntWalk.i64_in _ (by omega)) ?_)
                | (refine VIdx.mk _ rfl (by omega) ?_)
                | (refine VIdx.mk 0 rfl (by omega) ?_))
        try (conv => whnf)
        exact .mk (j + 1) ⟨rfl, rfl, rfl, rfl, trivial⟩ ⟨hjl, bj⟩ (by omega)
      · clear hcD hcL hcM
        repeat (conv => whnf
                first
                | (refine VLoad.mk _ L1 ?_)
                | (refine VLoad.mk _ L2 ?_)
                | (refine VLoad.mk _ L3 ?_)
                | (refine VLoad.mk _ L4 ?_)
                | (refine VLoad.mk _ L6 ?_)
                | (refine VCmp.tt (by omega) ?_)
                | (refine VCmp.ff (by omega) ?_)
                | (refine VIn.mk (IntWalk.i64_in _ (by omega)) ?_)
                | (refine VIdx.mk _ rfl (by omega) ?_)
                | (refine VIdx.mk 0 rfl (by omega) ?_))
        try (conv => whnf)
        exact .mk (j + 1) ⟨rfl, rfl, rfl, rfl, trivial⟩ ⟨hjl, bj⟩ (by omega)
    case neg =>
      repeat (conv => whnf
              first
              | (refine VCmp.tt (by omega) ?_)
              | (refine VCmp.ff (by omega) ?_)
              | (refine VIn.mk (IntWalk.i64_in _ (by omega)) ?_)
              | (refine VIdx.mk _ rfl (by omega) ?_)
              | (refine VIdx.mk 0 rfl (by omega) ?_))
      try (conv => whnf)
      exact .mk (i + 1) ⟨rfl, rfl, trivial⟩ ⟨hil, bj⟩ (by omega)
  repeat (conv => whnf
          first
          | (refine VLoad.mk _ L1 ?_)
          | (refine VCmp.tt (by omega) ?_)
          | (refine VCmp.ff (by omega) ?_)
          | (refine VIn.mk (IntWalk.i64_in _ (by omega)) ?_)
          | (refine VIdx.mk _ rfl (by omega) ?_)
          | (refine VIdx.mk 0 rfl (by omega) ?_))
  try (conv => whnf)
  have HW := bw
  clear L1 B bw hil hi
  exact .mk ⟨rfl, HW⟩
end Go.Proofs.Ytcffhfcjfjfokaa
/- Two equal lists of contents are told alike. -/
namespace Go.Proofs.Ytcffhfcjfjfokaa
open Go.RowKit
set_option maxRecDepth 100000 in
set_option maxHeartbeats 2000000 in
theorem sameFls_yes (A A' : Option Addr) (cA cA' N : Nat) (fs : List Fl) (w : World) (hN : N ≤ w.heap.size) (hA : Fls w N A fs) (hA' : Fls w N A' fs) (hl : fs.length ≤ 9223372036854775807) :
    Calls Try.prog 55 #[.slice A fs.length cA, .slice A' fs.length cA'] w fun x w' => x = .returned (.bool true) ∧ Below w.heap.size w w' := by
  go_enter Try.func55, Try.ntmps55
  go_wp2
  go_loopw [5] (fun k wr => ∃ q : Nat, k = .int .i64 q ∧ q ≤ fs.length ∧ Below w.heap.size w wr) (fun k _ => fs.length - (intOf k).toNat)
  case atStart => exact ⟨0, rfl, by omega, Below.refl _ _⟩
  case round =>
    obtain ⟨q, rfl, hq, hb⟩ := hrel
    have hsz := hb.size
    by_cases hlt : q < fs.length
    · obtain ⟨g, o, f, X, cX, Y, cY, rfl, hg, hf, ⟨c0, c1, c2, c3, c4, c5, c6⟩, hr⟩ := (hA.below hb hN).at_ hlt
      obtain ⟨g', o', f', X', cX', Y', cY', rfl, hg', hf', ⟨d0, d1, d2, d3, d4, d5, d6⟩, hr'⟩ := (hA'.below hb hN).at_ hlt
      obtain rfl : f = f' := by have h1 := hf.out; rw [hf'.out] at h1; exact (Option.some.inj h1).symm
      have hsb : sameB f f = true := by simp [sameB]
      clear hA hA'
      go_wp2
      go_still_tail 8, (by kernel_rfl)
      change wpList _ _ _ _ _ wr.drew
      go_wp2_with (go_at_call 64; refine (same_any (w := wr.drew) f f _ _ _ _ _ _ _ _ N (by show N ≤ wr.heap.size; omega) (FlRows.below hr (Below.drew (Below.refl N wr)) (Nat.le_refl _)) (FlRows.below hr' (Below.drew (Below.refl N wr)) (Nat.le_refl _))).mono ?_; rintro e w' ⟨rfl, hbw⟩)
      go_roundw
      case rel => go_light; exact ⟨q + 1, by go_num, by omega, (Below.drew hb).trans (hbw.mono (by show _ ≤ wr.heap.size; omega))⟩
      case measure => go_light; simp [intOf]; omega
    · go_wp2
      go_ret
      go_light
      exact ⟨rfl, hb⟩
end Go.Proofs.Ytcffhfcjfjfokaa
/- The law's sameInts. -/
namespace Go.Proofs.Ytcffhfcjfjfokaa
open Go.RowKit
/-- Two rows that hold the same numbers. -/
theorem sameInts_yes (A B : Option Addr) (cA cB N : Nat) (l : List Int) (w : World) (hN : N ≤ w.heap.size) (hA : RowAt w N 1 eInt A l) (hB : RowAt w N 1 eInt B l) (hl : l.length ≤ 9223372036854775807) :
    Calls Try.prog 37 #[.slice A l.length cA, .slice B l.length cB] w fun x w' => x = .returned (.bool true) ∧ Below w.heap.size w w' := by
  go_enter Try.func37, Try.ntmps37
  go_wp2
  go_loopw [5] (fun k wr => ∃ q : Nat, k = .int .i64 q ∧ q ≤ l.length ∧ Below w.heap.size w wr) (fun k _ => l.length - (intOf k).toNat)
  case atStart => exact ⟨0, rfl, by omega, Below.refl _ _⟩
  case round =>
    obtain ⟨q, rfl, hq, hb⟩ := hrel
    have hsz := hb.size
    by_cases hlt : q < l.length
    · obtain ⟨g, o, x, rfl, hg, hx, c0⟩ := (hA.below hb hN).int hlt
      obtain ⟨g', o', x', rfl, hg', hx', d0⟩ := (hB.below hb hN).int hlt
      obtain rfl : x = x' := by have := hx'.out; rw [hx.out] at this; injection this
      go_wp2
      go_quiet (fail)
      go_wp2
      go_roundw
      case rel => go_light; exact ⟨q + 1, by go_num, by omega, below_drewN hb _⟩
      case measure => go_light; simp [intOf]; omega
    · go_wp2
      go_ret
      exact ⟨rfl, hb⟩
end Go.Proofs.Ytcffhfcjfjfokaa
