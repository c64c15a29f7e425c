/- RestB SameFls SameIn As Alone BoAd BkNew, joined. -/
import Derived.StillTailTactics
import Derived.Test.YtcffhfcjfjfokaaSu4
import Derived.Test.YtcffhfcjfjfokaaSu8
set_option linter.unusedVariables false
set_option linter.unusedSimpArgs false
namespace Go.Proofs.Ytcffhfcjfjfokaa
open Go Go.RowKit
set_option maxRecDepth 100000 in
set_option maxHeartbeats 4000000 in
theorem restB_any {w : World} {base hb : Nat} {x : BX} {o : List Value} (h : Bo w base hb x o) (qf : x.f.Q.length = x.f.P.length) (qd : x.d.Q.length = x.d.P.length) (qm : x.m.Q.length = x.m.P.length) (ff : ∀ k r, x.f.P[k]? = some r → r.l = List.replicate r.l.length (flM k)) (fd : ∀ k r, x.d.P[k]? = some r → r.l = List.replicate r.l.length (daM k)) (fm : ∀ k r, x.m.P[k]? = some r → r.l = List.replicate r.l.length (msM k)) (bbf : ∀ r ∈ x.f.P, r.l.length ≤ 1048576) (bbd : ∀ r ∈ x.d.P, r.l.length ≤ 1048576) (bbm : ∀ r ∈ x.m.P, r.l.length ≤ 1048576) (lf : x.f.P.length ≤ 1000000000000) (ld : x.d.P.length ≤ 1000000000000) (lm : x.m.P.length ≤ 1000000000000) : Calls Try.prog 94 #[.pointer (some ⟨hb, 0, none⟩)] w fun e w' => e = .returned (.bool true) ∧ Below w.heap.size w w' := by
  refine calls_vc tab_ok Try.func94 rfl ?_
  have HW : Below w.heap.size w w := Below.refl _ _
  repeat ((conv => whnf); first | (refine VCmp.tt (by omega) ?_) | (refine VCmp.ff (by omega) ?_) | (refine VIn.mk (IntWalk.i64_in _ (by omega)) ?_) | (refine VIdx.mk _ rfl (by omega) ?_) | (refine VIdx.mk 0 rfl (by omega) ?_))
  try (conv => whnf)
  -- kind f
  refine VLoop.mk Nat (fun i => [(0, .pointer (some ⟨hb, 0, none⟩)), (3, .int .i64 i)]) (fun i W => i ≤ x.f.P.length ∧ Below w.heap.size w W) (fun i => x.f.P.length - i) 0 ⟨rfl, rfl, trivial⟩ ⟨Nat.zero_le _, HW⟩ ?_
  clear HW
  rintro i wr ⟨hi, bw⟩
  have B := h.below bw
  have L1 : Ld Try.prog 101 hb 6 (Eq wr) (.slice x.f.L x.f.P.length x.f.cL) := .of (load_cell (by kernel_rfl) (B.r 6 _ rfl))
  by_cases hil : i < x.f.P.length
  case pos =>
    obtain ⟨r, hri⟩ : ∃ r, x.f.P[i]? = some r := ⟨_, List.getElem?_eq_getElem hil⟩
    obtain ⟨y, hyi⟩ : ∃ y, x.f.Q[i]? = some y := ⟨_, List.getElem?_eq_getElem (by rw [qf]; exact hil)⟩
    obtain ⟨gL, hgL, hcL⟩ := B.f.row hri
    rw [hgL] at L1
    have L2 : Ld Try.prog 22 gL (0 + i) (Eq wr) (.slice r.A r.l.length r.c) := .of (load_cell (by kernel_rfl) (by rw [Nat.zero_add]; exact hcL))
    have hfr := ff i r hri
    have hrl := bbf r (List.mem_of_getElem? hri)
    repeat ((conv => whnf); first | (refine VLoad.mk _ L1 ?_) | (refine VLoad.mk _ L2 ?_) | (refine VCmp.tt (by omega) ?_) | (refine VCmp.ff (by omega) ?_) | (refine VIn.mk (IntWalk.i64_in _ (by omega)) ?_) | (refine VIdx.mk _ rfl (by omega) ?_) | (refine VIdx.mk 0 rfl (by omega) ?_))
    try (conv => whnf)
    refine VLoop.mk Nat (fun j => [(0, .pointer (some ⟨hb, 0, none⟩)), (3, .int .i64 i), (4, .int .i64 r.l.length), (5, .int .i64 j)]) (fun j W => j ≤ r.l.length + 64 ∧ Below w.heap.size w W) (fun j => r.l.length + 64 - j) 0 ⟨rfl, rfl, rfl, rfl, trivial⟩ ⟨Nat.zero_le _, bw⟩ ?_
    clear bw B L1 L2 hcL hgL
    rintro j wj ⟨hj, bj⟩
    by_cases hjl : j < r.l.length + 64
    case pos =>
      have B := h.below bj
      have L1 : Ld Try.prog 101 hb 6 (Eq wj) (.slice x.f.L x.f.P.length x.f.cL) := .of (load_cell (by kernel_rfl) (B.r 6 _ rfl))
      have L3 : Ld Try.prog 101 hb 7 (Eq wj) (.slice x.f.M x.f.Q.length x.f.cM) := .of (load_cell (by kernel_rfl) (B.r 7 _ rfl))
      obtain ⟨gL, hgL, hcL⟩ := B.f.row hri
      obtain ⟨gM, hgM, hcM⟩ := B.f.mrow hri hyi
      rw [hgL] at L1
      rw [hgM] at L3
      have L2 : Ld Try.prog 22 gL (0 + i) (Eq wj) (.slice r.A r.l.length r.c) := .of (load_cell (by kernel_rfl) (by rw [Nat.zero_add]; exact hcL))
      have L4 : Ld Try.prog 22 gM (0 + i) (Eq wj) (.slice y.1 (r.l.length + 64) y.2) := .of (load_cell (by kernel_rfl) (by rw [Nat.zero_add]; exact hcM))
      obtain ⟨gD, hgD, hcD⟩ := (B.f.k.d i r y hri hyi).cell len_eRw (full_more hfr hjl)
      rw [hgD] at L4
      have L6 : Ld Try.prog 3 gD (0 + j * 7 + 4) (Eq wj) (.int .i64 (-1000 - (i : Int))) := .of (by rw [Nat.zero_add]; exact load3 (hcD 4 _ rfl))
      by_cases hjr : j < r.l.length
      · obtain ⟨gR, hgR, hcR⟩ := (B.f.k.o r (List.mem_of_getElem? hri)).cell len_eRw (full_at hfr hjr)
        rw [hgR] at L2
        have L5 : Ld Try.prog 3 gR (0 + j * 7 + 4) (Eq wj) (.int .i64 (-1000 - (i : Int))) := .of (by rw [Nat.zero_add]; exact load3 (hcR 4 _ rfl))
        clear hcR hcD hcL hcM
        repeat ((conv => whnf); first | (refine VLoad.mk _ L1 ?_) | (refine VLoad.mk _ L2 ?_) | (refine VLoad.mk _ L3 ?_) | (refine VLoad.mk _ L4 ?_) | (refine VLoad.mk _ L5 ?_) | (refine VLoad.mk _ L6 ?_) | (refine VCmp.tt (by omega) ?_) | (refine VCmp.ff (by omega) ?_) | (refine VIn.mk (IntWalk.i64_in _ (by omega)) ?_) | (refine VIdx.mk _ rfl (by omega) ?_) | (refine VIdx.mk 0 rfl (by omega) ?_))
        try (conv => whnf)
        exact .mk (j + 1) ⟨rfl, rfl, rfl, rfl, trivial⟩ ⟨hjl, bj⟩ (by omega)
      · clear hcD hcL hcM
        repeat ((conv => whnf); first | (refine VLoad.mk _ L1 ?_) | (refine VLoad.mk _ L2 ?_) | (refine VLoad.mk _ L3 ?_) | (refine VLoad.mk _ L4 ?_) | (refine VLoad.mk _ L6 ?_) | (refine VCmp.tt (by omega) ?_) | (refine VCmp.ff (by omega) ?_) | (refine VIn.mk (IntWalk.i64_in _ (by omega)) ?_) | (refine VIdx.mk _ rfl (by omega) ?_) | (refine VIdx.mk 0 rfl (by omega) ?_))
        try (conv => whnf)
        exact .mk (j + 1) ⟨rfl, rfl, rfl, rfl, trivial⟩ ⟨hjl, bj⟩ (by omega)
    case neg =>
      repeat ((conv => whnf); first | (refine VCmp.tt (by omega) ?_) | (refine VCmp.ff (by omega) ?_) | (refine VIn.mk (IntWalk.i64_in _ (by omega)) ?_) | (refine VIdx.mk _ rfl (by omega) ?_) | (refine VIdx.mk 0 rfl (by omega) ?_))
      try (conv => whnf)
      exact .mk (i + 1) ⟨rfl, rfl, trivial⟩ ⟨hil, bj⟩ (by omega)
  repeat ((conv => whnf); first | (refine VLoad.mk _ L1 ?_) | (refine VCmp.tt (by omega) ?_) | (refine VCmp.ff (by omega) ?_) | (refine VIn.mk (IntWalk.i64_in _ (by omega)) ?_) | (refine VIdx.mk _ rfl (by omega) ?_) | (refine VIdx.mk 0 rfl (by omega) ?_))
  try (conv => whnf)
  have HW := bw
  clear L1 B bw hil hi
  -- kind d
  refine VLoop.mk Nat (fun i => [(0, .pointer (some ⟨hb, 0, none⟩)), (6, .int .i64 i)]) (fun i W => i ≤ x.d.P.length ∧ Below w.heap.size w W) (fun i => x.d.P.length - i) 0 ⟨rfl, rfl, trivial⟩ ⟨Nat.zero_le _, HW⟩ ?_
  clear HW
  rintro i wr ⟨hi, bw⟩
  have B := h.below bw
  have L1 : Ld Try.prog 102 hb 8 (Eq wr) (.slice x.d.L x.d.P.length x.d.cL) := .of (load_cell (by kernel_rfl) (B.r 8 _ rfl))
  by_cases hil : i < x.d.P.length
  case pos =>
    obtain ⟨r, hri⟩ : ∃ r, x.d.P[i]? = some r := ⟨_, List.getElem?_eq_getElem hil⟩
    obtain ⟨y, hyi⟩ : ∃ y, x.d.Q[i]? = some y := ⟨_, List.getElem?_eq_getElem (by rw [qd]; exact hil)⟩
    obtain ⟨gL, hgL, hcL⟩ := B.d.row hri
    rw [hgL] at L1
    have L2 : Ld Try.prog 40 gL (0 + i) (Eq wr) (.slice r.A r.l.length r.c) := .of (load_cell (by kernel_rfl) (by rw [Nat.zero_add]; exact hcL))
    have hfr := fd i r hri
    have hrl := bbd r (List.mem_of_getElem? hri)
    repeat ((conv => whnf); first | (refine VLoad.mk _ L1 ?_) | (refine VLoad.mk _ L2 ?_) | (refine VCmp.tt (by omega) ?_) | (refine VCmp.ff (by omega) ?_) | (refine VIn.mk (IntWalk.i64_in _ (by omega)) ?_) | (refine VIdx.mk _ rfl (by omega) ?_) | (refine VIdx.mk 0 rfl (by omega) ?_))
    try (conv => whnf)
    refine VLoop.mk Nat (fun j => [(0, .pointer (some ⟨hb, 0, none⟩)), (6, .int .i64 i), (7, .int .i64 r.l.length), (8, .int .i64 j)]) (fun j W => j ≤ r.l.length + 64 ∧ Below w.heap.size w W) (fun j => r.l.length + 64 - j) 0 ⟨rfl, rfl, rfl, rfl, trivial⟩ ⟨Nat.zero_le _, bw⟩ ?_
    clear bw B L1 L2 hcL hgL
    rintro j wj ⟨hj, bj⟩
    by_cases hjl : j < r.l.length + 64
    case pos =>
      have B := h.below bj
      have L1 : Ld Try.prog 102 hb 8 (Eq wj) (.slice x.d.L x.d.P.length x.d.cL) := .of (load_cell (by kernel_rfl) (B.r 8 _ rfl))
      have L3 : Ld Try.prog 102 hb 9 (Eq wj) (.slice x.d.M x.d.Q.length x.d.cM) := .of (load_cell (by kernel_rfl) (B.r 9 _ rfl))
      obtain ⟨gL, hgL, hcL⟩ := B.d.row hri
      obtain ⟨gM, hgM, hcM⟩ := B.d.mrow hri hyi
      rw [hgL] at L1
      rw [hgM] at L3
      have L2 : Ld Try.prog 40 gL (0 + i) (Eq wj) (.slice r.A r.l.length r.c) := .of (load_cell (by kernel_rfl) (by rw [Nat.zero_add]; exact hcL))
      have L4 : Ld Try.prog 40 gM (0 + i) (Eq wj) (.slice y.1 (r.l.length + 64) y.2) := .of (load_cell (by kernel_rfl) (by rw [Nat.zero_add]; exact hcM))
      obtain ⟨gD, hgD, hcD⟩ := (B.d.k.d i r y hri hyi).cell len_eDr (full_more hfr hjl)
      rw [hgD] at L4
      have L6 : Ld Try.prog 3 gD (0 + j * 4 + 1) (Eq wj) (.int .i64 (-1000 - (i : Int))) := .of (by rw [Nat.zero_add]; exact load3 (hcD 1 _ rfl))
      by_cases hjr : j < r.l.length
      · obtain ⟨gR, hgR, hcR⟩ := (B.d.k.o r (List.mem_of_getElem? hri)).cell len_eDr (full_at hfr hjr)
        rw [hgR] at L2
        have L5 : Ld Try.prog 3 gR (0 + j * 4 + 1) (Eq wj) (.int .i64 (-1000 - (i : Int))) := .of (by rw [Nat.zero_add]; exact load3 (hcR 1 _ rfl))
        clear hcR hcD hcL hcM
        repeat ((conv => whnf); first | (refine VLoad.mk _ L1 ?_) | (refine VLoad.mk _ L2 ?_) | (refine VLoad.mk _ L3 ?_) | (refine VLoad.mk _ L4 ?_) | (refine VLoad.mk _ L5 ?_) | (refine VLoad.mk _ L6 ?_) | (refine VCmp.tt (by omega) ?_) | (refine VCmp.ff (by omega) ?_) | (refine VIn.mk (IntWalk.i64_in _ (by omega)) ?_) | (refine VIdx.mk _ rfl (by omega) ?_) | (refine VIdx.mk 0 rfl (by omega) ?_))
        try (conv => whnf)
        exact .mk (j + 1) ⟨rfl, rfl, rfl, rfl, trivial⟩ ⟨hjl, bj⟩ (by omega)
      · clear hcD hcL hcM
        repeat ((conv => whnf); first | (refine VLoad.mk _ L1 ?_) | (refine VLoad.mk _ L2 ?_) | (refine VLoad.mk _ L3 ?_) | (refine VLoad.mk _ L4 ?_) | (refine VLoad.mk _ L6 ?_) | (refine VCmp.tt (by omega) ?_) | (refine VCmp.ff (by omega) ?_) | (refine VIn.mk (IntWalk.i64_in _ (by omega)) ?_) | (refine VIdx.mk _ rfl (by omega) ?_) | (refine VIdx.mk 0 rfl (by omega) ?_))
        try (conv => whnf)
        exact .mk (j + 1) ⟨rfl, rfl, rfl, rfl, trivial⟩ ⟨hjl, bj⟩ (by omega)
    case neg =>
      repeat ((conv => whnf); first | (refine VCmp.tt (by omega) ?_) | (refine VCmp.ff (by omega) ?_) | (refine VIn.mk (IntWalk.i64_in _ (by omega)) ?_) | (refine VIdx.mk _ rfl (by omega) ?_) | (refine VIdx.mk 0 rfl (by omega) ?_))
      try (conv => whnf)
      exact .mk (i + 1) ⟨rfl, rfl, trivial⟩ ⟨hil, bj⟩ (by omega)
  repeat ((conv => whnf); first | (refine VLoad.mk _ L1 ?_) | (refine VCmp.tt (by omega) ?_) | (refine VCmp.ff (by omega) ?_) | (refine VIn.mk (IntWalk.i64_in _ (by omega)) ?_) | (refine VIdx.mk _ rfl (by omega) ?_) | (refine VIdx.mk 0 rfl (by omega) ?_))
  try (conv => whnf)
  have HW := bw
  clear L1 B bw hil hi
  -- kind m
  refine VLoop.mk Nat (fun i => [(0, .pointer (some ⟨hb, 0, none⟩)), (9, .int .i64 i)]) (fun i W => i ≤ x.m.P.length ∧ Below w.heap.size w W) (fun i => x.m.P.length - i) 0 ⟨rfl, rfl, trivial⟩ ⟨Nat.zero_le _, HW⟩ ?_
  clear HW
  rintro i wr ⟨hi, bw⟩
  have B := h.below bw
  have L1 : Ld Try.prog 103 hb 10 (Eq wr) (.slice x.m.L x.m.P.length x.m.cL) := .of (load_cell (by kernel_rfl) (B.r 10 _ rfl))
  by_cases hil : i < x.m.P.length
  case pos =>
    obtain ⟨r, hri⟩ : ∃ r, x.m.P[i]? = some r := ⟨_, List.getElem?_eq_getElem hil⟩
    obtain ⟨y, hyi⟩ : ∃ y, x.m.Q[i]? = some y := ⟨_, List.getElem?_eq_getElem (by rw [qm]; exact hil)⟩
    obtain ⟨gL, hgL, hcL⟩ := B.m.row hri
    rw [hgL] at L1
    have L2 : Ld Try.prog 44 gL (0 + i) (Eq wr) (.slice r.A r.l.length r.c) := .of (load_cell (by kernel_rfl) (by rw [Nat.zero_add]; exact hcL))
    have hfr := fm i r hri
    have hrl := bbm r (List.mem_of_getElem? hri)
    repeat ((conv => whnf); first | (refine VLoad.mk _ L1 ?_) | (refine VLoad.mk _ L2 ?_) | (refine VCmp.tt (by omega) ?_) | (refine VCmp.ff (by omega) ?_) | (refine VIn.mk (IntWalk.i64_in _ (by omega)) ?_) | (refine VIdx.mk _ rfl (by omega) ?_) | (refine VIdx.mk 0 rfl (by omega) ?_))
    try (conv => whnf)
    refine VLoop.mk Nat (fun j => [(0, .pointer (some ⟨hb, 0, none⟩)), (9, .int .i64 i), (10, .int .i64 r.l.length), (11, .int .i64 j)]) (fun j W => j ≤ r.l.length + 64 ∧ Below w.heap.size w W) (fun j => r.l.length + 64 - j) 0 ⟨rfl, rfl, rfl, rfl, trivial⟩ ⟨Nat.zero_le _, bw⟩ ?_
    clear bw B L1 L2 hcL hgL
    rintro j wj ⟨hj, bj⟩
    by_cases hjl : j < r.l.length + 64
    case pos =>
      have B := h.below bj
      have L1 : Ld Try.prog 103 hb 10 (Eq wj) (.slice x.m.L x.m.P.length x.m.cL) := .of (load_cell (by kernel_rfl) (B.r 10 _ rfl))
      have L3 : Ld Try.prog 103 hb 11 (Eq wj) (.slice x.m.M x.m.Q.length x.m.cM) := .of (load_cell (by kernel_rfl) (B.r 11 _ rfl))
      obtain ⟨gL, hgL, hcL⟩ := B.m.row hri
      obtain ⟨gM, hgM, hcM⟩ := B.m.mrow hri hyi
      rw [hgL] at L1
      rw [hgM] at L3
      have L2 : Ld Try.prog 44 gL (0 + i) (Eq wj) (.slice r.A r.l.length r.c) := .of (load_cell (by kernel_rfl) (by rw [Nat.zero_add]; exact hcL))
      have L4 : Ld Try.prog 44 gM (0 + i) (Eq wj) (.slice y.1 (r.l.length + 64) y.2) := .of (load_cell (by kernel_rfl) (by rw [Nat.zero_add]; exact hcM))
      obtain ⟨gD, hgD, hcD⟩ := (B.m.k.d i r y hri hyi).cell len_eDr (full_more hfr hjl)
      rw [hgD] at L4
      have L6 : Ld Try.prog 3 gD (0 + j * 4 + 2) (Eq wj) (.int .i64 (-1000 - (i : Int))) := .of (by rw [Nat.zero_add]; exact load3 (hcD 2 _ rfl))
      by_cases hjr : j < r.l.length
      · obtain ⟨gR, hgR, hcR⟩ := (B.m.k.o r (List.mem_of_getElem? hri)).cell len_eDr (full_at hfr hjr)
        rw [hgR] at L2
        have L5 : Ld Try.prog 3 gR (0 + j * 4 + 2) (Eq wj) (.int .i64 (-1000 - (i : Int))) := .of (by rw [Nat.zero_add]; exact load3 (hcR 2 _ rfl))
        clear hcR hcD hcL hcM
        repeat ((conv => whnf); first | (refine VLoad.mk _ L1 ?_) | (refine VLoad.mk _ L2 ?_) | (refine VLoad.mk _ L3 ?_) | (refine VLoad.mk _ L4 ?_) | (refine VLoad.mk _ L5 ?_) | (refine VLoad.mk _ L6 ?_) | (refine VCmp.tt (by omega) ?_) | (refine VCmp.ff (by omega) ?_) | (refine VIn.mk (IntWalk.i64_in _ (by omega)) ?_) | (refine VIdx.mk _ rfl (by omega) ?_) | (refine VIdx.mk 0 rfl (by omega) ?_))
        try (conv => whnf)
        exact .mk (j + 1) ⟨rfl, rfl, rfl, rfl, trivial⟩ ⟨hjl, bj⟩ (by omega)
      · clear hcD hcL hcM
        repeat ((conv => whnf); first | (refine VLoad.mk _ L1 ?_) | (refine VLoad.mk _ L2 ?_) | (refine VLoad.mk _ L3 ?_) | (refine VLoad.mk _ L4 ?_) | (refine VLoad.mk _ L6 ?_) | (refine VCmp.tt (by omega) ?_) | (refine VCmp.ff (by omega) ?_) | (refine VIn.mk (IntWalk.i64_in _ (by omega)) ?_) | (refine VIdx.mk _ rfl (by omega) ?_) | (refine VIdx.mk 0 rfl (by omega) ?_))
        try (conv => whnf)
        exact .mk (j + 1) ⟨rfl, rfl, rfl, rfl, trivial⟩ ⟨hjl, bj⟩ (by omega)
    case neg =>
      repeat ((conv => whnf); first | (refine VCmp.tt (by omega) ?_) | (refine VCmp.ff (by omega) ?_) | (refine VIn.mk (IntWalk.i64_in _ (by omega)) ?_) | (refine VIdx.mk _ rfl (by omega) ?_) | (refine VIdx.mk 0 rfl (by omega) ?_))
      try (conv => whnf)
      exact .mk (i + 1) ⟨rfl, rfl, trivial⟩ ⟨hil, bj⟩ (by omega)
  repeat ((conv => whnf); first | (refine VLoad.mk _ L1 ?_) | (refine VCmp.tt (by omega) ?_) | (refine VCmp.ff (by omega) ?_) | (refine VIn.mk (IntWalk.i64_in _ (by omega)) ?_) | (refine VIdx.mk _ rfl (by omega) ?_) | (refine VIdx.mk 0 rfl (by omega) ?_))
  try (conv => whnf)
  have HW := bw
  clear L1 B bw hil hi
  exact .mk ⟨rfl, HW⟩
end Go.Proofs.Ytcffhfcjfjfokaa
namespace Go.Proofs.Ytcffhfcjfjfokaa
open Go.RowKit
set_option maxRecDepth 100000 in
set_option maxHeartbeats 2000000 in
theorem sameFls_yes (A A' : Option Addr) (cA cA' N : Nat) (fs : List Fl) (w : World) (hN : N ≤ w.heap.size) (hA : Fls w N A fs) (hA' : Fls w N A' fs) (hl : fs.length ≤ 9223372036854775807) :
    Calls Try.prog 55 #[.slice A fs.length cA, .slice A' fs.length cA'] w fun x w' => x = .returned (.bool true) ∧ Below w.heap.size w w' := by
  go_enter Try.func55, Try.ntmps55
  go_wp2
  go_loopw [5] (fun k wr => ∃ q : Nat, k = .int .i64 q ∧ q ≤ fs.length ∧ Below w.heap.size w wr) (fun k _ => fs.length - (intOf k).toNat)
  case atStart => exact ⟨0, rfl, by omega, Below.refl _ _⟩
  case round =>
    obtain ⟨q, rfl, hq, hb⟩ := hrel
    have hsz := hb.size
    by_cases hlt : q < fs.length
    · obtain ⟨g, o, f, X, cX, Y, cY, rfl, hg, hf, ⟨c0, c1, c2, c3, c4, c5, c6⟩, hr⟩ := (hA.below hb hN).at_ hlt
      obtain ⟨g', o', f', X', cX', Y', cY', rfl, hg', hf', ⟨d0, d1, d2, d3, d4, d5, d6⟩, hr'⟩ := (hA'.below hb hN).at_ hlt
      obtain rfl : f = f' := by have h1 := hf.out; rw [hf'.out] at h1; exact (Option.some.inj h1).symm
      have hsb : sameB f f = true := by simp [sameB]
      clear hA hA'
      go_wp2
      go_still_tail 8, (by kernel_rfl)
      change wpList _ _ _ _ _ wr.drew
      go_wp2_with (go_at_call 64; refine (same_any (w := wr.drew) f f _ _ _ _ _ _ _ _ N (by show N ≤ wr.heap.size; omega) (FlRows.below hr (Below.drew (Below.refl N wr)) (Nat.le_refl _)) (FlRows.below hr' (Below.drew (Below.refl N wr)) (Nat.le_refl _))).mono ?_; rintro e w' ⟨rfl, hbw⟩)
      go_roundw
      case rel => go_light; exact ⟨q + 1, by go_num, by omega, (Below.drew hb).trans (hbw.mono (by show _ ≤ wr.heap.size; omega))⟩
      case measure => go_light; simp [intOf]; omega
    · go_wp2
      go_ret
      go_light
      exact ⟨rfl, hb⟩
end Go.Proofs.Ytcffhfcjfjfokaa
namespace Go.Proofs.Ytcffhfcjfjfokaa
open Go.RowKit
theorem sameInts_yes (A B : Option Addr) (cA cB N : Nat) (l : List Int) (w : World) (hN : N ≤ w.heap.size) (hA : RowAt w N 1 eInt A l) (hB : RowAt w N 1 eInt B l) (hl : l.length ≤ 9223372036854775807) :
    Calls Try.prog 37 #[.slice A l.length cA, .slice B l.length cB] w fun x w' => x = .returned (.bool true) ∧ Below w.heap.size w w' := by
  go_enter Try.func37, Try.ntmps37
  go_wp2
  go_loopw [5] (fun k wr => ∃ q : Nat, k = .int .i64 q ∧ q ≤ l.length ∧ Below w.heap.size w wr) (fun k _ => l.length - (intOf k).toNat)
  case atStart => exact ⟨0, rfl, by omega, Below.refl _ _⟩
  case round =>
    obtain ⟨q, rfl, hq, hb⟩ := hrel
    have hsz := hb.size
    by_cases hlt : q < l.length
    · obtain ⟨g, o, x, rfl, hg, hx, c0⟩ := (hA.below hb hN).int hlt
      obtain ⟨g', o', x', rfl, hg', hx', d0⟩ := (hB.below hb hN).int hlt
      obtain rfl : x = x' := by have := hx'.out; rw [hx.out] at this; injection this
      go_wp2
      go_quiet (fail)
      go_wp2
      go_roundw
      case rel => go_light; exact ⟨q + 1, by go_num, by omega, below_drewN hb _⟩
      case measure => go_light; simp [intOf]; omega
    · go_wp2
      go_ret
      exact ⟨rfl, hb⟩
end Go.Proofs.Ytcffhfcjfjfokaa
namespace Go.Proofs.Ytcffhfcjfjfokaa
open Go Go.RowKit
abbrev Tri := Option Addr × Nat × Nat
structure AsX where
  FL : Option Addr
  cFL : Nat
  ft : List Tri
  WF : Option Addr
  cWF : Nat
  fw : List Tri
  DL : Option Addr
  cDL : Nat
  dt : List Tri
  WD : Option Addr
  cWD : Nat
  dw : List Tri
  PL : Option Addr
  cPL : Nat
  pt : List Tri
  WI : Option Addr
  cWI : Nat
  pw : List Tri
structure AsIn (W : World) (N hb : Nat) (a : AsX) : Prop where
  c6 : W.cell? ⟨hb, 6, none⟩ = some (.slice a.FL a.ft.length a.cFL)
  c12 : W.cell? ⟨hb, 12, none⟩ = some (.slice a.WF a.fw.length a.cWF)
  c8 : W.cell? ⟨hb, 8, none⟩ = some (.slice a.DL a.dt.length a.cDL)
  c13 : W.cell? ⟨hb, 13, none⟩ = some (.slice a.WD a.dw.length a.cWD)
  c15 : W.cell? ⟨hb, 15, none⟩ = some (.slice a.PL a.pt.length a.cPL)
  c14 : W.cell? ⟨hb, 14, none⟩ = some (.slice a.WI a.pw.length a.cWI)
  lt : hb < N
  rf : RowAt W N 1 eTr a.FL a.ft
  rfw : RowAt W N 1 eTr a.WF a.fw
  rd : RowAt W N 1 eTr a.DL a.dt
  rdw : RowAt W N 1 eTr a.WD a.dw
  rp : RowAt W N 1 eTr a.PL a.pt
  rpw : RowAt W N 1 eTr a.WI a.pw
  nf : a.fw.length = a.ft.length
  nd : a.dw.length = a.dt.length
  np : a.pw.length = a.pt.length
  lf : a.ft.length ≤ 1000000000000
  ld : a.dt.length ≤ 1000000000000
  lp : a.pt.length ≤ 1000000000000
  f : ∀ (i : Nat) (s t : Tri), a.ft[i]? = some s → a.fw[i]? = some t → ∃ fs, Fls W N s.1 fs ∧ Fls W N t.1 fs ∧ s.2.1 = fs.length ∧ t.2.1 = fs.length ∧ fs.length ≤ 9223372036854775807
  d : ∀ (i : Nat) (s t : Tri), a.dt[i]? = some s → a.dw[i]? = some t → ∃ ds, Dts W N s.1 ds ∧ Dts W N t.1 ds ∧ s.2.1 = ds.length ∧ t.2.1 = ds.length ∧ ds.length ≤ 9223372036854775807
  p : ∀ (i : Nat) (s t : Tri), a.pt[i]? = some s → a.pw[i]? = some t → ∃ l, RowAt W N 1 eInt s.1 l ∧ RowAt W N 1 eInt t.1 l ∧ s.2.1 = l.length ∧ t.2.1 = l.length ∧ l.length ≤ 9223372036854775807
theorem AsIn.below {W W' : World} {N N' hb : Nat} {a : AsX} (h : AsIn W N hb a) (hw : Below N' W W') (hN : N ≤ N') : AsIn W' N hb a := by
  have hl := h.lt
  refine ⟨?_, ?_, ?_, ?_, ?_, ?_, hl, h.rf.below hw hN, h.rfw.below hw hN, h.rd.below hw hN, h.rdw.below hw hN, h.rp.below hw hN, h.rpw.below hw hN, h.nf, h.nd, h.np, h.lf, h.ld, h.lp, ?_, ?_, ?_⟩
  · rw [hw.cell (p := ⟨hb, 6, none⟩) (by show hb < _; omega)]; exact h.c6
  · rw [hw.cell (p := ⟨hb, 12, none⟩) (by show hb < _; omega)]; exact h.c12
  · rw [hw.cell (p := ⟨hb, 8, none⟩) (by show hb < _; omega)]; exact h.c8
  · rw [hw.cell (p := ⟨hb, 13, none⟩) (by show hb < _; omega)]; exact h.c13
  · rw [hw.cell (p := ⟨hb, 15, none⟩) (by show hb < _; omega)]; exact h.c15
  · rw [hw.cell (p := ⟨hb, 14, none⟩) (by show hb < _; omega)]; exact h.c14
  · intro i s t hs ht
    obtain ⟨fs, h1, h2, h3⟩ := h.f i s t hs ht
    exact ⟨fs, h1.below hw hN, h2.below hw hN, h3⟩
  · intro i s t hs ht
    obtain ⟨fs, h1, h2, h3⟩ := h.d i s t hs ht
    exact ⟨fs, h1.below hw hN, h2.below hw hN, h3⟩
  · intro i s t hs ht
    obtain ⟨fs, h1, h2, h3⟩ := h.p i s t hs ht
    exact ⟨fs, h1.below hw hN, h2.below hw hN, h3⟩
theorem RowAt.tri {w : World} {N : Nat} {A : Option Addr} {l : List Tri} {i : Nat} {t : Tri} (h : RowAt w N 1 eTr A l) (hi : l[i]? = some t) : ∃ b off, A = some ⟨b, off, none⟩ ∧ b < N ∧ ∀ W, Below N w W → W.cell? ⟨b, off + i, none⟩ = some (.slice t.1 t.2.1 t.2.2) := by
  have hl := (List.getElem?_eq_some_iff.1 hi).1
  obtain ⟨b, off, e, hb, hc⟩ := h (by omega)
  refine ⟨b, off, e, hb, fun W hW => ?_⟩
  have := hc i t hi 0 _ rfl
  rw [Nat.mul_one, Nat.add_zero] at this
  rw [hW.cell (p := ⟨b, off + i, none⟩) hb]
  exact this
set_option maxRecDepth 100000 in
theorem as_any {w : World} {N hb : Nat} {a : AsX} (h : AsIn w N hb a) (hN : N ≤ w.heap.size) : Calls Try.prog 90 #[.pointer (some ⟨hb, 0, none⟩)] w fun e w' => e = .returned (.bool true) ∧ Below w.heap.size w w' := by
  refine calls_vc tab_ok Try.func90 rfl ?_
  have HW : Below w.heap.size w w := Below.refl _ _
  have hlf := h.lf
  have hld := h.ld
  have hlp := h.lp
  repeat ((conv => whnf); first | (refine VCmp.tt (by omega) ?_) | (refine VCmp.ff (by omega) ?_) | (refine VIn.mk (IntWalk.i64_in _ (by omega)) ?_) | (refine VIdx.mk _ rfl (by omega) ?_) | (refine VIdx.mk 0 rfl (by omega) ?_))
  try (conv => whnf)
  refine VLoop.mk Nat (fun i => [(0, .pointer (some ⟨hb, 0, none⟩)), (3, .int .i64 i)]) (fun i W => i ≤ a.ft.length ∧ Below w.heap.size w W) (fun i => a.ft.length - i) 0 ⟨rfl, rfl, trivial⟩ ⟨Nat.zero_le _, HW⟩ ?_
  clear HW
  rintro i wr ⟨hi, bw⟩
  have L1 : Ld Try.prog 101 hb 6 (fun W => Below w.heap.size w W) (.slice a.FL a.ft.length a.cFL) := ⟨fun W hW => load_cell (by kernel_rfl) (h.below hW hN).c6⟩
  have L3 : Ld Try.prog 101 hb 12 (fun W => Below w.heap.size w W) (.slice a.WF a.fw.length a.cWF) := ⟨fun W hW => load_cell (by kernel_rfl) (h.below hW hN).c12⟩
  have hnn := h.nf
  by_cases hil : i < a.ft.length
  case pos =>
    obtain ⟨s, hs⟩ : ∃ s, a.ft[i]? = some s := ⟨_, List.getElem?_eq_getElem hil⟩
    obtain ⟨t, ht⟩ : ∃ t, a.fw[i]? = some t := ⟨_, List.getElem?_eq_getElem (by omega)⟩
    obtain ⟨gA, oA, hgA, hltA, hcA⟩ := h.rf.tri hs
    obtain ⟨gB, oB, hgB, hltB, hcB⟩ := h.rfw.tri ht
    rw [hgA] at L1
    rw [hgB] at L3
    have L2 : Ld Try.prog 22 gA (oA + i) (fun W => Below w.heap.size w W) (.slice s.1 s.2.1 s.2.2) := ⟨fun W hW => load_cell (by kernel_rfl) (hcA W (hW.mono hN))⟩
    have L4 : Ld Try.prog 22 gB (oB + i) (fun W => Below w.heap.size w W) (.slice t.1 t.2.1 t.2.2) := ⟨fun W hW => load_cell (by kernel_rfl) (hcB W (hW.mono hN))⟩
    obtain ⟨l, h1, h2, h3, h4, h5⟩ := (h.below bw.drew hN).f i s t hs ht
    have bz := bw.size
    repeat ((conv => whnf); first | (refine VLoad.mk _ (L1.at bw) ?_) | (refine VCmp.tt (by omega) ?_) | (refine VCmp.ff (by omega) ?_) | (refine VIn.mk (IntWalk.i64_in _ (by omega)) ?_) | (refine VIdx.mk _ rfl (by omega) ?_) | (refine VIdx.mk 0 rfl (by omega) ?_))
    try (conv => whnf)
    refine VDraw.mk 1000 [([0, 1, 2, 3, 4, 5, 6, 7, 8, 9, 10, 11, 12, 13], 14)] [15] (fun W => Below w.heap.size w W) (by kernel_rfl) (by kernel_rfl) (bw.drew) ?_
    repeat ((conv => whnf); first | (refine VLoad.mk _ L1 ?_) | (refine VLoad.mk _ L2 ?_) | (refine VLoad.mk _ L3 ?_) | (refine VLoad.mk _ L4 ?_) | (refine VCmp.tt (by omega) ?_) | (refine VCmp.ff (by omega) ?_) | (refine VIn.mk (IntWalk.i64_in _ (by omega)) ?_) | (refine VIdx.mk _ rfl (by omega) ?_) | (refine VIdx.mk 0 rfl (by omega) ?_))
    try (conv => whnf)
    rw [h3, h4]
    refine VCall.mk _ (sameFls_yes s.1 t.1 s.2.2 t.2.2 N l wr.drew (Nat.le_trans hN bz) h1 h2 h5) ?_
    rintro _ x1 ⟨rfl, b1⟩
    refine ⟨_, rfl, ?_⟩
    have b2 : Below w.heap.size w x1 := bw.drew.trans (b1.mono bz)
    repeat ((conv => whnf); first | (refine VS.mk b2 ?_) | (refine VCmp.tt (by omega) ?_) | (refine VCmp.ff (by omega) ?_) | (refine VIn.mk (IntWalk.i64_in _ (by omega)) ?_) | (refine VIdx.mk _ rfl (by omega) ?_) | (refine VIdx.mk 0 rfl (by omega) ?_))
    try (conv => whnf)
    exact .mk (i + 1) ⟨rfl, rfl, trivial⟩ ⟨hil, b2⟩ (by omega)
  repeat ((conv => whnf); first | (refine VLoad.mk _ (L1.at bw) ?_) | (refine VCmp.tt (by omega) ?_) | (refine VCmp.ff (by omega) ?_) | (refine VIn.mk (IntWalk.i64_in _ (by omega)) ?_) | (refine VIdx.mk _ rfl (by omega) ?_) | (refine VIdx.mk 0 rfl (by omega) ?_))
  try (conv => whnf)
  have HW := bw
  clear L1 L3 bw hil hi hnn
  refine VLoop.mk Nat (fun i => [(0, .pointer (some ⟨hb, 0, none⟩)), (4, .int .i64 i)]) (fun i W => i ≤ a.dt.length ∧ Below w.heap.size w W) (fun i => a.dt.length - i) 0 ⟨rfl, rfl, trivial⟩ ⟨Nat.zero_le _, HW⟩ ?_
  clear HW
  rintro i wr ⟨hi, bw⟩
  have L1 : Ld Try.prog 102 hb 8 (fun W => Below w.heap.size w W) (.slice a.DL a.dt.length a.cDL) := ⟨fun W hW => load_cell (by kernel_rfl) (h.below hW hN).c8⟩
  have L3 : Ld Try.prog 102 hb 13 (fun W => Below w.heap.size w W) (.slice a.WD a.dw.length a.cWD) := ⟨fun W hW => load_cell (by kernel_rfl) (h.below hW hN).c13⟩
  have hnn := h.nd
  by_cases hil : i < a.dt.length
  case pos =>
    obtain ⟨s, hs⟩ : ∃ s, a.dt[i]? = some s := ⟨_, List.getElem?_eq_getElem hil⟩
    obtain ⟨t, ht⟩ : ∃ t, a.dw[i]? = some t := ⟨_, List.getElem?_eq_getElem (by omega)⟩
    obtain ⟨gA, oA, hgA, hltA, hcA⟩ := h.rd.tri hs
    obtain ⟨gB, oB, hgB, hltB, hcB⟩ := h.rdw.tri ht
    rw [hgA] at L1
    rw [hgB] at L3
    have L2 : Ld Try.prog 40 gA (oA + i) (fun W => Below w.heap.size w W) (.slice s.1 s.2.1 s.2.2) := ⟨fun W hW => load_cell (by kernel_rfl) (hcA W (hW.mono hN))⟩
    have L4 : Ld Try.prog 40 gB (oB + i) (fun W => Below w.heap.size w W) (.slice t.1 t.2.1 t.2.2) := ⟨fun W hW => load_cell (by kernel_rfl) (hcB W (hW.mono hN))⟩
    obtain ⟨l, h1, h2, h3, h4, h5⟩ := (h.below bw.drew hN).d i s t hs ht
    have bz := bw.size
    repeat ((conv => whnf); first | (refine VLoad.mk _ (L1.at bw) ?_) | (refine VCmp.tt (by omega) ?_) | (refine VCmp.ff (by omega) ?_) | (refine VIn.mk (IntWalk.i64_in _ (by omega)) ?_) | (refine VIdx.mk _ rfl (by omega) ?_) | (refine VIdx.mk 0 rfl (by omega) ?_))
    try (conv => whnf)
    refine VDraw.mk 1000 [([0, 1, 2, 3, 4, 5, 6, 7, 8, 9, 10, 11, 12, 13], 14)] [15] (fun W => Below w.heap.size w W) (by kernel_rfl) (by kernel_rfl) (bw.drew) ?_
    repeat ((conv => whnf); first | (refine VLoad.mk _ L1 ?_) | (refine VLoad.mk _ L2 ?_) | (refine VLoad.mk _ L3 ?_) | (refine VLoad.mk _ L4 ?_) | (refine VCmp.tt (by omega) ?_) | (refine VCmp.ff (by omega) ?_) | (refine VIn.mk (IntWalk.i64_in _ (by omega)) ?_) | (refine VIdx.mk _ rfl (by omega) ?_) | (refine VIdx.mk 0 rfl (by omega) ?_))
    try (conv => whnf)
    rw [h3, h4]
    refine VCall.mk _ (sameDatas_yes s.1 t.1 s.2.2 t.2.2 N l wr.drew (Nat.le_trans hN bz) h1 h2 h5) ?_
    rintro _ x1 ⟨rfl, b1⟩
    refine ⟨_, rfl, ?_⟩
    have b2 : Below w.heap.size w x1 := bw.drew.trans (b1.mono bz)
    repeat ((conv => whnf); first | (refine VS.mk b2 ?_) | (refine VCmp.tt (by omega) ?_) | (refine VCmp.ff (by omega) ?_) | (refine VIn.mk (IntWalk.i64_in _ (by omega)) ?_) | (refine VIdx.mk _ rfl (by omega) ?_) | (refine VIdx.mk 0 rfl (by omega) ?_))
    try (conv => whnf)
    exact .mk (i + 1) ⟨rfl, rfl, trivial⟩ ⟨hil, b2⟩ (by omega)
  repeat ((conv => whnf); first | (refine VLoad.mk _ (L1.at bw) ?_) | (refine VCmp.tt (by omega) ?_) | (refine VCmp.ff (by omega) ?_) | (refine VIn.mk (IntWalk.i64_in _ (by omega)) ?_) | (refine VIdx.mk _ rfl (by omega) ?_) | (refine VIdx.mk 0 rfl (by omega) ?_))
  try (conv => whnf)
  have HW := bw
  clear L1 L3 bw hil hi hnn
  refine VLoop.mk Nat (fun i => [(0, .pointer (some ⟨hb, 0, none⟩)), (5, .int .i64 i)]) (fun i W => i ≤ a.pt.length ∧ Below w.heap.size w W) (fun i => a.pt.length - i) 0 ⟨rfl, rfl, trivial⟩ ⟨Nat.zero_le _, HW⟩ ?_
  clear HW
  rintro i wr ⟨hi, bw⟩
  have L1 : Ld Try.prog 99 hb 15 (fun W => Below w.heap.size w W) (.slice a.PL a.pt.length a.cPL) := ⟨fun W hW => load_cell (by kernel_rfl) (h.below hW hN).c15⟩
  have L3 : Ld Try.prog 99 hb 14 (fun W => Below w.heap.size w W) (.slice a.WI a.pw.length a.cWI) := ⟨fun W hW => load_cell (by kernel_rfl) (h.below hW hN).c14⟩
  have hnn := h.np
  by_cases hil : i < a.pt.length
  case pos =>
    obtain ⟨s, hs⟩ : ∃ s, a.pt[i]? = some s := ⟨_, List.getElem?_eq_getElem hil⟩
    obtain ⟨t, ht⟩ : ∃ t, a.pw[i]? = some t := ⟨_, List.getElem?_eq_getElem (by omega)⟩
    obtain ⟨gA, oA, hgA, hltA, hcA⟩ := h.rp.tri hs
    obtain ⟨gB, oB, hgB, hltB, hcB⟩ := h.rpw.tri ht
    rw [hgA] at L1
    rw [hgB] at L3
    have L2 : Ld Try.prog 37 gA (oA + i) (fun W => Below w.heap.size w W) (.slice s.1 s.2.1 s.2.2) := ⟨fun W hW => load_cell (by kernel_rfl) (hcA W (hW.mono hN))⟩
    have L4 : Ld Try.prog 37 gB (oB + i) (fun W => Below w.heap.size w W) (.slice t.1 t.2.1 t.2.2) := ⟨fun W hW => load_cell (by kernel_rfl) (hcB W (hW.mono hN))⟩
    obtain ⟨l, h1, h2, h3, h4, h5⟩ := (h.below bw.drew hN).p i s t hs ht
    have bz := bw.size
    repeat ((conv => whnf); first | (refine VLoad.mk _ (L1.at bw) ?_) | (refine VCmp.tt (by omega) ?_) | (refine VCmp.ff (by omega) ?_) | (refine VIn.mk (IntWalk.i64_in _ (by omega)) ?_) | (refine VIdx.mk _ rfl (by omega) ?_) | (refine VIdx.mk 0 rfl (by omega) ?_))
    try (conv => whnf)
    refine VDraw.mk 1000 [([0, 1, 2, 3, 4, 5, 6, 7, 8, 9, 10, 11, 12, 13], 14)] [15] (fun W => Below w.heap.size w W) (by kernel_rfl) (by kernel_rfl) (bw.drew) ?_
    repeat ((conv => whnf); first | (refine VLoad.mk _ L1 ?_) | (refine VLoad.mk _ L2 ?_) | (refine VLoad.mk _ L3 ?_) | (refine VLoad.mk _ L4 ?_) | (refine VCmp.tt (by omega) ?_) | (refine VCmp.ff (by omega) ?_) | (refine VIn.mk (IntWalk.i64_in _ (by omega)) ?_) | (refine VIdx.mk _ rfl (by omega) ?_) | (refine VIdx.mk 0 rfl (by omega) ?_))
    try (conv => whnf)
    rw [h3, h4]
    refine VCall.mk _ (sameInts_yes s.1 t.1 s.2.2 t.2.2 N l wr.drew (Nat.le_trans hN bz) h1 h2 h5) ?_
    rintro _ x1 ⟨rfl, b1⟩
    refine ⟨_, rfl, ?_⟩
    have b2 : Below w.heap.size w x1 := bw.drew.trans (b1.mono bz)
    repeat ((conv => whnf); first | (refine VS.mk b2 ?_) | (refine VCmp.tt (by omega) ?_) | (refine VCmp.ff (by omega) ?_) | (refine VIn.mk (IntWalk.i64_in _ (by omega)) ?_) | (refine VIdx.mk _ rfl (by omega) ?_) | (refine VIdx.mk 0 rfl (by omega) ?_))
    try (conv => whnf)
    exact .mk (i + 1) ⟨rfl, rfl, trivial⟩ ⟨hil, b2⟩ (by omega)
  repeat ((conv => whnf); first | (refine VLoad.mk _ (L1.at bw) ?_) | (refine VCmp.tt (by omega) ?_) | (refine VCmp.ff (by omega) ?_) | (refine VIn.mk (IntWalk.i64_in _ (by omega)) ?_) | (refine VIdx.mk _ rfl (by omega) ?_) | (refine VIdx.mk 0 rfl (by omega) ?_))
  try (conv => whnf)
  have HW := bw
  clear L1 L3 bw hil hi hnn
  exact .mk ⟨rfl, HW⟩
end Go.Proofs.Ytcffhfcjfjfokaa
namespace Go.Proofs.Ytcffhfcjfjfokaa
open Go Go.RowKit
structure Bo0 (x : BX) : Prop where
  y : x.y.Q = []
  i : x.i.Q = []
  s : x.s.Q = []
  f : x.f.Q = []
  d : x.d.Q = []
  m : x.m.Q = []
  by' : ∀ r ∈ x.y.P, r.l.length ≤ 1048576
  bi : ∀ r ∈ x.i.P, r.l.length ≤ 1048576
  bs : ∀ r ∈ x.s.P, r.l.length ≤ 1048576
  bf : ∀ r ∈ x.f.P, r.l.length ≤ 1048576
  bd : ∀ r ∈ x.d.P, r.l.length ≤ 1048576
  bm : ∀ r ∈ x.m.P, r.l.length ≤ 1048576
  ly : x.y.P.length ≤ 1000000000000
  li : x.i.P.length ≤ 1000000000000
  ls : x.s.P.length ≤ 1000000000000
  lf : x.f.P.length ≤ 1000000000000
  ld : x.d.P.length ≤ 1000000000000
  lm : x.m.P.length ≤ 1000000000000
section
variable {α : Type} {S R : List (RowX α)} {i : Nat} {m : Nat → α}
theorem Shw.at (h : Shw S R i m) {k : Nat} {x : RowX α} (hx : S[k]? = some x) : ∃ r, R[k]? = some r ∧ x.A = r.A ∧ x.l.length = r.l.length := by
  have hk := (List.getElem?_eq_some_iff.1 hx).1
  have hr : R[k]? = some (R[k]'(by rw [← h.len]; exact hk)) := List.getElem?_eq_getElem _
  exact ⟨_, hr, (h.same k x _ hx hr).1, (h.same k x _ hx hr).2.2⟩
theorem Shw.bound (h : Shw S R i m) {n : Nat} (hb : ∀ r ∈ R, r.l.length ≤ n) : ∀ r ∈ S, r.l.length ≤ n := fun r hr => by
  obtain ⟨k, hk⟩ := List.mem_iff_getElem?.1 hr
  obtain ⟨r', h1, _, h3⟩ := h.at hk
  rw [h3]; exact hb r' (List.mem_of_getElem? h1)
theorem Shw.kx {L M : Option Addr} {cL cM : Nat} {Q Q' : List (Option Addr × Nat)} {T : List Nat} (h : Shw S R i m) (hK : KxIn ⟨L, cL, R, M, cM, Q⟩ T) : KxIn ⟨L, cL, S, M, cM, Q'⟩ T :=
  ⟨fun r hr q hq => by
    obtain ⟨k, hk⟩ := List.mem_iff_getElem?.1 hr
    exact h.inS hK.1 hk q hq, hK.2.1, hK.2.2⟩
theorem Shw.all (h : Shw S R R.length m) : ∀ k r, S[k]? = some r → r.l = List.replicate r.l.length (m k) := fun k r hr => h.full k r (by rw [← h.len]; exact (List.getElem?_eq_some_iff.1 hr).1) hr
end
set_option maxRecDepth 100000 in
set_option maxHeartbeats 4000000 in
theorem alone_any {w : World} {base hb N : Nat} {x : BX} {o : List Value} {S : List Nat} {a : AsX} (hS : BkIn x S) (hbS : hb ∈ S) (h : Bo w base hb x o) (hol : o.length = 4) (h0 : Bo0 x) (ha : AsIn w N hb a) (hN : N ≤ w.heap.size) : Calls Try.prog 47 #[.pointer (some ⟨hb, 0, none⟩)] w fun e w' => e = .returned (.bool true) ∧ Fx S w w' := by
  refine calls_vc tab_ok Try.func47 rfl ?_
  repeat ((conv => whnf); first | (refine VCmp.tt (by omega) ?_) | (refine VCmp.ff (by omega) ?_) | (refine VIn.mk (IntWalk.i64_in _ (by omega)) ?_) | (refine VIdx.mk _ rfl (by omega) ?_) | (refine VIdx.mk 0 rfl (by omega) ?_))
  try (conv => whnf)
  refine VCall.mk _ (as_any ha hN) ?_
  rintro _ w1 ⟨rfl, b1⟩
  refine ⟨_, rfl, ?_⟩
  repeat ((conv => whnf); first | (refine VCmp.tt (by omega) ?_) | (refine VCmp.ff (by omega) ?_) | (refine VIn.mk (IntWalk.i64_in _ (by omega)) ?_) | (refine VIdx.mk _ rfl (by omega) ?_) | (refine VIdx.mk 0 rfl (by omega) ?_))
  try (conv => whnf)
  refine VCall.mk _ (write_any hS (h.below b1) h0.y h0.i h0.s h0.f h0.d h0.m ⟨h0.ly, h0.li, h0.ls, h0.lf, h0.ld, h0.lm⟩) ?_
  rintro _ w2 ⟨rfl, f2, Sy, Si, Ss, Sf, Sd, Sm, hy, hi, hs, hf, hd, hm, B2⟩
  refine ⟨_, rfl, ?_⟩
  repeat ((conv => whnf); first | (refine VCmp.tt (by omega) ?_) | (refine VCmp.ff (by omega) ?_) | (refine VIn.mk (IntWalk.i64_in _ (by omega)) ?_) | (refine VIdx.mk _ rfl (by omega) ?_) | (refine VIdx.mk 0 rfl (by omega) ?_))
  try (conv => whnf)
  refine VCall.mk _ (grow_any (S := S) (by exact hy.kx hS.y) (by exact hi.kx hS.i) (by exact hs.kx hS.s) (by exact hf.kx hS.f) (by exact hd.kx hS.d) (by exact hm.kx hS.m) hbS B2 hol h0.y h0.i h0.s h0.f h0.d h0.m (hy.bound h0.by') (hi.bound h0.bi) (hs.bound h0.bs) (hf.bound h0.bf) (hd.bound h0.bd) (hm.bound h0.bm) (by rw [hy.len]; exact h0.ly) (by rw [hi.len]; exact h0.li) (by rw [hs.len]; exact h0.ls) (by rw [hf.len]; exact h0.lf) (by rw [hd.len]; exact h0.ld) (by rw [hm.len]; exact h0.lm)) ?_
  rintro _ w3 ⟨rfl, f3, My, cMy, Qy, Mi, cMi, Qi, Ms, cMs, Qs, Mf, cMf, Qf, Md, cMd, Qd, Mm, cMm, Qm, qy, qi, qs, qf, qd, qm, B3⟩
  refine ⟨_, rfl, ?_⟩
  repeat ((conv => whnf); first | (refine VCmp.tt (by omega) ?_) | (refine VCmp.ff (by omega) ?_) | (refine VIn.mk (IntWalk.i64_in _ (by omega)) ?_) | (refine VIdx.mk _ rfl (by omega) ?_) | (refine VIdx.mk 0 rfl (by omega) ?_))
  try (conv => whnf)
  refine VCall.mk _ (plain_any B3 qy qi qs hy.all hi.all hs.all (hy.bound h0.by') (hi.bound h0.bi) (hs.bound h0.bs) (by rw [hy.len]; exact h0.ly) (by rw [hi.len]; exact h0.li) (by rw [hs.len]; exact h0.ls)) ?_
  rintro _ w4 ⟨rfl, b4⟩
  refine ⟨_, rfl, ?_⟩
  repeat ((conv => whnf); first | (refine VCmp.tt (by omega) ?_) | (refine VCmp.ff (by omega) ?_) | (refine VIn.mk (IntWalk.i64_in _ (by omega)) ?_) | (refine VIdx.mk _ rfl (by omega) ?_) | (refine VIdx.mk 0 rfl (by omega) ?_))
  try (conv => whnf)
  refine VCall.mk _ (restB_any (B3.below b4) qf qd qm hf.all hd.all hm.all (hf.bound h0.bf) (hd.bound h0.bd) (hm.bound h0.bm) (by rw [hf.len]; exact h0.lf) (by rw [hd.len]; exact h0.ld) (by rw [hm.len]; exact h0.lm)) ?_
  rintro _ w5 ⟨rfl, b5⟩
  refine ⟨_, rfl, ?_⟩
  repeat ((conv => whnf); first | (refine VCmp.tt (by omega) ?_) | (refine VCmp.ff (by omega) ?_) | (refine VIn.mk (IntWalk.i64_in _ (by omega)) ?_) | (refine VIdx.mk _ rfl (by omega) ?_) | (refine VIdx.mk 0 rfl (by omega) ?_))
  try (conv => whnf)
  exact .mk ⟨rfl, (((Fx.below (S := S) b1).trans f2 fun k hk => .inl hk).trans f3 fun k hk => .inl hk).trans ((Fx.below (S := S) b4).trans (.below (S := S) b5) fun k hk => .inl hk) fun k hk => .inl hk⟩
end Go.Proofs.Ytcffhfcjfjfokaa
namespace Go.Proofs.Ytcffhfcjfjfokaa
open Go Go.RowKit
section
variable {α : Type} {W0 W W1 W2 W3 : World} {base sz hb : Nat} {tl e : TypeId} {enc : α → List Value} {zs : Nat → List α} {x : KX α} {P R : List (RowX α)}
def Sep (R : List (RowX α)) : Prop := ∀ (k j : Nat) (a b : RowX α), k ≠ j → R[k]? = some a → R[j]? = some b → ∀ q, blk a.A = some q → blk b.A ≠ some q
theorem sep_one (r : RowX α) : Sep [r] := fun k j a b hne ha hb => by
  have h1 := (List.getElem?_eq_some_iff.1 ha).1
  have h2 := (List.getElem?_eq_some_iff.1 hb).1
  simp at h1 h2; omega
theorem Kd.addAll (h : Kd W base e sz enc zs P []) (hb : Below W.heap.size W W1) (ho : ∀ r ∈ R, Owns W1 base e sz enc r.A r.c r.l) (hn : ∀ r ∈ R, ∀ y ∈ P, ∀ q, blk y.A = some q → blk r.A ≠ some q) (hs : Sep R) : Kd W1 base e sz enc zs (P ++ R) [] := by
  have h' := h.below hb
  have hget : ∀ k y, (P ++ R)[k]? = some y → (k < P.length ∧ P[k]? = some y) ∨ (P.length ≤ k ∧ R[k - P.length]? = some y) := fun k y hy => by
    by_cases e1 : k < P.length
    · rw [List.getElem?_append_left e1] at hy; exact .inl ⟨e1, hy⟩
    · rw [List.getElem?_append_right (by omega)] at hy; exact .inr ⟨by omega, hy⟩
  refine ⟨fun y hy => ?_, fun k y z _ hz => by simp at hz, fun k j y z _ _ hz => by simp at hz, fun k j y z hne hy hz q h1 h2 => ?_, Nat.zero_le _⟩
  · rcases List.mem_append.1 hy with hy | hy
    · exact h'.o y hy
    · exact ho y hy
  · rcases hget k y hy with ⟨e1, e2⟩ | ⟨e1, e2⟩ <;> rcases hget j z hz with ⟨e3, e4⟩ | ⟨e3, e4⟩
    · exact h.dis k j y z hne e2 e4 q h1 h2
    · exact hn z (List.mem_of_getElem? e4) y (List.mem_of_getElem? e2) q h1 h2
    · exact hn y (List.mem_of_getElem? e2) z (List.mem_of_getElem? e4) q h2 h1
    · exact hs (k - P.length) (j - P.length) y z (by omega) e2 e4 q h1 h2
theorem Kb.push (h : Kb W0 base tl e sz enc zs x) (hQ : x.Q = []) (ht : tl ≠ e) (hb0 : Below W0.heap.size W0 W1) (ho : ∀ r ∈ R, Owns W1 base e sz enc r.A r.c r.l) (hn : ∀ r ∈ R, ∀ y ∈ x.P, ∀ q, blk y.A = some q → blk r.A ≠ some q) (hs : Sep R) {L : Option Addr} {cL : Nat} (hl : Owns W2 base tl 1 eTr L cL (x.P.map rowT ++ R.map rowT)) (hg : W1.grownBy W2 (blk x.L)) (hk : blk L = blk x.L ∨ blk L = some W1.heap.size) :
    Kb W2 base tl e sz enc zs { x with L := L, cL := cL, P := x.P ++ R } := by
  have hL1 := h.l.keep hb0 fun k hk => (h.l.lo k hk).2
  have hM1 := h.m.keep hb0 fun k hk => (h.m.lo k hk).2
  have hk0 := h.k
  rw [hQ] at hk0
  have hk1 := (hk0.addAll hb0 ho hn hs).other hL1 (fun e1 => ht e1.symm) hg
  refine ⟨?_, ?_, ?_, ?_⟩
  · dsimp only; rw [hQ]; exact hk1
  · dsimp only; rw [List.map_append]; exact hl
  · have hm := hM1
    dsimp only
    rw [hQ] at hm ⊢
    unfold moreT at hm ⊢
    rw [List.zip_nil_right] at hm ⊢
    exact hm.same fun q hq => hg.block q (hm.lo q hq).2 (fun e1 => h.lm q e1.symm hq)
  · intro q hq e1
    rcases hk with e2 | e2
    · exact h.lm q (by rw [← e2]; exact hq) e1
    · rw [e2] at hq; injection hq with hq
      have := (hM1.lo q e1).2; omega
theorem Kb.beside {β : Type} {sz' : Nat} {tl' e' : TypeId} {enc' : β → List Value} {zs' : Nat → List β} {x' : KX β} (h : Kb W0 base tl e sz enc zs x) (h' : Kb W0 base tl' e' sz' enc' zs' x') (n3 : e ≠ tl') (n4 : tl ≠ tl') (hb' : Below W0.heap.size W0 W1) (hg : W1.grownBy W2 (blk x'.L)) (hg3 : W2.grownBy W3 (some hb)) (hz : hb < base) : Kb W3 base tl e sz enc zs x :=
  ((h.below hb').other (h'.l.keep hb' fun k hk => (h'.l.lo k hk).2) n3 n4 hg).cell hg3 hz
end
section
variable {W0 W W1 W2 : World} {base hb : Nat} {x : BX} {o : List Value}
theorem Bo.push_y (h : Bo W0 base hb x o) (hol : o.length = 4) (hQ : x.y.Q = []) {R : List (RowX Int)} (hb1 : Below W0.heap.size W0 W1) (ho : ∀ r ∈ R, Owns W1 base 5 1 eByte r.A r.c r.l) (hn : ∀ r ∈ R, ∀ y ∈ x.y.P, ∀ q, blk y.A = some q → blk r.A ≠ some q) (hs : Sep R) {L : Option Addr} {cL m : Nat} (hm : x.y.P.length + R.length = m) (hl : Owns W2 base 52 1 eTr L cL (x.y.P.map rowT ++ R.map rowT)) (hg : W1.grownBy W2 (blk x.y.L)) (hk : blk L = blk x.y.L ∨ blk L = some W1.heap.size) :
    Bo (W2.setCell ⟨hb, 0, none⟩ (.slice L m cL)) base hb { x with y := { x.y with L := L, cL := cL, P := x.y.P ++ R } } o := by
  subst hm
  have g3 : W2.grownBy (W2.setCell ⟨hb, 0, none⟩ (.slice L (x.y.P.length + R.length) cL)) (some hb) := grown_cell _ _ _ _
  have hk := (h.y.push hQ (by decide) hb1 ho hn hs hl hg hk).cell g3 h.hz
  have hsame : W2.heap[hb]? = W0.heap[hb]? := by
    have hz := h.hz
    have z0 := h.z
    have e2 := hb1.block hb (by omega)
    have e3 := hg.block hb (by have := hb1.size; omega) (fun e => by have := (h.y.l.lo hb e.symm).1; omega)
    exact e3.trans e2
  have hr2 := range_same h.r hsame
  have ht2 := there_same h.t hsame
  refine ⟨hk, h.i.beside h.y (by decide) (by decide) hb1 hg g3 h.hz, h.s.beside h.y (by decide) (by decide) hb1 hg g3 h.hz, h.f.beside h.y (by decide) (by decide) hb1 hg g3 h.hz, h.d.beside h.y (by decide) (by decide) hb1 hg g3 h.hz, h.m.beside h.y (by decide) (by decide) hb1 hg g3 h.hz, ?_, there_set ht2 _ _, h.hz, ?_⟩
  · have := rng_put (o := 0) (vs := [.slice L (x.y.P.length + R.length) cL]) hr2 ht2 (by simp [kxC, hol]) (by simp)
    unfold kxC at this ⊢
    dsimp only
    rw [List.length_append]
    exact this
  · have := g3.size; have := hg.size; have := hb1.size; have := h.z; omega
theorem Bo.push_i (h : Bo W0 base hb x o) (hol : o.length = 4) (hQ : x.i.Q = []) {R : List (RowX Int)} (hb1 : Below W0.heap.size W0 W1) (ho : ∀ r ∈ R, Owns W1 base 3 1 eInt r.A r.c r.l) (hn : ∀ r ∈ R, ∀ y ∈ x.i.P, ∀ q, blk y.A = some q → blk r.A ≠ some q) (hs : Sep R) {L : Option Addr} {cL m : Nat} (hm : x.i.P.length + R.length = m) (hl : Owns W2 base 37 1 eTr L cL (x.i.P.map rowT ++ R.map rowT)) (hg : W1.grownBy W2 (blk x.i.L)) (hk : blk L = blk x.i.L ∨ blk L = some W1.heap.size) :
    Bo (W2.setCell ⟨hb, 2, none⟩ (.slice L m cL)) base hb { x with i := { x.i with L := L, cL := cL, P := x.i.P ++ R } } o := by
  subst hm
  have g3 : W2.grownBy (W2.setCell ⟨hb, 2, none⟩ (.slice L (x.i.P.length + R.length) cL)) (some hb) := grown_cell _ _ _ _
  have hk := (h.i.push hQ (by decide) hb1 ho hn hs hl hg hk).cell g3 h.hz
  have hsame : W2.heap[hb]? = W0.heap[hb]? := by
    have hz := h.hz
    have z0 := h.z
    have e2 := hb1.block hb (by omega)
    have e3 := hg.block hb (by have := hb1.size; omega) (fun e => by have := (h.i.l.lo hb e.symm).1; omega)
    exact e3.trans e2
  have hr2 := range_same h.r hsame
  have ht2 := there_same h.t hsame
  refine ⟨h.y.beside h.i (by decide) (by decide) hb1 hg g3 h.hz, hk, h.s.beside h.i (by decide) (by decide) hb1 hg g3 h.hz, h.f.beside h.i (by decide) (by decide) hb1 hg g3 h.hz, h.d.beside h.i (by decide) (by decide) hb1 hg g3 h.hz, h.m.beside h.i (by decide) (by decide) hb1 hg g3 h.hz, ?_, there_set ht2 _ _, h.hz, ?_⟩
  · have := rng_put (o := 2) (vs := [.slice L (x.i.P.length + R.length) cL]) hr2 ht2 (by simp [kxC, hol]) (by simp)
    unfold kxC at this ⊢
    dsimp only
    rw [List.length_append]
    exact this
  · have := g3.size; have := hg.size; have := hb1.size; have := h.z; omega
theorem Bo.push_s (h : Bo W0 base hb x o) (hol : o.length = 4) (hQ : x.s.Q = []) {R : List (RowX (Int × Int))} (hb1 : Below W0.heap.size W0 W1) (ho : ∀ r ∈ R, Owns W1 base 66 2 eSlot r.A r.c r.l) (hn : ∀ r ∈ R, ∀ y ∈ x.s.P, ∀ q, blk y.A = some q → blk r.A ≠ some q) (hs : Sep R) {L : Option Addr} {cL m : Nat} (hm : x.s.P.length + R.length = m) (hl : Owns W2 base 36 1 eTr L cL (x.s.P.map rowT ++ R.map rowT)) (hg : W1.grownBy W2 (blk x.s.L)) (hk : blk L = blk x.s.L ∨ blk L = some W1.heap.size) :
    Bo (W2.setCell ⟨hb, 4, none⟩ (.slice L m cL)) base hb { x with s := { x.s with L := L, cL := cL, P := x.s.P ++ R } } o := by
  subst hm
  have g3 : W2.grownBy (W2.setCell ⟨hb, 4, none⟩ (.slice L (x.s.P.length + R.length) cL)) (some hb) := grown_cell _ _ _ _
  have hk := (h.s.push hQ (by decide) hb1 ho hn hs hl hg hk).cell g3 h.hz
  have hsame : W2.heap[hb]? = W0.heap[hb]? := by
    have hz := h.hz
    have z0 := h.z
    have e2 := hb1.block hb (by omega)
    have e3 := hg.block hb (by have := hb1.size; omega) (fun e => by have := (h.s.l.lo hb e.symm).1; omega)
    exact e3.trans e2
  have hr2 := range_same h.r hsame
  have ht2 := there_same h.t hsame
  refine ⟨h.y.beside h.s (by decide) (by decide) hb1 hg g3 h.hz, h.i.beside h.s (by decide) (by decide) hb1 hg g3 h.hz, hk, h.f.beside h.s (by decide) (by decide) hb1 hg g3 h.hz, h.d.beside h.s (by decide) (by decide) hb1 hg g3 h.hz, h.m.beside h.s (by decide) (by decide) hb1 hg g3 h.hz, ?_, there_set ht2 _ _, h.hz, ?_⟩
  · have := rng_put (o := 4) (vs := [.slice L (x.s.P.length + R.length) cL]) hr2 ht2 (by simp [kxC, hol]) (by simp)
    unfold kxC at this ⊢
    dsimp only
    rw [List.length_append]
    exact this
  · have := g3.size; have := hg.size; have := hb1.size; have := h.z; omega
theorem Bo.push_f (h : Bo W0 base hb x o) (hol : o.length = 4) (hQ : x.f.Q = []) {R : List (RowX Rw)} (hb1 : Below W0.heap.size W0 W1) (ho : ∀ r ∈ R, Owns W1 base 39 7 eRw r.A r.c r.l) (hn : ∀ r ∈ R, ∀ y ∈ x.f.P, ∀ q, blk y.A = some q → blk r.A ≠ some q) (hs : Sep R) {L : Option Addr} {cL m : Nat} (hm : x.f.P.length + R.length = m) (hl : Owns W2 base 22 1 eTr L cL (x.f.P.map rowT ++ R.map rowT)) (hg : W1.grownBy W2 (blk x.f.L)) (hk : blk L = blk x.f.L ∨ blk L = some W1.heap.size) :
    Bo (W2.setCell ⟨hb, 6, none⟩ (.slice L m cL)) base hb { x with f := { x.f with L := L, cL := cL, P := x.f.P ++ R } } o := by
  subst hm
  have g3 : W2.grownBy (W2.setCell ⟨hb, 6, none⟩ (.slice L (x.f.P.length + R.length) cL)) (some hb) := grown_cell _ _ _ _
  have hk := (h.f.push hQ (by decide) hb1 ho hn hs hl hg hk).cell g3 h.hz
  have hsame : W2.heap[hb]? = W0.heap[hb]? := by
    have hz := h.hz
    have z0 := h.z
    have e2 := hb1.block hb (by omega)
    have e3 := hg.block hb (by have := hb1.size; omega) (fun e => by have := (h.f.l.lo hb e.symm).1; omega)
    exact e3.trans e2
  have hr2 := range_same h.r hsame
  have ht2 := there_same h.t hsame
  refine ⟨h.y.beside h.f (by decide) (by decide) hb1 hg g3 h.hz, h.i.beside h.f (by decide) (by decide) hb1 hg g3 h.hz, h.s.beside h.f (by decide) (by decide) hb1 hg g3 h.hz, hk, h.d.beside h.f (by decide) (by decide) hb1 hg g3 h.hz, h.m.beside h.f (by decide) (by decide) hb1 hg g3 h.hz, ?_, there_set ht2 _ _, h.hz, ?_⟩
  · have := rng_put (o := 6) (vs := [.slice L (x.f.P.length + R.length) cL]) hr2 ht2 (by simp [kxC, hol]) (by simp)
    unfold kxC at this ⊢
    dsimp only
    rw [List.length_append]
    exact this
  · have := g3.size; have := hg.size; have := hb1.size; have := h.z; omega
theorem Bo.push_d (h : Bo W0 base hb x o) (hol : o.length = 4) (hQ : x.d.Q = []) {R : List (RowX Dr)} (hb1 : Below W0.heap.size W0 W1) (ho : ∀ r ∈ R, Owns W1 base 113 4 eDr r.A r.c r.l) (hn : ∀ r ∈ R, ∀ y ∈ x.d.P, ∀ q, blk y.A = some q → blk r.A ≠ some q) (hs : Sep R) {L : Option Addr} {cL m : Nat} (hm : x.d.P.length + R.length = m) (hl : Owns W2 base 40 1 eTr L cL (x.d.P.map rowT ++ R.map rowT)) (hg : W1.grownBy W2 (blk x.d.L)) (hk : blk L = blk x.d.L ∨ blk L = some W1.heap.size) :
    Bo (W2.setCell ⟨hb, 8, none⟩ (.slice L m cL)) base hb { x with d := { x.d with L := L, cL := cL, P := x.d.P ++ R } } o := by
  subst hm
  have g3 : W2.grownBy (W2.setCell ⟨hb, 8, none⟩ (.slice L (x.d.P.length + R.length) cL)) (some hb) := grown_cell _ _ _ _
  have hk := (h.d.push hQ (by decide) hb1 ho hn hs hl hg hk).cell g3 h.hz
  have hsame : W2.heap[hb]? = W0.heap[hb]? := by
    have hz := h.hz
    have z0 := h.z
    have e2 := hb1.block hb (by omega)
    have e3 := hg.block hb (by have := hb1.size; omega) (fun e => by have := (h.d.l.lo hb e.symm).1; omega)
    exact e3.trans e2
  have hr2 := range_same h.r hsame
  have ht2 := there_same h.t hsame
  refine ⟨h.y.beside h.d (by decide) (by decide) hb1 hg g3 h.hz, h.i.beside h.d (by decide) (by decide) hb1 hg g3 h.hz, h.s.beside h.d (by decide) (by decide) hb1 hg g3 h.hz, h.f.beside h.d (by decide) (by decide) hb1 hg g3 h.hz, hk, h.m.beside h.d (by decide) (by decide) hb1 hg g3 h.hz, ?_, there_set ht2 _ _, h.hz, ?_⟩
  · have := rng_put (o := 8) (vs := [.slice L (x.d.P.length + R.length) cL]) hr2 ht2 (by simp [kxC, hol]) (by simp)
    unfold kxC at this ⊢
    dsimp only
    rw [List.length_append]
    exact this
  · have := g3.size; have := hg.size; have := hb1.size; have := h.z; omega
end
def bodyR (r : Dr) : RowX Int := ⟨r.B, r.c, r.d.body⟩
theorem Owns.past {α β : Type} {W0 W1 W2 W3 : World} {base base' sz sz' c c' hb : Nat} {e e' : TypeId} {enc : α → List Value} {enc' : β → List Value} {A A' : Option Addr} {l : List α} {l' : List β} (h : Owns W0 base e sz enc A c l) (hb1 : Below W0.heap.size W0 W1) (ho : Owns W1 base' e' sz' enc' A' c' l') (he : e ≠ e') (hg : W1.grownBy W2 (blk A')) (g3 : W2.grownBy W3 (some hb)) (hz : hb < base) : Owns W3 base e sz enc A c l := by
  have h1 := h.keep hb1 fun k hk => (h.lo k hk).2
  have h2 := h1.kept hg (h1.ne ho he)
  exact h2.same fun q hq => g3.block q (h2.lo q hq).2 fun e1 => by injection e1 with e1; have := (h2.lo q hq).1; omega
end Go.Proofs.Ytcffhfcjfjfokaa
namespace Go.Proofs.Ytcffhfcjfjfokaa
open Go Go.RowKit
def kx0 {α : Type} : KX α := ⟨none, 0, [], none, 0, []⟩
def bx0 : BX := ⟨kx0, kx0, kx0, kx0, kx0, kx0⟩
def o0 : List Value := [.slice none 0 0, .slice none 0 0, .slice none 0 0, .slice none 0 0]
def held0 : Array Value := #[.slice none 0 0, .slice none 0 0, .slice none 0 0, .slice none 0 0, .slice none 0 0, .slice none 0 0, .slice none 0 0, .slice none 0 0, .slice none 0 0, .slice none 0 0, .slice none 0 0, .slice none 0 0, .slice none 0 0, .slice none 0 0, .slice none 0 0, .slice none 0 0]
theorem kb0 {α : Type} (W : World) (base : Nat) (tl e : TypeId) (sz : Nat) (enc : α → List Value) (zs : Nat → List α) : Kb W base tl e sz enc zs kx0 :=
  ⟨⟨fun r hr => (by cases hr), fun k x y hx => (by simp [kx0] at hx), fun k j x y _ hx => (by simp [kx0] at hx), fun k j x y _ hx => (by simp [kx0] at hx), Nat.le_refl _⟩, owns_nil _ _ _ _ _, owns_nil _ _ _ _ _, fun q hq => (by cases hq)⟩
theorem bo_new (w : World) : Bo (w.alloc (.cells held0 105)) (w.heap.size + 1) w.heap.size bx0 o0 := by
  have z : (w.alloc (.cells held0 105)).heap.size = w.heap.size + 1 := by simp
  exact ⟨kb0 _ _ _ _ _ _ _, kb0 _ _ _ _ _ _ _, kb0 _ _ _ _ _ _ _, kb0 _ _ _ _ _ _ _, kb0 _ _ _ _ _ _ _, kb0 _ _ _ _ _ _ _, range_new w held0 105, there_new w held0 105, Nat.lt_succ_self _, by omega⟩
def kxS {α : Type} (x : KX α) : List Nat := (blk x.L).toList ++ ((blk x.M).toList ++ x.P.flatMap fun r => (blk r.A).toList)
def bkS (x : BX) (hb : Nat) : List Nat := hb :: (kxS x.y ++ (kxS x.i ++ (kxS x.s ++ (kxS x.f ++ (kxS x.d ++ kxS x.m)))))
theorem kxIn_of {α : Type} {x : KX α} {S : List Nat} (h : ∀ q ∈ kxS x, q ∈ S) : KxIn x S :=
  ⟨fun r hr q hq => h q (List.mem_append.2 (.inr (List.mem_append.2 (.inr (List.mem_flatMap.2 ⟨r, hr, by rw [hq]; simp⟩))))), fun q hq => h q (List.mem_append.2 (.inl (by rw [hq]; simp))), fun q hq => h q (List.mem_append.2 (.inr (List.mem_append.2 (.inl (by rw [hq]; simp)))))⟩
theorem bkIn_bkS (x : BX) (hb : Nat) : BkIn x (bkS x hb) := by
  refine ⟨kxIn_of fun q hq => ?_, kxIn_of fun q hq => ?_, kxIn_of fun q hq => ?_, kxIn_of fun q hq => ?_, kxIn_of fun q hq => ?_, kxIn_of fun q hq => ?_⟩ <;> simp [bkS, hq]
theorem Kb.kxS {α : Type} {W : World} {base sz : Nat} {tl e : TypeId} {enc : α → List Value} {zs : Nat → List α} {x : KX α} (h : Kb W base tl e sz enc zs x) : ∀ q ∈ kxS x, base ≤ q ∧ q < W.heap.size := fun q hq => by
  rcases List.mem_append.1 hq with hq | hq
  · exact h.l.lo q (by simpa [Option.mem_toList] using hq)
  · rcases List.mem_append.1 hq with hq | hq
    · exact h.m.lo q (by simpa [Option.mem_toList] using hq)
    · obtain ⟨r, hr, hq⟩ := List.mem_flatMap.1 hq
      exact (h.k.o r hr).lo q (by simpa [Option.mem_toList] using hq)
theorem Bo.bks {W : World} {base hb : Nat} {x : BX} {o : List Value} (h : Bo W base hb x o) : ∀ q ∈ bkS x hb, hb ≤ q ∧ q < W.heap.size := fun q hq => by
  have hz := h.hz
  have hz2 := h.z
  rcases List.mem_cons.1 hq with rfl | hq
  · omega
  have key : base ≤ q ∧ q < W.heap.size := by
    rcases List.mem_append.1 hq with hq | hq
    · exact h.y.kxS q hq
    rcases List.mem_append.1 hq with hq | hq
    · exact h.i.kxS q hq
    rcases List.mem_append.1 hq with hq | hq
    · exact h.s.kxS q hq
    rcases List.mem_append.1 hq with hq | hq
    · exact h.f.kxS q hq
    rcases List.mem_append.1 hq with hq | hq
    · exact h.d.kxS q hq
    · exact h.m.kxS q hq
  omega
end Go.Proofs.Ytcffhfcjfjfokaa
