/- Once TuK, joined. -/
import Derived.Test.YtcffhfcjfjfokaaSu24
import Derived.Test.YtcffhfcjfjfokaaSu25
set_option linter.unusedVariables false
set_option linter.unusedSimpArgs false
namespace Go.Proofs.Ytcffhfcjfjfokaa
open Go Go.RowKit
set_option maxRecDepth 100000 in
theorem step_ask {w : World} {F : List Nat} {b g b' g' : Nat} {s : Sto} {N : Nat} {o : Opx} (h : Two w F b g b' g' s) (hN : N ≤ w.heap.size) (ho : OpAt w N o) (hk : o.kd = 2 ∨ o.kd = 3) :
    Calls Try.prog 44 #[.pointer (some ⟨b, 0, none⟩), .pointer (some ⟨b', 0, none⟩), .agg (opA o)] w fun x w' => x = .returned (.bool true) ∧ Below w.heap.size w w' := by
  refine calls_vc tab_ok Try.func44 rfl ?_
  conv => whnf
  refine .mk fun wA hwA => ?_
  have hbA : Below w.heap.size w wA := by rw [hwA.out]; exact below_box1 _ _ _
  have zA : wA.heap.size = w.heap.size + 1 := by rw [hwA.out]; simp
  have oA : wA.rangeAt w.heap.size 0 (opA o).toList := by rw [hwA.out]; exact range_new w (opA o) 95
  clear hwA
  have hx : ∀ W, Below wA.heap.size wA W → W.rangeAt w.heap.size 0 (opA o).toList ∧ OpAt W N o ∧ Below w.heap.size w W := fun W hW =>
    ⟨range_same oA (hW.block w.heap.size (by omega)), (ho.below hbA hN).below hW (by omega), hbA.trans (hW.mono (by omega))⟩
  have b0 : Below wA.heap.size wA wA := Below.refl _ _
  have Lk : Ld Try.prog 3 w.heap.size 0 (fun W => Below wA.heap.size wA W) (.int .i64 o.kd) := ⟨fun W hW => load3 ((hx W hW).1 0 _ rfl)⟩
  have Lp : Ld Try.prog 35 w.heap.size 10 (fun W => Below wA.heap.size wA W) (.agg #[.int .i64 o.e, .int .i64 o.l, .int .i64 o.i, .int .i64 o.c]) := ⟨fun W hW => load35 (range_sub (n := 4) (hx W hW).1 10 rfl)⟩
  have Lw : Ld Try.prog 93 w.heap.size 14 (fun W => Below wA.heap.size wA W) (.slice o.wA o.who.length o.wc) := ⟨fun W hW => load_cell (by kernel_rfl) ((hx W hW).1 14 _ rfl)⟩
  have Lo : Ld Try.prog 95 w.heap.size 0 (Eq wA) (.agg (opA o)) := .of (load_agg (by kernel_rfl) (by kernel_rfl) oA)
  have hA := h.below hbA
  have hoA := (hx _ b0).2.1
  obtain ⟨f1, f2, f3, f4⟩ := h.bF
  by_cases h2 : o.kd = 2
  · have bd : Below wA.heap.size wA wA.drew := b0.drew
    obtain ⟨k1, k2, k3, k4, P⟩ := (hA.below b0.drew).p
    repeat ((conv => whnf); first | (refine VLoad.mk _ (Lk.at b0) ?_) | (refine VCmp.tt (by omega) ?_) | (refine VCmp.ff (by omega) ?_) | (refine VIn.mk (IntWalk.i64_in _ (by omega)) ?_) | (refine VIdx.mk _ rfl (by omega) ?_) | (refine VIdx.mk 0 rfl (by omega) ?_))
    try (conv => whnf)
    refine VDraw.mk 1000 [([0, 1, 2, 3, 4, 6, 7, 8, 9, 10], 5), ([], 11), ([], 12)] [13] (fun W => Below wA.heap.size wA W) (by kernel_rfl) (by kernel_rfl) (bd) ?_
    repeat ((conv => whnf); first | (refine VLoad.mk _ Lp ?_) | (refine VLoad.mk _ Lw ?_) | (refine VCmp.tt (by omega) ?_) | (refine VCmp.ff (by omega) ?_) | (refine VIn.mk (IntWalk.i64_in _ (by omega)) ?_) | (refine VIdx.mk _ rfl (by omega) ?_) | (refine VIdx.mk 0 rfl (by omega) ?_))
    try (conv => whnf)
    refine VCall.mk _ (missing_any P o.e o.l o.i o.c o.wA o.wc N o.who (by show N ≤ wA.heap.size; omega) (hx _ bd).2.1.who ho.s3) ?_
    rintro _ x1 ⟨B, c, rfl, own1, b1⟩
    refine ⟨_, rfl, ?_⟩
    have c1 : Below wA.heap.size wA x1 := bd.trans b1
    have T1 := hA.below c1
    obtain ⟨l1, l2, l3, l4, D⟩ := T1.d
    repeat ((conv => whnf); first | (refine VS.mk c1 ?_) | (refine VCmp.tt (by omega) ?_) | (refine VCmp.ff (by omega) ?_) | (refine VIn.mk (IntWalk.i64_in _ (by omega)) ?_) | (refine VIdx.mk _ rfl (by omega) ?_) | (refine VIdx.mk 0 rfl (by omega) ?_))
    try (conv => whnf)
    refine VCall.mk _ (rmissing_any D T1.dn o.e o.l o.i o.c o.wA o.wc N o.who (by have := c1.size; omega) (hx _ c1).2.1.who ho.s3) ?_
    rintro _ x2 ⟨B2, c2, rfl, own2, b2⟩
    refine ⟨_, rfl, ?_⟩
    have c2' : Below wA.heap.size wA x2 := c1.trans (b2.mono c1.size)
    have hs3 := ho.s3
    have hml : (s.missing o.e o.l o.i o.c o.who).length ≤ o.who.length := by unfold Sto.missing; rw [List.length_map]; exact List.length_filter_le _ _
    repeat ((conv => whnf); first | (refine VS.mk c2' ?_) | (refine VCmp.tt (by omega) ?_) | (refine VCmp.ff (by omega) ?_) | (refine VIn.mk (IntWalk.i64_in _ (by omega)) ?_) | (refine VIdx.mk _ rfl (by omega) ?_) | (refine VIdx.mk 0 rfl (by omega) ?_))
    try (conv => whnf)
    refine VCall.mk _ (sameInts_yes B B2 c c2 x2.heap.size _ x2 (Nat.le_refl _) ((own1.keep b2 (fun q hq => (own1.lo q hq).2)).row len_eInt) (own2.row len_eInt) (by omega)) ?_
    rintro _ x3 ⟨rfl, b3⟩
    refine ⟨_, rfl, ?_⟩
    have c3 : Below wA.heap.size wA x3 := c2'.trans (b3.mono c2'.size)
    repeat ((conv => whnf); first | (refine VS.mk c3 ?_) | (refine VCmp.tt (by omega) ?_) | (refine VCmp.ff (by omega) ?_) | (refine VIn.mk (IntWalk.i64_in _ (by omega)) ?_) | (refine VIdx.mk _ rfl (by omega) ?_) | (refine VIdx.mk 0 rfl (by omega) ?_))
    try (conv => whnf)
    exact .mk ⟨rfl, (hx _ c3).2.2⟩
  by_cases h3 : o.kd = 3
  · repeat ((conv => whnf); first | (refine VLoad.mk _ (Lk.at b0) ?_) | (refine VLoad.mk _ Lo ?_) | (refine VCmp.tt (by omega) ?_) | (refine VCmp.ff (by omega) ?_) | (refine VIn.mk (IntWalk.i64_in _ (by omega)) ?_) | (refine VIdx.mk _ rfl (by omega) ?_) | (refine VIdx.mk 0 rfl (by omega) ?_))
    try (conv => whnf)
    refine VCall.mk _ (gives_any hA (by omega) hoA) ?_
    rintro _ x1 ⟨rfl, bb⟩
    refine ⟨_, rfl, ?_⟩
    repeat ((conv => whnf); first | (refine VCmp.tt (by omega) ?_) | (refine VCmp.ff (by omega) ?_) | (refine VIn.mk (IntWalk.i64_in _ (by omega)) ?_) | (refine VIdx.mk _ rfl (by omega) ?_) | (refine VIdx.mk 0 rfl (by omega) ?_))
    try (conv => whnf)
    exact .mk ⟨rfl, (hx _ bb).2.2⟩
  omega
set_option maxRecDepth 100000 in
theorem onceMore_any {w : World} {F : List Nat} {b g b' g' N : Nat} {s : Sto} {A : Option Addr} {cA : Nat} {os : List Opx} (h : Two w F b g b' g' s) (hsc : ScAt w N A os) (hN : N ≤ w.heap.size) :
    Calls Try.prog 48 #[.pointer (some ⟨b, 0, none⟩), .pointer (some ⟨b', 0, none⟩), .slice A os.length cA] w fun x w' => x = .returned (.bool true) ∧ Below w.heap.size w w' := by
  have hlen := hsc.len
  refine calls_vc tab_ok Try.func48 rfl ?_
  repeat ((conv => whnf); first | (refine VCmp.tt (by omega) ?_) | (refine VCmp.ff (by omega) ?_) | (refine VIn.mk (IntWalk.i64_in _ (by omega)) ?_) | (refine VIdx.mk _ rfl (by omega) ?_) | (refine VIdx.mk 0 rfl (by omega) ?_))
  try (conv => whnf)
  refine VLoop.mk Nat (fun i => [(0, .pointer (some ⟨b, 0, none⟩)), (1, .pointer (some ⟨b', 0, none⟩)), (2, .slice A os.length cA), (7, .int .i64 i)]) (fun i W => i ≤ os.length ∧ i ≤ 60 ∧ Below w.heap.size w W) (fun i => os.length - i) 0 ⟨rfl, rfl, rfl, rfl, trivial⟩ ⟨Nat.zero_le _, Nat.zero_le _, Below.refl _ _⟩ ?_
  rintro i wr ⟨hi, hi60, br⟩
  have hw := h.below br
  by_cases hil : i < os.length ∧ i < 60
  case neg =>
    by_cases hi1 : i < os.length
    · repeat ((conv => whnf); first | (refine VCmp.tt (by omega) ?_) | (refine VCmp.ff (by omega) ?_) | (refine VIn.mk (IntWalk.i64_in _ (by omega)) ?_) | (refine VIdx.mk _ rfl (by omega) ?_) | (refine VIdx.mk 0 rfl (by omega) ?_))
      try (conv => whnf)
      refine VCall.mk _ (tells_any hw) ?_
      rintro _ x3 ⟨rfl, b3⟩
      refine ⟨_, rfl, ?_⟩
      repeat ((conv => whnf); first | (refine VCmp.tt (by omega) ?_) | (refine VCmp.ff (by omega) ?_) | (refine VIn.mk (IntWalk.i64_in _ (by omega)) ?_) | (refine VIdx.mk _ rfl (by omega) ?_) | (refine VIdx.mk 0 rfl (by omega) ?_))
      try (conv => whnf)
      refine VCall.mk _ (tells_any (hw.below b3)) ?_
      rintro _ x4 ⟨rfl, b4⟩
      refine ⟨_, rfl, ?_⟩
      have := br.size
      have := b3.size
      repeat ((conv => whnf); first | (refine VCmp.tt (by omega) ?_) | (refine VCmp.ff (by omega) ?_) | (refine VIn.mk (IntWalk.i64_in _ (by omega)) ?_) | (refine VIdx.mk _ rfl (by omega) ?_) | (refine VIdx.mk 0 rfl (by omega) ?_))
      try (conv => whnf)
      exact .mk ⟨rfl, (br.trans (b3.mono (by omega))).trans (b4.mono (by omega))⟩
    · repeat ((conv => whnf); first | (refine VCmp.tt (by omega) ?_) | (refine VCmp.ff (by omega) ?_) | (refine VIn.mk (IntWalk.i64_in _ (by omega)) ?_) | (refine VIdx.mk _ rfl (by omega) ?_) | (refine VIdx.mk 0 rfl (by omega) ?_))
      try (conv => whnf)
      refine VCall.mk _ (tells_any hw) ?_
      rintro _ x3 ⟨rfl, b3⟩
      refine ⟨_, rfl, ?_⟩
      repeat ((conv => whnf); first | (refine VCmp.tt (by omega) ?_) | (refine VCmp.ff (by omega) ?_) | (refine VIn.mk (IntWalk.i64_in _ (by omega)) ?_) | (refine VIdx.mk _ rfl (by omega) ?_) | (refine VIdx.mk 0 rfl (by omega) ?_))
      try (conv => whnf)
      refine VCall.mk _ (tells_any (hw.below b3)) ?_
      rintro _ x4 ⟨rfl, b4⟩
      refine ⟨_, rfl, ?_⟩
      have := br.size
      have := b3.size
      repeat ((conv => whnf); first | (refine VCmp.tt (by omega) ?_) | (refine VCmp.ff (by omega) ?_) | (refine VIn.mk (IntWalk.i64_in _ (by omega)) ?_) | (refine VIdx.mk _ rfl (by omega) ?_) | (refine VIdx.mk 0 rfl (by omega) ?_))
      try (conv => whnf)
      exact .mk ⟨rfl, (br.trans (b3.mono (by omega))).trans (b4.mono (by omega))⟩
  obtain ⟨hi1, hi2⟩ := hil
  have hs := hsc.below br hN
  obtain ⟨bA, oR, rfl, hbA2, hrow⟩ := hs.row (by omega)
  have hok' : os[i]? = some os[i] := List.getElem?_eq_getElem hi1
  have hmem : os[i] ∈ os := List.getElem_mem _
  generalize os[i] = o at hok' hmem
  have Lo : Ld Try.prog 95 bA (oR + i * 16) (Eq wr) (.agg (opA o)) := .of (load_agg (by kernel_rfl) (by kernel_rfl) (fun j u hu => hrow i o hok' j u hu))
  have Lk : Ld Try.prog 3 bA (oR + i * 16) (Eq wr) (.int .i64 o.kd) := .of (load3 (hrow i o hok' 0 _ rfl))
  have hr := br.size
  by_cases h2 : o.kd = 2
  · repeat ((conv => whnf); first | (refine VLoad.mk _ Lk ?_) | (refine VLoad.mk _ Lo ?_) | (refine VCmp.tt (by omega) ?_) | (refine VCmp.ff (by omega) ?_) | (refine VIn.mk (IntWalk.i64_in _ (by omega)) ?_) | (refine VIdx.mk _ rfl (by omega) ?_) | (refine VIdx.mk 0 rfl (by omega) ?_))
    try (conv => whnf)
    refine VCall.mk _ (step_ask (N := N) hw (by omega) (hs.each o hmem) (.inl h2)) ?_
    rintro _ x3 ⟨rfl, b3⟩
    refine ⟨_, rfl, ?_⟩
    repeat ((conv => whnf); first | (refine VCmp.tt (by omega) ?_) | (refine VCmp.ff (by omega) ?_) | (refine VIn.mk (IntWalk.i64_in _ (by omega)) ?_) | (refine VIdx.mk _ rfl (by omega) ?_) | (refine VIdx.mk 0 rfl (by omega) ?_))
    try (conv => whnf)
    exact .mk (i + 1) ⟨rfl, rfl, rfl, rfl, trivial⟩ ⟨hi1, hi2, br.trans (b3.mono hr)⟩ (by omega)
  by_cases h3 : o.kd = 3
  · repeat ((conv => whnf); first | (refine VLoad.mk _ Lk ?_) | (refine VLoad.mk _ Lo ?_) | (refine VCmp.tt (by omega) ?_) | (refine VCmp.ff (by omega) ?_) | (refine VIn.mk (IntWalk.i64_in _ (by omega)) ?_) | (refine VIdx.mk _ rfl (by omega) ?_) | (refine VIdx.mk 0 rfl (by omega) ?_))
    try (conv => whnf)
    refine VCall.mk _ (step_ask (N := N) hw (by omega) (hs.each o hmem) (.inr h3)) ?_
    rintro _ x3 ⟨rfl, b3⟩
    refine ⟨_, rfl, ?_⟩
    repeat ((conv => whnf); first | (refine VCmp.tt (by omega) ?_) | (refine VCmp.ff (by omega) ?_) | (refine VIn.mk (IntWalk.i64_in _ (by omega)) ?_) | (refine VIdx.mk _ rfl (by omega) ?_) | (refine VIdx.mk 0 rfl (by omega) ?_))
    try (conv => whnf)
    exact .mk (i + 1) ⟨rfl, rfl, rfl, rfl, trivial⟩ ⟨hi1, hi2, br.trans (b3.mono hr)⟩ (by omega)
  repeat ((conv => whnf); first | (refine VLoad.mk _ Lk ?_) | (refine VLoad.mk _ Lo ?_) | (refine VCmp.tt (by omega) ?_) | (refine VCmp.ff (by omega) ?_) | (refine VIn.mk (IntWalk.i64_in _ (by omega)) ?_) | (refine VIdx.mk _ rfl (by omega) ?_) | (refine VIdx.mk 0 rfl (by omega) ?_))
  try (conv => whnf)
  exact .mk (i + 1) ⟨rfl, rfl, rfl, rfl, trivial⟩ ⟨hi1, hi2, br⟩ (by omega)
end Go.Proofs.Ytcffhfcjfjfokaa
namespace Go.Proofs.Ytcffhfcjfjfokaa
open Go Go.RowKit
def asX (x : BX) (t : WX) : AsX := ⟨x.f.L, x.f.cL, x.f.P.map rowT, t.WF, t.cWF, t.fw, x.d.L, x.d.cL, x.d.P.map rowT, t.WD, t.cWD, t.dw, t.PL, t.cPL, t.pt, t.WI, t.cWI, t.pw⟩
theorem map_at {α : Type} {P : List (RowX α)} {i : Nat} {s : Tri} (h : (P.map rowT)[i]? = some s) : ∃ r, P[i]? = some r ∧ rowT r = s := by
  rw [List.getElem?_map] at h
  cases e : P[i]? with
  | none => rw [e] at h; cases h
  | some r => rw [e] at h; injection h with h; exact ⟨r, rfl, h⟩
theorem Tn.asIn {W : World} {base hb n : Nat} {F K : List Nat} {x : BX} {t : WX} (T : Tn W base hb F K x t) (Z : Sz x t n) (hn : n ≤ 1000000000) : AsIn W W.heap.size hb (asX x t) := by
  have hz := T.B.hz
  have hbz := T.B.z
  have hlf := Z.lf
  have hld := Z.ld
  have hlp := Z.lp
  have r6 := T.B.r 6 _ rfl
  have r8 := T.B.r 8 _ rfl
  refine ⟨by show _ = some (Value.slice _ (x.f.P.map rowT).length _); rw [List.length_map]; exact r6, T.B.r 12 _ rfl, by show _ = some (Value.slice _ (x.d.P.map rowT).length _); rw [List.length_map]; exact r8, T.B.r 13 _ rfl, T.B.r 15 _ rfl, T.B.r 14 _ rfl, by omega, T.B.f.l.row len_eTr, T.W.wf.row len_eTr, T.B.d.l.row len_eTr, T.W.wd.row len_eTr, T.W.pl.row len_eTr, T.W.wi.row len_eTr, by show t.fw.length = (x.f.P.map rowT).length; rw [List.length_map]; exact Z.nf, by show t.dw.length = (x.d.P.map rowT).length; rw [List.length_map]; exact Z.nd, Z.np, by show (x.f.P.map rowT).length ≤ _; rw [List.length_map]; omega, by show (x.d.P.map rowT).length ≤ _; rw [List.length_map]; omega, by show t.pt.length ≤ _; omega, ?_, ?_, ?_⟩
  · intro i s u hs hu
    obtain ⟨r, hr, rfl⟩ := map_at (P := x.f.P) hs
    obtain ⟨ws, hw, he, hl⟩ := T.W.f i r u hr hu
    have hrm := List.mem_of_getElem? hr
    have hlen := (T.B.f.k.o r hrm).len
    refine ⟨r.l.map Rw.f, rows_fls ⟨(T.B.f.k.o r hrm).row len_eRw, fun y hy => ?_⟩, by rw [← he]; exact hw.fls, by rw [List.length_map]; rfl, by rw [← he, List.length_map]; exact hl, by rw [List.length_map]; omega⟩
    obtain ⟨h1, h2⟩ := T.W.fs r hrm y hy
    have o1 := T.B.s.k.o _ h1
    have o2 := T.B.i.k.o _ h2
    exact ⟨o1.row len_eSlot, o2.row len_eInt, o1.len.1, o1.len.2, o2.len.1, o2.len.2⟩
  · intro i s u hs hu
    obtain ⟨r, hr, rfl⟩ := map_at (P := x.d.P) hs
    obtain ⟨ws, hw, he, hl⟩ := T.W.d i r u hr hu
    have hrm := List.mem_of_getElem? hr
    have hlen := (T.B.d.k.o r hrm).len
    refine ⟨r.l.map Dr.d, ⟨r.l, rfl, (T.B.d.k.o r hrm).row len_eDr, fun y hy => ?_⟩, by rw [← he]; exact hw.dts, by rw [List.length_map]; rfl, by rw [← he, List.length_map]; exact hl, by rw [List.length_map]; omega⟩
    have o1 := T.B.y.k.o _ (T.W.ds r hrm y hy)
    exact ⟨o1.row len_eByte, o1.len.1, o1.len.2⟩
  · intro i s u hs hu
    obtain ⟨r, hr, rfl, hw, hl⟩ := T.W.p i s u hs hu
    have o1 := T.B.i.k.o r hr
    exact ⟨r.l, o1.row len_eInt, hw.row, rfl, hl, by have := o1.len; omega⟩
theorem Sz.bo0 {x : BX} {t : WX} {n : Nat} (Z : Sz x t n) (Q : NoQ x) (hn : n ≤ 1000000000) : Bo0 x := by
  have h1 := Z.ly; have h2 := Z.li; have h3 := Z.ls; have h4 := Z.lf; have h5 := Z.ld
  exact ⟨Q.y, Q.i, Q.s, Q.f, Q.d, Q.m, Z.by', Z.bi, Z.bs, Z.bf, Z.bd, fun r hr => (by rw [Z.m] at hr; cases hr), by omega, by omega, by omega, by omega, by omega, by rw [Z.m]; exact Nat.zero_le _⟩
def StO (W : World) (F : List Nat) (lo hi : Nat) : Option (Nat × Nat × Nat × Nat) → Prop
  | none => True
  | some q => Low lo hi q.1 q.2.1 q.2.2.1 q.2.2.2 ∧ ∃ s, Two W F q.1 q.2.1 q.2.2.1 q.2.2.2 s
theorem StO.fx {W W' : World} {F F' S : List Nat} {lo hi : Nat} {q : Option (Nat × Nat × Nat × Nat)} (h : StO W F lo hi q) (hf : Fx S W W') (hS : ∀ y ∈ S, y ∈ F ∧ (y < lo ∨ hi ≤ y)) (ha : ∀ y ∈ F, y ∈ F') (hF : ∀ y ∈ F', y ∈ F ∨ W.heap.size ≤ y) (hi' : ∀ y ∈ F', y < W'.heap.size) : StO W' F' lo hi q := by
  match q, h with
  | none, _ => trivial
  | some (b, g, b', g'), ⟨⟨⟨n1, n2, n3, n4⟩, m1, m2, m3, m4⟩, s, S2⟩ =>
    obtain ⟨f1, f2, f3, f4⟩ := S2.bF
    refine ⟨⟨⟨n1, n2, n3, n4⟩, m1, m2, m3, m4⟩, s, S2.fxm hf (fun y hy => ?_) hF (ha _ f1) (ha _ f2) (ha _ f3) (ha _ f4) hi'⟩
    obtain ⟨h1, h2⟩ := hS y hy
    dsimp only at n1 n2 n3 n4 m1 m2 m3 m4 ⊢
    exact ⟨h1, ha y h1, by omega, by omega, by omega, by omega⟩
theorem StO.below {W W' : World} {F : List Nat} {lo hi : Nat} {q : Option (Nat × Nat × Nat × Nat)} (h : StO W F lo hi q) (hb : Below W.heap.size W W') : StO W' F lo hi q := by
  match q, h with
  | none, _ => trivial
  | some (b, g, b', g'), ⟨l, s, S2⟩ => exact ⟨l, s, S2.below hb⟩
theorem held_st {W : World} {base hb n N lo hi lo2 hi2 : Nat} {F : List Nat} {x : BX} {t : WX} {b g b' g' : Nat} {q2 : Option (Nat × Nat × Nat × Nat)} {o : Opx} (T : Tn W base hb F [] x t) (Z : Sz x t n) (hn : n ≤ 600000000) (h1 : StO W F lo hi (some (b, g, b', g'))) (h2 : StO W F lo2 hi2 q2) (hap : hi2 ≤ lo ∨ hi ≤ lo2) (hN : N ≤ lo) (hlh : lo ≤ hi) (hh : hi ≤ hb) (hh2 : hi2 ≤ hb) (ho : OpAt W N o) :
    Calls Try.prog 46 #[.pointer (some ⟨hb, 0, none⟩), .pointer (some ⟨b, 0, none⟩), .pointer (some ⟨b', 0, none⟩), .agg (opA o)] W fun e W' => e = .returned (.bool true) ∧ ∃ F' x' t', Below N W W' ∧ Tn W' base hb F' [] x' t' ∧ Sz x' t' (n + 3000000) ∧ StO W' F' lo hi (some (b, g, b', g')) ∧ StO W' F' lo2 hi2 q2 ∧ ∀ k, k < W.heap.size → k ∉ F → W'.heap[k]? = W.heap[k]? := by
  obtain ⟨⟨⟨n1, n2, n3, n4⟩, m1, m2, m3, m4⟩, s, S2⟩ := h1
  dsimp only at n1 n2 n3 n4 m1 m2 m3 m4 S2
  have hz := T.B.hz
  have hbz := T.B.z
  refine (held_any (N := N) T Z hn S2 ⟨⟨by omega, by omega, by omega, by omega⟩, by omega, by omega, by omega, by omega⟩ (by omega) ho).mono ?_
  rintro e W' ⟨rfl, H⟩
  obtain ⟨F', x', t', s', ff, a1, b1, T1, Z1, S1⟩ := H.ex
  have hS : ∀ y ∈ b :: g :: b' :: g' :: F.filter (fun q => decide (hb ≤ q)), y ∈ F ∧ (lo ≤ y ∧ y < hi ∨ hb ≤ y) := fun y hy => by
    obtain ⟨f1, f2, f3, f4⟩ := S2.bF
    simp only [List.mem_cons] at hy
    rcases hy with rfl | rfl | rfl | rfl | hy
    · exact ⟨f1, by omega⟩
    · exact ⟨f2, by omega⟩
    · exact ⟨f3, by omega⟩
    · exact ⟨f4, by omega⟩
    · exact ⟨(List.mem_filter.1 hy).1, .inr (by simpa using (List.mem_filter.1 hy).2)⟩
  refine ⟨rfl, F', x', t', ff.to (fun y hy => by have := (hS y hy).2; omega) (by omega), T1, Z1, ⟨⟨⟨n1, n2, n3, n4⟩, m1, m2, m3, m4⟩, s', S1⟩, h2.fx ff (fun y hy => ⟨(hS y hy).1, by have := (hS y hy).2; omega⟩) a1 b1 fun y hy => T1.hi y (List.mem_append.2 (.inl hy)), fun k hk hn => ff.block k hk fun hm => hn (hS k hm).1⟩
theorem alone_st {W : World} {base hb n N lo hi lo2 hi2 : Nat} {F : List Nat} {x : BX} {t : WX} {q1 q2 : Option (Nat × Nat × Nat × Nat)} (T : Tn W base hb F [] x t) (Z : Sz x t n) (hn : n ≤ 1000000000) (h1 : StO W F lo hi q1) (h2 : StO W F lo2 hi2 q2) (hh : hi ≤ hb) (hh2 : hi2 ≤ hb) (hN : N ≤ hb) :
    Calls Try.prog 47 #[.pointer (some ⟨hb, 0, none⟩)] W fun e W' => e = .returned (.bool true) ∧ Below N W W' ∧ StO W' F lo hi q1 ∧ StO W' F lo2 hi2 q2 := by
  have hz := T.B.hz
  have hbz := T.B.z
  have hF : ∀ q ∈ F, q < W.heap.size := fun q hq => T.hi q (List.mem_append.2 (.inl hq))
  refine (alone_any (S := bkS x hb) (bkIn_bkS _ _) (List.mem_cons_self ..) T.B rfl (Z.bo0 T.Q hn) (T.asIn Z hn) (Nat.le_refl _)).mono ?_
  rintro e W' ⟨rfl, ff⟩
  have hS : ∀ y ∈ bkS x hb, y ∈ F ∧ hb ≤ y := fun y hy => ⟨T.F1 y hy, (T.B.bks y hy).1⟩
  exact ⟨rfl, ff.to (fun y hy => by have := (hS y hy).2; omega) (by omega), h1.fx ff (fun y hy => ⟨(hS y hy).1, .inr (by have := (hS y hy).2; omega)⟩) (fun y hy => hy) (fun y hy => .inl hy) (fun y hy => Nat.lt_of_lt_of_le (hF y hy) ff.size), h2.fx ff (fun y hy => ⟨(hS y hy).1, .inr (by have := (hS y hy).2; omega)⟩) (fun y hy => hy) (fun y hy => .inl hy) (fun y hy => Nat.lt_of_lt_of_le (hF y hy) ff.size)⟩
theorem two_new {w1 w2 : World} {m b g b' g' : Nat} {F : List Nat} (P : StV w1 [b, g] b g 0 1 (stoNew m) (List.replicate m KpX.zero) none 0 []) (q1 : w1.cell? ⟨b, 5, none⟩ = some (.bool false)) (b2 : Below w1.heap.size w1 w2) (D : StV w2 [b', g'] b' g' 1 2 (stoNew m) (List.replicate m KpX.zero) none 0 []) (q2 : w2.cell? ⟨b', 0, none⟩ = some (.int .i64 m)) (h1 : w1.heap.size ≤ g') (h2 : w1.heap.size ≤ b') (f1 : b ∈ F) (f2 : g ∈ F) (f3 : b' ∈ F) (f4 : g' ∈ F) (hi : ∀ y ∈ F, y < w2.heap.size) : Two w2 F b g b' g' (stoNew m) := by
  have hP1 := P.hi b P.bF
  have hP2 := P.hi g P.gF
  exact ⟨⟨_, _, _, _, (P.below b2).fresh f1 f2 hi⟩, ⟨_, _, _, _, D.fresh f3 f4 hi⟩, ⟨false, (b2.cell (p := ⟨b, 5, none⟩) hP1).trans q1, fun _ => rfl⟩, q2, by omega, by omega, by omega, by omega⟩
theorem StO.two {W : World} {F : List Nat} {lo hi b g b' g' : Nat} (h : StO W F lo hi (some (b, g, b', g'))) : ∃ s, Two W F b g b' g' s := h.2
def lastO : Opx := ⟨6, 0, 0, ⟨0, 0, 0, 0, 0, [], []⟩, none, 0, none, 0, 0, 0, 0, 0, [], none, 0, [], none, 0⟩
theorem lastAt (w : World) (N : Nat) : OpAt w N lastO := by
  have hn : ∀ {α : Type} {sz : Nat} {enc : α → List Value} {A : Option Addr}, RowAt w N sz enc A [] := fun h0 => absurd h0 (Nat.lt_irrefl 0)
  exact ⟨⟨hn, hn, Nat.le_refl _, Nat.zero_le _, Nat.le_refl _, Nat.zero_le _⟩, hn, ⟨hn, fun r hr => (by cases hr)⟩, Nat.zero_le _, Nat.zero_le _, Nat.zero_le _, Nat.zero_le _, fun d hd => (by cases hd)⟩
theorem bld95 (W : World) : (Instr.build 95 #[(0, .int .i64 6)]).run Try.prog W = .ok (.agg (opA lastO)) W := by kernel_rfl
def zero95 : Value := .agg #[.int .i64 0, .int .i64 0, .int .i64 0, .int .i64 0, .int .i64 0, .int .i64 0, .int .i64 0, .int .i64 0, .slice none 0 0, .slice none 0 0, .int .i64 0, .int .i64 0, .int .i64 0, .int .i64 0, .slice none 0 0, .slice none 0 0]
theorem run_zero95 (W : World) : (zeroValue 95).run Try.prog W = .ok zero95 W := by kernel_rfl
theorem one_opA (o : Opx) : (opA o).all (·.oneCell') = true := by
  refine all_oneCell_toArray (cs := (opA o).toList) fun u hu => ?_
  simp [opA] at hu
  rcases hu with rfl | rfl | rfl | rfl | rfl | rfl | rfl | rfl | rfl | rfl | rfl | rfl | rfl | rfl | rfl | rfl <;> rfl
theorem bld105' (W : World) : (Instr.build 105 #[]).run Try.prog W = .ok (.agg held0) W := by kernel_rfl
def wx0 : WX := ⟨none, 0, [], none, 0, [], none, 0, [], none, 0, []⟩
theorem tn_new (w : World) (F : List Nat) (hF : ∀ q ∈ F, q < w.heap.size) : Tn (w.alloc (.cells held0 105)) (w.heap.size + 1) w.heap.size (F ++ [w.heap.size]) [] bx0 wx0 := by
  have hk : ∀ {α : Type} {q : Nat}, q ∉ kxS (kx0 : KX α) := fun h => by simp [kxS, kx0, blk] at h
  have hn : ∀ {q : Nat} {P : Prop}, (blk (none : Option Addr) = some q) → P := fun h => by cases h
  refine ⟨bo_new w, ⟨owns_nil _ _ _ _ _, owns_nil _ _ _ _ _, owns_nil _ _ _ _ _, owns_nil _ _ _ _ _, fun q hq => ?_, fun q hq => hn hq, Nat.le_refl _, Nat.le_refl _, Nat.le_refl _, fun i r u h => (by simp [bx0, kx0] at h), fun i r u h => (by simp [bx0, kx0] at h), fun i r u h => (by simp [wx0] at h), fun r hr => (by cases hr), fun r hr => (by cases hr), fun r hr => (by cases hr)⟩, fun q hq => ?_, fun q hq => ?_, fun q hq => ?_, ⟨rfl, rfl, rfl, rfl, rfl, rfl⟩, fun q hq => (by cases hq)⟩
  · rcases hq with e | e | e | e <;> exact hn e
  · rcases bkS_K.1 hq with rfl | e | e | e | e | e | e
    · simp
    all_goals exact absurd e hk
  · rcases hq with e | e | e | e <;> exact hn e
  · simp only [List.append_nil, List.mem_append, List.mem_singleton] at hq
    rw [World.size_alloc]
    rcases hq with e | rfl
    · have := hF q e; omega
    · omega
theorem sz_new : Sz bx0 wx0 0 := by
  refine ⟨?_, ?_, ?_, ?_, ?_, Nat.le_refl _, Nat.le_refl _, Nat.le_refl _, Nat.le_refl _, Nat.le_refl _, Nat.le_refl _, rfl, rfl, rfl, rfl⟩ <;> intro r hr <;> cases hr
end Go.Proofs.Ytcffhfcjfjfokaa
