/- PlWalk, joined. -/
import Derived.Test.YtcffhfcjfjfokaaSv13
import Derived.Test.YtcffhfcjfjfokaaSv16
set_option linter.unusedVariables false
set_option linter.unusedSimpArgs false
/- FlushPlace's walk. -/
namespace Go.Proofs.Ytcffhfcjfjfokaa
open Go Go.RowKit
theorem msOwn_dts {w : World} {base : Nat} {B : Option Addr} {c : Nat} {rs : List Dr} (h : MsOwn w base B c rs) : Dts w w.heap.size B (rs.map Dr.d) :=
  ⟨rs, rfl, h.row.row len_eDr, fun r hr => ⟨(h.each r hr).row len_eByte, (h.each r hr).len.1, (h.each r hr).len.2⟩⟩
set_option maxRecDepth 100000 in
set_option maxHeartbeats 4000000 in
theorem place_walk {w : World} {N : Nat} (c d : Cx) (hN : N ≤ w.heap.size) (hc : CxAt w N c) (hd : CxAt w N d) : Calls Try.prog 12 #[.agg (cxA c), .agg (cxA d)] w fun x w' => x = .returned (.bool true) ∧ Below w.heap.size w w' := by
  refine calls_vc tab_ok Try.func12 rfl ?_
  conv => whnf
  refine .mk fun wA hwA => ?_
  have hbA : Below w.heap.size w wA := by rw [hwA.out]; exact below_box1 _ _ _
  have zA : wA.heap.size = w.heap.size + 1 := by rw [hwA.out]; simp
  have oA : wA.rangeAt w.heap.size 0 (cxA c).toList := by rw [hwA.out]; exact range_new w (cxA c) 42
  clear hwA
  repeat ((conv => whnf); first | (refine VCmp.tt (by omega) ?_) | (refine VCmp.ff (by omega) ?_) | (refine VIn.mk (IntWalk.i64_in _ (by omega)) ?_) | (refine VIdx.mk _ rfl (by omega) ?_) | (refine VIdx.mk 0 rfl (by omega) ?_))
  try (conv => whnf)
  refine .mk fun wB hwB => ?_
  have hbB : Below wA.heap.size wA wB := by rw [hwB.out]; exact below_box1 _ _ _
  have zB : wB.heap.size = w.heap.size + 2 := by rw [hwB.out]; simp; omega
  have oB : wB.rangeAt wA.heap.size 0 (cxA d).toList := by rw [hwB.out]; exact range_new wA (cxA d) 42
  clear hwB
  have hx : ∀ W, Below wB.heap.size wB W → W.rangeAt w.heap.size 0 (cxA c).toList ∧ W.rangeAt wA.heap.size 0 (cxA d).toList ∧ CxAt W N c ∧ CxAt W N d ∧ Below w.heap.size w W := fun W hW =>
    have b1 : Below w.heap.size w W := (hbA.trans (hbB.mono (by omega))).trans (hW.mono (by omega))
    ⟨range_same (range_same oA (hbB.block _ (by omega))) (hW.block _ (by omega)), range_same oB (hW.block _ (by omega)), hc.below b1 hN, hd.below b1 hN, b1⟩
  have b0 : Below wB.heap.size wB wB := Below.refl _ _
  have Lc0 : Ld Try.prog 22 w.heap.size 0 (Eq wB) (.slice c.A c.fs.length c.cA) := .of (load_cell (by kernel_rfl) ((hx _ b0).1 0 _ rfl))
  have Ld0 : Ld Try.prog 22 wA.heap.size 0 (Eq wB) (.slice d.A d.fs.length d.cA) := .of (load_cell (by kernel_rfl) ((hx _ b0).2.1 0 _ rfl))
  have hcs := hc.sm.1
  have hds := hd.sm.1
  have hcc := hc.cap
  by_cases hdc : d.fs.length < c.fs.length
  case pos =>
    have hn1 : d.fs.length ≤ c.fs.length := by omega
    have hn2 : d.fs.length ≤ d.fs.length := by omega
    repeat ((conv => whnf); first | (refine VLoad.mk _ Lc0 ?_) | (refine VLoad.mk _ Ld0 ?_) | (refine VSl.upto (by omega) ?_) | (refine VCmp.tt (by omega) ?_) | (refine VCmp.ff (by omega) ?_) | (refine VIn.mk (IntWalk.i64_in _ (by omega)) ?_) | (refine VIdx.mk _ rfl (by omega) ?_) | (refine VIdx.mk 0 rfl (by omega) ?_))
    try (conv => whnf)
    have C1 := many_w c.A c.cA N (c.fs.take d.fs.length) wB (by omega) (fls_take (hx _ b0).2.2.1.fls _) (small_take hc.sm _)
    rw [List.length_take, Nat.min_eq_left hn1] at C1
    refine VCall.mk _ C1 ?_
    rintro _ w1 ⟨⟨A, cA, ra, rfl, hra, FA⟩, b1⟩
    refine ⟨_, rfl, ?_⟩
    clear C1
    have z1 := b1.size
    have Lco : Ld Try.prog 39 w.heap.size 1 (Eq w1) (.agg (flc c.own.e c.own.l c.own.i c.own.c c.own.base c.X c.own.slots.length c.cX c.Y c.own.have_.length c.cY)) := .of (load39 (range_sub (n := 7) (hx _ b1).1 1 rfl))
    repeat ((conv => whnf); first | (refine VLoad.mk _ Lco ?_) | (refine VCmp.tt (by omega) ?_) | (refine VCmp.ff (by omega) ?_) | (refine VIn.mk (IntWalk.i64_in _ (by omega)) ?_) | (refine VIdx.mk _ rfl (by omega) ?_) | (refine VIdx.mk 0 rfl (by omega) ?_))
    try (conv => whnf)
    refine VBs.mk _ _ (bs22 w1 c.own.e c.own.l c.own.i c.own.c c.own.base c.X c.own.slots.length c.cX c.Y c.own.have_.length c.cY) ?_
    have b2 : Below w1.heap.size w1 (w1.alloc (.cells (flc c.own.e c.own.l c.own.i c.own.c c.own.base c.X c.own.slots.length c.cX c.Y c.own.have_.length c.cY) 39)) := (Below.refl _ _).alloc (Nat.le_refl _) _
    have z2 : (w1.alloc (.cells (flc c.own.e c.own.l c.own.i c.own.c c.own.base c.X c.own.slots.length c.cX c.Y c.own.have_.length c.cY) 39)).heap.size = w1.heap.size + 1 := by simp
    have r2 : (w1.alloc (.cells (flc c.own.e c.own.l c.own.i c.own.c c.own.base c.X c.own.slots.length c.cX c.Y c.own.have_.length c.cY) 39)).rangeAt w1.heap.size 0 (flc c.own.e c.own.l c.own.i c.own.c c.own.base c.X c.own.slots.length c.cX c.Y c.own.have_.length c.cY).toList := range_new w1 _ 39
    generalize w1.alloc (.cells (flc c.own.e c.own.l c.own.i c.own.c c.own.base c.X c.own.slots.length c.cX c.Y c.own.have_.length c.cY) 39) = w2 at b2 z2 r2 ⊢
    have bb2 : Below wB.heap.size wB w2 := b1.trans (b2.mono z1)
    repeat ((conv => whnf); first | (refine VCmp.tt (by omega) ?_) | (refine VCmp.ff (by omega) ?_) | (refine VIn.mk (IntWalk.i64_in _ (by omega)) ?_) | (refine VIdx.mk _ rfl (by omega) ?_) | (refine VIdx.mk 0 rfl (by omega) ?_))
    try (conv => whnf)
    refine VCall.mk _ (many_w (some ⟨w1.heap.size, 0, none⟩) 1 w2.heap.size [c.own] w2 (Nat.le_refl _) (fls_one (by omega) (by omega) r2 (hx _ bb2).2.2.1.own) (small_own hc.o1 hc.o2)) ?_
    rintro _ w3 ⟨⟨O, cO, ro, rfl, hro, FO⟩, b3⟩
    refine ⟨_, rfl, ?_⟩
    have z3 := b3.size
    have bb3 : Below wB.heap.size wB w3 := bb2.trans (b3.mono (by omega))
    repeat ((conv => whnf); first | (refine VCmp.tt (by omega) ?_) | (refine VCmp.ff (by omega) ?_) | (refine VIn.mk (IntWalk.i64_in _ (by omega)) ?_) | (refine VIdx.mk _ rfl (by omega) ?_) | (refine VIdx.mk 0 rfl (by omega) ?_))
    try (conv => whnf)
    refine VBs.mk _ _ (bs37z w3) ?_
    have b4 : Below w3.heap.size w3 (w3.alloc (.cells #[] 3)) := (Below.refl _ _).alloc (Nat.le_refl _) _
    have z4 : (w3.alloc (.cells #[] 3)).heap.size = w3.heap.size + 1 := by simp
    have o4 : Owns (w3.alloc (.cells #[] 3)) w3.heap.size 3 1 eInt (some ⟨w3.heap.size, 0, none⟩) 0 ([] : List Int) := owns_empty _ _ _ _ _ (Nat.le_refl _)
    generalize w3.alloc (.cells #[] 3) = w4 at b4 z4 o4 ⊢
    have bb4 : Below wB.heap.size wB w4 := bb3.trans (b4.mono (by omega))
    have Lcw : Ld Try.prog 37 w.heap.size 9 (Eq w4) (.slice c.C c.who.length c.cC) := .of (load37 ((hx _ bb4).1 9 _ rfl))
    have hwl := hc.wl
    repeat ((conv => whnf); first | (refine VLoad.mk _ Lcw ?_) | (refine VCmp.tt (by omega) ?_) | (refine VCmp.ff (by omega) ?_) | (refine VIn.mk (IntWalk.i64_in _ (by omega)) ?_) | (refine VIdx.mk _ rfl (by omega) ?_) | (refine VIdx.mk 0 rfl (by omega) ?_))
    try (conv => whnf)
    refine VApp.rows w3.heap.size 1 8 _ Try.underlying37 info3 rfl (by decide) eInt len_eInt one_eInt ([] : List Int) c.who rfl rfl o4 (hx _ bb4).2.2.1.who (by omega) (by omega) (by omega) fun C cC w5 ho5 hg5 hk5 => ?_
    have b35 : Below w3.heap.size w3 w5 := b4.grown hg5 (by omega) (fun q hq => (o4.lo q hq).1)
    have bb5 : Below wB.heap.size wB w5 := bb3.trans (b35.mono (by omega))
    have z5 := hg5.size
    have hms := hc.sd.1
    rw [List.length_map] at hms
    have Lcm : Ld Try.prog 40 w.heap.size 12 (Eq w5) (.slice c.M c.ms.length c.cM) := .of (load_cell (by kernel_rfl) ((hx _ bb5).1 12 _ rfl))
    repeat ((conv => whnf); first | (refine VLoad.mk _ Lcm ?_) | (refine VCmp.tt (by omega) ?_) | (refine VCmp.ff (by omega) ?_) | (refine VIn.mk (IntWalk.i64_in _ (by omega)) ?_) | (refine VIdx.mk _ rfl (by omega) ?_) | (refine VIdx.mk 0 rfl (by omega) ?_))
    try (conv => whnf)
    refine VCall.mk _ (datas_w c.M c.cM N c.ms w5 (by omega) (hx _ bb5).2.2.1.ms hc.sd) ?_
    rintro _ w6 ⟨⟨M, cM, rm, rfl, hrm, FM⟩, b6⟩
    refine ⟨_, rfl, ?_⟩
    have z6 := b6.size
    have bb6 : Below wB.heap.size wB w6 := bb5.trans (b6.mono (by omega))
    have hrl : ra.length = d.fs.length := by have := congrArg List.length hra; rw [List.length_map, List.length_take] at this; omega
    have hol : ro.length = 1 := by have := congrArg List.length hro; rwa [List.length_map] at this
    have hml : rm.length = c.ms.length := by have := congrArg List.length hrm; simpa using this
    have b16 : Below w1.heap.size w1 w6 := ((b2.trans (b3.mono (by omega))).trans (b35.mono (by omega))).trans (b6.mono (by omega))
    have b36 : Below w3.heap.size w3 w6 := b35.trans (b6.mono (by omega))
    have F5 : Owns w5 w3.heap.size 3 1 eInt C cC c.who := ho5
    have lA := FA.blks
    have lO := FO.blks
    have lC : ∀ k ∈ (blk C).toList, w3.heap.size ≤ k ∧ k < w5.heap.size := fun k hk => F5.lo k (by simpa [Option.mem_toList] using hk)
    have lM := FM.blks
    have R0 : Room wB.heap.size w.heap.size (cxA c).toList ⟨A, cA, ra, O, cO, ro, C, cC, c.who, M, cM, rm⟩ w6 :=
      ⟨bb6.size, FA.below b16, (FO.below b36).lower (by omega), (F5.keep b6 fun k hk => (F5.lo k hk).2).base (by omega), FM.lower (by omega),
        Dj.new (n := w1.heap.size) (fun k hk => (lA k hk).2) (fun k hk => by have := (lO k hk).1; omega), Dj.new (n := w1.heap.size) (fun k hk => (lA k hk).2) (fun k hk => by have := (lC k hk).1; omega), Dj.new (n := w1.heap.size) (fun k hk => (lA k hk).2) (fun k hk => by have := (lM k hk).1; omega),
        Dj.new (n := w3.heap.size) (fun k hk => (lO k hk).2) (fun k hk => (lC k hk).1), Dj.new (n := w3.heap.size) (fun k hk => (lO k hk).2) (fun k hk => by have := (lM k hk).1; omega), Dj.new (n := w5.heap.size) (fun k hk => (lC k hk).2) (fun k hk => (lM k hk).1),
        by omega, (hx _ bb6).1, fun hm => by have := (lA _ hm).1; omega, fun hm => by have := (lO _ hm).1; omega, fun hm => by have := (lC _ hm).1; omega, fun hm => by have := (lM _ hm).1; omega⟩
    rw [← hml]
    have hok : MsOk rm := MsOk.of hc.sd hc.kd hrm
    repeat ((conv => whnf); first | (refine VCmp.tt (by omega) ?_) | (refine VCmp.ff (by omega) ?_) | (refine VIn.mk (IntWalk.i64_in _ (by omega)) ?_) | (refine VIdx.mk _ rfl (by omega) ?_) | (refine VIdx.mk 0 rfl (by omega) ?_))
    try (conv => whnf)
    refine VLoop.mk (Nat × RX) (fun s => [(2, .pointer (some ⟨w.heap.size, 0, none⟩)), (3, .pointer (some ⟨wA.heap.size, 0, none⟩)), (6, .slice s.2.A d.fs.length s.2.cA), (7, .slice s.2.O 1 s.2.cO), (8, .slice s.2.C s.2.lc.length s.2.cC), (9, .slice s.2.M s.2.rm.length s.2.cM), (10, .int .i64 s.1)]) (fun s W => PlI wB wB.heap.size w.heap.size (cxA c).toList d.fs.length s.1 s.2 W) (fun s => 3 - s.1) (0, ⟨A, cA, ra, O, cO, ro, C, cC, c.who, M, cM, rm⟩) ⟨rfl, rfl, rfl, rfl, by show some (Value.slice C (0 + c.who.length) cC) = _; rw [Nat.zero_add], rfl, rfl, trivial⟩ ⟨Nat.zero_le _, R0, bb6, hrl, hol, hok⟩ ?_
    clear R0 hok hrl hol hml hrm hro hra hk5 hg5 ho5 F5 lA lO lC lM FA FO FM b16 b36 bb2 bb3 bb4 bb5 bb6 b1 b2 b3 b4 b35 b6 o4 r2 z1 z2 z3 z4 z5 z6 Lcw Lcm Lco
    clear w6 w5 w4 w3 w2 w1 A cA ra O cO ro C cC M cM rm
    rintro ⟨k, ⟨A, cA, ra, O, cO, ro, C, cC, lc, M, cM, rm⟩⟩ W0 ⟨hk, R, bB, hra, hro, hrm⟩
    dsimp only at hk R bB hra hro hrm ⊢
    by_cases hk3 : k < 3
    case neg =>
      repeat ((conv => whnf); first | (refine VCmp.tt (by omega) ?_) | (refine VCmp.ff (by omega) ?_) | (refine VIn.mk (IntWalk.i64_in _ (by omega)) ?_) | (refine VIdx.mk _ rfl (by omega) ?_) | (refine VIdx.mk 0 rfl (by omega) ?_))
      try (conv => whnf)
      exact .mk ⟨rfl, (hx _ bB).2.2.2.2⟩
    case pos =>
      have L42 : Ld Try.prog 42 w.heap.size 0 (Eq W0) (.agg (cxA c)) := .of (load_agg (by kernel_rfl) (by kernel_rfl) (hx _ bB).1)
      repeat ((conv => whnf); first | (refine VLoad.mk _ L42 ?_) | (refine VCmp.tt (by omega) ?_) | (refine VCmp.ff (by omega) ?_) | (refine VIn.mk (IntWalk.i64_in _ (by omega)) ?_) | (refine VIdx.mk _ rfl (by omega) ?_) | (refine VIdx.mk 0 rfl (by omega) ?_))
      try (conv => whnf)
      refine .mk _ run_zero42 ?_
      conv => whnf
      refine .mk fun V0 hV0 => ?_
      repeat ((conv => whnf); first | (refine VCmp.tt (by omega) ?_) | (refine VCmp.ff (by omega) ?_) | (refine VIn.mk (IntWalk.i64_in _ (by omega)) ?_) | (refine VIdx.mk _ rfl (by omega) ?_) | (refine VIdx.mk 0 rfl (by omega) ?_))
      try (conv => whnf)
      refine VStore.new hV0 (by kernel_rfl) rfl (cxA_one c) fun V1 hV1 => ?_
      by_cases hk1 : k = 1
      case pos =>
        have bV1 : Below wB.heap.size wB V1 := bB.trans (by rw [hV1.out]; exact (Below.refl _ _).alloc R.z _)
        have L42d : Ld Try.prog 42 wA.heap.size 0 (Eq V1) (.agg (cxA d)) := .of (load_agg (by kernel_rfl) (by kernel_rfl) (hx _ bV1).2.1)
        repeat ((conv => whnf); first | (refine VLoad.mk _ L42d ?_) | (refine VCmp.tt (by omega) ?_) | (refine VCmp.ff (by omega) ?_) | (refine VIn.mk (IntWalk.i64_in _ (by omega)) ?_) | (refine VIdx.mk _ rfl (by omega) ?_) | (refine VIdx.mk 0 rfl (by omega) ?_))
        try (conv => whnf)
        refine VStore.new hV1 (by kernel_rfl) rfl (cxA_one d) fun V2 hV2 => ?_
        have hYY : ∀ W, Below wB.heap.size wB W → CxAt W N d := fun W hW => (hx W hW).2.2.2.1
        have cV : Below W0.heap.size W0 V2 := by rw [hV2.out]; exact (Below.refl _ _).alloc (Nat.le_refl _) _
        have zV : V2.heap.size = W0.heap.size + 1 := by rw [hV2.out]; simp
        have rV : V2.rangeAt W0.heap.size 0 (cxA d).toList := by rw [hV2.out]; exact range_new W0 (cxA d) 42
        have R1 : Room wB.heap.size W0.heap.size (cxA d).toList ⟨A, cA, ra, O, cO, ro, C, cC, lc, M, cM, rm⟩ V2 := R.fresh cV (by omega) rV (Nat.le_refl _)
        have bV : Below wB.heap.size wB V2 := bB.trans (cV.mono R.z)
        have hXs := hd.sm.1
        have hXw := hd.wl
        have zz := R.z
        -- the contents
        have M0 : Ld Try.prog 22 W0.heap.size 0 (Eq V2) (.slice d.A d.fs.length d.cA) := .of (load_cell (by kernel_rfl) (rV 0 _ rfl))
        have C1 := laid_any (cA := d.cA) R1.a R1.z (show N ≤ wB.heap.size by omega) (InFs.of (hYY _ bV).fls (by omega) R1.z fun k hk => (R1.a.blks k hk).1) hd.sm (by rw [hra]; exact hn2)
        rw [hra] at C1
        repeat ((conv => whnf); first | (refine VLoad.mk _ M0 ?_) | (refine VCmp.tt (by omega) ?_) | (refine VCmp.ff (by omega) ?_) | (refine VIn.mk (IntWalk.i64_in _ (by omega)) ?_) | (refine VIdx.mk _ rfl (by omega) ?_) | (refine VIdx.mk 0 rfl (by omega) ?_))
        try (conv => whnf)
        refine VCall.mk _ C1 ?_
        rintro _ W2 ⟨rfl, ra', hla, hfa, FA, xA, kA⟩
        refine ⟨_, rfl, ?_⟩
        clear C1
        have R2 : Room wB.heap.size W0.heap.size (cxA d).toList ⟨A, cA, ra', O, cO, ro, C, cC, lc, M, cM, rm⟩ W2 := R1.setA xA FA kA
        have bV2 : Below wB.heap.size wB W2 := bV.trans (xA.to (fun k hk => (R1.a.blks k hk).1) R1.z)
        clear xA FA kA R1
        -- the own one
        have M1 : Ld Try.prog 39 W0.heap.size 1 (Eq W2) (.agg (flc d.own.e d.own.l d.own.i d.own.c d.own.base d.X d.own.slots.length d.cX d.Y d.own.have_.length d.cY)) := .of (load39 (range_sub (n := 7) R2.r 1 rfl))
        repeat ((conv => whnf); first | (refine VLoad.mk _ M1 ?_) | (refine VCmp.tt (by omega) ?_) | (refine VCmp.ff (by omega) ?_) | (refine VIn.mk (IntWalk.i64_in _ (by omega)) ?_) | (refine VIdx.mk _ rfl (by omega) ?_) | (refine VIdx.mk 0 rfl (by omega) ?_))
        try (conv => whnf)
        refine VBs.mk _ _ (bs22 W2 d.own.e d.own.l d.own.i d.own.c d.own.base d.X d.own.slots.length d.cX d.Y d.own.have_.length d.cY) ?_
        have b3 : Below W2.heap.size W2 (W2.alloc (.cells (flc d.own.e d.own.l d.own.i d.own.c d.own.base d.X d.own.slots.length d.cX d.Y d.own.have_.length d.cY) 39)) := (Below.refl _ _).alloc (Nat.le_refl _) _
        have z3 : (W2.alloc (.cells (flc d.own.e d.own.l d.own.i d.own.c d.own.base d.X d.own.slots.length d.cX d.Y d.own.have_.length d.cY) 39)).heap.size = W2.heap.size + 1 := by simp
        have r3 : (W2.alloc (.cells (flc d.own.e d.own.l d.own.i d.own.c d.own.base d.X d.own.slots.length d.cX d.Y d.own.have_.length d.cY) 39)).rangeAt W2.heap.size 0 (flc d.own.e d.own.l d.own.i d.own.c d.own.base d.X d.own.slots.length d.cX d.Y d.own.have_.length d.cY).toList := range_new W2 _ 39
        generalize W2.alloc (.cells (flc d.own.e d.own.l d.own.i d.own.c d.own.base d.X d.own.slots.length d.cX d.Y d.own.have_.length d.cY) 39) = W3 at b3 z3 r3 ⊢
        have R3 := R2.below b3
        have bV3 : Below wB.heap.size wB W3 := bV2.trans (b3.mono R2.z)
        have C2 := laid_any (cA := 1) R3.o R3.z (show N ≤ wB.heap.size by omega) (inFs_one (show W2.heap.size < W3.heap.size by omega) (fun hm => by have := (R2.o.blks _ hm).2; omega) r3 (hYY _ bV3).own) (small_own hd.o1 hd.o2) (by show ro.length ≤ 1; omega)
        dsimp only at C2
        rw [hro] at C2
        repeat ((conv => whnf); first | (refine VCmp.tt (by omega) ?_) | (refine VCmp.ff (by omega) ?_) | (refine VIn.mk (IntWalk.i64_in _ (by omega)) ?_) | (refine VIdx.mk _ rfl (by omega) ?_) | (refine VIdx.mk 0 rfl (by omega) ?_))
        try (conv => whnf)
        refine VCall.mk _ C2 ?_
        rintro _ W4 ⟨rfl, ro', hlo, hfo, FO, xO, kO⟩
        refine ⟨_, rfl, ?_⟩
        clear C2
        have R4 : Room wB.heap.size W0.heap.size (cxA d).toList ⟨A, cA, ra', O, cO, ro', C, cC, lc, M, cM, rm⟩ W4 := R3.setO xO FO kO
        have bV4 : Below wB.heap.size wB W4 := bV3.trans (xO.to (fun k hk => (R3.o.blks k hk).1) R3.z)
        clear xO FO kO R2 R3
        -- the numbers
        have M2 : Ld Try.prog 37 W0.heap.size 9 (fun W => Fx (blk C).toList W4 W) (.slice d.C d.who.length d.cC) := ⟨fun W hW => load37 ((range_same R4.r (hW.block _ R4.bz R4.bc)) 9 _ rfl)⟩
        repeat ((conv => whnf); first | (refine VCmp.tt (by omega) ?_) | (refine VCmp.ff (by omega) ?_) | (refine VIn.mk (IntWalk.i64_in _ (by omega)) ?_) | (refine VIdx.mk _ rfl (by omega) ?_) | (refine VIdx.mk 0 rfl (by omega) ?_))
        try (conv => whnf)
        refine VDraw.mk 1000 [([0, 1, 2, 3], 4)] [5] (fun W => Fx (blk C).toList W4 W) (by kernel_rfl) (by kernel_rfl) ((Fx.refl _ _).drew) ?_
        repeat ((conv => whnf); first | (refine VLoad.mk _ M2 ?_) | (refine VSl.zero ?_) | (refine VCmp.tt (by omega) ?_) | (refine VCmp.ff (by omega) ?_) | (refine VIn.mk (IntWalk.i64_in _ (by omega)) ?_) | (refine VIdx.mk _ rfl (by omega) ?_) | (refine VIdx.mk 0 rfl (by omega) ?_))
        try (conv => whnf)
        refine VApp.rows wB.heap.size 1 8 _ Try.underlying37 info3 rfl (by decide) eInt len_eInt one_eInt ([] : List Int) d.who rfl rfl (show Owns W4.drew wB.heap.size 3 1 eInt C cC [] from R4.c.short) (hYY _ bV4.drew).who (by omega) (by omega) (by show wB.heap.size ≤ W4.heap.size; exact R4.z) fun C' cC' W5 ho5 hg5 hk5 => ?_
        have x5 : Fx (blk C).toList W4 W5 := .undrew (.grown hg5 fun k hk => by rw [hk]; simp)
        have R5 : Room wB.heap.size W0.heap.size (cxA d).toList ⟨A, cA, ra', O, cO, ro', C', cC', d.who, M, cM, rm⟩ W5 := R4.setC x5 ho5 fun k hk => by
          have hk : blk C' = some k := by simpa [Option.mem_toList] using hk
          rcases hk5 with e | e
          · left; rw [← e, hk]; simp
          · right; rw [hk] at e; injection e with e; rw [e]; exact Nat.le_refl _
        have bV5 : Below wB.heap.size wB W5 := bV4.trans (x5.to (fun k hk => (R4.clt k hk).1) R4.z)
        repeat ((conv => whnf); first | (refine VS.mk x5 ?_) | (refine VCmp.tt (by omega) ?_) | (refine VCmp.ff (by omega) ?_) | (refine VIn.mk (IntWalk.i64_in _ (by omega)) ?_) | (refine VIdx.mk _ rfl (by omega) ?_) | (refine VIdx.mk 0 rfl (by omega) ?_))
        try (conv => whnf)
        clear x5 R4 ho5 hg5 hk5
        refine VLoop.mk (Nat × List Dr) (fun s => [(2, .pointer (some ⟨w.heap.size, 0, none⟩)), (3, .pointer (some ⟨wA.heap.size, 0, none⟩)), (6, .slice A d.fs.length cA), (7, .slice O 1 cO), (8, .slice C' d.who.length cC'), (9, .slice M rm.length cM), (10, .int .i64 k), (11, .pointer (some ⟨W0.heap.size, 0, none⟩)), (12, .int .i64 s.1)]) (fun s W => s.1 ≤ rm.length ∧ s.2.length = rm.length ∧ MsOk s.2 ∧ Room wB.heap.size W0.heap.size (cxA d).toList ⟨A, cA, ra', O, cO, ro', C', cC', d.who, M, cM, s.2⟩ W ∧ Below wB.heap.size wB W) (fun s => rm.length - s.1) (0, rm) ⟨rfl, rfl, rfl, rfl, by show some (Value.slice C' (0 + d.who.length) cC') = _; rw [Nat.zero_add], rfl, rfl, rfl, rfl, trivial⟩ ⟨Nat.zero_le _, rfl, hrm, R5, bV5⟩ ?_
        clear R5 bV5 M2 M1 M0 bV4 bV3 bV2 r3 b3 z3 bV R rV cV
        rintro ⟨i, rl⟩ W6 ⟨hi, hrl, hok, R6, bV6⟩
        dsimp only at hi hrl hok R6 bV6 ⊢
        have M3 : Ld Try.prog 40 W0.heap.size 12 (Eq W6) (.slice d.M d.ms.length d.cM) := .of (load_cell (by kernel_rfl) (R6.r 12 _ rfl))
        have hXm := hd.sd.1
        rw [List.length_map] at hXm
        have hokl := hrm.1
        by_cases h1 : i < rm.length
        case neg =>
          repeat ((conv => whnf); first | (refine VCmp.tt (by omega) ?_) | (refine VCmp.ff (by omega) ?_) | (refine VIn.mk (IntWalk.i64_in _ (by omega)) ?_) | (refine VIdx.mk _ rfl (by omega) ?_) | (refine VIdx.mk 0 rfl (by omega) ?_))
          try (conv => whnf)
          have hGs : Small (ra'.map Rw.f) := by rw [hfa]; exact small_take hd.sm _
          have hGl : (ra'.map Rw.f).length = d.fs.length := by rw [List.length_map]; exact hla
          generalize hgs : ra'.map Rw.f = gs at hGs hGl
          obtain ⟨r0, hr0⟩ : ∃ r0, ro' = [r0] := by
            match ro', hlo with
            | [r0], _ => exact ⟨r0, rfl⟩
          subst hr0
          have hr0 : r0.f = d.own := by
            have e : [r0.f] = [d.own] := hfo
            injection e
          have hd.fs.length : d.fs.length ≤ 1048576 := by omega
          obtain ⟨gO, hOe, hcO⟩ := R6.o.own.cell len_eRw (k := 0) (x := r0) rfl
          subst hOe
          have gls : ∀ W, Below W6.heap.size W6 W → Fls W W.heap.size A gs := fun W hW => by
            have := ((R6.below hW).a).fls
            rw [← hgs]; exact this
          have aO : ∀ W, Below W6.heap.size W6 W → W.rangeAt gO 0 (eRw r0) ∧ FlRows W W.heap.size r0.f r0.X r0.cX r0.Y r0.cY := fun W hW => by
            have R := R6.below hW
            obtain ⟨g1, e1, h1⟩ := R.o.own.cell len_eRw (k := 0) (x := r0) rfl
            injection e1 with e1; injection e1 with e1; subst e1
            obtain ⟨q1, q2⟩ := R.o.each r0 (List.mem_singleton.2 rfl)
            exact ⟨by rw [Nat.zero_mul] at h1; exact h1, ⟨q1.row len_eSlot, q2.row len_eInt, q1.len, q1.cap, q2.len, q2.cap⟩⟩
          have aC : ∀ W, Below W6.heap.size W6 W → W.rangeAt W0.heap.size 0 (cxA d).toList ∧ RowAt W W.heap.size 1 eInt C' d.who ∧ Drs W W.heap.size M rl := fun W hW =>
            have R := R6.below hW
            ⟨R.r, R.c.row len_eInt, R.m.drs⟩
          have hml : (rl.map Dr.d).length = rm.length := by rw [List.length_map]; exact hrl
          -- Cut
          have C14 := icut_any A cA W6.heap.size gs W6 (Nat.le_refl _) (gls W6 (Below.refl _ _)) (by omega)
          rw [hGl] at C14
          refine VCall.mk _ C14 ?_
          clear C14
          rintro _ W7 ⟨⟨kk, n1, rfl, P1⟩, b7⟩
          refine ⟨_, rfl, ?_⟩
          -- Lacks
          have bd7 : Below W7.heap.size W7 W7.drew := (Below.refl _ _).drew
          have K1 : Ld Try.prog 3 W0.heap.size 8 (fun W => Below W7.heap.size W7 W) (.int .i64 d.done) := ⟨fun W hW => load3 ((aC W (b7.trans (hW.mono b7.size))).1 8 _ rfl)⟩
          have K2 : Ld Try.prog 39 gO 0 (fun W => Below W7.heap.size W7 W) (.agg (flc r0.f.e r0.f.l r0.f.i r0.f.c r0.f.base r0.X r0.f.slots.length r0.cX r0.Y r0.f.have_.length r0.cY)) := ⟨fun W hW => load39 ((aO W (b7.trans (hW.mono b7.size))).1)⟩
          repeat ((conv => whnf); first | (refine VCmp.tt (by omega) ?_) | (refine VCmp.ff (by omega) ?_) | (refine VIn.mk (IntWalk.i64_in _ (by omega)) ?_) | (refine VIdx.mk _ rfl (by omega) ?_) | (refine VIdx.mk 0 rfl (by omega) ?_))
          try (conv => whnf)
          refine VDraw.mk 1000 [([0, 1, 2, 3, 4, 5], 6)] [7, 8, 9, 10, 11] (fun W => Below W7.heap.size W7 W) (by kernel_rfl) (by kernel_rfl) (bd7) ?_
          repeat ((conv => whnf); first | (refine VLoad.mk _ K1 ?_) | (refine VLoad.mk _ K2 ?_) | (refine VCmp.tt (by omega) ?_) | (refine VCmp.ff (by omega) ?_) | (refine VIn.mk (IntWalk.i64_in _ (by omega)) ?_) | (refine VIdx.mk _ rfl (by omega) ?_) | (refine VIdx.mk 0 rfl (by omega) ?_))
          try (conv => whnf)
          have b7d : Below W6.heap.size W6 W7.drew := b7.drew
          have C24 := lacks_any d.done r0.f r0.X r0.Y A r0.cX r0.cY cA W7.drew.heap.size gs W7.drew (Nat.le_refl _) (aO _ b7d).2 (gls _ b7d) (by omega)
          rw [hGl] at C24
          refine VCall.mk _ C24 ?_
          clear C24
          rintro _ W8 ⟨⟨B1, c1, l1, n2, rfl, P2, own1⟩, b8⟩
          refine ⟨_, rfl, ?_⟩
          have b78 : Below W7.heap.size W7 W8 := bd7.trans b8
          have b68 : Below W6.heap.size W6 W8 := b7.trans (b78.mono b7.size)
          repeat ((conv => whnf); first | (refine VS.mk b78 ?_) | (refine VCmp.tt (by omega) ?_) | (refine VCmp.ff (by omega) ?_) | (refine VIn.mk (IntWalk.i64_in _ (by omega)) ?_) | (refine VIdx.mk _ rfl (by omega) ?_) | (refine VIdx.mk 0 rfl (by omega) ?_))
          try (conv => whnf)
          -- Duty
          have K3 : Ld Try.prog 3 W0.heap.size 10 (Eq W8) (.int .i64 d.self) := .of (load3 ((aC W8 b68).1 10 _ rfl))
          have K4 : Ld Try.prog 3 W0.heap.size 11 (Eq W8) (.int .i64 d.q) := .of (load3 ((aC W8 b68).1 11 _ rfl))
          repeat ((conv => whnf); first | (refine VLoad.mk _ K3 ?_) | (refine VLoad.mk _ K4 ?_) | (refine VCmp.tt (by omega) ?_) | (refine VCmp.ff (by omega) ?_) | (refine VIn.mk (IntWalk.i64_in _ (by omega)) ?_) | (refine VIdx.mk _ rfl (by omega) ?_) | (refine VIdx.mk 0 rfl (by omega) ?_))
          try (conv => whnf)
          have C35 := duty_any d.self d.q C' A cC' cA W8.heap.size d.who gs W8 (Nat.le_refl _) (aC W8 b68).2.1 (gls W8 b68) (by omega) (by omega)
          rw [hGl] at C35
          refine VCall.mk _ C35 ?_
          clear C35
          rintro _ W9 ⟨⟨B2, c2, l2, n3, rfl, P3, own2⟩, b9⟩
          refine ⟨_, rfl, ?_⟩
          have b69 : Below W6.heap.size W6 W9 := b68.trans (b9.mono b68.size)
          -- Rest
          have K5 : Ld Try.prog 3 W0.heap.size 8 (Eq W9) (.int .i64 d.done) := .of (load3 ((aC W9 b69).1 8 _ rfl))
          repeat ((conv => whnf); first | (refine VLoad.mk _ K5 ?_) | (refine VCmp.tt (by omega) ?_) | (refine VCmp.ff (by omega) ?_) | (refine VIn.mk (IntWalk.i64_in _ (by omega)) ?_) | (refine VIdx.mk _ rfl (by omega) ?_) | (refine VIdx.mk 0 rfl (by omega) ?_))
          try (conv => whnf)
          have C19 := rest_any d.done A M cA cM W9.heap.size gs (rl.map Dr.d) W9 (Nat.le_refl _) (gls W9 b69) ⟨rl, rfl, (aC W9 b69).2.2⟩ (by omega) hok.small hok.key
          rw [hGl, hml] at C19
          refine VCall.mk _ C19 ?_
          clear C19
          rintro _ Wa ⟨⟨B3, c3, rs3, n4, rfl, P4, own3⟩, ba⟩
          refine ⟨_, rfl, ?_⟩
          have b6a : Below W6.heap.size W6 Wa := b69.trans (ba.mono b69.size)
          -- the document's Cut
          repeat ((conv => whnf); first | (refine VCmp.tt (by omega) ?_) | (refine VCmp.ff (by omega) ?_) | (refine VIn.mk (IntWalk.i64_in _ (by omega)) ?_) | (refine VIdx.mk _ rfl (by omega) ?_) | (refine VIdx.mk 0 rfl (by omega) ?_))
          try (conv => whnf)
          have C28 := many_w A cA Wa.heap.size gs Wa (Nat.le_refl _) (gls Wa b6a) hGs
          rw [hGl] at C28
          refine VCall.mk _ C28 ?_
          clear C28
          rintro _ Wb ⟨⟨D1, d1, rs1, rfl, hs1, FD1⟩, bb⟩
          refine ⟨_, rfl, ?_⟩
          have b6b : Below W6.heap.size W6 Wb := b6a.trans (bb.mono b6a.size)
          have FD1' := FD1.fls
          rw [hs1] at FD1'
          have C15 := rcut_any D1 d1 Wb.heap.size gs Wb (Nat.le_refl _) FD1' (by omega)
          rw [hGl] at C15
          repeat ((conv => whnf); first | (refine VCmp.tt (by omega) ?_) | (refine VCmp.ff (by omega) ?_) | (refine VIn.mk (IntWalk.i64_in _ (by omega)) ?_) | (refine VIdx.mk _ rfl (by omega) ?_) | (refine VIdx.mk 0 rfl (by omega) ?_))
          try (conv => whnf)
          refine VCall.mk _ C15 ?_
          clear C15 FD1 FD1'
          rintro _ Wc ⟨⟨kk', n1', rfl, Q1⟩, bc⟩
          refine ⟨_, rfl, ?_⟩
          obtain ⟨rfl, rfl⟩ := cutIs_one P1 Q1
          have b6c : Below W6.heap.size W6 Wc := b6b.trans (bc.mono b6b.size)
          -- the document's Lacks
          have bdc : Below Wc.heap.size Wc Wc.drew := (Below.refl _ _).drew
          have up6 : ∀ W, Below Wc.heap.size Wc W → Below W6.heap.size W6 W := fun W hW => b6c.trans (hW.mono b6c.size)
          have K6 : Ld Try.prog 3 W0.heap.size 8 (fun W => Below Wc.heap.size Wc W) (.int .i64 d.done) := ⟨fun W hW => load3 ((aC W (up6 W hW)).1 8 _ rfl)⟩
          have K7 : Ld Try.prog 39 gO 0 (fun W => Below Wc.heap.size Wc W) (.agg (flc r0.f.e r0.f.l r0.f.i r0.f.c r0.f.base r0.X r0.f.slots.length r0.cX r0.Y r0.f.have_.length r0.cY)) := ⟨fun W hW => load39 ((aO W (up6 W hW)).1)⟩
          have ho1 : r0.f.slots.length ≤ 1048576 := by rw [hr0]; exact hd.o1
          have ho2 : r0.f.have_.length ≤ 1048576 := by rw [hr0]; exact hd.o2
          repeat ((conv => whnf); first | (refine VCmp.tt (by omega) ?_) | (refine VCmp.ff (by omega) ?_) | (refine VIn.mk (IntWalk.i64_in _ (by omega)) ?_) | (refine VIdx.mk _ rfl (by omega) ?_) | (refine VIdx.mk 0 rfl (by omega) ?_))
          try (conv => whnf)
          refine VDraw.mk 1000 [([0, 1, 2, 3, 4, 6], 5), ([], 7), ([], 8)] [9, 10, 11, 12, 13] (fun W => Below Wc.heap.size Wc W) (by kernel_rfl) (by kernel_rfl) (bdc) ?_
          repeat ((conv => whnf); first | (refine VLoad.mk _ K6 ?_) | (refine VLoad.mk _ K7 ?_) | (refine VCmp.tt (by omega) ?_) | (refine VCmp.ff (by omega) ?_) | (refine VIn.mk (IntWalk.i64_in _ (by omega)) ?_) | (refine VIdx.mk _ rfl (by omega) ?_) | (refine VIdx.mk 0 rfl (by omega) ?_))
          try (conv => whnf)
          refine VCall.mk _ (one_own r0.f r0.X r0.Y r0.cX r0.cY Wc.drew.heap.size Wc.drew (Nat.le_refl _) (aO _ (up6 _ bdc)).2 (by omega) (by omega)) ?_
          rintro _ Wd ⟨⟨X1, cX1, Y1, cY1, rfl, oX, oY⟩, bd⟩
          refine ⟨_, rfl, ?_⟩
          have bcd : Below Wc.heap.size Wc Wd := bdc.trans bd
          repeat ((conv => whnf); first | (refine VS.mk bcd ?_) | (refine VCmp.tt (by omega) ?_) | (refine VCmp.ff (by omega) ?_) | (refine VIn.mk (IntWalk.i64_in _ (by omega)) ?_) | (refine VIdx.mk _ rfl (by omega) ?_) | (refine VIdx.mk 0 rfl (by omega) ?_))
          try (conv => whnf)
          have C28 := many_w A cA Wd.heap.size gs Wd (Nat.le_refl _) (gls Wd (up6 _ bcd)) hGs
          rw [hGl] at C28
          refine VCall.mk _ C28 ?_
          clear C28
          rintro _ We ⟨⟨D2, d2, rs2, rfl, hs2, FD2⟩, be⟩
          refine ⟨_, rfl, ?_⟩
          have bce : Below Wc.heap.size Wc We := bcd.trans (be.mono bcd.size)
          have FD2' := FD2.fls
          rw [hs2] at FD2'
          have oX2 := oX.below be
          have oY2 := oY.below be
          have C25 := rlacks_any d.done r0.f X1 Y1 D2 cX1 cY1 d2 We.heap.size gs We (Nat.le_refl _) ⟨oX2.row len_eSlot, oY2.row len_eInt, oX2.len, oX2.cap, oY2.len, oY2.cap⟩ FD2' (by omega)
          rw [hGl] at C25
          repeat ((conv => whnf); first | (refine VS.mk bce ?_) | (refine VCmp.tt (by omega) ?_) | (refine VCmp.ff (by omega) ?_) | (refine VIn.mk (IntWalk.i64_in _ (by omega)) ?_) | (refine VIdx.mk _ rfl (by omega) ?_) | (refine VIdx.mk 0 rfl (by omega) ?_))
          try (conv => whnf)
          refine VCall.mk _ C25 ?_
          clear C25 FD2 FD2' oX oY oX2 oY2
          rintro _ Wf ⟨⟨B1', c1', l1', n2', rfl, Q2, own1'⟩, bf⟩
          refine ⟨_, rfl, ?_⟩
          obtain ⟨rfl, rfl⟩ := lacks_one P2 Q2
          have bcf : Below Wc.heap.size Wc Wf := bce.trans (bf.mono bce.size)
          have b6f := up6 _ bcf
          repeat ((conv => whnf); first | (refine VS.mk bcf ?_) | (refine VCmp.tt (by omega) ?_) | (refine VCmp.ff (by omega) ?_) | (refine VIn.mk (IntWalk.i64_in _ (by omega)) ?_) | (refine VIdx.mk _ rfl (by omega) ?_) | (refine VIdx.mk 0 rfl (by omega) ?_))
          try (conv => whnf)
          -- the document's Duty
          have bdf : Below Wf.heap.size Wf Wf.drew := (Below.refl _ _).drew
          have up7 : ∀ W, Below Wf.heap.size Wf W → Below W6.heap.size W6 W := fun W hW => b6f.trans (hW.mono b6f.size)
          have K8 : Ld Try.prog 3 W0.heap.size 10 (fun W => Below Wf.heap.size Wf W) (.int .i64 d.self) := ⟨fun W hW => load3 ((aC W (up7 W hW)).1 10 _ rfl)⟩
          have K9 : Ld Try.prog 3 W0.heap.size 11 (fun W => Below Wf.heap.size Wf W) (.int .i64 d.q) := ⟨fun W hW => load3 ((aC W (up7 W hW)).1 11 _ rfl)⟩
          refine VDraw.mk 1000 [([0, 1, 2, 3, 5, 7], 4), ([], 6), ([], 8), ([], 9)] [10, 11, 12, 13, 14] (fun W => Below Wf.heap.size Wf W) (by kernel_rfl) (by kernel_rfl) (bdf) ?_
          repeat ((conv => whnf); first | (refine VLoad.mk _ K8 ?_) | (refine VLoad.mk _ K9 ?_) | (refine VCmp.tt (by omega) ?_) | (refine VCmp.ff (by omega) ?_) | (refine VIn.mk (IntWalk.i64_in _ (by omega)) ?_) | (refine VIdx.mk _ rfl (by omega) ?_) | (refine VIdx.mk 0 rfl (by omega) ?_))
          try (conv => whnf)
          refine VBs.mk _ _ (bs37z Wf.drew) ?_
          have bfg : Below Wf.heap.size Wf (Wf.drew.alloc (.cells #[] 3)) := bdf.alloc (Nat.le_refl _) _
          have zg : (Wf.drew.alloc (.cells #[] 3)).heap.size = Wf.heap.size + 1 := by simp
          generalize Wf.drew.alloc (.cells #[] 3) = Wg at bfg zg ⊢
          repeat ((conv => whnf); first | (refine VS.mk bfg ?_) | (refine VCmp.tt (by omega) ?_) | (refine VCmp.ff (by omega) ?_) | (refine VIn.mk (IntWalk.i64_in _ (by omega)) ?_) | (refine VIdx.mk _ rfl (by omega) ?_) | (refine VIdx.mk 0 rfl (by omega) ?_))
          try (conv => whnf)
          refine VApp.rowsW Wg.heap.size 1 8 _ Try.underlying37 info3 rfl (by decide) eInt len_eInt one_eInt ([] : List Int) d.who rfl ⟨Nat.zero_le _, fun h => absurd h (by omega)⟩ (aC Wg (up7 _ bfg)).2.1 (by omega) (by omega) (Nat.le_refl _) fun E cE Wh oE hgE hkE => ?_
          have bgh : Below Wg.heap.size Wg Wh := (Below.refl _ _).grown hgE (Nat.le_refl _) (fun k hk => by cases hk)
          have bfh : Below Wf.heap.size Wf Wh := bfg.trans (bgh.mono (by omega))
          repeat ((conv => whnf); first | (refine VS.mk bfh ?_) | (refine VCmp.tt (by omega) ?_) | (refine VCmp.ff (by omega) ?_) | (refine VIn.mk (IntWalk.i64_in _ (by omega)) ?_) | (refine VIdx.mk _ rfl (by omega) ?_) | (refine VIdx.mk 0 rfl (by omega) ?_))
          try (conv => whnf)
          have C28 := many_w A cA Wh.heap.size gs Wh (Nat.le_refl _) (gls Wh (up7 _ bfh)) hGs
          rw [hGl] at C28
          refine VCall.mk _ C28 ?_
          clear C28
          rintro _ Wi ⟨⟨D3, d3, rs4, rfl, hs4, FD3⟩, bi⟩
          refine ⟨_, rfl, ?_⟩
          have bfi : Below Wf.heap.size Wf Wi := bfh.trans (bi.mono bfh.size)
          have FD3' := FD3.fls
          rw [hs4] at FD3'
          have C36 := rduty_any d.self d.q E D3 cE d3 Wi.heap.size d.who gs Wi (Nat.le_refl _) ((oE.below bi).row len_eInt) FD3' (by omega) (by omega)
          rw [hGl] at C36
          repeat ((conv => whnf); first | (refine VS.mk bfi ?_) | (refine VCmp.tt (by omega) ?_) | (refine VCmp.ff (by omega) ?_) | (refine VIn.mk (IntWalk.i64_in _ (by omega)) ?_) | (refine VIdx.mk _ rfl (by omega) ?_) | (refine VIdx.mk 0 rfl (by omega) ?_))
          try (conv => whnf)
          refine VCall.mk _ C36 ?_
          clear C36 FD3 FD3' oE
          rintro _ Wj ⟨⟨B2', c2', l2', n3', rfl, Q3, own2'⟩, bj⟩
          refine ⟨_, rfl, ?_⟩
          obtain ⟨rfl, rfl⟩ := duty_one P3 Q3
          have bfj : Below Wf.heap.size Wf Wj := bfi.trans (bj.mono bfi.size)
          have b6j := up7 _ bfj
          repeat ((conv => whnf); first | (refine VS.mk bfj ?_) | (refine VCmp.tt (by omega) ?_) | (refine VCmp.ff (by omega) ?_) | (refine VIn.mk (IntWalk.i64_in _ (by omega)) ?_) | (refine VIdx.mk _ rfl (by omega) ?_) | (refine VIdx.mk 0 rfl (by omega) ?_))
          try (conv => whnf)
          -- the document's Rest
          have bdj : Below Wj.heap.size Wj Wj.drew := (Below.refl _ _).drew
          have up8 : ∀ W, Below Wj.heap.size Wj W → Below W6.heap.size W6 W := fun W hW => b6j.trans (hW.mono b6j.size)
          have Ka : Ld Try.prog 3 W0.heap.size 8 (fun W => Below Wj.heap.size Wj W) (.int .i64 d.done) := ⟨fun W hW => load3 ((aC W (up8 W hW)).1 8 _ rfl)⟩
          refine VDraw.mk 1000 [([0, 1, 2, 4], 3), ([], 5), ([], 6)] [7, 8, 9, 10, 11] (fun W => Below Wj.heap.size Wj W) (by kernel_rfl) (by kernel_rfl) (bdj) ?_
          repeat ((conv => whnf); first | (refine VLoad.mk _ Ka ?_) | (refine VCmp.tt (by omega) ?_) | (refine VCmp.ff (by omega) ?_) | (refine VIn.mk (IntWalk.i64_in _ (by omega)) ?_) | (refine VIdx.mk _ rfl (by omega) ?_) | (refine VIdx.mk 0 rfl (by omega) ?_))
          try (conv => whnf)
          have C28 := many_w A cA Wj.drew.heap.size gs Wj.drew (Nat.le_refl _) (gls _ (up8 _ bdj)) hGs
          rw [hGl] at C28
          refine VCall.mk _ C28 ?_
          clear C28
          rintro _ Wk ⟨⟨D4, d4, rs5, rfl, hs5, FD4⟩, bk⟩
          refine ⟨_, rfl, ?_⟩
          have bjk : Below Wj.heap.size Wj Wk := bdj.trans bk
          repeat ((conv => whnf); first | (refine VS.mk bjk ?_) | (refine VCmp.tt (by omega) ?_) | (refine VCmp.ff (by omega) ?_) | (refine VIn.mk (IntWalk.i64_in _ (by omega)) ?_) | (refine VIdx.mk _ rfl (by omega) ?_) | (refine VIdx.mk 0 rfl (by omega) ?_))
          try (conv => whnf)
          have C18 := datas_w M cM Wk.heap.size rl Wk (Nat.le_refl _) (aC Wk (up8 _ bjk)).2.2 hok.small
          rw [hrl] at C18
          refine VCall.mk _ C18 ?_
          clear C18
          rintro _ Wl ⟨⟨G, cG, al, rfl, hal, FG⟩, bl⟩
          refine ⟨_, rfl, ?_⟩
          have bjl : Below Wj.heap.size Wj Wl := bjk.trans (bl.mono bjk.size)
          have FD4' := (FD4.below bl).fls
          rw [hs5] at FD4'
          have FG' := FG.dts
          rw [hal] at FG'
          have C20 := rrest_any d.done D4 G d4 cG Wl.heap.size gs (rl.map Dr.d) Wl (Nat.le_refl _) FD4' FG' (by omega) hok.small
          rw [hGl, hml] at C20
          repeat ((conv => whnf); first | (refine VS.mk bjl ?_) | (refine VCmp.tt (by omega) ?_) | (refine VCmp.ff (by omega) ?_) | (refine VIn.mk (IntWalk.i64_in _ (by omega)) ?_) | (refine VIdx.mk _ rfl (by omega) ?_) | (refine VIdx.mk 0 rfl (by omega) ?_))
          try (conv => whnf)
          refine VCall.mk _ C20 ?_
          clear C20 FD4 FD4' FG FG'
          rintro _ Wm ⟨⟨B3', c3', rs3', n4', rfl, Q4, own3'⟩, bm⟩
          refine ⟨_, rfl, ?_⟩
          obtain ⟨hrs3, rfl⟩ := rest_one P4 Q4
          have bjm : Below Wj.heap.size Wj Wm := bjl.trans (bm.mono bjl.size)
          have hl3 : rs3'.length = rs3.length := by have := congrArg List.length hrs3; simpa using this.symm
          rw [hl3]
          have hfm : Below Wf.heap.size Wf Wm := bfj.trans (bjm.mono bfj.size)
          have hcm : Below Wc.heap.size Wc Wm := bcf.trans (hfm.mono bcf.size)
          have hbm : Below Wb.heap.size Wb Wm := bc.trans (hcm.mono bc.size)
          have ham : Below Wa.heap.size Wa Wm := bb.trans (hbm.mono bb.size)
          have h9m : Below W9.heap.size W9 Wm := ba.trans (ham.mono ba.size)
          have h8m : Below W8.heap.size W8 Wm := b9.trans (h9m.mono b9.size)
          have sA := ((own1.row len_eSlot).below h8m (Nat.le_refl _)).more h8m.size
          have sA' := ((own1'.row len_eSlot).below hfm (Nat.le_refl _)).more hfm.size
          have sB := ((own2.row len_eSlot).below h9m (Nat.le_refl _)).more h9m.size
          have sB' := ((own2'.row len_eSlot).below bjm (Nat.le_refl _)).more bjm.size
          have sM := ((msOwn_dts own3).below ham (Nat.le_refl _)).more ham.size
          have sM' := msOwn_dts own3'
          rw [← hrs3] at sM'
          have q1 := own1.len
          have q2 := own2.len
          have q3 := own3.row.len
          -- the comparison
          repeat ((conv => whnf); first | (refine VS.mk bjm ?_) | (refine VCmp.tt (by omega) ?_) | (refine VCmp.ff (by omega) ?_) | (refine VIn.mk (IntWalk.i64_in _ (by omega)) ?_) | (refine VIdx.mk _ rfl (by omega) ?_) | (refine VIdx.mk 0 rfl (by omega) ?_))
          try (conv => whnf)
          refine VCall.mk _ (num_any n1 Wm) ?_
          rintro _ Wn ⟨rfl, hWn⟩
          refine ⟨_, rfl, ?_⟩
          rw [← hWn]
          repeat ((conv => whnf); first | (refine VCmp.tt (by omega) ?_) | (refine VCmp.ff (by omega) ?_) | (refine VIn.mk (IntWalk.i64_in _ (by omega)) ?_) | (refine VIdx.mk _ rfl (by omega) ?_) | (refine VIdx.mk 0 rfl (by omega) ?_))
          try (conv => whnf)
          refine VCall.mk _ (sameSlots_yes B1 B1' c1 c1' Wm.heap.size l1 Wm (Nat.le_refl _) sA sA' (by omega)) ?_
          rintro _ Wo ⟨rfl, bo⟩
          refine ⟨_, rfl, ?_⟩
          repeat ((conv => whnf); first | (refine VCmp.tt (by omega) ?_) | (refine VCmp.ff (by omega) ?_) | (refine VIn.mk (IntWalk.i64_in _ (by omega)) ?_) | (refine VIdx.mk _ rfl (by omega) ?_) | (refine VIdx.mk 0 rfl (by omega) ?_))
          try (conv => whnf)
          refine VCall.mk _ (num_any n2 Wo) ?_
          rintro _ Wp ⟨rfl, hWp⟩
          refine ⟨_, rfl, ?_⟩
          rw [← hWp]
          repeat ((conv => whnf); first | (refine VCmp.tt (by omega) ?_) | (refine VCmp.ff (by omega) ?_) | (refine VIn.mk (IntWalk.i64_in _ (by omega)) ?_) | (refine VIdx.mk _ rfl (by omega) ?_) | (refine VIdx.mk 0 rfl (by omega) ?_))
          try (conv => whnf)
          refine VCall.mk _ (sameSlots_yes B2 B2' c2 c2' Wm.heap.size l2 Wo bo.size (sB.below bo (Nat.le_refl _)) (sB'.below bo (Nat.le_refl _)) (by omega)) ?_
          rintro _ Wq ⟨rfl, bq⟩
          refine ⟨_, rfl, ?_⟩
          have bmq : Below Wm.heap.size Wm Wq := bo.trans (bq.mono bo.size)
          repeat ((conv => whnf); first | (refine VCmp.tt (by omega) ?_) | (refine VCmp.ff (by omega) ?_) | (refine VIn.mk (IntWalk.i64_in _ (by omega)) ?_) | (refine VIdx.mk _ rfl (by omega) ?_) | (refine VIdx.mk 0 rfl (by omega) ?_))
          try (conv => whnf)
          refine VCall.mk _ (num_any n3 Wq) ?_
          rintro _ Wr ⟨rfl, hWr⟩
          refine ⟨_, rfl, ?_⟩
          rw [← hWr]
          have C21 := sameMsgs_yes B3 B3' c3 c3' Wm.heap.size (rs3.map Dr.d) Wq bmq.size (sM.below bmq (Nat.le_refl _)) (sM'.below bmq (Nat.le_refl _)) (by rw [List.length_map]; omega)
          rw [List.length_map] at C21
          repeat ((conv => whnf); first | (refine VCmp.tt (by omega) ?_) | (refine VCmp.ff (by omega) ?_) | (refine VIn.mk (IntWalk.i64_in _ (by omega)) ?_) | (refine VIdx.mk _ rfl (by omega) ?_) | (refine VIdx.mk 0 rfl (by omega) ?_))
          try (conv => whnf)
          refine VCall.mk _ C21 ?_
          clear C21
          rintro _ Ws ⟨rfl, bs⟩
          refine ⟨_, rfl, ?_⟩
          have bms : Below Wm.heap.size Wm Ws := bmq.trans (bs.mono bmq.size)
          repeat ((conv => whnf); first | (refine VCmp.tt (by omega) ?_) | (refine VCmp.ff (by omega) ?_) | (refine VIn.mk (IntWalk.i64_in _ (by omega)) ?_) | (refine VIdx.mk _ rfl (by omega) ?_) | (refine VIdx.mk 0 rfl (by omega) ?_))
          try (conv => whnf)
          refine VCall.mk _ (num_any n4 Ws) ?_
          rintro _ Wt ⟨rfl, hWt⟩
          refine ⟨_, rfl, ?_⟩
          rw [← hWt]
          have b6s : Below W6.heap.size W6 Ws := (up8 _ bjm).trans (bms.mono (up8 _ bjm).size)
          have Rs := R6.below b6s
          have bVs : Below wB.heap.size wB Ws := bV6.trans (b6s.mono R6.z)
          repeat ((conv => whnf); first | (refine VCmp.tt (by omega) ?_) | (refine VCmp.ff (by omega) ?_) | (refine VIn.mk (IntWalk.i64_in _ (by omega)) ?_) | (refine VIdx.mk _ rfl (by omega) ?_) | (refine VIdx.mk 0 rfl (by omega) ?_))
          try (conv => whnf)
          refine .mk (k + 1, ⟨A, cA, ra', some ⟨gO, 0, none⟩, cO, [r0], C', cC', d.who, M, cM, rl⟩) ⟨rfl, rfl, rfl, rfl, rfl, by show some (Value.slice M rm.length cM) = some (Value.slice M rl.length cM); rw [hrl], rfl, trivial⟩ ⟨hk3, Rs.other (by have := bVs.size; omega) (hx _ bVs).1 (by omega), bVs, hla, rfl, hok⟩ (by show 3 - (k + 1) < 3 - k; omega)
        case pos =>
          by_cases h2 : i < d.ms.length
          case neg =>
            repeat ((conv => whnf); first | (refine VLoad.mk _ M3 ?_) | (refine VCmp.tt (by omega) ?_) | (refine VCmp.ff (by omega) ?_) | (refine VIn.mk (IntWalk.i64_in _ (by omega)) ?_) | (refine VIdx.mk _ rfl (by omega) ?_) | (refine VIdx.mk 0 rfl (by omega) ?_))
            try (conv => whnf)
            have hGs : Small (ra'.map Rw.f) := by rw [hfa]; exact small_take hd.sm _
            have hGl : (ra'.map Rw.f).length = d.fs.length := by rw [List.length_map]; exact hla
            generalize hgs : ra'.map Rw.f = gs at hGs hGl
            obtain ⟨r0, hr0⟩ : ∃ r0, ro' = [r0] := by
              match ro', hlo with
              | [r0], _ => exact ⟨r0, rfl⟩
            subst hr0
            have hr0 : r0.f = d.own := by
              have e : [r0.f] = [d.own] := hfo
              injection e
            have hd.fs.length : d.fs.length ≤ 1048576 := by omega
            obtain ⟨gO, hOe, hcO⟩ := R6.o.own.cell len_eRw (k := 0) (x := r0) rfl
            subst hOe
            have gls : ∀ W, Below W6.heap.size W6 W → Fls W W.heap.size A gs := fun W hW => by
              have := ((R6.below hW).a).fls
              rw [← hgs]; exact this
            have aO : ∀ W, Below W6.heap.size W6 W → W.rangeAt gO 0 (eRw r0) ∧ FlRows W W.heap.size r0.f r0.X r0.cX r0.Y r0.cY := fun W hW => by
              have R := R6.below hW
              obtain ⟨g1, e1, h1⟩ := R.o.own.cell len_eRw (k := 0) (x := r0) rfl
              injection e1 with e1; injection e1 with e1; subst e1
              obtain ⟨q1, q2⟩ := R.o.each r0 (List.mem_singleton.2 rfl)
              exact ⟨by rw [Nat.zero_mul] at h1; exact h1, ⟨q1.row len_eSlot, q2.row len_eInt, q1.len, q1.cap, q2.len, q2.cap⟩⟩
            have aC : ∀ W, Below W6.heap.size W6 W → W.rangeAt W0.heap.size 0 (cxA d).toList ∧ RowAt W W.heap.size 1 eInt C' d.who ∧ Drs W W.heap.size M rl := fun W hW =>
              have R := R6.below hW
              ⟨R.r, R.c.row len_eInt, R.m.drs⟩
            have hml : (rl.map Dr.d).length = rm.length := by rw [List.length_map]; exact hrl
            -- Cut
            have C14 := icut_any A cA W6.heap.size gs W6 (Nat.le_refl _) (gls W6 (Below.refl _ _)) (by omega)
            rw [hGl] at C14
            refine VCall.mk _ C14 ?_
            clear C14
            rintro _ W7 ⟨⟨kk, n1, rfl, P1⟩, b7⟩
            refine ⟨_, rfl, ?_⟩
            -- Lacks
            have bd7 : Below W7.heap.size W7 W7.drew := (Below.refl _ _).drew
            have K1 : Ld Try.prog 3 W0.heap.size 8 (fun W => Below W7.heap.size W7 W) (.int .i64 d.done) := ⟨fun W hW => load3 ((aC W (b7.trans (hW.mono b7.size))).1 8 _ rfl)⟩
            have K2 : Ld Try.prog 39 gO 0 (fun W => Below W7.heap.size W7 W) (.agg (flc r0.f.e r0.f.l r0.f.i r0.f.c r0.f.base r0.X r0.f.slots.length r0.cX r0.Y r0.f.have_.length r0.cY)) := ⟨fun W hW => load39 ((aO W (b7.trans (hW.mono b7.size))).1)⟩
            repeat ((conv => whnf); first | (refine VCmp.tt (by omega) ?_) | (refine VCmp.ff (by omega) ?_) | (refine VIn.mk (IntWalk.i64_in _ (by omega)) ?_) | (refine VIdx.mk _ rfl (by omega) ?_) | (refine VIdx.mk 0 rfl (by omega) ?_))
            try (conv => whnf)
            refine VDraw.mk 1000 [([0, 1, 2, 3, 4, 5], 6)] [7, 8, 9, 10, 11] (fun W => Below W7.heap.size W7 W) (by kernel_rfl) (by kernel_rfl) (bd7) ?_
            repeat ((conv => whnf); first | (refine VLoad.mk _ K1 ?_) | (refine VLoad.mk _ K2 ?_) | (refine VCmp.tt (by omega) ?_) | (refine VCmp.ff (by omega) ?_) | (refine VIn.mk (IntWalk.i64_in _ (by omega)) ?_) | (refine VIdx.mk _ rfl (by omega) ?_) | (refine VIdx.mk 0 rfl (by omega) ?_))
            try (conv => whnf)
            have b7d : Below W6.heap.size W6 W7.drew := b7.drew
            have C24 := lacks_any d.done r0.f r0.X r0.Y A r0.cX r0.cY cA W7.drew.heap.size gs W7.drew (Nat.le_refl _) (aO _ b7d).2 (gls _ b7d) (by omega)
            rw [hGl] at C24
            refine VCall.mk _ C24 ?_
            clear C24
            rintro _ W8 ⟨⟨B1, c1, l1, n2, rfl, P2, own1⟩, b8⟩
            refine ⟨_, rfl, ?_⟩
            have b78 : Below W7.heap.size W7 W8 := bd7.trans b8
            have b68 : Below W6.heap.size W6 W8 := b7.trans (b78.mono b7.size)
            repeat ((conv => whnf); first | (refine VS.mk b78 ?_) | (refine VCmp.tt (by omega) ?_) | (refine VCmp.ff (by omega) ?_) | (refine VIn.mk (IntWalk.i64_in _ (by omega)) ?_) | (refine VIdx.mk _ rfl (by omega) ?_) | (refine VIdx.mk 0 rfl (by omega) ?_))
            try (conv => whnf)
            -- Duty
            have K3 : Ld Try.prog 3 W0.heap.size 10 (Eq W8) (.int .i64 d.self) := .of (load3 ((aC W8 b68).1 10 _ rfl))
            have K4 : Ld Try.prog 3 W0.heap.size 11 (Eq W8) (.int .i64 d.q) := .of (load3 ((aC W8 b68).1 11 _ rfl))
            repeat ((conv => whnf); first | (refine VLoad.mk _ K3 ?_) | (refine VLoad.mk _ K4 ?_) | (refine VCmp.tt (by omega) ?_) | (refine VCmp.ff (by omega) ?_) | (refine VIn.mk (IntWalk.i64_in _ (by omega)) ?_) | (refine VIdx.mk _ rfl (by omega) ?_) | (refine VIdx.mk 0 rfl (by omega) ?_))
            try (conv => whnf)
            have C35 := duty_any d.self d.q C' A cC' cA W8.heap.size d.who gs W8 (Nat.le_refl _) (aC W8 b68).2.1 (gls W8 b68) (by omega) (by omega)
            rw [hGl] at C35
            refine VCall.mk _ C35 ?_
            clear C35
            rintro _ W9 ⟨⟨B2, c2, l2, n3, rfl, P3, own2⟩, b9⟩
            refine ⟨_, rfl, ?_⟩
            have b69 : Below W6.heap.size W6 W9 := b68.trans (b9.mono b68.size)
            -- Rest
            have K5 : Ld Try.prog 3 W0.heap.size 8 (Eq W9) (.int .i64 d.done) := .of (load3 ((aC W9 b69).1 8 _ rfl))
            repeat ((conv => whnf); first | (refine VLoad.mk _ K5 ?_) | (refine VCmp.tt (by omega) ?_) | (refine VCmp.ff (by omega) ?_) | (refine VIn.mk (IntWalk.i64_in _ (by omega)) ?_) | (refine VIdx.mk _ rfl (by omega) ?_) | (refine VIdx.mk 0 rfl (by omega) ?_))
            try (conv => whnf)
            have C19 := rest_any d.done A M cA cM W9.heap.size gs (rl.map Dr.d) W9 (Nat.le_refl _) (gls W9 b69) ⟨rl, rfl, (aC W9 b69).2.2⟩ (by omega) hok.small hok.key
            rw [hGl, hml] at C19
            refine VCall.mk _ C19 ?_
            clear C19
            rintro _ Wa ⟨⟨B3, c3, rs3, n4, rfl, P4, own3⟩, ba⟩
            refine ⟨_, rfl, ?_⟩
            have b6a : Below W6.heap.size W6 Wa := b69.trans (ba.mono b69.size)
            -- the document's Cut
            repeat ((conv => whnf); first | (refine VCmp.tt (by omega) ?_) | (refine VCmp.ff (by omega) ?_) | (refine VIn.mk (IntWalk.i64_in _ (by omega)) ?_) | (refine VIdx.mk _ rfl (by omega) ?_) | (refine VIdx.mk 0 rfl (by omega) ?_))
            try (conv => whnf)
            have C28 := many_w A cA Wa.heap.size gs Wa (Nat.le_refl _) (gls Wa b6a) hGs
            rw [hGl] at C28
            refine VCall.mk _ C28 ?_
            clear C28
            rintro _ Wb ⟨⟨D1, d1, rs1, rfl, hs1, FD1⟩, bb⟩
            refine ⟨_, rfl, ?_⟩
            have b6b : Below W6.heap.size W6 Wb := b6a.trans (bb.mono b6a.size)
            have FD1' := FD1.fls
            rw [hs1] at FD1'
            have C15 := rcut_any D1 d1 Wb.heap.size gs Wb (Nat.le_refl _) FD1' (by omega)
            rw [hGl] at C15
            repeat ((conv => whnf); first | (refine VCmp.tt (by omega) ?_) | (refine VCmp.ff (by omega) ?_) | (refine VIn.mk (IntWalk.i64_in _ (by omega)) ?_) | (refine VIdx.mk _ rfl (by omega) ?_) | (refine VIdx.mk 0 rfl (by omega) ?_))
            try (conv => whnf)
            refine VCall.mk _ C15 ?_
            clear C15 FD1 FD1'
            rintro _ Wc ⟨⟨kk', n1', rfl, Q1⟩, bc⟩
            refine ⟨_, rfl, ?_⟩
            obtain ⟨rfl, rfl⟩ := cutIs_one P1 Q1
            have b6c : Below W6.heap.size W6 Wc := b6b.trans (bc.mono b6b.size)
            -- the document's Lacks
            have bdc : Below Wc.heap.size Wc Wc.drew := (Below.refl _ _).drew
            have up6 : ∀ W, Below Wc.heap.size Wc W → Below W6.heap.size W6 W := fun W hW => b6c.trans (hW.mono b6c.size)
            have K6 : Ld Try.prog 3 W0.heap.size 8 (fun W => Below Wc.heap.size Wc W) (.int .i64 d.done) := ⟨fun W hW => load3 ((aC W (up6 W hW)).1 8 _ rfl)⟩
            have K7 : Ld Try.prog 39 gO 0 (fun W => Below Wc.heap.size Wc W) (.agg (flc r0.f.e r0.f.l r0.f.i r0.f.c r0.f.base r0.X r0.f.slots.length r0.cX r0.Y r0.f.have_.length r0.cY)) := ⟨fun W hW => load39 ((aO W (up6 W hW)).1)⟩
            have ho1 : r0.f.slots.length ≤ 1048576 := by rw [hr0]; exact hd.o1
            have ho2 : r0.f.have_.length ≤ 1048576 := by rw [hr0]; exact hd.o2
            repeat ((conv => whnf); first | (refine VCmp.tt (by omega) ?_) | (refine VCmp.ff (by omega) ?_) | (refine VIn.mk (IntWalk.i64_in _ (by omega)) ?_) | (refine VIdx.mk _ rfl (by omega) ?_) | (refine VIdx.mk 0 rfl (by omega) ?_))
            try (conv => whnf)
            refine VDraw.mk 1000 [([0, 1, 2, 3, 4, 6], 5), ([], 7), ([], 8)] [9, 10, 11, 12, 13] (fun W => Below Wc.heap.size Wc W) (by kernel_rfl) (by kernel_rfl) (bdc) ?_
            repeat ((conv => whnf); first | (refine VLoad.mk _ K6 ?_) | (refine VLoad.mk _ K7 ?_) | (refine VCmp.tt (by omega) ?_) | (refine VCmp.ff (by omega) ?_) | (refine VIn.mk (IntWalk.i64_in _ (by omega)) ?_) | (refine VIdx.mk _ rfl (by omega) ?_) | (refine VIdx.mk 0 rfl (by omega) ?_))
            try (conv => whnf)
            refine VCall.mk _ (one_own r0.f r0.X r0.Y r0.cX r0.cY Wc.drew.heap.size Wc.drew (Nat.le_refl _) (aO _ (up6 _ bdc)).2 (by omega) (by omega)) ?_
            rintro _ Wd ⟨⟨X1, cX1, Y1, cY1, rfl, oX, oY⟩, bd⟩
            refine ⟨_, rfl, ?_⟩
            have bcd : Below Wc.heap.size Wc Wd := bdc.trans bd
            repeat ((conv => whnf); first | (refine VS.mk bcd ?_) | (refine VCmp.tt (by omega) ?_) | (refine VCmp.ff (by omega) ?_) | (refine VIn.mk (IntWalk.i64_in _ (by omega)) ?_) | (refine VIdx.mk _ rfl (by omega) ?_) | (refine VIdx.mk 0 rfl (by omega) ?_))
            try (conv => whnf)
            have C28 := many_w A cA Wd.heap.size gs Wd (Nat.le_refl _) (gls Wd (up6 _ bcd)) hGs
            rw [hGl] at C28
            refine VCall.mk _ C28 ?_
            clear C28
            rintro _ We ⟨⟨D2, d2, rs2, rfl, hs2, FD2⟩, be⟩
            refine ⟨_, rfl, ?_⟩
            have bce : Below Wc.heap.size Wc We := bcd.trans (be.mono bcd.size)
            have FD2' := FD2.fls
            rw [hs2] at FD2'
            have oX2 := oX.below be
            have oY2 := oY.below be
            have C25 := rlacks_any d.done r0.f X1 Y1 D2 cX1 cY1 d2 We.heap.size gs We (Nat.le_refl _) ⟨oX2.row len_eSlot, oY2.row len_eInt, oX2.len, oX2.cap, oY2.len, oY2.cap⟩ FD2' (by omega)
            rw [hGl] at C25
            repeat ((conv => whnf); first | (refine VS.mk bce ?_) | (refine VCmp.tt (by omega) ?_) | (refine VCmp.ff (by omega) ?_) | (refine VIn.mk (IntWalk.i64_in _ (by omega)) ?_) | (refine VIdx.mk _ rfl (by omega) ?_) | (refine VIdx.mk 0 rfl (by omega) ?_))
            try (conv => whnf)
            refine VCall.mk _ C25 ?_
            clear C25 FD2 FD2' oX oY oX2 oY2
            rintro _ Wf ⟨⟨B1', c1', l1', n2', rfl, Q2, own1'⟩, bf⟩
            refine ⟨_, rfl, ?_⟩
            obtain ⟨rfl, rfl⟩ := lacks_one P2 Q2
            have bcf : Below Wc.heap.size Wc Wf := bce.trans (bf.mono bce.size)
            have b6f := up6 _ bcf
            repeat ((conv => whnf); first | (refine VS.mk bcf ?_) | (refine VCmp.tt (by omega) ?_) | (refine VCmp.ff (by omega) ?_) | (refine VIn.mk (IntWalk.i64_in _ (by omega)) ?_) | (refine VIdx.mk _ rfl (by omega) ?_) | (refine VIdx.mk 0 rfl (by omega) ?_))
            try (conv => whnf)
            -- the document's Duty
            have bdf : Below Wf.heap.size Wf Wf.drew := (Below.refl _ _).drew
            have up7 : ∀ W, Below Wf.heap.size Wf W → Below W6.heap.size W6 W := fun W hW => b6f.trans (hW.mono b6f.size)
            have K8 : Ld Try.prog 3 W0.heap.size 10 (fun W => Below Wf.heap.size Wf W) (.int .i64 d.self) := ⟨fun W hW => load3 ((aC W (up7 W hW)).1 10 _ rfl)⟩
            have K9 : Ld Try.prog 3 W0.heap.size 11 (fun W => Below Wf.heap.size Wf W) (.int .i64 d.q) := ⟨fun W hW => load3 ((aC W (up7 W hW)).1 11 _ rfl)⟩
            refine VDraw.mk 1000 [([0, 1, 2, 3, 5, 7], 4), ([], 6), ([], 8), ([], 9)] [10, 11, 12, 13, 14] (fun W => Below Wf.heap.size Wf W) (by kernel_rfl) (by kernel_rfl) (bdf) ?_
            repeat ((conv => whnf); first | (refine VLoad.mk _ K8 ?_) | (refine VLoad.mk _ K9 ?_) | (refine VCmp.tt (by omega) ?_) | (refine VCmp.ff (by omega) ?_) | (refine VIn.mk (IntWalk.i64_in _ (by omega)) ?_) | (refine VIdx.mk _ rfl (by omega) ?_) | (refine VIdx.mk 0 rfl (by omega) ?_))
            try (conv => whnf)
            refine VBs.mk _ _ (bs37z Wf.drew) ?_
            have bfg : Below Wf.heap.size Wf (Wf.drew.alloc (.cells #[] 3)) := bdf.alloc (Nat.le_refl _) _
            have zg : (Wf.drew.alloc (.cells #[] 3)).heap.size = Wf.heap.size + 1 := by simp
            generalize Wf.drew.alloc (.cells #[] 3) = Wg at bfg zg ⊢
            repeat ((conv => whnf); first | (refine VS.mk bfg ?_) | (refine VCmp.tt (by omega) ?_) | (refine VCmp.ff (by omega) ?_) | (refine VIn.mk (IntWalk.i64_in _ (by omega)) ?_) | (refine VIdx.mk _ rfl (by omega) ?_) | (refine VIdx.mk 0 rfl (by omega) ?_))
            try (conv => whnf)
            refine VApp.rowsW Wg.heap.size 1 8 _ Try.underlying37 info3 rfl (by decide) eInt len_eInt one_eInt ([] : List Int) d.who rfl ⟨Nat.zero_le _, fun h => absurd h (by omega)⟩ (aC Wg (up7 _ bfg)).2.1 (by omega) (by omega) (Nat.le_refl _) fun E cE Wh oE hgE hkE => ?_
            have bgh : Below Wg.heap.size Wg Wh := (Below.refl _ _).grown hgE (Nat.le_refl _) (fun k hk => by cases hk)
            have bfh : Below Wf.heap.size Wf Wh := bfg.trans (bgh.mono (by omega))
            repeat ((conv => whnf); first | (refine VS.mk bfh ?_) | (refine VCmp.tt (by omega) ?_) | (refine VCmp.ff (by omega) ?_) | (refine VIn.mk (IntWalk.i64_in _ (by omega)) ?_) | (refine VIdx.mk _ rfl (by omega) ?_) | (refine VIdx.mk 0 rfl (by omega) ?_))
            try (conv => whnf)
            have C28 := many_w A cA Wh.heap.size gs Wh (Nat.le_refl _) (gls Wh (up7 _ bfh)) hGs
            rw [hGl] at C28
            refine VCall.mk _ C28 ?_
            clear C28
            rintro _ Wi ⟨⟨D3, d3, rs4, rfl, hs4, FD3⟩, bi⟩
            refine ⟨_, rfl, ?_⟩
            have bfi : Below Wf.heap.size Wf Wi := bfh.trans (bi.mono bfh.size)
            have FD3' := FD3.fls
            rw [hs4] at FD3'
            have C36 := rduty_any d.self d.q E D3 cE d3 Wi.heap.size d.who gs Wi (Nat.le_refl _) ((oE.below bi).row len_eInt) FD3' (by omega) (by omega)
            rw [hGl] at C36
            repeat ((conv => whnf); first | (refine VS.mk bfi ?_) | (refine VCmp.tt (by omega) ?_) | (refine VCmp.ff (by omega) ?_) | (refine VIn.mk (IntWalk.i64_in _ (by omega)) ?_) | (refine VIdx.mk _ rfl (by omega) ?_) | (refine VIdx.mk 0 rfl (by omega) ?_))
            try (conv => whnf)
            refine VCall.mk _ C36 ?_
            clear C36 FD3 FD3' oE
            rintro _ Wj ⟨⟨B2', c2', l2', n3', rfl, Q3, own2'⟩, bj⟩
            refine ⟨_, rfl, ?_⟩
            obtain ⟨rfl, rfl⟩ := duty_one P3 Q3
            have bfj : Below Wf.heap.size Wf Wj := bfi.trans (bj.mono bfi.size)
            have b6j := up7 _ bfj
            repeat ((conv => whnf); first | (refine VS.mk bfj ?_) | (refine VCmp.tt (by omega) ?_) | (refine VCmp.ff (by omega) ?_) | (refine VIn.mk (IntWalk.i64_in _ (by omega)) ?_) | (refine VIdx.mk _ rfl (by omega) ?_) | (refine VIdx.mk 0 rfl (by omega) ?_))
            try (conv => whnf)
            -- the document's Rest
            have bdj : Below Wj.heap.size Wj Wj.drew := (Below.refl _ _).drew
            have up8 : ∀ W, Below Wj.heap.size Wj W → Below W6.heap.size W6 W := fun W hW => b6j.trans (hW.mono b6j.size)
            have Ka : Ld Try.prog 3 W0.heap.size 8 (fun W => Below Wj.heap.size Wj W) (.int .i64 d.done) := ⟨fun W hW => load3 ((aC W (up8 W hW)).1 8 _ rfl)⟩
            refine VDraw.mk 1000 [([0, 1, 2, 4], 3), ([], 5), ([], 6)] [7, 8, 9, 10, 11] (fun W => Below Wj.heap.size Wj W) (by kernel_rfl) (by kernel_rfl) (bdj) ?_
            repeat ((conv => whnf); first | (refine VLoad.mk _ Ka ?_) | (refine VCmp.tt (by omega) ?_) | (refine VCmp.ff (by omega) ?_) | (refine VIn.mk (IntWalk.i64_in _ (by omega)) ?_) | (refine VIdx.mk _ rfl (by omega) ?_) | (refine VIdx.mk 0 rfl (by omega) ?_))
            try (conv => whnf)
            have C28 := many_w A cA Wj.drew.heap.size gs Wj.drew (Nat.le_refl _) (gls _ (up8 _ bdj)) hGs
            rw [hGl] at C28
            refine VCall.mk _ C28 ?_
            clear C28
            rintro _ Wk ⟨⟨D4, d4, rs5, rfl, hs5, FD4⟩, bk⟩
            refine ⟨_, rfl, ?_⟩
            have bjk : Below Wj.heap.size Wj Wk := bdj.trans bk
            repeat ((conv => whnf); first | (refine VS.mk bjk ?_) | (refine VCmp.tt (by omega) ?_) | (refine VCmp.ff (by omega) ?_) | (refine VIn.mk (IntWalk.i64_in _ (by omega)) ?_) | (refine VIdx.mk _ rfl (by omega) ?_) | (refine VIdx.mk 0 rfl (by omega) ?_))
            try (conv => whnf)
            have C18 := datas_w M cM Wk.heap.size rl Wk (Nat.le_refl _) (aC Wk (up8 _ bjk)).2.2 hok.small
            rw [hrl] at C18
            refine VCall.mk _ C18 ?_
            clear C18
            rintro _ Wl ⟨⟨G, cG, al, rfl, hal, FG⟩, bl⟩
            refine ⟨_, rfl, ?_⟩
            have bjl : Below Wj.heap.size Wj Wl := bjk.trans (bl.mono bjk.size)
            have FD4' := (FD4.below bl).fls
            rw [hs5] at FD4'
            have FG' := FG.dts
            rw [hal] at FG'
            have C20 := rrest_any d.done D4 G d4 cG Wl.heap.size gs (rl.map Dr.d) Wl (Nat.le_refl _) FD4' FG' (by omega) hok.small
            rw [hGl, hml] at C20
            repeat ((conv => whnf); first | (refine VS.mk bjl ?_) | (refine VCmp.tt (by omega) ?_) | (refine VCmp.ff (by omega) ?_) | (refine VIn.mk (IntWalk.i64_in _ (by omega)) ?_) | (refine VIdx.mk _ rfl (by omega) ?_) | (refine VIdx.mk 0 rfl (by omega) ?_))
            try (conv => whnf)
            refine VCall.mk _ C20 ?_
            clear C20 FD4 FD4' FG FG'
            rintro _ Wm ⟨⟨B3', c3', rs3', n4', rfl, Q4, own3'⟩, bm⟩
            refine ⟨_, rfl, ?_⟩
            obtain ⟨hrs3, rfl⟩ := rest_one P4 Q4
            have bjm : Below Wj.heap.size Wj Wm := bjl.trans (bm.mono bjl.size)
            have hl3 : rs3'.length = rs3.length := by have := congrArg List.length hrs3; simpa using this.symm
            rw [hl3]
            have hfm : Below Wf.heap.size Wf Wm := bfj.trans (bjm.mono bfj.size)
            have hcm : Below Wc.heap.size Wc Wm := bcf.trans (hfm.mono bcf.size)
            have hbm : Below Wb.heap.size Wb Wm := bc.trans (hcm.mono bc.size)
            have ham : Below Wa.heap.size Wa Wm := bb.trans (hbm.mono bb.size)
            have h9m : Below W9.heap.size W9 Wm := ba.trans (ham.mono ba.size)
            have h8m : Below W8.heap.size W8 Wm := b9.trans (h9m.mono b9.size)
            have sA := ((own1.row len_eSlot).below h8m (Nat.le_refl _)).more h8m.size
            have sA' := ((own1'.row len_eSlot).below hfm (Nat.le_refl _)).more hfm.size
            have sB := ((own2.row len_eSlot).below h9m (Nat.le_refl _)).more h9m.size
            have sB' := ((own2'.row len_eSlot).below bjm (Nat.le_refl _)).more bjm.size
            have sM := ((msOwn_dts own3).below ham (Nat.le_refl _)).more ham.size
            have sM' := msOwn_dts own3'
            rw [← hrs3] at sM'
            have q1 := own1.len
            have q2 := own2.len
            have q3 := own3.row.len
            -- the comparison
            repeat ((conv => whnf); first | (refine VS.mk bjm ?_) | (refine VCmp.tt (by omega) ?_) | (refine VCmp.ff (by omega) ?_) | (refine VIn.mk (IntWalk.i64_in _ (by omega)) ?_) | (refine VIdx.mk _ rfl (by omega) ?_) | (refine VIdx.mk 0 rfl (by omega) ?_))
            try (conv => whnf)
            refine VCall.mk _ (num_any n1 Wm) ?_
            rintro _ Wn ⟨rfl, hWn⟩
            refine ⟨_, rfl, ?_⟩
            rw [← hWn]
            repeat ((conv => whnf); first | (refine VCmp.tt (by omega) ?_) | (refine VCmp.ff (by omega) ?_) | (refine VIn.mk (IntWalk.i64_in _ (by omega)) ?_) | (refine VIdx.mk _ rfl (by omega) ?_) | (refine VIdx.mk 0 rfl (by omega) ?_))
            try (conv => whnf)
            refine VCall.mk _ (sameSlots_yes B1 B1' c1 c1' Wm.heap.size l1 Wm (Nat.le_refl _) sA sA' (by omega)) ?_
            rintro _ Wo ⟨rfl, bo⟩
            refine ⟨_, rfl, ?_⟩
            repeat ((conv => whnf); first | (refine VCmp.tt (by omega) ?_) | (refine VCmp.ff (by omega) ?_) | (refine VIn.mk (IntWalk.i64_in _ (by omega)) ?_) | (refine VIdx.mk _ rfl (by omega) ?_) | (refine VIdx.mk 0 rfl (by omega) ?_))
            try (conv => whnf)
            refine VCall.mk _ (num_any n2 Wo) ?_
            rintro _ Wp ⟨rfl, hWp⟩
            refine ⟨_, rfl, ?_⟩
            rw [← hWp]
            repeat ((conv => whnf); first | (refine VCmp.tt (by omega) ?_) | (refine VCmp.ff (by omega) ?_) | (refine VIn.mk (IntWalk.i64_in _ (by omega)) ?_) | (refine VIdx.mk _ rfl (by omega) ?_) | (refine VIdx.mk 0 rfl (by omega) ?_))
            try (conv => whnf)
            refine VCall.mk _ (sameSlots_yes B2 B2' c2 c2' Wm.heap.size l2 Wo bo.size (sB.below bo (Nat.le_refl _)) (sB'.below bo (Nat.le_refl _)) (by omega)) ?_
            rintro _ Wq ⟨rfl, bq⟩
            refine ⟨_, rfl, ?_⟩
            have bmq : Below Wm.heap.size Wm Wq := bo.trans (bq.mono bo.size)
            repeat ((conv => whnf); first | (refine VCmp.tt (by omega) ?_) | (refine VCmp.ff (by omega) ?_) | (refine VIn.mk (IntWalk.i64_in _ (by omega)) ?_) | (refine VIdx.mk _ rfl (by omega) ?_) | (refine VIdx.mk 0 rfl (by omega) ?_))
            try (conv => whnf)
            refine VCall.mk _ (num_any n3 Wq) ?_
            rintro _ Wr ⟨rfl, hWr⟩
            refine ⟨_, rfl, ?_⟩
            rw [← hWr]
            have C21 := sameMsgs_yes B3 B3' c3 c3' Wm.heap.size (rs3.map Dr.d) Wq bmq.size (sM.below bmq (Nat.le_refl _)) (sM'.below bmq (Nat.le_refl _)) (by rw [List.length_map]; omega)
            rw [List.length_map] at C21
            repeat ((conv => whnf); first | (refine VCmp.tt (by omega) ?_) | (refine VCmp.ff (by omega) ?_) | (refine VIn.mk (IntWalk.i64_in _ (by omega)) ?_) | (refine VIdx.mk _ rfl (by omega) ?_) | (refine VIdx.mk 0 rfl (by omega) ?_))
            try (conv => whnf)
            refine VCall.mk _ C21 ?_
            clear C21
            rintro _ Ws ⟨rfl, bs⟩
            refine ⟨_, rfl, ?_⟩
            have bms : Below Wm.heap.size Wm Ws := bmq.trans (bs.mono bmq.size)
            repeat ((conv => whnf); first | (refine VCmp.tt (by omega) ?_) | (refine VCmp.ff (by omega) ?_) | (refine VIn.mk (IntWalk.i64_in _ (by omega)) ?_) | (refine VIdx.mk _ rfl (by omega) ?_) | (refine VIdx.mk 0 rfl (by omega) ?_))
            try (conv => whnf)
            refine VCall.mk _ (num_any n4 Ws) ?_
            rintro _ Wt ⟨rfl, hWt⟩
            refine ⟨_, rfl, ?_⟩
            rw [← hWt]
            have b6s : Below W6.heap.size W6 Ws := (up8 _ bjm).trans (bms.mono (up8 _ bjm).size)
            have Rs := R6.below b6s
            have bVs : Below wB.heap.size wB Ws := bV6.trans (b6s.mono R6.z)
            repeat ((conv => whnf); first | (refine VCmp.tt (by omega) ?_) | (refine VCmp.ff (by omega) ?_) | (refine VIn.mk (IntWalk.i64_in _ (by omega)) ?_) | (refine VIdx.mk _ rfl (by omega) ?_) | (refine VIdx.mk 0 rfl (by omega) ?_))
            try (conv => whnf)
            refine .mk (k + 1, ⟨A, cA, ra', some ⟨gO, 0, none⟩, cO, [r0], C', cC', d.who, M, cM, rl⟩) ⟨rfl, rfl, rfl, rfl, rfl, by show some (Value.slice M rm.length cM) = some (Value.slice M rl.length cM); rw [hrl], rfl, trivial⟩ ⟨hk3, Rs.other (by have := bVs.size; omega) (hx _ bVs).1 (by omega), bVs, hla, rfl, hok⟩ (by show 3 - (k + 1) < 3 - k; omega)
          case pos =>
            obtain ⟨bM, oM, hMx, hbM, hrow⟩ := (hYY _ b0).ms.row (by omega)
            have hpi : d.ms[i]? = some d.ms[i] := List.getElem?_eq_getElem h2
            have hpm : d.ms[i] ∈ d.ms := List.getElem_mem _
            generalize d.ms[i] = p at hpi hpm
            have hpd : p.d ∈ d.ms.map Dr.d := List.mem_map.2 ⟨p, hpm, rfl⟩
            have hps := hd.sd.2 p.d hpd
            have rowX : ∀ W, Below wB.heap.size wB W → W.rangeAt bM (oM + i * 4) (eDr p) := fun W hW j u hu => (hW.cell (p := ⟨bM, _, none⟩) (by show bM < wB.heap.size; omega)).trans (hrow i p hpi j u hu)
            have hir : i < rl.length := by omega
            have hri : rl[i]? = some rl[i] := List.getElem?_eq_getElem hir
            have hrm' : rl[i] ∈ rl := List.getElem_mem _
            generalize rl[i] = r at hri hrm'
            have o1 := R6.m.each r hrm'
            have hown := R6.m.own
            dsimp only at o1 hown
            obtain ⟨gM, hMe, hcM⟩ := hown.cell len_eDr hri
            subst hMe
            have hgM := hown.lo gM rfl
            have nM : gM ∉ (bw r.B r.c).toList := fun hm => o1.neO hown (by decide) gM (by simpa [Option.mem_toList] using hm) rfl
            have nb : W0.heap.size ∉ (bw r.B r.c).toList := fun hm => R6.bm (mblks_X hrm' (by simpa [Option.mem_toList] using hm))
            have lB : ∀ k ∈ (bw r.B r.c).toList, wB.heap.size ≤ k := fun k hk => (o1.lo k (by simpa [Option.mem_toList] using hk)).1
            rw [hMx] at M3
            have T1 : Ld Try.prog 52 gM (0 + i * 4 + 3) (fun W => Fx (bw r.B r.c).toList W6 W) (.slice r.B r.d.body.length r.c) := ⟨fun W hW => load52 (by rw [Nat.zero_add, hW.cell hgM.2 nM]; exact hcM 3 _ rfl)⟩
            have T2 : Ld Try.prog 40 W0.heap.size 12 (fun W => Fx (bw r.B r.c).toList W6 W) (.slice (some ⟨bM, oM, none⟩) d.ms.length d.cM) := ⟨fun W hW => load_cell (by kernel_rfl) (by rw [← hMx]; exact (range_same R6.r (hW.block _ R6.bz nb)) 12 _ rfl)⟩
            have T3 : Ld Try.prog 52 bM (oM + i * 4 + 3) (fun W => Fx (bw r.B r.c).toList W6 W) (.slice p.B p.d.body.length p.c) := ⟨fun W hW => load52 (rowX W (bV6.trans (hW.to lB R6.z)) 3 _ rfl)⟩
            repeat ((conv => whnf); first | (refine VLoad.mk _ M3 ?_) | (refine VCmp.tt (by omega) ?_) | (refine VCmp.ff (by omega) ?_) | (refine VIn.mk (IntWalk.i64_in _ (by omega)) ?_) | (refine VIdx.mk _ rfl (by omega) ?_) | (refine VIdx.mk 0 rfl (by omega) ?_))
            try (conv => whnf)
            refine VDraw.mk 1000 [([0, 1, 2, 3, 4, 5, 6, 7, 8, 9, 10, 11], 12)] [13] (fun W => Fx (bw r.B r.c).toList W6 W) (by kernel_rfl) (by kernel_rfl) ((Fx.refl _ _).drew) ?_
            repeat ((conv => whnf); first | (refine VLoad.mk _ T1 ?_) | (refine VLoad.mk _ T2 ?_) | (refine VLoad.mk _ T3 ?_) | (refine VSl.zero ?_) | (refine VCmp.tt (by omega) ?_) | (refine VCmp.ff (by omega) ?_) | (refine VIn.mk (IntWalk.i64_in _ (by omega)) ?_) | (refine VIdx.mk _ rfl (by omega) ?_) | (refine VIdx.mk 0 rfl (by omega) ?_))
            try (conv => whnf)
            refine VApp.rowsW wB.heap.size 1 1 _ Try.underlying52 info5 rfl (by decide) eByte len_eByte one_eByte r.d.body p.d.body rfl (show OwnW W6.drew wB.heap.size 5 1 eByte r.B r.c r.d.body from ⟨o1.len, o1.own⟩) ((hYY _ bV6.drew).ms.each p hpm).row (by omega) (by omega) (by show wB.heap.size ≤ W6.heap.size; exact R6.z) fun B' c' W7 hB7 hg7 hk7 => ?_
            have f7 : Fx (bw r.B r.c).toList W6 W7 := .undrew (.grown hg7 fun k hk => by rw [hk]; simp)
            have z7 := f7.size
            have bV7 : Below wB.heap.size wB W7 := bV6.trans (f7.to lB R6.z)
            have own7 : Owns W7 wB.heap.size 113 4 eDr (some ⟨gM, 0, none⟩) cM rl := hown.fx f7 fun k hk hm => by injection hk with hk; subst hk; exact nM hm
            have N1 : Ld Try.prog 40 W0.heap.size 12 (Eq W7) (.slice (some ⟨bM, oM, none⟩) d.ms.length d.cM) := T2.at f7
            have N2 : Ld Try.prog 113 bM (oM + i * 4) (Eq W7) (.agg (drA p)) := .of (load113 (rowX W7 bV7))
            have h4 : (i + 1) * 4 ≤ rl.length * 4 := Nat.mul_le_mul_right _ hir
            have th7 : W7.there gM (0 + i * 4) (drA p).size := fun j hj => by
              have hj : j < 4 := hj
              have := own7.there len_eDr (i * 4 + j) (by omega)
              rw [show 0 + i * 4 + j = 0 + (i * 4 + j) by omega]; exact this
            repeat ((conv => whnf); first | (refine VS.mk f7 ?_) | (refine VLoad.mk _ N1 ?_) | (refine VLoad.mk _ N2 ?_) | (refine VCmp.tt (by omega) ?_) | (refine VCmp.ff (by omega) ?_) | (refine VIn.mk (IntWalk.i64_in _ (by omega)) ?_) | (refine VIdx.mk _ rfl (by omega) ?_) | (refine VIdx.mk 0 rfl (by omega) ?_))
            try (conv => whnf)
            refine VStore.mid th7 (by kernel_rfl) (one_drA p) fun W8 hW8 => ?_
            have own8 : Owns W8 wB.heap.size 113 4 eDr (some ⟨gM, 0, none⟩) cM (rl.set i p) := by
              rw [hW8.out, show 0 + mulO i 4 = i * 4 by rw [mulO_eq]; omega]
              exact own7.sets len_eDr hir p
            have g8 : W7.grownBy W8 (some gM) := by rw [hW8.out]; exact grown_sets _ _ _ _
            clear hW8
            have th8 := own8.there len_eDr
            have hlen8 : (rl.set i p).length = rl.length := List.length_set ..
            rw [hlen8] at th8
            have t3 := th8 (i * 4 + 3) (by omega)
            rw [show 0 + (i * 4 + 3) = 0 + i * 4 + 3 by omega] at t3
            repeat ((conv => whnf); first | (refine VCmp.tt (by omega) ?_) | (refine VCmp.ff (by omega) ?_) | (refine VIn.mk (IntWalk.i64_in _ (by omega)) ?_) | (refine VIdx.mk _ rfl (by omega) ?_) | (refine VIdx.mk 0 rfl (by omega) ?_))
            try (conv => whnf)
            refine VStore.cell (by kernel_rfl) t3.1 t3.2 rfl rfl fun W9 hW9 => ?_
            have own9 : Owns W9 wB.heap.size 113 4 eDr (some ⟨gM, 0, none⟩) cM (rl.set i ⟨p.d, B', c'⟩) := by
              rw [hW9.out, show addO (0 + mulO i 4) 3 = i * 4 + 3 by rw [mulO_eq, addO_eq]; omega]
              have := own8.field (k := i) (j := 3) (x := p) (x' := ⟨p.d, B', c'⟩) (v := .slice B' p.d.body.length c') len_eDr (List.getElem?_set_self hir) rfl (by omega)
              rw [List.set_set] at this; exact this
            have g9 : W8.grownBy W9 (some gM) := by rw [hW9.out]; exact grown_cell _ _ _ _
            clear hW9
            have f79 : Fx (blk (some (⟨gM, 0, none⟩ : Addr))).toList W7 W9 := .grown (g8.trans g9) fun k hk => by injection hk with hk; subst hk; exact List.mem_singleton.2 rfl
            have f69 : Fx ((blk (some (⟨gM, 0, none⟩ : Addr))).toList ++ (bw r.B r.c).toList) W6 W9 := (f7.more fun k hk => List.mem_append.2 (.inr hk)).trans f79 fun k hk => .inl (List.mem_append.2 (.inl hk))
            have hB9 : OwnW W9 wB.heap.size 5 1 eByte B' c' p.d.body := hB7.fx f79 fun k hk hm => hB7.neO own7 (by decide) k hk (by simpa [Option.mem_toList] using hm)
            have kB : ∀ k, bw B' c' = some k → bw r.B r.c = some k ∨ W6.heap.size ≤ k := fun k hk => by
              rcases hk7 k hk with e | e
              · exact .inl e
              · right; rw [e]; exact Nat.le_refl _
            have P9 := R6.m.put (r' := ⟨p.d, B', c'⟩) hri f69 own9 hB9 kB
            have inM : ∀ k ∈ (blk (some (⟨gM, 0, none⟩ : Addr))).toList ++ (bw r.B r.c).toList, k ∈ mblks (some ⟨gM, 0, none⟩) rl := fun k hk => by
              rcases List.mem_append.1 hk with hk | hk
              · exact mblks_B (by simpa [Option.mem_toList] using hk)
              · exact mblks_X hrm' (by simpa [Option.mem_toList] using hk)
            have R9 := R6.setM (f69.more inM) P9 fun k hk => by
              rcases mblks_of hk with e | ⟨x, hx', e⟩
              · exact .inl (mblks_B e)
              · obtain ⟨q, hq⟩ := List.mem_iff_getElem?.1 hx'
                by_cases e1 : q = i
                · subst e1
                  rw [List.getElem?_set_self hir] at hq
                  injection hq with hq; subst hq
                  rcases kB k e with e | e
                  · exact .inl (mblks_X hrm' e)
                  · exact .inr e
                · rw [List.getElem?_set_ne (fun e2 => e1 e2.symm)] at hq
                  exact .inl (mblks_X (List.mem_of_getElem? hq) e)
            have bV9 : Below wB.heap.size wB W9 := bV6.trans (f69.to (fun k hk => (R6.m.blks k (inM k hk)).1) R6.z)
            repeat ((conv => whnf); first | (refine VCmp.tt (by omega) ?_) | (refine VCmp.ff (by omega) ?_) | (refine VIn.mk (IntWalk.i64_in _ (by omega)) ?_) | (refine VIdx.mk _ rfl (by omega) ?_) | (refine VIdx.mk 0 rfl (by omega) ?_))
            try (conv => whnf)
            refine .mk (i + 1, rl.set i ⟨p.d, B', c'⟩) ⟨rfl, rfl, rfl, rfl, rfl, rfl, rfl, rfl, rfl, trivial⟩ ⟨h1, by show (rl.set i _).length = _; rw [List.length_set]; exact hrl, hok.set hps (hd.kd p.d hpd), R9, bV9⟩ (by show rm.length - (i + 1) < rm.length - i; omega)
      case neg =>
        have hYY : ∀ W, Below wB.heap.size wB W → CxAt W N c := fun W hW => (hx W hW).2.2.1
        have cV : Below W0.heap.size W0 V1 := by rw [hV1.out]; exact (Below.refl _ _).alloc (Nat.le_refl _) _
        have zV : V1.heap.size = W0.heap.size + 1 := by rw [hV1.out]; simp
        have rV : V1.rangeAt W0.heap.size 0 (cxA c).toList := by rw [hV1.out]; exact range_new W0 (cxA c) 42
        have R1 : Room wB.heap.size W0.heap.size (cxA c).toList ⟨A, cA, ra, O, cO, ro, C, cC, lc, M, cM, rm⟩ V1 := R.fresh cV (by omega) rV (Nat.le_refl _)
        have bV : Below wB.heap.size wB V1 := bB.trans (cV.mono R.z)
        have hXs := hc.sm.1
        have hXw := hc.wl
        have zz := R.z
        -- the contents
        have M0 : Ld Try.prog 22 W0.heap.size 0 (Eq V1) (.slice c.A c.fs.length c.cA) := .of (load_cell (by kernel_rfl) (rV 0 _ rfl))
        have C1 := laid_any (cA := c.cA) R1.a R1.z (show N ≤ wB.heap.size by omega) (InFs.of (hYY _ bV).fls (by omega) R1.z fun k hk => (R1.a.blks k hk).1) hc.sm (by rw [hra]; exact hn1)
        rw [hra] at C1
        repeat ((conv => whnf); first | (refine VLoad.mk _ M0 ?_) | (refine VCmp.tt (by omega) ?_) | (refine VCmp.ff (by omega) ?_) | (refine VIn.mk (IntWalk.i64_in _ (by omega)) ?_) | (refine VIdx.mk _ rfl (by omega) ?_) | (refine VIdx.mk 0 rfl (by omega) ?_))
        try (conv => whnf)
        refine VCall.mk _ C1 ?_
        rintro _ W2 ⟨rfl, ra', hla, hfa, FA, xA, kA⟩
        refine ⟨_, rfl, ?_⟩
        clear C1
        have R2 : Room wB.heap.size W0.heap.size (cxA c).toList ⟨A, cA, ra', O, cO, ro, C, cC, lc, M, cM, rm⟩ W2 := R1.setA xA FA kA
        have bV2 : Below wB.heap.size wB W2 := bV.trans (xA.to (fun k hk => (R1.a.blks k hk).1) R1.z)
        clear xA FA kA R1
        -- the own one
        have M1 : Ld Try.prog 39 W0.heap.size 1 (Eq W2) (.agg (flc c.own.e c.own.l c.own.i c.own.c c.own.base c.X c.own.slots.length c.cX c.Y c.own.have_.length c.cY)) := .of (load39 (range_sub (n := 7) R2.r 1 rfl))
        repeat ((conv => whnf); first | (refine VLoad.mk _ M1 ?_) | (refine VCmp.tt (by omega) ?_) | (refine VCmp.ff (by omega) ?_) | (refine VIn.mk (IntWalk.i64_in _ (by omega)) ?_) | (refine VIdx.mk _ rfl (by omega) ?_) | (refine VIdx.mk 0 rfl (by omega) ?_))
        try (conv => whnf)
        refine VBs.mk _ _ (bs22 W2 c.own.e c.own.l c.own.i c.own.c c.own.base c.X c.own.slots.length c.cX c.Y c.own.have_.length c.cY) ?_
        have b3 : Below W2.heap.size W2 (W2.alloc (.cells (flc c.own.e c.own.l c.own.i c.own.c c.own.base c.X c.own.slots.length c.cX c.Y c.own.have_.length c.cY) 39)) := (Below.refl _ _).alloc (Nat.le_refl _) _
        have z3 : (W2.alloc (.cells (flc c.own.e c.own.l c.own.i c.own.c c.own.base c.X c.own.slots.length c.cX c.Y c.own.have_.length c.cY) 39)).heap.size = W2.heap.size + 1 := by simp
        have r3 : (W2.alloc (.cells (flc c.own.e c.own.l c.own.i c.own.c c.own.base c.X c.own.slots.length c.cX c.Y c.own.have_.length c.cY) 39)).rangeAt W2.heap.size 0 (flc c.own.e c.own.l c.own.i c.own.c c.own.base c.X c.own.slots.length c.cX c.Y c.own.have_.length c.cY).toList := range_new W2 _ 39
        generalize W2.alloc (.cells (flc c.own.e c.own.l c.own.i c.own.c c.own.base c.X c.own.slots.length c.cX c.Y c.own.have_.length c.cY) 39) = W3 at b3 z3 r3 ⊢
        have R3 := R2.below b3
        have bV3 : Below wB.heap.size wB W3 := bV2.trans (b3.mono R2.z)
        have C2 := laid_any (cA := 1) R3.o R3.z (show N ≤ wB.heap.size by omega) (inFs_one (show W2.heap.size < W3.heap.size by omega) (fun hm => by have := (R2.o.blks _ hm).2; omega) r3 (hYY _ bV3).own) (small_own hc.o1 hc.o2) (by show ro.length ≤ 1; omega)
        dsimp only at C2
        rw [hro] at C2
        repeat ((conv => whnf); first | (refine VCmp.tt (by omega) ?_) | (refine VCmp.ff (by omega) ?_) | (refine VIn.mk (IntWalk.i64_in _ (by omega)) ?_) | (refine VIdx.mk _ rfl (by omega) ?_) | (refine VIdx.mk 0 rfl (by omega) ?_))
        try (conv => whnf)
        refine VCall.mk _ C2 ?_
        rintro _ W4 ⟨rfl, ro', hlo, hfo, FO, xO, kO⟩
        refine ⟨_, rfl, ?_⟩
        clear C2
        have R4 : Room wB.heap.size W0.heap.size (cxA c).toList ⟨A, cA, ra', O, cO, ro', C, cC, lc, M, cM, rm⟩ W4 := R3.setO xO FO kO
        have bV4 : Below wB.heap.size wB W4 := bV3.trans (xO.to (fun k hk => (R3.o.blks k hk).1) R3.z)
        clear xO FO kO R2 R3
        -- the numbers
        have M2 : Ld Try.prog 37 W0.heap.size 9 (fun W => Fx (blk C).toList W4 W) (.slice c.C c.who.length c.cC) := ⟨fun W hW => load37 ((range_same R4.r (hW.block _ R4.bz R4.bc)) 9 _ rfl)⟩
        repeat ((conv => whnf); first | (refine VCmp.tt (by omega) ?_) | (refine VCmp.ff (by omega) ?_) | (refine VIn.mk (IntWalk.i64_in _ (by omega)) ?_) | (refine VIdx.mk _ rfl (by omega) ?_) | (refine VIdx.mk 0 rfl (by omega) ?_))
        try (conv => whnf)
        refine VDraw.mk 1000 [([0, 1, 2, 3], 4)] [5] (fun W => Fx (blk C).toList W4 W) (by kernel_rfl) (by kernel_rfl) ((Fx.refl _ _).drew) ?_
        repeat ((conv => whnf); first | (refine VLoad.mk _ M2 ?_) | (refine VSl.zero ?_) | (refine VCmp.tt (by omega) ?_) | (refine VCmp.ff (by omega) ?_) | (refine VIn.mk (IntWalk.i64_in _ (by omega)) ?_) | (refine VIdx.mk _ rfl (by omega) ?_) | (refine VIdx.mk 0 rfl (by omega) ?_))
        try (conv => whnf)
        refine VApp.rows wB.heap.size 1 8 _ Try.underlying37 info3 rfl (by decide) eInt len_eInt one_eInt ([] : List Int) c.who rfl rfl (show Owns W4.drew wB.heap.size 3 1 eInt C cC [] from R4.c.short) (hYY _ bV4.drew).who (by omega) (by omega) (by show wB.heap.size ≤ W4.heap.size; exact R4.z) fun C' cC' W5 ho5 hg5 hk5 => ?_
        have x5 : Fx (blk C).toList W4 W5 := .undrew (.grown hg5 fun k hk => by rw [hk]; simp)
        have R5 : Room wB.heap.size W0.heap.size (cxA c).toList ⟨A, cA, ra', O, cO, ro', C', cC', c.who, M, cM, rm⟩ W5 := R4.setC x5 ho5 fun k hk => by
          have hk : blk C' = some k := by simpa [Option.mem_toList] using hk
          rcases hk5 with e | e
          · left; rw [← e, hk]; simp
          · right; rw [hk] at e; injection e with e; rw [e]; exact Nat.le_refl _
        have bV5 : Below wB.heap.size wB W5 := bV4.trans (x5.to (fun k hk => (R4.clt k hk).1) R4.z)
        repeat ((conv => whnf); first | (refine VS.mk x5 ?_) | (refine VCmp.tt (by omega) ?_) | (refine VCmp.ff (by omega) ?_) | (refine VIn.mk (IntWalk.i64_in _ (by omega)) ?_) | (refine VIdx.mk _ rfl (by omega) ?_) | (refine VIdx.mk 0 rfl (by omega) ?_))
        try (conv => whnf)
        clear x5 R4 ho5 hg5 hk5
        refine VLoop.mk (Nat × List Dr) (fun s => [(2, .pointer (some ⟨w.heap.size, 0, none⟩)), (3, .pointer (some ⟨wA.heap.size, 0, none⟩)), (6, .slice A d.fs.length cA), (7, .slice O 1 cO), (8, .slice C' c.who.length cC'), (9, .slice M rm.length cM), (10, .int .i64 k), (11, .pointer (some ⟨W0.heap.size, 0, none⟩)), (12, .int .i64 s.1)]) (fun s W => s.1 ≤ rm.length ∧ s.2.length = rm.length ∧ MsOk s.2 ∧ Room wB.heap.size W0.heap.size (cxA c).toList ⟨A, cA, ra', O, cO, ro', C', cC', c.who, M, cM, s.2⟩ W ∧ Below wB.heap.size wB W) (fun s => rm.length - s.1) (0, rm) ⟨rfl, rfl, rfl, rfl, by show some (Value.slice C' (0 + c.who.length) cC') = _; rw [Nat.zero_add], rfl, rfl, rfl, rfl, trivial⟩ ⟨Nat.zero_le _, rfl, hrm, R5, bV5⟩ ?_
        clear R5 bV5 M2 M1 M0 bV4 bV3 bV2 r3 b3 z3 bV R rV cV
        rintro ⟨i, rl⟩ W6 ⟨hi, hrl, hok, R6, bV6⟩
        dsimp only at hi hrl hok R6 bV6 ⊢
        have M3 : Ld Try.prog 40 W0.heap.size 12 (Eq W6) (.slice c.M c.ms.length c.cM) := .of (load_cell (by kernel_rfl) (R6.r 12 _ rfl))
        have hXm := hc.sd.1
        rw [List.length_map] at hXm
        have hokl := hrm.1
        by_cases h1 : i < rm.length
        case neg =>
          repeat ((conv => whnf); first | (refine VCmp.tt (by omega) ?_) | (refine VCmp.ff (by omega) ?_) | (refine VIn.mk (IntWalk.i64_in _ (by omega)) ?_) | (refine VIdx.mk _ rfl (by omega) ?_) | (refine VIdx.mk 0 rfl (by omega) ?_))
          try (conv => whnf)
          have hGs : Small (ra'.map Rw.f) := by rw [hfa]; exact small_take hc.sm _
          have hGl : (ra'.map Rw.f).length = d.fs.length := by rw [List.length_map]; exact hla
          generalize hgs : ra'.map Rw.f = gs at hGs hGl
          obtain ⟨r0, hr0⟩ : ∃ r0, ro' = [r0] := by
            match ro', hlo with
            | [r0], _ => exact ⟨r0, rfl⟩
          subst hr0
          have hr0 : r0.f = c.own := by
            have e : [r0.f] = [c.own] := hfo
            injection e
          have hd.fs.length : d.fs.length ≤ 1048576 := by omega
          obtain ⟨gO, hOe, hcO⟩ := R6.o.own.cell len_eRw (k := 0) (x := r0) rfl
          subst hOe
          have gls : ∀ W, Below W6.heap.size W6 W → Fls W W.heap.size A gs := fun W hW => by
            have := ((R6.below hW).a).fls
            rw [← hgs]; exact this
          have aO : ∀ W, Below W6.heap.size W6 W → W.rangeAt gO 0 (eRw r0) ∧ FlRows W W.heap.size r0.f r0.X r0.cX r0.Y r0.cY := fun W hW => by
            have R := R6.below hW
            obtain ⟨g1, e1, h1⟩ := R.o.own.cell len_eRw (k := 0) (x := r0) rfl
            injection e1 with e1; injection e1 with e1; subst e1
            obtain ⟨q1, q2⟩ := R.o.each r0 (List.mem_singleton.2 rfl)
            exact ⟨by rw [Nat.zero_mul] at h1; exact h1, ⟨q1.row len_eSlot, q2.row len_eInt, q1.len, q1.cap, q2.len, q2.cap⟩⟩
          have aC : ∀ W, Below W6.heap.size W6 W → W.rangeAt W0.heap.size 0 (cxA c).toList ∧ RowAt W W.heap.size 1 eInt C' c.who ∧ Drs W W.heap.size M rl := fun W hW =>
            have R := R6.below hW
            ⟨R.r, R.c.row len_eInt, R.m.drs⟩
          have hml : (rl.map Dr.d).length = rm.length := by rw [List.length_map]; exact hrl
          -- Cut
          have C14 := icut_any A cA W6.heap.size gs W6 (Nat.le_refl _) (gls W6 (Below.refl _ _)) (by omega)
          rw [hGl] at C14
          refine VCall.mk _ C14 ?_
          clear C14
          rintro _ W7 ⟨⟨kk, n1, rfl, P1⟩, b7⟩
          refine ⟨_, rfl, ?_⟩
          -- Lacks
          have bd7 : Below W7.heap.size W7 W7.drew := (Below.refl _ _).drew
          have K1 : Ld Try.prog 3 W0.heap.size 8 (fun W => Below W7.heap.size W7 W) (.int .i64 c.done) := ⟨fun W hW => load3 ((aC W (b7.trans (hW.mono b7.size))).1 8 _ rfl)⟩
          have K2 : Ld Try.prog 39 gO 0 (fun W => Below W7.heap.size W7 W) (.agg (flc r0.f.e r0.f.l r0.f.i r0.f.c r0.f.base r0.X r0.f.slots.length r0.cX r0.Y r0.f.have_.length r0.cY)) := ⟨fun W hW => load39 ((aO W (b7.trans (hW.mono b7.size))).1)⟩
          repeat ((conv => whnf); first | (refine VCmp.tt (by omega) ?_) | (refine VCmp.ff (by omega) ?_) | (refine VIn.mk (IntWalk.i64_in _ (by omega)) ?_) | (refine VIdx.mk _ rfl (by omega) ?_) | (refine VIdx.mk 0 rfl (by omega) ?_))
          try (conv => whnf)
          refine VDraw.mk 1000 [([0, 1, 2, 3, 4, 5], 6)] [7, 8, 9, 10, 11] (fun W => Below W7.heap.size W7 W) (by kernel_rfl) (by kernel_rfl) (bd7) ?_
          repeat ((conv => whnf); first | (refine VLoad.mk _ K1 ?_) | (refine VLoad.mk _ K2 ?_) | (refine VCmp.tt (by omega) ?_) | (refine VCmp.ff (by omega) ?_) | (refine VIn.mk (IntWalk.i64_in _ (by omega)) ?_) | (refine VIdx.mk _ rfl (by omega) ?_) | (refine VIdx.mk 0 rfl (by omega) ?_))
          try (conv => whnf)
          have b7d : Below W6.heap.size W6 W7.drew := b7.drew
          have C24 := lacks_any c.done r0.f r0.X r0.Y A r0.cX r0.cY cA W7.drew.heap.size gs W7.drew (Nat.le_refl _) (aO _ b7d).2 (gls _ b7d) (by omega)
          rw [hGl] at C24
          refine VCall.mk _ C24 ?_
          clear C24
          rintro _ W8 ⟨⟨B1, c1, l1, n2, rfl, P2, own1⟩, b8⟩
          refine ⟨_, rfl, ?_⟩
          have b78 : Below W7.heap.size W7 W8 := bd7.trans b8
          have b68 : Below W6.heap.size W6 W8 := b7.trans (b78.mono b7.size)
          repeat ((conv => whnf); first | (refine VS.mk b78 ?_) | (refine VCmp.tt (by omega) ?_) | (refine VCmp.ff (by omega) ?_) | (refine VIn.mk (IntWalk.i64_in _ (by omega)) ?_) | (refine VIdx.mk _ rfl (by omega) ?_) | (refine VIdx.mk 0 rfl (by omega) ?_))
          try (conv => whnf)
          -- Duty
          have K3 : Ld Try.prog 3 W0.heap.size 10 (Eq W8) (.int .i64 c.self) := .of (load3 ((aC W8 b68).1 10 _ rfl))
          have K4 : Ld Try.prog 3 W0.heap.size 11 (Eq W8) (.int .i64 c.q) := .of (load3 ((aC W8 b68).1 11 _ rfl))
          repeat ((conv => whnf); first | (refine VLoad.mk _ K3 ?_) | (refine VLoad.mk _ K4 ?_) | (refine VCmp.tt (by omega) ?_) | (refine VCmp.ff (by omega) ?_) | (refine VIn.mk (IntWalk.i64_in _ (by omega)) ?_) | (refine VIdx.mk _ rfl (by omega) ?_) | (refine VIdx.mk 0 rfl (by omega) ?_))
          try (conv => whnf)
          have C35 := duty_any c.self c.q C' A cC' cA W8.heap.size c.who gs W8 (Nat.le_refl _) (aC W8 b68).2.1 (gls W8 b68) (by omega) (by omega)
          rw [hGl] at C35
          refine VCall.mk _ C35 ?_
          clear C35
          rintro _ W9 ⟨⟨B2, c2, l2, n3, rfl, P3, own2⟩, b9⟩
          refine ⟨_, rfl, ?_⟩
          have b69 : Below W6.heap.size W6 W9 := b68.trans (b9.mono b68.size)
          -- Rest
          have K5 : Ld Try.prog 3 W0.heap.size 8 (Eq W9) (.int .i64 c.done) := .of (load3 ((aC W9 b69).1 8 _ rfl))
          repeat ((conv => whnf); first | (refine VLoad.mk _ K5 ?_) | (refine VCmp.tt (by omega) ?_) | (refine VCmp.ff (by omega) ?_) | (refine VIn.mk (IntWalk.i64_in _ (by omega)) ?_) | (refine VIdx.mk _ rfl (by omega) ?_) | (refine VIdx.mk 0 rfl (by omega) ?_))
          try (conv => whnf)
          have C19 := rest_any c.done A M cA cM W9.heap.size gs (rl.map Dr.d) W9 (Nat.le_refl _) (gls W9 b69) ⟨rl, rfl, (aC W9 b69).2.2⟩ (by omega) hok.small hok.key
          rw [hGl, hml] at C19
          refine VCall.mk _ C19 ?_
          clear C19
          rintro _ Wa ⟨⟨B3, c3, rs3, n4, rfl, P4, own3⟩, ba⟩
          refine ⟨_, rfl, ?_⟩
          have b6a : Below W6.heap.size W6 Wa := b69.trans (ba.mono b69.size)
          -- the document's Cut
          repeat ((conv => whnf); first | (refine VCmp.tt (by omega) ?_) | (refine VCmp.ff (by omega) ?_) | (refine VIn.mk (IntWalk.i64_in _ (by omega)) ?_) | (refine VIdx.mk _ rfl (by omega) ?_) | (refine VIdx.mk 0 rfl (by omega) ?_))
          try (conv => whnf)
          have C28 := many_w A cA Wa.heap.size gs Wa (Nat.le_refl _) (gls Wa b6a) hGs
          rw [hGl] at C28
          refine VCall.mk _ C28 ?_
          clear C28
          rintro _ Wb ⟨⟨D1, d1, rs1, rfl, hs1, FD1⟩, bb⟩
          refine ⟨_, rfl, ?_⟩
          have b6b : Below W6.heap.size W6 Wb := b6a.trans (bb.mono b6a.size)
          have FD1' := FD1.fls
          rw [hs1] at FD1'
          have C15 := rcut_any D1 d1 Wb.heap.size gs Wb (Nat.le_refl _) FD1' (by omega)
          rw [hGl] at C15
          repeat ((conv => whnf); first | (refine VCmp.tt (by omega) ?_) | (refine VCmp.ff (by omega) ?_) | (refine VIn.mk (IntWalk.i64_in _ (by omega)) ?_) | (refine VIdx.mk _ rfl (by omega) ?_) | (refine VIdx.mk 0 rfl (by omega) ?_))
          try (conv => whnf)
          refine VCall.mk _ C15 ?_
          clear C15 FD1 FD1'
          rintro _ Wc ⟨⟨kk', n1', rfl, Q1⟩, bc⟩
          refine ⟨_, rfl, ?_⟩
          obtain ⟨rfl, rfl⟩ := cutIs_one P1 Q1
          have b6c : Below W6.heap.size W6 Wc := b6b.trans (bc.mono b6b.size)
          -- the document's Lacks
          have bdc : Below Wc.heap.size Wc Wc.drew := (Below.refl _ _).drew
          have up6 : ∀ W, Below Wc.heap.size Wc W → Below W6.heap.size W6 W := fun W hW => b6c.trans (hW.mono b6c.size)
          have K6 : Ld Try.prog 3 W0.heap.size 8 (fun W => Below Wc.heap.size Wc W) (.int .i64 c.done) := ⟨fun W hW => load3 ((aC W (up6 W hW)).1 8 _ rfl)⟩
          have K7 : Ld Try.prog 39 gO 0 (fun W => Below Wc.heap.size Wc W) (.agg (flc r0.f.e r0.f.l r0.f.i r0.f.c r0.f.base r0.X r0.f.slots.length r0.cX r0.Y r0.f.have_.length r0.cY)) := ⟨fun W hW => load39 ((aO W (up6 W hW)).1)⟩
          have ho1 : r0.f.slots.length ≤ 1048576 := by rw [hr0]; exact hc.o1
          have ho2 : r0.f.have_.length ≤ 1048576 := by rw [hr0]; exact hc.o2
          repeat ((conv => whnf); first | (refine VCmp.tt (by omega) ?_) | (refine VCmp.ff (by omega) ?_) | (refine VIn.mk (IntWalk.i64_in _ (by omega)) ?_) | (refine VIdx.mk _ rfl (by omega) ?_) | (refine VIdx.mk 0 rfl (by omega) ?_))
          try (conv => whnf)
          refine VDraw.mk 1000 [([0, 1, 2, 3, 4, 6], 5), ([], 7), ([], 8)] [9, 10, 11, 12, 13] (fun W => Below Wc.heap.size Wc W) (by kernel_rfl) (by kernel_rfl) (bdc) ?_
          repeat ((conv => whnf); first | (refine VLoad.mk _ K6 ?_) | (refine VLoad.mk _ K7 ?_) | (refine VCmp.tt (by omega) ?_) | (refine VCmp.ff (by omega) ?_) | (refine VIn.mk (IntWalk.i64_in _ (by omega)) ?_) | (refine VIdx.mk _ rfl (by omega) ?_) | (refine VIdx.mk 0 rfl (by omega) ?_))
          try (conv => whnf)
          refine VCall.mk _ (one_own r0.f r0.X r0.Y r0.cX r0.cY Wc.drew.heap.size Wc.drew (Nat.le_refl _) (aO _ (up6 _ bdc)).2 (by omega) (by omega)) ?_
          rintro _ Wd ⟨⟨X1, cX1, Y1, cY1, rfl, oX, oY⟩, bd⟩
          refine ⟨_, rfl, ?_⟩
          have bcd : Below Wc.heap.size Wc Wd := bdc.trans bd
          repeat ((conv => whnf); first | (refine VS.mk bcd ?_) | (refine VCmp.tt (by omega) ?_) | (refine VCmp.ff (by omega) ?_) | (refine VIn.mk (IntWalk.i64_in _ (by omega)) ?_) | (refine VIdx.mk _ rfl (by omega) ?_) | (refine VIdx.mk 0 rfl (by omega) ?_))
          try (conv => whnf)
          have C28 := many_w A cA Wd.heap.size gs Wd (Nat.le_refl _) (gls Wd (up6 _ bcd)) hGs
          rw [hGl] at C28
          refine VCall.mk _ C28 ?_
          clear C28
          rintro _ We ⟨⟨D2, d2, rs2, rfl, hs2, FD2⟩, be⟩
          refine ⟨_, rfl, ?_⟩
          have bce : Below Wc.heap.size Wc We := bcd.trans (be.mono bcd.size)
          have FD2' := FD2.fls
          rw [hs2] at FD2'
          have oX2 := oX.below be
          have oY2 := oY.below be
          have C25 := rlacks_any c.done r0.f X1 Y1 D2 cX1 cY1 d2 We.heap.size gs We (Nat.le_refl _) ⟨oX2.row len_eSlot, oY2.row len_eInt, oX2.len, oX2.cap, oY2.len, oY2.cap⟩ FD2' (by omega)
          rw [hGl] at C25
          repeat ((conv => whnf); first | (refine VS.mk bce ?_) | (refine VCmp.tt (by omega) ?_) | (refine VCmp.ff (by omega) ?_) | (refine VIn.mk (IntWalk.i64_in _ (by omega)) ?_) | (refine VIdx.mk _ rfl (by omega) ?_) | (refine VIdx.mk 0 rfl (by omega) ?_))
          try (conv => whnf)
          refine VCall.mk _ C25 ?_
          clear C25 FD2 FD2' oX oY oX2 oY2
          rintro _ Wf ⟨⟨B1', c1', l1', n2', rfl, Q2, own1'⟩, bf⟩
          refine ⟨_, rfl, ?_⟩
          obtain ⟨rfl, rfl⟩ := lacks_one P2 Q2
          have bcf : Below Wc.heap.size Wc Wf := bce.trans (bf.mono bce.size)
          have b6f := up6 _ bcf
          repeat ((conv => whnf); first | (refine VS.mk bcf ?_) | (refine VCmp.tt (by omega) ?_) | (refine VCmp.ff (by omega) ?_) | (refine VIn.mk (IntWalk.i64_in _ (by omega)) ?_) | (refine VIdx.mk _ rfl (by omega) ?_) | (refine VIdx.mk 0 rfl (by omega) ?_))
          try (conv => whnf)
          -- the document's Duty
          have bdf : Below Wf.heap.size Wf Wf.drew := (Below.refl _ _).drew
          have up7 : ∀ W, Below Wf.heap.size Wf W → Below W6.heap.size W6 W := fun W hW => b6f.trans (hW.mono b6f.size)
          have K8 : Ld Try.prog 3 W0.heap.size 10 (fun W => Below Wf.heap.size Wf W) (.int .i64 c.self) := ⟨fun W hW => load3 ((aC W (up7 W hW)).1 10 _ rfl)⟩
          have K9 : Ld Try.prog 3 W0.heap.size 11 (fun W => Below Wf.heap.size Wf W) (.int .i64 c.q) := ⟨fun W hW => load3 ((aC W (up7 W hW)).1 11 _ rfl)⟩
          refine VDraw.mk 1000 [([0, 1, 2, 3, 5, 7], 4), ([], 6), ([], 8), ([], 9)] [10, 11, 12, 13, 14] (fun W => Below Wf.heap.size Wf W) (by kernel_rfl) (by kernel_rfl) (bdf) ?_
          repeat ((conv => whnf); first | (refine VLoad.mk _ K8 ?_) | (refine VLoad.mk _ K9 ?_) | (refine VCmp.tt (by omega) ?_) | (refine VCmp.ff (by omega) ?_) | (refine VIn.mk (IntWalk.i64_in _ (by omega)) ?_) | (refine VIdx.mk _ rfl (by omega) ?_) | (refine VIdx.mk 0 rfl (by omega) ?_))
          try (conv => whnf)
          refine VBs.mk _ _ (bs37z Wf.drew) ?_
          have bfg : Below Wf.heap.size Wf (Wf.drew.alloc (.cells #[] 3)) := bdf.alloc (Nat.le_refl _) _
          have zg : (Wf.drew.alloc (.cells #[] 3)).heap.size = Wf.heap.size + 1 := by simp
          generalize Wf.drew.alloc (.cells #[] 3) = Wg at bfg zg ⊢
          repeat ((conv => whnf); first | (refine VS.mk bfg ?_) | (refine VCmp.tt (by omega) ?_) | (refine VCmp.ff (by omega) ?_) | (refine VIn.mk (IntWalk.i64_in _ (by omega)) ?_) | (refine VIdx.mk _ rfl (by omega) ?_) | (refine VIdx.mk 0 rfl (by omega) ?_))
          try (conv => whnf)
          refine VApp.rowsW Wg.heap.size 1 8 _ Try.underlying37 info3 rfl (by decide) eInt len_eInt one_eInt ([] : List Int) c.who rfl ⟨Nat.zero_le _, fun h => absurd h (by omega)⟩ (aC Wg (up7 _ bfg)).2.1 (by omega) (by omega) (Nat.le_refl _) fun E cE Wh oE hgE hkE => ?_
          have bgh : Below Wg.heap.size Wg Wh := (Below.refl _ _).grown hgE (Nat.le_refl _) (fun k hk => by cases hk)
          have bfh : Below Wf.heap.size Wf Wh := bfg.trans (bgh.mono (by omega))
          repeat ((conv => whnf); first | (refine VS.mk bfh ?_) | (refine VCmp.tt (by omega) ?_) | (refine VCmp.ff (by omega) ?_) | (refine VIn.mk (IntWalk.i64_in _ (by omega)) ?_) | (refine VIdx.mk _ rfl (by omega) ?_) | (refine VIdx.mk 0 rfl (by omega) ?_))
          try (conv => whnf)
          have C28 := many_w A cA Wh.heap.size gs Wh (Nat.le_refl _) (gls Wh (up7 _ bfh)) hGs
          rw [hGl] at C28
          refine VCall.mk _ C28 ?_
          clear C28
          rintro _ Wi ⟨⟨D3, d3, rs4, rfl, hs4, FD3⟩, bi⟩
          refine ⟨_, rfl, ?_⟩
          have bfi : Below Wf.heap.size Wf Wi := bfh.trans (bi.mono bfh.size)
          have FD3' := FD3.fls
          rw [hs4] at FD3'
          have C36 := rduty_any c.self c.q E D3 cE d3 Wi.heap.size c.who gs Wi (Nat.le_refl _) ((oE.below bi).row len_eInt) FD3' (by omega) (by omega)
          rw [hGl] at C36
          repeat ((conv => whnf); first | (refine VS.mk bfi ?_) | (refine VCmp.tt (by omega) ?_) | (refine VCmp.ff (by omega) ?_) | (refine VIn.mk (IntWalk.i64_in _ (by omega)) ?_) | (refine VIdx.mk _ rfl (by omega) ?_) | (refine VIdx.mk 0 rfl (by omega) ?_))
          try (conv => whnf)
          refine VCall.mk _ C36 ?_
          clear C36 FD3 FD3' oE
          rintro _ Wj ⟨⟨B2', c2', l2', n3', rfl, Q3, own2'⟩, bj⟩
          refine ⟨_, rfl, ?_⟩
          obtain ⟨rfl, rfl⟩ := duty_one P3 Q3
          have bfj : Below Wf.heap.size Wf Wj := bfi.trans (bj.mono bfi.size)
          have b6j := up7 _ bfj
          repeat ((conv => whnf); first | (refine VS.mk bfj ?_) | (refine VCmp.tt (by omega) ?_) | (refine VCmp.ff (by omega) ?_) | (refine VIn.mk (IntWalk.i64_in _ (by omega)) ?_) | (refine VIdx.mk _ rfl (by omega) ?_) | (refine VIdx.mk 0 rfl (by omega) ?_))
          try (conv => whnf)
          -- the document's Rest
          have bdj : Below Wj.heap.size Wj Wj.drew := (Below.refl _ _).drew
          have up8 : ∀ W, Below Wj.heap.size Wj W → Below W6.heap.size W6 W := fun W hW => b6j.trans (hW.mono b6j.size)
          have Ka : Ld Try.prog 3 W0.heap.size 8 (fun W => Below Wj.heap.size Wj W) (.int .i64 c.done) := ⟨fun W hW => load3 ((aC W (up8 W hW)).1 8 _ rfl)⟩
          refine VDraw.mk 1000 [([0, 1, 2, 4], 3), ([], 5), ([], 6)] [7, 8, 9, 10, 11] (fun W => Below Wj.heap.size Wj W) (by kernel_rfl) (by kernel_rfl) (bdj) ?_
          repeat ((conv => whnf); first | (refine VLoad.mk _ Ka ?_) | (refine VCmp.tt (by omega) ?_) | (refine VCmp.ff (by omega) ?_) | (refine VIn.mk (IntWalk.i64_in _ (by omega)) ?_) | (refine VIdx.mk _ rfl (by omega) ?_) | (refine VIdx.mk 0 rfl (by omega) ?_))
          try (conv => whnf)
          have C28 := many_w A cA Wj.drew.heap.size gs Wj.drew (Nat.le_refl _) (gls _ (up8 _ bdj)) hGs
          rw [hGl] at C28
          refine VCall.mk _ C28 ?_
          clear C28
          rintro _ Wk ⟨⟨D4, d4, rs5, rfl, hs5, FD4⟩, bk⟩
          refine ⟨_, rfl, ?_⟩
          have bjk : Below Wj.heap.size Wj Wk := bdj.trans bk
          repeat ((conv => whnf); first | (refine VS.mk bjk ?_) | (refine VCmp.tt (by omega) ?_) | (refine VCmp.ff (by omega) ?_) | (refine VIn.mk (IntWalk.i64_in _ (by omega)) ?_) | (refine VIdx.mk _ rfl (by omega) ?_) | (refine VIdx.mk 0 rfl (by omega) ?_))
          try (conv => whnf)
          have C18 := datas_w M cM Wk.heap.size rl Wk (Nat.le_refl _) (aC Wk (up8 _ bjk)).2.2 hok.small
          rw [hrl] at C18
          refine VCall.mk _ C18 ?_
          clear C18
          rintro _ Wl ⟨⟨G, cG, al, rfl, hal, FG⟩, bl⟩
          refine ⟨_, rfl, ?_⟩
          have bjl : Below Wj.heap.size Wj Wl := bjk.trans (bl.mono bjk.size)
          have FD4' := (FD4.below bl).fls
          rw [hs5] at FD4'
          have FG' := FG.dts
          rw [hal] at FG'
          have C20 := rrest_any c.done D4 G d4 cG Wl.heap.size gs (rl.map Dr.d) Wl (Nat.le_refl _) FD4' FG' (by omega) hok.small
          rw [hGl, hml] at C20
          repeat ((conv => whnf); first | (refine VS.mk bjl ?_) | (refine VCmp.tt (by omega) ?_) | (refine VCmp.ff (by omega) ?_) | (refine VIn.mk (IntWalk.i64_in _ (by omega)) ?_) | (refine VIdx.mk _ rfl (by omega) ?_) | (refine VIdx.mk 0 rfl (by omega) ?_))
          try (conv => whnf)
          refine VCall.mk _ C20 ?_
          clear C20 FD4 FD4' FG FG'
          rintro _ Wm ⟨⟨B3', c3', rs3', n4', rfl, Q4, own3'⟩, bm⟩
          refine ⟨_, rfl, ?_⟩
          obtain ⟨hrs3, rfl⟩ := rest_one P4 Q4
          have bjm : Below Wj.heap.size Wj Wm := bjl.trans (bm.mono bjl.size)
          have hl3 : rs3'.length = rs3.length := by have := congrArg List.length hrs3; simpa using this.symm
          rw [hl3]
          have hfm : Below Wf.heap.size Wf Wm := bfj.trans (bjm.mono bfj.size)
          have hcm : Below Wc.heap.size Wc Wm := bcf.trans (hfm.mono bcf.size)
          have hbm : Below Wb.heap.size Wb Wm := bc.trans (hcm.mono bc.size)
          have ham : Below Wa.heap.size Wa Wm := bb.trans (hbm.mono bb.size)
          have h9m : Below W9.heap.size W9 Wm := ba.trans (ham.mono ba.size)
          have h8m : Below W8.heap.size W8 Wm := b9.trans (h9m.mono b9.size)
          have sA := ((own1.row len_eSlot).below h8m (Nat.le_refl _)).more h8m.size
          have sA' := ((own1'.row len_eSlot).below hfm (Nat.le_refl _)).more hfm.size
          have sB := ((own2.row len_eSlot).below h9m (Nat.le_refl _)).more h9m.size
          have sB' := ((own2'.row len_eSlot).below bjm (Nat.le_refl _)).more bjm.size
          have sM := ((msOwn_dts own3).below ham (Nat.le_refl _)).more ham.size
          have sM' := msOwn_dts own3'
          rw [← hrs3] at sM'
          have q1 := own1.len
          have q2 := own2.len
          have q3 := own3.row.len
          -- the comparison
          repeat ((conv => whnf); first | (refine VS.mk bjm ?_) | (refine VCmp.tt (by omega) ?_) | (refine VCmp.ff (by omega) ?_) | (refine VIn.mk (IntWalk.i64_in _ (by omega)) ?_) | (refine VIdx.mk _ rfl (by omega) ?_) | (refine VIdx.mk 0 rfl (by omega) ?_))
          try (conv => whnf)
          refine VCall.mk _ (num_any n1 Wm) ?_
          rintro _ Wn ⟨rfl, hWn⟩
          refine ⟨_, rfl, ?_⟩
          rw [← hWn]
          repeat ((conv => whnf); first | (refine VCmp.tt (by omega) ?_) | (refine VCmp.ff (by omega) ?_) | (refine VIn.mk (IntWalk.i64_in _ (by omega)) ?_) | (refine VIdx.mk _ rfl (by omega) ?_) | (refine VIdx.mk 0 rfl (by omega) ?_))
          try (conv => whnf)
          refine VCall.mk _ (sameSlots_yes B1 B1' c1 c1' Wm.heap.size l1 Wm (Nat.le_refl _) sA sA' (by omega)) ?_
          rintro _ Wo ⟨rfl, bo⟩
          refine ⟨_, rfl, ?_⟩
          repeat ((conv => whnf); first | (refine VCmp.tt (by omega) ?_) | (refine VCmp.ff (by omega) ?_) | (refine VIn.mk (IntWalk.i64_in _ (by omega)) ?_) | (refine VIdx.mk _ rfl (by omega) ?_) | (refine VIdx.mk 0 rfl (by omega) ?_))
          try (conv => whnf)
          refine VCall.mk _ (num_any n2 Wo) ?_
          rintro _ Wp ⟨rfl, hWp⟩
          refine ⟨_, rfl, ?_⟩
          rw [← hWp]
          repeat ((conv => whnf); first | (refine VCmp.tt (by omega) ?_) | (refine VCmp.ff (by omega) ?_) | (refine VIn.mk (IntWalk.i64_in _ (by omega)) ?_) | (refine VIdx.mk _ rfl (by omega) ?_) | (refine VIdx.mk 0 rfl (by omega) ?_))
          try (conv => whnf)
          refine VCall.mk _ (sameSlots_yes B2 B2' c2 c2' Wm.heap.size l2 Wo bo.size (sB.below bo (Nat.le_refl _)) (sB'.below bo (Nat.le_refl _)) (by omega)) ?_
          rintro _ Wq ⟨rfl, bq⟩
          refine ⟨_, rfl, ?_⟩
          have bmq : Below Wm.heap.size Wm Wq := bo.trans (bq.mono bo.size)
          repeat ((conv => whnf); first | (refine VCmp.tt (by omega) ?_) | (refine VCmp.ff (by omega) ?_) | (refine VIn.mk (IntWalk.i64_in _ (by omega)) ?_) | (refine VIdx.mk _ rfl (by omega) ?_) | (refine VIdx.mk 0 rfl (by omega) ?_))
          try (conv => whnf)
          refine VCall.mk _ (num_any n3 Wq) ?_
          rintro _ Wr ⟨rfl, hWr⟩
          refine ⟨_, rfl, ?_⟩
          rw [← hWr]
          have C21 := sameMsgs_yes B3 B3' c3 c3' Wm.heap.size (rs3.map Dr.d) Wq bmq.size (sM.below bmq (Nat.le_refl _)) (sM'.below bmq (Nat.le_refl _)) (by rw [List.length_map]; omega)
          rw [List.length_map] at C21
          repeat ((conv => whnf); first | (refine VCmp.tt (by omega) ?_) | (refine VCmp.ff (by omega) ?_) | (refine VIn.mk (IntWalk.i64_in _ (by omega)) ?_) | (refine VIdx.mk _ rfl (by omega) ?_) | (refine VIdx.mk 0 rfl (by omega) ?_))
          try (conv => whnf)
          refine VCall.mk _ C21 ?_
          clear C21
          rintro _ Ws ⟨rfl, bs⟩
          refine ⟨_, rfl, ?_⟩
          have bms : Below Wm.heap.size Wm Ws := bmq.trans (bs.mono bmq.size)
          repeat ((conv => whnf); first | (refine VCmp.tt (by omega) ?_) | (refine VCmp.ff (by omega) ?_) | (refine VIn.mk (IntWalk.i64_in _ (by omega)) ?_) | (refine VIdx.mk _ rfl (by omega) ?_) | (refine VIdx.mk 0 rfl (by omega) ?_))
          try (conv => whnf)
          refine VCall.mk _ (num_any n4 Ws) ?_
          rintro _ Wt ⟨rfl, hWt⟩
          refine ⟨_, rfl, ?_⟩
          rw [← hWt]
          have b6s : Below W6.heap.size W6 Ws := (up8 _ bjm).trans (bms.mono (up8 _ bjm).size)
          have Rs := R6.below b6s
          have bVs : Below wB.heap.size wB Ws := bV6.trans (b6s.mono R6.z)
          repeat ((conv => whnf); first | (refine VCmp.tt (by omega) ?_) | (refine VCmp.ff (by omega) ?_) | (refine VIn.mk (IntWalk.i64_in _ (by omega)) ?_) | (refine VIdx.mk _ rfl (by omega) ?_) | (refine VIdx.mk 0 rfl (by omega) ?_))
          try (conv => whnf)
          refine .mk (k + 1, ⟨A, cA, ra', some ⟨gO, 0, none⟩, cO, [r0], C', cC', c.who, M, cM, rl⟩) ⟨rfl, rfl, rfl, rfl, rfl, by show some (Value.slice M rm.length cM) = some (Value.slice M rl.length cM); rw [hrl], rfl, trivial⟩ ⟨hk3, Rs.other (by have := bVs.size; omega) (hx _ bVs).1 (by omega), bVs, hla, rfl, hok⟩ (by show 3 - (k + 1) < 3 - k; omega)
        case pos =>
          by_cases h2 : i < c.ms.length
          case neg =>
            repeat ((conv => whnf); first | (refine VLoad.mk _ M3 ?_) | (refine VCmp.tt (by omega) ?_) | (refine VCmp.ff (by omega) ?_) | (refine VIn.mk (IntWalk.i64_in _ (by omega)) ?_) | (refine VIdx.mk _ rfl (by omega) ?_) | (refine VIdx.mk 0 rfl (by omega) ?_))
            try (conv => whnf)
            have hGs : Small (ra'.map Rw.f) := by rw [hfa]; exact small_take hc.sm _
            have hGl : (ra'.map Rw.f).length = d.fs.length := by rw [List.length_map]; exact hla
            generalize hgs : ra'.map Rw.f = gs at hGs hGl
            obtain ⟨r0, hr0⟩ : ∃ r0, ro' = [r0] := by
              match ro', hlo with
              | [r0], _ => exact ⟨r0, rfl⟩
            subst hr0
            have hr0 : r0.f = c.own := by
              have e : [r0.f] = [c.own] := hfo
              injection e
            have hd.fs.length : d.fs.length ≤ 1048576 := by omega
            obtain ⟨gO, hOe, hcO⟩ := R6.o.own.cell len_eRw (k := 0) (x := r0) rfl
            subst hOe
            have gls : ∀ W, Below W6.heap.size W6 W → Fls W W.heap.size A gs := fun W hW => by
              have := ((R6.below hW).a).fls
              rw [← hgs]; exact this
            have aO : ∀ W, Below W6.heap.size W6 W → W.rangeAt gO 0 (eRw r0) ∧ FlRows W W.heap.size r0.f r0.X r0.cX r0.Y r0.cY := fun W hW => by
              have R := R6.below hW
              obtain ⟨g1, e1, h1⟩ := R.o.own.cell len_eRw (k := 0) (x := r0) rfl
              injection e1 with e1; injection e1 with e1; subst e1
              obtain ⟨q1, q2⟩ := R.o.each r0 (List.mem_singleton.2 rfl)
              exact ⟨by rw [Nat.zero_mul] at h1; exact h1, ⟨q1.row len_eSlot, q2.row len_eInt, q1.len, q1.cap, q2.len, q2.cap⟩⟩
            have aC : ∀ W, Below W6.heap.size W6 W → W.rangeAt W0.heap.size 0 (cxA c).toList ∧ RowAt W W.heap.size 1 eInt C' c.who ∧ Drs W W.heap.size M rl := fun W hW =>
              have R := R6.below hW
              ⟨R.r, R.c.row len_eInt, R.m.drs⟩
            have hml : (rl.map Dr.d).length = rm.length := by rw [List.length_map]; exact hrl
            -- Cut
            have C14 := icut_any A cA W6.heap.size gs W6 (Nat.le_refl _) (gls W6 (Below.refl _ _)) (by omega)
            rw [hGl] at C14
            refine VCall.mk _ C14 ?_
            clear C14
            rintro _ W7 ⟨⟨kk, n1, rfl, P1⟩, b7⟩
            refine ⟨_, rfl, ?_⟩
            -- Lacks
            have bd7 : Below W7.heap.size W7 W7.drew := (Below.refl _ _).drew
            have K1 : Ld Try.prog 3 W0.heap.size 8 (fun W => Below W7.heap.size W7 W) (.int .i64 c.done) := ⟨fun W hW => load3 ((aC W (b7.trans (hW.mono b7.size))).1 8 _ rfl)⟩
            have K2 : Ld Try.prog 39 gO 0 (fun W => Below W7.heap.size W7 W) (.agg (flc r0.f.e r0.f.l r0.f.i r0.f.c r0.f.base r0.X r0.f.slots.length r0.cX r0.Y r0.f.have_.length r0.cY)) := ⟨fun W hW => load39 ((aO W (b7.trans (hW.mono b7.size))).1)⟩
            repeat ((conv => whnf); first | (refine VCmp.tt (by omega) ?_) | (refine VCmp.ff (by omega) ?_) | (refine VIn.mk (IntWalk.i64_in _ (by omega)) ?_) | (refine VIdx.mk _ rfl (by omega) ?_) | (refine VIdx.mk 0 rfl (by omega) ?_))
            try (conv => whnf)
            refine VDraw.mk 1000 [([0, 1, 2, 3, 4, 5], 6)] [7, 8, 9, 10, 11] (fun W => Below W7.heap.size W7 W) (by kernel_rfl) (by kernel_rfl) (bd7) ?_
            repeat ((conv => whnf); first | (refine VLoad.mk _ K1 ?_) | (refine VLoad.mk _ K2 ?_) | (refine VCmp.tt (by omega) ?_) | (refine VCmp.ff (by omega) ?_) | (refine VIn.mk (IntWalk.i64_in _ (by omega)) ?_) | (refine VIdx.mk _ rfl (by omega) ?_) | (refine VIdx.mk 0 rfl (by omega) ?_))
            try (conv => whnf)
            have b7d : Below W6.heap.size W6 W7.drew := b7.drew
            have C24 := lacks_any c.done r0.f r0.X r0.Y A r0.cX r0.cY cA W7.drew.heap.size gs W7.drew (Nat.le_refl _) (aO _ b7d).2 (gls _ b7d) (by omega)
            rw [hGl] at C24
            refine VCall.mk _ C24 ?_
            clear C24
            rintro _ W8 ⟨⟨B1, c1, l1, n2, rfl, P2, own1⟩, b8⟩
            refine ⟨_, rfl, ?_⟩
            have b78 : Below W7.heap.size W7 W8 := bd7.trans b8
            have b68 : Below W6.heap.size W6 W8 := b7.trans (b78.mono b7.size)
            repeat ((conv => whnf); first | (refine VS.mk b78 ?_) | (refine VCmp.tt (by omega) ?_) | (refine VCmp.ff (by omega) ?_) | (refine VIn.mk (IntWalk.i64_in _ (by omega)) ?_) | (refine VIdx.mk _ rfl (by omega) ?_) | (refine VIdx.mk 0 rfl (by omega) ?_))
            try (conv => whnf)
            -- Duty
            have K3 : Ld Try.prog 3 W0.heap.size 10 (Eq W8) (.int .i64 c.self) := .of (load3 ((aC W8 b68).1 10 _ rfl))
            have K4 : Ld Try.prog 3 W0.heap.size 11 (Eq W8) (.int .i64 c.q) := .of (load3 ((aC W8 b68).1 11 _ rfl))
            repeat ((conv => whnf); first | (refine VLoad.mk _ K3 ?_) | (refine VLoad.mk _ K4 ?_) | (refine VCmp.tt (by omega) ?_) | (refine VCmp.ff (by omega) ?_) | (refine VIn.mk (IntWalk.i64_in _ (by omega)) ?_) | (refine VIdx.mk _ rfl (by omega) ?_) | (refine VIdx.mk 0 rfl (by omega) ?_))
            try (conv => whnf)
            have C35 := duty_any c.self c.q C' A cC' cA W8.heap.size c.who gs W8 (Nat.le_refl _) (aC W8 b68).2.1 (gls W8 b68) (by omega) (by omega)
            rw [hGl] at C35
            refine VCall.mk _ C35 ?_
            clear C35
            rintro _ W9 ⟨⟨B2, c2, l2, n3, rfl, P3, own2⟩, b9⟩
            refine ⟨_, rfl, ?_⟩
            have b69 : Below W6.heap.size W6 W9 := b68.trans (b9.mono b68.size)
            -- Rest
            have K5 : Ld Try.prog 3 W0.heap.size 8 (Eq W9) (.int .i64 c.done) := .of (load3 ((aC W9 b69).1 8 _ rfl))
            repeat ((conv => whnf); first | (refine VLoad.mk _ K5 ?_) | (refine VCmp.tt (by omega) ?_) | (refine VCmp.ff (by omega) ?_) | (refine VIn.mk (IntWalk.i64_in _ (by omega)) ?_) | (refine VIdx.mk _ rfl (by omega) ?_) | (refine VIdx.mk 0 rfl (by omega) ?_))
            try (conv => whnf)
            have C19 := rest_any c.done A M cA cM W9.heap.size gs (rl.map Dr.d) W9 (Nat.le_refl _) (gls W9 b69) ⟨rl, rfl, (aC W9 b69).2.2⟩ (by omega) hok.small hok.key
            rw [hGl, hml] at C19
            refine VCall.mk _ C19 ?_
            clear C19
            rintro _ Wa ⟨⟨B3, c3, rs3, n4, rfl, P4, own3⟩, ba⟩
            refine ⟨_, rfl, ?_⟩
            have b6a : Below W6.heap.size W6 Wa := b69.trans (ba.mono b69.size)
            -- the document's Cut
            repeat ((conv => whnf); first | (refine VCmp.tt (by omega) ?_) | (refine VCmp.ff (by omega) ?_) | (refine VIn.mk (IntWalk.i64_in _ (by omega)) ?_) | (refine VIdx.mk _ rfl (by omega) ?_) | (refine VIdx.mk 0 rfl (by omega) ?_))
            try (conv => whnf)
            have C28 := many_w A cA Wa.heap.size gs Wa (Nat.le_refl _) (gls Wa b6a) hGs
            rw [hGl] at C28
            refine VCall.mk _ C28 ?_
            clear C28
            rintro _ Wb ⟨⟨D1, d1, rs1, rfl, hs1, FD1⟩, bb⟩
            refine ⟨_, rfl, ?_⟩
            have b6b : Below W6.heap.size W6 Wb := b6a.trans (bb.mono b6a.size)
            have FD1' := FD1.fls
            rw [hs1] at FD1'
            have C15 := rcut_any D1 d1 Wb.heap.size gs Wb (Nat.le_refl _) FD1' (by omega)
            rw [hGl] at C15
            repeat ((conv => whnf); first | (refine VCmp.tt (by omega) ?_) | (refine VCmp.ff (by omega) ?_) | (refine VIn.mk (IntWalk.i64_in _ (by omega)) ?_) | (refine VIdx.mk _ rfl (by omega) ?_) | (refine VIdx.mk 0 rfl (by omega) ?_))
            try (conv => whnf)
            refine VCall.mk _ C15 ?_
            clear C15 FD1 FD1'
            rintro _ Wc ⟨⟨kk', n1', rfl, Q1⟩, bc⟩
            refine ⟨_, rfl, ?_⟩
            obtain ⟨rfl, rfl⟩ := cutIs_one P1 Q1
            have b6c : Below W6.heap.size W6 Wc := b6b.trans (bc.mono b6b.size)
            -- the document's Lacks
            have bdc : Below Wc.heap.size Wc Wc.drew := (Below.refl _ _).drew
            have up6 : ∀ W, Below Wc.heap.size Wc W → Below W6.heap.size W6 W := fun W hW => b6c.trans (hW.mono b6c.size)
            have K6 : Ld Try.prog 3 W0.heap.size 8 (fun W => Below Wc.heap.size Wc W) (.int .i64 c.done) := ⟨fun W hW => load3 ((aC W (up6 W hW)).1 8 _ rfl)⟩
            have K7 : Ld Try.prog 39 gO 0 (fun W => Below Wc.heap.size Wc W) (.agg (flc r0.f.e r0.f.l r0.f.i r0.f.c r0.f.base r0.X r0.f.slots.length r0.cX r0.Y r0.f.have_.length r0.cY)) := ⟨fun W hW => load39 ((aO W (up6 W hW)).1)⟩
            have ho1 : r0.f.slots.length ≤ 1048576 := by rw [hr0]; exact hc.o1
            have ho2 : r0.f.have_.length ≤ 1048576 := by rw [hr0]; exact hc.o2
            repeat ((conv => whnf); first | (refine VCmp.tt (by omega) ?_) | (refine VCmp.ff (by omega) ?_) | (refine VIn.mk (IntWalk.i64_in _ (by omega)) ?_) | (refine VIdx.mk _ rfl (by omega) ?_) | (refine VIdx.mk 0 rfl (by omega) ?_))
            try (conv => whnf)
            refine VDraw.mk 1000 [([0, 1, 2, 3, 4, 6], 5), ([], 7), ([], 8)] [9, 10, 11, 12, 13] (fun W => Below Wc.heap.size Wc W) (by kernel_rfl) (by kernel_rfl) (bdc) ?_
            repeat ((conv => whnf); first | (refine VLoad.mk _ K6 ?_) | (refine VLoad.mk _ K7 ?_) | (refine VCmp.tt (by omega) ?_) | (refine VCmp.ff (by omega) ?_) | (refine VIn.mk (IntWalk.i64_in _ (by omega)) ?_) | (refine VIdx.mk _ rfl (by omega) ?_) | (refine VIdx.mk 0 rfl (by omega) ?_))
            try (conv => whnf)
            refine VCall.mk _ (one_own r0.f r0.X r0.Y r0.cX r0.cY Wc.drew.heap.size Wc.drew (Nat.le_refl _) (aO _ (up6 _ bdc)).2 (by omega) (by omega)) ?_
            rintro _ Wd ⟨⟨X1, cX1, Y1, cY1, rfl, oX, oY⟩, bd⟩
            refine ⟨_, rfl, ?_⟩
            have bcd : Below Wc.heap.size Wc Wd := bdc.trans bd
            repeat ((conv => whnf); first | (refine VS.mk bcd ?_) | (refine VCmp.tt (by omega) ?_) | (refine VCmp.ff (by omega) ?_) | (refine VIn.mk (IntWalk.i64_in _ (by omega)) ?_) | (refine VIdx.mk _ rfl (by omega) ?_) | (refine VIdx.mk 0 rfl (by omega) ?_))
            try (conv => whnf)
            have C28 := many_w A cA Wd.heap.size gs Wd (Nat.le_refl _) (gls Wd (up6 _ bcd)) hGs
            rw [hGl] at C28
            refine VCall.mk _ C28 ?_
            clear C28
            rintro _ We ⟨⟨D2, d2, rs2, rfl, hs2, FD2⟩, be⟩
            refine ⟨_, rfl, ?_⟩
            have bce : Below Wc.heap.size Wc We := bcd.trans (be.mono bcd.size)
            have FD2' := FD2.fls
            rw [hs2] at FD2'
            have oX2 := oX.below be
            have oY2 := oY.below be
            have C25 := rlacks_any c.done r0.f X1 Y1 D2 cX1 cY1 d2 We.heap.size gs We (Nat.le_refl _) ⟨oX2.row len_eSlot, oY2.row len_eInt, oX2.len, oX2.cap, oY2.len, oY2.cap⟩ FD2' (by omega)
            rw [hGl] at C25
            repeat ((conv => whnf); first | (refine VS.mk bce ?_) | (refine VCmp.tt (by omega) ?_) | (refine VCmp.ff (by omega) ?_) | (refine VIn.mk (IntWalk.i64_in _ (by omega)) ?_) | (refine VIdx.mk _ rfl (by omega) ?_) | (refine VIdx.mk 0 rfl (by omega) ?_))
            try (conv => whnf)
            refine VCall.mk _ C25 ?_
            clear C25 FD2 FD2' oX oY oX2 oY2
            rintro _ Wf ⟨⟨B1', c1', l1', n2', rfl, Q2, own1'⟩, bf⟩
            refine ⟨_, rfl, ?_⟩
            obtain ⟨rfl, rfl⟩ := lacks_one P2 Q2
            have bcf : Below Wc.heap.size Wc Wf := bce.trans (bf.mono bce.size)
            have b6f := up6 _ bcf
            repeat ((conv => whnf); first | (refine VS.mk bcf ?_) | (refine VCmp.tt (by omega) ?_) | (refine VCmp.ff (by omega) ?_) | (refine VIn.mk (IntWalk.i64_in _ (by omega)) ?_) | (refine VIdx.mk _ rfl (by omega) ?_) | (refine VIdx.mk 0 rfl (by omega) ?_))
            try (conv => whnf)
            -- the document's Duty
            have bdf : Below Wf.heap.size Wf Wf.drew := (Below.refl _ _).drew
            have up7 : ∀ W, Below Wf.heap.size Wf W → Below W6.heap.size W6 W := fun W hW => b6f.trans (hW.mono b6f.size)
            have K8 : Ld Try.prog 3 W0.heap.size 10 (fun W => Below Wf.heap.size Wf W) (.int .i64 c.self) := ⟨fun W hW => load3 ((aC W (up7 W hW)).1 10 _ rfl)⟩
            have K9 : Ld Try.prog 3 W0.heap.size 11 (fun W => Below Wf.heap.size Wf W) (.int .i64 c.q) := ⟨fun W hW => load3 ((aC W (up7 W hW)).1 11 _ rfl)⟩
            refine VDraw.mk 1000 [([0, 1, 2, 3, 5, 7], 4), ([], 6), ([], 8), ([], 9)] [10, 11, 12, 13, 14] (fun W => Below Wf.heap.size Wf W) (by kernel_rfl) (by kernel_rfl) (bdf) ?_
            repeat ((conv => whnf); first | (refine VLoad.mk _ K8 ?_) | (refine VLoad.mk _ K9 ?_) | (refine VCmp.tt (by omega) ?_) | (refine VCmp.ff (by omega) ?_) | (refine VIn.mk (IntWalk.i64_in _ (by omega)) ?_) | (refine VIdx.mk _ rfl (by omega) ?_) | (refine VIdx.mk 0 rfl (by omega) ?_))
            try (conv => whnf)
            refine VBs.mk _ _ (bs37z Wf.drew) ?_
            have bfg : Below Wf.heap.size Wf (Wf.drew.alloc (.cells #[] 3)) := bdf.alloc (Nat.le_refl _) _
            have zg : (Wf.drew.alloc (.cells #[] 3)).heap.size = Wf.heap.size + 1 := by simp
            generalize Wf.drew.alloc (.cells #[] 3) = Wg at bfg zg ⊢
            repeat ((conv => whnf); first | (refine VS.mk bfg ?_) | (refine VCmp.tt (by omega) ?_) | (refine VCmp.ff (by omega) ?_) | (refine VIn.mk (IntWalk.i64_in _ (by omega)) ?_) | (refine VIdx.mk _ rfl (by omega) ?_) | (refine VIdx.mk 0 rfl (by omega) ?_))
            try (conv => whnf)
            refine VApp.rowsW Wg.heap.size 1 8 _ Try.underlying37 info3 rfl (by decide) eInt len_eInt one_eInt ([] : List Int) c.who rfl ⟨Nat.zero_le _, fun h => absurd h (by omega)⟩ (aC Wg (up7 _ bfg)).2.1 (by omega) (by omega) (Nat.le_refl _) fun E cE Wh oE hgE hkE => ?_
            have bgh : Below Wg.heap.size Wg Wh := (Below.refl _ _).grown hgE (Nat.le_refl _) (fun k hk => by cases hk)
            have bfh : Below Wf.heap.size Wf Wh := bfg.trans (bgh.mono (by omega))
            repeat ((conv => whnf); first | (refine VS.mk bfh ?_) | (refine VCmp.tt (by omega) ?_) | (refine VCmp.ff (by omega) ?_) | (refine VIn.mk (IntWalk.i64_in _ (by omega)) ?_) | (refine VIdx.mk _ rfl (by omega) ?_) | (refine VIdx.mk 0 rfl (by omega) ?_))
            try (conv => whnf)
            have C28 := many_w A cA Wh.heap.size gs Wh (Nat.le_refl _) (gls Wh (up7 _ bfh)) hGs
            rw [hGl] at C28
            refine VCall.mk _ C28 ?_
            clear C28
            rintro _ Wi ⟨⟨D3, d3, rs4, rfl, hs4, FD3⟩, bi⟩
            refine ⟨_, rfl, ?_⟩
            have bfi : Below Wf.heap.size Wf Wi := bfh.trans (bi.mono bfh.size)
            have FD3' := FD3.fls
            rw [hs4] at FD3'
            have C36 := rduty_any c.self c.q E D3 cE d3 Wi.heap.size c.who gs Wi (Nat.le_refl _) ((oE.below bi).row len_eInt) FD3' (by omega) (by omega)
            rw [hGl] at C36
            repeat ((conv => whnf); first | (refine VS.mk bfi ?_) | (refine VCmp.tt (by omega) ?_) | (refine VCmp.ff (by omega) ?_) | (refine VIn.mk (IntWalk.i64_in _ (by omega)) ?_) | (refine VIdx.mk _ rfl (by omega) ?_) | (refine VIdx.mk 0 rfl (by omega) ?_))
            try (conv => whnf)
            refine VCall.mk _ C36 ?_
            clear C36 FD3 FD3' oE
            rintro _ Wj ⟨⟨B2', c2', l2', n3', rfl, Q3, own2'⟩, bj⟩
            refine ⟨_, rfl, ?_⟩
            obtain ⟨rfl, rfl⟩ := duty_one P3 Q3
            have bfj : Below Wf.heap.size Wf Wj := bfi.trans (bj.mono bfi.size)
            have b6j := up7 _ bfj
            repeat ((conv => whnf); first | (refine VS.mk bfj ?_) | (refine VCmp.tt (by omega) ?_) | (refine VCmp.ff (by omega) ?_) | (refine VIn.mk (IntWalk.i64_in _ (by omega)) ?_) | (refine VIdx.mk _ rfl (by omega) ?_) | (refine VIdx.mk 0 rfl (by omega) ?_))
            try (conv => whnf)
            -- the document's Rest
            have bdj : Below Wj.heap.size Wj Wj.drew := (Below.refl _ _).drew
            have up8 : ∀ W, Below Wj.heap.size Wj W → Below W6.heap.size W6 W := fun W hW => b6j.trans (hW.mono b6j.size)
            have Ka : Ld Try.prog 3 W0.heap.size 8 (fun W => Below Wj.heap.size Wj W) (.int .i64 c.done) := ⟨fun W hW => load3 ((aC W (up8 W hW)).1 8 _ rfl)⟩
            refine VDraw.mk 1000 [([0, 1, 2, 4], 3), ([], 5), ([], 6)] [7, 8, 9, 10, 11] (fun W => Below Wj.heap.size Wj W) (by kernel_rfl) (by kernel_rfl) (bdj) ?_
            repeat ((conv => whnf); first | (refine VLoad.mk _ Ka ?_) | (refine VCmp.tt (by omega) ?_) | (refine VCmp.ff (by omega) ?_) | (refine VIn.mk (IntWalk.i64_in _ (by omega)) ?_) | (refine VIdx.mk _ rfl (by omega) ?_) | (refine VIdx.mk 0 rfl (by omega) ?_))
            try (conv => whnf)
            have C28 := many_w A cA Wj.drew.heap.size gs Wj.drew (Nat.le_refl _) (gls _ (up8 _ bdj)) hGs
            rw [hGl] at C28
            refine VCall.mk _ C28 ?_
            clear C28
            rintro _ Wk ⟨⟨D4, d4, rs5, rfl, hs5, FD4⟩, bk⟩
            refine ⟨_, rfl, ?_⟩
            have bjk : Below Wj.heap.size Wj Wk := bdj.trans bk
            repeat ((conv => whnf); first | (refine VS.mk bjk ?_) | (refine VCmp.tt (by omega) ?_) | (refine VCmp.ff (by omega) ?_) | (refine VIn.mk (IntWalk.i64_in _ (by omega)) ?_) | (refine VIdx.mk _ rfl (by omega) ?_) | (refine VIdx.mk 0 rfl (by omega) ?_))
            try (conv => whnf)
            have C18 := datas_w M cM Wk.heap.size rl Wk (Nat.le_refl _) (aC Wk (up8 _ bjk)).2.2 hok.small
            rw [hrl] at C18
            refine VCall.mk _ C18 ?_
            clear C18
            rintro _ Wl ⟨⟨G, cG, al, rfl, hal, FG⟩, bl⟩
            refine ⟨_, rfl, ?_⟩
            have bjl : Below Wj.heap.size Wj Wl := bjk.trans (bl.mono bjk.size)
            have FD4' := (FD4.below bl).fls
            rw [hs5] at FD4'
            have FG' := FG.dts
            rw [hal] at FG'
            have C20 := rrest_any c.done D4 G d4 cG Wl.heap.size gs (rl.map Dr.d) Wl (Nat.le_refl _) FD4' FG' (by omega) hok.small
            rw [hGl, hml] at C20
            repeat ((conv => whnf); first | (refine VS.mk bjl ?_) | (refine VCmp.tt (by omega) ?_) | (refine VCmp.ff (by omega) ?_) | (refine VIn.mk (IntWalk.i64_in _ (by omega)) ?_) | (refine VIdx.mk _ rfl (by omega) ?_) | (refine VIdx.mk 0 rfl (by omega) ?_))
            try (conv => whnf)
            refine VCall.mk _ C20 ?_
            clear C20 FD4 FD4' FG FG'
            rintro _ Wm ⟨⟨B3', c3', rs3', n4', rfl, Q4, own3'⟩, bm⟩
            refine ⟨_, rfl, ?_⟩
            obtain ⟨hrs3, rfl⟩ := rest_one P4 Q4
            have bjm : Below Wj.heap.size Wj Wm := bjl.trans (bm.mono bjl.size)
            have hl3 : rs3'.length = rs3.length := by have := congrArg List.length hrs3; simpa using this.symm
            rw [hl3]
            have hfm : Below Wf.heap.size Wf Wm := bfj.trans (bjm.mono bfj.size)
            have hcm : Below Wc.heap.size Wc Wm := bcf.trans (hfm.mono bcf.size)
            have hbm : Below Wb.heap.size Wb Wm := bc.trans (hcm.mono bc.size)
            have ham : Below Wa.heap.size Wa Wm := bb.trans (hbm.mono bb.size)
            have h9m : Below W9.heap.size W9 Wm := ba.trans (ham.mono ba.size)
            have h8m : Below W8.heap.size W8 Wm := b9.trans (h9m.mono b9.size)
            have sA := ((own1.row len_eSlot).below h8m (Nat.le_refl _)).more h8m.size
            have sA' := ((own1'.row len_eSlot).below hfm (Nat.le_refl _)).more hfm.size
            have sB := ((own2.row len_eSlot).below h9m (Nat.le_refl _)).more h9m.size
            have sB' := ((own2'.row len_eSlot).below bjm (Nat.le_refl _)).more bjm.size
            have sM := ((msOwn_dts own3).below ham (Nat.le_refl _)).more ham.size
            have sM' := msOwn_dts own3'
            rw [← hrs3] at sM'
            have q1 := own1.len
            have q2 := own2.len
            have q3 := own3.row.len
            -- the comparison
            repeat ((conv => whnf); first | (refine VS.mk bjm ?_) | (refine VCmp.tt (by omega) ?_) | (refine VCmp.ff (by omega) ?_) | (refine VIn.mk (IntWalk.i64_in _ (by omega)) ?_) | (refine VIdx.mk _ rfl (by omega) ?_) | (refine VIdx.mk 0 rfl (by omega) ?_))
            try (conv => whnf)
            refine VCall.mk _ (num_any n1 Wm) ?_
            rintro _ Wn ⟨rfl, hWn⟩
            refine ⟨_, rfl, ?_⟩
            rw [← hWn]
            repeat ((conv => whnf); first | (refine VCmp.tt (by omega) ?_) | (refine VCmp.ff (by omega) ?_) | (refine VIn.mk (IntWalk.i64_in _ (by omega)) ?_) | (refine VIdx.mk _ rfl (by omega) ?_) | (refine VIdx.mk 0 rfl (by omega) ?_))
            try (conv => whnf)
            refine VCall.mk _ (sameSlots_yes B1 B1' c1 c1' Wm.heap.size l1 Wm (Nat.le_refl _) sA sA' (by omega)) ?_
            rintro _ Wo ⟨rfl, bo⟩
            refine ⟨_, rfl, ?_⟩
            repeat ((conv => whnf); first | (refine VCmp.tt (by omega) ?_) | (refine VCmp.ff (by omega) ?_) | (refine VIn.mk (IntWalk.i64_in _ (by omega)) ?_) | (refine VIdx.mk _ rfl (by omega) ?_) | (refine VIdx.mk 0 rfl (by omega) ?_))
            try (conv => whnf)
            refine VCall.mk _ (num_any n2 Wo) ?_
            rintro _ Wp ⟨rfl, hWp⟩
            refine ⟨_, rfl, ?_⟩
            rw [← hWp]
            repeat ((conv => whnf); first | (refine VCmp.tt (by omega) ?_) | (refine VCmp.ff (by omega) ?_) | (refine VIn.mk (IntWalk.i64_in _ (by omega)) ?_) | (refine VIdx.mk _ rfl (by omega) ?_) | (refine VIdx.mk 0 rfl (by omega) ?_))
            try (conv => whnf)
            refine VCall.mk _ (sameSlots_yes B2 B2' c2 c2' Wm.heap.size l2 Wo bo.size (sB.below bo (Nat.le_refl _)) (sB'.below bo (Nat.le_refl _)) (by omega)) ?_
            rintro _ Wq ⟨rfl, bq⟩
            refine ⟨_, rfl, ?_⟩
            have bmq : Below Wm.heap.size Wm Wq := bo.trans (bq.mono bo.size)
            repeat ((conv => whnf); first | (refine VCmp.tt (by omega) ?_) | (refine VCmp.ff (by omega) ?_) | (refine VIn.mk (IntWalk.i64_in _ (by omega)) ?_) | (refine VIdx.mk _ rfl (by omega) ?_) | (refine VIdx.mk 0 rfl (by omega) ?_))
            try (conv => whnf)
            refine VCall.mk _ (num_any n3 Wq) ?_
            rintro _ Wr ⟨rfl, hWr⟩
            refine ⟨_, rfl, ?_⟩
            rw [← hWr]
            have C21 := sameMsgs_yes B3 B3' c3 c3' Wm.heap.size (rs3.map Dr.d) Wq bmq.size (sM.below bmq (Nat.le_refl _)) (sM'.below bmq (Nat.le_refl _)) (by rw [List.length_map]; omega)
            rw [List.length_map] at C21
            repeat ((conv => whnf); first | (refine VCmp.tt (by omega) ?_) | (refine VCmp.ff (by omega) ?_) | (refine VIn.mk (IntWalk.i64_in _ (by omega)) ?_) | (refine VIdx.mk _ rfl (by omega) ?_) | (refine VIdx.mk 0 rfl (by omega) ?_))
            try (conv => whnf)
            refine VCall.mk _ C21 ?_
            clear C21
            rintro _ Ws ⟨rfl, bs⟩
            refine ⟨_, rfl, ?_⟩
            have bms : Below Wm.heap.size Wm Ws := bmq.trans (bs.mono bmq.size)
            repeat ((conv => whnf); first | (refine VCmp.tt (by omega) ?_) | (refine VCmp.ff (by omega) ?_) | (refine VIn.mk (IntWalk.i64_in _ (by omega)) ?_) | (refine VIdx.mk _ rfl (by omega) ?_) | (refine VIdx.mk 0 rfl (by omega) ?_))
            try (conv => whnf)
            refine VCall.mk _ (num_any n4 Ws) ?_
            rintro _ Wt ⟨rfl, hWt⟩
            refine ⟨_, rfl, ?_⟩
            rw [← hWt]
            have b6s : Below W6.heap.size W6 Ws := (up8 _ bjm).trans (bms.mono (up8 _ bjm).size)
            have Rs := R6.below b6s
            have bVs : Below wB.heap.size wB Ws := bV6.trans (b6s.mono R6.z)
            repeat ((conv => whnf); first | (refine VCmp.tt (by omega) ?_) | (refine VCmp.ff (by omega) ?_) | (refine VIn.mk (IntWalk.i64_in _ (by omega)) ?_) | (refine VIdx.mk _ rfl (by omega) ?_) | (refine VIdx.mk 0 rfl (by omega) ?_))
            try (conv => whnf)
            refine .mk (k + 1, ⟨A, cA, ra', some ⟨gO, 0, none⟩, cO, [r0], C', cC', c.who, M, cM, rl⟩) ⟨rfl, rfl, rfl, rfl, rfl, by show some (Value.slice M rm.length cM) = some (Value.slice M rl.length cM); rw [hrl], rfl, trivial⟩ ⟨hk3, Rs.other (by have := bVs.size; omega) (hx _ bVs).1 (by omega), bVs, hla, rfl, hok⟩ (by show 3 - (k + 1) < 3 - k; omega)
          case pos =>
            obtain ⟨bM, oM, hMx, hbM, hrow⟩ := (hYY _ b0).ms.row (by omega)
            have hpi : c.ms[i]? = some c.ms[i] := List.getElem?_eq_getElem h2
            have hpm : c.ms[i] ∈ c.ms := List.getElem_mem _
            generalize c.ms[i] = p at hpi hpm
            have hpd : p.d ∈ c.ms.map Dr.d := List.mem_map.2 ⟨p, hpm, rfl⟩
            have hps := hc.sd.2 p.d hpd
            have rowX : ∀ W, Below wB.heap.size wB W → W.rangeAt bM (oM + i * 4) (eDr p) := fun W hW j u hu => (hW.cell (p := ⟨bM, _, none⟩) (by show bM < wB.heap.size; omega)).trans (hrow i p hpi j u hu)
            have hir : i < rl.length := by omega
            have hri : rl[i]? = some rl[i] := List.getElem?_eq_getElem hir
            have hrm' : rl[i] ∈ rl := List.getElem_mem _
            generalize rl[i] = r at hri hrm'
            have o1 := R6.m.each r hrm'
            have hown := R6.m.own
            dsimp only at o1 hown
            obtain ⟨gM, hMe, hcM⟩ := hown.cell len_eDr hri
            subst hMe
            have hgM := hown.lo gM rfl
            have nM : gM ∉ (bw r.B r.c).toList := fun hm => o1.neO hown (by decide) gM (by simpa [Option.mem_toList] using hm) rfl
            have nb : W0.heap.size ∉ (bw r.B r.c).toList := fun hm => R6.bm (mblks_X hrm' (by simpa [Option.mem_toList] using hm))
            have lB : ∀ k ∈ (bw r.B r.c).toList, wB.heap.size ≤ k := fun k hk => (o1.lo k (by simpa [Option.mem_toList] using hk)).1
            rw [hMx] at M3
            have T1 : Ld Try.prog 52 gM (0 + i * 4 + 3) (fun W => Fx (bw r.B r.c).toList W6 W) (.slice r.B r.d.body.length r.c) := ⟨fun W hW => load52 (by rw [Nat.zero_add, hW.cell hgM.2 nM]; exact hcM 3 _ rfl)⟩
            have T2 : Ld Try.prog 40 W0.heap.size 12 (fun W => Fx (bw r.B r.c).toList W6 W) (.slice (some ⟨bM, oM, none⟩) c.ms.length c.cM) := ⟨fun W hW => load_cell (by kernel_rfl) (by rw [← hMx]; exact (range_same R6.r (hW.block _ R6.bz nb)) 12 _ rfl)⟩
            have T3 : Ld Try.prog 52 bM (oM + i * 4 + 3) (fun W => Fx (bw r.B r.c).toList W6 W) (.slice p.B p.d.body.length p.c) := ⟨fun W hW => load52 (rowX W (bV6.trans (hW.to lB R6.z)) 3 _ rfl)⟩
            repeat ((conv => whnf); first | (refine VLoad.mk _ M3 ?_) | (refine VCmp.tt (by omega) ?_) | (refine VCmp.ff (by omega) ?_) | (refine VIn.mk (IntWalk.i64_in _ (by omega)) ?_) | (refine VIdx.mk _ rfl (by omega) ?_) | (refine VIdx.mk 0 rfl (by omega) ?_))
            try (conv => whnf)
            refine VDraw.mk 1000 [([0, 1, 2, 3, 4, 5, 6, 7, 8, 9, 10, 11], 12)] [13] (fun W => Fx (bw r.B r.c).toList W6 W) (by kernel_rfl) (by kernel_rfl) ((Fx.refl _ _).drew) ?_
            repeat ((conv => whnf); first | (refine VLoad.mk _ T1 ?_) | (refine VLoad.mk _ T2 ?_) | (refine VLoad.mk _ T3 ?_) | (refine VSl.zero ?_) | (refine VCmp.tt (by omega) ?_) | (refine VCmp.ff (by omega) ?_) | (refine VIn.mk (IntWalk.i64_in _ (by omega)) ?_) | (refine VIdx.mk _ rfl (by omega) ?_) | (refine VIdx.mk 0 rfl (by omega) ?_))
            try (conv => whnf)
            refine VApp.rowsW wB.heap.size 1 1 _ Try.underlying52 info5 rfl (by decide) eByte len_eByte one_eByte r.d.body p.d.body rfl (show OwnW W6.drew wB.heap.size 5 1 eByte r.B r.c r.d.body from ⟨o1.len, o1.own⟩) ((hYY _ bV6.drew).ms.each p hpm).row (by omega) (by omega) (by show wB.heap.size ≤ W6.heap.size; exact R6.z) fun B' c' W7 hB7 hg7 hk7 => ?_
            have f7 : Fx (bw r.B r.c).toList W6 W7 := .undrew (.grown hg7 fun k hk => by rw [hk]; simp)
            have z7 := f7.size
            have bV7 : Below wB.heap.size wB W7 := bV6.trans (f7.to lB R6.z)
            have own7 : Owns W7 wB.heap.size 113 4 eDr (some ⟨gM, 0, none⟩) cM rl := hown.fx f7 fun k hk hm => by injection hk with hk; subst hk; exact nM hm
            have N1 : Ld Try.prog 40 W0.heap.size 12 (Eq W7) (.slice (some ⟨bM, oM, none⟩) c.ms.length c.cM) := T2.at f7
            have N2 : Ld Try.prog 113 bM (oM + i * 4) (Eq W7) (.agg (drA p)) := .of (load113 (rowX W7 bV7))
            have h4 : (i + 1) * 4 ≤ rl.length * 4 := Nat.mul_le_mul_right _ hir
            have th7 : W7.there gM (0 + i * 4) (drA p).size := fun j hj => by
              have hj : j < 4 := hj
              have := own7.there len_eDr (i * 4 + j) (by omega)
              rw [show 0 + i * 4 + j = 0 + (i * 4 + j) by omega]; exact this
            repeat ((conv => whnf); first | (refine VS.mk f7 ?_) | (refine VLoad.mk _ N1 ?_) | (refine VLoad.mk _ N2 ?_) | (refine VCmp.tt (by omega) ?_) | (refine VCmp.ff (by omega) ?_) | (refine VIn.mk (IntWalk.i64_in _ (by omega)) ?_) | (refine VIdx.mk _ rfl (by omega) ?_) | (refine VIdx.mk 0 rfl (by omega) ?_))
            try (conv => whnf)
            refine VStore.mid th7 (by kernel_rfl) (one_drA p) fun W8 hW8 => ?_
            have own8 : Owns W8 wB.heap.size 113 4 eDr (some ⟨gM, 0, none⟩) cM (rl.set i p) := by
              rw [hW8.out, show 0 + mulO i 4 = i * 4 by rw [mulO_eq]; omega]
              exact own7.sets len_eDr hir p
            have g8 : W7.grownBy W8 (some gM) := by rw [hW8.out]; exact grown_sets _ _ _ _
            clear hW8
            have th8 := own8.there len_eDr
            have hlen8 : (rl.set i p).length = rl.length := List.length_set ..
            rw [hlen8] at th8
            have t3 := th8 (i * 4 + 3) (by omega)
            rw [show 0 + (i * 4 + 3) = 0 + i * 4 + 3 by omega] at t3
            repeat ((conv => whnf); first | (refine VCmp.tt (by omega) ?_) | (refine VCmp.ff (by omega) ?_) | (refine VIn.mk (IntWalk.i64_in _ (by omega)) ?_) | (refine VIdx.mk _ rfl (by omega) ?_) | (refine VIdx.mk 0 rfl (by omega) ?_))
            try (conv => whnf)
            refine VStore.cell (by kernel_rfl) t3.1 t3.2 rfl rfl fun W9 hW9 => ?_
            have own9 : Owns W9 wB.heap.size 113 4 eDr (some ⟨gM, 0, none⟩) cM (rl.set i ⟨p.d, B', c'⟩) := by
              rw [hW9.out, show addO (0 + mulO i 4) 3 = i * 4 + 3 by rw [mulO_eq, addO_eq]; omega]
              have := own8.field (k := i) (j := 3) (x := p) (x' := ⟨p.d, B', c'⟩) (v := .slice B' p.d.body.length c') len_eDr (List.getElem?_set_self hir) rfl (by omega)
              rw [List.set_set] at this; exact this
            have g9 : W8.grownBy W9 (some gM) := by rw [hW9.out]; exact grown_cell _ _ _ _
            clear hW9
            have f79 : Fx (blk (some (⟨gM, 0, none⟩ : Addr))).toList W7 W9 := .grown (g8.trans g9) fun k hk => by injection hk with hk; subst hk; exact List.mem_singleton.2 rfl
            have f69 : Fx ((blk (some (⟨gM, 0, none⟩ : Addr))).toList ++ (bw r.B r.c).toList) W6 W9 := (f7.more fun k hk => List.mem_append.2 (.inr hk)).trans f79 fun k hk => .inl (List.mem_append.2 (.inl hk))
            have hB9 : OwnW W9 wB.heap.size 5 1 eByte B' c' p.d.body := hB7.fx f79 fun k hk hm => hB7.neO own7 (by decide) k hk (by simpa [Option.mem_toList] using hm)
            have kB : ∀ k, bw B' c' = some k → bw r.B r.c = some k ∨ W6.heap.size ≤ k := fun k hk => by
              rcases hk7 k hk with e | e
              · exact .inl e
              · right; rw [e]; exact Nat.le_refl _
            have P9 := R6.m.put (r' := ⟨p.d, B', c'⟩) hri f69 own9 hB9 kB
            have inM : ∀ k ∈ (blk (some (⟨gM, 0, none⟩ : Addr))).toList ++ (bw r.B r.c).toList, k ∈ mblks (some ⟨gM, 0, none⟩) rl := fun k hk => by
              rcases List.mem_append.1 hk with hk | hk
              · exact mblks_B (by simpa [Option.mem_toList] using hk)
              · exact mblks_X hrm' (by simpa [Option.mem_toList] using hk)
            have R9 := R6.setM (f69.more inM) P9 fun k hk => by
              rcases mblks_of hk with e | ⟨x, hx', e⟩
              · exact .inl (mblks_B e)
              · obtain ⟨q, hq⟩ := List.mem_iff_getElem?.1 hx'
                by_cases e1 : q = i
                · subst e1
                  rw [List.getElem?_set_self hir] at hq
                  injection hq with hq; subst hq
                  rcases kB k e with e | e
                  · exact .inl (mblks_X hrm' e)
                  · exact .inr e
                · rw [List.getElem?_set_ne (fun e2 => e1 e2.symm)] at hq
                  exact .inl (mblks_X (List.mem_of_getElem? hq) e)
            have bV9 : Below wB.heap.size wB W9 := bV6.trans (f69.to (fun k hk => (R6.m.blks k (inM k hk)).1) R6.z)
            repeat ((conv => whnf); first | (refine VCmp.tt (by omega) ?_) | (refine VCmp.ff (by omega) ?_) | (refine VIn.mk (IntWalk.i64_in _ (by omega)) ?_) | (refine VIdx.mk _ rfl (by omega) ?_) | (refine VIdx.mk 0 rfl (by omega) ?_))
            try (conv => whnf)
            refine .mk (i + 1, rl.set i ⟨p.d, B', c'⟩) ⟨rfl, rfl, rfl, rfl, rfl, rfl, rfl, rfl, rfl, trivial⟩ ⟨h1, by show (rl.set i _).length = _; rw [List.length_set]; exact hrl, hok.set hps (hc.kd p.d hpd), R9, bV9⟩ (by show rm.length - (i + 1) < rm.length - i; omega)
  case neg =>
    have hn1 : c.fs.length ≤ c.fs.length := by omega
    have hn2 : c.fs.length ≤ d.fs.length := by omega
    repeat ((conv => whnf); first | (refine VLoad.mk _ Lc0 ?_) | (refine VLoad.mk _ Ld0 ?_) | (refine VSl.upto (by omega) ?_) | (refine VCmp.tt (by omega) ?_) | (refine VCmp.ff (by omega) ?_) | (refine VIn.mk (IntWalk.i64_in _ (by omega)) ?_) | (refine VIdx.mk _ rfl (by omega) ?_) | (refine VIdx.mk 0 rfl (by omega) ?_))
    try (conv => whnf)
    have C1 := many_w c.A c.cA N (c.fs.take c.fs.length) wB (by omega) (fls_take (hx _ b0).2.2.1.fls _) (small_take hc.sm _)
    rw [List.length_take, Nat.min_eq_left hn1] at C1
    refine VCall.mk _ C1 ?_
    rintro _ w1 ⟨⟨A, cA, ra, rfl, hra, FA⟩, b1⟩
    refine ⟨_, rfl, ?_⟩
    clear C1
    have z1 := b1.size
    have Lco : Ld Try.prog 39 w.heap.size 1 (Eq w1) (.agg (flc c.own.e c.own.l c.own.i c.own.c c.own.base c.X c.own.slots.length c.cX c.Y c.own.have_.length c.cY)) := .of (load39 (range_sub (n := 7) (hx _ b1).1 1 rfl))
    repeat ((conv => whnf); first | (refine VLoad.mk _ Lco ?_) | (refine VCmp.tt (by omega) ?_) | (refine VCmp.ff (by omega) ?_) | (refine VIn.mk (IntWalk.i64_in _ (by omega)) ?_) | (refine VIdx.mk _ rfl (by omega) ?_) | (refine VIdx.mk 0 rfl (by omega) ?_))
    try (conv => whnf)
    refine VBs.mk _ _ (bs22 w1 c.own.e c.own.l c.own.i c.own.c c.own.base c.X c.own.slots.length c.cX c.Y c.own.have_.length c.cY) ?_
    have b2 : Below w1.heap.size w1 (w1.alloc (.cells (flc c.own.e c.own.l c.own.i c.own.c c.own.base c.X c.own.slots.length c.cX c.Y c.own.have_.length c.cY) 39)) := (Below.refl _ _).alloc (Nat.le_refl _) _
    have z2 : (w1.alloc (.cells (flc c.own.e c.own.l c.own.i c.own.c c.own.base c.X c.own.slots.length c.cX c.Y c.own.have_.length c.cY) 39)).heap.size = w1.heap.size + 1 := by simp
    have r2 : (w1.alloc (.cells (flc c.own.e c.own.l c.own.i c.own.c c.own.base c.X c.own.slots.length c.cX c.Y c.own.have_.length c.cY) 39)).rangeAt w1.heap.size 0 (flc c.own.e c.own.l c.own.i c.own.c c.own.base c.X c.own.slots.length c.cX c.Y c.own.have_.length c.cY).toList := range_new w1 _ 39
    generalize w1.alloc (.cells (flc c.own.e c.own.l c.own.i c.own.c c.own.base c.X c.own.slots.length c.cX c.Y c.own.have_.length c.cY) 39) = w2 at b2 z2 r2 ⊢
    have bb2 : Below wB.heap.size wB w2 := b1.trans (b2.mono z1)
    repeat ((conv => whnf); first | (refine VCmp.tt (by omega) ?_) | (refine VCmp.ff (by omega) ?_) | (refine VIn.mk (IntWalk.i64_in _ (by omega)) ?_) | (refine VIdx.mk _ rfl (by omega) ?_) | (refine VIdx.mk 0 rfl (by omega) ?_))
    try (conv => whnf)
    refine VCall.mk _ (many_w (some ⟨w1.heap.size, 0, none⟩) 1 w2.heap.size [c.own] w2 (Nat.le_refl _) (fls_one (by omega) (by omega) r2 (hx _ bb2).2.2.1.own) (small_own hc.o1 hc.o2)) ?_
    rintro _ w3 ⟨⟨O, cO, ro, rfl, hro, FO⟩, b3⟩
    refine ⟨_, rfl, ?_⟩
    have z3 := b3.size
    have bb3 : Below wB.heap.size wB w3 := bb2.trans (b3.mono (by omega))
    repeat ((conv => whnf); first | (refine VCmp.tt (by omega) ?_) | (refine VCmp.ff (by omega) ?_) | (refine VIn.mk (IntWalk.i64_in _ (by omega)) ?_) | (refine VIdx.mk _ rfl (by omega) ?_) | (refine VIdx.mk 0 rfl (by omega) ?_))
    try (conv => whnf)
    refine VBs.mk _ _ (bs37z w3) ?_
    have b4 : Below w3.heap.size w3 (w3.alloc (.cells #[] 3)) := (Below.refl _ _).alloc (Nat.le_refl _) _
    have z4 : (w3.alloc (.cells #[] 3)).heap.size = w3.heap.size + 1 := by simp
    have o4 : Owns (w3.alloc (.cells #[] 3)) w3.heap.size 3 1 eInt (some ⟨w3.heap.size, 0, none⟩) 0 ([] : List Int) := owns_empty _ _ _ _ _ (Nat.le_refl _)
    generalize w3.alloc (.cells #[] 3) = w4 at b4 z4 o4 ⊢
    have bb4 : Below wB.heap.size wB w4 := bb3.trans (b4.mono (by omega))
    have Lcw : Ld Try.prog 37 w.heap.size 9 (Eq w4) (.slice c.C c.who.length c.cC) := .of (load37 ((hx _ bb4).1 9 _ rfl))
    have hwl := hc.wl
    repeat ((conv => whnf); first | (refine VLoad.mk _ Lcw ?_) | (refine VCmp.tt (by omega) ?_) | (refine VCmp.ff (by omega) ?_) | (refine VIn.mk (IntWalk.i64_in _ (by omega)) ?_) | (refine VIdx.mk _ rfl (by omega) ?_) | (refine VIdx.mk 0 rfl (by omega) ?_))
    try (conv => whnf)
    refine VApp.rows w3.heap.size 1 8 _ Try.underlying37 info3 rfl (by decide) eInt len_eInt one_eInt ([] : List Int) c.who rfl rfl o4 (hx _ bb4).2.2.1.who (by omega) (by omega) (by omega) fun C cC w5 ho5 hg5 hk5 => ?_
    have b35 : Below w3.heap.size w3 w5 := b4.grown hg5 (by omega) (fun q hq => (o4.lo q hq).1)
    have bb5 : Below wB.heap.size wB w5 := bb3.trans (b35.mono (by omega))
    have z5 := hg5.size
    have hms := hc.sd.1
    rw [List.length_map] at hms
    have Lcm : Ld Try.prog 40 w.heap.size 12 (Eq w5) (.slice c.M c.ms.length c.cM) := .of (load_cell (by kernel_rfl) ((hx _ bb5).1 12 _ rfl))
    repeat ((conv => whnf); first | (refine VLoad.mk _ Lcm ?_) | (refine VCmp.tt (by omega) ?_) | (refine VCmp.ff (by omega) ?_) | (refine VIn.mk (IntWalk.i64_in _ (by omega)) ?_) | (refine VIdx.mk _ rfl (by omega) ?_) | (refine VIdx.mk 0 rfl (by omega) ?_))
    try (conv => whnf)
    refine VCall.mk _ (datas_w c.M c.cM N c.ms w5 (by omega) (hx _ bb5).2.2.1.ms hc.sd) ?_
    rintro _ w6 ⟨⟨M, cM, rm, rfl, hrm, FM⟩, b6⟩
    refine ⟨_, rfl, ?_⟩
    have z6 := b6.size
    have bb6 : Below wB.heap.size wB w6 := bb5.trans (b6.mono (by omega))
    have hrl : ra.length = c.fs.length := by have := congrArg List.length hra; rw [List.length_map, List.length_take] at this; omega
    have hol : ro.length = 1 := by have := congrArg List.length hro; rwa [List.length_map] at this
    have hml : rm.length = c.ms.length := by have := congrArg List.length hrm; simpa using this
    have b16 : Below w1.heap.size w1 w6 := ((b2.trans (b3.mono (by omega))).trans (b35.mono (by omega))).trans (b6.mono (by omega))
    have b36 : Below w3.heap.size w3 w6 := b35.trans (b6.mono (by omega))
    have F5 : Owns w5 w3.heap.size 3 1 eInt C cC c.who := ho5
    have lA := FA.blks
    have lO := FO.blks
    have lC : ∀ k ∈ (blk C).toList, w3.heap.size ≤ k ∧ k < w5.heap.size := fun k hk => F5.lo k (by simpa [Option.mem_toList] using hk)
    have lM := FM.blks
    have R0 : Room wB.heap.size w.heap.size (cxA c).toList ⟨A, cA, ra, O, cO, ro, C, cC, c.who, M, cM, rm⟩ w6 :=
      ⟨bb6.size, FA.below b16, (FO.below b36).lower (by omega), (F5.keep b6 fun k hk => (F5.lo k hk).2).base (by omega), FM.lower (by omega),
        Dj.new (n := w1.heap.size) (fun k hk => (lA k hk).2) (fun k hk => by have := (lO k hk).1; omega), Dj.new (n := w1.heap.size) (fun k hk => (lA k hk).2) (fun k hk => by have := (lC k hk).1; omega), Dj.new (n := w1.heap.size) (fun k hk => (lA k hk).2) (fun k hk => by have := (lM k hk).1; omega),
        Dj.new (n := w3.heap.size) (fun k hk => (lO k hk).2) (fun k hk => (lC k hk).1), Dj.new (n := w3.heap.size) (fun k hk => (lO k hk).2) (fun k hk => by have := (lM k hk).1; omega), Dj.new (n := w5.heap.size) (fun k hk => (lC k hk).2) (fun k hk => (lM k hk).1),
        by omega, (hx _ bb6).1, fun hm => by have := (lA _ hm).1; omega, fun hm => by have := (lO _ hm).1; omega, fun hm => by have := (lC _ hm).1; omega, fun hm => by have := (lM _ hm).1; omega⟩
    rw [← hml]
    have hok : MsOk rm := MsOk.of hc.sd hc.kd hrm
    repeat ((conv => whnf); first | (refine VCmp.tt (by omega) ?_) | (refine VCmp.ff (by omega) ?_) | (refine VIn.mk (IntWalk.i64_in _ (by omega)) ?_) | (refine VIdx.mk _ rfl (by omega) ?_) | (refine VIdx.mk 0 rfl (by omega) ?_))
    try (conv => whnf)
    refine VLoop.mk (Nat × RX) (fun s => [(2, .pointer (some ⟨w.heap.size, 0, none⟩)), (3, .pointer (some ⟨wA.heap.size, 0, none⟩)), (6, .slice s.2.A c.fs.length s.2.cA), (7, .slice s.2.O 1 s.2.cO), (8, .slice s.2.C s.2.lc.length s.2.cC), (9, .slice s.2.M s.2.rm.length s.2.cM), (10, .int .i64 s.1)]) (fun s W => PlI wB wB.heap.size w.heap.size (cxA c).toList c.fs.length s.1 s.2 W) (fun s => 3 - s.1) (0, ⟨A, cA, ra, O, cO, ro, C, cC, c.who, M, cM, rm⟩) ⟨rfl, rfl, rfl, rfl, by show some (Value.slice C (0 + c.who.length) cC) = _; rw [Nat.zero_add], rfl, rfl, trivial⟩ ⟨Nat.zero_le _, R0, bb6, hrl, hol, hok⟩ ?_
    clear R0 hok hrl hol hml hrm hro hra hk5 hg5 ho5 F5 lA lO lC lM FA FO FM b16 b36 bb2 bb3 bb4 bb5 bb6 b1 b2 b3 b4 b35 b6 o4 r2 z1 z2 z3 z4 z5 z6 Lcw Lcm Lco
    clear w6 w5 w4 w3 w2 w1 A cA ra O cO ro C cC M cM rm
    rintro ⟨k, ⟨A, cA, ra, O, cO, ro, C, cC, lc, M, cM, rm⟩⟩ W0 ⟨hk, R, bB, hra, hro, hrm⟩
    dsimp only at hk R bB hra hro hrm ⊢
    by_cases hk3 : k < 3
    case neg =>
      repeat ((conv => whnf); first | (refine VCmp.tt (by omega) ?_) | (refine VCmp.ff (by omega) ?_) | (refine VIn.mk (IntWalk.i64_in _ (by omega)) ?_) | (refine VIdx.mk _ rfl (by omega) ?_) | (refine VIdx.mk 0 rfl (by omega) ?_))
      try (conv => whnf)
      exact .mk ⟨rfl, (hx _ bB).2.2.2.2⟩
    case pos =>
      have L42 : Ld Try.prog 42 w.heap.size 0 (Eq W0) (.agg (cxA c)) := .of (load_agg (by kernel_rfl) (by kernel_rfl) (hx _ bB).1)
      repeat ((conv => whnf); first | (refine VLoad.mk _ L42 ?_) | (refine VCmp.tt (by omega) ?_) | (refine VCmp.ff (by omega) ?_) | (refine VIn.mk (IntWalk.i64_in _ (by omega)) ?_) | (refine VIdx.mk _ rfl (by omega) ?_) | (refine VIdx.mk 0 rfl (by omega) ?_))
      try (conv => whnf)
      refine .mk _ run_zero42 ?_
      conv => whnf
      refine .mk fun V0 hV0 => ?_
      repeat ((conv => whnf); first | (refine VCmp.tt (by omega) ?_) | (refine VCmp.ff (by omega) ?_) | (refine VIn.mk (IntWalk.i64_in _ (by omega)) ?_) | (refine VIdx.mk _ rfl (by omega) ?_) | (refine VIdx.mk 0 rfl (by omega) ?_))
      try (conv => whnf)
      refine VStore.new hV0 (by kernel_rfl) rfl (cxA_one c) fun V1 hV1 => ?_
      by_cases hk1 : k = 1
      case pos =>
        have bV1 : Below wB.heap.size wB V1 := bB.trans (by rw [hV1.out]; exact (Below.refl _ _).alloc R.z _)
        have L42d : Ld Try.prog 42 wA.heap.size 0 (Eq V1) (.agg (cxA d)) := .of (load_agg (by kernel_rfl) (by kernel_rfl) (hx _ bV1).2.1)
        repeat ((conv => whnf); first | (refine VLoad.mk _ L42d ?_) | (refine VCmp.tt (by omega) ?_) | (refine VCmp.ff (by omega) ?_) | (refine VIn.mk (IntWalk.i64_in _ (by omega)) ?_) | (refine VIdx.mk _ rfl (by omega) ?_) | (refine VIdx.mk 0 rfl (by omega) ?_))
        try (conv => whnf)
        refine VStore.new hV1 (by kernel_rfl) rfl (cxA_one d) fun V2 hV2 => ?_
        have hYY : ∀ W, Below wB.heap.size wB W → CxAt W N d := fun W hW => (hx W hW).2.2.2.1
        have cV : Below W0.heap.size W0 V2 := by rw [hV2.out]; exact (Below.refl _ _).alloc (Nat.le_refl _) _
        have zV : V2.heap.size = W0.heap.size + 1 := by rw [hV2.out]; simp
        have rV : V2.rangeAt W0.heap.size 0 (cxA d).toList := by rw [hV2.out]; exact range_new W0 (cxA d) 42
        have R1 : Room wB.heap.size W0.heap.size (cxA d).toList ⟨A, cA, ra, O, cO, ro, C, cC, lc, M, cM, rm⟩ V2 := R.fresh cV (by omega) rV (Nat.le_refl _)
        have bV : Below wB.heap.size wB V2 := bB.trans (cV.mono R.z)
        have hXs := hd.sm.1
        have hXw := hd.wl
        have zz := R.z
        -- the contents
        have M0 : Ld Try.prog 22 W0.heap.size 0 (Eq V2) (.slice d.A d.fs.length d.cA) := .of (load_cell (by kernel_rfl) (rV 0 _ rfl))
        have C1 := laid_any (cA := d.cA) R1.a R1.z (show N ≤ wB.heap.size by omega) (InFs.of (hYY _ bV).fls (by omega) R1.z fun k hk => (R1.a.blks k hk).1) hd.sm (by rw [hra]; exact hn2)
        rw [hra] at C1
        repeat ((conv => whnf); first | (refine VLoad.mk _ M0 ?_) | (refine VCmp.tt (by omega) ?_) | (refine VCmp.ff (by omega) ?_) | (refine VIn.mk (IntWalk.i64_in _ (by omega)) ?_) | (refine VIdx.mk _ rfl (by omega) ?_) | (refine VIdx.mk 0 rfl (by omega) ?_))
        try (conv => whnf)
        refine VCall.mk _ C1 ?_
        rintro _ W2 ⟨rfl, ra', hla, hfa, FA, xA, kA⟩
        refine ⟨_, rfl, ?_⟩
        clear C1
        have R2 : Room wB.heap.size W0.heap.size (cxA d).toList ⟨A, cA, ra', O, cO, ro, C, cC, lc, M, cM, rm⟩ W2 := R1.setA xA FA kA
        have bV2 : Below wB.heap.size wB W2 := bV.trans (xA.to (fun k hk => (R1.a.blks k hk).1) R1.z)
        clear xA FA kA R1
        -- the own one
        have M1 : Ld Try.prog 39 W0.heap.size 1 (Eq W2) (.agg (flc d.own.e d.own.l d.own.i d.own.c d.own.base d.X d.own.slots.length d.cX d.Y d.own.have_.length d.cY)) := .of (load39 (range_sub (n := 7) R2.r 1 rfl))
        repeat ((conv => whnf); first | (refine VLoad.mk _ M1 ?_) | (refine VCmp.tt (by omega) ?_) | (refine VCmp.ff (by omega) ?_) | (refine VIn.mk (IntWalk.i64_in _ (by omega)) ?_) | (refine VIdx.mk _ rfl (by omega) ?_) | (refine VIdx.mk 0 rfl (by omega) ?_))
        try (conv => whnf)
        refine VBs.mk _ _ (bs22 W2 d.own.e d.own.l d.own.i d.own.c d.own.base d.X d.own.slots.length d.cX d.Y d.own.have_.length d.cY) ?_
        have b3 : Below W2.heap.size W2 (W2.alloc (.cells (flc d.own.e d.own.l d.own.i d.own.c d.own.base d.X d.own.slots.length d.cX d.Y d.own.have_.length d.cY) 39)) := (Below.refl _ _).alloc (Nat.le_refl _) _
        have z3 : (W2.alloc (.cells (flc d.own.e d.own.l d.own.i d.own.c d.own.base d.X d.own.slots.length d.cX d.Y d.own.have_.length d.cY) 39)).heap.size = W2.heap.size + 1 := by simp
        have r3 : (W2.alloc (.cells (flc d.own.e d.own.l d.own.i d.own.c d.own.base d.X d.own.slots.length d.cX d.Y d.own.have_.length d.cY) 39)).rangeAt W2.heap.size 0 (flc d.own.e d.own.l d.own.i d.own.c d.own.base d.X d.own.slots.length d.cX d.Y d.own.have_.length d.cY).toList := range_new W2 _ 39
        generalize W2.alloc (.cells (flc d.own.e d.own.l d.own.i d.own.c d.own.base d.X d.own.slots.length d.cX d.Y d.own.have_.length d.cY) 39) = W3 at b3 z3 r3 ⊢
        have R3 := R2.below b3
        have bV3 : Below wB.heap.size wB W3 := bV2.trans (b3.mono R2.z)
        have C2 := laid_any (cA := 1) R3.o R3.z (show N ≤ wB.heap.size by omega) (inFs_one (show W2.heap.size < W3.heap.size by omega) (fun hm => by have := (R2.o.blks _ hm).2; omega) r3 (hYY _ bV3).own) (small_own hd.o1 hd.o2) (by show ro.length ≤ 1; omega)
        dsimp only at C2
        rw [hro] at C2
        repeat ((conv => whnf); first | (refine VCmp.tt (by omega) ?_) | (refine VCmp.ff (by omega) ?_) | (refine VIn.mk (IntWalk.i64_in _ (by omega)) ?_) | (refine VIdx.mk _ rfl (by omega) ?_) | (refine VIdx.mk 0 rfl (by omega) ?_))
        try (conv => whnf)
        refine VCall.mk _ C2 ?_
        rintro _ W4 ⟨rfl, ro', hlo, hfo, FO, xO, kO⟩
        refine ⟨_, rfl, ?_⟩
        clear C2
        have R4 : Room wB.heap.size W0.heap.size (cxA d).toList ⟨A, cA, ra', O, cO, ro', C, cC, lc, M, cM, rm⟩ W4 := R3.setO xO FO kO
        have bV4 : Below wB.heap.size wB W4 := bV3.trans (xO.to (fun k hk => (R3.o.blks k hk).1) R3.z)
        clear xO FO kO R2 R3
        -- the numbers
        have M2 : Ld Try.prog 37 W0.heap.size 9 (fun W => Fx (blk C).toList W4 W) (.slice d.C d.who.length d.cC) := ⟨fun W hW => load37 ((range_same R4.r (hW.block _ R4.bz R4.bc)) 9 _ rfl)⟩
        repeat ((conv => whnf); first | (refine VCmp.tt (by omega) ?_) | (refine VCmp.ff (by omega) ?_) | (refine VIn.mk (IntWalk.i64_in _ (by omega)) ?_) | (refine VIdx.mk _ rfl (by omega) ?_) | (refine VIdx.mk 0 rfl (by omega) ?_))
        try (conv => whnf)
        refine VDraw.mk 1000 [([0, 1, 2, 3], 4)] [5] (fun W => Fx (blk C).toList W4 W) (by kernel_rfl) (by kernel_rfl) ((Fx.refl _ _).drew) ?_
        repeat ((conv => whnf); first | (refine VLoad.mk _ M2 ?_) | (refine VSl.zero ?_) | (refine VCmp.tt (by omega) ?_) | (refine VCmp.ff (by omega) ?_) | (refine VIn.mk (IntWalk.i64_in _ (by omega)) ?_) | (refine VIdx.mk _ rfl (by omega) ?_) | (refine VIdx.mk 0 rfl (by omega) ?_))
        try (conv => whnf)
        refine VApp.rows wB.heap.size 1 8 _ Try.underlying37 info3 rfl (by decide) eInt len_eInt one_eInt ([] : List Int) d.who rfl rfl (show Owns W4.drew wB.heap.size 3 1 eInt C cC [] from R4.c.short) (hYY _ bV4.drew).who (by omega) (by omega) (by show wB.heap.size ≤ W4.heap.size; exact R4.z) fun C' cC' W5 ho5 hg5 hk5 => ?_
        have x5 : Fx (blk C).toList W4 W5 := .undrew (.grown hg5 fun k hk => by rw [hk]; simp)
        have R5 : Room wB.heap.size W0.heap.size (cxA d).toList ⟨A, cA, ra', O, cO, ro', C', cC', d.who, M, cM, rm⟩ W5 := R4.setC x5 ho5 fun k hk => by
          have hk : blk C' = some k := by simpa [Option.mem_toList] using hk
          rcases hk5 with e | e
          · left; rw [← e, hk]; simp
          · right; rw [hk] at e; injection e with e; rw [e]; exact Nat.le_refl _
        have bV5 : Below wB.heap.size wB W5 := bV4.trans (x5.to (fun k hk => (R4.clt k hk).1) R4.z)
        repeat ((conv => whnf); first | (refine VS.mk x5 ?_) | (refine VCmp.tt (by omega) ?_) | (refine VCmp.ff (by omega) ?_) | (refine VIn.mk (IntWalk.i64_in _ (by omega)) ?_) | (refine VIdx.mk _ rfl (by omega) ?_) | (refine VIdx.mk 0 rfl (by omega) ?_))
        try (conv => whnf)
        clear x5 R4 ho5 hg5 hk5
        refine VLoop.mk (Nat × List Dr) (fun s => [(2, .pointer (some ⟨w.heap.size, 0, none⟩)), (3, .pointer (some ⟨wA.heap.size, 0, none⟩)), (6, .slice A c.fs.length cA), (7, .slice O 1 cO), (8, .slice C' d.who.length cC'), (9, .slice M rm.length cM), (10, .int .i64 k), (11, .pointer (some ⟨W0.heap.size, 0, none⟩)), (12, .int .i64 s.1)]) (fun s W => s.1 ≤ rm.length ∧ s.2.length = rm.length ∧ MsOk s.2 ∧ Room wB.heap.size W0.heap.size (cxA d).toList ⟨A, cA, ra', O, cO, ro', C', cC', d.who, M, cM, s.2⟩ W ∧ Below wB.heap.size wB W) (fun s => rm.length - s.1) (0, rm) ⟨rfl, rfl, rfl, rfl, by show some (Value.slice C' (0 + d.who.length) cC') = _; rw [Nat.zero_add], rfl, rfl, rfl, rfl, trivial⟩ ⟨Nat.zero_le _, rfl, hrm, R5, bV5⟩ ?_
        clear R5 bV5 M2 M1 M0 bV4 bV3 bV2 r3 b3 z3 bV R rV cV
        rintro ⟨i, rl⟩ W6 ⟨hi, hrl, hok, R6, bV6⟩
        dsimp only at hi hrl hok R6 bV6 ⊢
        have M3 : Ld Try.prog 40 W0.heap.size 12 (Eq W6) (.slice d.M d.ms.length d.cM) := .of (load_cell (by kernel_rfl) (R6.r 12 _ rfl))
        have hXm := hd.sd.1
        rw [List.length_map] at hXm
        have hokl := hrm.1
        by_cases h1 : i < rm.length
        case neg =>
          repeat ((conv => whnf); first | (refine VCmp.tt (by omega) ?_) | (refine VCmp.ff (by omega) ?_) | (refine VIn.mk (IntWalk.i64_in _ (by omega)) ?_) | (refine VIdx.mk _ rfl (by omega) ?_) | (refine VIdx.mk 0 rfl (by omega) ?_))
          try (conv => whnf)
          have hGs : Small (ra'.map Rw.f) := by rw [hfa]; exact small_take hd.sm _
          have hGl : (ra'.map Rw.f).length = c.fs.length := by rw [List.length_map]; exact hla
          generalize hgs : ra'.map Rw.f = gs at hGs hGl
          obtain ⟨r0, hr0⟩ : ∃ r0, ro' = [r0] := by
            match ro', hlo with
            | [r0], _ => exact ⟨r0, rfl⟩
          subst hr0
          have hr0 : r0.f = d.own := by
            have e : [r0.f] = [d.own] := hfo
            injection e
          have hc.fs.length : c.fs.length ≤ 1048576 := by omega
          obtain ⟨gO, hOe, hcO⟩ := R6.o.own.cell len_eRw (k := 0) (x := r0) rfl
          subst hOe
          have gls : ∀ W, Below W6.heap.size W6 W → Fls W W.heap.size A gs := fun W hW => by
            have := ((R6.below hW).a).fls
            rw [← hgs]; exact this
          have aO : ∀ W, Below W6.heap.size W6 W → W.rangeAt gO 0 (eRw r0) ∧ FlRows W W.heap.size r0.f r0.X r0.cX r0.Y r0.cY := fun W hW => by
            have R := R6.below hW
            obtain ⟨g1, e1, h1⟩ := R.o.own.cell len_eRw (k := 0) (x := r0) rfl
            injection e1 with e1; injection e1 with e1; subst e1
            obtain ⟨q1, q2⟩ := R.o.each r0 (List.mem_singleton.2 rfl)
            exact ⟨by rw [Nat.zero_mul] at h1; exact h1, ⟨q1.row len_eSlot, q2.row len_eInt, q1.len, q1.cap, q2.len, q2.cap⟩⟩
          have aC : ∀ W, Below W6.heap.size W6 W → W.rangeAt W0.heap.size 0 (cxA d).toList ∧ RowAt W W.heap.size 1 eInt C' d.who ∧ Drs W W.heap.size M rl := fun W hW =>
            have R := R6.below hW
            ⟨R.r, R.c.row len_eInt, R.m.drs⟩
          have hml : (rl.map Dr.d).length = rm.length := by rw [List.length_map]; exact hrl
          -- Cut
          have C14 := icut_any A cA W6.heap.size gs W6 (Nat.le_refl _) (gls W6 (Below.refl _ _)) (by omega)
          rw [hGl] at C14
          refine VCall.mk _ C14 ?_
          clear C14
          rintro _ W7 ⟨⟨kk, n1, rfl, P1⟩, b7⟩
          refine ⟨_, rfl, ?_⟩
          -- Lacks
          have bd7 : Below W7.heap.size W7 W7.drew := (Below.refl _ _).drew
          have K1 : Ld Try.prog 3 W0.heap.size 8 (fun W => Below W7.heap.size W7 W) (.int .i64 d.done) := ⟨fun W hW => load3 ((aC W (b7.trans (hW.mono b7.size))).1 8 _ rfl)⟩
          have K2 : Ld Try.prog 39 gO 0 (fun W => Below W7.heap.size W7 W) (.agg (flc r0.f.e r0.f.l r0.f.i r0.f.c r0.f.base r0.X r0.f.slots.length r0.cX r0.Y r0.f.have_.length r0.cY)) := ⟨fun W hW => load39 ((aO W (b7.trans (hW.mono b7.size))).1)⟩
          repeat ((conv => whnf); first | (refine VCmp.tt (by omega) ?_) | (refine VCmp.ff (by omega) ?_) | (refine VIn.mk (IntWalk.i64_in _ (by omega)) ?_) | (refine VIdx.mk _ rfl (by omega) ?_) | (refine VIdx.mk 0 rfl (by omega) ?_))
          try (conv => whnf)
          refine VDraw.mk 1000 [([0, 1, 2, 3, 4, 5], 6)] [7, 8, 9, 10, 11] (fun W => Below W7.heap.size W7 W) (by kernel_rfl) (by kernel_rfl) (bd7) ?_
          repeat ((conv => whnf); first | (refine VLoad.mk _ K1 ?_) | (refine VLoad.mk _ K2 ?_) | (refine VCmp.tt (by omega) ?_) | (refine VCmp.ff (by omega) ?_) | (refine VIn.mk (IntWalk.i64_in _ (by omega)) ?_) | (refine VIdx.mk _ rfl (by omega) ?_) | (refine VIdx.mk 0 rfl (by omega) ?_))
          try (conv => whnf)
          have b7d : Below W6.heap.size W6 W7.drew := b7.drew
          have C24 := lacks_any d.done r0.f r0.X r0.Y A r0.cX r0.cY cA W7.drew.heap.size gs W7.drew (Nat.le_refl _) (aO _ b7d).2 (gls _ b7d) (by omega)
          rw [hGl] at C24
          refine VCall.mk _ C24 ?_
          clear C24
          rintro _ W8 ⟨⟨B1, c1, l1, n2, rfl, P2, own1⟩, b8⟩
          refine ⟨_, rfl, ?_⟩
          have b78 : Below W7.heap.size W7 W8 := bd7.trans b8
          have b68 : Below W6.heap.size W6 W8 := b7.trans (b78.mono b7.size)
          repeat ((conv => whnf); first | (refine VS.mk b78 ?_) | (refine VCmp.tt (by omega) ?_) | (refine VCmp.ff (by omega) ?_) | (refine VIn.mk (IntWalk.i64_in _ (by omega)) ?_) | (refine VIdx.mk _ rfl (by omega) ?_) | (refine VIdx.mk 0 rfl (by omega) ?_))
          try (conv => whnf)
          -- Duty
          have K3 : Ld Try.prog 3 W0.heap.size 10 (Eq W8) (.int .i64 d.self) := .of (load3 ((aC W8 b68).1 10 _ rfl))
          have K4 : Ld Try.prog 3 W0.heap.size 11 (Eq W8) (.int .i64 d.q) := .of (load3 ((aC W8 b68).1 11 _ rfl))
          repeat ((conv => whnf); first | (refine VLoad.mk _ K3 ?_) | (refine VLoad.mk _ K4 ?_) | (refine VCmp.tt (by omega) ?_) | (refine VCmp.ff (by omega) ?_) | (refine VIn.mk (IntWalk.i64_in _ (by omega)) ?_) | (refine VIdx.mk _ rfl (by omega) ?_) | (refine VIdx.mk 0 rfl (by omega) ?_))
          try (conv => whnf)
          have C35 := duty_any d.self d.q C' A cC' cA W8.heap.size d.who gs W8 (Nat.le_refl _) (aC W8 b68).2.1 (gls W8 b68) (by omega) (by omega)
          rw [hGl] at C35
          refine VCall.mk _ C35 ?_
          clear C35
          rintro _ W9 ⟨⟨B2, c2, l2, n3, rfl, P3, own2⟩, b9⟩
          refine ⟨_, rfl, ?_⟩
          have b69 : Below W6.heap.size W6 W9 := b68.trans (b9.mono b68.size)
          -- Rest
          have K5 : Ld Try.prog 3 W0.heap.size 8 (Eq W9) (.int .i64 d.done) := .of (load3 ((aC W9 b69).1 8 _ rfl))
          repeat ((conv => whnf); first | (refine VLoad.mk _ K5 ?_) | (refine VCmp.tt (by omega) ?_) | (refine VCmp.ff (by omega) ?_) | (refine VIn.mk (IntWalk.i64_in _ (by omega)) ?_) | (refine VIdx.mk _ rfl (by omega) ?_) | (refine VIdx.mk 0 rfl (by omega) ?_))
          try (conv => whnf)
          have C19 := rest_any d.done A M cA cM W9.heap.size gs (rl.map Dr.d) W9 (Nat.le_refl _) (gls W9 b69) ⟨rl, rfl, (aC W9 b69).2.2⟩ (by omega) hok.small hok.key
          rw [hGl, hml] at C19
          refine VCall.mk _ C19 ?_
          clear C19
          rintro _ Wa ⟨⟨B3, c3, rs3, n4, rfl, P4, own3⟩, ba⟩
          refine ⟨_, rfl, ?_⟩
          have b6a : Below W6.heap.size W6 Wa := b69.trans (ba.mono b69.size)
          -- the document's Cut
          repeat ((conv => whnf); first | (refine VCmp.tt (by omega) ?_) | (refine VCmp.ff (by omega) ?_) | (refine VIn.mk (IntWalk.i64_in _ (by omega)) ?_) | (refine VIdx.mk _ rfl (by omega) ?_) | (refine VIdx.mk 0 rfl (by omega) ?_))
          try (conv => whnf)
          have C28 := many_w A cA Wa.heap.size gs Wa (Nat.le_refl _) (gls Wa b6a) hGs
          rw [hGl] at C28
          refine VCall.mk _ C28 ?_
          clear C28
          rintro _ Wb ⟨⟨D1, d1, rs1, rfl, hs1, FD1⟩, bb⟩
          refine ⟨_, rfl, ?_⟩
          have b6b : Below W6.heap.size W6 Wb := b6a.trans (bb.mono b6a.size)
          have FD1' := FD1.fls
          rw [hs1] at FD1'
          have C15 := rcut_any D1 d1 Wb.heap.size gs Wb (Nat.le_refl _) FD1' (by omega)
          rw [hGl] at C15
          repeat ((conv => whnf); first | (refine VCmp.tt (by omega) ?_) | (refine VCmp.ff (by omega) ?_) | (refine VIn.mk (IntWalk.i64_in _ (by omega)) ?_) | (refine VIdx.mk _ rfl (by omega) ?_) | (refine VIdx.mk 0 rfl (by omega) ?_))
          try (conv => whnf)
          refine VCall.mk _ C15 ?_
          clear C15 FD1 FD1'
          rintro _ Wc ⟨⟨kk', n1', rfl, Q1⟩, bc⟩
          refine ⟨_, rfl, ?_⟩
          obtain ⟨rfl, rfl⟩ := cutIs_one P1 Q1
          have b6c : Below W6.heap.size W6 Wc := b6b.trans (bc.mono b6b.size)
          -- the document's Lacks
          have bdc : Below Wc.heap.size Wc Wc.drew := (Below.refl _ _).drew
          have up6 : ∀ W, Below Wc.heap.size Wc W → Below W6.heap.size W6 W := fun W hW => b6c.trans (hW.mono b6c.size)
          have K6 : Ld Try.prog 3 W0.heap.size 8 (fun W => Below Wc.heap.size Wc W) (.int .i64 d.done) := ⟨fun W hW => load3 ((aC W (up6 W hW)).1 8 _ rfl)⟩
          have K7 : Ld Try.prog 39 gO 0 (fun W => Below Wc.heap.size Wc W) (.agg (flc r0.f.e r0.f.l r0.f.i r0.f.c r0.f.base r0.X r0.f.slots.length r0.cX r0.Y r0.f.have_.length r0.cY)) := ⟨fun W hW => load39 ((aO W (up6 W hW)).1)⟩
          have ho1 : r0.f.slots.length ≤ 1048576 := by rw [hr0]; exact hd.o1
          have ho2 : r0.f.have_.length ≤ 1048576 := by rw [hr0]; exact hd.o2
          repeat ((conv => whnf); first | (refine VCmp.tt (by omega) ?_) | (refine VCmp.ff (by omega) ?_) | (refine VIn.mk (IntWalk.i64_in _ (by omega)) ?_) | (refine VIdx.mk _ rfl (by omega) ?_) | (refine VIdx.mk 0 rfl (by omega) ?_))
          try (conv => whnf)
          refine VDraw.mk 1000 [([0, 1, 2, 3, 4, 6], 5), ([], 7), ([], 8)] [9, 10, 11, 12, 13] (fun W => Below Wc.heap.size Wc W) (by kernel_rfl) (by kernel_rfl) (bdc) ?_
          repeat ((conv => whnf); first | (refine VLoad.mk _ K6 ?_) | (refine VLoad.mk _ K7 ?_) | (refine VCmp.tt (by omega) ?_) | (refine VCmp.ff (by omega) ?_) | (refine VIn.mk (IntWalk.i64_in _ (by omega)) ?_) | (refine VIdx.mk _ rfl (by omega) ?_) | (refine VIdx.mk 0 rfl (by omega) ?_))
          try (conv => whnf)
          refine VCall.mk _ (one_own r0.f r0.X r0.Y r0.cX r0.cY Wc.drew.heap.size Wc.drew (Nat.le_refl _) (aO _ (up6 _ bdc)).2 (by omega) (by omega)) ?_
          rintro _ Wd ⟨⟨X1, cX1, Y1, cY1, rfl, oX, oY⟩, bd⟩
          refine ⟨_, rfl, ?_⟩
          have bcd : Below Wc.heap.size Wc Wd := bdc.trans bd
          repeat ((conv => whnf); first | (refine VS.mk bcd ?_) | (refine VCmp.tt (by omega) ?_) | (refine VCmp.ff (by omega) ?_) | (refine VIn.mk (IntWalk.i64_in _ (by omega)) ?_) | (refine VIdx.mk _ rfl (by omega) ?_) | (refine VIdx.mk 0 rfl (by omega) ?_))
          try (conv => whnf)
          have C28 := many_w A cA Wd.heap.size gs Wd (Nat.le_refl _) (gls Wd (up6 _ bcd)) hGs
          rw [hGl] at C28
          refine VCall.mk _ C28 ?_
          clear C28
          rintro _ We ⟨⟨D2, d2, rs2, rfl, hs2, FD2⟩, be⟩
          refine ⟨_, rfl, ?_⟩
          have bce : Below Wc.heap.size Wc We := bcd.trans (be.mono bcd.size)
          have FD2' := FD2.fls
          rw [hs2] at FD2'
          have oX2 := oX.below be
          have oY2 := oY.below be
          have C25 := rlacks_any d.done r0.f X1 Y1 D2 cX1 cY1 d2 We.heap.size gs We (Nat.le_refl _) ⟨oX2.row len_eSlot, oY2.row len_eInt, oX2.len, oX2.cap, oY2.len, oY2.cap⟩ FD2' (by omega)
          rw [hGl] at C25
          repeat ((conv => whnf); first | (refine VS.mk bce ?_) | (refine VCmp.tt (by omega) ?_) | (refine VCmp.ff (by omega) ?_) | (refine VIn.mk (IntWalk.i64_in _ (by omega)) ?_) | (refine VIdx.mk _ rfl (by omega) ?_) | (refine VIdx.mk 0 rfl (by omega) ?_))
          try (conv => whnf)
          refine VCall.mk _ C25 ?_
          clear C25 FD2 FD2' oX oY oX2 oY2
          rintro _ Wf ⟨⟨B1', c1', l1', n2', rfl, Q2, own1'⟩, bf⟩
          refine ⟨_, rfl, ?_⟩
          obtain ⟨rfl, rfl⟩ := lacks_one P2 Q2
          have bcf : Below Wc.heap.size Wc Wf := bce.trans (bf.mono bce.size)
          have b6f := up6 _ bcf
          repeat ((conv => whnf); first | (refine VS.mk bcf ?_) | (refine VCmp.tt (by omega) ?_) | (refine VCmp.ff (by omega) ?_) | (refine VIn.mk (IntWalk.i64_in _ (by omega)) ?_) | (refine VIdx.mk _ rfl (by omega) ?_) | (refine VIdx.mk 0 rfl (by omega) ?_))
          try (conv => whnf)
          -- the document's Duty
          have bdf : Below Wf.heap.size Wf Wf.drew := (Below.refl _ _).drew
          have up7 : ∀ W, Below Wf.heap.size Wf W → Below W6.heap.size W6 W := fun W hW => b6f.trans (hW.mono b6f.size)
          have K8 : Ld Try.prog 3 W0.heap.size 10 (fun W => Below Wf.heap.size Wf W) (.int .i64 d.self) := ⟨fun W hW => load3 ((aC W (up7 W hW)).1 10 _ rfl)⟩
          have K9 : Ld Try.prog 3 W0.heap.size 11 (fun W => Below Wf.heap.size Wf W) (.int .i64 d.q) := ⟨fun W hW => load3 ((aC W (up7 W hW)).1 11 _ rfl)⟩
          refine VDraw.mk 1000 [([0, 1, 2, 3, 5, 7], 4), ([], 6), ([], 8), ([], 9)] [10, 11, 12, 13, 14] (fun W => Below Wf.heap.size Wf W) (by kernel_rfl) (by kernel_rfl) (bdf) ?_
          repeat ((conv => whnf); first | (refine VLoad.mk _ K8 ?_) | (refine VLoad.mk _ K9 ?_) | (refine VCmp.tt (by omega) ?_) | (refine VCmp.ff (by omega) ?_) | (refine VIn.mk (IntWalk.i64_in _ (by omega)) ?_) | (refine VIdx.mk _ rfl (by omega) ?_) | (refine VIdx.mk 0 rfl (by omega) ?_))
          try (conv => whnf)
          refine VBs.mk _ _ (bs37z Wf.drew) ?_
          have bfg : Below Wf.heap.size Wf (Wf.drew.alloc (.cells #[] 3)) := bdf.alloc (Nat.le_refl _) _
          have zg : (Wf.drew.alloc (.cells #[] 3)).heap.size = Wf.heap.size + 1 := by simp
          generalize Wf.drew.alloc (.cells #[] 3) = Wg at bfg zg ⊢
          repeat ((conv => whnf); first | (refine VS.mk bfg ?_) | (refine VCmp.tt (by omega) ?_) | (refine VCmp.ff (by omega) ?_) | (refine VIn.mk (IntWalk.i64_in _ (by omega)) ?_) | (refine VIdx.mk _ rfl (by omega) ?_) | (refine VIdx.mk 0 rfl (by omega) ?_))
          try (conv => whnf)
          refine VApp.rowsW Wg.heap.size 1 8 _ Try.underlying37 info3 rfl (by decide) eInt len_eInt one_eInt ([] : List Int) d.who rfl ⟨Nat.zero_le _, fun h => absurd h (by omega)⟩ (aC Wg (up7 _ bfg)).2.1 (by omega) (by omega) (Nat.le_refl _) fun E cE Wh oE hgE hkE => ?_
          have bgh : Below Wg.heap.size Wg Wh := (Below.refl _ _).grown hgE (Nat.le_refl _) (fun k hk => by cases hk)
          have bfh : Below Wf.heap.size Wf Wh := bfg.trans (bgh.mono (by omega))
          repeat ((conv => whnf); first | (refine VS.mk bfh ?_) | (refine VCmp.tt (by omega) ?_) | (refine VCmp.ff (by omega) ?_) | (refine VIn.mk (IntWalk.i64_in _ (by omega)) ?_) | (refine VIdx.mk _ rfl (by omega) ?_) | (refine VIdx.mk 0 rfl (by omega) ?_))
          try (conv => whnf)
          have C28 := many_w A cA Wh.heap.size gs Wh (Nat.le_refl _) (gls Wh (up7 _ bfh)) hGs
          rw [hGl] at C28
          refine VCall.mk _ C28 ?_
          clear C28
          rintro _ Wi ⟨⟨D3, d3, rs4, rfl, hs4, FD3⟩, bi⟩
          refine ⟨_, rfl, ?_⟩
          have bfi : Below Wf.heap.size Wf Wi := bfh.trans (bi.mono bfh.size)
          have FD3' := FD3.fls
          rw [hs4] at FD3'
          have C36 := rduty_any d.self d.q E D3 cE d3 Wi.heap.size d.who gs Wi (Nat.le_refl _) ((oE.below bi).row len_eInt) FD3' (by omega) (by omega)
          rw [hGl] at C36
          repeat ((conv => whnf); first | (refine VS.mk bfi ?_) | (refine VCmp.tt (by omega) ?_) | (refine VCmp.ff (by omega) ?_) | (refine VIn.mk (IntWalk.i64_in _ (by omega)) ?_) | (refine VIdx.mk _ rfl (by omega) ?_) | (refine VIdx.mk 0 rfl (by omega) ?_))
          try (conv => whnf)
          refine VCall.mk _ C36 ?_
          clear C36 FD3 FD3' oE
          rintro _ Wj ⟨⟨B2', c2', l2', n3', rfl, Q3, own2'⟩, bj⟩
          refine ⟨_, rfl, ?_⟩
          obtain ⟨rfl, rfl⟩ := duty_one P3 Q3
          have bfj : Below Wf.heap.size Wf Wj := bfi.trans (bj.mono bfi.size)
          have b6j := up7 _ bfj
          repeat ((conv => whnf); first | (refine VS.mk bfj ?_) | (refine VCmp.tt (by omega) ?_) | (refine VCmp.ff (by omega) ?_) | (refine VIn.mk (IntWalk.i64_in _ (by omega)) ?_) | (refine VIdx.mk _ rfl (by omega) ?_) | (refine VIdx.mk 0 rfl (by omega) ?_))
          try (conv => whnf)
          -- the document's Rest
          have bdj : Below Wj.heap.size Wj Wj.drew := (Below.refl _ _).drew
          have up8 : ∀ W, Below Wj.heap.size Wj W → Below W6.heap.size W6 W := fun W hW => b6j.trans (hW.mono b6j.size)
          have Ka : Ld Try.prog 3 W0.heap.size 8 (fun W => Below Wj.heap.size Wj W) (.int .i64 d.done) := ⟨fun W hW => load3 ((aC W (up8 W hW)).1 8 _ rfl)⟩
          refine VDraw.mk 1000 [([0, 1, 2, 4], 3), ([], 5), ([], 6)] [7, 8, 9, 10, 11] (fun W => Below Wj.heap.size Wj W) (by kernel_rfl) (by kernel_rfl) (bdj) ?_
          repeat ((conv => whnf); first | (refine VLoad.mk _ Ka ?_) | (refine VCmp.tt (by omega) ?_) | (refine VCmp.ff (by omega) ?_) | (refine VIn.mk (IntWalk.i64_in _ (by omega)) ?_) | (refine VIdx.mk _ rfl (by omega) ?_) | (refine VIdx.mk 0 rfl (by omega) ?_))
          try (conv => whnf)
          have C28 := many_w A cA Wj.drew.heap.size gs Wj.drew (Nat.le_refl _) (gls _ (up8 _ bdj)) hGs
          rw [hGl] at C28
          refine VCall.mk _ C28 ?_
          clear C28
          rintro _ Wk ⟨⟨D4, d4, rs5, rfl, hs5, FD4⟩, bk⟩
          refine ⟨_, rfl, ?_⟩
          have bjk : Below Wj.heap.size Wj Wk := bdj.trans bk
          repeat ((conv => whnf); first | (refine VS.mk bjk ?_) | (refine VCmp.tt (by omega) ?_) | (refine VCmp.ff (by omega) ?_) | (refine VIn.mk (IntWalk.i64_in _ (by omega)) ?_) | (refine VIdx.mk _ rfl (by omega) ?_) | (refine VIdx.mk 0 rfl (by omega) ?_))
          try (conv => whnf)
          have C18 := datas_w M cM Wk.heap.size rl Wk (Nat.le_refl _) (aC Wk (up8 _ bjk)).2.2 hok.small
          rw [hrl] at C18
          refine VCall.mk _ C18 ?_
          clear C18
          rintro _ Wl ⟨⟨G, cG, al, rfl, hal, FG⟩, bl⟩
          refine ⟨_, rfl, ?_⟩
          have bjl : Below Wj.heap.size Wj Wl := bjk.trans (bl.mono bjk.size)
          have FD4' := (FD4.below bl).fls
          rw [hs5] at FD4'
          have FG' := FG.dts
          rw [hal] at FG'
          have C20 := rrest_any d.done D4 G d4 cG Wl.heap.size gs (rl.map Dr.d) Wl (Nat.le_refl _) FD4' FG' (by omega) hok.small
          rw [hGl, hml] at C20
          repeat ((conv => whnf); first | (refine VS.mk bjl ?_) | (refine VCmp.tt (by omega) ?_) | (refine VCmp.ff (by omega) ?_) | (refine VIn.mk (IntWalk.i64_in _ (by omega)) ?_) | (refine VIdx.mk _ rfl (by omega) ?_) | (refine VIdx.mk 0 rfl (by omega) ?_))
          try (conv => whnf)
          refine VCall.mk _ C20 ?_
          clear C20 FD4 FD4' FG FG'
          rintro _ Wm ⟨⟨B3', c3', rs3', n4', rfl, Q4, own3'⟩, bm⟩
          refine ⟨_, rfl, ?_⟩
          obtain ⟨hrs3, rfl⟩ := rest_one P4 Q4
          have bjm : Below Wj.heap.size Wj Wm := bjl.trans (bm.mono bjl.size)
          have hl3 : rs3'.length = rs3.length := by have := congrArg List.length hrs3; simpa using this.symm
          rw [hl3]
          have hfm : Below Wf.heap.size Wf Wm := bfj.trans (bjm.mono bfj.size)
          have hcm : Below Wc.heap.size Wc Wm := bcf.trans (hfm.mono bcf.size)
          have hbm : Below Wb.heap.size Wb Wm := bc.trans (hcm.mono bc.size)
          have ham : Below Wa.heap.size Wa Wm := bb.trans (hbm.mono bb.size)
          have h9m : Below W9.heap.size W9 Wm := ba.trans (ham.mono ba.size)
          have h8m : Below W8.heap.size W8 Wm := b9.trans (h9m.mono b9.size)
          have sA := ((own1.row len_eSlot).below h8m (Nat.le_refl _)).more h8m.size
          have sA' := ((own1'.row len_eSlot).below hfm (Nat.le_refl _)).more hfm.size
          have sB := ((own2.row len_eSlot).below h9m (Nat.le_refl _)).more h9m.size
          have sB' := ((own2'.row len_eSlot).below bjm (Nat.le_refl _)).more bjm.size
          have sM := ((msOwn_dts own3).below ham (Nat.le_refl _)).more ham.size
          have sM' := msOwn_dts own3'
          rw [← hrs3] at sM'
          have q1 := own1.len
          have q2 := own2.len
          have q3 := own3.row.len
          -- the comparison
          repeat ((conv => whnf); first | (refine VS.mk bjm ?_) | (refine VCmp.tt (by omega) ?_) | (refine VCmp.ff (by omega) ?_) | (refine VIn.mk (IntWalk.i64_in _ (by omega)) ?_) | (refine VIdx.mk _ rfl (by omega) ?_) | (refine VIdx.mk 0 rfl (by omega) ?_))
          try (conv => whnf)
          refine VCall.mk _ (num_any n1 Wm) ?_
          rintro _ Wn ⟨rfl, hWn⟩
          refine ⟨_, rfl, ?_⟩
          rw [← hWn]
          repeat ((conv => whnf); first | (refine VCmp.tt (by omega) ?_) | (refine VCmp.ff (by omega) ?_) | (refine VIn.mk (IntWalk.i64_in _ (by omega)) ?_) | (refine VIdx.mk _ rfl (by omega) ?_) | (refine VIdx.mk 0 rfl (by omega) ?_))
          try (conv => whnf)
          refine VCall.mk _ (sameSlots_yes B1 B1' c1 c1' Wm.heap.size l1 Wm (Nat.le_refl _) sA sA' (by omega)) ?_
          rintro _ Wo ⟨rfl, bo⟩
          refine ⟨_, rfl, ?_⟩
          repeat ((conv => whnf); first | (refine VCmp.tt (by omega) ?_) | (refine VCmp.ff (by omega) ?_) | (refine VIn.mk (IntWalk.i64_in _ (by omega)) ?_) | (refine VIdx.mk _ rfl (by omega) ?_) | (refine VIdx.mk 0 rfl (by omega) ?_))
          try (conv => whnf)
          refine VCall.mk _ (num_any n2 Wo) ?_
          rintro _ Wp ⟨rfl, hWp⟩
          refine ⟨_, rfl, ?_⟩
          rw [← hWp]
          repeat ((conv => whnf); first | (refine VCmp.tt (by omega) ?_) | (refine VCmp.ff (by omega) ?_) | (refine VIn.mk (IntWalk.i64_in _ (by omega)) ?_) | (refine VIdx.mk _ rfl (by omega) ?_) | (refine VIdx.mk 0 rfl (by omega) ?_))
          try (conv => whnf)
          refine VCall.mk _ (sameSlots_yes B2 B2' c2 c2' Wm.heap.size l2 Wo bo.size (sB.below bo (Nat.le_refl _)) (sB'.below bo (Nat.le_refl _)) (by omega)) ?_
          rintro _ Wq ⟨rfl, bq⟩
          refine ⟨_, rfl, ?_⟩
          have bmq : Below Wm.heap.size Wm Wq := bo.trans (bq.mono bo.size)
          repeat ((conv => whnf); first | (refine VCmp.tt (by omega) ?_) | (refine VCmp.ff (by omega) ?_) | (refine VIn.mk (IntWalk.i64_in _ (by omega)) ?_) | (refine VIdx.mk _ rfl (by omega) ?_) | (refine VIdx.mk 0 rfl (by omega) ?_))
          try (conv => whnf)
          refine VCall.mk _ (num_any n3 Wq) ?_
          rintro _ Wr ⟨rfl, hWr⟩
          refine ⟨_, rfl, ?_⟩
          rw [← hWr]
          have C21 := sameMsgs_yes B3 B3' c3 c3' Wm.heap.size (rs3.map Dr.d) Wq bmq.size (sM.below bmq (Nat.le_refl _)) (sM'.below bmq (Nat.le_refl _)) (by rw [List.length_map]; omega)
          rw [List.length_map] at C21
          repeat ((conv => whnf); first | (refine VCmp.tt (by omega) ?_) | (refine VCmp.ff (by omega) ?_) | (refine VIn.mk (IntWalk.i64_in _ (by omega)) ?_) | (refine VIdx.mk _ rfl (by omega) ?_) | (refine VIdx.mk 0 rfl (by omega) ?_))
          try (conv => whnf)
          refine VCall.mk _ C21 ?_
          clear C21
          rintro _ Ws ⟨rfl, bs⟩
          refine ⟨_, rfl, ?_⟩
          have bms : Below Wm.heap.size Wm Ws := bmq.trans (bs.mono bmq.size)
          repeat ((conv => whnf); first | (refine VCmp.tt (by omega) ?_) | (refine VCmp.ff (by omega) ?_) | (refine VIn.mk (IntWalk.i64_in _ (by omega)) ?_) | (refine VIdx.mk _ rfl (by omega) ?_) | (refine VIdx.mk 0 rfl (by omega) ?_))
          try (conv => whnf)
          refine VCall.mk _ (num_any n4 Ws) ?_
          rintro _ Wt ⟨rfl, hWt⟩
          refine ⟨_, rfl, ?_⟩
          rw [← hWt]
          have b6s : Below W6.heap.size W6 Ws := (up8 _ bjm).trans (bms.mono (up8 _ bjm).size)
          have Rs := R6.below b6s
          have bVs : Below wB.heap.size wB Ws := bV6.trans (b6s.mono R6.z)
          repeat ((conv => whnf); first | (refine VCmp.tt (by omega) ?_) | (refine VCmp.ff (by omega) ?_) | (refine VIn.mk (IntWalk.i64_in _ (by omega)) ?_) | (refine VIdx.mk _ rfl (by omega) ?_) | (refine VIdx.mk 0 rfl (by omega) ?_))
          try (conv => whnf)
          refine .mk (k + 1, ⟨A, cA, ra', some ⟨gO, 0, none⟩, cO, [r0], C', cC', d.who, M, cM, rl⟩) ⟨rfl, rfl, rfl, rfl, rfl, by show some (Value.slice M rm.length cM) = some (Value.slice M rl.length cM); rw [hrl], rfl, trivial⟩ ⟨hk3, Rs.other (by have := bVs.size; omega) (hx _ bVs).1 (by omega), bVs, hla, rfl, hok⟩ (by show 3 - (k + 1) < 3 - k; omega)
        case pos =>
          by_cases h2 : i < d.ms.length
          case neg =>
            repeat ((conv => whnf); first | (refine VLoad.mk _ M3 ?_) | (refine VCmp.tt (by omega) ?_) | (refine VCmp.ff (by omega) ?_) | (refine VIn.mk (IntWalk.i64_in _ (by omega)) ?_) | (refine VIdx.mk _ rfl (by omega) ?_) | (refine VIdx.mk 0 rfl (by omega) ?_))
            try (conv => whnf)
            have hGs : Small (ra'.map Rw.f) := by rw [hfa]; exact small_take hd.sm _
            have hGl : (ra'.map Rw.f).length = c.fs.length := by rw [List.length_map]; exact hla
            generalize hgs : ra'.map Rw.f = gs at hGs hGl
            obtain ⟨r0, hr0⟩ : ∃ r0, ro' = [r0] := by
              match ro', hlo with
              | [r0], _ => exact ⟨r0, rfl⟩
            subst hr0
            have hr0 : r0.f = d.own := by
              have e : [r0.f] = [d.own] := hfo
              injection e
            have hc.fs.length : c.fs.length ≤ 1048576 := by omega
            obtain ⟨gO, hOe, hcO⟩ := R6.o.own.cell len_eRw (k := 0) (x := r0) rfl
            subst hOe
            have gls : ∀ W, Below W6.heap.size W6 W → Fls W W.heap.size A gs := fun W hW => by
              have := ((R6.below hW).a).fls
              rw [← hgs]; exact this
            have aO : ∀ W, Below W6.heap.size W6 W → W.rangeAt gO 0 (eRw r0) ∧ FlRows W W.heap.size r0.f r0.X r0.cX r0.Y r0.cY := fun W hW => by
              have R := R6.below hW
              obtain ⟨g1, e1, h1⟩ := R.o.own.cell len_eRw (k := 0) (x := r0) rfl
              injection e1 with e1; injection e1 with e1; subst e1
              obtain ⟨q1, q2⟩ := R.o.each r0 (List.mem_singleton.2 rfl)
              exact ⟨by rw [Nat.zero_mul] at h1; exact h1, ⟨q1.row len_eSlot, q2.row len_eInt, q1.len, q1.cap, q2.len, q2.cap⟩⟩
            have aC : ∀ W, Below W6.heap.size W6 W → W.rangeAt W0.heap.size 0 (cxA d).toList ∧ RowAt W W.heap.size 1 eInt C' d.who ∧ Drs W W.heap.size M rl := fun W hW =>
              have R := R6.below hW
              ⟨R.r, R.c.row len_eInt, R.m.drs⟩
            have hml : (rl.map Dr.d).length = rm.length := by rw [List.length_map]; exact hrl
            -- Cut
            have C14 := icut_any A cA W6.heap.size gs W6 (Nat.le_refl _) (gls W6 (Below.refl _ _)) (by omega)
            rw [hGl] at C14
            refine VCall.mk _ C14 ?_
            clear C14
            rintro _ W7 ⟨⟨kk, n1, rfl, P1⟩, b7⟩
            refine ⟨_, rfl, ?_⟩
            -- Lacks
            have bd7 : Below W7.heap.size W7 W7.drew := (Below.refl _ _).drew
            have K1 : Ld Try.prog 3 W0.heap.size 8 (fun W => Below W7.heap.size W7 W) (.int .i64 d.done) := ⟨fun W hW => load3 ((aC W (b7.trans (hW.mono b7.size))).1 8 _ rfl)⟩
            have K2 : Ld Try.prog 39 gO 0 (fun W => Below W7.heap.size W7 W) (.agg (flc r0.f.e r0.f.l r0.f.i r0.f.c r0.f.base r0.X r0.f.slots.length r0.cX r0.Y r0.f.have_.length r0.cY)) := ⟨fun W hW => load39 ((aO W (b7.trans (hW.mono b7.size))).1)⟩
            repeat ((conv => whnf); first | (refine VCmp.tt (by omega) ?_) | (refine VCmp.ff (by omega) ?_) | (refine VIn.mk (IntWalk.i64_in _ (by omega)) ?_) | (refine VIdx.mk _ rfl (by omega) ?_) | (refine VIdx.mk 0 rfl (by omega) ?_))
            try (conv => whnf)
            refine VDraw.mk 1000 [([0, 1, 2, 3, 4, 5], 6)] [7, 8, 9, 10, 11] (fun W => Below W7.heap.size W7 W) (by kernel_rfl) (by kernel_rfl) (bd7) ?_
            repeat ((conv => whnf); first | (refine VLoad.mk _ K1 ?_) | (refine VLoad.mk _ K2 ?_) | (refine VCmp.tt (by omega) ?_) | (refine VCmp.ff (by omega) ?_) | (refine VIn.mk (IntWalk.i64_in _ (by omega)) ?_) | (refine VIdx.mk _ rfl (by omega) ?_) | (refine VIdx.mk 0 rfl (by omega) ?_))
            try (conv => whnf)
            have b7d : Below W6.heap.size W6 W7.drew := b7.drew
            have C24 := lacks_any d.done r0.f r0.X r0.Y A r0.cX r0.cY cA W7.drew.heap.size gs W7.drew (Nat.le_refl _) (aO _ b7d).2 (gls _ b7d) (by omega)
            rw [hGl] at C24
            refine VCall.mk _ C24 ?_
            clear C24
            rintro _ W8 ⟨⟨B1, c1, l1, n2, rfl, P2, own1⟩, b8⟩
            refine ⟨_, rfl, ?_⟩
            have b78 : Below W7.heap.size W7 W8 := bd7.trans b8
            have b68 : Below W6.heap.size W6 W8 := b7.trans (b78.mono b7.size)
            repeat ((conv => whnf); first | (refine VS.mk b78 ?_) | (refine VCmp.tt (by omega) ?_) | (refine VCmp.ff (by omega) ?_) | (refine VIn.mk (IntWalk.i64_in _ (by omega)) ?_) | (refine VIdx.mk _ rfl (by omega) ?_) | (refine VIdx.mk 0 rfl (by omega) ?_))
            try (conv => whnf)
            -- Duty
            have K3 : Ld Try.prog 3 W0.heap.size 10 (Eq W8) (.int .i64 d.self) := .of (load3 ((aC W8 b68).1 10 _ rfl))
            have K4 : Ld Try.prog 3 W0.heap.size 11 (Eq W8) (.int .i64 d.q) := .of (load3 ((aC W8 b68).1 11 _ rfl))
            repeat ((conv => whnf); first | (refine VLoad.mk _ K3 ?_) | (refine VLoad.mk _ K4 ?_) | (refine VCmp.tt (by omega) ?_) | (refine VCmp.ff (by omega) ?_) | (refine VIn.mk (IntWalk.i64_in _ (by omega)) ?_) | (refine VIdx.mk _ rfl (by omega) ?_) | (refine VIdx.mk 0 rfl (by omega) ?_))
            try (conv => whnf)
            have C35 := duty_any d.self d.q C' A cC' cA W8.heap.size d.who gs W8 (Nat.le_refl _) (aC W8 b68).2.1 (gls W8 b68) (by omega) (by omega)
            rw [hGl] at C35
            refine VCall.mk _ C35 ?_
            clear C35
            rintro _ W9 ⟨⟨B2, c2, l2, n3, rfl, P3, own2⟩, b9⟩
            refine ⟨_, rfl, ?_⟩
            have b69 : Below W6.heap.size W6 W9 := b68.trans (b9.mono b68.size)
            -- Rest
            have K5 : Ld Try.prog 3 W0.heap.size 8 (Eq W9) (.int .i64 d.done) := .of (load3 ((aC W9 b69).1 8 _ rfl))
            repeat ((conv => whnf); first | (refine VLoad.mk _ K5 ?_) | (refine VCmp.tt (by omega) ?_) | (refine VCmp.ff (by omega) ?_) | (refine VIn.mk (IntWalk.i64_in _ (by omega)) ?_) | (refine VIdx.mk _ rfl (by omega) ?_) | (refine VIdx.mk 0 rfl (by omega) ?_))
            try (conv => whnf)
            have C19 := rest_any d.done A M cA cM W9.heap.size gs (rl.map Dr.d) W9 (Nat.le_refl _) (gls W9 b69) ⟨rl, rfl, (aC W9 b69).2.2⟩ (by omega) hok.small hok.key
            rw [hGl, hml] at C19
            refine VCall.mk _ C19 ?_
            clear C19
            rintro _ Wa ⟨⟨B3, c3, rs3, n4, rfl, P4, own3⟩, ba⟩
            refine ⟨_, rfl, ?_⟩
            have b6a : Below W6.heap.size W6 Wa := b69.trans (ba.mono b69.size)
            -- the document's Cut
            repeat ((conv => whnf); first | (refine VCmp.tt (by omega) ?_) | (refine VCmp.ff (by omega) ?_) | (refine VIn.mk (IntWalk.i64_in _ (by omega)) ?_) | (refine VIdx.mk _ rfl (by omega) ?_) | (refine VIdx.mk 0 rfl (by omega) ?_))
            try (conv => whnf)
            have C28 := many_w A cA Wa.heap.size gs Wa (Nat.le_refl _) (gls Wa b6a) hGs
            rw [hGl] at C28
            refine VCall.mk _ C28 ?_
            clear C28
            rintro _ Wb ⟨⟨D1, d1, rs1, rfl, hs1, FD1⟩, bb⟩
            refine ⟨_, rfl, ?_⟩
            have b6b : Below W6.heap.size W6 Wb := b6a.trans (bb.mono b6a.size)
            have FD1' := FD1.fls
            rw [hs1] at FD1'
            have C15 := rcut_any D1 d1 Wb.heap.size gs Wb (Nat.le_refl _) FD1' (by omega)
            rw [hGl] at C15
            repeat ((conv => whnf); first | (refine VCmp.tt (by omega) ?_) | (refine VCmp.ff (by omega) ?_) | (refine VIn.mk (IntWalk.i64_in _ (by omega)) ?_) | (refine VIdx.mk _ rfl (by omega) ?_) | (refine VIdx.mk 0 rfl (by omega) ?_))
            try (conv => whnf)
            refine VCall.mk _ C15 ?_
            clear C15 FD1 FD1'
            rintro _ Wc ⟨⟨kk', n1', rfl, Q1⟩, bc⟩
            refine ⟨_, rfl, ?_⟩
            obtain ⟨rfl, rfl⟩ := cutIs_one P1 Q1
            have b6c : Below W6.heap.size W6 Wc := b6b.trans (bc.mono b6b.size)
            -- the document's Lacks
            have bdc : Below Wc.heap.size Wc Wc.drew := (Below.refl _ _).drew
            have up6 : ∀ W, Below Wc.heap.size Wc W → Below W6.heap.size W6 W := fun W hW => b6c.trans (hW.mono b6c.size)
            have K6 : Ld Try.prog 3 W0.heap.size 8 (fun W => Below Wc.heap.size Wc W) (.int .i64 d.done) := ⟨fun W hW => load3 ((aC W (up6 W hW)).1 8 _ rfl)⟩
            have K7 : Ld Try.prog 39 gO 0 (fun W => Below Wc.heap.size Wc W) (.agg (flc r0.f.e r0.f.l r0.f.i r0.f.c r0.f.base r0.X r0.f.slots.length r0.cX r0.Y r0.f.have_.length r0.cY)) := ⟨fun W hW => load39 ((aO W (up6 W hW)).1)⟩
            have ho1 : r0.f.slots.length ≤ 1048576 := by rw [hr0]; exact hd.o1
            have ho2 : r0.f.have_.length ≤ 1048576 := by rw [hr0]; exact hd.o2
            repeat ((conv => whnf); first | (refine VCmp.tt (by omega) ?_) | (refine VCmp.ff (by omega) ?_) | (refine VIn.mk (IntWalk.i64_in _ (by omega)) ?_) | (refine VIdx.mk _ rfl (by omega) ?_) | (refine VIdx.mk 0 rfl (by omega) ?_))
            try (conv => whnf)
            refine VDraw.mk 1000 [([0, 1, 2, 3, 4, 6], 5), ([], 7), ([], 8)] [9, 10, 11, 12, 13] (fun W => Below Wc.heap.size Wc W) (by kernel_rfl) (by kernel_rfl) (bdc) ?_
            repeat ((conv => whnf); first | (refine VLoad.mk _ K6 ?_) | (refine VLoad.mk _ K7 ?_) | (refine VCmp.tt (by omega) ?_) | (refine VCmp.ff (by omega) ?_) | (refine VIn.mk (IntWalk.i64_in _ (by omega)) ?_) | (refine VIdx.mk _ rfl (by omega) ?_) | (refine VIdx.mk 0 rfl (by omega) ?_))
            try (conv => whnf)
            refine VCall.mk _ (one_own r0.f r0.X r0.Y r0.cX r0.cY Wc.drew.heap.size Wc.drew (Nat.le_refl _) (aO _ (up6 _ bdc)).2 (by omega) (by omega)) ?_
            rintro _ Wd ⟨⟨X1, cX1, Y1, cY1, rfl, oX, oY⟩, bd⟩
            refine ⟨_, rfl, ?_⟩
            have bcd : Below Wc.heap.size Wc Wd := bdc.trans bd
            repeat ((conv => whnf); first | (refine VS.mk bcd ?_) | (refine VCmp.tt (by omega) ?_) | (refine VCmp.ff (by omega) ?_) | (refine VIn.mk (IntWalk.i64_in _ (by omega)) ?_) | (refine VIdx.mk _ rfl (by omega) ?_) | (refine VIdx.mk 0 rfl (by omega) ?_))
            try (conv => whnf)
            have C28 := many_w A cA Wd.heap.size gs Wd (Nat.le_refl _) (gls Wd (up6 _ bcd)) hGs
            rw [hGl] at C28
            refine VCall.mk _ C28 ?_
            clear C28
            rintro _ We ⟨⟨D2, d2, rs2, rfl, hs2, FD2⟩, be⟩
            refine ⟨_, rfl, ?_⟩
            have bce : Below Wc.heap.size Wc We := bcd.trans (be.mono bcd.size)
            have FD2' := FD2.fls
            rw [hs2] at FD2'
            have oX2 := oX.below be
            have oY2 := oY.below be
            have C25 := rlacks_any d.done r0.f X1 Y1 D2 cX1 cY1 d2 We.heap.size gs We (Nat.le_refl _) ⟨oX2.row len_eSlot, oY2.row len_eInt, oX2.len, oX2.cap, oY2.len, oY2.cap⟩ FD2' (by omega)
            rw [hGl] at C25
            repeat ((conv => whnf); first | (refine VS.mk bce ?_) | (refine VCmp.tt (by omega) ?_) | (refine VCmp.ff (by omega) ?_) | (refine VIn.mk (IntWalk.i64_in _ (by omega)) ?_) | (refine VIdx.mk _ rfl (by omega) ?_) | (refine VIdx.mk 0 rfl (by omega) ?_))
            try (conv => whnf)
            refine VCall.mk _ C25 ?_
            clear C25 FD2 FD2' oX oY oX2 oY2
            rintro _ Wf ⟨⟨B1', c1', l1', n2', rfl, Q2, own1'⟩, bf⟩
            refine ⟨_, rfl, ?_⟩
            obtain ⟨rfl, rfl⟩ := lacks_one P2 Q2
            have bcf : Below Wc.heap.size Wc Wf := bce.trans (bf.mono bce.size)
            have b6f := up6 _ bcf
            repeat ((conv => whnf); first | (refine VS.mk bcf ?_) | (refine VCmp.tt (by omega) ?_) | (refine VCmp.ff (by omega) ?_) | (refine VIn.mk (IntWalk.i64_in _ (by omega)) ?_) | (refine VIdx.mk _ rfl (by omega) ?_) | (refine VIdx.mk 0 rfl (by omega) ?_))
            try (conv => whnf)
            -- the document's Duty
            have bdf : Below Wf.heap.size Wf Wf.drew := (Below.refl _ _).drew
            have up7 : ∀ W, Below Wf.heap.size Wf W → Below W6.heap.size W6 W := fun W hW => b6f.trans (hW.mono b6f.size)
            have K8 : Ld Try.prog 3 W0.heap.size 10 (fun W => Below Wf.heap.size Wf W) (.int .i64 d.self) := ⟨fun W hW => load3 ((aC W (up7 W hW)).1 10 _ rfl)⟩
            have K9 : Ld Try.prog 3 W0.heap.size 11 (fun W => Below Wf.heap.size Wf W) (.int .i64 d.q) := ⟨fun W hW => load3 ((aC W (up7 W hW)).1 11 _ rfl)⟩
            refine VDraw.mk 1000 [([0, 1, 2, 3, 5, 7], 4), ([], 6), ([], 8), ([], 9)] [10, 11, 12, 13, 14] (fun W => Below Wf.heap.size Wf W) (by kernel_rfl) (by kernel_rfl) (bdf) ?_
            repeat ((conv => whnf); first | (refine VLoad.mk _ K8 ?_) | (refine VLoad.mk _ K9 ?_) | (refine VCmp.tt (by omega) ?_) | (refine VCmp.ff (by omega) ?_) | (refine VIn.mk (IntWalk.i64_in _ (by omega)) ?_) | (refine VIdx.mk _ rfl (by omega) ?_) | (refine VIdx.mk 0 rfl (by omega) ?_))
            try (conv => whnf)
            refine VBs.mk _ _ (bs37z Wf.drew) ?_
            have bfg : Below Wf.heap.size Wf (Wf.drew.alloc (.cells #[] 3)) := bdf.alloc (Nat.le_refl _) _
            have zg : (Wf.drew.alloc (.cells #[] 3)).heap.size = Wf.heap.size + 1 := by simp
            generalize Wf.drew.alloc (.cells #[] 3) = Wg at bfg zg ⊢
            repeat ((conv => whnf); first | (refine VS.mk bfg ?_) | (refine VCmp.tt (by omega) ?_) | (refine VCmp.ff (by omega) ?_) | (refine VIn.mk (IntWalk.i64_in _ (by omega)) ?_) | (refine VIdx.mk _ rfl (by omega) ?_) | (refine VIdx.mk 0 rfl (by omega) ?_))
            try (conv => whnf)
            refine VApp.rowsW Wg.heap.size 1 8 _ Try.underlying37 info3 rfl (by decide) eInt len_eInt one_eInt ([] : List Int) d.who rfl ⟨Nat.zero_le _, fun h => absurd h (by omega)⟩ (aC Wg (up7 _ bfg)).2.1 (by omega) (by omega) (Nat.le_refl _) fun E cE Wh oE hgE hkE => ?_
            have bgh : Below Wg.heap.size Wg Wh := (Below.refl _ _).grown hgE (Nat.le_refl _) (fun k hk => by cases hk)
            have bfh : Below Wf.heap.size Wf Wh := bfg.trans (bgh.mono (by omega))
            repeat ((conv => whnf); first | (refine VS.mk bfh ?_) | (refine VCmp.tt (by omega) ?_) | (refine VCmp.ff (by omega) ?_) | (refine VIn.mk (IntWalk.i64_in _ (by omega)) ?_) | (refine VIdx.mk _ rfl (by omega) ?_) | (refine VIdx.mk 0 rfl (by omega) ?_))
            try (conv => whnf)
            have C28 := many_w A cA Wh.heap.size gs Wh (Nat.le_refl _) (gls Wh (up7 _ bfh)) hGs
            rw [hGl] at C28
            refine VCall.mk _ C28 ?_
            clear C28
            rintro _ Wi ⟨⟨D3, d3, rs4, rfl, hs4, FD3⟩, bi⟩
            refine ⟨_, rfl, ?_⟩
            have bfi : Below Wf.heap.size Wf Wi := bfh.trans (bi.mono bfh.size)
            have FD3' := FD3.fls
            rw [hs4] at FD3'
            have C36 := rduty_any d.self d.q E D3 cE d3 Wi.heap.size d.who gs Wi (Nat.le_refl _) ((oE.below bi).row len_eInt) FD3' (by omega) (by omega)
            rw [hGl] at C36
            repeat ((conv => whnf); first | (refine VS.mk bfi ?_) | (refine VCmp.tt (by omega) ?_) | (refine VCmp.ff (by omega) ?_) | (refine VIn.mk (IntWalk.i64_in _ (by omega)) ?_) | (refine VIdx.mk _ rfl (by omega) ?_) | (refine VIdx.mk 0 rfl (by omega) ?_))
            try (conv => whnf)
            refine VCall.mk _ C36 ?_
            clear C36 FD3 FD3' oE
            rintro _ Wj ⟨⟨B2', c2', l2', n3', rfl, Q3, own2'⟩, bj⟩
            refine ⟨_, rfl, ?_⟩
            obtain ⟨rfl, rfl⟩ := duty_one P3 Q3
            have bfj : Below Wf.heap.size Wf Wj := bfi.trans (bj.mono bfi.size)
            have b6j := up7 _ bfj
            repeat ((conv => whnf); first | (refine VS.mk bfj ?_) | (refine VCmp.tt (by omega) ?_) | (refine VCmp.ff (by omega) ?_) | (refine VIn.mk (IntWalk.i64_in _ (by omega)) ?_) | (refine VIdx.mk _ rfl (by omega) ?_) | (refine VIdx.mk 0 rfl (by omega) ?_))
            try (conv => whnf)
            -- the document's Rest
            have bdj : Below Wj.heap.size Wj Wj.drew := (Below.refl _ _).drew
            have up8 : ∀ W, Below Wj.heap.size Wj W → Below W6.heap.size W6 W := fun W hW => b6j.trans (hW.mono b6j.size)
            have Ka : Ld Try.prog 3 W0.heap.size 8 (fun W => Below Wj.heap.size Wj W) (.int .i64 d.done) := ⟨fun W hW => load3 ((aC W (up8 W hW)).1 8 _ rfl)⟩
            refine VDraw.mk 1000 [([0, 1, 2, 4], 3), ([], 5), ([], 6)] [7, 8, 9, 10, 11] (fun W => Below Wj.heap.size Wj W) (by kernel_rfl) (by kernel_rfl) (bdj) ?_
            repeat ((conv => whnf); first | (refine VLoad.mk _ Ka ?_) | (refine VCmp.tt (by omega) ?_) | (refine VCmp.ff (by omega) ?_) | (refine VIn.mk (IntWalk.i64_in _ (by omega)) ?_) | (refine VIdx.mk _ rfl (by omega) ?_) | (refine VIdx.mk 0 rfl (by omega) ?_))
            try (conv => whnf)
            have C28 := many_w A cA Wj.drew.heap.size gs Wj.drew (Nat.le_refl _) (gls _ (up8 _ bdj)) hGs
            rw [hGl] at C28
            refine VCall.mk _ C28 ?_
            clear C28
            rintro _ Wk ⟨⟨D4, d4, rs5, rfl, hs5, FD4⟩, bk⟩
            refine ⟨_, rfl, ?_⟩
            have bjk : Below Wj.heap.size Wj Wk := bdj.trans bk
            repeat ((conv => whnf); first | (refine VS.mk bjk ?_) | (refine VCmp.tt (by omega) ?_) | (refine VCmp.ff (by omega) ?_) | (refine VIn.mk (IntWalk.i64_in _ (by omega)) ?_) | (refine VIdx.mk _ rfl (by omega) ?_) | (refine VIdx.mk 0 rfl (by omega) ?_))
            try (conv => whnf)
            have C18 := datas_w M cM Wk.heap.size rl Wk (Nat.le_refl _) (aC Wk (up8 _ bjk)).2.2 hok.small
            rw [hrl] at C18
            refine VCall.mk _ C18 ?_
            clear C18
            rintro _ Wl ⟨⟨G, cG, al, rfl, hal, FG⟩, bl⟩
            refine ⟨_, rfl, ?_⟩
            have bjl : Below Wj.heap.size Wj Wl := bjk.trans (bl.mono bjk.size)
            have FD4' := (FD4.below bl).fls
            rw [hs5] at FD4'
            have FG' := FG.dts
            rw [hal] at FG'
            have C20 := rrest_any d.done D4 G d4 cG Wl.heap.size gs (rl.map Dr.d) Wl (Nat.le_refl _) FD4' FG' (by omega) hok.small
            rw [hGl, hml] at C20
            repeat ((conv => whnf); first | (refine VS.mk bjl ?_) | (refine VCmp.tt (by omega) ?_) | (refine VCmp.ff (by omega) ?_) | (refine VIn.mk (IntWalk.i64_in _ (by omega)) ?_) | (refine VIdx.mk _ rfl (by omega) ?_) | (refine VIdx.mk 0 rfl (by omega) ?_))
            try (conv => whnf)
            refine VCall.mk _ C20 ?_
            clear C20 FD4 FD4' FG FG'
            rintro _ Wm ⟨⟨B3', c3', rs3', n4', rfl, Q4, own3'⟩, bm⟩
            refine ⟨_, rfl, ?_⟩
            obtain ⟨hrs3, rfl⟩ := rest_one P4 Q4
            have bjm : Below Wj.heap.size Wj Wm := bjl.trans (bm.mono bjl.size)
            have hl3 : rs3'.length = rs3.length := by have := congrArg List.length hrs3; simpa using this.symm
            rw [hl3]
            have hfm : Below Wf.heap.size Wf Wm := bfj.trans (bjm.mono bfj.size)
            have hcm : Below Wc.heap.size Wc Wm := bcf.trans (hfm.mono bcf.size)
            have hbm : Below Wb.heap.size Wb Wm := bc.trans (hcm.mono bc.size)
            have ham : Below Wa.heap.size Wa Wm := bb.trans (hbm.mono bb.size)
            have h9m : Below W9.heap.size W9 Wm := ba.trans (ham.mono ba.size)
            have h8m : Below W8.heap.size W8 Wm := b9.trans (h9m.mono b9.size)
            have sA := ((own1.row len_eSlot).below h8m (Nat.le_refl _)).more h8m.size
            have sA' := ((own1'.row len_eSlot).below hfm (Nat.le_refl _)).more hfm.size
            have sB := ((own2.row len_eSlot).below h9m (Nat.le_refl _)).more h9m.size
            have sB' := ((own2'.row len_eSlot).below bjm (Nat.le_refl _)).more bjm.size
            have sM := ((msOwn_dts own3).below ham (Nat.le_refl _)).more ham.size
            have sM' := msOwn_dts own3'
            rw [← hrs3] at sM'
            have q1 := own1.len
            have q2 := own2.len
            have q3 := own3.row.len
            -- the comparison
            repeat ((conv => whnf); first | (refine VS.mk bjm ?_) | (refine VCmp.tt (by omega) ?_) | (refine VCmp.ff (by omega) ?_) | (refine VIn.mk (IntWalk.i64_in _ (by omega)) ?_) | (refine VIdx.mk _ rfl (by omega) ?_) | (refine VIdx.mk 0 rfl (by omega) ?_))
            try (conv => whnf)
            refine VCall.mk _ (num_any n1 Wm) ?_
            rintro _ Wn ⟨rfl, hWn⟩
            refine ⟨_, rfl, ?_⟩
            rw [← hWn]
            repeat ((conv => whnf); first | (refine VCmp.tt (by omega) ?_) | (refine VCmp.ff (by omega) ?_) | (refine VIn.mk (IntWalk.i64_in _ (by omega)) ?_) | (refine VIdx.mk _ rfl (by omega) ?_) | (refine VIdx.mk 0 rfl (by omega) ?_))
            try (conv => whnf)
            refine VCall.mk _ (sameSlots_yes B1 B1' c1 c1' Wm.heap.size l1 Wm (Nat.le_refl _) sA sA' (by omega)) ?_
            rintro _ Wo ⟨rfl, bo⟩
            refine ⟨_, rfl, ?_⟩
            repeat ((conv => whnf); first | (refine VCmp.tt (by omega) ?_) | (refine VCmp.ff (by omega) ?_) | (refine VIn.mk (IntWalk.i64_in _ (by omega)) ?_) | (refine VIdx.mk _ rfl (by omega) ?_) | (refine VIdx.mk 0 rfl (by omega) ?_))
            try (conv => whnf)
            refine VCall.mk _ (num_any n2 Wo) ?_
            rintro _ Wp ⟨rfl, hWp⟩
            refine ⟨_, rfl, ?_⟩
            rw [← hWp]
            repeat ((conv => whnf); first | (refine VCmp.tt (by omega) ?_) | (refine VCmp.ff (by omega) ?_) | (refine VIn.mk (IntWalk.i64_in _ (by omega)) ?_) | (refine VIdx.mk _ rfl (by omega) ?_) | (refine VIdx.mk 0 rfl (by omega) ?_))
            try (conv => whnf)
            refine VCall.mk _ (sameSlots_yes B2 B2' c2 c2' Wm.heap.size l2 Wo bo.size (sB.below bo (Nat.le_refl _)) (sB'.below bo (Nat.le_refl _)) (by omega)) ?_
            rintro _ Wq ⟨rfl, bq⟩
            refine ⟨_, rfl, ?_⟩
            have bmq : Below Wm.heap.size Wm Wq := bo.trans (bq.mono bo.size)
            repeat ((conv => whnf); first | (refine VCmp.tt (by omega) ?_) | (refine VCmp.ff (by omega) ?_) | (refine VIn.mk (IntWalk.i64_in _ (by omega)) ?_) | (refine VIdx.mk _ rfl (by omega) ?_) | (refine VIdx.mk 0 rfl (by omega) ?_))
            try (conv => whnf)
            refine VCall.mk _ (num_any n3 Wq) ?_
            rintro _ Wr ⟨rfl, hWr⟩
            refine ⟨_, rfl, ?_⟩
            rw [← hWr]
            have C21 := sameMsgs_yes B3 B3' c3 c3' Wm.heap.size (rs3.map Dr.d) Wq bmq.size (sM.below bmq (Nat.le_refl _)) (sM'.below bmq (Nat.le_refl _)) (by rw [List.length_map]; omega)
            rw [List.length_map] at C21
            repeat ((conv => whnf); first | (refine VCmp.tt (by omega) ?_) | (refine VCmp.ff (by omega) ?_) | (refine VIn.mk (IntWalk.i64_in _ (by omega)) ?_) | (refine VIdx.mk _ rfl (by omega) ?_) | (refine VIdx.mk 0 rfl (by omega) ?_))
            try (conv => whnf)
            refine VCall.mk _ C21 ?_
            clear C21
            rintro _ Ws ⟨rfl, bs⟩
            refine ⟨_, rfl, ?_⟩
            have bms : Below Wm.heap.size Wm Ws := bmq.trans (bs.mono bmq.size)
            repeat ((conv => whnf); first | (refine VCmp.tt (by omega) ?_) | (refine VCmp.ff (by omega) ?_) | (refine VIn.mk (IntWalk.i64_in _ (by omega)) ?_) | (refine VIdx.mk _ rfl (by omega) ?_) | (refine VIdx.mk 0 rfl (by omega) ?_))
            try (conv => whnf)
            refine VCall.mk _ (num_any n4 Ws) ?_
            rintro _ Wt ⟨rfl, hWt⟩
            refine ⟨_, rfl, ?_⟩
            rw [← hWt]
            have b6s : Below W6.heap.size W6 Ws := (up8 _ bjm).trans (bms.mono (up8 _ bjm).size)
            have Rs := R6.below b6s
            have bVs : Below wB.heap.size wB Ws := bV6.trans (b6s.mono R6.z)
            repeat ((conv => whnf); first | (refine VCmp.tt (by omega) ?_) | (refine VCmp.ff (by omega) ?_) | (refine VIn.mk (IntWalk.i64_in _ (by omega)) ?_) | (refine VIdx.mk _ rfl (by omega) ?_) | (refine VIdx.mk 0 rfl (by omega) ?_))
            try (conv => whnf)
            refine .mk (k + 1, ⟨A, cA, ra', some ⟨gO, 0, none⟩, cO, [r0], C', cC', d.who, M, cM, rl⟩) ⟨rfl, rfl, rfl, rfl, rfl, by show some (Value.slice M rm.length cM) = some (Value.slice M rl.length cM); rw [hrl], rfl, trivial⟩ ⟨hk3, Rs.other (by have := bVs.size; omega) (hx _ bVs).1 (by omega), bVs, hla, rfl, hok⟩ (by show 3 - (k + 1) < 3 - k; omega)
          case pos =>
            obtain ⟨bM, oM, hMx, hbM, hrow⟩ := (hYY _ b0).ms.row (by omega)
            have hpi : d.ms[i]? = some d.ms[i] := List.getElem?_eq_getElem h2
            have hpm : d.ms[i] ∈ d.ms := List.getElem_mem _
            generalize d.ms[i] = p at hpi hpm
            have hpd : p.d ∈ d.ms.map Dr.d := List.mem_map.2 ⟨p, hpm, rfl⟩
            have hps := hd.sd.2 p.d hpd
            have rowX : ∀ W, Below wB.heap.size wB W → W.rangeAt bM (oM + i * 4) (eDr p) := fun W hW j u hu => (hW.cell (p := ⟨bM, _, none⟩) (by show bM < wB.heap.size; omega)).trans (hrow i p hpi j u hu)
            have hir : i < rl.length := by omega
            have hri : rl[i]? = some rl[i] := List.getElem?_eq_getElem hir
            have hrm' : rl[i] ∈ rl := List.getElem_mem _
            generalize rl[i] = r at hri hrm'
            have o1 := R6.m.each r hrm'
            have hown := R6.m.own
            dsimp only at o1 hown
            obtain ⟨gM, hMe, hcM⟩ := hown.cell len_eDr hri
            subst hMe
            have hgM := hown.lo gM rfl
            have nM : gM ∉ (bw r.B r.c).toList := fun hm => o1.neO hown (by decide) gM (by simpa [Option.mem_toList] using hm) rfl
            have nb : W0.heap.size ∉ (bw r.B r.c).toList := fun hm => R6.bm (mblks_X hrm' (by simpa [Option.mem_toList] using hm))
            have lB : ∀ k ∈ (bw r.B r.c).toList, wB.heap.size ≤ k := fun k hk => (o1.lo k (by simpa [Option.mem_toList] using hk)).1
            rw [hMx] at M3
            have T1 : Ld Try.prog 52 gM (0 + i * 4 + 3) (fun W => Fx (bw r.B r.c).toList W6 W) (.slice r.B r.d.body.length r.c) := ⟨fun W hW => load52 (by rw [Nat.zero_add, hW.cell hgM.2 nM]; exact hcM 3 _ rfl)⟩
            have T2 : Ld Try.prog 40 W0.heap.size 12 (fun W => Fx (bw r.B r.c).toList W6 W) (.slice (some ⟨bM, oM, none⟩) d.ms.length d.cM) := ⟨fun W hW => load_cell (by kernel_rfl) (by rw [← hMx]; exact (range_same R6.r (hW.block _ R6.bz nb)) 12 _ rfl)⟩
            have T3 : Ld Try.prog 52 bM (oM + i * 4 + 3) (fun W => Fx (bw r.B r.c).toList W6 W) (.slice p.B p.d.body.length p.c) := ⟨fun W hW => load52 (rowX W (bV6.trans (hW.to lB R6.z)) 3 _ rfl)⟩
            repeat ((conv => whnf); first | (refine VLoad.mk _ M3 ?_) | (refine VCmp.tt (by omega) ?_) | (refine VCmp.ff (by omega) ?_) | (refine VIn.mk (IntWalk.i64_in _ (by omega)) ?_) | (refine VIdx.mk _ rfl (by omega) ?_) | (refine VIdx.mk 0 rfl (by omega) ?_))
            try (conv => whnf)
            refine VDraw.mk 1000 [([0, 1, 2, 3, 4, 5, 6, 7, 8, 9, 10, 11], 12)] [13] (fun W => Fx (bw r.B r.c).toList W6 W) (by kernel_rfl) (by kernel_rfl) ((Fx.refl _ _).drew) ?_
            repeat ((conv => whnf); first | (refine VLoad.mk _ T1 ?_) | (refine VLoad.mk _ T2 ?_) | (refine VLoad.mk _ T3 ?_) | (refine VSl.zero ?_) | (refine VCmp.tt (by omega) ?_) | (refine VCmp.ff (by omega) ?_) | (refine VIn.mk (IntWalk.i64_in _ (by omega)) ?_) | (refine VIdx.mk _ rfl (by omega) ?_) | (refine VIdx.mk 0 rfl (by omega) ?_))
            try (conv => whnf)
            refine VApp.rowsW wB.heap.size 1 1 _ Try.underlying52 info5 rfl (by decide) eByte len_eByte one_eByte r.d.body p.d.body rfl (show OwnW W6.drew wB.heap.size 5 1 eByte r.B r.c r.d.body from ⟨o1.len, o1.own⟩) ((hYY _ bV6.drew).ms.each p hpm).row (by omega) (by omega) (by show wB.heap.size ≤ W6.heap.size; exact R6.z) fun B' c' W7 hB7 hg7 hk7 => ?_
            have f7 : Fx (bw r.B r.c).toList W6 W7 := .undrew (.grown hg7 fun k hk => by rw [hk]; simp)
            have z7 := f7.size
            have bV7 : Below wB.heap.size wB W7 := bV6.trans (f7.to lB R6.z)
            have own7 : Owns W7 wB.heap.size 113 4 eDr (some ⟨gM, 0, none⟩) cM rl := hown.fx f7 fun k hk hm => by injection hk with hk; subst hk; exact nM hm
            have N1 : Ld Try.prog 40 W0.heap.size 12 (Eq W7) (.slice (some ⟨bM, oM, none⟩) d.ms.length d.cM) := T2.at f7
            have N2 : Ld Try.prog 113 bM (oM + i * 4) (Eq W7) (.agg (drA p)) := .of (load113 (rowX W7 bV7))
            have h4 : (i + 1) * 4 ≤ rl.length * 4 := Nat.mul_le_mul_right _ hir
            have th7 : W7.there gM (0 + i * 4) (drA p).size := fun j hj => by
              have hj : j < 4 := hj
              have := own7.there len_eDr (i * 4 + j) (by omega)
              rw [show 0 + i * 4 + j = 0 + (i * 4 + j) by omega]; exact this
            repeat ((conv => whnf); first | (refine VS.mk f7 ?_) | (refine VLoad.mk _ N1 ?_) | (refine VLoad.mk _ N2 ?_) | (refine VCmp.tt (by omega) ?_) | (refine VCmp.ff (by omega) ?_) | (refine VIn.mk (IntWalk.i64_in _ (by omega)) ?_) | (refine VIdx.mk _ rfl (by omega) ?_) | (refine VIdx.mk 0 rfl (by omega) ?_))
            try (conv => whnf)
            refine VStore.mid th7 (by kernel_rfl) (one_drA p) fun W8 hW8 => ?_
            have own8 : Owns W8 wB.heap.size 113 4 eDr (some ⟨gM, 0, none⟩) cM (rl.set i p) := by
              rw [hW8.out, show 0 + mulO i 4 = i * 4 by rw [mulO_eq]; omega]
              exact own7.sets len_eDr hir p
            have g8 : W7.grownBy W8 (some gM) := by rw [hW8.out]; exact grown_sets _ _ _ _
            clear hW8
            have th8 := own8.there len_eDr
            have hlen8 : (rl.set i p).length = rl.length := List.length_set ..
            rw [hlen8] at th8
            have t3 := th8 (i * 4 + 3) (by omega)
            rw [show 0 + (i * 4 + 3) = 0 + i * 4 + 3 by omega] at t3
            repeat ((conv => whnf); first | (refine VCmp.tt (by omega) ?_) | (refine VCmp.ff (by omega) ?_) | (refine VIn.mk (IntWalk.i64_in _ (by omega)) ?_) | (refine VIdx.mk _ rfl (by omega) ?_) | (refine VIdx.mk 0 rfl (by omega) ?_))
            try (conv => whnf)
            refine VStore.cell (by kernel_rfl) t3.1 t3.2 rfl rfl fun W9 hW9 => ?_
            have own9 : Owns W9 wB.heap.size 113 4 eDr (some ⟨gM, 0, none⟩) cM (rl.set i ⟨p.d, B', c'⟩) := by
              rw [hW9.out, show addO (0 + mulO i 4) 3 = i * 4 + 3 by rw [mulO_eq, addO_eq]; omega]
              have := own8.field (k := i) (j := 3) (x := p) (x' := ⟨p.d, B', c'⟩) (v := .slice B' p.d.body.length c') len_eDr (List.getElem?_set_self hir) rfl (by omega)
              rw [List.set_set] at this; exact this
            have g9 : W8.grownBy W9 (some gM) := by rw [hW9.out]; exact grown_cell _ _ _ _
            clear hW9
            have f79 : Fx (blk (some (⟨gM, 0, none⟩ : Addr))).toList W7 W9 := .grown (g8.trans g9) fun k hk => by injection hk with hk; subst hk; exact List.mem_singleton.2 rfl
            have f69 : Fx ((blk (some (⟨gM, 0, none⟩ : Addr))).toList ++ (bw r.B r.c).toList) W6 W9 := (f7.more fun k hk => List.mem_append.2 (.inr hk)).trans f79 fun k hk => .inl (List.mem_append.2 (.inl hk))
            have hB9 : OwnW W9 wB.heap.size 5 1 eByte B' c' p.d.body := hB7.fx f79 fun k hk hm => hB7.neO own7 (by decide) k hk (by simpa [Option.mem_toList] using hm)
            have kB : ∀ k, bw B' c' = some k → bw r.B r.c = some k ∨ W6.heap.size ≤ k := fun k hk => by
              rcases hk7 k hk with e | e
              · exact .inl e
              · right; rw [e]; exact Nat.le_refl _
            have P9 := R6.m.put (r' := ⟨p.d, B', c'⟩) hri f69 own9 hB9 kB
            have inM : ∀ k ∈ (blk (some (⟨gM, 0, none⟩ : Addr))).toList ++ (bw r.B r.c).toList, k ∈ mblks (some ⟨gM, 0, none⟩) rl := fun k hk => by
              rcases List.mem_append.1 hk with hk | hk
              · exact mblks_B (by simpa [Option.mem_toList] using hk)
              · exact mblks_X hrm' (by simpa [Option.mem_toList] using hk)
            have R9 := R6.setM (f69.more inM) P9 fun k hk => by
              rcases mblks_of hk with e | ⟨x, hx', e⟩
              · exact .inl (mblks_B e)
              · obtain ⟨q, hq⟩ := List.mem_iff_getElem?.1 hx'
                by_cases e1 : q = i
                · subst e1
                  rw [List.getElem?_set_self hir] at hq
                  injection hq with hq; subst hq
                  rcases kB k e with e | e
                  · exact .inl (mblks_X hrm' e)
                  · exact .inr e
                · rw [List.getElem?_set_ne (fun e2 => e1 e2.symm)] at hq
                  exact .inl (mblks_X (List.mem_of_getElem? hq) e)
            have bV9 : Below wB.heap.size wB W9 := bV6.trans (f69.to (fun k hk => (R6.m.blks k (inM k hk)).1) R6.z)
            repeat ((conv => whnf); first | (refine VCmp.tt (by omega) ?_) | (refine VCmp.ff (by omega) ?_) | (refine VIn.mk (IntWalk.i64_in _ (by omega)) ?_) | (refine VIdx.mk _ rfl (by omega) ?_) | (refine VIdx.mk 0 rfl (by omega) ?_))
            try (conv => whnf)
            refine .mk (i + 1, rl.set i ⟨p.d, B', c'⟩) ⟨rfl, rfl, rfl, rfl, rfl, rfl, rfl, rfl, rfl, trivial⟩ ⟨h1, by show (rl.set i _).length = _; rw [List.length_set]; exact hrl, hok.set hps (hd.kd p.d hpd), R9, bV9⟩ (by show rm.length - (i + 1) < rm.length - i; omega)
      case neg =>
        have hYY : ∀ W, Below wB.heap.size wB W → CxAt W N c := fun W hW => (hx W hW).2.2.1
        have cV : Below W0.heap.size W0 V1 := by rw [hV1.out]; exact (Below.refl _ _).alloc (Nat.le_refl _) _
        have zV : V1.heap.size = W0.heap.size + 1 := by rw [hV1.out]; simp
        have rV : V1.rangeAt W0.heap.size 0 (cxA c).toList := by rw [hV1.out]; exact range_new W0 (cxA c) 42
        have R1 : Room wB.heap.size W0.heap.size (cxA c).toList ⟨A, cA, ra, O, cO, ro, C, cC, lc, M, cM, rm⟩ V1 := R.fresh cV (by omega) rV (Nat.le_refl _)
        have bV : Below wB.heap.size wB V1 := bB.trans (cV.mono R.z)
        have hXs := hc.sm.1
        have hXw := hc.wl
        have zz := R.z
        -- the contents
        have M0 : Ld Try.prog 22 W0.heap.size 0 (Eq V1) (.slice c.A c.fs.length c.cA) := .of (load_cell (by kernel_rfl) (rV 0 _ rfl))
        have C1 := laid_any (cA := c.cA) R1.a R1.z (show N ≤ wB.heap.size by omega) (InFs.of (hYY _ bV).fls (by omega) R1.z fun k hk => (R1.a.blks k hk).1) hc.sm (by rw [hra]; exact hn1)
        rw [hra] at C1
        repeat ((conv => whnf); first | (refine VLoad.mk _ M0 ?_) | (refine VCmp.tt (by omega) ?_) | (refine VCmp.ff (by omega) ?_) | (refine VIn.mk (IntWalk.i64_in _ (by omega)) ?_) | (refine VIdx.mk _ rfl (by omega) ?_) | (refine VIdx.mk 0 rfl (by omega) ?_))
        try (conv => whnf)
        refine VCall.mk _ C1 ?_
        rintro _ W2 ⟨rfl, ra', hla, hfa, FA, xA, kA⟩
        refine ⟨_, rfl, ?_⟩
        clear C1
        have R2 : Room wB.heap.size W0.heap.size (cxA c).toList ⟨A, cA, ra', O, cO, ro, C, cC, lc, M, cM, rm⟩ W2 := R1.setA xA FA kA
        have bV2 : Below wB.heap.size wB W2 := bV.trans (xA.to (fun k hk => (R1.a.blks k hk).1) R1.z)
        clear xA FA kA R1
        -- the own one
        have M1 : Ld Try.prog 39 W0.heap.size 1 (Eq W2) (.agg (flc c.own.e c.own.l c.own.i c.own.c c.own.base c.X c.own.slots.length c.cX c.Y c.own.have_.length c.cY)) := .of (load39 (range_sub (n := 7) R2.r 1 rfl))
        repeat ((conv => whnf); first | (refine VLoad.mk _ M1 ?_) | (refine VCmp.tt (by omega) ?_) | (refine VCmp.ff (by omega) ?_) | (refine VIn.mk (IntWalk.i64_in _ (by omega)) ?_) | (refine VIdx.mk _ rfl (by omega) ?_) | (refine VIdx.mk 0 rfl (by omega) ?_))
        try (conv => whnf)
        refine VBs.mk _ _ (bs22 W2 c.own.e c.own.l c.own.i c.own.c c.own.base c.X c.own.slots.length c.cX c.Y c.own.have_.length c.cY) ?_
        have b3 : Below W2.heap.size W2 (W2.alloc (.cells (flc c.own.e c.own.l c.own.i c.own.c c.own.base c.X c.own.slots.length c.cX c.Y c.own.have_.length c.cY) 39)) := (Below.refl _ _).alloc (Nat.le_refl _) _
        have z3 : (W2.alloc (.cells (flc c.own.e c.own.l c.own.i c.own.c c.own.base c.X c.own.slots.length c.cX c.Y c.own.have_.length c.cY) 39)).heap.size = W2.heap.size + 1 := by simp
        have r3 : (W2.alloc (.cells (flc c.own.e c.own.l c.own.i c.own.c c.own.base c.X c.own.slots.length c.cX c.Y c.own.have_.length c.cY) 39)).rangeAt W2.heap.size 0 (flc c.own.e c.own.l c.own.i c.own.c c.own.base c.X c.own.slots.length c.cX c.Y c.own.have_.length c.cY).toList := range_new W2 _ 39
        generalize W2.alloc (.cells (flc c.own.e c.own.l c.own.i c.own.c c.own.base c.X c.own.slots.length c.cX c.Y c.own.have_.length c.cY) 39) = W3 at b3 z3 r3 ⊢
        have R3 := R2.below b3
        have bV3 : Below wB.heap.size wB W3 := bV2.trans (b3.mono R2.z)
        have C2 := laid_any (cA := 1) R3.o R3.z (show N ≤ wB.heap.size by omega) (inFs_one (show W2.heap.size < W3.heap.size by omega) (fun hm => by have := (R2.o.blks _ hm).2; omega) r3 (hYY _ bV3).own) (small_own hc.o1 hc.o2) (by show ro.length ≤ 1; omega)
        dsimp only at C2
        rw [hro] at C2
        repeat ((conv => whnf); first | (refine VCmp.tt (by omega) ?_) | (refine VCmp.ff (by omega) ?_) | (refine VIn.mk (IntWalk.i64_in _ (by omega)) ?_) | (refine VIdx.mk _ rfl (by omega) ?_) | (refine VIdx.mk 0 rfl (by omega) ?_))
        try (conv => whnf)
        refine VCall.mk _ C2 ?_
        rintro _ W4 ⟨rfl, ro', hlo, hfo, FO, xO, kO⟩
        refine ⟨_, rfl, ?_⟩
        clear C2
        have R4 : Room wB.heap.size W0.heap.size (cxA c).toList ⟨A, cA, ra', O, cO, ro', C, cC, lc, M, cM, rm⟩ W4 := R3.setO xO FO kO
        have bV4 : Below wB.heap.size wB W4 := bV3.trans (xO.to (fun k hk => (R3.o.blks k hk).1) R3.z)
        clear xO FO kO R2 R3
        -- the numbers
        have M2 : Ld Try.prog 37 W0.heap.size 9 (fun W => Fx (blk C).toList W4 W) (.slice c.C c.who.length c.cC) := ⟨fun W hW => load37 ((range_same R4.r (hW.block _ R4.bz R4.bc)) 9 _ rfl)⟩
        repeat ((conv => whnf); first | (refine VCmp.tt (by omega) ?_) | (refine VCmp.ff (by omega) ?_) | (refine VIn.mk (IntWalk.i64_in _ (by omega)) ?_) | (refine VIdx.mk _ rfl (by omega) ?_) | (refine VIdx.mk 0 rfl (by omega) ?_))
        try (conv => whnf)
        refine VDraw.mk 1000 [([0, 1, 2, 3], 4)] [5] (fun W => Fx (blk C).toList W4 W) (by kernel_rfl) (by kernel_rfl) ((Fx.refl _ _).drew) ?_
        repeat ((conv => whnf); first | (refine VLoad.mk _ M2 ?_) | (refine VSl.zero ?_) | (refine VCmp.tt (by omega) ?_) | (refine VCmp.ff (by omega) ?_) | (refine VIn.mk (IntWalk.i64_in _ (by omega)) ?_) | (refine VIdx.mk _ rfl (by omega) ?_) | (refine VIdx.mk 0 rfl (by omega) ?_))
        try (conv => whnf)
        refine VApp.rows wB.heap.size 1 8 _ Try.underlying37 info3 rfl (by decide) eInt len_eInt one_eInt ([] : List Int) c.who rfl rfl (show Owns W4.drew wB.heap.size 3 1 eInt C cC [] from R4.c.short) (hYY _ bV4.drew).who (by omega) (by omega) (by show wB.heap.size ≤ W4.heap.size; exact R4.z) fun C' cC' W5 ho5 hg5 hk5 => ?_
        have x5 : Fx (blk C).toList W4 W5 := .undrew (.grown hg5 fun k hk => by rw [hk]; simp)
        have R5 : Room wB.heap.size W0.heap.size (cxA c).toList ⟨A, cA, ra', O, cO, ro', C', cC', c.who, M, cM, rm⟩ W5 := R4.setC x5 ho5 fun k hk => by
          have hk : blk C' = some k := by simpa [Option.mem_toList] using hk
          rcases hk5 with e | e
          · left; rw [← e, hk]; simp
          · right; rw [hk] at e; injection e with e; rw [e]; exact Nat.le_refl _
        have bV5 : Below wB.heap.size wB W5 := bV4.trans (x5.to (fun k hk => (R4.clt k hk).1) R4.z)
        repeat ((conv => whnf); first | (refine VS.mk x5 ?_) | (refine VCmp.tt (by omega) ?_) | (refine VCmp.ff (by omega) ?_) | (refine VIn.mk (IntWalk.i64_in _ (by omega)) ?_) | (refine VIdx.mk _ rfl (by omega) ?_) | (refine VIdx.mk 0 rfl (by omega) ?_))
        try (conv => whnf)
        clear x5 R4 ho5 hg5 hk5
        refine VLoop.mk (Nat × List Dr) (fun s => [(2, .pointer (some ⟨w.heap.size, 0, none⟩)), (3, .pointer (some ⟨wA.heap.size, 0, none⟩)), (6, .slice A c.fs.length cA), (7, .slice O 1 cO), (8, .slice C' c.who.length cC'), (9, .slice M rm.length cM), (10, .int .i64 k), (11, .pointer (some ⟨W0.heap.size, 0, none⟩)), (12, .int .i64 s.1)]) (fun s W => s.1 ≤ rm.length ∧ s.2.length = rm.length ∧ MsOk s.2 ∧ Room wB.heap.size W0.heap.size (cxA c).toList ⟨A, cA, ra', O, cO, ro', C', cC', c.who, M, cM, s.2⟩ W ∧ Below wB.heap.size wB W) (fun s => rm.length - s.1) (0, rm) ⟨rfl, rfl, rfl, rfl, by show some (Value.slice C' (0 + c.who.length) cC') = _; rw [Nat.zero_add], rfl, rfl, rfl, rfl, trivial⟩ ⟨Nat.zero_le _, rfl, hrm, R5, bV5⟩ ?_
        clear R5 bV5 M2 M1 M0 bV4 bV3 bV2 r3 b3 z3 bV R rV cV
        rintro ⟨i, rl⟩ W6 ⟨hi, hrl, hok, R6, bV6⟩
        dsimp only at hi hrl hok R6 bV6 ⊢
        have M3 : Ld Try.prog 40 W0.heap.size 12 (Eq W6) (.slice c.M c.ms.length c.cM) := .of (load_cell (by kernel_rfl) (R6.r 12 _ rfl))
        have hXm := hc.sd.1
        rw [List.length_map] at hXm
        have hokl := hrm.1
        by_cases h1 : i < rm.length
        case neg =>
          repeat ((conv => whnf); first | (refine VCmp.tt (by omega) ?_) | (refine VCmp.ff (by omega) ?_) | (refine VIn.mk (IntWalk.i64_in _ (by omega)) ?_) | (refine VIdx.mk _ rfl (by omega) ?_) | (refine VIdx.mk 0 rfl (by omega) ?_))
          try (conv => whnf)
          have hGs : Small (ra'.map Rw.f) := by rw [hfa]; exact small_take hc.sm _
          have hGl : (ra'.map Rw.f).length = c.fs.length := by rw [List.length_map]; exact hla
          generalize hgs : ra'.map Rw.f = gs at hGs hGl
          obtain ⟨r0, hr0⟩ : ∃ r0, ro' = [r0] := by
            match ro', hlo with
            | [r0], _ => exact ⟨r0, rfl⟩
          subst hr0
          have hr0 : r0.f = c.own := by
            have e : [r0.f] = [c.own] := hfo
            injection e
          have hc.fs.length : c.fs.length ≤ 1048576 := by omega
          obtain ⟨gO, hOe, hcO⟩ := R6.o.own.cell len_eRw (k := 0) (x := r0) rfl
          subst hOe
          have gls : ∀ W, Below W6.heap.size W6 W → Fls W W.heap.size A gs := fun W hW => by
            have := ((R6.below hW).a).fls
            rw [← hgs]; exact this
          have aO : ∀ W, Below W6.heap.size W6 W → W.rangeAt gO 0 (eRw r0) ∧ FlRows W W.heap.size r0.f r0.X r0.cX r0.Y r0.cY := fun W hW => by
            have R := R6.below hW
            obtain ⟨g1, e1, h1⟩ := R.o.own.cell len_eRw (k := 0) (x := r0) rfl
            injection e1 with e1; injection e1 with e1; subst e1
            obtain ⟨q1, q2⟩ := R.o.each r0 (List.mem_singleton.2 rfl)
            exact ⟨by rw [Nat.zero_mul] at h1; exact h1, ⟨q1.row len_eSlot, q2.row len_eInt, q1.len, q1.cap, q2.len, q2.cap⟩⟩
          have aC : ∀ W, Below W6.heap.size W6 W → W.rangeAt W0.heap.size 0 (cxA c).toList ∧ RowAt W W.heap.size 1 eInt C' c.who ∧ Drs W W.heap.size M rl := fun W hW =>
            have R := R6.below hW
            ⟨R.r, R.c.row len_eInt, R.m.drs⟩
          have hml : (rl.map Dr.d).length = rm.length := by rw [List.length_map]; exact hrl
          -- Cut
          have C14 := icut_any A cA W6.heap.size gs W6 (Nat.le_refl _) (gls W6 (Below.refl _ _)) (by omega)
          rw [hGl] at C14
          refine VCall.mk _ C14 ?_
          clear C14
          rintro _ W7 ⟨⟨kk, n1, rfl, P1⟩, b7⟩
          refine ⟨_, rfl, ?_⟩
          -- Lacks
          have bd7 : Below W7.heap.size W7 W7.drew := (Below.refl _ _).drew
          have K1 : Ld Try.prog 3 W0.heap.size 8 (fun W => Below W7.heap.size W7 W) (.int .i64 c.done) := ⟨fun W hW => load3 ((aC W (b7.trans (hW.mono b7.size))).1 8 _ rfl)⟩
          have K2 : Ld Try.prog 39 gO 0 (fun W => Below W7.heap.size W7 W) (.agg (flc r0.f.e r0.f.l r0.f.i r0.f.c r0.f.base r0.X r0.f.slots.length r0.cX r0.Y r0.f.have_.length r0.cY)) := ⟨fun W hW => load39 ((aO W (b7.trans (hW.mono b7.size))).1)⟩
          repeat ((conv => whnf); first | (refine VCmp.tt (by omega) ?_) | (refine VCmp.ff (by omega) ?_) | (refine VIn.mk (IntWalk.i64_in _ (by omega)) ?_) | (refine VIdx.mk _ rfl (by omega) ?_) | (refine VIdx.mk 0 rfl (by omega) ?_))
          try (conv => whnf)
          refine VDraw.mk 1000 [([0, 1, 2, 3, 4, 5], 6)] [7, 8, 9, 10, 11] (fun W => Below W7.heap.size W7 W) (by kernel_rfl) (by kernel_rfl) (bd7) ?_
          repeat ((conv => whnf); first | (refine VLoad.mk _ K1 ?_) | (refine VLoad.mk _ K2 ?_) | (refine VCmp.tt (by omega) ?_) | (refine VCmp.ff (by omega) ?_) | (refine VIn.mk (IntWalk.i64_in _ (by omega)) ?_) | (refine VIdx.mk _ rfl (by omega) ?_) | (refine VIdx.mk 0 rfl (by omega) ?_))
          try (conv => whnf)
          have b7d : Below W6.heap.size W6 W7.drew := b7.drew
          have C24 := lacks_any c.done r0.f r0.X r0.Y A r0.cX r0.cY cA W7.drew.heap.size gs W7.drew (Nat.le_refl _) (aO _ b7d).2 (gls _ b7d) (by omega)
          rw [hGl] at C24
          refine VCall.mk _ C24 ?_
          clear C24
          rintro _ W8 ⟨⟨B1, c1, l1, n2, rfl, P2, own1⟩, b8⟩
          refine ⟨_, rfl, ?_⟩
          have b78 : Below W7.heap.size W7 W8 := bd7.trans b8
          have b68 : Below W6.heap.size W6 W8 := b7.trans (b78.mono b7.size)
          repeat ((conv => whnf); first | (refine VS.mk b78 ?_) | (refine VCmp.tt (by omega) ?_) | (refine VCmp.ff (by omega) ?_) | (refine VIn.mk (IntWalk.i64_in _ (by omega)) ?_) | (refine VIdx.mk _ rfl (by omega) ?_) | (refine VIdx.mk 0 rfl (by omega) ?_))
          try (conv => whnf)
          -- Duty
          have K3 : Ld Try.prog 3 W0.heap.size 10 (Eq W8) (.int .i64 c.self) := .of (load3 ((aC W8 b68).1 10 _ rfl))
          have K4 : Ld Try.prog 3 W0.heap.size 11 (Eq W8) (.int .i64 c.q) := .of (load3 ((aC W8 b68).1 11 _ rfl))
          repeat ((conv => whnf); first | (refine VLoad.mk _ K3 ?_) | (refine VLoad.mk _ K4 ?_) | (refine VCmp.tt (by omega) ?_) | (refine VCmp.ff (by omega) ?_) | (refine VIn.mk (IntWalk.i64_in _ (by omega)) ?_) | (refine VIdx.mk _ rfl (by omega) ?_) | (refine VIdx.mk 0 rfl (by omega) ?_))
          try (conv => whnf)
          have C35 := duty_any c.self c.q C' A cC' cA W8.heap.size c.who gs W8 (Nat.le_refl _) (aC W8 b68).2.1 (gls W8 b68) (by omega) (by omega)
          rw [hGl] at C35
          refine VCall.mk _ C35 ?_
          clear C35
          rintro _ W9 ⟨⟨B2, c2, l2, n3, rfl, P3, own2⟩, b9⟩
          refine ⟨_, rfl, ?_⟩
          have b69 : Below W6.heap.size W6 W9 := b68.trans (b9.mono b68.size)
          -- Rest
          have K5 : Ld Try.prog 3 W0.heap.size 8 (Eq W9) (.int .i64 c.done) := .of (load3 ((aC W9 b69).1 8 _ rfl))
          repeat ((conv => whnf); first | (refine VLoad.mk _ K5 ?_) | (refine VCmp.tt (by omega) ?_) | (refine VCmp.ff (by omega) ?_) | (refine VIn.mk (IntWalk.i64_in _ (by omega)) ?_) | (refine VIdx.mk _ rfl (by omega) ?_) | (refine VIdx.mk 0 rfl (by omega) ?_))
          try (conv => whnf)
          have C19 := rest_any c.done A M cA cM W9.heap.size gs (rl.map Dr.d) W9 (Nat.le_refl _) (gls W9 b69) ⟨rl, rfl, (aC W9 b69).2.2⟩ (by omega) hok.small hok.key
          rw [hGl, hml] at C19
          refine VCall.mk _ C19 ?_
          clear C19
          rintro _ Wa ⟨⟨B3, c3, rs3, n4, rfl, P4, own3⟩, ba⟩
          refine ⟨_, rfl, ?_⟩
          have b6a : Below W6.heap.size W6 Wa := b69.trans (ba.mono b69.size)
          -- the document's Cut
          repeat ((conv => whnf); first | (refine VCmp.tt (by omega) ?_) | (refine VCmp.ff (by omega) ?_) | (refine VIn.mk (IntWalk.i64_in _ (by omega)) ?_) | (refine VIdx.mk _ rfl (by omega) ?_) | (refine VIdx.mk 0 rfl (by omega) ?_))
          try (conv => whnf)
          have C28 := many_w A cA Wa.heap.size gs Wa (Nat.le_refl _) (gls Wa b6a) hGs
          rw [hGl] at C28
          refine VCall.mk _ C28 ?_
          clear C28
          rintro _ Wb ⟨⟨D1, d1, rs1, rfl, hs1, FD1⟩, bb⟩
          refine ⟨_, rfl, ?_⟩
          have b6b : Below W6.heap.size W6 Wb := b6a.trans (bb.mono b6a.size)
          have FD1' := FD1.fls
          rw [hs1] at FD1'
          have C15 := rcut_any D1 d1 Wb.heap.size gs Wb (Nat.le_refl _) FD1' (by omega)
          rw [hGl] at C15
          repeat ((conv => whnf); first | (refine VCmp.tt (by omega) ?_) | (refine VCmp.ff (by omega) ?_) | (refine VIn.mk (IntWalk.i64_in _ (by omega)) ?_) | (refine VIdx.mk _ rfl (by omega) ?_) | (refine VIdx.mk 0 rfl (by omega) ?_))
          try (conv => whnf)
          refine VCall.mk _ C15 ?_
          clear C15 FD1 FD1'
          rintro _ Wc ⟨⟨kk', n1', rfl, Q1⟩, bc⟩
          refine ⟨_, rfl, ?_⟩
          obtain ⟨rfl, rfl⟩ := cutIs_one P1 Q1
          have b6c : Below W6.heap.size W6 Wc := b6b.trans (bc.mono b6b.size)
          -- the document's Lacks
          have bdc : Below Wc.heap.size Wc Wc.drew := (Below.refl _ _).drew
          have up6 : ∀ W, Below Wc.heap.size Wc W → Below W6.heap.size W6 W := fun W hW => b6c.trans (hW.mono b6c.size)
          have K6 : Ld Try.prog 3 W0.heap.size 8 (fun W => Below Wc.heap.size Wc W) (.int .i64 c.done) := ⟨fun W hW => load3 ((aC W (up6 W hW)).1 8 _ rfl)⟩
          have K7 : Ld Try.prog 39 gO 0 (fun W => Below Wc.heap.size Wc W) (.agg (flc r0.f.e r0.f.l r0.f.i r0.f.c r0.f.base r0.X r0.f.slots.length r0.cX r0.Y r0.f.have_.length r0.cY)) := ⟨fun W hW => load39 ((aO W (up6 W hW)).1)⟩
          have ho1 : r0.f.slots.length ≤ 1048576 := by rw [hr0]; exact hc.o1
          have ho2 : r0.f.have_.length ≤ 1048576 := by rw [hr0]; exact hc.o2
          repeat ((conv => whnf); first | (refine VCmp.tt (by omega) ?_) | (refine VCmp.ff (by omega) ?_) | (refine VIn.mk (IntWalk.i64_in _ (by omega)) ?_) | (refine VIdx.mk _ rfl (by omega) ?_) | (refine VIdx.mk 0 rfl (by omega) ?_))
          try (conv => whnf)
          refine VDraw.mk 1000 [([0, 1, 2, 3, 4, 6], 5), ([], 7), ([], 8)] [9, 10, 11, 12, 13] (fun W => Below Wc.heap.size Wc W) (by kernel_rfl) (by kernel_rfl) (bdc) ?_
          repeat ((conv => whnf); first | (refine VLoad.mk _ K6 ?_) | (refine VLoad.mk _ K7 ?_) | (refine VCmp.tt (by omega) ?_) | (refine VCmp.ff (by omega) ?_) | (refine VIn.mk (IntWalk.i64_in _ (by omega)) ?_) | (refine VIdx.mk _ rfl (by omega) ?_) | (refine VIdx.mk 0 rfl (by omega) ?_))
          try (conv => whnf)
          refine VCall.mk _ (one_own r0.f r0.X r0.Y r0.cX r0.cY Wc.drew.heap.size Wc.drew (Nat.le_refl _) (aO _ (up6 _ bdc)).2 (by omega) (by omega)) ?_
          rintro _ Wd ⟨⟨X1, cX1, Y1, cY1, rfl, oX, oY⟩, bd⟩
          refine ⟨_, rfl, ?_⟩
          have bcd : Below Wc.heap.size Wc Wd := bdc.trans bd
          repeat ((conv => whnf); first | (refine VS.mk bcd ?_) | (refine VCmp.tt (by omega) ?_) | (refine VCmp.ff (by omega) ?_) | (refine VIn.mk (IntWalk.i64_in _ (by omega)) ?_) | (refine VIdx.mk _ rfl (by omega) ?_) | (refine VIdx.mk 0 rfl (by omega) ?_))
          try (conv => whnf)
          have C28 := many_w A cA Wd.heap.size gs Wd (Nat.le_refl _) (gls Wd (up6 _ bcd)) hGs
          rw [hGl] at C28
          refine VCall.mk _ C28 ?_
          clear C28
          rintro _ We ⟨⟨D2, d2, rs2, rfl, hs2, FD2⟩, be⟩
          refine ⟨_, rfl, ?_⟩
          have bce : Below Wc.heap.size Wc We := bcd.trans (be.mono bcd.size)
          have FD2' := FD2.fls
          rw [hs2] at FD2'
          have oX2 := oX.below be
          have oY2 := oY.below be
          have C25 := rlacks_any c.done r0.f X1 Y1 D2 cX1 cY1 d2 We.heap.size gs We (Nat.le_refl _) ⟨oX2.row len_eSlot, oY2.row len_eInt, oX2.len, oX2.cap, oY2.len, oY2.cap⟩ FD2' (by omega)
          rw [hGl] at C25
          repeat ((conv => whnf); first | (refine VS.mk bce ?_) | (refine VCmp.tt (by omega) ?_) | (refine VCmp.ff (by omega) ?_) | (refine VIn.mk (IntWalk.i64_in _ (by omega)) ?_) | (refine VIdx.mk _ rfl (by omega) ?_) | (refine VIdx.mk 0 rfl (by omega) ?_))
          try (conv => whnf)
          refine VCall.mk _ C25 ?_
          clear C25 FD2 FD2' oX oY oX2 oY2
          rintro _ Wf ⟨⟨B1', c1', l1', n2', rfl, Q2, own1'⟩, bf⟩
          refine ⟨_, rfl, ?_⟩
          obtain ⟨rfl, rfl⟩ := lacks_one P2 Q2
          have bcf : Below Wc.heap.size Wc Wf := bce.trans (bf.mono bce.size)
          have b6f := up6 _ bcf
          repeat ((conv => whnf); first | (refine VS.mk bcf ?_) | (refine VCmp.tt (by omega) ?_) | (refine VCmp.ff (by omega) ?_) | (refine VIn.mk (IntWalk.i64_in _ (by omega)) ?_) | (refine VIdx.mk _ rfl (by omega) ?_) | (refine VIdx.mk 0 rfl (by omega) ?_))
          try (conv => whnf)
          -- the document's Duty
          have bdf : Below Wf.heap.size Wf Wf.drew := (Below.refl _ _).drew
          have up7 : ∀ W, Below Wf.heap.size Wf W → Below W6.heap.size W6 W := fun W hW => b6f.trans (hW.mono b6f.size)
          have K8 : Ld Try.prog 3 W0.heap.size 10 (fun W => Below Wf.heap.size Wf W) (.int .i64 c.self) := ⟨fun W hW => load3 ((aC W (up7 W hW)).1 10 _ rfl)⟩
          have K9 : Ld Try.prog 3 W0.heap.size 11 (fun W => Below Wf.heap.size Wf W) (.int .i64 c.q) := ⟨fun W hW => load3 ((aC W (up7 W hW)).1 11 _ rfl)⟩
          refine VDraw.mk 1000 [([0, 1, 2, 3, 5, 7], 4), ([], 6), ([], 8), ([], 9)] [10, 11, 12, 13, 14] (fun W => Below Wf.heap.size Wf W) (by kernel_rfl) (by kernel_rfl) (bdf) ?_
          repeat ((conv => whnf); first | (refine VLoad.mk _ K8 ?_) | (refine VLoad.mk _ K9 ?_) | (refine VCmp.tt (by omega) ?_) | (refine VCmp.ff (by omega) ?_) | (refine VIn.mk (IntWalk.i64_in _ (by omega)) ?_) | (refine VIdx.mk _ rfl (by omega) ?_) | (refine VIdx.mk 0 rfl (by omega) ?_))
          try (conv => whnf)
          refine VBs.mk _ _ (bs37z Wf.drew) ?_
          have bfg : Below Wf.heap.size Wf (Wf.drew.alloc (.cells #[] 3)) := bdf.alloc (Nat.le_refl _) _
          have zg : (Wf.drew.alloc (.cells #[] 3)).heap.size = Wf.heap.size + 1 := by simp
          generalize Wf.drew.alloc (.cells #[] 3) = Wg at bfg zg ⊢
          repeat ((conv => whnf); first | (refine VS.mk bfg ?_) | (refine VCmp.tt (by omega) ?_) | (refine VCmp.ff (by omega) ?_) | (refine VIn.mk (IntWalk.i64_in _ (by omega)) ?_) | (refine VIdx.mk _ rfl (by omega) ?_) | (refine VIdx.mk 0 rfl (by omega) ?_))
          try (conv => whnf)
          refine VApp.rowsW Wg.heap.size 1 8 _ Try.underlying37 info3 rfl (by decide) eInt len_eInt one_eInt ([] : List Int) c.who rfl ⟨Nat.zero_le _, fun h => absurd h (by omega)⟩ (aC Wg (up7 _ bfg)).2.1 (by omega) (by omega) (Nat.le_refl _) fun E cE Wh oE hgE hkE => ?_
          have bgh : Below Wg.heap.size Wg Wh := (Below.refl _ _).grown hgE (Nat.le_refl _) (fun k hk => by cases hk)
          have bfh : Below Wf.heap.size Wf Wh := bfg.trans (bgh.mono (by omega))
          repeat ((conv => whnf); first | (refine VS.mk bfh ?_) | (refine VCmp.tt (by omega) ?_) | (refine VCmp.ff (by omega) ?_) | (refine VIn.mk (IntWalk.i64_in _ (by omega)) ?_) | (refine VIdx.mk _ rfl (by omega) ?_) | (refine VIdx.mk 0 rfl (by omega) ?_))
          try (conv => whnf)
          have C28 := many_w A cA Wh.heap.size gs Wh (Nat.le_refl _) (gls Wh (up7 _ bfh)) hGs
          rw [hGl] at C28
          refine VCall.mk _ C28 ?_
          clear C28
          rintro _ Wi ⟨⟨D3, d3, rs4, rfl, hs4, FD3⟩, bi⟩
          refine ⟨_, rfl, ?_⟩
          have bfi : Below Wf.heap.size Wf Wi := bfh.trans (bi.mono bfh.size)
          have FD3' := FD3.fls
          rw [hs4] at FD3'
          have C36 := rduty_any c.self c.q E D3 cE d3 Wi.heap.size c.who gs Wi (Nat.le_refl _) ((oE.below bi).row len_eInt) FD3' (by omega) (by omega)
          rw [hGl] at C36
          repeat ((conv => whnf); first | (refine VS.mk bfi ?_) | (refine VCmp.tt (by omega) ?_) | (refine VCmp.ff (by omega) ?_) | (refine VIn.mk (IntWalk.i64_in _ (by omega)) ?_) | (refine VIdx.mk _ rfl (by omega) ?_) | (refine VIdx.mk 0 rfl (by omega) ?_))
          try (conv => whnf)
          refine VCall.mk _ C36 ?_
          clear C36 FD3 FD3' oE
          rintro _ Wj ⟨⟨B2', c2', l2', n3', rfl, Q3, own2'⟩, bj⟩
          refine ⟨_, rfl, ?_⟩
          obtain ⟨rfl, rfl⟩ := duty_one P3 Q3
          have bfj : Below Wf.heap.size Wf Wj := bfi.trans (bj.mono bfi.size)
          have b6j := up7 _ bfj
          repeat ((conv => whnf); first | (refine VS.mk bfj ?_) | (refine VCmp.tt (by omega) ?_) | (refine VCmp.ff (by omega) ?_) | (refine VIn.mk (IntWalk.i64_in _ (by omega)) ?_) | (refine VIdx.mk _ rfl (by omega) ?_) | (refine VIdx.mk 0 rfl (by omega) ?_))
          try (conv => whnf)
          -- the document's Rest
          have bdj : Below Wj.heap.size Wj Wj.drew := (Below.refl _ _).drew
          have up8 : ∀ W, Below Wj.heap.size Wj W → Below W6.heap.size W6 W := fun W hW => b6j.trans (hW.mono b6j.size)
          have Ka : Ld Try.prog 3 W0.heap.size 8 (fun W => Below Wj.heap.size Wj W) (.int .i64 c.done) := ⟨fun W hW => load3 ((aC W (up8 W hW)).1 8 _ rfl)⟩
          refine VDraw.mk 1000 [([0, 1, 2, 4], 3), ([], 5), ([], 6)] [7, 8, 9, 10, 11] (fun W => Below Wj.heap.size Wj W) (by kernel_rfl) (by kernel_rfl) (bdj) ?_
          repeat ((conv => whnf); first | (refine VLoad.mk _ Ka ?_) | (refine VCmp.tt (by omega) ?_) | (refine VCmp.ff (by omega) ?_) | (refine VIn.mk (IntWalk.i64_in _ (by omega)) ?_) | (refine VIdx.mk _ rfl (by omega) ?_) | (refine VIdx.mk 0 rfl (by omega) ?_))
          try (conv => whnf)
          have C28 := many_w A cA Wj.drew.heap.size gs Wj.drew (Nat.le_refl _) (gls _ (up8 _ bdj)) hGs
          rw [hGl] at C28
          refine VCall.mk _ C28 ?_
          clear C28
          rintro _ Wk ⟨⟨D4, d4, rs5, rfl, hs5, FD4⟩, bk⟩
          refine ⟨_, rfl, ?_⟩
          have bjk : Below Wj.heap.size Wj Wk := bdj.trans bk
          repeat ((conv => whnf); first | (refine VS.mk bjk ?_) | (refine VCmp.tt (by omega) ?_) | (refine VCmp.ff (by omega) ?_) | (refine VIn.mk (IntWalk.i64_in _ (by omega)) ?_) | (refine VIdx.mk _ rfl (by omega) ?_) | (refine VIdx.mk 0 rfl (by omega) ?_))
          try (conv => whnf)
          have C18 := datas_w M cM Wk.heap.size rl Wk (Nat.le_refl _) (aC Wk (up8 _ bjk)).2.2 hok.small
          rw [hrl] at C18
          refine VCall.mk _ C18 ?_
          clear C18
          rintro _ Wl ⟨⟨G, cG, al, rfl, hal, FG⟩, bl⟩
          refine ⟨_, rfl, ?_⟩
          have bjl : Below Wj.heap.size Wj Wl := bjk.trans (bl.mono bjk.size)
          have FD4' := (FD4.below bl).fls
          rw [hs5] at FD4'
          have FG' := FG.dts
          rw [hal] at FG'
          have C20 := rrest_any c.done D4 G d4 cG Wl.heap.size gs (rl.map Dr.d) Wl (Nat.le_refl _) FD4' FG' (by omega) hok.small
          rw [hGl, hml] at C20
          repeat ((conv => whnf); first | (refine VS.mk bjl ?_) | (refine VCmp.tt (by omega) ?_) | (refine VCmp.ff (by omega) ?_) | (refine VIn.mk (IntWalk.i64_in _ (by omega)) ?_) | (refine VIdx.mk _ rfl (by omega) ?_) | (refine VIdx.mk 0 rfl (by omega) ?_))
          try (conv => whnf)
          refine VCall.mk _ C20 ?_
          clear C20 FD4 FD4' FG FG'
          rintro _ Wm ⟨⟨B3', c3', rs3', n4', rfl, Q4, own3'⟩, bm⟩
          refine ⟨_, rfl, ?_⟩
          obtain ⟨hrs3, rfl⟩ := rest_one P4 Q4
          have bjm : Below Wj.heap.size Wj Wm := bjl.trans (bm.mono bjl.size)
          have hl3 : rs3'.length = rs3.length := by have := congrArg List.length hrs3; simpa using this.symm
          rw [hl3]
          have hfm : Below Wf.heap.size Wf Wm := bfj.trans (bjm.mono bfj.size)
          have hcm : Below Wc.heap.size Wc Wm := bcf.trans (hfm.mono bcf.size)
          have hbm : Below Wb.heap.size Wb Wm := bc.trans (hcm.mono bc.size)
          have ham : Below Wa.heap.size Wa Wm := bb.trans (hbm.mono bb.size)
          have h9m : Below W9.heap.size W9 Wm := ba.trans (ham.mono ba.size)
          have h8m : Below W8.heap.size W8 Wm := b9.trans (h9m.mono b9.size)
          have sA := ((own1.row len_eSlot).below h8m (Nat.le_refl _)).more h8m.size
          have sA' := ((own1'.row len_eSlot).below hfm (Nat.le_refl _)).more hfm.size
          have sB := ((own2.row len_eSlot).below h9m (Nat.le_refl _)).more h9m.size
          have sB' := ((own2'.row len_eSlot).below bjm (Nat.le_refl _)).more bjm.size
          have sM := ((msOwn_dts own3).below ham (Nat.le_refl _)).more ham.size
          have sM' := msOwn_dts own3'
          rw [← hrs3] at sM'
          have q1 := own1.len
          have q2 := own2.len
          have q3 := own3.row.len
          -- the comparison
          repeat ((conv => whnf); first | (refine VS.mk bjm ?_) | (refine VCmp.tt (by omega) ?_) | (refine VCmp.ff (by omega) ?_) | (refine VIn.mk (IntWalk.i64_in _ (by omega)) ?_) | (refine VIdx.mk _ rfl (by omega) ?_) | (refine VIdx.mk 0 rfl (by omega) ?_))
          try (conv => whnf)
          refine VCall.mk _ (num_any n1 Wm) ?_
          rintro _ Wn ⟨rfl, hWn⟩
          refine ⟨_, rfl, ?_⟩
          rw [← hWn]
          repeat ((conv => whnf); first | (refine VCmp.tt (by omega) ?_) | (refine VCmp.ff (by omega) ?_) | (refine VIn.mk (IntWalk.i64_in _ (by omega)) ?_) | (refine VIdx.mk _ rfl (by omega) ?_) | (refine VIdx.mk 0 rfl (by omega) ?_))
          try (conv => whnf)
          refine VCall.mk _ (sameSlots_yes B1 B1' c1 c1' Wm.heap.size l1 Wm (Nat.le_refl _) sA sA' (by omega)) ?_
          rintro _ Wo ⟨rfl, bo⟩
          refine ⟨_, rfl, ?_⟩
          repeat ((conv => whnf); first | (refine VCmp.tt (by omega) ?_) | (refine VCmp.ff (by omega) ?_) | (refine VIn.mk (IntWalk.i64_in _ (by omega)) ?_) | (refine VIdx.mk _ rfl (by omega) ?_) | (refine VIdx.mk 0 rfl (by omega) ?_))
          try (conv => whnf)
          refine VCall.mk _ (num_any n2 Wo) ?_
          rintro _ Wp ⟨rfl, hWp⟩
          refine ⟨_, rfl, ?_⟩
          rw [← hWp]
          repeat ((conv => whnf); first | (refine VCmp.tt (by omega) ?_) | (refine VCmp.ff (by omega) ?_) | (refine VIn.mk (IntWalk.i64_in _ (by omega)) ?_) | (refine VIdx.mk _ rfl (by omega) ?_) | (refine VIdx.mk 0 rfl (by omega) ?_))
          try (conv => whnf)
          refine VCall.mk _ (sameSlots_yes B2 B2' c2 c2' Wm.heap.size l2 Wo bo.size (sB.below bo (Nat.le_refl _)) (sB'.below bo (Nat.le_refl _)) (by omega)) ?_
          rintro _ Wq ⟨rfl, bq⟩
          refine ⟨_, rfl, ?_⟩
          have bmq : Below Wm.heap.size Wm Wq := bo.trans (bq.mono bo.size)
          repeat ((conv => whnf); first | (refine VCmp.tt (by omega) ?_) | (refine VCmp.ff (by omega) ?_) | (refine VIn.mk (IntWalk.i64_in _ (by omega)) ?_) | (refine VIdx.mk _ rfl (by omega) ?_) | (refine VIdx.mk 0 rfl (by omega) ?_))
          try (conv => whnf)
          refine VCall.mk _ (num_any n3 Wq) ?_
          rintro _ Wr ⟨rfl, hWr⟩
          refine ⟨_, rfl, ?_⟩
          rw [← hWr]
          have C21 := sameMsgs_yes B3 B3' c3 c3' Wm.heap.size (rs3.map Dr.d) Wq bmq.size (sM.below bmq (Nat.le_refl _)) (sM'.below bmq (Nat.le_refl _)) (by rw [List.length_map]; omega)
          rw [List.length_map] at C21
          repeat ((conv => whnf); first | (refine VCmp.tt (by omega) ?_) | (refine VCmp.ff (by omega) ?_) | (refine VIn.mk (IntWalk.i64_in _ (by omega)) ?_) | (refine VIdx.mk _ rfl (by omega) ?_) | (refine VIdx.mk 0 rfl (by omega) ?_))
          try (conv => whnf)
          refine VCall.mk _ C21 ?_
          clear C21
          rintro _ Ws ⟨rfl, bs⟩
          refine ⟨_, rfl, ?_⟩
          have bms : Below Wm.heap.size Wm Ws := bmq.trans (bs.mono bmq.size)
          repeat ((conv => whnf); first | (refine VCmp.tt (by omega) ?_) | (refine VCmp.ff (by omega) ?_) | (refine VIn.mk (IntWalk.i64_in _ (by omega)) ?_) | (refine VIdx.mk _ rfl (by omega) ?_) | (refine VIdx.mk 0 rfl (by omega) ?_))
          try (conv => whnf)
          refine VCall.mk _ (num_any n4 Ws) ?_
          rintro _ Wt ⟨rfl, hWt⟩
          refine ⟨_, rfl, ?_⟩
          rw [← hWt]
          have b6s : Below W6.heap.size W6 Ws := (up8 _ bjm).trans (bms.mono (up8 _ bjm).size)
          have Rs := R6.below b6s
          have bVs : Below wB.heap.size wB Ws := bV6.trans (b6s.mono R6.z)
          repeat ((conv => whnf); first | (refine VCmp.tt (by omega) ?_) | (refine VCmp.ff (by omega) ?_) | (refine VIn.mk (IntWalk.i64_in _ (by omega)) ?_) | (refine VIdx.mk _ rfl (by omega) ?_) | (refine VIdx.mk 0 rfl (by omega) ?_))
          try (conv => whnf)
          refine .mk (k + 1, ⟨A, cA, ra', some ⟨gO, 0, none⟩, cO, [r0], C', cC', c.who, M, cM, rl⟩) ⟨rfl, rfl, rfl, rfl, rfl, by show some (Value.slice M rm.length cM) = some (Value.slice M rl.length cM); rw [hrl], rfl, trivial⟩ ⟨hk3, Rs.other (by have := bVs.size; omega) (hx _ bVs).1 (by omega), bVs, hla, rfl, hok⟩ (by show 3 - (k + 1) < 3 - k; omega)
        case pos =>
          by_cases h2 : i < c.ms.length
          case neg =>
            repeat ((conv => whnf); first | (refine VLoad.mk _ M3 ?_) | (refine VCmp.tt (by omega) ?_) | (refine VCmp.ff (by omega) ?_) | (refine VIn.mk (IntWalk.i64_in _ (by omega)) ?_) | (refine VIdx.mk _ rfl (by omega) ?_) | (refine VIdx.mk 0 rfl (by omega) ?_))
            try (conv => whnf)
            have hGs : Small (ra'.map Rw.f) := by rw [hfa]; exact small_take hc.sm _
            have hGl : (ra'.map Rw.f).length = c.fs.length := by rw [List.length_map]; exact hla
            generalize hgs : ra'.map Rw.f = gs at hGs hGl
            obtain ⟨r0, hr0⟩ : ∃ r0, ro' = [r0] := by
              match ro', hlo with
              | [r0], _ => exact ⟨r0, rfl⟩
            subst hr0
            have hr0 : r0.f = c.own := by
              have e : [r0.f] = [c.own] := hfo
              injection e
            have hc.fs.length : c.fs.length ≤ 1048576 := by omega
            obtain ⟨gO, hOe, hcO⟩ := R6.o.own.cell len_eRw (k := 0) (x := r0) rfl
            subst hOe
            have gls : ∀ W, Below W6.heap.size W6 W → Fls W W.heap.size A gs := fun W hW => by
              have := ((R6.below hW).a).fls
              rw [← hgs]; exact this
            have aO : ∀ W, Below W6.heap.size W6 W → W.rangeAt gO 0 (eRw r0) ∧ FlRows W W.heap.size r0.f r0.X r0.cX r0.Y r0.cY := fun W hW => by
              have R := R6.below hW
              obtain ⟨g1, e1, h1⟩ := R.o.own.cell len_eRw (k := 0) (x := r0) rfl
              injection e1 with e1; injection e1 with e1; subst e1
              obtain ⟨q1, q2⟩ := R.o.each r0 (List.mem_singleton.2 rfl)
              exact ⟨by rw [Nat.zero_mul] at h1; exact h1, ⟨q1.row len_eSlot, q2.row len_eInt, q1.len, q1.cap, q2.len, q2.cap⟩⟩
            have aC : ∀ W, Below W6.heap.size W6 W → W.rangeAt W0.heap.size 0 (cxA c).toList ∧ RowAt W W.heap.size 1 eInt C' c.who ∧ Drs W W.heap.size M rl := fun W hW =>
              have R := R6.below hW
              ⟨R.r, R.c.row len_eInt, R.m.drs⟩
            have hml : (rl.map Dr.d).length = rm.length := by rw [List.length_map]; exact hrl
            -- Cut
            have C14 := icut_any A cA W6.heap.size gs W6 (Nat.le_refl _) (gls W6 (Below.refl _ _)) (by omega)
            rw [hGl] at C14
            refine VCall.mk _ C14 ?_
            clear C14
            rintro _ W7 ⟨⟨kk, n1, rfl, P1⟩, b7⟩
            refine ⟨_, rfl, ?_⟩
            -- Lacks
            have bd7 : Below W7.heap.size W7 W7.drew := (Below.refl _ _).drew
            have K1 : Ld Try.prog 3 W0.heap.size 8 (fun W => Below W7.heap.size W7 W) (.int .i64 c.done) := ⟨fun W hW => load3 ((aC W (b7.trans (hW.mono b7.size))).1 8 _ rfl)⟩
            have K2 : Ld Try.prog 39 gO 0 (fun W => Below W7.heap.size W7 W) (.agg (flc r0.f.e r0.f.l r0.f.i r0.f.c r0.f.base r0.X r0.f.slots.length r0.cX r0.Y r0.f.have_.length r0.cY)) := ⟨fun W hW => load39 ((aO W (b7.trans (hW.mono b7.size))).1)⟩
            repeat ((conv => whnf); first | (refine VCmp.tt (by omega) ?_) | (refine VCmp.ff (by omega) ?_) | (refine VIn.mk (IntWalk.i64_in _ (by omega)) ?_) | (refine VIdx.mk _ rfl (by omega) ?_) | (refine VIdx.mk 0 rfl (by omega) ?_))
            try (conv => whnf)
            refine VDraw.mk 1000 [([0, 1, 2, 3, 4, 5], 6)] [7, 8, 9, 10, 11] (fun W => Below W7.heap.size W7 W) (by kernel_rfl) (by kernel_rfl) (bd7) ?_
            repeat ((conv => whnf); first | (refine VLoad.mk _ K1 ?_) | (refine VLoad.mk _ K2 ?_) | (refine VCmp.tt (by omega) ?_) | (refine VCmp.ff (by omega) ?_) | (refine VIn.mk (IntWalk.i64_in _ (by omega)) ?_) | (refine VIdx.mk _ rfl (by omega) ?_) | (refine VIdx.mk 0 rfl (by omega) ?_))
            try (conv => whnf)
            have b7d : Below W6.heap.size W6 W7.drew := b7.drew
            have C24 := lacks_any c.done r0.f r0.X r0.Y A r0.cX r0.cY cA W7.drew.heap.size gs W7.drew (Nat.le_refl _) (aO _ b7d).2 (gls _ b7d) (by omega)
            rw [hGl] at C24
            refine VCall.mk _ C24 ?_
            clear C24
            rintro _ W8 ⟨⟨B1, c1, l1, n2, rfl, P2, own1⟩, b8⟩
            refine ⟨_, rfl, ?_⟩
            have b78 : Below W7.heap.size W7 W8 := bd7.trans b8
            have b68 : Below W6.heap.size W6 W8 := b7.trans (b78.mono b7.size)
            repeat ((conv => whnf); first | (refine VS.mk b78 ?_) | (refine VCmp.tt (by omega) ?_) | (refine VCmp.ff (by omega) ?_) | (refine VIn.mk (IntWalk.i64_in _ (by omega)) ?_) | (refine VIdx.mk _ rfl (by omega) ?_) | (refine VIdx.mk 0 rfl (by omega) ?_))
            try (conv => whnf)
            -- Duty
            have K3 : Ld Try.prog 3 W0.heap.size 10 (Eq W8) (.int .i64 c.self) := .of (load3 ((aC W8 b68).1 10 _ rfl))
            have K4 : Ld Try.prog 3 W0.heap.size 11 (Eq W8) (.int .i64 c.q) := .of (load3 ((aC W8 b68).1 11 _ rfl))
            repeat ((conv => whnf); first | (refine VLoad.mk _ K3 ?_) | (refine VLoad.mk _ K4 ?_) | (refine VCmp.tt (by omega) ?_) | (refine VCmp.ff (by omega) ?_) | (refine VIn.mk (IntWalk.i64_in _ (by omega)) ?_) | (refine VIdx.mk _ rfl (by omega) ?_) | (refine VIdx.mk 0 rfl (by omega) ?_))
            try (conv => whnf)
            have C35 := duty_any c.self c.q C' A cC' cA W8.heap.size c.who gs W8 (Nat.le_refl _) (aC W8 b68).2.1 (gls W8 b68) (by omega) (by omega)
            rw [hGl] at C35
            refine VCall.mk _ C35 ?_
            clear C35
            rintro _ W9 ⟨⟨B2, c2, l2, n3, rfl, P3, own2⟩, b9⟩
            refine ⟨_, rfl, ?_⟩
            have b69 : Below W6.heap.size W6 W9 := b68.trans (b9.mono b68.size)
            -- Rest
            have K5 : Ld Try.prog 3 W0.heap.size 8 (Eq W9) (.int .i64 c.done) := .of (load3 ((aC W9 b69).1 8 _ rfl))
            repeat ((conv => whnf); first | (refine VLoad.mk _ K5 ?_) | (refine VCmp.tt (by omega) ?_) | (refine VCmp.ff (by omega) ?_) | (refine VIn.mk (IntWalk.i64_in _ (by omega)) ?_) | (refine VIdx.mk _ rfl (by omega) ?_) | (refine VIdx.mk 0 rfl (by omega) ?_))
            try (conv => whnf)
            have C19 := rest_any c.done A M cA cM W9.heap.size gs (rl.map Dr.d) W9 (Nat.le_refl _) (gls W9 b69) ⟨rl, rfl, (aC W9 b69).2.2⟩ (by omega) hok.small hok.key
            rw [hGl, hml] at C19
            refine VCall.mk _ C19 ?_
            clear C19
            rintro _ Wa ⟨⟨B3, c3, rs3, n4, rfl, P4, own3⟩, ba⟩
            refine ⟨_, rfl, ?_⟩
            have b6a : Below W6.heap.size W6 Wa := b69.trans (ba.mono b69.size)
            -- the document's Cut
            repeat ((conv => whnf); first | (refine VCmp.tt (by omega) ?_) | (refine VCmp.ff (by omega) ?_) | (refine VIn.mk (IntWalk.i64_in _ (by omega)) ?_) | (refine VIdx.mk _ rfl (by omega) ?_) | (refine VIdx.mk 0 rfl (by omega) ?_))
            try (conv => whnf)
            have C28 := many_w A cA Wa.heap.size gs Wa (Nat.le_refl _) (gls Wa b6a) hGs
            rw [hGl] at C28
            refine VCall.mk _ C28 ?_
            clear C28
            rintro _ Wb ⟨⟨D1, d1, rs1, rfl, hs1, FD1⟩, bb⟩
            refine ⟨_, rfl, ?_⟩
            have b6b : Below W6.heap.size W6 Wb := b6a.trans (bb.mono b6a.size)
            have FD1' := FD1.fls
            rw [hs1] at FD1'
            have C15 := rcut_any D1 d1 Wb.heap.size gs Wb (Nat.le_refl _) FD1' (by omega)
            rw [hGl] at C15
            repeat ((conv => whnf); first | (refine VCmp.tt (by omega) ?_) | (refine VCmp.ff (by omega) ?_) | (refine VIn.mk (IntWalk.i64_in _ (by omega)) ?_) | (refine VIdx.mk _ rfl (by omega) ?_) | (refine VIdx.mk 0 rfl (by omega) ?_))
            try (conv => whnf)
            refine VCall.mk _ C15 ?_
            clear C15 FD1 FD1'
            rintro _ Wc ⟨⟨kk', n1', rfl, Q1⟩, bc⟩
            refine ⟨_, rfl, ?_⟩
            obtain ⟨rfl, rfl⟩ := cutIs_one P1 Q1
            have b6c : Below W6.heap.size W6 Wc := b6b.trans (bc.mono b6b.size)
            -- the document's Lacks
            have bdc : Below Wc.heap.size Wc Wc.drew := (Below.refl _ _).drew
            have up6 : ∀ W, Below Wc.heap.size Wc W → Below W6.heap.size W6 W := fun W hW => b6c.trans (hW.mono b6c.size)
            have K6 : Ld Try.prog 3 W0.heap.size 8 (fun W => Below Wc.heap.size Wc W) (.int .i64 c.done) := ⟨fun W hW => load3 ((aC W (up6 W hW)).1 8 _ rfl)⟩
            have K7 : Ld Try.prog 39 gO 0 (fun W => Below Wc.heap.size Wc W) (.agg (flc r0.f.e r0.f.l r0.f.i r0.f.c r0.f.base r0.X r0.f.slots.length r0.cX r0.Y r0.f.have_.length r0.cY)) := ⟨fun W hW => load39 ((aO W (up6 W hW)).1)⟩
            have ho1 : r0.f.slots.length ≤ 1048576 := by rw [hr0]; exact hc.o1
            have ho2 : r0.f.have_.length ≤ 1048576 := by rw [hr0]; exact hc.o2
            repeat ((conv => whnf); first | (refine VCmp.tt (by omega) ?_) | (refine VCmp.ff (by omega) ?_) | (refine VIn.mk (IntWalk.i64_in _ (by omega)) ?_) | (refine VIdx.mk _ rfl (by omega) ?_) | (refine VIdx.mk 0 rfl (by omega) ?_))
            try (conv => whnf)
            refine VDraw.mk 1000 [([0, 1, 2, 3, 4, 6], 5), ([], 7), ([], 8)] [9, 10, 11, 12, 13] (fun W => Below Wc.heap.size Wc W) (by kernel_rfl) (by kernel_rfl) (bdc) ?_
            repeat ((conv => whnf); first | (refine VLoad.mk _ K6 ?_) | (refine VLoad.mk _ K7 ?_) | (refine VCmp.tt (by omega) ?_) | (refine VCmp.ff (by omega) ?_) | (refine VIn.mk (IntWalk.i64_in _ (by omega)) ?_) | (refine VIdx.mk _ rfl (by omega) ?_) | (refine VIdx.mk 0 rfl (by omega) ?_))
            try (conv => whnf)
            refine VCall.mk _ (one_own r0.f r0.X r0.Y r0.cX r0.cY Wc.drew.heap.size Wc.drew (Nat.le_refl _) (aO _ (up6 _ bdc)).2 (by omega) (by omega)) ?_
            rintro _ Wd ⟨⟨X1, cX1, Y1, cY1, rfl, oX, oY⟩, bd⟩
            refine ⟨_, rfl, ?_⟩
            have bcd : Below Wc.heap.size Wc Wd := bdc.trans bd
            repeat ((conv => whnf); first | (refine VS.mk bcd ?_) | (refine VCmp.tt (by omega) ?_) | (refine VCmp.ff (by omega) ?_) | (refine VIn.mk (IntWalk.i64_in _ (by omega)) ?_) | (refine VIdx.mk _ rfl (by omega) ?_) | (refine VIdx.mk 0 rfl (by omega) ?_))
            try (conv => whnf)
            have C28 := many_w A cA Wd.heap.size gs Wd (Nat.le_refl _) (gls Wd (up6 _ bcd)) hGs
            rw [hGl] at C28
            refine VCall.mk _ C28 ?_
            clear C28
            rintro _ We ⟨⟨D2, d2, rs2, rfl, hs2, FD2⟩, be⟩
            refine ⟨_, rfl, ?_⟩
            have bce : Below Wc.heap.size Wc We := bcd.trans (be.mono bcd.size)
            have FD2' := FD2.fls
            rw [hs2] at FD2'
            have oX2 := oX.below be
            have oY2 := oY.below be
            have C25 := rlacks_any c.done r0.f X1 Y1 D2 cX1 cY1 d2 We.heap.size gs We (Nat.le_refl _) ⟨oX2.row len_eSlot, oY2.row len_eInt, oX2.len, oX2.cap, oY2.len, oY2.cap⟩ FD2' (by omega)
            rw [hGl] at C25
            repeat ((conv => whnf); first | (refine VS.mk bce ?_) | (refine VCmp.tt (by omega) ?_) | (refine VCmp.ff (by omega) ?_) | (refine VIn.mk (IntWalk.i64_in _ (by omega)) ?_) | (refine VIdx.mk _ rfl (by omega) ?_) | (refine VIdx.mk 0 rfl (by omega) ?_))
            try (conv => whnf)
            refine VCall.mk _ C25 ?_
            clear C25 FD2 FD2' oX oY oX2 oY2
            rintro _ Wf ⟨⟨B1', c1', l1', n2', rfl, Q2, own1'⟩, bf⟩
            refine ⟨_, rfl, ?_⟩
            obtain ⟨rfl, rfl⟩ := lacks_one P2 Q2
            have bcf : Below Wc.heap.size Wc Wf := bce.trans (bf.mono bce.size)
            have b6f := up6 _ bcf
            repeat ((conv => whnf); first | (refine VS.mk bcf ?_) | (refine VCmp.tt (by omega) ?_) | (refine VCmp.ff (by omega) ?_) | (refine VIn.mk (IntWalk.i64_in _ (by omega)) ?_) | (refine VIdx.mk _ rfl (by omega) ?_) | (refine VIdx.mk 0 rfl (by omega) ?_))
            try (conv => whnf)
            -- the document's Duty
            have bdf : Below Wf.heap.size Wf Wf.drew := (Below.refl _ _).drew
            have up7 : ∀ W, Below Wf.heap.size Wf W → Below W6.heap.size W6 W := fun W hW => b6f.trans (hW.mono b6f.size)
            have K8 : Ld Try.prog 3 W0.heap.size 10 (fun W => Below Wf.heap.size Wf W) (.int .i64 c.self) := ⟨fun W hW => load3 ((aC W (up7 W hW)).1 10 _ rfl)⟩
            have K9 : Ld Try.prog 3 W0.heap.size 11 (fun W => Below Wf.heap.size Wf W) (.int .i64 c.q) := ⟨fun W hW => load3 ((aC W (up7 W hW)).1 11 _ rfl)⟩
            refine VDraw.mk 1000 [([0, 1, 2, 3, 5, 7], 4), ([], 6), ([], 8), ([], 9)] [10, 11, 12, 13, 14] (fun W => Below Wf.heap.size Wf W) (by kernel_rfl) (by kernel_rfl) (bdf) ?_
            repeat ((conv => whnf); first | (refine VLoad.mk _ K8 ?_) | (refine VLoad.mk _ K9 ?_) | (refine VCmp.tt (by omega) ?_) | (refine VCmp.ff (by omega) ?_) | (refine VIn.mk (IntWalk.i64_in _ (by omega)) ?_) | (refine VIdx.mk _ rfl (by omega) ?_) | (refine VIdx.mk 0 rfl (by omega) ?_))
            try (conv => whnf)
            refine VBs.mk _ _ (bs37z Wf.drew) ?_
            have bfg : Below Wf.heap.size Wf (Wf.drew.alloc (.cells #[] 3)) := bdf.alloc (Nat.le_refl _) _
            have zg : (Wf.drew.alloc (.cells #[] 3)).heap.size = Wf.heap.size + 1 := by simp
            generalize Wf.drew.alloc (.cells #[] 3) = Wg at bfg zg ⊢
            repeat ((conv => whnf); first | (refine VS.mk bfg ?_) | (refine VCmp.tt (by omega) ?_) | (refine VCmp.ff (by omega) ?_) | (refine VIn.mk (IntWalk.i64_in _ (by omega)) ?_) | (refine VIdx.mk _ rfl (by omega) ?_) | (refine VIdx.mk 0 rfl (by omega) ?_))
            try (conv => whnf)
            refine VApp.rowsW Wg.heap.size 1 8 _ Try.underlying37 info3 rfl (by decide) eInt len_eInt one_eInt ([] : List Int) c.who rfl ⟨Nat.zero_le _, fun h => absurd h (by omega)⟩ (aC Wg (up7 _ bfg)).2.1 (by omega) (by omega) (Nat.le_refl _) fun E cE Wh oE hgE hkE => ?_
            have bgh : Below Wg.heap.size Wg Wh := (Below.refl _ _).grown hgE (Nat.le_refl _) (fun k hk => by cases hk)
            have bfh : Below Wf.heap.size Wf Wh := bfg.trans (bgh.mono (by omega))
            repeat ((conv => whnf); first | (refine VS.mk bfh ?_) | (refine VCmp.tt (by omega) ?_) | (refine VCmp.ff (by omega) ?_) | (refine VIn.mk (IntWalk.i64_in _ (by omega)) ?_) | (refine VIdx.mk _ rfl (by omega) ?_) | (refine VIdx.mk 0 rfl (by omega) ?_))
            try (conv => whnf)
            have C28 := many_w A cA Wh.heap.size gs Wh (Nat.le_refl _) (gls Wh (up7 _ bfh)) hGs
            rw [hGl] at C28
            refine VCall.mk _ C28 ?_
            clear C28
            rintro _ Wi ⟨⟨D3, d3, rs4, rfl, hs4, FD3⟩, bi⟩
            refine ⟨_, rfl, ?_⟩
            have bfi : Below Wf.heap.size Wf Wi := bfh.trans (bi.mono bfh.size)
            have FD3' := FD3.fls
            rw [hs4] at FD3'
            have C36 := rduty_any c.self c.q E D3 cE d3 Wi.heap.size c.who gs Wi (Nat.le_refl _) ((oE.below bi).row len_eInt) FD3' (by omega) (by omega)
            rw [hGl] at C36
            repeat ((conv => whnf); first | (refine VS.mk bfi ?_) | (refine VCmp.tt (by omega) ?_) | (refine VCmp.ff (by omega) ?_) | (refine VIn.mk (IntWalk.i64_in _ (by omega)) ?_) | (refine VIdx.mk _ rfl (by omega) ?_) | (refine VIdx.mk 0 rfl (by omega) ?_))
            try (conv => whnf)
            refine VCall.mk _ C36 ?_
            clear C36 FD3 FD3' oE
            rintro _ Wj ⟨⟨B2', c2', l2', n3', rfl, Q3, own2'⟩, bj⟩
            refine ⟨_, rfl, ?_⟩
            obtain ⟨rfl, rfl⟩ := duty_one P3 Q3
            have bfj : Below Wf.heap.size Wf Wj := bfi.trans (bj.mono bfi.size)
            have b6j := up7 _ bfj
            repeat ((conv => whnf); first | (refine VS.mk bfj ?_) | (refine VCmp.tt (by omega) ?_) | (refine VCmp.ff (by omega) ?_) | (refine VIn.mk (IntWalk.i64_in _ (by omega)) ?_) | (refine VIdx.mk _ rfl (by omega) ?_) | (refine VIdx.mk 0 rfl (by omega) ?_))
            try (conv => whnf)
            -- the document's Rest
            have bdj : Below Wj.heap.size Wj Wj.drew := (Below.refl _ _).drew
            have up8 : ∀ W, Below Wj.heap.size Wj W → Below W6.heap.size W6 W := fun W hW => b6j.trans (hW.mono b6j.size)
            have Ka : Ld Try.prog 3 W0.heap.size 8 (fun W => Below Wj.heap.size Wj W) (.int .i64 c.done) := ⟨fun W hW => load3 ((aC W (up8 W hW)).1 8 _ rfl)⟩
            refine VDraw.mk 1000 [([0, 1, 2, 4], 3), ([], 5), ([], 6)] [7, 8, 9, 10, 11] (fun W => Below Wj.heap.size Wj W) (by kernel_rfl) (by kernel_rfl) (bdj) ?_
            repeat ((conv => whnf); first | (refine VLoad.mk _ Ka ?_) | (refine VCmp.tt (by omega) ?_) | (refine VCmp.ff (by omega) ?_) | (refine VIn.mk (IntWalk.i64_in _ (by omega)) ?_) | (refine VIdx.mk _ rfl (by omega) ?_) | (refine VIdx.mk 0 rfl (by omega) ?_))
            try (conv => whnf)
            have C28 := many_w A cA Wj.drew.heap.size gs Wj.drew (Nat.le_refl _) (gls _ (up8 _ bdj)) hGs
            rw [hGl] at C28
            refine VCall.mk _ C28 ?_
            clear C28
            rintro _ Wk ⟨⟨D4, d4, rs5, rfl, hs5, FD4⟩, bk⟩
            refine ⟨_, rfl, ?_⟩
            have bjk : Below Wj.heap.size Wj Wk := bdj.trans bk
            repeat ((conv => whnf); first | (refine VS.mk bjk ?_) | (refine VCmp.tt (by omega) ?_) | (refine VCmp.ff (by omega) ?_) | (refine VIn.mk (IntWalk.i64_in _ (by omega)) ?_) | (refine VIdx.mk _ rfl (by omega) ?_) | (refine VIdx.mk 0 rfl (by omega) ?_))
            try (conv => whnf)
            have C18 := datas_w M cM Wk.heap.size rl Wk (Nat.le_refl _) (aC Wk (up8 _ bjk)).2.2 hok.small
            rw [hrl] at C18
            refine VCall.mk _ C18 ?_
            clear C18
            rintro _ Wl ⟨⟨G, cG, al, rfl, hal, FG⟩, bl⟩
            refine ⟨_, rfl, ?_⟩
            have bjl : Below Wj.heap.size Wj Wl := bjk.trans (bl.mono bjk.size)
            have FD4' := (FD4.below bl).fls
            rw [hs5] at FD4'
            have FG' := FG.dts
            rw [hal] at FG'
            have C20 := rrest_any c.done D4 G d4 cG Wl.heap.size gs (rl.map Dr.d) Wl (Nat.le_refl _) FD4' FG' (by omega) hok.small
            rw [hGl, hml] at C20
            repeat ((conv => whnf); first | (refine VS.mk bjl ?_) | (refine VCmp.tt (by omega) ?_) | (refine VCmp.ff (by omega) ?_) | (refine VIn.mk (IntWalk.i64_in _ (by omega)) ?_) | (refine VIdx.mk _ rfl (by omega) ?_) | (refine VIdx.mk 0 rfl (by omega) ?_))
            try (conv => whnf)
            refine VCall.mk _ C20 ?_
            clear C20 FD4 FD4' FG FG'
            rintro _ Wm ⟨⟨B3', c3', rs3', n4', rfl, Q4, own3'⟩, bm⟩
            refine ⟨_, rfl, ?_⟩
            obtain ⟨hrs3, rfl⟩ := rest_one P4 Q4
            have bjm : Below Wj.heap.size Wj Wm := bjl.trans (bm.mono bjl.size)
            have hl3 : rs3'.length = rs3.length := by have := congrArg List.length hrs3; simpa using this.symm
            rw [hl3]
            have hfm : Below Wf.heap.size Wf Wm := bfj.trans (bjm.mono bfj.size)
            have hcm : Below Wc.heap.size Wc Wm := bcf.trans (hfm.mono bcf.size)
            have hbm : Below Wb.heap.size Wb Wm := bc.trans (hcm.mono bc.size)
            have ham : Below Wa.heap.size Wa Wm := bb.trans (hbm.mono bb.size)
            have h9m : Below W9.heap.size W9 Wm := ba.trans (ham.mono ba.size)
            have h8m : Below W8.heap.size W8 Wm := b9.trans (h9m.mono b9.size)
            have sA := ((own1.row len_eSlot).below h8m (Nat.le_refl _)).more h8m.size
            have sA' := ((own1'.row len_eSlot).below hfm (Nat.le_refl _)).more hfm.size
            have sB := ((own2.row len_eSlot).below h9m (Nat.le_refl _)).more h9m.size
            have sB' := ((own2'.row len_eSlot).below bjm (Nat.le_refl _)).more bjm.size
            have sM := ((msOwn_dts own3).below ham (Nat.le_refl _)).more ham.size
            have sM' := msOwn_dts own3'
            rw [← hrs3] at sM'
            have q1 := own1.len
            have q2 := own2.len
            have q3 := own3.row.len
            -- the comparison
            repeat ((conv => whnf); first | (refine VS.mk bjm ?_) | (refine VCmp.tt (by omega) ?_) | (refine VCmp.ff (by omega) ?_) | (refine VIn.mk (IntWalk.i64_in _ (by omega)) ?_) | (refine VIdx.mk _ rfl (by omega) ?_) | (refine VIdx.mk 0 rfl (by omega) ?_))
            try (conv => whnf)
            refine VCall.mk _ (num_any n1 Wm) ?_
            rintro _ Wn ⟨rfl, hWn⟩
            refine ⟨_, rfl, ?_⟩
            rw [← hWn]
            repeat ((conv => whnf); first | (refine VCmp.tt (by omega) ?_) | (refine VCmp.ff (by omega) ?_) | (refine VIn.mk (IntWalk.i64_in _ (by omega)) ?_) | (refine VIdx.mk _ rfl (by omega) ?_) | (refine VIdx.mk 0 rfl (by omega) ?_))
            try (conv => whnf)
            refine VCall.mk _ (sameSlots_yes B1 B1' c1 c1' Wm.heap.size l1 Wm (Nat.le_refl _) sA sA' (by omega)) ?_
            rintro _ Wo ⟨rfl, bo⟩
            refine ⟨_, rfl, ?_⟩
            repeat ((conv => whnf); first | (refine VCmp.tt (by omega) ?_) | (refine VCmp.ff (by omega) ?_) | (refine VIn.mk (IntWalk.i64_in _ (by omega)) ?_) | (refine VIdx.mk _ rfl (by omega) ?_) | (refine VIdx.mk 0 rfl (by omega) ?_))
            try (conv => whnf)
            refine VCall.mk _ (num_any n2 Wo) ?_
            rintro _ Wp ⟨rfl, hWp⟩
            refine ⟨_, rfl, ?_⟩
            rw [← hWp]
            repeat ((conv => whnf); first | (refine VCmp.tt (by omega) ?_) | (refine VCmp.ff (by omega) ?_) | (refine VIn.mk (IntWalk.i64_in _ (by omega)) ?_) | (refine VIdx.mk _ rfl (by omega) ?_) | (refine VIdx.mk 0 rfl (by omega) ?_))
            try (conv => whnf)
            refine VCall.mk _ (sameSlots_yes B2 B2' c2 c2' Wm.heap.size l2 Wo bo.size (sB.below bo (Nat.le_refl _)) (sB'.below bo (Nat.le_refl _)) (by omega)) ?_
            rintro _ Wq ⟨rfl, bq⟩
            refine ⟨_, rfl, ?_⟩
            have bmq : Below Wm.heap.size Wm Wq := bo.trans (bq.mono bo.size)
            repeat ((conv => whnf); first | (refine VCmp.tt (by omega) ?_) | (refine VCmp.ff (by omega) ?_) | (refine VIn.mk (IntWalk.i64_in _ (by omega)) ?_) | (refine VIdx.mk _ rfl (by omega) ?_) | (refine VIdx.mk 0 rfl (by omega) ?_))
            try (conv => whnf)
            refine VCall.mk _ (num_any n3 Wq) ?_
            rintro _ Wr ⟨rfl, hWr⟩
            refine ⟨_, rfl, ?_⟩
            rw [← hWr]
            have C21 := sameMsgs_yes B3 B3' c3 c3' Wm.heap.size (rs3.map Dr.d) Wq bmq.size (sM.below bmq (Nat.le_refl _)) (sM'.below bmq (Nat.le_refl _)) (by rw [List.length_map]; omega)
            rw [List.length_map] at C21
            repeat ((conv => whnf); first | (refine VCmp.tt (by omega) ?_) | (refine VCmp.ff (by omega) ?_) | (refine VIn.mk (IntWalk.i64_in _ (by omega)) ?_) | (refine VIdx.mk _ rfl (by omega) ?_) | (refine VIdx.mk 0 rfl (by omega) ?_))
            try (conv => whnf)
            refine VCall.mk _ C21 ?_
            clear C21
            rintro _ Ws ⟨rfl, bs⟩
            refine ⟨_, rfl, ?_⟩
            have bms : Below Wm.heap.size Wm Ws := bmq.trans (bs.mono bmq.size)
            repeat ((conv => whnf); first | (refine VCmp.tt (by omega) ?_) | (refine VCmp.ff (by omega) ?_) | (refine VIn.mk (IntWalk.i64_in _ (by omega)) ?_) | (refine VIdx.mk _ rfl (by omega) ?_) | (refine VIdx.mk 0 rfl (by omega) ?_))
            try (conv => whnf)
            refine VCall.mk _ (num_any n4 Ws) ?_
            rintro _ Wt ⟨rfl, hWt⟩
            refine ⟨_, rfl, ?_⟩
            rw [← hWt]
            have b6s : Below W6.heap.size W6 Ws := (up8 _ bjm).trans (bms.mono (up8 _ bjm).size)
            have Rs := R6.below b6s
            have bVs : Below wB.heap.size wB Ws := bV6.trans (b6s.mono R6.z)
            repeat ((conv => whnf); first | (refine VCmp.tt (by omega) ?_) | (refine VCmp.ff (by omega) ?_) | (refine VIn.mk (IntWalk.i64_in _ (by omega)) ?_) | (refine VIdx.mk _ rfl (by omega) ?_) | (refine VIdx.mk 0 rfl (by omega) ?_))
            try (conv => whnf)
            refine .mk (k + 1, ⟨A, cA, ra', some ⟨gO, 0, none⟩, cO, [r0], C', cC', c.who, M, cM, rl⟩) ⟨rfl, rfl, rfl, rfl, rfl, by show some (Value.slice M rm.length cM) = some (Value.slice M rl.length cM); rw [hrl], rfl, trivial⟩ ⟨hk3, Rs.other (by have := bVs.size; omega) (hx _ bVs).1 (by omega), bVs, hla, rfl, hok⟩ (by show 3 - (k + 1) < 3 - k; omega)
          case pos =>
            obtain ⟨bM, oM, hMx, hbM, hrow⟩ := (hYY _ b0).ms.row (by omega)
            have hpi : c.ms[i]? = some c.ms[i] := List.getElem?_eq_getElem h2
            have hpm : c.ms[i] ∈ c.ms := List.getElem_mem _
            generalize c.ms[i] = p at hpi hpm
            have hpd : p.d ∈ c.ms.map Dr.d := List.mem_map.2 ⟨p, hpm, rfl⟩
            have hps := hc.sd.2 p.d hpd
            have rowX : ∀ W, Below wB.heap.size wB W → W.rangeAt bM (oM + i * 4) (eDr p) := fun W hW j u hu => (hW.cell (p := ⟨bM, _, none⟩) (by show bM < wB.heap.size; omega)).trans (hrow i p hpi j u hu)
            have hir : i < rl.length := by omega
            have hri : rl[i]? = some rl[i] := List.getElem?_eq_getElem hir
            have hrm' : rl[i] ∈ rl := List.getElem_mem _
            generalize rl[i] = r at hri hrm'
            have o1 := R6.m.each r hrm'
            have hown := R6.m.own
            dsimp only at o1 hown
            obtain ⟨gM, hMe, hcM⟩ := hown.cell len_eDr hri
            subst hMe
            have hgM := hown.lo gM rfl
            have nM : gM ∉ (bw r.B r.c).toList := fun hm => o1.neO hown (by decide) gM (by simpa [Option.mem_toList] using hm) rfl
            have nb : W0.heap.size ∉ (bw r.B r.c).toList := fun hm => R6.bm (mblks_X hrm' (by simpa [Option.mem_toList] using hm))
            have lB : ∀ k ∈ (bw r.B r.c).toList, wB.heap.size ≤ k := fun k hk => (o1.lo k (by simpa [Option.mem_toList] using hk)).1
            rw [hMx] at M3
            have T1 : Ld Try.prog 52 gM (0 + i * 4 + 3) (fun W => Fx (bw r.B r.c).toList W6 W) (.slice r.B r.d.body.length r.c) := ⟨fun W hW => load52 (by rw [Nat.zero_add, hW.cell hgM.2 nM]; exact hcM 3 _ rfl)⟩
            have T2 : Ld Try.prog 40 W0.heap.size 12 (fun W => Fx (bw r.B r.c).toList W6 W) (.slice (some ⟨bM, oM, none⟩) c.ms.length c.cM) := ⟨fun W hW => load_cell (by kernel_rfl) (by rw [← hMx]; exact (range_same R6.r (hW.block _ R6.bz nb)) 12 _ rfl)⟩
            have T3 : Ld Try.prog 52 bM (oM + i * 4 + 3) (fun W => Fx (bw r.B r.c).toList W6 W) (.slice p.B p.d.body.length p.c) := ⟨fun W hW => load52 (rowX W (bV6.trans (hW.to lB R6.z)) 3 _ rfl)⟩
            repeat ((conv => whnf); first | (refine VLoad.mk _ M3 ?_) | (refine VCmp.tt (by omega) ?_) | (refine VCmp.ff (by omega) ?_) | (refine VIn.mk (IntWalk.i64_in _ (by omega)) ?_) | (refine VIdx.mk _ rfl (by omega) ?_) | (refine VIdx.mk 0 rfl (by omega) ?_))
            try (conv => whnf)
            refine VDraw.mk 1000 [([0, 1, 2, 3, 4, 5, 6, 7, 8, 9, 10, 11], 12)] [13] (fun W => Fx (bw r.B r.c).toList W6 W) (by kernel_rfl) (by kernel_rfl) ((Fx.refl _ _).drew) ?_
            repeat ((conv => whnf); first | (refine VLoad.mk _ T1 ?_) | (refine VLoad.mk _ T2 ?_) | (refine VLoad.mk _ T3 ?_) | (refine VSl.zero ?_) | (refine VCmp.tt (by omega) ?_) | (refine VCmp.ff (by omega) ?_) | (refine VIn.mk (IntWalk.i64_in _ (by omega)) ?_) | (refine VIdx.mk _ rfl (by omega) ?_) | (refine VIdx.mk 0 rfl (by omega) ?_))
            try (conv => whnf)
            refine VApp.rowsW wB.heap.size 1 1 _ Try.underlying52 info5 rfl (by decide) eByte len_eByte one_eByte r.d.body p.d.body rfl (show OwnW W6.drew wB.heap.size 5 1 eByte r.B r.c r.d.body from ⟨o1.len, o1.own⟩) ((hYY _ bV6.drew).ms.each p hpm).row (by omega) (by omega) (by show wB.heap.size ≤ W6.heap.size; exact R6.z) fun B' c' W7 hB7 hg7 hk7 => ?_
            have f7 : Fx (bw r.B r.c).toList W6 W7 := .undrew (.grown hg7 fun k hk => by rw [hk]; simp)
            have z7 := f7.size
            have bV7 : Below wB.heap.size wB W7 := bV6.trans (f7.to lB R6.z)
            have own7 : Owns W7 wB.heap.size 113 4 eDr (some ⟨gM, 0, none⟩) cM rl := hown.fx f7 fun k hk hm => by injection hk with hk; subst hk; exact nM hm
            have N1 : Ld Try.prog 40 W0.heap.size 12 (Eq W7) (.slice (some ⟨bM, oM, none⟩) c.ms.length c.cM) := T2.at f7
            have N2 : Ld Try.prog 113 bM (oM + i * 4) (Eq W7) (.agg (drA p)) := .of (load113 (rowX W7 bV7))
            have h4 : (i + 1) * 4 ≤ rl.length * 4 := Nat.mul_le_mul_right _ hir
            have th7 : W7.there gM (0 + i * 4) (drA p).size := fun j hj => by
              have hj : j < 4 := hj
              have := own7.there len_eDr (i * 4 + j) (by omega)
              rw [show 0 + i * 4 + j = 0 + (i * 4 + j) by omega]; exact this
            repeat ((conv => whnf); first | (refine VS.mk f7 ?_) | (refine VLoad.mk _ N1 ?_) | (refine VLoad.mk _ N2 ?_) | (refine VCmp.tt (by omega) ?_) | (refine VCmp.ff (by omega) ?_) | (refine VIn.mk (IntWalk.i64_in _ (by omega)) ?_) | (refine VIdx.mk _ rfl (by omega) ?_) | (refine VIdx.mk 0 rfl (by omega) ?_))
            try (conv => whnf)
            refine VStore.mid th7 (by kernel_rfl) (one_drA p) fun W8 hW8 => ?_
            have own8 : Owns W8 wB.heap.size 113 4 eDr (some ⟨gM, 0, none⟩) cM (rl.set i p) := by
              rw [hW8.out, show 0 + mulO i 4 = i * 4 by rw [mulO_eq]; omega]
              exact own7.sets len_eDr hir p
            have g8 : W7.grownBy W8 (some gM) := by rw [hW8.out]; exact grown_sets _ _ _ _
            clear hW8
            have th8 := own8.there len_eDr
            have hlen8 : (rl.set i p).length = rl.length := List.length_set ..
            rw [hlen8] at th8
            have t3 := th8 (i * 4 + 3) (by omega)
            rw [show 0 + (i * 4 + 3) = 0 + i * 4 + 3 by omega] at t3
            repeat ((conv => whnf); first | (refine VCmp.tt (by omega) ?_) | (refine VCmp.ff (by omega) ?_) | (refine VIn.mk (IntWalk.i64_in _ (by omega)) ?_) | (refine VIdx.mk _ rfl (by omega) ?_) | (refine VIdx.mk 0 rfl (by omega) ?_))
            try (conv => whnf)
            refine VStore.cell (by kernel_rfl) t3.1 t3.2 rfl rfl fun W9 hW9 => ?_
            have own9 : Owns W9 wB.heap.size 113 4 eDr (some ⟨gM, 0, none⟩) cM (rl.set i ⟨p.d, B', c'⟩) := by
              rw [hW9.out, show addO (0 + mulO i 4) 3 = i * 4 + 3 by rw [mulO_eq, addO_eq]; omega]
              have := own8.field (k := i) (j := 3) (x := p) (x' := ⟨p.d, B', c'⟩) (v := .slice B' p.d.body.length c') len_eDr (List.getElem?_set_self hir) rfl (by omega)
              rw [List.set_set] at this; exact this
            have g9 : W8.grownBy W9 (some gM) := by rw [hW9.out]; exact grown_cell _ _ _ _
            clear hW9
            have f79 : Fx (blk (some (⟨gM, 0, none⟩ : Addr))).toList W7 W9 := .grown (g8.trans g9) fun k hk => by injection hk with hk; subst hk; exact List.mem_singleton.2 rfl
            have f69 : Fx ((blk (some (⟨gM, 0, none⟩ : Addr))).toList ++ (bw r.B r.c).toList) W6 W9 := (f7.more fun k hk => List.mem_append.2 (.inr hk)).trans f79 fun k hk => .inl (List.mem_append.2 (.inl hk))
            have hB9 : OwnW W9 wB.heap.size 5 1 eByte B' c' p.d.body := hB7.fx f79 fun k hk hm => hB7.neO own7 (by decide) k hk (by simpa [Option.mem_toList] using hm)
            have kB : ∀ k, bw B' c' = some k → bw r.B r.c = some k ∨ W6.heap.size ≤ k := fun k hk => by
              rcases hk7 k hk with e | e
              · exact .inl e
              · right; rw [e]; exact Nat.le_refl _
            have P9 := R6.m.put (r' := ⟨p.d, B', c'⟩) hri f69 own9 hB9 kB
            have inM : ∀ k ∈ (blk (some (⟨gM, 0, none⟩ : Addr))).toList ++ (bw r.B r.c).toList, k ∈ mblks (some ⟨gM, 0, none⟩) rl := fun k hk => by
              rcases List.mem_append.1 hk with hk | hk
              · exact mblks_B (by simpa [Option.mem_toList] using hk)
              · exact mblks_X hrm' (by simpa [Option.mem_toList] using hk)
            have R9 := R6.setM (f69.more inM) P9 fun k hk => by
              rcases mblks_of hk with e | ⟨x, hx', e⟩
              · exact .inl (mblks_B e)
              · obtain ⟨q, hq⟩ := List.mem_iff_getElem?.1 hx'
                by_cases e1 : q = i
                · subst e1
                  rw [List.getElem?_set_self hir] at hq
                  injection hq with hq; subst hq
                  rcases kB k e with e | e
                  · exact .inl (mblks_X hrm' e)
                  · exact .inr e
                · rw [List.getElem?_set_ne (fun e2 => e1 e2.symm)] at hq
                  exact .inl (mblks_X (List.mem_of_getElem? hq) e)
            have bV9 : Below wB.heap.size wB W9 := bV6.trans (f69.to (fun k hk => (R6.m.blks k (inM k hk)).1) R6.z)
            repeat ((conv => whnf); first | (refine VCmp.tt (by omega) ?_) | (refine VCmp.ff (by omega) ?_) | (refine VIn.mk (IntWalk.i64_in _ (by omega)) ?_) | (refine VIdx.mk _ rfl (by omega) ?_) | (refine VIdx.mk 0 rfl (by omega) ?_))
            try (conv => whnf)
            refine .mk (i + 1, rl.set i ⟨p.d, B', c'⟩) ⟨rfl, rfl, rfl, rfl, rfl, rfl, rfl, rfl, rfl, trivial⟩ ⟨h1, by show (rl.set i _).length = _; rw [List.length_set]; exact hrl, hok.set hps (hc.kd p.d hpd), R9, bV9⟩ (by show rm.length - (i + 1) < rm.length - i; omega)
end Go.Proofs.Ytcffhfcjfjfokaa
