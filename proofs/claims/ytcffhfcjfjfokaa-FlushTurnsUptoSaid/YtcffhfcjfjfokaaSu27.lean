/- TuW, joined. -/
import Derived.Test.YtcffhfcjfjfokaaSu26
set_option linter.unusedVariables false
set_option linter.unusedSimpArgs false
namespace Go.Proofs.Ytcffhfcjfjfokaa
open Go Go.RowKit
set_option maxRecDepth 100000 in
set_option maxHeartbeats 8000000 in
theorem turns_walk {w : World} {A A' : Option Addr} {cA cA' : Nat} {os os' : List Opx} (n n' : Int) (h : ScAt w w.heap.size A os) (h' : ScAt w w.heap.size A' os') :
    Calls Try.prog 10 #[.agg #[.int .i64 n, .slice A os.length cA], .agg #[.int .i64 n', .slice A' os'.length cA']] w fun x w' => x = .returned (.bool true) ∧ Below w.heap.size w w' := by
  refine calls_vc tab_ok Try.func10 rfl ?_
  conv => whnf
  refine .mk fun wA hwA => ?_
  have hbA : Below w.heap.size w wA := by rw [hwA.out]; exact below_box1 _ _ _
  have zA : wA.heap.size = w.heap.size + 1 := by rw [hwA.out]; simp
  have oA : wA.rangeAt w.heap.size 0 [.int .i64 n, .slice A os.length cA] := by rw [hwA.out]; exact range_new w #[.int .i64 n, .slice A os.length cA] 85
  clear hwA
  conv => whnf
  refine .mk fun wB hwB => ?_
  have hbB : Below wA.heap.size wA wB := by rw [hwB.out]; exact below_box1 _ _ _
  have zB : wB.heap.size = w.heap.size + 2 := by rw [hwB.out]; simp [zA]
  have oB : wB.rangeAt wA.heap.size 0 [.int .i64 n', .slice A' os'.length cA'] := by rw [hwB.out]; exact range_new wA #[.int .i64 n', .slice A' os'.length cA'] 85
  have oA2 := range_same oA (hbB.block _ (by omega))
  have bB : Below w.heap.size w wB := hbA.trans (hbB.mono (by omega))
  clear hwB oA hbA hbB
  have b0 : Below wB.heap.size wB wB := Below.refl _ _
  have hx : ∀ W, Below wB.heap.size wB W → ScAt W w.heap.size A os ∧ ScAt W w.heap.size A' os' ∧ W.rangeAt w.heap.size 0 [.int .i64 n, .slice A os.length cA] ∧ W.rangeAt wA.heap.size 0 [.int .i64 n', .slice A' os'.length cA'] ∧ Below w.heap.size w W := fun W hW =>
    ⟨h.below (bB.trans (hW.mono (by omega))) (Nat.le_refl _), h'.below (bB.trans (hW.mono (by omega))) (Nat.le_refl _), range_same oA2 (hW.block _ (by omega)), range_same oB (hW.block _ (by omega)), bB.trans (hW.mono (by omega))⟩
  have Ln : Ld Try.prog 3 w.heap.size 0 (fun W => Below wB.heap.size wB W) (.int .i64 n) := ⟨fun W hW => load3 ((hx W hW).2.2.1 0 _ rfl)⟩
  have La : Ld Try.prog 83 w.heap.size 1 (fun W => Below wB.heap.size wB W) (.slice A os.length cA) := ⟨fun W hW => load_cell (by kernel_rfl) ((hx W hW).2.2.1 1 _ rfl)⟩
  have Ln' : Ld Try.prog 3 wA.heap.size 0 (fun W => Below wB.heap.size wB W) (.int .i64 n') := ⟨fun W hW => load3 ((hx W hW).2.2.2.1 0 _ rfl)⟩
  have La' : Ld Try.prog 83 wA.heap.size 1 (fun W => Below wB.heap.size wB W) (.slice A' os'.length cA') := ⟨fun W hW => load_cell (by kernel_rfl) ((hx W hW).2.2.2.1 1 _ rfl)⟩
  have hl := h.len
  have hl' := h'.len
  cases hok : newOk n with
  | false =>
    cases hok' : newOk n' with
    | false =>
      repeat ((conv => whnf); first | (refine VLoad.mk _ (Ln.at b0) ?_) | (refine VCmp.tt (by omega) ?_) | (refine VCmp.ff (by omega) ?_) | (refine VIn.mk (IntWalk.i64_in _ (by omega)) ?_) | (refine VIdx.mk _ rfl (by omega) ?_) | (refine VIdx.mk 0 rfl (by omega) ?_))
      try (conv => whnf)
      refine VCall.mk _ (snew_no n wB hok) ?_
      rintro _ y1 ⟨rfl, e1⟩
      refine ⟨_, rfl, ?_⟩
      rw [e1]
      repeat ((conv => whnf); first | (refine VLoad.mk _ (Ln.at b0) ?_) | (refine VCmp.tt (by omega) ?_) | (refine VCmp.ff (by omega) ?_) | (refine VIn.mk (IntWalk.i64_in _ (by omega)) ?_) | (refine VIdx.mk _ rfl (by omega) ?_) | (refine VIdx.mk 0 rfl (by omega) ?_))
      try (conv => whnf)
      refine VCall.mk _ (rsnew_no n wB hok) ?_
      rintro _ z1 ⟨rfl, e1⟩
      refine ⟨_, rfl, ?_⟩
      rw [e1]
      clear e1
      repeat ((conv => whnf); first | (refine VLoad.mk _ (Ln'.at b0) ?_) | (refine VCmp.tt (by omega) ?_) | (refine VCmp.ff (by omega) ?_) | (refine VIn.mk (IntWalk.i64_in _ (by omega)) ?_) | (refine VIdx.mk _ rfl (by omega) ?_) | (refine VIdx.mk 0 rfl (by omega) ?_))
      try (conv => whnf)
      refine VCall.mk _ (snew_no n' wB hok') ?_
      rintro _ y2 ⟨rfl, e2⟩
      refine ⟨_, rfl, ?_⟩
      rw [e2]
      repeat ((conv => whnf); first | (refine VLoad.mk _ (Ln'.at b0) ?_) | (refine VCmp.tt (by omega) ?_) | (refine VCmp.ff (by omega) ?_) | (refine VIn.mk (IntWalk.i64_in _ (by omega)) ?_) | (refine VIdx.mk _ rfl (by omega) ?_) | (refine VIdx.mk 0 rfl (by omega) ?_))
      try (conv => whnf)
      refine VCall.mk _ (rsnew_no n' wB hok') ?_
      rintro _ z2 ⟨rfl, e2⟩
      refine ⟨_, rfl, ?_⟩
      rw [e2]
      clear e2
      -- both errors are the document's
      repeat ((conv => whnf); first | (refine VCmp.tt (by omega) ?_) | (refine VCmp.ff (by omega) ?_) | (refine VIn.mk (IntWalk.i64_in _ (by omega)) ?_) | (refine VIdx.mk _ rfl (by omega) ?_) | (refine VIdx.mk 0 rfl (by omega) ?_))
      try (conv => whnf)
      refine VCall.mk _ (num_any 1 wB) ?_
      rintro _ _ ⟨rfl, rfl⟩
      refine ⟨_, rfl, ?_⟩
      repeat ((conv => whnf); first | (refine VCmp.tt (by omega) ?_) | (refine VCmp.ff (by omega) ?_) | (refine VIn.mk (IntWalk.i64_in _ (by omega)) ?_) | (refine VIdx.mk _ rfl (by omega) ?_) | (refine VIdx.mk 0 rfl (by omega) ?_))
      try (conv => whnf)
      refine VCall.mk _ (num_any 1 wB) ?_
      rintro _ _ ⟨rfl, rfl⟩
      refine ⟨_, rfl, ?_⟩
      repeat ((conv => whnf); first | (refine VCmp.tt (by omega) ?_) | (refine VCmp.ff (by omega) ?_) | (refine VIn.mk (IntWalk.i64_in _ (by omega)) ?_) | (refine VIdx.mk _ rfl (by omega) ?_) | (refine VIdx.mk 0 rfl (by omega) ?_))
      try (conv => whnf)
      refine VBuild.mk _ (fun W => bld105' W) ?_
      conv => whnf
      refine .mk fun wD hwD => ?_
      have hF0 : ∀ q ∈ ([] : List Nat), q < wB.heap.size := fun q hq => by
        cases hq
      have TD : Tn wD (wB.heap.size + 1) wB.heap.size ([] ++ [wB.heap.size]) [] bx0 wx0 := by rw [hwD.out]; exact tn_new wB _ hF0
      have dD : Below wB.heap.size wB wD := by rw [hwD.out]; exact (Below.refl _ _).alloc (Nat.le_refl _) _
      have zD : wD.heap.size = wB.heap.size + 1 := by rw [hwD.out]; simp
      clear hwD
      have bD : Below wB.heap.size wB wD := b0.trans (dD.mono b0.size)
      have hM1 : wB.heap.size ≤ wB.heap.size := b0.size
      have hM2 : wB.heap.size ≤ wB.heap.size := by omega
      obtain ⟨hb, hhb⟩ : ∃ hb, hb = wB.heap.size := ⟨_, rfl⟩
      obtain ⟨mm, hmm⟩ : ∃ mm, mm = wB.heap.size := ⟨_, rfl⟩
      rw [← hhb] at TD ⊢
      have hMa : wB.heap.size ≤ mm := by omega
      have hMb : mm ≤ hb := by omega
      have s1 : StO wD ([] ++ [hb]) wB.heap.size mm none := trivial
      have s2 : StO wD ([] ++ [hb]) mm hb none := trivial
      generalize [] ++ [hb] = FD at TD s1 s2
      repeat ((conv => whnf); first | (refine VCmp.tt (by omega) ?_) | (refine VCmp.ff (by omega) ?_) | (refine VIn.mk (IntWalk.i64_in _ (by omega)) ?_) | (refine VIdx.mk _ rfl (by omega) ?_) | (refine VIdx.mk 0 rfl (by omega) ?_))
      try (conv => whnf)
      refine VLoop.mk Nat (fun i => [(2, .pointer (some ⟨w.heap.size, 0, none⟩)), (3, .pointer (some ⟨wA.heap.size, 0, none⟩)), (5, .pointer none), (7, .pointer none), (9, .pointer none), (11, .pointer none), (13, .pointer (some ⟨hb, 0, none⟩)), (14, .int .i64 i)]) (fun i W => i ≤ 60 ∧ Below wB.heap.size wB W ∧ ∃ F x t, Tn W (hb + 1) hb F [] x t ∧ Sz x t (6000000 * i) ∧ StO W F wB.heap.size mm none ∧ StO W F mm hb none) (fun i => 60 - i) 0 ⟨rfl, rfl, rfl, rfl, rfl, rfl, rfl, rfl, trivial⟩ ⟨Nat.zero_le _, bD, _, _, _, TD, sz_new, s1, s2⟩ ?_
      clear TD s1 s2 bD dD
      rintro i wr ⟨hi, br, F, x, t, T, Z, s1, s2⟩
      by_cases h60 : i < 60
      case pos =>
        by_cases hx1 : i < os.length
        case pos =>
          by_cases hy1 : i < os'.length
          case pos =>
            repeat ((conv => whnf); first | (refine VLoad.mk _ (La.at br) ?_) | (refine VLoad.mk _ (La'.at br) ?_) | (refine VCmp.tt (by omega) ?_) | (refine VCmp.ff (by omega) ?_) | (refine VIn.mk (IntWalk.i64_in _ (by omega)) ?_) | (refine VIdx.mk _ rfl (by omega) ?_) | (refine VIdx.mk 0 rfl (by omega) ?_))
            try (conv => whnf)
            exact .mk (i + 1) ⟨rfl, rfl, rfl, rfl, rfl, rfl, rfl, rfl, trivial⟩ ⟨h60, br, _, _, _, T, Z.mono (by omega), s1, s2⟩ (by omega)
          case neg =>
            repeat ((conv => whnf); first | (refine VLoad.mk _ (La.at br) ?_) | (refine VLoad.mk _ (La'.at br) ?_) | (refine VCmp.tt (by omega) ?_) | (refine VCmp.ff (by omega) ?_) | (refine VIn.mk (IntWalk.i64_in _ (by omega)) ?_) | (refine VIdx.mk _ rfl (by omega) ?_) | (refine VIdx.mk 0 rfl (by omega) ?_))
            try (conv => whnf)
            exact .mk (i + 1) ⟨rfl, rfl, rfl, rfl, rfl, rfl, rfl, rfl, trivial⟩ ⟨h60, br, _, _, _, T, Z.mono (by omega), s1, s2⟩ (by omega)
        case neg =>
          by_cases hy1 : i < os'.length
          case pos =>
            repeat ((conv => whnf); first | (refine VLoad.mk _ (La.at br) ?_) | (refine VLoad.mk _ (La'.at br) ?_) | (refine VCmp.tt (by omega) ?_) | (refine VCmp.ff (by omega) ?_) | (refine VIn.mk (IntWalk.i64_in _ (by omega)) ?_) | (refine VIdx.mk _ rfl (by omega) ?_) | (refine VIdx.mk 0 rfl (by omega) ?_))
            try (conv => whnf)
            exact .mk (i + 1) ⟨rfl, rfl, rfl, rfl, rfl, rfl, rfl, rfl, trivial⟩ ⟨h60, br, _, _, _, T, Z.mono (by omega), s1, s2⟩ (by omega)
          case neg =>
            repeat ((conv => whnf); first | (refine VLoad.mk _ (La.at br) ?_) | (refine VLoad.mk _ (La'.at br) ?_) | (refine VCmp.tt (by omega) ?_) | (refine VCmp.ff (by omega) ?_) | (refine VIn.mk (IntWalk.i64_in _ (by omega)) ?_) | (refine VIdx.mk _ rfl (by omega) ?_) | (refine VIdx.mk 0 rfl (by omega) ?_))
            try (conv => whnf)
            refine VBuild.mk _ (fun W => bld95 W) ?_
            repeat ((conv => whnf); first | (refine VCmp.tt (by omega) ?_) | (refine VCmp.ff (by omega) ?_) | (refine VIn.mk (IntWalk.i64_in _ (by omega)) ?_) | (refine VIdx.mk _ rfl (by omega) ?_) | (refine VIdx.mk 0 rfl (by omega) ?_))
            try (conv => whnf)
            refine .mk _ run_zero95 ?_
            conv => whnf
            refine .mk fun x3 hx3 => ?_
            repeat ((conv => whnf); first | (refine VCmp.tt (by omega) ?_) | (refine VCmp.ff (by omega) ?_) | (refine VIn.mk (IntWalk.i64_in _ (by omega)) ?_) | (refine VIdx.mk _ rfl (by omega) ?_) | (refine VIdx.mk 0 rfl (by omega) ?_))
            try (conv => whnf)
            refine VStore.new hx3 (by kernel_rfl) rfl (one_opA lastO) fun we hwe => ?_
            have ce : Below wr.heap.size wr we := by rw [hwe.out]; exact (Below.refl _ _).alloc (Nat.le_refl _) _
            have ze : we.heap.size = wr.heap.size + 1 := by rw [hwe.out]; simp
            have re : we.rangeAt wr.heap.size 0 (opA lastO).toList := by rw [hwe.out]; exact range_new wr (opA lastO) 95
            clear hwe hx3
            have zr := br.size
            have be : Below wB.heap.size wB we := br.trans (ce.mono zr)
            have hnF : wr.heap.size ∉ F := fun hm => by have := T.hi _ (List.mem_append.2 (.inl hm)); omega
            have Te := T.below ce
            have se1 := s1.below ce
            have se2 := s2.below ce
            repeat ((conv => whnf); first | (refine VCmp.tt (by omega) ?_) | (refine VCmp.ff (by omega) ?_) | (refine VIn.mk (IntWalk.i64_in _ (by omega)) ?_) | (refine VIdx.mk _ rfl (by omega) ?_) | (refine VIdx.mk 0 rfl (by omega) ?_))
            try (conv => whnf)
            refine VCall.mk _ (alone_st (N := wB.heap.size) Te Z (by omega) se1 se2 (by omega) (by omega) (by omega)) ?_
            rintro _ wu ⟨rfl, bu, su1, su2⟩
            refine ⟨_, rfl, ?_⟩
            have bru : Below wB.heap.size wB wu := be.trans bu
            have zu := bru.size
            repeat ((conv => whnf); first | (refine VCmp.tt (by omega) ?_) | (refine VCmp.ff (by omega) ?_) | (refine VIn.mk (IntWalk.i64_in _ (by omega)) ?_) | (refine VIdx.mk _ rfl (by omega) ?_) | (refine VIdx.mk 0 rfl (by omega) ?_))
            try (conv => whnf)
            exact .mk ⟨rfl, (hx _ bru).2.2.2.2⟩
      case neg =>
        by_cases hx1 : i < os.length
        case pos =>
          repeat ((conv => whnf); first | (refine VLoad.mk _ (La.at br) ?_) | (refine VLoad.mk _ (La'.at br) ?_) | (refine VCmp.tt (by omega) ?_) | (refine VCmp.ff (by omega) ?_) | (refine VIn.mk (IntWalk.i64_in _ (by omega)) ?_) | (refine VIdx.mk _ rfl (by omega) ?_) | (refine VIdx.mk 0 rfl (by omega) ?_))
          try (conv => whnf)
          refine VBuild.mk _ (fun W => bld95 W) ?_
          repeat ((conv => whnf); first | (refine VCmp.tt (by omega) ?_) | (refine VCmp.ff (by omega) ?_) | (refine VIn.mk (IntWalk.i64_in _ (by omega)) ?_) | (refine VIdx.mk _ rfl (by omega) ?_) | (refine VIdx.mk 0 rfl (by omega) ?_))
          try (conv => whnf)
          refine .mk _ run_zero95 ?_
          conv => whnf
          refine .mk fun x3 hx3 => ?_
          repeat ((conv => whnf); first | (refine VCmp.tt (by omega) ?_) | (refine VCmp.ff (by omega) ?_) | (refine VIn.mk (IntWalk.i64_in _ (by omega)) ?_) | (refine VIdx.mk _ rfl (by omega) ?_) | (refine VIdx.mk 0 rfl (by omega) ?_))
          try (conv => whnf)
          refine VStore.new hx3 (by kernel_rfl) rfl (one_opA lastO) fun we hwe => ?_
          have ce : Below wr.heap.size wr we := by rw [hwe.out]; exact (Below.refl _ _).alloc (Nat.le_refl _) _
          have ze : we.heap.size = wr.heap.size + 1 := by rw [hwe.out]; simp
          have re : we.rangeAt wr.heap.size 0 (opA lastO).toList := by rw [hwe.out]; exact range_new wr (opA lastO) 95
          clear hwe hx3
          have zr := br.size
          have be : Below wB.heap.size wB we := br.trans (ce.mono zr)
          have hnF : wr.heap.size ∉ F := fun hm => by have := T.hi _ (List.mem_append.2 (.inl hm)); omega
          have Te := T.below ce
          have se1 := s1.below ce
          have se2 := s2.below ce
          repeat ((conv => whnf); first | (refine VCmp.tt (by omega) ?_) | (refine VCmp.ff (by omega) ?_) | (refine VIn.mk (IntWalk.i64_in _ (by omega)) ?_) | (refine VIdx.mk _ rfl (by omega) ?_) | (refine VIdx.mk 0 rfl (by omega) ?_))
          try (conv => whnf)
          refine VCall.mk _ (alone_st (N := wB.heap.size) Te Z (by omega) se1 se2 (by omega) (by omega) (by omega)) ?_
          rintro _ wu ⟨rfl, bu, su1, su2⟩
          refine ⟨_, rfl, ?_⟩
          have bru : Below wB.heap.size wB wu := be.trans bu
          have zu := bru.size
          repeat ((conv => whnf); first | (refine VCmp.tt (by omega) ?_) | (refine VCmp.ff (by omega) ?_) | (refine VIn.mk (IntWalk.i64_in _ (by omega)) ?_) | (refine VIdx.mk _ rfl (by omega) ?_) | (refine VIdx.mk 0 rfl (by omega) ?_))
          try (conv => whnf)
          exact .mk ⟨rfl, (hx _ bru).2.2.2.2⟩
        case neg =>
          by_cases hy1 : i < os'.length
          case pos =>
            repeat ((conv => whnf); first | (refine VLoad.mk _ (La.at br) ?_) | (refine VLoad.mk _ (La'.at br) ?_) | (refine VCmp.tt (by omega) ?_) | (refine VCmp.ff (by omega) ?_) | (refine VIn.mk (IntWalk.i64_in _ (by omega)) ?_) | (refine VIdx.mk _ rfl (by omega) ?_) | (refine VIdx.mk 0 rfl (by omega) ?_))
            try (conv => whnf)
            refine VBuild.mk _ (fun W => bld95 W) ?_
            repeat ((conv => whnf); first | (refine VCmp.tt (by omega) ?_) | (refine VCmp.ff (by omega) ?_) | (refine VIn.mk (IntWalk.i64_in _ (by omega)) ?_) | (refine VIdx.mk _ rfl (by omega) ?_) | (refine VIdx.mk 0 rfl (by omega) ?_))
            try (conv => whnf)
            refine .mk _ run_zero95 ?_
            conv => whnf
            refine .mk fun x3 hx3 => ?_
            repeat ((conv => whnf); first | (refine VCmp.tt (by omega) ?_) | (refine VCmp.ff (by omega) ?_) | (refine VIn.mk (IntWalk.i64_in _ (by omega)) ?_) | (refine VIdx.mk _ rfl (by omega) ?_) | (refine VIdx.mk 0 rfl (by omega) ?_))
            try (conv => whnf)
            refine VStore.new hx3 (by kernel_rfl) rfl (one_opA lastO) fun we hwe => ?_
            have ce : Below wr.heap.size wr we := by rw [hwe.out]; exact (Below.refl _ _).alloc (Nat.le_refl _) _
            have ze : we.heap.size = wr.heap.size + 1 := by rw [hwe.out]; simp
            have re : we.rangeAt wr.heap.size 0 (opA lastO).toList := by rw [hwe.out]; exact range_new wr (opA lastO) 95
            clear hwe hx3
            have zr := br.size
            have be : Below wB.heap.size wB we := br.trans (ce.mono zr)
            have hnF : wr.heap.size ∉ F := fun hm => by have := T.hi _ (List.mem_append.2 (.inl hm)); omega
            have Te := T.below ce
            have se1 := s1.below ce
            have se2 := s2.below ce
            repeat ((conv => whnf); first | (refine VCmp.tt (by omega) ?_) | (refine VCmp.ff (by omega) ?_) | (refine VIn.mk (IntWalk.i64_in _ (by omega)) ?_) | (refine VIdx.mk _ rfl (by omega) ?_) | (refine VIdx.mk 0 rfl (by omega) ?_))
            try (conv => whnf)
            refine VCall.mk _ (alone_st (N := wB.heap.size) Te Z (by omega) se1 se2 (by omega) (by omega) (by omega)) ?_
            rintro _ wu ⟨rfl, bu, su1, su2⟩
            refine ⟨_, rfl, ?_⟩
            have bru : Below wB.heap.size wB wu := be.trans bu
            have zu := bru.size
            repeat ((conv => whnf); first | (refine VCmp.tt (by omega) ?_) | (refine VCmp.ff (by omega) ?_) | (refine VIn.mk (IntWalk.i64_in _ (by omega)) ?_) | (refine VIdx.mk _ rfl (by omega) ?_) | (refine VIdx.mk 0 rfl (by omega) ?_))
            try (conv => whnf)
            exact .mk ⟨rfl, (hx _ bru).2.2.2.2⟩
          case neg =>
            repeat ((conv => whnf); first | (refine VLoad.mk _ (La.at br) ?_) | (refine VLoad.mk _ (La'.at br) ?_) | (refine VCmp.tt (by omega) ?_) | (refine VCmp.ff (by omega) ?_) | (refine VIn.mk (IntWalk.i64_in _ (by omega)) ?_) | (refine VIdx.mk _ rfl (by omega) ?_) | (refine VIdx.mk 0 rfl (by omega) ?_))
            try (conv => whnf)
            refine VBuild.mk _ (fun W => bld95 W) ?_
            repeat ((conv => whnf); first | (refine VCmp.tt (by omega) ?_) | (refine VCmp.ff (by omega) ?_) | (refine VIn.mk (IntWalk.i64_in _ (by omega)) ?_) | (refine VIdx.mk _ rfl (by omega) ?_) | (refine VIdx.mk 0 rfl (by omega) ?_))
            try (conv => whnf)
            refine .mk _ run_zero95 ?_
            conv => whnf
            refine .mk fun x3 hx3 => ?_
            repeat ((conv => whnf); first | (refine VCmp.tt (by omega) ?_) | (refine VCmp.ff (by omega) ?_) | (refine VIn.mk (IntWalk.i64_in _ (by omega)) ?_) | (refine VIdx.mk _ rfl (by omega) ?_) | (refine VIdx.mk 0 rfl (by omega) ?_))
            try (conv => whnf)
            refine VStore.new hx3 (by kernel_rfl) rfl (one_opA lastO) fun we hwe => ?_
            have ce : Below wr.heap.size wr we := by rw [hwe.out]; exact (Below.refl _ _).alloc (Nat.le_refl _) _
            have ze : we.heap.size = wr.heap.size + 1 := by rw [hwe.out]; simp
            have re : we.rangeAt wr.heap.size 0 (opA lastO).toList := by rw [hwe.out]; exact range_new wr (opA lastO) 95
            clear hwe hx3
            have zr := br.size
            have be : Below wB.heap.size wB we := br.trans (ce.mono zr)
            have hnF : wr.heap.size ∉ F := fun hm => by have := T.hi _ (List.mem_append.2 (.inl hm)); omega
            have Te := T.below ce
            have se1 := s1.below ce
            have se2 := s2.below ce
            repeat ((conv => whnf); first | (refine VCmp.tt (by omega) ?_) | (refine VCmp.ff (by omega) ?_) | (refine VIn.mk (IntWalk.i64_in _ (by omega)) ?_) | (refine VIdx.mk _ rfl (by omega) ?_) | (refine VIdx.mk 0 rfl (by omega) ?_))
            try (conv => whnf)
            refine VCall.mk _ (alone_st (N := wB.heap.size) Te Z (by omega) se1 se2 (by omega) (by omega) (by omega)) ?_
            rintro _ wu ⟨rfl, bu, su1, su2⟩
            refine ⟨_, rfl, ?_⟩
            have bru : Below wB.heap.size wB wu := be.trans bu
            have zu := bru.size
            repeat ((conv => whnf); first | (refine VCmp.tt (by omega) ?_) | (refine VCmp.ff (by omega) ?_) | (refine VIn.mk (IntWalk.i64_in _ (by omega)) ?_) | (refine VIdx.mk _ rfl (by omega) ?_) | (refine VIdx.mk 0 rfl (by omega) ?_))
            try (conv => whnf)
            exact .mk ⟨rfl, (hx _ bru).2.2.2.2⟩
    | true =>
      obtain ⟨m2, rfl, hm2, hn2⟩ := newOk_yes hok'
      repeat ((conv => whnf); first | (refine VLoad.mk _ (Ln.at b0) ?_) | (refine VCmp.tt (by omega) ?_) | (refine VCmp.ff (by omega) ?_) | (refine VIn.mk (IntWalk.i64_in _ (by omega)) ?_) | (refine VIdx.mk _ rfl (by omega) ?_) | (refine VIdx.mk 0 rfl (by omega) ?_))
      try (conv => whnf)
      refine VCall.mk _ (snew_no n wB hok) ?_
      rintro _ y1 ⟨rfl, e1⟩
      refine ⟨_, rfl, ?_⟩
      rw [e1]
      repeat ((conv => whnf); first | (refine VLoad.mk _ (Ln.at b0) ?_) | (refine VCmp.tt (by omega) ?_) | (refine VCmp.ff (by omega) ?_) | (refine VIn.mk (IntWalk.i64_in _ (by omega)) ?_) | (refine VIdx.mk _ rfl (by omega) ?_) | (refine VIdx.mk 0 rfl (by omega) ?_))
      try (conv => whnf)
      refine VCall.mk _ (rsnew_no n wB hok) ?_
      rintro _ z1 ⟨rfl, e1⟩
      refine ⟨_, rfl, ?_⟩
      rw [e1]
      clear e1
      repeat ((conv => whnf); first | (refine VLoad.mk _ (Ln'.at b0) ?_) | (refine VCmp.tt (by omega) ?_) | (refine VCmp.ff (by omega) ?_) | (refine VIn.mk (IntWalk.i64_in _ (by omega)) ?_) | (refine VIdx.mk _ rfl (by omega) ?_) | (refine VIdx.mk 0 rfl (by omega) ?_))
      try (conv => whnf)
      refine VCall.mk _ (snew_yes m2 wB hm2 hn2) ?_
      rintro _ y2 ⟨c, k, rfl, P2, q2, d2, hg2, hb2⟩
      refine ⟨_, rfl, ?_⟩
      have by2 : Below wB.heap.size wB y2 := b0.trans (d2.mono b0.size)
      repeat ((conv => whnf); first | (refine VLoad.mk _ (Ln'.at by2) ?_) | (refine VCmp.tt (by omega) ?_) | (refine VCmp.ff (by omega) ?_) | (refine VIn.mk (IntWalk.i64_in _ (by omega)) ?_) | (refine VIdx.mk _ rfl (by omega) ?_) | (refine VIdx.mk 0 rfl (by omega) ?_))
      try (conv => whnf)
      refine VCall.mk _ (rsnew_yes m2 y2 hm2 hn2) ?_
      rintro _ z2 ⟨c', k', rfl, D2, r2, f2, hgg2, hbb2⟩
      refine ⟨_, rfl, ?_⟩
      have bz2 : Below wB.heap.size wB z2 := by2.trans (f2.mono by2.size)
      have p12 := P2.hi c P2.bF
      have p22 := P2.hi k P2.gF
      have p32 := D2.hi c' D2.bF
      have p42 := D2.hi k' D2.gF
      have zy2 := d2.size
      have zz2 := f2.size
      have zw2 := b0.size
      -- both errors are the document's
      repeat ((conv => whnf); first | (refine VCmp.tt (by omega) ?_) | (refine VCmp.ff (by omega) ?_) | (refine VIn.mk (IntWalk.i64_in _ (by omega)) ?_) | (refine VIdx.mk _ rfl (by omega) ?_) | (refine VIdx.mk 0 rfl (by omega) ?_))
      try (conv => whnf)
      refine VCall.mk _ (num_any 1 z2) ?_
      rintro _ _ ⟨rfl, rfl⟩
      refine ⟨_, rfl, ?_⟩
      repeat ((conv => whnf); first | (refine VCmp.tt (by omega) ?_) | (refine VCmp.ff (by omega) ?_) | (refine VIn.mk (IntWalk.i64_in _ (by omega)) ?_) | (refine VIdx.mk _ rfl (by omega) ?_) | (refine VIdx.mk 0 rfl (by omega) ?_))
      try (conv => whnf)
      refine VCall.mk _ (num_any 0 z2) ?_
      rintro _ _ ⟨rfl, rfl⟩
      refine ⟨_, rfl, ?_⟩
      repeat ((conv => whnf); first | (refine VCmp.tt (by omega) ?_) | (refine VCmp.ff (by omega) ?_) | (refine VIn.mk (IntWalk.i64_in _ (by omega)) ?_) | (refine VIdx.mk _ rfl (by omega) ?_) | (refine VIdx.mk 0 rfl (by omega) ?_))
      try (conv => whnf)
      refine VBuild.mk _ (fun W => bld105' W) ?_
      conv => whnf
      refine .mk fun wD hwD => ?_
      have hF0 : ∀ q ∈ ([c, k, c', k'] : List Nat), q < z2.heap.size := fun q hq => by
        simp only [List.mem_cons, List.not_mem_nil, or_false] at hq
        rcases hq with rfl | rfl | rfl | rfl <;> omega
      have TD : Tn wD (z2.heap.size + 1) z2.heap.size ([c, k, c', k'] ++ [z2.heap.size]) [] bx0 wx0 := by rw [hwD.out]; exact tn_new z2 _ hF0
      have dD : Below z2.heap.size z2 wD := by rw [hwD.out]; exact (Below.refl _ _).alloc (Nat.le_refl _) _
      have zD : wD.heap.size = z2.heap.size + 1 := by rw [hwD.out]; simp
      clear hwD
      have bD : Below wB.heap.size wB wD := bz2.trans (dD.mono bz2.size)
      have hM1 : wB.heap.size ≤ wB.heap.size := b0.size
      have hM2 : wB.heap.size ≤ z2.heap.size := by omega
      obtain ⟨hb, hhb⟩ : ∃ hb, hb = z2.heap.size := ⟨_, rfl⟩
      obtain ⟨mm, hmm⟩ : ∃ mm, mm = wB.heap.size := ⟨_, rfl⟩
      rw [← hhb] at TD ⊢
      have hMa : wB.heap.size ≤ mm := by omega
      have hMb : mm ≤ hb := by omega
      have s1 : StO wD ([c, k, c', k'] ++ [hb]) wB.heap.size mm none := trivial
      have s2 : StO wD ([c, k, c', k'] ++ [hb]) mm hb (some (c, k, c', k')) := by
        have S2 : Two z2 [c, k, c', k'] c k c' k' (stoNew m2) := two_new P2 q2 f2 D2 r2 hgg2 hbb2 (by simp) (by simp) (by simp) (by simp) hF0
        refine ⟨(⟨⟨by omega, by omega, by omega, by omega⟩, by omega, by omega, by omega, by omega⟩ : Low mm hb c k c' k'), _, S2.ext dD (fun y hy => ?_) (fun y hy => List.mem_append.2 (.inl hy)) (fun y hy => ?_)⟩
        · rcases List.mem_append.1 hy with hy | hy
          · exact .inl hy
          · have := List.mem_singleton.1 hy; exact .inr (by omega)
        · rcases List.mem_append.1 hy with hy | hy
          · have := hF0 y hy; omega
          · have := List.mem_singleton.1 hy; omega
      generalize [c, k, c', k'] ++ [hb] = FD at TD s1 s2
      repeat ((conv => whnf); first | (refine VCmp.tt (by omega) ?_) | (refine VCmp.ff (by omega) ?_) | (refine VIn.mk (IntWalk.i64_in _ (by omega)) ?_) | (refine VIdx.mk _ rfl (by omega) ?_) | (refine VIdx.mk 0 rfl (by omega) ?_))
      try (conv => whnf)
      refine VLoop.mk Nat (fun i => [(2, .pointer (some ⟨w.heap.size, 0, none⟩)), (3, .pointer (some ⟨wA.heap.size, 0, none⟩)), (5, .pointer none), (7, .pointer none), (9, .pointer (some ⟨c, 0, none⟩)), (11, .pointer (some ⟨c', 0, none⟩)), (13, .pointer (some ⟨hb, 0, none⟩)), (14, .int .i64 i)]) (fun i W => i ≤ 60 ∧ Below wB.heap.size wB W ∧ ∃ F x t, Tn W (hb + 1) hb F [] x t ∧ Sz x t (6000000 * i) ∧ StO W F wB.heap.size mm none ∧ StO W F mm hb (some (c, k, c', k'))) (fun i => 60 - i) 0 ⟨rfl, rfl, rfl, rfl, rfl, rfl, rfl, rfl, trivial⟩ ⟨Nat.zero_le _, bD, _, _, _, TD, sz_new, s1, s2⟩ ?_
      clear TD s1 s2 bD dD
      rintro i wr ⟨hi, br, F, x, t, T, Z, s1, s2⟩
      by_cases h60 : i < 60
      case pos =>
        by_cases hx1 : i < os.length
        case pos =>
          by_cases hy1 : i < os'.length
          case pos =>
            have sc' := (hx wr br).2.1
            obtain ⟨ga', oa', eA', _, hrow'⟩ := sc'.row (by omega)
            obtain ⟨op', hop'⟩ : ∃ op, os'[i]? = some op := ⟨_, List.getElem?_eq_getElem hy1⟩
            have Lk' := La'.at br
            rw [eA'] at Lk'
            have Lo' : Ld Try.prog 95 ga' (oa' + i * 16) (Eq wr) (.agg (opA op')) := .of (load_agg (by kernel_rfl) (by kernel_rfl) (fun j u hu => hrow' i op' hop' j u hu))
            repeat ((conv => whnf); first | (refine VLoad.mk _ Lk' ?_) | (refine VLoad.mk _ Lo' ?_) | (refine VLoad.mk _ (La.at br) ?_) | (refine VCmp.tt (by omega) ?_) | (refine VCmp.ff (by omega) ?_) | (refine VIn.mk (IntWalk.i64_in _ (by omega)) ?_) | (refine VIdx.mk _ rfl (by omega) ?_) | (refine VIdx.mk 0 rfl (by omega) ?_))
            try (conv => whnf)
            refine VCall.mk _ (held_st (N := wB.heap.size) T Z (by omega) s2 s1 (.inl (Nat.le_refl _)) (by omega) (by omega) (by omega) (by omega) ((sc'.each op' (List.mem_of_getElem? hop')).more (by omega))) ?_
            rintro _ wq ⟨rfl, Fq, xq, tq, bq, Tq, Zq, sq2, sq1, _⟩
            refine ⟨_, rfl, ?_⟩
            have brq : Below wB.heap.size wB wq := br.trans bq
            repeat ((conv => whnf); first | (refine VLoad.mk _ (La.at brq) ?_) | (refine VLoad.mk _ (La'.at brq) ?_) | (refine VCmp.tt (by omega) ?_) | (refine VCmp.ff (by omega) ?_) | (refine VIn.mk (IntWalk.i64_in _ (by omega)) ?_) | (refine VIdx.mk _ rfl (by omega) ?_) | (refine VIdx.mk 0 rfl (by omega) ?_))
            try (conv => whnf)
            exact .mk (i + 1) ⟨rfl, rfl, rfl, rfl, rfl, rfl, rfl, rfl, trivial⟩ ⟨h60, brq, _, _, _, Tq, Zq.mono (by omega), sq1, sq2⟩ (by omega)
          case neg =>
            repeat ((conv => whnf); first | (refine VLoad.mk _ (La.at br) ?_) | (refine VLoad.mk _ (La'.at br) ?_) | (refine VCmp.tt (by omega) ?_) | (refine VCmp.ff (by omega) ?_) | (refine VIn.mk (IntWalk.i64_in _ (by omega)) ?_) | (refine VIdx.mk _ rfl (by omega) ?_) | (refine VIdx.mk 0 rfl (by omega) ?_))
            try (conv => whnf)
            exact .mk (i + 1) ⟨rfl, rfl, rfl, rfl, rfl, rfl, rfl, rfl, trivial⟩ ⟨h60, br, _, _, _, T, Z.mono (by omega), s1, s2⟩ (by omega)
        case neg =>
          by_cases hy1 : i < os'.length
          case pos =>
            have sc' := (hx wr br).2.1
            obtain ⟨ga', oa', eA', _, hrow'⟩ := sc'.row (by omega)
            obtain ⟨op', hop'⟩ : ∃ op, os'[i]? = some op := ⟨_, List.getElem?_eq_getElem hy1⟩
            have Lk' := La'.at br
            rw [eA'] at Lk'
            have Lo' : Ld Try.prog 95 ga' (oa' + i * 16) (Eq wr) (.agg (opA op')) := .of (load_agg (by kernel_rfl) (by kernel_rfl) (fun j u hu => hrow' i op' hop' j u hu))
            repeat ((conv => whnf); first | (refine VLoad.mk _ Lk' ?_) | (refine VLoad.mk _ Lo' ?_) | (refine VLoad.mk _ (La.at br) ?_) | (refine VCmp.tt (by omega) ?_) | (refine VCmp.ff (by omega) ?_) | (refine VIn.mk (IntWalk.i64_in _ (by omega)) ?_) | (refine VIdx.mk _ rfl (by omega) ?_) | (refine VIdx.mk 0 rfl (by omega) ?_))
            try (conv => whnf)
            refine VCall.mk _ (held_st (N := wB.heap.size) T Z (by omega) s2 s1 (.inl (Nat.le_refl _)) (by omega) (by omega) (by omega) (by omega) ((sc'.each op' (List.mem_of_getElem? hop')).more (by omega))) ?_
            rintro _ wq ⟨rfl, Fq, xq, tq, bq, Tq, Zq, sq2, sq1, _⟩
            refine ⟨_, rfl, ?_⟩
            have brq : Below wB.heap.size wB wq := br.trans bq
            repeat ((conv => whnf); first | (refine VLoad.mk _ (La.at brq) ?_) | (refine VLoad.mk _ (La'.at brq) ?_) | (refine VCmp.tt (by omega) ?_) | (refine VCmp.ff (by omega) ?_) | (refine VIn.mk (IntWalk.i64_in _ (by omega)) ?_) | (refine VIdx.mk _ rfl (by omega) ?_) | (refine VIdx.mk 0 rfl (by omega) ?_))
            try (conv => whnf)
            exact .mk (i + 1) ⟨rfl, rfl, rfl, rfl, rfl, rfl, rfl, rfl, trivial⟩ ⟨h60, brq, _, _, _, Tq, Zq.mono (by omega), sq1, sq2⟩ (by omega)
          case neg =>
            repeat ((conv => whnf); first | (refine VLoad.mk _ (La.at br) ?_) | (refine VLoad.mk _ (La'.at br) ?_) | (refine VCmp.tt (by omega) ?_) | (refine VCmp.ff (by omega) ?_) | (refine VIn.mk (IntWalk.i64_in _ (by omega)) ?_) | (refine VIdx.mk _ rfl (by omega) ?_) | (refine VIdx.mk 0 rfl (by omega) ?_))
            try (conv => whnf)
            refine VBuild.mk _ (fun W => bld95 W) ?_
            repeat ((conv => whnf); first | (refine VCmp.tt (by omega) ?_) | (refine VCmp.ff (by omega) ?_) | (refine VIn.mk (IntWalk.i64_in _ (by omega)) ?_) | (refine VIdx.mk _ rfl (by omega) ?_) | (refine VIdx.mk 0 rfl (by omega) ?_))
            try (conv => whnf)
            refine .mk _ run_zero95 ?_
            conv => whnf
            refine .mk fun x3 hx3 => ?_
            repeat ((conv => whnf); first | (refine VCmp.tt (by omega) ?_) | (refine VCmp.ff (by omega) ?_) | (refine VIn.mk (IntWalk.i64_in _ (by omega)) ?_) | (refine VIdx.mk _ rfl (by omega) ?_) | (refine VIdx.mk 0 rfl (by omega) ?_))
            try (conv => whnf)
            refine VStore.new hx3 (by kernel_rfl) rfl (one_opA lastO) fun we hwe => ?_
            have ce : Below wr.heap.size wr we := by rw [hwe.out]; exact (Below.refl _ _).alloc (Nat.le_refl _) _
            have ze : we.heap.size = wr.heap.size + 1 := by rw [hwe.out]; simp
            have re : we.rangeAt wr.heap.size 0 (opA lastO).toList := by rw [hwe.out]; exact range_new wr (opA lastO) 95
            clear hwe hx3
            have zr := br.size
            have be : Below wB.heap.size wB we := br.trans (ce.mono zr)
            have hnF : wr.heap.size ∉ F := fun hm => by have := T.hi _ (List.mem_append.2 (.inl hm)); omega
            have Te := T.below ce
            have se1 := s1.below ce
            have se2 := s2.below ce
            have Lz' : Ld Try.prog 95 wr.heap.size 0 (Eq we) (.agg (opA lastO)) := .of (load_agg (by kernel_rfl) (by kernel_rfl) re)
            repeat ((conv => whnf); first | (refine VLoad.mk _ Lz' ?_) | (refine VCmp.tt (by omega) ?_) | (refine VCmp.ff (by omega) ?_) | (refine VIn.mk (IntWalk.i64_in _ (by omega)) ?_) | (refine VIdx.mk _ rfl (by omega) ?_) | (refine VIdx.mk 0 rfl (by omega) ?_))
            try (conv => whnf)
            refine VCall.mk _ (held_st (N := wB.heap.size) Te Z (by omega) se2 se1 (.inl (Nat.le_refl _)) (by omega) (by omega) (by omega) (by omega) (lastAt _ _)) ?_
            rintro _ wq ⟨rfl, Fq, xq, tq, bq, Tq, Zq, sq2, sq1, _⟩
            refine ⟨_, rfl, ?_⟩
            have brq : Below wB.heap.size wB wq := be.trans bq
            repeat ((conv => whnf); first | (refine VCmp.tt (by omega) ?_) | (refine VCmp.ff (by omega) ?_) | (refine VIn.mk (IntWalk.i64_in _ (by omega)) ?_) | (refine VIdx.mk _ rfl (by omega) ?_) | (refine VIdx.mk 0 rfl (by omega) ?_))
            try (conv => whnf)
            refine VCall.mk _ (alone_st (N := wB.heap.size) Tq Zq (by omega) sq1 sq2 (by omega) (by omega) (by omega)) ?_
            rintro _ wu ⟨rfl, bu, su1, su2⟩
            refine ⟨_, rfl, ?_⟩
            have bru : Below wB.heap.size wB wu := brq.trans bu
            have zu := bru.size
            obtain ⟨sb, Sb⟩ := su2.two
            repeat ((conv => whnf); first | (refine VLoad.mk _ (La'.at bru) ?_) | (refine VCmp.tt (by omega) ?_) | (refine VCmp.ff (by omega) ?_) | (refine VIn.mk (IntWalk.i64_in _ (by omega)) ?_) | (refine VIdx.mk _ rfl (by omega) ?_) | (refine VIdx.mk 0 rfl (by omega) ?_))
            try (conv => whnf)
            refine VCall.mk _ (onceMore_any Sb (hx wu bru).2.1 (by have := bru.size; omega)) ?_
            rintro _ wx ⟨rfl, bx⟩
            refine ⟨_, rfl, ?_⟩
            have brx : Below wB.heap.size wB wx := bru.trans (bx.mono bru.size)
            repeat ((conv => whnf); first | (refine VCmp.tt (by omega) ?_) | (refine VCmp.ff (by omega) ?_) | (refine VIn.mk (IntWalk.i64_in _ (by omega)) ?_) | (refine VIdx.mk _ rfl (by omega) ?_) | (refine VIdx.mk 0 rfl (by omega) ?_))
            try (conv => whnf)
            exact .mk ⟨rfl, (hx _ brx).2.2.2.2⟩
      case neg =>
        by_cases hx1 : i < os.length
        case pos =>
          repeat ((conv => whnf); first | (refine VLoad.mk _ (La.at br) ?_) | (refine VLoad.mk _ (La'.at br) ?_) | (refine VCmp.tt (by omega) ?_) | (refine VCmp.ff (by omega) ?_) | (refine VIn.mk (IntWalk.i64_in _ (by omega)) ?_) | (refine VIdx.mk _ rfl (by omega) ?_) | (refine VIdx.mk 0 rfl (by omega) ?_))
          try (conv => whnf)
          refine VBuild.mk _ (fun W => bld95 W) ?_
          repeat ((conv => whnf); first | (refine VCmp.tt (by omega) ?_) | (refine VCmp.ff (by omega) ?_) | (refine VIn.mk (IntWalk.i64_in _ (by omega)) ?_) | (refine VIdx.mk _ rfl (by omega) ?_) | (refine VIdx.mk 0 rfl (by omega) ?_))
          try (conv => whnf)
          refine .mk _ run_zero95 ?_
          conv => whnf
          refine .mk fun x3 hx3 => ?_
          repeat ((conv => whnf); first | (refine VCmp.tt (by omega) ?_) | (refine VCmp.ff (by omega) ?_) | (refine VIn.mk (IntWalk.i64_in _ (by omega)) ?_) | (refine VIdx.mk _ rfl (by omega) ?_) | (refine VIdx.mk 0 rfl (by omega) ?_))
          try (conv => whnf)
          refine VStore.new hx3 (by kernel_rfl) rfl (one_opA lastO) fun we hwe => ?_
          have ce : Below wr.heap.size wr we := by rw [hwe.out]; exact (Below.refl _ _).alloc (Nat.le_refl _) _
          have ze : we.heap.size = wr.heap.size + 1 := by rw [hwe.out]; simp
          have re : we.rangeAt wr.heap.size 0 (opA lastO).toList := by rw [hwe.out]; exact range_new wr (opA lastO) 95
          clear hwe hx3
          have zr := br.size
          have be : Below wB.heap.size wB we := br.trans (ce.mono zr)
          have hnF : wr.heap.size ∉ F := fun hm => by have := T.hi _ (List.mem_append.2 (.inl hm)); omega
          have Te := T.below ce
          have se1 := s1.below ce
          have se2 := s2.below ce
          have Lz' : Ld Try.prog 95 wr.heap.size 0 (Eq we) (.agg (opA lastO)) := .of (load_agg (by kernel_rfl) (by kernel_rfl) re)
          repeat ((conv => whnf); first | (refine VLoad.mk _ Lz' ?_) | (refine VCmp.tt (by omega) ?_) | (refine VCmp.ff (by omega) ?_) | (refine VIn.mk (IntWalk.i64_in _ (by omega)) ?_) | (refine VIdx.mk _ rfl (by omega) ?_) | (refine VIdx.mk 0 rfl (by omega) ?_))
          try (conv => whnf)
          refine VCall.mk _ (held_st (N := wB.heap.size) Te Z (by omega) se2 se1 (.inl (Nat.le_refl _)) (by omega) (by omega) (by omega) (by omega) (lastAt _ _)) ?_
          rintro _ wq ⟨rfl, Fq, xq, tq, bq, Tq, Zq, sq2, sq1, _⟩
          refine ⟨_, rfl, ?_⟩
          have brq : Below wB.heap.size wB wq := be.trans bq
          repeat ((conv => whnf); first | (refine VCmp.tt (by omega) ?_) | (refine VCmp.ff (by omega) ?_) | (refine VIn.mk (IntWalk.i64_in _ (by omega)) ?_) | (refine VIdx.mk _ rfl (by omega) ?_) | (refine VIdx.mk 0 rfl (by omega) ?_))
          try (conv => whnf)
          refine VCall.mk _ (alone_st (N := wB.heap.size) Tq Zq (by omega) sq1 sq2 (by omega) (by omega) (by omega)) ?_
          rintro _ wu ⟨rfl, bu, su1, su2⟩
          refine ⟨_, rfl, ?_⟩
          have bru : Below wB.heap.size wB wu := brq.trans bu
          have zu := bru.size
          obtain ⟨sb, Sb⟩ := su2.two
          repeat ((conv => whnf); first | (refine VLoad.mk _ (La'.at bru) ?_) | (refine VCmp.tt (by omega) ?_) | (refine VCmp.ff (by omega) ?_) | (refine VIn.mk (IntWalk.i64_in _ (by omega)) ?_) | (refine VIdx.mk _ rfl (by omega) ?_) | (refine VIdx.mk 0 rfl (by omega) ?_))
          try (conv => whnf)
          refine VCall.mk _ (onceMore_any Sb (hx wu bru).2.1 (by have := bru.size; omega)) ?_
          rintro _ wx ⟨rfl, bx⟩
          refine ⟨_, rfl, ?_⟩
          have brx : Below wB.heap.size wB wx := bru.trans (bx.mono bru.size)
          repeat ((conv => whnf); first | (refine VCmp.tt (by omega) ?_) | (refine VCmp.ff (by omega) ?_) | (refine VIn.mk (IntWalk.i64_in _ (by omega)) ?_) | (refine VIdx.mk _ rfl (by omega) ?_) | (refine VIdx.mk 0 rfl (by omega) ?_))
          try (conv => whnf)
          exact .mk ⟨rfl, (hx _ brx).2.2.2.2⟩
        case neg =>
          by_cases hy1 : i < os'.length
          case pos =>
            repeat ((conv => whnf); first | (refine VLoad.mk _ (La.at br) ?_) | (refine VLoad.mk _ (La'.at br) ?_) | (refine VCmp.tt (by omega) ?_) | (refine VCmp.ff (by omega) ?_) | (refine VIn.mk (IntWalk.i64_in _ (by omega)) ?_) | (refine VIdx.mk _ rfl (by omega) ?_) | (refine VIdx.mk 0 rfl (by omega) ?_))
            try (conv => whnf)
            refine VBuild.mk _ (fun W => bld95 W) ?_
            repeat ((conv => whnf); first | (refine VCmp.tt (by omega) ?_) | (refine VCmp.ff (by omega) ?_) | (refine VIn.mk (IntWalk.i64_in _ (by omega)) ?_) | (refine VIdx.mk _ rfl (by omega) ?_) | (refine VIdx.mk 0 rfl (by omega) ?_))
            try (conv => whnf)
            refine .mk _ run_zero95 ?_
            conv => whnf
            refine .mk fun x3 hx3 => ?_
            repeat ((conv => whnf); first | (refine VCmp.tt (by omega) ?_) | (refine VCmp.ff (by omega) ?_) | (refine VIn.mk (IntWalk.i64_in _ (by omega)) ?_) | (refine VIdx.mk _ rfl (by omega) ?_) | (refine VIdx.mk 0 rfl (by omega) ?_))
            try (conv => whnf)
            refine VStore.new hx3 (by kernel_rfl) rfl (one_opA lastO) fun we hwe => ?_
            have ce : Below wr.heap.size wr we := by rw [hwe.out]; exact (Below.refl _ _).alloc (Nat.le_refl _) _
            have ze : we.heap.size = wr.heap.size + 1 := by rw [hwe.out]; simp
            have re : we.rangeAt wr.heap.size 0 (opA lastO).toList := by rw [hwe.out]; exact range_new wr (opA lastO) 95
            clear hwe hx3
            have zr := br.size
            have be : Below wB.heap.size wB we := br.trans (ce.mono zr)
            have hnF : wr.heap.size ∉ F := fun hm => by have := T.hi _ (List.mem_append.2 (.inl hm)); omega
            have Te := T.below ce
            have se1 := s1.below ce
            have se2 := s2.below ce
            have Lz' : Ld Try.prog 95 wr.heap.size 0 (Eq we) (.agg (opA lastO)) := .of (load_agg (by kernel_rfl) (by kernel_rfl) re)
            repeat ((conv => whnf); first | (refine VLoad.mk _ Lz' ?_) | (refine VCmp.tt (by omega) ?_) | (refine VCmp.ff (by omega) ?_) | (refine VIn.mk (IntWalk.i64_in _ (by omega)) ?_) | (refine VIdx.mk _ rfl (by omega) ?_) | (refine VIdx.mk 0 rfl (by omega) ?_))
            try (conv => whnf)
            refine VCall.mk _ (held_st (N := wB.heap.size) Te Z (by omega) se2 se1 (.inl (Nat.le_refl _)) (by omega) (by omega) (by omega) (by omega) (lastAt _ _)) ?_
            rintro _ wq ⟨rfl, Fq, xq, tq, bq, Tq, Zq, sq2, sq1, _⟩
            refine ⟨_, rfl, ?_⟩
            have brq : Below wB.heap.size wB wq := be.trans bq
            repeat ((conv => whnf); first | (refine VCmp.tt (by omega) ?_) | (refine VCmp.ff (by omega) ?_) | (refine VIn.mk (IntWalk.i64_in _ (by omega)) ?_) | (refine VIdx.mk _ rfl (by omega) ?_) | (refine VIdx.mk 0 rfl (by omega) ?_))
            try (conv => whnf)
            refine VCall.mk _ (alone_st (N := wB.heap.size) Tq Zq (by omega) sq1 sq2 (by omega) (by omega) (by omega)) ?_
            rintro _ wu ⟨rfl, bu, su1, su2⟩
            refine ⟨_, rfl, ?_⟩
            have bru : Below wB.heap.size wB wu := brq.trans bu
            have zu := bru.size
            obtain ⟨sb, Sb⟩ := su2.two
            repeat ((conv => whnf); first | (refine VLoad.mk _ (La'.at bru) ?_) | (refine VCmp.tt (by omega) ?_) | (refine VCmp.ff (by omega) ?_) | (refine VIn.mk (IntWalk.i64_in _ (by omega)) ?_) | (refine VIdx.mk _ rfl (by omega) ?_) | (refine VIdx.mk 0 rfl (by omega) ?_))
            try (conv => whnf)
            refine VCall.mk _ (onceMore_any Sb (hx wu bru).2.1 (by have := bru.size; omega)) ?_
            rintro _ wx ⟨rfl, bx⟩
            refine ⟨_, rfl, ?_⟩
            have brx : Below wB.heap.size wB wx := bru.trans (bx.mono bru.size)
            repeat ((conv => whnf); first | (refine VCmp.tt (by omega) ?_) | (refine VCmp.ff (by omega) ?_) | (refine VIn.mk (IntWalk.i64_in _ (by omega)) ?_) | (refine VIdx.mk _ rfl (by omega) ?_) | (refine VIdx.mk 0 rfl (by omega) ?_))
            try (conv => whnf)
            exact .mk ⟨rfl, (hx _ brx).2.2.2.2⟩
          case neg =>
            repeat ((conv => whnf); first | (refine VLoad.mk _ (La.at br) ?_) | (refine VLoad.mk _ (La'.at br) ?_) | (refine VCmp.tt (by omega) ?_) | (refine VCmp.ff (by omega) ?_) | (refine VIn.mk (IntWalk.i64_in _ (by omega)) ?_) | (refine VIdx.mk _ rfl (by omega) ?_) | (refine VIdx.mk 0 rfl (by omega) ?_))
            try (conv => whnf)
            refine VBuild.mk _ (fun W => bld95 W) ?_
            repeat ((conv => whnf); first | (refine VCmp.tt (by omega) ?_) | (refine VCmp.ff (by omega) ?_) | (refine VIn.mk (IntWalk.i64_in _ (by omega)) ?_) | (refine VIdx.mk _ rfl (by omega) ?_) | (refine VIdx.mk 0 rfl (by omega) ?_))
            try (conv => whnf)
            refine .mk _ run_zero95 ?_
            conv => whnf
            refine .mk fun x3 hx3 => ?_
            repeat ((conv => whnf); first | (refine VCmp.tt (by omega) ?_) | (refine VCmp.ff (by omega) ?_) | (refine VIn.mk (IntWalk.i64_in _ (by omega)) ?_) | (refine VIdx.mk _ rfl (by omega) ?_) | (refine VIdx.mk 0 rfl (by omega) ?_))
            try (conv => whnf)
            refine VStore.new hx3 (by kernel_rfl) rfl (one_opA lastO) fun we hwe => ?_
            have ce : Below wr.heap.size wr we := by rw [hwe.out]; exact (Below.refl _ _).alloc (Nat.le_refl _) _
            have ze : we.heap.size = wr.heap.size + 1 := by rw [hwe.out]; simp
            have re : we.rangeAt wr.heap.size 0 (opA lastO).toList := by rw [hwe.out]; exact range_new wr (opA lastO) 95
            clear hwe hx3
            have zr := br.size
            have be : Below wB.heap.size wB we := br.trans (ce.mono zr)
            have hnF : wr.heap.size ∉ F := fun hm => by have := T.hi _ (List.mem_append.2 (.inl hm)); omega
            have Te := T.below ce
            have se1 := s1.below ce
            have se2 := s2.below ce
            have Lz' : Ld Try.prog 95 wr.heap.size 0 (Eq we) (.agg (opA lastO)) := .of (load_agg (by kernel_rfl) (by kernel_rfl) re)
            repeat ((conv => whnf); first | (refine VLoad.mk _ Lz' ?_) | (refine VCmp.tt (by omega) ?_) | (refine VCmp.ff (by omega) ?_) | (refine VIn.mk (IntWalk.i64_in _ (by omega)) ?_) | (refine VIdx.mk _ rfl (by omega) ?_) | (refine VIdx.mk 0 rfl (by omega) ?_))
            try (conv => whnf)
            refine VCall.mk _ (held_st (N := wB.heap.size) Te Z (by omega) se2 se1 (.inl (Nat.le_refl _)) (by omega) (by omega) (by omega) (by omega) (lastAt _ _)) ?_
            rintro _ wq ⟨rfl, Fq, xq, tq, bq, Tq, Zq, sq2, sq1, _⟩
            refine ⟨_, rfl, ?_⟩
            have brq : Below wB.heap.size wB wq := be.trans bq
            repeat ((conv => whnf); first | (refine VCmp.tt (by omega) ?_) | (refine VCmp.ff (by omega) ?_) | (refine VIn.mk (IntWalk.i64_in _ (by omega)) ?_) | (refine VIdx.mk _ rfl (by omega) ?_) | (refine VIdx.mk 0 rfl (by omega) ?_))
            try (conv => whnf)
            refine VCall.mk _ (alone_st (N := wB.heap.size) Tq Zq (by omega) sq1 sq2 (by omega) (by omega) (by omega)) ?_
            rintro _ wu ⟨rfl, bu, su1, su2⟩
            refine ⟨_, rfl, ?_⟩
            have bru : Below wB.heap.size wB wu := brq.trans bu
            have zu := bru.size
            obtain ⟨sb, Sb⟩ := su2.two
            repeat ((conv => whnf); first | (refine VLoad.mk _ (La'.at bru) ?_) | (refine VCmp.tt (by omega) ?_) | (refine VCmp.ff (by omega) ?_) | (refine VIn.mk (IntWalk.i64_in _ (by omega)) ?_) | (refine VIdx.mk _ rfl (by omega) ?_) | (refine VIdx.mk 0 rfl (by omega) ?_))
            try (conv => whnf)
            refine VCall.mk _ (onceMore_any Sb (hx wu bru).2.1 (by have := bru.size; omega)) ?_
            rintro _ wx ⟨rfl, bx⟩
            refine ⟨_, rfl, ?_⟩
            have brx : Below wB.heap.size wB wx := bru.trans (bx.mono bru.size)
            repeat ((conv => whnf); first | (refine VCmp.tt (by omega) ?_) | (refine VCmp.ff (by omega) ?_) | (refine VIn.mk (IntWalk.i64_in _ (by omega)) ?_) | (refine VIdx.mk _ rfl (by omega) ?_) | (refine VIdx.mk 0 rfl (by omega) ?_))
            try (conv => whnf)
            exact .mk ⟨rfl, (hx _ brx).2.2.2.2⟩
  | true =>
    cases hok' : newOk n' with
    | false =>
      obtain ⟨m1, rfl, hm1, hn1⟩ := newOk_yes hok
      repeat ((conv => whnf); first | (refine VLoad.mk _ (Ln.at b0) ?_) | (refine VCmp.tt (by omega) ?_) | (refine VCmp.ff (by omega) ?_) | (refine VIn.mk (IntWalk.i64_in _ (by omega)) ?_) | (refine VIdx.mk _ rfl (by omega) ?_) | (refine VIdx.mk 0 rfl (by omega) ?_))
      try (conv => whnf)
      refine VCall.mk _ (snew_yes m1 wB hm1 hn1) ?_
      rintro _ y1 ⟨b, g, rfl, P1, q1, d1, hg1, hb1⟩
      refine ⟨_, rfl, ?_⟩
      have by1 : Below wB.heap.size wB y1 := b0.trans (d1.mono b0.size)
      repeat ((conv => whnf); first | (refine VLoad.mk _ (Ln.at by1) ?_) | (refine VCmp.tt (by omega) ?_) | (refine VCmp.ff (by omega) ?_) | (refine VIn.mk (IntWalk.i64_in _ (by omega)) ?_) | (refine VIdx.mk _ rfl (by omega) ?_) | (refine VIdx.mk 0 rfl (by omega) ?_))
      try (conv => whnf)
      refine VCall.mk _ (rsnew_yes m1 y1 hm1 hn1) ?_
      rintro _ z1 ⟨b', g', rfl, D1, r1, f1, hgg1, hbb1⟩
      refine ⟨_, rfl, ?_⟩
      have bz1 : Below wB.heap.size wB z1 := by1.trans (f1.mono by1.size)
      have p11 := P1.hi b P1.bF
      have p21 := P1.hi g P1.gF
      have p31 := D1.hi b' D1.bF
      have p41 := D1.hi g' D1.gF
      have zy1 := d1.size
      have zz1 := f1.size
      have zw1 := b0.size
      repeat ((conv => whnf); first | (refine VLoad.mk _ (Ln'.at bz1) ?_) | (refine VCmp.tt (by omega) ?_) | (refine VCmp.ff (by omega) ?_) | (refine VIn.mk (IntWalk.i64_in _ (by omega)) ?_) | (refine VIdx.mk _ rfl (by omega) ?_) | (refine VIdx.mk 0 rfl (by omega) ?_))
      try (conv => whnf)
      refine VCall.mk _ (snew_no n' z1 hok') ?_
      rintro _ y2 ⟨rfl, e2⟩
      refine ⟨_, rfl, ?_⟩
      rw [e2]
      repeat ((conv => whnf); first | (refine VLoad.mk _ (Ln'.at bz1) ?_) | (refine VCmp.tt (by omega) ?_) | (refine VCmp.ff (by omega) ?_) | (refine VIn.mk (IntWalk.i64_in _ (by omega)) ?_) | (refine VIdx.mk _ rfl (by omega) ?_) | (refine VIdx.mk 0 rfl (by omega) ?_))
      try (conv => whnf)
      refine VCall.mk _ (rsnew_no n' z1 hok') ?_
      rintro _ z2 ⟨rfl, e2⟩
      refine ⟨_, rfl, ?_⟩
      rw [e2]
      clear e2
      -- both errors are the document's
      repeat ((conv => whnf); first | (refine VCmp.tt (by omega) ?_) | (refine VCmp.ff (by omega) ?_) | (refine VIn.mk (IntWalk.i64_in _ (by omega)) ?_) | (refine VIdx.mk _ rfl (by omega) ?_) | (refine VIdx.mk 0 rfl (by omega) ?_))
      try (conv => whnf)
      refine VCall.mk _ (num_any 0 z1) ?_
      rintro _ _ ⟨rfl, rfl⟩
      refine ⟨_, rfl, ?_⟩
      repeat ((conv => whnf); first | (refine VCmp.tt (by omega) ?_) | (refine VCmp.ff (by omega) ?_) | (refine VIn.mk (IntWalk.i64_in _ (by omega)) ?_) | (refine VIdx.mk _ rfl (by omega) ?_) | (refine VIdx.mk 0 rfl (by omega) ?_))
      try (conv => whnf)
      refine VCall.mk _ (num_any 1 z1) ?_
      rintro _ _ ⟨rfl, rfl⟩
      refine ⟨_, rfl, ?_⟩
      repeat ((conv => whnf); first | (refine VCmp.tt (by omega) ?_) | (refine VCmp.ff (by omega) ?_) | (refine VIn.mk (IntWalk.i64_in _ (by omega)) ?_) | (refine VIdx.mk _ rfl (by omega) ?_) | (refine VIdx.mk 0 rfl (by omega) ?_))
      try (conv => whnf)
      refine VBuild.mk _ (fun W => bld105' W) ?_
      conv => whnf
      refine .mk fun wD hwD => ?_
      have hF0 : ∀ q ∈ ([b, g, b', g'] : List Nat), q < z1.heap.size := fun q hq => by
        simp only [List.mem_cons, List.not_mem_nil, or_false] at hq
        rcases hq with rfl | rfl | rfl | rfl <;> omega
      have TD : Tn wD (z1.heap.size + 1) z1.heap.size ([b, g, b', g'] ++ [z1.heap.size]) [] bx0 wx0 := by rw [hwD.out]; exact tn_new z1 _ hF0
      have dD : Below z1.heap.size z1 wD := by rw [hwD.out]; exact (Below.refl _ _).alloc (Nat.le_refl _) _
      have zD : wD.heap.size = z1.heap.size + 1 := by rw [hwD.out]; simp
      clear hwD
      have bD : Below wB.heap.size wB wD := bz1.trans (dD.mono bz1.size)
      have hM1 : wB.heap.size ≤ z1.heap.size := bz1.size
      have hM2 : z1.heap.size ≤ z1.heap.size := by omega
      obtain ⟨hb, hhb⟩ : ∃ hb, hb = z1.heap.size := ⟨_, rfl⟩
      obtain ⟨mm, hmm⟩ : ∃ mm, mm = z1.heap.size := ⟨_, rfl⟩
      rw [← hhb] at TD ⊢
      have hMa : wB.heap.size ≤ mm := by omega
      have hMb : mm ≤ hb := by omega
      have s1 : StO wD ([b, g, b', g'] ++ [hb]) wB.heap.size mm (some (b, g, b', g')) := by
        have S2 : Two z1 [b, g, b', g'] b g b' g' (stoNew m1) := two_new P1 q1 f1 D1 r1 hgg1 hbb1 (by simp) (by simp) (by simp) (by simp) (fun y hy => by
          simp only [List.mem_cons, List.not_mem_nil, or_false] at hy
          rcases hy with rfl | rfl | rfl | rfl <;> omega)
        refine ⟨(⟨⟨by omega, by omega, by omega, by omega⟩, by omega, by omega, by omega, by omega⟩ : Low wB.heap.size mm b g b' g'), _, S2.ext (dD) (fun y hy => ?_) (fun y hy => ?_) (fun y hy => ?_)⟩
        · rcases List.mem_append.1 hy with hy | hy
          · simp only [List.mem_cons, List.not_mem_nil, or_false] at hy
            rcases hy with rfl | rfl | rfl | rfl <;> first | exact .inr (by omega) | exact .inl (by simp)
          · have := List.mem_singleton.1 hy; exact .inr (by omega)
        · simp only [List.mem_cons, List.not_mem_nil, or_false] at hy
          rcases hy with rfl | rfl | rfl | rfl <;> simp
        · rcases List.mem_append.1 hy with hy | hy
          · have := hF0 y hy; omega
          · have := List.mem_singleton.1 hy; omega
      have s2 : StO wD ([b, g, b', g'] ++ [hb]) mm hb none := trivial
      generalize [b, g, b', g'] ++ [hb] = FD at TD s1 s2
      repeat ((conv => whnf); first | (refine VCmp.tt (by omega) ?_) | (refine VCmp.ff (by omega) ?_) | (refine VIn.mk (IntWalk.i64_in _ (by omega)) ?_) | (refine VIdx.mk _ rfl (by omega) ?_) | (refine VIdx.mk 0 rfl (by omega) ?_))
      try (conv => whnf)
      refine VLoop.mk Nat (fun i => [(2, .pointer (some ⟨w.heap.size, 0, none⟩)), (3, .pointer (some ⟨wA.heap.size, 0, none⟩)), (5, .pointer (some ⟨b, 0, none⟩)), (7, .pointer (some ⟨b', 0, none⟩)), (9, .pointer none), (11, .pointer none), (13, .pointer (some ⟨hb, 0, none⟩)), (14, .int .i64 i)]) (fun i W => i ≤ 60 ∧ Below wB.heap.size wB W ∧ ∃ F x t, Tn W (hb + 1) hb F [] x t ∧ Sz x t (6000000 * i) ∧ StO W F wB.heap.size mm (some (b, g, b', g')) ∧ StO W F mm hb none) (fun i => 60 - i) 0 ⟨rfl, rfl, rfl, rfl, rfl, rfl, rfl, rfl, trivial⟩ ⟨Nat.zero_le _, bD, _, _, _, TD, sz_new, s1, s2⟩ ?_
      clear TD s1 s2 bD dD
      rintro i wr ⟨hi, br, F, x, t, T, Z, s1, s2⟩
      by_cases h60 : i < 60
      case pos =>
        by_cases hx1 : i < os.length
        case pos =>
          by_cases hy1 : i < os'.length
          case pos =>
            have sc := (hx wr br).1
            obtain ⟨ga, oa, eA, _, hrow⟩ := sc.row (by omega)
            obtain ⟨op, hop⟩ : ∃ op, os[i]? = some op := ⟨_, List.getElem?_eq_getElem hx1⟩
            have Lk := La.at br
            rw [eA] at Lk
            have Lo : Ld Try.prog 95 ga (oa + i * 16) (Eq wr) (.agg (opA op)) := .of (load_agg (by kernel_rfl) (by kernel_rfl) (fun j u hu => hrow i op hop j u hu))
            repeat ((conv => whnf); first | (refine VLoad.mk _ Lk ?_) | (refine VLoad.mk _ Lo ?_) | (refine VLoad.mk _ (La'.at br) ?_) | (refine VCmp.tt (by omega) ?_) | (refine VCmp.ff (by omega) ?_) | (refine VIn.mk (IntWalk.i64_in _ (by omega)) ?_) | (refine VIdx.mk _ rfl (by omega) ?_) | (refine VIdx.mk 0 rfl (by omega) ?_))
            try (conv => whnf)
            refine VCall.mk _ (held_st (N := wB.heap.size) T Z (by omega) s1 s2 (.inr (Nat.le_refl _)) (by omega) (by omega) (by omega) (by omega) ((sc.each op (List.mem_of_getElem? hop)).more (by omega))) ?_
            rintro _ wp ⟨rfl, Fp, xp, tp, bp, Tp, Zp, sp1, sp2, _⟩
            refine ⟨_, rfl, ?_⟩
            have brp : Below wB.heap.size wB wp := br.trans bp
            repeat ((conv => whnf); first | (refine VLoad.mk _ (La.at brp) ?_) | (refine VLoad.mk _ (La'.at brp) ?_) | (refine VCmp.tt (by omega) ?_) | (refine VCmp.ff (by omega) ?_) | (refine VIn.mk (IntWalk.i64_in _ (by omega)) ?_) | (refine VIdx.mk _ rfl (by omega) ?_) | (refine VIdx.mk 0 rfl (by omega) ?_))
            try (conv => whnf)
            exact .mk (i + 1) ⟨rfl, rfl, rfl, rfl, rfl, rfl, rfl, rfl, trivial⟩ ⟨h60, brp, _, _, _, Tp, Zp.mono (by omega), sp1, sp2⟩ (by omega)
          case neg =>
            have sc := (hx wr br).1
            obtain ⟨ga, oa, eA, _, hrow⟩ := sc.row (by omega)
            obtain ⟨op, hop⟩ : ∃ op, os[i]? = some op := ⟨_, List.getElem?_eq_getElem hx1⟩
            have Lk := La.at br
            rw [eA] at Lk
            have Lo : Ld Try.prog 95 ga (oa + i * 16) (Eq wr) (.agg (opA op)) := .of (load_agg (by kernel_rfl) (by kernel_rfl) (fun j u hu => hrow i op hop j u hu))
            repeat ((conv => whnf); first | (refine VLoad.mk _ Lk ?_) | (refine VLoad.mk _ Lo ?_) | (refine VLoad.mk _ (La'.at br) ?_) | (refine VCmp.tt (by omega) ?_) | (refine VCmp.ff (by omega) ?_) | (refine VIn.mk (IntWalk.i64_in _ (by omega)) ?_) | (refine VIdx.mk _ rfl (by omega) ?_) | (refine VIdx.mk 0 rfl (by omega) ?_))
            try (conv => whnf)
            refine VCall.mk _ (held_st (N := wB.heap.size) T Z (by omega) s1 s2 (.inr (Nat.le_refl _)) (by omega) (by omega) (by omega) (by omega) ((sc.each op (List.mem_of_getElem? hop)).more (by omega))) ?_
            rintro _ wp ⟨rfl, Fp, xp, tp, bp, Tp, Zp, sp1, sp2, _⟩
            refine ⟨_, rfl, ?_⟩
            have brp : Below wB.heap.size wB wp := br.trans bp
            repeat ((conv => whnf); first | (refine VLoad.mk _ (La.at brp) ?_) | (refine VLoad.mk _ (La'.at brp) ?_) | (refine VCmp.tt (by omega) ?_) | (refine VCmp.ff (by omega) ?_) | (refine VIn.mk (IntWalk.i64_in _ (by omega)) ?_) | (refine VIdx.mk _ rfl (by omega) ?_) | (refine VIdx.mk 0 rfl (by omega) ?_))
            try (conv => whnf)
            exact .mk (i + 1) ⟨rfl, rfl, rfl, rfl, rfl, rfl, rfl, rfl, trivial⟩ ⟨h60, brp, _, _, _, Tp, Zp.mono (by omega), sp1, sp2⟩ (by omega)
        case neg =>
          by_cases hy1 : i < os'.length
          case pos =>
            repeat ((conv => whnf); first | (refine VLoad.mk _ (La.at br) ?_) | (refine VLoad.mk _ (La'.at br) ?_) | (refine VCmp.tt (by omega) ?_) | (refine VCmp.ff (by omega) ?_) | (refine VIn.mk (IntWalk.i64_in _ (by omega)) ?_) | (refine VIdx.mk _ rfl (by omega) ?_) | (refine VIdx.mk 0 rfl (by omega) ?_))
            try (conv => whnf)
            exact .mk (i + 1) ⟨rfl, rfl, rfl, rfl, rfl, rfl, rfl, rfl, trivial⟩ ⟨h60, br, _, _, _, T, Z.mono (by omega), s1, s2⟩ (by omega)
          case neg =>
            repeat ((conv => whnf); first | (refine VLoad.mk _ (La.at br) ?_) | (refine VLoad.mk _ (La'.at br) ?_) | (refine VCmp.tt (by omega) ?_) | (refine VCmp.ff (by omega) ?_) | (refine VIn.mk (IntWalk.i64_in _ (by omega)) ?_) | (refine VIdx.mk _ rfl (by omega) ?_) | (refine VIdx.mk 0 rfl (by omega) ?_))
            try (conv => whnf)
            refine VBuild.mk _ (fun W => bld95 W) ?_
            repeat ((conv => whnf); first | (refine VCmp.tt (by omega) ?_) | (refine VCmp.ff (by omega) ?_) | (refine VIn.mk (IntWalk.i64_in _ (by omega)) ?_) | (refine VIdx.mk _ rfl (by omega) ?_) | (refine VIdx.mk 0 rfl (by omega) ?_))
            try (conv => whnf)
            refine .mk _ run_zero95 ?_
            conv => whnf
            refine .mk fun x3 hx3 => ?_
            repeat ((conv => whnf); first | (refine VCmp.tt (by omega) ?_) | (refine VCmp.ff (by omega) ?_) | (refine VIn.mk (IntWalk.i64_in _ (by omega)) ?_) | (refine VIdx.mk _ rfl (by omega) ?_) | (refine VIdx.mk 0 rfl (by omega) ?_))
            try (conv => whnf)
            refine VStore.new hx3 (by kernel_rfl) rfl (one_opA lastO) fun we hwe => ?_
            have ce : Below wr.heap.size wr we := by rw [hwe.out]; exact (Below.refl _ _).alloc (Nat.le_refl _) _
            have ze : we.heap.size = wr.heap.size + 1 := by rw [hwe.out]; simp
            have re : we.rangeAt wr.heap.size 0 (opA lastO).toList := by rw [hwe.out]; exact range_new wr (opA lastO) 95
            clear hwe hx3
            have zr := br.size
            have be : Below wB.heap.size wB we := br.trans (ce.mono zr)
            have hnF : wr.heap.size ∉ F := fun hm => by have := T.hi _ (List.mem_append.2 (.inl hm)); omega
            have Te := T.below ce
            have se1 := s1.below ce
            have se2 := s2.below ce
            have Lz : Ld Try.prog 95 wr.heap.size 0 (Eq we) (.agg (opA lastO)) := .of (load_agg (by kernel_rfl) (by kernel_rfl) re)
            repeat ((conv => whnf); first | (refine VLoad.mk _ Lz ?_) | (refine VCmp.tt (by omega) ?_) | (refine VCmp.ff (by omega) ?_) | (refine VIn.mk (IntWalk.i64_in _ (by omega)) ?_) | (refine VIdx.mk _ rfl (by omega) ?_) | (refine VIdx.mk 0 rfl (by omega) ?_))
            try (conv => whnf)
            refine VCall.mk _ (held_st (N := wB.heap.size) Te Z (by omega) se1 se2 (.inr (Nat.le_refl _)) (by omega) (by omega) (by omega) (by omega) (lastAt _ _)) ?_
            rintro _ wp ⟨rfl, Fp, xp, tp, bp, Tp, Zp, sp1, sp2, kp⟩
            refine ⟨_, rfl, ?_⟩
            have brp : Below wB.heap.size wB wp := be.trans bp
            have rp := range_same re (kp _ (by omega) hnF)
            repeat ((conv => whnf); first | (refine VCmp.tt (by omega) ?_) | (refine VCmp.ff (by omega) ?_) | (refine VIn.mk (IntWalk.i64_in _ (by omega)) ?_) | (refine VIdx.mk _ rfl (by omega) ?_) | (refine VIdx.mk 0 rfl (by omega) ?_))
            try (conv => whnf)
            refine VCall.mk _ (alone_st (N := wB.heap.size) Tp Zp (by omega) sp1 sp2 (by omega) (by omega) (by omega)) ?_
            rintro _ wu ⟨rfl, bu, su1, su2⟩
            refine ⟨_, rfl, ?_⟩
            have bru : Below wB.heap.size wB wu := brp.trans bu
            have zu := bru.size
            obtain ⟨sa, Sa⟩ := su1.two
            repeat ((conv => whnf); first | (refine VLoad.mk _ (La.at bru) ?_) | (refine VCmp.tt (by omega) ?_) | (refine VCmp.ff (by omega) ?_) | (refine VIn.mk (IntWalk.i64_in _ (by omega)) ?_) | (refine VIdx.mk _ rfl (by omega) ?_) | (refine VIdx.mk 0 rfl (by omega) ?_))
            try (conv => whnf)
            refine VCall.mk _ (onceMore_any Sa (hx wu bru).1 (by omega)) ?_
            rintro _ wv ⟨rfl, bv⟩
            refine ⟨_, rfl, ?_⟩
            have brv : Below wB.heap.size wB wv := bru.trans (bv.mono zu)
            have sv2 := su2.below bv
            repeat ((conv => whnf); first | (refine VCmp.tt (by omega) ?_) | (refine VCmp.ff (by omega) ?_) | (refine VIn.mk (IntWalk.i64_in _ (by omega)) ?_) | (refine VIdx.mk _ rfl (by omega) ?_) | (refine VIdx.mk 0 rfl (by omega) ?_))
            try (conv => whnf)
            exact .mk ⟨rfl, (hx _ brv).2.2.2.2⟩
      case neg =>
        by_cases hx1 : i < os.length
        case pos =>
          repeat ((conv => whnf); first | (refine VLoad.mk _ (La.at br) ?_) | (refine VLoad.mk _ (La'.at br) ?_) | (refine VCmp.tt (by omega) ?_) | (refine VCmp.ff (by omega) ?_) | (refine VIn.mk (IntWalk.i64_in _ (by omega)) ?_) | (refine VIdx.mk _ rfl (by omega) ?_) | (refine VIdx.mk 0 rfl (by omega) ?_))
          try (conv => whnf)
          refine VBuild.mk _ (fun W => bld95 W) ?_
          repeat ((conv => whnf); first | (refine VCmp.tt (by omega) ?_) | (refine VCmp.ff (by omega) ?_) | (refine VIn.mk (IntWalk.i64_in _ (by omega)) ?_) | (refine VIdx.mk _ rfl (by omega) ?_) | (refine VIdx.mk 0 rfl (by omega) ?_))
          try (conv => whnf)
          refine .mk _ run_zero95 ?_
          conv => whnf
          refine .mk fun x3 hx3 => ?_
          repeat ((conv => whnf); first | (refine VCmp.tt (by omega) ?_) | (refine VCmp.ff (by omega) ?_) | (refine VIn.mk (IntWalk.i64_in _ (by omega)) ?_) | (refine VIdx.mk _ rfl (by omega) ?_) | (refine VIdx.mk 0 rfl (by omega) ?_))
          try (conv => whnf)
          refine VStore.new hx3 (by kernel_rfl) rfl (one_opA lastO) fun we hwe => ?_
          have ce : Below wr.heap.size wr we := by rw [hwe.out]; exact (Below.refl _ _).alloc (Nat.le_refl _) _
          have ze : we.heap.size = wr.heap.size + 1 := by rw [hwe.out]; simp
          have re : we.rangeAt wr.heap.size 0 (opA lastO).toList := by rw [hwe.out]; exact range_new wr (opA lastO) 95
          clear hwe hx3
          have zr := br.size
          have be : Below wB.heap.size wB we := br.trans (ce.mono zr)
          have hnF : wr.heap.size ∉ F := fun hm => by have := T.hi _ (List.mem_append.2 (.inl hm)); omega
          have Te := T.below ce
          have se1 := s1.below ce
          have se2 := s2.below ce
          have Lz : Ld Try.prog 95 wr.heap.size 0 (Eq we) (.agg (opA lastO)) := .of (load_agg (by kernel_rfl) (by kernel_rfl) re)
          repeat ((conv => whnf); first | (refine VLoad.mk _ Lz ?_) | (refine VCmp.tt (by omega) ?_) | (refine VCmp.ff (by omega) ?_) | (refine VIn.mk (IntWalk.i64_in _ (by omega)) ?_) | (refine VIdx.mk _ rfl (by omega) ?_) | (refine VIdx.mk 0 rfl (by omega) ?_))
          try (conv => whnf)
          refine VCall.mk _ (held_st (N := wB.heap.size) Te Z (by omega) se1 se2 (.inr (Nat.le_refl _)) (by omega) (by omega) (by omega) (by omega) (lastAt _ _)) ?_
          rintro _ wp ⟨rfl, Fp, xp, tp, bp, Tp, Zp, sp1, sp2, kp⟩
          refine ⟨_, rfl, ?_⟩
          have brp : Below wB.heap.size wB wp := be.trans bp
          have rp := range_same re (kp _ (by omega) hnF)
          repeat ((conv => whnf); first | (refine VCmp.tt (by omega) ?_) | (refine VCmp.ff (by omega) ?_) | (refine VIn.mk (IntWalk.i64_in _ (by omega)) ?_) | (refine VIdx.mk _ rfl (by omega) ?_) | (refine VIdx.mk 0 rfl (by omega) ?_))
          try (conv => whnf)
          refine VCall.mk _ (alone_st (N := wB.heap.size) Tp Zp (by omega) sp1 sp2 (by omega) (by omega) (by omega)) ?_
          rintro _ wu ⟨rfl, bu, su1, su2⟩
          refine ⟨_, rfl, ?_⟩
          have bru : Below wB.heap.size wB wu := brp.trans bu
          have zu := bru.size
          obtain ⟨sa, Sa⟩ := su1.two
          repeat ((conv => whnf); first | (refine VLoad.mk _ (La.at bru) ?_) | (refine VCmp.tt (by omega) ?_) | (refine VCmp.ff (by omega) ?_) | (refine VIn.mk (IntWalk.i64_in _ (by omega)) ?_) | (refine VIdx.mk _ rfl (by omega) ?_) | (refine VIdx.mk 0 rfl (by omega) ?_))
          try (conv => whnf)
          refine VCall.mk _ (onceMore_any Sa (hx wu bru).1 (by omega)) ?_
          rintro _ wv ⟨rfl, bv⟩
          refine ⟨_, rfl, ?_⟩
          have brv : Below wB.heap.size wB wv := bru.trans (bv.mono zu)
          have sv2 := su2.below bv
          repeat ((conv => whnf); first | (refine VCmp.tt (by omega) ?_) | (refine VCmp.ff (by omega) ?_) | (refine VIn.mk (IntWalk.i64_in _ (by omega)) ?_) | (refine VIdx.mk _ rfl (by omega) ?_) | (refine VIdx.mk 0 rfl (by omega) ?_))
          try (conv => whnf)
          exact .mk ⟨rfl, (hx _ brv).2.2.2.2⟩
        case neg =>
          by_cases hy1 : i < os'.length
          case pos =>
            repeat ((conv => whnf); first | (refine VLoad.mk _ (La.at br) ?_) | (refine VLoad.mk _ (La'.at br) ?_) | (refine VCmp.tt (by omega) ?_) | (refine VCmp.ff (by omega) ?_) | (refine VIn.mk (IntWalk.i64_in _ (by omega)) ?_) | (refine VIdx.mk _ rfl (by omega) ?_) | (refine VIdx.mk 0 rfl (by omega) ?_))
            try (conv => whnf)
            refine VBuild.mk _ (fun W => bld95 W) ?_
            repeat ((conv => whnf); first | (refine VCmp.tt (by omega) ?_) | (refine VCmp.ff (by omega) ?_) | (refine VIn.mk (IntWalk.i64_in _ (by omega)) ?_) | (refine VIdx.mk _ rfl (by omega) ?_) | (refine VIdx.mk 0 rfl (by omega) ?_))
            try (conv => whnf)
            refine .mk _ run_zero95 ?_
            conv => whnf
            refine .mk fun x3 hx3 => ?_
            repeat ((conv => whnf); first | (refine VCmp.tt (by omega) ?_) | (refine VCmp.ff (by omega) ?_) | (refine VIn.mk (IntWalk.i64_in _ (by omega)) ?_) | (refine VIdx.mk _ rfl (by omega) ?_) | (refine VIdx.mk 0 rfl (by omega) ?_))
            try (conv => whnf)
            refine VStore.new hx3 (by kernel_rfl) rfl (one_opA lastO) fun we hwe => ?_
            have ce : Below wr.heap.size wr we := by rw [hwe.out]; exact (Below.refl _ _).alloc (Nat.le_refl _) _
            have ze : we.heap.size = wr.heap.size + 1 := by rw [hwe.out]; simp
            have re : we.rangeAt wr.heap.size 0 (opA lastO).toList := by rw [hwe.out]; exact range_new wr (opA lastO) 95
            clear hwe hx3
            have zr := br.size
            have be : Below wB.heap.size wB we := br.trans (ce.mono zr)
            have hnF : wr.heap.size ∉ F := fun hm => by have := T.hi _ (List.mem_append.2 (.inl hm)); omega
            have Te := T.below ce
            have se1 := s1.below ce
            have se2 := s2.below ce
            have Lz : Ld Try.prog 95 wr.heap.size 0 (Eq we) (.agg (opA lastO)) := .of (load_agg (by kernel_rfl) (by kernel_rfl) re)
            repeat ((conv => whnf); first | (refine VLoad.mk _ Lz ?_) | (refine VCmp.tt (by omega) ?_) | (refine VCmp.ff (by omega) ?_) | (refine VIn.mk (IntWalk.i64_in _ (by omega)) ?_) | (refine VIdx.mk _ rfl (by omega) ?_) | (refine VIdx.mk 0 rfl (by omega) ?_))
            try (conv => whnf)
            refine VCall.mk _ (held_st (N := wB.heap.size) Te Z (by omega) se1 se2 (.inr (Nat.le_refl _)) (by omega) (by omega) (by omega) (by omega) (lastAt _ _)) ?_
            rintro _ wp ⟨rfl, Fp, xp, tp, bp, Tp, Zp, sp1, sp2, kp⟩
            refine ⟨_, rfl, ?_⟩
            have brp : Below wB.heap.size wB wp := be.trans bp
            have rp := range_same re (kp _ (by omega) hnF)
            repeat ((conv => whnf); first | (refine VCmp.tt (by omega) ?_) | (refine VCmp.ff (by omega) ?_) | (refine VIn.mk (IntWalk.i64_in _ (by omega)) ?_) | (refine VIdx.mk _ rfl (by omega) ?_) | (refine VIdx.mk 0 rfl (by omega) ?_))
            try (conv => whnf)
            refine VCall.mk _ (alone_st (N := wB.heap.size) Tp Zp (by omega) sp1 sp2 (by omega) (by omega) (by omega)) ?_
            rintro _ wu ⟨rfl, bu, su1, su2⟩
            refine ⟨_, rfl, ?_⟩
            have bru : Below wB.heap.size wB wu := brp.trans bu
            have zu := bru.size
            obtain ⟨sa, Sa⟩ := su1.two
            repeat ((conv => whnf); first | (refine VLoad.mk _ (La.at bru) ?_) | (refine VCmp.tt (by omega) ?_) | (refine VCmp.ff (by omega) ?_) | (refine VIn.mk (IntWalk.i64_in _ (by omega)) ?_) | (refine VIdx.mk _ rfl (by omega) ?_) | (refine VIdx.mk 0 rfl (by omega) ?_))
            try (conv => whnf)
            refine VCall.mk _ (onceMore_any Sa (hx wu bru).1 (by omega)) ?_
            rintro _ wv ⟨rfl, bv⟩
            refine ⟨_, rfl, ?_⟩
            have brv : Below wB.heap.size wB wv := bru.trans (bv.mono zu)
            have sv2 := su2.below bv
            repeat ((conv => whnf); first | (refine VCmp.tt (by omega) ?_) | (refine VCmp.ff (by omega) ?_) | (refine VIn.mk (IntWalk.i64_in _ (by omega)) ?_) | (refine VIdx.mk _ rfl (by omega) ?_) | (refine VIdx.mk 0 rfl (by omega) ?_))
            try (conv => whnf)
            exact .mk ⟨rfl, (hx _ brv).2.2.2.2⟩
          case neg =>
            repeat ((conv => whnf); first | (refine VLoad.mk _ (La.at br) ?_) | (refine VLoad.mk _ (La'.at br) ?_) | (refine VCmp.tt (by omega) ?_) | (refine VCmp.ff (by omega) ?_) | (refine VIn.mk (IntWalk.i64_in _ (by omega)) ?_) | (refine VIdx.mk _ rfl (by omega) ?_) | (refine VIdx.mk 0 rfl (by omega) ?_))
            try (conv => whnf)
            refine VBuild.mk _ (fun W => bld95 W) ?_
            repeat ((conv => whnf); first | (refine VCmp.tt (by omega) ?_) | (refine VCmp.ff (by omega) ?_) | (refine VIn.mk (IntWalk.i64_in _ (by omega)) ?_) | (refine VIdx.mk _ rfl (by omega) ?_) | (refine VIdx.mk 0 rfl (by omega) ?_))
            try (conv => whnf)
            refine .mk _ run_zero95 ?_
            conv => whnf
            refine .mk fun x3 hx3 => ?_
            repeat ((conv => whnf); first | (refine VCmp.tt (by omega) ?_) | (refine VCmp.ff (by omega) ?_) | (refine VIn.mk (IntWalk.i64_in _ (by omega)) ?_) | (refine VIdx.mk _ rfl (by omega) ?_) | (refine VIdx.mk 0 rfl (by omega) ?_))
            try (conv => whnf)
            refine VStore.new hx3 (by kernel_rfl) rfl (one_opA lastO) fun we hwe => ?_
            have ce : Below wr.heap.size wr we := by rw [hwe.out]; exact (Below.refl _ _).alloc (Nat.le_refl _) _
            have ze : we.heap.size = wr.heap.size + 1 := by rw [hwe.out]; simp
            have re : we.rangeAt wr.heap.size 0 (opA lastO).toList := by rw [hwe.out]; exact range_new wr (opA lastO) 95
            clear hwe hx3
            have zr := br.size
            have be : Below wB.heap.size wB we := br.trans (ce.mono zr)
            have hnF : wr.heap.size ∉ F := fun hm => by have := T.hi _ (List.mem_append.2 (.inl hm)); omega
            have Te := T.below ce
            have se1 := s1.below ce
            have se2 := s2.below ce
            have Lz : Ld Try.prog 95 wr.heap.size 0 (Eq we) (.agg (opA lastO)) := .of (load_agg (by kernel_rfl) (by kernel_rfl) re)
            repeat ((conv => whnf); first | (refine VLoad.mk _ Lz ?_) | (refine VCmp.tt (by omega) ?_) | (refine VCmp.ff (by omega) ?_) | (refine VIn.mk (IntWalk.i64_in _ (by omega)) ?_) | (refine VIdx.mk _ rfl (by omega) ?_) | (refine VIdx.mk 0 rfl (by omega) ?_))
            try (conv => whnf)
            refine VCall.mk _ (held_st (N := wB.heap.size) Te Z (by omega) se1 se2 (.inr (Nat.le_refl _)) (by omega) (by omega) (by omega) (by omega) (lastAt _ _)) ?_
            rintro _ wp ⟨rfl, Fp, xp, tp, bp, Tp, Zp, sp1, sp2, kp⟩
            refine ⟨_, rfl, ?_⟩
            have brp : Below wB.heap.size wB wp := be.trans bp
            have rp := range_same re (kp _ (by omega) hnF)
            repeat ((conv => whnf); first | (refine VCmp.tt (by omega) ?_) | (refine VCmp.ff (by omega) ?_) | (refine VIn.mk (IntWalk.i64_in _ (by omega)) ?_) | (refine VIdx.mk _ rfl (by omega) ?_) | (refine VIdx.mk 0 rfl (by omega) ?_))
            try (conv => whnf)
            refine VCall.mk _ (alone_st (N := wB.heap.size) Tp Zp (by omega) sp1 sp2 (by omega) (by omega) (by omega)) ?_
            rintro _ wu ⟨rfl, bu, su1, su2⟩
            refine ⟨_, rfl, ?_⟩
            have bru : Below wB.heap.size wB wu := brp.trans bu
            have zu := bru.size
            obtain ⟨sa, Sa⟩ := su1.two
            repeat ((conv => whnf); first | (refine VLoad.mk _ (La.at bru) ?_) | (refine VCmp.tt (by omega) ?_) | (refine VCmp.ff (by omega) ?_) | (refine VIn.mk (IntWalk.i64_in _ (by omega)) ?_) | (refine VIdx.mk _ rfl (by omega) ?_) | (refine VIdx.mk 0 rfl (by omega) ?_))
            try (conv => whnf)
            refine VCall.mk _ (onceMore_any Sa (hx wu bru).1 (by omega)) ?_
            rintro _ wv ⟨rfl, bv⟩
            refine ⟨_, rfl, ?_⟩
            have brv : Below wB.heap.size wB wv := bru.trans (bv.mono zu)
            have sv2 := su2.below bv
            repeat ((conv => whnf); first | (refine VCmp.tt (by omega) ?_) | (refine VCmp.ff (by omega) ?_) | (refine VIn.mk (IntWalk.i64_in _ (by omega)) ?_) | (refine VIdx.mk _ rfl (by omega) ?_) | (refine VIdx.mk 0 rfl (by omega) ?_))
            try (conv => whnf)
            exact .mk ⟨rfl, (hx _ brv).2.2.2.2⟩
    | true =>
      obtain ⟨m1, rfl, hm1, hn1⟩ := newOk_yes hok
      obtain ⟨m2, rfl, hm2, hn2⟩ := newOk_yes hok'
      repeat ((conv => whnf); first | (refine VLoad.mk _ (Ln.at b0) ?_) | (refine VCmp.tt (by omega) ?_) | (refine VCmp.ff (by omega) ?_) | (refine VIn.mk (IntWalk.i64_in _ (by omega)) ?_) | (refine VIdx.mk _ rfl (by omega) ?_) | (refine VIdx.mk 0 rfl (by omega) ?_))
      try (conv => whnf)
      refine VCall.mk _ (snew_yes m1 wB hm1 hn1) ?_
      rintro _ y1 ⟨b, g, rfl, P1, q1, d1, hg1, hb1⟩
      refine ⟨_, rfl, ?_⟩
      have by1 : Below wB.heap.size wB y1 := b0.trans (d1.mono b0.size)
      repeat ((conv => whnf); first | (refine VLoad.mk _ (Ln.at by1) ?_) | (refine VCmp.tt (by omega) ?_) | (refine VCmp.ff (by omega) ?_) | (refine VIn.mk (IntWalk.i64_in _ (by omega)) ?_) | (refine VIdx.mk _ rfl (by omega) ?_) | (refine VIdx.mk 0 rfl (by omega) ?_))
      try (conv => whnf)
      refine VCall.mk _ (rsnew_yes m1 y1 hm1 hn1) ?_
      rintro _ z1 ⟨b', g', rfl, D1, r1, f1, hgg1, hbb1⟩
      refine ⟨_, rfl, ?_⟩
      have bz1 : Below wB.heap.size wB z1 := by1.trans (f1.mono by1.size)
      have p11 := P1.hi b P1.bF
      have p21 := P1.hi g P1.gF
      have p31 := D1.hi b' D1.bF
      have p41 := D1.hi g' D1.gF
      have zy1 := d1.size
      have zz1 := f1.size
      have zw1 := b0.size
      repeat ((conv => whnf); first | (refine VLoad.mk _ (Ln'.at bz1) ?_) | (refine VCmp.tt (by omega) ?_) | (refine VCmp.ff (by omega) ?_) | (refine VIn.mk (IntWalk.i64_in _ (by omega)) ?_) | (refine VIdx.mk _ rfl (by omega) ?_) | (refine VIdx.mk 0 rfl (by omega) ?_))
      try (conv => whnf)
      refine VCall.mk _ (snew_yes m2 z1 hm2 hn2) ?_
      rintro _ y2 ⟨c, k, rfl, P2, q2, d2, hg2, hb2⟩
      refine ⟨_, rfl, ?_⟩
      have by2 : Below wB.heap.size wB y2 := bz1.trans (d2.mono bz1.size)
      repeat ((conv => whnf); first | (refine VLoad.mk _ (Ln'.at by2) ?_) | (refine VCmp.tt (by omega) ?_) | (refine VCmp.ff (by omega) ?_) | (refine VIn.mk (IntWalk.i64_in _ (by omega)) ?_) | (refine VIdx.mk _ rfl (by omega) ?_) | (refine VIdx.mk 0 rfl (by omega) ?_))
      try (conv => whnf)
      refine VCall.mk _ (rsnew_yes m2 y2 hm2 hn2) ?_
      rintro _ z2 ⟨c', k', rfl, D2, r2, f2, hgg2, hbb2⟩
      refine ⟨_, rfl, ?_⟩
      have bz2 : Below wB.heap.size wB z2 := by2.trans (f2.mono by2.size)
      have p12 := P2.hi c P2.bF
      have p22 := P2.hi k P2.gF
      have p32 := D2.hi c' D2.bF
      have p42 := D2.hi k' D2.gF
      have zy2 := d2.size
      have zz2 := f2.size
      have zw2 := bz1.size
      -- both errors are the document's
      repeat ((conv => whnf); first | (refine VCmp.tt (by omega) ?_) | (refine VCmp.ff (by omega) ?_) | (refine VIn.mk (IntWalk.i64_in _ (by omega)) ?_) | (refine VIdx.mk _ rfl (by omega) ?_) | (refine VIdx.mk 0 rfl (by omega) ?_))
      try (conv => whnf)
      refine VCall.mk _ (num_any 0 z2) ?_
      rintro _ _ ⟨rfl, rfl⟩
      refine ⟨_, rfl, ?_⟩
      repeat ((conv => whnf); first | (refine VCmp.tt (by omega) ?_) | (refine VCmp.ff (by omega) ?_) | (refine VIn.mk (IntWalk.i64_in _ (by omega)) ?_) | (refine VIdx.mk _ rfl (by omega) ?_) | (refine VIdx.mk 0 rfl (by omega) ?_))
      try (conv => whnf)
      refine VCall.mk _ (num_any 0 z2) ?_
      rintro _ _ ⟨rfl, rfl⟩
      refine ⟨_, rfl, ?_⟩
      repeat ((conv => whnf); first | (refine VCmp.tt (by omega) ?_) | (refine VCmp.ff (by omega) ?_) | (refine VIn.mk (IntWalk.i64_in _ (by omega)) ?_) | (refine VIdx.mk _ rfl (by omega) ?_) | (refine VIdx.mk 0 rfl (by omega) ?_))
      try (conv => whnf)
      refine VBuild.mk _ (fun W => bld105' W) ?_
      conv => whnf
      refine .mk fun wD hwD => ?_
      have hF0 : ∀ q ∈ ([b, g, b', g', c, k, c', k'] : List Nat), q < z2.heap.size := fun q hq => by
        simp only [List.mem_cons, List.not_mem_nil, or_false] at hq
        rcases hq with rfl | rfl | rfl | rfl | rfl | rfl | rfl | rfl <;> omega
      have TD : Tn wD (z2.heap.size + 1) z2.heap.size ([b, g, b', g', c, k, c', k'] ++ [z2.heap.size]) [] bx0 wx0 := by rw [hwD.out]; exact tn_new z2 _ hF0
      have dD : Below z2.heap.size z2 wD := by rw [hwD.out]; exact (Below.refl _ _).alloc (Nat.le_refl _) _
      have zD : wD.heap.size = z2.heap.size + 1 := by rw [hwD.out]; simp
      clear hwD
      have bD : Below wB.heap.size wB wD := bz2.trans (dD.mono bz2.size)
      have hM1 : wB.heap.size ≤ z1.heap.size := bz1.size
      have hM2 : z1.heap.size ≤ z2.heap.size := by omega
      obtain ⟨hb, hhb⟩ : ∃ hb, hb = z2.heap.size := ⟨_, rfl⟩
      obtain ⟨mm, hmm⟩ : ∃ mm, mm = z1.heap.size := ⟨_, rfl⟩
      rw [← hhb] at TD ⊢
      have hMa : wB.heap.size ≤ mm := by omega
      have hMb : mm ≤ hb := by omega
      have s1 : StO wD ([b, g, b', g', c, k, c', k'] ++ [hb]) wB.heap.size mm (some (b, g, b', g')) := by
        have S2 : Two z1 [b, g, b', g'] b g b' g' (stoNew m1) := two_new P1 q1 f1 D1 r1 hgg1 hbb1 (by simp) (by simp) (by simp) (by simp) (fun y hy => by
          simp only [List.mem_cons, List.not_mem_nil, or_false] at hy
          rcases hy with rfl | rfl | rfl | rfl <;> omega)
        refine ⟨(⟨⟨by omega, by omega, by omega, by omega⟩, by omega, by omega, by omega, by omega⟩ : Low wB.heap.size mm b g b' g'), _, S2.ext ((d2.trans (f2.mono d2.size)).trans (dD.mono (by omega))) (fun y hy => ?_) (fun y hy => ?_) (fun y hy => ?_)⟩
        · rcases List.mem_append.1 hy with hy | hy
          · simp only [List.mem_cons, List.not_mem_nil, or_false] at hy
            rcases hy with rfl | rfl | rfl | rfl | rfl | rfl | rfl | rfl <;> first | exact .inr (by omega) | exact .inl (by simp)
          · have := List.mem_singleton.1 hy; exact .inr (by omega)
        · simp only [List.mem_cons, List.not_mem_nil, or_false] at hy
          rcases hy with rfl | rfl | rfl | rfl <;> simp
        · rcases List.mem_append.1 hy with hy | hy
          · have := hF0 y hy; omega
          · have := List.mem_singleton.1 hy; omega
      have s2 : StO wD ([b, g, b', g', c, k, c', k'] ++ [hb]) mm hb (some (c, k, c', k')) := by
        have S2 : Two z2 [b, g, b', g', c, k, c', k'] c k c' k' (stoNew m2) := two_new P2 q2 f2 D2 r2 hgg2 hbb2 (by simp) (by simp) (by simp) (by simp) hF0
        refine ⟨(⟨⟨by omega, by omega, by omega, by omega⟩, by omega, by omega, by omega, by omega⟩ : Low mm hb c k c' k'), _, S2.ext dD (fun y hy => ?_) (fun y hy => List.mem_append.2 (.inl hy)) (fun y hy => ?_)⟩
        · rcases List.mem_append.1 hy with hy | hy
          · exact .inl hy
          · have := List.mem_singleton.1 hy; exact .inr (by omega)
        · rcases List.mem_append.1 hy with hy | hy
          · have := hF0 y hy; omega
          · have := List.mem_singleton.1 hy; omega
      generalize [b, g, b', g', c, k, c', k'] ++ [hb] = FD at TD s1 s2
      repeat ((conv => whnf); first | (refine VCmp.tt (by omega) ?_) | (refine VCmp.ff (by omega) ?_) | (refine VIn.mk (IntWalk.i64_in _ (by omega)) ?_) | (refine VIdx.mk _ rfl (by omega) ?_) | (refine VIdx.mk 0 rfl (by omega) ?_))
      try (conv => whnf)
      refine VLoop.mk Nat (fun i => [(2, .pointer (some ⟨w.heap.size, 0, none⟩)), (3, .pointer (some ⟨wA.heap.size, 0, none⟩)), (5, .pointer (some ⟨b, 0, none⟩)), (7, .pointer (some ⟨b', 0, none⟩)), (9, .pointer (some ⟨c, 0, none⟩)), (11, .pointer (some ⟨c', 0, none⟩)), (13, .pointer (some ⟨hb, 0, none⟩)), (14, .int .i64 i)]) (fun i W => i ≤ 60 ∧ Below wB.heap.size wB W ∧ ∃ F x t, Tn W (hb + 1) hb F [] x t ∧ Sz x t (6000000 * i) ∧ StO W F wB.heap.size mm (some (b, g, b', g')) ∧ StO W F mm hb (some (c, k, c', k'))) (fun i => 60 - i) 0 ⟨rfl, rfl, rfl, rfl, rfl, rfl, rfl, rfl, trivial⟩ ⟨Nat.zero_le _, bD, _, _, _, TD, sz_new, s1, s2⟩ ?_
      clear TD s1 s2 bD dD
      rintro i wr ⟨hi, br, F, x, t, T, Z, s1, s2⟩
      by_cases h60 : i < 60
      case pos =>
        by_cases hx1 : i < os.length
        case pos =>
          by_cases hy1 : i < os'.length
          case pos =>
            have sc := (hx wr br).1
            obtain ⟨ga, oa, eA, _, hrow⟩ := sc.row (by omega)
            obtain ⟨op, hop⟩ : ∃ op, os[i]? = some op := ⟨_, List.getElem?_eq_getElem hx1⟩
            have Lk := La.at br
            rw [eA] at Lk
            have Lo : Ld Try.prog 95 ga (oa + i * 16) (Eq wr) (.agg (opA op)) := .of (load_agg (by kernel_rfl) (by kernel_rfl) (fun j u hu => hrow i op hop j u hu))
            repeat ((conv => whnf); first | (refine VLoad.mk _ Lk ?_) | (refine VLoad.mk _ Lo ?_) | (refine VLoad.mk _ (La'.at br) ?_) | (refine VCmp.tt (by omega) ?_) | (refine VCmp.ff (by omega) ?_) | (refine VIn.mk (IntWalk.i64_in _ (by omega)) ?_) | (refine VIdx.mk _ rfl (by omega) ?_) | (refine VIdx.mk 0 rfl (by omega) ?_))
            try (conv => whnf)
            refine VCall.mk _ (held_st (N := wB.heap.size) T Z (by omega) s1 s2 (.inr (Nat.le_refl _)) (by omega) (by omega) (by omega) (by omega) ((sc.each op (List.mem_of_getElem? hop)).more (by omega))) ?_
            rintro _ wp ⟨rfl, Fp, xp, tp, bp, Tp, Zp, sp1, sp2, _⟩
            refine ⟨_, rfl, ?_⟩
            have brp : Below wB.heap.size wB wp := br.trans bp
            have sc' := (hx wp brp).2.1
            obtain ⟨ga', oa', eA', _, hrow'⟩ := sc'.row (by omega)
            obtain ⟨op', hop'⟩ : ∃ op, os'[i]? = some op := ⟨_, List.getElem?_eq_getElem hy1⟩
            have Lk' := La'.at brp
            rw [eA'] at Lk'
            have Lo' : Ld Try.prog 95 ga' (oa' + i * 16) (Eq wp) (.agg (opA op')) := .of (load_agg (by kernel_rfl) (by kernel_rfl) (fun j u hu => hrow' i op' hop' j u hu))
            repeat ((conv => whnf); first | (refine VLoad.mk _ Lk' ?_) | (refine VLoad.mk _ Lo' ?_) | (refine VLoad.mk _ (La.at brp) ?_) | (refine VCmp.tt (by omega) ?_) | (refine VCmp.ff (by omega) ?_) | (refine VIn.mk (IntWalk.i64_in _ (by omega)) ?_) | (refine VIdx.mk _ rfl (by omega) ?_) | (refine VIdx.mk 0 rfl (by omega) ?_))
            try (conv => whnf)
            refine VCall.mk _ (held_st (N := wB.heap.size) Tp Zp (by omega) sp2 sp1 (.inl (Nat.le_refl _)) (by omega) (by omega) (by omega) (by omega) ((sc'.each op' (List.mem_of_getElem? hop')).more (by omega))) ?_
            rintro _ wq ⟨rfl, Fq, xq, tq, bq, Tq, Zq, sq2, sq1, _⟩
            refine ⟨_, rfl, ?_⟩
            have brq : Below wB.heap.size wB wq := brp.trans bq
            repeat ((conv => whnf); first | (refine VLoad.mk _ (La.at brq) ?_) | (refine VLoad.mk _ (La'.at brq) ?_) | (refine VCmp.tt (by omega) ?_) | (refine VCmp.ff (by omega) ?_) | (refine VIn.mk (IntWalk.i64_in _ (by omega)) ?_) | (refine VIdx.mk _ rfl (by omega) ?_) | (refine VIdx.mk 0 rfl (by omega) ?_))
            try (conv => whnf)
            exact .mk (i + 1) ⟨rfl, rfl, rfl, rfl, rfl, rfl, rfl, rfl, trivial⟩ ⟨h60, brq, _, _, _, Tq, Zq.mono (by omega), sq1, sq2⟩ (by omega)
          case neg =>
            have sc := (hx wr br).1
            obtain ⟨ga, oa, eA, _, hrow⟩ := sc.row (by omega)
            obtain ⟨op, hop⟩ : ∃ op, os[i]? = some op := ⟨_, List.getElem?_eq_getElem hx1⟩
            have Lk := La.at br
            rw [eA] at Lk
            have Lo : Ld Try.prog 95 ga (oa + i * 16) (Eq wr) (.agg (opA op)) := .of (load_agg (by kernel_rfl) (by kernel_rfl) (fun j u hu => hrow i op hop j u hu))
            repeat ((conv => whnf); first | (refine VLoad.mk _ Lk ?_) | (refine VLoad.mk _ Lo ?_) | (refine VLoad.mk _ (La'.at br) ?_) | (refine VCmp.tt (by omega) ?_) | (refine VCmp.ff (by omega) ?_) | (refine VIn.mk (IntWalk.i64_in _ (by omega)) ?_) | (refine VIdx.mk _ rfl (by omega) ?_) | (refine VIdx.mk 0 rfl (by omega) ?_))
            try (conv => whnf)
            refine VCall.mk _ (held_st (N := wB.heap.size) T Z (by omega) s1 s2 (.inr (Nat.le_refl _)) (by omega) (by omega) (by omega) (by omega) ((sc.each op (List.mem_of_getElem? hop)).more (by omega))) ?_
            rintro _ wp ⟨rfl, Fp, xp, tp, bp, Tp, Zp, sp1, sp2, _⟩
            refine ⟨_, rfl, ?_⟩
            have brp : Below wB.heap.size wB wp := br.trans bp
            repeat ((conv => whnf); first | (refine VLoad.mk _ (La.at brp) ?_) | (refine VLoad.mk _ (La'.at brp) ?_) | (refine VCmp.tt (by omega) ?_) | (refine VCmp.ff (by omega) ?_) | (refine VIn.mk (IntWalk.i64_in _ (by omega)) ?_) | (refine VIdx.mk _ rfl (by omega) ?_) | (refine VIdx.mk 0 rfl (by omega) ?_))
            try (conv => whnf)
            exact .mk (i + 1) ⟨rfl, rfl, rfl, rfl, rfl, rfl, rfl, rfl, trivial⟩ ⟨h60, brp, _, _, _, Tp, Zp.mono (by omega), sp1, sp2⟩ (by omega)
        case neg =>
          by_cases hy1 : i < os'.length
          case pos =>
            have sc' := (hx wr br).2.1
            obtain ⟨ga', oa', eA', _, hrow'⟩ := sc'.row (by omega)
            obtain ⟨op', hop'⟩ : ∃ op, os'[i]? = some op := ⟨_, List.getElem?_eq_getElem hy1⟩
            have Lk' := La'.at br
            rw [eA'] at Lk'
            have Lo' : Ld Try.prog 95 ga' (oa' + i * 16) (Eq wr) (.agg (opA op')) := .of (load_agg (by kernel_rfl) (by kernel_rfl) (fun j u hu => hrow' i op' hop' j u hu))
            repeat ((conv => whnf); first | (refine VLoad.mk _ Lk' ?_) | (refine VLoad.mk _ Lo' ?_) | (refine VLoad.mk _ (La.at br) ?_) | (refine VCmp.tt (by omega) ?_) | (refine VCmp.ff (by omega) ?_) | (refine VIn.mk (IntWalk.i64_in _ (by omega)) ?_) | (refine VIdx.mk _ rfl (by omega) ?_) | (refine VIdx.mk 0 rfl (by omega) ?_))
            try (conv => whnf)
            refine VCall.mk _ (held_st (N := wB.heap.size) T Z (by omega) s2 s1 (.inl (Nat.le_refl _)) (by omega) (by omega) (by omega) (by omega) ((sc'.each op' (List.mem_of_getElem? hop')).more (by omega))) ?_
            rintro _ wq ⟨rfl, Fq, xq, tq, bq, Tq, Zq, sq2, sq1, _⟩
            refine ⟨_, rfl, ?_⟩
            have brq : Below wB.heap.size wB wq := br.trans bq
            repeat ((conv => whnf); first | (refine VLoad.mk _ (La.at brq) ?_) | (refine VLoad.mk _ (La'.at brq) ?_) | (refine VCmp.tt (by omega) ?_) | (refine VCmp.ff (by omega) ?_) | (refine VIn.mk (IntWalk.i64_in _ (by omega)) ?_) | (refine VIdx.mk _ rfl (by omega) ?_) | (refine VIdx.mk 0 rfl (by omega) ?_))
            try (conv => whnf)
            exact .mk (i + 1) ⟨rfl, rfl, rfl, rfl, rfl, rfl, rfl, rfl, trivial⟩ ⟨h60, brq, _, _, _, Tq, Zq.mono (by omega), sq1, sq2⟩ (by omega)
          case neg =>
            repeat ((conv => whnf); first | (refine VLoad.mk _ (La.at br) ?_) | (refine VLoad.mk _ (La'.at br) ?_) | (refine VCmp.tt (by omega) ?_) | (refine VCmp.ff (by omega) ?_) | (refine VIn.mk (IntWalk.i64_in _ (by omega)) ?_) | (refine VIdx.mk _ rfl (by omega) ?_) | (refine VIdx.mk 0 rfl (by omega) ?_))
            try (conv => whnf)
            refine VBuild.mk _ (fun W => bld95 W) ?_
            repeat ((conv => whnf); first | (refine VCmp.tt (by omega) ?_) | (refine VCmp.ff (by omega) ?_) | (refine VIn.mk (IntWalk.i64_in _ (by omega)) ?_) | (refine VIdx.mk _ rfl (by omega) ?_) | (refine VIdx.mk 0 rfl (by omega) ?_))
            try (conv => whnf)
            refine .mk _ run_zero95 ?_
            conv => whnf
            refine .mk fun x3 hx3 => ?_
            repeat ((conv => whnf); first | (refine VCmp.tt (by omega) ?_) | (refine VCmp.ff (by omega) ?_) | (refine VIn.mk (IntWalk.i64_in _ (by omega)) ?_) | (refine VIdx.mk _ rfl (by omega) ?_) | (refine VIdx.mk 0 rfl (by omega) ?_))
            try (conv => whnf)
            refine VStore.new hx3 (by kernel_rfl) rfl (one_opA lastO) fun we hwe => ?_
            have ce : Below wr.heap.size wr we := by rw [hwe.out]; exact (Below.refl _ _).alloc (Nat.le_refl _) _
            have ze : we.heap.size = wr.heap.size + 1 := by rw [hwe.out]; simp
            have re : we.rangeAt wr.heap.size 0 (opA lastO).toList := by rw [hwe.out]; exact range_new wr (opA lastO) 95
            clear hwe hx3
            have zr := br.size
            have be : Below wB.heap.size wB we := br.trans (ce.mono zr)
            have hnF : wr.heap.size ∉ F := fun hm => by have := T.hi _ (List.mem_append.2 (.inl hm)); omega
            have Te := T.below ce
            have se1 := s1.below ce
            have se2 := s2.below ce
            have Lz : Ld Try.prog 95 wr.heap.size 0 (Eq we) (.agg (opA lastO)) := .of (load_agg (by kernel_rfl) (by kernel_rfl) re)
            repeat ((conv => whnf); first | (refine VLoad.mk _ Lz ?_) | (refine VCmp.tt (by omega) ?_) | (refine VCmp.ff (by omega) ?_) | (refine VIn.mk (IntWalk.i64_in _ (by omega)) ?_) | (refine VIdx.mk _ rfl (by omega) ?_) | (refine VIdx.mk 0 rfl (by omega) ?_))
            try (conv => whnf)
            refine VCall.mk _ (held_st (N := wB.heap.size) Te Z (by omega) se1 se2 (.inr (Nat.le_refl _)) (by omega) (by omega) (by omega) (by omega) (lastAt _ _)) ?_
            rintro _ wp ⟨rfl, Fp, xp, tp, bp, Tp, Zp, sp1, sp2, kp⟩
            refine ⟨_, rfl, ?_⟩
            have brp : Below wB.heap.size wB wp := be.trans bp
            have rp := range_same re (kp _ (by omega) hnF)
            have Lz' : Ld Try.prog 95 wr.heap.size 0 (Eq wp) (.agg (opA lastO)) := .of (load_agg (by kernel_rfl) (by kernel_rfl) rp)
            repeat ((conv => whnf); first | (refine VLoad.mk _ Lz' ?_) | (refine VCmp.tt (by omega) ?_) | (refine VCmp.ff (by omega) ?_) | (refine VIn.mk (IntWalk.i64_in _ (by omega)) ?_) | (refine VIdx.mk _ rfl (by omega) ?_) | (refine VIdx.mk 0 rfl (by omega) ?_))
            try (conv => whnf)
            refine VCall.mk _ (held_st (N := wB.heap.size) Tp Zp (by omega) sp2 sp1 (.inl (Nat.le_refl _)) (by omega) (by omega) (by omega) (by omega) (lastAt _ _)) ?_
            rintro _ wq ⟨rfl, Fq, xq, tq, bq, Tq, Zq, sq2, sq1, _⟩
            refine ⟨_, rfl, ?_⟩
            have brq : Below wB.heap.size wB wq := brp.trans bq
            repeat ((conv => whnf); first | (refine VCmp.tt (by omega) ?_) | (refine VCmp.ff (by omega) ?_) | (refine VIn.mk (IntWalk.i64_in _ (by omega)) ?_) | (refine VIdx.mk _ rfl (by omega) ?_) | (refine VIdx.mk 0 rfl (by omega) ?_))
            try (conv => whnf)
            refine VCall.mk _ (alone_st (N := wB.heap.size) Tq Zq (by omega) sq1 sq2 (by omega) (by omega) (by omega)) ?_
            rintro _ wu ⟨rfl, bu, su1, su2⟩
            refine ⟨_, rfl, ?_⟩
            have bru : Below wB.heap.size wB wu := brq.trans bu
            have zu := bru.size
            obtain ⟨sa, Sa⟩ := su1.two
            repeat ((conv => whnf); first | (refine VLoad.mk _ (La.at bru) ?_) | (refine VCmp.tt (by omega) ?_) | (refine VCmp.ff (by omega) ?_) | (refine VIn.mk (IntWalk.i64_in _ (by omega)) ?_) | (refine VIdx.mk _ rfl (by omega) ?_) | (refine VIdx.mk 0 rfl (by omega) ?_))
            try (conv => whnf)
            refine VCall.mk _ (onceMore_any Sa (hx wu bru).1 (by omega)) ?_
            rintro _ wv ⟨rfl, bv⟩
            refine ⟨_, rfl, ?_⟩
            have brv : Below wB.heap.size wB wv := bru.trans (bv.mono zu)
            have sv2 := su2.below bv
            obtain ⟨sb, Sb⟩ := sv2.two
            repeat ((conv => whnf); first | (refine VLoad.mk _ (La'.at brv) ?_) | (refine VCmp.tt (by omega) ?_) | (refine VCmp.ff (by omega) ?_) | (refine VIn.mk (IntWalk.i64_in _ (by omega)) ?_) | (refine VIdx.mk _ rfl (by omega) ?_) | (refine VIdx.mk 0 rfl (by omega) ?_))
            try (conv => whnf)
            refine VCall.mk _ (onceMore_any Sb (hx wv brv).2.1 (by have := brv.size; omega)) ?_
            rintro _ wx ⟨rfl, bx⟩
            refine ⟨_, rfl, ?_⟩
            have brx : Below wB.heap.size wB wx := brv.trans (bx.mono brv.size)
            repeat ((conv => whnf); first | (refine VCmp.tt (by omega) ?_) | (refine VCmp.ff (by omega) ?_) | (refine VIn.mk (IntWalk.i64_in _ (by omega)) ?_) | (refine VIdx.mk _ rfl (by omega) ?_) | (refine VIdx.mk 0 rfl (by omega) ?_))
            try (conv => whnf)
            exact .mk ⟨rfl, (hx _ brx).2.2.2.2⟩
      case neg =>
        by_cases hx1 : i < os.length
        case pos =>
          repeat ((conv => whnf); first | (refine VLoad.mk _ (La.at br) ?_) | (refine VLoad.mk _ (La'.at br) ?_) | (refine VCmp.tt (by omega) ?_) | (refine VCmp.ff (by omega) ?_) | (refine VIn.mk (IntWalk.i64_in _ (by omega)) ?_) | (refine VIdx.mk _ rfl (by omega) ?_) | (refine VIdx.mk 0 rfl (by omega) ?_))
          try (conv => whnf)
          refine VBuild.mk _ (fun W => bld95 W) ?_
          repeat ((conv => whnf); first | (refine VCmp.tt (by omega) ?_) | (refine VCmp.ff (by omega) ?_) | (refine VIn.mk (IntWalk.i64_in _ (by omega)) ?_) | (refine VIdx.mk _ rfl (by omega) ?_) | (refine VIdx.mk 0 rfl (by omega) ?_))
          try (conv => whnf)
          refine .mk _ run_zero95 ?_
          conv => whnf
          refine .mk fun x3 hx3 => ?_
          repeat ((conv => whnf); first | (refine VCmp.tt (by omega) ?_) | (refine VCmp.ff (by omega) ?_) | (refine VIn.mk (IntWalk.i64_in _ (by omega)) ?_) | (refine VIdx.mk _ rfl (by omega) ?_) | (refine VIdx.mk 0 rfl (by omega) ?_))
          try (conv => whnf)
          refine VStore.new hx3 (by kernel_rfl) rfl (one_opA lastO) fun we hwe => ?_
          have ce : Below wr.heap.size wr we := by rw [hwe.out]; exact (Below.refl _ _).alloc (Nat.le_refl _) _
          have ze : we.heap.size = wr.heap.size + 1 := by rw [hwe.out]; simp
          have re : we.rangeAt wr.heap.size 0 (opA lastO).toList := by rw [hwe.out]; exact range_new wr (opA lastO) 95
          clear hwe hx3
          have zr := br.size
          have be : Below wB.heap.size wB we := br.trans (ce.mono zr)
          have hnF : wr.heap.size ∉ F := fun hm => by have := T.hi _ (List.mem_append.2 (.inl hm)); omega
          have Te := T.below ce
          have se1 := s1.below ce
          have se2 := s2.below ce
          have Lz : Ld Try.prog 95 wr.heap.size 0 (Eq we) (.agg (opA lastO)) := .of (load_agg (by kernel_rfl) (by kernel_rfl) re)
          repeat ((conv => whnf); first | (refine VLoad.mk _ Lz ?_) | (refine VCmp.tt (by omega) ?_) | (refine VCmp.ff (by omega) ?_) | (refine VIn.mk (IntWalk.i64_in _ (by omega)) ?_) | (refine VIdx.mk _ rfl (by omega) ?_) | (refine VIdx.mk 0 rfl (by omega) ?_))
          try (conv => whnf)
          refine VCall.mk _ (held_st (N := wB.heap.size) Te Z (by omega) se1 se2 (.inr (Nat.le_refl _)) (by omega) (by omega) (by omega) (by omega) (lastAt _ _)) ?_
          rintro _ wp ⟨rfl, Fp, xp, tp, bp, Tp, Zp, sp1, sp2, kp⟩
          refine ⟨_, rfl, ?_⟩
          have brp : Below wB.heap.size wB wp := be.trans bp
          have rp := range_same re (kp _ (by omega) hnF)
          have Lz' : Ld Try.prog 95 wr.heap.size 0 (Eq wp) (.agg (opA lastO)) := .of (load_agg (by kernel_rfl) (by kernel_rfl) rp)
          repeat ((conv => whnf); first | (refine VLoad.mk _ Lz' ?_) | (refine VCmp.tt (by omega) ?_) | (refine VCmp.ff (by omega) ?_) | (refine VIn.mk (IntWalk.i64_in _ (by omega)) ?_) | (refine VIdx.mk _ rfl (by omega) ?_) | (refine VIdx.mk 0 rfl (by omega) ?_))
          try (conv => whnf)
          refine VCall.mk _ (held_st (N := wB.heap.size) Tp Zp (by omega) sp2 sp1 (.inl (Nat.le_refl _)) (by omega) (by omega) (by omega) (by omega) (lastAt _ _)) ?_
          rintro _ wq ⟨rfl, Fq, xq, tq, bq, Tq, Zq, sq2, sq1, _⟩
          refine ⟨_, rfl, ?_⟩
          have brq : Below wB.heap.size wB wq := brp.trans bq
          repeat ((conv => whnf); first | (refine VCmp.tt (by omega) ?_) | (refine VCmp.ff (by omega) ?_) | (refine VIn.mk (IntWalk.i64_in _ (by omega)) ?_) | (refine VIdx.mk _ rfl (by omega) ?_) | (refine VIdx.mk 0 rfl (by omega) ?_))
          try (conv => whnf)
          refine VCall.mk _ (alone_st (N := wB.heap.size) Tq Zq (by omega) sq1 sq2 (by omega) (by omega) (by omega)) ?_
          rintro _ wu ⟨rfl, bu, su1, su2⟩
          refine ⟨_, rfl, ?_⟩
          have bru : Below wB.heap.size wB wu := brq.trans bu
          have zu := bru.size
          obtain ⟨sa, Sa⟩ := su1.two
          repeat ((conv => whnf); first | (refine VLoad.mk _ (La.at bru) ?_) | (refine VCmp.tt (by omega) ?_) | (refine VCmp.ff (by omega) ?_) | (refine VIn.mk (IntWalk.i64_in _ (by omega)) ?_) | (refine VIdx.mk _ rfl (by omega) ?_) | (refine VIdx.mk 0 rfl (by omega) ?_))
          try (conv => whnf)
          refine VCall.mk _ (onceMore_any Sa (hx wu bru).1 (by omega)) ?_
          rintro _ wv ⟨rfl, bv⟩
          refine ⟨_, rfl, ?_⟩
          have brv : Below wB.heap.size wB wv := bru.trans (bv.mono zu)
          have sv2 := su2.below bv
          obtain ⟨sb, Sb⟩ := sv2.two
          repeat ((conv => whnf); first | (refine VLoad.mk _ (La'.at brv) ?_) | (refine VCmp.tt (by omega) ?_) | (refine VCmp.ff (by omega) ?_) | (refine VIn.mk (IntWalk.i64_in _ (by omega)) ?_) | (refine VIdx.mk _ rfl (by omega) ?_) | (refine VIdx.mk 0 rfl (by omega) ?_))
          try (conv => whnf)
          refine VCall.mk _ (onceMore_any Sb (hx wv brv).2.1 (by have := brv.size; omega)) ?_
          rintro _ wx ⟨rfl, bx⟩
          refine ⟨_, rfl, ?_⟩
          have brx : Below wB.heap.size wB wx := brv.trans (bx.mono brv.size)
          repeat ((conv => whnf); first | (refine VCmp.tt (by omega) ?_) | (refine VCmp.ff (by omega) ?_) | (refine VIn.mk (IntWalk.i64_in _ (by omega)) ?_) | (refine VIdx.mk _ rfl (by omega) ?_) | (refine VIdx.mk 0 rfl (by omega) ?_))
          try (conv => whnf)
          exact .mk ⟨rfl, (hx _ brx).2.2.2.2⟩
        case neg =>
          by_cases hy1 : i < os'.length
          case pos =>
            repeat ((conv => whnf); first | (refine VLoad.mk _ (La.at br) ?_) | (refine VLoad.mk _ (La'.at br) ?_) | (refine VCmp.tt (by omega) ?_) | (refine VCmp.ff (by omega) ?_) | (refine VIn.mk (IntWalk.i64_in _ (by omega)) ?_) | (refine VIdx.mk _ rfl (by omega) ?_) | (refine VIdx.mk 0 rfl (by omega) ?_))
            try (conv => whnf)
            refine VBuild.mk _ (fun W => bld95 W) ?_
            repeat ((conv => whnf); first | (refine VCmp.tt (by omega) ?_) | (refine VCmp.ff (by omega) ?_) | (refine VIn.mk (IntWalk.i64_in _ (by omega)) ?_) | (refine VIdx.mk _ rfl (by omega) ?_) | (refine VIdx.mk 0 rfl (by omega) ?_))
            try (conv => whnf)
            refine .mk _ run_zero95 ?_
            conv => whnf
            refine .mk fun x3 hx3 => ?_
            repeat ((conv => whnf); first | (refine VCmp.tt (by omega) ?_) | (refine VCmp.ff (by omega) ?_) | (refine VIn.mk (IntWalk.i64_in _ (by omega)) ?_) | (refine VIdx.mk _ rfl (by omega) ?_) | (refine VIdx.mk 0 rfl (by omega) ?_))
            try (conv => whnf)
            refine VStore.new hx3 (by kernel_rfl) rfl (one_opA lastO) fun we hwe => ?_
            have ce : Below wr.heap.size wr we := by rw [hwe.out]; exact (Below.refl _ _).alloc (Nat.le_refl _) _
            have ze : we.heap.size = wr.heap.size + 1 := by rw [hwe.out]; simp
            have re : we.rangeAt wr.heap.size 0 (opA lastO).toList := by rw [hwe.out]; exact range_new wr (opA lastO) 95
            clear hwe hx3
            have zr := br.size
            have be : Below wB.heap.size wB we := br.trans (ce.mono zr)
            have hnF : wr.heap.size ∉ F := fun hm => by have := T.hi _ (List.mem_append.2 (.inl hm)); omega
            have Te := T.below ce
            have se1 := s1.below ce
            have se2 := s2.below ce
            have Lz : Ld Try.prog 95 wr.heap.size 0 (Eq we) (.agg (opA lastO)) := .of (load_agg (by kernel_rfl) (by kernel_rfl) re)
            repeat ((conv => whnf); first | (refine VLoad.mk _ Lz ?_) | (refine VCmp.tt (by omega) ?_) | (refine VCmp.ff (by omega) ?_) | (refine VIn.mk (IntWalk.i64_in _ (by omega)) ?_) | (refine VIdx.mk _ rfl (by omega) ?_) | (refine VIdx.mk 0 rfl (by omega) ?_))
            try (conv => whnf)
            refine VCall.mk _ (held_st (N := wB.heap.size) Te Z (by omega) se1 se2 (.inr (Nat.le_refl _)) (by omega) (by omega) (by omega) (by omega) (lastAt _ _)) ?_
            rintro _ wp ⟨rfl, Fp, xp, tp, bp, Tp, Zp, sp1, sp2, kp⟩
            refine ⟨_, rfl, ?_⟩
            have brp : Below wB.heap.size wB wp := be.trans bp
            have rp := range_same re (kp _ (by omega) hnF)
            have Lz' : Ld Try.prog 95 wr.heap.size 0 (Eq wp) (.agg (opA lastO)) := .of (load_agg (by kernel_rfl) (by kernel_rfl) rp)
            repeat ((conv => whnf); first | (refine VLoad.mk _ Lz' ?_) | (refine VCmp.tt (by omega) ?_) | (refine VCmp.ff (by omega) ?_) | (refine VIn.mk (IntWalk.i64_in _ (by omega)) ?_) | (refine VIdx.mk _ rfl (by omega) ?_) | (refine VIdx.mk 0 rfl (by omega) ?_))
            try (conv => whnf)
            refine VCall.mk _ (held_st (N := wB.heap.size) Tp Zp (by omega) sp2 sp1 (.inl (Nat.le_refl _)) (by omega) (by omega) (by omega) (by omega) (lastAt _ _)) ?_
            rintro _ wq ⟨rfl, Fq, xq, tq, bq, Tq, Zq, sq2, sq1, _⟩
            refine ⟨_, rfl, ?_⟩
            have brq : Below wB.heap.size wB wq := brp.trans bq
            repeat ((conv => whnf); first | (refine VCmp.tt (by omega) ?_) | (refine VCmp.ff (by omega) ?_) | (refine VIn.mk (IntWalk.i64_in _ (by omega)) ?_) | (refine VIdx.mk _ rfl (by omega) ?_) | (refine VIdx.mk 0 rfl (by omega) ?_))
            try (conv => whnf)
            refine VCall.mk _ (alone_st (N := wB.heap.size) Tq Zq (by omega) sq1 sq2 (by omega) (by omega) (by omega)) ?_
            rintro _ wu ⟨rfl, bu, su1, su2⟩
            refine ⟨_, rfl, ?_⟩
            have bru : Below wB.heap.size wB wu := brq.trans bu
            have zu := bru.size
            obtain ⟨sa, Sa⟩ := su1.two
            repeat ((conv => whnf); first | (refine VLoad.mk _ (La.at bru) ?_) | (refine VCmp.tt (by omega) ?_) | (refine VCmp.ff (by omega) ?_) | (refine VIn.mk (IntWalk.i64_in _ (by omega)) ?_) | (refine VIdx.mk _ rfl (by omega) ?_) | (refine VIdx.mk 0 rfl (by omega) ?_))
            try (conv => whnf)
            refine VCall.mk _ (onceMore_any Sa (hx wu bru).1 (by omega)) ?_
            rintro _ wv ⟨rfl, bv⟩
            refine ⟨_, rfl, ?_⟩
            have brv : Below wB.heap.size wB wv := bru.trans (bv.mono zu)
            have sv2 := su2.below bv
            obtain ⟨sb, Sb⟩ := sv2.two
            repeat ((conv => whnf); first | (refine VLoad.mk _ (La'.at brv) ?_) | (refine VCmp.tt (by omega) ?_) | (refine VCmp.ff (by omega) ?_) | (refine VIn.mk (IntWalk.i64_in _ (by omega)) ?_) | (refine VIdx.mk _ rfl (by omega) ?_) | (refine VIdx.mk 0 rfl (by omega) ?_))
            try (conv => whnf)
            refine VCall.mk _ (onceMore_any Sb (hx wv brv).2.1 (by have := brv.size; omega)) ?_
            rintro _ wx ⟨rfl, bx⟩
            refine ⟨_, rfl, ?_⟩
            have brx : Below wB.heap.size wB wx := brv.trans (bx.mono brv.size)
            repeat ((conv => whnf); first | (refine VCmp.tt (by omega) ?_) | (refine VCmp.ff (by omega) ?_) | (refine VIn.mk (IntWalk.i64_in _ (by omega)) ?_) | (refine VIdx.mk _ rfl (by omega) ?_) | (refine VIdx.mk 0 rfl (by omega) ?_))
            try (conv => whnf)
            exact .mk ⟨rfl, (hx _ brx).2.2.2.2⟩
          case neg =>
            repeat ((conv => whnf); first | (refine VLoad.mk _ (La.at br) ?_) | (refine VLoad.mk _ (La'.at br) ?_) | (refine VCmp.tt (by omega) ?_) | (refine VCmp.ff (by omega) ?_) | (refine VIn.mk (IntWalk.i64_in _ (by omega)) ?_) | (refine VIdx.mk _ rfl (by omega) ?_) | (refine VIdx.mk 0 rfl (by omega) ?_))
            try (conv => whnf)
            refine VBuild.mk _ (fun W => bld95 W) ?_
            repeat ((conv => whnf); first | (refine VCmp.tt (by omega) ?_) | (refine VCmp.ff (by omega) ?_) | (refine VIn.mk (IntWalk.i64_in _ (by omega)) ?_) | (refine VIdx.mk _ rfl (by omega) ?_) | (refine VIdx.mk 0 rfl (by omega) ?_))
            try (conv => whnf)
            refine .mk _ run_zero95 ?_
            conv => whnf
            refine .mk fun x3 hx3 => ?_
            repeat ((conv => whnf); first | (refine VCmp.tt (by omega) ?_) | (refine VCmp.ff (by omega) ?_) | (refine VIn.mk (IntWalk.i64_in _ (by omega)) ?_) | (refine VIdx.mk _ rfl (by omega) ?_) | (refine VIdx.mk 0 rfl (by omega) ?_))
            try (conv => whnf)
            refine VStore.new hx3 (by kernel_rfl) rfl (one_opA lastO) fun we hwe => ?_
            have ce : Below wr.heap.size wr we := by rw [hwe.out]; exact (Below.refl _ _).alloc (Nat.le_refl _) _
            have ze : we.heap.size = wr.heap.size + 1 := by rw [hwe.out]; simp
            have re : we.rangeAt wr.heap.size 0 (opA lastO).toList := by rw [hwe.out]; exact range_new wr (opA lastO) 95
            clear hwe hx3
            have zr := br.size
            have be : Below wB.heap.size wB we := br.trans (ce.mono zr)
            have hnF : wr.heap.size ∉ F := fun hm => by have := T.hi _ (List.mem_append.2 (.inl hm)); omega
            have Te := T.below ce
            have se1 := s1.below ce
            have se2 := s2.below ce
            have Lz : Ld Try.prog 95 wr.heap.size 0 (Eq we) (.agg (opA lastO)) := .of (load_agg (by kernel_rfl) (by kernel_rfl) re)
            repeat ((conv => whnf); first | (refine VLoad.mk _ Lz ?_) | (refine VCmp.tt (by omega) ?_) | (refine VCmp.ff (by omega) ?_) | (refine VIn.mk (IntWalk.i64_in _ (by omega)) ?_) | (refine VIdx.mk _ rfl (by omega) ?_) | (refine VIdx.mk 0 rfl (by omega) ?_))
            try (conv => whnf)
            refine VCall.mk _ (held_st (N := wB.heap.size) Te Z (by omega) se1 se2 (.inr (Nat.le_refl _)) (by omega) (by omega) (by omega) (by omega) (lastAt _ _)) ?_
            rintro _ wp ⟨rfl, Fp, xp, tp, bp, Tp, Zp, sp1, sp2, kp⟩
            refine ⟨_, rfl, ?_⟩
            have brp : Below wB.heap.size wB wp := be.trans bp
            have rp := range_same re (kp _ (by omega) hnF)
            have Lz' : Ld Try.prog 95 wr.heap.size 0 (Eq wp) (.agg (opA lastO)) := .of (load_agg (by kernel_rfl) (by kernel_rfl) rp)
            repeat ((conv => whnf); first | (refine VLoad.mk _ Lz' ?_) | (refine VCmp.tt (by omega) ?_) | (refine VCmp.ff (by omega) ?_) | (refine VIn.mk (IntWalk.i64_in _ (by omega)) ?_) | (refine VIdx.mk _ rfl (by omega) ?_) | (refine VIdx.mk 0 rfl (by omega) ?_))
            try (conv => whnf)
            refine VCall.mk _ (held_st (N := wB.heap.size) Tp Zp (by omega) sp2 sp1 (.inl (Nat.le_refl _)) (by omega) (by omega) (by omega) (by omega) (lastAt _ _)) ?_
            rintro _ wq ⟨rfl, Fq, xq, tq, bq, Tq, Zq, sq2, sq1, _⟩
            refine ⟨_, rfl, ?_⟩
            have brq : Below wB.heap.size wB wq := brp.trans bq
            repeat ((conv => whnf); first | (refine VCmp.tt (by omega) ?_) | (refine VCmp.ff (by omega) ?_) | (refine VIn.mk (IntWalk.i64_in _ (by omega)) ?_) | (refine VIdx.mk _ rfl (by omega) ?_) | (refine VIdx.mk 0 rfl (by omega) ?_))
            try (conv => whnf)
            refine VCall.mk _ (alone_st (N := wB.heap.size) Tq Zq (by omega) sq1 sq2 (by omega) (by omega) (by omega)) ?_
            rintro _ wu ⟨rfl, bu, su1, su2⟩
            refine ⟨_, rfl, ?_⟩
            have bru : Below wB.heap.size wB wu := brq.trans bu
            have zu := bru.size
            obtain ⟨sa, Sa⟩ := su1.two
            repeat ((conv => whnf); first | (refine VLoad.mk _ (La.at bru) ?_) | (refine VCmp.tt (by omega) ?_) | (refine VCmp.ff (by omega) ?_) | (refine VIn.mk (IntWalk.i64_in _ (by omega)) ?_) | (refine VIdx.mk _ rfl (by omega) ?_) | (refine VIdx.mk 0 rfl (by omega) ?_))
            try (conv => whnf)
            refine VCall.mk _ (onceMore_any Sa (hx wu bru).1 (by omega)) ?_
            rintro _ wv ⟨rfl, bv⟩
            refine ⟨_, rfl, ?_⟩
            have brv : Below wB.heap.size wB wv := bru.trans (bv.mono zu)
            have sv2 := su2.below bv
            obtain ⟨sb, Sb⟩ := sv2.two
            repeat ((conv => whnf); first | (refine VLoad.mk _ (La'.at brv) ?_) | (refine VCmp.tt (by omega) ?_) | (refine VCmp.ff (by omega) ?_) | (refine VIn.mk (IntWalk.i64_in _ (by omega)) ?_) | (refine VIdx.mk _ rfl (by omega) ?_) | (refine VIdx.mk 0 rfl (by omega) ?_))
            try (conv => whnf)
            refine VCall.mk _ (onceMore_any Sb (hx wv brv).2.1 (by have := brv.size; omega)) ?_
            rintro _ wx ⟨rfl, bx⟩
            refine ⟨_, rfl, ?_⟩
            have brx : Below wB.heap.size wB wx := brv.trans (bx.mono brv.size)
            repeat ((conv => whnf); first | (refine VCmp.tt (by omega) ?_) | (refine VCmp.ff (by omega) ?_) | (refine VIn.mk (IntWalk.i64_in _ (by omega)) ?_) | (refine VIdx.mk _ rfl (by omega) ?_) | (refine VIdx.mk 0 rfl (by omega) ?_))
            try (conv => whnf)
            exact .mk ⟨rfl, (hx _ brx).2.2.2.2⟩
end Go.Proofs.Ytcffhfcjfjfokaa
