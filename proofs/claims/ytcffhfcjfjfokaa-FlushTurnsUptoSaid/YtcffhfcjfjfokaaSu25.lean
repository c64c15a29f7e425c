/- HlC HlG HlA HlS StoreWalk, joined. -/
import Derived.Test.YtcffhfcjfjfokaaSu23
import Derived.Test.YtcffhfcjfjfokaaSu24
set_option linter.unusedVariables false
set_option linter.unusedSimpArgs false
namespace Go.Proofs.Ytcffhfcjfjfokaa
open Go Go.RowKit
set_option maxRecDepth 100000 in
set_option maxHeartbeats 4000000 in
theorem held_contents {w : World} {base hb n N : Nat} {F : List Nat} {x : BX} {t : WX} {b g b' g' : Nat} {s : Sto} {o : Opx} (T : Tn w base hb F [] x t) (Z : Sz x t n) (hn : n ≤ 600000000) (S : Two w F b g b' g' s) (low : Low N hb b g b' g') (hN : N ≤ hb) (ho : OpAt w N o) (hk : o.kd = 3) :
    Calls Try.prog 46 #[.pointer (some ⟨hb, 0, none⟩), .pointer (some ⟨b, 0, none⟩), .pointer (some ⟨b', 0, none⟩), .agg (opA o)] w fun e w' => e = .returned (.bool true) ∧ Hp w base hb F b g b' g' (n + 3000000) w' := by
  have hz := T.B.hz
  have hbz := T.B.z
  obtain ⟨fb1, fb2, fb3, fb4⟩ := S.bF
  refine calls_vc tab_ok Try.func46 rfl ?_
  conv => whnf
  refine .mk fun wA hwA => ?_
  have hbA : Below w.heap.size w wA := by rw [hwA.out]; exact below_box1 _ _ _
  have zA : wA.heap.size = w.heap.size + 1 := by rw [hwA.out]; simp
  have oA : OpBx w.heap.size o wA := by rw [hwA.out]; exact range_new w (opA o) 95
  clear hwA
  repeat ((conv => whnf); first | (refine VCmp.tt (by omega) ?_) | (refine VCmp.ff (by omega) ?_) | (refine VIn.mk (IntWalk.i64_in _ (by omega)) ?_) | (refine VIdx.mk _ rfl (by omega) ?_) | (refine VIdx.mk 0 rfl (by omega) ?_))
  try (conv => whnf)
  refine VBuild.mk _ (fun W => bld147' W) ?_
  conv => whnf
  refine .mk fun wB hwB => ?_
  have L0 : Lt wB (wA.heap.size + 1) wA.heap.size ltx0 := by rw [hwB.out]; exact lt_new wA
  have bAB : Below wA.heap.size wA wB := by rw [hwB.out]; exact (Below.refl _ _).alloc (Nat.le_refl _) _
  have zB : wB.heap.size = wA.heap.size + 1 := by rw [hwB.out]; simp
  have oB : OpBx w.heap.size o wB := range_same oA (bAB.block _ (by omega))
  have bB : Below w.heap.size w wB := hbA.trans (bAB.mono (by omega))
  clear hwB oA hbA bAB
  generalize hlb : wA.heap.size = lb at *
  clear hlb
  have hFi : ∀ q ∈ F, q < w.heap.size := fun q hq => T.hi q (List.mem_append.2 (.inl hq))
  have hK0 : ∀ q ∈ ltS ltx0 lb, q = lb := fun q hq => by
    rcases ltS_iff.1 hq with e | e | e | e | e
    · exact e
    all_goals rcases e with e | ⟨r, hr, _⟩; cases e; cases hr
  have hlm : lb ∈ ltS ltx0 lb := ltS_iff.2 (.inl rfl)
  have TB : Tn wB base hb F (ltS ltx0 lb) x t := T.more bB (fun y hy => (List.mem_append.1 hy).elim (fun e => .inl (List.mem_append.2 (.inl e))) fun e => .inr (by have := hK0 y e; omega)) (fun y hy => hy) (fun y hy => (List.mem_append.1 hy).elim (fun e => by have := hFi y e; omega) fun e => by have := hK0 y e; omega) (fun q hq hm => by have := hK0 q hq; have := hFi q hm; omega)
  have SB : Two wB (F ++ ltS ltx0 lb) b g b' g' s := S.ext bB (fun y hy => (List.mem_append.1 hy).elim .inl fun e => .inr (by have := hK0 y e; omega)) (fun y hy => List.mem_append.2 (.inl hy)) (fun y hy => (List.mem_append.1 hy).elim (fun e => by have := hFi y e; omega) fun e => by have := hK0 y e; omega)
  have H0 : Hs wB base hb lb F b g b' g' s n wB := ⟨F, _, x, t, ltx0, Fx.refl _ _, fun q hq => hq, fun q hq => .inl hq, fun q hq => .inl (hK0 q hq), fun q hq => hq, TB, Z, SB, L0, Nat.zero_le _⟩
  have Lk : Ld Try.prog 3 w.heap.size 0 (Eq wB) (.int .i64 o.kd) := .of (load3 (oB 0 _ rfl))
  have Kp : Ld Try.prog 35 w.heap.size 10 (OpBx w.heap.size o) (.agg #[.int .i64 o.e, .int .i64 o.l, .int .i64 o.i, .int .i64 o.c]) := ⟨fun W hW => load35 (range_sub (n := 4) hW 10 rfl)⟩
  have Kw : Ld Try.prog 93 w.heap.size 14 (OpBx w.heap.size o) (.slice o.wA o.who.length o.wc) := ⟨fun W hW => load_cell (by kernel_rfl) (hW 14 _ rfl)⟩
  have Km : Ld Try.prog 40 w.heap.size 15 (OpBx w.heap.size o) (.slice o.mA o.ms.length o.mc) := ⟨fun W hW => load_cell (by kernel_rfl) (hW 15 _ rfl)⟩
  have hs3 := ho.s3
  obtain ⟨⟨n1, n2, n3, n4⟩, m1, m2, m3, m4⟩ := low
  repeat ((conv => whnf); first | (refine VLoad.mk _ Lk ?_) | (refine VCmp.tt (by omega) ?_) | (refine VCmp.ff (by omega) ?_) | (refine VIn.mk (IntWalk.i64_in _ (by omega)) ?_) | (refine VIdx.mk _ rfl (by omega) ?_) | (refine VIdx.mk 0 rfl (by omega) ?_))
  try (conv => whnf)
  refine VLoop.mk Nat (fun i => [(0, .pointer (some ⟨hb, 0, none⟩)), (1, .pointer (some ⟨b, 0, none⟩)), (2, .pointer (some ⟨b', 0, none⟩)), (7, .pointer (some ⟨w.heap.size, 0, none⟩)), (9, .pointer (some ⟨lb, 0, none⟩)), (13, .int .i64 i)]) (fun i W => i ≤ 2 ∧ Hs wB base hb lb F b g b' g' s (n + 1200000 * i) W) (fun i => 2 - i) 0 ⟨rfl, rfl, rfl, rfl, rfl, rfl, trivial⟩ ⟨Nat.zero_le _, H0⟩ ?_
  clear H0
  rintro i wr ⟨hi, H⟩
  obtain ⟨F1, K, x1, t1, lx, f1, a1, b1, k1, kk, T1, Z1, S1, L1, mp⟩ := H.ex
  have zr := f1.size
  have hS1 : ∀ q ∈ lb :: F.filter (fun q => decide (hb ≤ q)), hb ≤ q := fun q hq => by
    rcases List.mem_cons.1 hq with rfl | hq
    · omega
    · simpa using (List.mem_filter.1 hq).2
  have br : Below hb wB wr := f1.to hS1 (by omega)
  have oR : OpBx w.heap.size o wr := range_same oB (f1.block _ (by omega) fun hm => by
    rcases List.mem_cons.1 hm with e | hm
    · omega
    · have := hFi _ (List.mem_filter.1 hm).1; omega)
  have hoR : ∀ W, Below hb wB W → OpAt W N o := fun W hW => (ho.below bB (by omega)).below hW hN
  by_cases hil : i < 2
  case neg =>
    have hie : i = 2 := by omega
    subst hie
    -- the end
    repeat ((conv => whnf); first | (refine VCmp.tt (by omega) ?_) | (refine VCmp.ff (by omega) ?_) | (refine VIn.mk (IntWalk.i64_in _ (by omega)) ?_) | (refine VIdx.mk _ rfl (by omega) ?_) | (refine VIdx.mk 0 rfl (by omega) ?_))
    try (conv => whnf)
    refine VCall.mk _ (kept_any L1) ?_
    rintro _ wz ⟨rfl, bz⟩
    refine ⟨_, rfl, ?_⟩
    have fz : Fx (lb :: F.filter fun q => decide (hb ≤ q)) wB wz := f1.trans (.below (S := []) bz) fun q hq => (by cases hq)
    have hFK : ∀ y ∈ F1, y ∈ F1 ++ K := fun y hy => List.mem_append.2 (.inl hy)
    obtain ⟨c1, c2, c3, c4⟩ := S.bF
    have Tz : Tn wz base hb F1 [] x1 t1 := T1.more bz (fun y hy => (List.mem_append.1 hy).elim (fun e => .inl (hFK y e)) fun e => (by cases e)) (fun y hy => hy) (fun y hy => (List.mem_append.1 hy).elim (fun e => Nat.lt_of_lt_of_le (T1.hi y (hFK y e)) bz.size) fun e => (by cases e)) (fun q hq => (by cases hq))
    have Sz' := (S1.below bz).less hFK (a1 b c1) (a1 g c2) (a1 b' c3) (a1 g' c4)
    have hw := bB.size
    repeat ((conv => whnf); first | (refine VCmp.tt (by omega) ?_) | (refine VCmp.ff (by omega) ?_) | (refine VIn.mk (IntWalk.i64_in _ (by omega)) ?_) | (refine VIdx.mk _ rfl (by omega) ?_) | (refine VIdx.mk 0 rfl (by omega) ?_))
    try (conv => whnf)
    exact .mk ⟨rfl, ⟨F1, x1, t1, s, (Fx.below (S := b :: g :: b' :: g' :: F.filter fun q => decide (hb ≤ q)) bB).trans fz fun q hq => (List.mem_cons.1 hq).elim (fun e => .inr (by omega)) fun e => .inl (by simp only [List.mem_cons]; exact .inr (.inr (.inr (.inr e)))), a1, fun q hq => (b1 q hq).imp id fun e => by omega, Tz, Z1.mono (by omega), Sz'⟩⟩
  case pos =>
    -- the members are lent
    have Td := T1.below (Below.refl wr.heap.size wr).drew
    have Sd := S1.below (Below.refl wr.heap.size wr).drew
    have Ldd := L1.below (Below.refl wr.heap.size wr).drew
    repeat ((conv => whnf); first | (refine VCmp.tt (by omega) ?_) | (refine VCmp.ff (by omega) ?_) | (refine VIn.mk (IntWalk.i64_in _ (by omega)) ?_) | (refine VIdx.mk _ rfl (by omega) ?_) | (refine VIdx.mk 0 rfl (by omega) ?_))
    try (conv => whnf)
    refine VDraw.mk 1000 [([0, 1, 2, 3, 4, 5], 6), ([], 7)] [8, 9, 10, 11, 12] (OpBx w.heap.size o) (by kernel_rfl) (by kernel_rfl) (oR) ?_
    repeat ((conv => whnf); first | (refine VLoad.mk _ Kp ?_) | (refine VLoad.mk _ Kw ?_) | (refine VCmp.tt (by omega) ?_) | (refine VCmp.ff (by omega) ?_) | (refine VIn.mk (IntWalk.i64_in _ (by omega)) ?_) | (refine VIdx.mk _ rfl (by omega) ?_) | (refine VIdx.mk 0 rfl (by omega) ?_))
    try (conv => whnf)
    have C80 := lentMems_any (cC := o.wc) Ldd (by show lx.m.P.length ≤ _; omega) (show N ≤ wr.drew.heap.size by show N ≤ wr.heap.size; omega) (RowAt.map mmT mmT_enc (hoR _ br.drew).who) (by rw [List.length_map]; exact hs3)
    rw [List.length_map] at C80
    refine VCall.mk _ C80 ?_
    clear C80
    rintro _ w1 ⟨g1, bl1, A1, c1, L', cL', r', rfl, LT1, hA1, hA1c, hA1m, hnew⟩
    refine ⟨_, rfl, ?_⟩
    have zd : wr.drew.heap.size = wr.heap.size := rfl
    have z1 := g1.size
    have hS0 : ∀ q ∈ lb :: (blk lx.m.L).toList, q ∈ ltS lx lb := fun q hq => by
      rcases List.mem_cons.1 hq with rfl | hq
      · exact ltS_iff.2 (.inl rfl)
      · exact ltS_iff.2 (.inr (.inr (.inr (.inl (.inl (by simpa [Option.mem_toList] using hq))))))
    have hKn : ∀ y ∈ K ++ ltS { lx with m := ⟨L', cL', lx.m.P ++ [r']⟩ } lb, y ∈ K ∨ wr.drew.heap.size ≤ y := fun y hy => by
      rcases List.mem_append.1 hy with hy | hy
      · exact .inl hy
      · rcases ltS_iff.1 hy with e | e | e | e | e
        · exact .inl (kk y (ltS_iff.2 (.inl e)))
        · exact .inl (kk y (ltS_iff.2 (.inr (.inl e))))
        · exact .inl (kk y (ltS_iff.2 (.inr (.inr (.inl e)))))
        · exact (hnew y e).imp (fun e => kk y (ltS_iff.2 (.inr (.inr (.inr (.inl e)))))) id
        · exact .inl (kk y (ltS_iff.2 (.inr (.inr (.inr (.inr e))))))
    have hKi : ∀ y ∈ K ++ ltS { lx with m := ⟨L', cL', lx.m.P ++ [r']⟩ } lb, y < w1.heap.size := fun y hy => (List.mem_append.1 hy).elim (fun e => by have := Td.hi y (List.mem_append.2 (.inr e)); omega) fun e => (LT1.hi y e).2
    have T2 : Tn w1 base hb F1 (K ++ ltS { lx with m := ⟨L', cL', lx.m.P ++ [r']⟩ } lb) x1 t1 := Td.lend g1 (fun q hq => kk q (hS0 q hq)) hKn (fun q hq => List.mem_append.2 (.inl (kk q (hS0 q hq)))) hKi
    have S2 : Two w1 (F1 ++ (K ++ ltS { lx with m := ⟨L', cL', lx.m.P ++ [r']⟩ } lb)) b g b' g' s := Sd.fxm g1 (fun q hq => by
      have h1 := kk q (hS0 q hq)
      have h2 := (L1.hi q (hS0 q hq)).1
      exact ⟨List.mem_append.2 (.inr h1), List.mem_append.2 (.inr (List.mem_append.2 (.inl h1))), by omega, by omega, by omega, by omega⟩) (fun y hy => (List.mem_append.1 hy).elim (fun e => .inl (List.mem_append.2 (.inl e))) fun e => (hKn y e).imp (fun e => List.mem_append.2 (.inr e)) id) (List.mem_append.2 (.inl (a1 b fb1))) (List.mem_append.2 (.inl (a1 g fb2))) (List.mem_append.2 (.inl (a1 b' fb3))) (List.mem_append.2 (.inl (a1 g' fb4))) fun y hy => T2.hi y hy
    have hO1 : OpBx w.heap.size o w1 := range_same oR (bl1.block _ (by omega))
    have hb1 : Below hb wB w1 := br.drew.trans (bl1.mono (by omega))
    repeat ((conv => whnf); first | (refine VS.mk hO1 ?_) | (refine VCmp.tt (by omega) ?_) | (refine VCmp.ff (by omega) ?_) | (refine VIn.mk (IntWalk.i64_in _ (by omega)) ?_) | (refine VIdx.mk _ rfl (by omega) ?_) | (refine VIdx.mk 0 rfl (by omega) ?_))
    try (conv => whnf)
    -- Contents
    obtain ⟨k1_, k2_, k3_, k4_, P2⟩ := S2.p
    refine VCall.mk _ (contents_any P2 o.e o.l o.i o.c A1 c1 w1.heap.size o.who (Nat.le_refl _) (RowAt.unmap mmT mmT_enc hA1) hs3) ?_
    intro e1 w2 hp1
    obtain ⟨b12, B, cB, rs, rfl, hrs, own1⟩ := hp1.form
    refine ⟨_, rfl, ?_⟩
    clear hp1
    have z2 := b12.size
    have hO2 : OpBx w.heap.size o w2 := range_same hO1 (b12.block _ (by omega))
    have S3 := S2.below b12
    obtain ⟨l1_, l2_, l3_, l4_, D3⟩ := S3.d
    repeat ((conv => whnf); first | (refine VS.mk hO2 ?_) | (refine VCmp.tt (by omega) ?_) | (refine VCmp.ff (by omega) ?_) | (refine VIn.mk (IntWalk.i64_in _ (by omega)) ?_) | (refine VIdx.mk _ rfl (by omega) ?_) | (refine VIdx.mk 0 rfl (by omega) ?_))
    try (conv => whnf)
    -- the document's
    repeat ((conv => whnf); first | (refine VLoad.mk _ (Kp.at hO2) ?_) | (refine VLoad.mk _ (Kw.at hO2) ?_) | (refine VCmp.tt (by omega) ?_) | (refine VCmp.ff (by omega) ?_) | (refine VIn.mk (IntWalk.i64_in _ (by omega)) ?_) | (refine VIdx.mk _ rfl (by omega) ?_) | (refine VIdx.mk 0 rfl (by omega) ?_))
    try (conv => whnf)
    refine VCall.mk _ (rcontents_any D3 S3.dn o.e o.l o.i o.c o.wA o.wc N o.who (by omega) (hoR w2 (hb1.trans (b12.mono (by omega)))).who hs3) ?_
    intro e2 w4 hp2
    obtain ⟨b24, B2, cB2, rs2, rfl, hrs2, own2⟩ := hp2.form
    refine ⟨_, rfl, ?_⟩
    clear hp2
    have z4 := b24.size
    have own14 := own1.keep b24
    have b14 : Below w1.heap.size w1 w4 := b12.trans (b24.mono z2)
    have hcs := contents_small (e := o.e) (l := o.l) (i := o.i) (c := o.c) (who := o.who) S3.inv
    have hlr : rs.length = ((s.contents o.e o.l o.i o.c o.who).getD []).length := by rw [← hrs, List.length_map]
    have hlr2 : rs2.length = rs.length := by rw [hlr, ← hrs2, List.length_map]
    have hrr : rs2.map Rw.f = rs.map Rw.f := by rw [hrs2, hrs]
    have hsmall : Small (rs2.map Rw.f) := ⟨by rw [List.length_map]; omega, fun f hf => hcs.2 f (by rw [← hrs2]; exact hf)⟩
    repeat ((conv => whnf); first | (refine VCmp.tt (by omega) ?_) | (refine VCmp.ff (by omega) ?_) | (refine VIn.mk (IntWalk.i64_in _ (by omega)) ?_) | (refine VIdx.mk _ rfl (by omega) ?_) | (refine VIdx.mk 0 rfl (by omega) ?_))
    try (conv => whnf)
    refine VCall.mk _ (num_any _ w4) ?_
    rintro _ _ ⟨rfl, rfl⟩
    refine ⟨_, rfl, ?_⟩
    have hsf := sameFls_yes B B2 cB cB2 w4.heap.size (rs.map Rw.f) w4 (Nat.le_refl _) own14.fls (by have := own2.fls; rwa [hrr] at this) (by rw [List.length_map]; omega)
    rw [List.length_map] at hsf
    rw [hlr2]
    repeat ((conv => whnf); first | (refine VCmp.tt rfl ?_) | (refine VCmp.tt (by omega) ?_) | (refine VCmp.ff (by omega) ?_) | (refine VIn.mk (IntWalk.i64_in _ (by omega)) ?_) | (refine VIdx.mk _ rfl (by omega) ?_) | (refine VIdx.mk 0 rfl (by omega) ?_))
    try (conv => whnf)
    refine VCall.mk _ hsf ?_
    rintro _ w5 ⟨rfl, b45⟩
    refine ⟨_, rfl, ?_⟩
    clear hsf
    have z5 := b45.size
    have C28 := many_w B2 cB2 w5.heap.size (rs2.map Rw.f) w5 (Nat.le_refl _) (((own2.keep b45)).fls) hsmall
    rw [List.length_map, hlr2] at C28
    repeat ((conv => whnf); first | (refine VCmp.tt (by omega) ?_) | (refine VCmp.ff (by omega) ?_) | (refine VIn.mk (IntWalk.i64_in _ (by omega)) ?_) | (refine VIdx.mk _ rfl (by omega) ?_) | (refine VIdx.mk 0 rfl (by omega) ?_))
    try (conv => whnf)
    refine VCall.mk _ C28 ?_
    clear C28
    rintro _ w6 ⟨⟨U, cU, ws, rfl, hws, FW⟩, b56⟩
    refine ⟨_, rfl, ?_⟩
    have hwl : ws.length = rs.length := by have := congrArg List.length hws; simpa [hlr2] using this
    have z6 := b56.size
    have b15 : Below w1.heap.size w1 w5 := b14.trans (b45.mono (by omega))
    have b16 : Below w1.heap.size w1 w6 := b15.trans (b56.mono (by omega))
    have own6 := (own14.keep b45).keep b56
    -- into the book
    have hBlo : ∀ q ∈ fBlk B rs, w1.heap.size ≤ q ∧ q < w2.heap.size := own1.lo
    have hF2 : ∀ y ∈ (F1 ++ fBlk B rs) ++ (K ++ ltS { lx with m := ⟨L', cL', lx.m.P ++ [r']⟩ } lb), y ∈ F1 ++ (K ++ ltS { lx with m := ⟨L', cL', lx.m.P ++ [r']⟩ } lb) ∨ w1.heap.size ≤ y := fun y hy => by
      rcases List.mem_append.1 hy with hy | hy
      · rcases List.mem_append.1 hy with hy | hy
        · exact .inl (List.mem_append.2 (.inl hy))
        · exact .inr (hBlo y hy).1
      · exact .inl (List.mem_append.2 (.inr hy))
    have hi2 : ∀ y ∈ (F1 ++ fBlk B rs) ++ (K ++ ltS { lx with m := ⟨L', cL', lx.m.P ++ [r']⟩ } lb), y < w5.heap.size := fun y hy => by
      rcases List.mem_append.1 hy with hy | hy
      · rcases List.mem_append.1 hy with hy | hy
        · have := T2.hi y (List.mem_append.2 (.inl hy)); omega
        · have := (hBlo y hy).2; omega
      · have := T2.hi y (List.mem_append.2 (.inr hy)); omega
    have hd2 : ∀ q ∈ K ++ ltS { lx with m := ⟨L', cL', lx.m.P ++ [r']⟩ } lb, q ∉ F1 ++ fBlk B rs := fun q hq hm => by
      rcases List.mem_append.1 hm with hm | hm
      · exact T2.dk q hq hm
      · have := T2.hi q (List.mem_append.2 (.inr hq)); have := (hBlo q hm).1; omega
    have T6 : Tn w6 base hb (F1 ++ fBlk B rs) (K ++ ltS { lx with m := ⟨L', cL', lx.m.P ++ [r']⟩ } lb) x1 t1 := T2.more b16 hF2 (fun y hy => List.mem_append.2 (.inl hy)) (fun y hy => by have := hi2 y hy; omega) hd2
    have S6 : Two w6 ((F1 ++ fBlk B rs) ++ (K ++ ltS { lx with m := ⟨L', cL', lx.m.P ++ [r']⟩ } lb)) b g b' g' s := S2.ext b16 hF2 (fun y hy => (List.mem_append.1 hy).elim (fun e => List.mem_append.2 (.inl (List.mem_append.2 (.inl e)))) fun e => List.mem_append.2 (.inr e)) (fun y hy => by have := hi2 y hy; omega)
    have C84 := flushes84_any T6 Z1 (by omega) (own6.base (by have := T2.B.z; omega)) (fun q hq => by
      have hq := fBlk_iff.2 hq
      exact ⟨List.mem_append.2 (.inr hq), fun hm => by have := T2.hi q (List.mem_append.2 (.inl (T2.F1 q hm))); have := (hBlo q hq).1; omega⟩) (by omega) (fun r hr => hcs.2 r.f (by rw [← hrs]; exact List.mem_map.2 ⟨r, hr, rfl⟩)) (U := U) (cU := cU) (ws := ws) (wasF_of FW hi2) (by rw [hws, hrr])
    rw [hwl] at C84
    repeat ((conv => whnf); first | (refine VCmp.tt (by omega) ?_) | (refine VCmp.ff (by omega) ?_) | (refine VIn.mk (IntWalk.i64_in _ (by omega)) ?_) | (refine VIdx.mk _ rfl (by omega) ?_) | (refine VIdx.mk 0 rfl (by omega) ?_))
    try (conv => whnf)
    refine VCall.mk _ C84 ?_
    clear C84
    rintro _ w7 ⟨rfl, M7⟩
    refine ⟨_, rfl, ?_⟩
    obtain ⟨F3, x3, t3, f7, a7, b7, T7, Z7⟩ := M7.ex
    -- what holds behind it
    have hS7 : ∀ q ∈ (F1 ++ fBlk B rs).filter (fun q => decide (hb ≤ q)), q ∈ (F1 ++ fBlk B rs) ∧ hb ≤ q := fun q hq => ⟨(List.mem_filter.1 hq).1, by simpa using (List.mem_filter.1 hq).2⟩
    have hKF : ∀ y ∈ F3 ++ (K ++ ltS { lx with m := ⟨L', cL', lx.m.P ++ [r']⟩ } lb), y ∈ (F1 ++ fBlk B rs) ++ (K ++ ltS { lx with m := ⟨L', cL', lx.m.P ++ [r']⟩ } lb) ∨ w6.heap.size ≤ y := fun y hy => (List.mem_append.1 hy).elim (fun e => (b7 y e).imp (fun e => List.mem_append.2 (.inl e)) id) fun e => .inl (List.mem_append.2 (.inr e))
    have hF1N : ∀ q ∈ F1, q ∈ (F1 ++ fBlk B rs) := fun q hq => List.mem_append.2 (.inl hq)
    have S8 : Two w7 (F3 ++ (K ++ ltS { lx with m := ⟨L', cL', lx.m.P ++ [r']⟩ } lb)) b g b' g' s := S6.fxm f7 (fun q hq => by
      obtain ⟨h1, h2⟩ := hS7 q hq
      exact ⟨List.mem_append.2 (.inl h1), List.mem_append.2 (.inl (a7 q h1)), by omega, by omega, by omega, by omega⟩) hKF (List.mem_append.2 (.inl (a7 b (hF1N b (a1 b fb1))))) (List.mem_append.2 (.inl (a7 g (hF1N g (a1 g fb2))))) (List.mem_append.2 (.inl (a7 b' (hF1N b' (a1 b' fb3))))) (List.mem_append.2 (.inl (a7 g' (hF1N g' (a1 g' fb4))))) fun y hy => T7.hi y hy
    have L8 : Lt w7 (lb + 1) lb { lx with m := ⟨L', cL', lx.m.P ++ [r']⟩ } := (LT1.below b16).away f7 fun q hq hm => T6.dk q (List.mem_append.2 (.inr hm)) (hS7 q hq).1
    have k8 : ∀ q ∈ K ++ ltS { lx with m := ⟨L', cL', lx.m.P ++ [r']⟩ } lb, q = lb ∨ wB.heap.size ≤ q := fun q hq => (hKn q hq).elim (k1 q) fun e => .inr (by omega)
    have kk8 : ∀ q ∈ ltS { lx with m := ⟨L', cL', lx.m.P ++ [r']⟩ } lb, q ∈ K ++ ltS { lx with m := ⟨L', cL', lx.m.P ++ [r']⟩ } lb := fun q hq => List.mem_append.2 (.inr hq)
    have hQQ : ∀ q ∈ (F1 ++ fBlk B rs), q ∈ F1 ∨ w1.heap.size ≤ q := (fun q hq => (List.mem_append.1 hq).imp id fun e => (hBlo q e).1)
    have f8 : Fx (lb :: F.filter fun q => decide (hb ≤ q)) wB w7 := (((f1.trans (.below (S := []) (Below.refl wr.heap.size wr).drew) fun q hq => (by cases hq)).trans g1 fun q hq => (k1 q (kk q (hS0 q hq))).elim (fun e => .inl (by rw [e]; exact List.mem_cons_self ..)) .inr).trans (.below (S := []) b16) fun q hq => (by cases hq)).trans f7 fun q hq => by
      obtain ⟨h1, h2⟩ := hS7 q hq
      rcases hQQ q h1 with e | e
      · exact (b1 q e).elim (fun e => .inl (List.mem_cons_of_mem _ (List.mem_filter.2 ⟨e, by simpa using h2⟩))) .inr
      · exact .inr (by omega)
    have a8 : ∀ q ∈ F, q ∈ F3 := fun q hq => a7 q (hF1N q (a1 q hq))
    have b8 : ∀ q ∈ F3, q ∈ F ∨ wB.heap.size ≤ q := fun q hq => (b7 q hq).elim (fun e => (hQQ q e).elim (b1 q) fun e => .inr (by omega)) fun e => .inr (by omega)
    repeat ((conv => whnf); first | (refine VCmp.tt (by omega) ?_) | (refine VCmp.ff (by omega) ?_) | (refine VIn.mk (IntWalk.i64_in _ (by omega)) ?_) | (refine VIdx.mk _ rfl (by omega) ?_) | (refine VIdx.mk 0 rfl (by omega) ?_))
    try (conv => whnf)
    exact .mk (i + 1) ⟨rfl, rfl, rfl, rfl, rfl, rfl, trivial⟩ ⟨hil, ⟨F3, _, x3, t3, _, f8, a8, b8, k8, kk8, T7, Z7.mono (by omega), S8, L8, by show (lx.m.P ++ [r']).length ≤ _; rw [List.length_append]; show lx.m.P.length + 1 ≤ _; omega⟩⟩ (by omega)
end Go.Proofs.Ytcffhfcjfjfokaa
namespace Go.Proofs.Ytcffhfcjfjfokaa
open Go Go.RowKit
set_option maxRecDepth 100000 in
set_option maxHeartbeats 4000000 in
theorem held_messages {w : World} {base hb n N : Nat} {F : List Nat} {x : BX} {t : WX} {b g b' g' : Nat} {s : Sto} {o : Opx} (T : Tn w base hb F [] x t) (Z : Sz x t n) (hn : n ≤ 600000000) (S : Two w F b g b' g' s) (low : Low N hb b g b' g') (hN : N ≤ hb) (ho : OpAt w N o) (hk : o.kd = 6) :
    Calls Try.prog 46 #[.pointer (some ⟨hb, 0, none⟩), .pointer (some ⟨b, 0, none⟩), .pointer (some ⟨b', 0, none⟩), .agg (opA o)] w fun e w' => e = .returned (.bool true) ∧ Hp w base hb F b g b' g' (n + 3000000) w' := by
  have hz := T.B.hz
  have hbz := T.B.z
  obtain ⟨fb1, fb2, fb3, fb4⟩ := S.bF
  refine calls_vc tab_ok Try.func46 rfl ?_
  conv => whnf
  refine .mk fun wA hwA => ?_
  have hbA : Below w.heap.size w wA := by rw [hwA.out]; exact below_box1 _ _ _
  have zA : wA.heap.size = w.heap.size + 1 := by rw [hwA.out]; simp
  have oA : OpBx w.heap.size o wA := by rw [hwA.out]; exact range_new w (opA o) 95
  clear hwA
  repeat ((conv => whnf); first | (refine VCmp.tt (by omega) ?_) | (refine VCmp.ff (by omega) ?_) | (refine VIn.mk (IntWalk.i64_in _ (by omega)) ?_) | (refine VIdx.mk _ rfl (by omega) ?_) | (refine VIdx.mk 0 rfl (by omega) ?_))
  try (conv => whnf)
  refine VBuild.mk _ (fun W => bld147' W) ?_
  conv => whnf
  refine .mk fun wB hwB => ?_
  have L0 : Lt wB (wA.heap.size + 1) wA.heap.size ltx0 := by rw [hwB.out]; exact lt_new wA
  have bAB : Below wA.heap.size wA wB := by rw [hwB.out]; exact (Below.refl _ _).alloc (Nat.le_refl _) _
  have zB : wB.heap.size = wA.heap.size + 1 := by rw [hwB.out]; simp
  have oB : OpBx w.heap.size o wB := range_same oA (bAB.block _ (by omega))
  have bB : Below w.heap.size w wB := hbA.trans (bAB.mono (by omega))
  clear hwB oA hbA bAB
  generalize hlb : wA.heap.size = lb at *
  clear hlb
  have hFi : ∀ q ∈ F, q < w.heap.size := fun q hq => T.hi q (List.mem_append.2 (.inl hq))
  have hK0 : ∀ q ∈ ltS ltx0 lb, q = lb := fun q hq => by
    rcases ltS_iff.1 hq with e | e | e | e | e
    · exact e
    all_goals rcases e with e | ⟨r, hr, _⟩; cases e; cases hr
  have hlm : lb ∈ ltS ltx0 lb := ltS_iff.2 (.inl rfl)
  have TB : Tn wB base hb F (ltS ltx0 lb) x t := T.more bB (fun y hy => (List.mem_append.1 hy).elim (fun e => .inl (List.mem_append.2 (.inl e))) fun e => .inr (by have := hK0 y e; omega)) (fun y hy => hy) (fun y hy => (List.mem_append.1 hy).elim (fun e => by have := hFi y e; omega) fun e => by have := hK0 y e; omega) (fun q hq hm => by have := hK0 q hq; have := hFi q hm; omega)
  have SB : Two wB (F ++ ltS ltx0 lb) b g b' g' s := S.ext bB (fun y hy => (List.mem_append.1 hy).elim .inl fun e => .inr (by have := hK0 y e; omega)) (fun y hy => List.mem_append.2 (.inl hy)) (fun y hy => (List.mem_append.1 hy).elim (fun e => by have := hFi y e; omega) fun e => by have := hK0 y e; omega)
  have H0 : Hs wB base hb lb F b g b' g' s n wB := ⟨F, _, x, t, ltx0, Fx.refl _ _, fun q hq => hq, fun q hq => .inl hq, fun q hq => .inl (hK0 q hq), fun q hq => hq, TB, Z, SB, L0, Nat.zero_le _⟩
  have Lk : Ld Try.prog 3 w.heap.size 0 (Eq wB) (.int .i64 o.kd) := .of (load3 (oB 0 _ rfl))
  have Kp : Ld Try.prog 35 w.heap.size 10 (OpBx w.heap.size o) (.agg #[.int .i64 o.e, .int .i64 o.l, .int .i64 o.i, .int .i64 o.c]) := ⟨fun W hW => load35 (range_sub (n := 4) hW 10 rfl)⟩
  have Kw : Ld Try.prog 93 w.heap.size 14 (OpBx w.heap.size o) (.slice o.wA o.who.length o.wc) := ⟨fun W hW => load_cell (by kernel_rfl) (hW 14 _ rfl)⟩
  have Km : Ld Try.prog 40 w.heap.size 15 (OpBx w.heap.size o) (.slice o.mA o.ms.length o.mc) := ⟨fun W hW => load_cell (by kernel_rfl) (hW 15 _ rfl)⟩
  have hs3 := ho.s3
  obtain ⟨⟨n1, n2, n3, n4⟩, m1, m2, m3, m4⟩ := low
  repeat ((conv => whnf); first | (refine VLoad.mk _ Lk ?_) | (refine VCmp.tt (by omega) ?_) | (refine VCmp.ff (by omega) ?_) | (refine VIn.mk (IntWalk.i64_in _ (by omega)) ?_) | (refine VIdx.mk _ rfl (by omega) ?_) | (refine VIdx.mk 0 rfl (by omega) ?_))
  try (conv => whnf)
  refine VLoop.mk Nat (fun i => [(0, .pointer (some ⟨hb, 0, none⟩)), (1, .pointer (some ⟨b, 0, none⟩)), (2, .pointer (some ⟨b', 0, none⟩)), (7, .pointer (some ⟨w.heap.size, 0, none⟩)), (9, .pointer (some ⟨lb, 0, none⟩)), (18, .int .i64 i)]) (fun i W => i ≤ 2 ∧ Hs wB base hb lb F b g b' g' s (n + 1200000 * i) W) (fun i => 2 - i) 0 ⟨rfl, rfl, rfl, rfl, rfl, rfl, trivial⟩ ⟨Nat.zero_le _, H0⟩ ?_
  clear H0
  rintro i wr ⟨hi, H⟩
  obtain ⟨F1, K, x1, t1, lx, f1, a1, b1, k1, kk, T1, Z1, S1, L1, mp⟩ := H.ex
  have zr := f1.size
  have hS1 : ∀ q ∈ lb :: F.filter (fun q => decide (hb ≤ q)), hb ≤ q := fun q hq => by
    rcases List.mem_cons.1 hq with rfl | hq
    · omega
    · simpa using (List.mem_filter.1 hq).2
  have br : Below hb wB wr := f1.to hS1 (by omega)
  have oR : OpBx w.heap.size o wr := range_same oB (f1.block _ (by omega) fun hm => by
    rcases List.mem_cons.1 hm with e | hm
    · omega
    · have := hFi _ (List.mem_filter.1 hm).1; omega)
  have hoR : ∀ W, Below hb wB W → OpAt W N o := fun W hW => (ho.below bB (by omega)).below hW hN
  by_cases hil : i < 2
  case neg =>
    have hie : i = 2 := by omega
    subst hie
    -- the end
    repeat ((conv => whnf); first | (refine VCmp.tt (by omega) ?_) | (refine VCmp.ff (by omega) ?_) | (refine VIn.mk (IntWalk.i64_in _ (by omega)) ?_) | (refine VIdx.mk _ rfl (by omega) ?_) | (refine VIdx.mk 0 rfl (by omega) ?_))
    try (conv => whnf)
    refine VCall.mk _ (kept_any L1) ?_
    rintro _ wz ⟨rfl, bz⟩
    refine ⟨_, rfl, ?_⟩
    have fz : Fx (lb :: F.filter fun q => decide (hb ≤ q)) wB wz := f1.trans (.below (S := []) bz) fun q hq => (by cases hq)
    have hFK : ∀ y ∈ F1, y ∈ F1 ++ K := fun y hy => List.mem_append.2 (.inl hy)
    obtain ⟨c1, c2, c3, c4⟩ := S.bF
    have Tz : Tn wz base hb F1 [] x1 t1 := T1.more bz (fun y hy => (List.mem_append.1 hy).elim (fun e => .inl (hFK y e)) fun e => (by cases e)) (fun y hy => hy) (fun y hy => (List.mem_append.1 hy).elim (fun e => Nat.lt_of_lt_of_le (T1.hi y (hFK y e)) bz.size) fun e => (by cases e)) (fun q hq => (by cases hq))
    have Sz' := (S1.below bz).less hFK (a1 b c1) (a1 g c2) (a1 b' c3) (a1 g' c4)
    have hw := bB.size
    repeat ((conv => whnf); first | (refine VCmp.tt (by omega) ?_) | (refine VCmp.ff (by omega) ?_) | (refine VIn.mk (IntWalk.i64_in _ (by omega)) ?_) | (refine VIdx.mk _ rfl (by omega) ?_) | (refine VIdx.mk 0 rfl (by omega) ?_))
    try (conv => whnf)
    exact .mk ⟨rfl, ⟨F1, x1, t1, s, (Fx.below (S := b :: g :: b' :: g' :: F.filter fun q => decide (hb ≤ q)) bB).trans fz fun q hq => (List.mem_cons.1 hq).elim (fun e => .inr (by omega)) fun e => .inl (by simp only [List.mem_cons]; exact .inr (.inr (.inr (.inr e)))), a1, fun q hq => (b1 q hq).imp id fun e => by omega, Tz, Z1.mono (by omega), Sz'⟩⟩
  case pos =>
    -- Messages
    obtain ⟨k1_, Mp, cM, ms, P1⟩ := S1.p
    have hms := P1.mm
    have hlm' := P1.lenM
    have hsm : SmallD s.msgs := ⟨by have := P1.inv.lenM; omega, fun d hd => by
      have := P1.inv.each d hd
      unfold dtB at this
      simp at this
      omega⟩
    repeat ((conv => whnf); first | (refine VCmp.tt (by omega) ?_) | (refine VCmp.ff (by omega) ?_) | (refine VIn.mk (IntWalk.i64_in _ (by omega)) ?_) | (refine VIdx.mk _ rfl (by omega) ?_) | (refine VIdx.mk 0 rfl (by omega) ?_))
    try (conv => whnf)
    refine VCall.mk _ (messages_own P1) ?_
    rintro _ w1 ⟨⟨B, cB, rs, rfl, hrs, O1⟩, b01⟩
    refine ⟨_, rfl, ?_⟩
    have z1 := b01.size
    have hrl : rs.length = ms.length := by have := congrArg List.length hrs; simpa using this
    obtain ⟨l1_, l2_, l3_, l4_, D1⟩ := (S1.below b01).d
    repeat ((conv => whnf); first | (refine VCmp.tt (by omega) ?_) | (refine VCmp.ff (by omega) ?_) | (refine VIn.mk (IntWalk.i64_in _ (by omega)) ?_) | (refine VIdx.mk _ rfl (by omega) ?_) | (refine VIdx.mk 0 rfl (by omega) ?_))
    try (conv => whnf)
    refine VCall.mk _ (rmessages_any D1) ?_
    rintro _ w2 ⟨B2, c2, rs2, rfl, hrs2, own2, b12⟩
    refine ⟨_, rfl, ?_⟩
    have z2 := b12.size
    have hl2 : rs2.length = ms.length := by have := congrArg List.length (hrs2.trans hms.symm); simpa using this
    have C18 := datas_w B2 c2 w2.heap.size rs2 w2 (Nat.le_refl _) ⟨own2.own.row len_eDr, fun r hr => ⟨(own2.far r hr).2.row, (own2.far r hr).1.1, (own2.far r hr).1.2⟩⟩ (by rw [hrs2]; exact hsm)
    rw [hl2] at C18
    have hsl : s.msgs.length = ms.length := by rw [← hms, List.length_map]
    rw [hsl]
    repeat ((conv => whnf); first | (refine VCmp.tt (by omega) ?_) | (refine VCmp.ff (by omega) ?_) | (refine VIn.mk (IntWalk.i64_in _ (by omega)) ?_) | (refine VIdx.mk _ rfl (by omega) ?_) | (refine VIdx.mk 0 rfl (by omega) ?_))
    try (conv => whnf)
    refine VCall.mk _ C18 ?_
    clear C18
    rintro _ w3 ⟨⟨U, cU, ws, rfl, hws, MW⟩, b23⟩
    refine ⟨_, rfl, ?_⟩
    have z3 := b23.size
    have hwl : ws.length = rs.length := by have := congrArg List.length hws; rw [List.length_map, List.length_map] at this; omega
    have O3 := (O1.below b12).below b23
    have C22 := sameDatas_yes B U cB cU w3.heap.size (rs.map Dr.d) w3 (Nat.le_refl _) O3.dts (by have := MW.dts; rw [hws, hrs2, ← hms, ← hrs] at this; exact this) (by rw [List.length_map]; omega)
    rw [List.length_map, hrl] at C22
    repeat ((conv => whnf); first | (refine VCmp.tt (by omega) ?_) | (refine VCmp.ff (by omega) ?_) | (refine VIn.mk (IntWalk.i64_in _ (by omega)) ?_) | (refine VIdx.mk _ rfl (by omega) ?_) | (refine VIdx.mk 0 rfl (by omega) ?_))
    try (conv => whnf)
    refine VCall.mk _ C22 ?_
    clear C22
    rintro _ w6 ⟨rfl, b36⟩
    refine ⟨_, rfl, ?_⟩
    have z6 := b36.size
    have b16 : Below wr.heap.size wr w6 := b01.trans ((b12.trans ((b23.trans (b36.mono z3)).mono z2)).mono z1)
    have O6 := O3.below b36
    -- into the book
    have hBlo : ∀ q ∈ dBlk B rs, wr.heap.size ≤ q ∧ q < w1.heap.size := O1.lo
    have hF2 : ∀ y ∈ (F1 ++ dBlk B rs) ++ K, y ∈ F1 ++ K ∨ wr.heap.size ≤ y := fun y hy => by
      rcases List.mem_append.1 hy with hy | hy
      · rcases List.mem_append.1 hy with hy | hy
        · exact .inl (List.mem_append.2 (.inl hy))
        · exact .inr (hBlo y hy).1
      · exact .inl (List.mem_append.2 (.inr hy))
    have hi2 : ∀ y ∈ (F1 ++ dBlk B rs) ++ K, y < w2.heap.size := fun y hy => by
      rcases List.mem_append.1 hy with hy | hy
      · rcases List.mem_append.1 hy with hy | hy
        · have := T1.hi y (List.mem_append.2 (.inl hy)); omega
        · have := (hBlo y hy).2; omega
      · have := T1.hi y (List.mem_append.2 (.inr hy)); omega
    have hd2 : ∀ q ∈ K, q ∉ F1 ++ dBlk B rs := fun q hq hm => by
      rcases List.mem_append.1 hm with hm | hm
      · exact T1.dk q hq hm
      · have := T1.hi q (List.mem_append.2 (.inr hq)); have := (hBlo q hm).1; omega
    have T6 : Tn w6 base hb (F1 ++ dBlk B rs) K x1 t1 := T1.more b16 hF2 (fun y hy => List.mem_append.2 (.inl hy)) (fun y hy => by have := hi2 y hy; omega) hd2
    have S6 : Two w6 ((F1 ++ dBlk B rs) ++ K) b g b' g' s := S1.ext b16 hF2 (fun y hy => (List.mem_append.1 hy).elim (fun e => List.mem_append.2 (.inl (List.mem_append.2 (.inl e)))) fun e => List.mem_append.2 (.inr e)) (fun y hy => by have := hi2 y hy; omega)
    have C85 := datas85_any T6 Z1 (by omega) (O6.base (by have := T1.B.z; omega)) (fun q hq => by
      have hq := dBlk_iff.2 hq
      exact ⟨List.mem_append.2 (.inr hq), fun hm => by have := T1.hi q (List.mem_append.2 (.inl (T1.F1 q hm))); have := (hBlo q hq).1; omega⟩) (by omega) (fun r hr => by
      have hd : r.d ∈ s.msgs := by rw [← hms, ← hrs]; exact List.mem_map.2 ⟨r, hr, rfl⟩
      exact hsm.2 r.d hd) (U := U) (cU := cU) (ws := ws) (wasD_of (MW.below b36) hi2) (by rw [hws, hrs2, hrs, hms])
    rw [hwl, hrl] at C85
    repeat ((conv => whnf); first | (refine VCmp.tt (by omega) ?_) | (refine VCmp.ff (by omega) ?_) | (refine VIn.mk (IntWalk.i64_in _ (by omega)) ?_) | (refine VIdx.mk _ rfl (by omega) ?_) | (refine VIdx.mk 0 rfl (by omega) ?_))
    try (conv => whnf)
    refine VCall.mk _ C85 ?_
    clear C85
    rintro _ w7 ⟨rfl, M7⟩
    refine ⟨_, rfl, ?_⟩
    obtain ⟨F3, x3, t3, f7, a7, b7, T7, Z7⟩ := M7.ex
    -- what holds behind it
    have hS7 : ∀ q ∈ (F1 ++ dBlk B rs).filter (fun q => decide (hb ≤ q)), q ∈ (F1 ++ dBlk B rs) ∧ hb ≤ q := fun q hq => ⟨(List.mem_filter.1 hq).1, by simpa using (List.mem_filter.1 hq).2⟩
    have hKF : ∀ y ∈ F3 ++ K, y ∈ (F1 ++ dBlk B rs) ++ K ∨ w6.heap.size ≤ y := fun y hy => (List.mem_append.1 hy).elim (fun e => (b7 y e).imp (fun e => List.mem_append.2 (.inl e)) id) fun e => .inl (List.mem_append.2 (.inr e))
    have hF1N : ∀ q ∈ F1, q ∈ (F1 ++ dBlk B rs) := fun q hq => List.mem_append.2 (.inl hq)
    have S8 : Two w7 (F3 ++ K) b g b' g' s := S6.fxm f7 (fun q hq => by
      obtain ⟨h1, h2⟩ := hS7 q hq
      exact ⟨List.mem_append.2 (.inl h1), List.mem_append.2 (.inl (a7 q h1)), by omega, by omega, by omega, by omega⟩) hKF (List.mem_append.2 (.inl (a7 b (hF1N b (a1 b fb1))))) (List.mem_append.2 (.inl (a7 g (hF1N g (a1 g fb2))))) (List.mem_append.2 (.inl (a7 b' (hF1N b' (a1 b' fb3))))) (List.mem_append.2 (.inl (a7 g' (hF1N g' (a1 g' fb4))))) fun y hy => T7.hi y hy
    have L8 : Lt w7 (lb + 1) lb lx := (L1.below b16).away f7 fun q hq hm => T6.dk q (kk q hm) (hS7 q hq).1
    have hQQ : ∀ q ∈ (F1 ++ dBlk B rs), q ∈ F1 ∨ wr.heap.size ≤ q := (fun q hq => (List.mem_append.1 hq).imp id fun e => (hBlo q e).1)
    have f8 : Fx (lb :: F.filter fun q => decide (hb ≤ q)) wB w7 := (f1.trans (.below (S := []) b16) fun q hq => (by cases hq)).trans f7 fun q hq => by
      obtain ⟨h1, h2⟩ := hS7 q hq
      rcases hQQ q h1 with e | e
      · exact (b1 q e).elim (fun e => .inl (List.mem_cons_of_mem _ (List.mem_filter.2 ⟨e, by simpa using h2⟩))) .inr
      · exact .inr (by omega)
    have a8 : ∀ q ∈ F, q ∈ F3 := fun q hq => a7 q (hF1N q (a1 q hq))
    have b8 : ∀ q ∈ F3, q ∈ F ∨ wB.heap.size ≤ q := fun q hq => (b7 q hq).elim (fun e => (hQQ q e).elim (b1 q) fun e => .inr (by omega)) fun e => .inr (by omega)
    repeat ((conv => whnf); first | (refine VCmp.tt (by omega) ?_) | (refine VCmp.ff (by omega) ?_) | (refine VIn.mk (IntWalk.i64_in _ (by omega)) ?_) | (refine VIdx.mk _ rfl (by omega) ?_) | (refine VIdx.mk 0 rfl (by omega) ?_))
    try (conv => whnf)
    exact .mk (i + 1) ⟨rfl, rfl, rfl, rfl, rfl, rfl, trivial⟩ ⟨hil, ⟨F3, K, x3, t3, lx, f8, a8, b8, k1, kk, T7, Z7.mono (by omega), S8, L8, by omega⟩⟩ (by omega)
end Go.Proofs.Ytcffhfcjfjfokaa
namespace Go.Proofs.Ytcffhfcjfjfokaa
open Go Go.RowKit
theorem Lt.drs {W : World} {base lb c : Nat} {lx : LtX} {rd : RowX Dr} {R : List (RowX Int)} {al m : List Dr} {A : Option Addr} (h : Lt W base lb lx) (hd : rd ∈ lx.d.P) (hR : ∀ r ∈ R, r ∈ lx.y.P) (eA : rd.A = A) (ec : rd.c = c) (el : rd.l = al ++ m) (hh : ∀ a ∈ al, Hd R a) : Drs W W.heap.size A al := by
  have ho := h.d.o rd hd
  rw [eA, el] at ho
  refine ⟨row_front (ho.row len_eDr), fun a ha => ?_⟩
  obtain ⟨s, hs, e1, e2, t, e3⟩ := hh a ha
  have hos := h.y.o s (hR s hs)
  rw [e1, e2, e3] at hos
  have hlen := hos.len
  rw [List.length_append] at hlen
  exact ⟨row_front (hos.row len_eByte), by omega, hlen.2⟩
set_option maxRecDepth 100000 in
set_option maxHeartbeats 4000000 in
theorem held_add {w : World} {base hb n N : Nat} {F : List Nat} {x : BX} {t : WX} {b g b' g' : Nat} {s : Sto} {o : Opx} (T : Tn w base hb F [] x t) (Z : Sz x t n) (S : Two w F b g b' g' s) (low : Low N hb b g b' g') (hN : N ≤ hb) (ho : OpAt w N o) (hk : o.kd = 5) :
    Calls Try.prog 46 #[.pointer (some ⟨hb, 0, none⟩), .pointer (some ⟨b, 0, none⟩), .pointer (some ⟨b', 0, none⟩), .agg (opA o)] w fun e w' => e = .returned (.bool true) ∧ Hp w base hb F b g b' g' (n + 3000000) w' := by
  have hz := T.B.hz
  have hbz := T.B.z
  obtain ⟨fb1, fb2, fb3, fb4⟩ := S.bF
  refine calls_vc tab_ok Try.func46 rfl ?_
  conv => whnf
  refine .mk fun wA hwA => ?_
  have hbA : Below w.heap.size w wA := by rw [hwA.out]; exact below_box1 _ _ _
  have zA : wA.heap.size = w.heap.size + 1 := by rw [hwA.out]; simp
  have oA : OpBx w.heap.size o wA := by rw [hwA.out]; exact range_new w (opA o) 95
  clear hwA
  repeat ((conv => whnf); first | (refine VCmp.tt (by omega) ?_) | (refine VCmp.ff (by omega) ?_) | (refine VIn.mk (IntWalk.i64_in _ (by omega)) ?_) | (refine VIdx.mk _ rfl (by omega) ?_) | (refine VIdx.mk 0 rfl (by omega) ?_))
  try (conv => whnf)
  refine VBuild.mk _ (fun W => bld147' W) ?_
  conv => whnf
  refine .mk fun wB hwB => ?_
  have L0 : Lt wB (wA.heap.size + 1) wA.heap.size ltx0 := by rw [hwB.out]; exact lt_new wA
  have bAB : Below wA.heap.size wA wB := by rw [hwB.out]; exact (Below.refl _ _).alloc (Nat.le_refl _) _
  have zB : wB.heap.size = wA.heap.size + 1 := by rw [hwB.out]; simp
  have oB : OpBx w.heap.size o wB := range_same oA (bAB.block _ (by omega))
  have bB : Below w.heap.size w wB := hbA.trans (bAB.mono (by omega))
  clear hwB oA hbA bAB
  generalize hlb : wA.heap.size = lb at *
  clear hlb
  have hFi : ∀ q ∈ F, q < w.heap.size := fun q hq => T.hi q (List.mem_append.2 (.inl hq))
  have hK0 : ∀ q ∈ ltS ltx0 lb, q = lb := fun q hq => by
    rcases ltS_iff.1 hq with e | e | e | e | e
    · exact e
    all_goals rcases e with e | ⟨r, hr, _⟩; cases e; cases hr
  have hlm : lb ∈ ltS ltx0 lb := ltS_iff.2 (.inl rfl)
  have TB : Tn wB base hb F (ltS ltx0 lb) x t := T.more bB (fun y hy => (List.mem_append.1 hy).elim (fun e => .inl (List.mem_append.2 (.inl e))) fun e => .inr (by have := hK0 y e; omega)) (fun y hy => hy) (fun y hy => (List.mem_append.1 hy).elim (fun e => by have := hFi y e; omega) fun e => by have := hK0 y e; omega) (fun q hq hm => by have := hK0 q hq; have := hFi q hm; omega)
  have SB : Two wB (F ++ ltS ltx0 lb) b g b' g' s := S.ext bB (fun y hy => (List.mem_append.1 hy).elim .inl fun e => .inr (by have := hK0 y e; omega)) (fun y hy => List.mem_append.2 (.inl hy)) (fun y hy => (List.mem_append.1 hy).elim (fun e => by have := hFi y e; omega) fun e => by have := hK0 y e; omega)
  have H0 : Hs wB base hb lb F b g b' g' s n wB := ⟨F, _, x, t, ltx0, Fx.refl _ _, fun q hq => hq, fun q hq => .inl hq, fun q hq => .inl (hK0 q hq), fun q hq => hq, TB, Z, SB, L0, Nat.zero_le _⟩
  have Lk : Ld Try.prog 3 w.heap.size 0 (Eq wB) (.int .i64 o.kd) := .of (load3 (oB 0 _ rfl))
  have Kp : Ld Try.prog 35 w.heap.size 10 (OpBx w.heap.size o) (.agg #[.int .i64 o.e, .int .i64 o.l, .int .i64 o.i, .int .i64 o.c]) := ⟨fun W hW => load35 (range_sub (n := 4) hW 10 rfl)⟩
  have Kw : Ld Try.prog 93 w.heap.size 14 (OpBx w.heap.size o) (.slice o.wA o.who.length o.wc) := ⟨fun W hW => load_cell (by kernel_rfl) (hW 14 _ rfl)⟩
  have Km : Ld Try.prog 40 w.heap.size 15 (OpBx w.heap.size o) (.slice o.mA o.ms.length o.mc) := ⟨fun W hW => load_cell (by kernel_rfl) (hW 15 _ rfl)⟩
  have hs3 := ho.s3
  obtain ⟨⟨n1, n2, n3, n4⟩, m1, m2, m3, m4⟩ := low
  have hoB : ∀ W, Below N wB W → OpAt W N o := fun W hW => (ho.below bB (by omega)).below hW (Nat.le_refl _)
  have hml : o.ms.length ≤ 1048576 := by have := ho.s4.1; rwa [List.length_map] at this
  repeat ((conv => whnf); first | (refine VLoad.mk _ Lk ?_) | (refine VLoad.mk _ (Km.at oB) ?_) | (refine VCmp.tt (by omega) ?_) | (refine VCmp.ff (by omega) ?_) | (refine VIn.mk (IntWalk.i64_in _ (by omega)) ?_) | (refine VIdx.mk _ rfl (by omega) ?_) | (refine VIdx.mk 0 rfl (by omega) ?_))
  try (conv => whnf)
  refine VCall.mk _ (lentDatas_any (N := N) L0 (by show 0 ≤ _; omega) (by show 0 ≤ _; omega) (by omega) (hoB wB (Below.refl _ _)).ms ho.s4) ?_
  rintro _ w1 ⟨f01, b01, A1, c1, Ly, cLy, R, Ld_, cLd, rd, rfl, LT1, _, hR, hny, hnd, al, m, eA, ec, el, hal, hhd⟩
  refine ⟨_, rfl, ?_⟩
  have z1 := b01.size
  have hall : al.length = o.ms.length := by have := congrArg List.length hal; simpa using this
  obtain ⟨lx, hlx⟩ : ∃ lx : LtX, lx = { ltx0 with y := ⟨Ly, cLy, ltx0.y.P ++ R⟩, d := ⟨Ld_, cLd, ltx0.d.P ++ [rd]⟩ } := ⟨_, rfl⟩
  rw [← hlx] at LT1
  have hrd : rd ∈ lx.d.P := by rw [hlx]; exact List.mem_append.2 (.inr (List.mem_singleton.2 rfl))
  have hRy : ∀ r ∈ R, r ∈ lx.y.P := fun r hr => by rw [hlx]; exact List.mem_append.2 (.inr hr)
  have hKn : ∀ q ∈ ltS lx lb, q = lb ∨ wB.heap.size ≤ q := fun q hq => by
    rw [hlx] at hq
    rcases ltS_iff.1 hq with e | e | e | e | e
    · exact .inl e
    · rcases e with e | ⟨r, hr, _⟩
      · cases e
      · cases hr
    · refine (hny q e).imp (fun e => ?_) id
      rcases e with e | ⟨r, hr, _⟩
      · cases e
      · cases hr
    · rcases e with e | ⟨r, hr, _⟩
      · cases e
      · cases hr
    · refine (hnd q e).imp (fun e => ?_) id
      rcases e with e | ⟨r, hr, _⟩
      · cases e
      · cases hr
  have f01 : Fx [lb] wB w1 := f01
  have hS0 : ∀ q ∈ [lb], q ∈ ltS ltx0 lb := fun q hq => by obtain rfl := List.mem_singleton.1 hq; exact hlm
  have hlb : ∀ q ∈ [lb], q ∈ ltS lx lb := fun q hq => by obtain rfl := List.mem_singleton.1 hq; exact ltS_iff.2 (.inl rfl)
  have hKK : ∀ y ∈ ltS lx lb, y ∈ ltS ltx0 lb ∨ wB.heap.size ≤ y := fun y hy => (hKn y hy).imp (fun e => by rw [e]; exact hlm) id
  have T1 : Tn w1 base hb F (ltS lx lb) x t := TB.lend f01 hS0 hKK hlb fun y hy => (LT1.hi y hy).2
  have S1 : Two w1 (F ++ ltS lx lb) b g b' g' s := SB.fxm f01 (fun q hq => by
    have h1 := hS0 q hq
    obtain rfl := List.mem_singleton.1 hq
    exact ⟨List.mem_append.2 (.inr h1), List.mem_append.2 (.inr (hlb _ (List.mem_singleton.2 rfl))), by omega, by omega, by omega, by omega⟩) (fun y hy => (List.mem_append.1 hy).elim (fun e => .inl (List.mem_append.2 (.inl e))) fun e => (hKK y e).imp (fun e => List.mem_append.2 (.inr e)) id) (List.mem_append.2 (.inl fb1)) (List.mem_append.2 (.inl fb2)) (List.mem_append.2 (.inl fb3)) (List.mem_append.2 (.inl fb4)) fun y hy => T1.hi y hy
  have hO1 : OpBx w.heap.size o w1 := range_same oB (b01.block _ (by omega))
  have h := S1
  obtain ⟨k1_, k2_, k3_, k4_, P1⟩ := S1.p
  obtain ⟨l1_, l2_, l3_, l4_, D1⟩ := S1.d
  obtain ⟨bg, q1, q2⟩ := S1.pb
  have hdr := LT1.drs hrd hRy eA ec el hhd
  repeat ((conv => whnf); first | (refine VLoad.mk _ (Kp.at hO1) ?_) | (refine VCmp.tt (by omega) ?_) | (refine VCmp.ff (by omega) ?_) | (refine VIn.mk (IntWalk.i64_in _ (by omega)) ?_) | (refine VIdx.mk _ rfl (by omega) ?_) | (refine VIdx.mk 0 rfl (by omega) ?_))
  try (conv => whnf)
  refine VBuild.mk _ (fun W => build157 W o.e o.l o.i o.c A1 _ c1) ?_
  rw [← hall]
  repeat ((conv => whnf); first | (refine VCmp.tt (by omega) ?_) | (refine VCmp.ff (by omega) ?_) | (refine VIn.mk (IntWalk.i64_in _ (by omega)) ?_) | (refine VIdx.mk _ rfl (by omega) ?_) | (refine VIdx.mk 0 rfl (by omega) ?_))
  try (conv => whnf)
  refine VCall.mk _ (add_any P1 bg q1 q2 o.e o.l o.i o.c al A1 c1 w1.heap.size (Nat.le_refl _) hdr) ?_
  rw [hal]
  rintro _ x2 ⟨rfl, hP2, g2, hc2⟩
  refine ⟨_, rfl, ?_⟩
  obtain ⟨hve, hsn⟩ := addS_same s o.e o.l o.i o.c (o.ms.map Dr.d)
  have z2 := g2.size
  have hbw := h.hi b (List.mem_append.2 (.inl fb1))
  have hbw' := h.hi b' (List.mem_append.2 (.inl fb3))
  have e2 : ∀ q, q < w1.heap.size → q ≠ b → x2.heap[q]? = w1.heap[q]? := fun q h1 h2 => g2.block q h1 (by intro e; injection e with e; exact h2 e)
  have D2 := D1.spoil P1.bF h.n1 h.n2 g2
  have r2 : OpBx w.heap.size o x2 := range_same hO1 (e2 _ (by omega) (by omega))
  have b2N : Below N wB x2 := (b01.mono (by omega)).grown g2 (by omega) (by intro q hq; injection hq with hq; omega)
  have f12 : Fx [b] w1 x2 := .grown g2 fun q hq => by injection hq with hq; subst hq; exact List.mem_singleton.2 rfl
  have LT2 : Lt x2 (lb + 1) lb lx := LT1.away f12 fun q hq hm => by obtain rfl := List.mem_singleton.1 hq; have := (LT1.hi _ hm).1; omega
  have T2 : Tn x2 base hb F (ltS lx lb) x t := T1.far f12 fun q hq => by obtain rfl := List.mem_singleton.1 hq; exact ⟨fb1, m1⟩
  have r2d : OpBx w.heap.size o x2.drew := range_same r2 rfl
  have op2 : OpAt x2.drew N o := hoB _ (b2N.drew)
  repeat ((conv => whnf); first | (refine VCmp.tt (by omega) ?_) | (refine VCmp.ff (by omega) ?_) | (refine VIn.mk (IntWalk.i64_in _ (by omega)) ?_) | (refine VIdx.mk _ rfl (by omega) ?_) | (refine VIdx.mk 0 rfl (by omega) ?_))
  try (conv => whnf)
  refine VDraw.mk 1000 [([0, 1, 2, 3, 4], 5), ([6], 7)] [8] (OpBx w.heap.size o) (by kernel_rfl) (by kernel_rfl) (r2d) ?_
  repeat ((conv => whnf); first | (refine VLoad.mk _ Kp ?_) | (refine VLoad.mk _ Km ?_) | (refine VCmp.tt (by omega) ?_) | (refine VCmp.ff (by omega) ?_) | (refine VIn.mk (IntWalk.i64_in _ (by omega)) ?_) | (refine VIdx.mk _ rfl (by omega) ?_) | (refine VIdx.mk 0 rfl (by omega) ?_))
  try (conv => whnf)
  refine VCall.mk _ (datas_w o.mA o.mc N o.ms x2.drew (by show N ≤ x2.heap.size; omega) op2.ms ho.s4) ?_
  rintro _ x3 ⟨⟨B3, c3, rs3, rfl, hrs3, hown3⟩, b3⟩
  refine ⟨_, rfl, ?_⟩
  have c23 : Below x2.heap.size x2 x3 := ((Below.refl _ _).drew).trans b3
  have r3 : OpBx w.heap.size o x3 := range_same r2 (c23.block _ (by omega))
  have hlen3 : rs3.length = o.ms.length := by rw [← List.length_map (f := Dr.d), hrs3, List.length_map]
  have z3 := c23.size
  repeat ((conv => whnf); first | (refine VS.mk r3 ?_) | (refine VCmp.tt (by omega) ?_) | (refine VCmp.ff (by omega) ?_) | (refine VIn.mk (IntWalk.i64_in _ (by omega)) ?_) | (refine VIdx.mk _ rfl (by omega) ?_) | (refine VIdx.mk 0 rfl (by omega) ?_))
  try (conv => whnf)
  refine VBuild.mk _ (fun W => build157 W o.e o.l o.i o.c B3 _ c3) ?_
  rw [hall, ← hlen3]
  repeat ((conv => whnf); first | (refine VCmp.tt (by omega) ?_) | (refine VCmp.ff (by omega) ?_) | (refine VIn.mk (IntWalk.i64_in _ (by omega)) ?_) | (refine VIdx.mk _ rfl (by omega) ?_) | (refine VIdx.mk 0 rfl (by omega) ?_))
  try (conv => whnf)
  have D3 := D2.below c23
  have hd3 : x3.cell? ⟨b', 0, none⟩ = some (.int .i64 s.n) := by
    rw [World.cell?_of_block (a := ⟨b', 0, none⟩) ((c23.block b' (by omega)).trans (e2 b' (by omega) h.n1.symm))]; exact h.dn
  refine VCall.mk _ (radd_any D3 hd3 o.e o.l o.i o.c rs3 B3 c3 x3.heap.size (Nat.le_refl _) hown3.drs) ?_
  rw [hrs3]
  rintro _ x4 ⟨rfl, hD4, g4, hc4⟩
  refine ⟨_, rfl, ?_⟩
  have z4 := g4.size
  have e4 : ∀ q, q < x3.heap.size → q ≠ b' → x4.heap[q]? = x3.heap[q]? := fun q h1 h2 => g4.block q h1 (by intro e; injection e with e; exact h2 e)
  have e42 : ∀ q, q < x2.heap.size → q ≠ b' → x4.heap[q]? = x2.heap[q]? := fun q h1 h2 => (e4 q (by omega) h2).trans (c23.block q h1)
  have r4 : OpBx w.heap.size o x4 := range_same r3 (e4 _ (by omega) (by omega))
  have f34 : Fx [b'] x3 x4 := .grown g4 fun q hq => by injection hq with hq; subst hq; exact List.mem_singleton.2 rfl
  have LT4 : Lt x4 (lb + 1) lb lx := (LT2.below c23).away f34 fun q hq hm => by obtain rfl := List.mem_singleton.1 hq; have := (LT1.hi _ hm).1; omega
  have T4 : Tn x4 base hb F (ltS lx lb) x t := (T2.below c23).far f34 fun q hq => by obtain rfl := List.mem_singleton.1 hq; exact ⟨fb3, m3⟩
  have b4N : Below N wB x4 := (b2N.trans (c23.mono (by omega))).grown g4 (by omega) (by intro q hq; injection hq with hq; omega)
  have S4 : Two x4 (F ++ ltS lx lb) b g b' g' (s.addS o.e o.l o.i o.c (o.ms.map Dr.d)).2 := by
    obtain ⟨_, _, _, P2⟩ := hP2
    obtain ⟨_, _, _, D4⟩ := hD4
    have P4 := (P2.below c23).spoil D3.bF (by intro e; exact h.n1 e.symm) (by intro e; exact h.n3 e.symm) g4
    refine ⟨⟨_, _, _, _, P4⟩, ⟨_, _, _, _, D4⟩, ⟨bg, ?_, by rw [hve]; exact q2⟩, ?_, h.n1, h.n2, h.n3, h.n4⟩
    · rw [World.cell?_of_block (a := ⟨b, 5, none⟩) (e42 b (by omega) h.n1), hc2 5 (by omega)]; exact q1
    · rw [hc4 0 (by omega), hsn]; exact hd3
  have d4 : Dts x4 x4.heap.size A1 (o.ms.map Dr.d) := ⟨al, hal, LT4.drs hrd hRy eA ec el hhd⟩
  have op4 := hoB _ b4N
  have dm4 : Dts x4 x4.heap.size o.mA (o.ms.map Dr.d) := ⟨o.ms, rfl, op4.ms.row.more (by omega), fun r hr => (op4.ms.each r hr).more (by omega)⟩
  repeat ((conv => whnf); first | (refine VS.mk r4 ?_) | (refine VCmp.tt (by omega) ?_) | (refine VCmp.ff (by omega) ?_) | (refine VIn.mk (IntWalk.i64_in _ (by omega)) ?_) | (refine VIdx.mk _ rfl (by omega) ?_) | (refine VIdx.mk 0 rfl (by omega) ?_))
  try (conv => whnf)
  refine VCall.mk _ (num_any (s.addS o.e o.l o.i o.c (o.ms.map Dr.d)).1 x4) ?_
  rintro _ _ ⟨rfl, rfl⟩
  refine ⟨_, rfl, ?_⟩
  repeat ((conv => whnf); first | (refine VLoad.mk _ (Km.at r4) ?_) | (refine VCmp.tt (by omega) ?_) | (refine VCmp.ff (by omega) ?_) | (refine VIn.mk (IntWalk.i64_in _ (by omega)) ?_) | (refine VIdx.mk _ rfl (by omega) ?_) | (refine VIdx.mk 0 rfl (by omega) ?_))
  try (conv => whnf)
  rw [hlen3]
  have hsd := sameDatas_yes A1 o.mA c1 o.mc x4.heap.size (o.ms.map Dr.d) x4 (Nat.le_refl _) d4 dm4 (by rw [List.length_map]; omega)
  rw [List.length_map] at hsd
  refine VCall.mk _ hsd ?_
  rintro _ x5 ⟨rfl, b5⟩
  refine ⟨_, rfl, ?_⟩
  repeat ((conv => whnf); first | (refine VCmp.tt (by omega) ?_) | (refine VCmp.ff (by omega) ?_) | (refine VIn.mk (IntWalk.i64_in _ (by omega)) ?_) | (refine VIdx.mk _ rfl (by omega) ?_) | (refine VIdx.mk 0 rfl (by omega) ?_))
  try (conv => whnf)
  refine VCall.mk _ (kept_any (LT4.below b5)) ?_
  rintro _ x6 ⟨rfl, b6⟩
  refine ⟨_, rfl, ?_⟩
  have b46 : Below x4.heap.size x4 x6 := b5.trans (b6.mono b5.size)
  have T6 := T4.below b46
  have S6 := S4.below b46
  have ff : Fx (b :: g :: b' :: g' :: F.filter fun q => decide (hb ≤ q)) w x6 := (((((Fx.below (S := b :: g :: b' :: g' :: F.filter fun q => decide (hb ≤ q)) bB).trans f01 fun q hq => .inr (by obtain rfl := List.mem_singleton.1 hq; omega)).trans f12 fun q hq => .inl (by obtain rfl := List.mem_singleton.1 hq; simp)).trans (.below (S := []) c23) fun q hq => (by cases hq)).trans f34 fun q hq => .inl (by obtain rfl := List.mem_singleton.1 hq; simp)).trans (.below (S := []) b46) fun q hq => (by cases hq)
  have hFK : ∀ y ∈ F, y ∈ F ++ ltS lx lb := fun y hy => List.mem_append.2 (.inl hy)
  have Tz : Tn x6 base hb F [] x t := T6.more (Below.refl _ _) (fun y hy => (List.mem_append.1 hy).elim (fun e => .inl (hFK y e)) fun e => (by cases e)) (fun y hy => hy) (fun y hy => (List.mem_append.1 hy).elim (fun e => T6.hi y (hFK y e)) fun e => (by cases e)) (fun q hq => (by cases hq))
  repeat ((conv => whnf); first | (refine VCmp.tt (by omega) ?_) | (refine VCmp.ff (by omega) ?_) | (refine VIn.mk (IntWalk.i64_in _ (by omega)) ?_) | (refine VIdx.mk _ rfl (by omega) ?_) | (refine VIdx.mk 0 rfl (by omega) ?_))
  try (conv => whnf)
  exact .mk ⟨rfl, ⟨F, x, t, _, ff, fun q hq => hq, fun q hq => .inl hq, Tz, Z.mono (by omega), S6.less hFK fb1 fb2 fb3 fb4⟩⟩
end Go.Proofs.Ytcffhfcjfjfokaa
namespace Go.Proofs.Ytcffhfcjfjfokaa
open Go Go.RowKit
set_option maxRecDepth 100000 in
set_option maxHeartbeats 4000000 in
theorem held_step {w : World} {base hb n N : Nat} {F : List Nat} {x : BX} {t : WX} {b g b' g' : Nat} {s : Sto} {o : Opx} (T : Tn w base hb F [] x t) (Z : Sz x t n) (S : Two w F b g b' g' s) (low : Low N hb b g b' g') (hN : N ≤ hb) (ho : OpAt w N o) (h2 : o.kd ≠ 2) (h3 : o.kd ≠ 3) (h5 : o.kd ≠ 5) (h6 : o.kd ≠ 6) :
    Calls Try.prog 46 #[.pointer (some ⟨hb, 0, none⟩), .pointer (some ⟨b, 0, none⟩), .pointer (some ⟨b', 0, none⟩), .agg (opA o)] w fun e w' => e = .returned (.bool true) ∧ Hp w base hb F b g b' g' (n + 3000000) w' := by
  have hz := T.B.hz
  have hbz := T.B.z
  obtain ⟨fb1, fb2, fb3, fb4⟩ := S.bF
  refine calls_vc tab_ok Try.func46 rfl ?_
  conv => whnf
  refine .mk fun wA hwA => ?_
  have hbA : Below w.heap.size w wA := by rw [hwA.out]; exact below_box1 _ _ _
  have zA : wA.heap.size = w.heap.size + 1 := by rw [hwA.out]; simp
  have oA : OpBx w.heap.size o wA := by rw [hwA.out]; exact range_new w (opA o) 95
  clear hwA
  repeat ((conv => whnf); first | (refine VCmp.tt (by omega) ?_) | (refine VCmp.ff (by omega) ?_) | (refine VIn.mk (IntWalk.i64_in _ (by omega)) ?_) | (refine VIdx.mk _ rfl (by omega) ?_) | (refine VIdx.mk 0 rfl (by omega) ?_))
  try (conv => whnf)
  refine VBuild.mk _ (fun W => bld147' W) ?_
  conv => whnf
  refine .mk fun wB hwB => ?_
  have L0 : Lt wB (wA.heap.size + 1) wA.heap.size ltx0 := by rw [hwB.out]; exact lt_new wA
  have bAB : Below wA.heap.size wA wB := by rw [hwB.out]; exact (Below.refl _ _).alloc (Nat.le_refl _) _
  have zB : wB.heap.size = wA.heap.size + 1 := by rw [hwB.out]; simp
  have oB : OpBx w.heap.size o wB := range_same oA (bAB.block _ (by omega))
  have bB : Below w.heap.size w wB := hbA.trans (bAB.mono (by omega))
  clear hwB oA hbA bAB
  generalize hlb : wA.heap.size = lb at *
  clear hlb
  have hFi : ∀ q ∈ F, q < w.heap.size := fun q hq => T.hi q (List.mem_append.2 (.inl hq))
  have hK0 : ∀ q ∈ ltS ltx0 lb, q = lb := fun q hq => by
    rcases ltS_iff.1 hq with e | e | e | e | e
    · exact e
    all_goals rcases e with e | ⟨r, hr, _⟩; cases e; cases hr
  have hlm : lb ∈ ltS ltx0 lb := ltS_iff.2 (.inl rfl)
  have TB : Tn wB base hb F (ltS ltx0 lb) x t := T.more bB (fun y hy => (List.mem_append.1 hy).elim (fun e => .inl (List.mem_append.2 (.inl e))) fun e => .inr (by have := hK0 y e; omega)) (fun y hy => hy) (fun y hy => (List.mem_append.1 hy).elim (fun e => by have := hFi y e; omega) fun e => by have := hK0 y e; omega) (fun q hq hm => by have := hK0 q hq; have := hFi q hm; omega)
  have SB : Two wB (F ++ ltS ltx0 lb) b g b' g' s := S.ext bB (fun y hy => (List.mem_append.1 hy).elim .inl fun e => .inr (by have := hK0 y e; omega)) (fun y hy => List.mem_append.2 (.inl hy)) (fun y hy => (List.mem_append.1 hy).elim (fun e => by have := hFi y e; omega) fun e => by have := hK0 y e; omega)
  have H0 : Hs wB base hb lb F b g b' g' s n wB := ⟨F, _, x, t, ltx0, Fx.refl _ _, fun q hq => hq, fun q hq => .inl hq, fun q hq => .inl (hK0 q hq), fun q hq => hq, TB, Z, SB, L0, Nat.zero_le _⟩
  have Lk : Ld Try.prog 3 w.heap.size 0 (Eq wB) (.int .i64 o.kd) := .of (load3 (oB 0 _ rfl))
  have Kp : Ld Try.prog 35 w.heap.size 10 (OpBx w.heap.size o) (.agg #[.int .i64 o.e, .int .i64 o.l, .int .i64 o.i, .int .i64 o.c]) := ⟨fun W hW => load35 (range_sub (n := 4) hW 10 rfl)⟩
  have Kw : Ld Try.prog 93 w.heap.size 14 (OpBx w.heap.size o) (.slice o.wA o.who.length o.wc) := ⟨fun W hW => load_cell (by kernel_rfl) (hW 14 _ rfl)⟩
  have Km : Ld Try.prog 40 w.heap.size 15 (OpBx w.heap.size o) (.slice o.mA o.ms.length o.mc) := ⟨fun W hW => load_cell (by kernel_rfl) (hW 15 _ rfl)⟩
  have hs3 := ho.s3
  obtain ⟨⟨n1, n2, n3, n4⟩, m1, m2, m3, m4⟩ := low
  have Lo : Ld Try.prog 95 w.heap.size 0 (Eq wB) (.agg (opA o)) := .of (load_agg (by kernel_rfl) (by kernel_rfl) oB)
  repeat ((conv => whnf); first | (refine VLoad.mk _ Lk ?_) | (refine VLoad.mk _ Lo ?_) | (refine VCmp.tt (by omega) ?_) | (refine VCmp.ff (by omega) ?_) | (refine VIn.mk (IntWalk.i64_in _ (by omega)) ?_) | (refine VIdx.mk _ rfl (by omega) ?_) | (refine VIdx.mk 0 rfl (by omega) ?_))
  try (conv => whnf)
  refine VCall.mk _ (stepF_any SB ⟨n1, n2, n3, n4⟩ (by omega) (ho.below bB (by omega)) h5 h6) ?_
  rintro _ x1 ⟨rfl, S1, f1⟩
  refine ⟨_, rfl, ?_⟩
  have hFK : ∀ y ∈ F, y ∈ F ++ ltS ltx0 lb := fun y hy => List.mem_append.2 (.inl hy)
  have T1 : Tn x1 base hb F (ltS ltx0 lb) x t := TB.far f1 fun q hq => by
    simp only [List.mem_cons, List.not_mem_nil, or_false] at hq
    rcases hq with rfl | rfl | rfl | rfl
    · exact ⟨fb1, m1⟩
    · exact ⟨fb2, m2⟩
    · exact ⟨fb3, m3⟩
    · exact ⟨fb4, m4⟩
  have Tz : Tn x1 base hb F [] x t := T1.more (Below.refl _ _) (fun y hy => (List.mem_append.1 hy).elim (fun e => .inl (hFK y e)) fun e => (by cases e)) (fun y hy => hy) (fun y hy => (List.mem_append.1 hy).elim (fun e => T1.hi y (hFK y e)) fun e => (by cases e)) (fun q hq => (by cases hq))
  have ff : Fx (b :: g :: b' :: g' :: F.filter fun q => decide (hb ≤ q)) w x1 := (Fx.below (S := b :: g :: b' :: g' :: F.filter fun q => decide (hb ≤ q)) bB).trans f1 fun q hq => .inl (by
    simp only [List.mem_cons, List.not_mem_nil, or_false] at hq
    rcases hq with rfl | rfl | rfl | rfl <;> simp)
  repeat ((conv => whnf); first | (refine VCmp.tt (by omega) ?_) | (refine VCmp.ff (by omega) ?_) | (refine VIn.mk (IntWalk.i64_in _ (by omega)) ?_) | (refine VIdx.mk _ rfl (by omega) ?_) | (refine VIdx.mk 0 rfl (by omega) ?_))
  try (conv => whnf)
  exact .mk ⟨rfl, ⟨F, x, t, _, ff, fun q hq => hq, fun q hq => .inl hq, Tz, Z.mono (by omega), S1.less hFK fb1 fb2 fb3 fb4⟩⟩
theorem held_any {w : World} {base hb n N : Nat} {F : List Nat} {x : BX} {t : WX} {b g b' g' : Nat} {s : Sto} {o : Opx} (T : Tn w base hb F [] x t) (Z : Sz x t n) (hn : n ≤ 600000000) (S : Two w F b g b' g' s) (low : Low N hb b g b' g') (hN : N ≤ hb) (ho : OpAt w N o) :
    Calls Try.prog 46 #[.pointer (some ⟨hb, 0, none⟩), .pointer (some ⟨b, 0, none⟩), .pointer (some ⟨b', 0, none⟩), .agg (opA o)] w fun e w' => e = .returned (.bool true) ∧ Hp w base hb F b g b' g' (n + 3000000) w' := by
  by_cases h2 : o.kd = 2
  · exact held_missing T Z hn S low hN ho h2
  by_cases h3 : o.kd = 3
  · exact held_contents T Z hn S low hN ho h3
  by_cases h5 : o.kd = 5
  · exact held_add T Z S low hN ho h5
  by_cases h6 : o.kd = 6
  · exact held_messages T Z hn S low hN ho h6
  exact held_step T Z S low hN ho h2 h3 h5 h6
end Go.Proofs.Ytcffhfcjfjfokaa
namespace Go.Proofs.Ytcffhfcjfjfokaa
open Go.RowKit
def eOpx (o : Opx) : List Value := (opA o).toList
structure ScAt (w : World) (N : Nat) (A : Option Addr) (os : List Opx) : Prop where
  row : RowAt w N 16 eOpx A os
  each : ∀ o ∈ os, OpAt w N o
  len : os.length ≤ 9223372036854775806
theorem ScAt.below {w w' : World} {N N' : Nat} {A : Option Addr} {os : List Opx} (h : ScAt w N A os) (hb : Below N' w w') (hN : N ≤ N') : ScAt w' N A os := ⟨h.row.below hb hN, fun o ho => (h.each o ho).below hb hN, h.len⟩
theorem OpAt.more {w : World} {N N' : Nat} {o : Opx} (h : OpAt w N o) (hN : N ≤ N') : OpAt w N' o :=
  ⟨h.f.more hN, h.who.more hN, ⟨h.ms.row.more hN, fun r h1 => (h.ms.each r h1).more hN⟩, h.s1, h.s2, h.s3, h.s4⟩
theorem StV.fresh {w : World} {F F' : List Nat} {b g oK oV n : Nat} {s : Sto} (h : StV w F b g oK oV s (List.replicate n KpX.zero) none 0 []) (h1 : b ∈ F') (h2 : g ∈ F') (hi : ∀ y ∈ F', y < w.heap.size) : StV w F' b g oK oV s (List.replicate n KpX.zero) none 0 [] :=
  ⟨h.ck, h.ce, h.cl, h.ci, h.cc, h.cm, h.there, h.krow, h.kthere, h.kk, fun x hx => by
    obtain rfl := List.eq_of_mem_replicate hx
    exact ⟨rowF_nil, rowF_nil, Nat.le_refl _, by simp [KpX.zero], Nat.le_refl _, by simp [KpX.zero]⟩, h.mm, rowF_nil, fun r hr => (by cases hr), h.mc, h1, h2, h.bg, hi, h.inv⟩
theorem newOk_yes {n : Int} (h : newOk n = true) : ∃ m : Nat, n = m ∧ 1 ≤ m ∧ m ≤ 16 := by
  unfold newOk at h
  have h' : 1 ≤ n ∧ n ≤ 16 := by simpa using h
  exact ⟨n.toNat, by omega, by omega, by omega⟩
end Go.Proofs.Ytcffhfcjfjfokaa
