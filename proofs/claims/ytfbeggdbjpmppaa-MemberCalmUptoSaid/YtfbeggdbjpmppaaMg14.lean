/- Notes Hands, joined. -/
import Derived.Test.YtfbeggdbjpmppaaMg13
set_option linter.unusedVariables false
set_option linter.unusedSimpArgs false
namespace Go.Proofs.Ytfbeggdbjpmppaa
open Go Go.RowKit
structure NoIn (t : Tm) (i : Nat) : Prop where
  n16 : t.n ≤ 16
  sn : (t.S i).n = t.n
  so : (t.S i).own.set.length = 16
  vo : (t.S i).own.vec.length = 16
  el : ∀ x ∈ t.E i, x.w.set.length = 16 ∧ x.w.vec.length = 16
  ln : (t.E i).length ≤ 1000000000
theorem take_len {l : List Int} {n : Nat} (h : l.length = 16) (hn : n ≤ 16) : (l.take n).length = n := List.length_take_of_le (by omega)
theorem last_get {α : Type} {l : List α} (h : l ≠ []) : ∃ y, l[l.length - 1]? = some y ∧ l.getLast? = some y := by
  refine ⟨l.getLast h, ?_, List.getLast?_eq_some_getLast h⟩
  rw [← List.getLast?_eq_getElem?, List.getLast?_eq_some_getLast h]
set_option maxRecDepth 100000 in
theorem notes_any {w : World} {K : Nat → Nat} {h z m i : Nat} {t : Tm} {X : TX} (T : TmM w K h z m t X) (hi : i < m) (hmz : m ≤ z) (hz : z ≤ 16) (N : NoIn t i) :
    Calls Try.prog 43 #[.pointer (some ⟨h, 0, none⟩), .int .i64 i] w fun x w' => x = .returned (.tuple #[]) ∧ ∃ K' X', TmM w' K' h z m { t with E := noteE t.n t.E i (t.S i) } X' ∧ Ro (· ≠ 0) K K' w w' := by
  refine calls_vc tab_ok Try.func43 rfl ?_
  have hiz : i < z := by omega
  obtain ⟨tb, ib, eb, B, kt, ki, ke⟩ := T.bks (by omega)
  have hA := T.ag i hi
  have Sn := N.sn
  have s0 := Sm.refl [h, tb, ib, eb] w
  have La := T.l_at (l := [h, tb, ib, eb]) B (by simp)
  have Lp := T.l_ptr (l := [h, tb, ib, eb]) B (by simp) hi hiz
  repeat ((conv => whnf); first | (refine VLoad.mk _ (La.at s0) ?_) | (refine VLoad.mk _ (Lp.at s0) ?_) | (refine VCmp.tt (by omega) ?_) | (refine VCmp.ff (by omega) ?_) | (refine VIn.mk (IntWalk.i64_in _ (by omega)) ?_) | (refine VIdx.mk _ rfl (by omega) ?_) | (refine VIdx.mk 0 rfl (by omega) ?_))
  try (conv => whnf)
  refine VCall.mk _ (proposal_any (X.ag i) (t.S i) (X.M i) (X.cM i) w hA.ag hA.hb (by rw [Sn]; exact N.n16)) ?_
  rintro _ x1 ⟨P, V, rfl, rP, rV, b1⟩
  refine ⟨_, rfl, ?_⟩
  rw [Sn] at rP rV ⊢
  have T1 := T.below b1
  have z1 := b1.size
  repeat ((conv => whnf); first | (refine VCmp.tt (by omega) ?_) | (refine VCmp.ff (by omega) ?_) | (refine VIn.mk (IntWalk.i64_in _ (by omega)) ?_) | (refine VIdx.mk _ rfl (by omega) ?_) | (refine VIdx.mk 0 rfl (by omega) ?_))
  try (conv => whnf)
  refine .mk _ run_zero31 ?_
  conv => whnf
  refine .mk fun x2 hx2 => ?_
  repeat ((conv => whnf); first | (refine VCmp.tt (by omega) ?_) | (refine VCmp.ff (by omega) ?_) | (refine VIn.mk (IntWalk.i64_in _ (by omega)) ?_) | (refine VIdx.mk _ rfl (by omega) ?_) | (refine VIdx.mk 0 rfl (by omega) ?_))
  try (conv => whnf)
  refine VStore.new (c' := propA (t.S i).own P t.n V t.n t.n) hx2 (by kernel_rfl) rfl (one_propA _ _ _ _ _ _) fun x3 hx3 => ?_
  have c3 : Below x1.heap.size x1 x3 := by rw [hx3.out]; exact (Below.refl _ _).alloc (Nat.le_refl _) _
  have z3 : x3.heap.size = x1.heap.size + 1 := by rw [hx3.out]; simp
  have r3 : x3.rangeAt x1.heap.size 0 (propA (t.S i).own P t.n V t.n t.n).toList := by rw [hx3.out]; exact range_new x1 _ 31
  clear hx2 hx3 x2
  have T3 := T1.below c3
  have rP3 := (rP.below c3)
  have rV3 := (rV.below c3)
  have hb3 : ∀ b ∈ [h, tb, ib, eb, x1.heap.size], b < x3.heap.size := fun b hb => by
    have := T.hs; have := B.tz; have := B.iz; have := B.ez
    simp only [List.mem_cons, List.not_mem_nil, or_false] at hb
    rcases hb with rfl | rfl | rfl | rfl | rfl <;> omega
  have B3 : Bks x3 X tb ib eb := ⟨B.t, B.i, B.e, by have := B.tz; omega, by have := B.iz; omega, by have := B.ez; omega⟩
  have s3 := Sm.refl [h, tb, ib, eb, x1.heap.size] x3
  have Le := T3.l_ev (l := [h, tb, ib, eb, x1.heap.size]) B3 (by simp)
  have Les := T3.l_es (l := [h, tb, ib, eb, x1.heap.size]) B3 (by simp) hiz
  repeat ((conv => whnf); first | (refine VLoad.mk _ (Le.at s3) ?_) | (refine VLoad.mk _ (Les.at s3) ?_) | (refine VCmp.tt (by omega) ?_) | (refine VCmp.ff (by omega) ?_) | (refine VIn.mk (IntWalk.i64_in _ (by omega)) ?_) | (refine VIdx.mk _ rfl (by omega) ?_) | (refine VIdx.mk 0 rfl (by omega) ?_))
  try (conv => whnf)
  have hbz : x1.heap.size < x3.heap.size := by omega
  have b13 : Below w.heap.size w x3 := b1.trans (c3.mono z1)
  obtain ⟨AV, hAV⟩ : ∃ AV, AV = (X.ev i).A := ⟨_, rfl⟩
  rw [← hAV]
  by_cases hE : (X.ev i).l = []
  · have hl0 : (X.ev i).l.length = 0 := by rw [hE]; rfl
    have hq : (((X.ev i).l.length : Int) == 0) = true := by rw [hl0]; rfl
    have c4 : Below x3.heap.size x3 x3.drew := (Below.refl _ _).drew
    obtain ⟨nl, hnl⟩ : ∃ nl, nl = (X.ev i).l.length := ⟨_, rfl⟩
    rw [← hnl] at hl0 ⊢
    refine VDraw.mk 1000 [([0, 1, 2, 3, 4, 5, 6, 7, 8, 9, 10, 11, 12, 13, 14, 15, 16, 17, 18, 19, 20, 21, 22, 23, 24, 25, 26, 27, 28], 29)] [30, 31] (Below x3.heap.size x3) (by kernel_rfl) (by kernel_rfl) (c4) ?_
    repeat ((conv => whnf); first | (refine VCmp.tt (by omega) ?_) | (refine VCmp.tt (by omega) ?_) | (refine VCmp.ff (by omega) ?_) | (refine VIn.mk (IntWalk.i64_in _ (by omega)) ?_) | (refine VIdx.mk _ rfl (by omega) ?_) | (refine VIdx.mk 0 rfl (by omega) ?_))
    try (conv => whnf)
    repeat ((conv => whnf); first | (refine VS.mk c4 ?_) | (refine VCmp.tt (by omega) ?_) | (refine VCmp.ff (by omega) ?_) | (refine VIn.mk (IntWalk.i64_in _ (by omega)) ?_) | (refine VIdx.mk _ rfl (by omega) ?_) | (refine VIdx.mk 0 rfl (by omega) ?_))
    try (conv => whnf)
    have hls : lastSame t.n (t.E i) (t.S i) = false := by
      unfold lastSame; rw [← (T.ev i hiz).mp, hE]; rfl
    generalize x3.drew = x4 at c4 ⊢
    -- the proposal joins: world x4, c4 : Below x3.heap.size x3 x4
    have z4 := c4.size
    have T4 := T3.below c4
    have B4 : Bks x4 X tb ib eb := ⟨B.t, B.i, B.e, by have := B3.tz; omega, by have := B3.iz; omega, by have := B3.ez; omega⟩
    have r4 := range_same r3 (c4.block _ (by omega))
    have q4 : Sm [h, tb, ib, eb, x1.heap.size] x4 x4.drew := fun _ _ => rfl
    have L0 := T4.l_ev (l := [h, tb, ib, eb, x1.heap.size]) B4 (by simp)
    have L1 := T4.l_inc (l := [h, tb, ib, eb, x1.heap.size]) B4 (by simp)
    have L2 := T4.l_iv (l := [h, tb, ib, eb, x1.heap.size]) B4 (by simp) hiz
    have L3 : Ld Try.prog 31 x1.heap.size 0 (Sm [h, tb, ib, eb, x1.heap.size] x4) (.agg (propA (t.S i).own P t.n V t.n t.n)) := ⟨fun W hW => load_agg (by kernel_rfl) (by kernel_rfl) (range_same r4 (hW _ (by simp)))⟩
    refine VDraw.mk 19 [([0, 1, 2, 3, 4, 5, 6, 7, 8, 9, 10, 11, 12, 13], 14), ([15], 16), ([], 17), ([18], 19)] [] (Sm [h, tb, ib, eb, x1.heap.size] x4) (by kernel_rfl) (by kernel_rfl) (q4) ?_
    repeat ((conv => whnf); first | (refine VLoad.mk _ L0 ?_) | (refine VLoad.mk _ L1 ?_) | (refine VLoad.mk _ L2 ?_) | (refine VLoad.mk _ L3 ?_) | (refine VCmp.tt (by omega) ?_) | (refine VCmp.ff (by omega) ?_) | (refine VIn.mk (IntWalk.i64_in _ (by omega)) ?_) | (refine VIdx.mk _ rfl (by omega) ?_) | (refine VIdx.mk 0 rfl (by omega) ?_))
    try (conv => whnf)
    refine VCall.mk _ (copied_any P t.n V t.n x4.heap.size t.n t.n (prW t.n (t.S i).own) _ _ x4.drew (take_len N.so N.n16) (take_len N.vo N.n16) (Nat.le_refl _) ((rP3.below c4).row) ((rV3.below c4).row) (by have := N.n16; omega) (by have := N.n16; omega)) ?_
    rintro _ x5 ⟨g, c, g', d, rfl, oP, oV, hne, b5⟩
    refine ⟨_, rfl, ?_⟩
    have b45 : Below x4.heap.size x4 x5 := ⟨b5.os, b5.tape, b5.output, b5.size, b5.block⟩
    have z5 := b45.size
    have hb4 : ∀ b ∈ [h, tb, ib, eb, x1.heap.size], b < x4.heap.size := fun b hb => by have := hb3 b hb; omega
    have q5 : Sm [h, tb, ib, eb, x1.heap.size] x4 x5 := .below b45 hb4
    have T5 := T4.below b45
    repeat ((conv => whnf); first | (refine VS.mk q5 ?_) | (refine VCmp.tt (by omega) ?_) | (refine VCmp.ff (by omega) ?_) | (refine VIn.mk (IntWalk.i64_in _ (by omega)) ?_) | (refine VIdx.mk _ rfl (by omega) ?_) | (refine VIdx.mk 0 rfl (by omega) ?_))
    try (conv => whnf)
    refine VBuild.mk _ (fun W => build33 W t.n (t.S i).inc (t.S i).own (some ⟨g, 0, none⟩) c (some ⟨g', 0, none⟩) d) ?_
    repeat ((conv => whnf); first | (refine VCmp.tt (by omega) ?_) | (refine VCmp.ff (by omega) ?_) | (refine VIn.mk (IntWalk.i64_in _ (by omega)) ?_) | (refine VIdx.mk _ rfl (by omega) ?_) | (refine VIdx.mk 0 rfl (by omega) ?_))
    try (conv => whnf)
    refine VBs.mk _ _ (bs34 x5 t.n ⟨(t.S i).inc, (t.S i).own⟩ (some ⟨g, 0, none⟩) c (some ⟨g', 0, none⟩) d) ?_
    have c6 : Below x5.heap.size x5 (x5.alloc (.cells (saA t.n ⟨(t.S i).inc, (t.S i).own⟩ (some ⟨g, 0, none⟩) c (some ⟨g', 0, none⟩) d) 33)) := (Below.refl _ _).alloc (Nat.le_refl _) _
    have hnc : ∀ j u, (eSa t.n ⟨⟨(t.S i).inc, (t.S i).own⟩, some ⟨g, 0, none⟩, c, some ⟨g', 0, none⟩, d⟩)[j]? = some u → (x5.alloc (.cells (saA t.n ⟨(t.S i).inc, (t.S i).own⟩ (some ⟨g, 0, none⟩) c (some ⟨g', 0, none⟩) d) 33)).cell? ⟨x5.heap.size, j, none⟩ = some u := fun j u hu => by
      have := range_new x5 (saA t.n ⟨(t.S i).inc, (t.S i).own⟩ (some ⟨g, 0, none⟩) c (some ⟨g', 0, none⟩) d) 33 j u hu
      rwa [Nat.zero_add] at this
    generalize x5.alloc (.cells (saA t.n ⟨(t.S i).inc, (t.S i).own⟩ (some ⟨g, 0, none⟩) c (some ⟨g', 0, none⟩) d) 33) = x6 at c6 hnc ⊢
    have z6 := c6.size
    have T6 := T5.below c6
    have q6 : Sm [h, tb, ib, eb, x1.heap.size] x4 x6 := q5.trans (.below c6 fun b hb => by have := hb4 b hb; omega)
    have oP6 := (oP.keep c6 (fun k hk => (oP.lo k hk).2)).row (fun _ => rfl)
    have oV6 := (oV.keep c6 (fun k hk => (oV.lo k hk).2)).row (fun _ => rfl)
    have e6 := T6.ev i hiz
    have eo := e6.own.own
    rw [← hAV] at eo
    have erl := e6.own.rl
    rw [← hAV] at erl
    have hlen : (X.ev i).l.length = (t.E i).length := by rw [← e6.mp, List.length_map]
    have hln := N.ln
    repeat ((conv => whnf); first | (refine VS.mk q6 ?_) | (refine VCmp.tt (by omega) ?_) | (refine VCmp.ff (by omega) ?_) | (refine VIn.mk (IntWalk.i64_in _ (by omega)) ?_) | (refine VIdx.mk _ rfl (by omega) ?_) | (refine VIdx.mk 0 rfl (by omega) ?_))
    try (conv => whnf)
    refine VApp.keep 0 10 112 _ Try.underlying34 info33 rfl (by decide) (eSa t.n) (len_eSa t.n) (one_eSa t.n) (X.ev i).l ⟨⟨(t.S i).inc, (t.S i).own⟩, some ⟨g, 0, none⟩, c, some ⟨g', 0, none⟩, d⟩ (by omega) eo hnc (by omega) (by omega) (by omega) fun A7 c7 x7 hO hO' hg7 hk7 => ?_
    have z7 := hg7.size
    have Q7 : Ro (· = 11 + 2 * i) K (roleN K A7 (11 + 2 * i)) x6 x7 := Ro.app hg7 hk7 erl
    have q7 : Sm [h, tb, ib, eb, x1.heap.size] x4 x7 := q6.trans fun b hb => by
      have hb' := hb4 b hb
      refine Q7.same b (by omega) ?_
      simp only [List.mem_cons, List.not_mem_nil, or_false] at hb
      rcases hb with rfl | rfl | rfl | rfl | rfl
      · rw [T.hk]; omega
      · rw [kt]; omega
      · rw [ki]; omega
      · rw [ke]; omega
      · rw [T1.kz _ (Nat.le_refl _)]; omega
    repeat ((conv => whnf); first | (refine VS.mk q7 ?_) | (refine VCmp.tt (by omega) ?_) | (refine VCmp.ff (by omega) ?_) | (refine VIn.mk (IntWalk.i64_in _ (by omega)) ?_) | (refine VIdx.mk _ rfl (by omega) ?_) | (refine VIdx.mk 0 rfl (by omega) ?_))
    try (conv => whnf)
    have a7 := T6.a4.ro Q7 (by omega)
    have hy7 : x7.there eb 0 z := by
      have h2 := a7.own
      rw [B.e] at h2
      have := Owns.thereN h2 len_eSl
      rwa [Nat.mul_one, List.length_map, List.length_range] at this
    refine VStore.cell (by kernel_rfl) (hy7 i hiz).1 (hy7 i hiz).2 rfl rfl fun x8 hx8 => ?_
    have rPk : RowK x6 K 1 eInt (some ⟨g, 0, none⟩) ((t.S i).own.set.take t.n) := .at_ (row_prefix oP6) fun b hb => by
      injection hb with hb
      rw [← hb]
      have h1 : x4.heap.size ≤ g := (oP.lo g rfl).1
      exact T4.kz _ h1
    have rVk : RowK x6 K 1 eInt (some ⟨g', 0, none⟩) ((t.S i).own.vec.take t.n) := .at_ (row_prefix oV6) fun b hb => by
      injection hb with hb
      rw [← hb]
      have h1 : x4.heap.size ≤ g' := (oV.lo g' rfl).1
      exact T4.kz _ h1
    obtain ⟨T8, Q8⟩ := T6.evpush (w2 := x8) hiz hO (by rw [← hAV]; exact hg7) (by rw [← hAV]; exact hk7) rPk rVk B.e (Nat.zero_add i) (by rw [← hnl]; exact hx8.out)
    have hnote : noteE t.n t.E i (t.S i) = addE t.E i ⟨(t.S i).inc, (t.S i).own⟩ := by unfold noteE; rw [hls]; exact if_neg (by simp)
    have b06 : Below w.heap.size w x6 := b13.trans ((c4.trans ((b45.trans (c6.mono z5)).mono z4)).mono (by omega))
    repeat ((conv => whnf); first | (refine VS.last rfl ?_) | (refine VCmp.tt (by omega) ?_) | (refine VCmp.ff (by omega) ?_) | (refine VIn.mk (IntWalk.i64_in _ (by omega)) ?_) | (refine VIdx.mk _ rfl (by omega) ?_) | (refine VIdx.mk 0 rfl (by omega) ?_))
    try (conv => whnf)
    exact .mk ⟨rfl, _, _, by rw [hnote]; exact T8, (Ro.below b06).trans (Q8.more fun r hr => by omega)⟩
  obtain ⟨y, hy1, hy2⟩ := last_get hE
  have e0 := T.ev i hiz
  obtain ⟨gv, hgv, hgz⟩ := e0.own.own.blk_of (List.length_pos_iff.2 hE)
  have hlE : (t.E i).getLast? = some y.x := by rw [← e0.mp, List.getLast?_map, hy2]; rfl
  have hyE : y.x ∈ t.E i := List.mem_of_getLast? hlE
  have e3 := T3.ev i hiz
  have ry := e3.cells hgv hy1
  obtain ⟨nl, hnl⟩ : ∃ nl, nl = (X.ev i).l.length := ⟨_, rfl⟩
  have hnl0 : 0 < nl := by rw [hnl]; exact List.length_pos_iff.2 hE
  have hlen0 : (X.ev i).l.length = (t.E i).length := by rw [← e0.mp, List.length_map]
  have hln0 := N.ln
  rw [← hnl] at hlen0 ry ⊢
  rw [← hAV] at hgv
  subst hgv
  have d4 : Below x3.heap.size x3 x3.drew := (Below.refl _ _).drew
  have hsm : ∀ W, Below x3.heap.size x3 W → Sm [h, tb, ib, eb, x1.heap.size, gv] x3 W := fun W hW => .below hW fun b hb => by
    simp only [List.mem_cons, List.not_mem_nil, or_false] at hb
    rcases hb with rfl | rfl | rfl | rfl | rfl | rfl
    · exact hb3 _ (by simp)
    · exact hb3 _ (by simp)
    · exact hb3 _ (by simp)
    · exact hb3 _ (by simp)
    · exact hb3 _ (by simp)
    · have := b13.size; omega
  have M1 : Ld Try.prog 3 gv (0 + (nl - 1) * 10) (Below x3.heap.size x3) (.int .i64 y.x.inc) := (l_si (l := [h, tb, ib, eb, x1.heap.size, gv]) ry (by simp)).mono hsm
  have M2 : Ld Try.prog 31 gv (0 + (nl - 1) * 10 + 1) (Below x3.heap.size x3) (.agg (propA y.x.w y.S y.cS y.V y.cV t.n)) := (l_sw (l := [h, tb, ib, eb, x1.heap.size, gv]) ry (by simp)).mono hsm
  have M3 : Ld Try.prog 27 h 3 (Below x3.heap.size x3) _ := (T3.l_inc (l := [h, tb, ib, eb, x1.heap.size, gv]) B3 (by simp)).mono hsm
  have M4 : Ld Try.prog 3 ib (0 + i) (Below x3.heap.size x3) _ := (T3.l_iv (l := [h, tb, ib, eb, x1.heap.size, gv]) B3 (by simp) hiz).mono hsm
  have M5 : Ld Try.prog 31 x1.heap.size 0 (Below x3.heap.size x3) (.agg (propA (t.S i).own P t.n V t.n t.n)) := ⟨fun W hW => load_agg (by kernel_rfl) (by kernel_rfl) (range_same r3 (hW.block _ hbz))⟩
  have hq0 : ¬ ((nl : Int) = 0) := by omega
  have hcn : ∀ W, Below x3.heap.size x3 W → Below x3.heap.size x3 W := fun _ h => h
  by_cases hinc : y.x.inc = (t.S i).inc
  · cases hsw : sameW t.n y.x.w (t.S i).own with
    | false =>
      have hls : lastSame t.n (t.E i) (t.S i) = false := by
        unfold lastSame; rw [hlE]; show (decide (y.x.inc = (t.S i).inc) && sameW t.n y.x.w (t.S i).own) = false; rw [hsw, Bool.and_false]
      refine VDraw.mk 1000 [([0, 1, 2, 3, 4, 5, 6, 7, 8, 9, 10, 11, 12, 13, 14, 15, 16, 17, 18, 19, 20, 21, 22, 23, 24, 25, 26, 27, 28], 29)] [30, 31] (Below x3.heap.size x3) (by kernel_rfl) (by kernel_rfl) (d4) ?_
      repeat ((conv => whnf); first | (refine VCmp.ff (by omega) ?_) | (refine VLoad.mk _ M1 ?_) | (refine VLoad.mk _ M2 ?_) | (refine VLoad.mk _ M3 ?_) | (refine VLoad.mk _ M4 ?_) | (refine VLoad.mk _ M5 ?_) | (refine VIdx.mk (nl - 1) (by omega) (by omega) ?_) | (refine VCmp.tt (by omega) ?_) | (refine VCmp.ff (by omega) ?_) | (refine VIn.mk (IntWalk.i64_in _ (by omega)) ?_) | (refine VIdx.mk _ rfl (by omega) ?_) | (refine VIdx.mk 0 rfl (by omega) ?_))
      try (conv => whnf)
      refine VCall.mk _ (proposals_any y.S y.V P V y.cS y.cV t.n t.n x3.heap.size t.n t.n t.n t.n (prW t.n y.x.w) (prW t.n (t.S i).own) _ _ _ _ x3.drew (take_len (N.el _ hyE).1 N.n16) (take_len (N.el _ hyE).2 N.n16) (take_len N.so N.n16) (take_len N.vo N.n16) (Nat.le_refl _) ((e3.rows y (List.mem_of_getElem? hy1)).1.row.below d4 (Nat.le_refl _)) ((e3.rows y (List.mem_of_getElem? hy1)).2.row.below d4 (Nat.le_refl _)) (rP3.row.below d4 (Nat.le_refl _)) (rV3.row.below d4 (Nat.le_refl _)) (by have := N.n16; omega) (by have := N.n16; omega) (by have := N.n16; omega) (by have := N.n16; omega)) ?_
      rintro _ x4 ⟨rfl, b34⟩
      refine ⟨_, rfl, ?_⟩
      have c4 : Below x3.heap.size x3 x4 := ⟨b34.os, b34.tape, b34.output, b34.size, b34.block⟩
      change VS _ _ _ _ _
      unfold sameW at hsw
      rw [hsw]
      repeat ((conv => whnf); first | (refine VS.mk c4 ?_) | (refine VCmp.tt (by omega) ?_) | (refine VCmp.ff (by omega) ?_) | (refine VIn.mk (IntWalk.i64_in _ (by omega)) ?_) | (refine VIdx.mk _ rfl (by omega) ?_) | (refine VIdx.mk 0 rfl (by omega) ?_))
      try (conv => whnf)
      -- the proposal joins: world x4, c4 : Below x3.heap.size x3 x4
      have z4 := c4.size
      have T4 := T3.below c4
      have B4 : Bks x4 X tb ib eb := ⟨B.t, B.i, B.e, by have := B3.tz; omega, by have := B3.iz; omega, by have := B3.ez; omega⟩
      have r4 := range_same r3 (c4.block _ (by omega))
      have q4 : Sm [h, tb, ib, eb, x1.heap.size] x4 x4.drew := fun _ _ => rfl
      have L0 := T4.l_ev (l := [h, tb, ib, eb, x1.heap.size]) B4 (by simp)
      have L1 := T4.l_inc (l := [h, tb, ib, eb, x1.heap.size]) B4 (by simp)
      have L2 := T4.l_iv (l := [h, tb, ib, eb, x1.heap.size]) B4 (by simp) hiz
      have L3 : Ld Try.prog 31 x1.heap.size 0 (Sm [h, tb, ib, eb, x1.heap.size] x4) (.agg (propA (t.S i).own P t.n V t.n t.n)) := ⟨fun W hW => load_agg (by kernel_rfl) (by kernel_rfl) (range_same r4 (hW _ (by simp)))⟩
      refine VDraw.mk 19 [([0, 1, 2, 3, 4, 5, 6, 7, 8, 9, 10, 11, 12, 13], 14), ([15], 16), ([], 17), ([18], 19)] [] (Sm [h, tb, ib, eb, x1.heap.size] x4) (by kernel_rfl) (by kernel_rfl) (q4) ?_
      repeat ((conv => whnf); first | (refine VLoad.mk _ L0 ?_) | (refine VLoad.mk _ L1 ?_) | (refine VLoad.mk _ L2 ?_) | (refine VLoad.mk _ L3 ?_) | (refine VCmp.tt (by omega) ?_) | (refine VCmp.ff (by omega) ?_) | (refine VIn.mk (IntWalk.i64_in _ (by omega)) ?_) | (refine VIdx.mk _ rfl (by omega) ?_) | (refine VIdx.mk 0 rfl (by omega) ?_))
      try (conv => whnf)
      refine VCall.mk _ (copied_any P t.n V t.n x4.heap.size t.n t.n (prW t.n (t.S i).own) _ _ x4.drew (take_len N.so N.n16) (take_len N.vo N.n16) (Nat.le_refl _) ((rP3.below c4).row) ((rV3.below c4).row) (by have := N.n16; omega) (by have := N.n16; omega)) ?_
      rintro _ x5 ⟨g, c, g', d, rfl, oP, oV, hne, b5⟩
      refine ⟨_, rfl, ?_⟩
      have b45 : Below x4.heap.size x4 x5 := ⟨b5.os, b5.tape, b5.output, b5.size, b5.block⟩
      have z5 := b45.size
      have hb4 : ∀ b ∈ [h, tb, ib, eb, x1.heap.size], b < x4.heap.size := fun b hb => by have := hb3 b hb; omega
      have q5 : Sm [h, tb, ib, eb, x1.heap.size] x4 x5 := .below b45 hb4
      have T5 := T4.below b45
      repeat ((conv => whnf); first | (refine VS.mk q5 ?_) | (refine VCmp.tt (by omega) ?_) | (refine VCmp.ff (by omega) ?_) | (refine VIn.mk (IntWalk.i64_in _ (by omega)) ?_) | (refine VIdx.mk _ rfl (by omega) ?_) | (refine VIdx.mk 0 rfl (by omega) ?_))
      try (conv => whnf)
      refine VBuild.mk _ (fun W => build33 W t.n (t.S i).inc (t.S i).own (some ⟨g, 0, none⟩) c (some ⟨g', 0, none⟩) d) ?_
      repeat ((conv => whnf); first | (refine VCmp.tt (by omega) ?_) | (refine VCmp.ff (by omega) ?_) | (refine VIn.mk (IntWalk.i64_in _ (by omega)) ?_) | (refine VIdx.mk _ rfl (by omega) ?_) | (refine VIdx.mk 0 rfl (by omega) ?_))
      try (conv => whnf)
      refine VBs.mk _ _ (bs34 x5 t.n ⟨(t.S i).inc, (t.S i).own⟩ (some ⟨g, 0, none⟩) c (some ⟨g', 0, none⟩) d) ?_
      have c6 : Below x5.heap.size x5 (x5.alloc (.cells (saA t.n ⟨(t.S i).inc, (t.S i).own⟩ (some ⟨g, 0, none⟩) c (some ⟨g', 0, none⟩) d) 33)) := (Below.refl _ _).alloc (Nat.le_refl _) _
      have hnc : ∀ j u, (eSa t.n ⟨⟨(t.S i).inc, (t.S i).own⟩, some ⟨g, 0, none⟩, c, some ⟨g', 0, none⟩, d⟩)[j]? = some u → (x5.alloc (.cells (saA t.n ⟨(t.S i).inc, (t.S i).own⟩ (some ⟨g, 0, none⟩) c (some ⟨g', 0, none⟩) d) 33)).cell? ⟨x5.heap.size, j, none⟩ = some u := fun j u hu => by
        have := range_new x5 (saA t.n ⟨(t.S i).inc, (t.S i).own⟩ (some ⟨g, 0, none⟩) c (some ⟨g', 0, none⟩) d) 33 j u hu
        rwa [Nat.zero_add] at this
      generalize x5.alloc (.cells (saA t.n ⟨(t.S i).inc, (t.S i).own⟩ (some ⟨g, 0, none⟩) c (some ⟨g', 0, none⟩) d) 33) = x6 at c6 hnc ⊢
      have z6 := c6.size
      have T6 := T5.below c6
      have q6 : Sm [h, tb, ib, eb, x1.heap.size] x4 x6 := q5.trans (.below c6 fun b hb => by have := hb4 b hb; omega)
      have oP6 := (oP.keep c6 (fun k hk => (oP.lo k hk).2)).row (fun _ => rfl)
      have oV6 := (oV.keep c6 (fun k hk => (oV.lo k hk).2)).row (fun _ => rfl)
      have e6 := T6.ev i hiz
      have eo := e6.own.own
      rw [← hAV] at eo
      have erl := e6.own.rl
      rw [← hAV] at erl
      have hlen : (X.ev i).l.length = (t.E i).length := by rw [← e6.mp, List.length_map]
      have hln := N.ln
      repeat ((conv => whnf); first | (refine VS.mk q6 ?_) | (refine VCmp.tt (by omega) ?_) | (refine VCmp.ff (by omega) ?_) | (refine VIn.mk (IntWalk.i64_in _ (by omega)) ?_) | (refine VIdx.mk _ rfl (by omega) ?_) | (refine VIdx.mk 0 rfl (by omega) ?_))
      try (conv => whnf)
      refine VApp.keep 0 10 112 _ Try.underlying34 info33 rfl (by decide) (eSa t.n) (len_eSa t.n) (one_eSa t.n) (X.ev i).l ⟨⟨(t.S i).inc, (t.S i).own⟩, some ⟨g, 0, none⟩, c, some ⟨g', 0, none⟩, d⟩ (by omega) eo hnc (by omega) (by omega) (by omega) fun A7 c7 x7 hO hO' hg7 hk7 => ?_
      have z7 := hg7.size
      have Q7 : Ro (· = 11 + 2 * i) K (roleN K A7 (11 + 2 * i)) x6 x7 := Ro.app hg7 hk7 erl
      have q7 : Sm [h, tb, ib, eb, x1.heap.size] x4 x7 := q6.trans fun b hb => by
        have hb' := hb4 b hb
        refine Q7.same b (by omega) ?_
        simp only [List.mem_cons, List.not_mem_nil, or_false] at hb
        rcases hb with rfl | rfl | rfl | rfl | rfl
        · rw [T.hk]; omega
        · rw [kt]; omega
        · rw [ki]; omega
        · rw [ke]; omega
        · rw [T1.kz _ (Nat.le_refl _)]; omega
      repeat ((conv => whnf); first | (refine VS.mk q7 ?_) | (refine VCmp.tt (by omega) ?_) | (refine VCmp.ff (by omega) ?_) | (refine VIn.mk (IntWalk.i64_in _ (by omega)) ?_) | (refine VIdx.mk _ rfl (by omega) ?_) | (refine VIdx.mk 0 rfl (by omega) ?_))
      try (conv => whnf)
      have a7 := T6.a4.ro Q7 (by omega)
      have hy7 : x7.there eb 0 z := by
        have h2 := a7.own
        rw [B.e] at h2
        have := Owns.thereN h2 len_eSl
        rwa [Nat.mul_one, List.length_map, List.length_range] at this
      refine VStore.cell (by kernel_rfl) (hy7 i hiz).1 (hy7 i hiz).2 rfl rfl fun x8 hx8 => ?_
      have rPk : RowK x6 K 1 eInt (some ⟨g, 0, none⟩) ((t.S i).own.set.take t.n) := .at_ (row_prefix oP6) fun b hb => by
        injection hb with hb
        rw [← hb]
        have h1 : x4.heap.size ≤ g := (oP.lo g rfl).1
        exact T4.kz _ h1
      have rVk : RowK x6 K 1 eInt (some ⟨g', 0, none⟩) ((t.S i).own.vec.take t.n) := .at_ (row_prefix oV6) fun b hb => by
        injection hb with hb
        rw [← hb]
        have h1 : x4.heap.size ≤ g' := (oV.lo g' rfl).1
        exact T4.kz _ h1
      obtain ⟨T8, Q8⟩ := T6.evpush (w2 := x8) hiz hO (by rw [← hAV]; exact hg7) (by rw [← hAV]; exact hk7) rPk rVk B.e (Nat.zero_add i) (by rw [← hnl]; exact hx8.out)
      have hnote : noteE t.n t.E i (t.S i) = addE t.E i ⟨(t.S i).inc, (t.S i).own⟩ := by unfold noteE; rw [hls]; exact if_neg (by simp)
      have b06 : Below w.heap.size w x6 := b13.trans ((c4.trans ((b45.trans (c6.mono z5)).mono z4)).mono (by omega))
      repeat ((conv => whnf); first | (refine VS.last rfl ?_) | (refine VCmp.tt (by omega) ?_) | (refine VCmp.ff (by omega) ?_) | (refine VIn.mk (IntWalk.i64_in _ (by omega)) ?_) | (refine VIdx.mk _ rfl (by omega) ?_) | (refine VIdx.mk 0 rfl (by omega) ?_))
      try (conv => whnf)
      exact .mk ⟨rfl, _, _, by rw [hnote]; exact T8, (Ro.below b06).trans (Q8.more fun r hr => by omega)⟩
    | true =>
      have hls : lastSame t.n (t.E i) (t.S i) = true := by
        unfold lastSame; rw [hlE]; show (decide (y.x.inc = (t.S i).inc) && sameW t.n y.x.w (t.S i).own) = true; rw [hsw, decide_eq_true hinc]; rfl
      refine VDraw.mk 1000 [([0, 1, 2, 3, 4, 5, 6, 7, 8, 9, 10, 11, 12, 13, 14, 15, 16, 17, 18, 19, 20, 21, 22, 23, 24, 25, 26, 27, 28], 29)] [30, 31] (Below x3.heap.size x3) (by kernel_rfl) (by kernel_rfl) (d4) ?_
      repeat ((conv => whnf); first | (refine VCmp.ff (by omega) ?_) | (refine VLoad.mk _ M1 ?_) | (refine VLoad.mk _ M2 ?_) | (refine VLoad.mk _ M3 ?_) | (refine VLoad.mk _ M4 ?_) | (refine VLoad.mk _ M5 ?_) | (refine VIdx.mk (nl - 1) (by omega) (by omega) ?_) | (refine VCmp.tt (by omega) ?_) | (refine VCmp.ff (by omega) ?_) | (refine VIn.mk (IntWalk.i64_in _ (by omega)) ?_) | (refine VIdx.mk _ rfl (by omega) ?_) | (refine VIdx.mk 0 rfl (by omega) ?_))
      try (conv => whnf)
      refine VCall.mk _ (proposals_any y.S y.V P V y.cS y.cV t.n t.n x3.heap.size t.n t.n t.n t.n (prW t.n y.x.w) (prW t.n (t.S i).own) _ _ _ _ x3.drew (take_len (N.el _ hyE).1 N.n16) (take_len (N.el _ hyE).2 N.n16) (take_len N.so N.n16) (take_len N.vo N.n16) (Nat.le_refl _) ((e3.rows y (List.mem_of_getElem? hy1)).1.row.below d4 (Nat.le_refl _)) ((e3.rows y (List.mem_of_getElem? hy1)).2.row.below d4 (Nat.le_refl _)) (rP3.row.below d4 (Nat.le_refl _)) (rV3.row.below d4 (Nat.le_refl _)) (by have := N.n16; omega) (by have := N.n16; omega) (by have := N.n16; omega) (by have := N.n16; omega)) ?_
      rintro _ x4 ⟨rfl, b34⟩
      refine ⟨_, rfl, ?_⟩
      have c4 : Below x3.heap.size x3 x4 := ⟨b34.os, b34.tape, b34.output, b34.size, b34.block⟩
      change VS _ _ _ _ _
      unfold sameW at hsw
      rw [hsw]
      repeat ((conv => whnf); first | (refine VS.mk c4 ?_) | (refine VCmp.tt (by omega) ?_) | (refine VCmp.ff (by omega) ?_) | (refine VIn.mk (IntWalk.i64_in _ (by omega)) ?_) | (refine VIdx.mk _ rfl (by omega) ?_) | (refine VIdx.mk 0 rfl (by omega) ?_))
      try (conv => whnf)
      have hnote : noteE t.n t.E i (t.S i) = t.E := by unfold noteE; rw [hls]; exact if_pos rfl
      exact .mk ⟨rfl, _, _, by rw [hnote]; exact T3.below c4, .below (b13.trans (c4.mono (by have := b13.size; omega)))⟩
  · have hls : lastSame t.n (t.E i) (t.S i) = false := by
      unfold lastSame; rw [hlE]; show (decide (y.x.inc = (t.S i).inc) && sameW t.n y.x.w (t.S i).own) = false; rw [decide_eq_false hinc]; rfl
    have c4 : Below x3.heap.size x3 x3.drew := d4
    refine VDraw.mk 1000 [([0, 1, 2, 3, 4, 5, 6, 7, 8, 9, 10, 11, 12, 13, 14, 15, 16, 17, 18, 19, 20, 21, 22, 23, 24, 25, 26, 27, 28], 29)] [30, 31] (Below x3.heap.size x3) (by kernel_rfl) (by kernel_rfl) (c4) ?_
    repeat ((conv => whnf); first | (refine VCmp.tt (by omega) ?_) | (refine VLoad.mk _ M1 ?_) | (refine VLoad.mk _ M3 ?_) | (refine VLoad.mk _ M4 ?_) | (refine VIdx.mk (nl - 1) (by omega) (by omega) ?_) | (refine VCmp.tt (by omega) ?_) | (refine VCmp.ff (by omega) ?_) | (refine VIn.mk (IntWalk.i64_in _ (by omega)) ?_) | (refine VIdx.mk _ rfl (by omega) ?_) | (refine VIdx.mk 0 rfl (by omega) ?_))
    try (conv => whnf)
    repeat ((conv => whnf); first | (refine VS.mk c4 ?_) | (refine VCmp.tt (by omega) ?_) | (refine VCmp.ff (by omega) ?_) | (refine VIn.mk (IntWalk.i64_in _ (by omega)) ?_) | (refine VIdx.mk _ rfl (by omega) ?_) | (refine VIdx.mk 0 rfl (by omega) ?_))
    try (conv => whnf)
    generalize x3.drew = x4 at c4 ⊢
    -- the proposal joins: world x4, c4 : Below x3.heap.size x3 x4
    have z4 := c4.size
    have T4 := T3.below c4
    have B4 : Bks x4 X tb ib eb := ⟨B.t, B.i, B.e, by have := B3.tz; omega, by have := B3.iz; omega, by have := B3.ez; omega⟩
    have r4 := range_same r3 (c4.block _ (by omega))
    have q4 : Sm [h, tb, ib, eb, x1.heap.size] x4 x4.drew := fun _ _ => rfl
    have L0 := T4.l_ev (l := [h, tb, ib, eb, x1.heap.size]) B4 (by simp)
    have L1 := T4.l_inc (l := [h, tb, ib, eb, x1.heap.size]) B4 (by simp)
    have L2 := T4.l_iv (l := [h, tb, ib, eb, x1.heap.size]) B4 (by simp) hiz
    have L3 : Ld Try.prog 31 x1.heap.size 0 (Sm [h, tb, ib, eb, x1.heap.size] x4) (.agg (propA (t.S i).own P t.n V t.n t.n)) := ⟨fun W hW => load_agg (by kernel_rfl) (by kernel_rfl) (range_same r4 (hW _ (by simp)))⟩
    refine VDraw.mk 19 [([0, 1, 2, 3, 4, 5, 6, 7, 8, 9, 10, 11, 12, 13], 14), ([15], 16), ([], 17), ([18], 19)] [] (Sm [h, tb, ib, eb, x1.heap.size] x4) (by kernel_rfl) (by kernel_rfl) (q4) ?_
    repeat ((conv => whnf); first | (refine VLoad.mk _ L0 ?_) | (refine VLoad.mk _ L1 ?_) | (refine VLoad.mk _ L2 ?_) | (refine VLoad.mk _ L3 ?_) | (refine VCmp.tt (by omega) ?_) | (refine VCmp.ff (by omega) ?_) | (refine VIn.mk (IntWalk.i64_in _ (by omega)) ?_) | (refine VIdx.mk _ rfl (by omega) ?_) | (refine VIdx.mk 0 rfl (by omega) ?_))
    try (conv => whnf)
    refine VCall.mk _ (copied_any P t.n V t.n x4.heap.size t.n t.n (prW t.n (t.S i).own) _ _ x4.drew (take_len N.so N.n16) (take_len N.vo N.n16) (Nat.le_refl _) ((rP3.below c4).row) ((rV3.below c4).row) (by have := N.n16; omega) (by have := N.n16; omega)) ?_
    rintro _ x5 ⟨g, c, g', d, rfl, oP, oV, hne, b5⟩
    refine ⟨_, rfl, ?_⟩
    have b45 : Below x4.heap.size x4 x5 := ⟨b5.os, b5.tape, b5.output, b5.size, b5.block⟩
    have z5 := b45.size
    have hb4 : ∀ b ∈ [h, tb, ib, eb, x1.heap.size], b < x4.heap.size := fun b hb => by have := hb3 b hb; omega
    have q5 : Sm [h, tb, ib, eb, x1.heap.size] x4 x5 := .below b45 hb4
    have T5 := T4.below b45
    repeat ((conv => whnf); first | (refine VS.mk q5 ?_) | (refine VCmp.tt (by omega) ?_) | (refine VCmp.ff (by omega) ?_) | (refine VIn.mk (IntWalk.i64_in _ (by omega)) ?_) | (refine VIdx.mk _ rfl (by omega) ?_) | (refine VIdx.mk 0 rfl (by omega) ?_))
    try (conv => whnf)
    refine VBuild.mk _ (fun W => build33 W t.n (t.S i).inc (t.S i).own (some ⟨g, 0, none⟩) c (some ⟨g', 0, none⟩) d) ?_
    repeat ((conv => whnf); first | (refine VCmp.tt (by omega) ?_) | (refine VCmp.ff (by omega) ?_) | (refine VIn.mk (IntWalk.i64_in _ (by omega)) ?_) | (refine VIdx.mk _ rfl (by omega) ?_) | (refine VIdx.mk 0 rfl (by omega) ?_))
    try (conv => whnf)
    refine VBs.mk _ _ (bs34 x5 t.n ⟨(t.S i).inc, (t.S i).own⟩ (some ⟨g, 0, none⟩) c (some ⟨g', 0, none⟩) d) ?_
    have c6 : Below x5.heap.size x5 (x5.alloc (.cells (saA t.n ⟨(t.S i).inc, (t.S i).own⟩ (some ⟨g, 0, none⟩) c (some ⟨g', 0, none⟩) d) 33)) := (Below.refl _ _).alloc (Nat.le_refl _) _
    have hnc : ∀ j u, (eSa t.n ⟨⟨(t.S i).inc, (t.S i).own⟩, some ⟨g, 0, none⟩, c, some ⟨g', 0, none⟩, d⟩)[j]? = some u → (x5.alloc (.cells (saA t.n ⟨(t.S i).inc, (t.S i).own⟩ (some ⟨g, 0, none⟩) c (some ⟨g', 0, none⟩) d) 33)).cell? ⟨x5.heap.size, j, none⟩ = some u := fun j u hu => by
      have := range_new x5 (saA t.n ⟨(t.S i).inc, (t.S i).own⟩ (some ⟨g, 0, none⟩) c (some ⟨g', 0, none⟩) d) 33 j u hu
      rwa [Nat.zero_add] at this
    generalize x5.alloc (.cells (saA t.n ⟨(t.S i).inc, (t.S i).own⟩ (some ⟨g, 0, none⟩) c (some ⟨g', 0, none⟩) d) 33) = x6 at c6 hnc ⊢
    have z6 := c6.size
    have T6 := T5.below c6
    have q6 : Sm [h, tb, ib, eb, x1.heap.size] x4 x6 := q5.trans (.below c6 fun b hb => by have := hb4 b hb; omega)
    have oP6 := (oP.keep c6 (fun k hk => (oP.lo k hk).2)).row (fun _ => rfl)
    have oV6 := (oV.keep c6 (fun k hk => (oV.lo k hk).2)).row (fun _ => rfl)
    have e6 := T6.ev i hiz
    have eo := e6.own.own
    rw [← hAV] at eo
    have erl := e6.own.rl
    rw [← hAV] at erl
    have hlen : (X.ev i).l.length = (t.E i).length := by rw [← e6.mp, List.length_map]
    have hln := N.ln
    repeat ((conv => whnf); first | (refine VS.mk q6 ?_) | (refine VCmp.tt (by omega) ?_) | (refine VCmp.ff (by omega) ?_) | (refine VIn.mk (IntWalk.i64_in _ (by omega)) ?_) | (refine VIdx.mk _ rfl (by omega) ?_) | (refine VIdx.mk 0 rfl (by omega) ?_))
    try (conv => whnf)
    refine VApp.keep 0 10 112 _ Try.underlying34 info33 rfl (by decide) (eSa t.n) (len_eSa t.n) (one_eSa t.n) (X.ev i).l ⟨⟨(t.S i).inc, (t.S i).own⟩, some ⟨g, 0, none⟩, c, some ⟨g', 0, none⟩, d⟩ (by omega) eo hnc (by omega) (by omega) (by omega) fun A7 c7 x7 hO hO' hg7 hk7 => ?_
    have z7 := hg7.size
    have Q7 : Ro (· = 11 + 2 * i) K (roleN K A7 (11 + 2 * i)) x6 x7 := Ro.app hg7 hk7 erl
    have q7 : Sm [h, tb, ib, eb, x1.heap.size] x4 x7 := q6.trans fun b hb => by
      have hb' := hb4 b hb
      refine Q7.same b (by omega) ?_
      simp only [List.mem_cons, List.not_mem_nil, or_false] at hb
      rcases hb with rfl | rfl | rfl | rfl | rfl
      · rw [T.hk]; omega
      · rw [kt]; omega
      · rw [ki]; omega
      · rw [ke]; omega
      · rw [T1.kz _ (Nat.le_refl _)]; omega
    repeat ((conv => whnf); first | (refine VS.mk q7 ?_) | (refine VCmp.tt (by omega) ?_) | (refine VCmp.ff (by omega) ?_) | (refine VIn.mk (IntWalk.i64_in _ (by omega)) ?_) | (refine VIdx.mk _ rfl (by omega) ?_) | (refine VIdx.mk 0 rfl (by omega) ?_))
    try (conv => whnf)
    have a7 := T6.a4.ro Q7 (by omega)
    have hy7 : x7.there eb 0 z := by
      have h2 := a7.own
      rw [B.e] at h2
      have := Owns.thereN h2 len_eSl
      rwa [Nat.mul_one, List.length_map, List.length_range] at this
    refine VStore.cell (by kernel_rfl) (hy7 i hiz).1 (hy7 i hiz).2 rfl rfl fun x8 hx8 => ?_
    have rPk : RowK x6 K 1 eInt (some ⟨g, 0, none⟩) ((t.S i).own.set.take t.n) := .at_ (row_prefix oP6) fun b hb => by
      injection hb with hb
      rw [← hb]
      have h1 : x4.heap.size ≤ g := (oP.lo g rfl).1
      exact T4.kz _ h1
    have rVk : RowK x6 K 1 eInt (some ⟨g', 0, none⟩) ((t.S i).own.vec.take t.n) := .at_ (row_prefix oV6) fun b hb => by
      injection hb with hb
      rw [← hb]
      have h1 : x4.heap.size ≤ g' := (oV.lo g' rfl).1
      exact T4.kz _ h1
    obtain ⟨T8, Q8⟩ := T6.evpush (w2 := x8) hiz hO (by rw [← hAV]; exact hg7) (by rw [← hAV]; exact hk7) rPk rVk B.e (Nat.zero_add i) (by rw [← hnl]; exact hx8.out)
    have hnote : noteE t.n t.E i (t.S i) = addE t.E i ⟨(t.S i).inc, (t.S i).own⟩ := by unfold noteE; rw [hls]; exact if_neg (by simp)
    have b06 : Below w.heap.size w x6 := b13.trans ((c4.trans ((b45.trans (c6.mono z5)).mono z4)).mono (by omega))
    repeat ((conv => whnf); first | (refine VS.last rfl ?_) | (refine VCmp.tt (by omega) ?_) | (refine VCmp.ff (by omega) ?_) | (refine VIn.mk (IntWalk.i64_in _ (by omega)) ?_) | (refine VIdx.mk _ rfl (by omega) ?_) | (refine VIdx.mk 0 rfl (by omega) ?_))
    try (conv => whnf)
    exact .mk ⟨rfl, _, _, by rw [hnote]; exact T8, (Ro.below b06).trans (Q8.more fun r hr => by omega)⟩
end Go.Proofs.Ytfbeggdbjpmppaa
namespace Go.Proofs.Ytfbeggdbjpmppaa
open Go Go.RowKit
def TP (w : World) (K : Nat → Nat) (h z m : Nat) (t : Tm) (w' : World) : Prop := ∃ K' X', TmM w' K' h z m t X' ∧ Ro (· ≠ 0) K K' w w'
theorem TP.trans {w w1 w2 : World} {K K' : Nat → Nat} {h z m : Nat} {t : Tm} (q : Ro (· ≠ 0) K K' w w1) (p : TP w1 K' h z m t w2) : TP w K h z m t w2 := by
  obtain ⟨K2, X2, a, b⟩ := p
  exact ⟨K2, X2, a, q.trans b⟩
theorem NoIn.of {t : Tm} {m i : Nat} (O : t.Ok m) (hi : i < m) {s : St} (hI : Inv s) (hn : s.n = t.n) (hl : (t.E i).length ≤ 1000000000) (b : Bool) : NoIn { t with S := upS t.S i s, sp := b } i := by
  refine ⟨O.n16, ?_, ?_, ?_, fun x hx => ?_, hl⟩
  · show (upS t.S i s i).n = t.n; rw [upS_same]; exact hn
  · show (upS t.S i s i).own.set.length = 16; rw [upS_same]; exact hI.own.set
  · show (upS t.S i s i).own.vec.length = 16; rw [upS_same]; exact hI.own.vec
  · have := ((O.nd i hi).2.2.2.each x hx).1.ok
    exact ⟨this.set, this.vec⟩
theorem prA_aux (o : Wish) (S V : Option Addr) (cS cV : Nat) {a b n : Nat} (h1 : a = n) (h2 : b = n) : (#[.slice S a cS, .int .i64 o.cid, .int .i64 o.rev, .int .i64 o.top, .int .i64 o.prev.e, .int .i64 o.prev.l, .int .i64 o.prev.i, .int .i64 o.prev.c, .slice V b cV] : Array Value) = propA o S cS V cV n := by
  subst h1; subst h2; rfl
theorem prA_prW {n : Nat} {o : Wish} (S V : Option Addr) (cS cV : Nat) (h1 : (o.set.take n).length = n) (h2 : (o.vec.take n).length = n) : prA S V cS cV (prW n o) = propA o S cS V cV n := prA_aux o S V cS cV h1 h2
theorem after_call {t : Tm} {i : Nat} {s : St} {b : Bool} : ({ ({ t with S := upS t.S i s, sp := b } : Tm) with E := noteE t.n t.E i (upS t.S i s i) } : Tm) = { t.upd i s with sp := b } := by
  unfold Tm.upd
  rw [upS_same]
set_option maxRecDepth 100000 in
set_option maxHeartbeats 4000000 in
theorem hands_any {w : World} {K : Nat → Nat} {h z m i j : Nat} {t : Tm} {X : TX} (T : TmM w K h z m t X) (O : t.Ok m) (hi : i < m) (hmz : m ≤ z) (hz : z ≤ 16) (hl : (t.E i).length ≤ 1000000000)
    {x : Lt} (hx : x ∈ t.E j) {S V : Option Addr} {cS cV : Nat} (rS : RowK w K 1 eInt S (x.w.set.take t.n)) (rV : RowK w K 1 eInt V (x.w.vec.take t.n)) :
    Calls Try.prog 19 #[.pointer (some ⟨h, 0, none⟩), .int .i64 i, .int .i64 j, .agg (saA t.n x S cS V cV)] w fun e w' => e = .returned (.tuple #[]) ∧ TP w K h z m (t.hand i j x) w' := by
  refine calls_vc tab_ok Try.func19 rfl ?_
  have hiz : i < z := by omega
  obtain ⟨on, oR, oH, oN⟩ := O.nd i hi
  have n16 := O.n16
  conv => whnf
  refine .mk fun wA hwA => ?_
  have bA : Below w.heap.size w wA := by rw [hwA.out]; exact below_box1 _ _ _
  have zA : wA.heap.size = w.heap.size + 1 := by rw [hwA.out]; simp
  have oA : wA.rangeAt w.heap.size 0 (saA t.n x S cS V cV).toList := by rw [hwA.out]; exact range_new w _ 33
  clear hwA
  have TA := T.below bA
  obtain ⟨tb, ib, eb, B, kt, ki, ke⟩ := TA.bks (by omega)
  by_cases hij : i = j
  · repeat ((conv => whnf); first | (refine VCmp.tt (by omega) ?_) | (refine VCmp.ff (by omega) ?_) | (refine VIn.mk (IntWalk.i64_in _ (by omega)) ?_) | (refine VIdx.mk _ rfl (by omega) ?_) | (refine VIdx.mk 0 rfl (by omega) ?_))
    try (conv => whnf)
    exact .mk ⟨rfl, K, X, by unfold Tm.hand; rw [if_pos hij]; exact TA, .below bA⟩
  have hla : ∀ b ∈ [h, tb, ib, eb, w.heap.size], b < wA.heap.size := fun b hb => by
    have := TA.hs; have := B.tz; have := B.iz; have := B.ez
    simp only [List.mem_cons, List.not_mem_nil, or_false] at hb
    rcases hb with rfl | rfl | rfl | rfl | rfl <;> omega
  have sd : Sm [h, tb, ib, eb, w.heap.size] wA wA.drew := fun _ _ => rfl
  have La := TA.l_at (l := [h, tb, ib, eb, w.heap.size]) B (by simp)
  have Lp := TA.l_ptr (l := [h, tb, ib, eb, w.heap.size]) B (by simp) hi hiz
  have Li : Ld Try.prog 3 w.heap.size 0 (Sm [h, tb, ib, eb, w.heap.size] wA) (.int .i64 x.inc) := ⟨fun W hW => load3 (cell_sm (oA 0 _ rfl) (by simp) hW)⟩
  have Lw : Ld Try.prog 31 w.heap.size 1 (Sm [h, tb, ib, eb, w.heap.size] wA) (.agg (propA x.w S cS V cV t.n)) := ⟨fun W hW => load_agg (by kernel_rfl) (by kernel_rfl) (range_sub (n := 9) (range_same oA (hW _ (by simp))) 1 rfl)⟩
  repeat ((conv => whnf); first | (refine VCmp.tt (by omega) ?_) | (refine VCmp.ff (by omega) ?_) | (refine VIn.mk (IntWalk.i64_in _ (by omega)) ?_) | (refine VIdx.mk _ rfl (by omega) ?_) | (refine VIdx.mk 0 rfl (by omega) ?_))
  try (conv => whnf)
  refine VDraw.mk 1000 [([0, 1, 2, 3, 4, 5, 6, 7, 8, 9, 10, 11], 12), ([], 13)] [14, 15, 16, 17, 18] (Sm [h, tb, ib, eb, w.heap.size] wA) (by kernel_rfl) (by kernel_rfl) (sd) ?_
  repeat ((conv => whnf); first | (refine VLoad.mk _ La ?_) | (refine VLoad.mk _ Lp ?_) | (refine VLoad.mk _ Li ?_) | (refine VLoad.mk _ Lw ?_) | (refine VCmp.tt (by omega) ?_) | (refine VCmp.ff (by omega) ?_) | (refine VIn.mk (IntWalk.i64_in _ (by omega)) ?_) | (refine VIdx.mk _ rfl (by omega) ?_) | (refine VIdx.mk 0 rfl (by omega) ?_))
  try (conv => whnf)
  have ex := ((O.nd j (O.lt hx)).2.2.2.each x hx).1.ok
  have l1 := take_len (n := t.n) ex.set n16
  have l2 := take_len (n := t.n) ex.vec n16
  have rSd := (rS.ro (Ro.below (R := (· ≠ 0)) (K := K) bA.drew) (by simp)).row
  have rVd := (rV.ro (Ro.below (R := (· ≠ 0)) (K := K) bA.drew) (by simp)).row
  have cp := copied_any S cS V cV wA.drew.heap.size t.n t.n (prW t.n x.w) (x.w.set.take t.n) (x.w.vec.take t.n) wA.drew l1 l2 (Nat.le_refl _) rSd rVd (by omega) (by omega)
  refine VCall.mk _ cp ?_
  rintro _ x1 ⟨g, c, g', d, rfl, oP, oV, hne, b1⟩
  refine ⟨_, rfl, ?_⟩
  have bA1 : Below wA.heap.size wA x1 := ⟨b1.os, b1.tape, b1.output, b1.size, b1.block⟩
  have z1 := bA1.size
  have T1 := TA.below bA1
  have a1 := T1.ag i hi
  repeat ((conv => whnf); first | (refine VS.mk (Sm.below bA1 hla) ?_) | (refine VCmp.tt (by omega) ?_) | (refine VCmp.ff (by omega) ?_) | (refine VIn.mk (IntWalk.i64_in _ (by omega)) ?_) | (refine VIdx.mk _ rfl (by omega) ?_) | (refine VIdx.mk 0 rfl (by omega) ?_))
  try (conv => whnf)
  have tk := take_any (X.ag i) (t.S i) (X.M i) (X.cM i) (some ⟨g, 0, none⟩) (some ⟨g', 0, none⟩) c d x1.heap.size (prW t.n x.w) j x.inc x1 a1.ag a1.hb oR.inv (Nat.le_refl _) (row_prefix (oP.row fun _ => rfl)) (row_prefix (oV.row fun _ => rfl)) (by show (x.w.set.take t.n).length ≤ _; omega) (by show (x.w.vec.take t.n).length ≤ _; omega) (fun W hW => (a1.row.ro (Ro.grown (R := (· = 10 + 2 * i)) hW fun b hb => by injection hb with hb; rw [← hb]; exact a1.kb) (by omega)).row) oR.rinv.len
  rw [prA_prW _ _ _ _ l1 l2] at tk
  refine VCall.mk _ tk ?_
  rintro _ x2 ⟨rfl, hL⟩
  refine ⟨_, rfl, ?_⟩
  obtain ⟨s, hs⟩ : ∃ s, s = ((t.S i).take j x.inc (prW t.n x.w)).2.2 := ⟨_, rfl⟩
  obtain ⟨e, he⟩ : ∃ e, e = ((t.S i).take j x.inc (prW t.n x.w)).2.1 := ⟨_, rfl⟩
  have hup := (take_ris oR j x.inc (prW t.n x.w)).2
  have hinv := (take_ris oR j x.inc (prW t.n x.w)).1.inv
  rw [← hs] at hL hup hinv
  rw [← he]
  obtain ⟨T2, Q2⟩ := T1.agent' hi hL hup.mem hup.inc
  have q12 : Sm [h, tb, ib, eb, w.heap.size] x1 x2 := fun b hb => by
    have hb' := hla b hb
    refine Q2.same b (by omega) ?_
    simp only [List.mem_cons, List.not_mem_nil, or_false] at hb
    rcases hb with rfl | rfl | rfl | rfl | rfl
    · rw [T.hk]; omega
    · rw [kt]; omega
    · rw [ki]; omega
    · rw [ke]; omega
    · rw [T.kz _ (Nat.le_refl _)]; omega
  repeat ((conv => whnf); first | (refine VS.mk ((Sm.below bA1 hla).trans q12) ?_) | (refine VCmp.tt (by omega) ?_) | (refine VCmp.ff (by omega) ?_) | (refine VIn.mk (IntWalk.i64_in _ (by omega)) ?_) | (refine VIdx.mk _ rfl (by omega) ?_) | (refine VIdx.mk 0 rfl (by omega) ?_))
  try (conv => whnf)
  have hans : t.hand i j x = { t.upd i s with sp := t.sp || decide (e = 3) } := by unfold Tm.hand; rw [if_neg hij, ← hs, ← he]
  rw [hans]
  have hsn : s.n = t.n := hup.n.trans on
  have q02 : Ro (· ≠ 0) K K w x2 := (Ro.below (bA.trans (bA1.mono (by omega)))).trans (Q2.more fun r hr => by omega)
  -- the mark, then notes: x2, T2 : the team with s at i
  have s2 := Sm.refl [h] x2
  cases hsp : t.sp with
  | true =>
    have Ls : Ld Try.prog 4 h 6 (Sm [h] x2) (.bool true) := by have := T2.l_sp (l := [h]) (by simp); rwa [show ({ t with S := upS t.S i s } : Tm).sp = t.sp from rfl, hsp] at this
    repeat ((conv => whnf); first | (refine VLoad.mk _ (Ls.at s2) ?_) | (refine VCmp.tt (by omega) ?_) | (refine VCmp.ff (by omega) ?_) | (refine VIn.mk (IntWalk.i64_in _ (by omega)) ?_) | (refine VIdx.mk _ rfl (by omega) ?_) | (refine VIdx.mk 0 rfl (by omega) ?_))
    try (conv => whnf)
    refine VStore.cell (by kernel_rfl) (T2.ht 6 (by omega)).1 (T2.ht 6 (by omega)).2 rfl rfl fun x3 hx3 => ?_
    obtain ⟨T3, Q3⟩ := T2.spset rfl true hx3.out
    repeat ((conv => whnf); first | (refine VCmp.tt (by omega) ?_) | (refine VCmp.ff (by omega) ?_) | (refine VIn.mk (IntWalk.i64_in _ (by omega)) ?_) | (refine VIdx.mk _ rfl (by omega) ?_) | (refine VIdx.mk 0 rfl (by omega) ?_))
    try (conv => whnf)
    refine VCall.mk _ (notes_any T3 hi hmz hz (NoIn.of O hi hinv hsn hl true)) ?_
    rintro _ x4 ⟨rfl, p4⟩
    refine ⟨_, rfl, ?_⟩
    repeat ((conv => whnf); first | (refine VCmp.tt (by omega) ?_) | (refine VCmp.ff (by omega) ?_) | (refine VIn.mk (IntWalk.i64_in _ (by omega)) ?_) | (refine VIdx.mk _ rfl (by omega) ?_) | (refine VIdx.mk 0 rfl (by omega) ?_))
    try (conv => whnf)
    have ac := after_call (t := t) (i := i) (s := s) (b := true)
    exact .mk ⟨rfl, by
      have := TP.trans (q02.trans (Q3.more fun r hr => by omega)) p4
      rw [ac] at this
      exact this⟩
  | false =>
    have Ls : Ld Try.prog 4 h 6 (Sm [h] x2) (.bool false) := by have := T2.l_sp (l := [h]) (by simp); rwa [show ({ t with S := upS t.S i s } : Tm).sp = t.sp from rfl, hsp] at this
    by_cases he3 : e = 3
    · rw [decide_eq_true he3]
      repeat ((conv => whnf); first | (refine VLoad.mk _ (Ls.at s2) ?_) | (refine VCmp.tt (by omega) ?_) | (refine VCmp.ff (by omega) ?_) | (refine VIn.mk (IntWalk.i64_in _ (by omega)) ?_) | (refine VIdx.mk _ rfl (by omega) ?_) | (refine VIdx.mk 0 rfl (by omega) ?_))
      try (conv => whnf)
      refine VStore.cell (by kernel_rfl) (T2.ht 6 (by omega)).1 (T2.ht 6 (by omega)).2 rfl rfl fun x3 hx3 => ?_
      obtain ⟨T3, Q3⟩ := T2.spset rfl true hx3.out
      repeat ((conv => whnf); first | (refine VCmp.tt (by omega) ?_) | (refine VCmp.ff (by omega) ?_) | (refine VIn.mk (IntWalk.i64_in _ (by omega)) ?_) | (refine VIdx.mk _ rfl (by omega) ?_) | (refine VIdx.mk 0 rfl (by omega) ?_))
      try (conv => whnf)
      refine VCall.mk _ (notes_any T3 hi hmz hz (NoIn.of O hi hinv hsn hl true)) ?_
      rintro _ x4 ⟨rfl, p4⟩
      refine ⟨_, rfl, ?_⟩
      repeat ((conv => whnf); first | (refine VCmp.tt (by omega) ?_) | (refine VCmp.ff (by omega) ?_) | (refine VIn.mk (IntWalk.i64_in _ (by omega)) ?_) | (refine VIdx.mk _ rfl (by omega) ?_) | (refine VIdx.mk 0 rfl (by omega) ?_))
      try (conv => whnf)
      have ac := after_call (t := t) (i := i) (s := s) (b := true)
      exact .mk ⟨rfl, by
        have := TP.trans (q02.trans (Q3.more fun r hr => by omega)) p4
        rw [ac] at this
        exact this⟩
    · rw [decide_eq_false he3]
      repeat ((conv => whnf); first | (refine VLoad.mk _ (Ls.at s2) ?_) | (refine VCmp.tt (by omega) ?_) | (refine VCmp.ff (by omega) ?_) | (refine VIn.mk (IntWalk.i64_in _ (by omega)) ?_) | (refine VIdx.mk _ rfl (by omega) ?_) | (refine VIdx.mk 0 rfl (by omega) ?_))
      try (conv => whnf)
      refine VStore.cell (by kernel_rfl) (T2.ht 6 (by omega)).1 (T2.ht 6 (by omega)).2 rfl rfl fun x3 hx3 => ?_
      obtain ⟨T3, Q3⟩ := T2.spset rfl false hx3.out
      repeat ((conv => whnf); first | (refine VCmp.tt (by omega) ?_) | (refine VCmp.ff (by omega) ?_) | (refine VIn.mk (IntWalk.i64_in _ (by omega)) ?_) | (refine VIdx.mk _ rfl (by omega) ?_) | (refine VIdx.mk 0 rfl (by omega) ?_))
      try (conv => whnf)
      refine VCall.mk _ (notes_any T3 hi hmz hz (NoIn.of O hi hinv hsn hl false)) ?_
      rintro _ x4 ⟨rfl, p4⟩
      refine ⟨_, rfl, ?_⟩
      repeat ((conv => whnf); first | (refine VCmp.tt (by omega) ?_) | (refine VCmp.ff (by omega) ?_) | (refine VIn.mk (IntWalk.i64_in _ (by omega)) ?_) | (refine VIdx.mk _ rfl (by omega) ?_) | (refine VIdx.mk 0 rfl (by omega) ?_))
      try (conv => whnf)
      have ac := after_call (t := t) (i := i) (s := s) (b := false)
      exact .mk ⟨rfl, by
        have := TP.trans (q02.trans (Q3.more fun r hr => by omega)) p4
        rw [ac] at this
        exact this⟩
end Go.Proofs.Ytfbeggdbjpmppaa
