/- FolW, joined. -/
import Derived.Test.YtfbeggdbjpmppaaMf17
set_option linter.unusedVariables false
set_option linter.unusedSimpArgs false
namespace Go.Proofs.Ytfbeggdbjpmppaa
open Go Go.RowKit
set_option maxRecDepth 100000 in
set_option maxHeartbeats 8000000 in
theorem follows_walk (nodes i0 j0 : Int) (A : Option Addr) (cA len : Nat) (play : List Sp) (w : World) (hlen : play.length = len) (hA : RowAt w w.heap.size 5 eSp A play) (hl : len ≤ 100000000) :
    Calls Try.prog 14 #[.int .i64 nodes, .slice A len cA, .int .i64 i0, .int .i64 j0] w fun e w' => e = .returned (.bool true) ∧ Below w.heap.size w w' := by
  refine calls_vc tab_ok Try.func14 rfl ?_
  obtain ⟨n2, n16⟩ := sizeN_in nodes
  conv => whnf
  repeat ((conv => whnf); first | (refine VCmp.tt (by omega) ?_) | (refine VCmp.ff (by omega) ?_) | (refine VIn.mk (IntWalk.i64_in _ (by omega)) ?_) | (refine VIdx.mk _ rfl (by omega) ?_) | (refine VIdx.mk 0 rfl (by omega) ?_))
  try (conv => whnf)
  refine VCall.mk _ (size_any nodes w) ?_
  rintro _ _ ⟨rfl, rfl⟩
  refine ⟨_, rfl, ?_⟩
  generalize sizeN nodes = n at n2 n16 ⊢
  rename_i w
  repeat ((conv => whnf); first | (refine VCmp.tt (by omega) ?_) | (refine VCmp.ff (by omega) ?_) | (refine VIn.mk (IntWalk.i64_in _ (by omega)) ?_) | (refine VIdx.mk _ rfl (by omega) ?_) | (refine VIdx.mk 0 rfl (by omega) ?_))
  try (conv => whnf)
  refine VCall.mk _ (starts_any (fl := 0) w (by omega) n16 (by decide) (by decide)) ?_
  rintro _ x1 ⟨g, rfl, hg, K1, X1, T1, k1, b1⟩
  refine ⟨_, rfl, ?_⟩
  have P0 := Ply.start (n := n) (by omega) n16
  have M0 : TmS w x1 g n (bootTo (tm0 n 0) n) K1 X1 := ⟨hg, P0.nn, T1, k1, b1⟩
  repeat ((conv => whnf); first | (refine VCmp.tt (by omega) ?_) | (refine VCmp.ff (by omega) ?_) | (refine VIn.mk (IntWalk.i64_in _ (by omega)) ?_) | (refine VIdx.mk _ rfl (by omega) ?_) | (refine VIdx.mk 0 rfl (by omega) ?_))
  try (conv => whnf)
  refine VLoop.mk Nat (fun k => [(1, .slice A len cA), (2, .int .i64 i0), (3, .int .i64 j0), (10, .pointer (some ⟨g, 0, none⟩)), (11, .int .i64 k)]) (fun k W => k ≤ len ∧ ∃ t K X, Ply n k t ∧ TmS w W g n t K X) (fun k => len - k) 0 ⟨rfl, rfl, rfl, rfl, rfl, trivial⟩ ⟨Nat.zero_le _, _, K1, X1, P0, M0⟩ ?_
  rintro k wk ⟨hk, t, K, X, P, M⟩
  by_cases hkl : k < len
  · obtain ⟨s, hs⟩ : ∃ s, play[k]? = some s := ⟨_, List.getElem?_eq_getElem (by omega)⟩
    obtain ⟨b, o, rfl, hb, hc⟩ := hA (by omega)
    have rs : wk.rangeAt b (o + k * 5) (spA s).toList := fun j u hu => (World.cell?_of_block (a := ⟨b, o + k * 5 + j, none⟩) (M.be.block b hb)).trans (hc k s hs j u hu)
    have Ls : Ld Try.prog 55 b (o + k * 5) (Eq wk) (.agg (spA s)) := .of (load_agg (by kernel_rfl) (by kernel_rfl) rs)
    have Tk := M.tm
    have Ok' := P.ok
    have nn := M.nn
    rw [← nn] at Tk Ok'
    have pl := team_plays Tk Ok' (P.cnt.szs (by omega) P.db) s
    rw [nn] at pl
    repeat ((conv => whnf); first | (refine VLoad.mk _ Ls ?_) | (refine VCmp.tt (by omega) ?_) | (refine VCmp.ff (by omega) ?_) | (refine VIn.mk (IntWalk.i64_in _ (by omega)) ?_) | (refine VIdx.mk _ rfl (by omega) ?_) | (refine VIdx.mk 0 rfl (by omega) ?_))
    try (conv => whnf)
    refine VCall.mk _ pl ?_
    rintro _ x9 ⟨rfl, p9⟩
    refine ⟨_, rfl, ?_⟩
    obtain ⟨K9, X9, M9, -⟩ := M.step (t' := t.step s) ((step_n t s).trans nn) p9
    repeat ((conv => whnf); first | (refine VCmp.tt (by omega) ?_) | (refine VCmp.ff (by omega) ?_) | (refine VIn.mk (IntWalk.i64_in _ (by omega)) ?_) | (refine VIdx.mk _ rfl (by omega) ?_) | (refine VIdx.mk 0 rfl (by omega) ?_))
    try (conv => whnf)
    exact .mk (k + 1) ⟨rfl, rfl, rfl, rfl, rfl, trivial⟩ ⟨hkl, t.step s, K9, X9, P.step (by omega) s, M9⟩ (by show len - (k + 1) < len - k; omega)
  · obtain rfl : k = len := by omega
    have n1 : 1 ≤ t.n := by have := P.nn; omega
    have tn16 : t.n ≤ 16 := by have := P.nn; omega
    repeat ((conv => whnf); first | (refine VCmp.tt (by omega) ?_) | (refine VCmp.ff (by omega) ?_) | (refine VIn.mk (IntWalk.i64_in _ (by omega)) ?_) | (refine VIdx.mk _ rfl (by omega) ?_) | (refine VIdx.mk 0 rfl (by omega) ?_))
    try (conv => whnf)
    refine VCall.mk _ (node_any M.tm n1 tn16 i0) ?_
    rintro _ _ ⟨rfl, rfl⟩
    refine ⟨_, rfl, ?_⟩
    rename_i wk
    repeat ((conv => whnf); first | (refine VCmp.tt (by omega) ?_) | (refine VCmp.ff (by omega) ?_) | (refine VIn.mk (IntWalk.i64_in _ (by omega)) ?_) | (refine VIdx.mk _ rfl (by omega) ?_) | (refine VIdx.mk 0 rfl (by omega) ?_))
    try (conv => whnf)
    refine VCall.mk _ (node_any M.tm n1 tn16 j0) ?_
    rintro _ _ ⟨rfl, rfl⟩
    refine ⟨_, rfl, ?_⟩
    rename_i wk
    have hi : t.node i0 < n := by have := Tm.node_lt n1 i0; have := P.nn; omega
    obtain ⟨hj, hne⟩ := two_ne (t := t) (by have := P.nn; omega) i0 j0
    rw [P.nn] at hj
    by_cases hij : t.node i0 = t.node j0
    · have hij' : (t.node i0 : Int) = t.node j0 := by omega
      have e2 : t.two i0 j0 = t.node ((t.node i0 : Int) + 1) := by unfold Tm.two; rw [if_pos hij]
      rw [e2] at hj hne
      repeat ((conv => whnf); first | (refine VCmp.tt (by omega) ?_) | (refine VCmp.ff (by omega) ?_) | (refine VIn.mk (IntWalk.i64_in _ (by omega)) ?_) | (refine VIdx.mk _ rfl (by omega) ?_) | (refine VIdx.mk 0 rfl (by omega) ?_))
      try (conv => whnf)
      refine VCall.mk _ (node_any M.tm n1 tn16 ((t.node i0 : Int) + 1)) ?_
      rintro _ _ ⟨rfl, rfl⟩
      refine ⟨_, rfl, ?_⟩
      rename_i wk
      generalize t.node ((t.node i0 : Int) + 1) = j at hj hne ⊢
      clear e2 hij hij'
      generalize t.node i0 = i at hi hne ⊢
      -- behind the choice of i and j: world wk, t, K, X, P, M; hi : i < n, hj : j < n, hne : i ≠ j
      repeat ((conv => whnf); first | (refine VCmp.tt (by omega) ?_) | (refine VCmp.ff (by omega) ?_) | (refine VIn.mk (IntWalk.i64_in _ (by omega)) ?_) | (refine VIdx.mk _ rfl (by omega) ?_) | (refine VIdx.mk 0 rfl (by omega) ?_))
      try (conv => whnf)
      refine VCall.mk _ (installs_any M.tm P.ok hi (Nat.le_refl _) n16 (by have := P.cnt.e i; omega) (by have := P.cnt.d; omega) P.db) ?_
      rintro _ x5 ⟨rfl, p5⟩
      refine ⟨_, rfl, ?_⟩
      have P5 := P.inst hi
      obtain ⟨K5, X5, M5, -⟩ := M.step (t' := t.inst i) P5.nn p5
      generalize t.inst i = t5 at P5 M5
      have T5 := M5.tm
      obtain ⟨tb, ib, eb, B, kt, ki, ke⟩ := T5.bks (by omega)
      obtain ⟨on, oR, oH, oN⟩ := P5.ok.nd i hi
      obtain ⟨onj, oRj, oHj, oNj⟩ := P5.ok.nd j hj
      rw [P5.nn] at on onj
      have Ai := T5.ag i hi
      have La := T5.l_at (l := [g, tb]) B (by simp)
      have Lpi := T5.l_ptr (i := i) (l := [g, tb]) B (by simp) hi hi
      have Lpj := T5.l_ptr (i := j) (l := [g, tb]) B (by simp) hj hj
      have hl5 : ∀ b ∈ [g, tb], b < x5.heap.size := fun b hb => by
        have h1 := T5.hs; have h2 := B.tz
        simp only [List.mem_cons, List.not_mem_nil, or_false] at hb
        rcases hb with rfl | rfl
        · exact h1
        · exact h2
      have hs5 : ∀ W, Below x5.heap.size x5 W → Sm [g, tb] x5 W := fun W hW => .below hW hl5
      have s5 := Sm.refl [g, tb] x5
      repeat ((conv => whnf); first | (refine VLoad.mk _ (La.at s5) ?_) | (refine VLoad.mk _ (Lpi.at s5) ?_) | (refine VCmp.tt (by omega) ?_) | (refine VCmp.ff (by omega) ?_) | (refine VIn.mk (IntWalk.i64_in _ (by omega)) ?_) | (refine VIdx.mk _ rfl (by omega) ?_) | (refine VIdx.mk 0 rfl (by omega) ?_))
      try (conv => whnf)
      refine VCall.mk _ (proposal_any (X5.ag i) (t5.S i) (X5.M i) (X5.cM i) x5 Ai.ag Ai.hb (by omega)) ?_
      rintro _ x6 ⟨Pi, Vi, rfl, rPi, rVi, b6⟩
      refine ⟨_, rfl, ?_⟩
      rw [on] at rPi rVi ⊢
      repeat ((conv => whnf); first | (refine VCmp.tt (by omega) ?_) | (refine VCmp.ff (by omega) ?_) | (refine VIn.mk (IntWalk.i64_in _ (by omega)) ?_) | (refine VIdx.mk _ rfl (by omega) ?_) | (refine VIdx.mk 0 rfl (by omega) ?_))
      try (conv => whnf)
      refine .mk _ run_zero31 ?_
      conv => whnf
      refine .mk fun u7 hu7 => ?_
      repeat ((conv => whnf); first | (refine VCmp.tt (by omega) ?_) | (refine VCmp.ff (by omega) ?_) | (refine VIn.mk (IntWalk.i64_in _ (by omega)) ?_) | (refine VIdx.mk _ rfl (by omega) ?_) | (refine VIdx.mk 0 rfl (by omega) ?_))
      try (conv => whnf)
      refine VStore.new (c' := propA (t5.S i).own Pi n Vi n n) hu7 (by kernel_rfl) rfl (one_propA _ _ _ _ _ _) fun x8 hx8 => ?_
      have c8 : Below x6.heap.size x6 x8 := by rw [hx8.out]; exact (Below.refl _ _).alloc (Nat.le_refl _) _
      have z8 : x8.heap.size = x6.heap.size + 1 := by rw [hx8.out]; simp
      have r8 : x8.rangeAt x6.heap.size 0 (propA (t5.S i).own Pi n Vi n n).toList := by rw [hx8.out]; exact range_new x6 _ 31
      clear hu7 hx8 u7
      have z6 := b6.size
      have b8 : Below x5.heap.size x5 x8 := b6.trans (c8.mono z6)
      have T8 := T5.below b8
      have Aj := T8.ag j hj
      repeat ((conv => whnf); first | (refine VLoad.mk _ (La.at (hs5 _ b8)) ?_) | (refine VLoad.mk _ (Lpj.at (hs5 _ b8)) ?_) | (refine VCmp.tt (by omega) ?_) | (refine VCmp.ff (by omega) ?_) | (refine VIn.mk (IntWalk.i64_in _ (by omega)) ?_) | (refine VIdx.mk _ rfl (by omega) ?_) | (refine VIdx.mk 0 rfl (by omega) ?_))
      try (conv => whnf)
      refine VCall.mk _ (proposal_any (X5.ag j) (t5.S j) (X5.M j) (X5.cM j) x8 Aj.ag Aj.hb (by omega)) ?_
      rintro _ x9 ⟨Pj, Vj, rfl, rPj, rVj, b9⟩
      refine ⟨_, rfl, ?_⟩
      rw [onj] at rPj rVj ⊢
      have z9 := b9.size
      repeat ((conv => whnf); first | (refine VCmp.tt (by omega) ?_) | (refine VCmp.ff (by omega) ?_) | (refine VIn.mk (IntWalk.i64_in _ (by omega)) ?_) | (refine VIdx.mk _ rfl (by omega) ?_) | (refine VIdx.mk 0 rfl (by omega) ?_))
      try (conv => whnf)
      refine .mk _ run_zero31 ?_
      conv => whnf
      refine .mk fun u7 hu7 => ?_
      repeat ((conv => whnf); first | (refine VCmp.tt (by omega) ?_) | (refine VCmp.ff (by omega) ?_) | (refine VIn.mk (IntWalk.i64_in _ (by omega)) ?_) | (refine VIdx.mk _ rfl (by omega) ?_) | (refine VIdx.mk 0 rfl (by omega) ?_))
      try (conv => whnf)
      refine VStore.new (c' := propA (t5.S j).own Pj n Vj n n) hu7 (by kernel_rfl) rfl (one_propA _ _ _ _ _ _) fun x11 hx11 => ?_
      have c11 : Below x9.heap.size x9 x11 := by rw [hx11.out]; exact (Below.refl _ _).alloc (Nat.le_refl _) _
      have z11 : x11.heap.size = x9.heap.size + 1 := by rw [hx11.out]; simp
      have r11 : x11.rangeAt x9.heap.size 0 (propA (t5.S j).own Pj n Vj n n).toList := by rw [hx11.out]; exact range_new x9 _ 31
      clear hu7 hx11 u7
      have b811 : Below x8.heap.size x8 x11 := b9.trans (c11.mono z9)
      have b11 : Below x5.heap.size x5 x11 := b8.trans (b811.mono b8.size)
      have T11 := T5.below b11
      have Ai11 := T11.ag i hi
      repeat ((conv => whnf); first | (refine VCmp.tt (by omega) ?_) | (refine VCmp.ff (by omega) ?_) | (refine VIn.mk (IntWalk.i64_in _ (by omega)) ?_) | (refine VIdx.mk _ rfl (by omega) ?_) | (refine VIdx.mk 0 rfl (by omega) ?_))
      try (conv => whnf)
      refine VCall.mk _ (view_any (X5.ag i) (t5.S i) (X5.M i) (X5.cM i) x11.heap.size x11 Ai11.ag Ai11.hb (Nat.le_refl _) Ai11.row.row oR.rinv.len) ?_
      rintro _ x12 ⟨Va, cVa, rfl, rVa, b12⟩
      refine ⟨_, rfl, ?_⟩
      have z12 := b12.size
      repeat ((conv => whnf); first | (refine VCmp.tt (by omega) ?_) | (refine VCmp.ff (by omega) ?_) | (refine VIn.mk (IntWalk.i64_in _ (by omega)) ?_) | (refine VIdx.mk _ rfl (by omega) ?_) | (refine VIdx.mk 0 rfl (by omega) ?_))
      try (conv => whnf)
      refine .mk _ run_zero46 ?_
      conv => whnf
      refine .mk fun u7 hu7 => ?_
      repeat ((conv => whnf); first | (refine VCmp.tt (by omega) ?_) | (refine VCmp.ff (by omega) ?_) | (refine VIn.mk (IntWalk.i64_in _ (by omega)) ?_) | (refine VIdx.mk _ rfl (by omega) ?_) | (refine VIdx.mk 0 rfl (by omega) ?_))
      try (conv => whnf)
      refine VStore.new (c' := viewA (t5.S i).vid Va (t5.S i).mem.length cVa) hu7 (by kernel_rfl) rfl (one_viewA _ _ _ _) fun x14 hx14 => ?_
      have c14 : Below x12.heap.size x12 x14 := by rw [hx14.out]; exact (Below.refl _ _).alloc (Nat.le_refl _) _
      have z14 : x14.heap.size = x12.heap.size + 1 := by rw [hx14.out]; simp
      have r14 : x14.rangeAt x12.heap.size 0 (viewA (t5.S i).vid Va (t5.S i).mem.length cVa).toList := by rw [hx14.out]; exact range_new x12 _ 46
      clear hu7 hx14 u7
      have b1114 : Below x11.heap.size x11 x14 := b12.trans (c14.mono z12)
      have b14 : Below x5.heap.size x5 x14 := b11.trans (b1114.mono b11.size)
      have T14 := T5.below b14
      have Ai14 := T14.ag i hi
      repeat ((conv => whnf); first | (refine VCmp.tt (by omega) ?_) | (refine VCmp.ff (by omega) ?_) | (refine VIn.mk (IntWalk.i64_in _ (by omega)) ?_) | (refine VIdx.mk _ rfl (by omega) ?_) | (refine VIdx.mk 0 rfl (by omega) ?_))
      try (conv => whnf)
      refine VCall.mk _ (changing_any (X5.ag i) (t5.S i) (X5.M i) (X5.cM i) x14 Ai14.ag) ?_
      rintro _ _ ⟨rfl, rfl⟩
      refine ⟨_, rfl, ?_⟩
      rename_i x14
      repeat ((conv => whnf); first | (refine VCmp.tt (by omega) ?_) | (refine VCmp.ff (by omega) ?_) | (refine VIn.mk (IntWalk.i64_in _ (by omega)) ?_) | (refine VIdx.mk _ rfl (by omega) ?_) | (refine VIdx.mk 0 rfl (by omega) ?_))
      try (conv => whnf)
      have b914 : Below x9.heap.size x9 x14 := c11.trans (b1114.mono (by omega))
      have b614 : Below x6.heap.size x6 x14 := c8.trans ((b811.trans (b1114.mono b811.size)).mono (by omega))
      have r6at : x14.rangeAt x6.heap.size 0 (propA (t5.S i).own Pi n Vi n n).toList := range_same r8 ((b811.trans (b1114.mono b811.size)).block _ (by omega))
      have r9at : x14.rangeAt x9.heap.size 0 (propA (t5.S j).own Pj n Vj n n).toList := range_same r11 (b1114.block _ (by omega))
      have rPj14 := rPj.below b914
      have rVj14 := rVj.below b914
      have hl14 : ∀ b ∈ [g, ib, x9.heap.size], b < x14.heap.size := fun b hb => by
        have h1 := T14.hs; have h2 := B.iz; have h3 := b14.size; have h4 := b914.size; have h5 := b1114.size
        simp only [List.mem_cons, List.not_mem_nil, or_false] at hb
        rcases hb with rfl | rfl | rfl
        · exact h1
        · omega
        · omega
      have B14 : Bks x14 X5 tb ib eb := ⟨B.t, B.i, B.e, by have := B.tz; have := b14.size; omega, by have := B.iz; have := b14.size; omega, by have := B.ez; have := b14.size; omega⟩
      have Ti := T14.l_inc (l := [g, ib, x9.heap.size]) B14 (by simp)
      have Tv := T14.l_iv (i := j) (l := [g, ib, x9.heap.size]) B14 (by simp) hj
      have Tq : Ld Try.prog 31 x9.heap.size 0 (Sm [g, ib, x9.heap.size] x14) (.agg (propA (t5.S j).own Pj n Vj n n)) := ⟨fun W hW => load_agg (by kernel_rfl) (by kernel_rfl) (range_same r9at (hW _ (by simp)))⟩
      have sd14 : Sm [g, ib, x9.heap.size] x14 x14.drew := fun _ _ => rfl
      refine VDraw.mk 1000 [([0, 1, 2, 3, 4, 5, 6, 7, 8, 9], 10), ([], 11)] [12, 13, 14, 15, 16] (Sm [g, ib, x9.heap.size] x14) (by kernel_rfl) (by kernel_rfl) (sd14) ?_
      repeat ((conv => whnf); first | (refine VLoad.mk _ Ti ?_) | (refine VLoad.mk _ Tv ?_) | (refine VLoad.mk _ Tq ?_) | (refine VCmp.tt (by omega) ?_) | (refine VCmp.ff (by omega) ?_) | (refine VIn.mk (IntWalk.i64_in _ (by omega)) ?_) | (refine VIdx.mk _ rfl (by omega) ?_) | (refine VIdx.mk 0 rfl (by omega) ?_))
      try (conv => whnf)
      have l1 := take_len (n := n) oRj.inv.own.set n16
      have l2 := take_len (n := n) oRj.inv.own.vec n16
      have bd14 : Below x14.heap.size x14 x14.drew := (Below.refl _ _).drew
      have cp := copied_any Pj n Vj n x14.drew.heap.size n n (prW n (t5.S j).own) ((t5.S j).own.set.take n) ((t5.S j).own.vec.take n) x14.drew l1 l2 (Nat.le_refl _) (rPj14.below bd14).row (rVj14.below bd14).row (by omega) (by omega)
      refine VCall.mk _ cp ?_
      rintro _ x15 ⟨gg, cg, gh, ch, rfl, oP, oV, hgh, b15⟩
      refine ⟨_, rfl, ?_⟩
      have c15 : Below x14.heap.size x14 x15 := ⟨b15.os, b15.tape, b15.output, b15.size, b15.block⟩
      have T15 := T14.below c15
      have A15 := T15.ag i hi
      repeat ((conv => whnf); first | (refine VS.mk (Sm.below c15 hl14) ?_) | (refine VCmp.tt (by omega) ?_) | (refine VCmp.ff (by omega) ?_) | (refine VIn.mk (IntWalk.i64_in _ (by omega)) ?_) | (refine VIdx.mk _ rfl (by omega) ?_) | (refine VIdx.mk 0 rfl (by omega) ?_))
      try (conv => whnf)
      have tk := take_any (X5.ag i) (t5.S i) (X5.M i) (X5.cM i) (some ⟨gg, 0, none⟩) (some ⟨gh, 0, none⟩) cg ch x15.heap.size (prW n (t5.S j).own) j (t5.S j).inc x15 A15.ag A15.hb oR.inv (Nat.le_refl _) (row_prefix (oP.row fun _ => rfl)) (row_prefix (oV.row fun _ => rfl)) (by show ((t5.S j).own.set.take n).length ≤ _; omega) (by show ((t5.S j).own.vec.take n).length ≤ _; omega) (fun W hW => (A15.row.ro (Ro.grown (R := (· = 10 + 2 * i)) hW fun b hb => by injection hb with hb; rw [← hb]; exact A15.kb) (by omega)).row) oR.rinv.len
      rw [prA_prW _ _ _ _ l1 l2] at tk
      refine VCall.mk _ tk ?_
      rintro _ x16 ⟨rfl, hL⟩
      refine ⟨_, rfl, ?_⟩
      have fp := follows_plain P5.ok hi hj hne P5.bd (by omega) P5.mc
      rw [P5.nn] at fp
      have hup := (take_ris oR j (t5.S j).inc (prW n (t5.S j).own)).2
      have hinv := (take_ris oR j (t5.S j).inc (prW n (t5.S j).own)).1.inv
      generalize hr : (t5.S i).take j (t5.S j).inc (prW n (t5.S j).own) = r at hL hup hinv fp ⊢
      obtain ⟨bg, er, s⟩ := r
      dsimp only at hL hup hinv fp ⊢
      obtain ⟨T16, Q16⟩ := T15.agent' hi hL hup.mem hup.inc
      have A16 := T16.ag i hi
      rw [show ({ t5 with S := upS t5.S i s } : Tm).S i = upS t5.S i s i from rfl, upS_same] at A16
      have q16 : Sm [g, ib, x9.heap.size] x15 x16 := fun b hb => by
        have hb' := hl14 b hb
        refine Q16.same b (by have := c15.size; omega) ?_
        simp only [List.mem_cons, List.not_mem_nil, or_false] at hb
        rcases hb with rfl | rfl | rfl
        · rw [T5.hk]; omega
        · rw [ki]; omega
        · rw [T5.kz _ (by have := b8.size; omega)]; omega
      have b16 : Below w.heap.size w x16 := (ro_below M5.k0 (M5.be.trans ((b14.trans (c15.mono b14.size)).mono M5.be.size)) (Q16.more fun r hr => by omega)).2
      repeat ((conv => whnf); first | (refine VS.mk ((Sm.below c15 hl14).trans q16) ?_) | (refine VCmp.tt (by omega) ?_) | (refine VCmp.ff (by omega) ?_) | (refine VIn.mk (IntWalk.i64_in _ (by omega)) ?_) | (refine VIdx.mk _ rfl (by omega) ?_) | (refine VIdx.mk 0 rfl (by omega) ?_))
      try (conv => whnf)
      have k6 : K5 x6.heap.size = 0 := T5.kz _ z6
      have r6e : x16.rangeAt x6.heap.size 0 (propA (t5.S i).own Pi n Vi n n).toList := range_same r6at ((Q16.same _ (by have := c15.size; have := b614.size; omega) (by rw [k6]; omega)).trans (c15.block _ (by have := b614.size; omega)))
      have b615 : Below x6.heap.size x6 x15 := b614.trans (c15.mono b614.size)
      have kP : RowK x16 K5 1 eInt Pi ((t5.S i).own.set.take n) := ((RowK.new rPi (fun b hb => T5.kz b hb)).ro (Ro.below (R := fun _ => False) b615) id).ro Q16 (by omega)
      have kV : RowK x16 K5 1 eInt Vi ((t5.S i).own.vec.take n) := ((RowK.new rVi (fun b hb => T5.kz b hb)).ro (Ro.below (R := fun _ => False) b615) id).ro Q16 (by omega)
      have li1 := take_len (n := n) oR.inv.own.set n16
      have li2 := take_len (n := n) oR.inv.own.vec n16
      rcases fp with fp | ⟨fe, fn, fy⟩
      · injection fp with f1 f2
        injection f2 with f2 f3
        subst f1; subst f2; subst f3
        have sd16 : Sm [x6.heap.size] x16 x16.drew := fun _ _ => rfl
        have bd16 : Below x16.heap.size x16 x16.drew := (Below.refl _ _).drew
        have Tp : Ld Try.prog 31 x6.heap.size 0 (Sm [x6.heap.size] x16) (.agg (propA (t5.S i).own Pi n Vi n n)) := ⟨fun W hW => load_agg (by kernel_rfl) (by kernel_rfl) (range_same r6e (hW _ (by simp)))⟩
        have A17 := A16.ro (Ro.below (R := fun _ => False) (K := K5) bd16) id id
        have h6z : x6.heap.size < x16.heap.size := by have := Q16.size; have := c15.size; have := b614.size; omega
        repeat ((conv => whnf); first | (refine VCmp.tt (by omega) ?_) | (refine VCmp.ff (by omega) ?_) | (refine VIn.mk (IntWalk.i64_in _ (by omega)) ?_) | (refine VIdx.mk _ rfl (by omega) ?_) | (refine VIdx.mk 0 rfl (by omega) ?_))
        try (conv => whnf)
        refine VDraw.mk 1000 [([0, 1, 2, 3, 5], 4), ([], 6)] [7, 8] (Sm [x6.heap.size] x16) (by kernel_rfl) (by kernel_rfl) (sd16) ?_
        repeat ((conv => whnf); first | (refine VLoad.mk _ Tp ?_) | (refine VCmp.tt (by omega) ?_) | (refine VCmp.ff (by omega) ?_) | (refine VIn.mk (IntWalk.i64_in _ (by omega)) ?_) | (refine VIdx.mk _ rfl (by omega) ?_) | (refine VIdx.mk 0 rfl (by omega) ?_))
        try (conv => whnf)
        refine VCall.mk _ (proposal_any (X5.ag i) (t5.S i) (X5.M i) (X5.cM i) x16.drew A17.ag A17.hb (by omega)) ?_
        rintro _ x17 ⟨P2, V2', rfl, rP2, rV2, b17⟩
        refine ⟨_, rfl, ?_⟩
        rw [on] at rP2 rV2 ⊢
        have c17 : Below x16.heap.size x16 x17 := ⟨b17.os, b17.tape, b17.output, b17.size, b17.block⟩
        repeat ((conv => whnf); first | (refine VS.mk (Sm.below c17 (by simp; omega)) ?_) | (refine VCmp.tt (by omega) ?_) | (refine VCmp.ff (by omega) ?_) | (refine VIn.mk (IntWalk.i64_in _ (by omega)) ?_) | (refine VIdx.mk _ rfl (by omega) ?_) | (refine VIdx.mk 0 rfl (by omega) ?_))
        try (conv => whnf)
        repeat ((conv => whnf); first | (refine VLoad.mk _ Tp ?_) | (refine VCmp.tt (by omega) ?_) | (refine VCmp.ff (by omega) ?_) | (refine VIn.mk (IntWalk.i64_in _ (by omega)) ?_) | (refine VIdx.mk _ rfl (by omega) ?_) | (refine VIdx.mk 0 rfl (by omega) ?_))
        try (conv => whnf)
        have pp := proposals_any P2 V2' Pi Vi n n n n x17.heap.size n n n n (prW n (t5.S i).own) (prW n (t5.S i).own) ((t5.S i).own.set.take n) ((t5.S i).own.vec.take n) ((t5.S i).own.set.take n) ((t5.S i).own.vec.take n) x17 li1 li2 li1 li2 (Nat.le_refl _) rP2.row rV2.row ((kP.row.below c17 (Nat.le_refl _)).more c17.size) ((kV.row.below c17 (Nat.le_refl _)).more c17.size) (by omega) (by omega) (by omega) (by omega)
        rw [prSame_refl] at pp
        refine VCall.mk _ pp ?_
        rintro _ x18 ⟨rfl, b18⟩
        refine ⟨_, rfl, ?_⟩
        have c18 : Below x16.heap.size x16 x18 := c17.trans (b18.mono c17.size)
        repeat ((conv => whnf); first | (refine VS.mk (Sm.below c18 (by simp; omega)) ?_) | (refine VCmp.tt (by omega) ?_) | (refine VCmp.ff (by omega) ?_) | (refine VIn.mk (IntWalk.i64_in _ (by omega)) ?_) | (refine VIdx.mk _ rfl (by omega) ?_) | (refine VIdx.mk 0 rfl (by omega) ?_))
        try (conv => whnf)
        exact .mk ⟨rfl, b16.trans (c18.mono b16.size)⟩
      · obtain rfl : er = 0 := fe
        have kA : RowK x16 K5 3 eMb Va (t5.S i).mem := ((RowK.new rVa (fun b hb => T5.kz b (Nat.le_trans b11.size hb))).ro (Ro.below (R := fun _ => False) (c14.trans (c15.mono (by omega)))) id).ro Q16 (by omega)
        have z1416 : x14.heap.size ≤ x16.heap.size := Nat.le_trans c15.size Q16.size
        have old14 : ∀ b, b < x14.heap.size → K5 b = 0 → x16.heap[b]? = x14.heap[b]? := fun b hb h0 => (Q16.same b (by have := c15.size; omega) (by rw [h0]; omega)).trans (c15.block b hb)
        have k12 : K5 x12.heap.size = 0 := T5.kz _ (by have := b11.size; omega)
        have k9 : K5 x9.heap.size = 0 := T5.kz _ (by have := b8.size; omega)
        have r12e := range_same r14 (old14 x12.heap.size (by omega) k12)
        have r9e := range_same r9at (old14 x9.heap.size (hl14 _ (by simp)) k9)
        have hl16 : ∀ b ∈ [g, ib, x9.heap.size, x12.heap.size, x6.heap.size], b < x16.heap.size := fun b hb => by
          simp only [List.mem_cons, List.not_mem_nil, or_false] at hb
          rcases hb with rfl | rfl | rfl | rfl | rfl
          · exact T16.hs
          · have := hl14 _ (show b ∈ [g, b, x9.heap.size] by simp); omega
          · have := hl14 _ (show x9.heap.size ∈ [g, ib, x9.heap.size] by simp); omega
          · omega
          · have := b614.size; omega
        have B16 : Bks x16 X5 tb ib eb := ⟨B.t, B.i, B.e, by have := B14.tz; omega, by have := B14.iz; omega, by have := B14.ez; omega⟩
        have Yi := T16.l_inc (l := [g, ib, x9.heap.size, x12.heap.size, x6.heap.size]) B16 (by simp)
        have Yv := T16.l_iv (i := j) (l := [g, ib, x9.heap.size, x12.heap.size, x6.heap.size]) B16 (by simp) hj
        rw [show ({ t5 with S := upS t5.S i s } : Tm).S j = upS t5.S i s j from rfl, upS_ne _ _ (fun e => hne e.symm)] at Yv
        have Yw : Ld Try.prog 46 x12.heap.size 0 (Sm [g, ib, x9.heap.size, x12.heap.size, x6.heap.size] x16) (.agg (viewA (t5.S i).vid Va (t5.S i).mem.length cVa)) := ⟨fun W hW => load_agg (by kernel_rfl) (by kernel_rfl) (range_same r12e (hW _ (by simp)))⟩
        have Yc : Ld Try.prog 3 x9.heap.size 1 (Sm [g, ib, x9.heap.size, x12.heap.size, x6.heap.size] x16) (.int .i64 (t5.S j).own.cid) := ⟨fun W hW => load3 (cell_sm (r9e 1 _ rfl) (by simp) hW)⟩
        have sd16 : Sm [g, ib, x9.heap.size, x12.heap.size, x6.heap.size] x16 x16.drew := fun _ _ => rfl
        have bd16 : Below x16.heap.size x16 x16.drew := (Below.refl _ _).drew
        have ml16 := oR.rinv.len
        repeat ((conv => whnf); first | (refine VCmp.tt (by omega) ?_) | (refine VCmp.ff (by omega) ?_) | (refine VIn.mk (IntWalk.i64_in _ (by omega)) ?_) | (refine VIdx.mk _ rfl (by omega) ?_) | (refine VIdx.mk 0 rfl (by omega) ?_))
        try (conv => whnf)
        refine VDraw.mk 1000 [([0, 1, 2, 3, 4, 5, 6, 7, 8], 9)] [10] (Sm [g, ib, x9.heap.size, x12.heap.size, x6.heap.size] x16) (by kernel_rfl) (by kernel_rfl) (sd16) ?_
        repeat ((conv => whnf); first | (refine VLoad.mk _ Yw ?_) | (refine VLoad.mk _ Yi ?_) | (refine VLoad.mk _ Yv ?_) | (refine VCmp.tt (by omega) ?_) | (refine VCmp.ff (by omega) ?_) | (refine VIn.mk (IntWalk.i64_in _ (by omega)) ?_) | (refine VIdx.mk _ rfl (by omega) ?_) | (refine VIdx.mk 0 rfl (by omega) ?_))
        try (conv => whnf)
        refine VCall.mk _ (holds_any (t5.S i).vid Va cVa x16.drew.heap.size (t5.S i).mem.length (t5.S i).mem j (t5.S j).inc x16.drew rfl (Nat.le_refl _) (kA.row.below bd16 (Nat.le_refl _)) (by omega)) ?_
        rintro _ x17 ⟨rfl, b17⟩
        refine ⟨_, rfl, ?_⟩
        have c17 : Below x16.heap.size x16 x17 := ⟨b17.os, b17.tape, b17.output, b17.size, b17.block⟩
        have s17 := Sm.below c17 hl16
        repeat ((conv => whnf); first | (refine VS.mk s17 ?_) | (refine VCmp.tt (by omega) ?_) | (refine VCmp.ff (by omega) ?_) | (refine VIn.mk (IntWalk.i64_in _ (by omega)) ?_) | (refine VIdx.mk _ rfl (by omega) ?_) | (refine VIdx.mk 0 rfl (by omega) ?_))
        try (conv => whnf)
        cases ho : (t5.S i).opn with
        | true =>
          have FN := fn (.inl ho)
          repeat ((conv => whnf); first | (refine VCmp.tt (by omega) ?_) | (refine VCmp.ff (by omega) ?_) | (refine VIn.mk (IntWalk.i64_in _ (by omega)) ?_) | (refine VIdx.mk _ rfl (by omega) ?_) | (refine VIdx.mk 0 rfl (by omega) ?_))
          try (conv => whnf)
          -- nobody begins: FN : FolN (t5.S i) s bg
          obtain ⟨fb, fo, fc⟩ := FN
          subst fb
          have A17 := A16.ro (Ro.below (R := fun _ => False) (K := K5) c17.drew) id id
          have Yp : Ld Try.prog 3 x6.heap.size 1 (Sm [g, ib, x9.heap.size, x12.heap.size, x6.heap.size] x16) (.int .i64 (t5.S i).own.cid) := ⟨fun W hW => load3 (cell_sm (r6e 1 _ rfl) (by simp) hW)⟩
          refine VDraw.mk 1000 [([0, 1, 2, 3, 5], 4), ([6, 7, 8, 9, 12, 13], 10)] [11, 14, 15, 16] (Sm [g, ib, x9.heap.size, x12.heap.size, x6.heap.size] x16) (by kernel_rfl) (by kernel_rfl) (s17.drew) ?_
          repeat ((conv => whnf); first | (refine VCmp.tt (by omega) ?_) | (refine VCmp.ff (by omega) ?_) | (refine VIn.mk (IntWalk.i64_in _ (by omega)) ?_) | (refine VIdx.mk _ rfl (by omega) ?_) | (refine VIdx.mk 0 rfl (by omega) ?_))
          try (conv => whnf)
          refine VCall.mk _ (changing_any (X5.ag i) s (X5.M i) (X5.cM i) x17.drew A17.ag) ?_
          rintro _ _ ⟨rfl, rfl⟩
          refine ⟨_, rfl, ?_⟩
          rw [fo, ho]
          repeat ((conv => whnf); first | (refine VS.mk s17.drew ?_) | (refine VLoad.mk _ Yp ?_) | (refine VCmp.tt (by omega) ?_) | (refine VCmp.ff (by omega) ?_) | (refine VIn.mk (IntWalk.i64_in _ (by omega)) ?_) | (refine VIdx.mk _ rfl (by omega) ?_) | (refine VIdx.mk 0 rfl (by omega) ?_))
          try (conv => whnf)
          refine VCall.mk _ (proposal_any (X5.ag i) s (X5.M i) (X5.cM i) _ A17.ag A17.hb (by have := hinv.n2; omega)) ?_
          rintro _ x20 ⟨P2, V2', rfl, rP2, rV2, b20⟩
          refine ⟨_, rfl, ?_⟩
          have c20 : Below x16.heap.size x16 x20 := c17.drew.trans (b20.mono c17.drew.size)
          repeat ((conv => whnf); first | (refine VS.mk (Sm.below c20 hl16) ?_) | (refine VCmp.tt fc ?_) | (refine VCmp.tt (by omega) ?_) | (refine VCmp.ff (by omega) ?_) | (refine VIn.mk (IntWalk.i64_in _ (by omega)) ?_) | (refine VIdx.mk _ rfl (by omega) ?_) | (refine VIdx.mk 0 rfl (by omega) ?_))
          try (conv => whnf)
          exact .mk ⟨rfl, b16.trans (c20.mono b16.size)⟩
        | false =>
          by_cases h0 : holdsI (t5.S i).mem j (t5.S j).inc = 0
          · have FN := fn (.inr (.inl h0))
            repeat ((conv => whnf); first | (refine VLoad.mk _ (Yc.at s17) ?_) | (refine VCmp.tt (by omega) ?_) | (refine VCmp.ff (by omega) ?_) | (refine VIn.mk (IntWalk.i64_in _ (by omega)) ?_) | (refine VIdx.mk _ rfl (by omega) ?_) | (refine VIdx.mk 0 rfl (by omega) ?_))
            try (conv => whnf)
            -- nobody begins: FN : FolN (t5.S i) s bg
            obtain ⟨fb, fo, fc⟩ := FN
            subst fb
            have A17 := A16.ro (Ro.below (R := fun _ => False) (K := K5) c17.drew) id id
            have Yp : Ld Try.prog 3 x6.heap.size 1 (Sm [g, ib, x9.heap.size, x12.heap.size, x6.heap.size] x16) (.int .i64 (t5.S i).own.cid) := ⟨fun W hW => load3 (cell_sm (r6e 1 _ rfl) (by simp) hW)⟩
            refine VDraw.mk 1000 [([0, 1, 2, 3, 5], 4), ([6, 7, 8, 9, 12, 13], 10)] [11, 14, 15, 16] (Sm [g, ib, x9.heap.size, x12.heap.size, x6.heap.size] x16) (by kernel_rfl) (by kernel_rfl) (s17.drew) ?_
            repeat ((conv => whnf); first | (refine VCmp.tt (by omega) ?_) | (refine VCmp.ff (by omega) ?_) | (refine VIn.mk (IntWalk.i64_in _ (by omega)) ?_) | (refine VIdx.mk _ rfl (by omega) ?_) | (refine VIdx.mk 0 rfl (by omega) ?_))
            try (conv => whnf)
            refine VCall.mk _ (changing_any (X5.ag i) s (X5.M i) (X5.cM i) x17.drew A17.ag) ?_
            rintro _ _ ⟨rfl, rfl⟩
            refine ⟨_, rfl, ?_⟩
            rw [fo, ho]
            repeat ((conv => whnf); first | (refine VS.mk s17.drew ?_) | (refine VLoad.mk _ Yp ?_) | (refine VCmp.tt (by omega) ?_) | (refine VCmp.ff (by omega) ?_) | (refine VIn.mk (IntWalk.i64_in _ (by omega)) ?_) | (refine VIdx.mk _ rfl (by omega) ?_) | (refine VIdx.mk 0 rfl (by omega) ?_))
            try (conv => whnf)
            refine VCall.mk _ (proposal_any (X5.ag i) s (X5.M i) (X5.cM i) _ A17.ag A17.hb (by have := hinv.n2; omega)) ?_
            rintro _ x20 ⟨P2, V2', rfl, rP2, rV2, b20⟩
            refine ⟨_, rfl, ?_⟩
            have c20 : Below x16.heap.size x16 x20 := c17.drew.trans (b20.mono c17.drew.size)
            repeat ((conv => whnf); first | (refine VS.mk (Sm.below c20 hl16) ?_) | (refine VCmp.tt fc ?_) | (refine VCmp.tt (by omega) ?_) | (refine VCmp.ff (by omega) ?_) | (refine VIn.mk (IntWalk.i64_in _ (by omega)) ?_) | (refine VIdx.mk _ rfl (by omega) ?_) | (refine VIdx.mk 0 rfl (by omega) ?_))
            try (conv => whnf)
            exact .mk ⟨rfl, b16.trans (c20.mono b16.size)⟩
          · by_cases h1 : (t5.S j).own.cid ≤ holdsI (t5.S i).mem j (t5.S j).inc
            · have FN := fn (.inr (.inr h1))
              repeat ((conv => whnf); first | (refine VLoad.mk _ (Yc.at s17) ?_) | (refine VCmp.tt (by omega) ?_) | (refine VCmp.ff (by omega) ?_) | (refine VIn.mk (IntWalk.i64_in _ (by omega)) ?_) | (refine VIdx.mk _ rfl (by omega) ?_) | (refine VIdx.mk 0 rfl (by omega) ?_))
              try (conv => whnf)
              -- nobody begins: FN : FolN (t5.S i) s bg
              obtain ⟨fb, fo, fc⟩ := FN
              subst fb
              have A17 := A16.ro (Ro.below (R := fun _ => False) (K := K5) c17.drew) id id
              have Yp : Ld Try.prog 3 x6.heap.size 1 (Sm [g, ib, x9.heap.size, x12.heap.size, x6.heap.size] x16) (.int .i64 (t5.S i).own.cid) := ⟨fun W hW => load3 (cell_sm (r6e 1 _ rfl) (by simp) hW)⟩
              refine VDraw.mk 1000 [([0, 1, 2, 3, 5], 4), ([6, 7, 8, 9, 12, 13], 10)] [11, 14, 15, 16] (Sm [g, ib, x9.heap.size, x12.heap.size, x6.heap.size] x16) (by kernel_rfl) (by kernel_rfl) (s17.drew) ?_
              repeat ((conv => whnf); first | (refine VCmp.tt (by omega) ?_) | (refine VCmp.ff (by omega) ?_) | (refine VIn.mk (IntWalk.i64_in _ (by omega)) ?_) | (refine VIdx.mk _ rfl (by omega) ?_) | (refine VIdx.mk 0 rfl (by omega) ?_))
              try (conv => whnf)
              refine VCall.mk _ (changing_any (X5.ag i) s (X5.M i) (X5.cM i) x17.drew A17.ag) ?_
              rintro _ _ ⟨rfl, rfl⟩
              refine ⟨_, rfl, ?_⟩
              rw [fo, ho]
              repeat ((conv => whnf); first | (refine VS.mk s17.drew ?_) | (refine VLoad.mk _ Yp ?_) | (refine VCmp.tt (by omega) ?_) | (refine VCmp.ff (by omega) ?_) | (refine VIn.mk (IntWalk.i64_in _ (by omega)) ?_) | (refine VIdx.mk _ rfl (by omega) ?_) | (refine VIdx.mk 0 rfl (by omega) ?_))
              try (conv => whnf)
              refine VCall.mk _ (proposal_any (X5.ag i) s (X5.M i) (X5.cM i) _ A17.ag A17.hb (by have := hinv.n2; omega)) ?_
              rintro _ x20 ⟨P2, V2', rfl, rP2, rV2, b20⟩
              refine ⟨_, rfl, ?_⟩
              have c20 : Below x16.heap.size x16 x20 := c17.drew.trans (b20.mono c17.drew.size)
              repeat ((conv => whnf); first | (refine VS.mk (Sm.below c20 hl16) ?_) | (refine VCmp.tt fc ?_) | (refine VCmp.tt (by omega) ?_) | (refine VCmp.ff (by omega) ?_) | (refine VIn.mk (IntWalk.i64_in _ (by omega)) ?_) | (refine VIdx.mk _ rfl (by omega) ?_) | (refine VIdx.mk 0 rfl (by omega) ?_))
              try (conv => whnf)
              exact .mk ⟨rfl, b16.trans (c20.mono b16.size)⟩
            · have FY := fy (by rintro (e | e | e); rw [ho] at e; cases e; exact h0 e; exact h1 e)
              repeat ((conv => whnf); first | (refine VLoad.mk _ (Yc.at s17) ?_) | (refine VCmp.tt (by omega) ?_) | (refine VCmp.ff (by omega) ?_) | (refine VIn.mk (IntWalk.i64_in _ (by omega)) ?_) | (refine VIdx.mk _ rfl (by omega) ?_) | (refine VIdx.mk 0 rfl (by omega) ?_))
              try (conv => whnf)
              -- a change begins: FY : FolY (t5.S i) s bg
              obtain ⟨yb, yo, ys, yc, yr, yt, yp, yv, ym⟩ := FY
              subst yb
              have hsn : s.n = n := hup.n.trans on
              have A18 := A16.ro (Ro.below (R := fun _ => False) (K := K5) c17) id id
              refine VCall.mk _ (proposal_any (X5.ag i) s (X5.M i) (X5.cM i) x17 A18.ag A18.hb (by omega)) ?_
              rintro _ x20 ⟨P2, V2', rfl, rP2, rV2, b20⟩
              refine ⟨_, rfl, ?_⟩
              rw [hsn] at rP2 rV2 ⊢
              have z20 := b20.size
              repeat ((conv => whnf); first | (refine VCmp.tt (by omega) ?_) | (refine VCmp.ff (by omega) ?_) | (refine VIn.mk (IntWalk.i64_in _ (by omega)) ?_) | (refine VIdx.mk _ rfl (by omega) ?_) | (refine VIdx.mk 0 rfl (by omega) ?_))
              try (conv => whnf)
              refine .mk _ run_zero31 ?_
              conv => whnf
              refine .mk fun u7 hu7 => ?_
              repeat ((conv => whnf); first | (refine VCmp.tt (by omega) ?_) | (refine VCmp.ff (by omega) ?_) | (refine VIn.mk (IntWalk.i64_in _ (by omega)) ?_) | (refine VIdx.mk _ rfl (by omega) ?_) | (refine VIdx.mk 0 rfl (by omega) ?_))
              try (conv => whnf)
              refine VStore.new (c' := propA s.own P2 n V2' n n) hu7 (by kernel_rfl) rfl (one_propA _ _ _ _ _ _) fun x22 hx22 => ?_
              have c22 : Below x20.heap.size x20 x22 := by rw [hx22.out]; exact (Below.refl _ _).alloc (Nat.le_refl _) _
              have z22 : x22.heap.size = x20.heap.size + 1 := by rw [hx22.out]; simp
              have r22 : x22.rangeAt x20.heap.size 0 (propA s.own P2 n V2' n n).toList := by rw [hx22.out]; exact range_new x20 _ 31
              clear hu7 hx22 u7
              have c1622 : Below x16.heap.size x16 x22 := c17.trans ((b20.trans (c22.mono z20)).mono c17.size)
              have z1622 := c1622.size
              have A22 := A16.ro (Ro.below (R := fun _ => False) (K := K5) c1622.drew) id id
              have hl22 : ∀ b ∈ [x6.heap.size, x12.heap.size, x20.heap.size], b < x22.heap.size := fun b hb => by
                have h1 := hl16 x6.heap.size (by simp)
                have h2 := hl16 x12.heap.size (by simp)
                simp only [List.mem_cons, List.not_mem_nil, or_false] at hb
                rcases hb with rfl | rfl | rfl <;> omega
              have q6 := range_same r6e (c1622.block x6.heap.size (hl16 _ (by simp)))
              have q12 := range_same r12e (c1622.block x12.heap.size (hl16 _ (by simp)))
              have hs22 : ∀ W, Below x22.heap.size x22 W → Sm [x6.heap.size, x12.heap.size, x20.heap.size] x22 W := fun W hW => .below hW hl22
              have Z0 : Ld Try.prog 27 x20.heap.size 0 (Below x22.heap.size x22) (.slice P2 n n) := ⟨fun W hW => load27 ((hs22 W hW).cellv (r22 0 _ rfl) (by simp))⟩
              have Z1 : Ld Try.prog 3 x20.heap.size 1 (Below x22.heap.size x22) (.int .i64 s.own.cid) := ⟨fun W hW => load3 ((hs22 W hW).cellv (r22 1 _ rfl) (by simp))⟩
              have Z2 : Ld Try.prog 3 x20.heap.size 2 (Below x22.heap.size x22) (.int .i64 s.own.rev) := ⟨fun W hW => load3 ((hs22 W hW).cellv (r22 2 _ rfl) (by simp))⟩
              have Z3 : Ld Try.prog 3 x20.heap.size 3 (Below x22.heap.size x22) (.int .i64 s.own.top) := ⟨fun W hW => load3 ((hs22 W hW).cellv (r22 3 _ rfl) (by simp))⟩
              have Z4 : Ld Try.prog 29 x20.heap.size 4 (Below x22.heap.size x22) (.agg (vidC s.own.prev)) := ⟨fun W hW => load_agg (by kernel_rfl) (by kernel_rfl) (range_sub (n := 4) (range_same r22 (hs22 W hW _ (by simp))) 4 rfl)⟩
              have Y0 : Ld Try.prog 27 x6.heap.size 0 (Below x22.heap.size x22) (.slice Pi n n) := ⟨fun W hW => load27 ((hs22 W hW).cellv (q6 0 _ rfl) (by simp))⟩
              have Y1 : Ld Try.prog 3 x6.heap.size 1 (Below x22.heap.size x22) (.int .i64 (t5.S i).own.cid) := ⟨fun W hW => load3 ((hs22 W hW).cellv (q6 1 _ rfl) (by simp))⟩
              have Y2 : Ld Try.prog 3 x6.heap.size 2 (Below x22.heap.size x22) (.int .i64 (t5.S i).own.rev) := ⟨fun W hW => load3 ((hs22 W hW).cellv (q6 2 _ rfl) (by simp))⟩
              have W0 : Ld Try.prog 3 x12.heap.size 0 (Below x22.heap.size x22) (.int .i64 (t5.S i).vid.e) := ⟨fun W hW => load3 ((hs22 W hW).cellv (q12 0 _ rfl) (by simp))⟩
              have W1 : Ld Try.prog 29 x12.heap.size 0 (Below x22.heap.size x22) (.agg (vidC (t5.S i).vid)) := ⟨fun W hW => load_agg (by kernel_rfl) (by kernel_rfl) (range_sub (n := 4) (range_same q12 (hs22 W hW _ (by simp))) 0 rfl)⟩
              have W2 : Ld Try.prog 46 x12.heap.size 0 (Below x22.heap.size x22) (.agg (viewA (t5.S i).vid Va (t5.S i).mem.length cVa)) := ⟨fun W hW => load_agg (by kernel_rfl) (by kernel_rfl) (range_same q12 (hs22 W hW _ (by simp)))⟩
              have bd22 : Below x22.heap.size x22 x22.drew := (Below.refl _ _).drew
              repeat ((conv => whnf); first | (refine VCmp.tt (by omega) ?_) | (refine VCmp.ff (by omega) ?_) | (refine VIn.mk (IntWalk.i64_in _ (by omega)) ?_) | (refine VIdx.mk _ rfl (by omega) ?_) | (refine VIdx.mk 0 rfl (by omega) ?_))
              try (conv => whnf)
              refine VDraw.mk 1000 [([0, 1, 2], 3), ([4, 5, 6, 7, 8, 9], 10), ([11, 12, 13, 14, 15, 16, 17, 18, 19, 20, 21, 22, 23, 24, 25, 26, 27, 28, 29, 30, 31, 32, 33, 34, 35, 36, 37, 38, 39, 40], 41), ([42, 43, 44, 46], 45), ([], 47)] [48, 49] (Below x22.heap.size x22) (by kernel_rfl) (by kernel_rfl) (bd22) ?_
              repeat ((conv => whnf); first | (refine VCmp.tt (by omega) ?_) | (refine VCmp.ff (by omega) ?_) | (refine VIn.mk (IntWalk.i64_in _ (by omega)) ?_) | (refine VIdx.mk _ rfl (by omega) ?_) | (refine VIdx.mk 0 rfl (by omega) ?_))
              try (conv => whnf)
              refine VCall.mk _ (changing_any (X5.ag i) s (X5.M i) (X5.cM i) x22.drew A22.ag) ?_
              rintro _ _ ⟨rfl, rfl⟩
              refine ⟨_, rfl, ?_⟩
              rw [yo]
              repeat ((conv => whnf); first | (refine VS.mk bd22 ?_) | (refine VLoad.mk _ Z0 ?_) | (refine VLoad.mk _ Y0 ?_) | (refine VCmp.tt (by omega) ?_) | (refine VCmp.ff (by omega) ?_) | (refine VIn.mk (IntWalk.i64_in _ (by omega)) ?_) | (refine VIdx.mk _ rfl (by omega) ?_) | (refine VIdx.mk 0 rfl (by omega) ?_))
              try (conv => whnf)
              have c2022 := c22.mono (Nat.le_refl _)
              have e1 : Below x16.heap.size x16 x22.drew := c1622.drew
              have ls := lints_two P2 Pi n n x22.drew.heap.size (s.own.set.take n) ((t5.S i).own.set.take n) n n x22.drew (by rw [ys]; exact li1) li1 (Nat.le_refl _) ((rP2.below c22).row.below bd22 (Nat.le_refl _)) ((kP.row.below e1 (Nat.le_refl _)).more e1.size) (by omega) (by omega)
              rw [decide_eq_true (by rw [ys] : s.own.set.take n = (t5.S i).own.set.take n)] at ls
              refine VCall.mk _ ls ?_
              rintro _ x23 ⟨rfl, b23⟩
              refine ⟨_, rfl, ?_⟩
              have c23 : Below x22.heap.size x22 x23 := bd22.trans b23
              have hbd := P5.bd.s i
              have hb1 := oR.inv.own.cid
              have hb2 := oR.inv.own.rev
              repeat ((conv => whnf); first | (refine VS.mk c23 ?_) | (refine VLoad.mk _ Z1 ?_) | (refine VLoad.mk _ Z2 ?_) | (refine VLoad.mk _ Z3 ?_) | (refine VLoad.mk _ Z4 ?_) | (refine VLoad.mk _ Y1 ?_) | (refine VLoad.mk _ Y2 ?_) | (refine VLoad.mk _ W0 ?_) | (refine VLoad.mk _ W1 ?_) | (refine VCmp.tt (by omega) ?_) | (refine VCmp.ff (by omega) ?_) | (refine VIn.mk (IntWalk.i64_in _ (by omega)) ?_) | (refine VIdx.mk _ rfl (by omega) ?_) | (refine VIdx.mk 0 rfl (by omega) ?_))
              try (conv => whnf)
              have si := lsame_any s.own.prev (t5.S i).vid x23
              rw [show vidEq s.own.prev (t5.S i).vid = true from decide_eq_true yp] at si
              refine VCall.mk _ si ?_
              rintro _ x24 ⟨rfl, b24⟩
              refine ⟨_, rfl, ?_⟩
              have c24 : Below x22.heap.size x22 x24 := c23.trans (b24.mono c23.size)
              repeat ((conv => whnf); first | (refine VS.mk c24 ?_) | (refine VLoad.mk _ W2 ?_) | (refine VCmp.tt (by omega) ?_) | (refine VCmp.ff (by omega) ?_) | (refine VIn.mk (IntWalk.i64_in _ (by omega)) ?_) | (refine VIdx.mk _ rfl (by omega) ?_) | (refine VIdx.mk 0 rfl (by omega) ?_))
              try (conv => whnf)
              have A24 := A16.ro (Ro.below (R := fun _ => False) (K := K5) (c1622.trans (c24.mono z1622))) id id
              have row24 := A24.row
              refine VCall.mk _ (view_any (X5.ag i) s (X5.M i) (X5.cM i) x24.heap.size x24 A24.ag A24.hb (Nat.le_refl _) row24.row (by rw [ym]; exact oR.rinv.len)) ?_
              rintro _ x25 ⟨Vb, cVb, rfl, rVb, b25⟩
              refine ⟨_, rfl, ?_⟩
              have c25 : Below x22.heap.size x22 x25 := c24.trans (b25.mono c24.size)
              have c1625 := c1622.trans (c25.mono z1622)
              repeat ((conv => whnf); first | (refine VS.mk c25 ?_) | (refine VLoad.mk _ W2 ?_) | (refine VCmp.tt (by omega) ?_) | (refine VCmp.ff (by omega) ?_) | (refine VIn.mk (IntWalk.i64_in _ (by omega)) ?_) | (refine VIdx.mk _ rfl (by omega) ?_) | (refine VIdx.mk 0 rfl (by omega) ?_))
              try (conv => whnf)
              have vv := views_any s.vid (t5.S i).vid Vb Va cVb cVa x25.heap.size s.mem.length (t5.S i).mem.length s.mem (t5.S i).mem x25 rfl rfl (Nat.le_refl _) rVb.row ((kA.row.below c1625 (Nat.le_refl _)).more c1625.size) (by rw [ym]; omega) (by omega)
              rw [show viSame s.vid s.mem (t5.S i).vid (t5.S i).mem = true from by rw [yv, ym]; exact viSame_refl _ _] at vv
              refine VCall.mk _ vv ?_
              rintro _ x26 ⟨rfl, b26⟩
              refine ⟨_, rfl, ?_⟩
              have c26 : Below x22.heap.size x22 x26 := c25.trans (b26.mono c25.size)
              repeat ((conv => whnf); first | (refine VS.mk c26 ?_) | (refine VCmp.tt (by omega) ?_) | (refine VCmp.ff (by omega) ?_) | (refine VIn.mk (IntWalk.i64_in _ (by omega)) ?_) | (refine VIdx.mk _ rfl (by omega) ?_) | (refine VIdx.mk 0 rfl (by omega) ?_))
              try (conv => whnf)
              exact .mk ⟨rfl, b16.trans ((c1622.trans (c26.mono z1622)).mono b16.size)⟩
    · have hij' : ¬ (t.node i0 : Int) = t.node j0 := by omega
      have e2 : t.two i0 j0 = t.node j0 := by unfold Tm.two; rw [if_neg hij]
      rw [e2] at hj hne
      clear e2
      repeat ((conv => whnf); first | (refine VCmp.tt (by omega) ?_) | (refine VCmp.ff (by omega) ?_) | (refine VIn.mk (IntWalk.i64_in _ (by omega)) ?_) | (refine VIdx.mk _ rfl (by omega) ?_) | (refine VIdx.mk 0 rfl (by omega) ?_))
      try (conv => whnf)
      clear hij hij'
      generalize t.node j0 = j at hj hne ⊢
      generalize t.node i0 = i at hi hne ⊢
      -- behind the choice of i and j: world wk, t, K, X, P, M; hi : i < n, hj : j < n, hne : i ≠ j
      repeat ((conv => whnf); first | (refine VCmp.tt (by omega) ?_) | (refine VCmp.ff (by omega) ?_) | (refine VIn.mk (IntWalk.i64_in _ (by omega)) ?_) | (refine VIdx.mk _ rfl (by omega) ?_) | (refine VIdx.mk 0 rfl (by omega) ?_))
      try (conv => whnf)
      refine VCall.mk _ (installs_any M.tm P.ok hi (Nat.le_refl _) n16 (by have := P.cnt.e i; omega) (by have := P.cnt.d; omega) P.db) ?_
      rintro _ x5 ⟨rfl, p5⟩
      refine ⟨_, rfl, ?_⟩
      have P5 := P.inst hi
      obtain ⟨K5, X5, M5, -⟩ := M.step (t' := t.inst i) P5.nn p5
      generalize t.inst i = t5 at P5 M5
      have T5 := M5.tm
      obtain ⟨tb, ib, eb, B, kt, ki, ke⟩ := T5.bks (by omega)
      obtain ⟨on, oR, oH, oN⟩ := P5.ok.nd i hi
      obtain ⟨onj, oRj, oHj, oNj⟩ := P5.ok.nd j hj
      rw [P5.nn] at on onj
      have Ai := T5.ag i hi
      have La := T5.l_at (l := [g, tb]) B (by simp)
      have Lpi := T5.l_ptr (i := i) (l := [g, tb]) B (by simp) hi hi
      have Lpj := T5.l_ptr (i := j) (l := [g, tb]) B (by simp) hj hj
      have hl5 : ∀ b ∈ [g, tb], b < x5.heap.size := fun b hb => by
        have h1 := T5.hs; have h2 := B.tz
        simp only [List.mem_cons, List.not_mem_nil, or_false] at hb
        rcases hb with rfl | rfl
        · exact h1
        · exact h2
      have hs5 : ∀ W, Below x5.heap.size x5 W → Sm [g, tb] x5 W := fun W hW => .below hW hl5
      have s5 := Sm.refl [g, tb] x5
      repeat ((conv => whnf); first | (refine VLoad.mk _ (La.at s5) ?_) | (refine VLoad.mk _ (Lpi.at s5) ?_) | (refine VCmp.tt (by omega) ?_) | (refine VCmp.ff (by omega) ?_) | (refine VIn.mk (IntWalk.i64_in _ (by omega)) ?_) | (refine VIdx.mk _ rfl (by omega) ?_) | (refine VIdx.mk 0 rfl (by omega) ?_))
      try (conv => whnf)
      refine VCall.mk _ (proposal_any (X5.ag i) (t5.S i) (X5.M i) (X5.cM i) x5 Ai.ag Ai.hb (by omega)) ?_
      rintro _ x6 ⟨Pi, Vi, rfl, rPi, rVi, b6⟩
      refine ⟨_, rfl, ?_⟩
      rw [on] at rPi rVi ⊢
      repeat ((conv => whnf); first | (refine VCmp.tt (by omega) ?_) | (refine VCmp.ff (by omega) ?_) | (refine VIn.mk (IntWalk.i64_in _ (by omega)) ?_) | (refine VIdx.mk _ rfl (by omega) ?_) | (refine VIdx.mk 0 rfl (by omega) ?_))
      try (conv => whnf)
      refine .mk _ run_zero31 ?_
      conv => whnf
      refine .mk fun u7 hu7 => ?_
      repeat ((conv => whnf); first | (refine VCmp.tt (by omega) ?_) | (refine VCmp.ff (by omega) ?_) | (refine VIn.mk (IntWalk.i64_in _ (by omega)) ?_) | (refine VIdx.mk _ rfl (by omega) ?_) | (refine VIdx.mk 0 rfl (by omega) ?_))
      try (conv => whnf)
      refine VStore.new (c' := propA (t5.S i).own Pi n Vi n n) hu7 (by kernel_rfl) rfl (one_propA _ _ _ _ _ _) fun x8 hx8 => ?_
      have c8 : Below x6.heap.size x6 x8 := by rw [hx8.out]; exact (Below.refl _ _).alloc (Nat.le_refl _) _
      have z8 : x8.heap.size = x6.heap.size + 1 := by rw [hx8.out]; simp
      have r8 : x8.rangeAt x6.heap.size 0 (propA (t5.S i).own Pi n Vi n n).toList := by rw [hx8.out]; exact range_new x6 _ 31
      clear hu7 hx8 u7
      have z6 := b6.size
      have b8 : Below x5.heap.size x5 x8 := b6.trans (c8.mono z6)
      have T8 := T5.below b8
      have Aj := T8.ag j hj
      repeat ((conv => whnf); first | (refine VLoad.mk _ (La.at (hs5 _ b8)) ?_) | (refine VLoad.mk _ (Lpj.at (hs5 _ b8)) ?_) | (refine VCmp.tt (by omega) ?_) | (refine VCmp.ff (by omega) ?_) | (refine VIn.mk (IntWalk.i64_in _ (by omega)) ?_) | (refine VIdx.mk _ rfl (by omega) ?_) | (refine VIdx.mk 0 rfl (by omega) ?_))
      try (conv => whnf)
      refine VCall.mk _ (proposal_any (X5.ag j) (t5.S j) (X5.M j) (X5.cM j) x8 Aj.ag Aj.hb (by omega)) ?_
      rintro _ x9 ⟨Pj, Vj, rfl, rPj, rVj, b9⟩
      refine ⟨_, rfl, ?_⟩
      rw [onj] at rPj rVj ⊢
      have z9 := b9.size
      repeat ((conv => whnf); first | (refine VCmp.tt (by omega) ?_) | (refine VCmp.ff (by omega) ?_) | (refine VIn.mk (IntWalk.i64_in _ (by omega)) ?_) | (refine VIdx.mk _ rfl (by omega) ?_) | (refine VIdx.mk 0 rfl (by omega) ?_))
      try (conv => whnf)
      refine .mk _ run_zero31 ?_
      conv => whnf
      refine .mk fun u7 hu7 => ?_
      repeat ((conv => whnf); first | (refine VCmp.tt (by omega) ?_) | (refine VCmp.ff (by omega) ?_) | (refine VIn.mk (IntWalk.i64_in _ (by omega)) ?_) | (refine VIdx.mk _ rfl (by omega) ?_) | (refine VIdx.mk 0 rfl (by omega) ?_))
      try (conv => whnf)
      refine VStore.new (c' := propA (t5.S j).own Pj n Vj n n) hu7 (by kernel_rfl) rfl (one_propA _ _ _ _ _ _) fun x11 hx11 => ?_
      have c11 : Below x9.heap.size x9 x11 := by rw [hx11.out]; exact (Below.refl _ _).alloc (Nat.le_refl _) _
      have z11 : x11.heap.size = x9.heap.size + 1 := by rw [hx11.out]; simp
      have r11 : x11.rangeAt x9.heap.size 0 (propA (t5.S j).own Pj n Vj n n).toList := by rw [hx11.out]; exact range_new x9 _ 31
      clear hu7 hx11 u7
      have b811 : Below x8.heap.size x8 x11 := b9.trans (c11.mono z9)
      have b11 : Below x5.heap.size x5 x11 := b8.trans (b811.mono b8.size)
      have T11 := T5.below b11
      have Ai11 := T11.ag i hi
      repeat ((conv => whnf); first | (refine VCmp.tt (by omega) ?_) | (refine VCmp.ff (by omega) ?_) | (refine VIn.mk (IntWalk.i64_in _ (by omega)) ?_) | (refine VIdx.mk _ rfl (by omega) ?_) | (refine VIdx.mk 0 rfl (by omega) ?_))
      try (conv => whnf)
      refine VCall.mk _ (view_any (X5.ag i) (t5.S i) (X5.M i) (X5.cM i) x11.heap.size x11 Ai11.ag Ai11.hb (Nat.le_refl _) Ai11.row.row oR.rinv.len) ?_
      rintro _ x12 ⟨Va, cVa, rfl, rVa, b12⟩
      refine ⟨_, rfl, ?_⟩
      have z12 := b12.size
      repeat ((conv => whnf); first | (refine VCmp.tt (by omega) ?_) | (refine VCmp.ff (by omega) ?_) | (refine VIn.mk (IntWalk.i64_in _ (by omega)) ?_) | (refine VIdx.mk _ rfl (by omega) ?_) | (refine VIdx.mk 0 rfl (by omega) ?_))
      try (conv => whnf)
      refine .mk _ run_zero46 ?_
      conv => whnf
      refine .mk fun u7 hu7 => ?_
      repeat ((conv => whnf); first | (refine VCmp.tt (by omega) ?_) | (refine VCmp.ff (by omega) ?_) | (refine VIn.mk (IntWalk.i64_in _ (by omega)) ?_) | (refine VIdx.mk _ rfl (by omega) ?_) | (refine VIdx.mk 0 rfl (by omega) ?_))
      try (conv => whnf)
      refine VStore.new (c' := viewA (t5.S i).vid Va (t5.S i).mem.length cVa) hu7 (by kernel_rfl) rfl (one_viewA _ _ _ _) fun x14 hx14 => ?_
      have c14 : Below x12.heap.size x12 x14 := by rw [hx14.out]; exact (Below.refl _ _).alloc (Nat.le_refl _) _
      have z14 : x14.heap.size = x12.heap.size + 1 := by rw [hx14.out]; simp
      have r14 : x14.rangeAt x12.heap.size 0 (viewA (t5.S i).vid Va (t5.S i).mem.length cVa).toList := by rw [hx14.out]; exact range_new x12 _ 46
      clear hu7 hx14 u7
      have b1114 : Below x11.heap.size x11 x14 := b12.trans (c14.mono z12)
      have b14 : Below x5.heap.size x5 x14 := b11.trans (b1114.mono b11.size)
      have T14 := T5.below b14
      have Ai14 := T14.ag i hi
      repeat ((conv => whnf); first | (refine VCmp.tt (by omega) ?_) | (refine VCmp.ff (by omega) ?_) | (refine VIn.mk (IntWalk.i64_in _ (by omega)) ?_) | (refine VIdx.mk _ rfl (by omega) ?_) | (refine VIdx.mk 0 rfl (by omega) ?_))
      try (conv => whnf)
      refine VCall.mk _ (changing_any (X5.ag i) (t5.S i) (X5.M i) (X5.cM i) x14 Ai14.ag) ?_
      rintro _ _ ⟨rfl, rfl⟩
      refine ⟨_, rfl, ?_⟩
      rename_i x14
      repeat ((conv => whnf); first | (refine VCmp.tt (by omega) ?_) | (refine VCmp.ff (by omega) ?_) | (refine VIn.mk (IntWalk.i64_in _ (by omega)) ?_) | (refine VIdx.mk _ rfl (by omega) ?_) | (refine VIdx.mk 0 rfl (by omega) ?_))
      try (conv => whnf)
      have b914 : Below x9.heap.size x9 x14 := c11.trans (b1114.mono (by omega))
      have b614 : Below x6.heap.size x6 x14 := c8.trans ((b811.trans (b1114.mono b811.size)).mono (by omega))
      have r6at : x14.rangeAt x6.heap.size 0 (propA (t5.S i).own Pi n Vi n n).toList := range_same r8 ((b811.trans (b1114.mono b811.size)).block _ (by omega))
      have r9at : x14.rangeAt x9.heap.size 0 (propA (t5.S j).own Pj n Vj n n).toList := range_same r11 (b1114.block _ (by omega))
      have rPj14 := rPj.below b914
      have rVj14 := rVj.below b914
      have hl14 : ∀ b ∈ [g, ib, x9.heap.size], b < x14.heap.size := fun b hb => by
        have h1 := T14.hs; have h2 := B.iz; have h3 := b14.size; have h4 := b914.size; have h5 := b1114.size
        simp only [List.mem_cons, List.not_mem_nil, or_false] at hb
        rcases hb with rfl | rfl | rfl
        · exact h1
        · omega
        · omega
      have B14 : Bks x14 X5 tb ib eb := ⟨B.t, B.i, B.e, by have := B.tz; have := b14.size; omega, by have := B.iz; have := b14.size; omega, by have := B.ez; have := b14.size; omega⟩
      have Ti := T14.l_inc (l := [g, ib, x9.heap.size]) B14 (by simp)
      have Tv := T14.l_iv (i := j) (l := [g, ib, x9.heap.size]) B14 (by simp) hj
      have Tq : Ld Try.prog 31 x9.heap.size 0 (Sm [g, ib, x9.heap.size] x14) (.agg (propA (t5.S j).own Pj n Vj n n)) := ⟨fun W hW => load_agg (by kernel_rfl) (by kernel_rfl) (range_same r9at (hW _ (by simp)))⟩
      have sd14 : Sm [g, ib, x9.heap.size] x14 x14.drew := fun _ _ => rfl
      refine VDraw.mk 1000 [([0, 1, 2, 3, 4, 5, 6, 7, 8, 9], 10), ([], 11)] [12, 13, 14, 15, 16] (Sm [g, ib, x9.heap.size] x14) (by kernel_rfl) (by kernel_rfl) (sd14) ?_
      repeat ((conv => whnf); first | (refine VLoad.mk _ Ti ?_) | (refine VLoad.mk _ Tv ?_) | (refine VLoad.mk _ Tq ?_) | (refine VCmp.tt (by omega) ?_) | (refine VCmp.ff (by omega) ?_) | (refine VIn.mk (IntWalk.i64_in _ (by omega)) ?_) | (refine VIdx.mk _ rfl (by omega) ?_) | (refine VIdx.mk 0 rfl (by omega) ?_))
      try (conv => whnf)
      have l1 := take_len (n := n) oRj.inv.own.set n16
      have l2 := take_len (n := n) oRj.inv.own.vec n16
      have bd14 : Below x14.heap.size x14 x14.drew := (Below.refl _ _).drew
      have cp := copied_any Pj n Vj n x14.drew.heap.size n n (prW n (t5.S j).own) ((t5.S j).own.set.take n) ((t5.S j).own.vec.take n) x14.drew l1 l2 (Nat.le_refl _) (rPj14.below bd14).row (rVj14.below bd14).row (by omega) (by omega)
      refine VCall.mk _ cp ?_
      rintro _ x15 ⟨gg, cg, gh, ch, rfl, oP, oV, hgh, b15⟩
      refine ⟨_, rfl, ?_⟩
      have c15 : Below x14.heap.size x14 x15 := ⟨b15.os, b15.tape, b15.output, b15.size, b15.block⟩
      have T15 := T14.below c15
      have A15 := T15.ag i hi
      repeat ((conv => whnf); first | (refine VS.mk (Sm.below c15 hl14) ?_) | (refine VCmp.tt (by omega) ?_) | (refine VCmp.ff (by omega) ?_) | (refine VIn.mk (IntWalk.i64_in _ (by omega)) ?_) | (refine VIdx.mk _ rfl (by omega) ?_) | (refine VIdx.mk 0 rfl (by omega) ?_))
      try (conv => whnf)
      have tk := take_any (X5.ag i) (t5.S i) (X5.M i) (X5.cM i) (some ⟨gg, 0, none⟩) (some ⟨gh, 0, none⟩) cg ch x15.heap.size (prW n (t5.S j).own) j (t5.S j).inc x15 A15.ag A15.hb oR.inv (Nat.le_refl _) (row_prefix (oP.row fun _ => rfl)) (row_prefix (oV.row fun _ => rfl)) (by show ((t5.S j).own.set.take n).length ≤ _; omega) (by show ((t5.S j).own.vec.take n).length ≤ _; omega) (fun W hW => (A15.row.ro (Ro.grown (R := (· = 10 + 2 * i)) hW fun b hb => by injection hb with hb; rw [← hb]; exact A15.kb) (by omega)).row) oR.rinv.len
      rw [prA_prW _ _ _ _ l1 l2] at tk
      refine VCall.mk _ tk ?_
      rintro _ x16 ⟨rfl, hL⟩
      refine ⟨_, rfl, ?_⟩
      have fp := follows_plain P5.ok hi hj hne P5.bd (by omega) P5.mc
      rw [P5.nn] at fp
      have hup := (take_ris oR j (t5.S j).inc (prW n (t5.S j).own)).2
      have hinv := (take_ris oR j (t5.S j).inc (prW n (t5.S j).own)).1.inv
      generalize hr : (t5.S i).take j (t5.S j).inc (prW n (t5.S j).own) = r at hL hup hinv fp ⊢
      obtain ⟨bg, er, s⟩ := r
      dsimp only at hL hup hinv fp ⊢
      obtain ⟨T16, Q16⟩ := T15.agent' hi hL hup.mem hup.inc
      have A16 := T16.ag i hi
      rw [show ({ t5 with S := upS t5.S i s } : Tm).S i = upS t5.S i s i from rfl, upS_same] at A16
      have q16 : Sm [g, ib, x9.heap.size] x15 x16 := fun b hb => by
        have hb' := hl14 b hb
        refine Q16.same b (by have := c15.size; omega) ?_
        simp only [List.mem_cons, List.not_mem_nil, or_false] at hb
        rcases hb with rfl | rfl | rfl
        · rw [T5.hk]; omega
        · rw [ki]; omega
        · rw [T5.kz _ (by have := b8.size; omega)]; omega
      have b16 : Below w.heap.size w x16 := (ro_below M5.k0 (M5.be.trans ((b14.trans (c15.mono b14.size)).mono M5.be.size)) (Q16.more fun r hr => by omega)).2
      repeat ((conv => whnf); first | (refine VS.mk ((Sm.below c15 hl14).trans q16) ?_) | (refine VCmp.tt (by omega) ?_) | (refine VCmp.ff (by omega) ?_) | (refine VIn.mk (IntWalk.i64_in _ (by omega)) ?_) | (refine VIdx.mk _ rfl (by omega) ?_) | (refine VIdx.mk 0 rfl (by omega) ?_))
      try (conv => whnf)
      have k6 : K5 x6.heap.size = 0 := T5.kz _ z6
      have r6e : x16.rangeAt x6.heap.size 0 (propA (t5.S i).own Pi n Vi n n).toList := range_same r6at ((Q16.same _ (by have := c15.size; have := b614.size; omega) (by rw [k6]; omega)).trans (c15.block _ (by have := b614.size; omega)))
      have b615 : Below x6.heap.size x6 x15 := b614.trans (c15.mono b614.size)
      have kP : RowK x16 K5 1 eInt Pi ((t5.S i).own.set.take n) := ((RowK.new rPi (fun b hb => T5.kz b hb)).ro (Ro.below (R := fun _ => False) b615) id).ro Q16 (by omega)
      have kV : RowK x16 K5 1 eInt Vi ((t5.S i).own.vec.take n) := ((RowK.new rVi (fun b hb => T5.kz b hb)).ro (Ro.below (R := fun _ => False) b615) id).ro Q16 (by omega)
      have li1 := take_len (n := n) oR.inv.own.set n16
      have li2 := take_len (n := n) oR.inv.own.vec n16
      rcases fp with fp | ⟨fe, fn, fy⟩
      · injection fp with f1 f2
        injection f2 with f2 f3
        subst f1; subst f2; subst f3
        have sd16 : Sm [x6.heap.size] x16 x16.drew := fun _ _ => rfl
        have bd16 : Below x16.heap.size x16 x16.drew := (Below.refl _ _).drew
        have Tp : Ld Try.prog 31 x6.heap.size 0 (Sm [x6.heap.size] x16) (.agg (propA (t5.S i).own Pi n Vi n n)) := ⟨fun W hW => load_agg (by kernel_rfl) (by kernel_rfl) (range_same r6e (hW _ (by simp)))⟩
        have A17 := A16.ro (Ro.below (R := fun _ => False) (K := K5) bd16) id id
        have h6z : x6.heap.size < x16.heap.size := by have := Q16.size; have := c15.size; have := b614.size; omega
        repeat ((conv => whnf); first | (refine VCmp.tt (by omega) ?_) | (refine VCmp.ff (by omega) ?_) | (refine VIn.mk (IntWalk.i64_in _ (by omega)) ?_) | (refine VIdx.mk _ rfl (by omega) ?_) | (refine VIdx.mk 0 rfl (by omega) ?_))
        try (conv => whnf)
        refine VDraw.mk 1000 [([0, 1, 2, 3, 5], 4), ([], 6)] [7, 8] (Sm [x6.heap.size] x16) (by kernel_rfl) (by kernel_rfl) (sd16) ?_
        repeat ((conv => whnf); first | (refine VLoad.mk _ Tp ?_) | (refine VCmp.tt (by omega) ?_) | (refine VCmp.ff (by omega) ?_) | (refine VIn.mk (IntWalk.i64_in _ (by omega)) ?_) | (refine VIdx.mk _ rfl (by omega) ?_) | (refine VIdx.mk 0 rfl (by omega) ?_))
        try (conv => whnf)
        refine VCall.mk _ (proposal_any (X5.ag i) (t5.S i) (X5.M i) (X5.cM i) x16.drew A17.ag A17.hb (by omega)) ?_
        rintro _ x17 ⟨P2, V2', rfl, rP2, rV2, b17⟩
        refine ⟨_, rfl, ?_⟩
        rw [on] at rP2 rV2 ⊢
        have c17 : Below x16.heap.size x16 x17 := ⟨b17.os, b17.tape, b17.output, b17.size, b17.block⟩
        repeat ((conv => whnf); first | (refine VS.mk (Sm.below c17 (by simp; omega)) ?_) | (refine VCmp.tt (by omega) ?_) | (refine VCmp.ff (by omega) ?_) | (refine VIn.mk (IntWalk.i64_in _ (by omega)) ?_) | (refine VIdx.mk _ rfl (by omega) ?_) | (refine VIdx.mk 0 rfl (by omega) ?_))
        try (conv => whnf)
        repeat ((conv => whnf); first | (refine VLoad.mk _ Tp ?_) | (refine VCmp.tt (by omega) ?_) | (refine VCmp.ff (by omega) ?_) | (refine VIn.mk (IntWalk.i64_in _ (by omega)) ?_) | (refine VIdx.mk _ rfl (by omega) ?_) | (refine VIdx.mk 0 rfl (by omega) ?_))
        try (conv => whnf)
        have pp := proposals_any P2 V2' Pi Vi n n n n x17.heap.size n n n n (prW n (t5.S i).own) (prW n (t5.S i).own) ((t5.S i).own.set.take n) ((t5.S i).own.vec.take n) ((t5.S i).own.set.take n) ((t5.S i).own.vec.take n) x17 li1 li2 li1 li2 (Nat.le_refl _) rP2.row rV2.row ((kP.row.below c17 (Nat.le_refl _)).more c17.size) ((kV.row.below c17 (Nat.le_refl _)).more c17.size) (by omega) (by omega) (by omega) (by omega)
        rw [prSame_refl] at pp
        refine VCall.mk _ pp ?_
        rintro _ x18 ⟨rfl, b18⟩
        refine ⟨_, rfl, ?_⟩
        have c18 : Below x16.heap.size x16 x18 := c17.trans (b18.mono c17.size)
        repeat ((conv => whnf); first | (refine VS.mk (Sm.below c18 (by simp; omega)) ?_) | (refine VCmp.tt (by omega) ?_) | (refine VCmp.ff (by omega) ?_) | (refine VIn.mk (IntWalk.i64_in _ (by omega)) ?_) | (refine VIdx.mk _ rfl (by omega) ?_) | (refine VIdx.mk 0 rfl (by omega) ?_))
        try (conv => whnf)
        exact .mk ⟨rfl, b16.trans (c18.mono b16.size)⟩
      · obtain rfl : er = 0 := fe
        have kA : RowK x16 K5 3 eMb Va (t5.S i).mem := ((RowK.new rVa (fun b hb => T5.kz b (Nat.le_trans b11.size hb))).ro (Ro.below (R := fun _ => False) (c14.trans (c15.mono (by omega)))) id).ro Q16 (by omega)
        have z1416 : x14.heap.size ≤ x16.heap.size := Nat.le_trans c15.size Q16.size
        have old14 : ∀ b, b < x14.heap.size → K5 b = 0 → x16.heap[b]? = x14.heap[b]? := fun b hb h0 => (Q16.same b (by have := c15.size; omega) (by rw [h0]; omega)).trans (c15.block b hb)
        have k12 : K5 x12.heap.size = 0 := T5.kz _ (by have := b11.size; omega)
        have k9 : K5 x9.heap.size = 0 := T5.kz _ (by have := b8.size; omega)
        have r12e := range_same r14 (old14 x12.heap.size (by omega) k12)
        have r9e := range_same r9at (old14 x9.heap.size (hl14 _ (by simp)) k9)
        have hl16 : ∀ b ∈ [g, ib, x9.heap.size, x12.heap.size, x6.heap.size], b < x16.heap.size := fun b hb => by
          simp only [List.mem_cons, List.not_mem_nil, or_false] at hb
          rcases hb with rfl | rfl | rfl | rfl | rfl
          · exact T16.hs
          · have := hl14 _ (show b ∈ [g, b, x9.heap.size] by simp); omega
          · have := hl14 _ (show x9.heap.size ∈ [g, ib, x9.heap.size] by simp); omega
          · omega
          · have := b614.size; omega
        have B16 : Bks x16 X5 tb ib eb := ⟨B.t, B.i, B.e, by have := B14.tz; omega, by have := B14.iz; omega, by have := B14.ez; omega⟩
        have Yi := T16.l_inc (l := [g, ib, x9.heap.size, x12.heap.size, x6.heap.size]) B16 (by simp)
        have Yv := T16.l_iv (i := j) (l := [g, ib, x9.heap.size, x12.heap.size, x6.heap.size]) B16 (by simp) hj
        rw [show ({ t5 with S := upS t5.S i s } : Tm).S j = upS t5.S i s j from rfl, upS_ne _ _ (fun e => hne e.symm)] at Yv
        have Yw : Ld Try.prog 46 x12.heap.size 0 (Sm [g, ib, x9.heap.size, x12.heap.size, x6.heap.size] x16) (.agg (viewA (t5.S i).vid Va (t5.S i).mem.length cVa)) := ⟨fun W hW => load_agg (by kernel_rfl) (by kernel_rfl) (range_same r12e (hW _ (by simp)))⟩
        have Yc : Ld Try.prog 3 x9.heap.size 1 (Sm [g, ib, x9.heap.size, x12.heap.size, x6.heap.size] x16) (.int .i64 (t5.S j).own.cid) := ⟨fun W hW => load3 (cell_sm (r9e 1 _ rfl) (by simp) hW)⟩
        have sd16 : Sm [g, ib, x9.heap.size, x12.heap.size, x6.heap.size] x16 x16.drew := fun _ _ => rfl
        have bd16 : Below x16.heap.size x16 x16.drew := (Below.refl _ _).drew
        have ml16 := oR.rinv.len
        repeat ((conv => whnf); first | (refine VCmp.tt (by omega) ?_) | (refine VCmp.ff (by omega) ?_) | (refine VIn.mk (IntWalk.i64_in _ (by omega)) ?_) | (refine VIdx.mk _ rfl (by omega) ?_) | (refine VIdx.mk 0 rfl (by omega) ?_))
        try (conv => whnf)
        refine VDraw.mk 1000 [([0, 1, 2, 3, 4, 5, 6, 7, 8], 9)] [10] (Sm [g, ib, x9.heap.size, x12.heap.size, x6.heap.size] x16) (by kernel_rfl) (by kernel_rfl) (sd16) ?_
        repeat ((conv => whnf); first | (refine VLoad.mk _ Yw ?_) | (refine VLoad.mk _ Yi ?_) | (refine VLoad.mk _ Yv ?_) | (refine VCmp.tt (by omega) ?_) | (refine VCmp.ff (by omega) ?_) | (refine VIn.mk (IntWalk.i64_in _ (by omega)) ?_) | (refine VIdx.mk _ rfl (by omega) ?_) | (refine VIdx.mk 0 rfl (by omega) ?_))
        try (conv => whnf)
        refine VCall.mk _ (holds_any (t5.S i).vid Va cVa x16.drew.heap.size (t5.S i).mem.length (t5.S i).mem j (t5.S j).inc x16.drew rfl (Nat.le_refl _) (kA.row.below bd16 (Nat.le_refl _)) (by omega)) ?_
        rintro _ x17 ⟨rfl, b17⟩
        refine ⟨_, rfl, ?_⟩
        have c17 : Below x16.heap.size x16 x17 := ⟨b17.os, b17.tape, b17.output, b17.size, b17.block⟩
        have s17 := Sm.below c17 hl16
        repeat ((conv => whnf); first | (refine VS.mk s17 ?_) | (refine VCmp.tt (by omega) ?_) | (refine VCmp.ff (by omega) ?_) | (refine VIn.mk (IntWalk.i64_in _ (by omega)) ?_) | (refine VIdx.mk _ rfl (by omega) ?_) | (refine VIdx.mk 0 rfl (by omega) ?_))
        try (conv => whnf)
        cases ho : (t5.S i).opn with
        | true =>
          have FN := fn (.inl ho)
          repeat ((conv => whnf); first | (refine VCmp.tt (by omega) ?_) | (refine VCmp.ff (by omega) ?_) | (refine VIn.mk (IntWalk.i64_in _ (by omega)) ?_) | (refine VIdx.mk _ rfl (by omega) ?_) | (refine VIdx.mk 0 rfl (by omega) ?_))
          try (conv => whnf)
          -- nobody begins: FN : FolN (t5.S i) s bg
          obtain ⟨fb, fo, fc⟩ := FN
          subst fb
          have A17 := A16.ro (Ro.below (R := fun _ => False) (K := K5) c17.drew) id id
          have Yp : Ld Try.prog 3 x6.heap.size 1 (Sm [g, ib, x9.heap.size, x12.heap.size, x6.heap.size] x16) (.int .i64 (t5.S i).own.cid) := ⟨fun W hW => load3 (cell_sm (r6e 1 _ rfl) (by simp) hW)⟩
          refine VDraw.mk 1000 [([0, 1, 2, 3, 5], 4), ([6, 7, 8, 9, 12, 13], 10)] [11, 14, 15, 16] (Sm [g, ib, x9.heap.size, x12.heap.size, x6.heap.size] x16) (by kernel_rfl) (by kernel_rfl) (s17.drew) ?_
          repeat ((conv => whnf); first | (refine VCmp.tt (by omega) ?_) | (refine VCmp.ff (by omega) ?_) | (refine VIn.mk (IntWalk.i64_in _ (by omega)) ?_) | (refine VIdx.mk _ rfl (by omega) ?_) | (refine VIdx.mk 0 rfl (by omega) ?_))
          try (conv => whnf)
          refine VCall.mk _ (changing_any (X5.ag i) s (X5.M i) (X5.cM i) x17.drew A17.ag) ?_
          rintro _ _ ⟨rfl, rfl⟩
          refine ⟨_, rfl, ?_⟩
          rw [fo, ho]
          repeat ((conv => whnf); first | (refine VS.mk s17.drew ?_) | (refine VLoad.mk _ Yp ?_) | (refine VCmp.tt (by omega) ?_) | (refine VCmp.ff (by omega) ?_) | (refine VIn.mk (IntWalk.i64_in _ (by omega)) ?_) | (refine VIdx.mk _ rfl (by omega) ?_) | (refine VIdx.mk 0 rfl (by omega) ?_))
          try (conv => whnf)
          refine VCall.mk _ (proposal_any (X5.ag i) s (X5.M i) (X5.cM i) _ A17.ag A17.hb (by have := hinv.n2; omega)) ?_
          rintro _ x20 ⟨P2, V2', rfl, rP2, rV2, b20⟩
          refine ⟨_, rfl, ?_⟩
          have c20 : Below x16.heap.size x16 x20 := c17.drew.trans (b20.mono c17.drew.size)
          repeat ((conv => whnf); first | (refine VS.mk (Sm.below c20 hl16) ?_) | (refine VCmp.tt fc ?_) | (refine VCmp.tt (by omega) ?_) | (refine VCmp.ff (by omega) ?_) | (refine VIn.mk (IntWalk.i64_in _ (by omega)) ?_) | (refine VIdx.mk _ rfl (by omega) ?_) | (refine VIdx.mk 0 rfl (by omega) ?_))
          try (conv => whnf)
          exact .mk ⟨rfl, b16.trans (c20.mono b16.size)⟩
        | false =>
          by_cases h0 : holdsI (t5.S i).mem j (t5.S j).inc = 0
          · have FN := fn (.inr (.inl h0))
            repeat ((conv => whnf); first | (refine VLoad.mk _ (Yc.at s17) ?_) | (refine VCmp.tt (by omega) ?_) | (refine VCmp.ff (by omega) ?_) | (refine VIn.mk (IntWalk.i64_in _ (by omega)) ?_) | (refine VIdx.mk _ rfl (by omega) ?_) | (refine VIdx.mk 0 rfl (by omega) ?_))
            try (conv => whnf)
            -- nobody begins: FN : FolN (t5.S i) s bg
            obtain ⟨fb, fo, fc⟩ := FN
            subst fb
            have A17 := A16.ro (Ro.below (R := fun _ => False) (K := K5) c17.drew) id id
            have Yp : Ld Try.prog 3 x6.heap.size 1 (Sm [g, ib, x9.heap.size, x12.heap.size, x6.heap.size] x16) (.int .i64 (t5.S i).own.cid) := ⟨fun W hW => load3 (cell_sm (r6e 1 _ rfl) (by simp) hW)⟩
            refine VDraw.mk 1000 [([0, 1, 2, 3, 5], 4), ([6, 7, 8, 9, 12, 13], 10)] [11, 14, 15, 16] (Sm [g, ib, x9.heap.size, x12.heap.size, x6.heap.size] x16) (by kernel_rfl) (by kernel_rfl) (s17.drew) ?_
            repeat ((conv => whnf); first | (refine VCmp.tt (by omega) ?_) | (refine VCmp.ff (by omega) ?_) | (refine VIn.mk (IntWalk.i64_in _ (by omega)) ?_) | (refine VIdx.mk _ rfl (by omega) ?_) | (refine VIdx.mk 0 rfl (by omega) ?_))
            try (conv => whnf)
            refine VCall.mk _ (changing_any (X5.ag i) s (X5.M i) (X5.cM i) x17.drew A17.ag) ?_
            rintro _ _ ⟨rfl, rfl⟩
            refine ⟨_, rfl, ?_⟩
            rw [fo, ho]
            repeat ((conv => whnf); first | (refine VS.mk s17.drew ?_) | (refine VLoad.mk _ Yp ?_) | (refine VCmp.tt (by omega) ?_) | (refine VCmp.ff (by omega) ?_) | (refine VIn.mk (IntWalk.i64_in _ (by omega)) ?_) | (refine VIdx.mk _ rfl (by omega) ?_) | (refine VIdx.mk 0 rfl (by omega) ?_))
            try (conv => whnf)
            refine VCall.mk _ (proposal_any (X5.ag i) s (X5.M i) (X5.cM i) _ A17.ag A17.hb (by have := hinv.n2; omega)) ?_
            rintro _ x20 ⟨P2, V2', rfl, rP2, rV2, b20⟩
            refine ⟨_, rfl, ?_⟩
            have c20 : Below x16.heap.size x16 x20 := c17.drew.trans (b20.mono c17.drew.size)
            repeat ((conv => whnf); first | (refine VS.mk (Sm.below c20 hl16) ?_) | (refine VCmp.tt fc ?_) | (refine VCmp.tt (by omega) ?_) | (refine VCmp.ff (by omega) ?_) | (refine VIn.mk (IntWalk.i64_in _ (by omega)) ?_) | (refine VIdx.mk _ rfl (by omega) ?_) | (refine VIdx.mk 0 rfl (by omega) ?_))
            try (conv => whnf)
            exact .mk ⟨rfl, b16.trans (c20.mono b16.size)⟩
          · by_cases h1 : (t5.S j).own.cid ≤ holdsI (t5.S i).mem j (t5.S j).inc
            · have FN := fn (.inr (.inr h1))
              repeat ((conv => whnf); first | (refine VLoad.mk _ (Yc.at s17) ?_) | (refine VCmp.tt (by omega) ?_) | (refine VCmp.ff (by omega) ?_) | (refine VIn.mk (IntWalk.i64_in _ (by omega)) ?_) | (refine VIdx.mk _ rfl (by omega) ?_) | (refine VIdx.mk 0 rfl (by omega) ?_))
              try (conv => whnf)
              -- nobody begins: FN : FolN (t5.S i) s bg
              obtain ⟨fb, fo, fc⟩ := FN
              subst fb
              have A17 := A16.ro (Ro.below (R := fun _ => False) (K := K5) c17.drew) id id
              have Yp : Ld Try.prog 3 x6.heap.size 1 (Sm [g, ib, x9.heap.size, x12.heap.size, x6.heap.size] x16) (.int .i64 (t5.S i).own.cid) := ⟨fun W hW => load3 (cell_sm (r6e 1 _ rfl) (by simp) hW)⟩
              refine VDraw.mk 1000 [([0, 1, 2, 3, 5], 4), ([6, 7, 8, 9, 12, 13], 10)] [11, 14, 15, 16] (Sm [g, ib, x9.heap.size, x12.heap.size, x6.heap.size] x16) (by kernel_rfl) (by kernel_rfl) (s17.drew) ?_
              repeat ((conv => whnf); first | (refine VCmp.tt (by omega) ?_) | (refine VCmp.ff (by omega) ?_) | (refine VIn.mk (IntWalk.i64_in _ (by omega)) ?_) | (refine VIdx.mk _ rfl (by omega) ?_) | (refine VIdx.mk 0 rfl (by omega) ?_))
              try (conv => whnf)
              refine VCall.mk _ (changing_any (X5.ag i) s (X5.M i) (X5.cM i) x17.drew A17.ag) ?_
              rintro _ _ ⟨rfl, rfl⟩
              refine ⟨_, rfl, ?_⟩
              rw [fo, ho]
              repeat ((conv => whnf); first | (refine VS.mk s17.drew ?_) | (refine VLoad.mk _ Yp ?_) | (refine VCmp.tt (by omega) ?_) | (refine VCmp.ff (by omega) ?_) | (refine VIn.mk (IntWalk.i64_in _ (by omega)) ?_) | (refine VIdx.mk _ rfl (by omega) ?_) | (refine VIdx.mk 0 rfl (by omega) ?_))
              try (conv => whnf)
              refine VCall.mk _ (proposal_any (X5.ag i) s (X5.M i) (X5.cM i) _ A17.ag A17.hb (by have := hinv.n2; omega)) ?_
              rintro _ x20 ⟨P2, V2', rfl, rP2, rV2, b20⟩
              refine ⟨_, rfl, ?_⟩
              have c20 : Below x16.heap.size x16 x20 := c17.drew.trans (b20.mono c17.drew.size)
              repeat ((conv => whnf); first | (refine VS.mk (Sm.below c20 hl16) ?_) | (refine VCmp.tt fc ?_) | (refine VCmp.tt (by omega) ?_) | (refine VCmp.ff (by omega) ?_) | (refine VIn.mk (IntWalk.i64_in _ (by omega)) ?_) | (refine VIdx.mk _ rfl (by omega) ?_) | (refine VIdx.mk 0 rfl (by omega) ?_))
              try (conv => whnf)
              exact .mk ⟨rfl, b16.trans (c20.mono b16.size)⟩
            · have FY := fy (by rintro (e | e | e); rw [ho] at e; cases e; exact h0 e; exact h1 e)
              repeat ((conv => whnf); first | (refine VLoad.mk _ (Yc.at s17) ?_) | (refine VCmp.tt (by omega) ?_) | (refine VCmp.ff (by omega) ?_) | (refine VIn.mk (IntWalk.i64_in _ (by omega)) ?_) | (refine VIdx.mk _ rfl (by omega) ?_) | (refine VIdx.mk 0 rfl (by omega) ?_))
              try (conv => whnf)
              -- a change begins: FY : FolY (t5.S i) s bg
              obtain ⟨yb, yo, ys, yc, yr, yt, yp, yv, ym⟩ := FY
              subst yb
              have hsn : s.n = n := hup.n.trans on
              have A18 := A16.ro (Ro.below (R := fun _ => False) (K := K5) c17) id id
              refine VCall.mk _ (proposal_any (X5.ag i) s (X5.M i) (X5.cM i) x17 A18.ag A18.hb (by omega)) ?_
              rintro _ x20 ⟨P2, V2', rfl, rP2, rV2, b20⟩
              refine ⟨_, rfl, ?_⟩
              rw [hsn] at rP2 rV2 ⊢
              have z20 := b20.size
              repeat ((conv => whnf); first | (refine VCmp.tt (by omega) ?_) | (refine VCmp.ff (by omega) ?_) | (refine VIn.mk (IntWalk.i64_in _ (by omega)) ?_) | (refine VIdx.mk _ rfl (by omega) ?_) | (refine VIdx.mk 0 rfl (by omega) ?_))
              try (conv => whnf)
              refine .mk _ run_zero31 ?_
              conv => whnf
              refine .mk fun u7 hu7 => ?_
              repeat ((conv => whnf); first | (refine VCmp.tt (by omega) ?_) | (refine VCmp.ff (by omega) ?_) | (refine VIn.mk (IntWalk.i64_in _ (by omega)) ?_) | (refine VIdx.mk _ rfl (by omega) ?_) | (refine VIdx.mk 0 rfl (by omega) ?_))
              try (conv => whnf)
              refine VStore.new (c' := propA s.own P2 n V2' n n) hu7 (by kernel_rfl) rfl (one_propA _ _ _ _ _ _) fun x22 hx22 => ?_
              have c22 : Below x20.heap.size x20 x22 := by rw [hx22.out]; exact (Below.refl _ _).alloc (Nat.le_refl _) _
              have z22 : x22.heap.size = x20.heap.size + 1 := by rw [hx22.out]; simp
              have r22 : x22.rangeAt x20.heap.size 0 (propA s.own P2 n V2' n n).toList := by rw [hx22.out]; exact range_new x20 _ 31
              clear hu7 hx22 u7
              have c1622 : Below x16.heap.size x16 x22 := c17.trans ((b20.trans (c22.mono z20)).mono c17.size)
              have z1622 := c1622.size
              have A22 := A16.ro (Ro.below (R := fun _ => False) (K := K5) c1622.drew) id id
              have hl22 : ∀ b ∈ [x6.heap.size, x12.heap.size, x20.heap.size], b < x22.heap.size := fun b hb => by
                have h1 := hl16 x6.heap.size (by simp)
                have h2 := hl16 x12.heap.size (by simp)
                simp only [List.mem_cons, List.not_mem_nil, or_false] at hb
                rcases hb with rfl | rfl | rfl <;> omega
              have q6 := range_same r6e (c1622.block x6.heap.size (hl16 _ (by simp)))
              have q12 := range_same r12e (c1622.block x12.heap.size (hl16 _ (by simp)))
              have hs22 : ∀ W, Below x22.heap.size x22 W → Sm [x6.heap.size, x12.heap.size, x20.heap.size] x22 W := fun W hW => .below hW hl22
              have Z0 : Ld Try.prog 27 x20.heap.size 0 (Below x22.heap.size x22) (.slice P2 n n) := ⟨fun W hW => load27 ((hs22 W hW).cellv (r22 0 _ rfl) (by simp))⟩
              have Z1 : Ld Try.prog 3 x20.heap.size 1 (Below x22.heap.size x22) (.int .i64 s.own.cid) := ⟨fun W hW => load3 ((hs22 W hW).cellv (r22 1 _ rfl) (by simp))⟩
              have Z2 : Ld Try.prog 3 x20.heap.size 2 (Below x22.heap.size x22) (.int .i64 s.own.rev) := ⟨fun W hW => load3 ((hs22 W hW).cellv (r22 2 _ rfl) (by simp))⟩
              have Z3 : Ld Try.prog 3 x20.heap.size 3 (Below x22.heap.size x22) (.int .i64 s.own.top) := ⟨fun W hW => load3 ((hs22 W hW).cellv (r22 3 _ rfl) (by simp))⟩
              have Z4 : Ld Try.prog 29 x20.heap.size 4 (Below x22.heap.size x22) (.agg (vidC s.own.prev)) := ⟨fun W hW => load_agg (by kernel_rfl) (by kernel_rfl) (range_sub (n := 4) (range_same r22 (hs22 W hW _ (by simp))) 4 rfl)⟩
              have Y0 : Ld Try.prog 27 x6.heap.size 0 (Below x22.heap.size x22) (.slice Pi n n) := ⟨fun W hW => load27 ((hs22 W hW).cellv (q6 0 _ rfl) (by simp))⟩
              have Y1 : Ld Try.prog 3 x6.heap.size 1 (Below x22.heap.size x22) (.int .i64 (t5.S i).own.cid) := ⟨fun W hW => load3 ((hs22 W hW).cellv (q6 1 _ rfl) (by simp))⟩
              have Y2 : Ld Try.prog 3 x6.heap.size 2 (Below x22.heap.size x22) (.int .i64 (t5.S i).own.rev) := ⟨fun W hW => load3 ((hs22 W hW).cellv (q6 2 _ rfl) (by simp))⟩
              have W0 : Ld Try.prog 3 x12.heap.size 0 (Below x22.heap.size x22) (.int .i64 (t5.S i).vid.e) := ⟨fun W hW => load3 ((hs22 W hW).cellv (q12 0 _ rfl) (by simp))⟩
              have W1 : Ld Try.prog 29 x12.heap.size 0 (Below x22.heap.size x22) (.agg (vidC (t5.S i).vid)) := ⟨fun W hW => load_agg (by kernel_rfl) (by kernel_rfl) (range_sub (n := 4) (range_same q12 (hs22 W hW _ (by simp))) 0 rfl)⟩
              have W2 : Ld Try.prog 46 x12.heap.size 0 (Below x22.heap.size x22) (.agg (viewA (t5.S i).vid Va (t5.S i).mem.length cVa)) := ⟨fun W hW => load_agg (by kernel_rfl) (by kernel_rfl) (range_same q12 (hs22 W hW _ (by simp)))⟩
              have bd22 : Below x22.heap.size x22 x22.drew := (Below.refl _ _).drew
              repeat ((conv => whnf); first | (refine VCmp.tt (by omega) ?_) | (refine VCmp.ff (by omega) ?_) | (refine VIn.mk (IntWalk.i64_in _ (by omega)) ?_) | (refine VIdx.mk _ rfl (by omega) ?_) | (refine VIdx.mk 0 rfl (by omega) ?_))
              try (conv => whnf)
              refine VDraw.mk 1000 [([0, 1, 2], 3), ([4, 5, 6, 7, 8, 9], 10), ([11, 12, 13, 14, 15, 16, 17, 18, 19, 20, 21, 22, 23, 24, 25, 26, 27, 28, 29, 30, 31, 32, 33, 34, 35, 36, 37, 38, 39, 40], 41), ([42, 43, 44, 46], 45), ([], 47)] [48, 49] (Below x22.heap.size x22) (by kernel_rfl) (by kernel_rfl) (bd22) ?_
              repeat ((conv => whnf); first | (refine VCmp.tt (by omega) ?_) | (refine VCmp.ff (by omega) ?_) | (refine VIn.mk (IntWalk.i64_in _ (by omega)) ?_) | (refine VIdx.mk _ rfl (by omega) ?_) | (refine VIdx.mk 0 rfl (by omega) ?_))
              try (conv => whnf)
              refine VCall.mk _ (changing_any (X5.ag i) s (X5.M i) (X5.cM i) x22.drew A22.ag) ?_
              rintro _ _ ⟨rfl, rfl⟩
              refine ⟨_, rfl, ?_⟩
              rw [yo]
              repeat ((conv => whnf); first | (refine VS.mk bd22 ?_) | (refine VLoad.mk _ Z0 ?_) | (refine VLoad.mk _ Y0 ?_) | (refine VCmp.tt (by omega) ?_) | (refine VCmp.ff (by omega) ?_) | (refine VIn.mk (IntWalk.i64_in _ (by omega)) ?_) | (refine VIdx.mk _ rfl (by omega) ?_) | (refine VIdx.mk 0 rfl (by omega) ?_))
              try (conv => whnf)
              have c2022 := c22.mono (Nat.le_refl _)
              have e1 : Below x16.heap.size x16 x22.drew := c1622.drew
              have ls := lints_two P2 Pi n n x22.drew.heap.size (s.own.set.take n) ((t5.S i).own.set.take n) n n x22.drew (by rw [ys]; exact li1) li1 (Nat.le_refl _) ((rP2.below c22).row.below bd22 (Nat.le_refl _)) ((kP.row.below e1 (Nat.le_refl _)).more e1.size) (by omega) (by omega)
              rw [decide_eq_true (by rw [ys] : s.own.set.take n = (t5.S i).own.set.take n)] at ls
              refine VCall.mk _ ls ?_
              rintro _ x23 ⟨rfl, b23⟩
              refine ⟨_, rfl, ?_⟩
              have c23 : Below x22.heap.size x22 x23 := bd22.trans b23
              have hbd := P5.bd.s i
              have hb1 := oR.inv.own.cid
              have hb2 := oR.inv.own.rev
              repeat ((conv => whnf); first | (refine VS.mk c23 ?_) | (refine VLoad.mk _ Z1 ?_) | (refine VLoad.mk _ Z2 ?_) | (refine VLoad.mk _ Z3 ?_) | (refine VLoad.mk _ Z4 ?_) | (refine VLoad.mk _ Y1 ?_) | (refine VLoad.mk _ Y2 ?_) | (refine VLoad.mk _ W0 ?_) | (refine VLoad.mk _ W1 ?_) | (refine VCmp.tt (by omega) ?_) | (refine VCmp.ff (by omega) ?_) | (refine VIn.mk (IntWalk.i64_in _ (by omega)) ?_) | (refine VIdx.mk _ rfl (by omega) ?_) | (refine VIdx.mk 0 rfl (by omega) ?_))
              try (conv => whnf)
              have si := lsame_any s.own.prev (t5.S i).vid x23
              rw [show vidEq s.own.prev (t5.S i).vid = true from decide_eq_true yp] at si
              refine VCall.mk _ si ?_
              rintro _ x24 ⟨rfl, b24⟩
              refine ⟨_, rfl, ?_⟩
              have c24 : Below x22.heap.size x22 x24 := c23.trans (b24.mono c23.size)
              repeat ((conv => whnf); first | (refine VS.mk c24 ?_) | (refine VLoad.mk _ W2 ?_) | (refine VCmp.tt (by omega) ?_) | (refine VCmp.ff (by omega) ?_) | (refine VIn.mk (IntWalk.i64_in _ (by omega)) ?_) | (refine VIdx.mk _ rfl (by omega) ?_) | (refine VIdx.mk 0 rfl (by omega) ?_))
              try (conv => whnf)
              have A24 := A16.ro (Ro.below (R := fun _ => False) (K := K5) (c1622.trans (c24.mono z1622))) id id
              have row24 := A24.row
              refine VCall.mk _ (view_any (X5.ag i) s (X5.M i) (X5.cM i) x24.heap.size x24 A24.ag A24.hb (Nat.le_refl _) row24.row (by rw [ym]; exact oR.rinv.len)) ?_
              rintro _ x25 ⟨Vb, cVb, rfl, rVb, b25⟩
              refine ⟨_, rfl, ?_⟩
              have c25 : Below x22.heap.size x22 x25 := c24.trans (b25.mono c24.size)
              have c1625 := c1622.trans (c25.mono z1622)
              repeat ((conv => whnf); first | (refine VS.mk c25 ?_) | (refine VLoad.mk _ W2 ?_) | (refine VCmp.tt (by omega) ?_) | (refine VCmp.ff (by omega) ?_) | (refine VIn.mk (IntWalk.i64_in _ (by omega)) ?_) | (refine VIdx.mk _ rfl (by omega) ?_) | (refine VIdx.mk 0 rfl (by omega) ?_))
              try (conv => whnf)
              have vv := views_any s.vid (t5.S i).vid Vb Va cVb cVa x25.heap.size s.mem.length (t5.S i).mem.length s.mem (t5.S i).mem x25 rfl rfl (Nat.le_refl _) rVb.row ((kA.row.below c1625 (Nat.le_refl _)).more c1625.size) (by rw [ym]; omega) (by omega)
              rw [show viSame s.vid s.mem (t5.S i).vid (t5.S i).mem = true from by rw [yv, ym]; exact viSame_refl _ _] at vv
              refine VCall.mk _ vv ?_
              rintro _ x26 ⟨rfl, b26⟩
              refine ⟨_, rfl, ?_⟩
              have c26 : Below x22.heap.size x22 x26 := c25.trans (b26.mono c25.size)
              repeat ((conv => whnf); first | (refine VS.mk c26 ?_) | (refine VCmp.tt (by omega) ?_) | (refine VCmp.ff (by omega) ?_) | (refine VIn.mk (IntWalk.i64_in _ (by omega)) ?_) | (refine VIdx.mk _ rfl (by omega) ?_) | (refine VIdx.mk 0 rfl (by omega) ?_))
              try (conv => whnf)
              exact .mk ⟨rfl, b16.trans ((c1622.trans (c26.mono z1622)).mono b16.size)⟩
end Go.Proofs.Ytfbeggdbjpmppaa
