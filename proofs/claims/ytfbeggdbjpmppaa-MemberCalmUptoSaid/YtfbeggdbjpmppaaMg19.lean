/- RoundW SettW, joined. -/
import Derived.Test.YtfbeggdbjpmppaaMg17
import Derived.Test.YtfbeggdbjpmppaaMg18
set_option linter.unusedVariables false
set_option linter.unusedSimpArgs false
namespace Go.Proofs.Ytfbeggdbjpmppaa
open Go Go.RowKit
def whoI (who : List Nat) : List Int := who.map Int.ofNat
theorem whoI_len (who : List Nat) : (whoI who).length = who.length := List.length_map _
theorem whoI_at {who : List Nat} {k : Nat} (hk : k < who.length) : (whoI who)[k]? = some ((who.getD k 0 : Nat) : Int) := by
  unfold whoI
  rw [List.getElem?_map, List.getElem?_eq_getElem hk, List.getD_eq_getElem?_getD, List.getElem?_eq_getElem hk]; rfl
theorem now_take {who : List Nat} {t : Tm} {k : Nat} (hk : k < who.length) : (who.take (k + 1)).map t.ltOf = (who.take k).map t.ltOf ++ [t.ltOf (who.getD k 0)] := by
  rw [List.take_add_one, List.getElem?_eq_getElem hk, List.getD_eq_getElem?_getD, List.getElem?_eq_getElem hk, List.map_append]; rfl
theorem RowK.app {α : Type} {w w' : World} {K : Nat → Nat} {sz : Nat} {enc : α → List Value} {B : Option Addr} {l : List α} {A A' : Option Addr} (h : RowK w (roleN K A 6) sz enc B l) (hg : w.grownBy w' (blk A)) (hA : blk A' = blk A ∨ blk A' = some w.heap.size) : RowK w' (roleN K A' 6) sz enc B l := fun hl => by
  obtain ⟨g, off, e, h1, h2, h3⟩ := h hl
  unfold roleN at h2
  split at h2
  · cases h2
  · rename_i hne
    refine ⟨g, off, e, Nat.lt_of_lt_of_le h1 hg.size, ?_, fun k x hx j u hu => (World.cell?_of_block (a := ⟨g, _, none⟩) (hg.block g h1 (fun e => hne e.symm))).trans (h3 k x hx j u hu)⟩
    unfold roleN
    rw [if_neg]
    · exact h2
    · intro e2
      rcases hA with e3 | e3
      · exact hne (e3 ▸ e2)
      · rw [e3] at e2; injection e2 with e2; omega
theorem RowK.unN {α : Type} {w : World} {K : Nat → Nat} {sz : Nat} {enc : α → List Value} {B : Option Addr} {l : List α} {A : Option Addr} (h : RowK w (roleN K A 6) sz enc B l) : RowK w K sz enc B l := fun hl => by
  obtain ⟨g, off, e, h1, h2, h3⟩ := h hl
  unfold roleN at h2
  split at h2
  · cases h2
  · exact ⟨g, off, e, h1, h2, h3⟩
structure NowR (w0 : World) (K : Nat → Nat) (n : Nat) (l : List Lt) (A : Option Addr) (c : Nat) (ys : List SaX) (W : World) : Prop where
  be : Below w0.heap.size w0 W
  own : Owns W w0.heap.size 33 10 (eSa n) A c ys
  mp : ys.map (·.x) = l
  rows : ∀ y ∈ ys, RowK W (roleN K A 6) 1 eInt y.S (y.x.w.set.take n) ∧ RowK W (roleN K A 6) 1 eInt y.V (y.x.w.vec.take n)
set_option maxRecDepth 100000 in
set_option maxHeartbeats 8000000 in
theorem round_any {w : World} {K : Nat → Nat} {h n c : Nat} {t : Tm} {X : TX} {who : List Nat} {Xs : List Int} (T : TmM w K h n n t X) (G : Gd n c who Xs t) (hL : who.length ≤ 16) {A : Option Addr} {cA L : Nat} (hwL : who.length = L) (rW : RowK w K 1 eInt A (whoI who)) (turn : Nat) (ht : turn ≤ 1001) (hc : n + c ≤ 900000000) :
    Calls Try.prog 38 #[.pointer (some ⟨h, 0, none⟩), .slice A L cA, .int .i64 turn] w fun e w' => e = .returned (.bool true) ∧ TP w K h n n (t.round who turn) w' := by
  refine calls_vc tab_ok Try.func38 rfl ?_
  have n16 := G.n16
  have nn := G.cal.p.nn
  have w0 := G.w0
  have n1 : 0 < n := by have := G.wn _ (getD_mem w0); omega
  obtain ⟨tb, ib, eb, B, kt, ki, ke⟩ := T.bks n1
  obtain ⟨wb, wo, rfl, wz, wk0, wc⟩ := rW (by rw [whoI_len]; exact w0)
  have hla : ∀ b ∈ [h, tb, ib, eb, wb], b < w.heap.size := fun b hb => by
    simp only [List.mem_cons, List.not_mem_nil, or_false] at hb
    rcases hb with rfl | rfl | rfl | rfl | rfl
    · exact T.hs
    · exact B.tz
    · exact B.iz
    · exact B.ez
    · exact wz
  have Lw : ∀ k, k < L → Ld Try.prog 3 wb (wo + k) (Sm [h, tb, ib, eb, wb] w) (.int .i64 (who.getD k 0)) := fun k hk => ⟨fun W hW => load3 (by
    have := wc k _ (whoI_at (by omega)) 0 _ rfl
    rw [Nat.mul_one] at this
    exact cell_sm this (by simp) hW)⟩
  have M0 := T.l_inc (l := [h, tb, ib, eb, wb]) B (by simp)
  have M2 := T.l_at (l := [h, tb, ib, eb, wb]) B (by simp)
  conv => whnf
  repeat ((conv => whnf); first | (refine VCmp.tt (by omega) ?_) | (refine VCmp.ff (by omega) ?_) | (refine VIn.mk (IntWalk.i64_in _ (by omega)) ?_) | (refine VIdx.mk _ rfl (by omega) ?_) | (refine VIdx.mk 0 rfl (by omega) ?_))
  try (conv => whnf)
  refine VLoop.mk (Nat × Option Addr × Nat × List SaX) (fun u => [(0, .pointer (some ⟨h, 0, none⟩)), (1, .slice (some ⟨wb, wo, none⟩) L cA), (2, .int .i64 turn), (7, .slice u.2.1 u.1 u.2.2.1), (8, .int .i64 u.1)]) (fun u W => u.1 ≤ L ∧ u.2.2.2.length = u.1 ∧ NowR w K n ((who.take u.1).map t.ltOf) u.2.1 u.2.2.1 u.2.2.2 W) (fun u => L - u.1) (0, none, 0, []) ⟨rfl, rfl, rfl, rfl, rfl, trivial⟩ ⟨Nat.zero_le _, rfl, ⟨Below.refl _ _, ⟨rfl, .inl ⟨rfl, rfl⟩⟩, rfl, fun y hy => absurd hy (by simp)⟩⟩ ?_
  rintro ⟨k, A, c', ys⟩ wk ⟨hk, hys, N⟩
  dsimp only at hk hys N ⊢
  by_cases hkL : k < L
  · obtain ⟨i, hi⟩ : ∃ i, i = who.getD k 0 := ⟨_, rfl⟩
    have hiw : i ∈ who := by rw [hi]; exact getD_mem (by omega)
    have hin := G.wn i hiw
    have zk := N.be.size
    have zd : wk.drew.heap.size = wk.heap.size := rfl
    have dk : Below wk.heap.size wk wk.drew := (Below.refl _ _).drew
    have be0 : Below w.heap.size w wk.drew := N.be.drew
    have T0 := T.below be0
    have A0 := T0.ag i hin
    obtain ⟨on, oR, oH, oN⟩ := G.nd hiw
    have hs0 : Sm [h, tb, ib, eb, wb] w wk.drew := .below be0 hla
    have M1 := T.l_iv (l := [h, tb, ib, eb, wb]) B (by simp) hin
    have M3 := T.l_ptr (l := [h, tb, ib, eb, wb]) B (by simp) hin hin
    have M4 := Lw k hkL
    rw [← hi] at M4
    repeat ((conv => whnf); first | (refine VCmp.tt (by omega) ?_) | (refine VCmp.ff (by omega) ?_) | (refine VIn.mk (IntWalk.i64_in _ (by omega)) ?_) | (refine VIdx.mk _ rfl (by omega) ?_) | (refine VIdx.mk 0 rfl (by omega) ?_))
    try (conv => whnf)
    refine VDraw.mk 1000 [([0, 1, 2, 3, 4, 5, 6, 7, 8, 9, 10, 11, 12, 13, 14, 15, 16, 17, 18, 19, 20], 21), ([], 22), ([23], 24), ([], 25)] [26] (Sm [h, tb, ib, eb, wb] w) (by kernel_rfl) (by kernel_rfl) (hs0) ?_
    repeat ((conv => whnf); first | (refine VLoad.mk _ M0 ?_) | (refine VLoad.mk _ M1 ?_) | (refine VLoad.mk _ M2 ?_) | (refine VLoad.mk _ M3 ?_) | (refine VLoad.mk _ M4 ?_) | (refine VCmp.tt (by omega) ?_) | (refine VCmp.ff (by omega) ?_) | (refine VIn.mk (IntWalk.i64_in _ (by omega)) ?_) | (refine VIdx.mk _ rfl (by omega) ?_) | (refine VIdx.mk 0 rfl (by omega) ?_))
    try (conv => whnf)
    refine VCall.mk _ (proposal_any (X.ag i) (t.S i) (X.M i) (X.cM i) wk.drew A0.ag A0.hb (by rw [on]; exact n16)) ?_
    rintro _ x1 ⟨P, V, rfl, rP, rV, b1⟩
    refine ⟨_, rfl, ?_⟩
    rw [on] at rP rV ⊢
    have z1 := b1.size
    have be1 : Below w.heap.size w x1 := be0.trans (b1.mono be0.size)
    have so := oR.inv.own.set
    have vo := oR.inv.own.vec
    have l1 := take_len (n := n) so n16
    have l2 := take_len (n := n) vo n16
    repeat ((conv => whnf); first | (refine VS.mk (.below be1 hla) ?_) | (refine VCmp.tt (by omega) ?_) | (refine VCmp.ff (by omega) ?_) | (refine VIn.mk (IntWalk.i64_in _ (by omega)) ?_) | (refine VIdx.mk _ rfl (by omega) ?_) | (refine VIdx.mk 0 rfl (by omega) ?_))
    try (conv => whnf)
    refine VCall.mk _ (copied_any P n V n x1.heap.size n n (prW n (t.S i).own) _ _ x1 l1 l2 (Nat.le_refl _) (rP.row) (rV.row) (by omega) (by omega)) ?_
    rintro _ x2 ⟨g, d, g', d', rfl, oP, oV, hne, b2⟩
    refine ⟨_, rfl, ?_⟩
    have b12 : Below x1.heap.size x1 x2 := ⟨b2.os, b2.tape, b2.output, b2.size, b2.block⟩
    have z2 := b12.size
    have be2 : Below w.heap.size w x2 := be1.trans (b12.mono be1.size)
    repeat ((conv => whnf); first | (refine VS.mk (.below be2 hla) ?_) | (refine VCmp.tt (by omega) ?_) | (refine VCmp.ff (by omega) ?_) | (refine VIn.mk (IntWalk.i64_in _ (by omega)) ?_) | (refine VIdx.mk _ rfl (by omega) ?_) | (refine VIdx.mk 0 rfl (by omega) ?_))
    try (conv => whnf)
    refine VBuild.mk _ (fun W => build33 W n (t.S i).inc (t.S i).own (some ⟨g, 0, none⟩) d (some ⟨g', 0, none⟩) d') ?_
    repeat ((conv => whnf); first | (refine VCmp.tt (by omega) ?_) | (refine VCmp.ff (by omega) ?_) | (refine VIn.mk (IntWalk.i64_in _ (by omega)) ?_) | (refine VIdx.mk _ rfl (by omega) ?_) | (refine VIdx.mk 0 rfl (by omega) ?_))
    try (conv => whnf)
    refine VBs.mk _ _ (bs34 x2 n ⟨(t.S i).inc, (t.S i).own⟩ (some ⟨g, 0, none⟩) d (some ⟨g', 0, none⟩) d') ?_
    have c3 : Below x2.heap.size x2 (x2.alloc (.cells (saA n ⟨(t.S i).inc, (t.S i).own⟩ (some ⟨g, 0, none⟩) d (some ⟨g', 0, none⟩) d') 33)) := (Below.refl _ _).alloc (Nat.le_refl _) _
    have hnc : ∀ j u, (eSa n ⟨⟨(t.S i).inc, (t.S i).own⟩, some ⟨g, 0, none⟩, d, some ⟨g', 0, none⟩, d'⟩)[j]? = some u → (x2.alloc (.cells (saA n ⟨(t.S i).inc, (t.S i).own⟩ (some ⟨g, 0, none⟩) d (some ⟨g', 0, none⟩) d') 33)).cell? ⟨x2.heap.size, j, none⟩ = some u := fun j u hu => by
      have := range_new x2 (saA n ⟨(t.S i).inc, (t.S i).own⟩ (some ⟨g, 0, none⟩) d (some ⟨g', 0, none⟩) d') 33 j u hu
      rwa [Nat.zero_add] at this
    have z3a : (x2.alloc (.cells (saA n ⟨(t.S i).inc, (t.S i).own⟩ (some ⟨g, 0, none⟩) d (some ⟨g', 0, none⟩) d') 33)).heap.size = x2.heap.size + 1 := by simp
    generalize x2.alloc (.cells (saA n ⟨(t.S i).inc, (t.S i).own⟩ (some ⟨g, 0, none⟩) d (some ⟨g', 0, none⟩) d') 33) = x3 at c3 hnc z3a ⊢
    have z3 := c3.size
    have be3 : Below w.heap.size w x3 := be2.trans (c3.mono be2.size)
    have ze3 := be3.size
    have bk3 : Below wk.heap.size wk x3 := dk.trans ((b1.trans ((b12.trans (c3.mono z2)).mono z1)).mono (Nat.le_refl _))
    repeat ((conv => whnf); first | (refine VS.mk (.below be3 hla) ?_) | (refine VCmp.tt (by omega) ?_) | (refine VCmp.ff (by omega) ?_) | (refine VIn.mk (IntWalk.i64_in _ (by omega)) ?_) | (refine VIdx.mk _ rfl (by omega) ?_) | (refine VIdx.mk 0 rfl (by omega) ?_))
    try (conv => whnf)
    have o3 := N.own.keep bk3 (fun q hq => (N.own.lo q hq).2)
    refine VApp.keep w.heap.size 10 112 _ Try.underlying34 info33 rfl (by decide) (eSa n) (len_eSa n) (one_eSa n) ys ⟨⟨(t.S i).inc, (t.S i).own⟩, some ⟨g, 0, none⟩, d, some ⟨g', 0, none⟩, d'⟩ hys o3 hnc (by omega) (by omega) (by omega) fun A2 c2 x4 oA oB hg hA => ?_
    have be4 : Below w.heap.size w x4 := be3.grown hg be3.size (fun q hq => (o3.lo q hq).1)
    repeat ((conv => whnf); first | (refine VS.mk (.below be4 hla) ?_) | (refine VCmp.tt (by omega) ?_) | (refine VCmp.ff (by omega) ?_) | (refine VIn.mk (IntWalk.i64_in _ (by omega)) ?_) | (refine VIdx.mk _ rfl (by omega) ?_) | (refine VIdx.mk 0 rfl (by omega) ?_))
    try (conv => whnf)
    have oP3 := (oP.keep c3 (fun q hq => (oP.lo q hq).2)).row (fun _ => rfl)
    have oV3 := (oV.keep c3 (fun q hq => (oV.lo q hq).2)).row (fun _ => rfl)
    have gA : ∀ b, x1.heap.size ≤ b → roleN K A 6 b = 0 := fun b hb => by
      unfold roleN
      rw [if_neg (fun e => by have := (N.own.lo b e).2; have := bk3.size; omega)]
      exact T.kz b (by have := be1.size; omega)
    have rPk : RowK x3 (roleN K A 6) 1 eInt (some ⟨g, 0, none⟩) ((t.S i).own.set.take n) := .at_ (row_prefix oP3) fun b hb => by
      injection hb with hb
      rw [← hb]; exact gA g (oP.lo g rfl).1
    have rVk : RowK x3 (roleN K A 6) 1 eInt (some ⟨g', 0, none⟩) ((t.S i).own.vec.take n) := .at_ (row_prefix oV3) fun b hb => by
      injection hb with hb
      rw [← hb]; exact gA g' (oV.lo g' rfl).1
    refine .mk (k + 1, A2, c2, ys ++ [⟨⟨(t.S i).inc, (t.S i).own⟩, some ⟨g, 0, none⟩, d, some ⟨g', 0, none⟩, d'⟩]) ⟨rfl, rfl, rfl, rfl, rfl, trivial⟩ ⟨hkL, by rw [List.length_append, hys]; rfl, ⟨be4, oA, ?_, fun y hy => ?_⟩⟩ (by show L - (k + 1) < L - k; omega)
    · rw [now_take (by omega), List.map_append, N.mp, ← hi]; rfl
    · rcases List.mem_append.1 hy with hy | hy
      · exact ⟨((N.rows y hy).1.ro (Ro.below (R := fun _ => False) bk3) id).app hg hA, ((N.rows y hy).2.ro (Ro.below (R := fun _ => False) bk3) id).app hg hA⟩
      · rw [List.mem_singleton.1 hy]
        exact ⟨rPk.app hg hA, rVk.app hg hA⟩
  · obtain rfl : L = k := by omega
    repeat ((conv => whnf); first | (refine VCmp.tt (by omega) ?_) | (refine VCmp.ff (by omega) ?_) | (refine VIn.mk (IntWalk.i64_in _ (by omega)) ?_) | (refine VIdx.mk _ rfl (by omega) ?_) | (refine VIdx.mk 0 rfl (by omega) ?_))
    try (conv => whnf)
    obtain ⟨nb, hnb, nbz⟩ := N.own.blk_of (by omega)
    subst hnb
    have nlo := (N.own.lo nb rfl).1
    have hnk : K nb = 0 := T.kz nb nlo
    obtain ⟨nb', no', e', nbz', hnc⟩ := N.own.row (fun _ => rfl) (by omega)
    injection e' with e'
    injection e' with e1 e2
    subst e1; subst e2
    have zk := N.be.size
    have Lw' : ∀ j, j < L → Ld Try.prog 3 wb (wo + j) (Sm [wb, nb] wk) (.int .i64 (who.getD j 0)) := fun j hj => ⟨fun W hW => load3 (by
      have := wc j _ (whoI_at (by omega)) 0 _ rfl
      rw [Nat.mul_one] at this
      exact (World.cell?_of_block (a := ⟨wb, _, none⟩) ((hW wb (by simp)).trans (N.be.block wb wz))).trans this)⟩
    have hLL : L * L ≤ 16 * 16 := Nat.mul_le_mul (by omega) (by omega)
    have HS2 : ∀ k m, k < L → m ≤ L → HS n (c + 272) who Xs t (hRow who (nowOf who t) turn k (hAll who (nowOf who t) turn t k) m) := fun k m hk hm => by
      have hkL : k * who.length ≤ 16 * 16 := Nat.mul_le_mul (by omega) (by omega)
      obtain ⟨h1, -⟩ := (HS.refl G).all G (turn := turn) k (by omega) (by omega)
      obtain ⟨h2, -⟩ := h1.row G (turn := turn) (k := k) (by omega) m (by omega) (by omega)
      exact ⟨h2.gd.more (by omega), h2.inc, h2.E, h2.vm, h2.lt, h2.op, h2.cl, h2.st⟩
    refine VLoop.mk Nat (fun k => [(0, .pointer (some ⟨h, 0, none⟩)), (1, .slice (some ⟨wb, wo, none⟩) L cA), (2, .int .i64 turn), (7, .slice (some ⟨nb, 0, none⟩) L c'), (9, .int .i64 k)]) (fun k W => k ≤ L ∧ ∃ K' X', TmM W K' h n n (hAll who (nowOf who t) turn t k) X' ∧ Ro (· ≠ 0) K K' wk W) (fun k => L - k) 0 ⟨rfl, rfl, rfl, rfl, rfl, trivial⟩ ⟨Nat.zero_le _, K, X, T.below N.be, Ro.refl _ _ _⟩ ?_
    rintro k wj ⟨hk, K1, X1, T1, q1⟩
    by_cases hk2 : k < L
    · repeat ((conv => whnf); first | (refine VCmp.tt (by omega) ?_) | (refine VCmp.ff (by omega) ?_) | (refine VIn.mk (IntWalk.i64_in _ (by omega)) ?_) | (refine VIdx.mk _ rfl (by omega) ?_) | (refine VIdx.mk 0 rfl (by omega) ?_))
      try (conv => whnf)
      refine VLoop.mk Nat (fun m => [(0, .pointer (some ⟨h, 0, none⟩)), (1, .slice (some ⟨wb, wo, none⟩) L cA), (2, .int .i64 turn), (7, .slice (some ⟨nb, 0, none⟩) L c'), (9, .int .i64 k), (10, .int .i64 m)]) (fun m W => m ≤ L ∧ ∃ K' X', TmM W K' h n n (hRow who (nowOf who t) turn k (hAll who (nowOf who t) turn t k) m) X' ∧ Ro (· ≠ 0) K K' wk W) (fun m => L - m) 0 ⟨rfl, rfl, rfl, rfl, rfl, rfl, trivial⟩ ⟨Nat.zero_le _, K1, X1, T1, q1⟩ ?_
      rintro m wm ⟨hm, K2, X2, T2, q2⟩
      by_cases hm2 : m < L
      · obtain ⟨kt, hkt⟩ : ∃ kt, kt = k * turn := ⟨_, rfl⟩
        have hkt2 : kt ≤ 16 * 1001 := by rw [hkt]; exact Nat.mul_le_mul (by omega) ht
        have hkt3 : (k : Int) * (turn : Int) = (kt : Int) := by rw [hkt]; exact (Int.natCast_mul k turn).symm
        obtain ⟨y0, hy0⟩ : ∃ y0, y0 = (m + kt) % L := ⟨_, rfl⟩
        have hy0L : y0 < L := by rw [hy0]; exact Nat.mod_lt _ (by omega)
        have hrem : ((m : Int) + kt).tmod L = (y0 : Int) := by rw [hy0, Int.ofNat_tmod, Int.natCast_add]
        have hrem2 : (turn : Int).tmod 2 = ((turn % 2 : Nat) : Int) := by rw [Int.ofNat_tmod]; rfl
        have ht2 : turn % 2 < 2 := Nat.mod_lt _ (by omega)
        repeat ((conv => whnf); first | (refine VCmp.tt (by omega) ?_) | (refine VCmp.ff (by omega) ?_) | (refine VIn.mk (IntWalk.i64_in _ (by omega)) ?_) | (refine VIdx.mk _ rfl (by omega) ?_) | (refine VIdx.mk 0 rfl (by omega) ?_))
        try (conv => whnf)
        refine VQ.mk (.int .i64 y0) (fun a ha W _ => ?_) ?_
        · have h3 := ha (.tmp 61) _ rfl
          have h4 := ha (.tmp 63) _ rfl
          rw [hkt3] at h3
          have := rem_any ((m : Int) + kt) L (by omega) (by rw [hrem]; exact IntWalk.i64_in _ (by omega)) W
          rw [hrem] at this
          have hg : Sem.run Try.prog (eqGuard .rem 3 (.tmp 61) (.tmp 63) (.int .i64 ((m : Int) + kt)) (.int .i64 L)) W = .ok () W := rfl
          simp only [execOp, h3, h4, Sem.run_bind, hg, this, Result.andThen_ok, Sem.run_pure]
        repeat ((conv => whnf); first | (refine VCmp.tt (by omega) ?_) | (refine VCmp.ff (by omega) ?_) | (refine VIn.mk (IntWalk.i64_in _ (by omega)) ?_) | (refine VIdx.mk _ rfl (by omega) ?_) | (refine VIdx.mk 0 rfl (by omega) ?_))
        try (conv => whnf)
        refine VQ.mk (.int .i64 ((turn % 2 : Nat) : Int)) (fun a ha W _ => ?_) ?_
        · have h3 := ha (.tmp 65) _ rfl
          have h4 := ha (.const (.int .i64 2)) _ rfl
          have := rem_any turn 2 (by decide) (by rw [hrem2]; exact IntWalk.i64_in _ (by omega)) W
          rw [hrem2] at this
          have hg : Sem.run Try.prog (eqGuard .rem 3 (.tmp 65) (.const (.int .i64 2)) (.int .i64 turn) (.int .i64 2)) W = .ok () W := rfl
          simp only [execOp, h3, h4, Sem.run_bind, hg, this, Result.andThen_ok, Sem.run_pure]
        obtain ⟨x, hx⟩ : ∃ x, x = idx turn L k m := ⟨_, rfl⟩
        by_cases hodd : turn % 2 = 1
        · have hx2 : x = L - 1 - y0 := by rw [hx, hy0, hkt]; unfold idx; rw [if_pos hodd]
          -- x : the place, hx : x = idx ..; world wm, T2 : the team, q2
          have hxL : x < L := by rw [hx]; exact idx_lt (by omega)
          obtain ⟨y, hy⟩ : ∃ y, ys[x]? = some y := ⟨_, List.getElem?_eq_getElem (by omega)⟩
          have hyx : y.x = t.ltOf (who.getD x 0) := by
            have h1 := congrArg (fun l => l[x]?) N.mp
            simp only [List.getElem?_map, hy, Option.map_some, List.take_of_length_le (by omega : who.length ≤ L)] at h1
            rw [List.getElem?_eq_getElem (by omega)] at h1
            injection h1 with h1
            rw [h1, List.getD_eq_getElem?_getD, List.getElem?_eq_getElem (by omega)]; rfl
          have hym := List.mem_of_getElem? hy
          have hjw : who.getD x 0 ∈ who := getD_mem (by omega)
          obtain ⟨rS, rV⟩ := N.rows y hym
          have be2 : Sm [h, tb, ib, eb, wb] w w := Sm.refl _ _
          have LN : Ld Try.prog 33 nb (0 + x * 10) (Sm [wb, nb] wk) (.agg (saA n y.x y.S y.cS y.V y.cV)) := ⟨fun W hW => load_agg (by kernel_rfl) (by kernel_rfl) (range_same (show wk.rangeAt nb (0 + x * 10) (eSa n y) from fun j u hu => hnc x y hy j u hu) (hW nb (by simp)))⟩
          have L1 : Ld Try.prog 3 wb (wo + k) (Sm [wb, nb] wk) (.int .i64 (who.getD k 0)) := (Lw' k hk2)
          have L2 : Ld Try.prog 3 wb (wo + x) (Sm [wb, nb] wk) (.int .i64 (who.getD x 0)) := (Lw' x hxL)
          have hsm : Sm [wb, nb] wk wm := fun b hb => q2.same b (by
            simp only [List.mem_cons, List.not_mem_nil, or_false] at hb
            rcases hb with rfl | rfl <;> omega) (by
            simp only [List.mem_cons, List.not_mem_nil, or_false] at hb
            rcases hb with rfl | rfl
            · rw [wk0]; simp
            · rw [hnk]; simp)
          repeat ((conv => whnf); first | (refine VCmp.tt (by omega) ?_) | (refine VCmp.ff (by omega) ?_) | (refine VIn.mk (IntWalk.i64_in _ (by omega)) ?_) | (refine VIdx.mk _ rfl (by omega) ?_) | (refine VIdx.mk 0 rfl (by omega) ?_))
          try (conv => whnf)
          refine VDraw.mk 1000 [([0, 1, 2, 3, 4, 5, 6, 7, 8, 9, 10, 11, 12], 13)] [] (Sm [wb, nb] wk) (by kernel_rfl) (by kernel_rfl) (hsm) ?_
          repeat ((conv => whnf); first | (refine VLoad.mk _ L1 ?_) | (refine VLoad.mk _ L2 ?_) | (refine VLoad.mk _ LN ?_) | (refine VIdx.mk x (by omega) (by omega) ?_) | (refine VCmp.tt (by omega) ?_) | (refine VCmp.ff (by omega) ?_) | (refine VIn.mk (IntWalk.i64_in _ (by omega)) ?_) | (refine VIdx.mk _ rfl (by omega) ?_) | (refine VIdx.mk 0 rfl (by omega) ?_))
          try (conv => whnf)
          obtain ⟨H, hH⟩ : ∃ H, H = hRow who (nowOf who t) turn k (hAll who (nowOf who t) turn t k) m := ⟨_, rfl⟩
          have HH := HS2 k m hk2 hm
          rw [← hH] at HH T2
          have Hn := HH.gd.cal.p.nn
          have T2d := T2.below (Below.refl _ _).drew
          have q2d : Ro (· ≠ 0) K K2 wk wm.drew := q2.drew
          have hxe := HH.E _ _ (now_mem G hjw)
          rw [← hyx] at hxe
          have hcl := HH.gd.cal.p.cnt.e (who.getD k 0)
          have cl := hands_any T2d HH.gd.cal.p.ok (G.wn _ (getD_mem (by omega : k < who.length))) (Nat.le_refl _) n16 (by omega) hxe (S := y.S) (V := y.V) (cS := y.cS) (cV := y.cV) (by rw [Hn]; exact rS.unN.ro q2d (by simp)) (by rw [Hn]; exact rV.unN.ro q2d (by simp))
          rw [Hn] at cl
          refine VCall.mk _ cl ?_
          rintro _ x5 ⟨rfl, K5, X5, T5, q5⟩
          refine ⟨_, rfl, ?_⟩
          have hq5 := q2d.trans q5
          have hsm5 : Sm [wb, nb] wk x5 := fun b hb => hq5.same b (by
            simp only [List.mem_cons, List.not_mem_nil, or_false] at hb
            rcases hb with rfl | rfl <;> omega) (by
            simp only [List.mem_cons, List.not_mem_nil, or_false] at hb
            rcases hb with rfl | rfl
            · rw [wk0]; simp
            · rw [hnk]; simp)
          repeat ((conv => whnf); first | (refine VS.mk hsm5 ?_) | (refine VCmp.tt (by omega) ?_) | (refine VCmp.ff (by omega) ?_) | (refine VIn.mk (IntWalk.i64_in _ (by omega)) ?_) | (refine VIdx.mk _ rfl (by omega) ?_) | (refine VIdx.mk 0 rfl (by omega) ?_))
          try (conv => whnf)
          refine .mk (m + 1) ⟨rfl, rfl, rfl, rfl, rfl, rfl, trivial⟩ ⟨hm2, K5, X5, ?_, hq5⟩ (by show L - (m + 1) < L - m; omega)
          have e : hRow who (nowOf who t) turn k (hAll who (nowOf who t) turn t k) (m + 1) = H.hand (who.getD k 0) (who.getD x 0) y.x := by
            show Tm.hand _ _ _ _ = _
            rw [hwL, ← hx, now_getD (by omega), ← hyx, ← hH]
          rw [e]
          exact T5
        · have hx2 : x = y0 := by rw [hx, hy0, hkt]; unfold idx; rw [if_neg hodd]
          -- x : the place, hx : x = idx ..; world wm, T2 : the team, q2
          have hxL : x < L := by rw [hx]; exact idx_lt (by omega)
          obtain ⟨y, hy⟩ : ∃ y, ys[x]? = some y := ⟨_, List.getElem?_eq_getElem (by omega)⟩
          have hyx : y.x = t.ltOf (who.getD x 0) := by
            have h1 := congrArg (fun l => l[x]?) N.mp
            simp only [List.getElem?_map, hy, Option.map_some, List.take_of_length_le (by omega : who.length ≤ L)] at h1
            rw [List.getElem?_eq_getElem (by omega)] at h1
            injection h1 with h1
            rw [h1, List.getD_eq_getElem?_getD, List.getElem?_eq_getElem (by omega)]; rfl
          have hym := List.mem_of_getElem? hy
          have hjw : who.getD x 0 ∈ who := getD_mem (by omega)
          obtain ⟨rS, rV⟩ := N.rows y hym
          have be2 : Sm [h, tb, ib, eb, wb] w w := Sm.refl _ _
          have LN : Ld Try.prog 33 nb (0 + x * 10) (Sm [wb, nb] wk) (.agg (saA n y.x y.S y.cS y.V y.cV)) := ⟨fun W hW => load_agg (by kernel_rfl) (by kernel_rfl) (range_same (show wk.rangeAt nb (0 + x * 10) (eSa n y) from fun j u hu => hnc x y hy j u hu) (hW nb (by simp)))⟩
          have L1 : Ld Try.prog 3 wb (wo + k) (Sm [wb, nb] wk) (.int .i64 (who.getD k 0)) := (Lw' k hk2)
          have L2 : Ld Try.prog 3 wb (wo + x) (Sm [wb, nb] wk) (.int .i64 (who.getD x 0)) := (Lw' x hxL)
          have hsm : Sm [wb, nb] wk wm := fun b hb => q2.same b (by
            simp only [List.mem_cons, List.not_mem_nil, or_false] at hb
            rcases hb with rfl | rfl <;> omega) (by
            simp only [List.mem_cons, List.not_mem_nil, or_false] at hb
            rcases hb with rfl | rfl
            · rw [wk0]; simp
            · rw [hnk]; simp)
          repeat ((conv => whnf); first | (refine VCmp.tt (by omega) ?_) | (refine VCmp.ff (by omega) ?_) | (refine VIn.mk (IntWalk.i64_in _ (by omega)) ?_) | (refine VIdx.mk _ rfl (by omega) ?_) | (refine VIdx.mk 0 rfl (by omega) ?_))
          try (conv => whnf)
          refine VDraw.mk 1000 [([0, 1, 2, 3, 4, 5, 6, 7, 8, 9, 10, 11, 12], 13)] [] (Sm [wb, nb] wk) (by kernel_rfl) (by kernel_rfl) (hsm) ?_
          repeat ((conv => whnf); first | (refine VLoad.mk _ L1 ?_) | (refine VLoad.mk _ L2 ?_) | (refine VLoad.mk _ LN ?_) | (refine VIdx.mk x (by omega) (by omega) ?_) | (refine VCmp.tt (by omega) ?_) | (refine VCmp.ff (by omega) ?_) | (refine VIn.mk (IntWalk.i64_in _ (by omega)) ?_) | (refine VIdx.mk _ rfl (by omega) ?_) | (refine VIdx.mk 0 rfl (by omega) ?_))
          try (conv => whnf)
          obtain ⟨H, hH⟩ : ∃ H, H = hRow who (nowOf who t) turn k (hAll who (nowOf who t) turn t k) m := ⟨_, rfl⟩
          have HH := HS2 k m hk2 hm
          rw [← hH] at HH T2
          have Hn := HH.gd.cal.p.nn
          have T2d := T2.below (Below.refl _ _).drew
          have q2d : Ro (· ≠ 0) K K2 wk wm.drew := q2.drew
          have hxe := HH.E _ _ (now_mem G hjw)
          rw [← hyx] at hxe
          have hcl := HH.gd.cal.p.cnt.e (who.getD k 0)
          have cl := hands_any T2d HH.gd.cal.p.ok (G.wn _ (getD_mem (by omega : k < who.length))) (Nat.le_refl _) n16 (by omega) hxe (S := y.S) (V := y.V) (cS := y.cS) (cV := y.cV) (by rw [Hn]; exact rS.unN.ro q2d (by simp)) (by rw [Hn]; exact rV.unN.ro q2d (by simp))
          rw [Hn] at cl
          refine VCall.mk _ cl ?_
          rintro _ x5 ⟨rfl, K5, X5, T5, q5⟩
          refine ⟨_, rfl, ?_⟩
          have hq5 := q2d.trans q5
          have hsm5 : Sm [wb, nb] wk x5 := fun b hb => hq5.same b (by
            simp only [List.mem_cons, List.not_mem_nil, or_false] at hb
            rcases hb with rfl | rfl <;> omega) (by
            simp only [List.mem_cons, List.not_mem_nil, or_false] at hb
            rcases hb with rfl | rfl
            · rw [wk0]; simp
            · rw [hnk]; simp)
          repeat ((conv => whnf); first | (refine VS.mk hsm5 ?_) | (refine VCmp.tt (by omega) ?_) | (refine VCmp.ff (by omega) ?_) | (refine VIn.mk (IntWalk.i64_in _ (by omega)) ?_) | (refine VIdx.mk _ rfl (by omega) ?_) | (refine VIdx.mk 0 rfl (by omega) ?_))
          try (conv => whnf)
          refine .mk (m + 1) ⟨rfl, rfl, rfl, rfl, rfl, rfl, trivial⟩ ⟨hm2, K5, X5, ?_, hq5⟩ (by show L - (m + 1) < L - m; omega)
          have e : hRow who (nowOf who t) turn k (hAll who (nowOf who t) turn t k) (m + 1) = H.hand (who.getD k 0) (who.getD x 0) y.x := by
            show Tm.hand _ _ _ _ = _
            rw [hwL, ← hx, now_getD (by omega), ← hyx, ← hH]
          rw [e]
          exact T5
      · obtain rfl : L = m := by omega
        repeat ((conv => whnf); first | (refine VCmp.tt (by omega) ?_) | (refine VCmp.ff (by omega) ?_) | (refine VIn.mk (IntWalk.i64_in _ (by omega)) ?_) | (refine VIdx.mk _ rfl (by omega) ?_) | (refine VIdx.mk 0 rfl (by omega) ?_))
        try (conv => whnf)
        refine .mk (k + 1) ⟨rfl, rfl, rfl, rfl, rfl, trivial⟩ ⟨hk2, K2, X2, ?_, q2⟩ (by show L - (k + 1) < L - k; omega)
        have e : hAll who (nowOf who t) turn t (k + 1) = hRow who (nowOf who t) turn k (hAll who (nowOf who t) turn t k) L := by
          show hRow who (nowOf who t) turn k (hAll who (nowOf who t) turn t k) who.length = _
          rw [hwL]
        rw [e]; exact T2
    · obtain rfl : L = k := by omega
      have R := G.round turn (by rw [hwL]; omega)
      obtain ⟨t1, ht1⟩ : ∃ t1, t1 = hAll who (nowOf who t) turn t who.length := ⟨_, rfl⟩
      have htr : t.round who turn = iAll who t1 who.length := by rw [ht1]; rfl
      rw [← ht1] at R
      rw [hwL] at ht1
      rw [← ht1] at T1
      rw [htr, hwL]
      clear ht1 htr
      have C1 := R.hs.gd.cal
      repeat ((conv => whnf); first | (refine VCmp.tt (by omega) ?_) | (refine VCmp.ff (by omega) ?_) | (refine VIn.mk (IntWalk.i64_in _ (by omega)) ?_) | (refine VIdx.mk _ rfl (by omega) ?_) | (refine VIdx.mk 0 rfl (by omega) ?_))
      try (conv => whnf)
      refine VLoop.mk Nat (fun k => [(0, .pointer (some ⟨h, 0, none⟩)), (1, .slice (some ⟨wb, wo, none⟩) L cA), (12, .int .i64 k)]) (fun k W => k ≤ L ∧ ∃ K' X', TmM W K' h n n (iAll who t1 k) X' ∧ Ro (· ≠ 0) K K' wk W) (fun k => L - k) 0 ⟨rfl, rfl, rfl, trivial⟩ ⟨Nat.zero_le _, K1, X1, T1, q1⟩ ?_
      rintro k wm ⟨hk, K2, X2, T2, q2⟩
      have hsm : Sm [wb, nb] wk wm := fun b hb => q2.same b (by
        simp only [List.mem_cons, List.not_mem_nil, or_false] at hb
        rcases hb with rfl | rfl <;> omega) (by
        simp only [List.mem_cons, List.not_mem_nil, or_false] at hb
        rcases hb with rfl | rfl
        · rw [wk0]; simp
        · rw [hnk]; simp)
      by_cases hkL : k < L
      · have L1 := (Lw' k hkL).at hsm
        have Ck := iAll_cal G.wn C1 k (by omega)
        repeat ((conv => whnf); first | (refine VLoad.mk _ L1 ?_) | (refine VCmp.tt (by omega) ?_) | (refine VCmp.ff (by omega) ?_) | (refine VIn.mk (IntWalk.i64_in _ (by omega)) ?_) | (refine VIdx.mk _ rfl (by omega) ?_) | (refine VIdx.mk 0 rfl (by omega) ?_))
        try (conv => whnf)
        have he := Ck.p.cnt.e (who.getD k 0)
        have hd := Ck.p.cnt.d
        have hLL2 : who.length * who.length ≤ 16 * 16 := by rw [hwL]; exact hLL
        refine VCall.mk _ (installs_any T2 Ck.p.ok (G.wn _ (getD_mem (by omega : k < who.length))) (Nat.le_refl _) n16 (by omega) (by omega) Ck.p.db) ?_
        rintro _ x5 ⟨rfl, K5, X5, T5, q5⟩
        refine ⟨_, rfl, ?_⟩
        repeat ((conv => whnf); first | (refine VCmp.tt (by omega) ?_) | (refine VCmp.ff (by omega) ?_) | (refine VIn.mk (IntWalk.i64_in _ (by omega)) ?_) | (refine VIdx.mk _ rfl (by omega) ?_) | (refine VIdx.mk 0 rfl (by omega) ?_))
        try (conv => whnf)
        exact .mk (k + 1) ⟨rfl, rfl, rfl, trivial⟩ ⟨hkL, K5, X5, T5, q2.trans q5⟩ (by show L - (k + 1) < L - k; omega)
      · obtain rfl : L = k := by omega
        repeat ((conv => whnf); first | (refine VCmp.tt (by omega) ?_) | (refine VCmp.ff (by omega) ?_) | (refine VIn.mk (IntWalk.i64_in _ (by omega)) ?_) | (refine VIdx.mk _ rfl (by omega) ?_) | (refine VIdx.mk 0 rfl (by omega) ?_))
        try (conv => whnf)
        exact .mk ⟨rfl, K2, X2, T2, (Ro.below N.be).trans q2⟩
end Go.Proofs.Ytfbeggdbjpmppaa
namespace Go.Proofs.Ytfbeggdbjpmppaa
open Go Go.RowKit
set_option maxRecDepth 100000 in
set_option maxHeartbeats 8000000 in
theorem settled_any {w : World} {K : Nat → Nat} {h n c : Nat} {t : Tm} {X : TX} {who : List Nat} {Xs : List Int} {F : Nat → Int} {V : Vid} (T : TmM w K h n n t X) (G : Gd n c who Xs t) (D : Sd who F V t) (hL : who.length ≤ 16) {A : Option Addr} {cA L : Nat} (hwL : who.length = L) (rW : RowK w K 1 eInt A (whoI who)) :
    Calls Try.prog 39 #[.pointer (some ⟨h, 0, none⟩), .slice A L cA] w fun e w' => e = .returned (.bool true) ∧ Below w.heap.size w w' := by
  refine calls_vc tab_ok Try.func39 rfl ?_
  have n16 := G.n16
  have nn := G.cal.p.nn
  have w0 := G.w0
  have n1 : 0 < n := by have := G.wn _ (getD_mem w0); omega
  obtain ⟨tb, ib, eb, B, kt, ki, ke⟩ := T.bks n1
  obtain ⟨wb, wo, rfl, wz, wk0, wc⟩ := rW (by rw [whoI_len]; exact w0)
  have hla : ∀ b ∈ [h, tb, ib, eb, wb], b < w.heap.size := fun b hb => by
    simp only [List.mem_cons, List.not_mem_nil, or_false] at hb
    rcases hb with rfl | rfl | rfl | rfl | rfl
    · exact T.hs
    · exact B.tz
    · exact B.iz
    · exact B.ez
    · exact wz
  have Lw : ∀ k, k < L → Ld Try.prog 3 wb (wo + k) (Sm [h, tb, ib, eb, wb] w) (.int .i64 (who.getD k 0)) := fun k hk => ⟨fun W hW => load3 (by
    have := wc k _ (whoI_at (by omega)) 0 _ rfl
    rw [Nat.mul_one] at this
    exact cell_sm this (by simp) hW)⟩
  have M0 := T.l_inc (l := [h, tb, ib, eb, wb]) B (by simp)
  have M2 := T.l_at (l := [h, tb, ib, eb, wb]) B (by simp)
  conv => whnf
  repeat ((conv => whnf); first | (refine VCmp.tt (by omega) ?_) | (refine VCmp.ff (by omega) ?_) | (refine VIn.mk (IntWalk.i64_in _ (by omega)) ?_) | (refine VIdx.mk _ rfl (by omega) ?_) | (refine VIdx.mk 0 rfl (by omega) ?_))
  try (conv => whnf)
  have hs0 : Sm [h, tb, ib, eb, wb] w w.drew := fun _ _ => rfl
  refine VDraw.pl 1000 (.two [0, 1, 2, 3, 4, 5, 6, 7, 8] 9 (.one [] 10 (.one [] 11 (.stop []))) 10 (.one [] 9 (.one [] 11 (.stop [])))) (Sm [h, tb, ib, eb, wb] w) (by kernel_rfl) (hs0) ?_
  obtain ⟨i0, hi0e⟩ : ∃ i0, i0 = who.getD 0 0 := ⟨_, rfl⟩
  have hi0w : i0 ∈ who := by rw [hi0e]; exact getD_mem w0
  have hi0 := G.wn i0 hi0w
  have T0 := T.below (Below.refl _ w).drew
  have be0 : Below w.heap.size w w.drew := (Below.refl _ w).drew
  have VM0 := Lw 0 (by omega)
  rw [← hi0e] at VM0
  have VM1 := M2
  have VM2 := T.l_ptr (l := [h, tb, ib, eb, wb]) B (by simp) hi0 hi0
  have C0 := G.cal.p.ok
  -- world w (in front of the region: w.drew), T0 : TmM w.drew K .., node i0 (hi0), be0 : Below w.heap.size w w.drew; both orders, then SeT.i with xa, bv, Va, cVa
  have A0 := T0.ag i0 hi0
  have hR0 := (C0.nd i0 hi0).2.1.rinv.len
  repeat ((conv => whnf); first | (refine VLoad.mk _ VM0 ?_) | (refine VLoad.mk _ VM1 ?_) | (refine VLoad.mk _ VM2 ?_) | (refine VCmp.tt (by omega) ?_) | (refine VCmp.ff (by omega) ?_) | (refine VIn.mk (IntWalk.i64_in _ (by omega)) ?_) | (refine VIdx.mk _ rfl (by omega) ?_) | (refine VIdx.mk 0 rfl (by omega) ?_))
  try (conv => whnf)
  refine ⟨?_, ?_⟩
  · repeat ((conv => whnf); first | (refine VCmp.tt (by omega) ?_) | (refine VCmp.ff (by omega) ?_) | (refine VIn.mk (IntWalk.i64_in _ (by omega)) ?_) | (refine VIdx.mk _ rfl (by omega) ?_) | (refine VIdx.mk 0 rfl (by omega) ?_))
    try (conv => whnf)
    refine VCall.mk _ (view_any (X.ag i0) (t.S i0) (X.M i0) (X.cM i0) w.heap.size w.drew A0.ag A0.hb (Nat.le_refl _) A0.row.row hR0) ?_
    rintro _ x1 ⟨Va, cVa, rfl, rVa, b1⟩
    refine ⟨_, rfl, ?_⟩
    have z1 := b1.size
    have be1 : Below w.heap.size w x1 := be0.trans (b1.mono be0.size)
    repeat ((conv => whnf); first | (refine VS.mk (.below be1 hla) ?_) | (refine VCmp.tt (by omega) ?_) | (refine VCmp.ff (by omega) ?_) | (refine VIn.mk (IntWalk.i64_in _ (by omega)) ?_) | (refine VIdx.mk _ rfl (by omega) ?_) | (refine VIdx.mk 0 rfl (by omega) ?_))
    try (conv => whnf)
    refine .mk _ run_zero46 ?_
    conv => whnf
    refine .mk fun u2 hu2 => ?_
    have be2 : Below w.heap.size w u2 := be1.trans (Below.mono (by rw [hu2.out]; exact (Below.refl _ _).alloc (Nat.le_refl _) _ : Below x1.heap.size x1 u2) be1.size)
    repeat ((conv => whnf); first | (refine VS.mk (.below be2 hla) ?_) | (refine VCmp.tt (by omega) ?_) | (refine VCmp.ff (by omega) ?_) | (refine VIn.mk (IntWalk.i64_in _ (by omega)) ?_) | (refine VIdx.mk _ rfl (by omega) ?_) | (refine VIdx.mk 0 rfl (by omega) ?_))
    try (conv => whnf)
    refine VStore.new (c' := viewA (t.S i0).vid Va (t.S i0).mem.length cVa) hu2 (by kernel_rfl) rfl (one_viewA _ _ _ _) fun xa hxa => ?_
    have c3 : Below x1.heap.size x1 xa := by rw [hxa.out]; exact (Below.refl _ _).alloc (Nat.le_refl _) _
    have z3 : xa.heap.size = x1.heap.size + 1 := by rw [hxa.out]; simp
    obtain ⟨bv, hbv⟩ : ∃ bv, bv = x1.heap.size := ⟨_, rfl⟩
    rw [← hbv]
    have rbv : xa.rangeAt bv 0 (viewA (t.S i0).vid Va (t.S i0).mem.length cVa).toList := by rw [hxa.out, hbv]; exact range_new x1 _ 46
    have bea : Below w.heap.size w xa := be1.trans (c3.mono be1.size)
    have bwa : Below w.heap.size w xa := Below.trans (Below.drew (Below.refl _ w)) (b1.trans (c3.mono z1))
    have rVa' : RowN xa w.heap.size 3 eMb Va (t.S i0).mem := rVa.below c3
    have zbv : w.heap.size ≤ bv ∧ bv < xa.heap.size := ⟨by rw [hbv]; exact z1, by omega⟩
    clear hu2 hxa be2 c3 z3 hbv
    clear u2
    clear rVa b1 z1 be1
    clear x1
    repeat ((conv => whnf); first | (refine VS.mk (.below bea hla) ?_) | (refine VCmp.tt (by omega) ?_) | (refine VCmp.ff (by omega) ?_) | (refine VIn.mk (IntWalk.i64_in _ (by omega)) ?_) | (refine VIdx.mk _ rfl (by omega) ?_) | (refine VIdx.mk 0 rfl (by omega) ?_))
    try (conv => whnf)
    have hmem := D.mem i0 hi0w
    have hml : (t.S i0).mem.length = L := by rw [hmem, List.length_map, hwL]
    obtain ⟨vb, vo, rfl, -, hvb, hvc⟩ := rVa' (by rw [hml, ← hwL]; exact w0)
    have hma : ∀ k, k < L → (t.S i0).mem[k]? = some ⟨((who.getD k 0 : Nat) : Int), (t.S (who.getD k 0)).inc, F (who.getD k 0)⟩ := fun k hk => by
      rw [hmem, List.getElem?_map, List.getElem?_eq_getElem (by omega), List.getD_eq_getElem?_getD, List.getElem?_eq_getElem (by omega)]; rfl
    rw [hml] at rbv
    have Lv : Ld Try.prog 44 bv 4 (Below xa.heap.size xa) (.slice (some ⟨vb, vo, none⟩) L cVa) := ⟨fun W hW => load44 ((World.cell?_of_block (a := ⟨bv, _, none⟩) (hW.block bv zbv.2)).trans (rbv 4 _ rfl))⟩
    have Lx : Ld Try.prog 46 bv 0 (Below xa.heap.size xa) (.agg (viewA (t.S i0).vid (some ⟨vb, vo, none⟩) L cVa)) := ⟨fun W hW => load_agg (by kernel_rfl) (by kernel_rfl) (range_same rbv (hW.block bv zbv.2))⟩
    repeat ((conv => whnf); first | (refine VLoad.mk _ (Lv.at (Below.refl _ _)) ?_) | (refine VCmp.tt (by omega) ?_) | (refine VCmp.ff (by omega) ?_) | (refine VIn.mk (IntWalk.i64_in _ (by omega)) ?_) | (refine VIdx.mk _ rfl (by omega) ?_) | (refine VIdx.mk 0 rfl (by omega) ?_))
    try (conv => whnf)
    refine VLoop.mk Nat (fun k => [(0, .pointer (some ⟨h, 0, none⟩)), (1, .slice (some ⟨wb, wo, none⟩) L cA), (5, .pointer (some ⟨bv, 0, none⟩)), (6, .int .i64 k)]) (fun k W => k ≤ L ∧ Below xa.heap.size xa W) (fun k => L - k) 0 ⟨rfl, rfl, rfl, rfl, trivial⟩ ⟨Nat.zero_le _, Below.refl _ _⟩ ?_
    rintro k wk ⟨hk, bk⟩
    by_cases hkL : k < L
    · obtain ⟨i, hie⟩ : ∃ i, i = who.getD k 0 := ⟨_, rfl⟩
      have hiw : i ∈ who := by rw [hie]; exact getD_mem (by omega)
      have hin := G.wn i hiw
      have hmk := hma k hkL
      rw [← hie] at hmk
      have hbx : ∀ W, Below xa.heap.size xa W → Sm [h, tb, ib, eb, wb] w W := fun W hW => .below (bea.trans (hW.mono bea.size)) hla
      have N1 := (Lw k hkL).mono hbx
      rw [← hie] at N1
      have N2 := M0.mono hbx
      have N3 := (T.l_iv (l := [h, tb, ib, eb, wb]) B (by simp) hin).mono hbx
      have N4 := M2.mono hbx
      have N5 := (T.l_ptr (l := [h, tb, ib, eb, wb]) B (by simp) hin hin).mono hbx
      have N6 : Ld Try.prog 3 vb (vo + k * 3) (Below xa.heap.size xa) (.int .i64 (i : Int)) := ⟨fun W hW => load3 ((World.cell?_of_block (a := ⟨vb, _, none⟩) (hW.block vb hvb)).trans (hvc k _ hmk 0 _ rfl))⟩
      have N7 : Ld Try.prog 3 vb (vo + k * 3 + 1) (Below xa.heap.size xa) (.int .i64 (t.S i).inc) := ⟨fun W hW => load3 ((World.cell?_of_block (a := ⟨vb, _, none⟩) (hW.block vb hvb)).trans (hvc k _ hmk 1 _ rfl))⟩
      have bkd := bk.drew
      have Tk := T.below (bea.trans (bkd.mono bea.size))
      have Ak := Tk.ag i hin
      repeat ((conv => whnf); first | (refine VCmp.tt (by omega) ?_) | (refine VCmp.ff (by omega) ?_) | (refine VIn.mk (IntWalk.i64_in _ (by omega)) ?_) | (refine VIdx.mk _ rfl (by omega) ?_) | (refine VIdx.mk 0 rfl (by omega) ?_))
      try (conv => whnf)
      refine VDraw.mk 1000 [([0, 1, 2, 3, 4, 5, 6, 7, 8, 9, 10, 11, 12, 13, 14, 15, 16, 17, 18, 19, 20, 21, 22, 23, 24, 25, 26, 27, 28, 29, 30, 31, 32, 33, 34, 35, 36, 37, 38, 39, 40], 41)] [42] (Below xa.heap.size xa) (by kernel_rfl) (by kernel_rfl) (bkd) ?_
      repeat ((conv => whnf); first | (refine VLoad.mk _ Lv ?_) | (refine VLoad.mk _ N1 ?_) | (refine VLoad.mk _ N2 ?_) | (refine VLoad.mk _ N3 ?_) | (refine VLoad.mk _ N4 ?_) | (refine VLoad.mk _ N5 ?_) | (refine VLoad.mk _ N6 ?_) | (refine VLoad.mk _ N7 ?_) | (refine VCmp.tt (by omega) ?_) | (refine VCmp.ff (by omega) ?_) | (refine VIn.mk (IntWalk.i64_in _ (by omega)) ?_) | (refine VIdx.mk _ rfl (by omega) ?_) | (refine VIdx.mk 0 rfl (by omega) ?_))
      try (conv => whnf)
      refine VCall.mk _ (changing_any (X.ag i) (t.S i) (X.M i) (X.cM i) wk.drew Ak.ag) ?_
      rintro _ _ ⟨rfl, rfl⟩
      refine ⟨_, rfl, ?_⟩
      rw [D.cl i hiw]
      repeat ((conv => whnf); first | (refine VS.mk bkd ?_) | (refine VCmp.tt (by omega) ?_) | (refine VCmp.ff (by omega) ?_) | (refine VIn.mk (IntWalk.i64_in _ (by omega)) ?_) | (refine VIdx.mk _ rfl (by omega) ?_) | (refine VIdx.mk 0 rfl (by omega) ?_))
      try (conv => whnf)
      have bkd2 := bkd.drew
      have Tk2 := T.below (bea.trans (bkd2.mono bea.size))
      have Ak2 := Tk2.ag i hin
      refine VDraw.mk 1000 [([0, 1, 2, 3, 4, 5, 6, 7, 8, 9, 11], 10), ([], 12)] [13] (Below xa.heap.size xa) (by kernel_rfl) (by kernel_rfl) (bkd2) ?_
      repeat ((conv => whnf); first | (refine VLoad.mk _ Lx ?_) | (refine VLoad.mk _ N1 ?_) | (refine VLoad.mk _ N4 ?_) | (refine VLoad.mk _ N5 ?_) | (refine VCmp.tt (by omega) ?_) | (refine VCmp.ff (by omega) ?_) | (refine VIn.mk (IntWalk.i64_in _ (by omega)) ?_) | (refine VIdx.mk _ rfl (by omega) ?_) | (refine VIdx.mk 0 rfl (by omega) ?_))
      try (conv => whnf)
      refine VCall.mk _ (view_any (X.ag i) (t.S i) (X.M i) (X.cM i) wk.heap.size wk.drew.drew Ak2.ag Ak2.hb (Nat.le_refl _) Ak2.row.row (C0.nd i hin).2.1.rinv.len) ?_
      rintro _ x5 ⟨Vb, cVb, rfl, rVb, b5⟩
      refine ⟨_, rfl, ?_⟩
      have bk5 : Below xa.heap.size xa x5 := bkd2.trans (b5.mono bk.size)
      have hml2 : (t.S i).mem.length = L := by rw [D.mem i hiw, List.length_map, hwL]
      repeat ((conv => whnf); first | (refine VS.mk bk5 ?_) | (refine VCmp.tt (by omega) ?_) | (refine VCmp.ff (by omega) ?_) | (refine VIn.mk (IntWalk.i64_in _ (by omega)) ?_) | (refine VIdx.mk _ rfl (by omega) ?_) | (refine VIdx.mk 0 rfl (by omega) ?_))
      try (conv => whnf)
      have vv := views_any (t.S i).vid (t.S i0).vid Vb (some ⟨vb, vo, none⟩) cVb cVa x5.heap.size (t.S i).mem.length L (t.S i).mem (t.S i0).mem x5 rfl hml (Nat.le_refl _) rVb.row (RowAt.more (RowAt.below (show RowAt xa xa.heap.size 3 eMb (some ⟨vb, vo, none⟩) (t.S i0).mem from fun _ => ⟨vb, vo, rfl, hvb, hvc⟩) bk5 (Nat.le_refl _)) bk5.size) (by omega) (by omega)
      rw [show viSame (t.S i).vid (t.S i).mem (t.S i0).vid (t.S i0).mem = true from by rw [D.vid i hiw, D.vid i0 hi0w, D.mem i hiw, D.mem i0 hi0w]; exact viSame_refl _ _] at vv
      refine VCall.mk _ vv ?_
      rintro _ x6 ⟨rfl, b6⟩
      refine ⟨_, rfl, ?_⟩
      have bk6 : Below xa.heap.size xa x6 := bk5.trans (b6.mono bk5.size)
      repeat ((conv => whnf); first | (refine VS.mk bk6 ?_) | (refine VCmp.tt (by omega) ?_) | (refine VCmp.ff (by omega) ?_) | (refine VIn.mk (IntWalk.i64_in _ (by omega)) ?_) | (refine VIdx.mk _ rfl (by omega) ?_) | (refine VIdx.mk 0 rfl (by omega) ?_))
      try (conv => whnf)
      exact .mk (k + 1) ⟨rfl, rfl, rfl, rfl, trivial⟩ ⟨hkL, bk6⟩ (by show L - (k + 1) < L - k; omega)
    · obtain rfl : L = k := by omega
      repeat ((conv => whnf); first | (refine VCmp.tt (by omega) ?_) | (refine VCmp.ff (by omega) ?_) | (refine VIn.mk (IntWalk.i64_in _ (by omega)) ?_) | (refine VIdx.mk _ rfl (by omega) ?_) | (refine VIdx.mk 0 rfl (by omega) ?_))
      try (conv => whnf)
      exact .mk ⟨rfl, bea.trans (bk.mono bea.size)⟩
  · refine .mk _ run_zero46 ?_
    conv => whnf
    refine .mk fun u2 hu2 => ?_
    have c2 : Below w.drew.heap.size w.drew u2 := by rw [hu2.out]; exact (Below.refl _ _).alloc (Nat.le_refl _) _
    have be2 : Below w.heap.size w u2 := be0.trans (c2.mono be0.size)
    have z2 : u2.heap.size = w.heap.size + 1 := by rw [hu2.out]; exact World.size_alloc _ _
    obtain ⟨bv, hbv⟩ : ∃ bv, bv = w.drew.heap.size := ⟨_, rfl⟩
    have hbv' : bv = w.heap.size := hbv
    rw [← hbv]
    have tbv : u2.there bv 0 5 := by rw [hu2.out, hbv]; exact there_new _ _ _
    repeat ((conv => whnf); first | (refine VS.mk (.below be2 hla) ?_) | (refine VCmp.tt (by omega) ?_) | (refine VCmp.ff (by omega) ?_) | (refine VIn.mk (IntWalk.i64_in _ (by omega)) ?_) | (refine VIdx.mk _ rfl (by omega) ?_) | (refine VIdx.mk 0 rfl (by omega) ?_))
    try (conv => whnf)
    have A2 := (T0.below c2).ag i0 hi0
    refine VCall.mk _ (view_any (X.ag i0) (t.S i0) (X.M i0) (X.cM i0) u2.heap.size u2 A2.ag A2.hb (Nat.le_refl _) A2.row.row hR0) ?_
    rintro _ x3 ⟨Va, cVa, rfl, rVa, b3⟩
    refine ⟨_, rfl, ?_⟩
    have z3 := b3.size
    have be3 : Below w.heap.size w x3 := be2.trans (b3.mono be2.size)
    have t3 : x3.there bv 0 5 := there_same tbv (b3.block bv (by omega))
    repeat ((conv => whnf); first | (refine VS.mk (.below be3 hla) ?_) | (refine VCmp.tt (by omega) ?_) | (refine VCmp.ff (by omega) ?_) | (refine VIn.mk (IntWalk.i64_in _ (by omega)) ?_) | (refine VIdx.mk _ rfl (by omega) ?_) | (refine VIdx.mk 0 rfl (by omega) ?_))
    try (conv => whnf)
    refine VStore.mid (c := viewA (t.S i0).vid Va (t.S i0).mem.length cVa) t3 (by kernel_rfl) (one_viewA _ _ _ _) fun xa hxa => ?_
    have hg : x3.grownBy xa (some bv) := by rw [hxa.out]; exact grown_sets _ _ _ _
    have rbv : xa.rangeAt bv 0 (viewA (t.S i0).vid Va (t.S i0).mem.length cVa).toList := by rw [hxa.out]; exact rng_in t3 (by simp)
    have zd : w.drew.heap.size = w.heap.size := rfl
    have bea : Below w.heap.size w xa := be3.grown hg be3.size (fun q hq => by injection hq with hq; have := be0.size; omega)
    have bwa : Below w.heap.size w xa := Below.grown (Below.trans (Below.drew (Below.refl _ w)) (c2.trans (b3.mono (by omega)))) hg (by omega) (fun q hq => by injection hq with hq; omega)
    have rVa' : RowN xa w.heap.size 3 eMb Va (t.S i0).mem := fun hl => by
      obtain ⟨g, off, e, h1, h2, h3⟩ := rVa hl
      exact ⟨g, off, e, by omega, Nat.lt_of_lt_of_le h2 hg.size, fun k x hx j u hu => (World.cell?_of_block (a := ⟨g, _, none⟩) (hg.block g h2 (fun e => by injection e with e; omega))).trans (h3 k x hx j u hu)⟩
    have zbv : w.heap.size ≤ bv ∧ bv < xa.heap.size := ⟨by omega, by have := hg.size; omega⟩
    clear hu2 hxa be2 c2 z3 hbv hbv' hg tbv t3 be3 z2 A2 zd
    clear rVa b3
    clear x3
    clear u2
    repeat ((conv => whnf); first | (refine VS.mk (.below bea hla) ?_) | (refine VCmp.tt (by omega) ?_) | (refine VCmp.ff (by omega) ?_) | (refine VIn.mk (IntWalk.i64_in _ (by omega)) ?_) | (refine VIdx.mk _ rfl (by omega) ?_) | (refine VIdx.mk 0 rfl (by omega) ?_))
    try (conv => whnf)
    have hmem := D.mem i0 hi0w
    have hml : (t.S i0).mem.length = L := by rw [hmem, List.length_map, hwL]
    obtain ⟨vb, vo, rfl, -, hvb, hvc⟩ := rVa' (by rw [hml, ← hwL]; exact w0)
    have hma : ∀ k, k < L → (t.S i0).mem[k]? = some ⟨((who.getD k 0 : Nat) : Int), (t.S (who.getD k 0)).inc, F (who.getD k 0)⟩ := fun k hk => by
      rw [hmem, List.getElem?_map, List.getElem?_eq_getElem (by omega), List.getD_eq_getElem?_getD, List.getElem?_eq_getElem (by omega)]; rfl
    rw [hml] at rbv
    have Lv : Ld Try.prog 44 bv 4 (Below xa.heap.size xa) (.slice (some ⟨vb, vo, none⟩) L cVa) := ⟨fun W hW => load44 ((World.cell?_of_block (a := ⟨bv, _, none⟩) (hW.block bv zbv.2)).trans (rbv 4 _ rfl))⟩
    have Lx : Ld Try.prog 46 bv 0 (Below xa.heap.size xa) (.agg (viewA (t.S i0).vid (some ⟨vb, vo, none⟩) L cVa)) := ⟨fun W hW => load_agg (by kernel_rfl) (by kernel_rfl) (range_same rbv (hW.block bv zbv.2))⟩
    repeat ((conv => whnf); first | (refine VLoad.mk _ (Lv.at (Below.refl _ _)) ?_) | (refine VCmp.tt (by omega) ?_) | (refine VCmp.ff (by omega) ?_) | (refine VIn.mk (IntWalk.i64_in _ (by omega)) ?_) | (refine VIdx.mk _ rfl (by omega) ?_) | (refine VIdx.mk 0 rfl (by omega) ?_))
    try (conv => whnf)
    refine VLoop.mk Nat (fun k => [(0, .pointer (some ⟨h, 0, none⟩)), (1, .slice (some ⟨wb, wo, none⟩) L cA), (5, .pointer (some ⟨bv, 0, none⟩)), (6, .int .i64 k)]) (fun k W => k ≤ L ∧ Below xa.heap.size xa W) (fun k => L - k) 0 ⟨rfl, rfl, rfl, rfl, trivial⟩ ⟨Nat.zero_le _, Below.refl _ _⟩ ?_
    rintro k wk ⟨hk, bk⟩
    by_cases hkL : k < L
    · obtain ⟨i, hie⟩ : ∃ i, i = who.getD k 0 := ⟨_, rfl⟩
      have hiw : i ∈ who := by rw [hie]; exact getD_mem (by omega)
      have hin := G.wn i hiw
      have hmk := hma k hkL
      rw [← hie] at hmk
      have hbx : ∀ W, Below xa.heap.size xa W → Sm [h, tb, ib, eb, wb] w W := fun W hW => .below (bea.trans (hW.mono bea.size)) hla
      have N1 := (Lw k hkL).mono hbx
      rw [← hie] at N1
      have N2 := M0.mono hbx
      have N3 := (T.l_iv (l := [h, tb, ib, eb, wb]) B (by simp) hin).mono hbx
      have N4 := M2.mono hbx
      have N5 := (T.l_ptr (l := [h, tb, ib, eb, wb]) B (by simp) hin hin).mono hbx
      have N6 : Ld Try.prog 3 vb (vo + k * 3) (Below xa.heap.size xa) (.int .i64 (i : Int)) := ⟨fun W hW => load3 ((World.cell?_of_block (a := ⟨vb, _, none⟩) (hW.block vb hvb)).trans (hvc k _ hmk 0 _ rfl))⟩
      have N7 : Ld Try.prog 3 vb (vo + k * 3 + 1) (Below xa.heap.size xa) (.int .i64 (t.S i).inc) := ⟨fun W hW => load3 ((World.cell?_of_block (a := ⟨vb, _, none⟩) (hW.block vb hvb)).trans (hvc k _ hmk 1 _ rfl))⟩
      have bkd := bk.drew
      have Tk := T.below (bea.trans (bkd.mono bea.size))
      have Ak := Tk.ag i hin
      repeat ((conv => whnf); first | (refine VCmp.tt (by omega) ?_) | (refine VCmp.ff (by omega) ?_) | (refine VIn.mk (IntWalk.i64_in _ (by omega)) ?_) | (refine VIdx.mk _ rfl (by omega) ?_) | (refine VIdx.mk 0 rfl (by omega) ?_))
      try (conv => whnf)
      refine VDraw.mk 1000 [([0, 1, 2, 3, 4, 5, 6, 7, 8, 9, 10, 11, 12, 13, 14, 15, 16, 17, 18, 19, 20, 21, 22, 23, 24, 25, 26, 27, 28, 29, 30, 31, 32, 33, 34, 35, 36, 37, 38, 39, 40], 41)] [42] (Below xa.heap.size xa) (by kernel_rfl) (by kernel_rfl) (bkd) ?_
      repeat ((conv => whnf); first | (refine VLoad.mk _ Lv ?_) | (refine VLoad.mk _ N1 ?_) | (refine VLoad.mk _ N2 ?_) | (refine VLoad.mk _ N3 ?_) | (refine VLoad.mk _ N4 ?_) | (refine VLoad.mk _ N5 ?_) | (refine VLoad.mk _ N6 ?_) | (refine VLoad.mk _ N7 ?_) | (refine VCmp.tt (by omega) ?_) | (refine VCmp.ff (by omega) ?_) | (refine VIn.mk (IntWalk.i64_in _ (by omega)) ?_) | (refine VIdx.mk _ rfl (by omega) ?_) | (refine VIdx.mk 0 rfl (by omega) ?_))
      try (conv => whnf)
      refine VCall.mk _ (changing_any (X.ag i) (t.S i) (X.M i) (X.cM i) wk.drew Ak.ag) ?_
      rintro _ _ ⟨rfl, rfl⟩
      refine ⟨_, rfl, ?_⟩
      rw [D.cl i hiw]
      repeat ((conv => whnf); first | (refine VS.mk bkd ?_) | (refine VCmp.tt (by omega) ?_) | (refine VCmp.ff (by omega) ?_) | (refine VIn.mk (IntWalk.i64_in _ (by omega)) ?_) | (refine VIdx.mk _ rfl (by omega) ?_) | (refine VIdx.mk 0 rfl (by omega) ?_))
      try (conv => whnf)
      have bkd2 := bkd.drew
      have Tk2 := T.below (bea.trans (bkd2.mono bea.size))
      have Ak2 := Tk2.ag i hin
      refine VDraw.mk 1000 [([0, 1, 2, 3, 4, 5, 6, 7, 8, 9, 11], 10), ([], 12)] [13] (Below xa.heap.size xa) (by kernel_rfl) (by kernel_rfl) (bkd2) ?_
      repeat ((conv => whnf); first | (refine VLoad.mk _ Lx ?_) | (refine VLoad.mk _ N1 ?_) | (refine VLoad.mk _ N4 ?_) | (refine VLoad.mk _ N5 ?_) | (refine VCmp.tt (by omega) ?_) | (refine VCmp.ff (by omega) ?_) | (refine VIn.mk (IntWalk.i64_in _ (by omega)) ?_) | (refine VIdx.mk _ rfl (by omega) ?_) | (refine VIdx.mk 0 rfl (by omega) ?_))
      try (conv => whnf)
      refine VCall.mk _ (view_any (X.ag i) (t.S i) (X.M i) (X.cM i) wk.heap.size wk.drew.drew Ak2.ag Ak2.hb (Nat.le_refl _) Ak2.row.row (C0.nd i hin).2.1.rinv.len) ?_
      rintro _ x5 ⟨Vb, cVb, rfl, rVb, b5⟩
      refine ⟨_, rfl, ?_⟩
      have bk5 : Below xa.heap.size xa x5 := bkd2.trans (b5.mono bk.size)
      have hml2 : (t.S i).mem.length = L := by rw [D.mem i hiw, List.length_map, hwL]
      repeat ((conv => whnf); first | (refine VS.mk bk5 ?_) | (refine VCmp.tt (by omega) ?_) | (refine VCmp.ff (by omega) ?_) | (refine VIn.mk (IntWalk.i64_in _ (by omega)) ?_) | (refine VIdx.mk _ rfl (by omega) ?_) | (refine VIdx.mk 0 rfl (by omega) ?_))
      try (conv => whnf)
      have vv := views_any (t.S i).vid (t.S i0).vid Vb (some ⟨vb, vo, none⟩) cVb cVa x5.heap.size (t.S i).mem.length L (t.S i).mem (t.S i0).mem x5 rfl hml (Nat.le_refl _) rVb.row (RowAt.more (RowAt.below (show RowAt xa xa.heap.size 3 eMb (some ⟨vb, vo, none⟩) (t.S i0).mem from fun _ => ⟨vb, vo, rfl, hvb, hvc⟩) bk5 (Nat.le_refl _)) bk5.size) (by omega) (by omega)
      rw [show viSame (t.S i).vid (t.S i).mem (t.S i0).vid (t.S i0).mem = true from by rw [D.vid i hiw, D.vid i0 hi0w, D.mem i hiw, D.mem i0 hi0w]; exact viSame_refl _ _] at vv
      refine VCall.mk _ vv ?_
      rintro _ x6 ⟨rfl, b6⟩
      refine ⟨_, rfl, ?_⟩
      have bk6 : Below xa.heap.size xa x6 := bk5.trans (b6.mono bk5.size)
      repeat ((conv => whnf); first | (refine VS.mk bk6 ?_) | (refine VCmp.tt (by omega) ?_) | (refine VCmp.ff (by omega) ?_) | (refine VIn.mk (IntWalk.i64_in _ (by omega)) ?_) | (refine VIdx.mk _ rfl (by omega) ?_) | (refine VIdx.mk 0 rfl (by omega) ?_))
      try (conv => whnf)
      exact .mk (k + 1) ⟨rfl, rfl, rfl, rfl, trivial⟩ ⟨hkL, bk6⟩ (by show L - (k + 1) < L - k; omega)
    · obtain rfl : L = k := by omega
      repeat ((conv => whnf); first | (refine VCmp.tt (by omega) ?_) | (refine VCmp.ff (by omega) ?_) | (refine VIn.mk (IntWalk.i64_in _ (by omega)) ?_) | (refine VIdx.mk _ rfl (by omega) ?_) | (refine VIdx.mk 0 rfl (by omega) ?_))
      try (conv => whnf)
      exact .mk ⟨rfl, bea.trans (bk.mono bea.size)⟩
end Go.Proofs.Ytfbeggdbjpmppaa
