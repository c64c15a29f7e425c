/- OneW OneOpen, joined. -/
import Derived.Test.YtfbeggdbjpmppaaMv9
import Derived.Test.YtfbeggdbjpmppaaMv18
set_option linter.unusedVariables false
set_option linter.unusedSimpArgs false
namespace Go.Proofs.Ytfbeggdbjpmppaa
open Go Go.RowKit
def eSp (s : Sp) : List Value := [.int .i64 s.kd, .int .i64 s.i, .int .i64 s.j, .int .i64 s.k, .int .i64 s.m]
theorem sizeN_in (n : Int) : 2 ≤ sizeN n ∧ sizeN n ≤ 16 := by unfold sizeN; split; omega; split <;> omega
theorem lowI_in (n : Int) : 0 ≤ lowI n ∧ lowI n ≤ 4611686018427387902 := by unfold lowI; split; omega; split <;> omega
def zero33 : Value := .agg #[.int .i64 0, .slice none 0 0, .int .i64 0, .int .i64 0, .int .i64 0, .int .i64 0, .int .i64 0, .int .i64 0, .int .i64 0, .slice none 0 0]
theorem run_zero33 (W : World) : (zeroValue 33).run Try.prog W = .ok zero33 W := by kernel_rfl
theorem one_saA (n : Nat) (x : Lt) (S : Option Addr) (cS : Nat) (V : Option Addr) (cV : Nat) : (saA n x S cS V cV).all (·.oneCell') = true := all_oneCell_toArray (cs := eSa n ⟨x, S, cS, V, cV⟩) (one_eSa _ _)
theorem build29 (W : World) (e l i c : Int) : (Instr.build 29 #[(0, .int .i64 e), (1, .int .i64 l), (2, .int .i64 i), (3, .int .i64 c)]).run Try.prog W = .ok (.agg (vidC ⟨e, l, i, c⟩)) W := by kernel_rfl
theorem build43 (W : World) (p i c : Int) : (Instr.build 43 #[(0, .int .i64 p), (1, .int .i64 i), (2, .int .i64 c)]).run Try.prog W = .ok (.agg #[.int .i64 p, .int .i64 i, .int .i64 c]) W := by kernel_rfl
theorem bs44 (W : World) (a b c d e f : Int) : (Instr.buildSlice 44 2 #[(0, .agg #[.int .i64 a, .int .i64 b, .int .i64 c]), (1, .agg #[.int .i64 d, .int .i64 e, .int .i64 f])]).run Try.prog W = .ok (.slice (some ⟨W.heap.size, 0, none⟩) 2 2) (W.alloc (.cells #[.int .i64 a, .int .i64 b, .int .i64 c, .int .i64 d, .int .i64 e, .int .i64 f] 43)) := by kernel_rfl
theorem build46 (W : World) (v : Vid) (A : Option Addr) (n c : Nat) : (Instr.build 46 #[(0, .agg (vidC v)), (1, .slice A n c)]).run Try.prog W = .ok (.agg (viewA v A n c)) W := by kernel_rfl
structure TmS (w W : World) (g n : Nat) (t : Tm) (K : Nat → Nat) (X : TX) : Prop where
  lo : w.heap.size ≤ g
  nn : t.n = n
  tm : TmM W K g n n t X
  k0 : ∀ b, b < w.heap.size → K b = 0
  be : Below w.heap.size w W
theorem TmS.below {w W W' : World} {g n : Nat} {t : Tm} {K : Nat → Nat} {X : TX} (T : TmS w W g n t K X) (h : Below W.heap.size W W') : TmS w W' g n t K X := ⟨T.lo, T.nn, T.tm.below h, T.k0, T.be.trans (h.mono T.be.size)⟩
theorem TmS.step {w W W' : World} {g n : Nat} {t t' : Tm} {K : Nat → Nat} {X : TX} (T : TmS w W g n t K X) (hn : t'.n = n) (p : TP W K g n n t' W') : ∃ K' X', TmS w W' g n t' K' X' ∧ Ro (· ≠ 0) K K' W W' := by
  obtain ⟨K', X', a, q⟩ := p
  obtain ⟨h1, h2⟩ := ro_below T.k0 T.be q
  exact ⟨K', X', ⟨T.lo, hn, a, h1, h2⟩, q⟩
theorem rndTo_succ (t : Tm) (k : Nat) : rndTo t (k + 1) = rnd (rndTo t k) := rfl
theorem step_n (t : Tm) (s : Sp) : (t.step s).n = t.n := by
  have hh : ∀ i j x, (t.hand i j x).n = t.n := fun i j x => by unfold Tm.hand; split <;> rfl
  have hi : ∀ i, (t.inst i).n = t.n := fun i => by unfold Tm.inst; split <;> rfl
  unfold Tm.step
  split
  · rfl
  · split
    · exact hh _ _ _
    · split
      · exact hh _ _ _
      · split
        · exact hi _
        · split <;> rfl
theorem Cnt.szs {t : Tm} {c : Nat} (h : Cnt t c) (hc : c ≤ 1000000000) (hd : DB t) : Szs t := ⟨fun k => Nat.le_trans (h.e k) hc, Nat.le_trans h.d hc, hd, fun k => by have := h.inc k; omega⟩
theorem TmM.lastE {w : World} {K : Nat → Nat} {h z m i : Nat} {t : Tm} {X : TX} (T : TmM w K h z m t X) (hi : i < z) (hne : t.E i ≠ []) : ∃ gv y, (X.ev i).A = some ⟨gv, 0, none⟩ ∧ gv < w.heap.size ∧ K gv = 11 + 2 * i ∧ (X.ev i).l.length = (t.E i).length ∧ 0 < (t.E i).length ∧ y.x = lastK (t.E i) ∧ w.rangeAt gv (0 + ((t.E i).length - 1) * 10) (eSa t.n y) ∧ RowK w K 1 eInt y.S (y.x.w.set.take t.n) ∧ RowK w K 1 eInt y.V (y.x.w.vec.take t.n) := by
  have e0 := T.ev i hi
  have hl : (X.ev i).l.length = (t.E i).length := by rw [← e0.mp, List.length_map]
  have h0 : 0 < (t.E i).length := List.length_pos_iff.2 hne
  obtain ⟨gv, hgv, hgz⟩ := e0.own.own.blk_of (by rw [hl]; exact h0)
  obtain ⟨y, hy1, hy2⟩ := last_get (l := (X.ev i).l) (fun e => by rw [e] at hl; simp at hl; omega)
  have hym := List.mem_of_getElem? hy1
  refine ⟨gv, y, hgv, hgz, e0.own.rl gv (by rw [hgv]; rfl), hl, h0, ?_, ?_, (e0.rows y hym).1, (e0.rows y hym).2⟩
  · unfold lastK; rw [← e0.mp, List.getLast?_map, hy2]; rfl
  · rw [← hl]; exact e0.cells hgv hy1
set_option maxRecDepth 100000 in
set_option maxHeartbeats 8000000 in
theorem oneView_walk (nodes floor : Int) (A : Option Addr) (cA len : Nat) (play : List Sp) (w : World) (hlen : play.length = len) (hA : RowAt w w.heap.size 5 eSp A play) (hl : len ≤ 100000000) :
    Calls Try.prog 3 #[.int .i64 nodes, .int .i64 floor, .slice A len cA] w fun e w' => e = .returned (.bool true) ∧ Below w.heap.size w w' := by
  refine calls_vc tab_ok Try.func3 rfl ?_
  obtain ⟨n2, n16⟩ := sizeN_in nodes
  obtain ⟨f0, f1⟩ := lowI_in floor
  conv => whnf
  repeat ((conv => whnf); first | (refine VCmp.tt (by omega) ?_) | (refine VCmp.ff (by omega) ?_) | (refine VIn.mk (IntWalk.i64_in _ (by omega)) ?_) | (refine VIdx.mk _ rfl (by omega) ?_) | (refine VIdx.mk 0 rfl (by omega) ?_))
  try (conv => whnf)
  refine VCall.mk _ (size_any nodes w) ?_
  rintro _ _ ⟨rfl, rfl⟩
  refine ⟨_, rfl, ?_⟩
  repeat ((conv => whnf); first | (refine VCmp.tt (by omega) ?_) | (refine VCmp.ff (by omega) ?_) | (refine VIn.mk (IntWalk.i64_in _ (by omega)) ?_) | (refine VIdx.mk _ rfl (by omega) ?_) | (refine VIdx.mk 0 rfl (by omega) ?_))
  try (conv => whnf)
  refine VCall.mk _ (low_any floor _) ?_
  rintro _ _ ⟨rfl, rfl⟩
  refine ⟨_, rfl, ?_⟩
  generalize sizeN nodes = n at n2 n16 ⊢
  generalize lowI floor = fl at f0 f1 ⊢
  rename_i w
  repeat ((conv => whnf); first | (refine VCmp.tt (by omega) ?_) | (refine VCmp.ff (by omega) ?_) | (refine VIn.mk (IntWalk.i64_in _ (by omega)) ?_) | (refine VIdx.mk _ rfl (by omega) ?_) | (refine VIdx.mk 0 rfl (by omega) ?_))
  try (conv => whnf)
  refine VCall.mk _ (starts_any w (by omega) n16 f0 f1) ?_
  rintro _ x1 ⟨g, rfl, hg, K1, X1, T1, k1, b1⟩
  refine ⟨_, rfl, ?_⟩
  have O1 := (start_P2 (n := n) (fl := fl) n2 n16 f0 f1).1
  have O2 := (start_P2 (n := n) (fl := fl) n2 n16 f0 f1).2.1
  have P3 := (start_P2 (n := n) (fl := fl) n2 n16 f0 f1).2.2
  have tn1 := (bootTo_n (tm0 n fl) n).1
  have C1 := bootTo_cnt (Cnt.zero n fl) n
  have C2 := C1.told (i := 0) O1 (by omega) 3
  have C3 := C2.told (i := 1) O2 (by omega) 3
  have M1 : TmS w x1 g n (bootTo (tm0 n fl) n) K1 X1 := ⟨hg, tn1, T1, k1, b1⟩
  repeat ((conv => whnf); first | (refine VCmp.tt (by omega) ?_) | (refine VCmp.ff (by omega) ?_) | (refine VIn.mk (IntWalk.i64_in _ (by omega)) ?_) | (refine VIdx.mk _ rfl (by omega) ?_) | (refine VIdx.mk 0 rfl (by omega) ?_))
  try (conv => whnf)
  refine VCall.mk _ (told_any (i := 0) T1 O1 (by omega) (Nat.le_refl _) n16 tn1.symm (by have := C1.e 0; omega) 3) ?_
  rintro _ x2 ⟨rfl, p2⟩
  refine ⟨_, rfl, ?_⟩
  obtain ⟨K2, X2, M2, -⟩ := M1.step (t' := (bootTo (tm0 n fl) n).told 0 3) tn1 p2
  repeat ((conv => whnf); first | (refine VCmp.tt (by omega) ?_) | (refine VCmp.ff (by omega) ?_) | (refine VIn.mk (IntWalk.i64_in _ (by omega)) ?_) | (refine VIdx.mk _ rfl (by omega) ?_) | (refine VIdx.mk 0 rfl (by omega) ?_))
  try (conv => whnf)
  refine VCall.mk _ (told_any (i := 1) M2.tm O2 (by omega) (Nat.le_refl _) n16 tn1.symm (by have := C2.e 1; omega) 3) ?_
  rintro _ x3 ⟨rfl, p3⟩
  refine ⟨_, rfl, ?_⟩
  obtain ⟨K3, X3, M3, -⟩ := M2.step (t' := ((bootTo (tm0 n fl) n).told 0 3).told 1 3) tn1 p3
  repeat ((conv => whnf); first | (refine VCmp.tt (by omega) ?_) | (refine VCmp.ff (by omega) ?_) | (refine VIn.mk (IntWalk.i64_in _ (by omega)) ?_) | (refine VIdx.mk _ rfl (by omega) ?_) | (refine VIdx.mk 0 rfl (by omega) ?_))
  try (conv => whnf)
  generalize hT : ((bootTo (tm0 n fl) n).told 0 3).told 1 3 = t3 at P3 C3 M3 ⊢
  have P4 : ∀ r, r ≤ 2 → ∃ a b, P2 n fl (rndTo t3 r) a b := fun r hr => by
    have := open_P2 (n := n) (fl := fl) n2 n16 f0 f1
    rw [hT] at this
    rcases Nat.lt_or_ge r 1 with h | h
    · obtain rfl : r = 0 := by omega
      exact ⟨_, _, P3⟩
    · rcases Nat.lt_or_ge r 2 with h2 | h2
      · obtain rfl : r = 1 := by omega
        exact ⟨_, _, this.1⟩
      · obtain rfl : r = 2 := by omega
        exact ⟨_, _, this.2⟩
  have P5 := (open_P2 (n := n) (fl := fl) n2 n16 f0 f1).2
  rw [hT] at P5
  refine VLoop.mk Nat (fun r => [(2, .slice A len cA), (8, .int .i64 fl), (9, .pointer (some ⟨g, 0, none⟩)), (10, .int .i64 r)]) (fun r W => r ≤ 2 ∧ Cnt (rndTo t3 r) (n + 2 + 2 * r) ∧ ∃ K X, TmS w W g n (rndTo t3 r) K X) (fun r => 2 - r) 0 ⟨rfl, rfl, rfl, rfl, trivial⟩ ⟨Nat.zero_le _, C3.more (by omega), K3, X3, M3⟩ ?_
  rintro r wr ⟨hr, Cr, K, X, M⟩
  obtain ⟨ra, rb, P⟩ := P4 r hr
  by_cases hr2 : r < 2
  case pos =>
    have pn := P.n
    have T0 := M.tm
    repeat ((conv => whnf); first | (refine VCmp.tt (by omega) ?_) | (refine VCmp.ff (by omega) ?_) | (refine VIn.mk (IntWalk.i64_in _ (by omega)) ?_) | (refine VIdx.mk _ rfl (by omega) ?_) | (refine VIdx.mk 0 rfl (by omega) ?_))
    try (conv => whnf)
    -- the last entry of node 0 is laid into a variable: wr -> v0
    have z0 := T0.hs
    obtain ⟨tb0, ib0, eb0, B0, -, -, -⟩ := T0.bks (by omega)
    obtain ⟨gv0, y0, hgv0, hgz0, hgk0, hl0, hl00, hy0, hr0, hS0, hV0⟩ := T0.lastE (i := 0) (by omega) (P.ok.ne (by omega))
    obtain ⟨nl0, hnl0⟩ : ∃ nl, nl = ((rndTo t3 r).E 0).length := ⟨_, rfl⟩
    have hc0 := Cr.e 0
    have Le0 := T0.l_ev (l := [g, eb0, gv0]) B0 (by simp)
    have Ls0 := T0.l_es (i := 0) (l := [g, eb0, gv0]) B0 (by simp) (by omega)
    rw [hgv0, hl0, ← hnl0] at Ls0
    rw [← hnl0] at hr0 hl00 hc0
    rw [P.n] at hr0 hS0 hV0
    have Ly0 := l_sa (w := wr) (l := [g, eb0, gv0]) hr0 (by simp)
    have ll0 : ∀ b ∈ [g, eb0, gv0], b < wr.heap.size := fun b hb => by
      have h1 := B0.ez
      simp only [List.mem_cons, List.not_mem_nil, or_false] at hb
      rcases hb with rfl | rfl | rfl
      · exact z0
      · exact h1
      · exact hgz0
    have sd0 : Sm [g, eb0, gv0] wr wr.drew := fun _ _ => rfl
    refine VDraw.mk 17 [([0, 1, 2, 3, 4, 5, 6, 7, 8, 9, 10, 11, 12, 13, 14, 15], 16), ([], 17)] [] (Sm [g, eb0, gv0] wr) (by kernel_rfl) (by kernel_rfl) (sd0) ?_
    repeat ((conv => whnf); first | (refine VLoad.mk _ Le0 ?_) | (refine VLoad.mk _ Ls0 ?_) | (refine VLoad.mk _ Ly0 ?_) | (refine VIdx.mk (nl0 - 1) (by omega) (by omega) ?_) | (refine VIdx.mk 0 rfl (by omega) ?_) | (refine VCmp.tt (by omega) ?_) | (refine VCmp.ff (by omega) ?_) | (refine VIn.mk (IntWalk.i64_in _ (by omega)) ?_) | (refine VIdx.mk _ rfl (by omega) ?_) | (refine VIdx.mk 0 rfl (by omega) ?_))
    try (conv => whnf)
    refine .mk _ run_zero33 ?_
    conv => whnf
    refine .mk fun u7 hu7 => ?_
    have cu0 : Below wr.heap.size wr u7 := by rw [hu7.out]; exact (Below.refl _ _).drew.alloc (Nat.le_refl _) _
    repeat ((conv => whnf); first | (refine VS.mk (Sm.below cu0 ll0) ?_) | (refine VCmp.tt (by omega) ?_) | (refine VCmp.ff (by omega) ?_) | (refine VIn.mk (IntWalk.i64_in _ (by omega)) ?_) | (refine VIdx.mk _ rfl (by omega) ?_) | (refine VIdx.mk 0 rfl (by omega) ?_))
    try (conv => whnf)
    refine VStore.new (c' := saA n y0.x y0.S y0.cS y0.V y0.cV) hu7 (by kernel_rfl) rfl (one_saA _ _ _ _ _ _) fun v0 hu8 => ?_
    have c0 : Below wr.heap.size wr v0 := by rw [hu8.out]; exact (Below.refl _ _).drew.alloc (Nat.le_refl _) _
    have zo0 : v0.heap.size = wr.heap.size + 1 := by rw [hu8.out]; simp
    have ro0 : v0.rangeAt wr.heap.size 0 (saA n y0.x y0.S y0.cS y0.V y0.cV).toList := by rw [hu8.out]; exact range_new wr.drew _ 33
    clear hu7 hu8 cu0 u7
    repeat ((conv => whnf); first | (refine VS.last rfl ?_) | (refine VCmp.tt (by omega) ?_) | (refine VCmp.ff (by omega) ?_) | (refine VIn.mk (IntWalk.i64_in _ (by omega)) ?_) | (refine VIdx.mk _ rfl (by omega) ?_) | (refine VIdx.mk 0 rfl (by omega) ?_))
    try (conv => whnf)
    have T0b := T0.below c0
    -- the last entry of node 1 is laid into a variable: v0 -> v1
    have z1 := T0b.hs
    obtain ⟨tb1, ib1, eb1, B1, -, -, -⟩ := T0b.bks (by omega)
    obtain ⟨gv1, y1, hgv1, hgz1, hgk1, hl1, hl01, hy1, hr1, hS1, hV1⟩ := T0b.lastE (i := 1) (by omega) (P.ok.ne (by omega))
    obtain ⟨nl1, hnl1⟩ : ∃ nl, nl = ((rndTo t3 r).E 1).length := ⟨_, rfl⟩
    have hc1 := Cr.e 1
    have Le1 := T0b.l_ev (l := [g, eb1, gv1]) B1 (by simp)
    have Ls1 := T0b.l_es (i := 1) (l := [g, eb1, gv1]) B1 (by simp) (by omega)
    rw [hgv1, hl1, ← hnl1] at Ls1
    rw [← hnl1] at hr1 hl01 hc1
    rw [P.n] at hr1 hS1 hV1
    have Ly1 := l_sa (w := v0) (l := [g, eb1, gv1]) hr1 (by simp)
    have ll1 : ∀ b ∈ [g, eb1, gv1], b < v0.heap.size := fun b hb => by
      have h1 := B1.ez
      simp only [List.mem_cons, List.not_mem_nil, or_false] at hb
      rcases hb with rfl | rfl | rfl
      · exact z1
      · exact h1
      · exact hgz1
    have sd1 : Sm [g, eb1, gv1] v0 v0.drew := fun _ _ => rfl
    refine VDraw.mk 17 [([0, 1, 2, 3, 4, 5, 6, 7, 8, 9, 10, 11, 12, 13, 14, 15], 16), ([], 17)] [] (Sm [g, eb1, gv1] v0) (by kernel_rfl) (by kernel_rfl) (sd1) ?_
    repeat ((conv => whnf); first | (refine VLoad.mk _ Le1 ?_) | (refine VLoad.mk _ Ls1 ?_) | (refine VLoad.mk _ Ly1 ?_) | (refine VIdx.mk (nl1 - 1) (by omega) (by omega) ?_) | (refine VIdx.mk 1 rfl (by omega) ?_) | (refine VCmp.tt (by omega) ?_) | (refine VCmp.ff (by omega) ?_) | (refine VIn.mk (IntWalk.i64_in _ (by omega)) ?_) | (refine VIdx.mk _ rfl (by omega) ?_) | (refine VIdx.mk 0 rfl (by omega) ?_))
    try (conv => whnf)
    refine .mk _ run_zero33 ?_
    conv => whnf
    refine .mk fun u7 hu7 => ?_
    have cu1 : Below v0.heap.size v0 u7 := by rw [hu7.out]; exact (Below.refl _ _).drew.alloc (Nat.le_refl _) _
    repeat ((conv => whnf); first | (refine VS.mk (Sm.below cu1 ll1) ?_) | (refine VCmp.tt (by omega) ?_) | (refine VCmp.ff (by omega) ?_) | (refine VIn.mk (IntWalk.i64_in _ (by omega)) ?_) | (refine VIdx.mk _ rfl (by omega) ?_) | (refine VIdx.mk 0 rfl (by omega) ?_))
    try (conv => whnf)
    refine VStore.new (c' := saA n y1.x y1.S y1.cS y1.V y1.cV) hu7 (by kernel_rfl) rfl (one_saA _ _ _ _ _ _) fun v1 hu8 => ?_
    have c1 : Below v0.heap.size v0 v1 := by rw [hu8.out]; exact (Below.refl _ _).drew.alloc (Nat.le_refl _) _
    have zo1 : v1.heap.size = v0.heap.size + 1 := by rw [hu8.out]; simp
    have ro1 : v1.rangeAt v0.heap.size 0 (saA n y1.x y1.S y1.cS y1.V y1.cV).toList := by rw [hu8.out]; exact range_new v0.drew _ 33
    clear hu7 hu8 cu1 u7
    repeat ((conv => whnf); first | (refine VS.last rfl ?_) | (refine VCmp.tt (by omega) ?_) | (refine VCmp.ff (by omega) ?_) | (refine VIn.mk (IntWalk.i64_in _ (by omega)) ?_) | (refine VIdx.mk _ rfl (by omega) ?_) | (refine VIdx.mk 0 rfl (by omega) ?_))
    try (conv => whnf)
    have T0c := T0b.below c1
    have c01 : Below wr.heap.size wr v1 := c0.trans (c1.mono (by omega))
    have Mc := M.below c01
    have r01 := range_same ro0 (c1.block wr.heap.size (by omega))
    have Lz1 : Ld Try.prog 33 v0.heap.size 0 (Eq v1) (.agg (saA n y1.x y1.S y1.cS y1.V y1.cV)) := .of (load_agg (by kernel_rfl) (by kernel_rfl) ro1)
    have hx1 : y1.x ∈ (rndTo t3 r).E 1 := by rw [hy1]; exact lastK_mem (P.ok.ne (by omega))
    have hx0 : y0.x ∈ (rndTo t3 r).E 0 := by rw [hy0]; exact lastK_mem (P.ok.ne (by omega))
    have S1 : RowK v1 K 1 eInt y1.S (y1.x.w.set.take n) := hS1.ro (Ro.below (R := (· ≠ 0)) c1) (by simp)
    have V1 : RowK v1 K 1 eInt y1.V (y1.x.w.vec.take n) := hV1.ro (Ro.below (R := (· ≠ 0)) c1) (by simp)
    have hd1 := hands_any (i := 0) (j := 1) (S := y1.S) (V := y1.V) (cS := y1.cS) (cV := y1.cV) Mc.tm P.ok (by omega) (Nat.le_refl _) n16 (by have := Cr.e 0; omega) hx1 (by rw [P.n]; exact S1) (by rw [P.n]; exact V1)
    rw [P.n] at hd1
    repeat ((conv => whnf); first | (refine VLoad.mk _ Lz1 ?_) | (refine VCmp.tt (by omega) ?_) | (refine VCmp.ff (by omega) ?_) | (refine VIn.mk (IntWalk.i64_in _ (by omega)) ?_) | (refine VIdx.mk _ rfl (by omega) ?_) | (refine VIdx.mk 0 rfl (by omega) ?_))
    try (conv => whnf)
    refine VCall.mk _ hd1 ?_
    rintro _ x5 ⟨rfl, p5⟩
    refine ⟨_, rfl, ?_⟩
    obtain ⟨hs1, hs2, hs3, hs4, hs5⟩ := hand_S (t := rndTo t3 r) (i := 0) (j := 1) (x := y1.x) (by decide)
    obtain ⟨K5, X5, M5, Q5⟩ := Mc.step (t' := (rndTo t3 r).hand 0 1 y1.x) (hs2.trans P.n) p5
    have k0z : K wr.heap.size = 0 := T0.kz _ (Nat.le_refl _)
    have r05 := range_same r01 (Q5.same wr.heap.size (by omega) (by rw [k0z]; simp))
    have Lz0 : Ld Try.prog 33 wr.heap.size 0 (Eq x5) (.agg (saA n y0.x y0.S y0.cS y0.V y0.cV)) := .of (load_agg (by kernel_rfl) (by kernel_rfl) r05)
    have S0 : RowK x5 K5 1 eInt y0.S (y0.x.w.set.take n) := (hS0.ro (Ro.below (R := (· ≠ 0)) c01) (by simp)).ro Q5 (by simp)
    have V0 : RowK x5 K5 1 eInt y0.V (y0.x.w.vec.take n) := (hV0.ro (Ro.below (R := (· ≠ 0)) c01) (by simp)).ro Q5 (by simp)
    have ok5 := P.ok.hand (i := 0) (j := 1) (by omega) hx1
    have C5 := Cr.hand (i := 0) (j := 1) P.ok (by omega) y1.x
    have n5 : ((rndTo t3 r).hand 0 1 y1.x).n = n := hs2.trans P.n
    have hd2 := hands_any (i := 1) (j := 0) (S := y0.S) (V := y0.V) (cS := y0.cS) (cV := y0.cV) M5.tm ok5 (by omega) (Nat.le_refl _) n16 (by have := C5.e 1; omega) (hand_mem hx0) (by rw [n5]; exact S0) (by rw [n5]; exact V0)
    rw [n5] at hd2
    repeat ((conv => whnf); first | (refine VLoad.mk _ Lz0 ?_) | (refine VCmp.tt (by omega) ?_) | (refine VCmp.ff (by omega) ?_) | (refine VIn.mk (IntWalk.i64_in _ (by omega)) ?_) | (refine VIdx.mk _ rfl (by omega) ?_) | (refine VIdx.mk 0 rfl (by omega) ?_))
    try (conv => whnf)
    refine VCall.mk _ hd2 ?_
    rintro _ x6 ⟨rfl, p6⟩
    refine ⟨_, rfl, ?_⟩
    obtain ⟨hq1, hq2, hq3, hq4, hq5⟩ := hand_S (t := (rndTo t3 r).hand 0 1 y1.x) (i := 1) (j := 0) (x := y0.x) (by decide)
    obtain ⟨K6, X6, M6, Q6⟩ := M5.step (t' := ((rndTo t3 r).hand 0 1 y1.x).hand 1 0 y0.x) (hq2.trans n5) p6
    have C6 := C5.hand (i := 1) (j := 0) ok5 (by omega) y0.x
    have hrn : ((rndTo t3 r).hand 0 1 y1.x).hand 1 0 y0.x = rndTo t3 (r + 1) := by rw [rndTo_succ, hy1, hy0]; rfl
    rw [hrn] at M6 C6
    repeat ((conv => whnf); first | (refine VCmp.tt (by omega) ?_) | (refine VCmp.ff (by omega) ?_) | (refine VIn.mk (IntWalk.i64_in _ (by omega)) ?_) | (refine VIdx.mk _ rfl (by omega) ?_) | (refine VIdx.mk 0 rfl (by omega) ?_))
    try (conv => whnf)
    exact .mk (r + 1) ⟨rfl, rfl, rfl, rfl, trivial⟩ ⟨hr2, C6.more (by omega), K6, X6, M6⟩ (by show 2 - (r + 1) < 2 - r; omega)
  case neg =>
    obtain rfl : r = 2 := by omega
    have h16 := n16
    generalize rndTo t3 2 = t5 at P5 Cr M P ⊢
    have ag0 : (t5.S 0).agreed = some ⟨fl, [⟨0, 1, fl + 2⟩, ⟨1, 1, fl + 2⟩], [(0 : Int)]⟩ := by rw [P5.a]; exact agreedC n2 n16 f0 (by decide)
    have O6 := P5.ok.inst (i := 0) (by omega)
    have C6 := Cr.inst (i := 0) P5.ok (by omega)
    have db5 : DB t5 := fun d hd => by rw [P5.d] at hd; cases hd
    have db6 := db5.inst (i := 0) P5.ok (by omega)
    have e6 := Tm.inst_some ag0
    have hS6 : (t5.inst 0).S = upS t5.S 0 (t5.S 0).install := by rw [e6]; rfl
    have hn6 : (t5.inst 0).n = n := by rw [e6]; exact P5.n
    have hD6 : (t5.inst 0).D = [t5.dn 0 ⟨fl, [⟨0, 1, fl + 2⟩, ⟨1, 1, fl + 2⟩], [(0 : Int)]⟩] := by rw [e6]; show t5.D ++ _ = _; rw [P5.d]; rfl
    have s61 : (t5.inst 0).S 1 = stC n 1 fl := by rw [hS6, upS_ne _ _ (by decide)]; exact P5.b
    have ag1 : ((t5.inst 0).S 1).agreed = some ⟨fl, [⟨0, 1, fl + 2⟩, ⟨1, 1, fl + 2⟩], [(1 : Int)]⟩ := by rw [s61]; exact agreedC n2 n16 f0 (by decide)
    have i1 := installs_any (i := 0) M.tm P5.ok (by omega) (Nat.le_refl _) n16 (by have := Cr.e 0; omega) (by have := Cr.d; omega) db5
    repeat ((conv => whnf); first | (refine VCmp.tt (by omega) ?_) | (refine VCmp.ff (by omega) ?_) | (refine VIn.mk (IntWalk.i64_in _ (by omega)) ?_) | (refine VIdx.mk _ rfl (by omega) ?_) | (refine VIdx.mk 0 rfl (by omega) ?_))
    try (conv => whnf)
    refine VCall.mk _ i1 ?_
    rintro _ x6 ⟨rfl, p6⟩
    refine ⟨_, rfl, ?_⟩
    obtain ⟨K6, X6, M6, -⟩ := M.step (t' := t5.inst 0) hn6 p6
    have i2 := installs_any (i := 1) M6.tm O6 (by omega) (Nat.le_refl _) n16 (by have := C6.e 1; omega) (by have := C6.d; omega) db6
    generalize ht6 : t5.inst 0 = t6 at O6 C6 db6 hS6 hn6 hD6 s61 ag1 M6 i2
    have O7 := O6.inst (i := 1) (by omega)
    have C7 := C6.inst (i := 1) O6 (by omega)
    have db7 := db6.inst (i := 1) O6 (by omega)
    have e7 := Tm.inst_some ag1
    have hS7 : (t6.inst 1).S = upS t6.S 1 (t6.S 1).install := by rw [e7]; rfl
    have hn7 : (t6.inst 1).n = n := by rw [e7]; exact hn6
    have hD7 : (t6.inst 1).D = [t5.dn 0 ⟨fl, [⟨0, 1, fl + 2⟩, ⟨1, 1, fl + 2⟩], [(0 : Int)]⟩, t6.dn 1 ⟨fl, [⟨0, 1, fl + 2⟩, ⟨1, 1, fl + 2⟩], [(1 : Int)]⟩] := by rw [e7]; show t6.D ++ _ = _; rw [hD6]; rfl
    have v70 : ((t6.inst 1).S 0).vid = ⟨fl + 1, 0, 1, fl + 2⟩ ∧ ((t6.inst 1).S 0).mem = [⟨0, 1, fl + 2⟩, ⟨1, 1, fl + 2⟩] := by
      rw [hS7, upS_ne _ _ (by decide), hS6, upS_same]
      unfold St.install; rw [ag0]; exact ⟨rfl, rfl⟩
    have v71 : ((t6.inst 1).S 1).vid = ⟨fl + 1, 0, 1, fl + 2⟩ ∧ ((t6.inst 1).S 1).mem = [⟨0, 1, fl + 2⟩, ⟨1, 1, fl + 2⟩] := by
      rw [hS7, upS_same]
      unfold St.install; rw [ag1]; exact ⟨rfl, rfl⟩
    repeat ((conv => whnf); first | (refine VCmp.tt (by omega) ?_) | (refine VCmp.ff (by omega) ?_) | (refine VIn.mk (IntWalk.i64_in _ (by omega)) ?_) | (refine VIdx.mk _ rfl (by omega) ?_) | (refine VIdx.mk 0 rfl (by omega) ?_))
    try (conv => whnf)
    refine VCall.mk _ i2 ?_
    rintro _ x7 ⟨rfl, p7⟩
    refine ⟨_, rfl, ?_⟩
    obtain ⟨K7, X7, M7, -⟩ := M6.step (t' := t6.inst 1) hn7 p7
    generalize t6.inst 1 = t7 at O7 C7 db7 hS7 hn7 hD7 v70 v71 M7
    clear i1 i2 p6 p7
    have hdl : X7.dl.length = 2 := by have := congrArg List.length M7.tm.dm; rw [List.length_map, hD7] at this; exact this
    have La7 : Ld Try.prog 37 g 5 (Eq x7) (.slice X7.dA 2 X7.dc) := by have := (M7.tm.l_al (l := [g]) (by simp)).at (Sm.refl [g] x7); rw [hdl] at this; exact this
    repeat ((conv => whnf); first | (refine VLoad.mk _ La7 ?_) | (refine VCmp.tt (by omega) ?_) | (refine VCmp.ff (by omega) ?_) | (refine VIn.mk (IntWalk.i64_in _ (by omega)) ?_) | (refine VIdx.mk _ rfl (by omega) ?_) | (refine VIdx.mk 0 rfl (by omega) ?_))
    try (conv => whnf)
    refine VBuild.mk _ (fun W => build29 W (fl + 1) 0 1 (fl + 2)) ?_
    repeat ((conv => whnf); first | (refine VCmp.tt (by omega) ?_) | (refine VCmp.ff (by omega) ?_) | (refine VIn.mk (IntWalk.i64_in _ (by omega)) ?_) | (refine VIdx.mk _ rfl (by omega) ?_) | (refine VIdx.mk 0 rfl (by omega) ?_))
    try (conv => whnf)
    refine VBuild.mk _ (fun W => build43 W 0 1 (fl + 2)) ?_
    repeat ((conv => whnf); first | (refine VCmp.tt (by omega) ?_) | (refine VCmp.ff (by omega) ?_) | (refine VIn.mk (IntWalk.i64_in _ (by omega)) ?_) | (refine VIdx.mk _ rfl (by omega) ?_) | (refine VIdx.mk 0 rfl (by omega) ?_))
    try (conv => whnf)
    refine VBuild.mk _ (fun W => build43 W 1 1 (fl + 2)) ?_
    repeat ((conv => whnf); first | (refine VCmp.tt (by omega) ?_) | (refine VCmp.ff (by omega) ?_) | (refine VIn.mk (IntWalk.i64_in _ (by omega)) ?_) | (refine VIdx.mk _ rfl (by omega) ?_) | (refine VIdx.mk 0 rfl (by omega) ?_))
    try (conv => whnf)
    refine VBs.mk _ _ (bs44 x7 0 1 (fl + 2) 1 1 (fl + 2)) ?_
    have c8 : Below x7.heap.size x7 (x7.alloc (.cells #[.int .i64 0, .int .i64 1, .int .i64 (fl + 2), .int .i64 1, .int .i64 1, .int .i64 (fl + 2)] 43)) := (Below.refl _ _).alloc (Nat.le_refl _) _
    have z8 : (x7.alloc (.cells #[.int .i64 0, .int .i64 1, .int .i64 (fl + 2), .int .i64 1, .int .i64 1, .int .i64 (fl + 2)] 43)).heap.size = x7.heap.size + 1 := by simp
    have r8 := range_new x7 #[.int .i64 0, .int .i64 1, .int .i64 (fl + 2), .int .i64 1, .int .i64 1, .int .i64 (fl + 2)] 43
    generalize x7.alloc (.cells #[.int .i64 0, .int .i64 1, .int .i64 (fl + 2), .int .i64 1, .int .i64 1, .int .i64 (fl + 2)] 43) = x8 at c8 z8 r8 ⊢
    repeat ((conv => whnf); first | (refine VCmp.tt (by omega) ?_) | (refine VCmp.ff (by omega) ?_) | (refine VIn.mk (IntWalk.i64_in _ (by omega)) ?_) | (refine VIdx.mk _ rfl (by omega) ?_) | (refine VIdx.mk 0 rfl (by omega) ?_))
    try (conv => whnf)
    refine VBuild.mk _ (fun W => build46 W ⟨fl + 1, 0, 1, fl + 2⟩ (some ⟨x7.heap.size, 0, none⟩) 2 2) ?_
    repeat ((conv => whnf); first | (refine VCmp.tt (by omega) ?_) | (refine VCmp.ff (by omega) ?_) | (refine VIn.mk (IntWalk.i64_in _ (by omega)) ?_) | (refine VIdx.mk _ rfl (by omega) ?_) | (refine VIdx.mk 0 rfl (by omega) ?_))
    try (conv => whnf)
    refine .mk _ run_zero46 ?_
    conv => whnf
    refine .mk fun x9 hx9 => ?_
    repeat ((conv => whnf); first | (refine VCmp.tt (by omega) ?_) | (refine VCmp.ff (by omega) ?_) | (refine VIn.mk (IntWalk.i64_in _ (by omega)) ?_) | (refine VIdx.mk _ rfl (by omega) ?_) | (refine VIdx.mk 0 rfl (by omega) ?_))
    try (conv => whnf)
    refine VStore.new (c' := viewA ⟨fl + 1, 0, 1, fl + 2⟩ (some ⟨x7.heap.size, 0, none⟩) 2 2) hx9 (by kernel_rfl) rfl (one_viewA _ _ _ _) fun y hy => ?_
    have c9 : Below x8.heap.size x8 y := by rw [hy.out]; exact (Below.refl _ _).alloc (Nat.le_refl _) _
    have z9 : y.heap.size = x8.heap.size + 1 := by rw [hy.out]; simp
    have r9 : y.rangeAt x8.heap.size 0 (viewA ⟨fl + 1, 0, 1, fl + 2⟩ (some ⟨x7.heap.size, 0, none⟩) 2 2).toList := by rw [hy.out]; exact range_new x8 _ 46
    clear hx9 hy x9
    have c79 : Below x7.heap.size x7 y := c8.trans (c9.mono (by omega))
    have My := M7.below c79
    have r89 := range_same r8 (c9.block x7.heap.size (by omega))
    have rWant : RowAt y y.heap.size 3 eMb (some ⟨x7.heap.size, 0, none⟩) [⟨0, 1, fl + 2⟩, ⟨1, 1, fl + 2⟩] := fun _ => by
      refine ⟨x7.heap.size, 0, rfl, by omega, fun k x hx j u hu => ?_⟩
      have := r89 (k * 3 + j) u (flatMap_at (enc := eMb) (sz := 3) (fun _ => rfl) _ k j x u hx hu)
      rw [Nat.add_assoc]; exact this
    obtain ⟨tb, ib, eb, B, -, -, -⟩ := My.tm.bks (by omega)
    obtain ⟨u0, u1, hu01⟩ : ∃ u0 u1, X7.dl = [u0, u1] := by
      cases hx : X7.dl with
      | nil => rw [hx] at hdl; simp at hdl
      | cons a l =>
        cases l with
        | nil => rw [hx] at hdl; simp at hdl
        | cons b l =>
          cases l with
          | nil => exact ⟨a, b, rfl⟩
          | cons c l => rw [hx] at hdl; simp at hdl
    have hdm := M7.tm.dm
    rw [hu01, hD7] at hdm
    have hd0 : u0.d.tr = [0] := by have := congrArg (fun l => l[0]?) hdm; simp at this; rw [this]; rfl
    have hd1 : u1.d.tr = [1] := by have := congrArg (fun l => l[1]?) hdm; simp at this; rw [this]; rfl
    obtain ⟨db, hdb, hdz⟩ := My.tm.a5.own.blk_of (by rw [hdl]; omega)
    have a5 : OwnR y K7 5 52 12 eDn (some ⟨db, 0, none⟩) X7.dc X7.dl := by have := My.tm.a5; rw [hdb] at this; exact this
    have ru0 := own_cell a5 len_eDn (k := 0) (x := u0) (by rw [hu01]; rfl)
    have ru1 := own_cell a5 len_eDn (k := 1) (x := u1) (by rw [hu01]; rfl)
    have hz9 : x8.heap.size < y.heap.size := by omega
    have hsm : ∀ W, Below y.heap.size y W → Sm [g, tb, db, x8.heap.size] y W := fun W hW => .below hW fun b hb => by
      have h1 := My.tm.hs; have h2 := B.tz
      simp only [List.mem_cons, List.not_mem_nil, or_false] at hb
      rcases hb with rfl | rfl | rfl | rfl
      · exact h1
      · exact h2
      · exact hdz
      · exact hz9
    have Lat := (My.tm.l_at (l := [g, tb, db, x8.heap.size]) B (by simp)).mono hsm
    have Lp0 := (My.tm.l_ptr (i := 0) (l := [g, tb, db, x8.heap.size]) B (by simp) (by omega) (by omega)).mono hsm
    have Lp1 := (My.tm.l_ptr (i := 1) (l := [g, tb, db, x8.heap.size]) B (by simp) (by omega) (by omega)).mono hsm
    have Lal : Ld Try.prog 37 g 5 (Below y.heap.size y) (.slice (some ⟨db, 0, none⟩) 2 X7.dc) := by
      have := (My.tm.l_al (l := [g, tb, db, x8.heap.size]) (by simp)).mono hsm
      rw [hdl, hdb] at this; exact this
    have Lwant : Ld Try.prog 46 x8.heap.size 0 (Below y.heap.size y) (.agg (viewA ⟨fl + 1, 0, 1, fl + 2⟩ (some ⟨x7.heap.size, 0, none⟩) 2 2)) := ⟨fun W hW => load_agg (by kernel_rfl) (by kernel_rfl) (range_same r9 (hsm W hW _ (by simp)))⟩
    have Lt0 : Ld Try.prog 27 db (0 + 0 * 12 + 11) (Below y.heap.size y) (.slice u0.T u0.d.tr.length u0.cT) := ⟨fun W hW => load27 ((hsm W hW).cellv (ru0 11 _ rfl) (by simp))⟩
    have Lt1 : Ld Try.prog 27 db (0 + 1 * 12 + 11) (Below y.heap.size y) (.slice u1.T u1.d.tr.length u1.cT) := ⟨fun W hW => load27 ((hsm W hW).cellv (ru1 11 _ rfl) (by simp))⟩
    rw [hd0] at Lt0
    rw [hd1] at Lt1
    have bd : Below y.heap.size y y.drew := (Below.refl _ _).drew
    repeat ((conv => whnf); first | (refine VCmp.tt (by omega) ?_) | (refine VCmp.ff (by omega) ?_) | (refine VIn.mk (IntWalk.i64_in _ (by omega)) ?_) | (refine VIdx.mk _ rfl (by omega) ?_) | (refine VIdx.mk 0 rfl (by omega) ?_))
    try (conv => whnf)
    refine VDraw.mk 1000 [([0, 1, 2, 3, 4, 5, 7], 6), ([], 8), ([9, 10, 11, 12, 13, 14, 15, 16, 18], 17), ([], 19), ([20, 21, 22, 23, 24, 25, 26, 27, 28, 29], 30), ([], 31), ([32, 33, 34, 35, 36, 37, 38, 39, 40, 41], 42), ([], 43)] [44, 45] (Below y.heap.size y) (by kernel_rfl) (by kernel_rfl) (bd) ?_
    repeat ((conv => whnf); first | (refine VLoad.mk _ Lat ?_) | (refine VLoad.mk _ Lp0 ?_) | (refine VIdx.mk 0 rfl (by omega) ?_) | (refine VLoad.mk _ Lwant ?_) | (refine VCmp.tt (by omega) ?_) | (refine VCmp.ff (by omega) ?_) | (refine VIn.mk (IntWalk.i64_in _ (by omega)) ?_) | (refine VIdx.mk _ rfl (by omega) ?_) | (refine VIdx.mk 0 rfl (by omega) ?_))
    try (conv => whnf)
    -- View of node 0, and the comparison with what is wanted: world y.drew, bin : Below y.heap.size y y.drew
    have Tva := My.tm.below bd
    have Ava := Tva.ag 0 (by omega)
    have mla : (t7.S 0).mem.length ≤ 16 := by rw [v70.2]; simp
    refine VCall.mk _ (view_any (X7.ag 0) (t7.S 0) (X7.M 0) (X7.cM 0) y.drew.heap.size y.drew Ava.ag Ava.hb (Nat.le_refl _) Ava.row.row mla) ?_
    rintro _ w1a ⟨Vaa, cVaa, rfl, rVaa, b1a⟩
    refine ⟨_, rfl, ?_⟩
    have e1a : Below y.heap.size y w1a := bd.trans (b1a.mono bd.size)
    repeat ((conv => whnf); first | (refine VS.mk e1a ?_) | (refine VCmp.tt (by omega) ?_) | (refine VCmp.ff (by omega) ?_) | (refine VIn.mk (IntWalk.i64_in _ (by omega)) ?_) | (refine VIdx.mk _ rfl (by omega) ?_) | (refine VIdx.mk 0 rfl (by omega) ?_))
    try (conv => whnf)
    repeat ((conv => whnf); first | (refine VLoad.mk _ Lwant ?_) | (refine VCmp.tt (by omega) ?_) | (refine VCmp.ff (by omega) ?_) | (refine VIn.mk (IntWalk.i64_in _ (by omega)) ?_) | (refine VIdx.mk _ rfl (by omega) ?_) | (refine VIdx.mk 0 rfl (by omega) ?_))
    try (conv => whnf)
    have vva := views_any (t7.S 0).vid ⟨fl + 1, 0, 1, fl + 2⟩ Vaa (some ⟨x7.heap.size, 0, none⟩) cVaa 2 w1a.heap.size (t7.S 0).mem.length 2 (t7.S 0).mem [⟨0, 1, fl + 2⟩, ⟨1, 1, fl + 2⟩] w1a rfl rfl (Nat.le_refl _) rVaa.row ((rWant.below e1a (Nat.le_refl _)).more e1a.size) (by omega) (by omega)
    have hvsa : viSame (t7.S 0).vid (t7.S 0).mem ⟨fl + 1, 0, 1, fl + 2⟩ [⟨0, 1, fl + 2⟩, ⟨1, 1, fl + 2⟩] = true := by rw [v70.1, v70.2]; exact viSame_refl _ _
    rw [hvsa] at vva
    refine VCall.mk _ vva ?_
    rintro _ w2a ⟨rfl, b2a⟩
    refine ⟨_, rfl, ?_⟩
    have e2a : Below y.heap.size y w2a := e1a.trans (b2a.mono e1a.size)
    repeat ((conv => whnf); first | (refine VS.mk e2a ?_) | (refine VCmp.tt (by omega) ?_) | (refine VCmp.ff (by omega) ?_) | (refine VIn.mk (IntWalk.i64_in _ (by omega)) ?_) | (refine VIdx.mk _ rfl (by omega) ?_) | (refine VIdx.mk 0 rfl (by omega) ?_))
    try (conv => whnf)
    repeat ((conv => whnf); first | (refine VLoad.mk _ Lat ?_) | (refine VLoad.mk _ Lp1 ?_) | (refine VIdx.mk 1 rfl (by omega) ?_) | (refine VLoad.mk _ Lwant ?_) | (refine VCmp.tt (by omega) ?_) | (refine VCmp.ff (by omega) ?_) | (refine VIn.mk (IntWalk.i64_in _ (by omega)) ?_) | (refine VIdx.mk _ rfl (by omega) ?_) | (refine VIdx.mk 0 rfl (by omega) ?_))
    try (conv => whnf)
    -- View of node 1, and the comparison with what is wanted: world w2a, bin : Below y.heap.size y w2a
    have Tvb := My.tm.below e2a
    have Avb := Tvb.ag 1 (by omega)
    have mlb : (t7.S 1).mem.length ≤ 16 := by rw [v71.2]; simp
    refine VCall.mk _ (view_any (X7.ag 1) (t7.S 1) (X7.M 1) (X7.cM 1) w2a.heap.size w2a Avb.ag Avb.hb (Nat.le_refl _) Avb.row.row mlb) ?_
    rintro _ w1b ⟨Vab, cVab, rfl, rVab, b1b⟩
    refine ⟨_, rfl, ?_⟩
    have e1b : Below y.heap.size y w1b := e2a.trans (b1b.mono e2a.size)
    repeat ((conv => whnf); first | (refine VS.mk e1b ?_) | (refine VCmp.tt (by omega) ?_) | (refine VCmp.ff (by omega) ?_) | (refine VIn.mk (IntWalk.i64_in _ (by omega)) ?_) | (refine VIdx.mk _ rfl (by omega) ?_) | (refine VIdx.mk 0 rfl (by omega) ?_))
    try (conv => whnf)
    repeat ((conv => whnf); first | (refine VLoad.mk _ Lwant ?_) | (refine VCmp.tt (by omega) ?_) | (refine VCmp.ff (by omega) ?_) | (refine VIn.mk (IntWalk.i64_in _ (by omega)) ?_) | (refine VIdx.mk _ rfl (by omega) ?_) | (refine VIdx.mk 0 rfl (by omega) ?_))
    try (conv => whnf)
    have vvb := views_any (t7.S 1).vid ⟨fl + 1, 0, 1, fl + 2⟩ Vab (some ⟨x7.heap.size, 0, none⟩) cVab 2 w1b.heap.size (t7.S 1).mem.length 2 (t7.S 1).mem [⟨0, 1, fl + 2⟩, ⟨1, 1, fl + 2⟩] w1b rfl rfl (Nat.le_refl _) rVab.row ((rWant.below e1b (Nat.le_refl _)).more e1b.size) (by omega) (by omega)
    have hvsb : viSame (t7.S 1).vid (t7.S 1).mem ⟨fl + 1, 0, 1, fl + 2⟩ [⟨0, 1, fl + 2⟩, ⟨1, 1, fl + 2⟩] = true := by rw [v71.1, v71.2]; exact viSame_refl _ _
    rw [hvsb] at vvb
    refine VCall.mk _ vvb ?_
    rintro _ w2b ⟨rfl, b2b⟩
    refine ⟨_, rfl, ?_⟩
    have e2b : Below y.heap.size y w2b := e1b.trans (b2b.mono e1b.size)
    repeat ((conv => whnf); first | (refine VS.mk e2b ?_) | (refine VCmp.tt (by omega) ?_) | (refine VCmp.ff (by omega) ?_) | (refine VIn.mk (IntWalk.i64_in _ (by omega)) ?_) | (refine VIdx.mk _ rfl (by omega) ?_) | (refine VIdx.mk 0 rfl (by omega) ?_))
    try (conv => whnf)
    repeat ((conv => whnf); first | (refine VLoad.mk _ Lal ?_) | (refine VLoad.mk _ Lt0 ?_) | (refine VIdx.mk 0 rfl (by omega) ?_) | (refine VCmp.tt (by omega) ?_) | (refine VCmp.ff (by omega) ?_) | (refine VIn.mk (IntWalk.i64_in _ (by omega)) ?_) | (refine VIdx.mk _ rfl (by omega) ?_) | (refine VIdx.mk 0 rfl (by omega) ?_))
    try (conv => whnf)
    -- the transitional list of install 0: world w2b, e2b
    refine VBs.mk _ _ (bs27 w2b 0) ?_
    have d1c : Below w2b.heap.size w2b (w2b.alloc (.cells #[.int .i64 0] 3)) := (Below.refl _ _).alloc (Nat.le_refl _) _
    have hrc := row_new w2b 3 1 eInt 0 #[.int .i64 0] rfl
    have hzc : (w2b.alloc (.cells #[.int .i64 0] 3)).heap.size = w2b.heap.size + 1 := by simp
    generalize w2b.alloc (.cells #[.int .i64 0] 3) = w1c at d1c hrc hzc ⊢
    have e1c : Below y.heap.size y w1c := e2b.trans (d1c.mono e2b.size)
    repeat ((conv => whnf); first | (refine VS.mk e1c ?_) | (refine VCmp.tt (by omega) ?_) | (refine VCmp.ff (by omega) ?_) | (refine VIn.mk (IntWalk.i64_in _ (by omega)) ?_) | (refine VIdx.mk _ rfl (by omega) ?_) | (refine VIdx.mk 0 rfl (by omega) ?_))
    try (conv => whnf)
    have lic := lints_two u0.T (some ⟨w2b.heap.size, 0, none⟩) u0.cT 1 w1c.heap.size u0.d.tr [0] 1 1 w1c (by rw [hd0]; rfl) rfl (Nat.le_refl _) (((My.tm.dr u0 (by rw [hu01]; simp)).2.row.below e1c (Nat.le_refl _)).more e1c.size) (hrc.more (by omega)) (by decide) (by decide)
    rw [decide_eq_true hd0] at lic
    refine VCall.mk _ lic ?_
    rintro _ w2c ⟨rfl, b2c⟩
    refine ⟨_, rfl, ?_⟩
    have e2c : Below y.heap.size y w2c := e1c.trans (b2c.mono e1c.size)
    repeat ((conv => whnf); first | (refine VS.mk e2c ?_) | (refine VCmp.tt (by omega) ?_) | (refine VCmp.ff (by omega) ?_) | (refine VIn.mk (IntWalk.i64_in _ (by omega)) ?_) | (refine VIdx.mk _ rfl (by omega) ?_) | (refine VIdx.mk 0 rfl (by omega) ?_))
    try (conv => whnf)
    repeat ((conv => whnf); first | (refine VLoad.mk _ Lal ?_) | (refine VLoad.mk _ Lt1 ?_) | (refine VIdx.mk 1 rfl (by omega) ?_) | (refine VCmp.tt (by omega) ?_) | (refine VCmp.ff (by omega) ?_) | (refine VIn.mk (IntWalk.i64_in _ (by omega)) ?_) | (refine VIdx.mk _ rfl (by omega) ?_) | (refine VIdx.mk 0 rfl (by omega) ?_))
    try (conv => whnf)
    -- the transitional list of install 1: world w2c, e2c
    refine VBs.mk _ _ (bs27 w2c 1) ?_
    have d1d : Below w2c.heap.size w2c (w2c.alloc (.cells #[.int .i64 1] 3)) := (Below.refl _ _).alloc (Nat.le_refl _) _
    have hrd := row_new w2c 3 1 eInt 1 #[.int .i64 1] rfl
    have hzd : (w2c.alloc (.cells #[.int .i64 1] 3)).heap.size = w2c.heap.size + 1 := by simp
    generalize w2c.alloc (.cells #[.int .i64 1] 3) = w1d at d1d hrd hzd ⊢
    have e1d : Below y.heap.size y w1d := e2c.trans (d1d.mono e2c.size)
    repeat ((conv => whnf); first | (refine VS.mk e1d ?_) | (refine VCmp.tt (by omega) ?_) | (refine VCmp.ff (by omega) ?_) | (refine VIn.mk (IntWalk.i64_in _ (by omega)) ?_) | (refine VIdx.mk _ rfl (by omega) ?_) | (refine VIdx.mk 0 rfl (by omega) ?_))
    try (conv => whnf)
    have lid := lints_two u1.T (some ⟨w2c.heap.size, 0, none⟩) u1.cT 1 w1d.heap.size u1.d.tr [1] 1 1 w1d (by rw [hd1]; rfl) rfl (Nat.le_refl _) (((My.tm.dr u1 (by rw [hu01]; simp)).2.row.below e1d (Nat.le_refl _)).more e1d.size) (hrd.more (by omega)) (by decide) (by decide)
    rw [decide_eq_true hd1] at lid
    refine VCall.mk _ lid ?_
    rintro _ w2d ⟨rfl, b2d⟩
    refine ⟨_, rfl, ?_⟩
    have e2d : Below y.heap.size y w2d := e1d.trans (b2d.mono e1d.size)
    repeat ((conv => whnf); first | (refine VS.mk e2d ?_) | (refine VCmp.tt (by omega) ?_) | (refine VCmp.ff (by omega) ?_) | (refine VIn.mk (IntWalk.i64_in _ (by omega)) ?_) | (refine VIdx.mk _ rfl (by omega) ?_) | (refine VIdx.mk 0 rfl (by omega) ?_))
    try (conv => whnf)
    have bw7 : Below w.heap.size w w2d := My.be.trans (e2d.mono My.be.size)
    have M8 := My.below e2d
    have C8 : Cnt t7 (n + 10) := C7.more (by omega)
    clear Lat Lp0 Lp1 Lal Lwant Lt0 Lt1 hsm
    refine VLoop.mk Nat (fun k => [(2, .slice A len cA), (9, .pointer (some ⟨g, 0, none⟩)), (14, .int .i64 k)]) (fun k W => k ≤ len ∧ ∃ t K X, Tm.Ok n t ∧ Cnt t (n + 10 + k) ∧ DB t ∧ TmS w W g n t K X) (fun k => len - k) 0 ⟨rfl, rfl, rfl, trivial⟩ ⟨Nat.zero_le _, t7, K7, X7, O7, C8, db7, M8⟩ ?_
    rintro k wk ⟨hk, t, K, X, O, C, hdb, M⟩
    by_cases hkl : k < len
    · obtain ⟨s, hs⟩ : ∃ s, play[k]? = some s := ⟨_, List.getElem?_eq_getElem (by omega)⟩
      obtain ⟨b, o, rfl, hb, hc⟩ := hA (by omega)
      have rs : wk.rangeAt b (o + k * 5) (spA s).toList := fun j u hu => (World.cell?_of_block (a := ⟨b, o + k * 5 + j, none⟩) (M.be.block b hb)).trans (hc k s hs j u hu)
      have Ls : Ld Try.prog 55 b (o + k * 5) (Eq wk) (.agg (spA s)) := .of (load_agg (by kernel_rfl) (by kernel_rfl) rs)
      have Tk := M.tm
      have Ok' := O
      have nn := M.nn
      rw [← nn] at Tk Ok'
      have pl := team_plays Tk Ok' (C.szs (by omega) hdb) s
      rw [nn] at pl
      repeat ((conv => whnf); first | (refine VLoad.mk _ Ls ?_) | (refine VCmp.tt (by omega) ?_) | (refine VCmp.ff (by omega) ?_) | (refine VIn.mk (IntWalk.i64_in _ (by omega)) ?_) | (refine VIdx.mk _ rfl (by omega) ?_) | (refine VIdx.mk 0 rfl (by omega) ?_))
      try (conv => whnf)
      refine VCall.mk _ pl ?_
      rintro _ x9 ⟨rfl, p9⟩
      refine ⟨_, rfl, ?_⟩
      obtain ⟨K9, X9, M9, -⟩ := M.step (t' := t.step s) ((step_n t s).trans nn) p9
      have O9 := Tm.Ok.step Ok' (b := n + 10 + k) (fun i _ => by have := C.inc i; omega) (by omega) s
      have C9 := C.step Ok' s
      have D9 := hdb.step Ok' s
      rw [nn] at O9
      repeat ((conv => whnf); first | (refine VCmp.tt (by omega) ?_) | (refine VCmp.ff (by omega) ?_) | (refine VIn.mk (IntWalk.i64_in _ (by omega)) ?_) | (refine VIdx.mk _ rfl (by omega) ?_) | (refine VIdx.mk 0 rfl (by omega) ?_))
      try (conv => whnf)
      exact .mk (k + 1) ⟨rfl, rfl, rfl, trivial⟩ ⟨hkl, t.step s, K9, X9, O9, C9.more (by omega), D9, M9⟩ (by show len - (k + 1) < len - k; omega)
    · obtain rfl : k = len := by omega
      repeat ((conv => whnf); first | (refine VCmp.tt (by omega) ?_) | (refine VCmp.ff (by omega) ?_) | (refine VIn.mk (IntWalk.i64_in _ (by omega)) ?_) | (refine VIdx.mk _ rfl (by omega) ?_) | (refine VIdx.mk 0 rfl (by omega) ?_))
      try (conv => whnf)
      exact .mk ⟨rfl, M.be⟩
end Go.Proofs.Ytfbeggdbjpmppaa
namespace Go.Proofs.Ytfbeggdbjpmppaa
open Go.RowKit Go.Deep Go.ChangeShapes Go.WideShapes Go.ChangeAt
theorem cells55 : Try.prog.cellsOf 55 = 5 := by kernel_rfl
theorem readable22 : Try.prog.readableRec 22 = true := by kernel_rfl
theorem row22 : 22 < Try.prog.types.size := of_decide_eq_true (by kernel_rfl)
theorem readable3 : Try.prog.readableRec 3 = true := by kernel_rfl
theorem row3 : 3 < Try.prog.types.size := of_decide_eq_true (by kernel_rfl)
section
variable {H : Type} {enc : TypeId × Value → H} {W : World} {sp : Nat → Bool}
set_option maxRecDepth 100000 in
theorem elem55 (n : Nat) (cs : List Value) (y : DataW H × List MemPlace) (h : DataW.trod enc Try.prog W 0 sp true n 55 cs = some y) : ∃ x, cs = eSp x ∧ 2 ≤ Rows.uptoBulk y.1 := by
  obtain ⟨ys, m, _, rfl, hlen, hyl, hf⟩ := DataW.trod_struct Try.underlying55 h
  rw [cells55] at hlen
  have hyl5 : ys.length = 5 := hyl
  match cs, hlen with
  | [u0, u1, u2, u3, u4], _ =>
    match ys, hyl5 with
    | [y0, y1, y2, y3, y4], _ =>
      have h0 : DataW.trod enc Try.prog W 0 sp true m 3 (([u0, u1, u2, u3, u4].drop 0).take (Try.prog.cellsOf 3)) = some y0 := hf 0 _ rfl
      have h1 : DataW.trod enc Try.prog W 0 sp true m 3 (([u0, u1, u2, u3, u4].drop 1).take (Try.prog.cellsOf 3)) = some y1 := hf 1 _ rfl
      have h2 : DataW.trod enc Try.prog W 0 sp true m 3 (([u0, u1, u2, u3, u4].drop 2).take (Try.prog.cellsOf 3)) = some y2 := hf 2 _ rfl
      have h3 : DataW.trod enc Try.prog W 0 sp true m 3 (([u0, u1, u2, u3, u4].drop 3).take (Try.prog.cellsOf 3)) = some y3 := hf 3 _ rfl
      have h4 : DataW.trod enc Try.prog W 0 sp true m 3 (([u0, u1, u2, u3, u4].drop 4).take (Try.prog.cellsOf 3)) = some y4 := hf 4 _ rfl
      rw [cells3'] at h0 h1 h2 h3 h4
      simp only [List.drop_zero, List.drop_succ_cons, List.take_succ_cons, List.take_zero] at h0 h1 h2 h3 h4
      obtain ⟨a, ha, _⟩ := DataW.trod_int Try.underlying3 h0
      obtain ⟨b, hb, _⟩ := DataW.trod_int Try.underlying3 h1
      obtain ⟨c, hc, _⟩ := DataW.trod_int Try.underlying3 h2
      obtain ⟨d, hd, _⟩ := DataW.trod_int Try.underlying3 h3
      obtain ⟨e, he, _⟩ := DataW.trod_int Try.underlying3 h4
      simp at ha hb hc hd he
      refine ⟨⟨a, b, c, d, e⟩, by simp [eSp, ha, hb, hc, hd, he], ?_⟩
      have h6 := bulks.length_le ([y0, y1, y2, y3, y4].map (·.1))
      simp only [Rows.uptoBulk, List.length_map, List.length_cons, List.length_nil] at h6 ⊢
      omega
set_option maxRecDepth 100000 in
theorem came22 {base : Nat} {v : Value} {d : DataW H} {p : List MemPlace} (hv : Value.okWide Try.prog W .any base 22 v)
    (h : DataW.Trod enc Try.prog W 0 sp true 22 v d p) (hk : Rows.uptoBulk d ≤ 1048576) :
    ∃ (A : Option Addr) (c : Nat) (l : List Sp), v = .slice A l.length c ∧ RowAt W W.heap.size 5 eSp A l ∧ l.length ≤ 100000000 := by
  obtain ⟨a, len, cap, rfl⟩ := okWide_slice Try.underlying22 hv
  obtain ⟨fuel, h⟩ := h
  obtain ⟨A, l, c, e, r, _, _, q1, q2⟩ := open_row2 (x := (d, p)) Try.underlying22 cells55 (by decide) eSp (fun _ b => 2 ≤ b) (fun y b hy => hy) elem55 h
  refine ⟨A, c, l, e, r, ?_⟩
  have hk' : Rows.uptoBulk (d, p).1 ≤ 1048576 := hk
  omega
end
end Go.Proofs.Ytfbeggdbjpmppaa
