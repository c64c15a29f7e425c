/- TnDa Laid MsW MsOwn78, joined. -/
import Derived.Test.YtcffhfcjfjfokaaSu10
import Derived.Test.YtcffhfcjfjfokaaSu14
import Derived.Test.YtcffhfcjfjfokaaSu15
set_option linter.unusedVariables false
set_option linter.unusedSimpArgs false
namespace Go.Proofs.Ytcffhfcjfjfokaa
open Go Go.RowKit
structure OwnDs (w : World) (base : Nat) (B : Option Addr) (c : Nat) (rs : List Dr) : Prop where
  own : Owns w base 113 4 eDr B c rs
  each : ∀ r ∈ rs, Owns w base 5 1 eByte r.B r.c r.d.body
  dis : rs.Pairwise fun a b => ∀ k, blk a.B = some k → blk b.B ≠ some k
theorem OwnDs.base {w : World} {base base' c : Nat} {B : Option Addr} {rs : List Dr} (h : OwnDs w base B c rs) (hb : base' ≤ base) : OwnDs w base' B c rs := ⟨h.own.base hb, fun r hr => (h.each r hr).base hb, h.dis⟩
theorem OwnDs.below {w w' : World} {base c : Nat} {B : Option Addr} {rs : List Dr} (h : OwnDs w base B c rs) (hb : Below w.heap.size w w') : OwnDs w' base B c rs := ⟨h.own.keep hb fun k hk => (h.own.lo k hk).2, fun r hr => (h.each r hr).keep hb fun k hk => ((h.each r hr).lo k hk).2, h.dis⟩
theorem OwnDs.dts {w : World} {base c : Nat} {B : Option Addr} {rs : List Dr} (h : OwnDs w base B c rs) : Dts w w.heap.size B (rs.map Dr.d) :=
  ⟨rs, rfl, h.own.row len_eDr, fun r hr => ⟨(h.each r hr).row len_eByte, (h.each r hr).len.1, (h.each r hr).len.2⟩⟩
theorem OwnDs.past {β : Type} {W0 W1 W2 W3 : World} {base base' sz' c c' hb : Nat} {e' : TypeId} {enc' : β → List Value} {B A' : Option Addr} {l' : List β} {rs : List Dr} (h : OwnDs W0 base B c rs) (hb1 : Below W0.heap.size W0 W1) (ho : Owns W1 base' e' sz' enc' A' c' l') (n1 : 113 ≠ e') (n2 : 5 ≠ e') (hg : W1.grownBy W2 (blk A')) (g3 : W2.grownBy W3 (some hb)) (hz : hb < base) : OwnDs W3 base B c rs :=
  ⟨h.own.past hb1 ho n1 hg g3 hz, fun r hr => (h.each r hr).past hb1 ho n2 hg g3 hz, h.dis⟩
theorem ownDs_apart {W : World} {base c i : Nat} {B : Option Addr} {rs : List Dr} {r s : Dr} (O : OwnDs W base B c rs) (hr : rs[i]? = some r) (hs : s ∈ rs.take i) : ∀ q, blk s.B = some q → blk r.B ≠ some q := by
  obtain ⟨j, hj⟩ := List.mem_iff_getElem?.1 hs
  have hjl := (List.getElem?_eq_some_iff.1 hj).1
  rw [List.length_take] at hjl
  rw [List.getElem?_take_of_lt (by omega)] at hj
  have hi := (List.getElem?_eq_some_iff.1 hr)
  have hj' := (List.getElem?_eq_some_iff.1 hj)
  have := List.pairwise_iff_getElem.1 O.dis j i hj'.1 hi.1 (by omega)
  rw [hj'.2, hi.2] at this
  exact this
structure DL where
  k : Nat
  L : Option Addr
  cL : Nat
  F : List Nat
def daX (x : BX) (rs : List Dr) (u : DL) : BX := { x with y := { x.y with L := u.L, cL := u.cL, P := x.y.P ++ (rs.take u.k).map bodyR } }
structure DLi (w : World) (base hb : Nat) (F K : List Nat) (x : BX) (t : WX) (B : Option Addr) (cB : Nat) (rs : List Dr) (u : DL) (W : World) : Prop where
  k : u.k ≤ rs.length
  f : Fh hb F w W
  a : ∀ q ∈ F, q ∈ u.F
  b : ∀ q ∈ u.F, q ∈ F ∨ w.heap.size ≤ q
  T : Tn W base hb u.F K (daX x rs u) t
  O : OwnDs W base B cB rs
set_option maxRecDepth 100000 in
set_option maxHeartbeats 4000000 in
theorem datas85_any {w : World} {base hb n : Nat} {F K : List Nat} {x : BX} {t : WX} (T : Tn w base hb F K x t) (Z : Sz x t n) (hn : n ≤ 1000000000) {B : Option Addr} {cB : Nat} {rs : List Dr} (O : OwnDs w base B cB rs) (hF : ∀ q, (blk B = some q ∨ ∃ r ∈ rs, blk r.B = some q) → q ∈ F ∧ q ∉ bkS x hb) (hrl : rs.length ≤ 1000) (hsz : ∀ r ∈ rs, r.d.body.length ≤ 1048576) {U : Option Addr} {cU : Nat} {ws : List Dr} (hw : WasD w (F ++ K) U ws) (he : ws.map Dr.d = rs.map Dr.d) :
    Calls Try.prog 85 #[.pointer (some ⟨hb, 0, none⟩), .slice B rs.length cB, .slice U ws.length cU] w fun e w' => e = .returned (.tuple #[]) ∧ Mo w base hb F K (n + rs.length + 1) w' := by
  have hly := Z.ly
  have hld := Z.ld
  have hnd := Z.nd
  have hz := T.B.hz
  refine calls_vc tab_ok Try.func85 rfl ?_
  repeat ((conv => whnf); first | (refine VCmp.tt (by omega) ?_) | (refine VCmp.ff (by omega) ?_) | (refine VIn.mk (IntWalk.i64_in _ (by omega)) ?_) | (refine VIdx.mk _ rfl (by omega) ?_) | (refine VIdx.mk 0 rfl (by omega) ?_))
  try (conv => whnf)
  refine VLoop.mk DL (fun u => [(0, .pointer (some ⟨hb, 0, none⟩)), (1, .slice B rs.length cB), (2, .slice U ws.length cU), (6, .int .i64 u.k)]) (DLi w base hb F K x t B cB rs) (fun u => rs.length - u.k) ⟨0, x.y.L, x.y.cL, F⟩ ⟨rfl, rfl, rfl, rfl, trivial⟩ ⟨Nat.zero_le _, Fh.refl _ _ _, fun q hq => hq, fun q hq => .inl hq, by unfold daX; dsimp only; rw [List.take_zero, List.map_nil, List.append_nil]; exact T, O⟩ ?_
  rintro ⟨k, L, cL, F1⟩ wr ⟨hk, f1, a1, b1, T1, O1⟩
  dsimp only at hk f1 a1 b1 T1 O1 ⊢
  have zw : w.heap.size ≤ wr.heap.size := Fx.size f1
  by_cases hkl : k < rs.length
  case pos =>
    obtain ⟨r, hri⟩ : ∃ r, rs[k]? = some r := ⟨_, List.getElem?_eq_getElem hkl⟩
    have hrm := List.mem_of_getElem? hri
    obtain ⟨gB, hgB, _⟩ := O1.own.cell len_eDr hri
    subst hgB
    have hsP : (x.y.P ++ (rs.take k).map bodyR).length = x.y.P.length + k := by rw [List.length_append, List.length_map, List.length_take]; omega
    repeat ((conv => whnf); first | (refine VCmp.tt (by omega) ?_) | (refine VCmp.ff (by omega) ?_) | (refine VIn.mk (IntWalk.i64_in _ (by omega)) ?_) | (refine VIdx.mk _ rfl (by omega) ?_) | (refine VIdx.mk 0 rfl (by omega) ?_))
    try (conv => whnf)
    -- kind y
    have bd : Below wr.heap.size wr wr.drew := (Below.refl _ _).drew
    have Td := T1.below bd
    have hbz := Td.B.z
    have Od := O1.own.keep bd fun k hk => (O1.own.lo k hk).2
    obtain ⟨g', e', hcB⟩ := Od.cell len_eDr hri
    injection e' with e'
    injection e' with e'
    subst e'
    have L1 : Ld Try.prog 51 hb 0 (D2 hb gB 0 (k * 4 + 3) (.slice L (x.y.P ++ (rs.take k).map bodyR).length cL) (.slice r.B r.d.body.length r.c)) (.slice L (x.y.P ++ (rs.take k).map bodyR).length cL) := ⟨fun W hW => load_cell (by kernel_rfl) hW.1⟩
    have L2 : Ld Try.prog 52 gB (0 + k * 4 + 3) (D2 hb gB 0 (k * 4 + 3) (.slice L (x.y.P ++ (rs.take k).map bodyR).length cL) (.slice r.B r.d.body.length r.c)) (.slice r.B r.d.body.length r.c) := ⟨fun W hW => by rw [Nat.zero_add]; exact load_cell (by kernel_rfl) hW.2⟩
    have hCd : D2 hb gB 0 (k * 4 + 3) (.slice L (x.y.P ++ (rs.take k).map bodyR).length cL) (.slice r.B r.d.body.length r.c) wr.drew := ⟨Td.B.r 0 _ rfl, hcB 3 _ rfl⟩
    have gBlo := O1.own.lo gB rfl
    refine VDraw.mk 14 [([0, 1, 2, 3, 4, 5, 6, 7, 8, 9], 10), ([], 11), ([12, 13], 14)] [] (D2 hb gB 0 (k * 4 + 3) (.slice L (x.y.P ++ (rs.take k).map bodyR).length cL) (.slice r.B r.d.body.length r.c)) (by kernel_rfl) (by kernel_rfl) (hCd) ?_
    repeat ((conv => whnf); first | (refine VLoad.mk _ L1 ?_) | (refine VLoad.mk _ L2 ?_) | (refine VCmp.tt (by omega) ?_) | (refine VCmp.ff (by omega) ?_) | (refine VIn.mk (IntWalk.i64_in _ (by omega)) ?_) | (refine VIdx.mk _ rfl (by omega) ?_) | (refine VIdx.mk 0 rfl (by omega) ?_))
    try (conv => whnf)
    refine VBs.mk _ _ (bs51 wr.drew r.B r.d.body.length r.c) ?_
    have c1 : Below wr.drew.heap.size wr.drew (wr.drew.alloc (.cells #[.slice r.B r.d.body.length r.c] 52)) := (Below.refl _ _).alloc (Nat.le_refl _) _
    have hr1 := row_new wr.drew 52 1 eTr (rowT (bodyR r)) #[.slice r.B r.d.body.length r.c] rfl
    have zd : wr.drew.heap.size = wr.heap.size := rfl
    generalize wr.drew.alloc (.cells #[.slice r.B r.d.body.length r.c] 52) = w1 at c1 hr1 ⊢
    have z1 := c1.size
    have hl1 := Td.B.y.l.keep c1 fun k hk => (Td.B.y.l.lo k hk).2
    have hC1 : D2 hb gB 0 (k * 4 + 3) (.slice L (x.y.P ++ (rs.take k).map bodyR).length cL) (.slice r.B r.d.body.length r.c) w1 := ⟨(c1.cell (p := ⟨hb, 0, none⟩) (by show hb < _; omega)).trans hCd.1, (c1.cell (p := ⟨gB, k * 4 + 3, none⟩) (by show gB < _; omega)).trans hCd.2⟩
    repeat ((conv => whnf); first | (refine VS.mk hC1 ?_) | (refine VCmp.tt (by omega) ?_) | (refine VCmp.ff (by omega) ?_) | (refine VIn.mk (IntWalk.i64_in _ (by omega)) ?_) | (refine VIdx.mk _ rfl (by omega) ?_) | (refine VIdx.mk 0 rfl (by omega) ?_))
    try (conv => whnf)
    refine VApp.rows base 1 24 _ Try.underlying51 info52z rfl (by decide) eTr len_eTr one_eTr ((x.y.P ++ (rs.take k).map bodyR).map rowT) [rowT (bodyR r)] (by rw [List.length_map]) rfl hl1 hr1 (by omega) (by omega) (by omega) fun Ls cLs w2 ho2 hg2 hk2 => ?_
    have hs2 : ∀ q, q < wr.heap.size → blk L ≠ some q → w2.heap[q]? = wr.heap[q]? := fun q h1 h2 => (hg2.block q (by omega) (fun e => h2 e.symm)).trans (c1.block q (by omega))
    have hne : blk L ≠ some gB := fun e => by
      rcases Td.B.y.l.ne Od (by decide) with e1 | e1
      · exact absurd (e1.symm.trans e) (by simp)
      · exact e1 e
    have hnb : blk L ≠ some hb := fun e => by have := (Td.B.y.l.lo hb e).1; omega
    have hC2 : D2 hb gB 0 (k * 4 + 3) (.slice L (x.y.P ++ (rs.take k).map bodyR).length cL) (.slice r.B r.d.body.length r.c) w2 := ⟨(World.cell?_of_block (a := ⟨hb, 0, none⟩) (hs2 hb (by omega) hnb)).trans hCd.1, (World.cell?_of_block (a := ⟨gB, k * 4 + 3, none⟩) (hs2 gB gBlo.2 hne)).trans hCd.2⟩
    have t2 := there_same T1.B.t (hs2 hb (by omega) hnb)
    repeat ((conv => whnf); first | (refine VS.mk hC2 ?_) | (refine VCmp.tt (by omega) ?_) | (refine VCmp.ff (by omega) ?_) | (refine VIn.mk (IntWalk.i64_in _ (by omega)) ?_) | (refine VIdx.mk _ rfl (by omega) ?_) | (refine VIdx.mk 0 rfl (by omega) ?_))
    try (conv => whnf)
    refine VStore.cell (by kernel_rfl) (t2 0 (by omega)).1 (t2 0 (by omega)).2 rfl rfl fun w3 hw3 => ?_
    have g3 : w2.grownBy w3 (some hb) := by rw [hw3.out]; exact grown_cell _ _ _ _
    have bd1 : Below wr.heap.size wr w1 := bd.trans c1
    obtain ⟨F3, f3, i3, j3, T3⟩ := Td.push_y (r := bodyR r) c1 ((O1.each r hrm).keep bd fun k hk => ((O1.each r hrm).lo k hk).2) (fun q hq => by
      have h2 : blk r.B = some q := hq
      exact a1 q (hF q (.inr ⟨r, hrm, h2⟩)).1) (fun y hy q h1 h2 => by
      rcases List.mem_append.1 hy with hy | hy
      · have h2 : blk r.B = some q := h2
        exact (hF q (.inr ⟨r, hrm, h2⟩)).2 (bkS_y (kxS_P hy h1))
      · obtain ⟨s, hs, rfl⟩ := List.mem_map.1 hy
        exact ownDs_apart O1 hri hs q h1 h2) rfl ho2 hg2 hk2 hw3.out
    have O3 := O1.past bd1 hl1 (by decide) (by decide) hg2 g3 hz
    repeat ((conv => whnf); first | (refine VS.last rfl ?_) | (refine VCmp.tt (by omega) ?_) | (refine VCmp.ff (by omega) ?_) | (refine VIn.mk (IntWalk.i64_in _ (by omega)) ?_) | (refine VIdx.mk _ rfl (by omega) ?_) | (refine VIdx.mk 0 rfl (by omega) ?_))
    try (conv => whnf)
    obtain ⟨f15, i15, j15⟩ := fh2 f1 ((Fh.below (hb := hb) (F := F1) ((Below.refl wr.heap.size wr).drew)).trans f3 fun q hq => .inl hq) a1 i3 b1 (fun q hq => j3 q hq)
    refine .mk ⟨k + 1, Ls, cLs, F3⟩ ⟨rfl, rfl, rfl, rfl, trivial⟩ ⟨hkl, f15, i15, j15, ?_, O3⟩ (by show _ - (k + 1) < _ - k; omega)
    unfold daX
    dsimp only
    rw [← mapTake hri, ← List.append_assoc]
    exact T3
  case neg =>
    have hke : k = rs.length := by omega
    subst hke
    -- region: rows of kind K get one more
    have L1 : Ld Try.prog 102 hb 8 (Eq wr) (.slice x.d.L x.d.P.length x.d.cL) := .of (load_cell (by kernel_rfl) (T1.B.r 8 _ rfl))
    repeat ((conv => whnf); first | (refine VLoad.mk _ L1 ?_) | (refine VCmp.tt (by omega) ?_) | (refine VCmp.ff (by omega) ?_) | (refine VIn.mk (IntWalk.i64_in _ (by omega)) ?_) | (refine VIdx.mk _ rfl (by omega) ?_) | (refine VIdx.mk 0 rfl (by omega) ?_))
    try (conv => whnf)
    refine VBs.mk _ _ (bs102 wr (⟨B, cB, rs⟩ : RowX Dr).A (⟨B, cB, rs⟩ : RowX Dr).l.length (⟨B, cB, rs⟩ : RowX Dr).c) ?_
    have c1 : Below wr.heap.size wr (wr.alloc (.cells #[.slice (⟨B, cB, rs⟩ : RowX Dr).A (⟨B, cB, rs⟩ : RowX Dr).l.length (⟨B, cB, rs⟩ : RowX Dr).c] 40)) := (Below.refl _ _).alloc (Nat.le_refl _) _
    have hr1 := row_new wr 40 1 eTr (rowT (⟨B, cB, rs⟩ : RowX Dr)) #[.slice (⟨B, cB, rs⟩ : RowX Dr).A (⟨B, cB, rs⟩ : RowX Dr).l.length (⟨B, cB, rs⟩ : RowX Dr).c] rfl
    generalize wr.alloc (.cells #[.slice (⟨B, cB, rs⟩ : RowX Dr).A (⟨B, cB, rs⟩ : RowX Dr).l.length (⟨B, cB, rs⟩ : RowX Dr).c] 40) = w1 at c1 hr1 ⊢
    have z1 := c1.size
    have hz := T1.B.hz
    have hbz := T1.B.z
    have hl1 := T1.B.d.l.keep c1 fun k hk => (T1.B.d.l.lo k hk).2
    repeat ((conv => whnf); first | (refine VCmp.tt (by omega) ?_) | (refine VCmp.ff (by omega) ?_) | (refine VIn.mk (IntWalk.i64_in _ (by omega)) ?_) | (refine VIdx.mk _ rfl (by omega) ?_) | (refine VIdx.mk 0 rfl (by omega) ?_))
    try (conv => whnf)
    refine VApp.rows base 1 24 _ Try.underlying102 info40z rfl (by decide) eTr len_eTr one_eTr (x.d.P.map rowT) [rowT (⟨B, cB, rs⟩ : RowX Dr)] (by rw [List.length_map]) rfl hl1 hr1 (by omega) (by omega) (by omega) fun L2 cL2 w2 ho2 hg2 hk2 => ?_
    have hs2 : w2.heap[hb]? = wr.heap[hb]? := (hg2.block hb (by omega) (fun e => by have := (hl1.lo hb e.symm).1; omega)).trans (c1.block hb (by omega))
    have t2 := there_same T1.B.t hs2
    repeat ((conv => whnf); first | (refine VCmp.tt (by omega) ?_) | (refine VCmp.ff (by omega) ?_) | (refine VIn.mk (IntWalk.i64_in _ (by omega)) ?_) | (refine VIdx.mk _ rfl (by omega) ?_) | (refine VIdx.mk 0 rfl (by omega) ?_))
    try (conv => whnf)
    refine VStore.cell (by kernel_rfl) (t2 8 (by omega)).1 (t2 8 (by omega)).2 rfl rfl fun w3 hw3 => ?_
    obtain ⟨F3, f3, i3, j3, T3⟩ := T1.push_d (r := ⟨B, cB, rs⟩) (fun y hy => by
      unfold daX
      dsimp only
      rw [List.take_length]
      exact List.mem_append.2 (.inr (List.mem_map.2 ⟨y, hy, rfl⟩))) c1 O1.own (fun q hq => a1 q (hF q (.inl hq)).1) (fun y hy q h1 h2 => (hF q (.inl h2)).2 (bkS_d (kxS_P hy h1))) rfl ho2 hg2 hk2 hw3.out
    have hw1 : WasD wr (F1 ++ K) U ws := (hw.more (moreK b1)).fx f1 (fun q hq => List.mem_append.2 (.inl (a1 q (List.mem_filter.1 hq).1)))
    have hw3' : WasD w3 (F3 ++ K) U ws := (hw1.more (moreK j3)).fx f3 (fun q hq => List.mem_append.2 (.inl (i3 q (List.mem_filter.1 hq).1)))
    clear hw3 t2 hs2 ho2 hg2 hk2 hl1 hr1 c1 L1 z1 hz hbz
    have hws : ws.length = rs.length := by have := congrArg List.length he; simpa using this
    -- region: what the document said gets one more
    have L1 : Ld Try.prog 102 hb 13 (Eq w3) (.slice t.WD t.dw.length t.cWD) := .of (load_cell (by kernel_rfl) (T3.B.r 13 _ rfl))
    repeat ((conv => whnf); first | (refine VLoad.mk _ L1 ?_) | (refine VCmp.tt (by omega) ?_) | (refine VCmp.ff (by omega) ?_) | (refine VIn.mk (IntWalk.i64_in _ (by omega)) ?_) | (refine VIdx.mk _ rfl (by omega) ?_) | (refine VIdx.mk 0 rfl (by omega) ?_))
    try (conv => whnf)
    refine VBs.mk _ _ (bs102 w3 U ws.length cU) ?_
    have c1 : Below w3.heap.size w3 (w3.alloc (.cells #[.slice U ws.length cU] 40)) := (Below.refl _ _).alloc (Nat.le_refl _) _
    have hr1 := row_new w3 40 1 eTr (U, ws.length, cU) #[.slice U ws.length cU] rfl
    generalize w3.alloc (.cells #[.slice U ws.length cU] 40) = w1 at c1 hr1 ⊢
    have z1 := c1.size
    have hz := T3.B.hz
    have hbz := T3.B.z
    have hl1 := T3.W.wd.keep c1 fun k hk => (T3.W.wd.lo k hk).2
    repeat ((conv => whnf); first | (refine VCmp.tt (by omega) ?_) | (refine VCmp.ff (by omega) ?_) | (refine VIn.mk (IntWalk.i64_in _ (by omega)) ?_) | (refine VIdx.mk _ rfl (by omega) ?_) | (refine VIdx.mk 0 rfl (by omega) ?_))
    try (conv => whnf)
    refine VApp.rows base 1 24 _ Try.underlying102 info40z rfl (by decide) eTr len_eTr one_eTr t.dw [(U, ws.length, cU)] rfl rfl hl1 hr1 (by omega) (by omega) (by omega) fun L2 cL2 w2 ho2 hg2 hk2 => ?_
    have hs2 : w2.heap[hb]? = w3.heap[hb]? := (hg2.block hb (by omega) (fun e => by have := (hl1.lo hb e.symm).1; omega)).trans (c1.block hb (by omega))
    have t2 := there_same T3.B.t hs2
    repeat ((conv => whnf); first | (refine VCmp.tt (by omega) ?_) | (refine VCmp.ff (by omega) ?_) | (refine VIn.mk (IntWalk.i64_in _ (by omega)) ?_) | (refine VIdx.mk _ rfl (by omega) ?_) | (refine VIdx.mk 0 rfl (by omega) ?_))
    try (conv => whnf)
    refine VStore.cell (by kernel_rfl) (t2 13 (by omega)).1 (t2 13 (by omega)).2 rfl rfl fun w4 hw3 => ?_
    obtain ⟨F4, f4, i4, j4, T4⟩ := T3.put_WD (u := (U, ws.length, cU)) (r := ⟨B, cB, rs⟩) (ws := ws) (by show (x.d.P ++ [_])[t.dw.length]? = _; rw [hnd, List.getElem?_append_right (Nat.le_refl _), Nat.sub_self]; rfl) hw3' he rfl c1 rfl ho2 hg2 hk2 hw3.out
    repeat ((conv => whnf); first | (refine VCmp.tt (by omega) ?_) | (refine VCmp.ff (by omega) ?_) | (refine VIn.mk (IntWalk.i64_in _ (by omega)) ?_) | (refine VIdx.mk _ rfl (by omega) ?_) | (refine VIdx.mk 0 rfl (by omega) ?_))
    try (conv => whnf)
    obtain ⟨f13, i13, j13⟩ := fh2 f1 f3 a1 i3 b1 j3
    obtain ⟨f14, i14, j14⟩ := fh2 f13 f4 i13 i4 j13 j4
    have hlen : ∀ {α : Type} (l : List α) (g : Dr → α) , (l ++ (rs.take rs.length).map g).length = l.length + rs.length := fun l g => by rw [List.take_length, List.length_append, List.length_map]
    refine .mk ⟨rfl, ⟨_, _, _, f14, i14, j14, T4, ⟨fun s hs => ?_, Z.bi, Z.bs, Z.bf, fun s hs => ?_, ?_, Nat.le_trans Z.li (by omega), Nat.le_trans Z.ls (by omega), Nat.le_trans Z.lf (by omega), ?_, Nat.le_trans Z.lp (by omega), Z.m, Z.nf, ?_, Z.np⟩⟩⟩
    · have hs : s ∈ x.y.P ++ (rs.take rs.length).map bodyR := hs
      rw [List.take_length] at hs
      rcases List.mem_append.1 hs with h1 | h1
      · exact Z.by' s h1
      · obtain ⟨y, hy, rfl⟩ := List.mem_map.1 h1; exact hsz y hy
    · have hs : s ∈ x.d.P ++ [⟨B, cB, rs⟩] := hs
      rcases List.mem_append.1 hs with h1 | h1
      · exact Z.bd s h1
      · obtain rfl := List.mem_singleton.1 h1; show rs.length ≤ _; omega
    · show (x.y.P ++ (rs.take rs.length).map bodyR).length ≤ _; rw [hlen]; omega
    · show (x.d.P ++ [_]).length ≤ _; rw [List.length_append]; show x.d.P.length + 1 ≤ _; omega
    · show (t.dw ++ [_]).length = (x.d.P ++ [_]).length; rw [List.length_append, List.length_append, hnd]; rfl
end Go.Proofs.Ytcffhfcjfjfokaa
namespace Go.Proofs.Ytcffhfcjfjfokaa
open Go Go.RowKit
theorem VSl.zero {A : Option Addr} {n c es : Nat} {K : Value → Prop} (hk : K (.slice A 0 c)) : VSl A n c es 0 0 K :=
  .mk 0 0 rfl rfl (Nat.le_refl _) (Nat.zero_le _) (by
    have e : (if c = 0 then A else A.map (·.add (0 * es))) = A := by
      split
      · rfl
      · cases A with
        | none => rfl
        | some a => simp [Addr.add]
    rw [e, Nat.sub_zero]; exact hk)
theorem flat_set {α : Type} {enc : α → List Value} {sz : Nat} (hsz : ∀ x, (enc x).length = sz) : ∀ (l : List α) (k j : Nat) (x x' : α) (v : Value), l[k]? = some x → enc x' = (enc x).set j v → j < sz → (l.set k x').flatMap enc = (l.flatMap enc).set (k * sz + j) v
  | [], k, j, x, x', v, h, _, _ => by simp at h
  | y :: l, 0, j, x, x', v, h, he, hj => by
    injection h with h; subst h
    rw [List.set_cons_zero, List.flatMap_cons, List.flatMap_cons, he, Nat.zero_mul, Nat.zero_add, List.set_append_left _ _ (by rw [hsz]; exact hj)]
  | y :: l, k + 1, j, x, x', v, h, he, hj => by
    rw [List.set_cons_succ, List.flatMap_cons, List.flatMap_cons, List.set_append_right _ _ (by rw [hsz, Nat.succ_mul]; omega), hsz, show (k + 1) * sz + j - sz = k * sz + j by rw [Nat.succ_mul]; omega]
    rw [flat_set hsz l k j x x' v (by simpa using h) he hj]
theorem Owns.field {α : Type} {w : World} {base g c k sz j : Nat} {e : TypeId} {enc : α → List Value} {l : List α} {x x' : α} {v : Value} (h : Owns w base e sz enc (some ⟨g, 0, none⟩) c l) (hsz : ∀ x, (enc x).length = sz) (hx : l[k]? = some x) (he : enc x' = (enc x).set j v) (hj : j < sz) : Owns (w.setCell ⟨g, k * sz + j, none⟩ v) base e sz enc (some ⟨g, 0, none⟩) c (l.set k x') := by
  have := (World.ownsRow.stored h (k * sz + j) v).1
  unfold Owns
  rw [List.length_set, flat_set hsz l k j x x' v hx he hj]
  exact this
end Go.Proofs.Ytcffhfcjfjfokaa
namespace Go.Proofs.Ytcffhfcjfjfokaa
open Go Go.RowKit
structure MsW (w : World) (base : Nat) (B : Option Addr) (c : Nat) (rs : List Dr) : Prop where
  own : Owns w base 113 4 eDr B c rs
  each : ∀ r ∈ rs, OwnW w base 5 1 eByte r.B r.c r.d.body
  dis : ∀ (k j : Nat) (x y : Dr), k ≠ j → rs[k]? = some x → rs[j]? = some y → ∀ q, bw x.B x.c = some q → bw y.B y.c ≠ some q
def mblks (B : Option Addr) (rs : List Dr) : List Nat := (blk B).toList ++ rs.flatMap fun r => (bw r.B r.c).toList
section
variable {w w' : World} {base c c' g : Nat} {B B' : Option Addr} {rs : List Dr} {r : Dr} {S : List Nat}
theorem mblks_B (h : blk B = some g) : g ∈ mblks B rs := List.mem_append.2 (.inl (by rw [h]; simp))
theorem mblks_X (hr : r ∈ rs) (h : bw r.B r.c = some g) : g ∈ mblks B rs := List.mem_append.2 (.inr (List.mem_flatMap.2 ⟨r, hr, by rw [h]; simp⟩))
theorem MsW.fx (h : MsW w base B c rs) (hf : Fx S w w') (hd : ∀ k ∈ mblks B rs, k ∉ S) : MsW w' base B c rs :=
  ⟨h.own.fx hf fun k hk => hd k (mblks_B hk), fun r hr => (h.each r hr).fx hf fun k hk => hd k (mblks_X hr hk), h.dis⟩
theorem MsW.below (h : MsW w base B c rs) (hb : Below w.heap.size w w') : MsW w' base B c rs := h.fx (S := []) (.below hb) fun _ _ => by simp
theorem MsW.lower {base' : Nat} (h : MsW w base B c rs) (hb : base' ≤ base) : MsW w base' B c rs := ⟨h.own.base hb, fun r hr => (h.each r hr).lower hb, h.dis⟩
theorem MsW.drs (h : MsW w base B c rs) : Drs w w.heap.size B rs := ⟨h.own.row len_eDr, fun r hr => ⟨(h.each r hr).row len_eByte, (h.each r hr).len, (h.each r hr).cap⟩⟩
theorem MsW.dts (h : MsW w base B c rs) : Dts w w.heap.size B (rs.map Dr.d) := ⟨rs, rfl, h.drs⟩
theorem MsW.push (h : MsW w base B c rs) (hz : base ≤ w.heap.size) (hf : Fx (blk B).toList w w') (hX : OwnW w' w.heap.size 5 1 eByte r.B r.c r.d.body) (ho : Owns w' base 113 4 eDr B' c' (rs ++ [r])) : MsW w' base B' c' (rs ++ [r]) := by
  have hold : ∀ x ∈ rs, OwnW w' base 5 1 eByte x.B x.c x.d.body := fun x hx =>
    (h.each x hx).fx hf fun k hk hm => (h.each x hx).neO h.own (by decide) k hk (by simpa [Option.mem_toList] using hm)
  have hget : ∀ k x, (rs ++ [r])[k]? = some x → (k < rs.length ∧ rs[k]? = some x) ∨ (k = rs.length ∧ x = r) := fun k x hx => by
    have hkl := (List.getElem?_eq_some_iff.1 hx).1
    rw [List.length_append] at hkl
    by_cases e : k < rs.length
    · rw [List.getElem?_append_left e] at hx; exact .inl ⟨e, hx⟩
    · have : k = rs.length := by simp at hkl; omega
      subst this
      rw [List.getElem?_append_right (Nat.le_refl _), Nat.sub_self] at hx
      injection hx with hx; exact .inr ⟨rfl, hx.symm⟩
  refine ⟨ho, fun x hx => ?_, fun k j x y hne hx hy => ?_⟩
  · rcases List.mem_append.1 hx with hx | hx
    · exact hold x hx
    · obtain rfl := List.mem_singleton.1 hx
      exact hX.lower hz
  · rcases hget k x hx with ⟨e1, e2⟩ | ⟨e1, rfl⟩ <;> rcases hget j y hy with ⟨e3, e4⟩ | ⟨e3, rfl⟩
    · exact h.dis k j x y hne e2 e4
    · have hm := List.mem_of_getElem? e2
      exact fun q h1 h2 => by have := ((h.each x hm).lo q h1).2; have := (hX.lo q h2).1; omega
    · have hm := List.mem_of_getElem? e4
      exact fun q h1 h2 => by have := ((h.each y hm).lo q h2).2; have := (hX.lo q h1).1; omega
    · omega
theorem MsW.put {i : Nat} {r' : Dr} (h : MsW w base B c rs) (hi : rs[i]? = some r) (hf : Fx ((blk B).toList ++ (bw r.B r.c).toList) w w') (ho : Owns w' base 113 4 eDr B c (rs.set i r'))
    (hX : OwnW w' base 5 1 eByte r'.B r'.c r'.d.body) (kX : ∀ k, bw r'.B r'.c = some k → bw r.B r.c = some k ∨ w.heap.size ≤ k) : MsW w' base B c (rs.set i r') := by
  have hil := (List.getElem?_eq_some_iff.1 hi).1
  have hrm := List.mem_of_getElem? hi
  have hS : ∀ k, k ∈ (blk B).toList ++ (bw r.B r.c).toList → blk B = some k ∨ bw r.B r.c = some k := fun k hk => by
    rcases List.mem_append.1 hk with hk | hk
    · left; simpa [Option.mem_toList] using hk
    · right; simpa [Option.mem_toList] using hk
  have hget : ∀ k, (rs.set i r')[k]? = if k = i then some r' else rs[k]? := fun k => by
    by_cases e1 : k = i
    · subst e1; rw [List.getElem?_set_self hil, if_pos rfl]
    · rw [List.getElem?_set_ne (fun e2 => e1 e2.symm), if_neg e1]
  have hold : ∀ (k : Nat) (x : Dr), k ≠ i → rs[k]? = some x → OwnW w' base 5 1 eByte x.B x.c x.d.body := fun k x hne hx => by
    have hm := List.mem_of_getElem? hx
    refine (h.each x hm).fx hf fun q hq hm' => ?_
    rcases hS q hm' with e | e
    · exact (h.each x hm).neO h.own (by decide) q hq e
    · exact h.dis k i x r hne hx hi q hq e
  refine ⟨ho, fun x hx => ?_, fun k j x y hne hx hy => ?_⟩
  · obtain ⟨k, hk⟩ := List.mem_iff_getElem?.1 hx
    rw [hget] at hk
    split at hk
    · injection hk with hk; subst hk; exact hX
    · rename_i hne; exact hold k x hne hk
  · rw [hget] at hx hy
    split at hx <;> split at hy
    · omega
    · rename_i e1 e2
      injection hx with hx; subst hx
      have hm := List.mem_of_getElem? hy
      intro q h1 h2
      rcases kX q h1 with e | e
      · exact h.dis j i y r e2 hy hi q h2 e
      · have := ((h.each y hm).lo q h2).2; omega
    · rename_i e1 e2
      injection hy with hy; subst hy
      have hm := List.mem_of_getElem? hx
      intro q h1 h2
      rcases kX q h2 with e | e
      · exact h.dis k i x r e1 hx hi q h1 e
      · have := ((h.each x hm).lo q h1).2; omega
    · exact h.dis k j x y hne hx hy
end
structure DWo (w : World) (ds : List Dt) (x : DS) (W : World) : Prop where
  k : x.k ≤ ds.length
  e : x.al.map Dr.d = ds.take x.k
  own : MsW W w.heap.size x.A x.c x.al
  b : Below w.heap.size w W
set_option maxRecDepth 100000 in
theorem datas_w (A : Option Addr) (cA N : Nat) (rs : List Dr) (w : World) (hN : N ≤ w.heap.size) (hA : Drs w N A rs) (hsm : SmallD (rs.map Dr.d)) :
    Calls Try.prog 18 #[.slice A rs.length cA] w fun x w' => (∃ B c al, x = .returned (.slice B rs.length c) ∧ al.map Dr.d = rs.map Dr.d ∧ MsW w' w.heap.size B c al) ∧ Below w.heap.size w w' := by
  have hl : rs.length ≤ 1048576 := by have := hsm.1; rwa [List.length_map] at this
  refine calls_vc tab_ok Try.func18 rfl ?_
  repeat ((conv => whnf); first | (refine VCmp.tt (by omega) ?_) | (refine VCmp.ff (by omega) ?_) | (refine VIn.mk (IntWalk.i64_in _ (by omega)) ?_) | (refine VIdx.mk _ rfl (by omega) ?_) | (refine VIdx.mk 0 rfl (by omega) ?_))
  try (conv => whnf)
  refine VBs.mk _ _ (bs40z w) ?_
  have hb0 : Below w.heap.size w (w.alloc (.cells #[] 113)) := (Below.refl _ _).alloc (Nat.le_refl _) _
  have hx : ∀ W, Below w.heap.size w W → Drs W N A rs := fun W hW => ⟨hA.row.below hW hN, fun r h1 => (hA.each r h1).below hW hN⟩
  repeat ((conv => whnf); first | (refine VCmp.tt (by omega) ?_) | (refine VCmp.ff (by omega) ?_) | (refine VIn.mk (IntWalk.i64_in _ (by omega)) ?_) | (refine VIdx.mk _ rfl (by omega) ?_) | (refine VIdx.mk 0 rfl (by omega) ?_))
  try (conv => whnf)
  refine VLoop.mk DS (fun x => [(0, .slice A rs.length cA), (3, .slice x.A x.al.length x.c), (4, .int .i64 x.k)]) (DWo w (rs.map Dr.d)) (fun x => rs.length - x.k) ⟨0, some ⟨w.heap.size, 0, none⟩, 0, []⟩ ⟨rfl, rfl, rfl, trivial⟩ ⟨Nat.zero_le _, by simp, ⟨owns_empty _ _ _ _ _ (Nat.le_refl _), fun r hr => (by cases hr), fun k j x y _ hx => (by simp at hx)⟩, hb0⟩ ?_
  rintro ⟨k, B, c, al⟩ wr ⟨hk, he, hown, br⟩
  dsimp only at hk he hown ⊢
  rw [List.length_map] at hk
  have hal : al.length = k := by have := congrArg List.length he; rw [List.length_map, List.length_take, List.length_map] at this; omega
  have hbz := br.size
  by_cases hkl : k < rs.length
  case neg =>
    repeat ((conv => whnf); first | (refine VCmp.tt (by omega) ?_) | (refine VCmp.ff (by omega) ?_) | (refine VIn.mk (IntWalk.i64_in _ (by omega)) ?_) | (refine VIdx.mk _ rfl (by omega) ?_) | (refine VIdx.mk 0 rfl (by omega) ?_))
    try (conv => whnf)
    have hke : k = rs.length := by omega
    exact .mk ⟨⟨B, c, al, by rw [← hke, ← hal]; rfl, by rw [he, hke, ← List.length_map (f := Dr.d), List.take_length], hown⟩, br⟩
  obtain ⟨bA, oR, rfl, hbA2, hrow⟩ := (hx _ br).row (by omega)
  have hrk : rs[k]? = some rs[k] := List.getElem?_eq_getElem hkl
  have hmem : rs[k] ∈ rs := List.getElem_mem _
  generalize rs[k] = r at hrk hmem
  have hdk : (rs.map Dr.d)[k]? = some r.d := by rw [List.getElem?_map, hrk]; rfl
  have hbl := hsm.2 r.d (List.mem_map.2 ⟨r, hmem, rfl⟩)
  have Lr : Ld Try.prog 113 bA (oR + k * 4) (Eq wr) (.agg (drA r)) := .of (load113 (fun j u hu => hrow k r hrk j u hu))
  repeat ((conv => whnf); first | (refine VLoad.mk _ Lr ?_) | (refine VCmp.tt (by omega) ?_) | (refine VCmp.ff (by omega) ?_) | (refine VIn.mk (IntWalk.i64_in _ (by omega)) ?_) | (refine VIdx.mk _ rfl (by omega) ?_) | (refine VIdx.mk 0 rfl (by omega) ?_))
  try (conv => whnf)
  refine .mk _ run_zero113 ?_
  conv => whnf
  refine .mk fun x3 hx3 => ?_
  repeat ((conv => whnf); first | (refine VCmp.tt (by omega) ?_) | (refine VCmp.ff (by omega) ?_) | (refine VIn.mk (IntWalk.i64_in _ (by omega)) ?_) | (refine VIdx.mk _ rfl (by omega) ?_) | (refine VIdx.mk 0 rfl (by omega) ?_))
  try (conv => whnf)
  refine VStore.new hx3 (by kernel_rfl) rfl (one_drA r) fun x4 hx4 => ?_
  have c4 : Below wr.heap.size wr x4 := by rw [hx4.out]; exact (Below.refl _ _).alloc (Nat.le_refl _) _
  have z4 : x4.heap.size = wr.heap.size + 1 := by rw [hx4.out]; simp
  have r4 : x4.rangeAt wr.heap.size 0 (eDr r) := by rw [hx4.out]; exact range_new wr (drA r) 113
  have t4 : x4.there wr.heap.size 0 4 := by rw [hx4.out]; exact there_new wr (drA r) 113
  repeat ((conv => whnf); first | (refine VCmp.tt (by omega) ?_) | (refine VCmp.ff (by omega) ?_) | (refine VIn.mk (IntWalk.i64_in _ (by omega)) ?_) | (refine VIdx.mk _ rfl (by omega) ?_) | (refine VIdx.mk 0 rfl (by omega) ?_))
  try (conv => whnf)
  refine VBs.mk _ _ (bs52z x4) ?_
  have c5 : Below x4.heap.size x4 (x4.alloc (.cells #[] 5)) := (Below.refl _ _).alloc (Nat.le_refl _) _
  have z5 : (x4.alloc (.cells #[] 5)).heap.size = x4.heap.size + 1 := by simp
  have ho5 : Owns (x4.alloc (.cells #[] 5)) x4.heap.size 5 1 eByte (some ⟨x4.heap.size, 0, none⟩) 0 ([] : List Int) := owns_empty _ _ _ _ _ (Nat.le_refl _)
  have r5 : (x4.alloc (.cells #[] 5)).rangeAt wr.heap.size 0 (eDr r) := range_same r4 (c5.block _ (by omega))
  generalize x4.alloc (.cells #[] 5) = x5 at c5 z5 ho5 r5 ⊢
  have Ly : Ld Try.prog 52 wr.heap.size 3 (Eq x5) (.slice r.B r.d.body.length r.c) := .of (load52 (r5 3 _ rfl))
  have b5 : Below w.heap.size w x5 := br.trans ((c4.trans (c5.mono (by omega))).mono hbz)
  repeat ((conv => whnf); first | (refine VLoad.mk _ Ly ?_) | (refine VCmp.tt (by omega) ?_) | (refine VCmp.ff (by omega) ?_) | (refine VIn.mk (IntWalk.i64_in _ (by omega)) ?_) | (refine VIdx.mk _ rfl (by omega) ?_) | (refine VIdx.mk 0 rfl (by omega) ?_))
  try (conv => whnf)
  refine VApp.rows x4.heap.size 1 1 _ Try.underlying52 info5 rfl (by decide) eByte len_eByte one_eByte ([] : List Int) r.d.body rfl rfl ho5 ((hx _ b5).each r hmem).row (by omega) (by omega) (by omega) fun A1 c1 w1 ho1 hg1 hk1 => ?_
  have hc1 : Below x4.heap.size x4 w1 := c5.grown hg1 (by omega) (by intro q hq; simp [blk] at hq; omega)
  have r1 : w1.rangeAt wr.heap.size 0 (eDr r) := range_same r4 (hc1.block _ (by omega))
  have t1 : w1.there wr.heap.size 0 4 := there_same t4 (hc1.block _ (by omega))
  have zw1 := hc1.size
  repeat ((conv => whnf); first | (refine VCmp.tt (by omega) ?_) | (refine VCmp.ff (by omega) ?_) | (refine VIn.mk (IntWalk.i64_in _ (by omega)) ?_) | (refine VIdx.mk _ rfl (by omega) ?_) | (refine VIdx.mk 0 rfl (by omega) ?_))
  try (conv => whnf)
  refine VStore.cell (by kernel_rfl) (by rw [show addO 0 3 = 0 + 3 from rfl, r1 3 _ rfl]; rfl) (by rw [show addO 0 3 = 3 from rfl]; exact there_frozen t1 (by omega)) rfl rfl fun w2 hw2 => ?_
  have g2 : w1.grownBy w2 (some wr.heap.size) := by rw [hw2.out]; exact grown_cell _ _ _ _
  have m2 : w2.rangeAt wr.heap.size 0 (eDr ⟨r.d, A1, c1⟩) := by
    have := rng_put (o := 3) (vs := [.slice A1 r.d.body.length c1]) r1 t1 rfl (by simp)
    rw [show 0 + r.d.body.length = r.d.body.length by omega] at hw2
    rw [hw2.out]; exact this
  have c2 : Below wr.heap.size wr w2 := (c4.trans (hc1.mono (by omega))).grown g2 (by omega) (by intro q hq; injection hq with hq; omega)
  have ho2 : Owns w2 x4.heap.size 5 1 eByte A1 c1 r.d.body := (show Owns w1 x4.heap.size 5 1 eByte A1 c1 r.d.body from ho1).kept g2 (by
    cases e : blk A1 with
    | none => exact .inl rfl
    | some q => exact .inr (by intro e2; injection e2 with e2; have := (ho1.lo q e).1; omega))
  have Lm2 : Ld Try.prog 113 wr.heap.size 0 (Eq w2) (.agg (drA ⟨r.d, A1, c1⟩)) := .of (load113 m2)
  repeat ((conv => whnf); first | (refine VLoad.mk _ Lm2 ?_) | (refine VCmp.tt (by omega) ?_) | (refine VCmp.ff (by omega) ?_) | (refine VIn.mk (IntWalk.i64_in _ (by omega)) ?_) | (refine VIdx.mk _ rfl (by omega) ?_) | (refine VIdx.mk 0 rfl (by omega) ?_))
  try (conv => whnf)
  refine VBs.mk _ _ (bs40 w2 ⟨r.d, A1, c1⟩) ?_
  have hown2 := hown.own.keep c2 (fun q hq => (hown.own.lo q hq).2)
  have own3 := hown2.alloc (.cells (drA ⟨r.d, A1, c1⟩) 113)
  have z3 : (w2.alloc (.cells (drA ⟨r.d, A1, c1⟩) 113)).heap.size = w2.heap.size + 1 := by simp
  have zz2 := c2.size
  repeat ((conv => whnf); first | (refine VCmp.tt (by omega) ?_) | (refine VCmp.ff (by omega) ?_) | (refine VIn.mk (IntWalk.i64_in _ (by omega)) ?_) | (refine VIdx.mk _ rfl (by omega) ?_) | (refine VIdx.mk 0 rfl (by omega) ?_))
  try (conv => whnf)
  refine VApp.rows w.heap.size 4 48 _ Try.underlying40 info113 rfl (by decide) eDr len_eDr one_eDr al [⟨r.d, A1, c1⟩] rfl rfl own3 (row_new w2 113 4 eDr ⟨r.d, A1, c1⟩ (drA ⟨r.d, A1, c1⟩) rfl) (by omega) (by omega) (by omega) fun A' c' w4 ho hg hkk => ?_
  have f4 : Fx (blk B).toList wr w4 := Fx.trans (S := (blk B).toList) (.below (c2.alloc (by omega) (.cells (drA ⟨r.d, A1, c1⟩) 113))) (.grown hg fun q hq => by rw [hq]; simp) fun q hq => .inl hq
  have hb4 : OwnW w4 wr.heap.size 5 1 eByte A1 c1 r.d.body := ((OwnW.of (ho2.base (show wr.heap.size ≤ x4.heap.size by omega))).below ((Below.refl _ _).alloc (Nat.le_refl _) (.cells (drA ⟨r.d, A1, c1⟩) 113))).fx (S := (blk B).toList) (.grown hg fun q hq => by rw [hq]; simp) fun q hq hm => by
    have h1 := ((OwnW.of ho2).lo q hq).1
    have h2 := (hown.own.lo q (by simpa [Option.mem_toList] using hm)).2
    omega
  have own4 := hown.push (r := ⟨r.d, A1, c1⟩) hbz f4 hb4 ho
  have b4 : Below w.heap.size w w4 := ((br.trans (c2.mono hbz)).alloc (by omega) _).grown hg (by omega) (fun q hq => (own3.lo q hq).1)
  repeat ((conv => whnf); first | (refine VCmp.tt (by omega) ?_) | (refine VCmp.ff (by omega) ?_) | (refine VIn.mk (IntWalk.i64_in _ (by omega)) ?_) | (refine VIdx.mk _ rfl (by omega) ?_) | (refine VIdx.mk 0 rfl (by omega) ?_))
  try (conv => whnf)
  refine .mk ⟨k + 1, A', c', al ++ [⟨r.d, A1, c1⟩]⟩ ⟨rfl, by show some (Value.slice A' (al.length + 1) c') = _; rw [List.length_append]; rfl, rfl, trivial⟩ ⟨by show k + 1 ≤ _; rw [List.length_map]; omega, ?_, own4, b4⟩ (by show rs.length - (k + 1) < rs.length - k; omega)
  show (al ++ [_]).map Dr.d = _
  rw [List.map_append, he, List.take_add_one, hdk]; rfl
end Go.Proofs.Ytcffhfcjfjfokaa
namespace Go.Proofs.Ytcffhfcjfjfokaa
open Go Go.RowKit
theorem OwnDs.snoc {w w' : World} {base c c' : Nat} {B B' : Option Addr} {rs : List Dr} {r : Dr} (h : OwnDs w base B c rs) (hz : base ≤ w.heap.size) (hf : Fx (blk B).toList w w') (hX : Owns w' w.heap.size 5 1 eByte r.B r.c r.d.body) (ho : Owns w' base 113 4 eDr B' c' (rs ++ [r])) : OwnDs w' base B' c' (rs ++ [r]) := by
  refine ⟨ho, fun x hx => ?_, List.pairwise_append.2 ⟨h.dis, List.pairwise_singleton _ _, fun a ha b hb k h1 h2 => ?_⟩⟩
  · rcases List.mem_append.1 hx with hx | hx
    · refine (h.each x hx).fx hf fun k hk hm => ?_
      have hm : blk B = some k := by simpa [Option.mem_toList] using hm
      rcases (h.each x hx).ne h.own (by decide) with e | e
      · rw [hk] at e; cases e
      · exact e (hk.trans hm.symm)
    · obtain rfl := List.mem_singleton.1 hx
      exact hX.base hz
  · obtain rfl := List.mem_singleton.1 hb
    have := ((h.each a ha).lo k h1).2
    have := (hX.lo k h2).1
    omega
structure DWm (w : World) (ds : List Dt) (x : DS) (W : World) : Prop where
  k : x.k ≤ ds.length
  e : x.al.map Dr.d = ds.take x.k
  own : OwnDs W w.heap.size x.A x.c x.al
  b : Below w.heap.size w W
set_option maxRecDepth 100000 in
set_option maxHeartbeats 4000000 in
theorem messages_own {w : World} {F : List Nat} {b g : Nat} {s : Sto} {ks : List KpX} {Mp : Option Addr} {cM : Nat} {ms : List Dr} (h : StV w F b g 0 1 s ks Mp cM ms) :
    Calls Try.prog 78 #[.pointer (some ⟨b, 0, none⟩)] w fun x w' => (∃ B c rs, x = .returned (.slice B ms.length c) ∧ rs.map Dr.d = ms.map Dr.d ∧ OwnDs w' w.heap.size B c rs) ∧ Below w.heap.size w w' := by
  have hlen := h.lenM
  have hx : ∀ W, Below w.heap.size w W → RowAt W w.heap.size 4 eDr Mp ms ∧ ∀ r ∈ ms, RowAt W w.heap.size 1 eByte r.B r.d.body := fun W hW => ⟨h.mrow.row.below hW (Nat.le_refl _), fun r hr => (h.mS r hr).row.row.below hW (Nat.le_refl _)⟩
  have hcap : ∀ r ∈ ms, r.d.body.length ≤ 1048576 := fun r hr => by
    have := h.inv.each r.d (by rw [← h.mm]; exact List.mem_map.2 ⟨r, hr, rfl⟩)
    unfold dtB at this
    simp at this
    omega
  have L0 : Ld Try.prog 40 b 6 (Eq w) (.slice Mp ms.length cM) := .of (load40 h.cm)
  refine calls_vc tab_ok Try.func78 rfl ?_
  repeat ((conv => whnf); first | (refine VLoad.mk _ L0 ?_) | (refine VCmp.tt (by omega) ?_) | (refine VCmp.ff (by omega) ?_) | (refine VIn.mk (IntWalk.i64_in _ (by omega)) ?_) | (refine VIdx.mk _ rfl (by omega) ?_) | (refine VIdx.mk 0 rfl (by omega) ?_))
  try (conv => whnf)
  refine VLoop.mk DS (fun x => [(0, .pointer (some ⟨b, 0, none⟩)), (9, .slice Mp ms.length cM), (10, .int .i64 ms.length), (3, .slice x.A x.al.length x.c), (11, .int .i64 x.k)]) (DWm w (ms.map Dr.d)) (fun x => ms.length - x.k) ⟨0, none, 0, []⟩ ⟨rfl, rfl, rfl, rfl, rfl, trivial⟩ ⟨Nat.zero_le _, by simp, ⟨owns_nil _ _ _ _ _, fun r hr => (by cases hr), List.Pairwise.nil⟩, Below.refl _ _⟩ ?_
  rintro ⟨k, B, c, al⟩ wr ⟨hk, he, hown, br⟩
  dsimp only at hk he hown ⊢
  rw [List.length_map] at hk
  have hal : al.length = k := by have := congrArg List.length he; rw [List.length_map, List.length_take, List.length_map] at this; omega
  have hbz := br.size
  by_cases hkl : k < ms.length
  case neg =>
    repeat ((conv => whnf); first | (refine VCmp.tt (by omega) ?_) | (refine VCmp.ff (by omega) ?_) | (refine VIn.mk (IntWalk.i64_in _ (by omega)) ?_) | (refine VIdx.mk _ rfl (by omega) ?_) | (refine VIdx.mk 0 rfl (by omega) ?_))
    try (conv => whnf)
    have hke : k = ms.length := by omega
    exact .mk ⟨⟨B, c, al, by rw [← hke, ← hal]; rfl, by rw [he, hke, ← List.length_map (f := Dr.d), List.take_length], hown⟩, br⟩
  obtain ⟨bA, oR, rfl, hbA2, hrow⟩ := (hx _ br).1 (by omega)
  have hrk : ms[k]? = some ms[k] := List.getElem?_eq_getElem hkl
  have hmem : ms[k] ∈ ms := List.getElem_mem _
  generalize ms[k] = r at hrk hmem
  have hdk : (ms.map Dr.d)[k]? = some r.d := by rw [List.getElem?_map, hrk]; rfl
  have hbl := hcap r hmem
  have Lr : Ld Try.prog 113 bA (oR + k * 4) (Eq wr) (.agg (drA r)) := .of (load113 (fun j u hu => hrow k r hrk j u hu))
  repeat ((conv => whnf); first | (refine VLoad.mk _ Lr ?_) | (refine VCmp.tt (by omega) ?_) | (refine VCmp.ff (by omega) ?_) | (refine VIn.mk (IntWalk.i64_in _ (by omega)) ?_) | (refine VIdx.mk _ rfl (by omega) ?_) | (refine VIdx.mk 0 rfl (by omega) ?_))
  try (conv => whnf)
  refine .mk _ run_zero113 ?_
  conv => whnf
  refine .mk fun x3 hx3 => ?_
  repeat ((conv => whnf); first | (refine VCmp.tt (by omega) ?_) | (refine VCmp.ff (by omega) ?_) | (refine VIn.mk (IntWalk.i64_in _ (by omega)) ?_) | (refine VIdx.mk _ rfl (by omega) ?_) | (refine VIdx.mk 0 rfl (by omega) ?_))
  try (conv => whnf)
  refine VStore.new hx3 (by kernel_rfl) rfl (one_drA r) fun x4 hx4 => ?_
  have c4 : Below wr.heap.size wr x4 := by rw [hx4.out]; exact (Below.refl _ _).alloc (Nat.le_refl _) _
  have z4 : x4.heap.size = wr.heap.size + 1 := by rw [hx4.out]; simp
  have r4 : x4.rangeAt wr.heap.size 0 (eDr r) := by rw [hx4.out]; exact range_new wr (drA r) 113
  have t4 : x4.there wr.heap.size 0 4 := by rw [hx4.out]; exact there_new wr (drA r) 113
  clear hx4 hx3
  have Ly : Ld Try.prog 52 wr.heap.size 3 (Eq x4) (.slice r.B r.d.body.length r.c) := .of (load52 (r4 3 _ rfl))
  have b5 : Below w.heap.size w x4 := br.trans (c4.mono hbz)
  repeat ((conv => whnf); first | (refine VLoad.mk _ Ly ?_) | (refine VCmp.tt (by omega) ?_) | (refine VCmp.ff (by omega) ?_) | (refine VIn.mk (IntWalk.i64_in _ (by omega)) ?_) | (refine VIdx.mk _ rfl (by omega) ?_) | (refine VIdx.mk 0 rfl (by omega) ?_))
  try (conv => whnf)
  refine VApp.rows x4.heap.size 1 1 _ Try.underlying52 info5 rfl (by decide) eByte len_eByte one_eByte ([] : List Int) r.d.body rfl rfl (owns_nil _ _ _ _ _) ((hx _ b5).2 r hmem) (by omega) (by omega) (Nat.le_refl _) fun A1 c1 w1 ho1 hg1 hk1 => ?_
  have hc1 : Below x4.heap.size x4 w1 := (Below.refl _ _).grown hg1 (Nat.le_refl _) (fun k hk => by cases hk)
  rw [List.nil_append] at ho1
  have r1 : w1.rangeAt wr.heap.size 0 (eDr r) := range_same r4 (hc1.block _ (by omega))
  have t1 : w1.there wr.heap.size 0 4 := there_same t4 (hc1.block _ (by omega))
  have zw1 := hc1.size
  repeat ((conv => whnf); first | (refine VCmp.tt (by omega) ?_) | (refine VCmp.ff (by omega) ?_) | (refine VIn.mk (IntWalk.i64_in _ (by omega)) ?_) | (refine VIdx.mk _ rfl (by omega) ?_) | (refine VIdx.mk 0 rfl (by omega) ?_))
  try (conv => whnf)
  refine VStore.cell (by kernel_rfl) (by rw [show addO 0 3 = 0 + 3 from rfl, r1 3 _ rfl]; rfl) (by rw [show addO 0 3 = 3 from rfl]; exact there_frozen t1 (by omega)) rfl rfl fun w2 hw2 => ?_
  have g2 : w1.grownBy w2 (some wr.heap.size) := by rw [hw2.out]; exact grown_cell _ _ _ _
  have m2 : w2.rangeAt wr.heap.size 0 (eDr ⟨r.d, A1, c1⟩) := by
    have := rng_put (o := 3) (vs := [.slice A1 r.d.body.length c1]) r1 t1 rfl (by simp)
    rw [show 0 + r.d.body.length = r.d.body.length by omega] at hw2
    rw [hw2.out]; exact this
  have c2 : Below wr.heap.size wr w2 := (c4.trans (hc1.mono (by omega))).grown g2 (by omega) (by intro q hq; injection hq with hq; omega)
  have ho2 : Owns w2 x4.heap.size 5 1 eByte A1 c1 r.d.body := ho1.kept g2 (by
    cases e : blk A1 with
    | none => exact .inl rfl
    | some q => exact .inr (by intro e2; injection e2 with e2; have := (ho1.lo q e).1; omega))
  have Lm2 : Ld Try.prog 113 wr.heap.size 0 (Eq w2) (.agg (drA ⟨r.d, A1, c1⟩)) := .of (load113 m2)
  repeat ((conv => whnf); first | (refine VLoad.mk _ Lm2 ?_) | (refine VCmp.tt (by omega) ?_) | (refine VCmp.ff (by omega) ?_) | (refine VIn.mk (IntWalk.i64_in _ (by omega)) ?_) | (refine VIdx.mk _ rfl (by omega) ?_) | (refine VIdx.mk 0 rfl (by omega) ?_))
  try (conv => whnf)
  refine VBs.mk _ _ (bs40 w2 ⟨r.d, A1, c1⟩) ?_
  have hown2 := hown.own.keep c2 (fun q hq => (hown.own.lo q hq).2)
  have d3 : Below w2.heap.size w2 (w2.alloc (.cells (drA ⟨r.d, A1, c1⟩) 113)) := (Below.refl _ _).alloc (Nat.le_refl _) _
  have hr3 := row_new w2 113 4 eDr ⟨r.d, A1, c1⟩ (drA ⟨r.d, A1, c1⟩) rfl
  generalize w2.alloc (.cells (drA ⟨r.d, A1, c1⟩) 113) = w3 at d3 hr3 ⊢
  have own3 := hown2.keep d3 (fun q hq => (hown2.lo q hq).2)
  have ho3 := ho2.keep d3 (fun q hq => (ho2.lo q hq).2)
  have zz2 := c2.size
  have zz3 := d3.size
  repeat ((conv => whnf); first | (refine VCmp.tt (by omega) ?_) | (refine VCmp.ff (by omega) ?_) | (refine VIn.mk (IntWalk.i64_in _ (by omega)) ?_) | (refine VIdx.mk _ rfl (by omega) ?_) | (refine VIdx.mk 0 rfl (by omega) ?_))
  try (conv => whnf)
  refine VApp.rows w.heap.size 4 48 _ Try.underlying40 info113 rfl (by decide) eDr len_eDr one_eDr al [⟨r.d, A1, c1⟩] rfl rfl own3 hr3 (by omega) (by omega) (by omega) fun A' c' w4 ho hg hkk => ?_
  have f4 : Fx (blk B).toList wr w4 := Fx.trans (S := (blk B).toList) (.below (c2.trans (d3.mono zz2))) (.grown hg fun q hq => by rw [hq]; simp) fun q hq => .inl hq
  have hb4 : Owns w4 wr.heap.size 5 1 eByte A1 c1 r.d.body := ((ho3.base (show wr.heap.size ≤ x4.heap.size by omega))).fx (S := (blk B).toList) (.grown hg fun q hq => by rw [hq]; simp) fun q hq hm => by
    have h1 := (ho2.lo q hq).1
    have h2 := (hown.own.lo q (by simpa [Option.mem_toList] using hm)).2
    omega
  have own4 := hown.snoc (r := ⟨r.d, A1, c1⟩) hbz f4 hb4 ho
  have b4 : Below w.heap.size w w4 := (br.trans ((c2.trans (d3.mono zz2)).mono hbz)).grown hg (by omega) (fun q hq => (own3.lo q hq).1)
  repeat ((conv => whnf); first | (refine VCmp.tt (by omega) ?_) | (refine VCmp.ff (by omega) ?_) | (refine VIn.mk (IntWalk.i64_in _ (by omega)) ?_) | (refine VIdx.mk _ rfl (by omega) ?_) | (refine VIdx.mk 0 rfl (by omega) ?_))
  try (conv => whnf)
  refine .mk ⟨k + 1, A', c', al ++ [⟨r.d, A1, c1⟩]⟩ ⟨rfl, rfl, rfl, by show some (Value.slice A' (al.length + 1) c') = _; rw [List.length_append]; rfl, rfl, trivial⟩ ⟨by show k + 1 ≤ _; rw [List.length_map]; omega, ?_, own4, b4⟩ (by show ms.length - (k + 1) < ms.length - k; omega)
  show (al ++ [_]).map Dr.d = _
  rw [List.map_append, he, List.take_add_one, hdk]; rfl
end Go.Proofs.Ytcffhfcjfjfokaa
