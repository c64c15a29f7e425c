/- LentD Listed Rcut Maps Keys, joined. -/
import Derived.Maps.OwnOps
import Derived.DeepKeys4
import Derived.Test.YtcffhfcjfjfokaaSh3
import Derived.Test.YtcffhfcjfjfokaaSh5
import Derived.Test.YtcffhfcjfjfokaaSh13
import Derived.Test.YtcffhfcjfjfokaaSh14
set_option linter.unusedVariables false
set_option linter.unusedSimpArgs false
/- The law's lent lists of messages. -/
namespace Go.Proofs.Ytcffhfcjfjfokaa
open Go Go.RowKit
def LnB {α : Type} (x : LX α) (q : Nat) : Prop := blk x.L = some q ∨ ∃ r ∈ x.P, blk r.A = some q
section
variable {α : Type} {W W' : World} {base sz lb : Nat} {tl e : TypeId} {enc : α → List Value} {mk : Nat → α} {x : LX α} {S : List Nat}
theorem Ln.lo (h : Ln W base tl e sz enc mk x) {q : Nat} (hq : LnB x q) : base ≤ q ∧ q < W.heap.size := by
  rcases hq with e1 | ⟨r, hr, e1⟩
  · exact h.l.lo q e1
  · exact (h.o r hr).lo q e1
theorem Ln.fx (h : Ln W base tl e sz enc mk x) (hf : Fx S W W') (hS : ∀ q ∈ S, ¬ LnB x q) : Ln W' base tl e sz enc mk x :=
  ⟨h.l.fx hf fun q hq hm => hS q hm (.inl hq), fun r hr => (h.o r hr).fx hf fun q hq hm => hS q hm (.inr ⟨r, hr, hq⟩), h.m⟩
theorem Lt.fx {x : LtX} (h : Lt W base lb x) (hf : Fx S W W') (hS : ∀ q ∈ S, q ≠ lb ∧ ¬ LnB x.i q ∧ ¬ LnB x.y q ∧ ¬ LnB x.m q ∧ ¬ LnB x.d q) : Lt W' base lb x :=
  ⟨h.i.fx hf fun q hq => (hS q hq).2.1, h.y.fx hf fun q hq => (hS q hq).2.2.1, h.m.fx hf fun q hq => (hS q hq).2.2.2.1, h.d.fx hf fun q hq => (hS q hq).2.2.2.2,
    range_same h.r (hf.block lb (by have := h.hz; have := h.z; omega) fun hm => (hS lb hm).1 rfl), there_same h.t (hf.block lb (by have := h.hz; have := h.z; omega) fun hm => (hS lb hm).1 rfl), h.hz, Nat.le_trans h.z hf.size⟩
end
structure LD where
  k : Nat
  A : Option Addr
  c : Nat
  al : List Dr
  L : Option Addr
  cL : Nat
  R : List (RowX Int)
/-- A message whose bytes stand at the head of one of the rows. -/
def Hd (R : List (RowX Int)) (a : Dr) : Prop := ∃ r ∈ R, r.A = a.B ∧ r.c = a.c ∧ ∃ t, r.l = a.d.body ++ t
structure LDo (w : World) (base lb : Nat) (x : LtX) (ds : List Dt) (u : LD) (W : World) : Prop where
  k : u.k ≤ ds.length
  lt : Lt W base lb { x with y := ⟨u.L, u.cL, x.y.P ++ u.R⟩ }
  own : Owns W w.heap.size 113 4 eDr u.A u.c u.al
  e : u.al.map Dr.d = ds.take u.k
  n : u.R.length = u.k
  hd : ∀ a ∈ u.al, Hd u.R a
  b : Below lb w W
  f : Fx (lb :: ((blk x.y.L).toList ++ (blk x.d.L).toList)) w W
  fl : ∀ q, blk u.L = some q → blk x.y.L = some q ∨ w.heap.size ≤ q
theorem bs51r (W : World) (r : RowX Int) : (Instr.buildSlice 51 1 #[(0, .slice r.A r.l.length r.c)]).run Try.prog W = .ok (.slice (some ⟨W.heap.size, 0, none⟩) 1 1) (W.alloc (.cells #[.slice r.A r.l.length r.c] 52)) := by kernel_rfl
set_option maxRecDepth 100000 in
set_option maxHeartbeats 4000000 in
theorem lentDatas_any {w : World} {base lb : Nat} {x : LtX} {M : Option Addr} {cM N : Nat} {rs : List Dr} (h : Lt w base lb x) (hpy : x.y.P.length ≤ 1000) (hpd : x.d.P.length ≤ 1000) (hN : N ≤ lb) (hM : Drs w N M rs) (hsm : SmallD (rs.map Dr.d)) : Calls Try.prog 86 #[.pointer (some ⟨lb, 0, none⟩), .slice M rs.length cM] w fun e w' => Fx (lb :: ((blk x.y.L).toList ++ (blk x.d.L).toList)) w w' ∧ Below lb w w' ∧ ∃ A c Ly cLy R Ld_ cLd rd, e = .returned (.slice A rs.length c) ∧ Lt w' base lb { x with y := ⟨Ly, cLy, x.y.P ++ R⟩, d := ⟨Ld_, cLd, x.d.P ++ [rd]⟩ } ∧ Dts w' w'.heap.size A (rs.map Dr.d) ∧ R.length = rs.length := by
  have hl : rs.length ≤ 1048576 := by have := hsm.1; rwa [List.length_map] at this
  refine calls_vc tab_ok Try.func86 rfl ?_
  have hz := h.hz
  have hbz := h.z
  have hx : ∀ W, Below lb w W → Drs W N M rs := fun W hW => ⟨hM.row.below hW hN, fun r h1 => (hM.each r h1).below hW hN⟩
  repeat (conv => whnf
          first
          | (refine VCmp.tt (by omega) ?_)
          | (refine VCmp.ff (by omega) ?_)
          | (refine VIn.mk (IntWalk.i64_in _ (by omega)) ?_)
          | (refine VIdx.mk _ rfl (by omega) ?_)
          | (refine VIdx.mk 0 rfl (by omega) ?_))
  try (conv => whnf)
  refine VLoop.mk LD (fun u => [(0, .pointer (some ⟨lb, 0, none⟩)), (1, .slice M rs.length cM), (5, .slice u.A u.al.length u.c), (6, .int .i64 u.k)]) (LDo w base lb x (rs.map Dr.d)) (fun u => rs.length - u.k) ⟨0, none, 0, [], x.y.L, x.y.c, []⟩ ⟨rfl, rfl, rfl, rfl, trivial⟩ ⟨Nat.zero_le _, by dsimp only; rw [List.append_nil]; exact h, owns_nil _ _ _ _ _, by simp, rfl, fun a ha => (by cases ha), Below.refl _ _, Fx.refl _ _, fun q hq => .inl hq⟩ ?_
  rintro ⟨k, A, c, al, L, cL, R⟩ wr ⟨hk, hlt, hown, he, hn, hhd, br, fr, fl⟩
  dsimp only at hk hlt hown he hn hhd br fr fl ⊢
  rw [List.length_map] at hk
  have hal : al.length = k := by have := congrArg List.length he; rw [List.length_map, List.length_take, List.length_map] at this; omega
  have hbr := br.size
  by_cases hkl : k < rs.length
  case pos =>
    obtain ⟨bA, oR, rfl, hbA2, hrow⟩ := (hx _ br).row (by omega)
    obtain ⟨r, hrk⟩ : ∃ r, rs[k]? = some r := ⟨_, List.getElem?_eq_getElem hkl⟩
    have hmem := List.mem_of_getElem? hrk
    have hdk : (rs.map Dr.d)[k]? = some r.d := by rw [List.getElem?_map, hrk]; rfl
    have hbl := hsm.2 r.d (List.mem_map.2 ⟨r, hmem, rfl⟩)
    have Lr : Ld Try.prog 113 bA (oR + k * 4) (Eq wr) (.agg (drA r)) := .of (load113 (fun j u hu => hrow k r hrk j u hu))
    repeat (conv => whnf
            first
            | (refine VLoad.mk _ Lr ?_)
            | (refine VCmp.tt (by omega) ?_)
            | (refine VCmp.ff (by omega) ?_)
            | (refine VIn.mk (IntWalk.i64_in _ (by omega)) ?_)
            | (refine VIdx.mk _ rfl (by omega) ?_)
            | (refine VIdx.mk 0 rfl (by omega) ?_))
    try (conv => whnf)
    refine .mk _ run_zero113 ?_
    conv => whnf
    refine .mk fun x3 hx3 => ?_
    repeat (conv => whnf
            first
            | (refine VCmp.tt (by omega) ?_)
            | (refine VCmp.ff (by omega) ?_)
            | (refine VIn.mk (IntWalk.i64_in _ (by omega)) ?_)
            | (refine VIdx.mk _ rfl (by omega) ?_)
            | (refine VIdx.mk 0 rfl (by omega) ?_))
    try (conv => whnf)
    refine VStore.new hx3 (by kernel_rfl) rfl (one_drA r) fun x4 hx4 => ?_
    have c4 : Below wr.heap.size wr x4 := by rw [hx4.out]; exact (Below.refl _ _).alloc (Nat.le_refl _) _
    have z4 : x4.heap.size = wr.heap.size + 1 := by rw [hx4.out]; simp
    have r4 : x4.rangeAt wr.heap.size 0 (eDr r) := by rw [hx4.out]; exact range_new wr (drA r) 113
    have t4 : x4.there wr.heap.size 0 4 := by rw [hx4.out]; exact there_new wr (drA r) 113
    clear hx4 hx3
    repeat (conv => whnf
            first
            | (refine VCmp.tt (by omega) ?_)
            | (refine VCmp.ff (by omega) ?_)
            | (refine VIn.mk (IntWalk.i64_in _ (by omega)) ?_)
            | (refine VIdx.mk _ rfl (by omega) ?_)
            | (refine VIdx.mk 0 rfl (by omega) ?_))
    try (conv => whnf)
    refine VBs.mk _ _ (bs52z x4) ?_
    have c5 : Below x4.heap.size x4 (x4.alloc (.cells #[] 5)) := (Below.refl _ _).alloc (Nat.le_refl _) _
    have z5 : (x4.alloc (.cells #[] 5)).heap.size = x4.heap.size + 1 := by simp
    have ho5 : Owns (x4.alloc (.cells #[] 5)) x4.heap.size 5 1 eByte (some ⟨x4.heap.size, 0, none⟩) 0 ([] : List Int) := owns_empty _ _ _ _ _ (Nat.le_refl _)
    have r5 : (x4.alloc (.cells #[] 5)).rangeAt wr.heap.size 0 (eDr r) := range_same r4 (c5.block _ (by omega))
    generalize x4.alloc (.cells #[] 5) = x5 at c5 z5 ho5 r5 ⊢
    have Ly : Ld Try.prog 52 wr.heap.size 3 (Eq x5) (.slice r.B r.d.body.length r.c) := .of (load52 (r5 3 _ rfl))
    have b5 : Below lb w x5 := br.trans ((c4.trans (c5.mono (by omega))).mono (by omega))
    repeat (conv => whnf
            first
            | (refine VLoad.mk _ Ly ?_)
            | (refine VCmp.tt (by omega) ?_)
            | (refine VCmp.ff (by omega) ?_)
            | (refine VIn.mk (IntWalk.i64_in _ (by omega)) ?_)
            | (refine VIdx.mk _ rfl (by omega) ?_)
            | (refine VIdx.mk 0 rfl (by omega) ?_))
    try (conv => whnf)
    refine VApp.rows x4.heap.size 1 1 _ Try.underlying52 info5 rfl (by decide) eByte len_eByte one_eByte ([] : List Int) r.d.body rfl rfl ho5 ((hx _ b5).each r hmem).row (by omega) (by omega) (by omega) fun A1 c1 w1 ho1 hg1 hk1 => ?_
    have hc1 : Below x4.heap.size x4 w1 := c5.grown hg1 (by omega) (by intro q hq; simp [blk] at hq; omega)
    clear hg1 hk1 ho5 r5 Ly b5 z5 c5
    rw [List.nil_append] at ho1
    repeat (conv => whnf
            first
            | (refine VCmp.tt (by omega) ?_)
            | (refine VCmp.ff (by omega) ?_)
            | (refine VIn.mk (IntWalk.i64_in _ (by omega)) ?_)
            | (refine VIdx.mk _ rfl (by omega) ?_)
            | (refine VIdx.mk 0 rfl (by omega) ?_))
    try (conv => whnf)
    refine VLoop.mk (Nat × Option Addr × Nat) (fun u => [(0, .pointer (some ⟨lb, 0, none⟩)), (1, .slice (some ⟨bA, oR, none⟩) rs.length cM), (5, .slice A al.length c), (6, .int .i64 k), (7, .pointer (some ⟨wr.heap.size, 0, none⟩)), (8, .slice u.2.1 (r.d.body.length + u.1) u.2.2), (9, .int .i64 u.1)]) (fun u W => u.1 ≤ 64 ∧ Below x4.heap.size x4 W ∧ Owns W x4.heap.size 5 1 eByte u.2.1 u.2.2 (r.d.body ++ (List.range u.1).map lkY)) (fun u => 64 - u.1) (0, A1, c1) ⟨rfl, rfl, rfl, rfl, rfl, by show some (Value.slice A1 (0 + r.d.body.length) c1) = some (Value.slice A1 (r.d.body.length + 0) c1); rw [Nat.zero_add, Nat.add_zero], rfl, trivial⟩ ⟨Nat.zero_le _, hc1, by simpa using ho1⟩ ?_
    clear ho1 hc1
    rintro ⟨j, Aj, cj⟩ wj ⟨hj, bj, O⟩
    dsimp only at hj O ⊢
    have zj := bj.size
    have hO := O.len
    rw [List.length_append, List.length_map, List.length_range] at hO
    by_cases hjl : j < 64
    case pos =>
      repeat (conv => whnf
              first
              | (refine VCmp.tt (by omega) ?_)
              | (refine VCmp.ff (by omega) ?_)
              | (refine VIn.mk (IntWalk.i64_in _ (by omega)) ?_)
              | (refine VIdx.mk _ rfl (by omega) ?_)
              | (refine VIdx.mk 0 rfl (by omega) ?_))
      try (conv => whnf)
      refine VQ.mk (.int .i64 ((j % 7 : Nat) : Int)) (fun a ha W _ => ?_) ?_
      · have h3 := ha (.tmp 30) _ rfl
        have h4 := ha (.const (.int .i64 7)) _ rfl
        have := rem7 j W
        have hg : Sem.run Try.prog (eqGuard .rem 3 (.tmp 30) (.const (.int .i64 7)) (.int .i64 j) (.int .i64 7)) W = .ok () W := rfl
        simp only [execOp, h3, h4, Sem.run_bind, hg, this, Result.andThen_ok, Sem.run_pure]
      have c7 := u8_in (200 + ((j % 7 : Nat) : Int)) (by omega) (by omega)
      repeat (conv => whnf
              first
              | (refine VIn.mk c7 ?_)
              | (refine VCmp.tt (by omega) ?_)
              | (refine VCmp.ff (by omega) ?_)
              | (refine VIn.mk (IntWalk.i64_in _ (by omega)) ?_)
              | (refine VIdx.mk _ rfl (by omega) ?_)
              | (refine VIdx.mk 0 rfl (by omega) ?_))
      try (conv => whnf)
      refine VBs.mk _ _ (bs52b wj (lkY j)) ?_
      have d1 : Below wj.heap.size wj (wj.alloc (.cells #[.int .u8 (lkY j)] 5)) := (Below.refl _ _).alloc (Nat.le_refl _) _
      have hr1 := row_new wj 5 1 eByte (lkY j) #[.int .u8 (lkY j)] rfl
      generalize wj.alloc (.cells #[.int .u8 (lkY j)] 5) = w3 at d1 hr1 ⊢
      have z3 := d1.size
      have O3 := O.keep d1 fun k hk => (O.lo k hk).2
      repeat (conv => whnf
              first
              | (refine VCmp.tt (by omega) ?_)
              | (refine VCmp.ff (by omega) ?_)
              | (refine VIn.mk (IntWalk.i64_in _ (by omega)) ?_)
              | (refine VIdx.mk _ rfl (by omega) ?_)
              | (refine VIdx.mk 0 rfl (by omega) ?_))
      try (conv => whnf)
      refine VApp.rows x4.heap.size 1 1 _ Try.underlying52 info5 rfl (by decide) eByte len_eByte one_eByte (r.d.body ++ (List.range j).map lkY) [lkY j] (by simp) rfl O3 hr1 (by omega) (by omega) (by omega) fun A2 c2 w4 oA hgA hkA => ?_
      have b4 : Below x4.heap.size x4 w4 := (bj.trans (d1.mono zj)).grown hgA (by omega) (fun k hk => (O3.lo k hk).1)
      repeat (conv => whnf
              first
              | (refine VCmp.tt (by omega) ?_)
              | (refine VCmp.ff (by omega) ?_)
              | (refine VIn.mk (IntWalk.i64_in _ (by omega)) ?_)
              | (refine VIdx.mk _ rfl (by omega) ?_)
              | (refine VIdx.mk 0 rfl (by omega) ?_))
      try (conv => whnf)
      refine .mk (j + 1, A2, c2) ⟨rfl, rfl, rfl, rfl, rfl, rfl, rfl, trivial⟩ ⟨hjl, b4, ?_⟩ (by show 64 - (j + 1) < 64 - j; omega)
      dsimp only
      rw [mapRange_succ, ← List.append_assoc]
      exact oA
    case neg =>
      have hj64 : j = 64 := by omega
      subst hj64
      have brj : Below wr.heap.size wr wj := c4.trans (bj.mono (by omega))
      have B := hlt.below brj
      have rj : wj.rangeAt wr.heap.size 0 (eDr r) := range_same r4 (bj.block _ (by omega))
      have tj : wj.there wr.heap.size 0 4 := there_same t4 (bj.block _ (by omega))
      have L1 : Ld Try.prog 51 lb 1 (Eq wj) (.slice L (x.y.P ++ R).length cL) := .of (load_cell (by kernel_rfl) (B.r 1 _ rfl))
      have hPR : (x.y.P ++ R).length = x.y.P.length + k := by rw [List.length_append, hn]
      obtain ⟨row, hrowe⟩ : ∃ row : RowX Int, row = ⟨Aj, cj, r.d.body ++ (List.range 64).map lkY⟩ := ⟨_, rfl⟩
      have er : row.l.length = r.d.body.length + 64 := by rw [hrowe]; simp
      have hrA : row.A = Aj := by rw [hrowe]
      have hrc : row.c = cj := by rw [hrowe]
      have hrm : MkAt row.l lkY := by rw [hrowe]; exact MkAt.of _ _
      have hrt : row.l = r.d.body ++ (List.range 64).map lkY := by rw [hrowe]
      have O' : Owns wj x4.heap.size 5 1 eByte row.A row.c row.l := by rw [hrowe]; exact O
      clear hrowe O
      repeat (conv => whnf
              first
              | (refine VLoad.mk _ L1 ?_)
              | (refine VCmp.tt (by omega) ?_)
              | (refine VCmp.ff (by omega) ?_)
              | (refine VIn.mk (IntWalk.i64_in _ (by omega)) ?_)
              | (refine VIdx.mk _ rfl (by omega) ?_)
              | (refine VIdx.mk 0 rfl (by omega) ?_))
      try (conv => whnf)
      refine VBs.mk _ _ (bs51 wj Aj (r.d.body.length + 64) cj) ?_
      have d1 : Below wj.heap.size wj (wj.alloc (.cells #[.slice Aj (r.d.body.length + 64) cj] 52)) := (Below.refl _ _).alloc (Nat.le_refl _) _
      have hr1 := row_new wj 52 1 eTr (rowT row) #[.slice Aj (r.d.body.length + 64) cj] (by rw [← hrA, ← hrc, ← er]; rfl)
      generalize wj.alloc (.cells #[.slice Aj (r.d.body.length + 64) cj] 52) = w3 at d1 hr1 ⊢
      have z3 := d1.size
      have hl1 := B.y.l.keep d1 fun k hk => (B.y.l.lo k hk).2
      repeat (conv => whnf
              first
              | (refine VCmp.tt (by omega) ?_)
              | (refine VCmp.ff (by omega) ?_)
              | (refine VIn.mk (IntWalk.i64_in _ (by omega)) ?_)
              | (refine VIdx.mk _ rfl (by omega) ?_)
              | (refine VIdx.mk 0 rfl (by omega) ?_))
      try (conv => whnf)
      refine VApp.rows base 1 24 _ Try.underlying51 info52z rfl (by decide) eTr len_eTr one_eTr ((x.y.P ++ R).map rowT) [rowT row] (by rw [List.length_map]) rfl hl1 hr1 (by omega) (by omega) (by omega) fun L2 cL2 w4 ho2 hg2 hk2 => ?_
      have hs2 : w4.heap[lb]? = wj.heap[lb]? := (hg2.block lb (by omega) (fun e => by have := (hl1.lo lb e.symm).1; omega)).trans (d1.block lb (by omega))
      have t2 := there_same B.t hs2
      have r2 := range_same B.r hs2
      have hLwr : ∀ q, blk L = some q → q < wr.heap.size := fun q hq => (hlt.y.l.lo q hq).2
      have hsd : w4.heap[wr.heap.size]? = wj.heap[wr.heap.size]? := (hg2.block _ (by omega) (fun e => by have := hLwr _ e.symm; omega)).trans (d1.block _ (by omega))
      repeat (conv => whnf
              first
              | (refine VCmp.tt (by omega) ?_)
              | (refine VCmp.ff (by omega) ?_)
              | (refine VIn.mk (IntWalk.i64_in _ (by omega)) ?_)
              | (refine VIdx.mk _ rfl (by omega) ?_)
              | (refine VIdx.mk 0 rfl (by omega) ?_))
      try (conv => whnf)
      refine VStore.cell (by kernel_rfl) (t2 1 (by omega)).1 (t2 1 (by omega)).2 rfl rfl fun w5 hw5 => ?_
      have g3 : w4.grownBy w5 (some lb) := by rw [hw5.out]; exact grown_cell _ _ _ _
      have O1 := O'.keep d1 fun k hk => (O'.lo k hk).2
      have B3 := B.y.push (by decide) d1 (r := row) (O1.base (by omega)) hrm ho2 hg2 g3 hz
      have b5 : Below lb w w5 := (((br.trans (brj.mono (by omega))).trans (d1.mono (by omega))).grown hg2 (by omega) (fun q hq => by have := (hl1.lo q hq).1; omega)).grown g3 (by have := hg2.size; omega) (fun q hq => by injection hq with hq; omega)
      have zz5 : w3.heap.size ≤ w5.heap.size := by have := hg2.size; have := g3.size; omega
      have z5 : base ≤ w5.heap.size := by omega
      have r5 : w5.rangeAt lb 0 (lxC x.i ++ lxC (⟨L2, cL2, x.y.P ++ R ++ [row]⟩ : LX Int) ++ lxC x.m ++ lxC x.d) := by
        have := rng_put (o := 1) (vs := [.slice L2 ((x.y.P ++ R).length + 1) cL2]) r2 t2 (by simp [lxC]) (by simp)
        rw [hw5.out]
        unfold lxC at this ⊢
        dsimp only
        rw [List.length_append (bs := [row])]
        exact this
      have t5 : w5.there lb 0 4 := by rw [hw5.out]; exact there_set t2 _ _
      have T5 : Lt w5 base lb { x with y := ⟨L2, cL2, x.y.P ++ (R ++ [row])⟩ } := by
        rw [← List.append_assoc]
        exact ⟨B.i.beside B.y (by decide) (by decide) d1 hg2 g3 hz, B3, B.m.beside B.y (by decide) (by decide) d1 hg2 g3 hz, B.d.beside B.y (by decide) (by decide) d1 hg2 g3 hz, r5, t5, hz, z5⟩
      have own5 : Owns w5 w.heap.size 113 4 eDr A c al := hown.past (brj.trans (d1.mono (by omega))) hl1 (by decide) hg2 g3 (by omega)
      have hd5 : w5.heap[wr.heap.size]? = wj.heap[wr.heap.size]? := (g3.block _ (by have := hg2.size; omega) (by intro e; injection e with e; omega)).trans hsd
      have rd5 := range_same rj hd5
      have td5 := there_same tj hd5
      have hrow5 := (hx _ b5).row (by omega)
      obtain ⟨bA', oR', eA, _, hrw5⟩ := hrow5
      injection eA with eA; injection eA with eA1 eA2; subst eA1; subst eA2
      have Lb : Ld Try.prog 52 bA (oR + k * 4 + 3) (Eq w5) (.slice r.B r.d.body.length r.c) := .of (load52 (hrw5 k r hrk 3 _ rfl))
      repeat (conv => whnf
              first
              | (refine VLoad.mk _ Lb ?_)
              | (refine VSl.cutTo (by omega) ?_)
              | (refine VCmp.tt (by omega) ?_)
              | (refine VCmp.ff (by omega) ?_)
              | (refine VIn.mk (IntWalk.i64_in _ (by omega)) ?_)
              | (refine VIdx.mk _ rfl (by omega) ?_)
              | (refine VIdx.mk 0 rfl (by omega) ?_))
      try (conv => whnf)
      refine VStore.cell (by kernel_rfl) (by rw [show addO 0 3 = 0 + 3 from rfl, rd5 3 _ rfl]; rfl) (by rw [show addO 0 3 = 3 from rfl]; exact there_frozen td5 (by omega)) rfl rfl fun w6 hw6 => ?_
      have g6 : w5.grownBy w6 (some wr.heap.size) := by rw [hw6.out]; exact grown_cell _ _ _ _
      have m6 : w6.rangeAt wr.heap.size 0 (eDr ⟨r.d, Aj, cj⟩) := by
        have := rng_put (o := 3) (vs := [.slice Aj r.d.body.length cj]) rd5 td5 rfl (by simp)
        rw [hw6.out]; exact this
      have hnot : ∀ q ∈ [wr.heap.size], q ≠ lb ∧ ¬ LnB x.i q ∧ ¬ LnB (⟨L2, cL2, x.y.P ++ (R ++ [row])⟩ : LX Int) q ∧ ¬ LnB x.m q ∧ ¬ LnB x.d q := fun q hq => by
        obtain rfl := List.mem_singleton.1 hq
        refine ⟨by omega, fun hb => by have := (hlt.i.lo hb).2; omega, fun hb => ?_, fun hb => by have := (hlt.m.lo hb).2; omega, fun hb => by have := (hlt.d.lo hb).2; omega⟩
        rcases hb with e1 | ⟨s, hs, e1⟩
        · dsimp only at e1
          rcases hk2 with e2 | e2
          · have := hLwr _ (e2 ▸ e1); omega
          · rw [e2] at e1; injection e1 with e1; omega
        · rw [← List.append_assoc] at hs
          rcases List.mem_append.1 hs with hs | hs
          · have := ((hlt.y.o s hs).lo _ e1).2; omega
          · obtain rfl := List.mem_singleton.1 hs
            have := (O'.lo _ e1).1; omega
      have T6 := T5.fx (S := [wr.heap.size]) (.grown g6 fun q hq => by injection hq with hq; subst hq; exact List.mem_singleton.2 rfl) hnot
      have own6 : Owns w6 w.heap.size 113 4 eDr A c al := own5.same fun q hq => g6.block q (own5.lo q hq).2 (by intro e; injection e with e; have := (hown.lo q hq).2; omega)
      have b6 : Below lb w w6 := b5.grown g6 (by omega) (fun q hq => by injection hq with hq; omega)
      have z6 := g6.size
      have Lm6 : Ld Try.prog 113 wr.heap.size 0 (Eq w6) (.agg (drA ⟨r.d, Aj, cj⟩)) := .of (load113 m6)
      repeat (conv => whnf
              first
              | (refine VLoad.mk _ Lm6 ?_)
              | (refine VCmp.tt (by omega) ?_)
              | (refine VCmp.ff (by omega) ?_)
              | (refine VIn.mk (IntWalk.i64_in _ (by omega)) ?_)
              | (refine VIdx.mk _ rfl (by omega) ?_)
              | (refine VIdx.mk 0 rfl (by omega) ?_))
      try (conv => whnf)
      refine VBs.mk _ _ (bs40 w6 ⟨r.d, Aj, cj⟩) ?_
      have d7 : Below w6.heap.size w6 (w6.alloc (.cells (drA ⟨r.d, Aj, cj⟩) 113)) := (Below.refl _ _).alloc (Nat.le_refl _) _
      have hr7 := row_new w6 113 4 eDr ⟨r.d, Aj, cj⟩ (drA ⟨r.d, Aj, cj⟩) rfl
      generalize w6.alloc (.cells (drA ⟨r.d, Aj, cj⟩) 113) = w7 at d7 hr7 ⊢
      have z7 := d7.size
      have own7 := own6.keep d7 fun q hq => (own6.lo q hq).2
      repeat (conv => whnf
              first
              | (refine VCmp.tt (by omega) ?_)
              | (refine VCmp.ff (by omega) ?_)
              | (refine VIn.mk (IntWalk.i64_in _ (by omega)) ?_)
              | (refine VIdx.mk _ rfl (by omega) ?_)
              | (refine VIdx.mk 0 rfl (by omega) ?_))
      try (conv => whnf)
      refine VApp.rows w.heap.size 4 48 _ Try.underlying40 info113 rfl (by decide) eDr len_eDr one_eDr al [⟨r.d, Aj, cj⟩] rfl rfl own7 hr7 (by omega) (by omega) (by omega) fun A8 c8 w8 ho8 hg8 hk8 => ?_
      have T8 := (T6.below d7).fx (S := (blk A).toList) (.grown hg8 fun q hq => by rw [hq]; simp) (fun q hq => by
        have hq : blk A = some q := by simpa [Option.mem_toList] using hq
        have q1 := hown.lo q hq
        refine ⟨by omega, fun hb => ?_, fun hb => ?_, fun hb => ?_, fun hb => by have := (h.d.lo hb).2; omega⟩
        · have := (h.i.lo hb).2; omega
        · rcases hb with e1 | ⟨s, hs, e1⟩
          · rcases (T6.below d7).y.l.ne own7 (by decide) with e2 | e2
            · dsimp only at e1 e2; rw [e1] at e2; cases e2
            · exact e2 (e1.trans hq.symm)
          · rcases ((T6.below d7).y.o s hs).ne own7 (by decide) with e2 | e2
            · rw [e1] at e2; cases e2
            · exact e2 (e1.trans hq.symm)
        · have := (h.m.lo hb).2; omega)
      have b8 : Below lb w w8 := (b6.trans (d7.mono (by omega))).grown hg8 (by omega) (fun q hq => by have := (own7.lo q hq).1; omega)
      have inL : ∀ q, blk L = some q → q ∈ lb :: ((blk x.y.L).toList ++ (blk x.d.L).toList) ∨ w.heap.size ≤ q := fun q hq => (fl q hq).imp (fun e => List.mem_cons_of_mem _ (List.mem_append.2 (.inl (by rw [e]; simp)))) id
      have f5 : Fx (lb :: ((blk x.y.L).toList ++ (blk x.d.L).toList)) w w5 := ((fr.trans (.below (S := []) (brj.trans (d1.mono (by omega)))) fun q hq => (by cases hq)).trans (.grown (S := (blk L).toList) hg2 fun q hq => by rw [hq]; simp) fun q hq => inL q (by simpa [Option.mem_toList] using hq)).trans (.grown (S := [lb]) g3 fun q hq => by injection hq with hq; subst hq; exact List.mem_singleton.2 rfl) fun q hq => .inl (by obtain rfl := List.mem_singleton.1 hq; exact List.mem_cons_self ..)
      have f8 : Fx (lb :: ((blk x.y.L).toList ++ (blk x.d.L).toList)) w w8 := ((f5.trans (.grown (S := [wr.heap.size]) g6 fun q hq => by injection hq with hq; subst hq; exact List.mem_singleton.2 rfl) fun q hq => .inr (by obtain rfl := List.mem_singleton.1 hq; exact fr.size)).trans (.below (S := []) d7) fun q hq => (by cases hq)).trans (.grown (S := (blk A).toList) hg8 fun q hq => by rw [hq]; simp) fun q hq => .inr (hown.lo q (by simpa [Option.mem_toList] using hq)).1
      repeat (conv => whnf
              first
              | (refine VCmp.tt (by omega) ?_)
              | (refine VCmp.ff (by omega) ?_)
              | (refine VIn.mk (IntWalk.i64_in _ (by omega)) ?_)
              | (refine VIdx.mk _ rfl (by omega) ?_)
              | (refine VIdx.mk 0 rfl (by omega) ?_))
      try (conv => whnf)
      refine .mk ⟨k + 1, A8, c8, al ++ [⟨r.d, Aj, cj⟩], L2, cL2, R ++ [row]⟩ ⟨rfl, rfl, by show some (Value.slice A8 (al.length + 1) c8) = _; rw [List.length_append]; rfl, rfl, trivial⟩ ⟨by show k + 1 ≤ _; rw [List.length_map]; omega, T8, ho8, ?_, by show (R ++ [row]).length = _; rw [List.length_append, hn]; rfl, ?_, b8, f8, fun q hq => ?_⟩ (by show rs.length - (k + 1) < rs.length - k; omega)
      · show (al ++ [_]).map Dr.d = _
        rw [List.map_append, he, List.take_add_one, hdk]; rfl
      · intro a ha
        rcases List.mem_append.1 ha with ha | ha
        · obtain ⟨s, hs, hs'⟩ := hhd a ha
          exact ⟨s, List.mem_append.2 (.inl hs), hs'⟩
        · obtain rfl := List.mem_singleton.1 ha
          exact ⟨row, List.mem_append.2 (.inr (List.mem_singleton.2 rfl)), hrA, hrc, _, hrt⟩
      · rcases hk2 with e | e
        · exact fl q (e ▸ hq)
        · right; dsimp only at hq; rw [e] at hq; injection hq with hq; have := fr.size; omega
  case neg =>
    have hke : k = rs.length := by omega
    subst hke
    repeat (conv => whnf
            first
            | (refine VCmp.tt (by omega) ?_)
            | (refine VCmp.ff (by omega) ?_)
            | (refine VIn.mk (IntWalk.i64_in _ (by omega)) ?_)
            | (refine VIdx.mk _ rfl (by omega) ?_)
            | (refine VIdx.mk 0 rfl (by omega) ?_))
    try (conv => whnf)
    refine VLoop.mk (Nat × Option Addr × Nat) (fun u => [(0, .pointer (some ⟨lb, 0, none⟩)), (1, .slice M rs.length cM), (5, .slice u.2.1 (rs.length + u.1) u.2.2), (10, .int .i64 u.1)]) (fun u W => u.1 ≤ 64 ∧ Below lb w W ∧ Fx (lb :: ((blk x.y.L).toList ++ (blk x.d.L).toList)) w W ∧ Lt W base lb { x with y := ⟨L, cL, x.y.P ++ R⟩ } ∧ Owns W w.heap.size 113 4 eDr u.2.1 u.2.2 (al ++ (List.range u.1).map lkD)) (fun u => 64 - u.1) (0, A, c) ⟨rfl, rfl, by show some (Value.slice A al.length c) = _; rw [hal]; rfl, rfl, trivial⟩ ⟨Nat.zero_le _, br, fr, hlt, by simpa using hown⟩ ?_
    clear hlt hown br hbr fr
    rintro ⟨j, Aj, cj⟩ wj ⟨hj, bj, fj, T, O⟩
    dsimp only at hj O ⊢
    have zj := bj.size
    have hO := O.len
    rw [List.length_append, List.length_map, List.length_range] at hO
    have zT := T.z
    by_cases hjl : j < 64
    case pos =>
      repeat (conv => whnf
              first
              | (refine VCmp.tt (by omega) ?_)
              | (refine VCmp.ff (by omega) ?_)
              | (refine VIn.mk (IntWalk.i64_in _ (by omega)) ?_)
              | (refine VIdx.mk _ rfl (by omega) ?_)
              | (refine VIdx.mk 0 rfl (by omega) ?_))
      try (conv => whnf)
      refine VBuild.mk _ (fun W => bldD W (-700 - (j : Int))) ?_
      repeat (conv => whnf
              first
              | (refine VCmp.tt (by omega) ?_)
              | (refine VCmp.ff (by omega) ?_)
              | (refine VIn.mk (IntWalk.i64_in _ (by omega)) ?_)
              | (refine VIdx.mk _ rfl (by omega) ?_)
              | (refine VIdx.mk 0 rfl (by omega) ?_))
      try (conv => whnf)
      refine VBs.mk _ _ (bs40b wj (-700 - (j : Int))) ?_
      have d1 : Below wj.heap.size wj (wj.alloc (.cells #[.int .i64 0, .int .i64 (-700 - (j : Int)), .int .i64 0, .slice none 0 0] 113)) := (Below.refl _ _).alloc (Nat.le_refl _) _
      have hr1 := row_new wj 113 4 eDr (lkD j) #[.int .i64 0, .int .i64 (-700 - (j : Int)), .int .i64 0, .slice none 0 0] rfl
      generalize wj.alloc (.cells #[.int .i64 0, .int .i64 (-700 - (j : Int)), .int .i64 0, .slice none 0 0] 113) = w3 at d1 hr1 ⊢
      have z3 := d1.size
      have O3 := O.keep d1 fun k hk => (O.lo k hk).2
      repeat (conv => whnf
              first
              | (refine VCmp.tt (by omega) ?_)
              | (refine VCmp.ff (by omega) ?_)
              | (refine VIn.mk (IntWalk.i64_in _ (by omega)) ?_)
              | (refine VIdx.mk _ rfl (by omega) ?_)
              | (refine VIdx.mk 0 rfl (by omega) ?_))
      try (conv => whnf)
      refine VApp.rows w.heap.size 4 48 _ Try.underlying40 info113 rfl (by decide) eDr len_eDr one_eDr (al ++ (List.range j).map lkD) [lkD j] (by simp [hal]) rfl O3 hr1 (by omega) (by omega) (by omega) fun A2 c2 w4 oA hgA hkA => ?_
      have T4 := (T.below d1).fx (S := (blk Aj).toList) (.grown hgA fun q hq => by rw [hq]; simp) (fun q hq => by
        have hq : blk Aj = some q := by simpa [Option.mem_toList] using hq
        have q1 := O.lo q hq
        refine ⟨by omega, fun hb => ?_, fun hb => ?_, fun hb => ?_, fun hb => by have := (h.d.lo hb).2; omega⟩
        · have := (h.i.lo hb).2; omega
        · rcases hb with e1 | ⟨s, hs, e1⟩
          · rcases (T.below d1).y.l.ne O3 (by decide) with e2 | e2
            · dsimp only at e1 e2; rw [e1] at e2; cases e2
            · exact e2 (e1.trans hq.symm)
          · rcases ((T.below d1).y.o s hs).ne O3 (by decide) with e2 | e2
            · rw [e1] at e2; cases e2
            · exact e2 (e1.trans hq.symm)
        · have := (h.m.lo hb).2; omega)
      have b4 : Below lb w w4 := (bj.trans (d1.mono (by omega))).grown hgA (by omega) (fun k hk => by have := (O3.lo k hk).1; omega)
      have f4 : Fx (lb :: ((blk x.y.L).toList ++ (blk x.d.L).toList)) w w4 := (fj.trans (.below (S := []) d1) fun q hq => (by cases hq)).trans (.grown (S := (blk Aj).toList) hgA fun q hq => by rw [hq]; simp) fun q hq => .inr (O.lo q (by simpa [Option.mem_toList] using hq)).1
      repeat (conv => whnf
              first
              | (refine VCmp.tt (by omega) ?_)
              | (refine VCmp.ff (by omega) ?_)
              | (refine VIn.mk (IntWalk.i64_in _ (by omega)) ?_)
              | (refine VIdx.mk _ rfl (by omega) ?_)
              | (refine VIdx.mk 0 rfl (by omega) ?_))
      try (conv => whnf)
      refine .mk (j + 1, A2, c2) ⟨rfl, rfl, rfl, rfl, trivial⟩ ⟨hjl, b4, f4, T4, ?_⟩ (by show 64 - (j + 1) < 64 - j; omega)
      dsimp only
      rw [mapRange_succ, ← List.append_assoc]
      exact oA
    case neg =>
      have hj64 : j = 64 := by omega
      subst hj64
      have L1 : Ld Try.prog 102 lb 3 (Eq wj) (.slice x.d.L x.d.P.length x.d.c) := .of (load_cell (by kernel_rfl) (T.r 3 _ rfl))
      have er : rowT (⟨Aj, cj, al ++ (List.range 64).map lkD⟩ : RowX Dr) = (Aj, rs.length + 64, cj) := by unfold rowT; simp [hal]
      repeat (conv => whnf
              first
              | (refine VLoad.mk _ L1 ?_)
              | (refine VCmp.tt (by omega) ?_)
              | (refine VCmp.ff (by omega) ?_)
              | (refine VIn.mk (IntWalk.i64_in _ (by omega)) ?_)
              | (refine VIdx.mk _ rfl (by omega) ?_)
              | (refine VIdx.mk 0 rfl (by omega) ?_))
      try (conv => whnf)
      refine VBs.mk _ _ (bs102 wj Aj (rs.length + 64) cj) ?_
      have d1 : Below wj.heap.size wj (wj.alloc (.cells #[.slice Aj (rs.length + 64) cj] 40)) := (Below.refl _ _).alloc (Nat.le_refl _) _
      have hr1 := row_new wj 40 1 eTr (Aj, rs.length + 64, cj) #[.slice Aj (rs.length + 64) cj] rfl
      generalize wj.alloc (.cells #[.slice Aj (rs.length + 64) cj] 40) = w3 at d1 hr1 ⊢
      have z3 := d1.size
      have hl1 := T.d.l.keep d1 fun k hk => (T.d.l.lo k hk).2
      repeat (conv => whnf
              first
              | (refine VCmp.tt (by omega) ?_)
              | (refine VCmp.ff (by omega) ?_)
              | (refine VIn.mk (IntWalk.i64_in _ (by omega)) ?_)
              | (refine VIdx.mk _ rfl (by omega) ?_)
              | (refine VIdx.mk 0 rfl (by omega) ?_))
      try (conv => whnf)
      refine VApp.rows base 1 24 _ Try.underlying102 info40z rfl (by decide) eTr len_eTr one_eTr (x.d.P.map rowT) [(Aj, rs.length + 64, cj)] (by rw [List.length_map]) rfl hl1 hr1 (by omega) (by omega) (by omega) fun L2 cL2 w4 ho2 hg2 hk2 => ?_
      have hs2 : w4.heap[lb]? = wj.heap[lb]? := (hg2.block lb (by omega) (fun e => by have := (hl1.lo lb e.symm).1; omega)).trans (d1.block lb (by omega))
      have t2 := there_same T.t hs2
      have r2 := range_same T.r hs2
      repeat (conv => whnf
              first
              | (refine VCmp.tt (by omega) ?_)
              | (refine VCmp.ff (by omega) ?_)
              | (refine VIn.mk (IntWalk.i64_in _ (by omega)) ?_)
              | (refine VIdx.mk _ rfl (by omega) ?_)
              | (refine VIdx.mk 0 rfl (by omega) ?_))
      try (conv => whnf)
      refine VStore.cell (by kernel_rfl) (t2 3 (by omega)).1 (t2 3 (by omega)).2 rfl rfl fun w5 hw5 => ?_
      have g3 : w4.grownBy w5 (some lb) := by rw [hw5.out]; exact grown_cell _ _ _ _
      have O1 := O.keep d1 fun k hk => (O.lo k hk).2
      have B3 := T.d.push (by decide) d1 (r := ⟨Aj, cj, al ++ (List.range 64).map lkD⟩) (O1.base (by omega)) (MkAt.of _ _) (by rw [er]; exact ho2) hg2 g3 hz
      have b5 : Below lb w w5 := ((bj.trans (d1.mono (by omega))).grown hg2 (by omega) (fun q hq => by have := (hl1.lo q hq).1; omega)).grown g3 (by have := hg2.size; omega) (fun q hq => by injection hq with hq; omega)
      have z5 : base ≤ w5.heap.size := by have := hg2.size; have := g3.size; omega
      have r5 : w5.rangeAt lb 0 (lxC x.i ++ lxC (⟨L, cL, x.y.P ++ R⟩ : LX Int) ++ lxC x.m ++ lxC (⟨L2, cL2, x.d.P ++ [⟨Aj, cj, al ++ (List.range 64).map lkD⟩]⟩ : LX Dr)) := by
        have := rng_put (o := 3) (vs := [.slice L2 (x.d.P.length + 1) cL2]) r2 t2 (by simp [lxC]) (by simp)
        rw [hw5.out]
        unfold lxC at this ⊢
        dsimp only
        rw [List.length_append (bs := [_])]
        exact this
      have t5 : w5.there lb 0 4 := by rw [hw5.out]; exact there_set t2 _ _
      have oA : Owns w5 base 113 4 eDr Aj cj (al ++ (List.range 64).map lkD) := B3.o _ (List.mem_append.2 (.inr (List.mem_singleton.2 rfl)))
      have hy5 := T.y.beside T.d (by decide) (by decide) d1 hg2 g3 hz
      have f5 : Fx (lb :: ((blk x.y.L).toList ++ (blk x.d.L).toList)) w w5 := ((fj.trans (.below (S := []) d1) fun q hq => (by cases hq)).trans (.grown (S := (blk x.d.L).toList) hg2 fun q hq => by rw [hq]; simp) fun q hq => .inl (List.mem_cons_of_mem _ (List.mem_append.2 (.inr hq)))).trans (.grown (S := [lb]) g3 fun q hq => by injection hq with hq; subst hq; exact List.mem_singleton.2 rfl) fun q hq => .inl (by obtain rfl := List.mem_singleton.1 hq; exact List.mem_cons_self ..)
      repeat (conv => whnf
              first
              | (refine VSl.cutTo (by omega) ?_)
              | (refine VCmp.tt (by omega) ?_)
              | (refine VCmp.ff (by omega) ?_)
              | (refine VIn.mk (IntWalk.i64_in _ (by omega)) ?_)
              | (refine VIdx.mk _ rfl (by omega) ?_)
              | (refine VIdx.mk 0 rfl (by omega) ?_))
      try (conv => whnf)
      refine .mk ⟨f5, b5, Aj, cj, L, cL, R, L2, cL2, _, rfl, ⟨T.i.beside T.d (by decide) (by decide) d1 hg2 g3 hz, hy5, T.m.beside T.d (by decide) (by decide) d1 hg2 g3 hz, B3, r5, t5, hz, z5⟩, ⟨al, by rw [he, ← List.length_map (f := Dr.d), List.take_length], row_front (oA.row len_eDr), fun a ha => ?_⟩, hn⟩
      obtain ⟨s, hs, e1, e2, t, e3⟩ := hhd a ha
      have hos := hy5.o s (List.mem_append.2 (.inr hs))
      rw [e1, e2, e3] at hos
      have hlen := hos.len
      rw [List.length_append] at hlen
      exact ⟨row_front (hos.row len_eByte), by omega, hlen.2⟩
end Go.Proofs.Ytcffhfcjfjfokaa
/- What the document's listed answers. -/
namespace Go.Proofs.Ytcffhfcjfjfokaa
open Go.RowKit
/-- The error of a list of contents. -/
def Listed (fs : List Fl) (n : Int) : Prop := if 1 ≤ fs.length ∧ fs.length ≤ 16 then Together fs n else n = 1
set_option maxHeartbeats 1000000 in
theorem listed_any (A : Option Addr) (cA N : Nat) (fs : List Fl) (w : World) (hN : N ≤ w.heap.size) (hA : Fls w N A fs) (hl : fs.length ≤ 9223372036854775807) :
    Calls Try.prog 53 #[.slice A fs.length cA] w fun x w' => (∃ n, x = .returned (.int .i64 n) ∧ Listed fs n) ∧ Below w.heap.size w w' := by
  by_cases h1 : fs.length < 1
  · have HL : Hid (Listed fs 1) := by show (if _ then _ else _); rw [if_neg (by omega)]
    go_enter Try.func53, Try.ntmps53
    go_wp2
    go_ret
    go_light
    exact ⟨⟨1, rfl, HL.out⟩, Below.refl _ _⟩
  · by_cases h2 : 16 < fs.length
    · have HL : Hid (Listed fs 1) := by show (if _ then _ else _); rw [if_neg (by omega)]
      go_enter Try.func53, Try.ntmps53
      go_wp2
      go_ret
      go_light
      exact ⟨⟨1, rfl, HL.out⟩, Below.refl _ _⟩
    · have HL : Hid (∀ n, Together fs n → Listed fs n) := by intro n hn; show (if _ then _ else _); rw [if_pos (by omega)]; exact hn
      go_enter Try.func53, Try.ntmps53
      go_wp2_with (go_at_call 29; refine (together_any A cA N fs _ hN hA hl).mono ?_; rintro e w' ⟨⟨n, rfl, hn⟩, hbw⟩; replace hn := Lib.hid hn)
      go_ret
      go_light
      exact ⟨⟨n, rfl, HL.out n hn.out⟩, hbw⟩
end Go.Proofs.Ytcffhfcjfjfokaa
/- What the document's Cut answers. -/
namespace Go.Proofs.Ytcffhfcjfjfokaa
open Go.RowKit
theorem num_any (n : Int) (w : World) : Calls Try.prog 16 #[.int .i64 n] w fun e w' => e = .returned (.int .i64 n) ∧ w = w' := by
  go_enter Try.func16, Try.ntmps16
  go_wp2
  go_ret
  exact ⟨rfl, rfl⟩
/-- What Cut answers: the cut and 0, or 0 and the error. -/
def CutIs (fs : List Fl) (k n : Int) : Prop := Listed fs n ∧ (n = 0 → IsCut fs k) ∧ (n ≠ 0 → k = 0)
theorem listed_one {fs : List Fl} {a b : Int} (h : Listed fs a) (k : Listed fs b) : a = b := by
  unfold Listed at h k
  by_cases hl : 1 ≤ fs.length ∧ fs.length ≤ 16
  · rw [if_pos hl] at h k; exact together_one h k
  · rw [if_neg hl] at h k; rw [h, k]
theorem cutIs_one {fs : List Fl} {a b n m : Int} (h : CutIs fs a n) (k : CutIs fs b m) : a = b ∧ n = m := by
  have e := listed_one h.1 k.1
  subst e
  refine ⟨?_, rfl⟩
  by_cases hn : n = 0
  · exact cut_one (h.2.1 hn) (k.2.1 hn)
  · rw [h.2.2 hn, k.2.2 hn]
theorem listed_fit {fs : List Fl} (h : Listed fs 0) : Fit fs ∧ fs.length ≤ 16 := by
  unfold Listed at h
  by_cases hl : 1 ≤ fs.length ∧ fs.length ≤ 16
  · rw [if_pos hl] at h; exact ⟨fit_iff.1 h, hl.2⟩
  · rw [if_neg hl] at h; cases h
set_option maxHeartbeats 1000000 in
theorem rcut_any (A : Option Addr) (cA N : Nat) (fs : List Fl) (w : World) (hN : N ≤ w.heap.size) (hA : Fls w N A fs) (hl : fs.length ≤ 9223372036854775807) :
    Calls Try.prog 15 #[.slice A fs.length cA] w fun x w' => (∃ k n, x = .returned (.tuple #[.int .i64 k, .int .i64 n]) ∧ CutIs fs k n) ∧ Below w.heap.size w w' := by
  go_enter Try.func15, Try.ntmps15
  go_wp2_with (go_at_call 53; refine (listed_any A cA N fs _ hN hA hl).mono ?_; rintro e w' ⟨⟨n, rfl, hn⟩, hbw⟩; replace hn := Lib.hid hn)
  · go_ret2
    go_light
    have h0 := ‹(n != 0) = true›
    exact ⟨⟨0, n, rfl, hn.out, fun e => by simp [e] at h0, fun _ => rfl⟩, hbw⟩
  · have h0 := ‹(n != 0) = false›
    obtain rfl : n = 0 := by simpa using h0
    have hfit := (listed_fit hn.out).1
    have HFit := Lib.hid hfit
    have hsz := hbw.size
    clear hfit
    refine (end_any A cA N fs w' (by omega) (hA.below hbw hN) hl (fun f hf => ⟨(HFit.out.sound f hf).base0, by have := (HFit.out.sound f hf).base; omega⟩) (base_nonneg fs) (fun n h => cut_bound HFit.out h)).mono ?_
    rintro e w2 ⟨⟨k, rfl, hk⟩, hbw2⟩
    replace hk := Lib.hid hk
    go_wp2
    go_ret2
    go_light
    exact ⟨⟨k, 0, rfl, hn.out, fun _ => hk.out, fun h => absurd rfl h⟩, hbw.trans (hbw2.mono hsz)⟩
end Go.Proofs.Ytcffhfcjfjfokaa
/- A map that the call itself has made, as a partial function from keys to values: made, looked up, stored into. Over any program. -/
namespace Go.Proofs.Ytcffhfcjfjfokaa
open Go.RowKit
open Go.Maps (Keyed)

/-- Block b is a map of at most n entries that holds just f. -/
def MapsTo {κ ν : Type} (w : World) (P : Program) (K : TypeId) (b n : Nat) (ek : κ → Value) (ev : ν → Value) (f : κ → Option ν) : Prop :=
  ∃ es clock, w.heap[b]? = some (.map es clock) ∧ es.size ≤ n ∧
    (∀ e ∈ es.toList, ∃ k v, e.key = ek k ∧ e.val = ev v ∧ f k = some v ∧ ∃ l, keyOf P K (ek k) = some l) ∧
    (∀ k v, f k = some v → ∃ e ∈ es.toList, e.key = ek k) ∧ es.toList.Pairwise (fun a b => a.key ≠ b.key)

section
variable {κ ν : Type} {w w' : World} {P : Program} {K e t : TypeId} {b n : Nat} {ek : κ → Value} {ev : ν → Value} {f : κ → Option ν}
theorem mapsTo_made (w : World) (P : Program) (K : TypeId) (ek : κ → Value) (ev : ν → Value) : MapsTo (w.alloc (.map #[] 0)) P K w.heap.size 0 ek ev (fun _ => none) :=
  ⟨#[], 0, (MapKept.heap_alloc w _).1, Nat.le_refl _, by simp, by simp, by simp⟩
theorem MapsTo.mono (h : MapsTo w P K b n ek ev f) {n' : Nat} (hn : n ≤ n') : MapsTo w P K b n' ek ev f := by
  obtain ⟨es, clock, h1, h2, h3⟩ := h
  exact ⟨es, clock, h1, by omega, h3⟩
theorem MapsTo.lt (h : MapsTo w P K b n ek ev f) : b < w.heap.size := by
  obtain ⟨es, clock, hb, _⟩ := h
  exact (Array.getElem?_eq_some_iff.1 hb).1
theorem MapsTo.keep {B : Nat} (h : MapsTo w P K b n ek ev f) (hb : Below B w w') (hB : b < B) : MapsTo w' P K b n ek ev f := by
  obtain ⟨es, clock, h1, h2⟩ := h
  exact ⟨es, clock, (hb.block b hB).trans h1, h2⟩
theorem MapsTo.kept {row : Option Nat} (h : MapsTo w P K b n ek ev f) (hg : w.grownBy w' row) (hne : some b ≠ row) : MapsTo w' P K b n ek ev f := by
  have hlt := h.lt
  obtain ⟨es, clock, h1, h2⟩ := h
  exact ⟨es, clock, (hg.block b hlt hne).trans h1, h2⟩
theorem MapsTo.alloc (h : MapsTo w P K b n ek ev f) (o : Obj) : MapsTo (w.alloc o) P K b n ek ev f := h.kept (World.grownBy_alloc w o none) (by simp)
theorem MapsTo.drewN (h : MapsTo w P K b n ek ev f) (k : Nat) : MapsTo (w.drewN k) P K b n ek ev f := h
theorem MapsTo.setCell (h : MapsTo w P K b n ek ev f) {a : Addr} (ha : a.block ≠ b) (u : Value) : MapsTo (w.setCell a u) P K b n ek ev f := by
  obtain ⟨es, clock, h1, h2⟩ := h
  exact ⟨es, clock, (Below.heap_setCell w a u b (fun e => ha e.symm)).trans h1, h2⟩

theorem MapsTo.look (h : MapsTo w P K b n ek ev f) (L : Keyed P K) (hinj : ∀ x y, ek x = ek y → x = y) (ht : P.underlying t = some (.map K e)) {z : Value} (hz : (zeroValue e).run P w = .ok z w) (c : Bool)
    (k : κ) (hk : ∃ l, keyOf P K (ek k) = some l) :
    (Instr.lookup t (.map (some b)) (ek k) c).run P w = .ok (if c then .tuple #[(match f k with | some v => ev v | none => z), .bool (f k).isSome] else (match f k with | some v => ev v | none => z)) w := by
  obtain ⟨l, hl⟩ := hk
  obtain ⟨es, clock, hb, _, h1, h2, h3⟩ := h
  rcases L.find w hl es.toList (fun x hx => by obtain ⟨k', v, hk', _, _, hl'⟩ := h1 x hx; rw [hk']; exact hl') with ⟨r1, r2⟩ | ⟨j, e0, r1, r2, r3⟩
  · have hf : f k = none := by
      cases hfk : f k with
      | none => rfl
      | some v => obtain ⟨x, hx, he⟩ := h2 k v hfk; exact absurd he (r2 x hx)
    rw [hf]
    simp [Instr.lookup, run_underlying ht, MapKept.run_getObj_map hb, L.check w _ hl, r1, hz, Result.andThen]
  · obtain ⟨k', v, hk', hv, hfv, _⟩ := h1 e0 (List.mem_of_getElem? r2)
    have hkk : k' = k := hinj _ _ (hk'.symm.trans r3)
    subst hkk
    rw [hfv, hv] at *
    simp [Instr.lookup, run_underlying ht, MapKept.run_getObj_map hb, L.check w _ hl, r1, hv, Result.andThen]

theorem MapsTo.put [DecidableEq κ] (h : MapsTo w P K b n ek ev f) (L : Keyed P K) (hinj : ∀ x y, ek x = ek y → x = y) (ht : P.underlying t = some (.map K e)) (k : κ) (v : ν) (hk : ∃ l, keyOf P K (ek k) = some l) :
    ∃ w', (Instr.mapUpdate t (.map (some b)) (ek k) (ev v)).run P w = .ok () w' ∧ MapsTo w' P K b (n + 1) ek ev (fun y => if y = k then some v else f y) ∧ w.grownBy w' (some b) := by
  have hlt := h.lt
  obtain ⟨l, hl⟩ := hk
  obtain ⟨es, clock, hb, hn, h1, h2, h3⟩ := h
  have grown : ∀ o : Obj, w.grownBy (ChangeMaps.setBlock w b o) (some b) := fun o =>
    ⟨rfl, rfl, rfl, by simp [ChangeMaps.setBlock], fun i hi hne => by simp only [ChangeMaps.setBlock]; rw [Array.getElem?_setIfInBounds_ne (by rintro rfl; exact hne rfl)]⟩
  have at_ : ∀ o : Obj, (ChangeMaps.setBlock w b o).heap[b]? = some o := fun o => by simp [ChangeMaps.setBlock, hlt]
  rcases L.find w hl es.toList (fun x hx => by obtain ⟨k', v, hk', _, _, hl'⟩ := h1 x hx; rw [hk']; exact hl') with ⟨r1, r2⟩ | ⟨j, e0, r1, r2, r3⟩
  · refine ⟨ChangeMaps.setBlock w b (.map (es.push ⟨ek k, ev v, clock⟩) (clock + 1)), ?_, ⟨es.push ⟨ek k, ev v, clock⟩, clock + 1, at_ _, by simp; omega, ?_, ?_, ?_⟩, grown _⟩
    · simp [Instr.mapUpdate, run_underlying ht, MapKept.run_getObj_map hb, L.check w false hl, r1, MapKept.run_setObj_map _ hb, Result.andThen, ChangeMaps.setBlock]
    · intro x hx
      simp only [Array.toList_push, List.mem_append, List.mem_singleton] at hx
      rcases hx with hx | rfl
      · obtain ⟨k', v', hk', hv', hf', hl'⟩ := h1 x hx
        refine ⟨k', v', hk', hv', ?_, hl'⟩
        show (if k' = k then some v else f k') = some v'
        rw [if_neg (fun he => r2 x hx (by rw [hk', he]))]; exact hf'
      · exact ⟨k, v, rfl, rfl, if_pos rfl, l, hl⟩
    · intro k' v' hf'
      replace hf' : (if k' = k then some v else f k') = some v' := hf'
      by_cases hkk : k' = k
      · subst hkk; exact ⟨⟨ek k', ev v, clock⟩, by simp, rfl⟩
      · rw [if_neg hkk] at hf'
        obtain ⟨x, hx, he⟩ := h2 k' v' hf'
        exact ⟨x, by simp [Array.mem_toList_iff.1 hx], he⟩
    · rw [Array.toList_push, List.pairwise_append]
      exact ⟨h3, by simp, fun x hx y hy => by simp at hy; subst hy; exact r2 x hx⟩
  · have hj : es[j]? = some e0 := by simpa using r2
    have hjl : j < es.size := (Array.getElem?_eq_some_iff.1 hj).1
    have hmod : (es.modify j fun e => { e with key := ek k, val := ev v }).toList = es.toList.set j { e0 with key := ek k, val := ev v } := by
      apply List.ext_getElem?
      intro i
      rw [Array.getElem?_toList, Array.getElem?_modify, List.getElem?_set]
      by_cases hij : j = i
      · subst hij; simp [hj, hjl]; rw [(Array.getElem?_eq_some_iff.1 hj).2]
      · simp [hij]
    have hkeyj : ∀ i x, es.toList[i]? = some x → x.key = ek k → i = j := by
      intro i x hx hxk
      have hi : i < es.toList.length := (List.getElem?_eq_some_iff.1 hx).1
      rcases Nat.lt_trichotomy i j with h | h | h
      · exfalso
        rw [List.pairwise_iff_getElem] at h3
        have := h3 i j hi (by simpa using hjl) h
        rw [(List.getElem?_eq_some_iff.1 hx).2, (List.getElem?_eq_some_iff.1 r2).2] at this
        exact this (by rw [hxk, r3])
      · exact h
      · exfalso
        rw [List.pairwise_iff_getElem] at h3
        have := h3 j i (by simpa using hjl) hi h
        rw [(List.getElem?_eq_some_iff.1 hx).2, (List.getElem?_eq_some_iff.1 r2).2] at this
        exact this (by rw [hxk, r3])
    refine ⟨ChangeMaps.setBlock w b (.map (es.modify j fun e => { e with key := ek k, val := ev v }) clock), ?_, ⟨_, clock, at_ _, by simp; omega, ?_, ?_, ?_⟩, grown _⟩
    · simp [Instr.mapUpdate, run_underlying ht, MapKept.run_getObj_map hb, L.check w false hl, r1, hj, r3, L.stays w hl, MapKept.run_setObj_map _ hb, Result.andThen, ChangeMaps.setBlock]
    · intro x hx
      rw [hmod] at hx
      obtain ⟨i, hi, hxi⟩ := List.getElem_of_mem hx
      rw [List.getElem_set] at hxi
      by_cases hij : j = i
      · rw [if_pos hij] at hxi; subst hxi
        exact ⟨k, v, rfl, rfl, if_pos rfl, l, hl⟩
      · rw [if_neg hij] at hxi
        have hi' : i < es.toList.length := by simpa using hi
        have hmem : es.toList[i] ∈ es.toList := List.getElem_mem hi'
        obtain ⟨k', v', hk', hv', hf', hl'⟩ := h1 _ hmem
        rw [hxi] at hk' hv'
        refine ⟨k', v', hk', hv', ?_, hl'⟩
        show (if k' = k then some v else f k') = some v'
        rw [if_neg (fun he => hij (hkeyj i es.toList[i] (List.getElem?_eq_getElem hi') (by rw [hxi, hk', he])).symm)]; exact hf'
    · intro k' v' hf'
      replace hf' : (if k' = k then some v else f k') = some v' := hf'
      rw [hmod]
      by_cases hkk : k' = k
      · subst hkk
        exact ⟨{ e0 with key := ek k', val := ev v }, List.mem_iff_getElem?.2 ⟨j, by rw [List.getElem?_set]; simp [hjl]⟩, rfl⟩
      · rw [if_neg hkk] at hf'
        obtain ⟨x, hx, he⟩ := h2 k' v' hf'
        obtain ⟨i, hi, rfl⟩ := List.getElem_of_mem hx
        have hij : j ≠ i := by
          rintro rfl
          have : es.toList[j] = e0 := by have := (List.getElem?_eq_some_iff.1 r2).2; exact this
          rw [this, r3] at he
          exact hkk (hinj _ _ he).symm
        exact ⟨es.toList[i], List.mem_iff_getElem?.2 ⟨i, by rw [List.getElem?_set_ne hij]; exact List.getElem?_eq_getElem hi⟩, he⟩
    · rw [hmod, List.pairwise_iff_getElem]
      rw [List.pairwise_iff_getElem] at h3
      intro a c ha hc hac
      have ha' : a < es.toList.length := by simpa using ha
      have hc' : c < es.toList.length := by simpa using hc
      have := h3 a c ha' hc' hac
      rw [List.getElem_set, List.getElem_set]
      have ej : es.toList[j]'(by simpa using hjl) = e0 := (List.getElem?_eq_some_iff.1 r2).2
      by_cases h1 : j = a
      · subst h1
        rw [if_pos rfl, if_neg (by omega)]
        rw [ej] at this; intro he; exact this (by rw [r3]; exact he)
      · rw [if_neg h1]
        by_cases h2 : j = c
        · subst h2
          rw [if_pos rfl]
          rw [ej] at this; intro he; exact this (by rw [r3]; exact he)
        · rw [if_neg h2]; exact this
end

/-- A store into such a map, at the operation. -/
theorem wpList_put {κ ν : Type} [DecidableEq κ] {P : Program} (w : World) {ops : Array Oper} {rest : List Oper} {o : Oper} {a : Act} {Q : Exit → Act → World → Prop}
    (hg : o.guard = none) (m x v : Operand) (t : TypeId) (hop : o.op = Op.mapUpdate t m x v)
    (K e : TypeId) (L : Keyed P K) (ht : P.underlying t = some (.map K e)) (b n : Nat) (ek : κ → Value) (ev : ν → Value) (hinj : ∀ x y, ek x = ek y → x = y) (f : κ → Option ν)
    (hm : a.eval m = .map (some b)) (hown : MapsTo w P K b n ek ev f) (key : κ) (val : ν) (hx : a.eval x = ek key) (hv : a.eval v = ev val) (hkey : ∃ l, keyOf P K (ek key) = some l)
    (hK : ∀ w', MapsTo w' P K b (n + 1) ek ev (fun y => if y = key then some val else f y) → w.grownBy w' (some b) → wpList P ops Q rest (a.put o.dst undef) w') :
    wpList P ops Q (o :: rest) a w := by
  refine wpList_plain hg fun K' hK' => ?_
  obtain ⟨w', hrun, r1, r2⟩ := hown.put L hinj ht key val hkey
  unfold Oper.wp
  simp [execOp, hop, hm, hx, hv, hrun, Result.andThen]
  exact hK' _ _ (hK w' r1 r2)

end Go.Proofs.Ytcffhfcjfjfokaa
/- The keys of this program's maps: slots and numbers. -/
namespace Go.Proofs.Ytcffhfcjfjfokaa
open Go.RowKit
theorem laidOut_ : laidOutB Try.prog = true := by kernel_rfl
theorem keyRow66 : (66 : TypeId) < Try.prog.types.size := of_decide_eq_true (by kernel_rfl)
theorem keyWide66 : (match Try.prog.underlying 66 with | some (.array _ _) | some (.struct _) => true | _ => false) = true := by rw [Try.underlying66]
theorem keyDeep66 : Try.prog.keyTypeAt 2 66 = true := by kernel_rfl
set_option maxRecDepth 100000 in
theorem lawSlot : Maps.Keyed Try.prog 66 := Maps.Keyed.of_law (deep_law_laid laidOut_ (m := 2) (by omega) keyRow66 keyDeep66 keyWide66)
theorem keyType66 : Try.prog.keyType 66 = true := by kernel_rfl
theorem typesSize : Try.prog.types.size = 197 := by kernel_rfl
theorem cells66 : Try.prog.cellsOf 66 = 2 := by kernel_rfl
theorem cells3 : Try.prog.cellsOf 3 = 1 := by kernel_rfl
theorem key_two {P : Program} {k e : TypeId} {f0 f1 : Field} (hu : P.underlying k = some (.struct #[f0, f1])) (he : P.underlying e = some (.int .i64)) (hc : P.cellsOf k = 2) (hce : P.cellsOf e = 1) (hk : P.keyType k = true)
    (h0 : f0.type = e) (h1 : f1.type = e) (o0 : f0.offset = 0) (o1 : f1.offset = 1) (n0 : (f0.name != "_") = true) (n1 : (f1.name != "_") = true)
    (a b : Int) (ha : (Lit.int .i64 a).wf = true) (hb : (Lit.int .i64 b).wf = true) (hs : 0 < P.types.size) : ∃ l, keyOf P k (.agg #[.int .i64 a, .int .i64 b]) = some l := by
  obtain ⟨d, hd⟩ : ∃ d, P.types.size = d + 1 := ⟨P.types.size - 1, by omega⟩
  refine ⟨.string (keyBytes [.int .i64 a, .int .i64 b]), ?_⟩
  have hi : ∀ n : Int, (Lit.int .i64 n).wf = true → P.keyLits (d + 1) e [.int .i64 n] = some [.int .i64 n] := fun n hn => by
    unfold Program.keyLits; simp [he, hn]
  have hs2 : P.keyLits (d + 1 + 1) k [.int .i64 a, .int .i64 b] = some [.int .i64 a, .int .i64 b] := by
    unfold Program.keyLits
    simp [hu, hc, h0, h1, o0, o1, hce, hi a ha, hi b hb]
    exact ⟨by simpa using n0, by simpa using n1⟩
  simp [keyOf, hu, hk, Value.formed, hc, Value.cells, hd, hs2]
theorem fields66 : ∃ f0 f1 : Field, Try.prog.underlying 66 = some (.struct #[f0, f1]) ∧ f0.type = 3 ∧ f1.type = 3 ∧ f0.offset = 0 ∧ f1.offset = 1 ∧ (f0.name != "_") = true ∧ (f1.name != "_") = true :=
  ⟨_, _, Try.underlying66, rfl, rfl, rfl, rfl, by decide, by decide⟩
theorem key_slot (a b : Int) (ha : (Lit.int .i64 a).wf = true) (hb : (Lit.int .i64 b).wf = true) : ∃ l, keyOf Try.prog 66 (.agg #[.int .i64 a, .int .i64 b]) = some l := by
  obtain ⟨f0, f1, hu, h0, h1, o0, o1, n0, n1⟩ := fields66
  exact key_two hu Try.underlying3 cells66 cells3 keyType66 h0 h1 o0 o1 n0 n1 a b ha hb (by rw [typesSize]; omega)
theorem lawInt : Maps.Keyed Try.prog 3 := Maps.int_keyed Try.underlying3
theorem key_int (a : Int) (ha : (Lit.int .i64 a).wf = true) : ∃ l, keyOf Try.prog 3 (.int .i64 a) = some l := ⟨_, Maps.keyOf_int_mk Try.underlying3 ha⟩
theorem zero3 (w : World) : (zeroValue 3).run Try.prog w = .ok (.int .i64 0) w := by kernel_rfl
theorem zero66 (w : World) : (zeroValue 66).run Try.prog w = .ok (.agg #[.int .i64 0, .int .i64 0]) w := by kernel_rfl
def vSlot (s : Int × Int) : Value := .agg #[.int .i64 s.1, .int .i64 s.2]
def vInt (n : Int) : Value := .int .i64 n
theorem vSlot_inj (x y : Int × Int) (h : vSlot x = vSlot y) : x = y := by
  obtain ⟨a, b⟩ := x; obtain ⟨c, d⟩ := y
  simp [vSlot] at h; simp [h]
theorem vInt_inj (x y : Int) (h : vInt x = vInt y) : x = y := by simpa [vInt] using h
end Go.Proofs.Ytcffhfcjfjfokaa
