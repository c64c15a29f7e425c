/- LentM Maps Keys Sound, joined. -/
import Derived.Maps.OwnOps
import Derived.DeepKeys4
import Derived.Test.YtcffhfcjfjfokaaSu3
import Derived.Test.YtcffhfcjfjfokaaSu17
set_option linter.unusedVariables false
set_option linter.unusedSimpArgs false
namespace Go.Proofs.Ytcffhfcjfjfokaa
open Go Go.RowKit
theorem bs93z (W : World) : (Instr.buildSlice 93 0 #[]).run Try.prog W = .ok (.slice (some ⟨W.heap.size, 0, none⟩) 0 0) (W.alloc (.cells #[] 168)) := by kernel_rfl
theorem info168 : (Try.prog.info? 168).map (fun i => (i.zero, i.size, i.bytes)) = some (some (.agg #[.int .i64 0, .int .i64 0, .int .i64 0]), 3, 24) := by kernel_rfl
theorem info93z : (Try.prog.info? 93).map (fun i => (i.zero, i.size, i.bytes)) = some (some (.slice none 0 0), 1, 24) := by kernel_rfl
theorem bld168 (W : World) (n : Int) : (Instr.build 168 #[(0, .int .i64 n)]).run Try.prog W = .ok (.agg #[.int .i64 n, .int .i64 0, .int .i64 0]) W := by kernel_rfl
theorem bs93b (W : World) (n : Int) : (Instr.buildSlice 93 1 #[(0, .agg #[.int .i64 n, .int .i64 0, .int .i64 0])]).run Try.prog W = .ok (.slice (some ⟨W.heap.size, 0, none⟩) 1 1) (W.alloc (.cells #[.int .i64 n, .int .i64 0, .int .i64 0] 168)) := by kernel_rfl
theorem bs145 (W : World) (A : Option Addr) (n c : Nat) : (Instr.buildSlice 145 1 #[(0, .slice A n c)]).run Try.prog W = .ok (.slice (some ⟨W.heap.size, 0, none⟩) 1 1) (W.alloc (.cells #[.slice A n c] 93)) := by kernel_rfl
theorem RowAt.map {α β : Type} {w : World} {N sz : Nat} {enc : β → List Value} {enc' : α → List Value} {A : Option Addr} {l : List α} (g : α → β) (he : ∀ a, enc (g a) = enc' a) (h : RowAt w N sz enc' A l) : RowAt w N sz enc A (l.map g) := fun h0 => by
  obtain ⟨b, off, e, hb, hc⟩ := h (by simpa using h0)
  refine ⟨b, off, e, hb, fun k x hk => ?_⟩
  rw [List.getElem?_map] at hk
  cases hl : l[k]? with
  | none => rw [hl] at hk; cases hk
  | some a => rw [hl] at hk; injection hk with hk; subst hk; rw [he]; exact hc k a hl
theorem RowAt.unmap {α β : Type} {w : World} {N sz : Nat} {enc : β → List Value} {enc' : α → List Value} {A : Option Addr} {l : List α} (g : α → β) (he : ∀ a, enc (g a) = enc' a) (h : RowAt w N sz enc A (l.map g)) : RowAt w N sz enc' A l := fun h0 => by
  obtain ⟨b, off, e, hb, hc⟩ := h (by simpa using h0)
  refine ⟨b, off, e, hb, fun k x hk => ?_⟩
  rw [← he]
  exact hc k (g x) (by rw [List.getElem?_map, hk]; rfl)
set_option maxRecDepth 100000 in
set_option maxHeartbeats 4000000 in
theorem lentMems_any {w : World} {base lb : Nat} {x : LtX} {C : Option Addr} {cC N : Nat} {who : List (Int × Int × Int)} (h : Lt w base lb x) (hp : x.m.P.length ≤ 1000000000) (hN : N ≤ w.heap.size) (hC : RowAt w N 3 eM3 C who) (hl : who.length ≤ 1048576) : Calls Try.prog 80 #[.pointer (some ⟨lb, 0, none⟩), .slice C who.length cC] w fun e w' => Fx (lb :: (blk x.m.L).toList) w w' ∧ Below lb w w' ∧ ∃ A c L cL r, e = .returned (.slice A who.length c) ∧ Lt w' base lb { x with m := ⟨L, cL, x.m.P ++ [r]⟩ } ∧ RowAt w' w'.heap.size 3 eM3 A who ∧ who.length ≤ c ∧ c ≤ 9223372036854775807 ∧ ∀ q, LnB (⟨L, cL, x.m.P ++ [r]⟩ : LX (Int × Int × Int)) q → LnB x.m q ∨ w.heap.size ≤ q := by
  refine calls_vc tab_ok Try.func80 rfl ?_
  have hz := h.hz
  have hbz := h.z
  repeat ((conv => whnf); first | (refine VCmp.tt (by omega) ?_) | (refine VCmp.ff (by omega) ?_) | (refine VIn.mk (IntWalk.i64_in _ (by omega)) ?_) | (refine VIdx.mk _ rfl (by omega) ?_) | (refine VIdx.mk 0 rfl (by omega) ?_))
  try (conv => whnf)
  refine VBs.mk _ _ (bs93z w) ?_
  have c1 : Below w.heap.size w (w.alloc (.cells #[] 168)) := (Below.refl _ _).alloc (Nat.le_refl _) _
  have z1 : (w.alloc (.cells #[] 168)).heap.size = w.heap.size + 1 := by simp
  generalize w.alloc (.cells #[] 168) = w1 at c1 z1 ⊢
  repeat ((conv => whnf); first | (refine VCmp.tt (by omega) ?_) | (refine VCmp.ff (by omega) ?_) | (refine VIn.mk (IntWalk.i64_in _ (by omega)) ?_) | (refine VIdx.mk _ rfl (by omega) ?_) | (refine VIdx.mk 0 rfl (by omega) ?_))
  try (conv => whnf)
  refine VApp.rowsW w.heap.size 3 24 _ Try.underlying93 info168 rfl (by decide) eM3 len_eM3 one_eM3 ([] : List (Int × Int × Int)) who rfl ⟨Nat.zero_le _, fun h => absurd h (by omega)⟩ (hC.below c1 hN) (by omega) (by omega) (by omega) fun E cE w2 oE hgE hkE => ?_
  have c2 : Below w.heap.size w w2 := c1.grown hgE (by omega) (fun k hk => by cases hk)
  repeat ((conv => whnf); first | (refine VCmp.tt (by omega) ?_) | (refine VCmp.ff (by omega) ?_) | (refine VIn.mk (IntWalk.i64_in _ (by omega)) ?_) | (refine VIdx.mk _ rfl (by omega) ?_) | (refine VIdx.mk 0 rfl (by omega) ?_))
  try (conv => whnf)
  refine VLoop.mk (Nat × Option Addr × Nat) (fun u => [(0, .pointer (some ⟨lb, 0, none⟩)), (1, .slice C who.length cC), (5, .slice u.2.1 (who.length + u.1) u.2.2), (6, .int .i64 u.1)]) (fun u W => u.1 ≤ 64 ∧ Below w.heap.size w W ∧ OwnW W w.heap.size 168 3 eM3 u.2.1 u.2.2 (who ++ (List.range u.1).map lkM)) (fun u => 64 - u.1) (0, E, cE) ⟨rfl, rfl, rfl, rfl, trivial⟩ ⟨Nat.zero_le _, c2, by simpa using oE⟩ ?_
  clear oE c2 hgE hkE
  rintro ⟨j, A, c⟩ wj ⟨hj, bj, O⟩
  dsimp only at hj O ⊢
  have zj := bj.size
  have hO := O.len
  have hOc := O.cap
  rw [List.length_append, List.length_map, List.length_range] at hO
  by_cases hjl : j < 64
  case pos =>
    repeat ((conv => whnf); first | (refine VCmp.tt (by omega) ?_) | (refine VCmp.ff (by omega) ?_) | (refine VIn.mk (IntWalk.i64_in _ (by omega)) ?_) | (refine VIdx.mk _ rfl (by omega) ?_) | (refine VIdx.mk 0 rfl (by omega) ?_))
    try (conv => whnf)
    refine VBuild.mk _ (fun W => bld168 W (-700 - (j : Int))) ?_
    repeat ((conv => whnf); first | (refine VCmp.tt (by omega) ?_) | (refine VCmp.ff (by omega) ?_) | (refine VIn.mk (IntWalk.i64_in _ (by omega)) ?_) | (refine VIdx.mk _ rfl (by omega) ?_) | (refine VIdx.mk 0 rfl (by omega) ?_))
    try (conv => whnf)
    refine VBs.mk _ _ (bs93b wj (-700 - (j : Int))) ?_
    have d1 : Below wj.heap.size wj (wj.alloc (.cells #[.int .i64 (-700 - (j : Int)), .int .i64 0, .int .i64 0] 168)) := (Below.refl _ _).alloc (Nat.le_refl _) _
    have hr1 := row_new wj 168 3 eM3 (lkM j) #[.int .i64 (-700 - (j : Int)), .int .i64 0, .int .i64 0] rfl
    generalize wj.alloc (.cells #[.int .i64 (-700 - (j : Int)), .int .i64 0, .int .i64 0] 168) = w3 at d1 hr1 ⊢
    have z3 := d1.size
    repeat ((conv => whnf); first | (refine VCmp.tt (by omega) ?_) | (refine VCmp.ff (by omega) ?_) | (refine VIn.mk (IntWalk.i64_in _ (by omega)) ?_) | (refine VIdx.mk _ rfl (by omega) ?_) | (refine VIdx.mk 0 rfl (by omega) ?_))
    try (conv => whnf)
    refine VApp.more w.heap.size 3 24 _ Try.underlying93 info168 rfl (by decide) eM3 len_eM3 one_eM3 (who ++ (List.range j).map lkM) [lkM j] (by simp) rfl (O.below d1) hr1 (by omega) (by omega) (by omega) fun A2 c2 w4 oA hgA hkA => ?_
    have b4 : Below w.heap.size w w4 := (bj.trans (d1.mono zj)).grown hgA (by omega) (fun k hk => ((O.below d1).lo k hk).1)
    repeat ((conv => whnf); first | (refine VCmp.tt (by omega) ?_) | (refine VCmp.ff (by omega) ?_) | (refine VIn.mk (IntWalk.i64_in _ (by omega)) ?_) | (refine VIdx.mk _ rfl (by omega) ?_) | (refine VIdx.mk 0 rfl (by omega) ?_))
    try (conv => whnf)
    refine .mk (j + 1, A2, c2) ⟨rfl, rfl, rfl, rfl, trivial⟩ ⟨hjl, b4, ?_⟩ (by show 64 - (j + 1) < 64 - j; omega)
    dsimp only
    rw [mapRange_succ, ← List.append_assoc]
    exact oA
  case neg =>
    have hj64 : j = 64 := by omega
    subst hj64
    have B := h.below bj
    have L1 : Ld Try.prog 145 lb 2 (Eq wj) (.slice x.m.L x.m.P.length x.m.c) := .of (load_cell (by kernel_rfl) (B.r 2 _ rfl))
    have ho := O.own (by omega)
    repeat ((conv => whnf); first | (refine VLoad.mk _ L1 ?_) | (refine VCmp.tt (by omega) ?_) | (refine VCmp.ff (by omega) ?_) | (refine VIn.mk (IntWalk.i64_in _ (by omega)) ?_) | (refine VIdx.mk _ rfl (by omega) ?_) | (refine VIdx.mk 0 rfl (by omega) ?_))
    try (conv => whnf)
    refine VBs.mk _ _ (bs145 wj A (who.length + 64) c) ?_
    have d1 : Below wj.heap.size wj (wj.alloc (.cells #[.slice A (who.length + 64) c] 93)) := (Below.refl _ _).alloc (Nat.le_refl _) _
    have hr1 := row_new wj 93 1 eTr (A, who.length + 64, c) #[.slice A (who.length + 64) c] rfl
    generalize wj.alloc (.cells #[.slice A (who.length + 64) c] 93) = w3 at d1 hr1 ⊢
    have z3 := d1.size
    have hl1 := B.m.l.keep d1 fun k hk => (B.m.l.lo k hk).2
    have er : rowT (⟨A, c, who ++ (List.range 64).map lkM⟩ : RowX (Int × Int × Int)) = (A, who.length + 64, c) := by unfold rowT; simp
    repeat ((conv => whnf); first | (refine VCmp.tt (by omega) ?_) | (refine VCmp.ff (by omega) ?_) | (refine VIn.mk (IntWalk.i64_in _ (by omega)) ?_) | (refine VIdx.mk _ rfl (by omega) ?_) | (refine VIdx.mk 0 rfl (by omega) ?_))
    try (conv => whnf)
    refine VApp.rows base 1 24 _ Try.underlying145 info93z rfl (by decide) eTr len_eTr one_eTr (x.m.P.map rowT) [(A, who.length + 64, c)] (by rw [List.length_map]) rfl hl1 hr1 (by omega) (by omega) (by omega) fun L2 cL2 w4 ho2 hg2 hk2 => ?_
    have hs2 : w4.heap[lb]? = wj.heap[lb]? := (hg2.block lb (by omega) (fun e => by have := (hl1.lo lb e.symm).1; omega)).trans (d1.block lb (by omega))
    have t2 := there_same B.t hs2
    have r2 := range_same B.r hs2
    repeat ((conv => whnf); first | (refine VCmp.tt (by omega) ?_) | (refine VCmp.ff (by omega) ?_) | (refine VIn.mk (IntWalk.i64_in _ (by omega)) ?_) | (refine VIdx.mk _ rfl (by omega) ?_) | (refine VIdx.mk 0 rfl (by omega) ?_))
    try (conv => whnf)
    refine VStore.cell (by kernel_rfl) (t2 2 (by omega)).1 (t2 2 (by omega)).2 rfl rfl fun w5 hw5 => ?_
    have g3 : w4.grownBy w5 (some lb) := by rw [hw5.out]; exact grown_cell _ _ _ _
    have ho' : Owns wj base 168 3 eM3 A c (who ++ (List.range 64).map lkM) := ho.base (by omega)
    have ho1 := ho'.keep d1 fun k hk => (ho'.lo k hk).2
    have B3 := B.m.push (by decide) d1 (r := ⟨A, c, who ++ (List.range 64).map lkM⟩) ho1 (MkAt.of _ _) (by rw [er]; exact ho2) hg2 g3 hz
    have b5 : Below lb w w5 := (((bj.trans (d1.mono zj)).mono (by omega)).grown hg2 (by omega) (fun q hq => by have := (hl1.lo q hq).1; omega)).grown g3 (by have := hg2.size; omega) (fun q hq => by injection hq with hq; omega)
    have z5 : base ≤ w5.heap.size := by have := hg2.size; have := g3.size; omega
    have r5 : w5.rangeAt lb 0 (lxC x.i ++ lxC x.y ++ lxC (⟨L2, cL2, x.m.P ++ [⟨A, c, who ++ (List.range 64).map lkM⟩]⟩ : LX (Int × Int × Int)) ++ lxC x.d) := by
      have := rng_put (o := 2) (vs := [.slice L2 (x.m.P.length + 1) cL2]) r2 t2 (by simp [lxC]) (by simp)
      rw [hw5.out]
      unfold lxC at this ⊢
      dsimp only
      rw [List.length_append]
      exact this
    have t5 : w5.there lb 0 4 := by rw [hw5.out]; exact there_set t2 _ _
    have oA : Owns w5 base 168 3 eM3 A c (who ++ (List.range 64).map lkM) := B3.o _ (List.mem_append.2 (.inr (List.mem_singleton.2 rfl)))
    have f5 : Fx (lb :: (blk x.m.L).toList) w w5 := ((Fx.below (S := lb :: (blk x.m.L).toList) (bj.trans (d1.mono zj))).trans (.grown (S := (blk x.m.L).toList) hg2 fun q hq => by rw [hq]; simp) fun q hq => .inl (List.mem_cons_of_mem _ hq)).trans (.grown (S := [lb]) g3 fun q hq => by injection hq with hq; subst hq; exact List.mem_singleton.2 rfl) fun q hq => .inl (by obtain rfl := List.mem_singleton.1 hq; exact List.mem_cons_self ..)
    repeat ((conv => whnf); first | (refine VSl.cutTo (by omega) ?_) | (refine VCmp.tt (by omega) ?_) | (refine VCmp.ff (by omega) ?_) | (refine VIn.mk (IntWalk.i64_in _ (by omega)) ?_) | (refine VIdx.mk _ rfl (by omega) ?_) | (refine VIdx.mk 0 rfl (by omega) ?_))
    try (conv => whnf)
    refine .mk ⟨f5, b5, A, c, L2, cL2, _, rfl, ⟨B.i.beside B.m (by decide) (by decide) d1 hg2 g3 hz, B.y.beside B.m (by decide) (by decide) d1 hg2 g3 hz, B3, B.d.beside B.m (by decide) (by decide) d1 hg2 g3 hz, r5, t5, hz, z5⟩, row_front (oA.row len_eM3), by omega, by omega, fun q hq => ?_⟩
    rcases hq with e | ⟨s, hs, e⟩
    · rcases hk2 with e2 | e2
      · exact .inl (.inl (e2.symm.trans e))
      · right; dsimp only at e; rw [e2] at e; injection e with e; omega
    · rcases List.mem_append.1 hs with hs | hs
      · exact .inl (.inr ⟨s, hs, e⟩)
      · obtain rfl := List.mem_singleton.1 hs
        exact .inr (ho.lo q e).1
end Go.Proofs.Ytcffhfcjfjfokaa
namespace Go.Proofs.Ytcffhfcjfjfokaa
open Go.RowKit
open Go.Maps (Keyed)
def MapsTo {κ ν : Type} (w : World) (P : Program) (K : TypeId) (b n : Nat) (ek : κ → Value) (ev : ν → Value) (f : κ → Option ν) : Prop :=
  ∃ es clock, w.heap[b]? = some (.map es clock) ∧ es.size ≤ n ∧
    (∀ e ∈ es.toList, ∃ k v, e.key = ek k ∧ e.val = ev v ∧ f k = some v ∧ ∃ l, keyOf P K (ek k) = some l) ∧
    (∀ k v, f k = some v → ∃ e ∈ es.toList, e.key = ek k) ∧ es.toList.Pairwise (fun a b => a.key ≠ b.key)
section
variable {κ ν : Type} {w w' : World} {P : Program} {K e t : TypeId} {b n : Nat} {ek : κ → Value} {ev : ν → Value} {f : κ → Option ν}
theorem mapsTo_made (w : World) (P : Program) (K : TypeId) (ek : κ → Value) (ev : ν → Value) : MapsTo (w.alloc (.map #[] 0)) P K w.heap.size 0 ek ev (fun _ => none) :=
  ⟨#[], 0, (MapKept.heap_alloc w _).1, Nat.le_refl _, by simp, by simp, by simp⟩
theorem MapsTo.mono (h : MapsTo w P K b n ek ev f) {n' : Nat} (hn : n ≤ n') : MapsTo w P K b n' ek ev f := by
  obtain ⟨es, clock, h1, h2, h3⟩ := h
  exact ⟨es, clock, h1, by omega, h3⟩
theorem MapsTo.lt (h : MapsTo w P K b n ek ev f) : b < w.heap.size := by
  obtain ⟨es, clock, hb, _⟩ := h
  exact (Array.getElem?_eq_some_iff.1 hb).1
theorem MapsTo.keep {B : Nat} (h : MapsTo w P K b n ek ev f) (hb : Below B w w') (hB : b < B) : MapsTo w' P K b n ek ev f := by
  obtain ⟨es, clock, h1, h2⟩ := h
  exact ⟨es, clock, (hb.block b hB).trans h1, h2⟩
theorem MapsTo.kept {row : Option Nat} (h : MapsTo w P K b n ek ev f) (hg : w.grownBy w' row) (hne : some b ≠ row) : MapsTo w' P K b n ek ev f := by
  have hlt := h.lt
  obtain ⟨es, clock, h1, h2⟩ := h
  exact ⟨es, clock, (hg.block b hlt hne).trans h1, h2⟩
theorem MapsTo.alloc (h : MapsTo w P K b n ek ev f) (o : Obj) : MapsTo (w.alloc o) P K b n ek ev f := h.kept (World.grownBy_alloc w o none) (by simp)
theorem MapsTo.drewN (h : MapsTo w P K b n ek ev f) (k : Nat) : MapsTo (w.drewN k) P K b n ek ev f := h
theorem MapsTo.setCell (h : MapsTo w P K b n ek ev f) {a : Addr} (ha : a.block ≠ b) (u : Value) : MapsTo (w.setCell a u) P K b n ek ev f := by
  obtain ⟨es, clock, h1, h2⟩ := h
  exact ⟨es, clock, (Below.heap_setCell w a u b (fun e => ha e.symm)).trans h1, h2⟩
theorem MapsTo.look (h : MapsTo w P K b n ek ev f) (L : Keyed P K) (hinj : ∀ x y, ek x = ek y → x = y) (ht : P.underlying t = some (.map K e)) {z : Value} (hz : (zeroValue e).run P w = .ok z w) (c : Bool)
    (k : κ) (hk : ∃ l, keyOf P K (ek k) = some l) :
    (Instr.lookup t (.map (some b)) (ek k) c).run P w = .ok (if c then .tuple #[(match f k with | some v => ev v | none => z), .bool (f k).isSome] else (match f k with | some v => ev v | none => z)) w := by
  obtain ⟨l, hl⟩ := hk
  obtain ⟨es, clock, hb, _, h1, h2, h3⟩ := h
  rcases L.find w hl es.toList (fun x hx => by obtain ⟨k', v, hk', _, _, hl'⟩ := h1 x hx; rw [hk']; exact hl') with ⟨r1, r2⟩ | ⟨j, e0, r1, r2, r3⟩
  · have hf : f k = none := by
      cases hfk : f k with
      | none => rfl
      | some v => obtain ⟨x, hx, he⟩ := h2 k v hfk; exact absurd he (r2 x hx)
    rw [hf]
    simp [Instr.lookup, run_underlying ht, MapKept.run_getObj_map hb, L.check w _ hl, r1, hz, Result.andThen]
  · obtain ⟨k', v, hk', hv, hfv, _⟩ := h1 e0 (List.mem_of_getElem? r2)
    have hkk : k' = k := hinj _ _ (hk'.symm.trans r3)
    subst hkk
    rw [hfv, hv] at *
    simp [Instr.lookup, run_underlying ht, MapKept.run_getObj_map hb, L.check w _ hl, r1, hv, Result.andThen]
theorem MapsTo.put [DecidableEq κ] (h : MapsTo w P K b n ek ev f) (L : Keyed P K) (hinj : ∀ x y, ek x = ek y → x = y) (ht : P.underlying t = some (.map K e)) (k : κ) (v : ν) (hk : ∃ l, keyOf P K (ek k) = some l) :
    ∃ w', (Instr.mapUpdate t (.map (some b)) (ek k) (ev v)).run P w = .ok () w' ∧ MapsTo w' P K b (n + 1) ek ev (fun y => if y = k then some v else f y) ∧ w.grownBy w' (some b) := by
  have hlt := h.lt
  obtain ⟨l, hl⟩ := hk
  obtain ⟨es, clock, hb, hn, h1, h2, h3⟩ := h
  have grown : ∀ o : Obj, w.grownBy (ChangeMaps.setBlock w b o) (some b) := fun o =>
    ⟨rfl, rfl, rfl, by simp [ChangeMaps.setBlock], fun i hi hne => by simp only [ChangeMaps.setBlock]; rw [Array.getElem?_setIfInBounds_ne (by rintro rfl; exact hne rfl)]⟩
  have at_ : ∀ o : Obj, (ChangeMaps.setBlock w b o).heap[b]? = some o := fun o => by simp [ChangeMaps.setBlock, hlt]
  rcases L.find w hl es.toList (fun x hx => by obtain ⟨k', v, hk', _, _, hl'⟩ := h1 x hx; rw [hk']; exact hl') with ⟨r1, r2⟩ | ⟨j, e0, r1, r2, r3⟩
  · refine ⟨ChangeMaps.setBlock w b (.map (es.push ⟨ek k, ev v, clock⟩) (clock + 1)), ?_, ⟨es.push ⟨ek k, ev v, clock⟩, clock + 1, at_ _, by simp; omega, ?_, ?_, ?_⟩, grown _⟩
    · simp [Instr.mapUpdate, run_underlying ht, MapKept.run_getObj_map hb, L.check w false hl, r1, MapKept.run_setObj_map _ hb, Result.andThen, ChangeMaps.setBlock]
    · intro x hx
      simp only [Array.toList_push, List.mem_append, List.mem_singleton] at hx
      rcases hx with hx | rfl
      · obtain ⟨k', v', hk', hv', hf', hl'⟩ := h1 x hx
        refine ⟨k', v', hk', hv', ?_, hl'⟩
        show (if k' = k then some v else f k') = some v'
        rw [if_neg (fun he => r2 x hx (by rw [hk', he]))]; exact hf'
      · exact ⟨k, v, rfl, rfl, if_pos rfl, l, hl⟩
    · intro k' v' hf'
      replace hf' : (if k' = k then some v else f k') = some v' := hf'
      by_cases hkk : k' = k
      · subst hkk; exact ⟨⟨ek k', ev v, clock⟩, by simp, rfl⟩
      · rw [if_neg hkk] at hf'
        obtain ⟨x, hx, he⟩ := h2 k' v' hf'
        exact ⟨x, by simp [Array.mem_toList_iff.1 hx], he⟩
    · rw [Array.toList_push, List.pairwise_append]
      exact ⟨h3, by simp, fun x hx y hy => by simp at hy; subst hy; exact r2 x hx⟩
  · have hj : es[j]? = some e0 := by simpa using r2
    have hjl : j < es.size := (Array.getElem?_eq_some_iff.1 hj).1
    have hmod : (es.modify j fun e => { e with key := ek k, val := ev v }).toList = es.toList.set j { e0 with key := ek k, val := ev v } := by
      apply List.ext_getElem?
      intro i
      rw [Array.getElem?_toList, Array.getElem?_modify, List.getElem?_set]
      by_cases hij : j = i
      · subst hij; simp [hj, hjl]; rw [(Array.getElem?_eq_some_iff.1 hj).2]
      · simp [hij]
    have hkeyj : ∀ i x, es.toList[i]? = some x → x.key = ek k → i = j := by
      intro i x hx hxk
      have hi : i < es.toList.length := (List.getElem?_eq_some_iff.1 hx).1
      rcases Nat.lt_trichotomy i j with h | h | h
      · exfalso
        rw [List.pairwise_iff_getElem] at h3
        have := h3 i j hi (by simpa using hjl) h
        rw [(List.getElem?_eq_some_iff.1 hx).2, (List.getElem?_eq_some_iff.1 r2).2] at this
        exact this (by rw [hxk, r3])
      · exact h
      · exfalso
        rw [List.pairwise_iff_getElem] at h3
        have := h3 j i (by simpa using hjl) hi h
        rw [(List.getElem?_eq_some_iff.1 hx).2, (List.getElem?_eq_some_iff.1 r2).2] at this
        exact this (by rw [hxk, r3])
    refine ⟨ChangeMaps.setBlock w b (.map (es.modify j fun e => { e with key := ek k, val := ev v }) clock), ?_, ⟨_, clock, at_ _, by simp; omega, ?_, ?_, ?_⟩, grown _⟩
    · simp [Instr.mapUpdate, run_underlying ht, MapKept.run_getObj_map hb, L.check w false hl, r1, hj, r3, L.stays w hl, MapKept.run_setObj_map _ hb, Result.andThen, ChangeMaps.setBlock]
    · intro x hx
      rw [hmod] at hx
      obtain ⟨i, hi, hxi⟩ := List.getElem_of_mem hx
      rw [List.getElem_set] at hxi
      by_cases hij : j = i
      · rw [if_pos hij] at hxi; subst hxi
        exact ⟨k, v, rfl, rfl, if_pos rfl, l, hl⟩
      · rw [if_neg hij] at hxi
        have hi' : i < es.toList.length := by simpa using hi
        have hmem : es.toList[i] ∈ es.toList := List.getElem_mem hi'
        obtain ⟨k', v', hk', hv', hf', hl'⟩ := h1 _ hmem
        rw [hxi] at hk' hv'
        refine ⟨k', v', hk', hv', ?_, hl'⟩
        show (if k' = k then some v else f k') = some v'
        rw [if_neg (fun he => hij (hkeyj i es.toList[i] (List.getElem?_eq_getElem hi') (by rw [hxi, hk', he])).symm)]; exact hf'
    · intro k' v' hf'
      replace hf' : (if k' = k then some v else f k') = some v' := hf'
      rw [hmod]
      by_cases hkk : k' = k
      · subst hkk
        exact ⟨{ e0 with key := ek k', val := ev v }, List.mem_iff_getElem?.2 ⟨j, by rw [List.getElem?_set]; simp [hjl]⟩, rfl⟩
      · rw [if_neg hkk] at hf'
        obtain ⟨x, hx, he⟩ := h2 k' v' hf'
        obtain ⟨i, hi, rfl⟩ := List.getElem_of_mem hx
        have hij : j ≠ i := by
          rintro rfl
          have : es.toList[j] = e0 := by have := (List.getElem?_eq_some_iff.1 r2).2; exact this
          rw [this, r3] at he
          exact hkk (hinj _ _ he).symm
        exact ⟨es.toList[i], List.mem_iff_getElem?.2 ⟨i, by rw [List.getElem?_set_ne hij]; exact List.getElem?_eq_getElem hi⟩, he⟩
    · rw [hmod, List.pairwise_iff_getElem]
      rw [List.pairwise_iff_getElem] at h3
      intro a c ha hc hac
      have ha' : a < es.toList.length := by simpa using ha
      have hc' : c < es.toList.length := by simpa using hc
      have := h3 a c ha' hc' hac
      rw [List.getElem_set, List.getElem_set]
      have ej : es.toList[j]'(by simpa using hjl) = e0 := (List.getElem?_eq_some_iff.1 r2).2
      by_cases h1 : j = a
      · subst h1
        rw [if_pos rfl, if_neg (by omega)]
        rw [ej] at this; intro he; exact this (by rw [r3]; exact he)
      · rw [if_neg h1]
        by_cases h2 : j = c
        · subst h2
          rw [if_pos rfl]
          rw [ej] at this; intro he; exact this (by rw [r3]; exact he)
        · rw [if_neg h2]; exact this
end
theorem wpList_put {κ ν : Type} [DecidableEq κ] {P : Program} (w : World) {ops : Array Oper} {rest : List Oper} {o : Oper} {a : Act} {Q : Exit → Act → World → Prop}
    (hg : o.guard = none) (m x v : Operand) (t : TypeId) (hop : o.op = Op.mapUpdate t m x v)
    (K e : TypeId) (L : Keyed P K) (ht : P.underlying t = some (.map K e)) (b n : Nat) (ek : κ → Value) (ev : ν → Value) (hinj : ∀ x y, ek x = ek y → x = y) (f : κ → Option ν)
    (hm : a.eval m = .map (some b)) (hown : MapsTo w P K b n ek ev f) (key : κ) (val : ν) (hx : a.eval x = ek key) (hv : a.eval v = ev val) (hkey : ∃ l, keyOf P K (ek key) = some l)
    (hK : ∀ w', MapsTo w' P K b (n + 1) ek ev (fun y => if y = key then some val else f y) → w.grownBy w' (some b) → wpList P ops Q rest (a.put o.dst undef) w') :
    wpList P ops Q (o :: rest) a w := by
  refine wpList_plain hg fun K' hK' => ?_
  obtain ⟨w', hrun, r1, r2⟩ := hown.put L hinj ht key val hkey
  unfold Oper.wp
  simp [execOp, hop, hm, hx, hv, hrun, Result.andThen]
  exact hK' _ _ (hK w' r1 r2)
end Go.Proofs.Ytcffhfcjfjfokaa
namespace Go.Proofs.Ytcffhfcjfjfokaa
open Go.RowKit
theorem laidOut_ : laidOutB Try.prog = true := by kernel_rfl
theorem keyRow66 : (66 : TypeId) < Try.prog.types.size := of_decide_eq_true (by kernel_rfl)
theorem keyWide66 : (match Try.prog.underlying 66 with | some (.array _ _) | some (.struct _) => true | _ => false) = true := by rw [Try.underlying66]
theorem keyDeep66 : Try.prog.keyTypeAt 2 66 = true := by kernel_rfl
set_option maxRecDepth 100000 in
theorem lawSlot : Maps.Keyed Try.prog 66 := Maps.Keyed.of_law (deep_law_laid laidOut_ (m := 2) (by omega) keyRow66 keyDeep66 keyWide66)
theorem keyType66 : Try.prog.keyType 66 = true := by kernel_rfl
theorem typesSize : Try.prog.types.size = 197 := by kernel_rfl
theorem cells66 : Try.prog.cellsOf 66 = 2 := by kernel_rfl
theorem cells3 : Try.prog.cellsOf 3 = 1 := by kernel_rfl
theorem key_two {P : Program} {k e : TypeId} {f0 f1 : Field} (hu : P.underlying k = some (.struct #[f0, f1])) (he : P.underlying e = some (.int .i64)) (hc : P.cellsOf k = 2) (hce : P.cellsOf e = 1) (hk : P.keyType k = true)
    (h0 : f0.type = e) (h1 : f1.type = e) (o0 : f0.offset = 0) (o1 : f1.offset = 1) (n0 : (f0.name != "_") = true) (n1 : (f1.name != "_") = true)
    (a b : Int) (ha : (Lit.int .i64 a).wf = true) (hb : (Lit.int .i64 b).wf = true) (hs : 0 < P.types.size) : ∃ l, keyOf P k (.agg #[.int .i64 a, .int .i64 b]) = some l := by
  obtain ⟨d, hd⟩ : ∃ d, P.types.size = d + 1 := ⟨P.types.size - 1, by omega⟩
  refine ⟨.string (keyBytes [.int .i64 a, .int .i64 b]), ?_⟩
  have hi : ∀ n : Int, (Lit.int .i64 n).wf = true → P.keyLits (d + 1) e [.int .i64 n] = some [.int .i64 n] := fun n hn => by
    unfold Program.keyLits; simp [he, hn]
  have hs2 : P.keyLits (d + 1 + 1) k [.int .i64 a, .int .i64 b] = some [.int .i64 a, .int .i64 b] := by
    unfold Program.keyLits
    simp [hu, hc, h0, h1, o0, o1, hce, hi a ha, hi b hb]
    exact ⟨by simpa using n0, by simpa using n1⟩
  simp [keyOf, hu, hk, Value.formed, hc, Value.cells, hd, hs2]
theorem fields66 : ∃ f0 f1 : Field, Try.prog.underlying 66 = some (.struct #[f0, f1]) ∧ f0.type = 3 ∧ f1.type = 3 ∧ f0.offset = 0 ∧ f1.offset = 1 ∧ (f0.name != "_") = true ∧ (f1.name != "_") = true :=
  ⟨_, _, Try.underlying66, rfl, rfl, rfl, rfl, by decide, by decide⟩
theorem key_slot (a b : Int) (ha : (Lit.int .i64 a).wf = true) (hb : (Lit.int .i64 b).wf = true) : ∃ l, keyOf Try.prog 66 (.agg #[.int .i64 a, .int .i64 b]) = some l := by
  obtain ⟨f0, f1, hu, h0, h1, o0, o1, n0, n1⟩ := fields66
  exact key_two hu Try.underlying3 cells66 cells3 keyType66 h0 h1 o0 o1 n0 n1 a b ha hb (by rw [typesSize]; omega)
theorem zero3 (w : World) : (zeroValue 3).run Try.prog w = .ok (.int .i64 0) w := by kernel_rfl
def vSlot (s : Int × Int) : Value := .agg #[.int .i64 s.1, .int .i64 s.2]
def vInt (n : Int) : Value := .int .i64 n
theorem vSlot_inj (x y : Int × Int) (h : vSlot x = vSlot y) : x = y := by
  obtain ⟨a, b⟩ := x; obtain ⟨c, d⟩ := y
  simp [vSlot] at h; simp [h]
end Go.Proofs.Ytcffhfcjfjfokaa
namespace Go.Proofs.Ytcffhfcjfjfokaa
open Go.RowKit
set_option maxHeartbeats 2000000 in
theorem isound_no (f : Fl) (A B : Option Addr) (cA cB : Nat) (w : World)
    (hl1 : f.slots.length ≤ 9223372036854775807) (hl2 : f.have_.length ≤ 9223372036854775807) (hd : ¬ SoundHead f) :
    Calls Try.prog 115 #[.agg (flc f.e f.l f.i f.c f.base A f.slots.length cA B f.have_.length cB)] w fun x w' => x = .returned (.bool (soundB f)) ∧ Below w.heap.size w w' := by
  replace hd := Lib.hid hd
  go_enter Try.func115, Try.ntmps115
  go_wp2_with (first | (go_at_call 118; refine (whole_any _ _ _ _ _).mono ?_; rintro e w' ⟨rfl, hbw⟩; rw [World.size_alloc] at hbw; obtain ⟨hb0, hc, -, hsz⟩ := box1_facts hbw))
  all_goals first | (go_ret; go_light; exact ⟨ret_bool (sound_head hd.out), hb0⟩) | (exfalso; exact hd.out ⟨by assumption, by assumption, by assumption, by omega, by assumption, by omega⟩)
structure SeenTo (l : List (Int × Int)) (k : Nat) (F : Int × Int → Option Int) : Prop where
  pos : ∀ s v, F s = some v → 1 ≤ v ∧ ∃ j, j < k ∧ l[j]? = some s
  all : ∀ j s, j < k → l[j]? = some s → F s ≠ none
theorem seenTo_zero (l : List (Int × Int)) : SeenTo l 0 (fun _ => none) := ⟨(by intro s v h; cases h), (by intro j s hj; omega)⟩
theorem seenTo_succ {l : List (Int × Int)} {k : Nat} {F : Int × Int → Option Int} (h : SeenTo l k F) {s : Int × Int} (hs : l[k]? = some s) : SeenTo l (k + 1) (fun y => if y = s then some ((k : Int) + 1) else F y) := by
  constructor
  · intro y v hy
    by_cases hys : y = s
    · simp only [if_pos hys] at hy; cases hy; exact ⟨by omega, k, by omega, by rw [hys]; exact hs⟩
    · simp only [if_neg hys] at hy
      obtain ⟨a, j, hj, e⟩ := h.pos y v hy
      exact ⟨a, j, by omega, e⟩
  · intro j y hj hy
    by_cases hys : y = s
    · simp [if_pos hys]
    · simp only [if_neg hys]
      have : j ≠ k := by rintro rfl; rw [hs] at hy; cases hy; exact hys rfl
      exact h.all j y (by omega) hy
set_option maxRecDepth 100000 in
set_option maxHeartbeats 4000000 in
theorem isound_yes (f : Fl) (A B : Option Addr) (cA cB N : Nat) (w : World) (hN : N ≤ w.heap.size)
    (hA : RowAt w N 2 eSlot A f.slots) (hB : RowAt w N 1 eInt B f.have_) (hd : SoundHead f) :
    Calls Try.prog 115 #[.agg (flc f.e f.l f.i f.c f.base A f.slots.length cA B f.have_.length cB)] w fun x w' => x = .returned (.bool (soundB f)) ∧ Below w.heap.size w w' := by
  have hd' := Lib.hid hd
  have hmm := @run_makeMap Try.prog
  obtain ⟨h1, h2, h3, h4, h5, h6⟩ := hd
  go_enter Try.func115, Try.ntmps115
  go_wp2_with (first | (go_at_call 118; refine (whole_any _ _ _ _ _).mono ?_; rintro e w' ⟨rfl, hbw⟩; rw [World.size_alloc] at hbw; obtain ⟨hb0, hc, -, hsz⟩ := box1_facts hbw))
  go_loopw [45] (fun k wr => ∃ q : Nat, k = .int .i64 q ∧ q ≤ f.have_.length ∧ upto (fun x => 0 ≤ x ∧ x ≤ 4611686018427387904) f.have_ q ∧ w' = wr) (fun k _ => f.have_.length - (intOf k).toNat)
  case atStart => exact ⟨0, rfl, by omega, upto_zero _ _, rfl⟩
  case round =>
    obtain ⟨q, rfl, hq, hup, rfl⟩ := hrel
    by_cases hlt : q < f.have_.length
    · obtain ⟨g, o, x, rfl, hg, hx, hk⟩ := (hB.below hb0 hN).int hlt
      clear hA hB
      by_cases hbad : x < 0 ∨ 4611686018427387904 < x
      · have HB := Lib.hid hbad
        clear hbad
        go_wp2
        all_goals first | (go_ret; go_light; exact ⟨ret_bool (unsound_have hx.out HB.out), hb0⟩) | (exfalso; have := HB.out; omega)
      · have hb1 : 0 ≤ x := by omega
        have hb2 : x ≤ 4611686018427387904 := by omega
        clear hbad
        go_wp2
        go_roundw
        case rel => go_light; exact ⟨q + 1, by go_num, by omega, upto_succ hup (fun z hz => by rw [hx.out] at hz; cases hz; exact ⟨hb1, hb2⟩), trivial⟩
        case measure => go_light; simp [intOf]; omega
    · go_wp2
      have Hq : Hid (q = f.have_.length) := by show q = _; omega
      clear hlt hq
      have hm0 : MapsTo (w'.alloc (.map #[] 0)) Try.prog 66 w'.heap.size 0 vSlot vInt (fun _ => none) := mapsTo_made _ _ _ _ _
      have hB0 : Below (w.heap.size + 1) (box1 w (flc f.e f.l f.i f.c f.base A f.slots.length cA B f.have_.length cB) 39) (w'.alloc (.map #[] 0)) := hbw.alloc (by omega) _
      obtain ⟨bm, hbm⟩ : ∃ bm, bm = w'.heap.size := ⟨_, rfl⟩
      have hbl : w.heap.size + 1 ≤ bm := by omega
      rw [← hbm] at hm0 ⊢
      replace hbm := Lib.hid hbm
      clear hb0 hc hsz hbw
      go_loopw [60] (fun k wr => ∃ (p : Nat) (F : Int × Int → Option Int), k = .int .i64 p ∧ p ≤ f.slots.length ∧ upto (slotIn f.have_.length) f.slots p ∧ apartTo f.slots p ∧ SeenTo f.slots p F ∧ MapsTo wr Try.prog 66 bm p vSlot vInt F ∧ Below (w.heap.size + 1) (box1 w (flc f.e f.l f.i f.c f.base A f.slots.length cA B f.have_.length cB) 39) wr) (fun k _ => f.slots.length - (intOf k).toNat)
      case atStart => exact ⟨0, _, rfl, by omega, upto_zero _ _, apartTo_zero _, seenTo_zero _, hm0, hB0⟩
      case round =>
        obtain ⟨p, F, rfl, hp, hup2, hap, hseen, hm, hb⟩ := hrel
        obtain ⟨hb0, hc, -, hsz⟩ := box1_facts hb
        clear hm0 hB0
        by_cases hlt : p < f.slots.length
        · obtain ⟨g, o, x, y, rfl, hg, hx, hk, hk2⟩ := (hA.below hb0 hN).slot hlt
          have hgw : g < wr.heap.size := by omega
          have hbmw : bm < wr.heap.size := hm.lt
          by_cases hbad : slotIn f.have_.length (x, y)
          · have HB := Lib.hid hbad
            obtain ⟨i1, i2, i3, i4⟩ := hbad
            simp only at i1 i2 i3 i4
            have hkey : ∃ l, keyOf Try.prog 66 (vSlot (x, y)) = some l := key_slot x y (WalkArith.wf_i64 (by omega)) (WalkArith.wf_i64 (by omega))
            have hlook := (hm.alloc (.cells #[.int .i64 x, .int .i64 y] 66)).look lawSlot vSlot_inj Try.underlying121 (zero3 _) false (x, y) hkey
            clear hA hB
            cases hF : F (x, y) with
            | none =>
              rw [hF] at hlook
              simp only [vSlot] at hlook
              have HF := Lib.hid hF
              clear hF
              go_wp2_with (at_mapUpdate; refine wpList_put _ rfl (.tmp 90) (.tmp 91) (.tmp 93) 121 rfl 66 3 lawSlot Try.underlying121 bm p vSlot vInt vSlot_inj F rfl ?_ (x, y) ((p : Int) + 1) rfl rfl ?_ ?_)
              · exact hm.alloc _
              · exact hkey
              · intro w2 hm2 hg2
                have hb2 := (hb.alloc (by omega) (.cells #[.int .i64 x, .int .i64 y] 66)).grown hg2 (by simp only [World.size_alloc]; omega) (by intro k hk; cases hk; omega)
                clear hlook hm hb hb0 hc hk hk2 hg2
                go_wp2
                go_roundw
                case rel => go_light; exact ⟨p + 1, _, by go_num, by omega, upto_succ hup2 (fun z hz => by rw [hx.out] at hz; cases hz; exact HB.out), apartTo_succ hap (fun i z hi hz he => hseen.all i z hi hz (by rw [hx.out] at he; cases he; exact HF.out)), seenTo_succ hseen hx.out, hm2, hb2⟩
                case measure => go_light; simp [intOf]; omega
            | some v =>
              obtain ⟨hv1, j, hj, hjs⟩ := hseen.pos _ _ hF
              rw [hF] at hlook
              simp only [vSlot, vInt] at hlook
              have HF := Lib.hid hF
              have HJ := Lib.hid hjs
              clear hF hjs
              go_wp2
              go_ret
              go_light
              exact ⟨ret_bool (unsound_twice hx.out HJ.out hj (slotEq_iff.2 rfl)), hb0.alloc (by omega) _⟩
          · have HB := Lib.hid hbad
            clear hbad
            have HN : ∀ h : 0 ≤ x, x < (f.have_.length : Int) → 1 ≤ y → y ≤ 4611686018427387904 → False := fun a b c d => HB.out ⟨a, b, c, d⟩
            replace HN := Lib.hid HN
            clear hA hB
            go_wp2
            all_goals first | (go_ret; go_light; exact ⟨ret_bool (unsound_slot hx.out HB.out), (hb0.alloc (by omega) _)⟩) | (exfalso; exact HN.out (by assumption) (by assumption) (by assumption) (by omega))
        · go_wp2
          go_ret
          go_light
          exact ⟨ret_bool (sound_all hd'.out (by have := Hq.out; omega) (by omega) hup hup2 hap), hb0⟩
end Go.Proofs.Ytcffhfcjfjfokaa
