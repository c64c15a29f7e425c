/- OdC OdD OdE, joined. -/
import Derived.Test.YtoilipfgimcoiaaOe4
set_option linter.unusedVariables false
set_option linter.unusedSimpArgs false
namespace Go.Proofs.Ytoilipfgimcoiaa
open Go Go.RowKit
structure WfO (o : Os) : Prop where
  m0 : 0 < o.mem.length
  m16 : o.mem.length ≤ 16
  mlt : ∀ q ∈ o.mem, q < 16
  win : o.win ≤ 8
  self : o.self < 16
  sl : ∀ x ∈ o.slots, x.s < 16 ∧ x.q ≤ 1000000000
  qu : ∀ x ∈ o.queue, x.s < 16 ∧ x.q ≤ 1000000000
  ql : o.queue.length ≤ 1000000000
  ke : ∀ d ∈ o.held, d.s < 16 ∧ d.q ≤ 1000000000
  nd : (o.held.map Dt.sl).Nodup
  hq : ∀ d ∈ o.held, d.q ≤ o.taken d.s
  tk : ∀ s, o.taken s ≤ 1000000000
  pl : ∀ s, o.placed s ≤ 1000000000
  gn : ∀ s, o.gone s + o.slots.length ≤ 1000000000
  kn : o.known ≤ 1000000000
  dn : o.done ≤ 1000000000
  mi : o.mine ≤ 1000000000
theorem rise1_nil {o : Os} (h : o.slots = []) : o.rise1 = o := by unfold Os.rise1; rw [h]
theorem rise1_cons {o : Os} {s : Sl} {l : List Sl} (h : o.slots = s :: l) : o.rise1 = { o with slots := l, gone := upN o.gone s.s (o.gone s.s + 1), held := o.held.filter (fun d => decide (d.sl ≠ s)), pre := o.pre + 1 } := by unfold Os.rise1; rw [h]
theorem WfO.rise1 {o : Os} (h : WfO o) : WfO o.rise1 := by
  cases hs : o.slots with
  | nil => rw [rise1_nil hs]; exact h
  | cons s l =>
    rw [rise1_cons hs]
    have h1 := h.sl
    have h2 := h.gn
    have h3 := h.kn
    unfold Os.known at h3
    rw [hs] at h1 h3
    simp only [hs, List.length_cons] at h2 h3
    refine ⟨h.m0, h.m16, h.mlt, h.win, h.self, fun x hx => h1 x (List.mem_cons_of_mem _ hx), h.qu, h.ql, fun d hd => h.ke d (List.mem_filter.1 hd).1, ?_, fun d hd => h.hq d (List.mem_filter.1 hd).1, h.tk, h.pl, fun x => ?_, ?_, h.dn, h.mi⟩
    · exact List.Nodup.sublist (List.Sublist.map _ List.filter_sublist) h.nd
    · show upN o.gone s.s (o.gone s.s + 1) x + l.length ≤ _
      unfold upN
      split
      · have := h2 s.s; omega
      · have := h2 x; omega
    · show o.pre + 1 + l.length ≤ _; omega
theorem WfO.riseK {o : Os} (h : WfO o) : ∀ k, WfO (o.riseK k)
  | 0 => h
  | k + 1 => (h.riseK k).rise1
theorem WfO.new {o : Os} (h : WfO o) {s q : Nat} (hq : q = o.taken s + 1) : ∀ e ∈ o.held, e.sl ≠ ⟨s, q⟩ := fun e he h2 => by
  have h3 := h.hq e he
  have e1 : e.s = s := congrArg Sl.s h2
  have e2 : e.q = q := congrArg Sl.q h2
  rw [e1] at h3; omega
theorem WfO.rise {o : Os} (h : WfO o) (n : Nat) : WfO (o.rise n) := h.riseK _
theorem riseK_facts (o : Os) : ∀ k, k ≤ o.slots.length → (o.riseK k).pre = o.pre + k ∧ (o.riseK k).slots = o.slots.drop k ∧ (o.riseK k).known = o.known
  | 0, _ => ⟨rfl, rfl, rfl⟩
  | k + 1, hk => by
    obtain ⟨h1, h2, h3⟩ := riseK_facts o k (by omega)
    obtain ⟨s, l, hs⟩ : ∃ s l, o.slots.drop k = s :: l := by
      cases hd : o.slots.drop k with
      | nil => have := congrArg List.length hd; simp at this; omega
      | cons s l => exact ⟨s, l, rfl⟩
    have h4 : (o.riseK k).slots = s :: l := h2.trans hs
    have e : o.riseK (k + 1) = (o.riseK k).rise1 := rfl
    rw [e, rise1_cons h4]
    refine ⟨by show (o.riseK k).pre + 1 = _; omega, ?_, ?_⟩
    · show l = _
      rw [← List.drop_drop (i := 1) (j := k), hs]; rfl
    · show (o.riseK k).pre + 1 + l.length = _
      rw [← h3]; unfold Os.known; rw [h4, List.length_cons]; omega
theorem Keys.of {o : Os} {X : OsX} (h : WfO o) (hd : X.hl.map (·.d) = o.held) : Keys X.hl ∧ (X.hl.map (·.d.sl)).Nodup := by
  refine ⟨fun x hx => ?_, ?_⟩
  · have := h.ke x.d (by rw [← hd]; exact List.mem_map.2 ⟨x, hx, rfl⟩); omega
  · have := h.nd
    rw [← hd, List.map_map] at this
    exact this
section
variable {w w' : World} {K K' : Nat → Nat} {r b : Nat} {o : Os} {X : OsX}
theorem OrdAt.s_held (h : OrdAt w K r b o X) {l' : List DtX} (hM : HMap w' X.hb l') (hg : w.grownBy w' (some X.hb)) (hb : ∀ y ∈ l', RowK w K 1 eByte y.A y.d.b) {ds : List Dt} (hds : l'.map (·.d) = ds) : OrdAt w' K r b { o with held := ds } { X with hl := l' } ∧ Ro (· = r + 1) K K w w' := by
  have q : Ro (· = r + 1) K K w w' := .grown hg fun k hk => by injection hk with hk; rw [← hk]; exact h.rs.km
  have r0 := h.r0
  exact ⟨⟨r0, h.kb, fun b hb => h.kz b (Nat.le_trans q.size hb), ⟨Nat.lt_of_lt_of_le h.cs.hb q.size, (h.cs.same q.size (q.same b h.cs.hb (by rw [h.kb]; omega))).cell⟩, h.rs.mem.ro q (by omega), hM, h.rs.km, hds, fun y hy => (hb y hy).ro q (by omega), h.rs.q.ro q (by omega), h.rs.s.ro q (by omega)⟩, q⟩
def OP (w : World) (K : Nat → Nat) (r b : Nat) (o : Os) (w' : World) : Prop := ∃ K' X', OrdAt w' K' r b o X' ∧ Ro (inR r) K K' w w'
theorem OP.trans {w1 : World} (q : Ro (inR r) K K' w w1) (p : OP w1 K' r b o w') : OP w K r b o w' := by
  obtain ⟨K2, X2, a, q2⟩ := p
  exact ⟨K2, X2, a, q.trans q2⟩
theorem OrdAt.op (A : OrdAt w K r b o X) : OP w K r b o w := ⟨K, X, A, Ro.refl _ _ _⟩
theorem min_any (a b : Nat) (W : World) : (Builtin.min_ #[3, 3] 3 #[.int .i64 a, .int .i64 b]).run Try.prog W = .ok (.int .i64 ((min a b : Nat) : Int)) W := by
  have e : (if b < a then (b : Int) else a) = ((min a b : Nat) : Int) := by split <;> omega
  simp [Builtin.min_, Builtin.min2, e]
theorem max_any (a b : Nat) (W : World) : (Builtin.max_ #[3, 3] 3 #[.int .i64 a, .int .i64 b]).run Try.prog W = .ok (.int .i64 ((max a b : Nat) : Int)) W := by
  have e : (if a < b then (b : Int) else a) = ((max a b : Nat) : Int) := by split <;> omega
  simp [Builtin.max_, Builtin.max2, e]
set_option maxRecDepth 100000 in
theorem least_any (A : OrdAt w K r b o X) (W : WfO o) : Calls Try.prog 56 #[.pointer (some ⟨b, 0, none⟩)] w fun e w' => e = .returned (.int .i64 o.least) ∧ w' = w := by
  refine calls_vc tab_ok Try.func56 rfl ?_
  conv => whnf
  have m16 := W.m16
  have L0 := A.l_done (l := [b]) (by simp)
  have L1 := A.l_mem (l := [b]) (by simp)
  have L2 := A.l_self (l := [b]) (by simp)
  have s0 := Sm.refl [b] w
  repeat ((conv => whnf); first | (refine VLoad.mk _ (L0.at s0) ?_) | (refine VLoad.mk _ (L1.at s0) ?_) | (refine VCmp.tt (by omega) ?_) | (refine VCmp.ff (by omega) ?_) | (refine VIn.mk (IntWalk.i64_in _ (by omega)) ?_) | (refine VIdx.mk _ rfl (by omega) ?_) | (refine VIdx.mk 0 rfl (by omega) ?_))
  try (conv => whnf)
  refine VLoop.mk (Nat × Nat) (fun u => [(0, .pointer (some ⟨b, 0, none⟩)), (3, .int .i64 u.2), (13, .slice X.mA o.mem.length X.mc), (14, .int .i64 o.mem.length), (15, .int .i64 u.1)]) (fun u W' => u.1 ≤ o.mem.length ∧ W' = w ∧ leastTo o (o.mem.drop u.1) u.2 = o.least) (fun u => o.mem.length - u.1) (0, o.done) ⟨rfl, rfl, rfl, rfl, rfl, trivial⟩ ⟨Nat.zero_le _, rfl, rfl⟩ ?_
  rintro ⟨k, v⟩ W' ⟨hk, rfl, hv⟩
  dsimp only at hk hv ⊢
  by_cases hkn : k < o.mem.length
  · obtain ⟨mb, mo, hmA, mz, mk, mc⟩ := A.rs.mem (by omega)
    obtain ⟨q, hq⟩ : ∃ q, o.mem[k]? = some q := ⟨_, List.getElem?_eq_getElem hkn⟩
    have hq16 := W.mlt q (List.mem_of_getElem? hq)
    have hd : o.mem.drop k = q :: o.mem.drop (k + 1) := by
      rw [List.drop_eq_getElem_cons hkn]
      congr 1
      exact (List.getElem?_eq_some_iff.1 hq).2
    rw [hd, leastTo] at hv
    have L3 : Ld Try.prog 3 mb (mo + k) (Eq W') (.int .i64 q) := .of (load3 (by have := mc k q hq 0 _ rfl; rwa [Nat.mul_one] at this))
    have L4 := A.l_told (l := [b]) (by simp) hq16
    rw [hmA]
    by_cases hs : q = o.self
    · rw [if_pos hs] at hv
      repeat ((conv => whnf); first | (refine VLoad.mk _ L3 ?_) | (refine VLoad.mk _ (L2.at s0) ?_) | (refine VCmp.tt (by omega) ?_) | (refine VCmp.ff (by omega) ?_) | (refine VIn.mk (IntWalk.i64_in _ (by omega)) ?_) | (refine VIdx.mk _ rfl (by omega) ?_) | (refine VIdx.mk 0 rfl (by omega) ?_))
      try (conv => whnf)
      exact .mk (k + 1, v) ⟨rfl, rfl, rfl, rfl, rfl, trivial⟩ ⟨hkn, rfl, hv⟩ (by show o.mem.length - (k + 1) < o.mem.length - k; omega)
    · rw [if_neg hs] at hv
      repeat ((conv => whnf); first | (refine VLoad.mk _ L3 ?_) | (refine VLoad.mk _ (L2.at s0) ?_) | (refine VLoad.mk _ (L4.at s0) ?_) | (refine VCmp.tt (by omega) ?_) | (refine VCmp.ff (by omega) ?_) | (refine VIn.mk (IntWalk.i64_in _ (by omega)) ?_) | (refine VIdx.mk _ rfl (by omega) ?_) | (refine VIdx.mk 0 rfl (by omega) ?_))
      try (conv => whnf)
      refine VW.run (v := .int .i64 ((min v (o.told q) : Nat) : Int)) (w' := W') (fun a ha => ?_) ?_
      · have h3 := ha (.tmp 25) _ rfl
        have h4 := ha (.tmp 31) _ rfl
        have := min_any v (o.told q) W'
        simp only [execOp, resolve, invoke, builtin, h3, h4, Sem.run_bind, Sem.run_pure, Result.andThen_ok, this, List.map_cons, List.map_nil, List.map_toArray]
      repeat ((conv => whnf); first | (refine VCmp.tt (by omega) ?_) | (refine VCmp.ff (by omega) ?_) | (refine VIn.mk (IntWalk.i64_in _ (by omega)) ?_) | (refine VIdx.mk _ rfl (by omega) ?_) | (refine VIdx.mk 0 rfl (by omega) ?_))
      try (conv => whnf)
      exact .mk (k + 1, min v (o.told q)) ⟨rfl, rfl, rfl, rfl, rfl, trivial⟩ ⟨hkn, rfl, hv⟩ (by show o.mem.length - (k + 1) < o.mem.length - k; omega)
  · obtain rfl : k = o.mem.length := by omega
    rw [List.drop_length] at hv
    repeat ((conv => whnf); first | (refine VCmp.tt (by omega) ?_) | (refine VCmp.ff (by omega) ?_) | (refine VIn.mk (IntWalk.i64_in _ (by omega)) ?_) | (refine VIdx.mk _ rfl (by omega) ?_) | (refine VIdx.mk 0 rfl (by omega) ?_))
    try (conv => whnf)
    exact .mk ⟨by rw [← hv]; rfl, rfl⟩
theorem info78 : (Try.prog.info? 78).map (fun i => (i.zero, i.size, i.bytes)) = some (some (.agg #[.int .i64 0, .int .i64 0]), 2, 16) := by kernel_rfl
def zero78 : Value := .agg #[.int .i64 0, .int .i64 0]
theorem run_zero78 (W : World) : (zeroValue 78).run Try.prog W = .ok zero78 W := by kernel_rfl
theorem bs48 (W : World) (a b : Int) : (Instr.buildSlice 48 1 #[(0, .agg #[.int .i64 a, .int .i64 b])]).run Try.prog W = .ok (.slice (some ⟨W.heap.size, 0, none⟩) 1 1) (W.alloc (.cells #[.int .i64 a, .int .i64 b] 78)) := by kernel_rfl
theorem load78 {b j : Nat} {x : Sl} (h : w.rangeAt b j (eSl x)) : (loadVar 78 ⟨b, j, none⟩).run Try.prog w = .ok (kSl x) w := load_agg (by kernel_rfl) (by kernel_rfl) h
set_option maxRecDepth 100000 in
theorem stand_any (A : OrdAt w K r b o X) (W : WfO o) (x : Sl) (hx : x.s < 16) : Calls Try.prog 52 #[.pointer (some ⟨b, 0, none⟩), kSl x] w fun e w' => e = .returned (.tuple #[]) ∧ OP w K r b (o.stand x) w' := by
  refine calls_vc tab_ok Try.func52 rfl ?_
  have r0 := A.r0
  have hkn := W.kn
  unfold Os.known at hkn
  have hpl := W.pl x.s
  conv => whnf
  refine .mk fun wA hwA => ?_
  have bA : Below w.heap.size w wA := by rw [hwA.out]; exact below_box1 _ _ _
  have zA : wA.heap.size = w.heap.size + 1 := by rw [hwA.out]; simp
  have oA : wA.rangeAt w.heap.size 0 (eSl x) := by rw [hwA.out]; exact range_new w _ 78
  clear hwA
  have AA := A.below bA
  have hbz := A.cs.hb
  have k0 : K w.heap.size = 0 := A.kz _ (Nat.le_refl _)
  have L0 := AA.l_slots (l := [b, w.heap.size]) (by simp)
  have Lx : Ld Try.prog 78 w.heap.size 0 (Sm [b, w.heap.size] wA) (kSl x) := ⟨fun W' hW => load78 (range_same oA (hW _ (by simp)))⟩
  have hs0 : Sm [b, w.heap.size] wA wA.drew := fun _ _ => rfl
  have hsl : o.slots.length ≤ 1000000000 := by omega
  repeat ((conv => whnf); first | (refine VCmp.tt (by omega) ?_) | (refine VCmp.ff (by omega) ?_) | (refine VIn.mk (IntWalk.i64_in _ (by omega)) ?_) | (refine VIdx.mk _ rfl (by omega) ?_) | (refine VIdx.mk 0 rfl (by omega) ?_))
  try (conv => whnf)
  refine VDraw.mk 10 [([0, 1, 2, 3, 4, 5], 6), ([], 7), ([8, 9], 10)] [] (Sm [b, w.heap.size] wA) (by kernel_rfl) (by kernel_rfl) (hs0) ?_
  repeat ((conv => whnf); first | (refine VLoad.mk _ L0 ?_) | (refine VLoad.mk _ Lx ?_) | (refine VCmp.tt (by omega) ?_) | (refine VCmp.ff (by omega) ?_) | (refine VIn.mk (IntWalk.i64_in _ (by omega)) ?_) | (refine VIdx.mk _ rfl (by omega) ?_) | (refine VIdx.mk 0 rfl (by omega) ?_))
  try (conv => whnf)
  refine VBs.mk _ _ (bs48 wA.drew x.s x.q) ?_
  have c1 : Below wA.heap.size wA (wA.drew.alloc (.cells #[.int .i64 x.s, .int .i64 x.q] 78)) := Below.trans (Below.drew (Below.refl _ wA)) ((Below.refl wA.drew.heap.size wA.drew).alloc (Nat.le_refl _) _)
  have hnc : ∀ j u, (eSl x)[j]? = some u → (wA.drew.alloc (.cells #[.int .i64 x.s, .int .i64 x.q] 78)).cell? ⟨wA.drew.heap.size, j, none⟩ = some u := fun j u hu => by
    have := range_new wA.drew #[.int .i64 x.s, .int .i64 x.q] 78 j u hu
    rwa [Nat.zero_add] at this
  generalize wA.drew.alloc (.cells #[.int .i64 x.s, .int .i64 x.q] 78) = x1 at c1 hnc ⊢
  have A1 := AA.below c1
  have z1 := c1.size
  have hl1 : ∀ y ∈ [b, w.heap.size], y < wA.heap.size := fun y hy => by
    simp only [List.mem_cons, List.not_mem_nil, or_false] at hy
    rcases hy with rfl | rfl <;> omega
  have hs1 : Sm [b, w.heap.size] wA x1 := .below c1 hl1
  repeat ((conv => whnf); first | (refine VS.mk hs1 ?_) | (refine VCmp.tt (by omega) ?_) | (refine VCmp.ff (by omega) ?_) | (refine VIn.mk (IntWalk.i64_in _ (by omega)) ?_) | (refine VIdx.mk _ rfl (by omega) ?_) | (refine VIdx.mk 0 rfl (by omega) ?_))
  try (conv => whnf)
  refine VApp.off 2 16 _ Try.underlying48 info78 rfl (by decide) eSl (fun _ => rfl) one_eSl o.slots x rfl A1.rs.s hnc A1.kz (by omega) (by omega) fun A2 c2 K2 x2 oA2 q2 kz2 => ?_
  have hs2 : Sm [b, w.heap.size] wA x2 := hs1.trans fun y hy => by
    refine q2.same y (by have := hl1 y hy; omega) ?_
    simp only [List.mem_cons, List.not_mem_nil, or_false] at hy
    rcases hy with rfl | rfl
    · rw [A.kb]; omega
    · rw [k0]; omega
  have kb2 : K2 b = r := (q2.kk b (by omega)).trans A.kb
  have cb := (A1.cs.same q2.size (q2.same b (by omega) (by rw [A.kb]; omega))).cell 90 (by omega)
  repeat ((conv => whnf); first | (refine VS.mk hs2 ?_) | (refine VCmp.tt (by omega) ?_) | (refine VCmp.ff (by omega) ?_) | (refine VIn.mk (IntWalk.i64_in _ (by omega)) ?_) | (refine VIdx.mk _ rfl (by omega) ?_) | (refine VIdx.mk 0 rfl (by omega) ?_))
  try (conv => whnf)
  refine VStore.cell (by kernel_rfl) (by rw [show addO 0 90 = 90 from rfl, cb.1]; rfl) cb.2 rfl rfl fun x3 hx3 => ?_
  obtain ⟨A3, q3⟩ := A1.s_slots (n := o.slots.length + 1) (by simp) oA2 q2 kz2 (show addO 0 90 = 90 from rfl) hx3.out
  repeat ((conv => whnf); first | (refine VS.last rfl ?_) | (refine VCmp.tt (by omega) ?_) | (refine VCmp.ff (by omega) ?_) | (refine VIn.mk (IntWalk.i64_in _ (by omega)) ?_) | (refine VIdx.mk _ rfl (by omega) ?_) | (refine VIdx.mk 0 rfl (by omega) ?_))
  try (conv => whnf)
  have L4 : Ld Try.prog 3 b (40 + x.s) (Sm [b, w.heap.size] x3) (.int .i64 (o.placed x.s)) := A3.l_placed (by simp) hx
  have h3 : x3.heap[w.heap.size]? = wA.heap[w.heap.size]? := (q3.same _ (by omega) (by rw [k0]; omega)).trans (c1.block _ (by omega))
  have L5 : Ld Try.prog 3 w.heap.size 0 (Sm [b, w.heap.size] x3) (.int .i64 x.s) := ⟨fun W' hW => load3 ((World.cell?_of_block (a := ⟨w.heap.size, 0, none⟩) ((hW _ (by simp)).trans h3)).trans (oA 0 _ rfl))⟩
  have hs3 : Sm [b, w.heap.size] x3 x3.drew := fun _ _ => rfl
  refine VDraw.pl 11 (.one [0, 1, 2, 3, 4, 5, 6, 7, 8, 9, 10] 11 (.stop [])) (Sm [b, w.heap.size] x3) (by kernel_rfl) (hs3) ?_
  repeat ((conv => whnf); first | (refine VLoad.mk _ L4 ?_) | (refine VLoad.mk _ L5 ?_) | (refine VCmp.tt (by omega) ?_) | (refine VCmp.ff (by omega) ?_) | (refine VIn.mk (IntWalk.i64_in _ (by omega)) ?_) | (refine VIdx.mk _ rfl (by omega) ?_) | (refine VIdx.mk 0 rfl (by omega) ?_))
  try (conv => whnf)
  have cp := A3.cs.cell (40 + x.s) (by omega)
  refine VStore.cell (by kernel_rfl) (by rw [show addO 0 40 + mulO x.s 1 = 40 + x.s from rfl]; rw [show x3.drew.cell? = x3.cell? from rfl, cp.1]; rfl) cp.2 rfl rfl fun x4 hx4 => ?_
  obtain ⟨A4, q4⟩ := (A3.below (Below.refl _ x3).drew).s_placed hx (o.placed x.s + 1) (j := addO 0 40 + mulO x.s 1) rfl (hx4.out.trans (by rw [Int.natCast_add]; rfl))
  repeat ((conv => whnf); first | (refine VS.last rfl ?_) | (refine VCmp.tt (by omega) ?_) | (refine VCmp.ff (by omega) ?_) | (refine VIn.mk (IntWalk.i64_in _ (by omega)) ?_) | (refine VIdx.mk _ rfl (by omega) ?_) | (refine VIdx.mk 0 rfl (by omega) ?_))
  try (conv => whnf)
  refine .mk ⟨rfl, _, _, A4, ?_⟩
  have e1 : Ro (inR r) K K w x1 := .below (bA.trans (c1.mono (by omega)))
  exact (e1.trans (q3.more fun y hy => by unfold inR; omega)).trans ((Ro.drew (Ro.refl _ _ _)).trans (q4.more fun y hy => by unfold inR; omega))
end
end Go.Proofs.Ytoilipfgimcoiaa
namespace Go.Proofs.Ytoilipfgimcoiaa
open Go Go.RowKit
theorem one_sl (x : Sl) : (#[.int .i64 x.s, .int .i64 x.q] : Array Value).all (·.oneCell') = true := all_oneCell_toArray (cs := eSl x) (one_eSl x)
section
variable {w w' : World} {K K' : Nat → Nat} {r b : Nat} {o : Os} {X : OsX}
set_option maxRecDepth 100000 in
set_option maxHeartbeats 4000000 in
theorem rise_any (A : OrdAt w K r b o X) (W : WfO o) (n : Nat) (hn : n ≤ o.known) : Calls Try.prog 55 #[.pointer (some ⟨b, 0, none⟩), .int .i64 n] w fun e w' => e = .returned (.tuple #[]) ∧ OP w K r b (o.rise n) w' := by
  refine calls_vc tab_ok Try.func55 rfl ?_
  have r0 := A.r0
  have hkn := W.kn
  unfold Os.known at hkn hn
  conv => whnf
  repeat ((conv => whnf); first | (refine VCmp.tt (by omega) ?_) | (refine VCmp.ff (by omega) ?_) | (refine VIn.mk (IntWalk.i64_in _ (by omega)) ?_) | (refine VIdx.mk _ rfl (by omega) ?_) | (refine VIdx.mk 0 rfl (by omega) ?_))
  try (conv => whnf)
  refine VLoop.mk Nat (fun _ => [(0, .pointer (some ⟨b, 0, none⟩)), (1, .int .i64 n)]) (fun k W' => k ≤ n - o.pre ∧ ∃ K' X', OrdAt W' K' r b (o.riseK k) X' ∧ Ro (inR r) K K' w W') (fun k => n - o.pre - k) 0 ⟨rfl, rfl, trivial⟩ ⟨Nat.zero_le _, K, X, A, Ro.refl _ _ _⟩ ?_
  rintro k w1 ⟨hk, K1, X1, A1, q1⟩
  obtain ⟨f1, f2, f3⟩ := riseK_facts o k (by omega)
  have W1 := W.riseK k
  have esucc : o.riseK (k + 1) = (o.riseK k).rise1 := rfl
  obtain ⟨o1, ho1⟩ : ∃ o1, o1 = o.riseK k := ⟨_, rfl⟩
  rw [← ho1] at f1 f2 f3 W1 A1 esucc
  have L0 := A1.l_pre (l := [b]) (by simp)
  have s1 := Sm.refl [b] w1
  by_cases hkn2 : k < n - o.pre
  · obtain ⟨x, l, hs⟩ : ∃ x l, o1.slots = x :: l := by
      cases hd : o1.slots with
      | nil => rw [f2] at hd; have := congrArg List.length hd; simp at this; omega
      | cons s l => exact ⟨s, l, rfl⟩
    have hsl := A1.rs.s
    rw [hs] at hsl
    obtain ⟨g, off, hsA, hg1, hg2⟩ := hsl.head
    have hx := W1.sl x (by rw [hs]; exact List.mem_cons_self)
    have L1 := A1.l_slots (l := [b]) (by simp)
    rw [hs, hsA, List.length_cons] at L1
    have Lx : Ld Try.prog 78 g (off + 0) (Eq w1) (kSl x) := .of (load78 hg2)
    have hcap : l.length + 1 ≤ X1.sc := by
      rcases hsl with ⟨-, e, -⟩ | ⟨_, _, _, _, _, h3, _⟩
      · cases e
      · simpa using h3
    repeat ((conv => whnf); first | (refine VLoad.mk _ (L0.at s1) ?_) | (refine VLoad.mk _ (L1.at s1) ?_) | (refine VLoad.mk _ Lx ?_) | (refine VCmp.tt (by omega) ?_) | (refine VCmp.ff (by omega) ?_) | (refine VIn.mk (IntWalk.i64_in _ (by omega)) ?_) | (refine VIdx.mk _ rfl (by omega) ?_) | (refine VIdx.mk 0 rfl (by omega) ?_))
    try (conv => whnf)
    refine .mk _ run_zero78 ?_
    conv => whnf
    refine .mk fun u2 hu2 => ?_
    repeat ((conv => whnf); first | (refine VCmp.tt (by omega) ?_) | (refine VCmp.ff (by omega) ?_) | (refine VIn.mk (IntWalk.i64_in _ (by omega)) ?_) | (refine VIdx.mk _ rfl (by omega) ?_) | (refine VIdx.mk 0 rfl (by omega) ?_))
    try (conv => whnf)
    refine VStore.new (c' := #[.int .i64 x.s, .int .i64 x.q]) hu2 (by kernel_rfl) rfl (one_sl x) fun w2 hw2 => ?_
    have c2 : Below w1.heap.size w1 w2 := by rw [hw2.out]; exact (Below.refl _ _).alloc (Nat.le_refl _) _
    have z2 : w2.heap.size = w1.heap.size + 1 := by rw [hw2.out]; simp
    have r2 : w2.rangeAt w1.heap.size 0 (eSl x) := by rw [hw2.out]; exact range_new w1 _ 78
    clear hu2 hw2 u2
    have A2 := A1.below c2
    have k0 : K1 w1.heap.size = 0 := A1.kz _ (Nat.le_refl _)
    have L2 := A2.l_slots (l := [b]) (by simp)
    rw [hs, List.length_cons] at L2
    repeat ((conv => whnf); first | (refine VLoad.mk _ (L2.at (Sm.refl _ _)) ?_) | (refine VCmp.tt (by omega) ?_) | (refine VCmp.ff (by omega) ?_) | (refine VIn.mk (IntWalk.i64_in _ (by omega)) ?_) | (refine VIdx.mk _ rfl (by omega) ?_) | (refine VIdx.mk 0 rfl (by omega) ?_))
    try (conv => whnf)
    refine VSl.mk 1 (l.length + 1) rfl rfl (by omega) hcap ?_
    have oT := A2.rs.s
    rw [hs] at oT
    have oT2 := oT.tail
    have cb := A2.cs.cell 90 (by omega)
    repeat ((conv => whnf); first | (refine VCmp.tt (by omega) ?_) | (refine VCmp.ff (by omega) ?_) | (refine VIn.mk (IntWalk.i64_in _ (by omega)) ?_) | (refine VIdx.mk _ rfl (by omega) ?_) | (refine VIdx.mk 0 rfl (by omega) ?_))
    try (conv => whnf)
    refine VStore.cell (by kernel_rfl) (by rw [show addO 0 90 = 90 from rfl, cb.1]; rfl) cb.2 rfl rfl fun w3 hw3 => ?_
    obtain ⟨A3, q3⟩ := A2.s_slots (n := l.length) (A := tailA 2 X1.sc X1.sA) (c := X1.sc - 1) rfl oT2 (Ro.refl _ _ _) A2.kz (show addO 0 90 = 90 from rfl) hw3.out
    have z3 := q3.size
    have kws : K1 w1.heap.size ≠ r ∧ K1 w1.heap.size ≠ r + 3 ∧ K1 w1.heap.size ≠ r + 1 := by rw [k0]; omega
    have h3 : w3.heap[w1.heap.size]? = w2.heap[w1.heap.size]? := q3.same _ (by omega) (by omega)
    have hbz := A1.cs.hb
    have L3 : Ld Try.prog 3 b (56 + x.s) (Sm [b, w1.heap.size] w3) (.int .i64 (o1.gone x.s)) := A3.l_gone (by simp) hx.1
    have L4 : Ld Try.prog 3 w1.heap.size 0 (Sm [b, w1.heap.size] w3) (.int .i64 x.s) := ⟨fun W' hW => load3 ((World.cell?_of_block (a := ⟨w1.heap.size, 0, none⟩) ((hW _ (by simp)).trans h3)).trans (r2 0 _ rfl))⟩
    have hs3 : Sm [b, w1.heap.size] w3 w3.drew := fun _ _ => rfl
    have hgn := W1.gn x.s
    repeat ((conv => whnf); first | (refine VCmp.tt (by omega) ?_) | (refine VCmp.ff (by omega) ?_) | (refine VIn.mk (IntWalk.i64_in _ (by omega)) ?_) | (refine VIdx.mk _ rfl (by omega) ?_) | (refine VIdx.mk 0 rfl (by omega) ?_))
    try (conv => whnf)
    refine VDraw.pl 11 (.one [0, 1, 2, 3, 4, 5, 6, 7, 8, 9, 10] 11 (.stop [])) (Sm [b, w1.heap.size] w3) (by kernel_rfl) (hs3) ?_
    repeat ((conv => whnf); first | (refine VLoad.mk _ L3 ?_) | (refine VLoad.mk _ L4 ?_) | (refine VCmp.tt (by omega) ?_) | (refine VCmp.ff (by omega) ?_) | (refine VIn.mk (IntWalk.i64_in _ (by omega)) ?_) | (refine VIdx.mk _ rfl (by omega) ?_) | (refine VIdx.mk 0 rfl (by omega) ?_))
    try (conv => whnf)
    have cp := A3.cs.cell (56 + x.s) (by omega)
    refine VStore.cell (by kernel_rfl) (by rw [show addO 0 56 + mulO x.s 1 = 56 + x.s from rfl]; rw [show w3.drew.cell? = w3.cell? from rfl, cp.1]; rfl) cp.2 rfl rfl fun w4 hw4 => ?_
    obtain ⟨A4, q4⟩ := (A3.below (Below.refl _ w3).drew).s_gone hx.1 (o1.gone x.s + 1) (j := addO 0 56 + mulO x.s 1) rfl (hw4.out.trans (by rw [Int.natCast_add]; rfl))
    have z4 : w3.heap.size ≤ w4.heap.size := q4.size
    have h4 : w4.heap[w1.heap.size]? = w2.heap[w1.heap.size]? := (q4.same _ (show w1.heap.size < w3.heap.size by omega) (by omega)).trans h3
    repeat ((conv => whnf); first | (refine VS.last rfl ?_) | (refine VCmp.tt (by omega) ?_) | (refine VCmp.ff (by omega) ?_) | (refine VIn.mk (IntWalk.i64_in _ (by omega)) ?_) | (refine VIdx.mk _ rfl (by omega) ?_) | (refine VIdx.mk 0 rfl (by omega) ?_))
    try (conv => whnf)
    have L5 : Ld Try.prog 94 b 88 (Sm [b, w1.heap.size] w4) (.map (some X1.hb)) := A4.l_held (by simp)
    have L6 : Ld Try.prog 78 w1.heap.size 0 (Sm [b, w1.heap.size] w4) (kSl x) := ⟨fun W' hW => load78 (range_same r2 ((hW _ (by simp)).trans h4))⟩
    have hs4 : Sm [b, w1.heap.size] w4 w4.drew := fun _ _ => rfl
    refine VDraw.mk 1000 [([0, 1, 2, 3, 4], 5)] [] (Sm [b, w1.heap.size] w4) (by kernel_rfl) (by kernel_rfl) (hs4) ?_
    repeat ((conv => whnf); first | (refine VLoad.mk _ L5 ?_) | (refine VLoad.mk _ L6 ?_) | (refine VCmp.tt (by omega) ?_) | (refine VCmp.ff (by omega) ?_) | (refine VIn.mk (IntWalk.i64_in _ (by omega)) ?_) | (refine VIdx.mk _ rfl (by omega) ?_) | (refine VIdx.mk 0 rfl (by omega) ?_))
    try (conv => whnf)
    have A4d := A4.below (Below.refl _ w4).drew
    obtain ⟨hkeys, hnd⟩ := Keys.of W1 A1.rs.hd
    obtain ⟨w5, hrun, hM, hg5⟩ := A4d.rs.map.del (w := w4.drew) hkeys hnd (x := x) (by omega) (by omega) (ty := 0)
    refine VW.run (v := .tuple #[]) (w' := w5) (fun a ha => ?_) ?_
    · have h3 := ha (.tmp 39) _ rfl
      have h4 := ha (.tmp 40) _ rfl
      simp only [execOp, resolve, invoke, builtin, h3, h4, Sem.run_bind, Sem.run_pure, Result.andThen_ok, hrun, List.map_cons, List.map_nil, List.map_toArray]
    obtain ⟨A5, q5⟩ := A4d.s_held hM hg5 (fun y hy => A4d.rs.bod y (List.mem_filter.1 hy).1) (ds := o1.held.filter fun d => decide (d.sl ≠ x)) (by
      rw [← A1.rs.hd, List.filter_map]; rfl)
    have hs5 : Sm [b, w1.heap.size] w4 w5 := fun y hy => q5.same y (by
      simp only [List.mem_cons, List.not_mem_nil, or_false] at hy
      show y < w4.heap.size
      rcases hy with rfl | rfl <;> omega) (by
      simp only [List.mem_cons, List.not_mem_nil, or_false] at hy
      rcases hy with rfl | rfl
      · rw [A1.kb]; omega
      · exact kws.2.2)
    repeat ((conv => whnf); first | (refine VS.mk hs5 ?_) | (refine VCmp.tt (by omega) ?_) | (refine VCmp.ff (by omega) ?_) | (refine VIn.mk (IntWalk.i64_in _ (by omega)) ?_) | (refine VIdx.mk _ rfl (by omega) ?_) | (refine VIdx.mk 0 rfl (by omega) ?_))
    try (conv => whnf)
    have L7 : Ld Try.prog 3 b 91 (Sm [b] w5) (.int .i64 o1.pre) := A5.l_pre (by simp)
    repeat ((conv => whnf); first | (refine VLoad.mk _ (L7.at (Sm.refl _ _)) ?_) | (refine VCmp.tt (by omega) ?_) | (refine VCmp.ff (by omega) ?_) | (refine VIn.mk (IntWalk.i64_in _ (by omega)) ?_) | (refine VIdx.mk _ rfl (by omega) ?_) | (refine VIdx.mk 0 rfl (by omega) ?_))
    try (conv => whnf)
    have cq := A5.cs.cell 91 (by omega)
    refine VStore.cell (by kernel_rfl) (by rw [show addO 0 91 = 91 from rfl, cq.1]; rfl) cq.2 rfl rfl fun w6 hw6 => ?_
    obtain ⟨A6, q6⟩ := A5.s_pre (o1.pre + 1) (j := addO 0 91) rfl (hw6.out.trans (by rw [Int.natCast_add]; rfl))
    repeat ((conv => whnf); first | (refine VCmp.tt (by omega) ?_) | (refine VCmp.ff (by omega) ?_) | (refine VIn.mk (IntWalk.i64_in _ (by omega)) ?_) | (refine VIdx.mk _ rfl (by omega) ?_) | (refine VIdx.mk 0 rfl (by omega) ?_))
    try (conv => whnf)
    refine .mk (k + 1) ⟨rfl, rfl, trivial⟩ ⟨by omega, K1, { { X1 with sA := tailA 2 X1.sc X1.sA, sc := X1.sc - 1 } with hl := X1.hl.filter fun y => decide (y.d.sl ≠ x) }, ?_, ?_⟩ (by show n - o.pre - (k + 1) < n - o.pre - k; omega)
    · rw [esucc, rise1_cons hs]
      exact A6
    · have e1 : Ro (inR r) K1 K1 w1 w2 := .below c2
      have e2 := e1.trans (q3.more fun y hy => by unfold inR; omega)
      have e3 := (e2.trans (Ro.drew (Ro.refl _ _ _))).trans (q4.more fun y hy => by unfold inR; omega)
      have e4 := (e3.trans (Ro.drew (Ro.refl _ _ _))).trans (q5.more fun y hy => by unfold inR; omega)
      exact q1.trans (e4.trans (q6.more fun y hy => by unfold inR; omega))
  · obtain rfl : k = n - o.pre := by omega
    repeat ((conv => whnf); first | (refine VLoad.mk _ (L0.at s1) ?_) | (refine VCmp.tt (by omega) ?_) | (refine VCmp.ff (by omega) ?_) | (refine VIn.mk (IntWalk.i64_in _ (by omega)) ?_) | (refine VIdx.mk _ rfl (by omega) ?_) | (refine VIdx.mk 0 rfl (by omega) ?_))
    try (conv => whnf)
    exact .mk ⟨rfl, K1, X1, by unfold Os.rise; rw [← ho1]; exact A1, q1⟩
end
end Go.Proofs.Ytoilipfgimcoiaa
namespace Go.Proofs.Ytoilipfgimcoiaa
open Go Go.RowKit
theorem info5 : (Try.prog.info? 5).map (fun i => (i.zero, i.size, i.bytes)) = some (some (.int .u8 0), 1, 1) := by kernel_rfl
theorem build78 (W : World) (a b : Int) : (Instr.build 78 #[(0, .int .i64 a), (1, .int .i64 b)]).run Try.prog W = .ok (.agg #[.int .i64 a, .int .i64 b]) W := by kernel_rfl
theorem RowK.owns {α : Type} {w : World} {K : Nat → Nat} {base sz c : Nat} {e : TypeId} {enc : α → List Value} {A : Option Addr} {l : List α} (h : Owns w base e sz enc A c l) (henc : ∀ x, (enc x).length = sz) (hK : ∀ b, base ≤ b → K b = 0) : RowK w K sz enc A l :=
  .at_ (h.row henc) fun b hb => hK b (h.lo b hb).1
theorem rng_cell {w w' : World} {b n j : Nat} {l l' : List Value} {v : Value} (h : w.rangeAt b 0 l) (ht : w.there b 0 n) (hl : l.length = n) (hj : j < n) (hw : w' = w.setCell ⟨b, j, none⟩ v) (e : l' = l.set j v) : w'.rangeAt b 0 l' ∧ w'.there b 0 n := by
  have hg : w.grownBy w' (some b) := by rw [hw]; exact grown_cell _ _ _ _
  refine ⟨fun i u hu => ?_, by rw [hw]; exact there_set ht _ _⟩
  rw [Nat.zero_add]
  rw [e] at hu
  by_cases hij : i = j
  · subst hij
    rw [List.getElem?_set_self (by omega)] at hu
    injection hu with hu
    subst hu
    have := (ht i hj).1
    rw [Nat.zero_add] at this
    rw [hw]; exact World.cell?_setCell_same' _ _ _ this
  · rw [List.getElem?_set_ne (fun e => hij e.symm)] at hu
    rw [hw]
    have := h i u hu
    rw [Nat.zero_add] at this
    exact cell_out (vs := [v]) this (by show i < j ∨ j + 1 ≤ i; omega)
section
variable {w w' : World} {K K' : Nat → Nat} {r b : Nat} {o : Os} {X : OsX}
set_option maxRecDepth 100000 in
set_option maxHeartbeats 8000000 in
theorem keep_any (A : OrdAt w K r b o X) (W : WfO o) (d : Dt) (h1 : d.s < 16) (h2 : d.q ≤ 1000000000) (hnew : ∀ e ∈ o.held, e.sl ≠ d.sl) (hql : o.queue.length + 1 ≤ 1000000000) {B : Option Addr} {cB nB : Nat} (hnB : d.b.length = nB) (hB : RowAt w w.heap.size 1 eByte B d.b) (hbl : nB ≤ 1000000000) :
    Calls Try.prog 49 #[.pointer (some ⟨b, 0, none⟩), .agg (dtA d B cB nB)] w fun e w' => e = .returned (.tuple #[]) ∧ OP w K r b (o.keep d) w' := by
  refine calls_vc tab_ok Try.func49 rfl ?_
  have r0 := A.r0
  have hbz := A.cs.hb
  conv => whnf
  refine .mk fun wA hwA => ?_
  have bA : Below w.heap.size w wA := by rw [hwA.out]; exact below_box1 _ _ _
  have zA : wA.heap.size = w.heap.size + 1 := by rw [hwA.out]; simp
  have oA : wA.rangeAt w.heap.size 0 (dtA d B cB nB).toList := by rw [hwA.out]; exact range_new w _ 71
  have tA : wA.there w.heap.size 0 4 := by rw [hwA.out]; exact there_new w _ _
  clear hwA
  have L0 : Ld Try.prog 27 w.heap.size 3 (Eq wA) (.slice B nB cB) := .of (load27 (oA 3 _ rfl))
  repeat ((conv => whnf); first | (refine VLoad.mk _ L0 ?_) | (refine VCmp.tt (by omega) ?_) | (refine VCmp.ff (by omega) ?_) | (refine VIn.mk (IntWalk.i64_in _ (by omega)) ?_) | (refine VIdx.mk _ rfl (by omega) ?_) | (refine VIdx.mk 0 rfl (by omega) ?_))
  try (conv => whnf)
  refine VApp.rows wA.heap.size 1 1 _ Try.underlying27 info5 rfl (by decide) eByte (fun _ => rfl) one_eByte [] d.b rfl hnB (owns_nil _ _ _ _ _) (hB.below bA (Nat.le_refl _)) (by omega) (by omega) (Nat.le_refl _) fun B' cB' w1 oB hg1 _ => ?_
  rw [Nat.zero_add]
  rw [List.nil_append] at oB
  have c1 : Below wA.heap.size wA w1 := (Below.refl _ _).grown hg1 (Nat.le_refl _) fun k hk => by cases hk
  have z1 := c1.size
  have o1 := range_same oA (c1.block _ (show w.heap.size < wA.heap.size by omega))
  have t1 := there_same tA (c1.block _ (show w.heap.size < wA.heap.size by omega))
  repeat ((conv => whnf); first | (refine VCmp.tt (by omega) ?_) | (refine VCmp.ff (by omega) ?_) | (refine VIn.mk (IntWalk.i64_in _ (by omega)) ?_) | (refine VIdx.mk _ rfl (by omega) ?_) | (refine VIdx.mk 0 rfl (by omega) ?_))
  try (conv => whnf)
  have ct := t1 3 (by omega)
  refine VStore.cell (by kernel_rfl) ct.1 ct.2 rfl rfl fun w2 hw2 => ?_
  obtain ⟨o2, t2⟩ := rng_cell (j := 3) (l' := (dtA d B' cB' nB).toList) o1 t1 rfl (by omega) hw2.out rfl
  have g2 : w1.grownBy w2 (some w.heap.size) := by rw [hw2.out]; exact grown_cell _ _ _ _
  have b2 : Below w.heap.size w w2 := (bA.trans (c1.mono (by omega))).grown g2 (by omega) fun k hk => by injection hk with hk; omega
  have oB2 := oB.kept g2 (.inr fun e => by have := (oB.lo _ e).1; omega)
  have z2 := g2.size
  clear hw2
  have L1 : Ld Try.prog 3 w.heap.size 0 (Eq w2) (.int .i64 d.s) := .of (load3 (o2 0 _ rfl))
  have L2 : Ld Try.prog 3 w.heap.size 1 (Eq w2) (.int .i64 d.q) := .of (load3 (o2 1 _ rfl))
  repeat ((conv => whnf); first | (refine VLoad.mk _ L1 ?_) | (refine VLoad.mk _ L2 ?_) | (refine VCmp.tt (by omega) ?_) | (refine VCmp.ff (by omega) ?_) | (refine VIn.mk (IntWalk.i64_in _ (by omega)) ?_) | (refine VIdx.mk _ rfl (by omega) ?_) | (refine VIdx.mk 0 rfl (by omega) ?_))
  try (conv => whnf)
  refine VBuild.mk _ (fun W' => build78 W' d.s d.q) ?_
  repeat ((conv => whnf); first | (refine VCmp.tt (by omega) ?_) | (refine VCmp.ff (by omega) ?_) | (refine VIn.mk (IntWalk.i64_in _ (by omega)) ?_) | (refine VIdx.mk _ rfl (by omega) ?_) | (refine VIdx.mk 0 rfl (by omega) ?_))
  try (conv => whnf)
  refine .mk _ run_zero78 ?_
  conv => whnf
  refine .mk fun u3 hu3 => ?_
  repeat ((conv => whnf); first | (refine VCmp.tt (by omega) ?_) | (refine VCmp.ff (by omega) ?_) | (refine VIn.mk (IntWalk.i64_in _ (by omega)) ?_) | (refine VIdx.mk _ rfl (by omega) ?_) | (refine VIdx.mk 0 rfl (by omega) ?_))
  try (conv => whnf)
  refine VStore.new (c' := #[.int .i64 d.s, .int .i64 d.q]) hu3 (by kernel_rfl) rfl (one_sl d.sl) fun w3 hw3 => ?_
  have c3 : Below w2.heap.size w2 w3 := by rw [hw3.out]; exact (Below.refl _ _).alloc (Nat.le_refl _) _
  have z3 : w3.heap.size = w2.heap.size + 1 := by rw [hw3.out]; simp
  have r3 : w3.rangeAt w2.heap.size 0 (eSl d.sl) := by rw [hw3.out]; exact range_new w2 _ 78
  clear hu3 hw3 u3
  have b3 : Below w.heap.size w w3 := b2.trans (c3.mono (by omega))
  have o3 := range_same o2 (c3.block _ (show w.heap.size < w2.heap.size by omega))
  have oB3 := oB2.keep c3 (fun k hk => (oB2.lo k hk).2)
  have A3 := A.below b3
  have k0 : ∀ y, w.heap.size ≤ y → K y = 0 := A.kz
  have kA : K w.heap.size = 0 := k0 _ (Nat.le_refl _)
  have kB : K w2.heap.size = 0 := k0 _ (by omega)
  have L3 : Ld Try.prog 94 b 88 (Sm [b, w.heap.size, w2.heap.size] w3) (.map (some X.hb)) := A3.l_held (by simp)
  have L4 : Ld Try.prog 78 w2.heap.size 0 (Sm [b, w.heap.size, w2.heap.size] w3) (kSl d.sl) := ⟨fun W' hW => load78 (range_same r3 (hW _ (by simp)))⟩
  have L5 : Ld Try.prog 71 w.heap.size 0 (Sm [b, w.heap.size, w2.heap.size] w3) (.agg (dtA d B' cB' nB)) := ⟨fun W' hW => load_agg (by kernel_rfl) (by kernel_rfl) (range_same o3 (hW _ (by simp)))⟩
  have hs3 : Sm [b, w.heap.size, w2.heap.size] w3 w3.drew := fun _ _ => rfl
  refine VDraw.mk 1000 [([0, 1, 2, 3, 4, 5], 6)] [] (Sm [b, w.heap.size, w2.heap.size] w3) (by kernel_rfl) (by kernel_rfl) (hs3) ?_
  repeat ((conv => whnf); first | (refine VLoad.mk _ L3 ?_) | (refine VLoad.mk _ L4 ?_) | (refine VLoad.mk _ L5 ?_) | (refine VCmp.tt (by omega) ?_) | (refine VCmp.ff (by omega) ?_) | (refine VIn.mk (IntWalk.i64_in _ (by omega)) ?_) | (refine VIdx.mk _ rfl (by omega) ?_) | (refine VIdx.mk 0 rfl (by omega) ?_))
  try (conv => whnf)
  have A3d := A3.below (Below.refl _ w3).drew
  obtain ⟨hkeys, hnd⟩ := Keys.of W A.rs.hd
  obtain ⟨w4, hrun, hM, hg4⟩ := A3d.rs.map.put (w := w3.drew) hkeys (x := ⟨d, B', cB'⟩) (by show d.s < _; omega) (by show d.q < _; omega) (fun y hy => hnew y.d (by rw [← A.rs.hd]; exact List.mem_map.2 ⟨y, hy, rfl⟩))
  have hrun' : (Instr.mapUpdate 94 (.map (some X.hb)) (kSl d.sl) (.agg (dtA d B' cB' nB))).run Try.prog w3.drew = .ok () w4 := by
    have e : vDt ⟨d, B', cB'⟩ = .agg (dtA d B' cB' nB) := by unfold vDt; rw [hnB]
    rw [← e]; exact hrun
  refine VW.skip (w' := w4) (fun a ha => ?_) ?_
  · have h3 := ha (.tmp 17) _ rfl
    have h4 := ha (.tmp 18) _ rfl
    have h5 := ha (.tmp 19) _ rfl
    simp only [execOp, h3, h4, h5, Sem.run_bind, Sem.run_pure, Result.andThen_ok, hrun']
  have kB3 : RowK w3.drew K 1 eByte B' d.b := RowK.owns (w := w3) oB3 (fun _ => rfl) fun y hy => k0 y (by omega)
  obtain ⟨A4, q4⟩ := A3d.s_held hM hg4 (fun y hy => by
    rcases List.mem_append.1 hy with hy | hy
    · exact A3d.rs.bod y hy
    · rw [List.mem_singleton.1 hy]; exact kB3) (ds := o.held ++ [d]) (by rw [List.map_append, A.rs.hd]; rfl)
  have hl3 : ∀ y ∈ [b, w.heap.size, w2.heap.size], y < w3.heap.size ∧ (K y = r ∨ K y = 0) := fun y hy => by
    simp only [List.mem_cons, List.not_mem_nil, or_false] at hy
    rcases hy with rfl | rfl | rfl
    · exact ⟨by omega, .inl A.kb⟩
    · exact ⟨by omega, .inr kA⟩
    · exact ⟨by omega, .inr kB⟩
  have hs4 : Sm [b, w.heap.size, w2.heap.size] w3 w4 := fun y hy => q4.same y (hl3 y hy).1 (by have := (hl3 y hy).2; omega)
  repeat ((conv => whnf); first | (refine VS.mk hs4 ?_) | (refine VCmp.tt (by omega) ?_) | (refine VCmp.ff (by omega) ?_) | (refine VIn.mk (IntWalk.i64_in _ (by omega)) ?_) | (refine VIdx.mk _ rfl (by omega) ?_) | (refine VIdx.mk 0 rfl (by omega) ?_))
  try (conv => whnf)
  have z4 : w3.heap.size ≤ w4.heap.size := q4.size
  have o4 := range_same o3 (hs4 w.heap.size (by simp))
  have r4 := range_same r3 (hs4 w2.heap.size (by simp))
  have L6 : Ld Try.prog 3 w.heap.size 0 (Sm [b, w.heap.size] w4) (.int .i64 d.s) := ⟨fun W' hW => load3 (cell_sm (o4 0 _ rfl) (by simp) hW)⟩
  have L7 : Ld Try.prog 3 w.heap.size 1 (Sm [b, w.heap.size] w4) (.int .i64 d.q) := ⟨fun W' hW => load3 (cell_sm (o4 1 _ rfl) (by simp) hW)⟩
  have hs4' : Sm [b, w.heap.size] w4 w4.drew := fun _ _ => rfl
  refine VDraw.pl 8 (.one [0, 1, 2, 3, 4, 5, 6, 7] 8 (.stop [])) (Sm [b, w.heap.size] w4) (by kernel_rfl) (hs4') ?_
  repeat ((conv => whnf); first | (refine VLoad.mk _ L6 ?_) | (refine VLoad.mk _ L7 ?_) | (refine VCmp.tt (by omega) ?_) | (refine VCmp.ff (by omega) ?_) | (refine VIn.mk (IntWalk.i64_in _ (by omega)) ?_) | (refine VIdx.mk _ rfl (by omega) ?_) | (refine VIdx.mk 0 rfl (by omega) ?_))
  try (conv => whnf)
  have cp := A4.cs.cell (24 + d.s) (by omega)
  have A4d := A4.below (Below.refl _ w4).drew
  refine VStore.cell (by kernel_rfl) (by rw [show addO 0 24 + mulO d.s 1 = 24 + d.s from rfl]; rw [show w4.drew.cell? = w4.cell? from rfl, cp.1]; rfl) cp.2 rfl rfl fun w5 hw5 => ?_
  obtain ⟨A5, q5⟩ := A4d.s_taken h1 d.q (j := addO 0 24 + mulO d.s 1) rfl hw5.out
  have z5 : w4.heap.size ≤ w5.heap.size := q5.size
  have e3 : Ro (inR r) K K w w3 := .below b3
  have e4 : Ro (inR r) K K w w4 := (e3.trans (Ro.drew (Ro.refl _ _ _))).trans (q4.more fun y hy => by unfold inR; omega)
  have e5 : Ro (inR r) K K w w5 := (e4.trans (Ro.drew (Ro.refl _ _ _))).trans (q5.more fun y hy => by unfold inR; omega)
  repeat ((conv => whnf); first | (refine VS.last rfl ?_) | (refine VCmp.tt (by omega) ?_) | (refine VCmp.ff (by omega) ?_) | (refine VIn.mk (IntWalk.i64_in _ (by omega)) ?_) | (refine VIdx.mk _ rfl (by omega) ?_) | (refine VIdx.mk 0 rfl (by omega) ?_))
  try (conv => whnf)
  have sq0 := sequencer_any A5 W.m0
  have sq : Calls Try.prog 50 #[.pointer (some ⟨b, 0, none⟩)] w5 fun e w' => e = .returned (.bool o.seq) ∧ Below w5.heap.size w5 w' := sq0
  refine VCall.mk _ sq ?_
  rintro _ w6 ⟨rfl, b6⟩
  refine ⟨_, rfl, ?_⟩
  have z6 := b6.size
  have A6 := A5.below b6
  have e6 : Ro (inR r) K K w w6 := e5.trans (.below b6)
  cases hq : o.seq with
  | false =>
    repeat ((conv => whnf); first | (refine VCmp.tt (by omega) ?_) | (refine VCmp.ff (by omega) ?_) | (refine VIn.mk (IntWalk.i64_in _ (by omega)) ?_) | (refine VIdx.mk _ rfl (by omega) ?_) | (refine VIdx.mk 0 rfl (by omega) ?_))
    try (conv => whnf)
    refine .mk ⟨rfl, ?_⟩
    have ek : o.keep d = { o with held := o.held ++ [d], taken := upN o.taken d.s d.q } := by unfold Os.keep; rw [hq]; rfl
    rw [ek]
    exact ⟨K, _, A6, e6⟩
  | true =>
    have L8 : Ld Try.prog 48 b 89 (Sm [b, w2.heap.size] w6) (.slice X.qA o.queue.length X.qc) := A6.l_queue (by simp)
    have h26 : w6.heap[w2.heap.size]? = w4.heap[w2.heap.size]? := (b6.block _ (by omega)).trans (q5.same _ (show w2.heap.size < w4.heap.size by omega) (by omega))
    have L9 : Ld Try.prog 78 w2.heap.size 0 (Sm [b, w2.heap.size] w6) (kSl d.sl) := ⟨fun W' hW => load78 (range_same r4 ((hW _ (by simp)).trans h26))⟩
    have hs6 : Sm [b, w2.heap.size] w6 w6.drew := fun _ _ => rfl
    have hl6 : ∀ y ∈ [b, w2.heap.size], y < w6.heap.size ∧ (K y = r ∨ K y = 0) := fun y hy => by
      simp only [List.mem_cons, List.not_mem_nil, or_false] at hy
      rcases hy with rfl | rfl
      · exact ⟨by omega, .inl A.kb⟩
      · exact ⟨by omega, .inr kB⟩
    repeat ((conv => whnf); first | (refine VCmp.tt (by omega) ?_) | (refine VCmp.ff (by omega) ?_) | (refine VIn.mk (IntWalk.i64_in _ (by omega)) ?_) | (refine VIdx.mk _ rfl (by omega) ?_) | (refine VIdx.mk 0 rfl (by omega) ?_))
    try (conv => whnf)
    refine VDraw.pl 10 (.one [0, 1, 2, 3, 4, 5] 6 (.one [] 7 (.one [8, 9] 10 (.stop [])))) (Sm [b, w2.heap.size] w6) (by kernel_rfl) (hs6) ?_
    repeat ((conv => whnf); first | (refine VLoad.mk _ L8 ?_) | (refine VLoad.mk _ L9 ?_) | (refine VCmp.tt (by omega) ?_) | (refine VCmp.ff (by omega) ?_) | (refine VIn.mk (IntWalk.i64_in _ (by omega)) ?_) | (refine VIdx.mk _ rfl (by omega) ?_) | (refine VIdx.mk 0 rfl (by omega) ?_))
    try (conv => whnf)
    refine VBs.mk _ _ (bs48 w6.drew d.s d.q) ?_
    have c7 : Below w6.heap.size w6 (w6.drew.alloc (.cells #[.int .i64 d.s, .int .i64 d.q] 78)) := Below.trans (Below.drew (Below.refl _ w6)) ((Below.refl w6.drew.heap.size w6.drew).alloc (Nat.le_refl _) _)
    have hnc : ∀ j u, (eSl d.sl)[j]? = some u → (w6.drew.alloc (.cells #[.int .i64 d.s, .int .i64 d.q] 78)).cell? ⟨w6.drew.heap.size, j, none⟩ = some u := fun j u hu => by
      have := range_new w6.drew #[.int .i64 d.s, .int .i64 d.q] 78 j u hu
      rwa [Nat.zero_add] at this
    generalize w6.drew.alloc (.cells #[.int .i64 d.s, .int .i64 d.q] 78) = w7 at c7 hnc ⊢
    have A7 := A6.below c7
    have z7 := c7.size
    have hs7 : Sm [b, w2.heap.size] w6 w7 := .below c7 fun y hy => (hl6 y hy).1
    repeat ((conv => whnf); first | (refine VS.mk hs7 ?_) | (refine VCmp.tt (by omega) ?_) | (refine VCmp.ff (by omega) ?_) | (refine VIn.mk (IntWalk.i64_in _ (by omega)) ?_) | (refine VIdx.mk _ rfl (by omega) ?_) | (refine VIdx.mk 0 rfl (by omega) ?_))
    try (conv => whnf)
    refine VApp.off 2 16 _ Try.underlying48 info78 rfl (by decide) eSl (fun _ => rfl) one_eSl o.queue d.sl rfl A7.rs.q hnc A7.kz (by omega) (by omega) fun A8 c8 K8 w8 oA8 q8 kz8 => ?_
    have hs8 : Sm [b, w2.heap.size] w6 w8 := hs7.trans fun y hy => q8.same y (by have := (hl6 y hy).1; omega) (by have := (hl6 y hy).2; omega)
    have cb := (A7.cs.same q8.size (q8.same b (by omega) (by rw [A.kb]; omega))).cell 89 (by omega)
    repeat ((conv => whnf); first | (refine VS.mk hs8 ?_) | (refine VCmp.tt (by omega) ?_) | (refine VCmp.ff (by omega) ?_) | (refine VIn.mk (IntWalk.i64_in _ (by omega)) ?_) | (refine VIdx.mk _ rfl (by omega) ?_) | (refine VIdx.mk 0 rfl (by omega) ?_))
    try (conv => whnf)
    refine VStore.cell (by kernel_rfl) (by rw [show addO 0 89 = 89 from rfl, cb.1]; rfl) cb.2 rfl rfl fun w9 hw9 => ?_
    obtain ⟨A9, q9⟩ := A7.s_queue (n := o.queue.length + 1) (by simp) oA8 q8 kz8 (show addO 0 89 = 89 from rfl) hw9.out
    repeat ((conv => whnf); first | (refine VS.last rfl ?_) | (refine VCmp.tt (by omega) ?_) | (refine VCmp.ff (by omega) ?_) | (refine VIn.mk (IntWalk.i64_in _ (by omega)) ?_) | (refine VIdx.mk _ rfl (by omega) ?_) | (refine VIdx.mk 0 rfl (by omega) ?_))
    try (conv => whnf)
    refine .mk ⟨rfl, ?_⟩
    have ek : o.keep d = { o with held := o.held ++ [d], taken := upN o.taken d.s d.q, queue := o.queue ++ [d.sl] } := by unfold Os.keep; rw [if_pos hq]
    rw [ek]
    exact ⟨K8, _, A9, (e6.trans (.below c7)).trans (q9.more fun y hy => by unfold inR; omega)⟩
end
end Go.Proofs.Ytoilipfgimcoiaa
