/- OdL OdN OdQ, joined. -/
import Derived.Test.YtoilipfgimcoiaaOe7
set_option linter.unusedVariables false
set_option linter.unusedSimpArgs false
namespace Go.Proofs.Ytoilipfgimcoiaa
open Go Go.RowKit
def falses : List Value := List.replicate 16 (.bool false)
def zeros16 : List Value := List.replicate 16 (.int .i64 0)
def osA (v : Vd) (A : Option Addr) (n c : Nat) (self win : Int) (h : Nat) : Array Value :=
  #[.int .i64 v.e, .int .i64 v.l, .int .i64 v.i, .int .i64 v.c, .slice A n c, .int .i64 self, .int .i64 win, .bool false] ++ (falses ++ zeros16 ++ zeros16 ++ zeros16 ++ zeros16).toArray ++ #[.map (some h), .slice none 0 0, .slice none 0 0, .int .i64 0, .int .i64 0, .int .i64 0]
set_option maxRecDepth 100000 in
theorem build96 (W : World) (v : Vd) (A : Option Addr) (n c : Nat) (self win : Int) (h : Nat) : (Instr.build 96 #[(0, .agg #[.int .i64 v.e, .int .i64 v.l, .int .i64 v.i, .int .i64 v.c]), (1, .slice A n c), (2, .int .i64 self), (3, .int .i64 win), (10, .map (some h))]).run Try.prog W = .ok (.agg (osA v A n c self win h)) W := by kernel_rfl
def Os.new0 (id : Vd) (mem : List Nat) (self win : Nat) : Os := ⟨id, mem, self, win, false, fun _ => false, fun _ => 0, fun _ => 0, fun _ => 0, fun _ => 0, [], [], [], 0, 0, 0⟩
set_option maxRecDepth 100000 in
theorem osA_cells (v : Vd) (mem : List Nat) (self win : Nat) (A : Option Addr) (c h : Nat) : (osA v A mem.length c self win h).toList = (List.range 94).map (cellO (Os.new0 v mem self win) ⟨A, c, h, none, 0, none, 0, []⟩) := by kernel_rfl
set_option maxRecDepth 100000 in
theorem osA_size (v : Vd) (A : Option Addr) (n c : Nat) (self win : Int) (h : Nat) : (osA v A n c self win h).size = 94 := by kernel_rfl
set_option maxRecDepth 100000 in
set_option maxHeartbeats 8000000 in
theorem new_any (v : Vd) (ms : List Mbr) (self win : Int) {B : Option Addr} {cB nB : Nat} (w : World) (hn : ms.length = nB) (hB : RowAt w w.heap.size 3 eMbr B ms) (h1 : nB ≤ 2000000) (K : Nat → Nat) (kz : ∀ b, w.heap.size ≤ b → K b = 0) (r : Nat) (r0 : 0 < r) :
    Calls Try.prog 26 #[.agg (vwA v B nB cB), .int .i64 self, .int .i64 win] w fun e w' => Below w.heap.size w w' ∧
      ((¬ (1 ≤ win ∧ win ≤ 8) ∧ e = .returned (.tuple #[.pointer none, .int .i64 1])) ∨ ((1 ≤ win ∧ win ≤ 8) ∧ pidsOf v ms self = none ∧ e = .returned (.tuple #[.pointer none, .int .i64 74])) ∨
      ((1 ≤ win ∧ win ≤ 8) ∧ ∃ l b K' X', pidsOf v ms self = some l ∧ e = .returned (.tuple #[.pointer (some ⟨b, 0, none⟩), .int .i64 0]) ∧ OrdAt w' K' r b (Os.new v l self.toNat win.toNat) X' ∧ Ro (fun _ => False) K K' w w' ∧ w.heap.size ≤ b)) := by
  refine calls_vc tab_ok Try.func26 rfl ?_
  conv => whnf
  refine .mk fun wA hwA => ?_
  have bA : Below w.heap.size w wA := by rw [hwA.out]; exact below_box1 _ _ _
  have zA : wA.heap.size = w.heap.size + 1 := by rw [hwA.out]; simp
  have oA : wA.rangeAt w.heap.size 0 (vwA v B nB cB).toList := by rw [hwA.out]; exact range_new w _ 63
  clear hwA
  by_cases h2 : win < 1
  · repeat ((conv => whnf); first | (refine VCmp.tt (by omega) ?_) | (refine VCmp.ff (by omega) ?_) | (refine VIn.mk (IntWalk.i64_in _ (by omega)) ?_) | (refine VIdx.mk _ rfl (by omega) ?_) | (refine VIdx.mk 0 rfl (by omega) ?_))
    try (conv => whnf)
    exact .mk ⟨bA, .inl ⟨by omega, rfl⟩⟩
  by_cases h3 : 8 < win
  · repeat ((conv => whnf); first | (refine VCmp.tt (by omega) ?_) | (refine VCmp.ff (by omega) ?_) | (refine VIn.mk (IntWalk.i64_in _ (by omega)) ?_) | (refine VIdx.mk _ rfl (by omega) ?_) | (refine VIdx.mk 0 rfl (by omega) ?_))
    try (conv => whnf)
    exact .mk ⟨bA, .inl ⟨by omega, rfl⟩⟩
  have LV : Ld Try.prog 63 w.heap.size 0 (Eq wA) (.agg (vwA v B nB cB)) := .of (load_agg (by kernel_rfl) (by kernel_rfl) oA)
  repeat ((conv => whnf); first | (refine VLoad.mk _ LV ?_) | (refine VCmp.tt (by omega) ?_) | (refine VCmp.ff (by omega) ?_) | (refine VIn.mk (IntWalk.i64_in _ (by omega)) ?_) | (refine VIdx.mk _ rfl (by omega) ?_) | (refine VIdx.mk 0 rfl (by omega) ?_))
  try (conv => whnf)
  refine VCall.mk _ (pids_any v ms self wA hn (hB.below bA (Nat.le_refl _) |>.more (by omega)) h1) ?_
  rintro _ w1 ⟨A, c, rfl, own, hnil, b1⟩
  refine ⟨_, rfl, ?_⟩
  have z1 := b1.size
  have bw1 : Below w.heap.size w w1 := bA.trans (b1.mono (by omega))
  cases hp : pidsOf v ms self with
  | none =>
    rw [hp] at own hnil
    obtain rfl := hnil.2 rfl
    repeat ((conv => whnf); first | (refine VCmp.tt (by omega) ?_) | (refine VCmp.ff (by omega) ?_) | (refine VIn.mk (IntWalk.i64_in _ (by omega)) ?_) | (refine VIdx.mk _ rfl (by omega) ?_) | (refine VIdx.mk 0 rfl (by omega) ?_))
    try (conv => whnf)
    exact .mk ⟨bw1, .inr (.inl ⟨by omega, rfl, rfl⟩)⟩
  | some l =>
    rw [hp] at own hnil
    have own' : Owns w1 wA.heap.size 3 1 eNat A c l := own
    obtain ⟨a, ha⟩ : ∃ a, A = some a := by
      cases A with
      | none => have := hnil.1 rfl; cases this
      | some a => exact ⟨a, rfl⟩
    subst ha
    have hself : ∃ x ∈ l, (x : Int) = self := by
      unfold pidsOf at hp
      split at hp
      · rename_i hc
        injection hp with hp
        rw [Bool.and_eq_true] at hc
        have := hc.2
        rw [hp] at this
        exact of_decide_eq_true this
      · cases hp
    have hlt : ∀ q ∈ l, q < 16 := by
      unfold pidsOf at hp
      split at hp
      · rename_i hc
        injection hp with hp
        rw [Bool.and_eq_true, Bool.and_eq_true] at hc
        intro q hq
        rw [← hp] at hq
        unfold pidL at hq
        obtain ⟨m, hm, rfl⟩ := List.mem_map.1 hq
        have := lastP_ge hc.1.2 hc.1.2 (Int.le_refl _) m hm
        omega
      · cases hp
    obtain ⟨sn, hsl, hsn⟩ := hself
    subst hsn
    have hs16 := hlt sn hsl
    have LI : Ld Try.prog 47 w.heap.size 0 (Eq w1) (.agg #[.int .i64 v.e, .int .i64 v.l, .int .i64 v.i, .int .i64 v.c]) := .of (load_agg (by kernel_rfl) (by kernel_rfl) (range_sub (n := 4) (range_same oA (b1.block _ (show w.heap.size < wA.heap.size by omega))) 0 rfl))
    repeat ((conv => whnf); first | (refine VLoad.mk _ LI ?_) | (refine VCmp.tt (by omega) ?_) | (refine VCmp.ff (by omega) ?_) | (refine VIn.mk (IntWalk.i64_in _ (by omega)) ?_) | (refine VIdx.mk _ rfl (by omega) ?_) | (refine VIdx.mk 0 rfl (by omega) ?_))
    try (conv => whnf)
    refine VW.run (v := .map (some w1.heap.size)) (w' := w1.alloc (.map #[] 0)) (fun a ha => ?_) ?_
    · simp only [execOp, Option.map_none, Sem.run_bind, run_makeMap, Result.andThen_ok, Sem.run_pure]
    have c2 : Below w1.heap.size w1 (w1.alloc (.map #[] 0)) := (Below.refl _ _).alloc (Nat.le_refl _) _
    have hM : HMap (w1.alloc (.map #[] 0)) w1.heap.size [] := ⟨#[], 0, (MapKept.heap_alloc w1 _).1, rfl, ⟨List.nodup_nil, fun _ h => (List.not_mem_nil h).elim⟩⟩
    have z2 : (w1.alloc (.map #[] 0)).heap.size = w1.heap.size + 1 := World.size_alloc _ _
    generalize w1.alloc (.map #[] 0) = w2 at c2 hM z2 ⊢
    obtain ⟨wn, hwn⟩ := Int.eq_ofNat_of_zero_le (show 0 ≤ win by omega)
    subst hwn
    repeat ((conv => whnf); first | (refine VCmp.tt (by omega) ?_) | (refine VCmp.ff (by omega) ?_) | (refine VIn.mk (IntWalk.i64_in _ (by omega)) ?_) | (refine VIdx.mk _ rfl (by omega) ?_) | (refine VIdx.mk 0 rfl (by omega) ?_))
    try (conv => whnf)
    refine VBuild.mk (.agg (osA v (some a) l.length c sn wn w1.heap.size)) (fun W' => build96 W' v (some a) l.length c sn wn w1.heap.size) ?_
    repeat ((conv => whnf); first | (refine VCmp.tt (by omega) ?_) | (refine VCmp.ff (by omega) ?_) | (refine VIn.mk (IntWalk.i64_in _ (by omega)) ?_) | (refine VIdx.mk _ rfl (by omega) ?_) | (refine VIdx.mk 0 rfl (by omega) ?_))
    try (conv => whnf)
    refine .mk fun w3 hw3 => ?_
    have c3 : Below w2.heap.size w2 w3 := by rw [hw3.out]; exact (Below.refl _ _).alloc (Nat.le_refl _) _
    have z3 : w3.heap.size = w2.heap.size + 1 := by rw [hw3.out]; exact World.size_alloc _ _
    have r3 : w3.rangeAt w2.heap.size 0 (osA v (some a) l.length c sn wn w1.heap.size).toList := by have := range_new w2 (osA v (some a) l.length c sn wn w1.heap.size) 96; rw [hw3.out]; exact this
    have t3 : w3.there w2.heap.size 0 94 := by have := there_new w2 (osA v (some a) l.length c sn wn w1.heap.size) 96; rw [osA_size] at this; rw [hw3.out]; exact this
    clear hw3
    obtain ⟨X, hX⟩ : ∃ X : OsX, X = ⟨some a, c, w1.heap.size, none, 0, none, 0, []⟩ := ⟨_, rfl⟩
    obtain ⟨K3, hK3⟩ : ∃ K3 : Nat → Nat, K3 = fun y => if y = w2.heap.size then r else if y = w1.heap.size then r + 1 else K y := ⟨_, rfl⟩
    have k3a : K3 w2.heap.size = r := by rw [hK3]; exact if_pos rfl
    have k3b : K3 w1.heap.size = r + 1 := by rw [hK3]; show (if w1.heap.size = w2.heap.size then _ else _) = _; rw [if_neg (by omega), if_pos rfl]
    have k3c : ∀ y, y ≠ w2.heap.size → y ≠ w1.heap.size → K3 y = K y := fun y e1 e2 => by rw [hK3]; show (if y = w2.heap.size then _ else _) = _; rw [if_neg e1, if_neg e2]
    have cells : ∀ j, j < 94 → w3.cell? ⟨w2.heap.size, j, none⟩ = some (cellO (Os.new0 v l sn wn) X j) ∧ w3.frozen? ⟨w2.heap.size, j, none⟩ = false := fun j hj => by
      refine ⟨?_, by have := (t3 j hj).2; rwa [Nat.zero_add] at this⟩
      have := r3 j (cellO (Os.new0 v l sn wn) X j) (by rw [osA_cells, List.getElem?_map, List.getElem?_range hj, hX]; rfl)
      rwa [Nat.zero_add] at this
    have b13 : Below w1.heap.size w1 w3 := c2.trans (c3.mono c2.size)
    have own3 := own'.keep b13 (fun q hq => (own'.lo q hq).2)
    have bw3 : Below w.heap.size w w3 := bw1.trans (b13.mono bw1.size)
    have A3 : OrdAt w3 K3 r w2.heap.size (Os.new0 v l sn wn) X := by
      refine ⟨r0, k3a, fun y hy => (k3c y (by omega) (by omega)).trans (kz y (by omega)), ⟨by omega, cells⟩, ⟨?_, ?_, ?_, ?_, ?_, ?_, ?_⟩⟩
      · rw [hX]
        exact .at_ (own3.row fun _ => rfl) fun y hy => by
          have h5 := own'.lo y hy
          rw [k3c y (by omega) (by omega)]
          exact kz y (by omega)
      · rw [hX]; exact hM.same (c3.block _ (by omega))
      · rw [hX]; exact k3b
      · rw [hX]; rfl
      · rw [hX]; intro y hy; cases hy
      · rw [hX]; exact .inl ⟨rfl, rfl, rfl⟩
      · rw [hX]; exact .inl ⟨rfl, rfl, rfl⟩
    have cq := A3.cs.cell (8 + sn) (by omega)
    repeat ((conv => whnf); first | (refine VCmp.tt (by omega) ?_) | (refine VCmp.ff (by omega) ?_) | (refine VIn.mk (IntWalk.i64_in _ (by omega)) ?_) | (refine VIdx.mk _ rfl (by omega) ?_) | (refine VIdx.mk 0 rfl (by omega) ?_))
    try (conv => whnf)
    refine VStore.cell (by kernel_rfl) (by rw [show addO 0 8 + mulO sn 1 = 8 + sn from rfl, cq.1]; rfl) cq.2 rfl rfl fun w4 hw4 => ?_
    obtain ⟨A4, q4⟩ := A3.s_seen hs16 true (j := addO 0 8 + mulO sn 1) rfl hw4.out
    repeat ((conv => whnf); first | (refine VCmp.tt (by omega) ?_) | (refine VCmp.ff (by omega) ?_) | (refine VIn.mk (IntWalk.i64_in _ (by omega)) ?_) | (refine VIdx.mk _ rfl (by omega) ?_) | (refine VIdx.mk 0 rfl (by omega) ?_))
    try (conv => whnf)
    have g4 : w3.grownBy w4 (some w2.heap.size) := by rw [hw4.out]; exact grown_cell _ _ _ _
    have bw4 : Below w.heap.size w w4 := bw3.grown g4 (by omega) fun k hk => by injection hk with hk; omega
    refine .mk ⟨bw4, .inr (.inr ⟨by omega, l, w2.heap.size, K3, X, rfl, rfl, ?_, (Ro.below bw4).role fun y hy => k3c y (by omega) (by omega), by omega⟩)⟩
    rw [Int.toNat_natCast]
    exact A4
end Go.Proofs.Ytoilipfgimcoiaa
namespace Go.Proofs.Ytoilipfgimcoiaa
open Go Go.RowKit
structure Stb where
  v : Vd
  d : Int
  p : Int
abbrev sbA (s : Stb) : Array Value := #[.int .i64 s.v.e, .int .i64 s.v.l, .int .i64 s.v.i, .int .i64 s.v.c, .int .i64 s.d, .int .i64 s.p]
def Os.heard (o : Os) (q : Nat) (d : Nat) : Os := { o with seen := upN o.seen q true, told := upN o.told q (max (o.told q) d) }
def Os.hear (o : Os) (q : Int) (s : Stb) : Int × Os :=
  if hasB o.mem q = false ∨ q = o.self then (72, o) else if ¬ (0 ≤ s.d ∧ s.d ≤ 4611686018427387904) ∨ s.p < 0 ∨ s.d < s.p then (1, o) else if s.v ≠ o.id then (40, o) else if o.frz = true then (70, o)
  else if (o.done : Int) < s.p then (43, o) else (0, ((o.heard q.toNat s.d.toNat).rise s.p.toNat).rise ((o.heard q.toNat s.d.toNat).rise s.p.toNat).least)
theorem run_neq_vd (w : World) (a b c d a' b' c' d' : Int) : (binOp .neq 47 (.agg #[.int .i64 a, .int .i64 b, .int .i64 c, .int .i64 d]) (.agg #[.int .i64 a', .int .i64 b', .int .i64 c', .int .i64 d'])).run Try.prog w = .ok (.bool (!decide ((⟨a, b, c, d⟩ : Vd) = ⟨a', b', c', d'⟩))) w := by
  go_simp
  by_cases h1 : a = a' <;> by_cases h2 : b = b' <;> by_cases h3 : c = c' <;> by_cases h4 : d = d' <;> simp [h1, h2, h3, h4]
theorem leastTo_le (o : Os) : ∀ (l : List Nat) (n : Nat), leastTo o l n ≤ n
  | [], n => Nat.le_refl _
  | q :: r, n => by
    rw [leastTo]
    refine Nat.le_trans (leastTo_le o r _) ?_
    split
    · exact Nat.le_refl _
    · exact Nat.min_le_left _ _
theorem least_le (o : Os) : o.least ≤ o.done := leastTo_le o _ _
theorem rise_known (o : Os) {n : Nat} (h : n ≤ o.known) : (o.rise n).known = o.known := (riseK_facts o (n - o.pre) (by unfold Os.known at h; omega)).2.2
theorem WfO.heard {o : Os} (h : WfO o) (q d : Nat) : WfO (o.heard q d) := ⟨h.m0, h.m16, h.mlt, h.win, h.self, h.sl, h.qu, h.ql, h.ke, h.nd, h.hq, h.tk, h.pl, h.gn, h.kn, h.dn, h.mi⟩
section
variable {w w' : World} {K K' : Nat → Nat} {r b : Nat} {o : Os} {X : OsX}
set_option maxRecDepth 100000 in
set_option maxHeartbeats 8000000 in
theorem hear_any (A : OrdAt w K r b o X) (W : WfO o) (hdk : o.done ≤ o.known) (q : Int) (s : Stb) :
    Calls Try.prog 59 #[.pointer (some ⟨b, 0, none⟩), .int .i64 q, .agg (sbA s)] w fun e w' => e = .returned (.int .i64 (o.hear q s).1) ∧ OP w K r b (o.hear q s).2 w' := by
  refine calls_vc tab_ok Try.func59 rfl ?_
  have r0 := A.r0
  have hbz := A.cs.hb
  conv => whnf
  refine .mk fun wA hwA => ?_
  have bA : Below w.heap.size w wA := by rw [hwA.out]; exact below_box1 _ _ _
  have zA : wA.heap.size = w.heap.size + 1 := by rw [hwA.out]; simp
  have oA : wA.rangeAt w.heap.size 0 (sbA s).toList := by rw [hwA.out]; exact range_new w _ 88
  clear hwA
  have AA := A.below bA
  have hba : w.heap.size < wA.heap.size := by omega
  have kA : K w.heap.size = 0 := A.kz _ (Nat.le_refl _)
  have L1 := AA.l_self (l := [b, w.heap.size]) (by simp)
  have L2 := AA.l_frz (l := [b, w.heap.size]) (by simp)
  have L3 := AA.l_id (l := [b, w.heap.size]) (by simp)
  have L4 := AA.l_done (l := [b, w.heap.size]) (by simp)
  have s0 := Sm.refl [b, w.heap.size] wA
  have sd : Sm [b, w.heap.size] wA wA.drew := fun _ _ => rfl
  have sdd : Sm [b, w.heap.size] wA wA.drew.drew := fun _ _ => rfl
  have S0 : Ld Try.prog 47 w.heap.size 0 (Sm [b, w.heap.size] wA) (.agg #[.int .i64 s.v.e, .int .i64 s.v.l, .int .i64 s.v.i, .int .i64 s.v.c]) := ⟨fun W' hW => load_agg (by kernel_rfl) (by kernel_rfl) (range_sub (n := 4) (range_same oA (hW _ (by simp))) 0 rfl)⟩
  have S1 : Ld Try.prog 3 w.heap.size 4 (Sm [b, w.heap.size] wA) (.int .i64 s.d) := ⟨fun W' hW => load3 (cell_sm (oA 4 _ rfl) (by simp) hW)⟩
  have S2 : Ld Try.prog 3 w.heap.size 5 (Sm [b, w.heap.size] wA) (.int .i64 s.p) := ⟨fun W' hW => load3 (cell_sm (oA 5 _ rfl) (by simp) hW)⟩
  have opA : ∀ y, Below wA.heap.size wA y → OP w K r b o y := fun y hy => ⟨K, X, AA.below hy, .below (bA.trans (hy.mono bA.size))⟩
  repeat ((conv => whnf); first | (refine VCmp.tt (by omega) ?_) | (refine VCmp.ff (by omega) ?_) | (refine VIn.mk (IntWalk.i64_in _ (by omega)) ?_) | (refine VIdx.mk _ rfl (by omega) ?_) | (refine VIdx.mk 0 rfl (by omega) ?_))
  try (conv => whnf)
  refine VCall.mk _ (member_any AA W.m16 q) ?_
  rintro _ _ ⟨rfl, rfl⟩
  refine ⟨_, rfl, ?_⟩
  rename_i wA
  cases h1 : hasB o.mem q with
  | false =>
    have hp : o.hear q s = (72, o) := by unfold Os.hear; rw [if_pos (.inl h1)]
    rw [hp]
    repeat ((conv => whnf); first | (refine VCmp.tt (by omega) ?_) | (refine VCmp.ff (by omega) ?_) | (refine VIn.mk (IntWalk.i64_in _ (by omega)) ?_) | (refine VIdx.mk _ rfl (by omega) ?_) | (refine VIdx.mk 0 rfl (by omega) ?_))
    try (conv => whnf)
    exact .mk ⟨rfl, opA _ (Below.refl _ _)⟩
  | true =>
    obtain ⟨f, hfm, hff⟩ : ∃ f ∈ o.mem, (f : Int) = q := of_decide_eq_true h1
    subst hff
    have hf16 := W.mlt f hfm
    by_cases h2 : f = o.self
    · have hp : o.hear f s = (72, o) := by unfold Os.hear; rw [if_pos (.inr (by rw [h2]))]
      rw [hp]
      repeat ((conv => whnf); first | (refine VLoad.mk _ (L1.at s0) ?_) | (refine VCmp.tt (by omega) ?_) | (refine VCmp.ff (by omega) ?_) | (refine VIn.mk (IntWalk.i64_in _ (by omega)) ?_) | (refine VIdx.mk _ rfl (by omega) ?_) | (refine VIdx.mk 0 rfl (by omega) ?_))
      try (conv => whnf)
      exact .mk ⟨rfl, opA _ (Below.refl _ _)⟩
    have h2' : ¬ ((f : Int) = (o.self : Int)) := by omega
    have hp1 : o.hear f s = if ¬ (0 ≤ s.d ∧ s.d ≤ 4611686018427387904) ∨ s.p < 0 ∨ s.d < s.p then (1, o) else if s.v ≠ o.id then (40, o) else if o.frz = true then (70, o) else if (o.done : Int) < s.p then (43, o) else (0, ((o.heard f s.d.toNat).rise s.p.toNat).rise ((o.heard f s.d.toNat).rise s.p.toNat).least) := by
      unfold Os.hear; rw [if_neg (by rw [h1]; simp; exact h2'), Int.toNat_natCast]
    rw [hp1]
    clear hp1
    by_cases h3 : ¬ (0 ≤ s.d ∧ s.d ≤ 4611686018427387904) ∨ s.p < 0 ∨ s.d < s.p
    · rw [if_pos h3]
      have fin : OP w K r b o wA := opA _ (Below.refl _ _)
      repeat' (conv => whnf
               first
               | (refine VLoad.mk _ (L1.at s0) ?_)
               | (refine VLoad.mk _ (S1.at s0) ?_)
               | (refine VLoad.mk _ (S2.at s0) ?_)
               | (refine VCall.count (fun _ _ => ?_) (fun _ => ?_))
               | (refine VCmp.tt (by omega) ?_)
               | (refine VCmp.ff (by omega) ?_)
               | (refine VIn.mk (IntWalk.i64_in _ (by omega)) ?_)
               | (refine VIdx.mk _ rfl (by omega) ?_)
               | (refine VIdx.mk 0 rfl (by omega) ?_)
               | (refine VCmp.split (fun _ => ?_) (fun _ => ?_)))
      all_goals try (conv => whnf)
      all_goals first
        | exact absurd h3 (by omega)
        | exact .mk ⟨rfl, fin⟩
    rw [if_neg h3]
    obtain ⟨dn, hdn⟩ := Int.eq_ofNat_of_zero_le (show 0 ≤ s.d by omega)
    obtain ⟨pn, hpn⟩ := Int.eq_ofNat_of_zero_le (show 0 ≤ s.p by omega)
    rw [hdn, hpn] at h3 ⊢
    rw [hdn] at S1
    rw [hpn] at S2
    rw [Int.toNat_natCast, Int.toNat_natCast]
    repeat ((conv => whnf); first | (refine VLoad.mk _ (L1.at s0) ?_) | (refine VLoad.mk _ (S1.at s0) ?_) | (refine VLoad.mk _ (S2.at s0) ?_) | (refine VCall.count (fun _ _ => ?_) (fun hc => absurd (by omega) hc)) | (refine VCmp.tt (by omega) ?_) | (refine VCmp.ff (by omega) ?_) | (refine VIn.mk (IntWalk.i64_in _ (by omega)) ?_) | (refine VIdx.mk _ rfl (by omega) ?_) | (refine VIdx.mk 0 rfl (by omega) ?_))
    try (conv => whnf)
    refine VDraw.pl 1000 (.stop [0, 1, 2, 3, 4, 5, 6, 7]) (Sm [b, w.heap.size] wA) (by kernel_rfl) (sd) ?_
    repeat ((conv => whnf); first | (refine VLoad.mk _ S0 ?_) | (refine VLoad.mk _ L3 ?_) | (refine VCmp.tt (by omega) ?_) | (refine VCmp.ff (by omega) ?_) | (refine VIn.mk (IntWalk.i64_in _ (by omega)) ?_) | (refine VIdx.mk _ rfl (by omega) ?_) | (refine VIdx.mk 0 rfl (by omega) ?_))
    try (conv => whnf)
    refine VBin.mk _ (Bn.of fun W' => run_neq_vd W' s.v.e s.v.l s.v.i s.v.c o.id.e o.id.l o.id.i o.id.c) ?_
    by_cases h4 : s.v = o.id
    case neg =>
      rw [if_pos h4, decide_eq_false h4]
      repeat ((conv => whnf); first | (refine VCmp.tt (by omega) ?_) | (refine VCmp.ff (by omega) ?_) | (refine VIn.mk (IntWalk.i64_in _ (by omega)) ?_) | (refine VIdx.mk _ rfl (by omega) ?_) | (refine VIdx.mk 0 rfl (by omega) ?_))
      try (conv => whnf)
      exact .mk ⟨rfl, opA _ (Below.refl _ _).drew⟩
    rw [if_neg (by simpa using h4), decide_eq_true h4]
    cases h5 : o.frz with
    | true =>
      rw [h5] at L2
      rw [if_pos rfl]
      repeat ((conv => whnf); first | (refine VLoad.mk _ (L2.at sd) ?_) | (refine VCmp.tt (by omega) ?_) | (refine VCmp.ff (by omega) ?_) | (refine VIn.mk (IntWalk.i64_in _ (by omega)) ?_) | (refine VIdx.mk _ rfl (by omega) ?_) | (refine VIdx.mk 0 rfl (by omega) ?_))
      try (conv => whnf)
      exact .mk ⟨rfl, opA _ (Below.refl _ _).drew⟩
    | false =>
      rw [h5] at L2
      rw [if_neg (by simp)]
      repeat ((conv => whnf); first | (refine VLoad.mk _ (L2.at sd) ?_) | (refine VCmp.tt (by omega) ?_) | (refine VCmp.ff (by omega) ?_) | (refine VIn.mk (IntWalk.i64_in _ (by omega)) ?_) | (refine VIdx.mk _ rfl (by omega) ?_) | (refine VIdx.mk 0 rfl (by omega) ?_))
      try (conv => whnf)
      refine VDraw.pl 1000 (.stop [0, 1, 2, 3, 4, 5, 6, 7]) (Sm [b, w.heap.size] wA) (by kernel_rfl) (sdd) ?_
      by_cases h6 : (o.done : Int) < (pn : Int)
      · rw [if_pos h6]
        repeat ((conv => whnf); first | (refine VLoad.mk _ S2 ?_) | (refine VLoad.mk _ L4 ?_) | (refine VCmp.tt (by omega) ?_) | (refine VCmp.ff (by omega) ?_) | (refine VIn.mk (IntWalk.i64_in _ (by omega)) ?_) | (refine VIdx.mk _ rfl (by omega) ?_) | (refine VIdx.mk 0 rfl (by omega) ?_))
        try (conv => whnf)
        exact .mk ⟨rfl, opA _ (Below.refl _ _).drew.drew⟩
      rw [if_neg h6]
      have Add := AA.below (Below.drew (Below.drew (Below.refl _ wA)))
      repeat ((conv => whnf); first | (refine VLoad.mk _ S2 ?_) | (refine VLoad.mk _ L4 ?_) | (refine VCmp.tt (by omega) ?_) | (refine VCmp.ff (by omega) ?_) | (refine VIn.mk (IntWalk.i64_in _ (by omega)) ?_) | (refine VIdx.mk _ rfl (by omega) ?_) | (refine VIdx.mk 0 rfl (by omega) ?_))
      try (conv => whnf)
      have cq := Add.cs.cell (8 + f) (by omega)
      refine VStore.cell (by kernel_rfl) (by rw [show addO 0 8 + mulO f 1 = 8 + f from rfl, cq.1]; rfl) cq.2 rfl rfl fun w1 hw1 => ?_
      obtain ⟨A1, q1⟩ := Add.s_seen hf16 true (j := addO 0 8 + mulO f 1) rfl hw1.out
      have z1 : wA.heap.size ≤ w1.heap.size := q1.size
      have o1 := range_same oA (q1.same w.heap.size hba (by rw [kA]; omega))
      have T1 : Ld Try.prog 3 b (72 + f) (Sm [b, w.heap.size] w1) (.int .i64 (o.told f)) := A1.l_told (by simp) hf16
      have T2 : Ld Try.prog 3 w.heap.size 4 (Sm [b, w.heap.size] w1) (.int .i64 dn) := ⟨fun W' hW => load3 (by rw [← hdn]; exact cell_sm (o1 4 _ rfl) (by simp) hW)⟩
      have s1 : Sm [b, w.heap.size] w1 w1.drew := fun _ _ => rfl
      repeat ((conv => whnf); first | (refine VCmp.tt (by omega) ?_) | (refine VCmp.ff (by omega) ?_) | (refine VIn.mk (IntWalk.i64_in _ (by omega)) ?_) | (refine VIdx.mk _ rfl (by omega) ?_) | (refine VIdx.mk 0 rfl (by omega) ?_))
      try (conv => whnf)
      refine VDraw.pl 14 (.one [0, 1, 2, 3, 4, 5, 6, 7, 8, 9, 11, 12] 10 (.one [13] 14 (.stop []))) (Sm [b, w.heap.size] w1) (by kernel_rfl) (s1) ?_
      repeat ((conv => whnf); first | (refine VLoad.mk _ T1 ?_) | (refine VLoad.mk _ T2 ?_) | (refine VCmp.tt (by omega) ?_) | (refine VCmp.ff (by omega) ?_) | (refine VIn.mk (IntWalk.i64_in _ (by omega)) ?_) | (refine VIdx.mk _ rfl (by omega) ?_) | (refine VIdx.mk 0 rfl (by omega) ?_))
      try (conv => whnf)
      refine VW.run (v := .int .i64 ((max (o.told f) dn : Nat) : Int)) (w' := w1.drew) (fun a ha => ?_) ?_
      · have h3 := ha (.tmp 70) _ rfl
        have h4 := ha (.tmp 72) _ rfl
        have := max_any (o.told f) dn w1.drew
        simp only [execOp, resolve, invoke, builtin, h3, h4, Sem.run_bind, Sem.run_pure, Result.andThen_ok, this, List.map_cons, List.map_nil, List.map_toArray]
      have A1d := A1.below (Below.refl _ w1).drew
      have cq2 := A1d.cs.cell (72 + f) (by omega)
      repeat ((conv => whnf); first | (refine VS.mk s1 ?_) | (refine VCmp.tt (by omega) ?_) | (refine VCmp.ff (by omega) ?_) | (refine VIn.mk (IntWalk.i64_in _ (by omega)) ?_) | (refine VIdx.mk _ rfl (by omega) ?_) | (refine VIdx.mk 0 rfl (by omega) ?_))
      try (conv => whnf)
      refine VStore.cell (by kernel_rfl) (by rw [show addO 0 72 + mulO f 1 = 72 + f from rfl, cq2.1]; rfl) cq2.2 rfl rfl fun w2 hw2 => ?_
      obtain ⟨A2, q2⟩ := A1d.s_told hf16 (max (o.told f) dn) (j := addO 0 72 + mulO f 1) rfl hw2.out
      have A2' : OrdAt w2 K r b (o.heard f dn) X := A2
      have z2 : w1.heap.size ≤ w2.heap.size := q2.size
      have e2 : Ro (inR r) K K w w2 := ((Ro.below bA).trans (Ro.drew (Ro.drew (Ro.refl _ _ _)))).trans (((q1.more fun y hy => by unfold inR; omega).trans (Ro.drew (Ro.refl _ _ _))).trans (q2.more fun y hy => by unfold inR; omega))
      have o2 := range_same o1 (q2.same w.heap.size (show w.heap.size < w1.heap.size by omega) (by rw [kA]; omega))
      have T3 : Ld Try.prog 3 w.heap.size 5 (Eq w2) (.int .i64 pn) := .of (load3 (by rw [← hpn]; exact o2 5 _ rfl))
      repeat ((conv => whnf); first | (refine VS.last rfl ?_) | (refine VLoad.mk _ T3 ?_) | (refine VCmp.tt (by omega) ?_) | (refine VCmp.ff (by omega) ?_) | (refine VIn.mk (IntWalk.i64_in _ (by omega)) ?_) | (refine VIdx.mk _ rfl (by omega) ?_) | (refine VIdx.mk 0 rfl (by omega) ?_))
      try (conv => whnf)
      refine VCall.mk _ (rise_any A2' (W.heard f dn) pn (by show pn ≤ o.known; omega)) ?_
      rintro _ w3 ⟨rfl, K3, X3, A3, q3⟩
      refine ⟨_, rfl, ?_⟩
      have W3 := (W.heard f dn).rise pn
      have k3 := rise_keeps (o.heard f dn) pn
      have kn3 : ((o.heard f dn).rise pn).known = o.known := rise_known _ (by show pn ≤ o.known; omega)
      obtain ⟨o3, ho3⟩ : ∃ o3, o3 = (o.heard f dn).rise pn := ⟨_, rfl⟩
      rw [← ho3] at W3 k3 kn3 A3 ⊢
      repeat ((conv => whnf); first | (refine VCmp.tt (by omega) ?_) | (refine VCmp.ff (by omega) ?_) | (refine VIn.mk (IntWalk.i64_in _ (by omega)) ?_) | (refine VIdx.mk _ rfl (by omega) ?_) | (refine VIdx.mk 0 rfl (by omega) ?_))
      try (conv => whnf)
      refine VCall.mk _ (least_any A3 W3) ?_
      rintro _ _ ⟨rfl, rfl⟩
      refine ⟨_, rfl, ?_⟩
      rename_i w3
      have hle := least_le o3
      have hd3 : o3.done = o.done := k3.done
      repeat ((conv => whnf); first | (refine VCmp.tt (by omega) ?_) | (refine VCmp.ff (by omega) ?_) | (refine VIn.mk (IntWalk.i64_in _ (by omega)) ?_) | (refine VIdx.mk _ rfl (by omega) ?_) | (refine VIdx.mk 0 rfl (by omega) ?_))
      try (conv => whnf)
      refine VCall.mk _ (rise_any A3 W3 o3.least (by omega)) ?_
      rintro _ w4 ⟨rfl, p4⟩
      refine ⟨_, rfl, ?_⟩
      repeat ((conv => whnf); first | (refine VCmp.tt (by omega) ?_) | (refine VCmp.ff (by omega) ?_) | (refine VIn.mk (IntWalk.i64_in _ (by omega)) ?_) | (refine VIdx.mk _ rfl (by omega) ?_) | (refine VIdx.mk 0 rfl (by omega) ?_))
      try (conv => whnf)
      exact .mk ⟨rfl, p4.trans (e2.trans q3)⟩
end
end Go.Proofs.Ytoilipfgimcoiaa
namespace Go.Proofs.Ytoilipfgimcoiaa
open Go Go.RowKit
def Os.asg1 (o : Os) : Os := match o.queue with
  | [] => o
  | x :: q => ({ o with queue := q } : Os).stand x
def Os.asgK (o : Os) : Nat → Os
  | 0 => o
  | k + 1 => (o.asgK k).asg1
structure ISl where
  pos : Nat
  sb : Nat
  x : Sl
abbrev isA (y : ISl) : Array Value := #[.int .i64 2, .int .i64 0, .int .i64 0, .int .i64 0, .slice none 0 0, .int .i64 y.pos, .int .i64 y.sb, .int .i64 y.x.s, .int .i64 y.x.q]
def eIS (y : ISl) : List Value := (isA y).toList
theorem one_eIS (y : ISl) : ∀ u ∈ eIS y, u.oneCell' = true := by
  intro u hu
  simp [eIS] at hu
  rcases hu with rfl | rfl | rfl | rfl | rfl | rfl | rfl | rfl <;> rfl
def Os.asgL (o : Os) : Nat → List ISl
  | 0 => []
  | k + 1 => o.asgL k ++ [⟨o.known + k + 1, o.pre, (o.queue[k]?).getD ⟨0, 0⟩⟩]
theorem asgL_len (o : Os) : ∀ k, (o.asgL k).length = k
  | 0 => rfl
  | k + 1 => by rw [Os.asgL, List.length_append, asgL_len o k]; rfl
def Os.asgN (o : Os) (m : Int) : Nat := min m.toNat (min o.queue.length (o.most - o.slots.length))
def Os.assign (o : Os) (m : Int) : List ISl × Os := if o.seq = false ∨ o.frz = true then ([], o) else (o.asgL (o.asgN m), o.asgK (o.asgN m))
structure RmA (o : Os) : Prop where
  pl : ∀ s, o.placed s + o.queue.length ≤ 1000000000
  kn : o.known + o.queue.length ≤ 1000000000
  gn : ∀ s, o.gone s + o.slots.length + o.queue.length ≤ 1000000000
theorem asg1_cons {o : Os} {x : Sl} {q : List Sl} (h : o.queue = x :: q) : o.asg1 = { o with queue := q, slots := o.slots ++ [x], placed := upN o.placed x.s (o.placed x.s + 1) } := by unfold Os.asg1; rw [h]; rfl
theorem asg1_wf {o : Os} (h : WfO o) (m : RmA o) {x : Sl} {q : List Sl} (hq : o.queue = x :: q) : WfO o.asg1 ∧ RmA o.asg1 := by
  rw [asg1_cons hq]
  have h1 := h.qu
  have h2 := h.ql
  have m1 := m.pl
  have m2 := m.kn
  have m3 := m.gn
  unfold Os.known at m2
  rw [hq] at h1 h2 m2
  simp only [hq, List.length_cons] at m1 m3 h2 m2
  have hx := h1 x List.mem_cons_self
  refine ⟨⟨h.m0, h.m16, h.mlt, h.win, h.self, fun y hy => ?_, fun y hy => h1 y (List.mem_cons_of_mem _ hy), by show q.length ≤ _; omega, h.ke, h.nd, h.hq, h.tk, fun s => ?_, fun s => ?_, ?_, h.dn, h.mi⟩, ⟨fun s => ?_, ?_, fun s => ?_⟩⟩
  · rcases List.mem_append.1 hy with hy | hy
    · exact h.sl y hy
    · rw [List.mem_singleton.1 hy]; exact hx
  · show upN o.placed x.s (o.placed x.s + 1) s ≤ _
    unfold upN; split
    · have := m1 x.s; omega
    · exact h.pl s
  · show o.gone s + (o.slots ++ [x]).length ≤ _
    rw [List.length_append]; have := m3 s; simp; omega
  · show o.pre + (o.slots ++ [x]).length ≤ _
    rw [List.length_append]; simp; omega
  · show upN o.placed x.s (o.placed x.s + 1) s + q.length ≤ _
    unfold upN; split
    · have := m1 x.s; omega
    · have := m1 s; omega
  · show o.pre + (o.slots ++ [x]).length + q.length ≤ _
    rw [List.length_append]; simp; omega
  · show o.gone s + (o.slots ++ [x]).length + q.length ≤ _
    rw [List.length_append]; have := m3 s; simp; omega
structure AsF (o p : Os) (k : Nat) : Prop where
  q : p.queue = o.queue.drop k
  s : p.slots = o.slots ++ o.queue.take k
  pre : p.pre = o.pre
  kn : p.known = o.known + k
  mem : p.mem = o.mem
  win : p.win = o.win
  self : p.self = o.self
  done : p.done = o.done
theorem asgK_facts {o : Os} (h : WfO o) (m : RmA o) : ∀ k, k ≤ o.queue.length → WfO (o.asgK k) ∧ RmA (o.asgK k) ∧ AsF o (o.asgK k) k
  | 0, _ => ⟨h, m, ⟨rfl, by simp [Os.asgK], rfl, rfl, rfl, rfl, rfl, rfl⟩⟩
  | k + 1, hk => by
    obtain ⟨h1, h2, h3⟩ := asgK_facts h m k (by omega)
    obtain ⟨x, hx⟩ : ∃ x, o.queue[k]? = some x := ⟨_, List.getElem?_eq_getElem (by omega)⟩
    have hd : (o.asgK k).queue = x :: o.queue.drop (k + 1) := by
      rw [h3.q, List.drop_eq_getElem_cons (by omega)]
      congr 1
      exact (List.getElem?_eq_some_iff.1 hx).2
    obtain ⟨w1, w2⟩ := asg1_wf h1 h2 hd
    refine ⟨w1, w2, ?_⟩
    have e : o.asgK (k + 1) = (o.asgK k).asg1 := rfl
    rw [e, asg1_cons hd]
    have h4 := h3.kn
    unfold Os.known at h4
    refine ⟨rfl, ?_, h3.pre, ?_, h3.mem, h3.win, h3.self, h3.done⟩
    · show (o.asgK k).slots ++ [x] = _
      rw [h3.s, List.take_add_one, hx, List.append_assoc]; rfl
    · show (o.asgK k).pre + ((o.asgK k).slots ++ [x]).length = o.known + (k + 1)
      rw [List.length_append]; unfold Os.known; simp; omega
section
variable {w w' : World} {K K' : Nat → Nat} {r b : Nat} {o : Os} {X : OsX}
theorem info80 : (Try.prog.info? 80).map (fun i => (i.zero, i.size, i.bytes)) = some (some (.agg #[.int .i64 0, .int .i64 0, .int .i64 0, .int .i64 0, .slice none 0 0, .int .i64 0, .int .i64 0, .int .i64 0, .int .i64 0]), 9, 88) := by kernel_rfl
theorem build80s (W : World) (p s : Int) (a c : Int) : (Instr.build 80 #[(0, .int .i64 2), (2, .int .i64 p), (3, .int .i64 s), (4, .agg #[.int .i64 a, .int .i64 c])]).run Try.prog W = .ok (.agg #[.int .i64 2, .int .i64 0, .int .i64 0, .int .i64 0, .slice none 0 0, .int .i64 p, .int .i64 s, .int .i64 a, .int .i64 c]) W := by kernel_rfl
theorem bs74 (W : World) (y : ISl) : (Instr.buildSlice 74 1 #[(0, .agg (isA y))]).run Try.prog W = .ok (.slice (some ⟨W.heap.size, 0, none⟩) 1 1) (W.alloc (.cells (isA y) 80)) := by kernel_rfl
theorem Ro.own {R : Nat → Prop} {w0 x x' : World} {K K1 K2 : Nat → Nat} {row : Option Nat} (q : Ro R K K1 w0 x) (hg : x.grownBy x' row) (hr : ∀ y, row = some y → w0.heap.size ≤ y) (hk : ∀ y, y < x.heap.size → K2 y = K1 y) : Ro R K K2 w0 x' :=
  ⟨hg.os.trans q.os, hg.tape.trans q.tape, hg.output.trans q.output, Nat.le_trans q.size hg.size, fun y hy hn => (hg.block y (Nat.lt_of_lt_of_le hy q.size) (fun e => by have := hr y e.symm; omega)).trans (q.same y hy hn), fun y hy => (hk y (Nat.lt_of_lt_of_le hy q.size)).trans (q.kk y hy)⟩
theorem Ro.re {R : Nat → Prop} {x : World} {K1 K2 : Nat → Nat} (q : Ro R K K1 w x) (h : ∀ y, y < w.heap.size → K2 y = K1 y) : Ro R K K2 w x := ⟨q.os, q.tape, q.output, q.size, q.same, fun y hy => (h y hy).trans (q.kk y hy)⟩
theorem WfO.less {o : Os} (h : WfO o) {x : Sl} {q : List Sl} (hq : o.queue = x :: q) : WfO { o with queue := q } :=
  ⟨h.m0, h.m16, h.mlt, h.win, h.self, h.sl, fun y hy => h.qu y (by rw [hq]; exact List.mem_cons_of_mem _ hy), by have := h.ql; rw [hq, List.length_cons] at this; show q.length ≤ _; omega, h.ke, h.nd, h.hq, h.tk, h.pl, h.gn, h.kn, h.dn, h.mi⟩
set_option maxRecDepth 100000 in
set_option maxHeartbeats 8000000 in
theorem assign_any (A : OrdAt w K r b o X) (W : WfO o) (M : RmA o) (m : Int) :
    Calls Try.prog 29 #[.pointer (some ⟨b, 0, none⟩), .int .i64 m] w fun e w' => ∃ A' c', e = .returned (.slice A' (o.assign m).1.length c') ∧ Owns w' w.heap.size 80 9 eIS A' c' (o.assign m).1 ∧ ∃ K' X', OrdAt w' K' r b (o.assign m).2 X' ∧ Ro (inR r) K K' w w' ∧ ∀ y, blk A' = some y → K' y = 0 := by
  refine calls_vc tab_ok Try.func29 rfl ?_
  have r0 := A.r0
  have hbz := A.cs.hb
  conv => whnf
  have none_ : (o.seq = false ∨ o.frz = true) → ∀ x, Below w.heap.size w x → ∃ A' c', Ending.returned (Value.slice none 0 0) = .returned (.slice A' (o.assign m).1.length c') ∧ Owns x w.heap.size 80 9 eIS A' c' (o.assign m).1 ∧ ∃ K' X', OrdAt x K' r b (o.assign m).2 X' ∧ Ro (inR r) K K' w x ∧ ∀ y, blk A' = some y → K' y = 0 := fun hc x hx => by
    have hp : o.assign m = ([], o) := by unfold Os.assign; rw [if_pos hc]
    rw [hp]
    exact ⟨none, 0, rfl, owns_nil _ _ _ _ _, K, X, A.below hx, .below hx, fun y hy => by cases hy⟩
  repeat ((conv => whnf); first | (refine VCmp.tt (by omega) ?_) | (refine VCmp.ff (by omega) ?_) | (refine VIn.mk (IntWalk.i64_in _ (by omega)) ?_) | (refine VIdx.mk _ rfl (by omega) ?_) | (refine VIdx.mk 0 rfl (by omega) ?_))
  try (conv => whnf)
  refine VCall.mk _ (sequencer_any A W.m0) ?_
  rintro _ w1 ⟨rfl, b1⟩
  refine ⟨_, rfl, ?_⟩
  have A1 := A.below b1
  have L0 := A1.l_frz (l := [b]) (by simp)
  have s1 := Sm.refl [b] w1
  cases h1 : o.seq with
  | false =>
    repeat ((conv => whnf); first | (refine VCmp.tt (by omega) ?_) | (refine VCmp.ff (by omega) ?_) | (refine VIn.mk (IntWalk.i64_in _ (by omega)) ?_) | (refine VIdx.mk _ rfl (by omega) ?_) | (refine VIdx.mk 0 rfl (by omega) ?_))
    try (conv => whnf)
    exact .mk (none_ (.inl h1) w1 b1)
  | true =>
    cases h2 : o.frz with
    | true =>
      rw [h2] at L0
      repeat ((conv => whnf); first | (refine VLoad.mk _ (L0.at s1) ?_) | (refine VCmp.tt (by omega) ?_) | (refine VCmp.ff (by omega) ?_) | (refine VIn.mk (IntWalk.i64_in _ (by omega)) ?_) | (refine VIdx.mk _ rfl (by omega) ?_) | (refine VIdx.mk 0 rfl (by omega) ?_))
      try (conv => whnf)
      exact .mk (none_ (.inr h2) w1 b1)
    | false =>
      rw [h2] at L0
      have hp : o.assign m = (o.asgL (o.asgN m), o.asgK (o.asgN m)) := by unfold Os.assign; rw [if_neg (by rw [h1, h2]; simp)]
      rw [hp]
      clear none_ hp
      have m16 := W.m16
      have w8 := W.win
      have mql := W.ql
      have hmm : o.most ≤ 16 * 8 := Nat.mul_le_mul m16 w8
      obtain ⟨N, hN⟩ : ∃ N, N = o.asgN m := ⟨_, rfl⟩
      have hNq : N ≤ o.queue.length := by rw [hN]; unfold Os.asgN; omega
      have hN' : N = min m.toNat (min o.queue.length (o.most - o.slots.length)) := hN
      rw [← hN]
      repeat ((conv => whnf); first | (refine VLoad.mk _ (L0.at s1) ?_) | (refine VCmp.tt (by omega) ?_) | (refine VCmp.ff (by omega) ?_) | (refine VIn.mk (IntWalk.i64_in _ (by omega)) ?_) | (refine VIdx.mk _ rfl (by omega) ?_) | (refine VIdx.mk 0 rfl (by omega) ?_))
      try (conv => whnf)
      refine VLoop.mk (Nat × Option Addr × Nat) (fun u => [(0, .pointer (some ⟨b, 0, none⟩)), (1, .int .i64 m), (5, .slice u.2.1 u.1 u.2.2)]) (fun u W' => u.1 ≤ N ∧ ∃ K' X', OrdAt W' K' r b (o.asgK u.1) X' ∧ Owns W' w.heap.size 80 9 eIS u.2.1 u.2.2 (o.asgL u.1) ∧ (∀ y, blk u.2.1 = some y → K' y = r + 4) ∧ Ro (inR r) K K' w W') (fun u => N - u.1) (0, none, 0) ⟨rfl, rfl, rfl, trivial⟩ ⟨Nat.zero_le _, K, X, A1, ⟨rfl, .inl ⟨rfl, rfl⟩⟩, fun y hy => (by cases hy), .below b1⟩ ?_
      rintro ⟨k, A', c'⟩ wk ⟨hk, Kk, Xk, Ak, own, hrl, qk⟩
      dsimp only at hk Ak own hrl ⊢
      obtain ⟨Wk, Mk, Fk⟩ := asgK_facts W M k (by omega)
      have esucc : o.asgK (k + 1) = (o.asgK k).asg1 := rfl
      have lsucc : o.asgL (k + 1) = o.asgL k ++ [⟨o.known + k + 1, o.pre, (o.queue[k]?).getD ⟨0, 0⟩⟩] := rfl
      obtain ⟨ok, hok⟩ : ∃ ok, ok = o.asgK k := ⟨_, rfl⟩
      rw [← hok] at Ak Wk Mk Fk esucc
      have ll := asgL_len o k
      have hqk : ok.queue.length = o.queue.length - k := by rw [Fk.q, List.length_drop]
      have hsk : ok.slots.length = o.slots.length + k := by rw [Fk.s, List.length_append, List.length_take_of_le (by omega)]
      have hmk : ok.most = o.most := by unfold Os.most; rw [Fk.mem, Fk.win]
      have bK := Ak.cs.hb
      have hsm : ∀ W', Below wk.heap.size wk W' → Sm [b] wk W' := fun W' hW => .below hW fun y hy => by rw [List.mem_singleton.1 hy]; exact bK
      have M1 := (Ak.l_queue (l := [b]) (by simp)).mono hsm
      have M2 := (Ak.l_slots (l := [b]) (by simp)).mono hsm
      have sd : Below wk.heap.size wk wk.drew := (Below.refl _ _).drew
      have fin : k = N → ∀ x, Below wk.heap.size wk x → ∃ A'_1 c'_1, Ending.returned (Value.slice A' k c') = .returned (.slice A'_1 (o.asgL N).length c'_1) ∧ Owns x w.heap.size 80 9 eIS A'_1 c'_1 (o.asgL N) ∧ ∃ K' X', OrdAt x K' r b (o.asgK N) X' ∧ Ro (inR r) K K' w x ∧ ∀ y, blk A'_1 = some y → K' y = 0 := fun e x hx => by
        subst e
        have own' := own.keep hx fun q hq => (own.lo q hq).2
        obtain ⟨K7, hK7⟩ : ∃ K7 : Nat → Nat, K7 = fun y => if blk A' = some y then 0 else Kk y := ⟨_, rfl⟩
        have k7 : ∀ y, blk A' ≠ some y → K7 y = Kk y := fun y hy => by rw [hK7]; exact if_neg hy
        have Ax := Ak.below hx
        refine ⟨A', c', by rw [ll], own', K7, Xk, ?_, ?_, fun y hy => by rw [hK7]; exact if_pos hy⟩
        · rw [← hok]
          exact Ax.rerole (fun y hy => k7 y (fun e => by have := hrl y e; rw [this] at hy; unfold inR at hy; omega)) fun y hy => by
            by_cases e : blk A' = some y
            · rw [hK7]; exact if_pos e
            · rw [k7 y e]; exact Ax.kz y hy
        · exact (qk.trans (.below hx)).re fun y hy => k7 y fun e => by have := (own.lo y e).1; omega
      by_cases hkN : k < N
      · obtain ⟨x, hx⟩ : ∃ x, o.queue[k]? = some x := ⟨_, List.getElem?_eq_getElem (by omega)⟩
        have hd : ok.queue = x :: o.queue.drop (k + 1) := by
          rw [Fk.q, List.drop_eq_getElem_cons (by omega)]
          congr 1
          exact (List.getElem?_eq_some_iff.1 hx).2
        repeat ((conv => whnf); first | (refine VCmp.tt (by omega) ?_) | (refine VCmp.ff (by omega) ?_) | (refine VIn.mk (IntWalk.i64_in _ (by omega)) ?_) | (refine VIdx.mk _ rfl (by omega) ?_) | (refine VIdx.mk 0 rfl (by omega) ?_))
        try (conv => whnf)
        refine VDraw.pl 1000 (.one [0, 1, 2, 3, 4, 5, 6, 7, 8, 9, 10, 11, 12, 13, 14, 15, 16, 17, 18] 19 (.stop [20, 21])) (Below wk.heap.size wk) (by kernel_rfl) (sd) ?_
        repeat ((conv => whnf); first | (refine VLoad.mk _ M1 ?_) | (refine VLoad.mk _ M2 ?_) | (refine VCmp.tt (by omega) ?_) | (refine VCmp.ff (by omega) ?_) | (refine VIn.mk (IntWalk.i64_in _ (by omega)) ?_) | (refine VIdx.mk _ rfl (by omega) ?_) | (refine VIdx.mk 0 rfl (by omega) ?_))
        try (conv => whnf)
        refine VCall.mk _ (most_any (Ak.below sd) Wk.m16 Wk.win) ?_
        rintro _ w2 ⟨rfl, b2⟩
        refine ⟨_, rfl, ?_⟩
        have s2 : Below wk.heap.size wk w2 := sd.trans b2
        rw [hmk]
        repeat ((conv => whnf); first | (refine VS.mk s2 ?_) | (refine VCmp.tt (by omega) ?_) | (refine VCmp.ff (by omega) ?_) | (refine VIn.mk (IntWalk.i64_in _ (by omega)) ?_) | (refine VIdx.mk _ rfl (by omega) ?_) | (refine VIdx.mk 0 rfl (by omega) ?_))
        try (conv => whnf)
        have A2 := Ak.below s2
        have hql := A2.rs.q
        rw [hd] at hql
        obtain ⟨g, off, hqA, hg1, hg2⟩ := hql.head
        have hxb := Wk.qu x (by rw [hd]; exact List.mem_cons_self)
        have M3 : Ld Try.prog 48 b 89 (Eq w2) (.slice (some ⟨g, off, none⟩) ((o.queue.drop (k + 1)).length + 1) Xk.qc) := by have := M1.at s2; rw [hd, hqA, List.length_cons] at this; exact this
        have Lx : Ld Try.prog 78 g (off + 0) (Eq w2) (kSl x) := .of (load78 hg2)
        have hcap : (o.queue.drop (k + 1)).length + 1 ≤ Xk.qc := by
          rcases hql with ⟨-, e, -⟩ | ⟨_, _, _, _, _, h3, _⟩
          · cases e
          · simpa using h3
        repeat ((conv => whnf); first | (refine VLoad.mk _ M3 ?_) | (refine VLoad.mk _ Lx ?_) | (refine VCmp.tt (by omega) ?_) | (refine VCmp.ff (by omega) ?_) | (refine VIn.mk (IntWalk.i64_in _ (by omega)) ?_) | (refine VIdx.mk _ rfl (by omega) ?_) | (refine VIdx.mk 0 rfl (by omega) ?_))
        try (conv => whnf)
        refine .mk _ run_zero78 ?_
        conv => whnf
        refine .mk fun u3 hu3 => ?_
        repeat ((conv => whnf); first | (refine VCmp.tt (by omega) ?_) | (refine VCmp.ff (by omega) ?_) | (refine VIn.mk (IntWalk.i64_in _ (by omega)) ?_) | (refine VIdx.mk _ rfl (by omega) ?_) | (refine VIdx.mk 0 rfl (by omega) ?_))
        try (conv => whnf)
        refine VStore.new (c' := #[.int .i64 x.s, .int .i64 x.q]) hu3 (by kernel_rfl) rfl (one_sl x) fun w3 hw3 => ?_
        have c3 : Below w2.heap.size w2 w3 := by rw [hw3.out]; exact (Below.refl _ _).alloc (Nat.le_refl _) _
        have z3 : w3.heap.size = w2.heap.size + 1 := by rw [hw3.out]; simp
        have r3 : w3.rangeAt w2.heap.size 0 (eSl x) := by rw [hw3.out]; exact range_new w2 _ 78
        clear hu3 hw3 u3
        have A3 := A2.below c3
        have hz2 := s2.size
        have hzw := qk.size
        have k0 : Kk w2.heap.size = 0 := Ak.kz _ (by omega)
        have M4 := A3.l_queue (l := [b]) (by simp)
        rw [hd, List.length_cons] at M4
        repeat ((conv => whnf); first | (refine VLoad.mk _ (M4.at (Sm.refl _ _)) ?_) | (refine VCmp.tt (by omega) ?_) | (refine VCmp.ff (by omega) ?_) | (refine VIn.mk (IntWalk.i64_in _ (by omega)) ?_) | (refine VIdx.mk _ rfl (by omega) ?_) | (refine VIdx.mk 0 rfl (by omega) ?_))
        try (conv => whnf)
        refine VSl.mk 1 ((o.queue.drop (k + 1)).length + 1) rfl rfl (by omega) hcap ?_
        have oT := A3.rs.q
        rw [hd] at oT
        have oT2 := oT.tail
        have cb := A3.cs.cell 89 (by omega)
        repeat ((conv => whnf); first | (refine VCmp.tt (by omega) ?_) | (refine VCmp.ff (by omega) ?_) | (refine VIn.mk (IntWalk.i64_in _ (by omega)) ?_) | (refine VIdx.mk _ rfl (by omega) ?_) | (refine VIdx.mk 0 rfl (by omega) ?_))
        try (conv => whnf)
        refine VStore.cell (by kernel_rfl) (by rw [show addO 0 89 = 89 from rfl, cb.1]; rfl) cb.2 rfl rfl fun w4 hw4 => ?_
        obtain ⟨A4, q4⟩ := A3.s_queue (n := (o.queue.drop (k + 1)).length) (A := tailA 2 Xk.qc Xk.qA) (c := Xk.qc - 1) rfl oT2 (Ro.refl _ _ _) A3.kz (show addO 0 89 = 89 from rfl) hw4.out
        have z4 := q4.size
        have r4 := range_same r3 (q4.same w2.heap.size (by omega) (by rw [k0]; omega))
        have L4 : Ld Try.prog 78 w2.heap.size 0 (Eq w4) (kSl x) := .of (load78 r4)
        repeat ((conv => whnf); first | (refine VLoad.mk _ L4 ?_) | (refine VCmp.tt (by omega) ?_) | (refine VCmp.ff (by omega) ?_) | (refine VIn.mk (IntWalk.i64_in _ (by omega)) ?_) | (refine VIdx.mk _ rfl (by omega) ?_) | (refine VIdx.mk 0 rfl (by omega) ?_))
        try (conv => whnf)
        refine VCall.mk _ (stand_any A4 (Wk.less hd) x hxb.1) ?_
        rintro _ w5 ⟨rfl, K5, X5, A5, q5⟩
        refine ⟨_, rfl, ?_⟩
        have z5 := q5.size
        have eA5 : OrdAt w5 K5 r b (o.asgK (k + 1)) X5 := by rw [esucc, asg1_cons hd]; exact A5
        obtain ⟨W6, M6, F6⟩ := asgK_facts W M (k + 1) (by omega)
        have hkn6 := W6.kn
        have k5 : K5 w2.heap.size = 0 := (q5.kk _ (by omega)).trans k0
        have r5 := range_same r4 (q5.same w2.heap.size (by omega) (by rw [k0]; unfold inR; omega))
        have own4 : Owns w5 w.heap.size 80 9 eIS A' c' (o.asgL k) := own.same fun y hy => by
          have h5 := own.lo y hy
          have h6 := hrl y hy
          rw [q5.same y (by omega) (by rw [h6]; unfold inR; omega), q4.same y (by omega) (by rw [h6]; omega), c3.block y (by omega), s2.block y (by omega)]
        have hrl5 : ∀ y, blk A' = some y → K5 y = r + 4 := fun y hy => by
          have h5 := own.lo y hy
          rw [q5.kk y (by omega)]; exact hrl y hy
        have e5 : Ro (inR r) K K5 w w5 := ((qk.trans (.below (s2.trans (c3.mono s2.size)))).trans (q4.more fun y hy => by unfold inR; omega)).trans q5
        have s5 : Sm [b, w2.heap.size] w5 w5.drew := fun _ _ => rfl
        have b5 := eA5.cs.hb
        have P1 : Ld Try.prog 3 b 91 (Sm [b, w2.heap.size] w5) (.int .i64 o.pre) := by have := eA5.l_pre (l := [b, w2.heap.size]) (by simp); rw [F6.pre] at this; exact this
        have P2 : Ld Try.prog 78 w2.heap.size 0 (Sm [b, w2.heap.size] w5) (kSl x) := ⟨fun W' hW => load78 (range_same r5 (hW _ (by simp)))⟩
        have hl5 : ∀ y ∈ [b, w2.heap.size], y < w5.heap.size ∧ K5 y ≠ r + 4 := fun y hy => by
          simp only [List.mem_cons, List.not_mem_nil, or_false] at hy
          rcases hy with rfl | rfl
          · exact ⟨b5, by rw [eA5.kb]; omega⟩
          · exact ⟨by omega, by rw [k5]; omega⟩
        repeat ((conv => whnf); first | (refine VCmp.tt (by omega) ?_) | (refine VCmp.ff (by omega) ?_) | (refine VIn.mk (IntWalk.i64_in _ (by omega)) ?_) | (refine VIdx.mk _ rfl (by omega) ?_) | (refine VIdx.mk 0 rfl (by omega) ?_))
        try (conv => whnf)
        refine VDraw.pl 1000 (.one [0, 1, 3, 4, 5, 6, 7] 2 (.one [8] 9 (.one [] 10 (.stop [11])))) (Sm [b, w2.heap.size] w5) (by kernel_rfl) (s5) ?_
        repeat ((conv => whnf); first | (refine VLoad.mk _ P1 ?_) | (refine VLoad.mk _ P2 ?_) | (refine VCmp.tt (by omega) ?_) | (refine VCmp.ff (by omega) ?_) | (refine VIn.mk (IntWalk.i64_in _ (by omega)) ?_) | (refine VIdx.mk _ rfl (by omega) ?_) | (refine VIdx.mk 0 rfl (by omega) ?_))
        try (conv => whnf)
        refine VCall.mk _ (known_any (eA5.below (Below.refl _ w5).drew) (by omega)) ?_
        rintro _ w6 ⟨rfl, b6⟩
        refine ⟨_, rfl, ?_⟩
        have s6' : Below w5.heap.size w5 w6 := Below.trans (Below.drew (Below.refl _ w5)) b6
        have s6 : Sm [b, w2.heap.size] w5 w6 := .below s6' fun y hy => (hl5 y hy).1
        rw [F6.kn]
        obtain ⟨y, hy⟩ : ∃ y : ISl, y = ⟨o.known + k + 1, o.pre, x⟩ := ⟨_, rfl⟩
        have hyA : (#[.int .i64 2, .int .i64 0, .int .i64 0, .int .i64 0, .slice none 0 0, .int .i64 ((o.known + (k + 1) : Nat) : Int), .int .i64 o.pre, .int .i64 x.s, .int .i64 x.q] : Array Value) = isA y := by rw [hy]; rfl
        repeat ((conv => whnf); first | (refine VS.mk s6 ?_) | (refine VCmp.tt (by omega) ?_) | (refine VCmp.ff (by omega) ?_) | (refine VIn.mk (IntWalk.i64_in _ (by omega)) ?_) | (refine VIdx.mk _ rfl (by omega) ?_) | (refine VIdx.mk 0 rfl (by omega) ?_))
        try (conv => whnf)
        refine VBuild.mk (.agg (isA y)) (fun W' => by rw [← hyA]; exact build80s W' _ _ _ _) ?_
        repeat ((conv => whnf); first | (refine VCmp.tt (by omega) ?_) | (refine VCmp.ff (by omega) ?_) | (refine VIn.mk (IntWalk.i64_in _ (by omega)) ?_) | (refine VIdx.mk _ rfl (by omega) ?_) | (refine VIdx.mk 0 rfl (by omega) ?_))
        try (conv => whnf)
        refine VBs.mk _ _ (bs74 w6 y) ?_
        have d7 : Below w6.heap.size w6 (w6.alloc (.cells (isA y) 80)) := (Below.refl _ _).alloc (Nat.le_refl _) _
        have hnc : ∀ j u, (eIS y)[j]? = some u → (w6.alloc (.cells (isA y) 80)).cell? ⟨w6.heap.size, j, none⟩ = some u := fun j u hu => by
          have := range_new w6 (isA y) 80 j u hu
          rwa [Nat.zero_add] at this
        generalize w6.alloc (.cells (isA y) 80) = w7 at d7 hnc ⊢
        have s7' : Below w5.heap.size w5 w7 := s6'.trans (d7.mono s6'.size)
        have s7 : Sm [b, w2.heap.size] w5 w7 := .below s7' fun y hy => (hl5 y hy).1
        have z7 := s7'.size
        have z67 := d7.size
        have own7 := own4.keep s7' fun q hq => (own4.lo q hq).2
        have A7 := eA5.below s7'
        repeat ((conv => whnf); first | (refine VS.mk s7 ?_) | (refine VCmp.tt (by omega) ?_) | (refine VCmp.ff (by omega) ?_) | (refine VIn.mk (IntWalk.i64_in _ (by omega)) ?_) | (refine VIdx.mk _ rfl (by omega) ?_) | (refine VIdx.mk 0 rfl (by omega) ?_))
        try (conv => whnf)
        refine VApp.keep w.heap.size 9 88 _ Try.underlying74 info80 rfl (by decide) eIS (fun _ => rfl) one_eIS (o.asgL k) y ll own7 hnc (by omega) (by omega) (by omega) fun A8 c8 w8 oA8 _ hg8 hA8 => ?_
        have q8 : Ro (· = r + 4) K5 (roleN K5 A8 (r + 4)) w7 w8 := Ro.app hg8 hA8 hrl5
        have s8 : Sm [b, w2.heap.size] w5 w8 := s7.trans fun y hy => q8.same y (by have := (hl5 y hy).1; omega) (hl5 y hy).2
        have A8' := A7.ro q8 (fun y hy => by
          unfold roleN
          split
          · rename_i e; have := (oA8.lo y e).2; omega
          · exact A7.kz y (by have := q8.size; omega)) (by omega) (fun y hy => by unfold inR at hy; omega)
        repeat ((conv => whnf); first | (refine VS.mk s8 ?_) | (refine VCmp.tt (by omega) ?_) | (refine VCmp.ff (by omega) ?_) | (refine VIn.mk (IntWalk.i64_in _ (by omega)) ?_) | (refine VIdx.mk _ rfl (by omega) ?_) | (refine VIdx.mk 0 rfl (by omega) ?_))
        try (conv => whnf)
        have hgd : (o.queue[k]?).getD ⟨0, 0⟩ = x := by rw [hx]; rfl
        refine .mk (k + 1, A8, c8) ⟨rfl, rfl, rfl, trivial⟩ ⟨hkN, _, X5, A8', by dsimp only; rw [lsucc, hgd, ← hy]; exact oA8, fun y hy => by unfold roleN; exact if_pos hy, (e5.trans (.below s7')).own hg8 (fun y hy => (own7.lo y hy).1) (roleN_old hA8 hrl5)⟩ (by show N - (k + 1) < N - k; omega)
      · obtain rfl : k = N := by omega
        by_cases c1 : (k : Int) < m
        · by_cases c2 : 0 < ok.queue.length
          · have c3 : ¬ ok.slots.length < o.most := by omega
            repeat ((conv => whnf); first | (refine VCmp.tt (by omega) ?_) | (refine VCmp.ff (by omega) ?_) | (refine VIn.mk (IntWalk.i64_in _ (by omega)) ?_) | (refine VIdx.mk _ rfl (by omega) ?_) | (refine VIdx.mk 0 rfl (by omega) ?_))
            try (conv => whnf)
            refine VDraw.pl 1000 (.one [0, 1, 2, 3, 4, 5, 6, 7, 8, 9, 10, 11, 12, 13, 14, 15, 16, 17, 18] 19 (.stop [20, 21])) (Below wk.heap.size wk) (by kernel_rfl) (sd) ?_
            repeat ((conv => whnf); first | (refine VLoad.mk _ M1 ?_) | (refine VLoad.mk _ M2 ?_) | (refine VCmp.tt (by omega) ?_) | (refine VCmp.ff (by omega) ?_) | (refine VIn.mk (IntWalk.i64_in _ (by omega)) ?_) | (refine VIdx.mk _ rfl (by omega) ?_) | (refine VIdx.mk 0 rfl (by omega) ?_))
            try (conv => whnf)
            refine VCall.mk _ (most_any (Ak.below sd) Wk.m16 Wk.win) ?_
            rintro _ w2 ⟨rfl, b2⟩
            refine ⟨_, rfl, ?_⟩
            rw [hmk]
            repeat ((conv => whnf); first | (refine VS.mk (sd.trans b2) ?_) | (refine VCmp.tt (by omega) ?_) | (refine VCmp.ff (by omega) ?_) | (refine VIn.mk (IntWalk.i64_in _ (by omega)) ?_) | (refine VIdx.mk _ rfl (by omega) ?_) | (refine VIdx.mk 0 rfl (by omega) ?_))
            try (conv => whnf)
            exact .mk (fin rfl _ (sd.trans b2))
          · repeat ((conv => whnf); first | (refine VCmp.tt (by omega) ?_) | (refine VCmp.ff (by omega) ?_) | (refine VIn.mk (IntWalk.i64_in _ (by omega)) ?_) | (refine VIdx.mk _ rfl (by omega) ?_) | (refine VIdx.mk 0 rfl (by omega) ?_))
            try (conv => whnf)
            refine VDraw.pl 1000 (.one [0, 1, 2, 3, 4, 5, 6, 7, 8, 9, 10, 11, 12, 13, 14, 15, 16, 17, 18] 19 (.stop [20, 21])) (Below wk.heap.size wk) (by kernel_rfl) (sd) ?_
            repeat ((conv => whnf); first | (refine VLoad.mk _ M1 ?_) | (refine VLoad.mk _ M2 ?_) | (refine VS.mk sd ?_) | (refine VCmp.tt (by omega) ?_) | (refine VCmp.ff (by omega) ?_) | (refine VIn.mk (IntWalk.i64_in _ (by omega)) ?_) | (refine VIdx.mk _ rfl (by omega) ?_) | (refine VIdx.mk 0 rfl (by omega) ?_))
            try (conv => whnf)
            exact .mk (fin rfl _ sd)
        · repeat ((conv => whnf); first | (refine VCmp.tt (by omega) ?_) | (refine VCmp.ff (by omega) ?_) | (refine VIn.mk (IntWalk.i64_in _ (by omega)) ?_) | (refine VIdx.mk _ rfl (by omega) ?_) | (refine VIdx.mk 0 rfl (by omega) ?_))
          try (conv => whnf)
          refine VDraw.pl 1000 (.one [0, 1, 2, 3, 4, 5, 6, 7, 8, 9, 10, 11, 12, 13, 14, 15, 16, 17, 18] 19 (.stop [20, 21])) (Below wk.heap.size wk) (by kernel_rfl) (sd) ?_
          repeat ((conv => whnf); first | (refine VLoad.mk _ M1 ?_) | (refine VLoad.mk _ M2 ?_) | (refine VS.mk sd ?_) | (refine VCmp.tt (by omega) ?_) | (refine VCmp.ff (by omega) ?_) | (refine VIn.mk (IntWalk.i64_in _ (by omega)) ?_) | (refine VIdx.mk _ rfl (by omega) ?_) | (refine VIdx.mk 0 rfl (by omega) ?_))
          try (conv => whnf)
          exact .mk (fin rfl _ sd)
end
end Go.Proofs.Ytoilipfgimcoiaa
