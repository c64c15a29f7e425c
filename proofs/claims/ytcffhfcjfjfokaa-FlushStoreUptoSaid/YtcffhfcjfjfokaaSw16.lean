/- Two Untouched Listed Rcut, joined. -/
import Derived.Test.YtcffhfcjfjfokaaSw2
import Derived.Test.YtcffhfcjfjfokaaSw6
import Derived.Test.YtcffhfcjfjfokaaSw8
import Derived.Test.YtcffhfcjfjfokaaSw15
set_option linter.unusedVariables false
set_option linter.unusedSimpArgs false
/- The two stores in one memory; messages of the call's own, written over; tells. -/
namespace Go.Proofs.Ytcffhfcjfjfokaa
open Go.RowKit
/-- Both stores, alike. -/
structure Two (w : World) (F : List Nat) (b g b' g' : Nat) (s : Sto) : Prop where
  p : ∃ ks Mp cM ms, StV w F b g 0 1 s ks Mp cM ms
  d : ∃ ks Mp cM ms, StV w F b' g' 1 2 s ks Mp cM ms
  pb : ∃ bg, w.cell? ⟨b, 5, none⟩ = some (.bool bg) ∧ (bg = false → s.ve = 0)
  dn : w.cell? ⟨b', 0, none⟩ = some (.int .i64 s.n)
  n1 : b ≠ b'
  n2 : b ≠ g'
  n3 : g ≠ b'
  n4 : g ≠ g'
section
variable {w w' : World} {F F' : List Nat} {b g b' g' : Nat} {s : Sto}
theorem Two.bF (h : Two w F b g b' g' s) : b ∈ F ∧ g ∈ F ∧ b' ∈ F ∧ g' ∈ F := by
  obtain ⟨_, _, _, _, h1⟩ := h.p
  obtain ⟨_, _, _, _, h2⟩ := h.d
  exact ⟨h1.bF, h1.gF, h2.bF, h2.gF⟩
theorem Two.hi (h : Two w F b g b' g' s) : ∀ x ∈ F, x < w.heap.size := by
  obtain ⟨_, _, _, _, h1⟩ := h.p
  exact h1.hi
theorem Two.inv (h : Two w F b g b' g' s) : SInv s := by
  obtain ⟨_, _, _, _, h1⟩ := h.p
  exact h1.inv
theorem Two.below (h : Two w F b g b' g' s) (hb : Below w.heap.size w w') : Two w' F b g b' g' s := by
  obtain ⟨f1, f2, f3, f4⟩ := h.bF
  obtain ⟨k1, k2, k3, k4, h1⟩ := h.p
  obtain ⟨l1, l2, l3, l4, h2⟩ := h.d
  obtain ⟨bg, h3, h4⟩ := h.pb
  exact ⟨⟨_, _, _, _, h1.below hb⟩, ⟨_, _, _, _, h2.below hb⟩, ⟨bg, (hb.cell (p := ⟨b, 5, none⟩) (h.hi b f1)).trans h3, h4⟩, (hb.cell (p := ⟨b', 0, none⟩) (h.hi b' f3)).trans h.dn, h.n1, h.n2, h.n3, h.n4⟩
theorem Two.spoil (h : Two w F b g b' g' s) {x : Nat} (hx : x ∈ F) (h1 : x ≠ b) (h2 : x ≠ g) (h3 : x ≠ b') (h4 : x ≠ g') (hg : w.grownBy w' (some x)) : Two w' F b g b' g' s := by
  obtain ⟨f1, f2, f3, f4⟩ := h.bF
  obtain ⟨k1, k2, k3, k4, p⟩ := h.p
  obtain ⟨l1, l2, l3, l4, d⟩ := h.d
  obtain ⟨bg, q1, q2⟩ := h.pb
  have hc : ∀ y o, y ∈ F → x ≠ y → w'.cell? ⟨y, o, none⟩ = w.cell? ⟨y, o, none⟩ := fun y o hy hn => World.cell?_of_block (a := ⟨y, o, none⟩) (hg.block y (h.hi y hy) (by intro e; injection e with e; exact hn e.symm))
  exact ⟨⟨_, _, _, _, p.spoil hx h1 h2 hg⟩, ⟨_, _, _, _, d.spoil hx h3 h4 hg⟩, ⟨bg, (hc b 5 f1 h1).trans q1, q2⟩, (hc b' 0 f3 h3).trans h.dn, h.n1, h.n2, h.n3, h.n4⟩
theorem Two.more (h : Two w F b g b' g' s) (hF : ∀ y ∈ F', y ∈ F ∨ w.heap.size ≤ y) (h1 : b ∈ F') (h2 : g ∈ F') (h3 : b' ∈ F') (h4 : g' ∈ F') (hi : ∀ y ∈ F', y < w.heap.size) : Two w F' b g b' g' s := by
  obtain ⟨k1, k2, k3, k4, p⟩ := h.p
  obtain ⟨l1, l2, l3, l4, d⟩ := h.d
  exact ⟨⟨_, _, _, _, p.more hF h1 h2 hi⟩, ⟨_, _, _, _, d.more hF h3 h4 hi⟩, h.pb, h.dn, h.n1, h.n2, h.n3, h.n4⟩
end
theorem bs40z (W : World) : (Instr.buildSlice 40 0 #[]).run Try.prog W = .ok (.slice (some ⟨W.heap.size, 0, none⟩) 0 0) (W.alloc (.cells #[] 113)) := by kernel_rfl
theorem bs52z (W : World) : (Instr.buildSlice 52 0 #[]).run Try.prog W = .ok (.slice (some ⟨W.heap.size, 0, none⟩) 0 0) (W.alloc (.cells #[] 5)) := by kernel_rfl
theorem WrB.low {w : World} {lo lo' : Nat} {r : Dr} (h : WrB w lo r) (hl : lo' ≤ lo) : WrB w lo' r := fun h0 => by
  obtain ⟨g, e, h1, h2, h3⟩ := h h0
  exact ⟨g, e, by omega, h2, h3⟩
structure DS where
  k : Nat
  A : Option Addr
  c : Nat
  al : List Dr
structure DsO (w : World) (ds : List Dt) (x : DS) (W : World) : Prop where
  k : x.k ≤ ds.length
  e : x.al.map Dr.d = ds.take x.k
  own : OwnMs W w.heap.size x.A x.c x.al
  b : Below w.heap.size w W
set_option maxRecDepth 100000 in
/-- datas: messages of the call's own, that may be written over. -/
theorem datas_own (A : Option Addr) (cA N : Nat) (rs : List Dr) (w : World) (hN : N ≤ w.heap.size) (hA : Drs w N A rs) (hsm : SmallD (rs.map Dr.d)) :
    Calls Try.prog 18 #[.slice A rs.length cA] w (MePost w (rs.map Dr.d)) := by
  have hl : rs.length ≤ 1048576 := by have := hsm.1; rwa [List.length_map] at this
  refine calls_vc tab_ok Try.func18 rfl ?_
  repeat (conv => whnf
          first
          | (refine VCmp.tt (by omega) ?_)
          | (refine VCmp.ff (by omega) ?_)
          | (refine VIn.mk (IntWalk.i64_in _ (by omega)) ?_)
          | (refine VIdx.mk _ rfl (by omega) ?_)
          | (refine VIdx.mk 0 rfl (by omega) ?_))
  try (conv => whnf)
  refine VBs.mk _ _ (bs40z w) ?_
  have hb0 : Below w.heap.size w (w.alloc (.cells #[] 113)) := (Below.refl _ _).alloc (Nat.le_refl _) _
  have hx : ∀ W, Below w.heap.size w W → Drs W N A rs := fun W hW => ⟨hA.row.below hW hN, fun r h1 => (hA.each r h1).below hW hN⟩
  repeat (conv => whnf
          first
          | (refine VCmp.tt (by omega) ?_)
          | (refine VCmp.ff (by omega) ?_)
          | (refine VIn.mk (IntWalk.i64_in _ (by omega)) ?_)
          | (refine VIdx.mk _ rfl (by omega) ?_)
          | (refine VIdx.mk 0 rfl (by omega) ?_))
  try (conv => whnf)
  refine VLoop.mk DS (fun x => [(0, .slice A rs.length cA), (3, .slice x.A x.al.length x.c), (4, .int .i64 x.k)]) (DsO w (rs.map Dr.d)) (fun x => rs.length - x.k) ⟨0, some ⟨w.heap.size, 0, none⟩, 0, []⟩ ⟨rfl, rfl, rfl, trivial⟩ ⟨Nat.zero_le _, by simp, ⟨owns_empty _ _ _ _ _ (Nat.le_refl _), fun r hr => (by cases hr), fun r hr => (by cases hr)⟩, hb0⟩ ?_
  rintro ⟨k, B, c, al⟩ wr ⟨hk, he, hown, br⟩
  dsimp only at hk he hown ⊢
  rw [List.length_map] at hk
  have hal : al.length = k := by have := congrArg List.length he; rw [List.length_map, List.length_take, List.length_map] at this; omega
  have hbz := br.size
  by_cases hkl : k < rs.length
  case neg =>
    repeat (conv => whnf
            first
            | (refine VCmp.tt (by omega) ?_)
            | (refine VCmp.ff (by omega) ?_)
            | (refine VIn.mk (IntWalk.i64_in _ (by omega)) ?_)
            | (refine VIdx.mk _ rfl (by omega) ?_)
            | (refine VIdx.mk 0 rfl (by omega) ?_))
    try (conv => whnf)
    have hke : k = rs.length := by omega
    exact .mk ⟨B, c, al, by rw [List.length_map, ← hke, ← hal]; rfl, by rw [he, hke, ← List.length_map (f := Dr.d), List.take_length], hown, br⟩
  obtain ⟨bA, oR, rfl, hbA2, hrow⟩ := (hx _ br).row (by omega)
  have hrk : rs[k]? = some rs[k] := List.getElem?_eq_getElem hkl
  have hmem : rs[k] ∈ rs := List.getElem_mem _
  generalize rs[k] = r at hrk hmem
  have hdk : (rs.map Dr.d)[k]? = some r.d := by rw [List.getElem?_map, hrk]; rfl
  have hbl := hsm.2 r.d (List.mem_map.2 ⟨r, hmem, rfl⟩)
  have Lr : Ld Try.prog 113 bA (oR + k * 4) (Eq wr) (.agg (drA r)) := .of (load113 (fun j u hu => hrow k r hrk j u hu))
  repeat (conv => whnf
          first
          | (refine VLoad.mk _ Lr ?_)
          | (refine VCmp.tt (by omega) ?_)
          | (refine VCmp.ff (by omega) ?_)
          | (refine VIn.mk (IntWalk.i64_in _ (by omega)) ?_)
          | (refine VIdx.mk _ rfl (by omega) ?_)
          | (refine VIdx.mk 0 rfl (by omega) ?_))
  try (conv => whnf)
  refine .mk _ run_zero113 ?_
  conv => whnf
  refine .mk fun x3 hx3 => ?_
  repeat (conv => whnf
          first
          | (refine VCmp.tt (by omega) ?_)
          | (refine VCmp.ff (by omega) ?_)
          | (refine VIn.mk (IntWalk.i64_in _ (by omega)) ?_)
          | (refine VIdx.mk _ rfl (by omega) ?_)
          | (refine VIdx.mk 0 rfl (by omega) ?_))
  try (conv => whnf)
  refine VStore.new hx3 (by kernel_rfl) rfl (one_drA r) fun x4 hx4 => ?_
  have c4 : Below wr.heap.size wr x4 := by rw [hx4.out]; exact (Below.refl _ _).alloc (Nat.le_refl _) _
  have z4 : x4.heap.size = wr.heap.size + 1 := by rw [hx4.out]; simp
  have r4 : x4.rangeAt wr.heap.size 0 (eDr r) := by rw [hx4.out]; exact range_new wr (drA r) 113
  have t4 : x4.there wr.heap.size 0 4 := by rw [hx4.out]; exact there_new wr (drA r) 113
  repeat (conv => whnf
          first
          | (refine VCmp.tt (by omega) ?_)
          | (refine VCmp.ff (by omega) ?_)
          | (refine VIn.mk (IntWalk.i64_in _ (by omega)) ?_)
          | (refine VIdx.mk _ rfl (by omega) ?_)
          | (refine VIdx.mk 0 rfl (by omega) ?_))
  try (conv => whnf)
  refine VBs.mk _ _ (bs52z x4) ?_
  have c5 : Below x4.heap.size x4 (x4.alloc (.cells #[] 5)) := (Below.refl _ _).alloc (Nat.le_refl _) _
  have z5 : (x4.alloc (.cells #[] 5)).heap.size = x4.heap.size + 1 := by simp
  have ho5 : Owns (x4.alloc (.cells #[] 5)) x4.heap.size 5 1 eByte (some ⟨x4.heap.size, 0, none⟩) 0 ([] : List Int) := owns_empty _ _ _ _ _ (Nat.le_refl _)
  have r5 : (x4.alloc (.cells #[] 5)).rangeAt wr.heap.size 0 (eDr r) := range_same r4 (c5.block _ (by omega))
  generalize x4.alloc (.cells #[] 5) = x5 at c5 z5 ho5 r5 ⊢
  have Ly : Ld Try.prog 52 wr.heap.size 3 (Eq x5) (.slice r.B r.d.body.length r.c) := .of (load52 (r5 3 _ rfl))
  have b5 : Below w.heap.size w x5 := br.trans ((c4.trans (c5.mono (by omega))).mono hbz)
  repeat (conv => whnf
          first
          | (refine VLoad.mk _ Ly ?_)
          | (refine VCmp.tt (by omega) ?_)
          | (refine VCmp.ff (by omega) ?_)
          | (refine VIn.mk (IntWalk.i64_in _ (by omega)) ?_)
          | (refine VIdx.mk _ rfl (by omega) ?_)
          | (refine VIdx.mk 0 rfl (by omega) ?_))
  try (conv => whnf)
  refine VApp.rows x4.heap.size 1 1 _ Try.underlying52 info5 rfl (by decide) eByte len_eByte one_eByte ([] : List Int) r.d.body rfl rfl ho5 ((hx _ b5).each r hmem).row (by omega) (by omega) (by omega) fun A1 c1 w1 ho1 hg1 hk1 => ?_
  have hc1 : Below x4.heap.size x4 w1 := c5.grown hg1 (by omega) (by intro q hq; simp [blk] at hq; omega)
  have r1 : w1.rangeAt wr.heap.size 0 (eDr r) := range_same r4 (hc1.block _ (by omega))
  have t1 : w1.there wr.heap.size 0 4 := there_same t4 (hc1.block _ (by omega))
  have zw1 := hc1.size
  repeat (conv => whnf
          first
          | (refine VCmp.tt (by omega) ?_)
          | (refine VCmp.ff (by omega) ?_)
          | (refine VIn.mk (IntWalk.i64_in _ (by omega)) ?_)
          | (refine VIdx.mk _ rfl (by omega) ?_)
          | (refine VIdx.mk 0 rfl (by omega) ?_))
  try (conv => whnf)
  refine VStore.cell (by kernel_rfl) (by rw [show addO 0 3 = 0 + 3 from rfl, r1 3 _ rfl]; rfl) (by rw [show addO 0 3 = 3 from rfl]; exact there_frozen t1 (by omega)) rfl rfl fun w2 hw2 => ?_
  have g2 : w1.grownBy w2 (some wr.heap.size) := by rw [hw2.out]; exact grown_cell _ _ _ _
  have m2 : w2.rangeAt wr.heap.size 0 (eDr ⟨r.d, A1, c1⟩) := by
    have := rng_put (o := 3) (vs := [.slice A1 r.d.body.length c1]) r1 t1 rfl (by simp)
    rw [show 0 + r.d.body.length = r.d.body.length by omega] at hw2
    rw [hw2.out]; exact this
  have c2 : Below wr.heap.size wr w2 := (c4.trans (hc1.mono (by omega))).grown g2 (by omega) (by intro q hq; injection hq with hq; omega)
  have ho2 : Owns w2 x4.heap.size 5 1 eByte A1 c1 r.d.body := (show Owns w1 x4.heap.size 5 1 eByte A1 c1 r.d.body from ho1).kept g2 (by
    cases e : blk A1 with
    | none => exact .inl rfl
    | some q => exact .inr (by intro e2; injection e2 with e2; have := (ho1.lo q e).1; omega))
  have Lm2 : Ld Try.prog 113 wr.heap.size 0 (Eq w2) (.agg (drA ⟨r.d, A1, c1⟩)) := .of (load113 m2)
  repeat (conv => whnf
          first
          | (refine VLoad.mk _ Lm2 ?_)
          | (refine VCmp.tt (by omega) ?_)
          | (refine VCmp.ff (by omega) ?_)
          | (refine VIn.mk (IntWalk.i64_in _ (by omega)) ?_)
          | (refine VIdx.mk _ rfl (by omega) ?_)
          | (refine VIdx.mk 0 rfl (by omega) ?_))
  try (conv => whnf)
  refine VBs.mk _ _ (bs40 w2 ⟨r.d, A1, c1⟩) ?_
  have hown2 := hown.own.keep c2 (fun q hq => (hown.own.lo q hq).2)
  have own3 := hown2.alloc (.cells (drA ⟨r.d, A1, c1⟩) 113)
  have z3 : (w2.alloc (.cells (drA ⟨r.d, A1, c1⟩) 113)).heap.size = w2.heap.size + 1 := by simp
  have zz2 := c2.size
  repeat (conv => whnf
          first
          | (refine VCmp.tt (by omega) ?_)
          | (refine VCmp.ff (by omega) ?_)
          | (refine VIn.mk (IntWalk.i64_in _ (by omega)) ?_)
          | (refine VIdx.mk _ rfl (by omega) ?_)
          | (refine VIdx.mk 0 rfl (by omega) ?_))
  try (conv => whnf)
  refine VApp.rows w.heap.size 4 48 _ Try.underlying40 info113 rfl (by decide) eDr len_eDr one_eDr al [⟨r.d, A1, c1⟩] rfl rfl own3 (row_new w2 113 4 eDr ⟨r.d, A1, c1⟩ (drA ⟨r.d, A1, c1⟩) rfl) (by omega) (by omega) (by omega) fun A' c' w4 ho hg hkk => ?_
  have hfar : FarDr w2 B ⟨r.d, A1, c1⟩ := ⟨ho2.len, FarRow.of_row (FRow.of_owns ho2 len_eByte) (fun q hq => by have := (hown.own.lo q hq).2; omega)⟩
  have own4 := hown.push c2 hfar ((WrB.of ho2).low (by omega)) (.cells (drA ⟨r.d, A1, c1⟩) 113) ho hg hkk
  have b4 : Below w.heap.size w w4 := ((br.trans (c2.mono hbz)).alloc (by omega) _).grown hg (by omega) (fun q hq => (own3.lo q hq).1)
  repeat (conv => whnf
          first
          | (refine VCmp.tt (by omega) ?_)
          | (refine VCmp.ff (by omega) ?_)
          | (refine VIn.mk (IntWalk.i64_in _ (by omega)) ?_)
          | (refine VIdx.mk _ rfl (by omega) ?_)
          | (refine VIdx.mk 0 rfl (by omega) ?_))
  try (conv => whnf)
  refine .mk ⟨k + 1, A', c', al ++ [⟨r.d, A1, c1⟩]⟩ ⟨rfl, by show some (Value.slice A' (al.length + 1) c') = _; rw [List.length_append]; rfl, rfl, trivial⟩ ⟨by show k + 1 ≤ _; rw [List.length_map]; omega, ?_, own4, b4⟩ (by show rs.length - (k + 1) < rs.length - k; omega)
  show (al ++ [_]).map Dr.d = _
  rw [List.map_append, he, List.take_add_one, hdk]; rfl
/-- Messages of the call's own; the first i are written over. -/
structure WrM (W : World) (base gB : Nat) (rs : List Dr) (i : Nat) : Prop where
  row : ∀ j r, i ≤ j → rs[j]? = some r → W.rangeAt gB (j * 4) (eDr r)
  there : W.there gB 0 (rs.length * 4)
  wr : ∀ r ∈ rs, WrB W base r ∧ (0 < r.d.body.length → ∀ q, blk r.B = some q → q ≠ gB)
  lo : base ≤ gB ∧ gB < W.heap.size
theorem OwnMs.wrm {W : World} {base c : Nat} {B : Option Addr} {rs : List Dr} (h : OwnMs W base B c rs) (h0 : 0 < rs.length) : ∃ gB, B = some ⟨gB, 0, none⟩ ∧ WrM W base gB rs 0 := by
  obtain ⟨g, cap, hv, hg1, hg2⟩ := World.ownsRow.form h.own h0
  have hB : B = some ⟨g, 0, none⟩ := by injection hv
  subst hB
  have hcells := World.ownsRow.cellAt h.own
  refine ⟨g, rfl, fun j r _ hr q u hu => ?_, fun j hj => ?_, fun r hr => ⟨h.wr r hr, fun h0 q hq => ?_⟩, (h.own.lo g rfl).1, hg2⟩
  · have hu' := flatMap_at len_eDr rs j q r u hr hu
    have := hcells (j * 4 + q) (by rw [← length_flat len_eDr rs]; exact (List.getElem?_eq_some_iff.1 hu').1)
    rw [this, ← hu']
  · rw [Nat.zero_add]
    refine ⟨?_, World.ownsRow.frozenAt h.own j⟩
    rw [hcells j hj, List.getElem?_eq_getElem (by rw [length_flat len_eDr]; exact hj)]; rfl
  · obtain ⟨q2, off, e, hne, _⟩ := (h.far r hr).2 h0
    rw [e] at hq
    intro e2; subst e2
    exact hne (by simpa [blk] using hq)
section
variable {W W' : World} {base gB i : Nat} {rs : List Dr} {r : Dr}
theorem WrM.byte (h : WrM W base gB rs i) (hr : r ∈ rs) (h0 : 0 < r.d.body.length) {g : Nat} (hB : r.B = some ⟨g, 0, none⟩) (o : Nat) (v : Value) : WrM (W.setCell ⟨g, o, none⟩ v) base gB rs i := by
  have hne := (h.wr r hr).2 h0 g (by rw [hB]; rfl)
  exact ⟨fun j x hj hx => range_other (h.row j x hj hx) _ _ hne, there_set h.there _ _, fun x hx => ⟨fun hx0 => by
    obtain ⟨q, e, q1, q2, q3⟩ := (h.wr x hx).1 hx0
    exact ⟨q, e, q1, by rw [World.size_setCell]; exact q2, there_set q3 _ _⟩, (h.wr x hx).2⟩, h.lo.1, by rw [World.size_setCell]; exact h.lo.2⟩
theorem WrM.put (h : WrM W base gB rs i) (hi : i < rs.length) (vs : List Value) (hv : vs.length = 4) : WrM (W.setCells gB (i * 4) vs) base gB rs (i + 1) := by
  refine ⟨fun j x hj hx => rng_out (h.row j x (by omega) hx) (by rw [hv, len_eDr]; omega), World.there_setCells h.there _ _ _, fun x hx => ⟨fun hx0 => by
    obtain ⟨q, e, q1, q2, q3⟩ := (h.wr x hx).1 hx0
    exact ⟨q, e, q1, by rw [size_sets]; exact q2, World.there_setCells q3 _ _ _⟩, (h.wr x hx).2⟩, h.lo.1, by rw [size_sets]; exact h.lo.2⟩
end
theorem build113 (W : World) (a b : Int) : (Instr.build 113 #[(0, .int .i64 a), (1, .int .i64 b)]).run Try.prog W = .ok (.agg #[.int .i64 a, .int .i64 b, .int .i64 0, .slice none 0 0]) W := by kernel_rfl
theorem one4 (a b : Int) : (#[.int .i64 a, .int .i64 b, .int .i64 0, .slice none 0 0] : Array Value).all (·.oneCell') = true := by
  refine all_oneCell_toArray (cs := [.int .i64 a, .int .i64 b, .int .i64 0, .slice none 0 0]) fun u hu => ?_
  simp at hu; rcases hu with rfl | rfl | rfl | rfl <;> rfl
set_option maxRecDepth 100000 in
/-- tells: the messages of both are alike; what came out is written over. -/
theorem tells_any {w : World} {F : List Nat} {b g b' g' : Nat} {s : Sto} (h : Two w F b g b' g' s) :
    Calls Try.prog 45 #[.pointer (some ⟨b, 0, none⟩), .pointer (some ⟨b', 0, none⟩)] w fun x w' => x = .returned (.bool true) ∧ Below w.heap.size w w' := by
  obtain ⟨k1, k2, k3, k4, p⟩ := h.p
  obtain ⟨l1, l2, l3, l4, d⟩ := h.d
  refine calls_vc tab_ok Try.func45 rfl ?_
  repeat (conv => whnf
          first
          | (refine VCmp.tt (by omega) ?_)
          | (refine VCmp.ff (by omega) ?_)
          | (refine VIn.mk (IntWalk.i64_in _ (by omega)) ?_)
          | (refine VIdx.mk _ rfl (by omega) ?_)
          | (refine VIdx.mk 0 rfl (by omega) ?_))
  try (conv => whnf)
  refine VCall.mk _ (messages_any p) ?_
  rintro _ x1 ⟨B, c, rs, rfl, hrs, ho, hb1⟩
  refine ⟨_, rfl, ?_⟩
  repeat (conv => whnf
          first
          | (refine VCmp.tt (by omega) ?_)
          | (refine VCmp.ff (by omega) ?_)
          | (refine VIn.mk (IntWalk.i64_in _ (by omega)) ?_)
          | (refine VIdx.mk _ rfl (by omega) ?_)
          | (refine VIdx.mk 0 rfl (by omega) ?_))
  try (conv => whnf)
  refine VCall.mk _ (rmessages_any (d.below hb1)) ?_
  rintro _ x2 ⟨B2, c2, rs2, rfl, hrs2, ho2, hb2⟩
  refine ⟨_, rfl, ?_⟩
  have hlen : rs.length = s.msgs.length := by rw [← hrs, List.length_map]
  have hb12 : Below w.heap.size w x2 := hb1.trans (hb2.mono hb1.size)
  have ho1 : OwnMs x2 w.heap.size B c rs := ⟨ho.own.keep hb2 (fun q hq => (ho.own.lo q hq).2), fun r hr => (ho.far r hr).below hb2, fun r hr => (ho.wr r hr).below hb2⟩
  have d1 : Dts x2 x2.heap.size B s.msgs := by have := ho1.dts; rwa [hrs] at this
  have d2 : Dts x2 x2.heap.size B2 s.msgs := by have := ho2.dts; rwa [hrs2] at this
  have hlm := h.inv.lenM
  repeat (conv => whnf
          first
          | (refine VCmp.tt (by omega) ?_)
          | (refine VCmp.ff (by omega) ?_)
          | (refine VIn.mk (IntWalk.i64_in _ (by omega)) ?_)
          | (refine VIdx.mk _ rfl (by omega) ?_)
          | (refine VIdx.mk 0 rfl (by omega) ?_))
  try (conv => whnf)
  refine VCall.mk _ (sameDatas_yes B B2 c c2 x2.heap.size s.msgs x2 (Nat.le_refl _) d1 d2 (by omega)) ?_
  rintro _ x3 ⟨rfl, hb3⟩
  refine ⟨_, rfl, ?_⟩
  have b3 : Below w.heap.size w x3 := hb12.trans (hb3.mono hb12.size)
  have ho3 : OwnMs x3 w.heap.size B c rs := ⟨ho1.own.keep hb3 (fun q hq => (ho1.own.lo q hq).2), fun r hr => (ho1.far r hr).below hb3, fun r hr => (ho1.wr r hr).below hb3⟩
  rw [← hlen]
  rw [← hlen] at hlm
  have hsz : ∀ r ∈ rs, r.d.body.length ≤ 1048576 := fun r hr => by
    have := h.inv.each r.d (by rw [← hrs]; exact List.mem_map.2 ⟨r, hr, rfl⟩)
    unfold dtB at this; simp at this; omega
  repeat (conv => whnf
          first
          | (refine VCmp.tt (by omega) ?_)
          | (refine VCmp.ff (by omega) ?_)
          | (refine VIn.mk (IntWalk.i64_in _ (by omega)) ?_)
          | (refine VIdx.mk _ rfl (by omega) ?_)
          | (refine VIdx.mk 0 rfl (by omega) ?_))
  try (conv => whnf)
  refine VLoop.mk Nat (fun k => [(5, .slice B rs.length c), (6, .bool true), (7, .int .i64 k)]) (fun k W => k ≤ rs.length ∧ (0 < rs.length → ∃ gB, B = some ⟨gB, 0, none⟩ ∧ WrM W w.heap.size gB rs k) ∧ Below w.heap.size w W) (fun k => rs.length - k) 0 ⟨rfl, rfl, rfl, trivial⟩ ⟨Nat.zero_le _, fun h0 => ho3.wrm h0, b3⟩ ?_
  rintro k wr ⟨hk, hwm, br⟩
  by_cases hkl : k < rs.length
  case pos =>
    obtain ⟨gB, rfl, hw⟩ := hwm (by omega)
    have hrk : rs[k]? = some rs[k] := List.getElem?_eq_getElem hkl
    have hmem : rs[k] ∈ rs := List.getElem_mem _
    have hbl := hsz rs[k] hmem
    generalize rs[k] = r at hrk hmem hbl
    repeat (conv => whnf
            first
            | (refine VCmp.tt (by omega) ?_)
            | (refine VCmp.ff (by omega) ?_)
            | (refine VIn.mk (IntWalk.i64_in _ (by omega)) ?_)
            | (refine VIdx.mk _ rfl (by omega) ?_)
            | (refine VIdx.mk 0 rfl (by omega) ?_))
    try (conv => whnf)
    refine VLoop.mk Nat (fun j => [(5, .slice (some ⟨gB, 0, none⟩) rs.length c), (6, .bool true), (7, .int .i64 k), (8, .int .i64 j)]) (fun j W => j ≤ r.d.body.length ∧ WrM W w.heap.size gB rs k ∧ Below w.heap.size w W) (fun j => r.d.body.length - j) 0 ⟨rfl, rfl, rfl, rfl, trivial⟩ ⟨Nat.zero_le _, hw, br⟩ ?_
    clear hw hwm br
    rintro j wi ⟨hj, hw, bi⟩
    have hcell : wi.rangeAt gB (0 + k * 4) (eDr r) := by rw [Nat.zero_add]; exact hw.row k r (Nat.le_refl _) hrk
    have Lb := Ld.of (load52 (hcell 3 _ rfl))
    by_cases hjl : j < r.d.body.length
    case pos =>
      obtain ⟨q, hB, q1, q2, q3⟩ := (hw.wr r hmem).1 (by omega)
      rw [hB] at Lb
      repeat (conv => whnf
              first
              | (refine VLoad.mk _ Lb ?_)
              | (refine VCmp.tt (by omega) ?_)
              | (refine VCmp.ff (by omega) ?_)
              | (refine VIn.mk (IntWalk.i64_in _ (by omega)) ?_)
              | (refine VIdx.mk _ rfl (by omega) ?_)
              | (refine VIdx.mk 0 rfl (by omega) ?_))
      try (conv => whnf)
      refine VStore.cell (by kernel_rfl) (q3 j hjl).1 (q3 j hjl).2 rfl rfl fun w2 hw2 => ?_
      have hw' : WrM w2 w.heap.size gB rs k := by rw [hw2.out]; exact hw.byte hmem (by omega) hB _ _
      have b2 : Below w.heap.size w w2 := bi.grown (by rw [hw2.out]; exact grown_cell _ _ _ _) bi.size (by intro x hx; injection hx with hx; omega)
      repeat (conv => whnf
              first
              | (refine VCmp.tt (by omega) ?_)
              | (refine VCmp.ff (by omega) ?_)
              | (refine VIn.mk (IntWalk.i64_in _ (by omega)) ?_)
              | (refine VIdx.mk _ rfl (by omega) ?_)
              | (refine VIdx.mk 0 rfl (by omega) ?_))
      try (conv => whnf)
      exact .mk (j + 1) ⟨rfl, rfl, rfl, rfl, trivial⟩ ⟨hjl, hw', b2⟩ (by omega)
    case neg =>
      repeat (conv => whnf
              first
              | (refine VLoad.mk _ Lb ?_)
              | (refine VCmp.tt (by omega) ?_)
              | (refine VCmp.ff (by omega) ?_)
              | (refine VIn.mk (IntWalk.i64_in _ (by omega)) ?_)
              | (refine VIdx.mk _ rfl (by omega) ?_)
              | (refine VIdx.mk 0 rfl (by omega) ?_))
      try (conv => whnf)
      refine VBuild.mk _ (fun W => build113 W 4 44) ?_
      repeat (conv => whnf
              first
              | (refine VCmp.tt (by omega) ?_)
              | (refine VCmp.ff (by omega) ?_)
              | (refine VIn.mk (IntWalk.i64_in _ (by omega)) ?_)
              | (refine VIdx.mk _ rfl (by omega) ?_)
              | (refine VIdx.mk 0 rfl (by omega) ?_))
      try (conv => whnf)
      refine VStore.mid (c := #[.int .i64 4, .int .i64 44, .int .i64 0, .slice none 0 0]) (by rw [Nat.zero_add]; exact World.there.at hw.there (by show k * 4 + 4 ≤ _; omega)) (by kernel_rfl) (one4 4 44) fun w2 hw2 => ?_
      have hw2' : w2 = wi.setCells gB (k * 4) [.int .i64 4, .int .i64 44, .int .i64 0, .slice none 0 0] := by rw [hw2.out, Nat.zero_add]; rfl
      have hw' : WrM w2 w.heap.size gB rs (k + 1) := by rw [hw2']; exact hw.put hkl _ rfl
      have b2 : Below w.heap.size w w2 := by rw [hw2']; exact below_sets bi hw.lo.1 _ _ bi.size
      repeat (conv => whnf
              first
              | (refine VCmp.tt (by omega) ?_)
              | (refine VCmp.ff (by omega) ?_)
              | (refine VIn.mk (IntWalk.i64_in _ (by omega)) ?_)
              | (refine VIdx.mk _ rfl (by omega) ?_)
              | (refine VIdx.mk 0 rfl (by omega) ?_))
      try (conv => whnf)
      exact .mk (k + 1) ⟨rfl, rfl, rfl, trivial⟩ ⟨hkl, fun _ => ⟨gB, rfl, hw'⟩, b2⟩ (by omega)
  repeat (conv => whnf
          first
          | (refine VCmp.tt (by omega) ?_)
          | (refine VCmp.ff (by omega) ?_)
          | (refine VIn.mk (IntWalk.i64_in _ (by omega)) ?_)
          | (refine VIdx.mk _ rfl (by omega) ?_)
          | (refine VIdx.mk 0 rfl (by omega) ?_))
  try (conv => whnf)
  exact .mk ⟨rfl, br⟩
end Go.Proofs.Ytcffhfcjfjfokaa
/- What the law's untouched answers where nothing was touched. -/
namespace Go.Proofs.Ytcffhfcjfjfokaa
open Go.RowKit
theorem RowAt.front {α : Type} {w : World} {N sz : Nat} {enc : α → List Value} {A : Option Addr} {l m : List α} (h : RowAt w N sz enc A (l ++ m)) : RowAt w N sz enc A l := fun h0 => by
  obtain ⟨b, off, e, hb, hc⟩ := h (by rw [List.length_append]; omega)
  exact ⟨b, off, e, hb, fun k x hk => hc k x (by rw [List.getElem?_append_left (List.getElem?_eq_some_iff.1 hk).1]; exact hk)⟩
set_option maxRecDepth 100000 in
set_option maxHeartbeats 2000000 in
theorem untouched_yes (f g : Fl) (g2 g4 c2 c4 N : Nat) (A' B' : Option Addr) (cA' cB' : Nat) (w : World) (hN : N ≤ w.heap.size)
    (h2 : RowAt w N 2 eSlot (some ⟨g2, 0, none⟩) (f.slots ++ [(71, 71)])) (h4 : RowAt w N 1 eInt (some ⟨g4, 0, none⟩) (f.have_ ++ [72])) (l2 : f.slots.length + 1 ≤ c2) (m2 : c2 ≤ 9223372036854775807) (l4 : f.have_.length + 1 ≤ c4) (m4 : c4 ≤ 9223372036854775807)
    (hr' : FlRows w N g A' cA' B' cB') (hs : f = g) :
    Calls Try.prog 27 #[.agg #[.int .i64 f.e, .int .i64 f.l, .int .i64 f.i, .int .i64 f.c, .int .i64 f.base, .slice (some ⟨g2, 0, none⟩) f.slots.length c2, .slice (some ⟨g4, 0, none⟩) f.have_.length c4, .slice (some ⟨g2, 0, none⟩) (f.slots.length + 1) c2, .slice (some ⟨g4, 0, none⟩) (f.have_.length + 1) c4], .agg (flc g.e g.l g.i g.c g.base A' g.slots.length cA' B' g.have_.length cB')] w
      fun x w' => x = .returned (.bool true) ∧ Below w.heap.size w w' := by
  subst hs
  have hsb : sameB f f = true := by simp [sameB]
  go_enter Try.func27, Try.ntmps27
  obtain ⟨b2, o2, x, y, e2, hb2, hx2, k1, k2⟩ := h2.slot (k := f.slots.length) (by simp)
  obtain ⟨b4, o4, z, e4, hb4, hx4, k4⟩ := h4.int (k := f.have_.length) (by simp)
  obtain ⟨rfl, rfl⟩ : g2 = b2 ∧ 0 = o2 := by simpa using e2
  obtain ⟨rfl, rfl⟩ : g4 = b4 ∧ 0 = o4 := by simpa using e4
  have e1 := hx2.out
  rw [List.getElem?_append_right (Nat.le_refl _)] at e1
  simp at e1
  obtain ⟨rfl, rfl⟩ := e1
  have e3 := hx4.out
  rw [List.getElem?_append_right (Nat.le_refl _)] at e3
  simp at e3
  subst e3
  clear e2 e4 hx2 hx4
  have hrf : FlRows w N f (some ⟨g2, 0, none⟩) c2 (some ⟨g4, 0, none⟩) c4 := ⟨h2.front, h4.front, by omega, m2, by omega, m4⟩
  simp only [Nat.zero_add] at k1 k2 k4
  have b2w : g2 < w.heap.size := by omega
  have b4w : g4 < w.heap.size := by omega
  have q1 : f.slots.length < f.slots.length + 1 := by omega
  have q2 : f.have_.length < f.have_.length + 1 := by omega
  clear h2 h4
  go_wp2_with (go_at_call 64; refine (same_any f f _ _ _ _ _ _ _ _ N _ (by simp only [World.size_alloc]; omega) (by exact hrf.below (below_box2 _ _ _ _ _) hN) (by exact hr'.below (below_box2 _ _ _ _ _) hN)).mono ?_; rintro e w' ⟨rfl, hbw⟩; rw [World.size_alloc, World.size_alloc] at hbw; obtain ⟨hb0, hc1, hc2, -, -, hs1, hs2⟩ := box2_facts hbw; have hq := bcell hb0; obtain ⟨hq1, -⟩ := hq; rw [← hq1 _ _ b2w] at k1 k2; rw [← hq1 _ _ b4w] at k4; clear hq1)
  go_ret
  go_light
  exact ⟨rfl, hb0⟩
end Go.Proofs.Ytcffhfcjfjfokaa
/- What the document's listed answers. -/
namespace Go.Proofs.Ytcffhfcjfjfokaa
open Go.RowKit
/-- The error of a list of contents. -/
def Listed (fs : List Fl) (n : Int) : Prop := if 1 ≤ fs.length ∧ fs.length ≤ 16 then Together fs n else n = 1
set_option maxHeartbeats 1000000 in
theorem listed_any (A : Option Addr) (cA N : Nat) (fs : List Fl) (w : World) (hN : N ≤ w.heap.size) (hA : Fls w N A fs) (hl : fs.length ≤ 9223372036854775807) :
    Calls Try.prog 53 #[.slice A fs.length cA] w fun x w' => (∃ n, x = .returned (.int .i64 n) ∧ Listed fs n) ∧ Below w.heap.size w w' := by
  by_cases h1 : fs.length < 1
  · have HL : Hid (Listed fs 1) := by show (if _ then _ else _); rw [if_neg (by omega)]
    go_enter Try.func53, Try.ntmps53
    go_wp2
    go_ret
    go_light
    exact ⟨⟨1, rfl, HL.out⟩, Below.refl _ _⟩
  · by_cases h2 : 16 < fs.length
    · have HL : Hid (Listed fs 1) := by show (if _ then _ else _); rw [if_neg (by omega)]
      go_enter Try.func53, Try.ntmps53
      go_wp2
      go_ret
      go_light
      exact ⟨⟨1, rfl, HL.out⟩, Below.refl _ _⟩
    · have HL : Hid (∀ n, Together fs n → Listed fs n) := by intro n hn; show (if _ then _ else _); rw [if_pos (by omega)]; exact hn
      go_enter Try.func53, Try.ntmps53
      go_wp2_with (go_at_call 29; refine (together_any A cA N fs _ hN hA hl).mono ?_; rintro e w' ⟨⟨n, rfl, hn⟩, hbw⟩; replace hn := Lib.hid hn)
      go_ret
      go_light
      exact ⟨⟨n, rfl, HL.out n hn.out⟩, hbw⟩
end Go.Proofs.Ytcffhfcjfjfokaa
/- What the document's Cut answers. -/
namespace Go.Proofs.Ytcffhfcjfjfokaa
open Go.RowKit
theorem num_any (n : Int) (w : World) : Calls Try.prog 16 #[.int .i64 n] w fun e w' => e = .returned (.int .i64 n) ∧ w = w' := by
  go_enter Try.func16, Try.ntmps16
  go_wp2
  go_ret
  exact ⟨rfl, rfl⟩
/-- What Cut answers: the cut and 0, or 0 and the error. -/
def CutIs (fs : List Fl) (k n : Int) : Prop := Listed fs n ∧ (n = 0 → IsCut fs k) ∧ (n ≠ 0 → k = 0)
theorem listed_one {fs : List Fl} {a b : Int} (h : Listed fs a) (k : Listed fs b) : a = b := by
  unfold Listed at h k
  by_cases hl : 1 ≤ fs.length ∧ fs.length ≤ 16
  · rw [if_pos hl] at h k; exact together_one h k
  · rw [if_neg hl] at h k; rw [h, k]
theorem cutIs_one {fs : List Fl} {a b n m : Int} (h : CutIs fs a n) (k : CutIs fs b m) : a = b ∧ n = m := by
  have e := listed_one h.1 k.1
  subst e
  refine ⟨?_, rfl⟩
  by_cases hn : n = 0
  · exact cut_one (h.2.1 hn) (k.2.1 hn)
  · rw [h.2.2 hn, k.2.2 hn]
theorem listed_fit {fs : List Fl} (h : Listed fs 0) : Fit fs ∧ fs.length ≤ 16 := by
  unfold Listed at h
  by_cases hl : 1 ≤ fs.length ∧ fs.length ≤ 16
  · rw [if_pos hl] at h; exact ⟨fit_iff.1 h, hl.2⟩
  · rw [if_neg hl] at h; cases h
set_option maxHeartbeats 1000000 in
theorem rcut_any (A : Option Addr) (cA N : Nat) (fs : List Fl) (w : World) (hN : N ≤ w.heap.size) (hA : Fls w N A fs) (hl : fs.length ≤ 9223372036854775807) :
    Calls Try.prog 15 #[.slice A fs.length cA] w fun x w' => (∃ k n, x = .returned (.tuple #[.int .i64 k, .int .i64 n]) ∧ CutIs fs k n) ∧ Below w.heap.size w w' := by
  go_enter Try.func15, Try.ntmps15
  go_wp2_with (go_at_call 53; refine (listed_any A cA N fs _ hN hA hl).mono ?_; rintro e w' ⟨⟨n, rfl, hn⟩, hbw⟩; replace hn := Lib.hid hn)
  · go_ret2
    go_light
    have h0 := ‹(n != 0) = true›
    exact ⟨⟨0, n, rfl, hn.out, fun e => by simp [e] at h0, fun _ => rfl⟩, hbw⟩
  · have h0 := ‹(n != 0) = false›
    obtain rfl : n = 0 := by simpa using h0
    have hfit := (listed_fit hn.out).1
    have HFit := Lib.hid hfit
    have hsz := hbw.size
    clear hfit
    refine (end_any A cA N fs w' (by omega) (hA.below hbw hN) hl (fun f hf => ⟨(HFit.out.sound f hf).base0, by have := (HFit.out.sound f hf).base; omega⟩) (base_nonneg fs) (fun n h => cut_bound HFit.out h)).mono ?_
    rintro e w2 ⟨⟨k, rfl, hk⟩, hbw2⟩
    replace hk := Lib.hid hk
    go_wp2
    go_ret2
    go_light
    exact ⟨⟨k, 0, rfl, hn.out, fun _ => hk.out, fun h => absurd rfl h⟩, hbw.trans (hbw2.mono hsz)⟩
end Go.Proofs.Ytcffhfcjfjfokaa
