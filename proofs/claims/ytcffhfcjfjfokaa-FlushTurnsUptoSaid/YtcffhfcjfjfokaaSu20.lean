/- RTake Fits RFits AddLaw, joined. -/
import Derived.IntWalk
import Derived.Test.YtcffhfcjfjfokaaSu3
import Derived.Test.YtcffhfcjfjfokaaSu4
import Derived.Test.YtcffhfcjfjfokaaSu19
set_option linter.unusedVariables false
set_option linter.unusedSimpArgs false
namespace Go.Proofs.Ytcffhfcjfjfokaa
open Go.RowKit
def BxS (b u : Nat) (v : Value) (l : List Value) (W : World) : Prop := W.cell? ⟨b, 1, none⟩ = some v ∧ W.rangeAt u 0 l
theorem take_cnt {s : Sto} {q inc : Int} {f : Fl} (h : cntB inc = false) : s.take q inc f = (1, s) := take_bad (by unfold cntB at h; simp at h; omega)
theorem cnt_yes {n : Int} (h : cntB n = true) : 1 ≤ n ∧ n ≤ 4611686018427387904 := by unfold cntB at h; simpa using h
theorem sameB_t {f g : Fl} (h : sameB f g = true) : g = f := by
  unfold sameB at h
  cases f; cases g; simp at h ⊢
  obtain ⟨a, b, c, d, e, k, l⟩ := h
  exact ⟨a.symm, b.symm, c.symm, d.symm, e.symm, k.symm, l.symm⟩
theorem sameB_f {f g : Fl} (h : sameB f g = false) : ¬ g = f := by
  rintro rfl; unfold sameB at h; simp at h
theorem build173 (W : World) (k e l i c u : Int) (A : Option Addr) (n cA : Nat) (B : Option Addr) (m cB : Nat) : (Instr.build 173 #[(0, .int .i64 k), (1, .agg (flc e l i c u A n cA B m cB))]).run Try.prog W = .ok (.agg #[.int .i64 k, .int .i64 e, .int .i64 l, .int .i64 i, .int .i64 c, .int .i64 u, .slice A n cA, .slice B m cB]) W := by kernel_rfl
def zero173 : Value := .agg #[.int .i64 0, .int .i64 0, .int .i64 0, .int .i64 0, .int .i64 0, .int .i64 0, .slice none 0 0, .slice none 0 0]
theorem run_zero173 (W : World) : (zeroValue 173).run Try.prog W = .ok zero173 W := by kernel_rfl
set_option maxRecDepth 100000 in
theorem rtake_any {w : World} {F : List Nat} {b g : Nat} {s : Sto} {ks : List KpX} {Mp : Option Addr} {cM : Nat} {ms : List Dr} (h : StV w F b g 1 2 s ks Mp cM ms) (hn : w.cell? ⟨b, 0, none⟩ = some (.int .i64 s.n)) (q inc : Int) (f : Fl) (A : Option Addr) (cA : Nat) (B : Option Addr) (cB N : Nat) (hN : N ≤ w.heap.size) (hr : FlRows w N f A cA B cB) (l1 : f.slots.length ≤ 1048576) (l2 : f.have_.length ≤ 1048576) :
    Calls Try.prog 102 #[.pointer (some ⟨b, 0, none⟩), .int .i64 q, .int .i64 inc, .agg (flc f.e f.l f.i f.c f.base A f.slots.length cA B f.have_.length cB)] w (TkPost w F b g 1 2 Mp cM ms (s.take q inc f)) := by
  have hbz := h.hi b h.bF
  have hgz := h.hi g h.gF
  refine calls_vc tab_ok Try.func102 rfl ?_
  conv => whnf
  refine .mk fun wA hwA => ?_
  have hbA : Below w.heap.size w wA := by rw [hwA.out]; exact below_box1 _ _ _
  have zA : wA.heap.size = w.heap.size + 1 := by rw [hwA.out]; simp
  have oA : wA.rangeAt w.heap.size 0 (flc f.e f.l f.i f.c f.base A f.slots.length cA B f.have_.length cB).toList := by rw [hwA.out]; exact range_new w (flc f.e f.l f.i f.c f.base A f.slots.length cA B f.have_.length cB) 39
  have hx : ∀ W, Below wA.heap.size wA W → FlRows W N f A cA B cB ∧ StV W F b g 1 2 s ks Mp cM ms ∧ W.rangeAt w.heap.size 0 (flc f.e f.l f.i f.c f.base A f.slots.length cA B f.have_.length cB).toList ∧ Below w.heap.size w W ∧ W.cell? ⟨b, 0, none⟩ = some (.int .i64 s.n) := fun W hW =>
    ⟨(hr.below hbA hN).below hW (by omega), (h.below hbA).below hW, range_same oA (hW.block w.heap.size (by omega)), hbA.trans (hW.mono (by omega)), (hW.cell (p := ⟨b, 0, none⟩) (by show b < _; omega)).trans ((hbA.cell (p := ⟨b, 0, none⟩) hbz).trans hn)⟩
  have bd : Below wA.heap.size wA wA.drew := Below.drew (Below.refl _ _)
  have L138 : Ld Try.prog 138 (b) 1 (fun W => Below wA.heap.size wA W) (.slice (some ⟨g, 0, none⟩) s.n s.n) := ⟨fun W hW => load138 (hx W hW).2.1.ck⟩
  have Ln : Ld Try.prog 3 (b) 0 (fun W => Below wA.heap.size wA W) (.int .i64 s.n) := ⟨fun W hW => load3 (hx W hW).2.2.2.2⟩
  have Lf : Ld Try.prog 39 (w.heap.size) 0 (fun W => Below wA.heap.size wA W) (.agg (flc f.e f.l f.i f.c f.base A f.slots.length cA B f.have_.length cB)) := ⟨fun W hW => load39 (hx W hW).2.2.1⟩
  have Lh : Ld Try.prog 37 (w.heap.size) 6 (fun W => Below wA.heap.size wA W) (.slice B f.have_.length cB) := ⟨fun W hW => load37 ((hx W hW).2.2.1 6 _ rfl)⟩
  have Le : Ld Try.prog 3 (w.heap.size) 0 (fun W => Below wA.heap.size wA W) (.int .i64 f.e) := ⟨fun W hW => load3 ((hx W hW).2.2.1 0 _ rfl)⟩
  have bad : ∀ W, Below wA.heap.size wA W → ∀ n, s.take q inc f = (n, s) → TkPost w F b g 1 2 Mp cM ms (s.take q inc f) (.returned (.int .i64 n)) W := fun W hW n e => TkPost.bad h e (hx W hW).2.2.2.1
  have M138 : Ld Try.prog 138 b 1 (fun W => BxS b w.heap.size (.slice (some ⟨g, 0, none⟩) s.n s.n) (flc f.e f.l f.i f.c f.base A f.slots.length cA B f.have_.length cB).toList W) (.slice (some ⟨g, 0, none⟩) s.n s.n) := ⟨fun W hW => load138 hW.1⟩
  have Mf : Ld Try.prog 39 w.heap.size 0 (fun W => BxS b w.heap.size (.slice (some ⟨g, 0, none⟩) s.n s.n) (flc f.e f.l f.i f.c f.base A f.slots.length cA B f.have_.length cB).toList W) (.agg (flc f.e f.l f.i f.c f.base A f.slots.length cA B f.have_.length cB)) := ⟨fun W hW => load39 hW.2⟩
  conv => whnf
  refine VDraw.mk 1000 [([0, 1, 2, 3, 4, 5, 6, 7, 8, 9, 10, 11], 12), ([13, 14, 15, 16], 17)] [18, 19, 20, 21, 22, 23, 24, 25, 26, 27, 28, 29] (fun W => Below wA.heap.size wA W) (by kernel_rfl) (by kernel_rfl) (bd) ?_
  by_cases hq0 : q < 0
  · repeat ((conv => whnf); first | (refine VLoad.mk _ L138 ?_) | (refine VLoad.mk _ Ln ?_) | (refine VLoad.mk _ Lf ?_) | (refine VLoad.mk _ Lh ?_) | (refine VLoad.mk _ Le ?_) | (refine VS.mk bd ?_) | (refine VCmp.tt (by omega) ?_) | (refine VCmp.ff (by omega) ?_) | (refine VIn.mk (IntWalk.i64_in _ (by omega)) ?_) | (refine VIdx.mk _ rfl (by omega) ?_) | (refine VIdx.mk 0 rfl (by omega) ?_))
    try (conv => whnf)
    exact .mk (bad _ bd 1 (take_bad (.inl hq0)))
  by_cases hq1 : (s.n : Int) ≤ q
  · repeat ((conv => whnf); first | (refine VLoad.mk _ L138 ?_) | (refine VLoad.mk _ Ln ?_) | (refine VLoad.mk _ Lf ?_) | (refine VLoad.mk _ Lh ?_) | (refine VLoad.mk _ Le ?_) | (refine VS.mk bd ?_) | (refine VCmp.tt (by omega) ?_) | (refine VCmp.ff (by omega) ?_) | (refine VIn.mk (IntWalk.i64_in _ (by omega)) ?_) | (refine VIdx.mk _ rfl (by omega) ?_) | (refine VIdx.mk 0 rfl (by omega) ?_))
    try (conv => whnf)
    exact .mk (bad _ bd 1 (take_bad (.inr (.inl hq1))))
  obtain ⟨p, rfl⟩ := Int.eq_ofNat_of_zero_le (show 0 ≤ q by omega)
  have hpn : p < s.n := by omega
  repeat ((conv => whnf); first | (refine VLoad.mk _ L138 ?_) | (refine VLoad.mk _ Ln ?_) | (refine VLoad.mk _ Lf ?_) | (refine VLoad.mk _ Lh ?_) | (refine VLoad.mk _ Le ?_) | (refine VS.mk bd ?_) | (refine VCmp.tt (by omega) ?_) | (refine VCmp.ff (by omega) ?_) | (refine VIn.mk (IntWalk.i64_in _ (by omega)) ?_) | (refine VIdx.mk _ rfl (by omega) ?_) | (refine VIdx.mk 0 rfl (by omega) ?_))
  try (conv => whnf)
  refine VCall.mk _ (count_any inc wA.drew) ?_
  rintro e' x1 ⟨rfl, rfl⟩
  refine ⟨_, rfl, ?_⟩
  cases hcn : cntB inc with
  | false =>
    repeat ((conv => whnf); first | (refine VLoad.mk _ L138 ?_) | (refine VLoad.mk _ Ln ?_) | (refine VLoad.mk _ Lf ?_) | (refine VLoad.mk _ Lh ?_) | (refine VLoad.mk _ Le ?_) | (refine VS.mk bd ?_) | (refine VCmp.tt (by omega) ?_) | (refine VCmp.ff (by omega) ?_) | (refine VIn.mk (IntWalk.i64_in _ (by omega)) ?_) | (refine VIdx.mk _ rfl (by omega) ?_) | (refine VIdx.mk 0 rfl (by omega) ?_))
    try (conv => whnf)
    exact .mk (bad _ bd 1 (take_cnt hcn))
  | true =>
  obtain ⟨hi0, hi1⟩ := cnt_yes hcn
  repeat ((conv => whnf); first | (refine VLoad.mk _ L138 ?_) | (refine VLoad.mk _ Ln ?_) | (refine VLoad.mk _ Lf ?_) | (refine VLoad.mk _ Lh ?_) | (refine VLoad.mk _ Le ?_) | (refine VS.mk bd ?_) | (refine VCmp.tt (by omega) ?_) | (refine VCmp.ff (by omega) ?_) | (refine VIn.mk (IntWalk.i64_in _ (by omega)) ?_) | (refine VIdx.mk _ rfl (by omega) ?_) | (refine VIdx.mk 0 rfl (by omega) ?_))
  try (conv => whnf)
  refine VCall.mk _ (rsound_any f A B cA cB N wA.drew (by show N ≤ wA.heap.size; omega) (hx _ bd).1) ?_
  rintro e' x2 ⟨rfl, hb2⟩
  refine ⟨_, rfl, ?_⟩
  have b2 : Below wA.heap.size wA x2 := bd.trans hb2
  cases hsb : soundB f with
  | false =>
    repeat ((conv => whnf); first | (refine VS.mk b2 ?_) | (refine VLoad.mk _ L138 ?_) | (refine VLoad.mk _ Ln ?_) | (refine VLoad.mk _ Lf ?_) | (refine VLoad.mk _ Lh ?_) | (refine VLoad.mk _ Le ?_) | (refine VS.mk bd ?_) | (refine VCmp.tt (by omega) ?_) | (refine VCmp.ff (by omega) ?_) | (refine VIn.mk (IntWalk.i64_in _ (by omega)) ?_) | (refine VIdx.mk _ rfl (by omega) ?_) | (refine VIdx.mk 0 rfl (by omega) ?_))
    try (conv => whnf)
    exact .mk (bad _ b2 1 (take_bad (.inr (.inr (.inr (.inr (.inl hsb)))))))
  | true =>
  by_cases hl : f.have_.length = s.n
  case neg =>
    repeat ((conv => whnf); first | (refine VS.mk b2 ?_) | (refine VLoad.mk _ L138 ?_) | (refine VLoad.mk _ Ln ?_) | (refine VLoad.mk _ Lf ?_) | (refine VLoad.mk _ Lh ?_) | (refine VLoad.mk _ Le ?_) | (refine VS.mk bd ?_) | (refine VCmp.tt (by omega) ?_) | (refine VCmp.ff (by omega) ?_) | (refine VIn.mk (IntWalk.i64_in _ (by omega)) ?_) | (refine VIdx.mk _ rfl (by omega) ?_) | (refine VIdx.mk 0 rfl (by omega) ?_))
    try (conv => whnf)
    exact .mk (bad _ b2 1 (take_bad (.inr (.inr (.inr (.inr (.inr hl)))))))
  obtain ⟨kx, hkx, hkk, -, -⟩ := h.kp hpn
  have htk := take_good hpn hi0 hi1 hsb hl
  rw [← hkk] at htk
  have hk8 : x2.rangeAt g (0 + p * 8) (eKp kx) := by rw [Nat.zero_add]; exact (hx _ b2).2.1.krow p kx hkx
  have h173 := Ld.of (load173 hk8)
  repeat ((conv => whnf); first | (refine VLoad.mk _ (L138.at b2) ?_) | (refine VLoad.mk _ h173 ?_) | (refine VS.mk b2 ?_) | (refine VLoad.mk _ L138 ?_) | (refine VLoad.mk _ Ln ?_) | (refine VLoad.mk _ Lf ?_) | (refine VLoad.mk _ Lh ?_) | (refine VLoad.mk _ Le ?_) | (refine VS.mk bd ?_) | (refine VCmp.tt (by omega) ?_) | (refine VCmp.ff (by omega) ?_) | (refine VIn.mk (IntWalk.i64_in _ (by omega)) ?_) | (refine VIdx.mk _ rfl (by omega) ?_) | (refine VIdx.mk 0 rfl (by omega) ?_))
  try (conv => whnf)
  refine .mk _ run_zero173 ?_
  conv => whnf
  refine .mk fun x3 hx3 => ?_
  repeat ((conv => whnf); first | (refine VLoad.mk _ (L138.at b2) ?_) | (refine VLoad.mk _ h173 ?_) | (refine VS.mk b2 ?_) | (refine VLoad.mk _ L138 ?_) | (refine VLoad.mk _ Ln ?_) | (refine VLoad.mk _ Lf ?_) | (refine VLoad.mk _ Lh ?_) | (refine VLoad.mk _ Le ?_) | (refine VS.mk bd ?_) | (refine VCmp.tt (by omega) ?_) | (refine VCmp.ff (by omega) ?_) | (refine VIn.mk (IntWalk.i64_in _ (by omega)) ?_) | (refine VIdx.mk _ rfl (by omega) ?_) | (refine VIdx.mk 0 rfl (by omega) ?_))
  try (conv => whnf)
  refine VStore.new hx3 (by kernel_rfl) rfl (one_kpA kx) fun x4 hx4 => ?_
  have b4 : Below wA.heap.size wA x4 := by rw [hx4.out]; exact b2.alloc b2.size _
  have r4 : x4.rangeAt x2.heap.size 0 (eKp kx) := by rw [hx4.out]; exact range_new x2 (kpA kx) 173
  have e4 := (hx _ b4).2.2.1
  have r5 : x4.rangeAt x2.heap.size (0 + 1) (flc kx.k.f.e kx.k.f.l kx.k.f.i kx.k.f.c kx.k.f.base kx.A kx.k.f.slots.length kx.cA kx.B kx.k.f.have_.length kx.cB).toList := fun j u hu => by
    have h9 := r4 (j + 1) u hu
    rw [Nat.zero_add] at h9
    rw [Nat.zero_add, Nat.add_comm 1 j]; exact h9
  have a0 := Ld.of (load3 (r4 0 _ rfl))
  have a1 := Ld.of (load3 (r4 1 _ rfl))
  have e0 := Ld.of (load3 (e4 0 _ rfl))
  have a5 := Ld.of (load39 r5)
  rcases Int.lt_trichotomy inc kx.k.inc with hd0 | hd0 | hd0
  · repeat ((conv => whnf); first | (refine VLoad.mk _ a0 ?_) | (refine VLoad.mk _ a1 ?_) | (refine VLoad.mk _ e0 ?_) | (refine VLoad.mk _ a5 ?_) | (refine VLoad.mk _ (Lf.at b4) ?_) | (refine VCmp.tt (by omega) ?_) | (refine VCmp.ff (by omega) ?_) | (refine VIn.mk (IntWalk.i64_in _ (by omega)) ?_) | (refine VIdx.mk _ rfl (by omega) ?_) | (refine VIdx.mk 0 rfl (by omega) ?_))
    try (conv => whnf)
    exact .mk (bad _ b4 50 (by rw [htk, if_pos hd0]))
  · rcases Int.lt_trichotomy f.e kx.k.f.e with hd | hd | hd
    · repeat ((conv => whnf); first | (refine VLoad.mk _ a0 ?_) | (refine VLoad.mk _ a1 ?_) | (refine VLoad.mk _ e0 ?_) | (refine VLoad.mk _ a5 ?_) | (refine VLoad.mk _ (Lf.at b4) ?_) | (refine VCmp.tt (by omega) ?_) | (refine VCmp.ff (by omega) ?_) | (refine VIn.mk (IntWalk.i64_in _ (by omega)) ?_) | (refine VIdx.mk _ rfl (by omega) ?_) | (refine VIdx.mk 0 rfl (by omega) ?_))
      try (conv => whnf)
      exact .mk (bad _ b4 51 (by rw [htk, if_neg (by omega), if_pos ⟨by omega, hd⟩]))
    · have h4 := (hx _ b4).2.1
      have hkr := (h4.kS kx (List.mem_of_getElem? hkx)).rows
      have hfr := (hx _ b4).1.more (show N ≤ x4.heap.size by have := b4.size; omega)
      repeat ((conv => whnf); first | (refine VLoad.mk _ a0 ?_) | (refine VLoad.mk _ a1 ?_) | (refine VLoad.mk _ e0 ?_) | (refine VLoad.mk _ a5 ?_) | (refine VLoad.mk _ (Lf.at b4) ?_) | (refine VCmp.tt (by omega) ?_) | (refine VCmp.ff (by omega) ?_) | (refine VIn.mk (IntWalk.i64_in _ (by omega)) ?_) | (refine VIdx.mk _ rfl (by omega) ?_) | (refine VIdx.mk 0 rfl (by omega) ?_))
      try (conv => whnf)
      refine VCall.mk _ (same_any kx.k.f f kx.A A kx.B B kx.cA cA kx.cB cB x4.heap.size x4 (Nat.le_refl _) hkr hfr) ?_
      rintro e' x5 ⟨rfl, hb5⟩
      refine ⟨_, rfl, ?_⟩
      have b5 := b4.trans (hb5.mono b4.size)
      cases hfb : sameB kx.k.f f with
      | false =>
        repeat ((conv => whnf); first | (refine VCmp.tt (by omega) ?_) | (refine VCmp.ff (by omega) ?_) | (refine VIn.mk (IntWalk.i64_in _ (by omega)) ?_) | (refine VIdx.mk _ rfl (by omega) ?_) | (refine VIdx.mk 0 rfl (by omega) ?_))
        try (conv => whnf)
        exact .mk (bad _ b5 82 (by rw [htk, if_neg (by omega), if_neg (by omega), if_pos ⟨by omega, hd⟩, if_neg (sameB_f hfb)]))
      | true =>
        repeat ((conv => whnf); first | (refine VCmp.tt (by omega) ?_) | (refine VCmp.ff (by omega) ?_) | (refine VIn.mk (IntWalk.i64_in _ (by omega)) ?_) | (refine VIdx.mk _ rfl (by omega) ?_) | (refine VIdx.mk 0 rfl (by omega) ?_))
        try (conv => whnf)
        exact .mk (bad _ b5 0 (by rw [htk, if_neg (by omega), if_neg (by omega), if_pos ⟨by omega, hd⟩, if_pos (sameB_t hfb)]))
    · have he : s.take p inc f = (0, { s with kept := s.kept.set p ⟨inc, f⟩ }) := by rw [htk, if_neg (by omega), if_neg (by omega), if_neg (by omega)]
      repeat ((conv => whnf); first | (refine VLoad.mk _ a0 ?_) | (refine VLoad.mk _ a1 ?_) | (refine VLoad.mk _ e0 ?_) | (refine VLoad.mk _ a5 ?_) | (refine VLoad.mk _ (Lf.at b4) ?_) | (refine VCmp.tt (by omega) ?_) | (refine VCmp.ff (by omega) ?_) | (refine VIn.mk (IntWalk.i64_in _ (by omega)) ?_) | (refine VIdx.mk _ rfl (by omega) ?_) | (refine VIdx.mk 0 rfl (by omega) ?_))
      try (conv => whnf)
      have hiv2 := take_sinv h.inv p inc f
      rw [he] at hiv2
      have b4d : Below wA.heap.size wA x4.drew := b4.drew
      obtain ⟨f4, h4, r6, -, -⟩ := hx _ b4d
      have z4 := b4d.size
      refine VDraw.mk 10 [([0, 1, 2, 3, 4, 5, 6], 7), ([8, 9], 10)] [] (fun W => BxS b w.heap.size (.slice (some ⟨g, 0, none⟩) s.n s.n) (flc f.e f.l f.i f.c f.base A f.slots.length cA B f.have_.length cB).toList W) (by kernel_rfl) (by kernel_rfl) (⟨h4.ck, r6⟩) ?_
      repeat ((conv => whnf); first | (refine VLoad.mk _ M138 ?_) | (refine VLoad.mk _ Mf ?_) | (refine VCmp.tt (by omega) ?_) | (refine VCmp.ff (by omega) ?_) | (refine VIn.mk (IntWalk.i64_in _ (by omega)) ?_) | (refine VIdx.mk _ rfl (by omega) ?_) | (refine VIdx.mk 0 rfl (by omega) ?_))
      try (conv => whnf)
      refine VCall.mk _ (copyOf_any f A cA B cB N x4.drew (by omega) f4.slots f4.have_ l1 l2) ?_
      rintro e' x5 ⟨A2, c2, B2, d2, rfl, hs2, hh2, hb2⟩
      refine ⟨_, rfl, ?_⟩
      have b5 : Below wA.heap.size wA x5 := b4d.trans (hb2.mono z4)
      have h5 := h4.below hb2
      have t5 : x5.there g (p * 8) 8 := World.there.at h5.kthere (by omega)
      have hfk : FarK x5 F ⟨⟨inc, f⟩, A2, c2, B2, d2⟩ := ⟨RowF.ofOwns hs2 len_eSlot h4.hi, RowF.ofOwns hh2 len_eInt h4.hi, hs2.len.1, hs2.len.2, hh2.len.1, hh2.len.2⟩
      conv => whnf
      refine VS.mk ⟨h5.ck, (hx _ b5).2.2.1⟩ ?_
      repeat ((conv => whnf); first | (refine VCmp.tt (by omega) ?_) | (refine VCmp.ff (by omega) ?_) | (refine VIn.mk (IntWalk.i64_in _ (by omega)) ?_) | (refine VIdx.mk _ rfl (by omega) ?_) | (refine VIdx.mk 0 rfl (by omega) ?_))
      try (conv => whnf)
      refine VBuild.mk _ (fun W => build173 W inc f.e f.l f.i f.c f.base A2 f.slots.length c2 B2 f.have_.length d2) ?_
      repeat ((conv => whnf); first | (refine VCmp.tt (by omega) ?_) | (refine VCmp.ff (by omega) ?_) | (refine VIn.mk (IntWalk.i64_in _ (by omega)) ?_) | (refine VIdx.mk _ rfl (by omega) ?_) | (refine VIdx.mk 0 rfl (by omega) ?_))
      try (conv => whnf)
      refine VStore.mid (c := kpA ⟨⟨inc, f⟩, A2, c2, B2, d2⟩) (by rw [Nat.zero_add]; exact t5) (by kernel_rfl) (one_kpA ⟨⟨inc, f⟩, A2, c2, B2, d2⟩) fun x6 hx6 => ?_
      have hx6' : x6 = x5.setCells g (p * 8) (eKp ⟨⟨inc, f⟩, A2, c2, B2, d2⟩) := by rw [hx6.out, Nat.zero_add]; rfl
      have g6 : x5.grownBy x6 (some g) := by rw [hx6']; exact grown_sets _ _ _ _
      have h6 : StV x6 F b g 1 2 { s with kept := s.kept.set p ⟨inc, f⟩ } (ks.set p ⟨⟨inc, f⟩, A2, c2, B2, d2⟩) Mp cM ms := by rw [hx6']; exact h5.put hpn hfk hiv2
      conv => whnf
      refine VS.last rfl ?_
      repeat ((conv => whnf); first | (refine VCmp.tt (by omega) ?_) | (refine VCmp.ff (by omega) ?_) | (refine VIn.mk (IntWalk.i64_in _ (by omega)) ?_) | (refine VIdx.mk _ rfl (by omega) ?_) | (refine VIdx.mk 0 rfl (by omega) ?_))
      try (conv => whnf)
      exact .mk ⟨by rw [he]; rfl, ⟨_, by rw [he]; exact h6⟩, (World.grownBy.but (grown_below (hx _ b5).2.2.2.1) (some g)).trans g6⟩
  · have he : s.take p inc f = (0, { s with kept := s.kept.set p ⟨inc, f⟩ }) := by rw [htk, if_neg (by omega), if_neg (by omega), if_neg (by omega)]
    repeat ((conv => whnf); first | (refine VLoad.mk _ a0 ?_) | (refine VLoad.mk _ a1 ?_) | (refine VLoad.mk _ e0 ?_) | (refine VLoad.mk _ a5 ?_) | (refine VLoad.mk _ (Lf.at b4) ?_) | (refine VCmp.tt (by omega) ?_) | (refine VCmp.ff (by omega) ?_) | (refine VIn.mk (IntWalk.i64_in _ (by omega)) ?_) | (refine VIdx.mk _ rfl (by omega) ?_) | (refine VIdx.mk 0 rfl (by omega) ?_))
    try (conv => whnf)
    have hiv2 := take_sinv h.inv p inc f
    rw [he] at hiv2
    have b4d : Below wA.heap.size wA x4.drew := b4.drew
    obtain ⟨f4, h4, r6, -, -⟩ := hx _ b4d
    have z4 := b4d.size
    refine VDraw.mk 10 [([0, 1, 2, 3, 4, 5, 6], 7), ([8, 9], 10)] [] (fun W => BxS b w.heap.size (.slice (some ⟨g, 0, none⟩) s.n s.n) (flc f.e f.l f.i f.c f.base A f.slots.length cA B f.have_.length cB).toList W) (by kernel_rfl) (by kernel_rfl) (⟨h4.ck, r6⟩) ?_
    repeat ((conv => whnf); first | (refine VLoad.mk _ M138 ?_) | (refine VLoad.mk _ Mf ?_) | (refine VCmp.tt (by omega) ?_) | (refine VCmp.ff (by omega) ?_) | (refine VIn.mk (IntWalk.i64_in _ (by omega)) ?_) | (refine VIdx.mk _ rfl (by omega) ?_) | (refine VIdx.mk 0 rfl (by omega) ?_))
    try (conv => whnf)
    refine VCall.mk _ (copyOf_any f A cA B cB N x4.drew (by omega) f4.slots f4.have_ l1 l2) ?_
    rintro e' x5 ⟨A2, c2, B2, d2, rfl, hs2, hh2, hb2⟩
    refine ⟨_, rfl, ?_⟩
    have b5 : Below wA.heap.size wA x5 := b4d.trans (hb2.mono z4)
    have h5 := h4.below hb2
    have t5 : x5.there g (p * 8) 8 := World.there.at h5.kthere (by omega)
    have hfk : FarK x5 F ⟨⟨inc, f⟩, A2, c2, B2, d2⟩ := ⟨RowF.ofOwns hs2 len_eSlot h4.hi, RowF.ofOwns hh2 len_eInt h4.hi, hs2.len.1, hs2.len.2, hh2.len.1, hh2.len.2⟩
    conv => whnf
    refine VS.mk ⟨h5.ck, (hx _ b5).2.2.1⟩ ?_
    repeat ((conv => whnf); first | (refine VCmp.tt (by omega) ?_) | (refine VCmp.ff (by omega) ?_) | (refine VIn.mk (IntWalk.i64_in _ (by omega)) ?_) | (refine VIdx.mk _ rfl (by omega) ?_) | (refine VIdx.mk 0 rfl (by omega) ?_))
    try (conv => whnf)
    refine VBuild.mk _ (fun W => build173 W inc f.e f.l f.i f.c f.base A2 f.slots.length c2 B2 f.have_.length d2) ?_
    repeat ((conv => whnf); first | (refine VCmp.tt (by omega) ?_) | (refine VCmp.ff (by omega) ?_) | (refine VIn.mk (IntWalk.i64_in _ (by omega)) ?_) | (refine VIdx.mk _ rfl (by omega) ?_) | (refine VIdx.mk 0 rfl (by omega) ?_))
    try (conv => whnf)
    refine VStore.mid (c := kpA ⟨⟨inc, f⟩, A2, c2, B2, d2⟩) (by rw [Nat.zero_add]; exact t5) (by kernel_rfl) (one_kpA ⟨⟨inc, f⟩, A2, c2, B2, d2⟩) fun x6 hx6 => ?_
    have hx6' : x6 = x5.setCells g (p * 8) (eKp ⟨⟨inc, f⟩, A2, c2, B2, d2⟩) := by rw [hx6.out, Nat.zero_add]; rfl
    have g6 : x5.grownBy x6 (some g) := by rw [hx6']; exact grown_sets _ _ _ _
    have h6 : StV x6 F b g 1 2 { s with kept := s.kept.set p ⟨inc, f⟩ } (ks.set p ⟨⟨inc, f⟩, A2, c2, B2, d2⟩) Mp cM ms := by rw [hx6']; exact h5.put hpn hfk hiv2
    conv => whnf
    refine VS.last rfl ?_
    repeat ((conv => whnf); first | (refine VCmp.tt (by omega) ?_) | (refine VCmp.ff (by omega) ?_) | (refine VIn.mk (IntWalk.i64_in _ (by omega)) ?_) | (refine VIdx.mk _ rfl (by omega) ?_) | (refine VIdx.mk 0 rfl (by omega) ?_))
    try (conv => whnf)
    exact .mk ⟨by rw [he]; rfl, ⟨_, by rw [he]; exact h6⟩, (World.grownBy.but (grown_below (hx _ b5).2.2.2.1) (some g)).trans g6⟩
end Go.Proofs.Ytcffhfcjfjfokaa
namespace Go.Proofs.Ytcffhfcjfjfokaa
open Go.RowKit
theorem VCmp.split {p : Prop} {K : Bool → Prop} (h1 : p → K true) (h2 : ¬ p → K false) : VCmp p K := (Classical.em p).elim (fun h => .tt h (h1 h)) fun h => .ff h (h2 h)
theorem VDone.eq {p q : Prop} (h : p) (e : p = q) : VDone q := ⟨e ▸ h⟩
theorem rise_iff : ∀ {l : List Dt}, riseB l = true ↔ ∀ j p d, l[j]? = some p → l[j + 1]? = some d → aheadB p d = true
  | [] => by simp [riseB]
  | [a] => by simp [riseB]
  | a :: b :: r => by
    rw [riseB, Bool.and_eq_true, rise_iff]
    constructor
    · rintro ⟨h1, h2⟩ j p d hp hd
      cases j with
      | zero => simp at hp hd; subst hp; subst hd; exact h1
      | succ j => exact h2 j p d (by simpa using hp) (by simpa using hd)
    · intro h
      exact ⟨h 0 a b rfl rfl, fun j p d hp hd => h (j + 1) p d (by simpa using hp) (by simpa using hd)⟩
def okTo (n : Nat) (ds : List Dt) (k : Nat) : Prop := ∀ j d, j < k → ds[j]? = some d → dtB n d = true ∧ ∀ p, 0 < j → ds[j - 1]? = some p → aheadB p d = true
theorem okTo_zero (n : Nat) (ds : List Dt) : okTo n ds 0 := fun j d h => by omega
theorem okTo_succ {n k : Nat} {ds : List Dt} {d : Dt} (h : okTo n ds k) (hd : ds[k]? = some d) (h1 : dtB n d = true) (h2 : ∀ p, 0 < k → ds[k - 1]? = some p → aheadB p d = true) : okTo n ds (k + 1) := fun j x hj hx => by
  by_cases e : j = k
  · subst e; rw [hd] at hx; injection hx with hx; subst hx; exact ⟨h1, h2⟩
  · exact h j x (by omega) hx
theorem fits_all {n : Nat} {e l i c : Int} {ds : List Dt} (hw : wholeB e l i c = true) (hl : ds.length ≤ 128) (h : okTo n ds ds.length) : fitsB n e l i c ds = true := by
  unfold fitsB
  rw [hw, decide_eq_true hl, Bool.true_and, Bool.true_and, Bool.and_eq_true, rise_iff, List.all_eq_true]
  refine ⟨fun d hd => ?_, fun j p d hp hd => ?_⟩
  · obtain ⟨j, hj⟩ := List.mem_iff_getElem?.1 hd
    exact (h j d (List.getElem?_eq_some_iff.1 hj).1 hj).1
  · exact (h (j + 1) d (List.getElem?_eq_some_iff.1 hd).1 hd).2 p (by omega) hp
theorem fits_bad {n k : Nat} {e l i c : Int} {ds : List Dt} {d : Dt} (hd : ds[k]? = some d) (h : dtB n d = false) : fitsB n e l i c ds = false := by
  unfold fitsB
  have : ds.all (dtB n) = false := by
    rw [List.all_eq_false]; exact ⟨d, List.mem_of_getElem? hd, by simp [h]⟩
  rw [this]; simp
theorem fits_bad2 {n k : Nat} {e l i c : Int} {ds : List Dt} {p d : Dt} (hp : ds[k]? = some p) (hd : ds[k + 1]? = some d) (h : aheadB p d = false) : fitsB n e l i c ds = false := by
  unfold fitsB
  have : riseB ds = false := by
    cases hr : riseB ds with
    | false => rfl
    | true => rw [rise_iff.1 hr k p d hp hd] at h; cases h
  rw [this]; simp
theorem fits_no {n : Nat} {e l i c : Int} {ds : List Dt} (h : wholeB e l i c = false ∨ ¬ ds.length ≤ 128) : fitsB n e l i c ds = false := by
  unfold fitsB
  rcases h with h | h
  · rw [h]; rfl
  · rw [decide_eq_false h]; simp
def fwc (e l i c : Int) (A : Option Addr) (n cA : Nat) : Array Value := #[.int .i64 e, .int .i64 l, .int .i64 i, .int .i64 c, .slice A n cA]
set_option maxRecDepth 100000 in
theorem fits_any {w : World} {F : List Nat} {b g : Nat} {s : Sto} {ks : List KpX} {Mp : Option Addr} {cM : Nat} {ms : List Dr} (h : StV w F b g 0 1 s ks Mp cM ms) (e l i c : Int) (rs : List Dr) (A : Option Addr) (cA N : Nat) (hN : N ≤ w.heap.size) (hr : Drs w N A rs) :
    Calls Try.prog 108 #[.pointer (some ⟨b, 0, none⟩), .agg (fwc e l i c A rs.length cA)] w fun x w' => x = .returned (.bool (fitsB s.n e l i c (rs.map Dr.d))) ∧ Below w.heap.size w w' := by
  have hbz := h.hi b h.bF
  refine calls_vc tab_ok Try.func108 rfl ?_
  conv => whnf
  refine .mk fun wA hwA => ?_
  have hbA : Below w.heap.size w wA := by rw [hwA.out]; exact below_box1 _ _ _
  have zA : wA.heap.size = w.heap.size + 1 := by rw [hwA.out]; simp
  have oA : wA.rangeAt w.heap.size 0 (fwc e l i c A rs.length cA).toList := by rw [hwA.out]; exact range_new w (fwc e l i c A rs.length cA) 157
  have hx : ∀ W, Below wA.heap.size wA W → Drs W N A rs ∧ StV W F b g 0 1 s ks Mp cM ms ∧ W.rangeAt w.heap.size 0 (fwc e l i c A rs.length cA).toList ∧ Below w.heap.size w W := fun W hW =>
    ⟨⟨(hr.row.below hbA hN).below hW (by omega), fun r h1 => ((hr.each r h1).below hbA hN).below hW (by omega)⟩, (h.below hbA).below hW, range_same oA (hW.block w.heap.size (by omega)), hbA.trans (hW.mono (by omega))⟩
  have Lp : Ld Try.prog 35 w.heap.size 0 (fun W => Below wA.heap.size wA W) (.agg #[.int .i64 e, .int .i64 l, .int .i64 i, .int .i64 c]) := ⟨fun W hW => load35 (range_sub (n := 4) (hx W hW).2.2.1 0 rfl)⟩
  have Lm : Ld Try.prog 40 w.heap.size 4 (fun W => Below wA.heap.size wA W) (.slice A rs.length cA) := ⟨fun W hW => load40 ((hx W hW).2.2.1 4 _ rfl)⟩
  have Lk : Ld Try.prog 135 b 0 (fun W => Below wA.heap.size wA W) (.slice (some ⟨g, 0, none⟩) s.n s.n) := ⟨fun W hW => load135 (hx W hW).2.1.ck⟩
  have b0 : Below wA.heap.size wA wA := Below.refl _ _
  repeat ((conv => whnf); first | (refine VLoad.mk _ (Lp.at b0) ?_) | (refine VCmp.tt (by omega) ?_) | (refine VCmp.ff (by omega) ?_) | (refine VIn.mk (IntWalk.i64_in _ (by omega)) ?_) | (refine VIdx.mk _ rfl (by omega) ?_) | (refine VIdx.mk 0 rfl (by omega) ?_))
  try (conv => whnf)
  refine VCall.mk _ (whole_any e l i c wA) ?_
  rintro _ x1 ⟨rfl, hb1⟩
  refine ⟨_, rfl, ?_⟩
  have b1 : Below wA.heap.size wA x1 := hb1
  cases hw : wholeB e l i c with
  | false =>
    repeat ((conv => whnf); first | (refine VCmp.tt (by omega) ?_) | (refine VCmp.ff (by omega) ?_) | (refine VIn.mk (IntWalk.i64_in _ (by omega)) ?_) | (refine VIdx.mk _ rfl (by omega) ?_) | (refine VIdx.mk 0 rfl (by omega) ?_))
    try (conv => whnf)
    exact .mk ⟨by rw [fits_no (.inl hw)]; rfl, (hx _ b1).2.2.2⟩
  | true =>
  by_cases hl : rs.length ≤ 128
  case neg =>
    repeat ((conv => whnf); first | (refine VLoad.mk _ (Lm.at b1) ?_) | (refine VCmp.tt (by omega) ?_) | (refine VCmp.ff (by omega) ?_) | (refine VIn.mk (IntWalk.i64_in _ (by omega)) ?_) | (refine VIdx.mk _ rfl (by omega) ?_) | (refine VIdx.mk 0 rfl (by omega) ?_))
    try (conv => whnf)
    exact .mk ⟨by rw [fits_no (.inr (by rw [List.length_map]; exact hl))]; rfl, (hx _ b1).2.2.2⟩
  repeat ((conv => whnf); first | (refine VLoad.mk _ (Lm.at b1) ?_) | (refine VCmp.tt (by omega) ?_) | (refine VCmp.ff (by omega) ?_) | (refine VIn.mk (IntWalk.i64_in _ (by omega)) ?_) | (refine VIdx.mk _ rfl (by omega) ?_) | (refine VIdx.mk 0 rfl (by omega) ?_))
  try (conv => whnf)
  refine VLoop.mk Nat (fun k => [(0, .pointer (some ⟨b, 0, none⟩)), (3, .pointer (some ⟨w.heap.size, 0, none⟩)), (18, .slice A rs.length cA), (19, .int .i64 rs.length), (20, .int .i64 k)]) (fun k W => k ≤ rs.length ∧ okTo s.n (rs.map Dr.d) k ∧ Below wA.heap.size wA W) (fun k => rs.length - k) 0 ⟨rfl, rfl, rfl, rfl, rfl, trivial⟩ ⟨Nat.zero_le _, okTo_zero _ _, b1⟩ ?_
  rintro k wr ⟨hk, hok, br⟩
  by_cases hkl : k < rs.length
  case neg =>
    repeat ((conv => whnf); first | (refine VCmp.tt (by omega) ?_) | (refine VCmp.ff (by omega) ?_) | (refine VIn.mk (IntWalk.i64_in _ (by omega)) ?_) | (refine VIdx.mk _ rfl (by omega) ?_) | (refine VIdx.mk 0 rfl (by omega) ?_))
    try (conv => whnf)
    have : k = rs.length := by omega
    subst this
    exact .mk ⟨by rw [fits_all hw (by rw [List.length_map]; exact hl) (by rw [List.length_map]; exact hok)]; rfl, (hx _ br).2.2.2⟩
  obtain ⟨bA, oR, rfl, hbA2, hrow⟩ := (hx _ br).1.row (by omega)
  have hrk : rs[k]? = some rs[k] := List.getElem?_eq_getElem hkl
  generalize rs[k] = r at hrk
  have hdk : (rs.map Dr.d)[k]? = some r.d := by rw [List.getElem?_map, hrk]; rfl
  have Lr : Ld Try.prog 113 bA (oR + k * 4) (Eq wr) (.agg (drA r)) := .of (load113 (fun j u hu => hrow k r hrk j u hu))
  repeat ((conv => whnf); first | (refine VLoad.mk _ Lr ?_) | (refine VCmp.tt (by omega) ?_) | (refine VCmp.ff (by omega) ?_) | (refine VIn.mk (IntWalk.i64_in _ (by omega)) ?_) | (refine VIdx.mk _ rfl (by omega) ?_) | (refine VIdx.mk 0 rfl (by omega) ?_))
  try (conv => whnf)
  refine .mk _ run_zero113 ?_
  conv => whnf
  refine .mk fun x3 hx3 => ?_
  repeat ((conv => whnf); first | (refine VCmp.tt (by omega) ?_) | (refine VCmp.ff (by omega) ?_) | (refine VIn.mk (IntWalk.i64_in _ (by omega)) ?_) | (refine VIdx.mk _ rfl (by omega) ?_) | (refine VIdx.mk 0 rfl (by omega) ?_))
  try (conv => whnf)
  refine VStore.new hx3 (by kernel_rfl) rfl (one_drA r) fun x4 hx4 => ?_
  have b4 : Below wA.heap.size wA x4 := by rw [hx4.out]; exact br.alloc br.size _
  have r4 : x4.rangeAt wr.heap.size 0 (eDr r) := by rw [hx4.out]; exact range_new wr (drA r) 113
  have b5 : Below wA.heap.size wA x4.drew := b4.drew
  have r5 : x4.drew.rangeAt wr.heap.size 0 (eDr r) := range_same r4 rfl
  have d0 := Ld.of (load3 (r5 0 _ rfl))
  have d1 := Ld.of (load3 (r5 1 _ rfl))
  have d2 := Ld.of (load3 (r5 2 _ rfl))
  have d3 := Ld.of (load52 (r5 3 _ rfl))
  repeat ((conv => whnf); first | (refine VCmp.tt (by omega) ?_) | (refine VCmp.ff (by omega) ?_) | (refine VIn.mk (IntWalk.i64_in _ (by omega)) ?_) | (refine VIdx.mk _ rfl (by omega) ?_) | (refine VIdx.mk 0 rfl (by omega) ?_))
  try (conv => whnf)
  refine VDraw.mk 1000 [] [0, 1, 2, 3, 4, 5, 6, 7, 8, 9, 10, 11, 12, 13, 14, 15, 16, 17, 18, 19, 20, 21, 22, 23, 24, 25, 26, 27, 28, 29, 30, 31, 32, 33, 34, 35, 36, 37, 38] (Eq x4.drew) (by kernel_rfl) (by kernel_rfl) (rfl) ?_
  cases hd : dtB s.n r.d with
  | false =>
    have hd' : ¬ (0 ≤ r.d.s ∧ r.d.s < s.n ∧ 1 ≤ r.d.q ∧ r.d.q ≤ 4611686018427387904 ∧ 0 ≤ r.d.b ∧ r.d.b ≤ 4611686018427387904 ∧ r.d.body.length ≤ 256) := by unfold dtB at hd; simpa using hd
    repeat' (conv => whnf
             first
             | (refine VLoad.mk _ d0 ?_)
             | (refine VLoad.mk _ d1 ?_)
             | (refine VLoad.mk _ d2 ?_)
             | (refine VLoad.mk _ d3 ?_)
             | (refine VLoad.mk _ (Lk.at b5) ?_)
             | (refine VCmp.tt (by omega) ?_)
             | (refine VCmp.ff (by omega) ?_)
             | (refine VIn.mk (IntWalk.i64_in _ (by omega)) ?_)
             | (refine VIdx.mk _ rfl (by omega) ?_)
             | (refine VIdx.mk 0 rfl (by omega) ?_)
             | (refine VCmp.split (fun _ => ?_) (fun _ => ?_)))
    all_goals try (conv => whnf)
    all_goals exact .mk ⟨by rw [fits_bad hdk hd]; rfl, (hx _ b5).2.2.2⟩
  | true =>
  have hd' : 0 ≤ r.d.s ∧ r.d.s < s.n ∧ 1 ≤ r.d.q ∧ r.d.q ≤ 4611686018427387904 ∧ 0 ≤ r.d.b ∧ r.d.b ≤ 4611686018427387904 ∧ r.d.body.length ≤ 256 := by unfold dtB at hd; simpa using hd
  repeat ((conv => whnf); first | (refine VLoad.mk _ d0 ?_) | (refine VLoad.mk _ d1 ?_) | (refine VLoad.mk _ d2 ?_) | (refine VLoad.mk _ d3 ?_) | (refine VLoad.mk _ (Lk.at b5) ?_) | (refine VCmp.tt (by omega) ?_) | (refine VCmp.ff (by omega) ?_) | (refine VIn.mk (IntWalk.i64_in _ (by omega)) ?_) | (refine VIdx.mk _ rfl (by omega) ?_) | (refine VIdx.mk 0 rfl (by omega) ?_))
  try (conv => whnf)
  have b6 : Below wA.heap.size wA x4.drew.drew := b5.drew
  have r6 : ∀ W, Below x4.heap.size x4 W → W.rangeAt wr.heap.size 0 (eDr r) := fun W hW => range_same r4 (hW.block _ (by rw [hx4.out]; simp))
  have z4 := b4.size
  have L8 : Ld Try.prog 113 wr.heap.size 0 (fun W => Below x4.heap.size x4 W) (.agg (drA r)) := ⟨fun W hW => load113 (r6 W hW)⟩
  have Lm8 : Ld Try.prog 40 w.heap.size 4 (fun W => Below x4.heap.size x4 W) (.slice (some ⟨bA, oR, none⟩) rs.length cA) := ⟨fun W hW => load40 ((hx W (b4.trans (hW.mono z4))).2.2.1 4 _ rfl)⟩
  refine VDraw.mk 1000 [([0, 1, 2, 3, 4, 5, 6, 7, 8, 9], 10)] [11, 12] (fun W => Below x4.heap.size x4 W) (by kernel_rfl) (by kernel_rfl) (((Below.refl _ _).drew).drew) ?_
  cases k with
  | zero =>
    repeat ((conv => whnf); first | (refine VS.mk ((Below.refl _ _).drew).drew ?_) | (refine VCmp.tt (by omega) ?_) | (refine VCmp.ff (by omega) ?_) | (refine VIn.mk (IntWalk.i64_in _ (by omega)) ?_) | (refine VIdx.mk _ rfl (by omega) ?_) | (refine VIdx.mk 0 rfl (by omega) ?_))
    try (conv => whnf)
    exact .mk 1 ⟨rfl, rfl, rfl, rfl, rfl, trivial⟩ ⟨by omega, okTo_succ hok hdk hd fun p h0 => by omega, b6⟩ (by omega)
  | succ k =>
  have hrp : rs[k]? = some rs[k] := List.getElem?_eq_getElem (by omega)
  generalize rs[k] = p at hrp
  have hdp : (rs.map Dr.d)[k]? = some p.d := by rw [List.getElem?_map, hrp]; rfl
  have Lq : Ld Try.prog 113 bA (oR + k * 4) (fun W => Below x4.heap.size x4 W) (.agg (drA p)) := ⟨fun W hW => by
    obtain ⟨b', o', e', _, hrow'⟩ := (hx W (b4.trans (hW.mono z4))).1.row (by omega)
    injection e' with e'; injection e' with e1 e2; subst e1; subst e2
    exact load113 (fun j u hu => hrow' k p hrp j u hu)⟩
  repeat ((conv => whnf); first | (refine VLoad.mk _ L8 ?_) | (refine VLoad.mk _ Lm8 ?_) | (refine VLoad.mk _ Lq ?_) | (refine VIdx.mk k (by omega) (by omega) ?_) | (refine VCmp.tt (by omega) ?_) | (refine VCmp.ff (by omega) ?_) | (refine VIn.mk (IntWalk.i64_in _ (by omega)) ?_) | (refine VIdx.mk _ rfl (by omega) ?_) | (refine VIdx.mk 0 rfl (by omega) ?_))
  try (conv => whnf)
  refine VCall.mk _ (less_any p r x4.drew.drew) ?_
  rintro _ x7 ⟨rfl, hb7⟩
  refine ⟨_, rfl, ?_⟩
  have c7 : Below x4.heap.size x4 x7 := ((Below.refl _ _).drew).drew.trans hb7
  have b7 : Below wA.heap.size wA x7 := b4.trans (c7.mono z4)
  cases ha : aheadB p.d r.d with
  | false =>
    repeat ((conv => whnf); first | (refine VS.mk c7 ?_) | (refine VCmp.tt (by omega) ?_) | (refine VCmp.ff (by omega) ?_) | (refine VIn.mk (IntWalk.i64_in _ (by omega)) ?_) | (refine VIdx.mk _ rfl (by omega) ?_) | (refine VIdx.mk 0 rfl (by omega) ?_))
    try (conv => whnf)
    exact .mk ⟨by rw [fits_bad2 hdp hdk ha]; rfl, (hx _ b7).2.2.2⟩
  | true =>
  repeat ((conv => whnf); first | (refine VS.mk c7 ?_) | (refine VCmp.tt (by omega) ?_) | (refine VCmp.ff (by omega) ?_) | (refine VIn.mk (IntWalk.i64_in _ (by omega)) ?_) | (refine VIdx.mk _ rfl (by omega) ?_) | (refine VIdx.mk 0 rfl (by omega) ?_))
  try (conv => whnf)
  exact .mk (k + 1 + 1) ⟨rfl, rfl, rfl, rfl, rfl, trivial⟩ ⟨by omega, okTo_succ hok hdk hd fun p' h0 hp' => by
    rw [show k + 1 - 1 = k by omega, hdp] at hp'
    injection hp' with hp'; subst hp'; exact ha, b7⟩ (by omega)
end Go.Proofs.Ytcffhfcjfjfokaa
namespace Go.Proofs.Ytcffhfcjfjfokaa
open Go.RowKit
set_option maxRecDepth 100000 in
theorem rfits_any {w : World} {F : List Nat} {b g : Nat} {s : Sto} {ks : List KpX} {Mp : Option Addr} {cM : Nat} {ms : List Dr} (h : StV w F b g 1 2 s ks Mp cM ms) (hn : w.cell? ⟨b, 0, none⟩ = some (.int .i64 s.n)) (e l i c : Int) (rs : List Dr) (A : Option Addr) (cA N : Nat) (hN : N ≤ w.heap.size) (hr : Drs w N A rs) :
    Calls Try.prog 110 #[.pointer (some ⟨b, 0, none⟩), .agg (fwc e l i c A rs.length cA)] w fun x w' => x = .returned (.bool (fitsB s.n e l i c (rs.map Dr.d))) ∧ Below w.heap.size w w' := by
  have hbz := h.hi b h.bF
  refine calls_vc tab_ok Try.func110 rfl ?_
  conv => whnf
  refine .mk fun wA hwA => ?_
  have hbA : Below w.heap.size w wA := by rw [hwA.out]; exact below_box1 _ _ _
  have zA : wA.heap.size = w.heap.size + 1 := by rw [hwA.out]; simp
  have oA : wA.rangeAt w.heap.size 0 (fwc e l i c A rs.length cA).toList := by rw [hwA.out]; exact range_new w (fwc e l i c A rs.length cA) 157
  have hx : ∀ W, Below wA.heap.size wA W → Drs W N A rs ∧ StV W F b g 1 2 s ks Mp cM ms ∧ W.rangeAt w.heap.size 0 (fwc e l i c A rs.length cA).toList ∧ Below w.heap.size w W ∧ W.cell? ⟨b, 0, none⟩ = some (.int .i64 s.n) := fun W hW =>
    ⟨⟨(hr.row.below hbA hN).below hW (by omega), fun r h1 => ((hr.each r h1).below hbA hN).below hW (by omega)⟩, (h.below hbA).below hW, range_same oA (hW.block w.heap.size (by omega)), hbA.trans (hW.mono (by omega)), (hW.cell (p := ⟨b, 0, none⟩) (by show b < _; omega)).trans ((hbA.cell (p := ⟨b, 0, none⟩) hbz).trans hn)⟩
  have Lp : Ld Try.prog 35 w.heap.size 0 (fun W => Below wA.heap.size wA W) (.agg #[.int .i64 e, .int .i64 l, .int .i64 i, .int .i64 c]) := ⟨fun W hW => load35 (range_sub (n := 4) (hx W hW).2.2.1 0 rfl)⟩
  have Lm : Ld Try.prog 40 w.heap.size 4 (fun W => Below wA.heap.size wA W) (.slice A rs.length cA) := ⟨fun W hW => load40 ((hx W hW).2.2.1 4 _ rfl)⟩
  have Lk : Ld Try.prog 3 b 0 (fun W => Below wA.heap.size wA W) (.int .i64 s.n) := ⟨fun W hW => load3 (hx W hW).2.2.2.2⟩
  have b0 : Below wA.heap.size wA wA := Below.refl _ _
  repeat ((conv => whnf); first | (refine VLoad.mk _ (Lp.at b0) ?_) | (refine VCmp.tt (by omega) ?_) | (refine VCmp.ff (by omega) ?_) | (refine VIn.mk (IntWalk.i64_in _ (by omega)) ?_) | (refine VIdx.mk _ rfl (by omega) ?_) | (refine VIdx.mk 0 rfl (by omega) ?_))
  try (conv => whnf)
  refine VCall.mk _ (rwhole_any e l i c wA) ?_
  rintro _ x1 ⟨rfl, hb1⟩
  refine ⟨_, rfl, ?_⟩
  have b1 : Below wA.heap.size wA x1 := hb1
  cases hw : wholeB e l i c with
  | false =>
    repeat ((conv => whnf); first | (refine VCmp.tt (by omega) ?_) | (refine VCmp.ff (by omega) ?_) | (refine VIn.mk (IntWalk.i64_in _ (by omega)) ?_) | (refine VIdx.mk _ rfl (by omega) ?_) | (refine VIdx.mk 0 rfl (by omega) ?_))
    try (conv => whnf)
    exact .mk ⟨by rw [fits_no (.inl hw)]; rfl, (hx _ b1).2.2.2.1⟩
  | true =>
  by_cases hl : rs.length ≤ 128
  case neg =>
    repeat ((conv => whnf); first | (refine VLoad.mk _ (Lm.at b1) ?_) | (refine VCmp.tt (by omega) ?_) | (refine VCmp.ff (by omega) ?_) | (refine VIn.mk (IntWalk.i64_in _ (by omega)) ?_) | (refine VIdx.mk _ rfl (by omega) ?_) | (refine VIdx.mk 0 rfl (by omega) ?_))
    try (conv => whnf)
    exact .mk ⟨by rw [fits_no (.inr (by rw [List.length_map]; exact hl))]; rfl, (hx _ b1).2.2.2.1⟩
  repeat ((conv => whnf); first | (refine VLoad.mk _ (Lm.at b1) ?_) | (refine VCmp.tt (by omega) ?_) | (refine VCmp.ff (by omega) ?_) | (refine VIn.mk (IntWalk.i64_in _ (by omega)) ?_) | (refine VIdx.mk _ rfl (by omega) ?_) | (refine VIdx.mk 0 rfl (by omega) ?_))
  try (conv => whnf)
  refine VLoop.mk Nat (fun k => [(0, .pointer (some ⟨b, 0, none⟩)), (3, .pointer (some ⟨w.heap.size, 0, none⟩)), (5, .int .i64 k)]) (fun k W => k ≤ rs.length ∧ okTo s.n (rs.map Dr.d) k ∧ Below wA.heap.size wA W) (fun k => rs.length - k) 0 ⟨rfl, rfl, rfl, trivial⟩ ⟨Nat.zero_le _, okTo_zero _ _, b1⟩ ?_
  rintro k wr ⟨hk, hok, br⟩
  by_cases hkl : k < rs.length
  case neg =>
    repeat ((conv => whnf); first | (refine VLoad.mk _ (Lm.at br) ?_) | (refine VCmp.tt (by omega) ?_) | (refine VCmp.ff (by omega) ?_) | (refine VIn.mk (IntWalk.i64_in _ (by omega)) ?_) | (refine VIdx.mk _ rfl (by omega) ?_) | (refine VIdx.mk 0 rfl (by omega) ?_))
    try (conv => whnf)
    have : k = rs.length := by omega
    subst this
    exact .mk ⟨by rw [fits_all hw (by rw [List.length_map]; exact hl) (by rw [List.length_map]; exact hok)]; rfl, (hx _ br).2.2.2.1⟩
  obtain ⟨bA, oR, rfl, hbA2, hrow⟩ := (hx _ br).1.row (by omega)
  have hrk : rs[k]? = some rs[k] := List.getElem?_eq_getElem hkl
  generalize rs[k] = r at hrk
  have hdk : (rs.map Dr.d)[k]? = some r.d := by rw [List.getElem?_map, hrk]; rfl
  have Lr : Ld Try.prog 113 bA (oR + k * 4) (Eq wr) (.agg (drA r)) := .of (load113 (fun j u hu => hrow k r hrk j u hu))
  repeat ((conv => whnf); first | (refine VLoad.mk _ Lr ?_) | (refine VLoad.mk _ (Lm.at br) ?_) | (refine VCmp.tt (by omega) ?_) | (refine VCmp.ff (by omega) ?_) | (refine VIn.mk (IntWalk.i64_in _ (by omega)) ?_) | (refine VIdx.mk _ rfl (by omega) ?_) | (refine VIdx.mk 0 rfl (by omega) ?_))
  try (conv => whnf)
  refine .mk _ run_zero113 ?_
  conv => whnf
  refine .mk fun x3 hx3 => ?_
  repeat ((conv => whnf); first | (refine VCmp.tt (by omega) ?_) | (refine VCmp.ff (by omega) ?_) | (refine VIn.mk (IntWalk.i64_in _ (by omega)) ?_) | (refine VIdx.mk _ rfl (by omega) ?_) | (refine VIdx.mk 0 rfl (by omega) ?_))
  try (conv => whnf)
  refine VStore.new hx3 (by kernel_rfl) rfl (one_drA r) fun x4 hx4 => ?_
  have b4 : Below wA.heap.size wA x4 := by rw [hx4.out]; exact br.alloc br.size _
  have r4 : x4.rangeAt wr.heap.size 0 (eDr r) := by rw [hx4.out]; exact range_new wr (drA r) 113
  have b5 : Below wA.heap.size wA x4.drew := b4.drew
  have r5 : x4.drew.rangeAt wr.heap.size 0 (eDr r) := range_same r4 rfl
  have d0 := Ld.of (load3 (r5 0 _ rfl))
  have d1 := Ld.of (load3 (r5 1 _ rfl))
  have d2 := Ld.of (load3 (r5 2 _ rfl))
  have d3 := Ld.of (load52 (r5 3 _ rfl))
  repeat ((conv => whnf); first | (refine VCmp.tt (by omega) ?_) | (refine VCmp.ff (by omega) ?_) | (refine VIn.mk (IntWalk.i64_in _ (by omega)) ?_) | (refine VIdx.mk _ rfl (by omega) ?_) | (refine VIdx.mk 0 rfl (by omega) ?_))
  try (conv => whnf)
  refine VDraw.mk 1000 [([0, 1, 2, 3, 4, 5, 6, 7, 8, 9, 10, 11, 12, 13, 14], 15)] [16, 17, 18, 19, 20, 21, 22, 23, 24, 25, 26, 27, 28, 29, 30, 31, 32, 33] (Eq x4.drew) (by kernel_rfl) (by kernel_rfl) (rfl) ?_
  by_cases hc : 0 ≤ r.d.s ∧ r.d.s < s.n
  case neg =>
    have hd : dtB s.n r.d = false := by unfold dtB; simp; omega
    repeat' (conv => whnf
             first
             | (refine VLoad.mk _ d0 ?_)
             | (refine VLoad.mk _ d1 ?_)
             | (refine VLoad.mk _ d2 ?_)
             | (refine VLoad.mk _ d3 ?_)
             | (refine VLoad.mk _ (Lk.at b5) ?_)
             | (refine VS.mk rfl ?_)
             | (refine VCmp.tt (by omega) ?_)
             | (refine VCmp.ff (by omega) ?_)
             | (refine VIn.mk (IntWalk.i64_in _ (by omega)) ?_)
             | (refine VIdx.mk _ rfl (by omega) ?_)
             | (refine VIdx.mk 0 rfl (by omega) ?_)
             | (refine VCmp.split (fun _ => ?_) (fun _ => ?_)))
    all_goals try (conv => whnf)
    all_goals exact .mk ⟨by rw [fits_bad hdk hd]; rfl, (hx _ b5).2.2.2.1⟩
  repeat ((conv => whnf); first | (refine VLoad.mk _ d0 ?_) | (refine VLoad.mk _ d1 ?_) | (refine VLoad.mk _ d2 ?_) | (refine VLoad.mk _ d3 ?_) | (refine VLoad.mk _ (Lk.at b5) ?_) | (refine VS.mk rfl ?_) | (refine VCmp.tt (by omega) ?_) | (refine VCmp.ff (by omega) ?_) | (refine VIn.mk (IntWalk.i64_in _ (by omega)) ?_) | (refine VIdx.mk _ rfl (by omega) ?_) | (refine VIdx.mk 0 rfl (by omega) ?_))
  try (conv => whnf)
  refine VCall.mk _ (count_any r.d.q x4.drew) ?_
  rintro _ x6 ⟨rfl, rfl⟩
  refine ⟨_, rfl, ?_⟩
  cases hcn : cntB r.d.q with
  | false =>
    have hd : dtB s.n r.d = false := by unfold dtB; unfold cntB at hcn; simp at hcn ⊢; omega
    repeat ((conv => whnf); first | (refine VLoad.mk _ d0 ?_) | (refine VLoad.mk _ d1 ?_) | (refine VLoad.mk _ d2 ?_) | (refine VLoad.mk _ d3 ?_) | (refine VLoad.mk _ (Lk.at b5) ?_) | (refine VS.mk rfl ?_) | (refine VCmp.tt (by omega) ?_) | (refine VCmp.ff (by omega) ?_) | (refine VIn.mk (IntWalk.i64_in _ (by omega)) ?_) | (refine VIdx.mk _ rfl (by omega) ?_) | (refine VIdx.mk 0 rfl (by omega) ?_))
    try (conv => whnf)
    exact .mk ⟨by rw [fits_bad hdk hd]; rfl, (hx _ b5).2.2.2.1⟩
  | true =>
  have hq := cnt_yes hcn
  cases hd : dtB s.n r.d with
  | false =>
    have hd' : ¬ (0 ≤ r.d.s ∧ r.d.s < s.n ∧ 1 ≤ r.d.q ∧ r.d.q ≤ 4611686018427387904 ∧ 0 ≤ r.d.b ∧ r.d.b ≤ 4611686018427387904 ∧ r.d.body.length ≤ 256) := by unfold dtB at hd; simpa using hd
    repeat' (conv => whnf
             first
             | (refine VLoad.mk _ d0 ?_)
             | (refine VLoad.mk _ d1 ?_)
             | (refine VLoad.mk _ d2 ?_)
             | (refine VLoad.mk _ d3 ?_)
             | (refine VLoad.mk _ (Lk.at b5) ?_)
             | (refine VS.mk rfl ?_)
             | (refine VCmp.tt (by omega) ?_)
             | (refine VCmp.ff (by omega) ?_)
             | (refine VIn.mk (IntWalk.i64_in _ (by omega)) ?_)
             | (refine VIdx.mk _ rfl (by omega) ?_)
             | (refine VIdx.mk 0 rfl (by omega) ?_)
             | (refine VCmp.split (fun _ => ?_) (fun _ => ?_)))
    all_goals try (conv => whnf)
    all_goals exact .mk ⟨by rw [fits_bad hdk hd]; rfl, (hx _ b5).2.2.2.1⟩
  | true =>
  have hd' : 0 ≤ r.d.s ∧ r.d.s < s.n ∧ 1 ≤ r.d.q ∧ r.d.q ≤ 4611686018427387904 ∧ 0 ≤ r.d.b ∧ r.d.b ≤ 4611686018427387904 ∧ r.d.body.length ≤ 256 := by unfold dtB at hd; simpa using hd
  repeat ((conv => whnf); first | (refine VLoad.mk _ d0 ?_) | (refine VLoad.mk _ d1 ?_) | (refine VLoad.mk _ d2 ?_) | (refine VLoad.mk _ d3 ?_) | (refine VLoad.mk _ (Lk.at b5) ?_) | (refine VS.mk rfl ?_) | (refine VCmp.tt (by omega) ?_) | (refine VCmp.ff (by omega) ?_) | (refine VIn.mk (IntWalk.i64_in _ (by omega)) ?_) | (refine VIdx.mk _ rfl (by omega) ?_) | (refine VIdx.mk 0 rfl (by omega) ?_))
  try (conv => whnf)
  have b6 : Below wA.heap.size wA x4.drew.drew := b5.drew
  have r6 : ∀ W, Below x4.heap.size x4 W → W.rangeAt wr.heap.size 0 (eDr r) := fun W hW => range_same r4 (hW.block _ (by rw [hx4.out]; simp))
  have z4 := b4.size
  have L8 : Ld Try.prog 113 wr.heap.size 0 (fun W => Below x4.heap.size x4 W) (.agg (drA r)) := ⟨fun W hW => load113 (r6 W hW)⟩
  have Lm8 : Ld Try.prog 40 w.heap.size 4 (fun W => Below x4.heap.size x4 W) (.slice (some ⟨bA, oR, none⟩) rs.length cA) := ⟨fun W hW => load40 ((hx W (b4.trans (hW.mono z4))).2.2.1 4 _ rfl)⟩
  refine VDraw.mk 1000 [([0, 1, 2, 3, 4, 5, 6, 7, 8, 9], 10)] [11, 12] (fun W => Below x4.heap.size x4 W) (by kernel_rfl) (by kernel_rfl) (((Below.refl _ _).drew).drew) ?_
  cases k with
  | zero =>
    repeat ((conv => whnf); first | (refine VS.mk ((Below.refl _ _).drew).drew ?_) | (refine VCmp.tt (by omega) ?_) | (refine VCmp.ff (by omega) ?_) | (refine VIn.mk (IntWalk.i64_in _ (by omega)) ?_) | (refine VIdx.mk _ rfl (by omega) ?_) | (refine VIdx.mk 0 rfl (by omega) ?_))
    try (conv => whnf)
    exact .mk 1 ⟨rfl, rfl, rfl, trivial⟩ ⟨by omega, okTo_succ hok hdk hd fun p h0 => by omega, b6⟩ (by omega)
  | succ k =>
  have hrp : rs[k]? = some rs[k] := List.getElem?_eq_getElem (by omega)
  generalize rs[k] = p at hrp
  have hdp : (rs.map Dr.d)[k]? = some p.d := by rw [List.getElem?_map, hrp]; rfl
  have Lq : Ld Try.prog 113 bA (oR + k * 4) (fun W => Below x4.heap.size x4 W) (.agg (drA p)) := ⟨fun W hW => by
    obtain ⟨b', o', e', _, hrow'⟩ := (hx W (b4.trans (hW.mono z4))).1.row (by omega)
    injection e' with e'; injection e' with e1 e2; subst e1; subst e2
    exact load113 (fun j u hu => hrow' k p hrp j u hu)⟩
  repeat ((conv => whnf); first | (refine VLoad.mk _ L8 ?_) | (refine VLoad.mk _ Lm8 ?_) | (refine VLoad.mk _ Lq ?_) | (refine VIdx.mk k (by omega) (by omega) ?_) | (refine VCmp.tt (by omega) ?_) | (refine VCmp.ff (by omega) ?_) | (refine VIn.mk (IntWalk.i64_in _ (by omega)) ?_) | (refine VIdx.mk _ rfl (by omega) ?_) | (refine VIdx.mk 0 rfl (by omega) ?_))
  try (conv => whnf)
  refine VCall.mk _ (ahead_any p r x4.drew.drew) ?_
  rintro _ x7 ⟨rfl, hb7⟩
  refine ⟨_, rfl, ?_⟩
  have c7 : Below x4.heap.size x4 x7 := ((Below.refl _ _).drew).drew.trans hb7
  have b7 : Below wA.heap.size wA x7 := b4.trans (c7.mono z4)
  cases ha : aheadB p.d r.d with
  | false =>
    repeat ((conv => whnf); first | (refine VS.mk c7 ?_) | (refine VCmp.tt (by omega) ?_) | (refine VCmp.ff (by omega) ?_) | (refine VIn.mk (IntWalk.i64_in _ (by omega)) ?_) | (refine VIdx.mk _ rfl (by omega) ?_) | (refine VIdx.mk 0 rfl (by omega) ?_))
    try (conv => whnf)
    exact .mk ⟨by rw [fits_bad2 hdp hdk ha]; rfl, (hx _ b7).2.2.2.1⟩
  | true =>
  repeat ((conv => whnf); first | (refine VS.mk c7 ?_) | (refine VCmp.tt (by omega) ?_) | (refine VCmp.ff (by omega) ?_) | (refine VIn.mk (IntWalk.i64_in _ (by omega)) ?_) | (refine VIdx.mk _ rfl (by omega) ?_) | (refine VIdx.mk 0 rfl (by omega) ?_))
  try (conv => whnf)
  exact .mk (k + 1 + 1) ⟨rfl, rfl, rfl, trivial⟩ ⟨by omega, okTo_succ hok hdk hd fun p' h0 hp' => by
    rw [show k + 1 - 1 = k by omega, hdp] at hp'
    injection hp' with hp'; subst hp'; exact ha, b7⟩ (by omega)
end Go.Proofs.Ytcffhfcjfjfokaa
namespace Go.Proofs.Ytcffhfcjfjfokaa
open Go.RowKit
def sameT (x d : Dt) : Prop := x.b = d.b ∧ (strOfNums x.body).toList = (strOfNums d.body).toList
open Classical in
noncomputable def addT (old l : List Dt) : List Dt → Option (List Dt)
  | [] => some l
  | d :: r => match old.find? (keyB d) with
    | some x => if sameT x d then addT old l r else none
    | none => addT old (ins d l) r
noncomputable def Sto.addS (s : Sto) (e l i c : Int) (ms : List Dt) : Int × Sto :=
  if fitsB s.n e l i c ms = false then (1, s)
  else if ¬ (e = s.ve ∧ l = s.vl ∧ i = s.vi ∧ c = s.vc) then (80, s)
  else match addT s.msgs s.msgs ms with
    | none => (82, s)
    | some r => if 128 < r.length then (42, s) else (0, { s with msgs := r })
structure AddI (s : Sto) (ds : List Dt) (k j : Nat) (al : List Dt) : Prop where
  hj : j ≤ s.msgs.length
  hal : ∀ d, ds[k]? = some d → ∀ x ∈ al, aheadB x d = true
  old : ∀ d, ds[k]? = some d → ∀ x ∈ s.msgs.take j, aheadB x d = true
  eq : addT s.msgs s.msgs ds = addT s.msgs (al ++ s.msgs.drop j) (ds.drop k)
  len : al.length ≤ j + k
theorem drop_cons' {α : Type} {l : List α} {k : Nat} {d : α} (h : l[k]? = some d) : l.drop k = d :: l.drop (k + 1) := by
  obtain ⟨hk, e⟩ := List.getElem?_eq_some_iff.1 h
  rw [List.drop_eq_getElem_cons hk, e]
theorem AddI.start (s : Sto) (ds : List Dt) : AddI s ds 0 0 [] := ⟨Nat.zero_le _, fun d _ x hx => (by cases hx), fun d _ x hx => (by simp at hx), by simp, Nat.zero_le _⟩
section
variable {s : Sto} {ds : List Dt} {k j : Nat} {al : List Dt} {d x : Dt}
theorem AddI.move (h : AddI s ds k j al) (hd : ds[k]? = some d) (hx : s.msgs[j]? = some x) (ha : aheadB x d = true) : AddI s ds k (j + 1) (al ++ [x]) := by
  have hj := (List.getElem?_eq_some_iff.1 hx).1
  refine ⟨by omega, fun d' hd' y hy => ?_, fun d' hd' y hy => ?_, ?_, by rw [List.length_append]; have := h.len; simp; omega⟩
  · rw [hd] at hd'; injection hd' with hd'; subst hd'
    rcases List.mem_append.1 hy with e | e
    · exact h.hal d hd y e
    · rw [List.mem_singleton.1 e]; exact ha
  · rw [hd] at hd'; injection hd' with hd'; subst hd'
    rw [List.take_add_one, hx] at hy
    rcases List.mem_append.1 hy with e | e
    · exact h.old d hd y e
    · simp at e; rw [e]; exact ha
  · rw [h.eq, drop_cons' hx, List.append_assoc]; rfl
theorem key_ahead (h : aheadB x d = true) : keyB d x = false := by unfold aheadB at h; unfold keyB; simp at *; omega
theorem key_behind (h : aheadB d x = true) : keyB d x = false := by unfold aheadB at h; unfold keyB; simp at *; omega
theorem key_of (h1 : aheadB x d = false) (h2 : aheadB d x = false) : keyB d x = true := by unfold aheadB at *; unfold keyB; simp at *; omega
theorem find_split {l : List Dt} (h : ∀ y ∈ l.take j, keyB d y = false) : l.find? (keyB d) = (l.drop j).find? (keyB d) := by
  conv => lhs; rw [← List.take_append_drop j l]
  rw [List.find?_append, List.find?_eq_none.2 (fun y hy => by rw [h y hy]; simp)]; rfl
theorem AddI.key (h : AddI s ds k j al) (hd : ds[k]? = some d) (hx : s.msgs[j]? = some x) (h1 : aheadB x d = false) (h2 : aheadB d x = false) : s.msgs.find? (keyB d) = some x := by
  rw [find_split (fun y hy => key_ahead (h.old d hd y hy)), drop_cons' hx, List.find?_cons, key_of h1 h2]
theorem AddI.fork (h : AddI s ds k j al) (hd : ds[k]? = some d) (hx : s.msgs[j]? = some x) (h1 : aheadB x d = false) (h2 : aheadB d x = false) (hn : ¬ sameT x d) : addT s.msgs s.msgs ds = none := by
  rw [h.eq, drop_cons' hd, addT, h.key hd hx h1 h2]
  simp only [if_neg hn]
theorem AddI.next (h : AddI s ds k j al) (hd : ds[k]? = some d) (hr : ∀ d', ds[k + 1]? = some d' → aheadB d d' = true) : (∀ d', ds[k + 1]? = some d' → ∀ y ∈ al, aheadB y d' = true) ∧ ∀ d', ds[k + 1]? = some d' → ∀ y ∈ s.msgs.take j, aheadB y d' = true :=
  ⟨fun d' hd' y hy => ahead_trans (h.hal d hd y hy) (hr d' hd'), fun d' hd' y hy => ahead_trans (h.old d hd y hy) (hr d' hd')⟩
theorem AddI.same (h : AddI s ds k j al) (hd : ds[k]? = some d) (hr : ∀ d', ds[k + 1]? = some d' → aheadB d d' = true) (hx : s.msgs[j]? = some x) (h1 : aheadB x d = false) (h2 : aheadB d x = false) (hn : sameT x d) : AddI s ds (k + 1) j al :=
  ⟨h.hj, (h.next hd hr).1, (h.next hd hr).2, by
    rw [h.eq, drop_cons' hd, addT, h.key hd hx h1 h2]
    simp only [if_pos hn], by have := h.len; omega⟩
theorem AddI.put (h : AddI s ds k j al) (hs : Sorted s.msgs) (hd : ds[k]? = some d) (hr : ∀ d', ds[k + 1]? = some d' → aheadB d d' = true) (hx : ∀ x, s.msgs[j]? = some x → aheadB d x = true) : AddI s ds (k + 1) j (al ++ [d]) := by
  have hb : ∀ y ∈ s.msgs.drop j, aheadB d y = true := fun y hy => by
    obtain ⟨i, hi⟩ := List.mem_iff_getElem?.1 hy
    rw [List.getElem?_drop] at hi
    have hl := (List.getElem?_eq_some_iff.1 hi).1
    have hxj : s.msgs[j]? = some s.msgs[j] := List.getElem?_eq_getElem (by omega)
    have h0 := hx _ hxj
    cases i with
    | zero =>
      rw [Nat.add_zero, hxj] at hi
      injection hi with hi; rw [← hi]; exact h0
    | succ i =>
      have := List.pairwise_iff_getElem.1 hs j (j + (i + 1)) (by omega) hl (by omega)
      rw [List.getElem?_eq_getElem hl] at hi
      injection hi with hi; rw [← hi]
      exact ahead_trans h0 this
  have hf : s.msgs.find? (keyB d) = none := by
    rw [find_split (fun y hy => key_ahead (h.old d hd y hy)), List.find?_eq_none]
    intro y hy
    rw [key_behind (hb y hy)]; simp
  refine ⟨h.hj, fun d' hd' y hy => ?_, (h.next hd hr).2, ?_, by rw [List.length_append]; have := h.len; simp; omega⟩
  · rcases List.mem_append.1 hy with e | e
    · exact (h.next hd hr).1 d' hd' y e
    · rw [List.mem_singleton.1 e]; exact hr d' hd'
  · rw [h.eq, drop_cons' hd, addT, hf]
    simp only
    rw [ins_split (h.hal d hd) (fun x e => hb x (List.mem_of_mem_head? e)), List.append_assoc]; rfl
theorem AddI.done (h : AddI s ds ds.length j al) : addT s.msgs s.msgs ds = some (al ++ s.msgs.drop j) := by
  rw [h.eq, List.drop_length, addT]
end
theorem fits_parts {n : Nat} {e l i c : Int} {ds : List Dt} (h : fitsB n e l i c ds = true) : wholeB e l i c = true ∧ ds.length ≤ 128 ∧ (∀ d ∈ ds, dtB n d = true) ∧ ∀ j p d, ds[j]? = some p → ds[j + 1]? = some d → aheadB p d = true := by
  unfold fitsB at h
  simp only [Bool.and_eq_true, decide_eq_true_eq, List.all_eq_true] at h
  exact ⟨h.1.1.1, h.1.1.2, h.1.2, rise_iff.1 h.2⟩
theorem addT_keeps {n : Nat} {old : List Dt} : ∀ {ds l r : List Dt}, Sorted l → (∀ x ∈ old, x ∈ l) → (∀ x ∈ l, dtB n x = true) → (∀ d ∈ ds, dtB n d = true) → (∀ d ∈ ds, ∀ x ∈ l, keyB d x = true → x ∈ old) → ds.Pairwise (fun a b => keyB a b = false ∧ keyB b a = false) → addT old l ds = some r → Sorted r ∧ ∀ x ∈ r, dtB n x = true
  | [], l, r, hs, _, hl, _, _, _, h => by
    rw [addT] at h; injection h with h; subst h; exact ⟨hs, hl⟩
  | d :: ds, l, r, hs, ho, hl, hd, hk, hp, h => by
    obtain ⟨p1, p2⟩ := List.pairwise_cons.1 hp
    rw [addT] at h
    split at h
    · split at h
      · exact addT_keeps hs ho hl (fun x hx => hd x (List.mem_cons_of_mem _ hx)) (fun a ha => hk a (List.mem_cons_of_mem _ ha)) p2 h
      · cases h
    · rename_i hf
      have hno : ∀ x ∈ l, keyB d x = false := fun x hx => by
        cases hb : keyB d x with
        | false => rfl
        | true =>
          have := hk d (List.mem_cons_self ..) x hx hb
          have := List.find?_eq_none.1 hf x this
          exact absurd hb this
      have hins : ∀ {x : Dt} {l : List Dt}, x ∈ l → x ∈ ins d l := by
        intro x l
        induction l with
        | nil => intro hx; cases hx
        | cons y l ih =>
          intro hx
          unfold ins
          split
          · exact List.mem_cons_of_mem _ hx
          · rcases List.mem_cons.1 hx with e | e
            · rw [e]; exact List.mem_cons_self ..
            · exact List.mem_cons_of_mem _ (ih e)
      refine addT_keeps (ins_sorted hs hno) (fun x hx => hins (ho x hx)) (fun x hx => ?_) (fun x hx => hd x (List.mem_cons_of_mem _ hx)) (fun a ha x hx hb => ?_) p2 h
      · rcases ins_mem hx with e | e
        · rw [e]; exact hd d (List.mem_cons_self ..)
        · exact hl x e
      · rcases ins_mem hx with e | e
        · subst e; rw [(p1 a ha).2] at hb; cases hb
        · exact hk a (List.mem_cons_of_mem _ ha) x e hb
theorem rise_pair {ds : List Dt} (h : ∀ j p d, ds[j]? = some p → ds[j + 1]? = some d → aheadB p d = true) : Sorted ds := by
  rw [Sorted, List.pairwise_iff_getElem]
  have key : ∀ m i (hi : i < ds.length) (hm : i + m + 1 < ds.length), aheadB ds[i] ds[i + m + 1] = true := by
    intro m
    induction m with
    | zero => intro i hi hm; exact h i _ _ (List.getElem?_eq_getElem hi) (List.getElem?_eq_getElem hm)
    | succ m ih =>
      intro i hi hm
      exact ahead_trans (ih i hi (by omega)) (h (i + m + 1) _ _ (List.getElem?_eq_getElem (by omega)) (List.getElem?_eq_getElem (by omega)))
  intro i k hi hk hik
  have := key (k - i - 1) i hi (by omega)
  simpa [show i + (k - i - 1) + 1 = k by omega] using this
theorem add_good {s : Sto} {e l i c : Int} {ds r : List Dt} (h : SInv s) (hf : fitsB s.n e l i c ds = true) (hr : addT s.msgs s.msgs ds = some r) (hl : r.length ≤ 128) : SInv { s with msgs := r } := by
  obtain ⟨_, _, hd, hrise⟩ := fits_parts hf
  have hp : ds.Pairwise (fun a b => keyB a b = false ∧ keyB b a = false) := (rise_pair hrise).imp fun hab => ⟨key_behind hab, key_ahead hab⟩
  have := addT_keeps h.sort (fun x hx => hx) h.each hd (fun d _ x hx _ => hx) hp hr
  exact ⟨h.n1, h.n2, h.len, h.kept, this.1, hl, this.2⟩
theorem add_eq {s : Sto} {e l i c : Int} {ds : List Dt} (hf : fitsB s.n e l i c ds = true) (hv : e = s.ve ∧ l = s.vl ∧ i = s.vi ∧ c = s.vc) : s.addS e l i c ds = match addT s.msgs s.msgs ds with
    | none => (82, s)
    | some r => if 128 < r.length then (42, s) else (0, { s with msgs := r }) := by
  unfold Sto.addS
  rw [if_neg (by rw [hf]; simp), if_neg (by simpa using hv)]
end Go.Proofs.Ytcffhfcjfjfokaa
