/- TakesF StepF HlK HlM, joined. -/
import Derived.Test.YtcffhfcjfjfokaaSu5
import Derived.Test.YtcffhfcjfjfokaaSu16
import Derived.Test.YtcffhfcjfjfokaaSu17
import Derived.Test.YtcffhfcjfjfokaaSu18
import Derived.Test.YtcffhfcjfjfokaaSu23
set_option linter.unusedVariables false
set_option linter.unusedSimpArgs false
namespace Go.Proofs.Ytcffhfcjfjfokaa
open Go Go.RowKit
set_option maxRecDepth 100000 in
theorem takesF_any {w : World} {F : List Nat} {b g b' g' : Nat} {s : Sto} {N : Nat} {o : Opx} (h : Two w F b g b' g' s) (hh : Hi N b g b' g') (hN : N ≤ w.heap.size) (ho : OpAt w N o) :
    Calls Try.prog 71 #[.pointer (some ⟨b, 0, none⟩), .pointer (some ⟨b', 0, none⟩), .agg (opA o)] w fun x w' => StPost w N F b g b' g' (s.take o.q o.inc o.f).2 x w' ∧ Fx [g, g'] w w' := by
  refine calls_vc tab_ok Try.func71 rfl ?_
  conv => whnf
  refine .mk fun wA hwA => ?_
  have hbA : Below w.heap.size w wA := by rw [hwA.out]; exact below_box1 _ _ _
  have zA : wA.heap.size = w.heap.size + 1 := by rw [hwA.out]; simp
  have oA : wA.rangeAt w.heap.size 0 (opA o).toList := by rw [hwA.out]; exact range_new w (opA o) 95
  clear hwA
  have hx : ∀ W, Below wA.heap.size wA W → W.rangeAt w.heap.size 0 (opA o).toList ∧ OpAt W N o := fun W hW =>
    ⟨range_same oA (hW.block w.heap.size (by omega)), (ho.below hbA hN).below hW (by omega)⟩
  have b0 : Below wA.heap.size wA wA := Below.refl _ _
  have Lf : Ld Try.prog 39 w.heap.size 3 (fun W => Below wA.heap.size wA W) (.agg (flc o.f.e o.f.l o.f.i o.f.c o.f.base o.fA o.f.slots.length o.fc o.fB o.f.have_.length o.fd)) := ⟨fun W hW => load39 (range_sub (n := 7) (hx W hW).1 3 rfl)⟩
  have Lq : Ld Try.prog 3 w.heap.size 1 (fun W => Below wA.heap.size wA W) (.int .i64 o.q) := ⟨fun W hW => load3 ((hx W hW).1 1 _ rfl)⟩
  have Li : Ld Try.prog 3 w.heap.size 2 (fun W => Below wA.heap.size wA W) (.int .i64 o.inc) := ⟨fun W hW => load3 ((hx W hW).1 2 _ rfl)⟩
  repeat ((conv => whnf); first | (refine VLoad.mk _ (Lf.at b0) ?_) | (refine VCmp.tt (by omega) ?_) | (refine VCmp.ff (by omega) ?_) | (refine VIn.mk (IntWalk.i64_in _ (by omega)) ?_) | (refine VIdx.mk _ rfl (by omega) ?_) | (refine VIdx.mk 0 rfl (by omega) ?_))
  try (conv => whnf)
  refine VCall.mk _ (twin_any o.f o.fA o.fB o.fc o.fd N wA (by omega) (hx _ b0).2.f (by have := ho.s1; omega) (by have := ho.s2; omega)) ?_
  rintro _ x1 ⟨t, htf, rfl, hto, b1⟩
  refine ⟨_, rfl, ?_⟩
  have zx1 := b1.size
  repeat ((conv => whnf); first | (refine VCmp.tt (by omega) ?_) | (refine VCmp.ff (by omega) ?_) | (refine VIn.mk (IntWalk.i64_in _ (by omega)) ?_) | (refine VIdx.mk _ rfl (by omega) ?_) | (refine VIdx.mk 0 rfl (by omega) ?_))
  try (conv => whnf)
  refine .mk _ run_zero57 ?_
  conv => whnf
  refine .mk fun x2 hx2 => ?_
  repeat ((conv => whnf); first | (refine VCmp.tt (by omega) ?_) | (refine VCmp.ff (by omega) ?_) | (refine VIn.mk (IntWalk.i64_in _ (by omega)) ?_) | (refine VIdx.mk _ rfl (by omega) ?_) | (refine VIdx.mk 0 rfl (by omega) ?_))
  try (conv => whnf)
  refine VStore.new (c' := (eTw t).toArray) hx2 (by kernel_rfl) rfl (twinA_one t) fun x3 hx3 => ?_
  have c3 : Below x1.heap.size x1 x3 := by rw [hx3.out]; exact (Below.refl _ _).alloc (Nat.le_refl _) _
  have z3 : x3.heap.size = x1.heap.size + 1 := by rw [hx3.out]; simp
  have r3 : x3.rangeAt x1.heap.size 0 (eTw t) := by rw [hx3.out]; exact range_new x1 (eTw t).toArray 57
  clear hx2 hx3 x2
  have Lt : Ld Try.prog 39 x1.heap.size 0 (Eq x3) (.agg (flTw t).toArray) := .of (load_agg (by kernel_rfl) (by kernel_rfl) (range_sub (n := 7) r3 0 rfl))
  repeat ((conv => whnf); first | (refine VLoad.mk _ Lt ?_) | (refine VCmp.tt (by omega) ?_) | (refine VCmp.ff (by omega) ?_) | (refine VIn.mk (IntWalk.i64_in _ (by omega)) ?_) | (refine VIdx.mk _ rfl (by omega) ?_) | (refine VIdx.mk 0 rfl (by omega) ?_))
  try (conv => whnf)
  refine .mk _ run_zero39 ?_
  conv => whnf
  refine .mk fun x4 hx4 => ?_
  repeat ((conv => whnf); first | (refine VCmp.tt (by omega) ?_) | (refine VCmp.ff (by omega) ?_) | (refine VIn.mk (IntWalk.i64_in _ (by omega)) ?_) | (refine VIdx.mk _ rfl (by omega) ?_) | (refine VIdx.mk 0 rfl (by omega) ?_))
  try (conv => whnf)
  refine VStore.new (c' := (flTw t).toArray) hx4 (by kernel_rfl) rfl (fl_one t) fun x5 hx5 => ?_
  have c5 : Below x3.heap.size x3 x5 := by rw [hx5.out]; exact (Below.refl _ _).alloc (Nat.le_refl _) _
  have z5 : x5.heap.size = x3.heap.size + 1 := by rw [hx5.out]; simp
  have r5 : x5.rangeAt x3.heap.size 0 (flTw t) := by rw [hx5.out]; exact range_new x3 (flTw t).toArray 39
  clear hx4 hx5 x4
  have b5 : Below wA.heap.size wA x5 := b1.trans ((c3.trans (c5.mono (by omega))).mono zx1)
  have r35 : x5.rangeAt x1.heap.size 0 (eTw t) := range_same r3 (c5.block _ (by omega))
  -- what holds from here on
  obtain ⟨ts, ts1, ts2⟩ := hto.thereS
  obtain ⟨th, th1, th2⟩ := hto.thereH
  have bw5 : Below w.heap.size w x5 := hbA.trans (b5.mono (by omega))
  have hF2 : ∀ y ∈ F ++ [t.g2, t.g4], y ∈ F ∨ w.heap.size ≤ y := fun y hy => by
    rcases List.mem_append.1 hy with e | e
    · exact .inl e
    · simp at e; rcases e with e | e <;> exact .inr (by omega)
  obtain ⟨f1, f2, f3, f4⟩ := h.bF
  have hi5 : ∀ y ∈ F ++ [t.g2, t.g4], y < x5.heap.size := fun y hy => by
    rcases List.mem_append.1 hy with e | e
    · have := h.hi y e; have := bw5.size; omega
    · simp at e; rcases e with e | e <;> omega
  have T5 : Two x5 (F ++ [t.g2, t.g4]) b g b' g' s := h.ext bw5 hF2 (fun y hy => List.mem_append.2 (.inl hy)) hi5
  have hto5 : TwOwn x5 w.heap.size t := by
    have c15 : Below x1.heap.size x1 x5 := c3.trans (c5.mono (by omega))
    exact ⟨(hto.s.keep c15 (fun q hq => (hto.s.lo q hq).2)).base (by omega), (hto.h.keep c15 (fun q hq => (hto.h.lo q hq).2)).base (by omega)⟩
  have hrt : FlRows x5 x5.heap.size t.f (some ⟨t.g2, 0, none⟩) t.c2 (some ⟨t.g4, 0, none⟩) t.c4 := hto5.rows
  have tw1 : w.heap.size ≤ t.g2 := by omega
  have tw2 : w.heap.size ≤ t.g4 := by omega
  clear hto ts th r3 c3 c5 zx1
  have hne2 : t.g2 ≠ b ∧ t.g2 ≠ g ∧ t.g2 ≠ b' ∧ t.g2 ≠ g' := by have := h.hi _ f1; have := h.hi _ f2; have := h.hi _ f3; have := h.hi _ f4; omega
  have hne4 : t.g4 ≠ b ∧ t.g4 ≠ g ∧ t.g4 ≠ b' ∧ t.g4 ≠ g' := by have := h.hi _ f1; have := h.hi _ f2; have := h.hi _ f3; have := h.hi _ f4; omega
  obtain ⟨tf, g2, c2, g4, c4⟩ := t
  dsimp only at htf
  subst htf
  dsimp only at *
  obtain ⟨k1, k2, k3, k4, P5⟩ := T5.p
  obtain ⟨l1, l2, l3, l4, D5⟩ := T5.d
  have Lt5 : Ld Try.prog 39 x3.heap.size 0 (Eq x5) (.agg (flTw ⟨o.f, g2, c2, g4, c4⟩).toArray) := .of (load_agg (by kernel_rfl) (by kernel_rfl) r5)
  repeat ((conv => whnf); first | (refine VLoad.mk _ (Lq.at b5) ?_) | (refine VLoad.mk _ (Li.at b5) ?_) | (refine VLoad.mk _ Lt5 ?_) | (refine VCmp.tt (by omega) ?_) | (refine VCmp.ff (by omega) ?_) | (refine VIn.mk (IntWalk.i64_in _ (by omega)) ?_) | (refine VIdx.mk _ rfl (by omega) ?_) | (refine VIdx.mk 0 rfl (by omega) ?_))
  try (conv => whnf)
  refine VCall.mk _ (take_any P5 o.q o.inc o.f (some ⟨g2, 0, none⟩) c2 (some ⟨g4, 0, none⟩) c4 x5.heap.size (Nat.le_refl _) hrt ho.s1 ho.s2) ?_
  rintro _ x6 ⟨rfl, ⟨k1', P6⟩, g6⟩
  refine ⟨_, rfl, ?_⟩
  obtain ⟨hve, hsn⟩ := take_same s o.q o.inc o.f
  have D6 := D5.spoil P5.gF h.n3 h.n4 g6
  have b56 : Below N x5 x6 := (Below.refl _ _).grown g6 (by omega) (by intro q hq; injection hq with hq; have := hh.h2; omega)
  have hgw := h.hi g f2
  have hgw' := h.hi g' f4
  have e6 : ∀ q, q < x5.heap.size → q ≠ g → x6.heap[q]? = x5.heap[q]? := fun q h1 h2 => g6.block q h1 (by intro e; injection e with e; exact h2 e)
  have o6 : x6.rangeAt w.heap.size 0 (opA o).toList := range_same (hx _ b5).1 (e6 _ (by omega) (by omega))
  have op6 : OpAt x6 N o := (hx _ b5).2.below b56 (Nat.le_refl _)
  have hd6 : x6.cell? ⟨b', 0, none⟩ = some (.int .i64 s.n) := by
    rw [World.cell?_of_block (a := ⟨b', 0, none⟩) (e6 b' (by have := h.hi b' f3; omega) h.n3.symm)]; exact T5.dn
  have Lf6 : Ld Try.prog 39 w.heap.size 3 (Eq x6) (.agg (flc o.f.e o.f.l o.f.i o.f.c o.f.base o.fA o.f.slots.length o.fc o.fB o.f.have_.length o.fd)) := .of (load39 (range_sub (n := 7) o6 3 rfl))
  have Lq6 : Ld Try.prog 3 w.heap.size 1 (Eq x6) (.int .i64 o.q) := .of (load3 (o6 1 _ rfl))
  have Li6 : Ld Try.prog 3 w.heap.size 2 (Eq x6) (.int .i64 o.inc) := .of (load3 (o6 2 _ rfl))
  have z6 := g6.size
  repeat ((conv => whnf); first | (refine VLoad.mk _ Lf6 ?_) | (refine VLoad.mk _ Lq6 ?_) | (refine VLoad.mk _ Li6 ?_) | (refine VCmp.tt (by omega) ?_) | (refine VCmp.ff (by omega) ?_) | (refine VIn.mk (IntWalk.i64_in _ (by omega)) ?_) | (refine VIdx.mk _ rfl (by omega) ?_) | (refine VIdx.mk 0 rfl (by omega) ?_))
  try (conv => whnf)
  refine VCall.mk _ (rtake_any D6 hd6 o.q o.inc o.f o.fA o.fc o.fB o.fd N (by omega) op6.f ho.s1 ho.s2) ?_
  rintro _ x7 ⟨rfl, ⟨l1', D7⟩, g7⟩
  refine ⟨_, rfl, ?_⟩
  have z7 := g7.size
  have e7 : ∀ q, q < x5.heap.size → q ≠ g → q ≠ g' → x7.heap[q]? = x5.heap[q]? := fun q h1 h2 h3 => (g7.block q (by omega) (by intro e; injection e with e; exact h3 e)).trans (e6 q h1 h2)
  have P7 := P6.spoil D6.gF (by intro e; exact h.n2 e.symm) (by intro e; exact h.n4 e.symm) g7
  have bN7 : Below N w x7 := ((bw5.mono hN).trans b56).grown g7 (by omega) (by intro q hq; injection hq with hq; have := hh.h4; omega)
  have T7 : Two x7 (F ++ [g2, g4]) b g b' g' (s.take o.q o.inc o.f).2 := by
    obtain ⟨bg, q1, q2⟩ := T5.pb
    refine ⟨⟨_, _, _, _, P7⟩, ⟨_, _, _, _, D7⟩, ⟨bg, ?_, by rw [hve]; exact q2⟩, ?_, h.n1, h.n2, h.n3, h.n4⟩
    · rw [World.cell?_of_block (a := ⟨b, 5, none⟩) (e7 b (by have := h.hi b f1; omega) (fun e => P5.bg e) h.n2)]; exact q1
    · rw [World.cell?_of_block (a := ⟨b', 0, none⟩) (e7 b' (by have := h.hi b' f3; omega) h.n3.symm (fun e => D5.bg e)), hsn]; exact T5.dn
  have o7 : x7.rangeAt w.heap.size 0 (opA o).toList := range_same (hx _ b5).1 (e7 _ (by omega) (by omega) (by omega))
  have op7 : OpAt x7 N o := ho.below bN7 (Nat.le_refl _)
  have r17 : x7.rangeAt x1.heap.size 0 (eTw ⟨o.f, g2, c2, g4, c4⟩) := range_same r35 (e7 _ (by omega) (by omega) (by omega))
  have r37 : x7.rangeAt x3.heap.size 0 (flTw ⟨o.f, g2, c2, g4, c4⟩) := range_same r5 (e7 _ (by omega) (by omega) (by omega))
  have hto7 : TwOwn x7 w.heap.size ⟨o.f, g2, c2, g4, c4⟩ := ⟨hto5.s.same (fun q hq => by injection hq with hq; subst hq; exact e7 g2 (by omega) hne2.2.1 hne2.2.2.2), hto5.h.same (fun q hq => by injection hq with hq; subst hq; exact e7 g4 (by omega) hne4.2.1 hne4.2.2.2)⟩
  have Lf7 : Ld Try.prog 39 w.heap.size 3 (Eq x7) (.agg (flc o.f.e o.f.l o.f.i o.f.c o.f.base o.fA o.f.slots.length o.fc o.fB o.f.have_.length o.fd)) := .of (load39 (range_sub (n := 7) o7 3 rfl))
  have Lt7 : Ld Try.prog 57 x1.heap.size 0 (Eq x7) (.agg (eTw ⟨o.f, g2, c2, g4, c4⟩).toArray) := .of (load_agg (by kernel_rfl) (by kernel_rfl) r17)
  clear e6 o6 op6 hd6 Lf6 Lq6 Li6 P5 P6 D5 D6 P7 D7 Lt5 r5 r35 b56 T5 hrt
  repeat ((conv => whnf); first | (refine VCmp.tt (by omega) ?_) | (refine VCmp.ff (by omega) ?_) | (refine VIn.mk (IntWalk.i64_in _ (by omega)) ?_) | (refine VIdx.mk _ rfl (by omega) ?_) | (refine VIdx.mk 0 rfl (by omega) ?_))
  try (conv => whnf)
  refine VCall.mk _ (num_any (s.take o.q o.inc o.f).1 x7) ?_
  rintro _ _ ⟨rfl, rfl⟩
  refine ⟨_, rfl, ?_⟩
  have hL := hto7.s.len
  have hL2 := hto7.h.len
  rw [List.length_append] at hL hL2
  repeat ((conv => whnf); first | (refine VLoad.mk _ Lf7 ?_) | (refine VLoad.mk _ Lt7 ?_) | (refine VCmp.tt (by omega) ?_) | (refine VCmp.ff (by omega) ?_) | (refine VIn.mk (IntWalk.i64_in _ (by omega)) ?_) | (refine VIdx.mk _ rfl (by omega) ?_) | (refine VIdx.mk 0 rfl (by omega) ?_))
  try (conv => whnf)
  refine VCall.mk _ (untouched_yes o.f o.f g2 g4 c2 c4 x7.heap.size o.fA o.fB o.fc o.fd x7 (Nat.le_refl _) (hto7.s.row len_eSlot) (hto7.h.row len_eInt) (by simpa using hL.1) hL.2 (by simpa using hL2.1) hL2.2 (op7.f.more (by have := bN7.size; omega)) rfl) ?_
  rintro _ x8 ⟨rfl, b8⟩
  refine ⟨_, rfl, ?_⟩
  have f7 : Fx [g, g'] w x7 := ((Fx.below (S := [g, g']) bw5).trans (Fx.grown (S := [g]) g6 fun q hq => by injection hq with hq; subst hq; exact List.mem_singleton.2 rfl) fun q hq => .inl (by obtain rfl := List.mem_singleton.1 hq; exact List.mem_cons_self ..)).trans (Fx.grown (S := [g']) g7 fun q hq => by injection hq with hq; subst hq; exact List.mem_singleton.2 rfl) fun q hq => .inl (by obtain rfl := List.mem_singleton.1 hq; exact List.mem_cons_of_mem _ (List.mem_singleton.2 rfl))
  have f8 : Fx [g, g'] w x8 := f7.trans (.below (S := []) b8) fun q hq => (by cases hq)
  have T8 := T7.below b8
  have bN8 : Below N w x8 := bN7.trans (b8.mono (by have := bN7.size; omega))
  have r8 : x8.rangeAt x3.heap.size 0 (flTw ⟨o.f, g2, c2, g4, c4⟩) := range_same r37 (b8.block _ (by omega))
  have t28 : x8.there g2 0 (o.f.slots.length * 2) := there_same hto7.thereS.1 (b8.block _ (by omega))
  have t48 : x8.there g4 0 o.f.have_.length := there_same hto7.thereH.1 (b8.block _ (by omega))
  have z8 := b8.size
  have m2 : g2 ∈ F ++ [g2, g4] := by simp
  have m4 : g4 ∈ F ++ [g2, g4] := by simp
  have hs1 := ho.s1
  have hs2 := ho.s2
  repeat ((conv => whnf); first | (refine VCmp.tt (by omega) ?_) | (refine VCmp.ff (by omega) ?_) | (refine VIn.mk (IntWalk.i64_in _ (by omega)) ?_) | (refine VIdx.mk _ rfl (by omega) ?_) | (refine VIdx.mk 0 rfl (by omega) ?_))
  try (conv => whnf)
  refine VLoop.mk Nat (fun k => [(8, .pointer (some ⟨x3.heap.size, 0, none⟩)), (11, .bool true), (12, .int .i64 k)]) (fun k W => k ≤ o.f.slots.length ∧ Two W (F ++ [g2, g4]) b g b' g' (s.take o.q o.inc o.f).2 ∧ Below N w W ∧ W.rangeAt x3.heap.size 0 (flTw ⟨o.f, g2, c2, g4, c4⟩) ∧ W.there g2 0 (o.f.slots.length * 2) ∧ W.there g4 0 o.f.have_.length ∧ x3.heap.size < W.heap.size ∧ Fx [g, g'] w W) (fun k => o.f.slots.length - k) 0 ⟨rfl, rfl, rfl, trivial⟩ ⟨Nat.zero_le _, T8, bN8, r8, t28, t48, by omega, f8⟩ ?_
  clear T8 bN8 r8 t28 t48 T7 bN7 r37 r17
  rintro k wr ⟨hk, Tk, bk, rk, t2k, t4k, zk, fk⟩
  have Ls : Ld Try.prog 36 x3.heap.size 5 (Eq wr) (.slice (some ⟨g2, 0, none⟩) o.f.slots.length c2) := Ld.of (load36 (rk 5 _ rfl))
  by_cases hkl : k < o.f.slots.length
  case pos =>
    repeat ((conv => whnf); first | (refine VLoad.mk _ Ls ?_) | (refine VCmp.tt (by omega) ?_) | (refine VCmp.ff (by omega) ?_) | (refine VIn.mk (IntWalk.i64_in _ (by omega)) ?_) | (refine VIdx.mk _ rfl (by omega) ?_) | (refine VIdx.mk 0 rfl (by omega) ?_))
    try (conv => whnf)
    refine VBuild.mk _ (fun W => build66' W 1 (77 + k)) ?_
    repeat ((conv => whnf); first | (refine VLoad.mk _ Ls ?_) | (refine VCmp.tt (by omega) ?_) | (refine VCmp.ff (by omega) ?_) | (refine VIn.mk (IntWalk.i64_in _ (by omega)) ?_) | (refine VIdx.mk _ rfl (by omega) ?_) | (refine VIdx.mk 0 rfl (by omega) ?_))
    try (conv => whnf)
    refine VStore.mid (c := #[.int .i64 1, .int .i64 (77 + k)]) (by rw [Nat.zero_add]; exact World.there.at t2k (by show k * 2 + 2 ≤ _; omega)) (by kernel_rfl) (one2 1 _) fun w2 hw2 => ?_
    have hg2 : wr.grownBy w2 (some g2) := by rw [hw2.out]; exact grown_sets _ _ _ _
    have hne : x3.heap.size ≠ g2 := by omega
    repeat ((conv => whnf); first | (refine VCmp.tt (by omega) ?_) | (refine VCmp.ff (by omega) ?_) | (refine VIn.mk (IntWalk.i64_in _ (by omega)) ?_) | (refine VIdx.mk _ rfl (by omega) ?_) | (refine VIdx.mk 0 rfl (by omega) ?_))
    try (conv => whnf)
    exact .mk (k + 1) ⟨rfl, rfl, rfl, trivial⟩ ⟨hkl, Tk.spoil m2 hne2.1 hne2.2.1 hne2.2.2.1 hne2.2.2.2 hg2, bk.grown hg2 (by have := bk.size; omega) (by intro q hq; injection hq with hq; omega), range_same rk (hg2.block _ zk (by intro e; injection e with e; exact hne e)), by rw [hw2.out]; exact World.there_setCells t2k _ _ _, by rw [hw2.out]; exact World.there_setCells t4k _ _ _, by have := hg2.size; omega, fk.trans (.grown (S := [g2]) hg2 fun q hq => by injection hq with hq; subst hq; exact List.mem_singleton.2 rfl) fun q hq => .inr (by obtain rfl := List.mem_singleton.1 hq; omega)⟩ (by omega)
  case neg =>
    repeat ((conv => whnf); first | (refine VLoad.mk _ Ls ?_) | (refine VCmp.tt (by omega) ?_) | (refine VCmp.ff (by omega) ?_) | (refine VIn.mk (IntWalk.i64_in _ (by omega)) ?_) | (refine VIdx.mk _ rfl (by omega) ?_) | (refine VIdx.mk 0 rfl (by omega) ?_))
    try (conv => whnf)
    refine VLoop.mk Nat (fun k => [(8, .pointer (some ⟨x3.heap.size, 0, none⟩)), (11, .bool true), (13, .int .i64 k)]) (fun k W => k ≤ o.f.have_.length ∧ Two W (F ++ [g2, g4]) b g b' g' (s.take o.q o.inc o.f).2 ∧ Below N w W ∧ W.rangeAt x3.heap.size 0 (flTw ⟨o.f, g2, c2, g4, c4⟩) ∧ W.there g4 0 o.f.have_.length ∧ x3.heap.size < W.heap.size ∧ Fx [g, g'] w W) (fun k => o.f.have_.length - k) 0 ⟨rfl, rfl, rfl, trivial⟩ ⟨Nat.zero_le _, Tk, bk, rk, t4k, zk, fk⟩ ?_
    clear Tk bk rk t2k t4k zk Ls fk
    rintro j wi ⟨hj, Tk, bk, rk, t4k, zk, fk⟩
    have Lh : Ld Try.prog 37 x3.heap.size 6 (Eq wi) (.slice (some ⟨g4, 0, none⟩) o.f.have_.length c4) := Ld.of (load37 (rk 6 _ rfl))
    by_cases hjl : j < o.f.have_.length
    case pos =>
      repeat ((conv => whnf); first | (refine VLoad.mk _ Lh ?_) | (refine VCmp.tt (by omega) ?_) | (refine VCmp.ff (by omega) ?_) | (refine VIn.mk (IntWalk.i64_in _ (by omega)) ?_) | (refine VIdx.mk _ rfl (by omega) ?_) | (refine VIdx.mk 0 rfl (by omega) ?_))
      try (conv => whnf)
      refine VStore.cell (by kernel_rfl) (t4k j hjl).1 (t4k j hjl).2 rfl rfl fun w2 hw2 => ?_
      have hg2 : wi.grownBy w2 (some g4) := by rw [hw2.out]; exact grown_cell _ _ _ _
      have hne : x3.heap.size ≠ g4 := by omega
      repeat ((conv => whnf); first | (refine VCmp.tt (by omega) ?_) | (refine VCmp.ff (by omega) ?_) | (refine VIn.mk (IntWalk.i64_in _ (by omega)) ?_) | (refine VIdx.mk _ rfl (by omega) ?_) | (refine VIdx.mk 0 rfl (by omega) ?_))
      try (conv => whnf)
      exact .mk (j + 1) ⟨rfl, rfl, rfl, trivial⟩ ⟨hjl, Tk.spoil m4 hne4.1 hne4.2.1 hne4.2.2.1 hne4.2.2.2 hg2, bk.grown hg2 (by have := bk.size; omega) (by intro q hq; injection hq with hq; omega), range_same rk (hg2.block _ zk (by intro e; injection e with e; exact hne e)), by rw [hw2.out]; exact there_set t4k _ _, by have := hg2.size; omega, fk.trans (.grown (S := [g4]) hg2 fun q hq => by injection hq with hq; subst hq; exact List.mem_singleton.2 rfl) fun q hq => .inr (by obtain rfl := List.mem_singleton.1 hq; omega)⟩ (by omega)
    case neg =>
      repeat ((conv => whnf); first | (refine VLoad.mk _ Lh ?_) | (refine VCmp.tt (by omega) ?_) | (refine VCmp.ff (by omega) ?_) | (refine VIn.mk (IntWalk.i64_in _ (by omega)) ?_) | (refine VIdx.mk _ rfl (by omega) ?_) | (refine VIdx.mk 0 rfl (by omega) ?_))
      try (conv => whnf)
      exact .mk ⟨⟨rfl, Tk.less (fun y hy => List.mem_append.2 (.inl hy)) f1 f2 f3 f4, bk⟩, fk⟩
end Go.Proofs.Ytcffhfcjfjfokaa
namespace Go.Proofs.Ytcffhfcjfjfokaa
open Go Go.RowKit
set_option maxRecDepth 100000 in
theorem stepF_any {w : World} {F : List Nat} {b g b' g' : Nat} {s : Sto} {N : Nat} {o : Opx} (h : Two w F b g b' g' s) (hh : Hi N b g b' g') (hN : N ≤ w.heap.size) (ho : OpAt w N o) (h5 : o.kd ≠ 5) (h6 : o.kd ≠ 6) :
    Calls Try.prog 44 #[.pointer (some ⟨b, 0, none⟩), .pointer (some ⟨b', 0, none⟩), .agg (opA o)] w fun x w' => x = .returned (.bool true) ∧ Two w' F b g b' g' (s.step o) ∧ Fx [b, g, b', g'] w w' := by
  refine calls_vc tab_ok Try.func44 rfl ?_
  conv => whnf
  refine .mk fun wA hwA => ?_
  have hbA : Below w.heap.size w wA := by rw [hwA.out]; exact below_box1 _ _ _
  have zA : wA.heap.size = w.heap.size + 1 := by rw [hwA.out]; simp
  have oA : wA.rangeAt w.heap.size 0 (opA o).toList := by rw [hwA.out]; exact range_new w (opA o) 95
  clear hwA
  have hx : ∀ W, Below wA.heap.size wA W → W.rangeAt w.heap.size 0 (opA o).toList ∧ OpAt W N o ∧ Below w.heap.size w W := fun W hW =>
    ⟨range_same oA (hW.block w.heap.size (by omega)), (ho.below hbA hN).below hW (by omega), hbA.trans (hW.mono (by omega))⟩
  have b0 : Below wA.heap.size wA wA := Below.refl _ _
  have Lk : Ld Try.prog 3 w.heap.size 0 (fun W => Below wA.heap.size wA W) (.int .i64 o.kd) := ⟨fun W hW => load3 ((hx W hW).1 0 _ rfl)⟩
  have Lp : Ld Try.prog 35 w.heap.size 10 (fun W => Below wA.heap.size wA W) (.agg #[.int .i64 o.e, .int .i64 o.l, .int .i64 o.i, .int .i64 o.c]) := ⟨fun W hW => load35 (range_sub (n := 4) (hx W hW).1 10 rfl)⟩
  have Lw : Ld Try.prog 93 w.heap.size 14 (fun W => Below wA.heap.size wA W) (.slice o.wA o.who.length o.wc) := ⟨fun W hW => load_cell (by kernel_rfl) ((hx W hW).1 14 _ rfl)⟩
  have Lo : Ld Try.prog 95 w.heap.size 0 (Eq wA) (.agg (opA o)) := .of (load_agg (by kernel_rfl) (by kernel_rfl) oA)
  have hA := h.below hbA
  have hoA := (hx _ b0).2.1
  have hst : ∀ n : Int, o.kd = n → n ≠ 1 → n ≠ 4 → n ≠ 5 → s.step o = s := fun n e h1 h4 h5 => by
    unfold Sto.step; rw [if_neg (by omega), if_neg (by omega), if_neg (by omega)]
  obtain ⟨f1, f2, f3, f4⟩ := h.bF
  have done : ∀ W', s.step o = s → Below wA.heap.size wA W' → (Ending.returned (.bool true)) = .returned (.bool true) ∧ Two W' F b g b' g' (s.step o) ∧ Fx [b, g, b', g'] w W' := fun W' e hb => by
    rw [e]; exact ⟨rfl, h.below (hx _ hb).2.2, .below (hx _ hb).2.2⟩
  by_cases h1 : o.kd = 1
  · repeat ((conv => whnf); first | (refine VLoad.mk _ (Lk.at b0) ?_) | (refine VLoad.mk _ Lo ?_) | (refine VCmp.tt (by omega) ?_) | (refine VCmp.ff (by omega) ?_) | (refine VIn.mk (IntWalk.i64_in _ (by omega)) ?_) | (refine VIdx.mk _ rfl (by omega) ?_) | (refine VIdx.mk 0 rfl (by omega) ?_))
    try (conv => whnf)
    refine VCall.mk _ (takesF_any hA hh (by omega) hoA) ?_
    rintro _ x1 ⟨⟨rfl, T, _⟩, ff⟩
    refine ⟨_, rfl, ?_⟩
    repeat ((conv => whnf); first | (refine VCmp.tt (by omega) ?_) | (refine VCmp.ff (by omega) ?_) | (refine VIn.mk (IntWalk.i64_in _ (by omega)) ?_) | (refine VIdx.mk _ rfl (by omega) ?_) | (refine VIdx.mk 0 rfl (by omega) ?_))
    try (conv => whnf)
    exact .mk ⟨rfl, by unfold Sto.step; rw [if_pos h1]; exact T, (Fx.below hbA).trans ff fun q hq => .inl (by simp at hq ⊢; rcases hq with rfl | rfl <;> simp)⟩
  by_cases h2 : o.kd = 2
  · have bd : Below wA.heap.size wA wA.drew := b0.drew
    obtain ⟨k1, k2, k3, k4, P⟩ := (hA.below b0.drew).p
    repeat ((conv => whnf); first | (refine VLoad.mk _ (Lk.at b0) ?_) | (refine VCmp.tt (by omega) ?_) | (refine VCmp.ff (by omega) ?_) | (refine VIn.mk (IntWalk.i64_in _ (by omega)) ?_) | (refine VIdx.mk _ rfl (by omega) ?_) | (refine VIdx.mk 0 rfl (by omega) ?_))
    try (conv => whnf)
    refine VDraw.mk 1000 [([0, 1, 2, 3, 4, 6, 7, 8, 9, 10], 5), ([], 11), ([], 12)] [13] (fun W => Below wA.heap.size wA W) (by kernel_rfl) (by kernel_rfl) (bd) ?_
    repeat ((conv => whnf); first | (refine VLoad.mk _ Lp ?_) | (refine VLoad.mk _ Lw ?_) | (refine VCmp.tt (by omega) ?_) | (refine VCmp.ff (by omega) ?_) | (refine VIn.mk (IntWalk.i64_in _ (by omega)) ?_) | (refine VIdx.mk _ rfl (by omega) ?_) | (refine VIdx.mk 0 rfl (by omega) ?_))
    try (conv => whnf)
    refine VCall.mk _ (missing_any P o.e o.l o.i o.c o.wA o.wc N o.who (by show N ≤ wA.heap.size; omega) (hx _ bd).2.1.who ho.s3) ?_
    rintro _ x1 ⟨B, c, rfl, own1, b1⟩
    refine ⟨_, rfl, ?_⟩
    have c1 : Below wA.heap.size wA x1 := bd.trans b1
    have T1 := hA.below c1
    obtain ⟨l1, l2, l3, l4, D⟩ := T1.d
    repeat ((conv => whnf); first | (refine VS.mk c1 ?_) | (refine VCmp.tt (by omega) ?_) | (refine VCmp.ff (by omega) ?_) | (refine VIn.mk (IntWalk.i64_in _ (by omega)) ?_) | (refine VIdx.mk _ rfl (by omega) ?_) | (refine VIdx.mk 0 rfl (by omega) ?_))
    try (conv => whnf)
    refine VCall.mk _ (rmissing_any D T1.dn o.e o.l o.i o.c o.wA o.wc N o.who (by have := c1.size; omega) (hx _ c1).2.1.who ho.s3) ?_
    rintro _ x2 ⟨B2, c2, rfl, own2, b2⟩
    refine ⟨_, rfl, ?_⟩
    have c2' : Below wA.heap.size wA x2 := c1.trans (b2.mono c1.size)
    have hs3 := ho.s3
    have hml : (s.missing o.e o.l o.i o.c o.who).length ≤ o.who.length := by unfold Sto.missing; rw [List.length_map]; exact List.length_filter_le _ _
    repeat ((conv => whnf); first | (refine VS.mk c2' ?_) | (refine VCmp.tt (by omega) ?_) | (refine VCmp.ff (by omega) ?_) | (refine VIn.mk (IntWalk.i64_in _ (by omega)) ?_) | (refine VIdx.mk _ rfl (by omega) ?_) | (refine VIdx.mk 0 rfl (by omega) ?_))
    try (conv => whnf)
    refine VCall.mk _ (sameInts_yes B B2 c c2 x2.heap.size _ x2 (Nat.le_refl _) ((own1.keep b2 (fun q hq => (own1.lo q hq).2)).row len_eInt) (own2.row len_eInt) (by omega)) ?_
    rintro _ x3 ⟨rfl, b3⟩
    refine ⟨_, rfl, ?_⟩
    have c3 : Below wA.heap.size wA x3 := c2'.trans (b3.mono c2'.size)
    repeat ((conv => whnf); first | (refine VS.mk c3 ?_) | (refine VCmp.tt (by omega) ?_) | (refine VCmp.ff (by omega) ?_) | (refine VIn.mk (IntWalk.i64_in _ (by omega)) ?_) | (refine VIdx.mk _ rfl (by omega) ?_) | (refine VIdx.mk 0 rfl (by omega) ?_))
    try (conv => whnf)
    exact .mk (done _ (hst 2 h2 (by omega) (by omega) (by omega)) c3)
  by_cases h3 : o.kd = 3
  · repeat ((conv => whnf); first | (refine VLoad.mk _ (Lk.at b0) ?_) | (refine VLoad.mk _ Lo ?_) | (refine VCmp.tt (by omega) ?_) | (refine VCmp.ff (by omega) ?_) | (refine VIn.mk (IntWalk.i64_in _ (by omega)) ?_) | (refine VIdx.mk _ rfl (by omega) ?_) | (refine VIdx.mk 0 rfl (by omega) ?_))
    try (conv => whnf)
    refine VCall.mk _ (gives_any hA (by omega) hoA) ?_
    rintro _ x1 ⟨rfl, bb⟩
    refine ⟨_, rfl, ?_⟩
    repeat ((conv => whnf); first | (refine VCmp.tt (by omega) ?_) | (refine VCmp.ff (by omega) ?_) | (refine VIn.mk (IntWalk.i64_in _ (by omega)) ?_) | (refine VIdx.mk _ rfl (by omega) ?_) | (refine VIdx.mk 0 rfl (by omega) ?_))
    try (conv => whnf)
    exact .mk (done _ (hst 3 h3 (by omega) (by omega) (by omega)) bb)
  by_cases h4 : o.kd = 4
  · obtain ⟨k1, k2, k3, k4, P⟩ := hA.p
    obtain ⟨l1, l2, l3, l4, D⟩ := hA.d
    obtain ⟨bg, q1, q2⟩ := hA.pb
    repeat ((conv => whnf); first | (refine VLoad.mk _ (Lk.at b0) ?_) | (refine VLoad.mk _ (Lp.at b0) ?_) | (refine VCmp.tt (by omega) ?_) | (refine VCmp.ff (by omega) ?_) | (refine VIn.mk (IntWalk.i64_in _ (by omega)) ?_) | (refine VIdx.mk _ rfl (by omega) ?_) | (refine VIdx.mk 0 rfl (by omega) ?_))
    try (conv => whnf)
    refine VCall.mk _ (begin_any P q1 o.e o.l o.i o.c) ?_
    rintro _ x1 ⟨rfl, P1, q3, g1⟩
    refine ⟨_, rfl, ?_⟩
    have e1 : ∀ q, q < wA.heap.size → q ≠ b → x1.heap[q]? = wA.heap[q]? := fun q h1 h2 => g1.block q h1 (by intro e; injection e with e; exact h2 e)
    have D1 := D.spoil P.bF h.n1 h.n2 g1
    have r1 : x1.rangeAt w.heap.size 0 (opA o).toList := range_same oA (e1 _ (by omega) (by have := h.hi b f1; omega))
    have Lp1 : Ld Try.prog 35 w.heap.size 10 (Eq x1) (.agg #[.int .i64 o.e, .int .i64 o.l, .int .i64 o.i, .int .i64 o.c]) := .of (load35 (range_sub (n := 4) r1 10 rfl))
    have d0 : x1.cell? ⟨b', 0, none⟩ = some (.int .i64 s.n) := by
      rw [World.cell?_of_block (a := ⟨b', 0, none⟩) (e1 b' (by have := h.hi b' f3; omega) h.n1.symm)]; exact hA.dn
    repeat ((conv => whnf); first | (refine VLoad.mk _ Lp1 ?_) | (refine VCmp.tt (by omega) ?_) | (refine VCmp.ff (by omega) ?_) | (refine VIn.mk (IntWalk.i64_in _ (by omega)) ?_) | (refine VIdx.mk _ rfl (by omega) ?_) | (refine VIdx.mk 0 rfl (by omega) ?_))
    try (conv => whnf)
    refine VCall.mk _ (rbegin_any D1 d0 o.e o.l o.i o.c) ?_
    rintro _ x2 ⟨rfl, D2, q4, g2⟩
    refine ⟨_, rfl, ?_⟩
    have P2 := P1.spoil D1.bF (by intro e; exact h.n1 e.symm) (by intro e; exact h.n3 e.symm) g2
    have z1 := g1.size
    repeat ((conv => whnf); first | (refine VCmp.tt (by omega) ?_) | (refine VCmp.ff (by omega) ?_) | (refine VIn.mk (IntWalk.i64_in _ (by omega)) ?_) | (refine VIdx.mk _ rfl (by omega) ?_) | (refine VIdx.mk 0 rfl (by omega) ?_))
    try (conv => whnf)
    refine .mk ⟨rfl, ?_, ((Fx.below (S := [b, g, b', g']) hbA).trans (.grown (S := [b]) g1 fun q hq => by injection hq with hq; subst hq; exact List.mem_singleton.2 rfl) fun q hq => .inl (by obtain rfl := List.mem_singleton.1 hq; simp)).trans (.grown (S := [b']) g2 fun q hq => by injection hq with hq; subst hq; exact List.mem_singleton.2 rfl) fun q hq => .inl (by obtain rfl := List.mem_singleton.1 hq; simp)⟩
    unfold Sto.step
    rw [if_neg (by omega), if_pos h4]
    refine ⟨⟨_, _, _, _, P2⟩, ⟨_, _, _, _, D2⟩, ⟨true, ?_, by simp⟩, q4, h.n1, h.n2, h.n3, h.n4⟩
    rw [World.cell?_of_block (a := ⟨b, 5, none⟩) (g2.block b (by have := h.hi b f1; omega) (by intro e; injection e with e; exact h.n1 e))]
    exact q3
  have hs : s.step o = s := by unfold Sto.step; rw [if_neg h1, if_neg h4, if_neg h5]
  repeat ((conv => whnf); first | (refine VLoad.mk _ (Lk.at b0) ?_) | (refine VCmp.tt (by omega) ?_) | (refine VCmp.ff (by omega) ?_) | (refine VIn.mk (IntWalk.i64_in _ (by omega)) ?_) | (refine VIdx.mk _ rfl (by omega) ?_) | (refine VIdx.mk 0 rfl (by omega) ?_))
  try (conv => whnf)
  exact .mk (done _ hs b0)
end Go.Proofs.Ytcffhfcjfjfokaa
namespace Go.Proofs.Ytcffhfcjfjfokaa
open Go Go.RowKit
def lnS {α : Type} (x : LX α) : List Nat := (blk x.L).toList ++ x.P.flatMap fun r => (blk r.A).toList
theorem lnS_iff {α : Type} {x : LX α} {q : Nat} : q ∈ lnS x ↔ LnB x q := by
  unfold lnS LnB
  rw [List.mem_append, List.mem_flatMap]
  simp only [Option.mem_toList, Option.mem_def]
def ltS (x : LtX) (lb : Nat) : List Nat := lb :: (lnS x.i ++ (lnS x.y ++ (lnS x.m ++ lnS x.d)))
theorem ltS_iff {x : LtX} {lb q : Nat} : q ∈ ltS x lb ↔ q = lb ∨ LnB x.i q ∨ LnB x.y q ∨ LnB x.m q ∨ LnB x.d q := by
  simp [ltS, lnS_iff]
section
variable {W W' : World} {F F' S K K' : List Nat} {base hb lb b g b' g' oK oV : Nat} {s : Sto}
theorem Lt.hi {lx : LtX} (h : Lt W base lb lx) : ∀ q ∈ ltS lx lb, lb ≤ q ∧ q < W.heap.size := fun q hq => by
  have hz := h.hz
  have z := h.z
  rcases ltS_iff.1 hq with rfl | e | e | e | e
  · omega
  · have := h.i.lo e; omega
  · have := h.y.lo e; omega
  · have := h.m.lo e; omega
  · have := h.d.lo e; omega
theorem Lt.away {lx : LtX} (h : Lt W base lb lx) (hf : Fx S W W') (hS : ∀ q ∈ S, q ∉ ltS lx lb) : Lt W' base lb lx :=
  h.fx hf fun q hq => ⟨fun e => hS q hq (ltS_iff.2 (.inl e)), fun e => hS q hq (ltS_iff.2 (.inr (.inl e))), fun e => hS q hq (ltS_iff.2 (.inr (.inr (.inl e)))), fun e => hS q hq (ltS_iff.2 (.inr (.inr (.inr (.inl e))))), fun e => hS q hq (ltS_iff.2 (.inr (.inr (.inr (.inr e)))))⟩
theorem StV.fxm {ks : List KpX} {Mp : Option Addr} {cM : Nat} {ms : List Dr} (h : StV W F b g oK oV s ks Mp cM ms) (hf : Fx S W W') (hS : ∀ q ∈ S, q ∈ F ∧ q ≠ b ∧ q ≠ g) (hF : ∀ y ∈ F', y ∈ F ∨ W.heap.size ≤ y) (h1 : b ∈ F') (h2 : g ∈ F') (hi : ∀ y ∈ F', y < W'.heap.size) (ha : ∀ q ∈ S, q ∈ F') : StV W' F' b g oK oV s ks Mp cM ms := by
  have k := h.keep hf.size (fun k hk hc => hf.block k hk fun hm => by
    obtain ⟨e1, e2, e3⟩ := hS k hm
    rcases hc with e | e | e
    · exact e e1
    · exact e2 e
    · exact e3 e)
  have hk : ∀ k, k < W.heap.size → k ∉ F' → W'.heap[k]? = W.heap[k]? := fun k h1 h2 => hf.block k h1 fun hm => h2 (ha k hm)
  exact ⟨k.ck, k.ce, k.cl, k.ci, k.cc, k.cm, k.there, k.krow, k.kthere, k.kk, fun x hx => ((h.kS x hx).more hF).keep hf.size hk, k.mm, (h.mrow.more hF).keep hf.size hk, fun r hr => ((h.mS r hr).more hF).keep hf.size hk, k.mc, h1, h2, k.bg, hi, k.inv⟩
theorem Two.fxm (h : Two W F b g b' g' s) (hf : Fx S W W') (hS : ∀ q ∈ S, q ∈ F ∧ q ∈ F' ∧ q ≠ b ∧ q ≠ g ∧ q ≠ b' ∧ q ≠ g') (hF : ∀ y ∈ F', y ∈ F ∨ W.heap.size ≤ y) (h1 : b ∈ F') (h2 : g ∈ F') (h3 : b' ∈ F') (h4 : g' ∈ F') (hi : ∀ y ∈ F', y < W'.heap.size) : Two W' F' b g b' g' s := by
  obtain ⟨f1, f2, f3, f4⟩ := h.bF
  obtain ⟨k1, k2, k3, k4, p⟩ := h.p
  obtain ⟨l1, l2, l3, l4, d⟩ := h.d
  obtain ⟨bg, q1, q2⟩ := h.pb
  have hb : ∀ y o, y ∈ F → y ∉ S → W'.cell? ⟨y, o, none⟩ = W.cell? ⟨y, o, none⟩ := fun y o hy hn => World.cell?_of_block (a := ⟨y, o, none⟩) (hf.block y (h.hi y hy) hn)
  exact ⟨⟨_, _, _, _, p.fxm hf (fun q hq => ⟨(hS q hq).1, (hS q hq).2.2.1, (hS q hq).2.2.2.1⟩) hF h1 h2 hi fun q hq => (hS q hq).2.1⟩, ⟨_, _, _, _, d.fxm hf (fun q hq => ⟨(hS q hq).1, (hS q hq).2.2.2.2.1, (hS q hq).2.2.2.2.2⟩) hF h3 h4 hi fun q hq => (hS q hq).2.1⟩, ⟨bg, (hb b 5 f1 fun hm => (hS b hm).2.2.1 rfl).trans q1, q2⟩, (hb b' 0 f3 fun hm => (hS b' hm).2.2.2.2.1 rfl).trans h.dn, h.n1, h.n2, h.n3, h.n4⟩
theorem Tn.lend {x : BX} {t : WX} (h : Tn W base hb F K x t) (hf : Fx S W W') (hS : ∀ q ∈ S, q ∈ K) (hK : ∀ y ∈ K', y ∈ K ∨ W.heap.size ≤ y) (hSK : ∀ q ∈ S, q ∈ K') (hi : ∀ y ∈ K', y < W'.heap.size) : Tn W' base hb F K' x t := by
  have hd : ∀ q ∈ K', q ∉ F := fun q hq hm => (hK q hq).elim (fun e => h.dk q e hm) fun e => by have := h.hi q (List.mem_append.2 (.inl hm)); omega
  have hFK : ∀ y ∈ F ++ K', y ∈ F ++ K ∨ W.heap.size ≤ y := fun y hy => (List.mem_append.1 hy).elim (fun e => .inl (List.mem_append.2 (.inl e))) fun e => (hK y e).imp (fun e => List.mem_append.2 (.inr e)) id
  exact ⟨h.B.fx h.Q hf fun q hq hm => h.dk q (hS q hq) (h.F1 q hm), (h.W.more hFK).fx hf (fun q hq => List.mem_append.2 (.inr (hSK q hq))) fun q hq hm => h.dk q (hS q hq) (h.F2 q hm), h.F1, h.F2, fun q hq => (List.mem_append.1 hq).elim (fun e => Nat.lt_of_lt_of_le (h.hi q (List.mem_append.2 (.inl e))) hf.size) (hi q), h.Q, hd⟩
end
def OpBx (cb : Nat) (o : Opx) (W : World) : Prop := W.rangeAt cb 0 (opA o).toList
structure Low (N hb b g b' g' : Nat) : Prop where
  h : Hi N b g b' g'
  b : b < hb
  g : g < hb
  b' : b' < hb
  g' : g' < hb
structure Hp (w : World) (base hb : Nat) (F : List Nat) (b g b' g' : Nat) (n : Nat) (w' : World) : Prop where
  ex : ∃ F' x t s, Fx (b :: g :: b' :: g' :: F.filter fun q => decide (hb ≤ q)) w w' ∧ (∀ q ∈ F, q ∈ F') ∧ (∀ q ∈ F', q ∈ F ∨ w.heap.size ≤ q) ∧ Tn w' base hb F' [] x t ∧ Sz x t n ∧ Two w' F' b g b' g' s
structure Hs (w : World) (base hb lb : Nat) (F : List Nat) (b g b' g' : Nat) (s : Sto) (n : Nat) (W : World) : Prop where
  ex : ∃ F' K x t lx, Fx (lb :: F.filter fun q => decide (hb ≤ q)) w W ∧ (∀ q ∈ F, q ∈ F') ∧ (∀ q ∈ F', q ∈ F ∨ w.heap.size ≤ q) ∧ (∀ q ∈ K, q = lb ∨ w.heap.size ≤ q) ∧ (∀ q ∈ ltS lx lb, q ∈ K) ∧ Tn W base hb F' K x t ∧ Sz x t n ∧ Two W (F' ++ K) b g b' g' s ∧ Lt W (lb + 1) lb lx ∧ lx.m.P.length ≤ n
def mmT (m : Mm) : Int × Int × Int := (m.p, m.i, m.c)
theorem mmT_enc (m : Mm) : eM3 (mmT m) = eMm m := rfl
def fBlk (B : Option Addr) (rs : List Rw) : List Nat := (blk B).toList ++ rs.flatMap fun r => (blk r.X).toList ++ (blk r.Y).toList
theorem fBlk_iff {B : Option Addr} {rs : List Rw} {q : Nat} : q ∈ fBlk B rs ↔ (blk B = some q ∨ ∃ r ∈ rs, blk r.X = some q ∨ blk r.Y = some q) := by
  simp [fBlk, List.mem_flatMap, Option.mem_toList]
theorem OwnFs.lo {w : World} {base c : Nat} {B : Option Addr} {rs : List Rw} (h : OwnFs w base B c rs) : ∀ q ∈ fBlk B rs, base ≤ q ∧ q < w.heap.size := fun q hq => by
  rcases fBlk_iff.1 hq with e | ⟨r, hr, e | e⟩
  · exact h.own.lo q e
  · exact (h.each r hr).1.lo q e
  · exact (h.each r hr).2.lo q e
def dBlk (B : Option Addr) (rs : List Dr) : List Nat := (blk B).toList ++ rs.flatMap fun r => (blk r.B).toList
theorem dBlk_iff {B : Option Addr} {rs : List Dr} {q : Nat} : q ∈ dBlk B rs ↔ (blk B = some q ∨ ∃ r ∈ rs, blk r.B = some q) := by
  simp [dBlk, List.mem_flatMap, Option.mem_toList]
theorem OwnDs.lo {w : World} {base c : Nat} {B : Option Addr} {rs : List Dr} (h : OwnDs w base B c rs) : ∀ q ∈ dBlk B rs, base ≤ q ∧ q < w.heap.size := fun q hq => by
  rcases dBlk_iff.1 hq with e | ⟨r, hr, e⟩
  · exact h.own.lo q e
  · exact (h.each r hr).lo q e
theorem OwnW.rowF {α : Type} {w : World} {base sz c : Nat} {e : TypeId} {enc : α → List Value} {A : Option Addr} {l : List α} {F : List Nat} (h : OwnW w base e sz enc A c l) (hsz : ∀ x, (enc x).length = sz) (hF : ∀ x ∈ F, x < base) : RowF w F sz enc A l := fun h0 => RowF.ofOwns (h.own (by have := h.len; omega)) hsz hF h0
theorem wasF_of {w : World} {base c : Nat} {A : Option Addr} {ws : List Rw} {F : List Nat} (h : FsW w base A c ws) (hF : ∀ x ∈ F, x < base) : WasF w F A ws :=
  ⟨RowF.ofOwns h.own len_eRw hF, fun r hr => ⟨(h.each r hr).1.rowF len_eSlot hF, (h.each r hr).2.rowF len_eInt hF, ⟨(h.each r hr).1.len, (h.each r hr).1.cap⟩, (h.each r hr).2.len, (h.each r hr).2.cap⟩⟩
theorem wasD_of {w : World} {base c : Nat} {A : Option Addr} {ws : List Dr} {F : List Nat} (h : MsW w base A c ws) (hF : ∀ x ∈ F, x < base) : WasD w F A ws :=
  ⟨RowF.ofOwns h.own len_eDr hF, fun r hr => ⟨(h.each r hr).rowF len_eByte hF, (h.each r hr).len, (h.each r hr).cap⟩⟩
theorem bld147' (W : World) : (Instr.build 147 #[]).run Try.prog W = .ok (.agg lent0) W := by kernel_rfl
end Go.Proofs.Ytcffhfcjfjfokaa
namespace Go.Proofs.Ytcffhfcjfjfokaa
open Go Go.RowKit
set_option maxRecDepth 100000 in
set_option maxHeartbeats 4000000 in
theorem held_missing {w : World} {base hb n N : Nat} {F : List Nat} {x : BX} {t : WX} {b g b' g' : Nat} {s : Sto} {o : Opx} (T : Tn w base hb F [] x t) (Z : Sz x t n) (hn : n ≤ 600000000) (S : Two w F b g b' g' s) (low : Low N hb b g b' g') (hN : N ≤ hb) (ho : OpAt w N o) (hk : o.kd = 2) :
    Calls Try.prog 46 #[.pointer (some ⟨hb, 0, none⟩), .pointer (some ⟨b, 0, none⟩), .pointer (some ⟨b', 0, none⟩), .agg (opA o)] w fun e w' => e = .returned (.bool true) ∧ Hp w base hb F b g b' g' (n + 3000000) w' := by
  have hz := T.B.hz
  have hbz := T.B.z
  obtain ⟨fb1, fb2, fb3, fb4⟩ := S.bF
  refine calls_vc tab_ok Try.func46 rfl ?_
  conv => whnf
  refine .mk fun wA hwA => ?_
  have hbA : Below w.heap.size w wA := by rw [hwA.out]; exact below_box1 _ _ _
  have zA : wA.heap.size = w.heap.size + 1 := by rw [hwA.out]; simp
  have oA : OpBx w.heap.size o wA := by rw [hwA.out]; exact range_new w (opA o) 95
  clear hwA
  repeat ((conv => whnf); first | (refine VCmp.tt (by omega) ?_) | (refine VCmp.ff (by omega) ?_) | (refine VIn.mk (IntWalk.i64_in _ (by omega)) ?_) | (refine VIdx.mk _ rfl (by omega) ?_) | (refine VIdx.mk 0 rfl (by omega) ?_))
  try (conv => whnf)
  refine VBuild.mk _ (fun W => bld147' W) ?_
  conv => whnf
  refine .mk fun wB hwB => ?_
  have L0 : Lt wB (wA.heap.size + 1) wA.heap.size ltx0 := by rw [hwB.out]; exact lt_new wA
  have bAB : Below wA.heap.size wA wB := by rw [hwB.out]; exact (Below.refl _ _).alloc (Nat.le_refl _) _
  have zB : wB.heap.size = wA.heap.size + 1 := by rw [hwB.out]; simp
  have oB : OpBx w.heap.size o wB := range_same oA (bAB.block _ (by omega))
  have bB : Below w.heap.size w wB := hbA.trans (bAB.mono (by omega))
  clear hwB oA hbA bAB
  generalize hlb : wA.heap.size = lb at *
  clear hlb
  have hFi : ∀ q ∈ F, q < w.heap.size := fun q hq => T.hi q (List.mem_append.2 (.inl hq))
  have hK0 : ∀ q ∈ ltS ltx0 lb, q = lb := fun q hq => by
    rcases ltS_iff.1 hq with e | e | e | e | e
    · exact e
    all_goals rcases e with e | ⟨r, hr, _⟩; cases e; cases hr
  have hlm : lb ∈ ltS ltx0 lb := ltS_iff.2 (.inl rfl)
  have TB : Tn wB base hb F (ltS ltx0 lb) x t := T.more bB (fun y hy => (List.mem_append.1 hy).elim (fun e => .inl (List.mem_append.2 (.inl e))) fun e => .inr (by have := hK0 y e; omega)) (fun y hy => hy) (fun y hy => (List.mem_append.1 hy).elim (fun e => by have := hFi y e; omega) fun e => by have := hK0 y e; omega) (fun q hq hm => by have := hK0 q hq; have := hFi q hm; omega)
  have SB : Two wB (F ++ ltS ltx0 lb) b g b' g' s := S.ext bB (fun y hy => (List.mem_append.1 hy).elim .inl fun e => .inr (by have := hK0 y e; omega)) (fun y hy => List.mem_append.2 (.inl hy)) (fun y hy => (List.mem_append.1 hy).elim (fun e => by have := hFi y e; omega) fun e => by have := hK0 y e; omega)
  have H0 : Hs wB base hb lb F b g b' g' s n wB := ⟨F, _, x, t, ltx0, Fx.refl _ _, fun q hq => hq, fun q hq => .inl hq, fun q hq => .inl (hK0 q hq), fun q hq => hq, TB, Z, SB, L0, Nat.zero_le _⟩
  have Lk : Ld Try.prog 3 w.heap.size 0 (Eq wB) (.int .i64 o.kd) := .of (load3 (oB 0 _ rfl))
  have Kp : Ld Try.prog 35 w.heap.size 10 (OpBx w.heap.size o) (.agg #[.int .i64 o.e, .int .i64 o.l, .int .i64 o.i, .int .i64 o.c]) := ⟨fun W hW => load35 (range_sub (n := 4) hW 10 rfl)⟩
  have Kw : Ld Try.prog 93 w.heap.size 14 (OpBx w.heap.size o) (.slice o.wA o.who.length o.wc) := ⟨fun W hW => load_cell (by kernel_rfl) (hW 14 _ rfl)⟩
  have Km : Ld Try.prog 40 w.heap.size 15 (OpBx w.heap.size o) (.slice o.mA o.ms.length o.mc) := ⟨fun W hW => load_cell (by kernel_rfl) (hW 15 _ rfl)⟩
  have hs3 := ho.s3
  obtain ⟨⟨n1, n2, n3, n4⟩, m1, m2, m3, m4⟩ := low
  repeat ((conv => whnf); first | (refine VLoad.mk _ Lk ?_) | (refine VCmp.tt (by omega) ?_) | (refine VCmp.ff (by omega) ?_) | (refine VIn.mk (IntWalk.i64_in _ (by omega)) ?_) | (refine VIdx.mk _ rfl (by omega) ?_) | (refine VIdx.mk 0 rfl (by omega) ?_))
  try (conv => whnf)
  refine VLoop.mk Nat (fun i => [(0, .pointer (some ⟨hb, 0, none⟩)), (1, .pointer (some ⟨b, 0, none⟩)), (2, .pointer (some ⟨b', 0, none⟩)), (7, .pointer (some ⟨w.heap.size, 0, none⟩)), (9, .pointer (some ⟨lb, 0, none⟩)), (10, .int .i64 i)]) (fun i W => i ≤ 2 ∧ Hs wB base hb lb F b g b' g' s (n + 1200000 * i) W) (fun i => 2 - i) 0 ⟨rfl, rfl, rfl, rfl, rfl, rfl, trivial⟩ ⟨Nat.zero_le _, H0⟩ ?_
  clear H0
  rintro i wr ⟨hi, H⟩
  obtain ⟨F1, K, x1, t1, lx, f1, a1, b1, k1, kk, T1, Z1, S1, L1, mp⟩ := H.ex
  have zr := f1.size
  have hS1 : ∀ q ∈ lb :: F.filter (fun q => decide (hb ≤ q)), hb ≤ q := fun q hq => by
    rcases List.mem_cons.1 hq with rfl | hq
    · omega
    · simpa using (List.mem_filter.1 hq).2
  have br : Below hb wB wr := f1.to hS1 (by omega)
  have oR : OpBx w.heap.size o wr := range_same oB (f1.block _ (by omega) fun hm => by
    rcases List.mem_cons.1 hm with e | hm
    · omega
    · have := hFi _ (List.mem_filter.1 hm).1; omega)
  have hoR : ∀ W, Below hb wB W → OpAt W N o := fun W hW => (ho.below bB (by omega)).below hW hN
  by_cases hil : i < 2
  case neg =>
    have hie : i = 2 := by omega
    subst hie
    -- the end
    repeat ((conv => whnf); first | (refine VCmp.tt (by omega) ?_) | (refine VCmp.ff (by omega) ?_) | (refine VIn.mk (IntWalk.i64_in _ (by omega)) ?_) | (refine VIdx.mk _ rfl (by omega) ?_) | (refine VIdx.mk 0 rfl (by omega) ?_))
    try (conv => whnf)
    refine VCall.mk _ (kept_any L1) ?_
    rintro _ wz ⟨rfl, bz⟩
    refine ⟨_, rfl, ?_⟩
    have fz : Fx (lb :: F.filter fun q => decide (hb ≤ q)) wB wz := f1.trans (.below (S := []) bz) fun q hq => (by cases hq)
    have hFK : ∀ y ∈ F1, y ∈ F1 ++ K := fun y hy => List.mem_append.2 (.inl hy)
    obtain ⟨c1, c2, c3, c4⟩ := S.bF
    have Tz : Tn wz base hb F1 [] x1 t1 := T1.more bz (fun y hy => (List.mem_append.1 hy).elim (fun e => .inl (hFK y e)) fun e => (by cases e)) (fun y hy => hy) (fun y hy => (List.mem_append.1 hy).elim (fun e => Nat.lt_of_lt_of_le (T1.hi y (hFK y e)) bz.size) fun e => (by cases e)) (fun q hq => (by cases hq))
    have Sz' := (S1.below bz).less hFK (a1 b c1) (a1 g c2) (a1 b' c3) (a1 g' c4)
    have hw := bB.size
    repeat ((conv => whnf); first | (refine VCmp.tt (by omega) ?_) | (refine VCmp.ff (by omega) ?_) | (refine VIn.mk (IntWalk.i64_in _ (by omega)) ?_) | (refine VIdx.mk _ rfl (by omega) ?_) | (refine VIdx.mk 0 rfl (by omega) ?_))
    try (conv => whnf)
    exact .mk ⟨rfl, ⟨F1, x1, t1, s, (Fx.below (S := b :: g :: b' :: g' :: F.filter fun q => decide (hb ≤ q)) bB).trans fz fun q hq => (List.mem_cons.1 hq).elim (fun e => .inr (by omega)) fun e => .inl (by simp only [List.mem_cons]; exact .inr (.inr (.inr (.inr e)))), a1, fun q hq => (b1 q hq).imp id fun e => by omega, Tz, Z1.mono (by omega), Sz'⟩⟩
  case pos =>
    -- the members are lent
    have Td := T1.below (Below.refl wr.heap.size wr).drew
    have Sd := S1.below (Below.refl wr.heap.size wr).drew
    have Ldd := L1.below (Below.refl wr.heap.size wr).drew
    repeat ((conv => whnf); first | (refine VCmp.tt (by omega) ?_) | (refine VCmp.ff (by omega) ?_) | (refine VIn.mk (IntWalk.i64_in _ (by omega)) ?_) | (refine VIdx.mk _ rfl (by omega) ?_) | (refine VIdx.mk 0 rfl (by omega) ?_))
    try (conv => whnf)
    refine VDraw.mk 1000 [([0, 1, 2, 3, 4, 5], 6), ([], 7)] [8] (OpBx w.heap.size o) (by kernel_rfl) (by kernel_rfl) (oR) ?_
    repeat ((conv => whnf); first | (refine VLoad.mk _ Kp ?_) | (refine VLoad.mk _ Kw ?_) | (refine VCmp.tt (by omega) ?_) | (refine VCmp.ff (by omega) ?_) | (refine VIn.mk (IntWalk.i64_in _ (by omega)) ?_) | (refine VIdx.mk _ rfl (by omega) ?_) | (refine VIdx.mk 0 rfl (by omega) ?_))
    try (conv => whnf)
    have C80 := lentMems_any (cC := o.wc) Ldd (by show lx.m.P.length ≤ _; omega) (show N ≤ wr.drew.heap.size by show N ≤ wr.heap.size; omega) (RowAt.map mmT mmT_enc (hoR _ br.drew).who) (by rw [List.length_map]; exact hs3)
    rw [List.length_map] at C80
    refine VCall.mk _ C80 ?_
    clear C80
    rintro _ w1 ⟨g1, bl1, A1, c1, L', cL', r', rfl, LT1, hA1, hA1c, hA1m, hnew⟩
    refine ⟨_, rfl, ?_⟩
    have zd : wr.drew.heap.size = wr.heap.size := rfl
    have z1 := g1.size
    have hS0 : ∀ q ∈ lb :: (blk lx.m.L).toList, q ∈ ltS lx lb := fun q hq => by
      rcases List.mem_cons.1 hq with rfl | hq
      · exact ltS_iff.2 (.inl rfl)
      · exact ltS_iff.2 (.inr (.inr (.inr (.inl (.inl (by simpa [Option.mem_toList] using hq))))))
    have hKn : ∀ y ∈ K ++ ltS { lx with m := ⟨L', cL', lx.m.P ++ [r']⟩ } lb, y ∈ K ∨ wr.drew.heap.size ≤ y := fun y hy => by
      rcases List.mem_append.1 hy with hy | hy
      · exact .inl hy
      · rcases ltS_iff.1 hy with e | e | e | e | e
        · exact .inl (kk y (ltS_iff.2 (.inl e)))
        · exact .inl (kk y (ltS_iff.2 (.inr (.inl e))))
        · exact .inl (kk y (ltS_iff.2 (.inr (.inr (.inl e)))))
        · exact (hnew y e).imp (fun e => kk y (ltS_iff.2 (.inr (.inr (.inr (.inl e)))))) id
        · exact .inl (kk y (ltS_iff.2 (.inr (.inr (.inr (.inr e))))))
    have hKi : ∀ y ∈ K ++ ltS { lx with m := ⟨L', cL', lx.m.P ++ [r']⟩ } lb, y < w1.heap.size := fun y hy => (List.mem_append.1 hy).elim (fun e => by have := Td.hi y (List.mem_append.2 (.inr e)); omega) fun e => (LT1.hi y e).2
    have T2 : Tn w1 base hb F1 (K ++ ltS { lx with m := ⟨L', cL', lx.m.P ++ [r']⟩ } lb) x1 t1 := Td.lend g1 (fun q hq => kk q (hS0 q hq)) hKn (fun q hq => List.mem_append.2 (.inl (kk q (hS0 q hq)))) hKi
    have S2 : Two w1 (F1 ++ (K ++ ltS { lx with m := ⟨L', cL', lx.m.P ++ [r']⟩ } lb)) b g b' g' s := Sd.fxm g1 (fun q hq => by
      have h1 := kk q (hS0 q hq)
      have h2 := (L1.hi q (hS0 q hq)).1
      exact ⟨List.mem_append.2 (.inr h1), List.mem_append.2 (.inr (List.mem_append.2 (.inl h1))), by omega, by omega, by omega, by omega⟩) (fun y hy => (List.mem_append.1 hy).elim (fun e => .inl (List.mem_append.2 (.inl e))) fun e => (hKn y e).imp (fun e => List.mem_append.2 (.inr e)) id) (List.mem_append.2 (.inl (a1 b fb1))) (List.mem_append.2 (.inl (a1 g fb2))) (List.mem_append.2 (.inl (a1 b' fb3))) (List.mem_append.2 (.inl (a1 g' fb4))) fun y hy => T2.hi y hy
    have hO1 : OpBx w.heap.size o w1 := range_same oR (bl1.block _ (by omega))
    have hb1 : Below hb wB w1 := br.drew.trans (bl1.mono (by omega))
    repeat ((conv => whnf); first | (refine VS.mk hO1 ?_) | (refine VCmp.tt (by omega) ?_) | (refine VCmp.ff (by omega) ?_) | (refine VIn.mk (IntWalk.i64_in _ (by omega)) ?_) | (refine VIdx.mk _ rfl (by omega) ?_) | (refine VIdx.mk 0 rfl (by omega) ?_))
    try (conv => whnf)
    -- Missing
    obtain ⟨k1_, k2_, k3_, k4_, P2⟩ := S2.p
    refine VCall.mk _ (missing_any P2 o.e o.l o.i o.c A1 c1 w1.heap.size o.who (Nat.le_refl _) (RowAt.unmap mmT mmT_enc hA1) hs3) ?_
    rintro _ w2 ⟨B, cB, rfl, oB2, b12⟩
    refine ⟨_, rfl, ?_⟩
    have z2 := b12.size
    have hO2 : OpBx w.heap.size o w2 := range_same hO1 (b12.block _ (by omega))
    have hml : (s.missing o.e o.l o.i o.c o.who).length ≤ o.who.length := by unfold Sto.missing; rw [List.length_map]; exact List.length_filter_le _ _
    repeat ((conv => whnf); first | (refine VS.mk hO2 ?_) | (refine VCmp.tt (by omega) ?_) | (refine VCmp.ff (by omega) ?_) | (refine VIn.mk (IntWalk.i64_in _ (by omega)) ?_) | (refine VIdx.mk _ rfl (by omega) ?_) | (refine VIdx.mk 0 rfl (by omega) ?_))
    try (conv => whnf)
    -- the document's
    refine VBs.mk _ _ (bs37z' w2) ?_
    have b23 : Below w2.heap.size w2 (w2.alloc (.cells #[] 3)) := (Below.refl _ _).alloc (Nat.le_refl _) _
    have z3 : (w2.alloc (.cells #[] 3)).heap.size = w2.heap.size + 1 := by simp
    have oE : Owns (w2.alloc (.cells #[] 3)) w2.heap.size 3 1 eInt (some ⟨w2.heap.size, 0, none⟩) 0 ([] : List Int) := owns_empty _ _ _ _ _ (Nat.le_refl _)
    generalize w2.alloc (.cells #[] 3) = w3 at b23 z3 oE ⊢
    have b13 : Below w1.heap.size w1 w3 := b12.trans (b23.mono z2)
    have hO3 : OpBx w.heap.size o w3 := range_same hO2 (b23.block _ (by omega))
    have S3 := S2.below b13
    obtain ⟨l1_, l2_, l3_, l4_, D3⟩ := S3.d
    repeat ((conv => whnf); first | (refine VLoad.mk _ (Kp.at hO3) ?_) | (refine VLoad.mk _ (Kw.at hO3) ?_) | (refine VCmp.tt (by omega) ?_) | (refine VCmp.ff (by omega) ?_) | (refine VIn.mk (IntWalk.i64_in _ (by omega)) ?_) | (refine VIdx.mk _ rfl (by omega) ?_) | (refine VIdx.mk 0 rfl (by omega) ?_))
    try (conv => whnf)
    refine VCall.mk _ (rmissing_any D3 S3.dn o.e o.l o.i o.c o.wA o.wc N o.who (by omega) (hoR w3 (hb1.trans (b13.mono (by omega)))).who hs3) ?_
    rintro _ w4 ⟨B2, cB2, rfl, oB4, b34⟩
    refine ⟨_, rfl, ?_⟩
    have z4 := b34.size
    repeat ((conv => whnf); first | (refine VCmp.tt (by omega) ?_) | (refine VCmp.ff (by omega) ?_) | (refine VIn.mk (IntWalk.i64_in _ (by omega)) ?_) | (refine VIdx.mk _ rfl (by omega) ?_) | (refine VIdx.mk 0 rfl (by omega) ?_))
    try (conv => whnf)
    refine VApp.rows w2.heap.size 1 8 _ Try.underlying37 info3 rfl (by decide) eInt len_eInt one_eInt ([] : List Int) (s.missing o.e o.l o.i o.c o.who) rfl rfl (oE.keep b34 fun k hk => (oE.lo k hk).2) (oB4.row len_eInt) (by omega) (by omega) (by omega) fun U cU w5 oU hgU hkU => ?_
    rw [List.nil_append] at oU
    have b45 : Below w2.heap.size w4 w5 := (Below.refl _ _).grown hgU (by omega) (fun k hk => by injection hk with hk; subst hk; exact Nat.le_refl _)
    have b25 : Below w2.heap.size w2 w5 := (b23.trans (b34.mono (by omega))).trans b45
    have z5 := b45.size
    have b15 : Below w1.heap.size w1 w5 := b12.trans (b25.mono z2)
    have oB5 := oB2.keep b25 fun k hk => (oB2.lo k hk).2
    rw [Nat.zero_add]
    repeat ((conv => whnf); first | (refine VCmp.tt (by omega) ?_) | (refine VCmp.ff (by omega) ?_) | (refine VIn.mk (IntWalk.i64_in _ (by omega)) ?_) | (refine VIdx.mk _ rfl (by omega) ?_) | (refine VIdx.mk 0 rfl (by omega) ?_))
    try (conv => whnf)
    refine VCall.mk _ (sameInts_yes B U cB cU w5.heap.size _ w5 (Nat.le_refl _) (oB5.row len_eInt) (oU.row len_eInt) (by omega)) ?_
    rintro _ w6 ⟨rfl, b56⟩
    refine ⟨_, rfl, ?_⟩
    have z6 := b56.size
    have b16 : Below w1.heap.size w1 w6 := b15.trans (b56.mono (by omega))
    have oB6 := oB5.keep b56 fun k hk => (oB5.lo k hk).2
    have oU6 := oU.keep b56 fun k hk => (oU.lo k hk).2
    -- into the book
    have hBlo : ∀ q, blk B = some q → w1.heap.size ≤ q ∧ q < w2.heap.size := fun q hq => ⟨(oB2.lo q hq).1, (oB2.lo q hq).2⟩
    have hF2 : ∀ y ∈ (F1 ++ (blk B).toList) ++ (K ++ ltS { lx with m := ⟨L', cL', lx.m.P ++ [r']⟩ } lb), y ∈ F1 ++ (K ++ ltS { lx with m := ⟨L', cL', lx.m.P ++ [r']⟩ } lb) ∨ w1.heap.size ≤ y := fun y hy => by
      rcases List.mem_append.1 hy with hy | hy
      · rcases List.mem_append.1 hy with hy | hy
        · exact .inl (List.mem_append.2 (.inl hy))
        · exact .inr (hBlo y (by simpa [Option.mem_toList] using hy)).1
      · exact .inl (List.mem_append.2 (.inr hy))
    have hi2 : ∀ y ∈ (F1 ++ (blk B).toList) ++ (K ++ ltS { lx with m := ⟨L', cL', lx.m.P ++ [r']⟩ } lb), y < w2.heap.size := fun y hy => by
      rcases List.mem_append.1 hy with hy | hy
      · rcases List.mem_append.1 hy with hy | hy
        · have := T2.hi y (List.mem_append.2 (.inl hy)); omega
        · exact (hBlo y (by simpa [Option.mem_toList] using hy)).2
      · have := T2.hi y (List.mem_append.2 (.inr hy)); omega
    have hd2 : ∀ q ∈ K ++ ltS { lx with m := ⟨L', cL', lx.m.P ++ [r']⟩ } lb, q ∉ F1 ++ (blk B).toList := fun q hq hm => by
      rcases List.mem_append.1 hm with hm | hm
      · exact T2.dk q hq hm
      · have := T2.hi q (List.mem_append.2 (.inr hq)); have := (hBlo q (by simpa [Option.mem_toList] using hm)).1; omega
    have T6 : Tn w6 base hb (F1 ++ (blk B).toList) (K ++ ltS { lx with m := ⟨L', cL', lx.m.P ++ [r']⟩ } lb) x1 t1 := T2.more b16 hF2 (fun y hy => List.mem_append.2 (.inl hy)) (fun y hy => by have := hi2 y hy; omega) hd2
    have S6 : Two w6 ((F1 ++ (blk B).toList) ++ (K ++ ltS { lx with m := ⟨L', cL', lx.m.P ++ [r']⟩ } lb)) b g b' g' s := S2.ext b16 hF2 (fun y hy => (List.mem_append.1 hy).elim (fun e => List.mem_append.2 (.inl (List.mem_append.2 (.inl e)))) fun e => List.mem_append.2 (.inr e)) (fun y hy => by have := hi2 y hy; omega)
    repeat ((conv => whnf); first | (refine VCmp.tt (by omega) ?_) | (refine VCmp.ff (by omega) ?_) | (refine VIn.mk (IntWalk.i64_in _ (by omega)) ?_) | (refine VIdx.mk _ rfl (by omega) ?_) | (refine VIdx.mk 0 rfl (by omega) ?_))
    try (conv => whnf)
    refine VCall.mk _ (ints81_any T6 Z1 (by omega) (r := ⟨B, cB, s.missing o.e o.l o.i o.c o.who⟩) (oB6.base (by have := T2.B.z; omega)) (fun q hq => List.mem_append.2 (.inr (by rw [show blk B = some q from hq]; simp))) (fun y hy q h1 h2 => by
      have := ((T2.B.i.k.o y hy).lo q h1).2
      have := (hBlo q h2).1
      omega) (by show (s.missing _ _ _ _ _).length ≤ _; omega) (U := U) (cU := cU) (RowF.ofOwns oU6 len_eInt hi2)) ?_
    rintro _ w7 ⟨rfl, M7⟩
    refine ⟨_, rfl, ?_⟩
    obtain ⟨F3, x3, t3, f7, a7, b7, T7, Z7⟩ := M7.ex
    -- what holds behind it
    have hS7 : ∀ q ∈ (F1 ++ (blk B).toList).filter (fun q => decide (hb ≤ q)), q ∈ (F1 ++ (blk B).toList) ∧ hb ≤ q := fun q hq => ⟨(List.mem_filter.1 hq).1, by simpa using (List.mem_filter.1 hq).2⟩
    have hKF : ∀ y ∈ F3 ++ (K ++ ltS { lx with m := ⟨L', cL', lx.m.P ++ [r']⟩ } lb), y ∈ (F1 ++ (blk B).toList) ++ (K ++ ltS { lx with m := ⟨L', cL', lx.m.P ++ [r']⟩ } lb) ∨ w6.heap.size ≤ y := fun y hy => (List.mem_append.1 hy).elim (fun e => (b7 y e).imp (fun e => List.mem_append.2 (.inl e)) id) fun e => .inl (List.mem_append.2 (.inr e))
    have hF1N : ∀ q ∈ F1, q ∈ (F1 ++ (blk B).toList) := fun q hq => List.mem_append.2 (.inl hq)
    have S8 : Two w7 (F3 ++ (K ++ ltS { lx with m := ⟨L', cL', lx.m.P ++ [r']⟩ } lb)) b g b' g' s := S6.fxm f7 (fun q hq => by
      obtain ⟨h1, h2⟩ := hS7 q hq
      exact ⟨List.mem_append.2 (.inl h1), List.mem_append.2 (.inl (a7 q h1)), by omega, by omega, by omega, by omega⟩) hKF (List.mem_append.2 (.inl (a7 b (hF1N b (a1 b fb1))))) (List.mem_append.2 (.inl (a7 g (hF1N g (a1 g fb2))))) (List.mem_append.2 (.inl (a7 b' (hF1N b' (a1 b' fb3))))) (List.mem_append.2 (.inl (a7 g' (hF1N g' (a1 g' fb4))))) fun y hy => T7.hi y hy
    have L8 : Lt w7 (lb + 1) lb { lx with m := ⟨L', cL', lx.m.P ++ [r']⟩ } := (LT1.below b16).away f7 fun q hq hm => T6.dk q (List.mem_append.2 (.inr hm)) (hS7 q hq).1
    have k8 : ∀ q ∈ K ++ ltS { lx with m := ⟨L', cL', lx.m.P ++ [r']⟩ } lb, q = lb ∨ wB.heap.size ≤ q := fun q hq => (hKn q hq).elim (k1 q) fun e => .inr (by omega)
    have kk8 : ∀ q ∈ ltS { lx with m := ⟨L', cL', lx.m.P ++ [r']⟩ } lb, q ∈ K ++ ltS { lx with m := ⟨L', cL', lx.m.P ++ [r']⟩ } lb := fun q hq => List.mem_append.2 (.inr hq)
    have hQQ : ∀ q ∈ (F1 ++ (blk B).toList), q ∈ F1 ∨ w1.heap.size ≤ q := (fun q hq => (List.mem_append.1 hq).imp id fun e => (hBlo q (by simpa [Option.mem_toList] using e)).1)
    have f8 : Fx (lb :: F.filter fun q => decide (hb ≤ q)) wB w7 := (((f1.trans (.below (S := []) (Below.refl wr.heap.size wr).drew) fun q hq => (by cases hq)).trans g1 fun q hq => (k1 q (kk q (hS0 q hq))).elim (fun e => .inl (by rw [e]; exact List.mem_cons_self ..)) .inr).trans (.below (S := []) b16) fun q hq => (by cases hq)).trans f7 fun q hq => by
      obtain ⟨h1, h2⟩ := hS7 q hq
      rcases hQQ q h1 with e | e
      · exact (b1 q e).elim (fun e => .inl (List.mem_cons_of_mem _ (List.mem_filter.2 ⟨e, by simpa using h2⟩))) .inr
      · exact .inr (by omega)
    have a8 : ∀ q ∈ F, q ∈ F3 := fun q hq => a7 q (hF1N q (a1 q hq))
    have b8 : ∀ q ∈ F3, q ∈ F ∨ wB.heap.size ≤ q := fun q hq => (b7 q hq).elim (fun e => (hQQ q e).elim (b1 q) fun e => .inr (by omega)) fun e => .inr (by omega)
    repeat ((conv => whnf); first | (refine VCmp.tt (by omega) ?_) | (refine VCmp.ff (by omega) ?_) | (refine VIn.mk (IntWalk.i64_in _ (by omega)) ?_) | (refine VIdx.mk _ rfl (by omega) ?_) | (refine VIdx.mk 0 rfl (by omega) ?_))
    try (conv => whnf)
    exact .mk (i + 1) ⟨rfl, rfl, rfl, rfl, rfl, rfl, trivial⟩ ⟨hil, ⟨F3, _, x3, t3, _, f8, a8, b8, k8, kk8, T7, Z7.mono (by omega), S8, L8, by show (lx.m.P ++ [r']).length ≤ _; rw [List.length_append]; show lx.m.P.length + 1 ≤ _; omega⟩⟩ (by omega)
end Go.Proofs.Ytcffhfcjfjfokaa
