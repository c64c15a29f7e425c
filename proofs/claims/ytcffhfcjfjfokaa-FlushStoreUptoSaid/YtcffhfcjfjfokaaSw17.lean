/- Takes Adds, joined. -/
import Derived.Test.YtcffhfcjfjfokaaSw16
set_option linter.unusedVariables false
set_option linter.unusedSimpArgs false
/- The law's takes and adds: one step of both stores. -/
namespace Go.Proofs.Ytcffhfcjfjfokaa
open Go.RowKit
theorem StV.ext {w w' : World} {F F' : List Nat} {b g oK oV : Nat} {s : Sto} {ks : List KpX} {Mp : Option Addr} {cM : Nat} {ms : List Dr} (h : StV w F b g oK oV s ks Mp cM ms) (hb : Below w.heap.size w w') (hF : ∀ y ∈ F', y ∈ F ∨ w.heap.size ≤ y) (h1 : b ∈ F') (h2 : g ∈ F') (hi : ∀ y ∈ F', y < w'.heap.size) : StV w' F' b g oK oV s ks Mp cM ms := by
  have k := h.below hb
  exact ⟨k.ck, k.ce, k.cl, k.ci, k.cc, k.cm, k.there, k.krow, k.kthere, k.kk, fun x hx => ((h.kS x hx).more hF).below hb, k.mm, (h.mrow.more hF).below hb, fun r hr => ((h.mS r hr).more hF).below hb, k.mc, h1, h2, k.bg, hi, k.inv⟩
theorem StV.less {w : World} {F F' : List Nat} {b g oK oV : Nat} {s : Sto} {ks : List KpX} {Mp : Option Addr} {cM : Nat} {ms : List Dr} (h : StV w F b g oK oV s ks Mp cM ms) (hF : ∀ y ∈ F', y ∈ F) (h1 : b ∈ F') (h2 : g ∈ F') : StV w F' b g oK oV s ks Mp cM ms :=
  h.more (fun y hy => .inl (hF y hy)) h1 h2 fun y hy => h.hi y (hF y hy)
theorem Two.ext {w w' : World} {F F' : List Nat} {b g b' g' : Nat} {s : Sto} (h : Two w F b g b' g' s) (hb : Below w.heap.size w w') (hF : ∀ y ∈ F', y ∈ F ∨ w.heap.size ≤ y) (hs : ∀ y ∈ F, y ∈ F') (hi : ∀ y ∈ F', y < w'.heap.size) : Two w' F' b g b' g' s := by
  obtain ⟨f1, f2, f3, f4⟩ := h.bF
  obtain ⟨k1, k2, k3, k4, p⟩ := h.p
  obtain ⟨l1, l2, l3, l4, d⟩ := h.d
  have k := h.below hb
  exact ⟨⟨_, _, _, _, p.ext hb hF (hs _ f1) (hs _ f2) hi⟩, ⟨_, _, _, _, d.ext hb hF (hs _ f3) (hs _ f4) hi⟩, k.pb, k.dn, h.n1, h.n2, h.n3, h.n4⟩
theorem Two.less {w : World} {F F' : List Nat} {b g b' g' : Nat} {s : Sto} (h : Two w F b g b' g' s) (hF : ∀ y ∈ F', y ∈ F) (h1 : b ∈ F') (h2 : g ∈ F') (h3 : b' ∈ F') (h4 : g' ∈ F') : Two w F' b g b' g' s := by
  obtain ⟨k1, k2, k3, k4, p⟩ := h.p
  obtain ⟨l1, l2, l3, l4, d⟩ := h.d
  exact ⟨⟨_, _, _, _, p.less hF h1 h2⟩, ⟨_, _, _, _, d.less hF h3 h4⟩, h.pb, h.dn, h.n1, h.n2, h.n3, h.n4⟩
/-- Both have taken the same step: the program's first, then the document's. -/
theorem Two.after {w w1 w2 : World} {F : List Nat} {b g b' g' x x' : Nat} {s s' : Sto} (h : Two w F b g b' g' s) (hx : x = b ∨ x = g) (hx' : x' = b' ∨ x' = g')
    (hp : ∃ ks Mp cM ms, StV w1 F b g 0 1 s' ks Mp cM ms) (g1 : w.grownBy w1 (some x)) (hd : ∀ ks Mp cM ms, StV w F b' g' 1 2 s ks Mp cM ms → StV w1 F b' g' 1 2 s ks Mp cM ms → ∃ ks Mp cM ms, StV w2 F b' g' 1 2 s' ks Mp cM ms) (g2 : w1.grownBy w2 (some x'))
    (h5 : ∃ bg, w1.cell? ⟨b, 5, none⟩ = some (.bool bg) ∧ (bg = false → s'.ve = 0)) (h0 : w2.cell? ⟨b', 0, none⟩ = some (.int .i64 s'.n)) : Two w2 F b g b' g' s' := by
  obtain ⟨f1, f2, f3, f4⟩ := h.bF
  obtain ⟨k1, k2, k3, k4, p⟩ := hp
  obtain ⟨l1, l2, l3, l4, d⟩ := h.d
  have xF : x ∈ F := by rcases hx with e | e <;> rw [e] <;> assumption
  have xF' : x' ∈ F := by rcases hx' with e | e <;> rw [e] <;> assumption
  have n1 := h.n1; have n2 := h.n2; have n3 := h.n3; have n4 := h.n4
  have d1 := d.spoil xF (by rcases hx with e | e <;> rw [e] <;> assumption) (by rcases hx with e | e <;> rw [e] <;> assumption) g1
  have p2 := p.spoil xF' (by rcases hx' with e | e <;> rw [e] <;> first | exact fun e => n1 e.symm | exact fun e => n2 e.symm) (by rcases hx' with e | e <;> rw [e] <;> first | exact fun e => n3 e.symm | exact fun e => n4 e.symm) g2
  obtain ⟨bg, q1, q2⟩ := h5
  refine ⟨⟨_, _, _, _, p2⟩, hd _ _ _ _ d d1, ⟨bg, ?_, q2⟩, h0, h.n1, h.n2, h.n3, h.n4⟩
  rw [World.cell?_of_block (a := ⟨b, 5, none⟩) (g2.block b (p.hi b f1) (by intro e; injection e with e; rcases hx' with e2 | e2 <;> omega))]
  exact q1
/-- A step of a script. -/
structure Opx where
  kd : Int
  q : Int
  inc : Int
  f : Fl
  fA : Option Addr
  fc : Nat
  fB : Option Addr
  fd : Nat
  e : Int
  l : Int
  i : Int
  c : Int
  who : List Mm
  wA : Option Addr
  wc : Nat
  ms : List Dr
  mA : Option Addr
  mc : Nat
abbrev opA (o : Opx) : Array Value := #[.int .i64 o.kd, .int .i64 o.q, .int .i64 o.inc, .int .i64 o.f.e, .int .i64 o.f.l, .int .i64 o.f.i, .int .i64 o.f.c, .int .i64 o.f.base, .slice o.fA o.f.slots.length o.fc, .slice o.fB o.f.have_.length o.fd, .int .i64 o.e, .int .i64 o.l, .int .i64 o.i, .int .i64 o.c, .slice o.wA o.who.length o.wc, .slice o.mA o.ms.length o.mc]
/-- Its lists lie below block N; they are not too long. -/
structure OpAt (w : World) (N : Nat) (o : Opx) : Prop where
  f : FlRows w N o.f o.fA o.fc o.fB o.fd
  who : RowAt w N 3 eMm o.wA o.who
  ms : Drs w N o.mA o.ms
  s1 : o.f.slots.length ≤ 1048576
  s2 : o.f.have_.length ≤ 1048576
  s3 : o.who.length ≤ 1048576
  s4 : SmallD (o.ms.map Dr.d)
theorem OpAt.below {w w' : World} {N N' : Nat} {o : Opx} (h : OpAt w N o) (hb : Below N' w w') (hN : N ≤ N') : OpAt w' N o :=
  ⟨h.f.below hb hN, h.who.below hb hN, ⟨h.ms.row.below hb hN, fun r h1 => (h.ms.each r h1).below hb hN⟩, h.s1, h.s2, h.s3, h.s4⟩
/-- The four blocks of the stores are from N on. -/
structure Hi (N b g b' g' : Nat) : Prop where
  h1 : N ≤ b
  h2 : N ≤ g
  h3 : N ≤ b'
  h4 : N ≤ g'
/-- What a step leaves. -/
def StPost (w : World) (N : Nat) (F : List Nat) (b g b' g' : Nat) (s : Sto) (x : Ending) (w' : World) : Prop :=
  x = .returned (.bool true) ∧ Two w' F b g b' g' s ∧ Below N w w'
theorem build66' (W : World) (a b : Int) : (Instr.build 66 #[(0, .int .i64 a), (1, .int .i64 b)]).run Try.prog W = .ok (.agg #[.int .i64 a, .int .i64 b]) W := by kernel_rfl
theorem one2 (a b : Int) : (#[.int .i64 a, .int .i64 b] : Array Value).all (·.oneCell') = true := by
  refine all_oneCell_toArray (cs := [.int .i64 a, .int .i64 b]) fun u hu => ?_
  simp at hu; rcases hu with rfl | rfl <;> rfl
theorem twinA_one (t : Tw) : ((eTw t).toArray).all (·.oneCell') = true := by
  refine all_oneCell_toArray (cs := eTw t) fun u hu => ?_
  simp [eTw] at hu; rcases hu with rfl | rfl | rfl | rfl | rfl | rfl | rfl | rfl | rfl <;> rfl
theorem fl_one (t : Tw) : ((flTw t).toArray).all (·.oneCell') = true := by
  refine all_oneCell_toArray (cs := flTw t) fun u hu => ?_
  simp [flTw] at hu; rcases hu with rfl | rfl | rfl | rfl | rfl | rfl | rfl <;> rfl
def zero57 : Value := .agg twz
theorem run_zero57 (W : World) : (zeroValue 57).run Try.prog W = .ok zero57 W := by kernel_rfl
def zero39 : Value := .agg #[.int .i64 0, .int .i64 0, .int .i64 0, .int .i64 0, .int .i64 0, .slice none 0 0, .slice none 0 0]
theorem run_zero39 (W : World) : (zeroValue 39).run Try.prog W = .ok zero39 W := by kernel_rfl
theorem TwOwn.thereS {w : World} {base : Nat} {t : Tw} (h : TwOwn w base t) : w.there t.g2 0 (t.f.slots.length * 2) ∧ base ≤ t.g2 ∧ t.g2 < w.heap.size := by
  refine ⟨fun j hj => ?_, h.s.lo _ rfl⟩
  rw [Nat.zero_add]
  refine ⟨?_, World.ownsRow.frozenAt h.s j⟩
  rw [World.ownsRow.cellAt h.s j (by rw [List.length_append]; simp; omega), List.getElem?_eq_getElem (by rw [length_flat len_eSlot, List.length_append]; simp; omega)]; rfl
theorem TwOwn.thereH {w : World} {base : Nat} {t : Tw} (h : TwOwn w base t) : w.there t.g4 0 t.f.have_.length ∧ base ≤ t.g4 ∧ t.g4 < w.heap.size := by
  refine ⟨fun j hj => ?_, h.h.lo _ rfl⟩
  rw [Nat.zero_add]
  refine ⟨?_, World.ownsRow.frozenAt h.h j⟩
  rw [World.ownsRow.cellAt h.h j (by rw [List.length_append]; simp; omega), List.getElem?_eq_getElem (by rw [length_flat len_eInt, List.length_append]; simp; omega)]; rfl
theorem row_prefix {α : Type} {w : World} {N sz : Nat} {enc : α → List Value} {A : Option Addr} {l m : List α} (h : RowAt w N sz enc A (l ++ m)) : RowAt w N sz enc A l := fun h0 => by
  obtain ⟨b, off, e, hb, hc⟩ := h (by rw [List.length_append]; omega)
  exact ⟨b, off, e, hb, fun k x hx => hc k x (by rw [List.getElem?_append_left (List.getElem?_eq_some_iff.1 hx).1]; exact hx)⟩
theorem TwOwn.rows {w : World} {base : Nat} {t : Tw} (h : TwOwn w base t) : FlRows w w.heap.size t.f (some ⟨t.g2, 0, none⟩) t.c2 (some ⟨t.g4, 0, none⟩) t.c4 := by
  have h1 := h.s.len
  have h2 := h.h.len
  rw [List.length_append] at h1 h2
  exact ⟨row_prefix (h.s.row len_eSlot), row_prefix (h.h.row len_eInt), by simp at h1; omega, h1.2, by simp at h2; omega, h2.2⟩
theorem Owns.same {α : Type} {w w' : World} {base sz c : Nat} {e : TypeId} {enc : α → List Value} {A : Option Addr} {l : List α} (h : Owns w base e sz enc A c l) (hb : ∀ g, blk A = some g → w'.heap[g]? = w.heap[g]?) : Owns w' base e sz enc A c l := by
  refine ⟨h.1, ?_⟩
  rcases h.2 with h2 | ⟨g, cap, cur, hv, h3, h4, h5⟩
  · exact .inl h2
  · injection hv with e1 e2 e3
    subst e1; subst e3
    exact .inr ⟨g, c, cur, rfl, h3, (hb g rfl).trans h4, h5⟩
theorem take_same (s : Sto) (q inc : Int) (f : Fl) : (s.take q inc f).2.ve = s.ve ∧ (s.take q inc f).2.n = s.n := by
  unfold Sto.take
  repeat' split
  all_goals exact ⟨rfl, rfl⟩
set_option maxRecDepth 100000 in
theorem takes_any {w : World} {F : List Nat} {b g b' g' : Nat} {s : Sto} {N : Nat} {o : Opx} (h : Two w F b g b' g' s) (hF : ∀ y, y ∈ F ↔ y = b ∨ y = g ∨ y = b' ∨ y = g') (hh : Hi N b g b' g') (hN : N ≤ w.heap.size) (ho : OpAt w N o) :
    Calls Try.prog 71 #[.pointer (some ⟨b, 0, none⟩), .pointer (some ⟨b', 0, none⟩), .agg (opA o)] w (StPost w N F b g b' g' (s.take o.q o.inc o.f).2) := by
  refine calls_vc tab_ok Try.func71 rfl ?_
  conv => whnf
  refine .mk fun wA hwA => ?_
  have hbA : Below w.heap.size w wA := by rw [hwA.out]; exact below_box1 _ _ _
  have zA : wA.heap.size = w.heap.size + 1 := by rw [hwA.out]; simp
  have oA : wA.rangeAt w.heap.size 0 (opA o).toList := by rw [hwA.out]; exact range_new w (opA o) 95
  clear hwA
  have hx : ∀ W, Below wA.heap.size wA W → W.rangeAt w.heap.size 0 (opA o).toList ∧ OpAt W N o := fun W hW =>
    ⟨range_same oA (hW.block w.heap.size (by omega)), (ho.below hbA hN).below hW (by omega)⟩
  have b0 : Below wA.heap.size wA wA := Below.refl _ _
  have Lf : Ld Try.prog 39 w.heap.size 3 (fun W => Below wA.heap.size wA W) (.agg (flc o.f.e o.f.l o.f.i o.f.c o.f.base o.fA o.f.slots.length o.fc o.fB o.f.have_.length o.fd)) := ⟨fun W hW => load39 (range_sub (n := 7) (hx W hW).1 3 rfl)⟩
  have Lq : Ld Try.prog 3 w.heap.size 1 (fun W => Below wA.heap.size wA W) (.int .i64 o.q) := ⟨fun W hW => load3 ((hx W hW).1 1 _ rfl)⟩
  have Li : Ld Try.prog 3 w.heap.size 2 (fun W => Below wA.heap.size wA W) (.int .i64 o.inc) := ⟨fun W hW => load3 ((hx W hW).1 2 _ rfl)⟩
  repeat (conv => whnf
          first
          | (refine VLoad.mk _ (Lf.at b0) ?_)
          | (refine VCmp.tt (by omega) ?_)
          | (refine VCmp.ff (by omega) ?_)
          | (refine VIn.mk (IntWalk.i64_in _ (by omega)) ?_)
          | (refine VIdx.mk _ rfl (by omega) ?_)
          | (refine VIdx.mk 0 rfl (by omega) ?_))
  try (conv => whnf)
  refine VCall.mk _ (twin_any o.f o.fA o.fB o.fc o.fd N wA (by omega) (hx _ b0).2.f (by have := ho.s1; omega) (by have := ho.s2; omega)) ?_
  rintro _ x1 ⟨t, htf, rfl, hto, b1⟩
  refine ⟨_, rfl, ?_⟩
  have zx1 := b1.size
  repeat (conv => whnf
          first
          | (refine VCmp.tt (by omega) ?_)
          | (refine VCmp.ff (by omega) ?_)
          | (refine VIn.mk (IntWalk.i64_in _ (by omega)) ?_)
          | (refine VIdx.mk _ rfl (by omega) ?_)
          | (refine VIdx.mk 0 rfl (by omega) ?_))
  try (conv => whnf)
  refine .mk _ run_zero57 ?_
  conv => whnf
  refine .mk fun x2 hx2 => ?_
  repeat (conv => whnf
          first
          | (refine VCmp.tt (by omega) ?_)
          | (refine VCmp.ff (by omega) ?_)
          | (refine VIn.mk (IntWalk.i64_in _ (by omega)) ?_)
          | (refine VIdx.mk _ rfl (by omega) ?_)
          | (refine VIdx.mk 0 rfl (by omega) ?_))
  try (conv => whnf)
  refine VStore.new (c' := (eTw t).toArray) hx2 (by kernel_rfl) rfl (twinA_one t) fun x3 hx3 => ?_
  have c3 : Below x1.heap.size x1 x3 := by rw [hx3.out]; exact (Below.refl _ _).alloc (Nat.le_refl _) _
  have z3 : x3.heap.size = x1.heap.size + 1 := by rw [hx3.out]; simp
  have r3 : x3.rangeAt x1.heap.size 0 (eTw t) := by rw [hx3.out]; exact range_new x1 (eTw t).toArray 57
  clear hx2 hx3 x2
  have Lt : Ld Try.prog 39 x1.heap.size 0 (Eq x3) (.agg (flTw t).toArray) := .of (load_agg (by kernel_rfl) (by kernel_rfl) (range_sub (n := 7) r3 0 rfl))
  repeat (conv => whnf
          first
          | (refine VLoad.mk _ Lt ?_)
          | (refine VCmp.tt (by omega) ?_)
          | (refine VCmp.ff (by omega) ?_)
          | (refine VIn.mk (IntWalk.i64_in _ (by omega)) ?_)
          | (refine VIdx.mk _ rfl (by omega) ?_)
          | (refine VIdx.mk 0 rfl (by omega) ?_))
  try (conv => whnf)
  refine .mk _ run_zero39 ?_
  conv => whnf
  refine .mk fun x4 hx4 => ?_
  repeat (conv => whnf
          first
          | (refine VCmp.tt (by omega) ?_)
          | (refine VCmp.ff (by omega) ?_)
          | (refine VIn.mk (IntWalk.i64_in _ (by omega)) ?_)
          | (refine VIdx.mk _ rfl (by omega) ?_)
          | (refine VIdx.mk 0 rfl (by omega) ?_))
  try (conv => whnf)
  refine VStore.new (c' := (flTw t).toArray) hx4 (by kernel_rfl) rfl (fl_one t) fun x5 hx5 => ?_
  have c5 : Below x3.heap.size x3 x5 := by rw [hx5.out]; exact (Below.refl _ _).alloc (Nat.le_refl _) _
  have z5 : x5.heap.size = x3.heap.size + 1 := by rw [hx5.out]; simp
  have r5 : x5.rangeAt x3.heap.size 0 (flTw t) := by rw [hx5.out]; exact range_new x3 (flTw t).toArray 39
  clear hx4 hx5 x4
  have b5 : Below wA.heap.size wA x5 := b1.trans ((c3.trans (c5.mono (by omega))).mono zx1)
  have r35 : x5.rangeAt x1.heap.size 0 (eTw t) := range_same r3 (c5.block _ (by omega))
  -- what holds from here on
  obtain ⟨ts, ts1, ts2⟩ := hto.thereS
  obtain ⟨th, th1, th2⟩ := hto.thereH
  have bw5 : Below w.heap.size w x5 := hbA.trans (b5.mono (by omega))
  have hF2 : ∀ y ∈ F ++ [t.g2, t.g4], y ∈ F ∨ w.heap.size ≤ y := fun y hy => by
    rcases List.mem_append.1 hy with e | e
    · exact .inl e
    · simp at e; rcases e with e | e <;> exact .inr (by omega)
  obtain ⟨f1, f2, f3, f4⟩ := h.bF
  have hi5 : ∀ y ∈ F ++ [t.g2, t.g4], y < x5.heap.size := fun y hy => by
    rcases List.mem_append.1 hy with e | e
    · have := h.hi y e; have := bw5.size; omega
    · simp at e; rcases e with e | e <;> omega
  have T5 : Two x5 (F ++ [t.g2, t.g4]) b g b' g' s := h.ext bw5 hF2 (fun y hy => List.mem_append.2 (.inl hy)) hi5
  have hto5 : TwOwn x5 w.heap.size t := by
    have c15 : Below x1.heap.size x1 x5 := c3.trans (c5.mono (by omega))
    exact ⟨(hto.s.keep c15 (fun q hq => (hto.s.lo q hq).2)).base (by omega), (hto.h.keep c15 (fun q hq => (hto.h.lo q hq).2)).base (by omega)⟩
  have hrt : FlRows x5 x5.heap.size t.f (some ⟨t.g2, 0, none⟩) t.c2 (some ⟨t.g4, 0, none⟩) t.c4 := hto5.rows
  clear hto ts th r3 c3 c5 zx1
  have hne2 : t.g2 ≠ b ∧ t.g2 ≠ g ∧ t.g2 ≠ b' ∧ t.g2 ≠ g' := by have := h.hi _ f1; have := h.hi _ f2; have := h.hi _ f3; have := h.hi _ f4; omega
  have hne4 : t.g4 ≠ b ∧ t.g4 ≠ g ∧ t.g4 ≠ b' ∧ t.g4 ≠ g' := by have := h.hi _ f1; have := h.hi _ f2; have := h.hi _ f3; have := h.hi _ f4; omega
  obtain ⟨tf, g2, c2, g4, c4⟩ := t
  dsimp only at htf
  subst htf
  dsimp only at *
  obtain ⟨k1, k2, k3, k4, P5⟩ := T5.p
  obtain ⟨l1, l2, l3, l4, D5⟩ := T5.d
  have Lt5 : Ld Try.prog 39 x3.heap.size 0 (Eq x5) (.agg (flTw ⟨o.f, g2, c2, g4, c4⟩).toArray) := .of (load_agg (by kernel_rfl) (by kernel_rfl) r5)
  repeat (conv => whnf
          first
          | (refine VLoad.mk _ (Lq.at b5) ?_)
          | (refine VLoad.mk _ (Li.at b5) ?_)
          | (refine VLoad.mk _ Lt5 ?_)
          | (refine VCmp.tt (by omega) ?_)
          | (refine VCmp.ff (by omega) ?_)
          | (refine VIn.mk (IntWalk.i64_in _ (by omega)) ?_)
          | (refine VIdx.mk _ rfl (by omega) ?_)
          | (refine VIdx.mk 0 rfl (by omega) ?_))
  try (conv => whnf)
  refine VCall.mk _ (take_any P5 o.q o.inc o.f (some ⟨g2, 0, none⟩) c2 (some ⟨g4, 0, none⟩) c4 x5.heap.size (Nat.le_refl _) hrt ho.s1 ho.s2) ?_
  rintro _ x6 ⟨rfl, ⟨k1', P6⟩, g6⟩
  refine ⟨_, rfl, ?_⟩
  obtain ⟨hve, hsn⟩ := take_same s o.q o.inc o.f
  have D6 := D5.spoil P5.gF h.n3 h.n4 g6
  have b56 : Below N x5 x6 := (Below.refl _ _).grown g6 (by omega) (by intro q hq; injection hq with hq; have := hh.h2; omega)
  have hgw := h.hi g f2
  have hgw' := h.hi g' f4
  have e6 : ∀ q, q < x5.heap.size → q ≠ g → x6.heap[q]? = x5.heap[q]? := fun q h1 h2 => g6.block q h1 (by intro e; injection e with e; exact h2 e)
  have o6 : x6.rangeAt w.heap.size 0 (opA o).toList := range_same (hx _ b5).1 (e6 _ (by omega) (by omega))
  have op6 : OpAt x6 N o := (hx _ b5).2.below b56 (Nat.le_refl _)
  have hd6 : x6.cell? ⟨b', 0, none⟩ = some (.int .i64 s.n) := by
    rw [World.cell?_of_block (a := ⟨b', 0, none⟩) (e6 b' (by have := h.hi b' f3; omega) h.n3.symm)]; exact T5.dn
  have Lf6 : Ld Try.prog 39 w.heap.size 3 (Eq x6) (.agg (flc o.f.e o.f.l o.f.i o.f.c o.f.base o.fA o.f.slots.length o.fc o.fB o.f.have_.length o.fd)) := .of (load39 (range_sub (n := 7) o6 3 rfl))
  have Lq6 : Ld Try.prog 3 w.heap.size 1 (Eq x6) (.int .i64 o.q) := .of (load3 (o6 1 _ rfl))
  have Li6 : Ld Try.prog 3 w.heap.size 2 (Eq x6) (.int .i64 o.inc) := .of (load3 (o6 2 _ rfl))
  have z6 := g6.size
  repeat (conv => whnf
          first
          | (refine VLoad.mk _ Lf6 ?_)
          | (refine VLoad.mk _ Lq6 ?_)
          | (refine VLoad.mk _ Li6 ?_)
          | (refine VCmp.tt (by omega) ?_)
          | (refine VCmp.ff (by omega) ?_)
          | (refine VIn.mk (IntWalk.i64_in _ (by omega)) ?_)
          | (refine VIdx.mk _ rfl (by omega) ?_)
          | (refine VIdx.mk 0 rfl (by omega) ?_))
  try (conv => whnf)
  refine VCall.mk _ (rtake_any D6 hd6 o.q o.inc o.f o.fA o.fc o.fB o.fd N (by omega) op6.f ho.s1 ho.s2) ?_
  rintro _ x7 ⟨rfl, ⟨l1', D7⟩, g7⟩
  refine ⟨_, rfl, ?_⟩
  have z7 := g7.size
  have e7 : ∀ q, q < x5.heap.size → q ≠ g → q ≠ g' → x7.heap[q]? = x5.heap[q]? := fun q h1 h2 h3 => (g7.block q (by omega) (by intro e; injection e with e; exact h3 e)).trans (e6 q h1 h2)
  have P7 := P6.spoil D6.gF (by intro e; exact h.n2 e.symm) (by intro e; exact h.n4 e.symm) g7
  have bN7 : Below N w x7 := ((bw5.mono hN).trans b56).grown g7 (by omega) (by intro q hq; injection hq with hq; have := hh.h4; omega)
  have T7 : Two x7 (F ++ [g2, g4]) b g b' g' (s.take o.q o.inc o.f).2 := by
    obtain ⟨bg, q1, q2⟩ := T5.pb
    refine ⟨⟨_, _, _, _, P7⟩, ⟨_, _, _, _, D7⟩, ⟨bg, ?_, by rw [hve]; exact q2⟩, ?_, h.n1, h.n2, h.n3, h.n4⟩
    · rw [World.cell?_of_block (a := ⟨b, 5, none⟩) (e7 b (by have := h.hi b f1; omega) (fun e => P5.bg e) h.n2)]; exact q1
    · rw [World.cell?_of_block (a := ⟨b', 0, none⟩) (e7 b' (by have := h.hi b' f3; omega) h.n3.symm (fun e => D5.bg e)), hsn]; exact T5.dn
  have o7 : x7.rangeAt w.heap.size 0 (opA o).toList := range_same (hx _ b5).1 (e7 _ (by omega) (by omega) (by omega))
  have op7 : OpAt x7 N o := ho.below bN7 (Nat.le_refl _)
  have r17 : x7.rangeAt x1.heap.size 0 (eTw ⟨o.f, g2, c2, g4, c4⟩) := range_same r35 (e7 _ (by omega) (by omega) (by omega))
  have r37 : x7.rangeAt x3.heap.size 0 (flTw ⟨o.f, g2, c2, g4, c4⟩) := range_same r5 (e7 _ (by omega) (by omega) (by omega))
  have hto7 : TwOwn x7 w.heap.size ⟨o.f, g2, c2, g4, c4⟩ := ⟨hto5.s.same (fun q hq => by injection hq with hq; subst hq; exact e7 g2 (by omega) hne2.2.1 hne2.2.2.2), hto5.h.same (fun q hq => by injection hq with hq; subst hq; exact e7 g4 (by omega) hne4.2.1 hne4.2.2.2)⟩
  have Lf7 : Ld Try.prog 39 w.heap.size 3 (Eq x7) (.agg (flc o.f.e o.f.l o.f.i o.f.c o.f.base o.fA o.f.slots.length o.fc o.fB o.f.have_.length o.fd)) := .of (load39 (range_sub (n := 7) o7 3 rfl))
  have Lt7 : Ld Try.prog 57 x1.heap.size 0 (Eq x7) (.agg (eTw ⟨o.f, g2, c2, g4, c4⟩).toArray) := .of (load_agg (by kernel_rfl) (by kernel_rfl) r17)
  clear e6 o6 op6 hd6 Lf6 Lq6 Li6 P5 P6 D5 D6 P7 D7 Lt5 r5 r35 b56 T5 hrt
  repeat (conv => whnf
          first
          | (refine VCmp.tt (by omega) ?_)
          | (refine VCmp.ff (by omega) ?_)
          | (refine VIn.mk (IntWalk.i64_in _ (by omega)) ?_)
          | (refine VIdx.mk _ rfl (by omega) ?_)
          | (refine VIdx.mk 0 rfl (by omega) ?_))
  try (conv => whnf)
  refine VCall.mk _ (num_any (s.take o.q o.inc o.f).1 x7) ?_
  rintro _ _ ⟨rfl, rfl⟩
  refine ⟨_, rfl, ?_⟩
  have hL := hto7.s.len
  have hL2 := hto7.h.len
  rw [List.length_append] at hL hL2
  repeat (conv => whnf
          first
          | (refine VLoad.mk _ Lf7 ?_)
          | (refine VLoad.mk _ Lt7 ?_)
          | (refine VCmp.tt (by omega) ?_)
          | (refine VCmp.ff (by omega) ?_)
          | (refine VIn.mk (IntWalk.i64_in _ (by omega)) ?_)
          | (refine VIdx.mk _ rfl (by omega) ?_)
          | (refine VIdx.mk 0 rfl (by omega) ?_))
  try (conv => whnf)
  refine VCall.mk _ (untouched_yes o.f o.f g2 g4 c2 c4 x7.heap.size o.fA o.fB o.fc o.fd x7 (Nat.le_refl _) (hto7.s.row len_eSlot) (hto7.h.row len_eInt) (by simpa using hL.1) hL.2 (by simpa using hL2.1) hL2.2 (op7.f.more (by have := bN7.size; omega)) rfl) ?_
  rintro _ x8 ⟨rfl, b8⟩
  refine ⟨_, rfl, ?_⟩
  have T8 := T7.below b8
  have bN8 : Below N w x8 := bN7.trans (b8.mono (by have := bN7.size; omega))
  have r8 : x8.rangeAt x3.heap.size 0 (flTw ⟨o.f, g2, c2, g4, c4⟩) := range_same r37 (b8.block _ (by omega))
  have t28 : x8.there g2 0 (o.f.slots.length * 2) := there_same hto7.thereS.1 (b8.block _ (by omega))
  have t48 : x8.there g4 0 o.f.have_.length := there_same hto7.thereH.1 (b8.block _ (by omega))
  have z8 := b8.size
  have m2 : g2 ∈ F ++ [g2, g4] := by simp
  have m4 : g4 ∈ F ++ [g2, g4] := by simp
  have hs1 := ho.s1
  have hs2 := ho.s2
  repeat (conv => whnf
          first
          | (refine VCmp.tt (by omega) ?_)
          | (refine VCmp.ff (by omega) ?_)
          | (refine VIn.mk (IntWalk.i64_in _ (by omega)) ?_)
          | (refine VIdx.mk _ rfl (by omega) ?_)
          | (refine VIdx.mk 0 rfl (by omega) ?_))
  try (conv => whnf)
  refine VLoop.mk Nat (fun k => [(8, .pointer (some ⟨x3.heap.size, 0, none⟩)), (11, .bool true), (12, .int .i64 k)]) (fun k W => k ≤ o.f.slots.length ∧ Two W (F ++ [g2, g4]) b g b' g' (s.take o.q o.inc o.f).2 ∧ Below N w W ∧ W.rangeAt x3.heap.size 0 (flTw ⟨o.f, g2, c2, g4, c4⟩) ∧ W.there g2 0 (o.f.slots.length * 2) ∧ W.there g4 0 o.f.have_.length ∧ x3.heap.size < W.heap.size) (fun k => o.f.slots.length - k) 0 ⟨rfl, rfl, rfl, trivial⟩ ⟨Nat.zero_le _, T8, bN8, r8, t28, t48, by omega⟩ ?_
  clear T8 bN8 r8 t28 t48 T7 bN7 r37 r17
  rintro k wr ⟨hk, Tk, bk, rk, t2k, t4k, zk⟩
  have Ls : Ld Try.prog 36 x3.heap.size 5 (Eq wr) (.slice (some ⟨g2, 0, none⟩) o.f.slots.length c2) := Ld.of (load36 (rk 5 _ rfl))
  by_cases hkl : k < o.f.slots.length
  case pos =>
    repeat (conv => whnf
            first
            | (refine VLoad.mk _ Ls ?_)
            | (refine VCmp.tt (by omega) ?_)
            | (refine VCmp.ff (by omega) ?_)
            | (refine VIn.mk (IntWalk.i64_in _ (by omega)) ?_)
            | (refine VIdx.mk _ rfl (by omega) ?_)
            | (refine VIdx.mk 0 rfl (by omega) ?_))
    try (conv => whnf)
    refine VBuild.mk _ (fun W => build66' W 1 (77 + k)) ?_
    repeat (conv => whnf
            first
            | (refine VLoad.mk _ Ls ?_)
            | (refine VCmp.tt (by omega) ?_)
            | (refine VCmp.ff (by omega) ?_)
            | (refine VIn.mk (IntWalk.i64_in _ (by omega)) ?_)
            | (refine VIdx.mk _ rfl (by omega) ?_)
            | (refine VIdx.mk 0 rfl (by omega) ?_))
    try (conv => whnf)
    refine VStore.mid (c := #[.int .i64 1, .int .i64 (77 + k)]) (by rw [Nat.zero_add]; exact World.there.at t2k (by show k * 2 + 2 ≤ _; omega)) (by kernel_rfl) (one2 1 _) fun w2 hw2 => ?_
    have hg2 : wr.grownBy w2 (some g2) := by rw [hw2.out]; exact grown_sets _ _ _ _
    have hne : x3.heap.size ≠ g2 := by omega
    repeat (conv => whnf
            first
            | (refine VCmp.tt (by omega) ?_)
            | (refine VCmp.ff (by omega) ?_)
            | (refine VIn.mk (IntWalk.i64_in _ (by omega)) ?_)
            | (refine VIdx.mk _ rfl (by omega) ?_)
            | (refine VIdx.mk 0 rfl (by omega) ?_))
    try (conv => whnf)
    exact .mk (k + 1) ⟨rfl, rfl, rfl, trivial⟩ ⟨hkl, Tk.spoil m2 hne2.1 hne2.2.1 hne2.2.2.1 hne2.2.2.2 hg2, bk.grown hg2 (by have := bk.size; omega) (by intro q hq; injection hq with hq; omega), range_same rk (hg2.block _ zk (by intro e; injection e with e; exact hne e)), by rw [hw2.out]; exact World.there_setCells t2k _ _ _, by rw [hw2.out]; exact World.there_setCells t4k _ _ _, by have := hg2.size; omega⟩ (by omega)
  case neg =>
    repeat (conv => whnf
            first
            | (refine VLoad.mk _ Ls ?_)
            | (refine VCmp.tt (by omega) ?_)
            | (refine VCmp.ff (by omega) ?_)
            | (refine VIn.mk (IntWalk.i64_in _ (by omega)) ?_)
            | (refine VIdx.mk _ rfl (by omega) ?_)
            | (refine VIdx.mk 0 rfl (by omega) ?_))
    try (conv => whnf)
    refine VLoop.mk Nat (fun k => [(8, .pointer (some ⟨x3.heap.size, 0, none⟩)), (11, .bool true), (13, .int .i64 k)]) (fun k W => k ≤ o.f.have_.length ∧ Two W (F ++ [g2, g4]) b g b' g' (s.take o.q o.inc o.f).2 ∧ Below N w W ∧ W.rangeAt x3.heap.size 0 (flTw ⟨o.f, g2, c2, g4, c4⟩) ∧ W.there g4 0 o.f.have_.length ∧ x3.heap.size < W.heap.size) (fun k => o.f.have_.length - k) 0 ⟨rfl, rfl, rfl, trivial⟩ ⟨Nat.zero_le _, Tk, bk, rk, t4k, zk⟩ ?_
    clear Tk bk rk t2k t4k zk Ls
    rintro j wi ⟨hj, Tk, bk, rk, t4k, zk⟩
    have Lh : Ld Try.prog 37 x3.heap.size 6 (Eq wi) (.slice (some ⟨g4, 0, none⟩) o.f.have_.length c4) := Ld.of (load37 (rk 6 _ rfl))
    by_cases hjl : j < o.f.have_.length
    case pos =>
      repeat (conv => whnf
              first
              | (refine VLoad.mk _ Lh ?_)
              | (refine VCmp.tt (by omega) ?_)
              | (refine VCmp.ff (by omega) ?_)
              | (refine VIn.mk (IntWalk.i64_in _ (by omega)) ?_)
              | (refine VIdx.mk _ rfl (by omega) ?_)
              | (refine VIdx.mk 0 rfl (by omega) ?_))
      try (conv => whnf)
      refine VStore.cell (by kernel_rfl) (t4k j hjl).1 (t4k j hjl).2 rfl rfl fun w2 hw2 => ?_
      have hg2 : wi.grownBy w2 (some g4) := by rw [hw2.out]; exact grown_cell _ _ _ _
      have hne : x3.heap.size ≠ g4 := by omega
      repeat (conv => whnf
              first
              | (refine VCmp.tt (by omega) ?_)
              | (refine VCmp.ff (by omega) ?_)
              | (refine VIn.mk (IntWalk.i64_in _ (by omega)) ?_)
              | (refine VIdx.mk _ rfl (by omega) ?_)
              | (refine VIdx.mk 0 rfl (by omega) ?_))
      try (conv => whnf)
      exact .mk (j + 1) ⟨rfl, rfl, rfl, trivial⟩ ⟨hjl, Tk.spoil m4 hne4.1 hne4.2.1 hne4.2.2.1 hne4.2.2.2 hg2, bk.grown hg2 (by have := bk.size; omega) (by intro q hq; injection hq with hq; omega), range_same rk (hg2.block _ zk (by intro e; injection e with e; exact hne e)), by rw [hw2.out]; exact there_set t4k _ _, by have := hg2.size; omega⟩ (by omega)
    case neg =>
      repeat (conv => whnf
              first
              | (refine VLoad.mk _ Lh ?_)
              | (refine VCmp.tt (by omega) ?_)
              | (refine VCmp.ff (by omega) ?_)
              | (refine VIn.mk (IntWalk.i64_in _ (by omega)) ?_)
              | (refine VIdx.mk _ rfl (by omega) ?_)
              | (refine VIdx.mk 0 rfl (by omega) ?_))
      try (conv => whnf)
      exact .mk ⟨rfl, Tk.less (fun y hy => List.mem_append.2 (.inl hy)) f1 f2 f3 f4, bk⟩
end Go.Proofs.Ytcffhfcjfjfokaa
/- The law's adds: an Add of both stores; what was handed in is written over. -/
namespace Go.Proofs.Ytcffhfcjfjfokaa
open Go.RowKit
theorem OwnMs.drs {w : World} {base c : Nat} {B : Option Addr} {rs : List Dr} (h : OwnMs w base B c rs) : Drs w w.heap.size B rs := ⟨h.own.row len_eDr, fun r hr => ⟨(h.far r hr).2.row, (h.far r hr).1.1, (h.far r hr).1.2⟩⟩
theorem OwnMs.same {w w' : World} {base c : Nat} {B : Option Addr} {rs : List Dr} (h : OwnMs w base B c rs) (hs : w.heap.size ≤ w'.heap.size) (hk : ∀ k, base ≤ k → k < w.heap.size → w'.heap[k]? = w.heap[k]?) : OwnMs w' base B c rs :=
  ⟨h.own.same fun g hg => hk g (h.own.lo g hg).1 (h.own.lo g hg).2, fun r hr => ⟨(h.far r hr).1, fun h0 => by
    obtain ⟨g, off, e, h1, h2, h3⟩ := (h.far r hr).2 h0
    obtain ⟨q, e2, q1, q2, _⟩ := h.wr r hr h0
    rw [e] at e2; injection e2 with e2; injection e2 with e2 e3; subst e2
    exact ⟨g, off, e, h1, by omega, fun k x hx j u hu => (World.cell?_of_block (a := ⟨g, _, none⟩) (hk g q1 q2)).trans (h3 k x hx j u hu)⟩⟩, fun r hr => (h.wr r hr).same hs fun g _ q1 q2 => hk g q1 q2⟩
/-- The blocks of messages. -/
def blks (B : Option Addr) (rs : List Dr) : List Nat := (blk B).toList ++ (rs.filter fun r => decide (0 < r.d.body.length)).flatMap fun r => (blk r.B).toList
theorem blks_row {B : Option Addr} {rs : List Dr} {g : Nat} (h : blk B = some g) : g ∈ blks B rs := List.mem_append.2 (.inl (by rw [h]; simp))
theorem blks_body {B : Option Addr} {rs : List Dr} {r : Dr} {g : Nat} (hr : r ∈ rs) (h0 : 0 < r.d.body.length) (h : blk r.B = some g) : g ∈ blks B rs :=
  List.mem_append.2 (.inr (List.mem_flatMap.2 ⟨r, List.mem_filter.2 ⟨hr, by simpa using h0⟩, by rw [h]; simp⟩))
theorem OwnMs.blks {w : World} {base c : Nat} {B : Option Addr} {rs : List Dr} (h : OwnMs w base B c rs) : ∀ y ∈ blks B rs, base ≤ y ∧ y < w.heap.size := fun y hy => by
  rcases List.mem_append.1 hy with e | e
  · rw [Option.mem_toList] at e; exact h.own.lo y e
  · obtain ⟨r, hr, e⟩ := List.mem_flatMap.1 e
    obtain ⟨hr, h0⟩ := List.mem_filter.1 hr
    rw [Option.mem_toList] at e
    obtain ⟨q, e2, q1, q2, _⟩ := h.wr r hr (by simpa using h0)
    have e : blk r.B = some y := e
    rw [e2] at e
    have : q = y := by simpa [blk] using e
    omega
theorem addS_same (s : Sto) (e l i c : Int) (ds : List Dt) : (s.addS e l i c ds).2.ve = s.ve ∧ (s.addS e l i c ds).2.n = s.n := by
  unfold Sto.addS
  repeat' split
  all_goals exact ⟨rfl, rfl⟩
theorem build157 (W : World) (e l i c : Int) (A : Option Addr) (n cA : Nat) : (Instr.build 157 #[(0, .agg #[.int .i64 e, .int .i64 l, .int .i64 i, .int .i64 c]), (1, .slice A n cA)]).run Try.prog W = .ok (.agg (fwc e l i c A n cA)) W := by kernel_rfl
set_option maxRecDepth 100000 in
theorem adds_any {w : World} {F : List Nat} {b g b' g' : Nat} {s : Sto} {N : Nat} {o : Opx} (h : Two w F b g b' g' s) (hF : ∀ y, y ∈ F ↔ y = b ∨ y = g ∨ y = b' ∨ y = g') (hh : Hi N b g b' g') (hN : N ≤ w.heap.size) (ho : OpAt w N o) :
    Calls Try.prog 77 #[.pointer (some ⟨b, 0, none⟩), .pointer (some ⟨b', 0, none⟩), .agg (opA o)] w (StPost w N F b g b' g' (s.addS o.e o.l o.i o.c (o.ms.map Dr.d)).2) := by
  refine calls_vc tab_ok Try.func77 rfl ?_
  conv => whnf
  refine .mk fun wA hwA => ?_
  have hbA : Below w.heap.size w wA := by rw [hwA.out]; exact below_box1 _ _ _
  have zA : wA.heap.size = w.heap.size + 1 := by rw [hwA.out]; simp
  have oA : wA.rangeAt w.heap.size 0 (opA o).toList := by rw [hwA.out]; exact range_new w (opA o) 95
  clear hwA
  have hx : ∀ W, Below wA.heap.size wA W → W.rangeAt w.heap.size 0 (opA o).toList ∧ OpAt W N o := fun W hW =>
    ⟨range_same oA (hW.block w.heap.size (by omega)), (ho.below hbA hN).below hW (by omega)⟩
  have b0 : Below wA.heap.size wA wA := Below.refl _ _
  obtain ⟨f1, f2, f3, f4⟩ := h.bF
  have hbw := h.hi b f1
  have hbw' := h.hi b' f3
  have hgw := h.hi g f2
  have hgw' := h.hi g' f4
  have Lm : Ld Try.prog 40 w.heap.size 15 (fun W => W.rangeAt w.heap.size 0 (opA o).toList) (.slice o.mA o.ms.length o.mc) := ⟨fun W hW => load40 (hW 15 _ rfl)⟩
  have Lp : Ld Try.prog 35 w.heap.size 10 (fun W => W.rangeAt w.heap.size 0 (opA o).toList) (.agg #[.int .i64 o.e, .int .i64 o.l, .int .i64 o.i, .int .i64 o.c]) := ⟨fun W hW => load35 (range_sub (n := 4) hW 10 rfl)⟩
  repeat (conv => whnf
          first
          | (refine VLoad.mk _ (Lm.at oA) ?_)
          | (refine VCmp.tt (by omega) ?_)
          | (refine VCmp.ff (by omega) ?_)
          | (refine VIn.mk (IntWalk.i64_in _ (by omega)) ?_)
          | (refine VIdx.mk _ rfl (by omega) ?_)
          | (refine VIdx.mk 0 rfl (by omega) ?_))
  try (conv => whnf)
  refine VCall.mk _ (datas_own o.mA o.mc N o.ms wA (by omega) (hx _ b0).2.ms ho.s4) ?_
  rintro _ x1 ⟨B, c, rs, rfl, hrs, hown, b1⟩
  refine ⟨_, rfl, ?_⟩
  have hlen : rs.length = o.ms.length := by rw [← List.length_map (f := Dr.d), hrs, List.length_map]
  have bw1 : Below w.heap.size w x1 := hbA.trans (b1.mono (by omega))
  have z1 := b1.size
  have hblk := hown.blks
  have T1 : Two x1 (F ++ blks B rs) b g b' g' s := h.ext bw1 (fun y hy => (List.mem_append.1 hy).imp id (fun e => by have := (hblk y e).1; omega)) (fun y hy => List.mem_append.2 (.inl hy)) (fun y hy => by
    rcases List.mem_append.1 hy with e | e
    · have := h.hi y e; omega
    · exact (hblk y e).2)
  obtain ⟨k1, k2, k3, k4, P1⟩ := T1.p
  obtain ⟨l1, l2, l3, l4, D1⟩ := T1.d
  obtain ⟨bg, q1, q2⟩ := T1.pb
  have r1 := (hx _ b1).1
  repeat (conv => whnf
          first
          | (refine VLoad.mk _ (Lp.at r1) ?_)
          | (refine VCmp.tt (by omega) ?_)
          | (refine VCmp.ff (by omega) ?_)
          | (refine VIn.mk (IntWalk.i64_in _ (by omega)) ?_)
          | (refine VIdx.mk _ rfl (by omega) ?_)
          | (refine VIdx.mk 0 rfl (by omega) ?_))
  try (conv => whnf)
  refine VBuild.mk _ (fun W => build157 W o.e o.l o.i o.c B _ c) ?_
  rw [List.length_map, ← hlen]
  repeat (conv => whnf
          first
          | (refine VCmp.tt (by omega) ?_)
          | (refine VCmp.ff (by omega) ?_)
          | (refine VIn.mk (IntWalk.i64_in _ (by omega)) ?_)
          | (refine VIdx.mk _ rfl (by omega) ?_)
          | (refine VIdx.mk 0 rfl (by omega) ?_))
  try (conv => whnf)
  refine VCall.mk _ (add_any P1 bg q1 q2 o.e o.l o.i o.c rs B c x1.heap.size (Nat.le_refl _) hown.drs) ?_
  rw [hrs]
  rintro _ x2 ⟨rfl, hP2, g2, hc2⟩
  refine ⟨_, rfl, ?_⟩
  obtain ⟨hve, hsn⟩ := addS_same s o.e o.l o.i o.c (o.ms.map Dr.d)
  have z2 := g2.size
  have e2 : ∀ q, q < x1.heap.size → q ≠ b → x2.heap[q]? = x1.heap[q]? := fun q h1 h2 => g2.block q h1 (by intro e; injection e with e; exact h2 e)
  have D2 := D1.spoil P1.bF h.n1 h.n2 g2
  have r2 : x2.rangeAt w.heap.size 0 (opA o).toList := range_same r1 (e2 _ (by omega) (by omega))
  have b12 : Below N w x2 := (bw1.mono hN).grown g2 (by omega) (by intro q hq; injection hq with hq; have := hh.h1; omega)
  have own2 : OwnMs x2 wA.heap.size B c rs := hown.same z2 (fun k h1 h2 => e2 k h2 (by omega))
  have r2d : x2.drew.rangeAt w.heap.size 0 (opA o).toList := range_same r2 rfl
  have op2 : OpAt x2.drew N o := ho.below (b12.trans ((Below.refl _ _).drew)) (Nat.le_refl _)
  repeat (conv => whnf
          first
          | (refine VCmp.tt (by omega) ?_)
          | (refine VCmp.ff (by omega) ?_)
          | (refine VIn.mk (IntWalk.i64_in _ (by omega)) ?_)
          | (refine VIdx.mk _ rfl (by omega) ?_)
          | (refine VIdx.mk 0 rfl (by omega) ?_))
  try (conv => whnf)
  refine VDraw.mk 1000 [([0, 1, 2, 3, 4], 5), ([6], 7)] [8] (fun W => W.rangeAt w.heap.size 0 (opA o).toList) (by kernel_rfl) (by kernel_rfl) (r2d) ?_
  repeat (conv => whnf
          first
          | (refine VLoad.mk _ Lp ?_)
          | (refine VLoad.mk _ Lm ?_)
          | (refine VCmp.tt (by omega) ?_)
          | (refine VCmp.ff (by omega) ?_)
          | (refine VIn.mk (IntWalk.i64_in _ (by omega)) ?_)
          | (refine VIdx.mk _ rfl (by omega) ?_)
          | (refine VIdx.mk 0 rfl (by omega) ?_))
  try (conv => whnf)
  refine VCall.mk _ (datas_own o.mA o.mc N o.ms x2.drew (by show N ≤ x2.heap.size; omega) op2.ms ho.s4) ?_
  rintro _ x3 ⟨B3, c3, rs3, rfl, hrs3, hown3, b3⟩
  refine ⟨_, rfl, ?_⟩
  have c23 : Below x2.heap.size x2 x3 := ((Below.refl _ _).drew).trans b3
  have r3 : x3.rangeAt w.heap.size 0 (opA o).toList := range_same r2 (c23.block _ (by omega))
  have hlen3 : rs3.length = o.ms.length := by rw [← List.length_map (f := Dr.d), hrs3, List.length_map]
  have z3 := c23.size
  repeat (conv => whnf
          first
          | (refine VS.mk r3 ?_)
          | (refine VCmp.tt (by omega) ?_)
          | (refine VCmp.ff (by omega) ?_)
          | (refine VIn.mk (IntWalk.i64_in _ (by omega)) ?_)
          | (refine VIdx.mk _ rfl (by omega) ?_)
          | (refine VIdx.mk 0 rfl (by omega) ?_))
  try (conv => whnf)
  refine VBuild.mk _ (fun W => build157 W o.e o.l o.i o.c B3 _ c3) ?_
  rw [List.length_map, ← hlen3]
  repeat (conv => whnf
          first
          | (refine VCmp.tt (by omega) ?_)
          | (refine VCmp.ff (by omega) ?_)
          | (refine VIn.mk (IntWalk.i64_in _ (by omega)) ?_)
          | (refine VIdx.mk _ rfl (by omega) ?_)
          | (refine VIdx.mk 0 rfl (by omega) ?_))
  try (conv => whnf)
  have D3 := D2.below c23
  have hd3 : x3.cell? ⟨b', 0, none⟩ = some (.int .i64 s.n) := by
    rw [World.cell?_of_block (a := ⟨b', 0, none⟩) ((c23.block b' (by omega)).trans (e2 b' (by omega) h.n1.symm))]; exact T1.dn
  refine VCall.mk _ (radd_any D3 hd3 o.e o.l o.i o.c rs3 B3 c3 x3.heap.size (Nat.le_refl _) hown3.drs) ?_
  rw [hrs3]
  rintro _ x4 ⟨rfl, hD4, g4, hc4⟩
  refine ⟨_, rfl, ?_⟩
  have z4 := g4.size
  have e4 : ∀ q, q < x3.heap.size → q ≠ b' → x4.heap[q]? = x3.heap[q]? := fun q h1 h2 => g4.block q h1 (by intro e; injection e with e; exact h2 e)
  have e42 : ∀ q, q < x2.heap.size → q ≠ b' → x4.heap[q]? = x2.heap[q]? := fun q h1 h2 => (e4 q (by omega) h2).trans (c23.block q h1)
  have r4 : x4.rangeAt w.heap.size 0 (opA o).toList := range_same r3 (e4 _ (by omega) (by omega))
  have own4 : OwnMs x4 wA.heap.size B c rs := own2.same (by omega) (fun k h1 h2 => e42 k h2 (by omega))
  have b4 : Below N w x4 := (b12.trans (c23.mono (by omega))).grown g4 (by omega) (by intro q hq; injection hq with hq; have := hh.h3; omega)
  have T4 : Two x4 (F ++ blks B rs) b g b' g' (s.addS o.e o.l o.i o.c (o.ms.map Dr.d)).2 := by
    obtain ⟨_, _, _, P2⟩ := hP2
    obtain ⟨_, _, _, D4⟩ := hD4
    have P4 := (P2.below c23).spoil D3.bF (by intro e; exact h.n1 e.symm) (by intro e; exact h.n3 e.symm) g4
    refine ⟨⟨_, _, _, _, P4⟩, ⟨_, _, _, _, D4⟩, ⟨bg, ?_, by rw [hve]; exact q2⟩, ?_, h.n1, h.n2, h.n3, h.n4⟩
    · rw [World.cell?_of_block (a := ⟨b, 5, none⟩) (e42 b (by omega) h.n1), hc2 5 (by omega)]; exact q1
    · rw [hc4 0 (by omega), hsn]; exact hd3
  have d4 : Dts x4 x4.heap.size B (o.ms.map Dr.d) := by rw [← hrs]; exact own4.dts
  have dm4 : Dts x4 x4.heap.size o.mA (o.ms.map Dr.d) := ⟨o.ms, rfl, (ho.below b4 (Nat.le_refl _)).ms.row.more (by omega), fun r hr => ((ho.below b4 (Nat.le_refl _)).ms.each r hr).more (by omega)⟩
  have hsl := ho.s4.1
  rw [List.length_map] at hsl
  repeat (conv => whnf
          first
          | (refine VS.mk r4 ?_)
          | (refine VCmp.tt (by omega) ?_)
          | (refine VCmp.ff (by omega) ?_)
          | (refine VIn.mk (IntWalk.i64_in _ (by omega)) ?_)
          | (refine VIdx.mk _ rfl (by omega) ?_)
          | (refine VIdx.mk 0 rfl (by omega) ?_))
  try (conv => whnf)
  refine VCall.mk _ (num_any (s.addS o.e o.l o.i o.c (o.ms.map Dr.d)).1 x4) ?_
  rintro _ _ ⟨rfl, rfl⟩
  refine ⟨_, rfl, ?_⟩
  repeat (conv => whnf
          first
          | (refine VLoad.mk _ (Lm.at r4) ?_)
          | (refine VCmp.tt (by omega) ?_)
          | (refine VCmp.ff (by omega) ?_)
          | (refine VIn.mk (IntWalk.i64_in _ (by omega)) ?_)
          | (refine VIdx.mk _ rfl (by omega) ?_)
          | (refine VIdx.mk 0 rfl (by omega) ?_))
  try (conv => whnf)
  rw [hlen]
  have hsd := sameDatas_yes B o.mA c o.mc x4.heap.size (o.ms.map Dr.d) x4 (Nat.le_refl _) d4 dm4 (by rw [List.length_map]; omega)
  rw [List.length_map] at hsd
  refine VCall.mk _ hsd ?_
  rintro _ x5 ⟨rfl, b5⟩
  refine ⟨_, rfl, ?_⟩
  have own5 := own4.same b5.size (fun k h1 h2 => b5.block k h2)
  have T5 := T4.below b5
  have b55 : Below N w x5 := b4.trans (b5.mono (by omega))
  have hsz : ∀ r ∈ rs, r.d.body.length ≤ 1048576 := fun r hr => ho.s4.2 r.d (by rw [← hrs]; exact List.mem_map.2 ⟨r, hr, rfl⟩)
  have hbb : ∀ y, y ∈ blks B rs → y ∈ F ++ blks B rs ∧ y ≠ b ∧ y ≠ g ∧ y ≠ b' ∧ y ≠ g' ∧ N ≤ y := fun y hy => by
    have := (hblk y hy).1
    exact ⟨List.mem_append.2 (.inr hy), by omega, by omega, by omega, by omega, by omega⟩
  rw [← hlen]
  rw [← hlen] at hsl
  repeat (conv => whnf
          first
          | (refine VCmp.tt (by omega) ?_)
          | (refine VCmp.ff (by omega) ?_)
          | (refine VIn.mk (IntWalk.i64_in _ (by omega)) ?_)
          | (refine VIdx.mk _ rfl (by omega) ?_)
          | (refine VIdx.mk 0 rfl (by omega) ?_))
  try (conv => whnf)
  refine VLoop.mk Nat (fun k => [(7, .slice B rs.length c), (10, .bool true), (11, .int .i64 k)]) (fun k W => k ≤ rs.length ∧ (0 < rs.length → ∃ gB, B = some ⟨gB, 0, none⟩ ∧ WrM W wA.heap.size gB rs k) ∧ Below N w W ∧ Two W (F ++ blks B rs) b g b' g' (s.addS o.e o.l o.i o.c (o.ms.map Dr.d)).2) (fun k => rs.length - k) 0 ⟨rfl, rfl, rfl, trivial⟩ ⟨Nat.zero_le _, fun h0 => own5.wrm h0, b55, T5⟩ ?_
  clear T5 b55 own5 b5 own4 T4 b4 r4
  rintro k wr ⟨hk, hwm, br, Tr⟩
  by_cases hkl : k < rs.length
  case neg =>
    repeat (conv => whnf
            first
            | (refine VCmp.tt (by omega) ?_)
            | (refine VCmp.ff (by omega) ?_)
            | (refine VIn.mk (IntWalk.i64_in _ (by omega)) ?_)
            | (refine VIdx.mk _ rfl (by omega) ?_)
            | (refine VIdx.mk 0 rfl (by omega) ?_))
    try (conv => whnf)
    exact .mk ⟨rfl, Tr.less (fun y hy => List.mem_append.2 (.inl hy)) f1 f2 f3 f4, br⟩
  obtain ⟨gB, hBe, hw⟩ := hwm (by omega)
  obtain ⟨m1, m2, m3, m4, m5, m6⟩ := hbb gB (blks_row (by rw [hBe]; rfl))
  have hrk : rs[k]? = some rs[k] := List.getElem?_eq_getElem hkl
  have hmem : rs[k] ∈ rs := List.getElem_mem _
  have hbl := hsz rs[k] hmem
  generalize rs[k] = r at hrk hmem hbl
  have hbody : 0 < r.d.body.length → ∀ q, blk r.B = some q → q ∈ F ++ blks B rs ∧ q ≠ b ∧ q ≠ g ∧ q ≠ b' ∧ q ≠ g' ∧ N ≤ q := fun h0 q hq => hbb q (blks_body hmem h0 hq)
  generalize hFF : F ++ blks B rs = F' at *
  subst hBe
  repeat (conv => whnf
          first
          | (refine VCmp.tt (by omega) ?_)
          | (refine VCmp.ff (by omega) ?_)
          | (refine VIn.mk (IntWalk.i64_in _ (by omega)) ?_)
          | (refine VIdx.mk _ rfl (by omega) ?_)
          | (refine VIdx.mk 0 rfl (by omega) ?_))
  try (conv => whnf)
  refine VLoop.mk Nat (fun j => [(7, .slice (some ⟨gB, 0, none⟩) rs.length c), (10, .bool true), (11, .int .i64 k), (12, .int .i64 j)]) (fun j W => j ≤ r.d.body.length ∧ WrM W wA.heap.size gB rs k ∧ Below N w W ∧ Two W F' b g b' g' (s.addS o.e o.l o.i o.c (o.ms.map Dr.d)).2) (fun j => r.d.body.length - j) 0 ⟨rfl, rfl, rfl, rfl, trivial⟩ ⟨Nat.zero_le _, hw, br, Tr⟩ ?_
  clear hw hwm br Tr
  rintro j wi ⟨hj, hw, bi, Ti⟩
  have hcell : wi.rangeAt gB (0 + k * 4) (eDr r) := by rw [Nat.zero_add]; exact hw.row k r (Nat.le_refl _) hrk
  have Lb := Ld.of (load52 (hcell 3 _ rfl))
  have zi := bi.size
  by_cases hjl : j < r.d.body.length
  case pos =>
    obtain ⟨q, hB, q1, q2, q3⟩ := (hw.wr r hmem).1 (by omega)
    obtain ⟨n1, n2, n3, n4, n5, n6⟩ := hbody (by omega) q (by rw [hB]; rfl)
    rw [hB] at Lb
    repeat (conv => whnf
            first
            | (refine VLoad.mk _ Lb ?_)
            | (refine VCmp.tt (by omega) ?_)
            | (refine VCmp.ff (by omega) ?_)
            | (refine VIn.mk (IntWalk.i64_in _ (by omega)) ?_)
            | (refine VIdx.mk _ rfl (by omega) ?_)
            | (refine VIdx.mk 0 rfl (by omega) ?_))
    try (conv => whnf)
    refine VStore.cell (by kernel_rfl) (q3 j hjl).1 (q3 j hjl).2 rfl rfl fun w2 hw2 => ?_
    have hw' : WrM w2 wA.heap.size gB rs k := by rw [hw2.out]; exact hw.byte hmem (by omega) hB _ _
    have hg2 : wi.grownBy w2 (some q) := by rw [hw2.out]; exact grown_cell _ _ _ _
    repeat (conv => whnf
            first
            | (refine VCmp.tt (by omega) ?_)
            | (refine VCmp.ff (by omega) ?_)
            | (refine VIn.mk (IntWalk.i64_in _ (by omega)) ?_)
            | (refine VIdx.mk _ rfl (by omega) ?_)
            | (refine VIdx.mk 0 rfl (by omega) ?_))
    try (conv => whnf)
    exact .mk (j + 1) ⟨rfl, rfl, rfl, rfl, trivial⟩ ⟨hjl, hw', bi.grown hg2 (by omega) (by intro x hx; injection hx with hx; omega), Ti.spoil n1 n2 n3 n4 n5 hg2⟩ (by omega)
  case neg =>
    repeat (conv => whnf
            first
            | (refine VLoad.mk _ Lb ?_)
            | (refine VCmp.tt (by omega) ?_)
            | (refine VCmp.ff (by omega) ?_)
            | (refine VIn.mk (IntWalk.i64_in _ (by omega)) ?_)
            | (refine VIdx.mk _ rfl (by omega) ?_)
            | (refine VIdx.mk 0 rfl (by omega) ?_))
    try (conv => whnf)
    refine VBuild.mk _ (fun W => build113 W 3 33) ?_
    repeat (conv => whnf
            first
            | (refine VCmp.tt (by omega) ?_)
            | (refine VCmp.ff (by omega) ?_)
            | (refine VIn.mk (IntWalk.i64_in _ (by omega)) ?_)
            | (refine VIdx.mk _ rfl (by omega) ?_)
            | (refine VIdx.mk 0 rfl (by omega) ?_))
    try (conv => whnf)
    refine VStore.mid (c := #[.int .i64 3, .int .i64 33, .int .i64 0, .slice none 0 0]) (by rw [Nat.zero_add]; exact World.there.at hw.there (by show k * 4 + 4 ≤ _; omega)) (by kernel_rfl) (one4 3 33) fun w2 hw2 => ?_
    have hw2' : w2 = wi.setCells gB (k * 4) [.int .i64 3, .int .i64 33, .int .i64 0, .slice none 0 0] := by rw [hw2.out, Nat.zero_add]; rfl
    have hw' : WrM w2 wA.heap.size gB rs (k + 1) := by rw [hw2']; exact hw.put hkl _ rfl
    have hg2 : wi.grownBy w2 (some gB) := by rw [hw2']; exact grown_sets _ _ _ _
    repeat (conv => whnf
            first
            | (refine VCmp.tt (by omega) ?_)
            | (refine VCmp.ff (by omega) ?_)
            | (refine VIn.mk (IntWalk.i64_in _ (by omega)) ?_)
            | (refine VIdx.mk _ rfl (by omega) ?_)
            | (refine VIdx.mk 0 rfl (by omega) ?_))
    try (conv => whnf)
    exact .mk (k + 1) ⟨rfl, rfl, rfl, trivial⟩ ⟨hkl, fun _ => ⟨gB, rfl, hw'⟩, bi.grown hg2 (by omega) (by intro x hx; injection hx with hx; omega), Ti.spoil m1 m2 m3 m4 m5 hg2⟩ (by omega)
end Go.Proofs.Ytcffhfcjfjfokaa
