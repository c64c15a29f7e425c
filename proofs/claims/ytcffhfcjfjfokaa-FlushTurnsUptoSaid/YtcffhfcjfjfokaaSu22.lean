/- Join RAdd Two Untouched Rcut, joined. -/
import Derived.Test.YtcffhfcjfjfokaaSu4
import Derived.Test.YtcffhfcjfjfokaaSu14
import Derived.Test.YtcffhfcjfjfokaaSu21
set_option linter.unusedVariables false
set_option linter.unusedSimpArgs false
namespace Go.Proofs.Ytcffhfcjfjfokaa
open Go.RowKit
theorem bytes_any {w : World} (N : Nat) (B1 B2 : Option Addr) (c1 c2 : Nat) (x y : List Int) (h1 : RowAt w N 1 eByte B1 x) (h2 : RowAt w N 1 eByte B2 y) :
    Calls Try.prog 111 #[.slice B1 x.length c1, .slice B2 y.length c2] w fun e w' => e = .returned (.bool (decide ((strOfNums x).toList = (strOfNums y).toList))) ∧ w = w' := by
  refine calls_vc tab_ok Try.func111 rfl ?_
  have e1 := Cv.of (run_body (c := c1) h1)
  have e2 := Cv.of (run_body (c := c2) h2)
  by_cases h : (strOfNums x).toList = (strOfNums y).toList
  · repeat ((conv => whnf); first | (refine VConv.mk _ e1 ?_) | (refine VConv.mk _ e2 ?_) | (refine VCmp.tt h ?_) | (refine VCmp.tt (by omega) ?_) | (refine VCmp.ff (by omega) ?_) | (refine VIn.mk (IntWalk.i64_in _ (by omega)) ?_) | (refine VIdx.mk _ rfl (by omega) ?_) | (refine VIdx.mk 0 rfl (by omega) ?_))
    try (conv => whnf)
    exact .mk ⟨by rw [decide_eq_true h]; rfl, rfl⟩
  · repeat ((conv => whnf); first | (refine VConv.mk _ e1 ?_) | (refine VConv.mk _ e2 ?_) | (refine VCmp.ff h ?_) | (refine VCmp.tt (by omega) ?_) | (refine VCmp.ff (by omega) ?_) | (refine VIn.mk (IntWalk.i64_in _ (by omega)) ?_) | (refine VIdx.mk _ rfl (by omega) ?_) | (refine VIdx.mk 0 rfl (by omega) ?_))
    try (conv => whnf)
    exact .mk ⟨by rw [decide_eq_false h]; rfl, rfl⟩
def JnI (d : Dt) (l : List Dt) (i : Nat) (put : Bool) (out : List Dt) : Prop := match put with
  | false => out = l.take i ∧ ∀ x ∈ l.take i, aheadB d x = false
  | true => out ++ l.drop i = ins d l
theorem ins_skip {d : Dt} : ∀ {l r : List Dt}, (∀ x ∈ l, aheadB d x = false) → ins d (l ++ r) = l ++ ins d r
  | [], r, _ => rfl
  | y :: l, r, h => by
    rw [List.cons_append, ins, h y (List.mem_cons_self ..), if_neg (by simp), ins_skip (fun x hx => h x (List.mem_cons_of_mem _ hx))]; rfl
theorem JnI.now {d x : Dt} {l out : List Dt} {i : Nat} (h : JnI d l i false out) (hx : l[i]? = some x) (ha : aheadB d x = true) : JnI d l (i + 1) true (out ++ [d] ++ [x]) := by
  obtain ⟨h1, h2⟩ := h
  have e : ins d (l.take i ++ l.drop i) = l.take i ++ ins d (l.drop i) := ins_skip h2
  rw [List.take_append_drop, drop_cons' hx, ins, if_pos ha] at e
  show _ = ins d l
  rw [e, h1]
  simp
theorem JnI.step {d x : Dt} {l out : List Dt} {i : Nat} {p : Bool} (h : JnI d l i p out) (hx : l[i]? = some x) (ha : p = false → aheadB d x = false) : JnI d l (i + 1) p (out ++ [x]) := by
  cases p with
  | false =>
    obtain ⟨h1, h2⟩ := h
    refine ⟨by rw [h1, List.take_add_one, hx]; rfl, fun y hy => ?_⟩
    rw [List.take_add_one, hx] at hy
    rcases List.mem_append.1 hy with e | e
    · exact h2 y e
    · simp at e; rw [e]; exact ha rfl
  | true =>
    have h : out ++ l.drop i = ins d l := h
    show (out ++ [x]) ++ l.drop (i + 1) = ins d l
    rw [← h, drop_cons' hx, List.append_assoc]; rfl
theorem JnI.end_t {d : Dt} {l out : List Dt} (h : JnI d l l.length true out) : out = ins d l := by
  have h : out ++ l.drop l.length = ins d l := h
  rw [← h]; simp
theorem JnI.end_f {d : Dt} {l out : List Dt} (h : JnI d l l.length false out) : out ++ [d] = ins d l := by
  obtain ⟨h1, h2⟩ := h
  rw [List.take_length] at h1 h2
  have := ins_skip (r := []) h2
  rw [List.append_nil] at this
  rw [this, h1]; rfl
structure JS where
  i : Nat
  p : Bool
  A : Option Addr
  c : Nat
  al : List Dr
structure JnO (F : List Nat) (base : Nat) (bx : Nat) (wA : World) (r : Dr) (l : List Dr) (x : JS) (W : World) : Prop where
  i : x.i ≤ l.length
  j : JnI r.d (l.map Dr.d) x.i x.p (x.al.map Dr.d)
  own : OwnA W base F x.A x.c x.al
  b : Below wA.heap.size wA W
  n : x.al.length ≤ x.i + 1
def JnPost (w : World) (F : List Nat) (r : Dr) (l : List Dr) (x : Ending) (w' : World) : Prop :=
  ∃ A c al, x = .returned (.slice A al.length c) ∧ al.map Dr.d = ins r.d (l.map Dr.d) ∧ OwnA w' w.heap.size F A c al ∧ Below w.heap.size w w'
set_option maxRecDepth 100000 in
theorem joined_add {w : World} {F : List Nat} {A : Option Addr} {cA N : Nat} {l : List Dr} {r : Dr} (hN : N ≤ w.heap.size) (hl : l.length ≤ 1048576) (hrow : RowAt w N 4 eDr A l) (hf : ∀ x ∈ l, FarB w F x) (hr : FarB w F r) :
    Calls Try.prog 112 #[.slice A l.length cA, .agg (drA r)] w (JnPost w F r l) := by
  refine calls_vc tab_ok Try.func112 rfl ?_
  conv => whnf
  refine .mk fun wA hwA => ?_
  have hbA : Below w.heap.size w wA := by rw [hwA.out]; exact below_box1 _ _ _
  have zA : wA.heap.size = w.heap.size + 1 := by rw [hwA.out]; simp
  have oA : wA.rangeAt w.heap.size 0 (eDr r) := by rw [hwA.out]; exact range_new w (drA r) 113
  have hx : ∀ W, Below wA.heap.size wA W → RowAt W N 4 eDr A l ∧ W.rangeAt w.heap.size 0 (eDr r) ∧ Below w.heap.size w W := fun W hW =>
    ⟨(hrow.below hbA hN).below hW (by omega), range_same oA (hW.block w.heap.size (by omega)), hbA.trans (hW.mono (by omega))⟩
  have far : ∀ W, Below wA.heap.size wA W → ∀ (B : Option Addr), (∀ q, blk B = some q → wA.heap.size ≤ q) → ∀ x, x = r ∨ x ∈ l → FarB W (F ++ (blk B).toList) x := fun W hW B hB x hx' => farOld (hx'.elim (fun e => e ▸ hr) (hf x)) (hx W hW).2.2 (fun q hq => by have := hB q hq; omega)
  have Lr : Ld Try.prog 113 w.heap.size 0 (fun W => Below wA.heap.size wA W) (.agg (drA r)) := ⟨fun W hW => load113 (hx W hW).2.1⟩
  have b0 : Below wA.heap.size wA wA := Below.refl _ _
  repeat ((conv => whnf); first | (refine VCmp.tt (by omega) ?_) | (refine VCmp.ff (by omega) ?_) | (refine VIn.mk (IntWalk.i64_in _ (by omega)) ?_) | (refine VIdx.mk _ rfl (by omega) ?_) | (refine VIdx.mk 0 rfl (by omega) ?_))
  try (conv => whnf)
  refine VLoop.mk JS (fun x => [(0, .slice A l.length cA), (3, .pointer (some ⟨w.heap.size, 0, none⟩)), (5, .slice x.A x.al.length x.c), (6, .bool x.p), (7, .int .i64 x.i)]) (JnO F wA.heap.size w.heap.size wA r l) (fun x => l.length - x.i) ⟨0, false, none, 0, []⟩ ⟨rfl, rfl, rfl, rfl, rfl, trivial⟩ ⟨Nat.zero_le _, ⟨rfl, fun x hx => by simp at hx⟩, ownA_nil _ _ _, b0, Nat.zero_le _⟩ ?_
  rintro ⟨i, p, B, c, al⟩ wr ⟨hi, hj, hown, br, hn⟩
  dsimp only at hi hj hown hn ⊢
  have hbr := br.size
  by_cases hil : i < l.length
  case neg =>
    have hie : i = l.length := by omega
    subst hie
    cases p with
    | true =>
      repeat ((conv => whnf); first | (refine VCmp.tt (by omega) ?_) | (refine VCmp.ff (by omega) ?_) | (refine VIn.mk (IntWalk.i64_in _ (by omega)) ?_) | (refine VIdx.mk _ rfl (by omega) ?_) | (refine VIdx.mk 0 rfl (by omega) ?_))
      try (conv => whnf)
      exact .mk ⟨B, c, al, rfl, by have := (show JnI r.d (l.map Dr.d) (l.map Dr.d).length true (al.map Dr.d) by rw [List.length_map]; exact hj).end_t; exact this, ⟨hown.own.base (by omega), hown.far⟩, (hx _ br).2.2⟩
    | false =>
      repeat ((conv => whnf); first | (refine VLoad.mk _ (Lr.at br) ?_) | (refine VCmp.tt (by omega) ?_) | (refine VCmp.ff (by omega) ?_) | (refine VIn.mk (IntWalk.i64_in _ (by omega)) ?_) | (refine VIdx.mk _ rfl (by omega) ?_) | (refine VIdx.mk 0 rfl (by omega) ?_))
      try (conv => whnf)
      refine VBs.mk _ _ (bs40 wr r) ?_
      have c6 : Below wr.heap.size wr (wr.alloc (.cells (drA r) 113)) := (Below.refl _ _).alloc (Nat.le_refl _) _
      have own5 := hown.below c6
      have z6 : (wr.alloc (.cells (drA r) 113)).heap.size = wr.heap.size + 1 := by simp
      have b6 : Below wA.heap.size wA (wr.alloc (.cells (drA r) 113)) := br.trans (c6.mono hbr)
      repeat ((conv => whnf); first | (refine VCmp.tt (by omega) ?_) | (refine VCmp.ff (by omega) ?_) | (refine VIn.mk (IntWalk.i64_in _ (by omega)) ?_) | (refine VIdx.mk _ rfl (by omega) ?_) | (refine VIdx.mk 0 rfl (by omega) ?_))
      try (conv => whnf)
      refine VApp.rows wA.heap.size 4 48 _ Try.underlying40 info113 rfl (by decide) eDr len_eDr one_eDr al [r] rfl rfl own5.own (row_new wr 113 4 eDr r (drA r) rfl) (by omega) (by omega) (by omega) fun A' c' w7 ho hg hkk => ?_
      have own7 := own5.push (fun y hy => far _ b6 B (fun q hq => (own5.own.lo q hq).1) y (.inl (List.mem_singleton.1 hy))) ho hg hkk
      have b7 : Below wA.heap.size wA w7 := b6.grown hg (by omega) (fun q hq => (own5.own.lo q hq).1)
      repeat ((conv => whnf); first | (refine VCmp.tt (by omega) ?_) | (refine VCmp.ff (by omega) ?_) | (refine VIn.mk (IntWalk.i64_in _ (by omega)) ?_) | (refine VIdx.mk _ rfl (by omega) ?_) | (refine VIdx.mk 0 rfl (by omega) ?_))
      try (conv => whnf)
      exact .mk ⟨A', c', al ++ [r], by rw [List.length_append]; rfl, by
        have := (show JnI r.d (l.map Dr.d) (l.map Dr.d).length false (al.map Dr.d) by rw [List.length_map]; exact hj).end_f
        rw [← this]; simp, ⟨own7.own.base (by omega), own7.far⟩, (hx _ b7).2.2⟩
  obtain ⟨bA, oR, rfl, hbA2, hrw⟩ := (hx _ br).1 (by omega)
  have hrk : l[i]? = some l[i] := List.getElem?_eq_getElem hil
  have hmm : l[i] ∈ l := List.getElem_mem _
  generalize l[i] = y at hrk hmm
  have hdk : (l.map Dr.d)[i]? = some y.d := by rw [List.getElem?_map, hrk]; rfl
  have brd : Below wA.heap.size wA wr.drew := br.drew
  have Ly : Ld Try.prog 113 bA (oR + i * 4) (fun W => Below wA.heap.size wA W) (.agg (drA y)) := ⟨fun W hW => by
    obtain ⟨b', o', e', _, hrow'⟩ := (hx W hW).1 (by omega)
    injection e' with e'; injection e' with e1 e2; subst e1; subst e2
    exact load113 (fun q u hu => hrow' i y hrk q u hu)⟩
  have Lrr : Ld Try.prog 113 w.heap.size 0 (fun W => Below wA.heap.size wA W) (.agg (drA r)) := Lr
  repeat ((conv => whnf); first | (refine VCmp.tt (by omega) ?_) | (refine VCmp.ff (by omega) ?_) | (refine VIn.mk (IntWalk.i64_in _ (by omega)) ?_) | (refine VIdx.mk _ rfl (by omega) ?_) | (refine VIdx.mk 0 rfl (by omega) ?_))
  try (conv => whnf)
  refine VDraw.mk 1000 [([0, 1, 2, 3, 4, 5, 6, 7], 8)] [9] (fun W => Below wA.heap.size wA W) (by kernel_rfl) (by kernel_rfl) (brd) ?_
  cases p with
  | true =>
    repeat ((conv => whnf); first | (refine VS.mk brd ?_) | (refine VLoad.mk _ (Ly.at brd) ?_) | (refine VCmp.tt (by omega) ?_) | (refine VCmp.ff (by omega) ?_) | (refine VIn.mk (IntWalk.i64_in _ (by omega)) ?_) | (refine VIdx.mk _ rfl (by omega) ?_) | (refine VIdx.mk 0 rfl (by omega) ?_))
    try (conv => whnf)
    refine VBs.mk _ _ (bs40 wr.drew y) ?_
    have c6 : Below wr.drew.heap.size wr.drew (wr.drew.alloc (.cells (drA y) 113)) := (Below.refl _ _).alloc (Nat.le_refl _) _
    have own5 := (hown.below ((Below.refl _ _).drew)).below c6
    have z6 : (wr.drew.alloc (.cells (drA y) 113)).heap.size = wr.drew.heap.size + 1 := by simp
    have bz := brd.size
    have b6 : Below wA.heap.size wA (wr.drew.alloc (.cells (drA y) 113)) := brd.trans (c6.mono bz)
    repeat ((conv => whnf); first | (refine VCmp.tt (by omega) ?_) | (refine VCmp.ff (by omega) ?_) | (refine VIn.mk (IntWalk.i64_in _ (by omega)) ?_) | (refine VIdx.mk _ rfl (by omega) ?_) | (refine VIdx.mk 0 rfl (by omega) ?_))
    try (conv => whnf)
    refine VApp.rows wA.heap.size 4 48 _ Try.underlying40 info113 rfl (by decide) eDr len_eDr one_eDr (al) [y] rfl rfl own5.own (row_new wr.drew 113 4 eDr y (drA y) rfl) (by omega) (by omega) (by omega) fun A' c' w7 ho hg hkk => ?_
    have own7 := own5.push (fun z hz => far _ b6 _ (fun q hq => (own5.own.lo q hq).1) z (.inr (List.mem_singleton.1 hz ▸ hmm))) ho hg hkk
    have b7 : Below wA.heap.size wA w7 := b6.grown hg (by omega) (fun q hq => (own5.own.lo q hq).1)
    repeat ((conv => whnf); first | (refine VCmp.tt (by omega) ?_) | (refine VCmp.ff (by omega) ?_) | (refine VIn.mk (IntWalk.i64_in _ (by omega)) ?_) | (refine VIdx.mk _ rfl (by omega) ?_) | (refine VIdx.mk 0 rfl (by omega) ?_))
    try (conv => whnf)
    refine .mk ⟨i + 1, true, A', c', al ++ [y]⟩ ⟨rfl, rfl, by show some (Value.slice A' (al.length + 1) c') = _; rw [List.length_append]; rfl, rfl, rfl, trivial⟩ ⟨by show i + 1 ≤ _; omega, ?_, own7, b7, by show (al ++ [y]).length ≤ i + 1 + 1; rw [List.length_append]; simp; omega⟩ (by show l.length - (i + 1) < l.length - i; omega)
    have := hj.step hdk (by simp)
    simpa using this
  | false =>
  repeat ((conv => whnf); first | (refine VLoad.mk _ Lr ?_) | (refine VLoad.mk _ Ly ?_) | (refine VCmp.tt (by omega) ?_) | (refine VCmp.ff (by omega) ?_) | (refine VIn.mk (IntWalk.i64_in _ (by omega)) ?_) | (refine VIdx.mk _ rfl (by omega) ?_) | (refine VIdx.mk 0 rfl (by omega) ?_))
  try (conv => whnf)
  refine VCall.mk _ (ahead_any r y wr.drew) ?_
  rintro _ x5 ⟨rfl, hb5⟩
  refine ⟨_, rfl, ?_⟩
  have b5 : Below wA.heap.size wA x5 := brd.trans (hb5.mono brd.size)
  have o5 : OwnA x5 wA.heap.size F B c al := (hown.below ((Below.refl _ _).drew)).below hb5
  cases ha : aheadB r.d y.d with
  | false =>
    repeat ((conv => whnf); first | (refine VS.mk b5 ?_) | (refine VLoad.mk _ (Ly.at b5) ?_) | (refine VCmp.tt (by omega) ?_) | (refine VCmp.ff (by omega) ?_) | (refine VIn.mk (IntWalk.i64_in _ (by omega)) ?_) | (refine VIdx.mk _ rfl (by omega) ?_) | (refine VIdx.mk 0 rfl (by omega) ?_))
    try (conv => whnf)
    refine VBs.mk _ _ (bs40 x5 y) ?_
    have c6 : Below x5.heap.size x5 (x5.alloc (.cells (drA y) 113)) := (Below.refl _ _).alloc (Nat.le_refl _) _
    have own5 := o5.below c6
    have z6 : (x5.alloc (.cells (drA y) 113)).heap.size = x5.heap.size + 1 := by simp
    have bz := b5.size
    have b6 : Below wA.heap.size wA (x5.alloc (.cells (drA y) 113)) := b5.trans (c6.mono bz)
    repeat ((conv => whnf); first | (refine VCmp.tt (by omega) ?_) | (refine VCmp.ff (by omega) ?_) | (refine VIn.mk (IntWalk.i64_in _ (by omega)) ?_) | (refine VIdx.mk _ rfl (by omega) ?_) | (refine VIdx.mk 0 rfl (by omega) ?_))
    try (conv => whnf)
    refine VApp.rows wA.heap.size 4 48 _ Try.underlying40 info113 rfl (by decide) eDr len_eDr one_eDr (al) [y] rfl rfl own5.own (row_new x5 113 4 eDr y (drA y) rfl) (by omega) (by omega) (by omega) fun A' c' w7 ho hg hkk => ?_
    have own7 := own5.push (fun z hz => far _ b6 _ (fun q hq => (own5.own.lo q hq).1) z (.inr (List.mem_singleton.1 hz ▸ hmm))) ho hg hkk
    have b7 : Below wA.heap.size wA w7 := b6.grown hg (by omega) (fun q hq => (own5.own.lo q hq).1)
    repeat ((conv => whnf); first | (refine VCmp.tt (by omega) ?_) | (refine VCmp.ff (by omega) ?_) | (refine VIn.mk (IntWalk.i64_in _ (by omega)) ?_) | (refine VIdx.mk _ rfl (by omega) ?_) | (refine VIdx.mk 0 rfl (by omega) ?_))
    try (conv => whnf)
    refine .mk ⟨i + 1, false, A', c', al ++ [y]⟩ ⟨rfl, rfl, by show some (Value.slice A' (al.length + 1) c') = _; rw [List.length_append]; rfl, rfl, rfl, trivial⟩ ⟨by show i + 1 ≤ _; omega, ?_, own7, b7, by show (al ++ [y]).length ≤ i + 1 + 1; rw [List.length_append]; simp; omega⟩ (by show l.length - (i + 1) < l.length - i; omega)
    have := hj.step hdk (fun _ => ha)
    simpa using this
  | true =>
  have hal : al.length ≤ i := by
    have := congrArg List.length (show al.map Dr.d = (l.map Dr.d).take i from hj.1)
    rw [List.length_map, List.length_take, List.length_map] at this; omega
  repeat ((conv => whnf); first | (refine VS.mk b5 ?_) | (refine VLoad.mk _ (Lr.at b5) ?_) | (refine VCmp.tt (by omega) ?_) | (refine VCmp.ff (by omega) ?_) | (refine VIn.mk (IntWalk.i64_in _ (by omega)) ?_) | (refine VIdx.mk _ rfl (by omega) ?_) | (refine VIdx.mk 0 rfl (by omega) ?_))
  try (conv => whnf)
  refine VBs.mk _ _ (bs40 x5 r) ?_
  have c3 : Below x5.heap.size x5 (x5.alloc (.cells (drA r) 113)) := (Below.refl _ _).alloc (Nat.le_refl _) _
  have o6 := o5.below c3
  have z3 : (x5.alloc (.cells (drA r) 113)).heap.size = x5.heap.size + 1 := by simp
  have bz5 := b5.size
  have b3 : Below wA.heap.size wA (x5.alloc (.cells (drA r) 113)) := b5.trans (c3.mono bz5)
  repeat ((conv => whnf); first | (refine VCmp.tt (by omega) ?_) | (refine VCmp.ff (by omega) ?_) | (refine VIn.mk (IntWalk.i64_in _ (by omega)) ?_) | (refine VIdx.mk _ rfl (by omega) ?_) | (refine VIdx.mk 0 rfl (by omega) ?_))
  try (conv => whnf)
  refine VApp.rows wA.heap.size 4 48 _ Try.underlying40 info113 rfl (by decide) eDr len_eDr one_eDr al [r] rfl rfl o6.own (row_new x5 113 4 eDr r (drA r) rfl) (by omega) (by omega) (by omega) fun A1 c1 w1 ho1 hg1 hk1 => ?_
  have o7 := o6.push (fun z hz => far _ b3 _ (fun q hq => (o6.own.lo q hq).1) z (.inl (List.mem_singleton.1 hz))) ho1 hg1 hk1
  have b1 : Below wA.heap.size wA w1 := b3.grown hg1 (by omega) (fun q hq => (o6.own.lo q hq).1)
  have hl1 : (al ++ [r]).length = al.length + 1 := by rw [List.length_append]; rfl
  repeat ((conv => whnf); first | (refine VLoad.mk _ (Ly.at b1) ?_) | (refine VCmp.tt (by omega) ?_) | (refine VCmp.ff (by omega) ?_) | (refine VIn.mk (IntWalk.i64_in _ (by omega)) ?_) | (refine VIdx.mk _ rfl (by omega) ?_) | (refine VIdx.mk 0 rfl (by omega) ?_))
  try (conv => whnf)
  refine VBs.mk _ _ (bs40 w1 y) ?_
  have c6 : Below w1.heap.size w1 (w1.alloc (.cells (drA y) 113)) := (Below.refl _ _).alloc (Nat.le_refl _) _
  have own5 := o7.below c6
  have z6 : (w1.alloc (.cells (drA y) 113)).heap.size = w1.heap.size + 1 := by simp
  have bz := b1.size
  have b6 : Below wA.heap.size wA (w1.alloc (.cells (drA y) 113)) := b1.trans (c6.mono bz)
  repeat ((conv => whnf); first | (refine VCmp.tt (by omega) ?_) | (refine VCmp.ff (by omega) ?_) | (refine VIn.mk (IntWalk.i64_in _ (by omega)) ?_) | (refine VIdx.mk _ rfl (by omega) ?_) | (refine VIdx.mk 0 rfl (by omega) ?_))
  try (conv => whnf)
  refine VApp.rows wA.heap.size 4 48 _ Try.underlying40 info113 rfl (by decide) eDr len_eDr one_eDr (al ++ [r]) [y] hl1 rfl own5.own (row_new w1 113 4 eDr y (drA y) rfl) (by omega) (by omega) (by omega) fun A' c' w7 ho hg hkk => ?_
  have own7 := own5.push (fun z hz => far _ b6 _ (fun q hq => (own5.own.lo q hq).1) z (.inr (List.mem_singleton.1 hz ▸ hmm))) ho hg hkk
  have b7 : Below wA.heap.size wA w7 := b6.grown hg (by omega) (fun q hq => (own5.own.lo q hq).1)
  repeat ((conv => whnf); first | (refine VCmp.tt (by omega) ?_) | (refine VCmp.ff (by omega) ?_) | (refine VIn.mk (IntWalk.i64_in _ (by omega)) ?_) | (refine VIdx.mk _ rfl (by omega) ?_) | (refine VIdx.mk 0 rfl (by omega) ?_))
  try (conv => whnf)
  refine .mk ⟨i + 1, true, A', c', al ++ [r] ++ [y]⟩ ⟨rfl, rfl, by show some (Value.slice A' (al.length + 1 + 1) c') = _; rw [List.length_append, List.length_append]; rfl, rfl, rfl, trivial⟩ ⟨by show i + 1 ≤ _; omega, ?_, own7, b7, by show (al ++ [r] ++ [y]).length ≤ i + 1 + 1; rw [List.length_append, List.length_append]; simp; omega⟩ (by show l.length - (i + 1) < l.length - i; omega)
  have := hj.now hdk ha
  simpa using this
end Go.Proofs.Ytcffhfcjfjfokaa
namespace Go.Proofs.Ytcffhfcjfjfokaa
open Go.RowKit
theorem RowF.less {α : Type} {w : World} {F F' : List Nat} {sz : Nat} {enc : α → List Value} {A : Option Addr} {l : List α} (h : RowF w F sz enc A l) (hF : ∀ x ∈ F', x ∈ F) : RowF w F' sz enc A l := h.more fun x hx => .inl (hF x hx)
structure RaO (s : Sto) (F : List Nat) (rs ms : List Dr) (wA : World) (i : Nat) (P : Option Addr) (c : Nat) (L : List Dr) (W : World) : Prop where
  hi : i ≤ rs.length
  eq : addT s.msgs s.msgs (rs.map Dr.d) = addT s.msgs (L.map Dr.d) ((rs.map Dr.d).drop i)
  row : RowF W F 4 eDr P L
  far : ∀ x ∈ L, FarB W F x
  cap : L.length ≤ c ∧ c ≤ 9223372036854775807
  len : L.length ≤ 128 + i
  b : Below wA.heap.size wA W
theorem find_first {d x : Dt} {l : List Dt} {k : Nat} (hx : l[k]? = some x) (hk : keyB d x = true) (hn : ∀ y ∈ l.take k, keyB d y = false) : l.find? (keyB d) = some x := by
  rw [find_split hn, drop_cons' hx, List.find?_cons, hk]
theorem key_iff {d x : Dt} : keyB d x = true ↔ x.s = d.s ∧ x.q = d.q := by unfold keyB; simp
theorem key_no {d x : Dt} (h : ¬ (x.s = d.s ∧ x.q = d.q)) : keyB d x = false := by unfold keyB; simpa using h
theorem build66 (W : World) (a b : Int) : (Instr.build 66 #[(0, .int .i64 a), (1, .int .i64 b)]).run Try.prog W = .ok (.agg #[.int .i64 a, .int .i64 b]) W := by kernel_rfl
structure LR where
  i : Nat
  P : Option Addr
  c : Nat
  L : List Dr
theorem ins_length (d : Dt) : ∀ l : List Dt, (ins d l).length = l.length + 1
  | [] => rfl
  | y :: l => by
    unfold ins
    split
    · rfl
    · rw [List.length_cons, ins_length d l]; rfl
set_option maxRecDepth 100000 in
theorem radd_any {w : World} {F : List Nat} {b g : Nat} {s : Sto} {ks : List KpX} {Mp : Option Addr} {cM : Nat} {ms : List Dr} (h : StV w F b g 1 2 s ks Mp cM ms) (hn : w.cell? ⟨b, 0, none⟩ = some (.int .i64 s.n)) (e l i c : Int) (rs : List Dr) (A : Option Addr) (cA N : Nat) (hN : N ≤ w.heap.size) (hr : Drs w N A rs) :
    Calls Try.prog 88 #[.pointer (some ⟨b, 0, none⟩), .agg (fwc e l i c A rs.length cA)] w (AdPost w F b g 1 2 ks (s.addS e l i c (rs.map Dr.d))) := by
  have hbz := h.hi b h.bF
  refine calls_vc tab_ok Try.func88 rfl ?_
  conv => whnf
  refine .mk fun wA hwA => ?_
  have hbA : Below w.heap.size w wA := by rw [hwA.out]; exact below_box1 _ _ _
  have zA : wA.heap.size = w.heap.size + 1 := by rw [hwA.out]; simp
  have oA : wA.rangeAt w.heap.size 0 (fwc e l i c A rs.length cA).toList := by rw [hwA.out]; exact range_new w (fwc e l i c A rs.length cA) 157
  have hx : ∀ W, Below wA.heap.size wA W → Drs W N A rs ∧ StV W F b g 1 2 s ks Mp cM ms ∧ W.rangeAt w.heap.size 0 (fwc e l i c A rs.length cA).toList ∧ Below w.heap.size w W := fun W hW =>
    ⟨⟨(hr.row.below hbA hN).below hW (by omega), fun r h1 => ((hr.each r h1).below hbA hN).below hW (by omega)⟩, (h.below hbA).below hW, range_same oA (hW.block w.heap.size (by omega)), hbA.trans (hW.mono (by omega))⟩
  have bad : ∀ W, Below wA.heap.size wA W → ∀ n, s.addS e l i c (rs.map Dr.d) = (n, s) → AdPost w F b g 1 2 ks (s.addS e l i c (rs.map Dr.d)) (.returned (.int .i64 n)) W := fun W hW n e => AdPost.bad h e (hx W hW).2.2.2
  have b0 : Below wA.heap.size wA wA := Below.refl _ _
  have Lf : Ld Try.prog 157 w.heap.size 0 (fun W => Below wA.heap.size wA W) (.agg (fwc e l i c A rs.length cA)) := ⟨fun W hW => load_agg (by kernel_rfl) (by kernel_rfl) (hx W hW).2.2.1⟩
  have Lp : Ld Try.prog 35 w.heap.size 0 (fun W => Below wA.heap.size wA W) (.agg #[.int .i64 e, .int .i64 l, .int .i64 i, .int .i64 c]) := ⟨fun W hW => load35 (range_sub (n := 4) (hx W hW).2.2.1 0 rfl)⟩
  have Lm : Ld Try.prog 40 w.heap.size 4 (fun W => Below wA.heap.size wA W) (.slice A rs.length cA) := ⟨fun W hW => load40 ((hx W hW).2.2.1 4 _ rfl)⟩
  have Lv : Ld Try.prog 35 b 2 (fun W => Below wA.heap.size wA W) (.agg #[.int .i64 s.ve, .int .i64 s.vl, .int .i64 s.vi, .int .i64 s.vc]) := ⟨fun W hW => load35 (four (hx W hW).2.1.ce (hx W hW).2.1.cl (hx W hW).2.1.ci (hx W hW).2.1.cc)⟩
  have Lo : Ld Try.prog 40 b 6 (fun W => Below wA.heap.size wA W) (.slice Mp ms.length cM) := ⟨fun W hW => load40 (hx W hW).2.1.cm⟩
  repeat ((conv => whnf); first | (refine VLoad.mk _ (Lf.at b0) ?_) | (refine VCmp.tt (by omega) ?_) | (refine VCmp.ff (by omega) ?_) | (refine VIn.mk (IntWalk.i64_in _ (by omega)) ?_) | (refine VIdx.mk _ rfl (by omega) ?_) | (refine VIdx.mk 0 rfl (by omega) ?_))
  try (conv => whnf)
  refine VCall.mk _ (rfits_any (h.below hbA) ((hbA.cell (p := ⟨b, 0, none⟩) hbz).trans hn) e l i c rs A cA N (by omega) (hx _ b0).1) ?_
  rintro _ x1 ⟨rfl, b1⟩
  refine ⟨_, rfl, ?_⟩
  cases hf : fitsB s.n e l i c (rs.map Dr.d) with
  | false =>
    repeat ((conv => whnf); first | (refine VCmp.tt (by omega) ?_) | (refine VCmp.ff (by omega) ?_) | (refine VIn.mk (IntWalk.i64_in _ (by omega)) ?_) | (refine VIdx.mk _ rfl (by omega) ?_) | (refine VIdx.mk 0 rfl (by omega) ?_))
    try (conv => whnf)
    exact .mk (bad _ b1 1 (by unfold Sto.addS; rw [if_pos hf]))
  | true =>
  obtain ⟨hwh, hl, hdt, hrise⟩ := fits_parts hf
  rw [List.length_map] at hl
  have b2 : Below wA.heap.size wA x1.drew := b1.drew
  repeat ((conv => whnf); first | (refine VCmp.tt (by omega) ?_) | (refine VCmp.ff (by omega) ?_) | (refine VIn.mk (IntWalk.i64_in _ (by omega)) ?_) | (refine VIdx.mk _ rfl (by omega) ?_) | (refine VIdx.mk 0 rfl (by omega) ?_))
  try (conv => whnf)
  refine VDraw.mk 1000 [] [0, 1, 2, 3, 4, 5, 6] (Eq x1.drew) (by kernel_rfl) (by kernel_rfl) (rfl) ?_
  repeat ((conv => whnf); first | (refine VLoad.mk _ (Lp.at b2) ?_) | (refine VLoad.mk _ (Lv.at b2) ?_) | (refine VCmp.tt (by omega) ?_) | (refine VCmp.ff (by omega) ?_) | (refine VIn.mk (IntWalk.i64_in _ (by omega)) ?_) | (refine VIdx.mk _ rfl (by omega) ?_) | (refine VIdx.mk 0 rfl (by omega) ?_))
  try (conv => whnf)
  refine VBin.mk _ (Bn.of fun W => run_neq_vid W e l i c s.ve s.vl s.vi s.vc) ?_
  cases hv : vidEq e l i c s.ve s.vl s.vi s.vc with
  | false =>
    repeat ((conv => whnf); first | (refine VCmp.tt (by omega) ?_) | (refine VCmp.ff (by omega) ?_) | (refine VIn.mk (IntWalk.i64_in _ (by omega)) ?_) | (refine VIdx.mk _ rfl (by omega) ?_) | (refine VIdx.mk 0 rfl (by omega) ?_))
    try (conv => whnf)
    exact .mk (bad _ b2 80 (by unfold Sto.addS; rw [if_neg (by rw [hf]; simp), if_pos (by unfold vidEq at hv; simpa using hv)]))
  | true =>
  have hv' : e = s.ve ∧ l = s.vl ∧ i = s.vi ∧ c = s.vc := by unfold vidEq at hv; simpa [and_assoc] using hv
  have hadd := add_eq hf hv'
  have hlm := h.lenM
  have hmc := h.mc
  repeat ((conv => whnf); first | (refine VLoad.mk _ (Lo.at b2) ?_) | (refine VCmp.tt (by omega) ?_) | (refine VCmp.ff (by omega) ?_) | (refine VIn.mk (IntWalk.i64_in _ (by omega)) ?_) | (refine VIdx.mk _ rfl (by omega) ?_) | (refine VIdx.mk 0 rfl (by omega) ?_))
  try (conv => whnf)
  refine VLoop.mk LR (fun x => [(0, .pointer (some ⟨b, 0, none⟩)), (3, .pointer (some ⟨w.heap.size, 0, none⟩)), (6, .slice x.P x.L.length x.c), (7, .int .i64 x.i)]) (fun x W => RaO s F rs ms wA x.i x.P x.c x.L W) (fun x => rs.length - x.i) ⟨0, Mp, cM, ms⟩ ⟨rfl, rfl, rfl, rfl, trivial⟩ ⟨Nat.zero_le _, by rw [h.mm, List.drop_zero], (hx _ b2).2.1.mrow, (hx _ b2).2.1.mS, hmc, by omega, b2⟩ ?_
  rintro ⟨k, P, cP, L⟩ wr ⟨hk, heq, hrowL, hfarL, hcap, hlen, br⟩
  dsimp only at hk heq hrowL hfarL hcap hlen ⊢
  have hbrz := br.size
  by_cases hkl : k < rs.length
  case neg =>
    have hke : k = rs.length := by omega
    subst hke
    have hdone : addT s.msgs s.msgs (rs.map Dr.d) = some (L.map Dr.d) := by
      rw [heq, List.drop_eq_nil_of_le (by rw [List.length_map]; omega), addT]
    have hfin : s.addS e l i c (rs.map Dr.d) = if 128 < L.length then (42, s) else (0, { s with msgs := L.map Dr.d }) := by
      rw [hadd, hdone]
      simp only [List.length_map]
    by_cases h128 : 128 < L.length
    · repeat ((conv => whnf); first | (refine VLoad.mk _ (Lm.at br) ?_) | (refine VCmp.tt (by omega) ?_) | (refine VCmp.ff (by omega) ?_) | (refine VIn.mk (IntWalk.i64_in _ (by omega)) ?_) | (refine VIdx.mk _ rfl (by omega) ?_) | (refine VIdx.mk 0 rfl (by omega) ?_))
      try (conv => whnf)
      exact .mk (bad _ br 42 (by rw [hfin, if_pos h128]))
    rw [if_neg h128] at hfin
    have hgood := add_good h.inv hf hdone (by rw [List.length_map]; omega)
    obtain ⟨-, hS, -, hbw⟩ := hx _ br
    repeat ((conv => whnf); first | (refine VLoad.mk _ (Lm.at br) ?_) | (refine VCmp.tt (by omega) ?_) | (refine VCmp.ff (by omega) ?_) | (refine VIn.mk (IntWalk.i64_in _ (by omega)) ?_) | (refine VIdx.mk _ rfl (by omega) ?_) | (refine VIdx.mk 0 rfl (by omega) ?_))
    try (conv => whnf)
    refine VStore.cell (by kernel_rfl) (by rw [show addO 0 6 = 6 from rfl, hS.cm]; rfl) (by rw [show addO 0 6 = 6 from rfl]; exact there_frozen hS.there (by omega)) rfl rfl fun w7 hw7 => ?_
    have h7 := hS.other (w' := w7) (Mp' := P) (cM' := cP) (ms' := L) (by rw [hw7.out]; rfl) (by omega) (by omega) hrowL hfarL hcap hgood
    have g7 : wr.grownBy w7 (some b) := by rw [hw7.out]; exact grown_cell _ _ _ _
    repeat ((conv => whnf); first | (refine VCmp.tt (by omega) ?_) | (refine VCmp.ff (by omega) ?_) | (refine VIn.mk (IntWalk.i64_in _ (by omega)) ?_) | (refine VIdx.mk _ rfl (by omega) ?_) | (refine VIdx.mk 0 rfl (by omega) ?_))
    try (conv => whnf)
    exact .mk ⟨by rw [hfin]; rfl, ⟨_, _, _, by rw [hfin]; exact h7⟩, (World.grownBy.but (grown_below hbw) (some b)).trans g7, fun o ho => by
      rw [hw7.out, World.cell?_setCell_other _ _ _ _ (by intro e; injection e with _ e; exact ho e.symm)]
      exact hbw.cell (p := ⟨b, o, none⟩) hbz⟩
  obtain ⟨bA, oR, rfl, hbA2, hrow⟩ := (hx _ br).1.row (by omega)
  have hrk : rs[k]? = some rs[k] := List.getElem?_eq_getElem hkl
  have hmem : rs[k] ∈ rs := List.getElem_mem _
  generalize rs[k] = r at hrk hmem
  have hdk : (rs.map Dr.d)[k]? = some r.d := by rw [List.getElem?_map, hrk]; rfl
  have hdtr := hdt r.d (List.mem_map.2 ⟨r, hmem, rfl⟩)
  have hbl : r.d.body.length ≤ 256 := by unfold dtB at hdtr; simp at hdtr; omega
  have Lr : Ld Try.prog 113 bA (oR + k * 4) (Eq wr) (.agg (drA r)) := .of (load113 (fun j u hu => hrow k r hrk j u hu))
  repeat ((conv => whnf); first | (refine VLoad.mk _ Lr ?_) | (refine VLoad.mk _ (Lm.at br) ?_) | (refine VCmp.tt (by omega) ?_) | (refine VCmp.ff (by omega) ?_) | (refine VIn.mk (IntWalk.i64_in _ (by omega)) ?_) | (refine VIdx.mk _ rfl (by omega) ?_) | (refine VIdx.mk 0 rfl (by omega) ?_))
  try (conv => whnf)
  refine .mk _ run_zero113 ?_
  conv => whnf
  refine .mk fun x3 hx3 => ?_
  repeat ((conv => whnf); first | (refine VCmp.tt (by omega) ?_) | (refine VCmp.ff (by omega) ?_) | (refine VIn.mk (IntWalk.i64_in _ (by omega)) ?_) | (refine VIdx.mk _ rfl (by omega) ?_) | (refine VIdx.mk 0 rfl (by omega) ?_))
  try (conv => whnf)
  refine VStore.new hx3 (by kernel_rfl) rfl (one_drA r) fun x4 hx4 => ?_
  have c4 : Below wr.heap.size wr x4 := by rw [hx4.out]; exact (Below.refl _ _).alloc (Nat.le_refl _) _
  have b4 : Below wA.heap.size wA x4 := br.trans (c4.mono hbrz)
  have z4 : x4.heap.size = wr.heap.size + 1 := by rw [hx4.out]; simp
  have r4 : x4.rangeAt wr.heap.size 0 (eDr r) := by rw [hx4.out]; exact range_new wr (drA r) 113
  have t4 : x4.there wr.heap.size 0 4 := by rw [hx4.out]; exact there_new wr (drA r) 113
  have hF4 : ∀ y ∈ F ++ [wr.heap.size], y ∈ F ∨ wr.heap.size ≤ y := fun y hy => by
    rcases List.mem_append.1 hy with e1 | e1
    · exact .inl e1
    · rw [List.mem_singleton.1 e1]; exact .inr (Nat.le_refl _)
  have rowL4 : RowF x4 (F ++ [wr.heap.size]) 4 eDr P L := (hrowL.more hF4).below c4
  have farL4 : ∀ x ∈ L, FarB x4 (F ++ [wr.heap.size]) x := fun x hx' => ((hfarL x hx').more hF4).below c4
  have hmbA : wA.heap.size ≤ wr.heap.size := hbrz
  clear hx3 hx4 Lr hrowL hfarL
  generalize hmbe : wr.heap.size = mb at *
  have hS : ∀ W, Below x4.heap.size x4 W → Below wA.heap.size wA W := fun W hW => b4.trans (hW.mono b4.size)
  have hM : ∀ W, Below x4.heap.size x4 W → W.rangeAt mb 0 (eDr r) := fun W hW => range_same r4 (hW.block mb (by omega))
  have Ls : Ld Try.prog 3 mb 0 (fun W => Below x4.heap.size x4 W) (.int .i64 r.d.s) := ⟨fun W hW => load3 (hM W hW 0 _ rfl)⟩
  have Lq : Ld Try.prog 3 mb 1 (fun W => Below x4.heap.size x4 W) (.int .i64 r.d.q) := ⟨fun W hW => load3 (hM W hW 1 _ rfl)⟩
  have Lb3 : Ld Try.prog 3 mb 2 (fun W => Below x4.heap.size x4 W) (.int .i64 r.d.b) := ⟨fun W hW => load3 (hM W hW 2 _ rfl)⟩
  have Ly : Ld Try.prog 52 mb 3 (fun W => Below x4.heap.size x4 W) (.slice r.B r.d.body.length r.c) := ⟨fun W hW => load52 (hM W hW 3 _ rfl)⟩
  have Lo4 : Ld Try.prog 40 b 6 (fun W => Below x4.heap.size x4 W) (.slice Mp ms.length cM) := Lo.mono hS
  have bd : Below x4.heap.size x4 x4.drew := (Below.refl _ _).drew
  have hml : ms.length = s.msgs.length := by rw [← h.mm, List.length_map]
  repeat ((conv => whnf); first | (refine VCmp.tt (by omega) ?_) | (refine VCmp.ff (by omega) ?_) | (refine VIn.mk (IntWalk.i64_in _ (by omega)) ?_) | (refine VIdx.mk _ rfl (by omega) ?_) | (refine VIdx.mk 0 rfl (by omega) ?_))
  try (conv => whnf)
  refine VDraw.mk 1000 [([0, 1, 2, 3, 4, 5, 6, 7, 8], 9)] [10] (fun W => Below x4.heap.size x4 W) (by kernel_rfl) (by kernel_rfl) (bd) ?_
  repeat ((conv => whnf); first | (refine VLoad.mk _ Ls ?_) | (refine VLoad.mk _ Lq ?_) | (refine VLoad.mk _ Lb3 ?_) | (refine VLoad.mk _ Ly ?_) | (refine VLoad.mk _ Lo4 ?_) | (refine VCmp.tt (by omega) ?_) | (refine VCmp.ff (by omega) ?_) | (refine VIn.mk (IntWalk.i64_in _ (by omega)) ?_) | (refine VIdx.mk _ rfl (by omega) ?_) | (refine VIdx.mk 0 rfl (by omega) ?_))
  try (conv => whnf)
  refine VBuild.mk _ (fun W => build66 W r.d.s r.d.q) ?_
  repeat ((conv => whnf); first | (refine VLoad.mk _ Ls ?_) | (refine VLoad.mk _ Lq ?_) | (refine VLoad.mk _ Lb3 ?_) | (refine VLoad.mk _ Ly ?_) | (refine VLoad.mk _ Lo4 ?_) | (refine VCmp.tt (by omega) ?_) | (refine VCmp.ff (by omega) ?_) | (refine VIn.mk (IntWalk.i64_in _ (by omega)) ?_) | (refine VIdx.mk _ rfl (by omega) ?_) | (refine VIdx.mk 0 rfl (by omega) ?_))
  try (conv => whnf)
  rw [hml]
  refine VCall.mk _ (find_any Mp cM x4.drew.heap.size s.msgs r.d.s r.d.q x4.drew (Nat.le_refl _) ⟨ms, h.mm, (hx _ (hS _ bd)).2.1.mrow.row, fun x hx' => ⟨((hx _ (hS _ bd)).2.1.mS x hx').row.row, ((hx _ (hS _ bd)).2.1.mS x hx').len, ((hx _ (hS _ bd)).2.1.mS x hx').cap⟩⟩ (by omega)) ?_
  rintro _ x5 ⟨⟨rr, rfl, hfind⟩, hb5⟩
  refine ⟨_, rfl, ?_⟩
  have c5 : Below x4.heap.size x4 x5 := bd.trans (hb5.mono bd.size)
  rcases hfind with ⟨rfl, hnone⟩ | ⟨q, x, hxq, hks, hkq, rfl, hup⟩
  · have hf0 : s.msgs.find? (keyB r.d) = none := List.find?_eq_none.2 fun y hy => by rw [key_no (hnone y hy)]; simp
    repeat ((conv => whnf); first | (refine VS.mk c5 ?_) | (refine VLoad.mk _ (Ly.at c5) ?_) | (refine VCmp.tt (by omega) ?_) | (refine VCmp.ff (by omega) ?_) | (refine VIn.mk (IntWalk.i64_in _ (by omega)) ?_) | (refine VIdx.mk _ rfl (by omega) ?_) | (refine VIdx.mk 0 rfl (by omega) ?_))
    try (conv => whnf)
    have b5 := hS _ c5
    have m5 := hM _ c5
    have t5 : x5.there mb 0 4 := there_same t4 (c5.block mb (by omega))
    have hrbody : RowAt x5 N 1 eByte r.B r.d.body := ((hx _ b5).1.each r hmem).row
    refine VApp.fresh 1 1 _ Try.underlying52 info5 rfl (by decide) eByte len_eByte one_eByte r.d.body rfl hrbody (by omega) (by omega) fun A1 c1 w1 hf1 hc1 hc2 hb1 => ?_
    have ct1 : Below x4.heap.size x4 w1 := c5.trans (hb1.mono c5.size)
    have m1 := hM _ ct1
    have t1 : w1.there mb 0 4 := there_same t4 (ct1.block mb (by omega))
    repeat ((conv => whnf); first | (refine VCmp.tt (by omega) ?_) | (refine VCmp.ff (by omega) ?_) | (refine VIn.mk (IntWalk.i64_in _ (by omega)) ?_) | (refine VIdx.mk _ rfl (by omega) ?_) | (refine VIdx.mk 0 rfl (by omega) ?_))
    try (conv => whnf)
    refine VStore.cell (by kernel_rfl) (by rw [show addO 0 3 = 0 + 3 from rfl, m1 3 _ rfl]; rfl) (by rw [show addO 0 3 = 3 from rfl]; exact there_frozen t1 (by omega)) rfl rfl fun w2 hw2 => ?_
    have g2 : w1.grownBy w2 (some mb) := by rw [hw2.out]; exact grown_cell _ _ _ _
    have m2 : w2.rangeAt mb 0 (eDr ⟨r.d, A1, c1⟩) := by
      have := rng_put (o := 3) (vs := [.slice A1 r.d.body.length c1]) m1 t1 rfl (by simp)
      rw [hw2.out]; exact this
    have hk2 : ∀ q, q < w1.heap.size → q ∉ F ++ [mb] → w2.heap[q]? = w1.heap[q]? := fun q q1 q2 => g2.block q q1 (by intro e; injection e with e; subst e; exact q2 (List.mem_append.2 (.inr (List.mem_singleton.2 rfl))))
    have rowL2 : RowF w2 (F ++ [mb]) 4 eDr P L := (rowL4.below ct1).keep g2.size hk2
    have farL2 : ∀ x ∈ L, FarB w2 (F ++ [mb]) x := fun x hx' => ((farL4 x hx').below ct1).keep g2.size hk2
    have b2' : Below wA.heap.size wA w2 := (hS _ ct1).grown g2 (hS _ ct1).size (by intro q hq; injection hq with hq; omega)
    have hnb : FarB w2 (F ++ [mb]) ⟨r.d, A1, c1⟩ := FarB.keep (w := w1) ⟨fun h0 => by
      obtain ⟨q, o, e1, q1, q2, q3⟩ := hf1 h0
      refine ⟨q, o, e1, q2, fun hm => ?_, q3⟩
      have := c5.size
      rcases List.mem_append.1 hm with e | e
      · have := h.hi q e; omega
      · have := List.mem_singleton.1 e; omega, hc1, hc2⟩ g2.size hk2
    have Lm2 : Ld Try.prog 113 mb 0 (Eq w2) (.agg (drA ⟨r.d, A1, c1⟩)) := .of (load113 m2)
    have zw2 := b2'.size
    repeat ((conv => whnf); first | (refine VLoad.mk _ Lm2 ?_) | (refine VCmp.tt (by omega) ?_) | (refine VCmp.ff (by omega) ?_) | (refine VIn.mk (IntWalk.i64_in _ (by omega)) ?_) | (refine VIdx.mk _ rfl (by omega) ?_) | (refine VIdx.mk 0 rfl (by omega) ?_))
    try (conv => whnf)
    refine VCall.mk _ (joined_add (F := F) (N := w2.heap.size) (Nat.le_refl _) (by omega) rowL2.row (fun x hx' => (farL2 x hx').more (fun y hy => .inl (List.mem_append.2 (.inl hy)))) (hnb.more (fun y hy => .inl (List.mem_append.2 (.inl hy))))) ?_
    rintro _ w5 ⟨A5, c9, L5, rfl, hL5, own5, hb9⟩
    refine ⟨_, rfl, ?_⟩
    have b9 : Below wA.heap.size wA w5 := b2'.trans (hb9.mono zw2)
    have hlen5 : L5.length = L.length + 1 := by have := congrArg List.length hL5; rw [List.length_map, ins_length, List.length_map] at this; exact this
    repeat ((conv => whnf); first | (refine VCmp.tt (by omega) ?_) | (refine VCmp.ff (by omega) ?_) | (refine VIn.mk (IntWalk.i64_in _ (by omega)) ?_) | (refine VIdx.mk _ rfl (by omega) ?_) | (refine VIdx.mk 0 rfl (by omega) ?_))
    try (conv => whnf)
    exact .mk ⟨k + 1, A5, c9, L5⟩ ⟨rfl, rfl, rfl, rfl, trivial⟩ ⟨by show k + 1 ≤ _; omega, by rw [heq, drop_cons' hdk, addT, hf0, hL5], RowF.ofOwns own5.own len_eDr (fun q hq => by have := h.hi q hq; omega), fun x hx' => (own5.far x hx').more (fun y hy => .inl (List.mem_append.2 (.inl hy))), own5.own.len, by show L5.length ≤ 128 + (k + 1); omega, b9⟩ (by show rs.length - (k + 1) < rs.length - k; omega)
  have hfx : s.msgs.find? (keyB r.d) = some x := find_first hxq (key_iff.2 ⟨hks, hkq⟩) (fun y hy => by
    obtain ⟨t, ht⟩ := List.mem_iff_getElem?.1 hy
    have htl := (List.getElem?_eq_some_iff.1 ht).1
    rw [List.length_take] at htl
    rw [List.getElem?_take_of_lt (by omega)] at ht
    exact key_no (hup t y (by omega) ht))
  have hqm : q < ms.length := by rw [hml]; exact (List.getElem?_eq_some_iff.1 hxq).1
  obtain ⟨p, hpq, hpx⟩ : ∃ p, ms[q]? = some p ∧ p.d = x := by
    rw [← h.mm, List.getElem?_map] at hxq
    cases hp : ms[q]? with
    | none => rw [hp] at hxq; simp at hxq
    | some p => rw [hp] at hxq; injection hxq with hxq; exact ⟨p, rfl, hxq⟩
  subst hpx
  have hpm := List.mem_of_getElem? hpq
  obtain ⟨bM, oM, hMe, -⟩ := h.mrow (by omega)
  have hcell : ∀ W, Below x4.heap.size x4 W → ∀ t u, (eDr p)[t]? = some u → W.cell? ⟨bM, oM + q * 4 + t, none⟩ = some u := fun W hW t u hu => by
    obtain ⟨b', o', e', _, _, hrow'⟩ := (hx W (hS W hW)).2.1.mrow (by omega)
    rw [hMe] at e'; injection e' with e'; injection e' with e1 e2; subst e1; subst e2
    exact hrow' q p hpq t u hu
  have P2 : Ld Try.prog 3 bM (oM + q * 4 + 2) (fun W => Below x4.heap.size x4 W) (.int .i64 p.d.b) := ⟨fun W hW => load3 (hcell W hW 2 _ rfl)⟩
  have P3 : Ld Try.prog 52 bM (oM + q * 4 + 3) (fun W => Below x4.heap.size x4 W) (.slice p.B p.d.body.length p.c) := ⟨fun W hW => load52 (hcell W hW 3 _ rfl)⟩
  subst hMe
  have c6 : Below x4.heap.size x4 x5.drew := c5.drew
  have b6 := hS _ c6
  repeat ((conv => whnf); first | (refine VS.mk c5 ?_) | (refine VCmp.tt (by omega) ?_) | (refine VCmp.ff (by omega) ?_) | (refine VIn.mk (IntWalk.i64_in _ (by omega)) ?_) | (refine VIdx.mk _ rfl (by omega) ?_) | (refine VIdx.mk 0 rfl (by omega) ?_))
  try (conv => whnf)
  refine VDraw.mk 1000 [([0, 1, 2, 3, 4, 5, 6, 7, 8, 9, 10, 11, 12, 13, 14, 15, 16, 17, 18, 19, 20, 21], 22)] [23, 24] (fun W => Below x4.heap.size x4 W) (by kernel_rfl) (by kernel_rfl) (c6) ?_
  by_cases hsb : p.d.b = r.d.b
  case neg =>
    repeat ((conv => whnf); first | (refine VLoad.mk _ Ls ?_) | (refine VLoad.mk _ Lq ?_) | (refine VLoad.mk _ Lb3 ?_) | (refine VLoad.mk _ Ly ?_) | (refine VLoad.mk _ Lo4 ?_) | (refine VLoad.mk _ P2 ?_) | (refine VS.mk c6 ?_) | (refine VCmp.tt (by omega) ?_) | (refine VCmp.ff (by omega) ?_) | (refine VIn.mk (IntWalk.i64_in _ (by omega)) ?_) | (refine VIdx.mk _ rfl (by omega) ?_) | (refine VIdx.mk 0 rfl (by omega) ?_))
    try (conv => whnf)
    exact .mk (bad _ b6 82 (by rw [hadd, heq, drop_cons' hdk, addT, hfx]; simp only [if_neg (show ¬ sameT p.d r.d from fun e => hsb e.1)]))
  repeat ((conv => whnf); first | (refine VLoad.mk _ Ls ?_) | (refine VLoad.mk _ Lq ?_) | (refine VLoad.mk _ Lb3 ?_) | (refine VLoad.mk _ Ly ?_) | (refine VLoad.mk _ Lo4 ?_) | (refine VLoad.mk _ P2 ?_) | (refine VLoad.mk _ P3 ?_) | (refine VCmp.tt (by omega) ?_) | (refine VCmp.ff (by omega) ?_) | (refine VIn.mk (IntWalk.i64_in _ (by omega)) ?_) | (refine VIdx.mk _ rfl (by omega) ?_) | (refine VIdx.mk 0 rfl (by omega) ?_))
  try (conv => whnf)
  refine VCall.mk _ (bytes_any x5.drew.heap.size p.B r.B p.c r.c p.d.body r.d.body ((hx _ b6).2.1.mS p hpm).row.row (((hx _ b6).1.each r hmem).row.more (by have := b6.size; omega))) ?_
  rintro _ x7 ⟨rfl, rfl⟩
  refine ⟨_, rfl, ?_⟩
  by_cases hss : (strOfNums p.d.body).toList = (strOfNums r.d.body).toList
  case neg =>
    rw [decide_eq_false hss]
    repeat ((conv => whnf); first | (refine VS.mk c6 ?_) | (refine VCmp.tt (by omega) ?_) | (refine VCmp.ff (by omega) ?_) | (refine VIn.mk (IntWalk.i64_in _ (by omega)) ?_) | (refine VIdx.mk _ rfl (by omega) ?_) | (refine VIdx.mk 0 rfl (by omega) ?_))
    try (conv => whnf)
    exact .mk (bad _ b6 82 (by rw [hadd, heq, drop_cons' hdk, addT, hfx]; simp only [if_neg (show ¬ sameT p.d r.d from fun e => hss e.2)]))
  rw [decide_eq_true hss]
  repeat ((conv => whnf); first | (refine VS.mk c6 ?_) | (refine VCmp.tt (by omega) ?_) | (refine VCmp.ff (by omega) ?_) | (refine VIn.mk (IntWalk.i64_in _ (by omega)) ?_) | (refine VIdx.mk _ rfl (by omega) ?_) | (refine VIdx.mk 0 rfl (by omega) ?_))
  try (conv => whnf)
  exact .mk ⟨k + 1, P, cP, L⟩ ⟨rfl, rfl, rfl, rfl, trivial⟩ ⟨by show k + 1 ≤ _; omega, by rw [heq, drop_cons' hdk, addT, hfx]; simp only [if_pos (show sameT p.d r.d from ⟨hsb, hss⟩)], (rowL4.below c6).less (fun y hy => List.mem_append.2 (.inl hy)), fun x hx' => ((farL4 x hx').below c6).more (fun y hy => .inl (List.mem_append.2 (.inl hy))), hcap, by show L.length ≤ 128 + (k + 1); omega, b6⟩ (by show rs.length - (k + 1) < rs.length - k; omega)
end Go.Proofs.Ytcffhfcjfjfokaa
namespace Go.Proofs.Ytcffhfcjfjfokaa
open Go.RowKit
structure Two (w : World) (F : List Nat) (b g b' g' : Nat) (s : Sto) : Prop where
  p : ∃ ks Mp cM ms, StV w F b g 0 1 s ks Mp cM ms
  d : ∃ ks Mp cM ms, StV w F b' g' 1 2 s ks Mp cM ms
  pb : ∃ bg, w.cell? ⟨b, 5, none⟩ = some (.bool bg) ∧ (bg = false → s.ve = 0)
  dn : w.cell? ⟨b', 0, none⟩ = some (.int .i64 s.n)
  n1 : b ≠ b'
  n2 : b ≠ g'
  n3 : g ≠ b'
  n4 : g ≠ g'
section
variable {w w' : World} {F F' : List Nat} {b g b' g' : Nat} {s : Sto}
theorem Two.bF (h : Two w F b g b' g' s) : b ∈ F ∧ g ∈ F ∧ b' ∈ F ∧ g' ∈ F := by
  obtain ⟨_, _, _, _, h1⟩ := h.p
  obtain ⟨_, _, _, _, h2⟩ := h.d
  exact ⟨h1.bF, h1.gF, h2.bF, h2.gF⟩
theorem Two.hi (h : Two w F b g b' g' s) : ∀ x ∈ F, x < w.heap.size := by
  obtain ⟨_, _, _, _, h1⟩ := h.p
  exact h1.hi
theorem Two.inv (h : Two w F b g b' g' s) : SInv s := by
  obtain ⟨_, _, _, _, h1⟩ := h.p
  exact h1.inv
theorem Two.below (h : Two w F b g b' g' s) (hb : Below w.heap.size w w') : Two w' F b g b' g' s := by
  obtain ⟨f1, f2, f3, f4⟩ := h.bF
  obtain ⟨k1, k2, k3, k4, h1⟩ := h.p
  obtain ⟨l1, l2, l3, l4, h2⟩ := h.d
  obtain ⟨bg, h3, h4⟩ := h.pb
  exact ⟨⟨_, _, _, _, h1.below hb⟩, ⟨_, _, _, _, h2.below hb⟩, ⟨bg, (hb.cell (p := ⟨b, 5, none⟩) (h.hi b f1)).trans h3, h4⟩, (hb.cell (p := ⟨b', 0, none⟩) (h.hi b' f3)).trans h.dn, h.n1, h.n2, h.n3, h.n4⟩
theorem Two.spoil (h : Two w F b g b' g' s) {x : Nat} (hx : x ∈ F) (h1 : x ≠ b) (h2 : x ≠ g) (h3 : x ≠ b') (h4 : x ≠ g') (hg : w.grownBy w' (some x)) : Two w' F b g b' g' s := by
  obtain ⟨f1, f2, f3, f4⟩ := h.bF
  obtain ⟨k1, k2, k3, k4, p⟩ := h.p
  obtain ⟨l1, l2, l3, l4, d⟩ := h.d
  obtain ⟨bg, q1, q2⟩ := h.pb
  have hc : ∀ y o, y ∈ F → x ≠ y → w'.cell? ⟨y, o, none⟩ = w.cell? ⟨y, o, none⟩ := fun y o hy hn => World.cell?_of_block (a := ⟨y, o, none⟩) (hg.block y (h.hi y hy) (by intro e; injection e with e; exact hn e.symm))
  exact ⟨⟨_, _, _, _, p.spoil hx h1 h2 hg⟩, ⟨_, _, _, _, d.spoil hx h3 h4 hg⟩, ⟨bg, (hc b 5 f1 h1).trans q1, q2⟩, (hc b' 0 f3 h3).trans h.dn, h.n1, h.n2, h.n3, h.n4⟩
theorem Two.more (h : Two w F b g b' g' s) (hF : ∀ y ∈ F', y ∈ F ∨ w.heap.size ≤ y) (h1 : b ∈ F') (h2 : g ∈ F') (h3 : b' ∈ F') (h4 : g' ∈ F') (hi : ∀ y ∈ F', y < w.heap.size) : Two w F' b g b' g' s := by
  obtain ⟨k1, k2, k3, k4, p⟩ := h.p
  obtain ⟨l1, l2, l3, l4, d⟩ := h.d
  exact ⟨⟨_, _, _, _, p.more hF h1 h2 hi⟩, ⟨_, _, _, _, d.more hF h3 h4 hi⟩, h.pb, h.dn, h.n1, h.n2, h.n3, h.n4⟩
end
theorem WrB.low {w : World} {lo lo' : Nat} {r : Dr} (h : WrB w lo r) (hl : lo' ≤ lo) : WrB w lo' r := fun h0 => by
  obtain ⟨g, e, h1, h2, h3⟩ := h h0
  exact ⟨g, e, by omega, h2, h3⟩
structure WrM (W : World) (base gB : Nat) (rs : List Dr) (i : Nat) : Prop where
  row : ∀ j r, i ≤ j → rs[j]? = some r → W.rangeAt gB (j * 4) (eDr r)
  there : W.there gB 0 (rs.length * 4)
  wr : ∀ r ∈ rs, WrB W base r ∧ (0 < r.d.body.length → ∀ q, blk r.B = some q → q ≠ gB)
  lo : base ≤ gB ∧ gB < W.heap.size
theorem OwnMs.wrm {W : World} {base c : Nat} {B : Option Addr} {rs : List Dr} (h : OwnMs W base B c rs) (h0 : 0 < rs.length) : ∃ gB, B = some ⟨gB, 0, none⟩ ∧ WrM W base gB rs 0 := by
  obtain ⟨g, cap, hv, hg1, hg2⟩ := World.ownsRow.form h.own h0
  have hB : B = some ⟨g, 0, none⟩ := by injection hv
  subst hB
  have hcells := World.ownsRow.cellAt h.own
  refine ⟨g, rfl, fun j r _ hr q u hu => ?_, fun j hj => ?_, fun r hr => ⟨h.wr r hr, fun h0 q hq => ?_⟩, (h.own.lo g rfl).1, hg2⟩
  · have hu' := flatMap_at len_eDr rs j q r u hr hu
    have := hcells (j * 4 + q) (by rw [← length_flat len_eDr rs]; exact (List.getElem?_eq_some_iff.1 hu').1)
    rw [this, ← hu']
  · rw [Nat.zero_add]
    refine ⟨?_, World.ownsRow.frozenAt h.own j⟩
    rw [hcells j hj, List.getElem?_eq_getElem (by rw [length_flat len_eDr]; exact hj)]; rfl
  · obtain ⟨q2, off, e, hne, _⟩ := (h.far r hr).2 h0
    rw [e] at hq
    intro e2; subst e2
    exact hne (by simpa [blk] using hq)
section
variable {W W' : World} {base gB i : Nat} {rs : List Dr} {r : Dr}
theorem WrM.byte (h : WrM W base gB rs i) (hr : r ∈ rs) (h0 : 0 < r.d.body.length) {g : Nat} (hB : r.B = some ⟨g, 0, none⟩) (o : Nat) (v : Value) : WrM (W.setCell ⟨g, o, none⟩ v) base gB rs i := by
  have hne := (h.wr r hr).2 h0 g (by rw [hB]; rfl)
  exact ⟨fun j x hj hx => range_other (h.row j x hj hx) _ _ hne, there_set h.there _ _, fun x hx => ⟨fun hx0 => by
    obtain ⟨q, e, q1, q2, q3⟩ := (h.wr x hx).1 hx0
    exact ⟨q, e, q1, by rw [World.size_setCell]; exact q2, there_set q3 _ _⟩, (h.wr x hx).2⟩, h.lo.1, by rw [World.size_setCell]; exact h.lo.2⟩
theorem WrM.put (h : WrM W base gB rs i) (hi : i < rs.length) (vs : List Value) (hv : vs.length = 4) : WrM (W.setCells gB (i * 4) vs) base gB rs (i + 1) := by
  refine ⟨fun j x hj hx => rng_out (h.row j x (by omega) hx) (by rw [hv, len_eDr]; omega), World.there_setCells h.there _ _ _, fun x hx => ⟨fun hx0 => by
    obtain ⟨q, e, q1, q2, q3⟩ := (h.wr x hx).1 hx0
    exact ⟨q, e, q1, by rw [size_sets]; exact q2, World.there_setCells q3 _ _ _⟩, (h.wr x hx).2⟩, h.lo.1, by rw [size_sets]; exact h.lo.2⟩
end
theorem build113 (W : World) (a b : Int) : (Instr.build 113 #[(0, .int .i64 a), (1, .int .i64 b)]).run Try.prog W = .ok (.agg #[.int .i64 a, .int .i64 b, .int .i64 0, .slice none 0 0]) W := by kernel_rfl
theorem one4 (a b : Int) : (#[.int .i64 a, .int .i64 b, .int .i64 0, .slice none 0 0] : Array Value).all (·.oneCell') = true := by
  refine all_oneCell_toArray (cs := [.int .i64 a, .int .i64 b, .int .i64 0, .slice none 0 0]) fun u hu => ?_
  simp at hu; rcases hu with rfl | rfl | rfl | rfl <;> rfl
set_option maxRecDepth 100000 in
theorem tells_any {w : World} {F : List Nat} {b g b' g' : Nat} {s : Sto} (h : Two w F b g b' g' s) :
    Calls Try.prog 45 #[.pointer (some ⟨b, 0, none⟩), .pointer (some ⟨b', 0, none⟩)] w fun x w' => x = .returned (.bool true) ∧ Below w.heap.size w w' := by
  obtain ⟨k1, k2, k3, k4, p⟩ := h.p
  obtain ⟨l1, l2, l3, l4, d⟩ := h.d
  refine calls_vc tab_ok Try.func45 rfl ?_
  repeat ((conv => whnf); first | (refine VCmp.tt (by omega) ?_) | (refine VCmp.ff (by omega) ?_) | (refine VIn.mk (IntWalk.i64_in _ (by omega)) ?_) | (refine VIdx.mk _ rfl (by omega) ?_) | (refine VIdx.mk 0 rfl (by omega) ?_))
  try (conv => whnf)
  refine VCall.mk _ (messages_any p) ?_
  rintro _ x1 ⟨B, c, rs, rfl, hrs, ho, hb1⟩
  refine ⟨_, rfl, ?_⟩
  repeat ((conv => whnf); first | (refine VCmp.tt (by omega) ?_) | (refine VCmp.ff (by omega) ?_) | (refine VIn.mk (IntWalk.i64_in _ (by omega)) ?_) | (refine VIdx.mk _ rfl (by omega) ?_) | (refine VIdx.mk 0 rfl (by omega) ?_))
  try (conv => whnf)
  refine VCall.mk _ (rmessages_any (d.below hb1)) ?_
  rintro _ x2 ⟨B2, c2, rs2, rfl, hrs2, ho2, hb2⟩
  refine ⟨_, rfl, ?_⟩
  have hlen : rs.length = s.msgs.length := by rw [← hrs, List.length_map]
  have hb12 : Below w.heap.size w x2 := hb1.trans (hb2.mono hb1.size)
  have ho1 : OwnMs x2 w.heap.size B c rs := ⟨ho.own.keep hb2 (fun q hq => (ho.own.lo q hq).2), fun r hr => (ho.far r hr).below hb2, fun r hr => (ho.wr r hr).below hb2⟩
  have d1 : Dts x2 x2.heap.size B s.msgs := by have := ho1.dts; rwa [hrs] at this
  have d2 : Dts x2 x2.heap.size B2 s.msgs := by have := ho2.dts; rwa [hrs2] at this
  have hlm := h.inv.lenM
  repeat ((conv => whnf); first | (refine VCmp.tt (by omega) ?_) | (refine VCmp.ff (by omega) ?_) | (refine VIn.mk (IntWalk.i64_in _ (by omega)) ?_) | (refine VIdx.mk _ rfl (by omega) ?_) | (refine VIdx.mk 0 rfl (by omega) ?_))
  try (conv => whnf)
  refine VCall.mk _ (sameDatas_yes B B2 c c2 x2.heap.size s.msgs x2 (Nat.le_refl _) d1 d2 (by omega)) ?_
  rintro _ x3 ⟨rfl, hb3⟩
  refine ⟨_, rfl, ?_⟩
  have b3 : Below w.heap.size w x3 := hb12.trans (hb3.mono hb12.size)
  have ho3 : OwnMs x3 w.heap.size B c rs := ⟨ho1.own.keep hb3 (fun q hq => (ho1.own.lo q hq).2), fun r hr => (ho1.far r hr).below hb3, fun r hr => (ho1.wr r hr).below hb3⟩
  rw [← hlen]
  rw [← hlen] at hlm
  have hsz : ∀ r ∈ rs, r.d.body.length ≤ 1048576 := fun r hr => by
    have := h.inv.each r.d (by rw [← hrs]; exact List.mem_map.2 ⟨r, hr, rfl⟩)
    unfold dtB at this; simp at this; omega
  repeat ((conv => whnf); first | (refine VCmp.tt (by omega) ?_) | (refine VCmp.ff (by omega) ?_) | (refine VIn.mk (IntWalk.i64_in _ (by omega)) ?_) | (refine VIdx.mk _ rfl (by omega) ?_) | (refine VIdx.mk 0 rfl (by omega) ?_))
  try (conv => whnf)
  refine VLoop.mk Nat (fun k => [(5, .slice B rs.length c), (6, .bool true), (7, .int .i64 k)]) (fun k W => k ≤ rs.length ∧ (0 < rs.length → ∃ gB, B = some ⟨gB, 0, none⟩ ∧ WrM W w.heap.size gB rs k) ∧ Below w.heap.size w W) (fun k => rs.length - k) 0 ⟨rfl, rfl, rfl, trivial⟩ ⟨Nat.zero_le _, fun h0 => ho3.wrm h0, b3⟩ ?_
  rintro k wr ⟨hk, hwm, br⟩
  by_cases hkl : k < rs.length
  case pos =>
    obtain ⟨gB, rfl, hw⟩ := hwm (by omega)
    have hrk : rs[k]? = some rs[k] := List.getElem?_eq_getElem hkl
    have hmem : rs[k] ∈ rs := List.getElem_mem _
    have hbl := hsz rs[k] hmem
    generalize rs[k] = r at hrk hmem hbl
    repeat ((conv => whnf); first | (refine VCmp.tt (by omega) ?_) | (refine VCmp.ff (by omega) ?_) | (refine VIn.mk (IntWalk.i64_in _ (by omega)) ?_) | (refine VIdx.mk _ rfl (by omega) ?_) | (refine VIdx.mk 0 rfl (by omega) ?_))
    try (conv => whnf)
    refine VLoop.mk Nat (fun j => [(5, .slice (some ⟨gB, 0, none⟩) rs.length c), (6, .bool true), (7, .int .i64 k), (8, .int .i64 j)]) (fun j W => j ≤ r.d.body.length ∧ WrM W w.heap.size gB rs k ∧ Below w.heap.size w W) (fun j => r.d.body.length - j) 0 ⟨rfl, rfl, rfl, rfl, trivial⟩ ⟨Nat.zero_le _, hw, br⟩ ?_
    clear hw hwm br
    rintro j wi ⟨hj, hw, bi⟩
    have hcell : wi.rangeAt gB (0 + k * 4) (eDr r) := by rw [Nat.zero_add]; exact hw.row k r (Nat.le_refl _) hrk
    have Lb := Ld.of (load52 (hcell 3 _ rfl))
    by_cases hjl : j < r.d.body.length
    case pos =>
      obtain ⟨q, hB, q1, q2, q3⟩ := (hw.wr r hmem).1 (by omega)
      rw [hB] at Lb
      repeat ((conv => whnf); first | (refine VLoad.mk _ Lb ?_) | (refine VCmp.tt (by omega) ?_) | (refine VCmp.ff (by omega) ?_) | (refine VIn.mk (IntWalk.i64_in _ (by omega)) ?_) | (refine VIdx.mk _ rfl (by omega) ?_) | (refine VIdx.mk 0 rfl (by omega) ?_))
      try (conv => whnf)
      refine VStore.cell (by kernel_rfl) (q3 j hjl).1 (q3 j hjl).2 rfl rfl fun w2 hw2 => ?_
      have hw' : WrM w2 w.heap.size gB rs k := by rw [hw2.out]; exact hw.byte hmem (by omega) hB _ _
      have b2 : Below w.heap.size w w2 := bi.grown (by rw [hw2.out]; exact grown_cell _ _ _ _) bi.size (by intro x hx; injection hx with hx; omega)
      repeat ((conv => whnf); first | (refine VCmp.tt (by omega) ?_) | (refine VCmp.ff (by omega) ?_) | (refine VIn.mk (IntWalk.i64_in _ (by omega)) ?_) | (refine VIdx.mk _ rfl (by omega) ?_) | (refine VIdx.mk 0 rfl (by omega) ?_))
      try (conv => whnf)
      exact .mk (j + 1) ⟨rfl, rfl, rfl, rfl, trivial⟩ ⟨hjl, hw', b2⟩ (by omega)
    case neg =>
      repeat ((conv => whnf); first | (refine VLoad.mk _ Lb ?_) | (refine VCmp.tt (by omega) ?_) | (refine VCmp.ff (by omega) ?_) | (refine VIn.mk (IntWalk.i64_in _ (by omega)) ?_) | (refine VIdx.mk _ rfl (by omega) ?_) | (refine VIdx.mk 0 rfl (by omega) ?_))
      try (conv => whnf)
      refine VBuild.mk _ (fun W => build113 W 4 44) ?_
      repeat ((conv => whnf); first | (refine VCmp.tt (by omega) ?_) | (refine VCmp.ff (by omega) ?_) | (refine VIn.mk (IntWalk.i64_in _ (by omega)) ?_) | (refine VIdx.mk _ rfl (by omega) ?_) | (refine VIdx.mk 0 rfl (by omega) ?_))
      try (conv => whnf)
      refine VStore.mid (c := #[.int .i64 4, .int .i64 44, .int .i64 0, .slice none 0 0]) (by rw [Nat.zero_add]; exact World.there.at hw.there (by show k * 4 + 4 ≤ _; omega)) (by kernel_rfl) (one4 4 44) fun w2 hw2 => ?_
      have hw2' : w2 = wi.setCells gB (k * 4) [.int .i64 4, .int .i64 44, .int .i64 0, .slice none 0 0] := by rw [hw2.out, Nat.zero_add]; rfl
      have hw' : WrM w2 w.heap.size gB rs (k + 1) := by rw [hw2']; exact hw.put hkl _ rfl
      have b2 : Below w.heap.size w w2 := by rw [hw2']; exact below_sets bi hw.lo.1 _ _ bi.size
      repeat ((conv => whnf); first | (refine VCmp.tt (by omega) ?_) | (refine VCmp.ff (by omega) ?_) | (refine VIn.mk (IntWalk.i64_in _ (by omega)) ?_) | (refine VIdx.mk _ rfl (by omega) ?_) | (refine VIdx.mk 0 rfl (by omega) ?_))
      try (conv => whnf)
      exact .mk (k + 1) ⟨rfl, rfl, rfl, trivial⟩ ⟨hkl, fun _ => ⟨gB, rfl, hw'⟩, b2⟩ (by omega)
  repeat ((conv => whnf); first | (refine VCmp.tt (by omega) ?_) | (refine VCmp.ff (by omega) ?_) | (refine VIn.mk (IntWalk.i64_in _ (by omega)) ?_) | (refine VIdx.mk _ rfl (by omega) ?_) | (refine VIdx.mk 0 rfl (by omega) ?_))
  try (conv => whnf)
  exact .mk ⟨rfl, br⟩
end Go.Proofs.Ytcffhfcjfjfokaa
namespace Go.Proofs.Ytcffhfcjfjfokaa
open Go.RowKit
theorem RowAt.front {α : Type} {w : World} {N sz : Nat} {enc : α → List Value} {A : Option Addr} {l m : List α} (h : RowAt w N sz enc A (l ++ m)) : RowAt w N sz enc A l := fun h0 => by
  obtain ⟨b, off, e, hb, hc⟩ := h (by rw [List.length_append]; omega)
  exact ⟨b, off, e, hb, fun k x hk => hc k x (by rw [List.getElem?_append_left (List.getElem?_eq_some_iff.1 hk).1]; exact hk)⟩
set_option maxRecDepth 100000 in
set_option maxHeartbeats 2000000 in
theorem untouched_yes (f g : Fl) (g2 g4 c2 c4 N : Nat) (A' B' : Option Addr) (cA' cB' : Nat) (w : World) (hN : N ≤ w.heap.size)
    (h2 : RowAt w N 2 eSlot (some ⟨g2, 0, none⟩) (f.slots ++ [(71, 71)])) (h4 : RowAt w N 1 eInt (some ⟨g4, 0, none⟩) (f.have_ ++ [72])) (l2 : f.slots.length + 1 ≤ c2) (m2 : c2 ≤ 9223372036854775807) (l4 : f.have_.length + 1 ≤ c4) (m4 : c4 ≤ 9223372036854775807)
    (hr' : FlRows w N g A' cA' B' cB') (hs : f = g) :
    Calls Try.prog 27 #[.agg #[.int .i64 f.e, .int .i64 f.l, .int .i64 f.i, .int .i64 f.c, .int .i64 f.base, .slice (some ⟨g2, 0, none⟩) f.slots.length c2, .slice (some ⟨g4, 0, none⟩) f.have_.length c4, .slice (some ⟨g2, 0, none⟩) (f.slots.length + 1) c2, .slice (some ⟨g4, 0, none⟩) (f.have_.length + 1) c4], .agg (flc g.e g.l g.i g.c g.base A' g.slots.length cA' B' g.have_.length cB')] w
      fun x w' => x = .returned (.bool true) ∧ Below w.heap.size w w' := by
  subst hs
  have hsb : sameB f f = true := by simp [sameB]
  go_enter Try.func27, Try.ntmps27
  obtain ⟨b2, o2, x, y, e2, hb2, hx2, k1, k2⟩ := h2.slot (k := f.slots.length) (by simp)
  obtain ⟨b4, o4, z, e4, hb4, hx4, k4⟩ := h4.int (k := f.have_.length) (by simp)
  obtain ⟨rfl, rfl⟩ : g2 = b2 ∧ 0 = o2 := by simpa using e2
  obtain ⟨rfl, rfl⟩ : g4 = b4 ∧ 0 = o4 := by simpa using e4
  have e1 := hx2.out
  rw [List.getElem?_append_right (Nat.le_refl _)] at e1
  simp at e1
  obtain ⟨rfl, rfl⟩ := e1
  have e3 := hx4.out
  rw [List.getElem?_append_right (Nat.le_refl _)] at e3
  simp at e3
  subst e3
  clear e2 e4 hx2 hx4
  have hrf : FlRows w N f (some ⟨g2, 0, none⟩) c2 (some ⟨g4, 0, none⟩) c4 := ⟨h2.front, h4.front, by omega, m2, by omega, m4⟩
  simp only [Nat.zero_add] at k1 k2 k4
  have b2w : g2 < w.heap.size := by omega
  have b4w : g4 < w.heap.size := by omega
  have q1 : f.slots.length < f.slots.length + 1 := by omega
  have q2 : f.have_.length < f.have_.length + 1 := by omega
  clear h2 h4
  go_wp2_with (go_at_call 64; refine (same_any f f _ _ _ _ _ _ _ _ N _ (by simp only [World.size_alloc]; omega) (by exact hrf.below (below_box2 _ _ _ _ _) hN) (by exact hr'.below (below_box2 _ _ _ _ _) hN)).mono ?_; rintro e w' ⟨rfl, hbw⟩; rw [World.size_alloc, World.size_alloc] at hbw; obtain ⟨hb0, hc1, hc2, -, -, hs1, hs2⟩ := box2_facts hbw; have hq := bcell hb0; obtain ⟨hq1, -⟩ := hq; rw [← hq1 _ _ b2w] at k1 k2; rw [← hq1 _ _ b4w] at k4; clear hq1)
  go_ret
  go_light
  exact ⟨rfl, hb0⟩
end Go.Proofs.Ytcffhfcjfjfokaa
namespace Go.Proofs.Ytcffhfcjfjfokaa
open Go.RowKit
theorem num_any (n : Int) (w : World) : Calls Try.prog 16 #[.int .i64 n] w fun e w' => e = .returned (.int .i64 n) ∧ w = w' := by
  go_enter Try.func16, Try.ntmps16
  go_wp2
  go_ret
  exact ⟨rfl, rfl⟩
end Go.Proofs.Ytcffhfcjfjfokaa
