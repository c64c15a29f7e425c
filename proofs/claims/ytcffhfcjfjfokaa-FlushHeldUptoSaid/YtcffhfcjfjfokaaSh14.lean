/- FsW Laid MsW, joined. -/
import Derived.Test.YtcffhfcjfjfokaaSh13
set_option linter.unusedVariables false
set_option linter.unusedSimpArgs false
/- Contents of the call's own, with room that counts; many, with what it owns. -/
namespace Go.Proofs.Ytcffhfcjfjfokaa
open Go Go.RowKit
theorem OwnW.neO {α β : Type} {w : World} {base base' sz sz' c c' : Nat} {e e' : TypeId} {enc : α → List Value} {enc' : β → List Value} {A A' : Option Addr} {l : List α} {l' : List β} (h : OwnW w base e sz enc A c l) (h' : Owns w base' e' sz' enc' A' c' l') (he : e ≠ e') : ∀ k, bw A c = some k → blk A' ≠ some k := fun k h1 h2 => by
  rcases (h.own (bw_blk h1).2).ne h' he with e | e
  · rw [(bw_blk h1).1] at e; cases e
  · exact e ((bw_blk h1).1.trans h2.symm)
structure FsW (w : World) (base : Nat) (B : Option Addr) (c : Nat) (rs : List Rw) : Prop where
  own : Owns w base 39 7 eRw B c rs
  each : ∀ r ∈ rs, OwnW w base 66 2 eSlot r.X r.cX r.f.slots ∧ OwnW w base 3 1 eInt r.Y r.cY r.f.have_
  dis : ∀ (k j : Nat) (x y : Rw), k ≠ j → rs[k]? = some x → rs[j]? = some y → (∀ q, bw x.X x.cX = some q → bw y.X y.cX ≠ some q) ∧ (∀ q, bw x.Y x.cY = some q → bw y.Y y.cY ≠ some q)
def fblks (B : Option Addr) (rs : List Rw) : List Nat := (blk B).toList ++ rs.flatMap fun r => (bw r.X r.cX).toList ++ (bw r.Y r.cY).toList
section
variable {w w' : World} {base c c' g : Nat} {B B' : Option Addr} {rs : List Rw} {r : Rw} {S : List Nat}
theorem fblks_B (h : blk B = some g) : g ∈ fblks B rs := List.mem_append.2 (.inl (by rw [h]; simp))
theorem fblks_X (hr : r ∈ rs) (h : bw r.X r.cX = some g) : g ∈ fblks B rs := List.mem_append.2 (.inr (List.mem_flatMap.2 ⟨r, hr, List.mem_append.2 (.inl (by rw [h]; simp))⟩))
theorem fblks_Y (hr : r ∈ rs) (h : bw r.Y r.cY = some g) : g ∈ fblks B rs := List.mem_append.2 (.inr (List.mem_flatMap.2 ⟨r, hr, List.mem_append.2 (.inr (by rw [h]; simp))⟩))
theorem fblks_of (h : g ∈ fblks B rs) : blk B = some g ∨ ∃ r ∈ rs, bw r.X r.cX = some g ∨ bw r.Y r.cY = some g := by
  rcases List.mem_append.1 h with h | h
  · left; simpa [Option.mem_toList] using h
  · obtain ⟨r, hr, h⟩ := List.mem_flatMap.1 h
    right
    refine ⟨r, hr, ?_⟩
    rcases List.mem_append.1 h with h | h
    · left; simpa [Option.mem_toList] using h
    · right; simpa [Option.mem_toList] using h
theorem FsW.blks (h : FsW w base B c rs) : ∀ k ∈ fblks B rs, base ≤ k ∧ k < w.heap.size := fun k hk => by
  rcases fblks_of hk with e | ⟨r, hr, e | e⟩
  · exact h.own.lo k e
  · exact (h.each r hr).1.lo k e
  · exact (h.each r hr).2.lo k e
theorem FsW.fx (h : FsW w base B c rs) (hf : Fx S w w') (hd : ∀ k ∈ fblks B rs, k ∉ S) : FsW w' base B c rs :=
  ⟨h.own.fx hf fun k hk => hd k (fblks_B hk), fun r hr => ⟨(h.each r hr).1.fx hf fun k hk => hd k (fblks_X hr hk), (h.each r hr).2.fx hf fun k hk => hd k (fblks_Y hr hk)⟩, h.dis⟩
theorem FsW.below (h : FsW w base B c rs) (hb : Below w.heap.size w w') : FsW w' base B c rs := h.fx (S := []) (.below hb) fun _ _ => by simp
theorem FsW.lower {base' : Nat} (h : FsW w base B c rs) (hb : base' ≤ base) : FsW w base' B c rs := ⟨h.own.base hb, fun r hr => ⟨(h.each r hr).1.lower hb, (h.each r hr).2.lower hb⟩, h.dis⟩
theorem FsW.fls (h : FsW w base B c rs) : Fls w w.heap.size B (rs.map Rw.f) :=
  rows_fls ⟨h.own.row len_eRw, fun r hr => by
    obtain ⟨o1, o2⟩ := h.each r hr
    exact ⟨o1.row len_eSlot, o2.row len_eInt, o1.len, o1.cap, o2.len, o2.cap⟩⟩
theorem FsW.push (h : FsW w base B c rs) (hz : base ≤ w.heap.size) (hf : Fx (blk B).toList w w') (hX : OwnW w' w.heap.size 66 2 eSlot r.X r.cX r.f.slots) (hY : OwnW w' w.heap.size 3 1 eInt r.Y r.cY r.f.have_) (ho : Owns w' base 39 7 eRw B' c' (rs ++ [r])) : FsW w' base B' c' (rs ++ [r]) := by
  have hold : ∀ x ∈ rs, OwnW w' base 66 2 eSlot x.X x.cX x.f.slots ∧ OwnW w' base 3 1 eInt x.Y x.cY x.f.have_ := fun x hx =>
    ⟨(h.each x hx).1.fx hf fun k hk hm => (h.each x hx).1.neO h.own (by decide) k hk (by simpa [Option.mem_toList] using hm), (h.each x hx).2.fx hf fun k hk hm => (h.each x hx).2.neO h.own (by decide) k hk (by simpa [Option.mem_toList] using hm)⟩
  have hget : ∀ k x, (rs ++ [r])[k]? = some x → (k < rs.length ∧ rs[k]? = some x) ∨ (k = rs.length ∧ x = r) := fun k x hx => by
    have hkl := (List.getElem?_eq_some_iff.1 hx).1
    rw [List.length_append] at hkl
    by_cases e : k < rs.length
    · rw [List.getElem?_append_left e] at hx; exact .inl ⟨e, hx⟩
    · have : k = rs.length := by simp at hkl; omega
      subst this
      rw [List.getElem?_append_right (Nat.le_refl _), Nat.sub_self] at hx
      injection hx with hx; exact .inr ⟨rfl, hx.symm⟩
  refine ⟨ho, fun x hx => ?_, fun k j x y hne hx hy => ?_⟩
  · rcases List.mem_append.1 hx with hx | hx
    · exact hold x hx
    · obtain rfl := List.mem_singleton.1 hx
      exact ⟨hX.lower hz, hY.lower hz⟩
  · rcases hget k x hx with ⟨e1, e2⟩ | ⟨e1, rfl⟩ <;> rcases hget j y hy with ⟨e3, e4⟩ | ⟨e3, rfl⟩
    · exact h.dis k j x y hne e2 e4
    · have hm := List.mem_of_getElem? e2
      exact ⟨fun q h1 h2 => by have := ((h.each x hm).1.lo q h1).2; have := (hX.lo q h2).1; omega, fun q h1 h2 => by have := ((h.each x hm).2.lo q h1).2; have := (hY.lo q h2).1; omega⟩
    · have hm := List.mem_of_getElem? e4
      exact ⟨fun q h1 h2 => by have := ((h.each y hm).1.lo q h2).2; have := (hX.lo q h1).1; omega, fun q h1 h2 => by have := ((h.each y hm).2.lo q h2).2; have := (hY.lo q h1).1; omega⟩
    · omega
/-- One content is laid anew: into its own room, or into new blocks. -/
theorem FsW.put {i : Nat} {r' : Rw} (h : FsW w base B c rs) (hz : base ≤ w.heap.size) (hi : rs[i]? = some r) (hf : Fx ((blk B).toList ++ ((bw r.X r.cX).toList ++ (bw r.Y r.cY).toList)) w w') (ho : Owns w' base 39 7 eRw B c (rs.set i r'))
    (hX : OwnW w' base 66 2 eSlot r'.X r'.cX r'.f.slots) (hY : OwnW w' base 3 1 eInt r'.Y r'.cY r'.f.have_)
    (kX : ∀ k, bw r'.X r'.cX = some k → bw r.X r.cX = some k ∨ w.heap.size ≤ k) (kY : ∀ k, bw r'.Y r'.cY = some k → bw r.Y r.cY = some k ∨ w.heap.size ≤ k) : FsW w' base B c (rs.set i r') := by
  have hil := (List.getElem?_eq_some_iff.1 hi).1
  have hrm := List.mem_of_getElem? hi
  have hS : ∀ k, k ∈ (blk B).toList ++ ((bw r.X r.cX).toList ++ (bw r.Y r.cY).toList) → blk B = some k ∨ bw r.X r.cX = some k ∨ bw r.Y r.cY = some k := fun k hk => by
    rcases List.mem_append.1 hk with hk | hk
    · left; simpa [Option.mem_toList] using hk
    · rcases List.mem_append.1 hk with hk | hk
      · right; left; simpa [Option.mem_toList] using hk
      · right; right; simpa [Option.mem_toList] using hk
  have hget : ∀ k, (rs.set i r')[k]? = if k = i then some r' else rs[k]? := fun k => by
    by_cases e1 : k = i
    · subst e1; rw [List.getElem?_set_self hil, if_pos rfl]
    · rw [List.getElem?_set_ne (fun e2 => e1 e2.symm), if_neg e1]
  have hold : ∀ (k : Nat) (x : Rw), k ≠ i → rs[k]? = some x → OwnW w' base 66 2 eSlot x.X x.cX x.f.slots ∧ OwnW w' base 3 1 eInt x.Y x.cY x.f.have_ := fun k x hne hx => by
    have hm := List.mem_of_getElem? hx
    obtain ⟨e1, e2⟩ := h.each x hm
    obtain ⟨e3, e4⟩ := h.each r hrm
    obtain ⟨d1, d2⟩ := h.dis k i x r hne hx hi
    refine ⟨e1.fx hf fun q hq hm => ?_, e2.fx hf fun q hq hm => ?_⟩
    · rcases hS q hm with e | e | e
      · exact e1.neO h.own (by decide) q hq e
      · exact d1 q hq e
      · exact e1.ne e4 (by decide) q hq e
    · rcases hS q hm with e | e | e
      · exact e2.neO h.own (by decide) q hq e
      · exact e2.ne e3 (by decide) q hq e
      · exact d2 q hq e
  refine ⟨ho, fun x hx => ?_, fun k j x y hne hx hy => ?_⟩
  · obtain ⟨k, hk⟩ := List.mem_iff_getElem?.1 hx
    rw [hget] at hk
    split at hk
    · injection hk with hk; subst hk; exact ⟨hX, hY⟩
    · rename_i hne; exact hold k x hne hk
  · rw [hget] at hx hy
    split at hx <;> split at hy
    · omega
    · rename_i e1 e2
      injection hx with hx; subst hx
      have hm := List.mem_of_getElem? hy
      obtain ⟨d1, d2⟩ := h.dis j i y r e2 hy hi
      refine ⟨fun q h1 h2 => ?_, fun q h1 h2 => ?_⟩
      · rcases kX q h1 with e | e
        · exact d1 q h2 e
        · have := ((h.each y hm).1.lo q h2).2; omega
      · rcases kY q h1 with e | e
        · exact d2 q h2 e
        · have := ((h.each y hm).2.lo q h2).2; omega
    · rename_i e1 e2
      injection hy with hy; subst hy
      have hm := List.mem_of_getElem? hx
      obtain ⟨d1, d2⟩ := h.dis k i x r e1 hx hi
      refine ⟨fun q h1 h2 => ?_, fun q h1 h2 => ?_⟩
      · rcases kX q h2 with e | e
        · exact d1 q h1 e
        · have := ((h.each x hm).1.lo q h1).2; omega
      · rcases kY q h2 with e | e
        · exact d2 q h1 e
        · have := ((h.each x hm).2.lo q h1).2; omega
    · exact h.dis k j x y hne hx hy
end
theorem FlAt.range {w : World} {N b o : Nat} {f : Fl} {X Y : Option Addr} {cX cY : Nat} (h : FlAt w N b o f X cX Y cY) : w.rangeAt b o (flc f.e f.l f.i f.c f.base X f.slots.length cX Y f.have_.length cY).toList := by
  obtain ⟨h0, h1, h2, h3, h4, h5, h6⟩ := h
  intro j u hu
  match j with
  | 0 => injection hu with hu; subst hu; exact h0
  | 1 => injection hu with hu; subst hu; exact h1
  | 2 => injection hu with hu; subst hu; exact h2
  | 3 => injection hu with hu; subst hu; exact h3
  | 4 => injection hu with hu; subst hu; exact h4
  | 5 => injection hu with hu; subst hu; exact h5
  | 6 => injection hu with hu; subst hu; exact h6
  | j + 7 => exact absurd hu (by simp)
theorem bs22z (W : World) : (Instr.buildSlice 22 0 #[]).run Try.prog W = .ok (.slice (some ⟨W.heap.size, 0, none⟩) 0 0) (W.alloc (.cells #[] 39)) := by kernel_rfl
theorem bs22 (W : World) (e l i c u : Int) (A : Option Addr) (n cA : Nat) (B : Option Addr) (m cB : Nat) : (Instr.buildSlice 22 1 #[(0, .agg (flc e l i c u A n cA B m cB))]).run Try.prog W = .ok (.slice (some ⟨W.heap.size, 0, none⟩) 1 1) (W.alloc (.cells (flc e l i c u A n cA B m cB) 39)) := by kernel_rfl
structure MSt where
  i : Nat
  A : Option Addr
  c : Nat
  rs : List Rw
set_option maxRecDepth 100000 in
theorem many_w (A : Option Addr) (cA N : Nat) (fs : List Fl) (w : World) (hN : N ≤ w.heap.size) (hA : Fls w N A fs) (hsm : Small fs) :
    Calls Try.prog 28 #[.slice A fs.length cA] w fun x w' => (∃ B c rs, x = .returned (.slice B fs.length c) ∧ rs.map Rw.f = fs ∧ FsW w' w.heap.size B c rs) ∧ Below w.heap.size w w' := by
  have hl : fs.length ≤ 1048576 := hsm.1
  refine calls_vc tab_ok Try.func28 rfl ?_
  repeat (conv => whnf
          first
          | (refine VCmp.tt (by omega) ?_)
          | (refine VCmp.ff (by omega) ?_)
          | (refine VIn.mk (IntWalk.i64_in _ (by omega)) ?_)
          | (refine VIdx.mk _ rfl (by omega) ?_)
          | (refine VIdx.mk 0 rfl (by omega) ?_))
  try (conv => whnf)
  refine VBs.mk _ _ (bs22z w) ?_
  have ho0 : FsW (w.alloc (.cells #[] 39)) w.heap.size (some ⟨w.heap.size, 0, none⟩) 0 [] := ⟨owns_empty _ _ _ _ _ (Nat.le_refl _), fun r hr => by simp at hr, fun k j x y _ hx => by simp at hx⟩
  have hb0 : Below w.heap.size w (w.alloc (.cells #[] 39)) := (Below.refl _ _).alloc (Nat.le_refl _) _
  generalize w.alloc (.cells #[] 39) = w0 at ho0 hb0 ⊢
  repeat (conv => whnf
          first
          | (refine VCmp.tt (by omega) ?_)
          | (refine VCmp.ff (by omega) ?_)
          | (refine VIn.mk (IntWalk.i64_in _ (by omega)) ?_)
          | (refine VIdx.mk _ rfl (by omega) ?_)
          | (refine VIdx.mk 0 rfl (by omega) ?_))
  try (conv => whnf)
  refine VLoop.mk MSt (fun x => [(0, .slice A fs.length cA), (3, .slice x.A x.i x.c), (4, .int .i64 x.i)]) (fun x W => x.rs.length = x.i ∧ x.i ≤ fs.length ∧ x.rs.map Rw.f = fs.take x.i ∧ FsW W w.heap.size x.A x.c x.rs ∧ Below w.heap.size w W) (fun x => fs.length - x.i) ⟨0, _, 0, []⟩ ⟨rfl, rfl, rfl, trivial⟩ ⟨rfl, Nat.zero_le _, by simp, ho0, hb0⟩ ?_
  clear ho0 hb0 w0
  rintro ⟨i, B, c, rs⟩ wr ⟨hrl, hi, hrs, hF, hb⟩
  dsimp only at hrl hi hrs hF ⊢
  by_cases hlt : i < fs.length
  case neg =>
    have hie : i = fs.length := by omega
    repeat (conv => whnf
            first
            | (refine VCmp.tt (by omega) ?_)
            | (refine VCmp.ff (by omega) ?_)
            | (refine VIn.mk (IntWalk.i64_in _ (by omega)) ?_)
            | (refine VIdx.mk _ rfl (by omega) ?_)
            | (refine VIdx.mk 0 rfl (by omega) ?_))
    try (conv => whnf)
    rw [hie] at hrs
    rw [List.take_length] at hrs
    exact .mk ⟨⟨B, c, rs, by rw [hie]; rfl, hrs, hF⟩, hb⟩
  obtain ⟨g, o, f, X, cX, Y, cY, rfl, hg, hf, hat, hr⟩ := (hA.below hb hN).at_ hlt
  obtain ⟨hs1, hs2⟩ := hsm.2 f (List.mem_of_getElem? hf.out)
  have hsz := hb.size
  have e39 := Ld.of (load39 hat.range)
  repeat (conv => whnf
          first
          | (refine VLoad.mk _ e39 ?_)
          | (refine VCmp.tt (by omega) ?_)
          | (refine VCmp.ff (by omega) ?_)
          | (refine VIn.mk (IntWalk.i64_in _ (by omega)) ?_)
          | (refine VIdx.mk _ rfl (by omega) ?_)
          | (refine VIdx.mk 0 rfl (by omega) ?_))
  try (conv => whnf)
  refine VCall.mk _ (one_own f X Y cX cY N wr (by omega) hr (by omega) (by omega)) ?_
  rintro _ w1 ⟨⟨X1, cX1, Y1, cY1, rfl, hX1, hY1⟩, b1⟩
  refine ⟨_, rfl, ?_⟩
  have z1 := b1.size
  repeat (conv => whnf
          first
          | (refine VCmp.tt (by omega) ?_)
          | (refine VCmp.ff (by omega) ?_)
          | (refine VIn.mk (IntWalk.i64_in _ (by omega)) ?_)
          | (refine VIdx.mk _ rfl (by omega) ?_)
          | (refine VIdx.mk 0 rfl (by omega) ?_))
  try (conv => whnf)
  refine VBs.mk _ _ (bs22 w1 f.e f.l f.i f.c f.base X1 f.slots.length cX1 Y1 f.have_.length cY1) ?_
  have b2 : Below w1.heap.size w1 (w1.alloc (.cells (flc f.e f.l f.i f.c f.base X1 f.slots.length cX1 Y1 f.have_.length cY1) 39)) := (Below.refl _ _).alloc (Nat.le_refl _) _
  have z2 : (w1.alloc (.cells (flc f.e f.l f.i f.c f.base X1 f.slots.length cX1 Y1 f.have_.length cY1) 39)).heap.size = w1.heap.size + 1 := by simp
  have hrow := row_new w1 39 7 eRw (⟨f, X1, cX1, Y1, cY1⟩ : Rw) (flc f.e f.l f.i f.c f.base X1 f.slots.length cX1 Y1 f.have_.length cY1) rfl
  generalize w1.alloc (.cells (flc f.e f.l f.i f.c f.base X1 f.slots.length cX1 Y1 f.have_.length cY1) 39) = w2 at b2 z2 hrow ⊢
  have b12 : Below wr.heap.size wr w2 := b1.trans (b2.mono z1)
  have F2 := hF.below b12
  repeat (conv => whnf
          first
          | (refine VCmp.tt (by omega) ?_)
          | (refine VCmp.ff (by omega) ?_)
          | (refine VIn.mk (IntWalk.i64_in _ (by omega)) ?_)
          | (refine VIdx.mk _ rfl (by omega) ?_)
          | (refine VIdx.mk 0 rfl (by omega) ?_))
  try (conv => whnf)
  refine VApp.rows w.heap.size 7 88 _ Try.underlying22 info39 rfl (by decide) eRw len_eRw one_eRw rs [⟨f, X1, cX1, Y1, cY1⟩] hrl rfl F2.own hrow (by omega) (by omega) (by omega) fun A3 c3 w3 ho3 hg3 hk3 => ?_
  have f3 : Fx (blk B).toList w2 w3 := .grown hg3 fun k hk => by rw [hk]; simp
  have f03 : Fx (blk B).toList wr w3 := Fx.trans (S := (blk B).toList) (.below b12) f3 fun k hk => .inl hk
  have hne : ∀ (k : Nat), k ∈ (blk B).toList → k < wr.heap.size := fun k hk => (hF.own.lo k (by simpa [Option.mem_toList] using hk)).2
  have hX3 : OwnW w3 wr.heap.size 66 2 eSlot X1 cX1 f.slots := (hX1.below b2).fx f3 fun k hk hm => by have := hne k hm; have := (hX1.lo k hk).1; omega
  have hY3 : OwnW w3 wr.heap.size 3 1 eInt Y1 cY1 f.have_ := (hY1.below b2).fx f3 fun k hk hm => by have := hne k hm; have := (hY1.lo k hk).1; omega
  have F3 := hF.push (r := ⟨f, X1, cX1, Y1, cY1⟩) hsz f03 hX3 hY3 ho3
  repeat (conv => whnf
          first
          | (refine VCmp.tt (by omega) ?_)
          | (refine VCmp.ff (by omega) ?_)
          | (refine VIn.mk (IntWalk.i64_in _ (by omega)) ?_)
          | (refine VIdx.mk _ rfl (by omega) ?_)
          | (refine VIdx.mk 0 rfl (by omega) ?_))
  try (conv => whnf)
  refine .mk ⟨i + 1, A3, c3, rs ++ [⟨f, X1, cX1, Y1, cY1⟩]⟩ ⟨rfl, rfl, rfl, trivial⟩ ⟨by rw [List.length_append, hrl]; rfl, by show i + 1 ≤ fs.length; omega, ?_, F3, ?_⟩ (by show fs.length - (i + 1) < fs.length - i; omega)
  · show List.map Rw.f (rs ++ [⟨f, X1, cX1, Y1, cY1⟩]) = _
    rw [List.map_append, hrs, List.take_add_one, hf.out]; rfl
  · exact (hb.trans (b12.mono hsz)).grown hg3 (by omega) (fun k hk => (hF.own.lo k hk).1)
end Go.Proofs.Ytcffhfcjfjfokaa
/- The law's laid: contents in the memory of others. -/
namespace Go.Proofs.Ytcffhfcjfjfokaa
open Go Go.RowKit
theorem VSl.zero {A : Option Addr} {n c es : Nat} {K : Value → Prop} (hk : K (.slice A 0 c)) : VSl A n c es 0 0 K :=
  .mk 0 0 rfl rfl (Nat.le_refl _) (Nat.zero_le _) (by
    have e : (if c = 0 then A else A.map (·.add (0 * es))) = A := by
      split
      · rfl
      · cases A with
        | none => rfl
        | some a => simp [Addr.add]
    rw [e, Nat.sub_zero]; exact hk)
/-- Contents that lie in other blocks than those of F, their lists below block N. -/
def InFs (w : World) (N : Nat) (F : List Nat) (A : Option Addr) (fs : List Fl) : Prop :=
  0 < fs.length → ∃ g off, A = some ⟨g, off, none⟩ ∧ g < w.heap.size ∧ g ∉ F ∧ ∀ k f, fs[k]? = some f → ∃ X cX Y cY, FlAt w 0 g (off + k * 7) f X cX Y cY ∧ FlRows w N f X cX Y cY
theorem InFs.of {w : World} {N base : Nat} {F : List Nat} {A : Option Addr} {fs : List Fl} (h : Fls w N A fs) (hN : N ≤ base) (hz : base ≤ w.heap.size) (hF : ∀ k ∈ F, base ≤ k) : InFs w N F A fs := fun h0 => by
  obtain ⟨b, off, e, hb, hc⟩ := h h0
  exact ⟨b, off, e, by omega, fun hm => by have := hF b hm; omega, hc⟩
theorem flat_set {α : Type} {enc : α → List Value} {sz : Nat} (hsz : ∀ x, (enc x).length = sz) : ∀ (l : List α) (k j : Nat) (x x' : α) (v : Value), l[k]? = some x → enc x' = (enc x).set j v → j < sz → (l.set k x').flatMap enc = (l.flatMap enc).set (k * sz + j) v
  | [], k, j, x, x', v, h, _, _ => by simp at h
  | y :: l, 0, j, x, x', v, h, he, hj => by
    injection h with h; subst h
    rw [List.set_cons_zero, List.flatMap_cons, List.flatMap_cons, he, Nat.zero_mul, Nat.zero_add, List.set_append_left _ _ (by rw [hsz]; exact hj)]
  | y :: l, k + 1, j, x, x', v, h, he, hj => by
    rw [List.set_cons_succ, List.flatMap_cons, List.flatMap_cons, List.set_append_right _ _ (by rw [hsz, Nat.succ_mul]; omega), hsz, show (k + 1) * sz + j - sz = k * sz + j by rw [Nat.succ_mul]; omega]
    rw [flat_set hsz l k j x x' v (by simpa using h) he hj]
/-- One cell of an element is set. -/
theorem Owns.field {α : Type} {w : World} {base g c k sz j : Nat} {e : TypeId} {enc : α → List Value} {l : List α} {x x' : α} {v : Value} (h : Owns w base e sz enc (some ⟨g, 0, none⟩) c l) (hsz : ∀ x, (enc x).length = sz) (hx : l[k]? = some x) (he : enc x' = (enc x).set j v) (hj : j < sz) : Owns (w.setCell ⟨g, k * sz + j, none⟩ v) base e sz enc (some ⟨g, 0, none⟩) c (l.set k x') := by
  have := (World.ownsRow.stored h (k * sz + j) v).1
  unfold Owns
  rw [List.length_set, flat_set hsz l k j x x' v hx he hj]
  exact this
theorem mix_set (fs gs : List Fl) (i : Nat) (f : Fl) (hf : fs[i]? = some f) (hg : i < gs.length) : (fs.take i ++ gs.drop i).set i f = fs.take (i + 1) ++ gs.drop (i + 1) := by
  have hi := (List.getElem?_eq_some_iff.1 hf).1
  have hl : (fs.take i).length = i := by rw [List.length_take]; omega
  rw [List.set_append_right _ _ (by omega), hl, Nat.sub_self, List.drop_eq_getElem_cons hg, List.set_cons_zero, List.take_add_one, hf]
  simp
structure LSt where
  i : Nat
  rs : List Rw
structure LaidI (w : World) (base : Nat) (B : Option Addr) (c : Nat) (fs : List Fl) (rs : List Rw) (x : LSt) (W : World) : Prop where
  n : x.rs.length = rs.length
  i : x.i ≤ rs.length
  f : x.rs.map Rw.f = fs.take x.i ++ (rs.map Rw.f).drop x.i
  o : FsW W base B c x.rs
  fx : Fx (fblks B rs) w W
  k : ∀ k ∈ fblks B x.rs, k ∈ fblks B rs ∨ w.heap.size ≤ k
set_option maxRecDepth 100000 in
theorem laid_any {w : World} {base c N cA : Nat} {A B : Option Addr} {rs : List Rw} {fs : List Fl} (h : FsW w base B c rs) (hz : base ≤ w.heap.size) (hN : N ≤ base) (hA : InFs w N (fblks B rs) A fs) (hsm : Small fs) (hl : rs.length ≤ fs.length) :
    Calls Try.prog 51 #[.slice B rs.length c, .slice A fs.length cA] w fun x w' => x = .returned (.tuple #[]) ∧ ∃ rs', rs'.length = rs.length ∧ rs'.map Rw.f = fs.take rs.length ∧ FsW w' base B c rs' ∧ Fx (fblks B rs) w w' ∧ ∀ k ∈ fblks B rs', k ∈ fblks B rs ∨ w.heap.size ≤ k := by
  have hfl : fs.length ≤ 1048576 := hsm.1
  have hbl := h.blks
  refine calls_vc tab_ok Try.func51 rfl ?_
  repeat (conv => whnf
          first
          | (refine VCmp.tt (by omega) ?_)
          | (refine VCmp.ff (by omega) ?_)
          | (refine VIn.mk (IntWalk.i64_in _ (by omega)) ?_)
          | (refine VIdx.mk _ rfl (by omega) ?_)
          | (refine VIdx.mk 0 rfl (by omega) ?_))
  try (conv => whnf)
  refine VLoop.mk LSt (fun x => [(0, .slice B rs.length c), (1, .slice A fs.length cA), (4, .int .i64 x.i)]) (fun x W => LaidI w base B c fs rs x W) (fun x => rs.length - x.i) ⟨0, rs⟩ ⟨rfl, rfl, rfl, trivial⟩ ⟨rfl, Nat.zero_le _, by simp, h, .refl _ _, fun k hk => .inl hk⟩ ?_
  rintro ⟨i, rl⟩ wr I
  dsimp only at I ⊢
  have hi := I.i
  have hn := I.n
  dsimp only at hi hn
  by_cases hlt : i < rs.length
  case neg =>
    have hie : i = rs.length := by omega
    repeat (conv => whnf
            first
            | (refine VCmp.tt (by omega) ?_)
            | (refine VCmp.ff (by omega) ?_)
            | (refine VIn.mk (IntWalk.i64_in _ (by omega)) ?_)
            | (refine VIdx.mk _ rfl (by omega) ?_)
            | (refine VIdx.mk 0 rfl (by omega) ?_))
    try (conv => whnf)
    have hm := I.f
    dsimp only at hm
    rw [hie, List.drop_eq_nil_of_le (by simp), List.append_nil] at hm
    exact .mk ⟨rfl, rl, hn, hm, I.o, I.fx, I.k⟩
  obtain ⟨g, off, rfl, hg, hgF, hcells⟩ := hA (by omega)
  have hif : i < fs.length := by omega
  have hf : fs[i]? = some fs[i] := List.getElem?_eq_getElem hif
  have hfm : fs[i] ∈ fs := List.getElem_mem _
  generalize fs[i] = f at hf hfm
  obtain ⟨X, cX, Y, cY, hat, hrw⟩ := hcells i f hf
  obtain ⟨hs1, hs2⟩ := hsm.2 f hfm
  have src : ∀ W, Fx (fblks B rs) w W → W.rangeAt g (off + i * 7) (flc f.e f.l f.i f.c f.base X f.slots.length cX Y f.have_.length cY).toList ∧ RowAt W N 2 eSlot X f.slots ∧ RowAt W N 1 eInt Y f.have_ := fun W hW =>
    have hb : Below N w W := hW.to (fun k hk => by have := (hbl k hk).1; omega) (by omega)
    ⟨range_same hat.range (hW.block g hg hgF), hrw.slots.below hb (Nat.le_refl _), hrw.have_.below hb (Nat.le_refl _)⟩
  have hir : i < rl.length := by omega
  have hri : rl[i]? = some rl[i] := List.getElem?_eq_getElem hir
  have hrm : rl[i] ∈ rl := List.getElem_mem _
  generalize rl[i] = r at hri hrm
  obtain ⟨o1, o2⟩ := I.o.each r hrm
  have hown := I.o.own
  obtain ⟨gB, hBe, hcB⟩ := hown.cell len_eRw hri
  subst hBe
  have hgB := hown.lo gB rfl
  have hsz := I.fx.size
  have inX : ∀ k ∈ (bw r.X r.cX).toList, k ∈ fblks (some ⟨gB, 0, none⟩) rs ∨ w.heap.size ≤ k := fun k hk => I.k k (fblks_X hrm (by simpa [Option.mem_toList] using hk))
  have inY : ∀ k ∈ (bw r.Y r.cY).toList, k ∈ fblks (some ⟨gB, 0, none⟩) rs ∨ w.heap.size ≤ k := fun k hk => I.k k (fblks_Y hrm (by simpa [Option.mem_toList] using hk))
  have inB : ∀ k ∈ (blk (some ⟨gB, 0, none⟩)).toList, k ∈ fblks (some ⟨gB, 0, none⟩) rs ∨ w.heap.size ≤ k := fun k hk => I.k k (fblks_B (by simpa [Option.mem_toList] using hk))
  have nBX : gB ∉ (bw r.X r.cX).toList := fun hm => o1.neO hown (by decide) gB (by simpa [Option.mem_toList] using hm) rfl
  have nBY : gB ∉ (bw r.Y r.cY).toList := fun hm => o2.neO hown (by decide) gB (by simpa [Option.mem_toList] using hm) rfl
  have L1 : Ld Try.prog 36 gB (0 + i * 7 + 5) (fun W => Fx (bw r.X r.cX).toList wr W) (.slice r.X r.f.slots.length r.cX) := ⟨fun W hW => load36 (by rw [Nat.zero_add, hW.cell hgB.2 nBX]; exact hcB 5 _ rfl)⟩
  have L2 : Ld Try.prog 36 g (off + i * 7 + 5) (fun W => Fx (bw r.X r.cX).toList wr W) (.slice X f.slots.length cX) := ⟨fun W hW => load36 ((src W (I.fx.trans hW inX)).1 5 _ rfl)⟩
  repeat (conv => whnf
          first
          | (refine VCmp.tt (by omega) ?_)
          | (refine VCmp.ff (by omega) ?_)
          | (refine VIn.mk (IntWalk.i64_in _ (by omega)) ?_)
          | (refine VIdx.mk _ rfl (by omega) ?_)
          | (refine VIdx.mk 0 rfl (by omega) ?_))
  try (conv => whnf)
  refine VDraw.mk 1000 [([0, 1, 2, 3, 4, 5, 6, 7, 8, 9, 10], 11)] [12] (fun W => Fx (bw r.X r.cX).toList wr W) (by kernel_rfl) (by kernel_rfl) ((Fx.refl _ _).drew) ?_
  repeat (conv => whnf
          first
          | (refine VLoad.mk _ L1 ?_)
          | (refine VLoad.mk _ L2 ?_)
          | (refine VSl.zero ?_)
          | (refine VCmp.tt (by omega) ?_)
          | (refine VCmp.ff (by omega) ?_)
          | (refine VIn.mk (IntWalk.i64_in _ (by omega)) ?_)
          | (refine VIdx.mk _ rfl (by omega) ?_)
          | (refine VIdx.mk 0 rfl (by omega) ?_))
  try (conv => whnf)
  have fd : Fx (bw r.X r.cX).toList wr wr.drew := (Fx.refl _ _).drew
  refine VApp.rowsW base 2 16 _ Try.underlying36 info66 rfl (by decide) eSlot len_eSlot one_eSlot r.f.slots f.slots rfl (show OwnW wr.drew base 66 2 eSlot r.X r.cX r.f.slots from ⟨o1.len, o1.own⟩) (src wr.drew (I.fx.trans fd inX)).2.1 (by omega) (by omega) (by show base ≤ wr.heap.size; omega) fun A1 c1 w1 hX1 hg1 hk1 => ?_
  have f1 : Fx (bw r.X r.cX).toList wr w1 := .undrew (.grown hg1 fun k hk => by rw [hk]; simp)
  repeat (conv => whnf
          first
          | (refine VS.mk f1 ?_)
          | (refine VCmp.tt (by omega) ?_)
          | (refine VCmp.ff (by omega) ?_)
          | (refine VIn.mk (IntWalk.i64_in _ (by omega)) ?_)
          | (refine VIdx.mk _ rfl (by omega) ?_)
          | (refine VIdx.mk 0 rfl (by omega) ?_))
  try (conv => whnf)
  have z1 := f1.size
  have o2' : OwnW w1 base 3 1 eInt r.Y r.cY r.f.have_ := o2.fx f1 fun k hk hm => o2.ne o1 (by decide) k hk (by simpa [Option.mem_toList] using hm)
  have M1 : Ld Try.prog 37 gB (0 + i * 7 + 6) (fun W => Fx (bw r.Y r.cY).toList w1 W) (.slice r.Y r.f.have_.length r.cY) := ⟨fun W hW => load37 (by rw [Nat.zero_add, hW.cell (by omega) nBY, f1.cell hgB.2 nBX]; exact hcB 6 _ rfl)⟩
  have fw1 : Fx (fblks (some ⟨gB, 0, none⟩) rs) w w1 := I.fx.trans f1 inX
  have inY1 : ∀ W, Fx (bw r.Y r.cY).toList w1 W → Fx (fblks (some ⟨gB, 0, none⟩) rs) w W := fun W hW => fw1.trans hW inY
  have M2 : Ld Try.prog 37 g (off + i * 7 + 6) (fun W => Fx (bw r.Y r.cY).toList w1 W) (.slice Y f.have_.length cY) := ⟨fun W hW => load37 ((src W (inY1 W hW)).1 6 _ rfl)⟩
  refine VDraw.mk 1000 [([0, 1, 2, 3, 4, 5, 6, 7, 8, 9, 10], 11)] [12] (fun W => Fx (bw r.Y r.cY).toList w1 W) (by kernel_rfl) (by kernel_rfl) ((Fx.refl _ _).drew) ?_
  repeat (conv => whnf
          first
          | (refine VLoad.mk _ M1 ?_)
          | (refine VLoad.mk _ M2 ?_)
          | (refine VSl.zero ?_)
          | (refine VCmp.tt (by omega) ?_)
          | (refine VCmp.ff (by omega) ?_)
          | (refine VIn.mk (IntWalk.i64_in _ (by omega)) ?_)
          | (refine VIdx.mk _ rfl (by omega) ?_)
          | (refine VIdx.mk 0 rfl (by omega) ?_))
  try (conv => whnf)
  refine VApp.rowsW base 1 8 _ Try.underlying37 info3 rfl (by decide) eInt len_eInt one_eInt r.f.have_ f.have_ rfl (show OwnW w1.drew base 3 1 eInt r.Y r.cY r.f.have_ from ⟨o2'.len, o2'.own⟩) (src w1.drew (inY1 _ (Fx.refl _ _).drew)).2.2 (by omega) (by omega) (by show base ≤ w1.heap.size; omega) fun A2 c2 w2 hY2 hg2 hk2 => ?_
  have f2 : Fx (bw r.Y r.cY).toList w1 w2 := .undrew (.grown hg2 fun k hk => by rw [hk]; simp)
  have z2 := f2.size
  have own2 : Owns w2 base 39 7 eRw (some ⟨gB, 0, none⟩) c rl := (hown.fx f1 fun k hk hm => by injection hk with hk; subst hk; exact nBX hm).fx f2 fun k hk hm => by injection hk with hk; subst hk; exact nBY hm
  have e39 := Ld.of (load39 (src w2 (inY1 w2 f2)).1)
  have th2 : w2.there gB (0 + i * 7) (flc f.e f.l f.i f.c f.base X f.slots.length cX Y f.have_.length cY).size := fun j hj => by
    have hj : j < 7 := hj
    have := own2.there len_eRw (i * 7 + j) (by have : (i + 1) * 7 ≤ rl.length * 7 := Nat.mul_le_mul_right _ hir; omega)
    rw [show 0 + i * 7 + j = 0 + (i * 7 + j) by omega]; exact this
  repeat (conv => whnf
          first
          | (refine VS.mk f2 ?_)
          | (refine VLoad.mk _ e39 ?_)
          | (refine VCmp.tt (by omega) ?_)
          | (refine VCmp.ff (by omega) ?_)
          | (refine VIn.mk (IntWalk.i64_in _ (by omega)) ?_)
          | (refine VIdx.mk _ rfl (by omega) ?_)
          | (refine VIdx.mk 0 rfl (by omega) ?_))
  try (conv => whnf)
  refine VStore.mid th2 (by kernel_rfl) (one_flc ..) fun w3 hw3 => ?_
  have own3 : Owns w3 base 39 7 eRw (some ⟨gB, 0, none⟩) c (rl.set i ⟨f, X, cX, Y, cY⟩) := by
    rw [hw3.out, show 0 + mulO i 7 = i * 7 by rw [mulO_eq]; omega]
    exact own2.sets len_eRw hir ⟨f, X, cX, Y, cY⟩
  have g3 : w2.grownBy w3 (some gB) := by rw [hw3.out]; exact grown_sets _ _ _ _
  clear hw3
  have th3 := own3.there len_eRw
  have hlen3 : (rl.set i (⟨f, X, cX, Y, cY⟩ : Rw)).length = rl.length := List.length_set ..
  rw [hlen3] at th3
  have h7 : (i + 1) * 7 ≤ rl.length * 7 := Nat.mul_le_mul_right _ hir
  have t5 := th3 (i * 7 + 5) (by omega)
  rw [show 0 + (i * 7 + 5) = 0 + i * 7 + 5 by omega] at t5
  repeat (conv => whnf
          first
          | (refine VCmp.tt (by omega) ?_)
          | (refine VCmp.ff (by omega) ?_)
          | (refine VIn.mk (IntWalk.i64_in _ (by omega)) ?_)
          | (refine VIdx.mk _ rfl (by omega) ?_)
          | (refine VIdx.mk 0 rfl (by omega) ?_))
  try (conv => whnf)
  refine VStore.cell (by kernel_rfl) t5.1 t5.2 rfl rfl fun w4 hw4 => ?_
  have own4 : Owns w4 base 39 7 eRw (some ⟨gB, 0, none⟩) c (rl.set i ⟨f, A1, c1, Y, cY⟩) := by
    rw [hw4.out, show addO (0 + mulO i 7) 5 = i * 7 + 5 by rw [mulO_eq, addO_eq]; omega]
    have := own3.field (k := i) (j := 5) (x := ⟨f, X, cX, Y, cY⟩) (x' := ⟨f, A1, c1, Y, cY⟩) (v := .slice A1 f.slots.length c1) len_eRw (List.getElem?_set_self hir) rfl (by omega)
    rw [List.set_set] at this; exact this
  have g4 : w3.grownBy w4 (some gB) := by rw [hw4.out]; exact grown_cell _ _ _ _
  clear hw4
  have th4 := own4.there len_eRw
  have hlen4 : (rl.set i (⟨f, A1, c1, Y, cY⟩ : Rw)).length = rl.length := List.length_set ..
  rw [hlen4] at th4
  have t6 := th4 (i * 7 + 6) (by omega)
  rw [show 0 + (i * 7 + 6) = 0 + i * 7 + 6 by omega] at t6
  repeat (conv => whnf
          first
          | (refine VCmp.tt (by omega) ?_)
          | (refine VCmp.ff (by omega) ?_)
          | (refine VIn.mk (IntWalk.i64_in _ (by omega)) ?_)
          | (refine VIdx.mk _ rfl (by omega) ?_)
          | (refine VIdx.mk 0 rfl (by omega) ?_))
  try (conv => whnf)
  refine VStore.cell (by kernel_rfl) t6.1 t6.2 rfl rfl fun w5 hw5 => ?_
  have own5 : Owns w5 base 39 7 eRw (some ⟨gB, 0, none⟩) c (rl.set i ⟨f, A1, c1, A2, c2⟩) := by
    rw [hw5.out, show addO (0 + mulO i 7) 6 = i * 7 + 6 by rw [mulO_eq, addO_eq]; omega]
    have := own4.field (k := i) (j := 6) (x := ⟨f, A1, c1, Y, cY⟩) (x' := ⟨f, A1, c1, A2, c2⟩) (v := .slice A2 f.have_.length c2) len_eRw (List.getElem?_set_self hir) rfl (by omega)
    rw [List.set_set] at this; exact this
  have g5 : w4.grownBy w5 (some gB) := by rw [hw5.out]; exact grown_cell _ _ _ _
  clear hw5
  have g25 : w2.grownBy w5 (some gB) := (g3.trans g4).trans g5
  have f5 : Fx (blk (some (⟨gB, 0, none⟩ : Addr))).toList w2 w5 := .grown g25 fun k hk => by injection hk with hk; subst hk; exact List.mem_singleton.2 rfl
  have hS5 : Fx ((blk (some (⟨gB, 0, none⟩ : Addr))).toList ++ ((bw r.X r.cX).toList ++ (bw r.Y r.cY).toList)) wr w5 :=
    ((f1.more fun k hk => List.mem_append.2 (.inr (List.mem_append.2 (.inl hk)))).trans f2 fun k hk => .inl (List.mem_append.2 (.inr (List.mem_append.2 (.inr hk))))).trans f5 fun k hk => .inl (List.mem_append.2 (.inl hk))
  have hX5 : OwnW w5 base 66 2 eSlot A1 c1 f.slots := by
    have a := hX1.fx f2 fun k hk hm => hX1.ne o2' (by decide) k hk (by simpa [Option.mem_toList] using hm)
    exact a.fx f5 fun k hk hm => a.neO own2 (by decide) k hk (by simpa [Option.mem_toList] using hm)
  have hY5 : OwnW w5 base 3 1 eInt A2 c2 f.have_ := hY2.fx f5 fun k hk hm => hY2.neO own2 (by decide) k hk (by simpa [Option.mem_toList] using hm)
  have kX : ∀ k, bw A1 c1 = some k → bw r.X r.cX = some k ∨ wr.heap.size ≤ k := fun k hk => by
    rcases hk1 k hk with e | e
    · exact .inl e
    · right; rw [e]; exact Nat.le_refl _
  have kY : ∀ k, bw A2 c2 = some k → bw r.Y r.cY = some k ∨ wr.heap.size ≤ k := fun k hk => by
    rcases hk2 k hk with e | e
    · exact .inl e
    · right; rw [e]; exact z1
  have P5 := I.o.put (r' := ⟨f, A1, c1, A2, c2⟩) (by omega) hri hS5 own5 hX5 hY5 kX kY
  repeat (conv => whnf
          first
          | (refine VCmp.tt (by omega) ?_)
          | (refine VCmp.ff (by omega) ?_)
          | (refine VIn.mk (IntWalk.i64_in _ (by omega)) ?_)
          | (refine VIdx.mk _ rfl (by omega) ?_)
          | (refine VIdx.mk 0 rfl (by omega) ?_))
  try (conv => whnf)
  refine .mk ⟨i + 1, rl.set i ⟨f, A1, c1, A2, c2⟩⟩ ⟨rfl, rfl, rfl, trivial⟩ ⟨by rw [← hn]; exact List.length_set .., by show i + 1 ≤ rs.length; omega, ?_, P5, I.fx.trans hS5 fun k hk => ?_, fun k hk => ?_⟩ (by show rs.length - (i + 1) < rs.length - i; omega)
  · show List.map Rw.f (rl.set i ⟨f, A1, c1, A2, c2⟩) = _
    rw [List.map_set, I.f]
    exact mix_set fs _ i f hf (by rw [List.length_map]; exact hlt)
  · rcases List.mem_append.1 hk with hk | hk
    · exact inB k hk
    · rcases List.mem_append.1 hk with hk | hk
      · exact inX k hk
      · exact inY k hk
  · rcases fblks_of hk with e | ⟨x, hx, e⟩
    · exact I.k k (fblks_B e)
    · obtain ⟨q, hq⟩ := List.mem_iff_getElem?.1 hx
      by_cases e1 : q = i
      · subst e1
        rw [List.getElem?_set_self hir] at hq
        injection hq with hq; subst hq
        rcases e with e | e
        · rcases kX k e with e | e
          · exact I.k k (fblks_X hrm e)
          · right; omega
        · rcases kY k e with e | e
          · exact I.k k (fblks_Y hrm e)
          · right; omega
      · rw [List.getElem?_set_ne (fun e2 => e1 e2.symm)] at hq
        have hx' := List.mem_of_getElem? hq
        rcases e with e | e
        · exact I.k k (fblks_X hx' e)
        · exact I.k k (fblks_Y hx' e)
end Go.Proofs.Ytcffhfcjfjfokaa
/- Messages of the call's own, with room that counts; datas, with what it owns. -/
namespace Go.Proofs.Ytcffhfcjfjfokaa
open Go Go.RowKit
structure MsW (w : World) (base : Nat) (B : Option Addr) (c : Nat) (rs : List Dr) : Prop where
  own : Owns w base 113 4 eDr B c rs
  each : ∀ r ∈ rs, OwnW w base 5 1 eByte r.B r.c r.d.body
  dis : ∀ (k j : Nat) (x y : Dr), k ≠ j → rs[k]? = some x → rs[j]? = some y → ∀ q, bw x.B x.c = some q → bw y.B y.c ≠ some q
def mblks (B : Option Addr) (rs : List Dr) : List Nat := (blk B).toList ++ rs.flatMap fun r => (bw r.B r.c).toList
section
variable {w w' : World} {base c c' g : Nat} {B B' : Option Addr} {rs : List Dr} {r : Dr} {S : List Nat}
theorem mblks_B (h : blk B = some g) : g ∈ mblks B rs := List.mem_append.2 (.inl (by rw [h]; simp))
theorem mblks_X (hr : r ∈ rs) (h : bw r.B r.c = some g) : g ∈ mblks B rs := List.mem_append.2 (.inr (List.mem_flatMap.2 ⟨r, hr, by rw [h]; simp⟩))
theorem mblks_of (h : g ∈ mblks B rs) : blk B = some g ∨ ∃ r ∈ rs, bw r.B r.c = some g := by
  rcases List.mem_append.1 h with h | h
  · left; simpa [Option.mem_toList] using h
  · obtain ⟨r, hr, h⟩ := List.mem_flatMap.1 h
    exact .inr ⟨r, hr, by simpa [Option.mem_toList] using h⟩
theorem MsW.blks (h : MsW w base B c rs) : ∀ k ∈ mblks B rs, base ≤ k ∧ k < w.heap.size := fun k hk => by
  rcases mblks_of hk with e | ⟨r, hr, e⟩
  · exact h.own.lo k e
  · exact (h.each r hr).lo k e
theorem MsW.fx (h : MsW w base B c rs) (hf : Fx S w w') (hd : ∀ k ∈ mblks B rs, k ∉ S) : MsW w' base B c rs :=
  ⟨h.own.fx hf fun k hk => hd k (mblks_B hk), fun r hr => (h.each r hr).fx hf fun k hk => hd k (mblks_X hr hk), h.dis⟩
theorem MsW.below (h : MsW w base B c rs) (hb : Below w.heap.size w w') : MsW w' base B c rs := h.fx (S := []) (.below hb) fun _ _ => by simp
theorem MsW.lower {base' : Nat} (h : MsW w base B c rs) (hb : base' ≤ base) : MsW w base' B c rs := ⟨h.own.base hb, fun r hr => (h.each r hr).lower hb, h.dis⟩
theorem MsW.drs (h : MsW w base B c rs) : Drs w w.heap.size B rs := ⟨h.own.row len_eDr, fun r hr => ⟨(h.each r hr).row len_eByte, (h.each r hr).len, (h.each r hr).cap⟩⟩
theorem MsW.dts (h : MsW w base B c rs) : Dts w w.heap.size B (rs.map Dr.d) := ⟨rs, rfl, h.drs⟩
theorem MsW.push (h : MsW w base B c rs) (hz : base ≤ w.heap.size) (hf : Fx (blk B).toList w w') (hX : OwnW w' w.heap.size 5 1 eByte r.B r.c r.d.body) (ho : Owns w' base 113 4 eDr B' c' (rs ++ [r])) : MsW w' base B' c' (rs ++ [r]) := by
  have hold : ∀ x ∈ rs, OwnW w' base 5 1 eByte x.B x.c x.d.body := fun x hx =>
    (h.each x hx).fx hf fun k hk hm => (h.each x hx).neO h.own (by decide) k hk (by simpa [Option.mem_toList] using hm)
  have hget : ∀ k x, (rs ++ [r])[k]? = some x → (k < rs.length ∧ rs[k]? = some x) ∨ (k = rs.length ∧ x = r) := fun k x hx => by
    have hkl := (List.getElem?_eq_some_iff.1 hx).1
    rw [List.length_append] at hkl
    by_cases e : k < rs.length
    · rw [List.getElem?_append_left e] at hx; exact .inl ⟨e, hx⟩
    · have : k = rs.length := by simp at hkl; omega
      subst this
      rw [List.getElem?_append_right (Nat.le_refl _), Nat.sub_self] at hx
      injection hx with hx; exact .inr ⟨rfl, hx.symm⟩
  refine ⟨ho, fun x hx => ?_, fun k j x y hne hx hy => ?_⟩
  · rcases List.mem_append.1 hx with hx | hx
    · exact hold x hx
    · obtain rfl := List.mem_singleton.1 hx
      exact hX.lower hz
  · rcases hget k x hx with ⟨e1, e2⟩ | ⟨e1, rfl⟩ <;> rcases hget j y hy with ⟨e3, e4⟩ | ⟨e3, rfl⟩
    · exact h.dis k j x y hne e2 e4
    · have hm := List.mem_of_getElem? e2
      exact fun q h1 h2 => by have := ((h.each x hm).lo q h1).2; have := (hX.lo q h2).1; omega
    · have hm := List.mem_of_getElem? e4
      exact fun q h1 h2 => by have := ((h.each y hm).lo q h2).2; have := (hX.lo q h1).1; omega
    · omega
/-- One message is laid anew: into its own room, or into a new block. -/
theorem MsW.put {i : Nat} {r' : Dr} (h : MsW w base B c rs) (hi : rs[i]? = some r) (hf : Fx ((blk B).toList ++ (bw r.B r.c).toList) w w') (ho : Owns w' base 113 4 eDr B c (rs.set i r'))
    (hX : OwnW w' base 5 1 eByte r'.B r'.c r'.d.body) (kX : ∀ k, bw r'.B r'.c = some k → bw r.B r.c = some k ∨ w.heap.size ≤ k) : MsW w' base B c (rs.set i r') := by
  have hil := (List.getElem?_eq_some_iff.1 hi).1
  have hrm := List.mem_of_getElem? hi
  have hS : ∀ k, k ∈ (blk B).toList ++ (bw r.B r.c).toList → blk B = some k ∨ bw r.B r.c = some k := fun k hk => by
    rcases List.mem_append.1 hk with hk | hk
    · left; simpa [Option.mem_toList] using hk
    · right; simpa [Option.mem_toList] using hk
  have hget : ∀ k, (rs.set i r')[k]? = if k = i then some r' else rs[k]? := fun k => by
    by_cases e1 : k = i
    · subst e1; rw [List.getElem?_set_self hil, if_pos rfl]
    · rw [List.getElem?_set_ne (fun e2 => e1 e2.symm), if_neg e1]
  have hold : ∀ (k : Nat) (x : Dr), k ≠ i → rs[k]? = some x → OwnW w' base 5 1 eByte x.B x.c x.d.body := fun k x hne hx => by
    have hm := List.mem_of_getElem? hx
    refine (h.each x hm).fx hf fun q hq hm' => ?_
    rcases hS q hm' with e | e
    · exact (h.each x hm).neO h.own (by decide) q hq e
    · exact h.dis k i x r hne hx hi q hq e
  refine ⟨ho, fun x hx => ?_, fun k j x y hne hx hy => ?_⟩
  · obtain ⟨k, hk⟩ := List.mem_iff_getElem?.1 hx
    rw [hget] at hk
    split at hk
    · injection hk with hk; subst hk; exact hX
    · rename_i hne; exact hold k x hne hk
  · rw [hget] at hx hy
    split at hx <;> split at hy
    · omega
    · rename_i e1 e2
      injection hx with hx; subst hx
      have hm := List.mem_of_getElem? hy
      intro q h1 h2
      rcases kX q h1 with e | e
      · exact h.dis j i y r e2 hy hi q h2 e
      · have := ((h.each y hm).lo q h2).2; omega
    · rename_i e1 e2
      injection hy with hy; subst hy
      have hm := List.mem_of_getElem? hx
      intro q h1 h2
      rcases kX q h2 with e | e
      · exact h.dis k i x r e1 hx hi q h1 e
      · have := ((h.each x hm).lo q h1).2; omega
    · exact h.dis k j x y hne hx hy
end
structure DWo (w : World) (ds : List Dt) (x : DS) (W : World) : Prop where
  k : x.k ≤ ds.length
  e : x.al.map Dr.d = ds.take x.k
  own : MsW W w.heap.size x.A x.c x.al
  b : Below w.heap.size w W
set_option maxRecDepth 100000 in
/-- datas: messages of the call's own, that may be written over. -/
theorem datas_w (A : Option Addr) (cA N : Nat) (rs : List Dr) (w : World) (hN : N ≤ w.heap.size) (hA : Drs w N A rs) (hsm : SmallD (rs.map Dr.d)) :
    Calls Try.prog 18 #[.slice A rs.length cA] w fun x w' => (∃ B c al, x = .returned (.slice B rs.length c) ∧ al.map Dr.d = rs.map Dr.d ∧ MsW w' w.heap.size B c al) ∧ Below w.heap.size w w' := by
  have hl : rs.length ≤ 1048576 := by have := hsm.1; rwa [List.length_map] at this
  refine calls_vc tab_ok Try.func18 rfl ?_
  repeat (conv => whnf
          first
          | (refine VCmp.tt (by omega) ?_)
          | (refine VCmp.ff (by omega) ?_)
          | (refine VIn.mk (IntWalk.i64_in _ (by omega)) ?_)
          | (refine VIdx.mk _ rfl (by omega) ?_)
          | (refine VIdx.mk 0 rfl (by omega) ?_))
  try (conv => whnf)
  refine VBs.mk _ _ (bs40z w) ?_
  have hb0 : Below w.heap.size w (w.alloc (.cells #[] 113)) := (Below.refl _ _).alloc (Nat.le_refl _) _
  have hx : ∀ W, Below w.heap.size w W → Drs W N A rs := fun W hW => ⟨hA.row.below hW hN, fun r h1 => (hA.each r h1).below hW hN⟩
  repeat (conv => whnf
          first
          | (refine VCmp.tt (by omega) ?_)
          | (refine VCmp.ff (by omega) ?_)
          | (refine VIn.mk (IntWalk.i64_in _ (by omega)) ?_)
          | (refine VIdx.mk _ rfl (by omega) ?_)
          | (refine VIdx.mk 0 rfl (by omega) ?_))
  try (conv => whnf)
  refine VLoop.mk DS (fun x => [(0, .slice A rs.length cA), (3, .slice x.A x.al.length x.c), (4, .int .i64 x.k)]) (DWo w (rs.map Dr.d)) (fun x => rs.length - x.k) ⟨0, some ⟨w.heap.size, 0, none⟩, 0, []⟩ ⟨rfl, rfl, rfl, trivial⟩ ⟨Nat.zero_le _, by simp, ⟨owns_empty _ _ _ _ _ (Nat.le_refl _), fun r hr => (by cases hr), fun k j x y _ hx => (by simp at hx)⟩, hb0⟩ ?_
  rintro ⟨k, B, c, al⟩ wr ⟨hk, he, hown, br⟩
  dsimp only at hk he hown ⊢
  rw [List.length_map] at hk
  have hal : al.length = k := by have := congrArg List.length he; rw [List.length_map, List.length_take, List.length_map] at this; omega
  have hbz := br.size
  by_cases hkl : k < rs.length
  case neg =>
    repeat (conv => whnf
            first
            | (refine VCmp.tt (by omega) ?_)
            | (refine VCmp.ff (by omega) ?_)
            | (refine VIn.mk (IntWalk.i64_in _ (by omega)) ?_)
            | (refine VIdx.mk _ rfl (by omega) ?_)
            | (refine VIdx.mk 0 rfl (by omega) ?_))
    try (conv => whnf)
    have hke : k = rs.length := by omega
    exact .mk ⟨⟨B, c, al, by rw [← hke, ← hal]; rfl, by rw [he, hke, ← List.length_map (f := Dr.d), List.take_length], hown⟩, br⟩
  obtain ⟨bA, oR, rfl, hbA2, hrow⟩ := (hx _ br).row (by omega)
  have hrk : rs[k]? = some rs[k] := List.getElem?_eq_getElem hkl
  have hmem : rs[k] ∈ rs := List.getElem_mem _
  generalize rs[k] = r at hrk hmem
  have hdk : (rs.map Dr.d)[k]? = some r.d := by rw [List.getElem?_map, hrk]; rfl
  have hbl := hsm.2 r.d (List.mem_map.2 ⟨r, hmem, rfl⟩)
  have Lr : Ld Try.prog 113 bA (oR + k * 4) (Eq wr) (.agg (drA r)) := .of (load113 (fun j u hu => hrow k r hrk j u hu))
  repeat (conv => whnf
          first
          | (refine VLoad.mk _ Lr ?_)
          | (refine VCmp.tt (by omega) ?_)
          | (refine VCmp.ff (by omega) ?_)
          | (refine VIn.mk (IntWalk.i64_in _ (by omega)) ?_)
          | (refine VIdx.mk _ rfl (by omega) ?_)
          | (refine VIdx.mk 0 rfl (by omega) ?_))
  try (conv => whnf)
  refine .mk _ run_zero113 ?_
  conv => whnf
  refine .mk fun x3 hx3 => ?_
  repeat (conv => whnf
          first
          | (refine VCmp.tt (by omega) ?_)
          | (refine VCmp.ff (by omega) ?_)
          | (refine VIn.mk (IntWalk.i64_in _ (by omega)) ?_)
          | (refine VIdx.mk _ rfl (by omega) ?_)
          | (refine VIdx.mk 0 rfl (by omega) ?_))
  try (conv => whnf)
  refine VStore.new hx3 (by kernel_rfl) rfl (one_drA r) fun x4 hx4 => ?_
  have c4 : Below wr.heap.size wr x4 := by rw [hx4.out]; exact (Below.refl _ _).alloc (Nat.le_refl _) _
  have z4 : x4.heap.size = wr.heap.size + 1 := by rw [hx4.out]; simp
  have r4 : x4.rangeAt wr.heap.size 0 (eDr r) := by rw [hx4.out]; exact range_new wr (drA r) 113
  have t4 : x4.there wr.heap.size 0 4 := by rw [hx4.out]; exact there_new wr (drA r) 113
  repeat (conv => whnf
          first
          | (refine VCmp.tt (by omega) ?_)
          | (refine VCmp.ff (by omega) ?_)
          | (refine VIn.mk (IntWalk.i64_in _ (by omega)) ?_)
          | (refine VIdx.mk _ rfl (by omega) ?_)
          | (refine VIdx.mk 0 rfl (by omega) ?_))
  try (conv => whnf)
  refine VBs.mk _ _ (bs52z x4) ?_
  have c5 : Below x4.heap.size x4 (x4.alloc (.cells #[] 5)) := (Below.refl _ _).alloc (Nat.le_refl _) _
  have z5 : (x4.alloc (.cells #[] 5)).heap.size = x4.heap.size + 1 := by simp
  have ho5 : Owns (x4.alloc (.cells #[] 5)) x4.heap.size 5 1 eByte (some ⟨x4.heap.size, 0, none⟩) 0 ([] : List Int) := owns_empty _ _ _ _ _ (Nat.le_refl _)
  have r5 : (x4.alloc (.cells #[] 5)).rangeAt wr.heap.size 0 (eDr r) := range_same r4 (c5.block _ (by omega))
  generalize x4.alloc (.cells #[] 5) = x5 at c5 z5 ho5 r5 ⊢
  have Ly : Ld Try.prog 52 wr.heap.size 3 (Eq x5) (.slice r.B r.d.body.length r.c) := .of (load52 (r5 3 _ rfl))
  have b5 : Below w.heap.size w x5 := br.trans ((c4.trans (c5.mono (by omega))).mono hbz)
  repeat (conv => whnf
          first
          | (refine VLoad.mk _ Ly ?_)
          | (refine VCmp.tt (by omega) ?_)
          | (refine VCmp.ff (by omega) ?_)
          | (refine VIn.mk (IntWalk.i64_in _ (by omega)) ?_)
          | (refine VIdx.mk _ rfl (by omega) ?_)
          | (refine VIdx.mk 0 rfl (by omega) ?_))
  try (conv => whnf)
  refine VApp.rows x4.heap.size 1 1 _ Try.underlying52 info5 rfl (by decide) eByte len_eByte one_eByte ([] : List Int) r.d.body rfl rfl ho5 ((hx _ b5).each r hmem).row (by omega) (by omega) (by omega) fun A1 c1 w1 ho1 hg1 hk1 => ?_
  have hc1 : Below x4.heap.size x4 w1 := c5.grown hg1 (by omega) (by intro q hq; simp [blk] at hq; omega)
  have r1 : w1.rangeAt wr.heap.size 0 (eDr r) := range_same r4 (hc1.block _ (by omega))
  have t1 : w1.there wr.heap.size 0 4 := there_same t4 (hc1.block _ (by omega))
  have zw1 := hc1.size
  repeat (conv => whnf
          first
          | (refine VCmp.tt (by omega) ?_)
          | (refine VCmp.ff (by omega) ?_)
          | (refine VIn.mk (IntWalk.i64_in _ (by omega)) ?_)
          | (refine VIdx.mk _ rfl (by omega) ?_)
          | (refine VIdx.mk 0 rfl (by omega) ?_))
  try (conv => whnf)
  refine VStore.cell (by kernel_rfl) (by rw [show addO 0 3 = 0 + 3 from rfl, r1 3 _ rfl]; rfl) (by rw [show addO 0 3 = 3 from rfl]; exact there_frozen t1 (by omega)) rfl rfl fun w2 hw2 => ?_
  have g2 : w1.grownBy w2 (some wr.heap.size) := by rw [hw2.out]; exact grown_cell _ _ _ _
  have m2 : w2.rangeAt wr.heap.size 0 (eDr ⟨r.d, A1, c1⟩) := by
    have := rng_put (o := 3) (vs := [.slice A1 r.d.body.length c1]) r1 t1 rfl (by simp)
    rw [show 0 + r.d.body.length = r.d.body.length by omega] at hw2
    rw [hw2.out]; exact this
  have c2 : Below wr.heap.size wr w2 := (c4.trans (hc1.mono (by omega))).grown g2 (by omega) (by intro q hq; injection hq with hq; omega)
  have ho2 : Owns w2 x4.heap.size 5 1 eByte A1 c1 r.d.body := (show Owns w1 x4.heap.size 5 1 eByte A1 c1 r.d.body from ho1).kept g2 (by
    cases e : blk A1 with
    | none => exact .inl rfl
    | some q => exact .inr (by intro e2; injection e2 with e2; have := (ho1.lo q e).1; omega))
  have Lm2 : Ld Try.prog 113 wr.heap.size 0 (Eq w2) (.agg (drA ⟨r.d, A1, c1⟩)) := .of (load113 m2)
  repeat (conv => whnf
          first
          | (refine VLoad.mk _ Lm2 ?_)
          | (refine VCmp.tt (by omega) ?_)
          | (refine VCmp.ff (by omega) ?_)
          | (refine VIn.mk (IntWalk.i64_in _ (by omega)) ?_)
          | (refine VIdx.mk _ rfl (by omega) ?_)
          | (refine VIdx.mk 0 rfl (by omega) ?_))
  try (conv => whnf)
  refine VBs.mk _ _ (bs40 w2 ⟨r.d, A1, c1⟩) ?_
  have hown2 := hown.own.keep c2 (fun q hq => (hown.own.lo q hq).2)
  have own3 := hown2.alloc (.cells (drA ⟨r.d, A1, c1⟩) 113)
  have z3 : (w2.alloc (.cells (drA ⟨r.d, A1, c1⟩) 113)).heap.size = w2.heap.size + 1 := by simp
  have zz2 := c2.size
  repeat (conv => whnf
          first
          | (refine VCmp.tt (by omega) ?_)
          | (refine VCmp.ff (by omega) ?_)
          | (refine VIn.mk (IntWalk.i64_in _ (by omega)) ?_)
          | (refine VIdx.mk _ rfl (by omega) ?_)
          | (refine VIdx.mk 0 rfl (by omega) ?_))
  try (conv => whnf)
  refine VApp.rows w.heap.size 4 48 _ Try.underlying40 info113 rfl (by decide) eDr len_eDr one_eDr al [⟨r.d, A1, c1⟩] rfl rfl own3 (row_new w2 113 4 eDr ⟨r.d, A1, c1⟩ (drA ⟨r.d, A1, c1⟩) rfl) (by omega) (by omega) (by omega) fun A' c' w4 ho hg hkk => ?_
  have f4 : Fx (blk B).toList wr w4 := Fx.trans (S := (blk B).toList) (.below (c2.alloc (by omega) (.cells (drA ⟨r.d, A1, c1⟩) 113))) (.grown hg fun q hq => by rw [hq]; simp) fun q hq => .inl hq
  have hb4 : OwnW w4 wr.heap.size 5 1 eByte A1 c1 r.d.body := ((OwnW.of (ho2.base (show wr.heap.size ≤ x4.heap.size by omega))).below ((Below.refl _ _).alloc (Nat.le_refl _) (.cells (drA ⟨r.d, A1, c1⟩) 113))).fx (S := (blk B).toList) (.grown hg fun q hq => by rw [hq]; simp) fun q hq hm => by
    have h1 := ((OwnW.of ho2).lo q hq).1
    have h2 := (hown.own.lo q (by simpa [Option.mem_toList] using hm)).2
    omega
  have own4 := hown.push (r := ⟨r.d, A1, c1⟩) hbz f4 hb4 ho
  have b4 : Below w.heap.size w w4 := ((br.trans (c2.mono hbz)).alloc (by omega) _).grown hg (by omega) (fun q hq => (own3.lo q hq).1)
  repeat (conv => whnf
          first
          | (refine VCmp.tt (by omega) ?_)
          | (refine VCmp.ff (by omega) ?_)
          | (refine VIn.mk (IntWalk.i64_in _ (by omega)) ?_)
          | (refine VIdx.mk _ rfl (by omega) ?_)
          | (refine VIdx.mk 0 rfl (by omega) ?_))
  try (conv => whnf)
  refine .mk ⟨k + 1, A', c', al ++ [⟨r.d, A1, c1⟩]⟩ ⟨rfl, by show some (Value.slice A' (al.length + 1) c') = _; rw [List.length_append]; rfl, rfl, trivial⟩ ⟨by show k + 1 ≤ _; rw [List.length_map]; omega, ?_, own4, b4⟩ (by show rs.length - (k + 1) < rs.length - k; omega)
  show (al ++ [_]).map Dr.d = _
  rw [List.map_append, he, List.take_add_one, hdk]; rfl
end Go.Proofs.Ytcffhfcjfjfokaa
