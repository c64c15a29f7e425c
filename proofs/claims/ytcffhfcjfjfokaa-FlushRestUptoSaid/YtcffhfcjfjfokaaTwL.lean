/- What the law's twins answers: every content twice over, in lists of its own. -/
import Derived.Test.YtcffhfcjfjfokaaTwin
namespace Go.Proofs.Ytcffhfcjfjfokaa
open Go.RowKit
theorem info39 : (Try.prog.info? 39).map (fun i => (i.zero, i.size, i.bytes)) = some (some (.agg #[.int .i64 0, .int .i64 0, .int .i64 0, .int .i64 0, .int .i64 0, .slice none 0 0, .slice none 0 0]), 7, 88) := by kernel_rfl
theorem info57 : (Try.prog.info? 57).map (fun i => (i.zero, i.size, i.bytes)) = some (some (.agg #[.int .i64 0, .int .i64 0, .int .i64 0, .int .i64 0, .int .i64 0, .slice none 0 0, .slice none 0 0, .slice none 0 0, .slice none 0 0]), 9, 136) := by kernel_rfl
theorem len_flTw (x : Tw) : (flTw x).length = 7 := rfl
theorem len_eTw (x : Tw) : (eTw x).length = 9 := rfl
theorem one_flTw (x : Tw) : ∀ u ∈ flTw x, u.oneCell' = true := by intro u hu; simp [flTw] at hu; rcases hu with rfl | rfl | rfl | rfl | rfl | rfl | rfl <;> rfl
theorem one_eTw (x : Tw) : ∀ u ∈ eTw x, u.oneCell' = true := by intro u hu; simp [eTw] at hu; rcases hu with rfl | rfl | rfl | rfl | rfl | rfl | rfl | rfl | rfl <;> rfl
theorem TwOwn.keep {w w' : World} {base B : Nat} {t : Tw} (h : TwOwn w base t) (hb : Below B w w') (h2 : t.g2 < B) (h4 : t.g4 < B) : TwOwn w' base t :=
  ⟨h.s.keep hb (by intro k hk; simp [blk] at hk; omega), h.h.keep hb (by intro k hk; simp [blk] at hk; omega)⟩
theorem TwOwn.lt {w : World} {base : Nat} {t : Tw} (h : TwOwn w base t) : t.g2 < w.heap.size ∧ t.g4 < w.heap.size :=
  ⟨(h.s.lo t.g2 rfl).2, (h.h.lo t.g4 rfl).2⟩
theorem TwOwn.alloc {w : World} {base : Nat} {t : Tw} (h : TwOwn w base t) (o : Obj) : TwOwn (w.alloc o) base t := ⟨h.s.alloc o, h.h.alloc o⟩
theorem TwOwn.kept {w w' : World} {base : Nat} {t : Tw} {row : Option Nat} (h : TwOwn w base t) (hg : w.grownBy w' row) (h2 : some t.g2 ≠ row) (h4 : some t.g4 ≠ row) : TwOwn w' base t :=
  ⟨h.s.kept hg (.inr h2), h.h.kept hg (.inr h4)⟩
theorem TwOwn.lower {w : World} {base base' : Nat} {t : Tw} (h : TwOwn w base t) (hb : base' ≤ base) : TwOwn w base' t := ⟨h.s.lower hb, h.h.lower hb⟩
theorem TwOwn.beside {w w' : World} {base base' e sz : Nat} {α : Type} {enc : α → List Value} {T : Option Addr} {c : Nat} {l : List α} {t : Tw} (h : TwOwn w base t) (ho : Owns w base' e sz enc T c l) (hg : w.grownBy w' (blk T)) (h1 : 66 ≠ e) (h2 : 3 ≠ e) : TwOwn w' base t :=
  ⟨h.s.kept hg (h.s.ne ho h1), h.h.kept hg (h.h.ne ho h2)⟩
theorem row_new_at {α : Type} (w : World) (e : TypeId) (sz : Nat) (enc : α → List Value) (x : α) (cs : Array Value) (hcs : cs.toList = enc x) {g : Nat} (hg : g = w.heap.size) : RowAt (w.alloc (.cells cs e)) (g + 1) sz enc (some ⟨g, 0, none⟩) [x] := by
  subst hg; exact row_new w e sz enc x cs hcs
/-- The contents' lists are small enough. -/
def Small (fs : List Fl) : Prop := fs.length ≤ 1048576 ∧ ∀ f ∈ fs, f.slots.length ≤ 1048576 ∧ f.have_.length ≤ 1048576
structure TwRel (w wr : World) (fs : List Fl) (q : Nat) (ts : List Tw) (T : Option Addr) (cT : Nat) (I : Option Addr) (cI : Nat) : Prop where
  len : ts.length = q
  fst : ts.map Tw.f = fs.take q
  own : Owns wr w.heap.size 57 9 eTw T cT ts
  inn : Owns wr w.heap.size 39 7 flTw I cI ts
  each : ∀ t ∈ ts, TwOwn wr w.heap.size t
  bel : Below w.heap.size w wr
def TwinsPost (fs : List Fl) (w : World) (e : Ending) (w' : World) : Prop := ∃ (ts : List Tw) (T : Option Addr) (cT : Nat) (I : Option Addr) (cI : Nat), e = .returned (.tuple #[.slice T fs.length cT, .slice I fs.length cI]) ∧ ts.map Tw.f = fs ∧ TwRel w w' fs fs.length ts T cT I cI
set_option maxRecDepth 100000 in
set_option maxHeartbeats 4000000 in
theorem twins_any (A : Option Addr) (cA N : Nat) (fs : List Fl) (w : World) (hN : N ≤ w.heap.size) (hA : Fls w N A fs) (hsm : Small fs) :
    Calls Try.prog 13 #[.slice A fs.length cA] w (TwinsPost fs w) := by
  obtain ⟨hl, hsm⟩ := hsm
  go_enter Try.func13, Try.ntmps13
  go_wp2
  go_loopw [4, 5, 6] (fun t n k wr => ∃ (q : Nat) (ts : List Tw) (T : Option Addr) (cT : Nat) (I : Option Addr) (cI : Nat), k = .int .i64 q ∧ q ≤ fs.length ∧ t = .slice T q cT ∧ n = .slice I q cI ∧ TwRel w wr fs q ts T cT I cI) (fun _ _ k _ => fs.length - (intOf k).toNat)
  case atStart => exact ⟨0, [], none, 0, some ⟨w.heap.size, 0, none⟩, 0, rfl, by omega, rfl, rfl, ⟨rfl, by simp, owns_nil _ _ _ _ _, owns_empty _ _ _ _ _ (Nat.le_refl _), by simp, (Below.refl _ _).alloc (Nat.le_refl _) _⟩⟩
  case round =>
    obtain ⟨q, ts, T, cT, I, cI, rfl, hq, rfl, rfl, hR⟩ := hrel
    have hb := hR.bel
    have hsz := hb.size
    by_cases hlt : q < fs.length
    · obtain ⟨g, o, f, X, cX, Y, cY, rfl, hg, hf, ⟨c0, c1, c2, c3, c4, c5, c6⟩, hr⟩ := (hA.below hb hN).at_ hlt
      obtain ⟨s1, s2⟩ := hsm f (List.mem_of_getElem? hf.out)
      have hgw : g < wr.heap.size := by omega
      clear hsm hA
      have hTb := hR.own.lo
      have hIb := hR.inn.lo
      go_wp2_with (first | (go_at_call 23; refine (twin_any f X Y cX cY N _ (by omega) hr (by omega) (by omega)).mono ?_; rintro e w' ⟨t, rfl, rfl, htw, hbw⟩; have hbs := hbw.size; have ho1 := ((hR.own.keep hbw (fun k hk => (hTb k hk).2)).alloc (.cells (eTw t).toArray 57)).alloc (.cells (eTw t).toArray 57); have hi1 := ((hR.inn.keep hbw (fun k hk => (hIb k hk).2)).alloc (.cells (eTw t).toArray 57)).alloc (.cells (eTw t).toArray 57); have he1 : ∀ x ∈ ts, TwOwn ((w'.alloc (.cells (eTw t).toArray 57)).alloc (.cells (eTw t).toArray 57)) w.heap.size x := fun x hx => (((hR.each x hx).keep hbw (hR.each x hx).lt.1 (hR.each x hx).lt.2).alloc _).alloc _; have ht1 : TwOwn ((w'.alloc (.cells (eTw t).toArray 57)).alloc (.cells (eTw t).toArray 57)) w.heap.size t := ((htw.lower hsz).alloc _).alloc _; have hb1 : Below w.heap.size w ((w'.alloc (.cells (eTw t).toArray 57)).alloc (.cells (eTw t).toArray 57)) := ((hb.trans (hbw.mono hsz)).alloc (by omega) _).alloc (by simp only [World.size_alloc]; omega) _; unfold eTw) | (at_builtin; refine wpList_append_rows _ rfl (.tmp 20) (.tmp 22) 23 rfl w.heap.size 57 9 136 _ Try.underlying23 info57 rfl (by decide) eTw len_eTw one_eTw T cT ts (some ⟨w'.heap.size + 1, 0, none⟩) 1 (w'.heap.size + 2) q 1 [t] rfl rfl ?_ rfl ?_ ?_ ?_ ?_ ?_ ?_))
      · exact hR.len
      · exact ho1
      · refine row_new_at _ _ _ eTw t _ rfl ?_
        rw [World.size_alloc]
      · omega
      · omega
      · simp only [World.size_alloc]; omega
      · intro T2 cT2 w2 ho2 hg2 hk2
        have hgs := hg2.size
        simp only [World.size_alloc] at hgs
        have hcell : ∀ i, w2.cell? ⟨w'.heap.size, i, none⟩ = (eTw t).toArray[i]? := fun i => by
          rw [World.cell?_of_block (a := ⟨w'.heap.size, i, none⟩) (hg2.block w'.heap.size (by simp only [World.size_alloc]; omega) (fun e => by have := (hTb _ e.symm).2; omega))]
          rw [World.cell?_alloc_past _ _ _ (by simp only [World.size_alloc]; omega)]
          exact World.cell?_alloc_at _ _ _ _ rfl
        unfold eTw at hcell
        have hi2 := hi1.kept hg2 (hi1.ne ho1 (by decide))
        have he2 : ∀ x ∈ ts, TwOwn w2 w.heap.size x := fun x hx => (he1 x hx).beside ho1 hg2 (by decide) (by decide)
        have ht2 := ht1.beside ho1 hg2 (by decide) (by decide)
        have hb2 := hb1.grown hg2 (by simp only [World.size_alloc]; omega) (fun k hk => (hTb k hk).1)
        have hw2 : w'.heap.size < w2.heap.size := by omega
        have hR0 := Lib.hid hR.fst
        have hRl := Lib.hid hR.len
        clear ho1 hi1 he1 ht1 hb1 hg2 hk2 hR htw hbw hb
        go_wp2_with (at_builtin; refine wpList_append_rows _ rfl (.tmp 24) (.tmp 27) 22 rfl w.heap.size 39 7 88 _ Try.underlying22 info39 rfl (by decide) flTw len_flTw one_flTw I cI ts (some ⟨w2.heap.size, 0, none⟩) 1 (w2.heap.size + 1) q 1 [t] rfl rfl ?_ rfl ?_ ?_ ?_ ?_ ?_ ?_)
        · exact hRl.out
        · exact hi2.alloc _
        · exact row_new _ _ _ flTw t _ rfl
        · omega
        · omega
        · simp only [World.size_alloc]; omega
        · intro I2 cI2 w3 hi3 hg3 hk3
          have ho3 := (ho2.alloc (.cells (flTw t).toArray 39)).kept hg3 ((ho2.alloc (.cells (flTw t).toArray 39)).ne (hi2.alloc (.cells (flTw t).toArray 39)) (by decide))
          have he3 : ∀ x ∈ ts ++ [t], TwOwn w3 w.heap.size x := fun x hx => by
            rcases List.mem_append.1 hx with h | h
            · exact ((he2 x h).alloc _).beside (hi2.alloc (.cells (flTw t).toArray 39)) hg3 (by decide) (by decide)
            · simp at h; subst h; exact (ht2.alloc _).beside (hi2.alloc (.cells (flTw x).toArray 39)) hg3 (by decide) (by decide)
          have hb3 := (hb2.alloc (by omega) (.cells (flTw t).toArray 39)).grown hg3 (by simp only [World.size_alloc]; omega) (fun k hk => (hIb k hk).1)
          clear ho2 hi2 he2 ht2 hb2 hcell hg3 hk3
          go_wp2
          go_roundw
          case rel =>
            go_light
            exact ⟨q + 1, ts ++ [t], T2, cT2, I2, cI2, by go_num, by omega, rfl, rfl, ⟨by simp [hRl.out], by rw [List.map_append, hR0.out, List.take_add_one, hf.out]; rfl, ho3, hi3, he3, hb3⟩⟩
          case measure => go_light; simp [intOf]; omega
    · obtain rfl : q = fs.length := by omega
      go_wp2
      go_ret2
      go_light
      exact ⟨ts, T, cT, I, cI, rfl, by rw [hR.fst, List.take_length], hR⟩
end Go.Proofs.Ytcffhfcjfjfokaa
