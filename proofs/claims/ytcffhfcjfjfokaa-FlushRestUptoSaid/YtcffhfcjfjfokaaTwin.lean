/- What the law's twin answers: a copy in lists of its own, a mark behind each. -/
import Derived.Test.YtcffhfcjfjfokaaSmall
import Derived.StillTailTactics
namespace Go.Proofs.Ytcffhfcjfjfokaa
open Go.RowKit
theorem info66 : (Try.prog.info? 66).map (fun i => (i.zero, i.size, i.bytes)) = some (some (.agg #[.int .i64 0, .int .i64 0]), 2, 16) := by kernel_rfl
theorem info3 : (Try.prog.info? 3).map (fun i => (i.zero, i.size, i.bytes)) = some (some (.int .i64 0), 1, 8) := by kernel_rfl
theorem len_eSlot (x : Int × Int) : (eSlot x).length = 2 := rfl
theorem len_eInt (x : Int) : (eInt x).length = 1 := rfl
theorem one_eSlot (x : Int × Int) : ∀ u ∈ eSlot x, u.oneCell' = true := by intro u hu; simp [eSlot] at hu; rcases hu with rfl | rfl <;> rfl
theorem one_eInt (x : Int) : ∀ u ∈ eInt x, u.oneCell' = true := by intro u hu; simp [eInt] at hu; subst hu; rfl
theorem owns_empty_at {α : Type} (w : World) (base : Nat) (e : TypeId) (sz : Nat) (enc : α → List Value) {g : Nat} (hg : g = w.heap.size) (hb : base ≤ g) : Owns (w.alloc (.cells #[] e)) base e sz enc (some ⟨g, 0, none⟩) 0 [] := by
  subst hg; exact owns_empty w base e sz enc hb
theorem RowAt.set_ {α : Type} {w : World} {N sz : Nat} {enc : α → List Value} {A : Option Addr} {l : List α} (h : RowAt w N sz enc A l) {p : Addr} (hp : ∀ k, blk A = some k → k ≠ p.block) (u : Value) : RowAt (w.setCell p u) N sz enc A l := fun h0 => by
  obtain ⟨b, off, rfl, hb, hc⟩ := h h0
  refine ⟨b, off, rfl, hb, fun k x hk j v hv => ?_⟩
  rw [World.cell?_setCell_other _ _ _ _ (by intro e; exact hp b rfl (by rw [e]))]
  exact hc k x hk j v hv
theorem heap_set9 (w : World) (g : Nat) (v0 v1 v2 v3 v4 v5 v6 v7 v8 : Value) {b : Nat} (h : b ≠ g) : ((((((((((w.setCell ⟨g, 0, none⟩ v0).setCell ⟨g, 1, none⟩ v1).setCell ⟨g, 2, none⟩ v2).setCell ⟨g, 3, none⟩ v3).setCell ⟨g, 4, none⟩ v4).setCell ⟨g, 5, none⟩ v5).setCell ⟨g, 6, none⟩ v6).setCell ⟨g, 7, none⟩ v7).setCell ⟨g, 8, none⟩ v8)).drew.heap[b]? = w.heap[b]? := by
  rw [heap_drew]
  iterate 9 rw [Below.heap_setCell _ _ _ _ h]
theorem size_set9 (w : World) (g : Nat) (v0 v1 v2 v3 v4 v5 v6 v7 v8 : Value) : ((((((((((w.setCell ⟨g, 0, none⟩ v0).setCell ⟨g, 1, none⟩ v1).setCell ⟨g, 2, none⟩ v2).setCell ⟨g, 3, none⟩ v3).setCell ⟨g, 4, none⟩ v4).setCell ⟨g, 5, none⟩ v5).setCell ⟨g, 6, none⟩ v6).setCell ⟨g, 7, none⟩ v7).setCell ⟨g, 8, none⟩ v8)).drew.heap.size = w.heap.size := by
  rw [heap_drew]; iterate 9 rw [World.size_setCell]
theorem RowAt.blocks {α : Type} {w w' : World} {N sz : Nat} {enc : α → List Value} {A : Option Addr} {l : List α} (h : RowAt w N sz enc A l) (hb : ∀ k, blk A = some k → w'.heap[k]? = w.heap[k]?) : RowAt w' N sz enc A l := fun h0 => by
  obtain ⟨b, off, rfl, hlt, hc⟩ := h h0
  exact ⟨b, off, rfl, hlt, fun k x hk j v hv => (World.cell?_of_block (hb b rfl)).trans (hc k x hk j v hv)⟩
theorem below_set9 {B : Nat} {a w : World} {g : Nat} {v0 v1 v2 v3 v4 v5 v6 v7 v8 : Value} (h : Below B a w) (hg : B ≤ g) : Below B a ((((((((((w.setCell ⟨g, 0, none⟩ v0).setCell ⟨g, 1, none⟩ v1).setCell ⟨g, 2, none⟩ v2).setCell ⟨g, 3, none⟩ v3).setCell ⟨g, 4, none⟩ v4).setCell ⟨g, 5, none⟩ v5).setCell ⟨g, 6, none⟩ v6).setCell ⟨g, 7, none⟩ v7).setCell ⟨g, 8, none⟩ v8)).drew :=
  Below.drew (Below.setCell (Below.setCell (Below.setCell (Below.setCell (Below.setCell (Below.setCell (Below.setCell (Below.setCell (Below.setCell h hg _) hg _) hg _) hg _) hg _) hg _) hg _) hg _) hg _)
theorem Owns.blocks {α : Type} {w w' : World} {base : Nat} {e : TypeId} {sz : Nat} {enc : α → List Value} {A : Option Addr} {c : Nat} {l : List α} (h : Owns w base e sz enc A c l) (hb : ∀ k, blk A = some k → w'.heap[k]? = w.heap[k]?) : Owns w' base e sz enc A c l := by
  refine ⟨h.1, ?_⟩
  rcases h.2 with h2 | ⟨g, cap, cur, hv, hbase, hh, hr⟩
  · exact .inl h2
  · refine .inr ⟨g, cap, cur, hv, hbase, ?_, hr⟩
    have hA : A = some ⟨g, 0, none⟩ := by injection hv
    rw [hb g (by rw [hA]; rfl)]; exact hh
theorem Owns.lower {α : Type} {w : World} {base base' : Nat} {e : TypeId} {sz : Nat} {enc : α → List Value} {A : Option Addr} {c : Nat} {l : List α} (h : Owns w base e sz enc A c l) (hb : base' ≤ base) : Owns w base' e sz enc A c l := by
  refine ⟨h.1, ?_⟩
  rcases h.2 with h2 | ⟨g, cap, cur, hv, hbase, hr⟩
  · exact .inl h2
  · exact .inr ⟨g, cap, cur, hv, by omega, hr⟩
/-- A content with its two lists in memory of the call's own, and the capacities. -/
structure Tw where
  f : Fl
  g2 : Nat
  c2 : Nat
  g4 : Nat
  c4 : Nat
/-- The lists of such a content, with the marks behind them, are owned. -/
structure TwOwn (w : World) (base : Nat) (t : Tw) : Prop where
  s : Owns w base 66 2 eSlot (some ⟨t.g2, 0, none⟩) t.c2 (t.f.slots ++ [(71, 71)])
  h : Owns w base 3 1 eInt (some ⟨t.g4, 0, none⟩) t.c4 (t.f.have_ ++ [72])
def flTw (t : Tw) : List Value := [.int .i64 t.f.e, .int .i64 t.f.l, .int .i64 t.f.i, .int .i64 t.f.c, .int .i64 t.f.base, .slice (some ⟨t.g2, 0, none⟩) t.f.slots.length t.c2, .slice (some ⟨t.g4, 0, none⟩) t.f.have_.length t.c4]
def eTw (t : Tw) : List Value := [.int .i64 t.f.e, .int .i64 t.f.l, .int .i64 t.f.i, .int .i64 t.f.c, .int .i64 t.f.base, .slice (some ⟨t.g2, 0, none⟩) t.f.slots.length t.c2, .slice (some ⟨t.g4, 0, none⟩) t.f.have_.length t.c4, .slice (some ⟨t.g2, 0, none⟩) (t.f.slots.length + 1) t.c2, .slice (some ⟨t.g4, 0, none⟩) (t.f.have_.length + 1) t.c4]
/-- What twin answers: a copy of the content in lists of its own, with a mark behind each. -/
def TwinPost (f : Fl) (w : World) (e : Ending) (w' : World) : Prop := ∃ t : Tw, t.f = f ∧ e = .returned (.agg (eTw t).toArray) ∧ TwOwn w' w.heap.size t ∧ Below w.heap.size w w'
abbrev twz : Array Value := #[.int .i64 0, .int .i64 0, .int .i64 0, .int .i64 0, .int .i64 0, .slice none 0 0, .slice none 0 0, .slice none 0 0, .slice none 0 0]
set_option maxRecDepth 100000 in
set_option maxHeartbeats 4000000 in
theorem twin_any (f : Fl) (A B : Option Addr) (cA cB N : Nat) (w : World) (hN : N ≤ w.heap.size) (hr : FlRows w N f A cA B cB)
    (hbS : f.slots.length * 16 ≤ 140737488351232) (hbH : f.have_.length * 8 ≤ 140737488351232) :
    Calls Try.prog 23 #[.agg (flc f.e f.l f.i f.c f.base A f.slots.length cA B f.have_.length cB)] w
      (TwinPost f w) := by
  obtain ⟨hrS, hrH, hlS, hcS, hlH, hcH⟩ := hr
  have hbx := below_box2 w (flc f.e f.l f.i f.c f.base A f.slots.length cA B f.have_.length cB) 39 twz 57
  go_enter Try.func23, Try.ntmps23
  go_wp2_with (at_builtin; refine wpList_append_rows _ rfl (.tmp 5) (.tmp 7) 36 rfl (w.heap.size + 2) 66 2 16 _ Try.underlying36 info66 rfl (by decide) eSlot len_eSlot one_eSlot (some ⟨w.heap.size + 2, 0, none⟩) 0 [] A cA N 0 f.slots.length f.slots rfl rfl rfl rfl ?_ ?_ ?_ ?_ ?_ ?_)
  · exact owns_empty_at _ _ _ _ _ (by simp only [World.size_alloc]) (Nat.le_refl _)
  · exact hrS.below (hbx.alloc (by simp only [World.size_alloc]; omega) _) hN
  · omega
  · omega
  · simp only [World.size_alloc]; omega
  · intro A1 c1 w1 ho1 hg1 hk1
    have hB1 := ((Below.refl (w.heap.size + 2) (box2 w (flc f.e f.l f.i f.c f.base A f.slots.length cA B f.have_.length cB) 39 twz 57)).alloc (by simp only [World.size_alloc]; omega) (.cells #[] 66)).grown hg1 (by simp only [World.size_alloc]; omega) (by intro k hk; simp [blk] at hk; omega)
    have hlo1 := ho1.lo
    obtain ⟨hbw, hcf, -, -, -, hs, hs'⟩ := box2_facts hB1
    clear hg1 hk1 hbx
    go_wp2_with (at_builtin; refine wpList_append_rows _ rfl (.tmp 8) (.tmp 10) 36 rfl (w.heap.size + 2) 66 2 16 _ Try.underlying36 info66 rfl (by decide) eSlot len_eSlot one_eSlot A1 c1 f.slots (some ⟨w1.heap.size, 0, none⟩) 1 (w1.heap.size + 1) f.slots.length 1 [(71, 71)] rfl rfl rfl rfl ?_ ?_ ?_ ?_ ?_ ?_)
    · exact ho1.alloc _
    · exact row_new _ _ _ _ _ _ rfl
    · omega
    · omega
    · simp only [World.size_alloc]; omega
    · intro A2 c2 w2 ho2 hg2 hk2
      have hB2 := (hB1.alloc (by omega) (.cells #[.int .i64 71, .int .i64 71] 66)).grown hg2 (by simp only [World.size_alloc]; omega) (fun k hk => (hlo1 k hk).1)
      have hlo2 := ho2.lo
      obtain ⟨g2, cc2, hv2, hgl2, hgh2⟩ := World.ownsRow.form ho2 (by simp)
      obtain ⟨rfl, rfl⟩ : A2 = some ⟨g2, 0, none⟩ ∧ c2 = cc2 := by injection hv2 with h1 _ h2; exact ⟨h1, h2⟩
      clear hv2 ho1 hB1 hlo1 hbw hcf hs hs' hg2 hk2
      obtain ⟨hbw, hcf, -, -, -, hs, hs'⟩ := box2_facts hB2
      go_wp2_with (at_builtin; refine wpList_append_rows _ rfl (.tmp 12) (.tmp 14) 37 rfl (w.heap.size + 2) 3 1 8 _ Try.underlying37 info3 rfl (by decide) eInt len_eInt one_eInt (some ⟨w2.heap.size, 0, none⟩) 0 [] B cB N 0 f.have_.length f.have_ rfl rfl rfl rfl ?_ ?_ ?_ ?_ ?_ ?_)
      · exact owns_empty_at _ _ _ _ _ rfl (by omega)
      · exact hrH.below (hbw.alloc (by omega) _) hN
      · omega
      · omega
      · simp only [World.size_alloc]; omega
      · intro A3 c3 w3 ho3 hg3 hk3
        have hB3 := (hB2.alloc (by omega) (.cells #[] 3)).grown hg3 (by simp only [World.size_alloc]; omega) (by intro k hk; simp [blk] at hk; omega)
        have hlo3 := ho3.lo
        have ho2' := (ho2.alloc (.cells #[] 3)).kept hg3 (by right; simp [blk]; omega)
        clear ho2 hB2 hbw hcf hs hs' hg3 hk3
        obtain ⟨hbw, hcf, -, -, -, hs, hs'⟩ := box2_facts hB3
        go_wp2_with (at_builtin; refine wpList_append_rows _ rfl (.tmp 15) (.tmp 16) 37 rfl (w.heap.size + 2) 3 1 8 _ Try.underlying37 info3 rfl (by decide) eInt len_eInt one_eInt A3 c3 f.have_ (some ⟨w3.heap.size, 0, none⟩) 1 (w3.heap.size + 1) f.have_.length 1 [72] rfl rfl rfl rfl ?_ ?_ ?_ ?_ ?_ ?_)
        · exact ho3.alloc _
        · exact row_new _ _ _ _ _ _ rfl
        · omega
        · omega
        · simp only [World.size_alloc]; omega
        · intro A4 c4 w4 ho4 hg4 hk4
          have hB4 := (hB3.alloc (by omega) (.cells #[.int .i64 72] 3)).grown hg4 (by simp only [World.size_alloc]; omega) (fun k hk => (hlo3 k hk).1)
          have ho24 := (ho2'.alloc (.cells #[.int .i64 72] 3)).kept hg4 (ho2'.ne ho3 (by decide))
          obtain ⟨g4, cc4, hv4, hgl4, hgh4⟩ := World.ownsRow.form ho4 (by simp)
          obtain ⟨rfl, rfl⟩ : A4 = some ⟨g4, 0, none⟩ ∧ c4 = cc4 := by injection hv4 with h1 _ h2; exact ⟨h1, h2⟩
          have hl2 := ho24.len
          have hl4 := ho4.len
          simp only [List.length_append, List.length_cons, List.length_nil] at hl2 hl4
          clear hv4 ho2' hB3 hlo3 hbw hcf hs hs' hg4 hk4 ho3
          obtain ⟨hbw, hcf, hct, -, hft, hs, hs'⟩ := box2_facts hB4
          have e2 : f.slots.length ≤ c2 := by omega
          have e4 : f.have_.length ≤ c4 := by omega
          have z2 : ¬ c2 = 0 := by omega
          have z4 : ¬ c4 = 0 := by omega
          go_wp2_with fail
          go_still_tail 18, (by kernel_rfl)
          change wpList _ _ _ _ _ w4.drew
          go_wp2
          refine bodyPost_ret (v := .agg #[.int .i64 f.e, .int .i64 f.l, .int .i64 f.i, .int .i64 f.c, .int .i64 f.base, .slice (some ⟨g2, 0, none⟩) f.slots.length c2, .slice (some ⟨g4, 0, none⟩) f.have_.length c4, .slice (some ⟨g2, 0, none⟩) (f.slots.length + 1) c2, .slice (some ⟨g4, 0, none⟩) (f.have_.length + 1) c4]) (by simp [results, Try.results23, go_sem, hct]) rfl ?_
          go_light
          refine ⟨⟨f, g2, c2, g4, c4⟩, rfl, rfl, ⟨?_, ?_⟩, below_set9 hbw (by omega)⟩
          · exact (ho24.lower (by omega)).blocks (fun k hk => heap_set9 _ _ _ _ _ _ _ _ _ _ _ (by simp [blk] at hk; omega))
          · exact (ho4.lower (by omega)).blocks (fun k hk => heap_set9 _ _ _ _ _ _ _ _ _ _ _ (by simp [blk] at hk; omega))
end Go.Proofs.Ytcffhfcjfjfokaa
