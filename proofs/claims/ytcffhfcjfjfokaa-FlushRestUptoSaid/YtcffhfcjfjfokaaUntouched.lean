/- What the law's untouched answers where nothing was touched. -/
import Derived.Test.YtcffhfcjfjfokaaMid
namespace Go.Proofs.Ytcffhfcjfjfokaa
open Go.RowKit
theorem RowAt.front {α : Type} {w : World} {N sz : Nat} {enc : α → List Value} {A : Option Addr} {l m : List α} (h : RowAt w N sz enc A (l ++ m)) : RowAt w N sz enc A l := fun h0 => by
  obtain ⟨b, off, e, hb, hc⟩ := h (by rw [List.length_append]; omega)
  exact ⟨b, off, e, hb, fun k x hk => hc k x (by rw [List.getElem?_append_left (List.getElem?_eq_some_iff.1 hk).1]; exact hk)⟩
set_option maxRecDepth 100000 in
set_option maxHeartbeats 2000000 in
theorem untouched_yes (f g : Fl) (g2 g4 c2 c4 N : Nat) (A' B' : Option Addr) (cA' cB' : Nat) (w : World) (hN : N ≤ w.heap.size)
    (h2 : RowAt w N 2 eSlot (some ⟨g2, 0, none⟩) (f.slots ++ [(71, 71)])) (h4 : RowAt w N 1 eInt (some ⟨g4, 0, none⟩) (f.have_ ++ [72])) (l2 : f.slots.length + 1 ≤ c2) (m2 : c2 ≤ 9223372036854775807) (l4 : f.have_.length + 1 ≤ c4) (m4 : c4 ≤ 9223372036854775807)
    (hr' : FlRows w N g A' cA' B' cB') (hs : f = g) :
    Calls Try.prog 27 #[.agg #[.int .i64 f.e, .int .i64 f.l, .int .i64 f.i, .int .i64 f.c, .int .i64 f.base, .slice (some ⟨g2, 0, none⟩) f.slots.length c2, .slice (some ⟨g4, 0, none⟩) f.have_.length c4, .slice (some ⟨g2, 0, none⟩) (f.slots.length + 1) c2, .slice (some ⟨g4, 0, none⟩) (f.have_.length + 1) c4], .agg (flc g.e g.l g.i g.c g.base A' g.slots.length cA' B' g.have_.length cB')] w
      fun x w' => x = .returned (.bool true) ∧ Below w.heap.size w w' := by
  subst hs
  have hsb : sameB f f = true := by simp [sameB]
  go_enter Try.func27, Try.ntmps27
  obtain ⟨b2, o2, x, y, e2, hb2, hx2, k1, k2⟩ := h2.slot (k := f.slots.length) (by simp)
  obtain ⟨b4, o4, z, e4, hb4, hx4, k4⟩ := h4.int (k := f.have_.length) (by simp)
  obtain ⟨rfl, rfl⟩ : g2 = b2 ∧ 0 = o2 := by simpa using e2
  obtain ⟨rfl, rfl⟩ : g4 = b4 ∧ 0 = o4 := by simpa using e4
  have e1 := hx2.out
  rw [List.getElem?_append_right (Nat.le_refl _)] at e1
  simp at e1
  obtain ⟨rfl, rfl⟩ := e1
  have e3 := hx4.out
  rw [List.getElem?_append_right (Nat.le_refl _)] at e3
  simp at e3
  subst e3
  clear e2 e4 hx2 hx4
  have hrf : FlRows w N f (some ⟨g2, 0, none⟩) c2 (some ⟨g4, 0, none⟩) c4 := ⟨h2.front, h4.front, by omega, m2, by omega, m4⟩
  simp only [Nat.zero_add] at k1 k2 k4
  have b2w : g2 < w.heap.size := by omega
  have b4w : g4 < w.heap.size := by omega
  have q1 : f.slots.length < f.slots.length + 1 := by omega
  have q2 : f.have_.length < f.have_.length + 1 := by omega
  clear h2 h4
  go_wp2_with (go_at_call 64; refine (same_any f f _ _ _ _ _ _ _ _ N _ (by simp only [World.size_alloc]; omega) (by exact hrf.below (below_box2 _ _ _ _ _) hN) (by exact hr'.below (below_box2 _ _ _ _ _) hN)).mono ?_; rintro e w' ⟨rfl, hbw⟩; rw [World.size_alloc, World.size_alloc] at hbw; obtain ⟨hb0, hc1, hc2, -, -, hs1, hs2⟩ := box2_facts hbw; have hq := bcell hb0; obtain ⟨hq1, -⟩ := hq; rw [← hq1 _ _ b2w] at k1 k2; rw [← hq1 _ _ b4w] at k4; clear hq1)
  go_ret
  go_light
  exact ⟨rfl, hb0⟩
end Go.Proofs.Ytcffhfcjfjfokaa
