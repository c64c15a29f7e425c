import Derived.Test.YtcffhfcjfjfokaaSmall
namespace Go.Proofs.Ytcffhfcjfjfokaa
open Go.RowKit
/-- Lacks' closure: does the node not have it? -/
theorem lacks1_any (f : Fl) (X Y : Option Addr) (cX cY N bx : Nat) (s q : Int) (w : World) (hN : N ≤ w.heap.size) (hr : FlRows w N f X cX Y cY)
    (hbx : bx < w.heap.size) (hcx : ∀ i, w.cell? ⟨bx, i, none⟩ = (flc f.e f.l f.i f.c f.base X f.slots.length cX Y f.have_.length cY)[i]?) (hs0 : 0 ≤ s) (hs1 : s < f.have_.length) :
    Calls Try.prog 60 #[.agg #[.int .i64 s, .int .i64 q], .pointer (some ⟨bx, 0, none⟩)] w fun x w' => x = .returned (.bool (!havB f.have_ s q)) ∧ Below w.heap.size w w' := by
  go_enter Try.func60, Try.ntmps60
  have hc0 := hcx 0
  have hc1 := hcx 1
  have hc2 := hcx 2
  have hc3 := hcx 3
  have hc4 := hcx 4
  have hc5 := hcx 5
  have hc6 := hcx 6
  simp [flc] at hc0 hc1 hc2 hc3 hc4 hc5 hc6
  clear hcx
  go_wp2_with (go_at_call 61; refine (has_any _ _ _ _ _ _ _ _ N f.have_ s q _ hs0 hs1 (by simp only [World.size_alloc]; omega) (by exact hr.have_.below ((Below.refl N w).alloc (by omega) _) (Nat.le_refl _))).mono ?_; rintro e w2 ⟨rfl, hbw2⟩)
  all_goals (go_ret; go_light; rw [World.size_alloc] at hbw2; exact ⟨rfl, ((Below.refl w.heap.size w).alloc (Nat.le_refl _) _).trans (hbw2.mono (by omega))⟩)
end Go.Proofs.Ytcffhfcjfjfokaa
