/- Two equal lists of contents are told alike. -/
import Derived.Test.YtcffhfcjfjfokaaMid
import Derived.StillTailTactics
namespace Go.Proofs.Ytcffhfcjfjfokaa
open Go.RowKit
set_option maxRecDepth 100000 in
set_option maxHeartbeats 2000000 in
theorem sameFls_yes (A A' : Option Addr) (cA cA' N : Nat) (fs : List Fl) (w : World) (hN : N ≤ w.heap.size) (hA : Fls w N A fs) (hA' : Fls w N A' fs) (hl : fs.length ≤ 9223372036854775807) :
    Calls Try.prog 55 #[.slice A fs.length cA, .slice A' fs.length cA'] w fun x w' => x = .returned (.bool true) ∧ Below w.heap.size w w' := by
  go_enter Try.func55, Try.ntmps55
  go_wp2
  go_loopw [5] (fun k wr => ∃ q : Nat, k = .int .i64 q ∧ q ≤ fs.length ∧ Below w.heap.size w wr) (fun k _ => fs.length - (intOf k).toNat)
  case atStart => exact ⟨0, rfl, by omega, Below.refl _ _⟩
  case round =>
    obtain ⟨q, rfl, hq, hb⟩ := hrel
    have hsz := hb.size
    by_cases hlt : q < fs.length
    · obtain ⟨g, o, f, X, cX, Y, cY, rfl, hg, hf, ⟨c0, c1, c2, c3, c4, c5, c6⟩, hr⟩ := (hA.below hb hN).at_ hlt
      obtain ⟨g', o', f', X', cX', Y', cY', rfl, hg', hf', ⟨d0, d1, d2, d3, d4, d5, d6⟩, hr'⟩ := (hA'.below hb hN).at_ hlt
      obtain rfl : f = f' := by have h1 := hf.out; rw [hf'.out] at h1; exact (Option.some.inj h1).symm
      have hsb : sameB f f = true := by simp [sameB]
      clear hA hA'
      go_wp2
      go_still_tail 8, (by kernel_rfl)
      change wpList _ _ _ _ _ wr.drew
      go_wp2_with (go_at_call 64; refine (same_any (w := wr.drew) f f _ _ _ _ _ _ _ _ N (by show N ≤ wr.heap.size; omega) (FlRows.below hr (Below.drew (Below.refl N wr)) (Nat.le_refl _)) (FlRows.below hr' (Below.drew (Below.refl N wr)) (Nat.le_refl _))).mono ?_; rintro e w' ⟨rfl, hbw⟩)
      go_roundw
      case rel => go_light; exact ⟨q + 1, by go_num, by omega, (Below.drew hb).trans (hbw.mono (by show _ ≤ wr.heap.size; omega))⟩
      case measure => go_light; simp [intOf]; omega
    · go_wp2
      go_ret
      go_light
      exact ⟨rfl, hb⟩
end Go.Proofs.Ytcffhfcjfjfokaa
