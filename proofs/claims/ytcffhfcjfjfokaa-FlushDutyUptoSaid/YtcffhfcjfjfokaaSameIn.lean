/- The law's sameInts. -/
import Derived.Test.YtcffhfcjfjfokaaCut
namespace Go.Proofs.Ytcffhfcjfjfokaa
open Go.RowKit
/-- Two rows that hold the same numbers. -/
theorem sameInts_yes (A B : Option Addr) (cA cB N : Nat) (l : List Int) (w : World) (hN : N ≤ w.heap.size) (hA : RowAt w N 1 eInt A l) (hB : RowAt w N 1 eInt B l) (hl : l.length ≤ 9223372036854775807) :
    Calls Try.prog 37 #[.slice A l.length cA, .slice B l.length cB] w fun x w' => x = .returned (.bool true) ∧ Below w.heap.size w w' := by
  go_enter Try.func37, Try.ntmps37
  go_wp2
  go_loopw [5] (fun k wr => ∃ q : Nat, k = .int .i64 q ∧ q ≤ l.length ∧ Below w.heap.size w wr) (fun k _ => l.length - (intOf k).toNat)
  case atStart => exact ⟨0, rfl, by omega, Below.refl _ _⟩
  case round =>
    obtain ⟨q, rfl, hq, hb⟩ := hrel
    have hsz := hb.size
    by_cases hlt : q < l.length
    · obtain ⟨g, o, x, rfl, hg, hx, c0⟩ := (hA.below hb hN).int hlt
      obtain ⟨g', o', x', rfl, hg', hx', d0⟩ := (hB.below hb hN).int hlt
      obtain rfl : x = x' := by have := hx'.out; rw [hx.out] at this; injection this
      go_wp2
      go_quiet (fail)
      go_wp2
      go_roundw
      case rel => go_light; exact ⟨q + 1, by go_num, by omega, below_drewN hb _⟩
      case measure => go_light; simp [intOf]; omega
    · go_wp2
      go_ret
      exact ⟨rfl, hb⟩
end Go.Proofs.Ytcffhfcjfjfokaa
