import Derived.Test.YtcffhfcjfjfokaaCut
import Derived.Test.YtcffhfcjfjfokaaIcut
import Derived.Test.YtcffhfcjfjfokaaTwL
import Derived.Test.YtcffhfcjfjfokaaSorted
namespace Go.Proofs.Ytcffhfcjfjfokaa
open Go.RowKit
set_option maxRecDepth 100000 in
/-- Two rows that hold the same slots. -/
theorem sameSlots_yes (A B : Option Addr) (cA cB N : Nat) (l : List (Int × Int)) (w : World) (hN : N ≤ w.heap.size) (hA : RowAt w N 2 eSlot A l) (hB : RowAt w N 2 eSlot B l) (hl : l.length ≤ 9223372036854775807) :
    Calls Try.prog 26 #[.slice A l.length cA, .slice B l.length cB] w fun x w' => x = .returned (.bool true) ∧ Below w.heap.size w w' := by
  have hns := run_neq_slot
  go_enter Try.func26, Try.ntmps26
  go_wp2
  go_loopw [5] (fun k wr => ∃ q : Nat, k = .int .i64 q ∧ q ≤ l.length ∧ Below w.heap.size w wr) (fun k _ => l.length - (intOf k).toNat)
  case atStart => exact ⟨0, rfl, by omega, Below.refl _ _⟩
  case round =>
    obtain ⟨q, rfl, hq, hb⟩ := hrel
    have hsz := hb.size
    by_cases hlt : q < l.length
    · obtain ⟨g, o, x, y, rfl, hg, hx, c0, c1⟩ := (hA.below hb hN).slot hlt
      obtain ⟨g', o', x', y', rfl, hg', hx', d0, d1⟩ := (hB.below hb hN).slot hlt
      obtain ⟨rfl, rfl⟩ : x = x' ∧ y = y' := by have := hx'.out; rw [hx.out] at this; injection this with h; injection h with h1 h2; exact ⟨h1, h2⟩
      have hse : slotEq x y x y = true := by simp [slotEq]
      go_wp2
      go_quiet (fail)
      go_wp2
      go_roundw
      case rel => go_light; exact ⟨q + 1, by go_num, by omega, below_drewN hb _⟩
      case measure => go_light; simp [intOf]; omega
    · go_wp2
      go_ret
      exact ⟨rfl, hb⟩
end Go.Proofs.Ytcffhfcjfjfokaa
