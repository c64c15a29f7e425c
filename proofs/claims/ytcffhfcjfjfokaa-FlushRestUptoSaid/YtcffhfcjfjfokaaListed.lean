/- What the document's listed answers. -/
import Derived.Test.YtcffhfcjfjfokaaRtog
namespace Go.Proofs.Ytcffhfcjfjfokaa
open Go.RowKit
/-- The error of a list of contents. -/
def Listed (fs : List Fl) (n : Int) : Prop := if 1 ≤ fs.length ∧ fs.length ≤ 16 then Together fs n else n = 1
set_option maxHeartbeats 1000000 in
theorem listed_any (A : Option Addr) (cA N : Nat) (fs : List Fl) (w : World) (hN : N ≤ w.heap.size) (hA : Fls w N A fs) (hl : fs.length ≤ 9223372036854775807) :
    Calls Try.prog 53 #[.slice A fs.length cA] w fun x w' => (∃ n, x = .returned (.int .i64 n) ∧ Listed fs n) ∧ Below w.heap.size w w' := by
  by_cases h1 : fs.length < 1
  · have HL : Hid (Listed fs 1) := by show (if _ then _ else _); rw [if_neg (by omega)]
    go_enter Try.func53, Try.ntmps53
    go_wp2
    go_ret
    go_light
    exact ⟨⟨1, rfl, HL.out⟩, Below.refl _ _⟩
  · by_cases h2 : 16 < fs.length
    · have HL : Hid (Listed fs 1) := by show (if _ then _ else _); rw [if_neg (by omega)]
      go_enter Try.func53, Try.ntmps53
      go_wp2
      go_ret
      go_light
      exact ⟨⟨1, rfl, HL.out⟩, Below.refl _ _⟩
    · have HL : Hid (∀ n, Together fs n → Listed fs n) := by intro n hn; show (if _ then _ else _); rw [if_pos (by omega)]; exact hn
      go_enter Try.func53, Try.ntmps53
      go_wp2_with (go_at_call 29; refine (together_any A cA N fs _ hN hA hl).mono ?_; rintro e w' ⟨⟨n, rfl, hn⟩, hbw⟩; replace hn := Lib.hid hn)
      go_ret
      go_light
      exact ⟨⟨n, rfl, HL.out n hn.out⟩, hbw⟩
end Go.Proofs.Ytcffhfcjfjfokaa
