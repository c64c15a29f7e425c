/- What the document's end answers. -/
import Derived.Test.YtcffhfcjfjfokaaSame
import Derived.Test.YtcffhfcjfjfokaaWhole
namespace Go.Proofs.Ytcffhfcjfjfokaa
open Go.RowKit
/-- k is the cut: all positions from the base's on are whole, the next is not. -/
structure IsCut (fs : List Fl) (k : Int) : Prop where
  low : baseOf fs ≤ k
  all : ∀ p, baseOf fs < p → p ≤ k → wholeAtB fs (atOf fs p) = true
  stop : wholeAtB fs (atOf fs (k + 1)) = false
set_option maxRecDepth 100000 in
set_option maxHeartbeats 2000000 in
/-- .. where a bound on the cut holds: no more than 2048 positions from the base's on are whole. -/
theorem end_any (A : Option Addr) (cA N : Nat) (fs : List Fl) (w : World) (hN : N ≤ w.heap.size) (hA : Fls w N A fs) (hl : fs.length ≤ 9223372036854775807)
    (hbs : ∀ f ∈ fs, 0 ≤ f.base ∧ f.base ≤ 4611686018427387904) (hb0 : 0 ≤ baseOf fs)
    (hbd : ∀ n : Nat, (∀ p, baseOf fs < p → p ≤ baseOf fs + n → wholeAtB fs (atOf fs p) = true) → n ≤ 2048 ∧ baseOf fs + n ≤ 4611686018427387904) :
    Calls Try.prog 54 #[.slice A fs.length cA] w fun x w' => (∃ k, x = .returned (.int .i64 k) ∧ IsCut fs k) ∧ Below w.heap.size w w' := by
  obtain ⟨b, hb⟩ : ∃ b, b = baseOf fs := ⟨_, rfl⟩
  have HB := Lib.hid hbd
  have HS := Lib.hid hbs
  rw [← hb] at hb0
  clear hbd hbs
  go_enter Try.func54, Try.ntmps54
  go_wp2_with (go_at_call 30; refine (base_any A cA N fs _ hA hl).mono ?_; rintro e w' ⟨rfl, rfl⟩; rw [← hb])
  replace hb := Lib.hid hb
  go_loopw [3, 4] (fun k c wr => ∃ i : Nat, c = .int .i64 i ∧ k = .int .i64 (b + i) ∧ (∀ p, baseOf fs < p → p ≤ baseOf fs + i → wholeAtB fs (atOf fs p) = true) ∧ Below w.heap.size w wr) (fun _ c _ => 2049 - (intOf c).toNat)
  case atStart => exact ⟨0, rfl, by simp [hb.out], by intro p h1 h2; simp at h2; omega, Below.refl _ _⟩
  case round =>
    obtain ⟨i, rfl, rfl, hall, hbw⟩ := hrel
    have hsz := hbw.size
    obtain ⟨hi1, hi2⟩ := HB.out i hall
    rw [← hb.out] at hi2
    have HAll := Lib.hid hall
    clear hall
    cases hwh : wholeAtB fs (atOf fs (b + i + 1)) with
    | true =>
      have HW := Lib.hid hwh
      clear hwh
      go_wp2_with (go_at_call 98; refine (whole98_any A cA N fs _ _ (by omega) (hA.below hbw hN) hl (by omega) (by omega) HS.out).mono ?_; rw [HW.out]; rintro e w' ⟨rfl, hbw2⟩)
      go_roundw
      case rel =>
        go_light
        refine ⟨i + 1, by go_num, by congr 1; push_cast; omega, fun p h1 h2 => ?_, hbw.trans (hbw2.mono hsz)⟩
        by_cases hp : p ≤ baseOf fs + i
        · exact HAll.out p h1 hp
        · have : p = b + i + 1 := by have := hb.out; push_cast at h2; omega
          rw [this]; exact HW.out
      case measure => go_light; simp [intOf]; omega
    | false =>
      have HW := Lib.hid hwh
      clear hwh
      go_wp2_with (go_at_call 98; refine (whole98_any A cA N fs _ _ (by omega) (hA.below hbw hN) hl (by omega) (by omega) HS.out).mono ?_; rw [HW.out]; rintro e w' ⟨rfl, hbw2⟩)
      go_ret
      go_light
      exact ⟨⟨b + i, rfl, ⟨by have := hb.out; omega, fun p h1 h2 => HAll.out p h1 (by have := hb.out; omega), HW.out⟩⟩, hbw.trans (hbw2.mono hsz)⟩
end Go.Proofs.Ytcffhfcjfjfokaa
