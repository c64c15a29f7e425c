/- What the document's Cut answers. -/
import Derived.Test.YtcffhfcjfjfokaaCut
import Derived.Test.YtcffhfcjfjfokaaListed
namespace Go.Proofs.Ytcffhfcjfjfokaa
open Go.RowKit
theorem num_any (n : Int) (w : World) : Calls Try.prog 16 #[.int .i64 n] w fun e w' => e = .returned (.int .i64 n) ∧ w = w' := by
  go_enter Try.func16, Try.ntmps16
  go_wp2
  go_ret
  exact ⟨rfl, rfl⟩
/-- What Cut answers: the cut and 0, or 0 and the error. -/
def CutIs (fs : List Fl) (k n : Int) : Prop := Listed fs n ∧ (n = 0 → IsCut fs k) ∧ (n ≠ 0 → k = 0)
theorem listed_one {fs : List Fl} {a b : Int} (h : Listed fs a) (k : Listed fs b) : a = b := by
  unfold Listed at h k
  by_cases hl : 1 ≤ fs.length ∧ fs.length ≤ 16
  · rw [if_pos hl] at h k; exact together_one h k
  · rw [if_neg hl] at h k; rw [h, k]
theorem cutIs_one {fs : List Fl} {a b n m : Int} (h : CutIs fs a n) (k : CutIs fs b m) : a = b ∧ n = m := by
  have e := listed_one h.1 k.1
  subst e
  refine ⟨?_, rfl⟩
  by_cases hn : n = 0
  · exact cut_one (h.2.1 hn) (k.2.1 hn)
  · rw [h.2.2 hn, k.2.2 hn]
theorem listed_fit {fs : List Fl} (h : Listed fs 0) : Fit fs ∧ fs.length ≤ 16 := by
  unfold Listed at h
  by_cases hl : 1 ≤ fs.length ∧ fs.length ≤ 16
  · rw [if_pos hl] at h; exact ⟨fit_iff.1 h, hl.2⟩
  · rw [if_neg hl] at h; cases h
set_option maxHeartbeats 1000000 in
theorem rcut_any (A : Option Addr) (cA N : Nat) (fs : List Fl) (w : World) (hN : N ≤ w.heap.size) (hA : Fls w N A fs) (hl : fs.length ≤ 9223372036854775807) :
    Calls Try.prog 15 #[.slice A fs.length cA] w fun x w' => (∃ k n, x = .returned (.tuple #[.int .i64 k, .int .i64 n]) ∧ CutIs fs k n) ∧ Below w.heap.size w w' := by
  go_enter Try.func15, Try.ntmps15
  go_wp2_with (go_at_call 53; refine (listed_any A cA N fs _ hN hA hl).mono ?_; rintro e w' ⟨⟨n, rfl, hn⟩, hbw⟩; replace hn := Lib.hid hn)
  · go_ret2
    go_light
    have h0 := ‹(n != 0) = true›
    exact ⟨⟨0, n, rfl, hn.out, fun e => by simp [e] at h0, fun _ => rfl⟩, hbw⟩
  · have h0 := ‹(n != 0) = false›
    obtain rfl : n = 0 := by simpa using h0
    have hfit := (listed_fit hn.out).1
    have HFit := Lib.hid hfit
    have hsz := hbw.size
    clear hfit
    refine (end_any A cA N fs w' (by omega) (hA.below hbw hN) hl (fun f hf => ⟨(HFit.out.sound f hf).base0, by have := (HFit.out.sound f hf).base; omega⟩) (base_nonneg fs) (fun n h => cut_bound HFit.out h)).mono ?_
    rintro e w2 ⟨⟨k, rfl, hk⟩, hbw2⟩
    replace hk := Lib.hid hk
    go_wp2
    go_ret2
    go_light
    exact ⟨⟨k, 0, rfl, hn.out, fun _ => hk.out, fun h => absurd rfl h⟩, hbw.trans (hbw2.mono hsz)⟩
end Go.Proofs.Ytcffhfcjfjfokaa
