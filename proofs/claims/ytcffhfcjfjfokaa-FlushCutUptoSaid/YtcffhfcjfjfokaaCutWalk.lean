import Derived.Test.YtcffhfcjfjfokaaCut
import Derived.Test.YtcffhfcjfjfokaaRcut
import Derived.Test.YtcffhfcjfjfokaaAllunt
import Derived.Test.YtcffhfcjfjfokaaTwL
import Derived.Test.YtcffhfcjfjfokaaIcut
namespace Go.Proofs.Ytcffhfcjfjfokaa
open Go.RowKit
set_option maxRecDepth 100000 in
set_option maxHeartbeats 2000000 in
theorem flushCut_walk (A : Option Addr) (cA N : Nat) (fs : List Fl) (w : World) (hN : N ≤ w.heap.size) (hA : Fls w N A fs) (hsm : Small fs) :
    Calls Try.prog 3 #[.slice A fs.length cA] w fun x w' => x = .returned (.bool true) ∧ Below w.heap.size w w' := by
  have hl : fs.length ≤ 9223372036854775807 := by have := hsm.1; omega
  replace hsm := Lib.hid hsm
  go_enter Try.func3, Try.ntmps3
  go_wp2_with (first
    | (go_at_call 13; refine (twins_any A cA N fs _ hN hA hsm.out).mono ?_; rintro e w' ⟨ts, T, cT, I, cI, rfl, hts, hrel⟩; have hb1 := hrel.bel; have hs1 := hb1.size; have hmem := twMem_of hrel; have hI := hmem.fls; rw [hts] at hI; replace hts := Lib.hid hts; have hA1 := hA.below hb1 hN; clear hrel)
    | (go_at_call 14; go_loud (refine (icut_any I cI _ fs _ (Nat.le_refl _) hI hl).mono ?_; rintro e w2 ⟨⟨k, n, rfl, hc⟩, hbw2⟩; have hs2 := hbw2.size; have hA2 := hA1.below hbw2 (by omega)))
    | (go_at_call 15; refine (rcut_any A cA N fs _ (by omega) hA2 hl).mono ?_; rintro e w3 ⟨⟨k', n', rfl, hc'⟩, hbw3⟩; obtain ⟨rfl, rfl⟩ := cutIs_one hc hc'; clear hc hc'; have hs3 := hbw3.size)
    | (go_at_call 16; refine (num_any _ _).mono ?_; rintro e w4 ⟨rfl, rfl⟩)
    | (go_at_call 17; go_loud (refine (allunt_any T I A cT cI cA _ fs ts _ (by omega) ((hmem.below hbw2 (Nat.le_refl _)).below hbw3 (by omega)) hts.out ((hA2.below hbw3 (by omega)).more (by omega)) hl).mono ?_; rintro e w5 ⟨rfl, hbw5⟩))
    | fail)

  all_goals (go_ret; try exact ⟨rfl, ((hb1.trans (hbw2.mono (by omega))).trans (hbw3.mono (by omega))).trans (hbw5.mono (by omega))⟩)
end Go.Proofs.Ytcffhfcjfjfokaa
