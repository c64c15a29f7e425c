/- The law's among, within, twice. -/
import Derived.Test.YtcffhfcjfjfokaaSameSl
import Derived.Test.YtcffhfcjfjfokaaMidStill
import Derived.Test.YtcffhfcjfjfokaaShiftTo
namespace Go.Proofs.Ytcffhfcjfjfokaa
open Go.RowKit
theorem among_any (A : Option Addr) (cA N : Nat) (l : List (Int × Int)) (a b : Int) (w : World) (hN : N ≤ w.heap.size) (hA : RowAt w N 2 eSlot A l) (hl : l.length ≤ 9223372036854775807) :
    Calls Try.prog 39 #[.slice A l.length cA, .agg #[.int .i64 a, .int .i64 b]] w fun x w' => x = .returned (.bool (decide ((a, b) ∈ l))) ∧ Below w.heap.size w w' := by
  have hns := run_eql_slot
  go_enter Try.func39, Try.ntmps39
  go_wp2
  go_loopw [5] (fun k wr => ∃ q : Nat, k = .int .i64 q ∧ q ≤ l.length ∧ upto (fun x => x ≠ (a, b)) l q ∧ Below (w.heap.size + 1) (box1 w #[.int .i64 a, .int .i64 b] 66) wr) (fun k _ => l.length - (intOf k).toNat)
  case atStart => exact ⟨0, rfl, by omega, upto_zero _ _, Below.refl _ _⟩
  case round =>
    obtain ⟨q, rfl, hq, hup, hb⟩ := hrel
    replace hup := Lib.hid hup
    obtain ⟨hb0, hc, -, hsz⟩ := box1_facts hb
    have e0 := hc 0
    have e1 := hc 1
    simp at e0 e1
    clear hc
    by_cases hlt : q < l.length
    · obtain ⟨g, o, x, y, rfl, hg, hx, c0, c1⟩ := (hA.below hb0 hN).slot hlt
      by_cases he : x = a ∧ y = b
      · obtain ⟨rfl, rfl⟩ := he
        have hse : slotEq x y x y = true := by simp [slotEq]
        have hm : decide ((x, y) ∈ l) = true := decide_eq_true (List.mem_of_getElem? hx.out)
        replace hm := Lib.hid hm
        go_wp2
        go_quiet (fail)
        go_wp2
        go_ret
        exact ⟨ret_bool hm.out.symm, below_drewN hb0 _⟩
      · have hse : slotEq x y a b = false := by simp [slotEq]; intro h; exact fun h2 => he ⟨h, h2⟩
        have hne := Lib.hid (show (x, y) ≠ (a, b) by intro h; injection h with h1 h2; exact he ⟨h1, h2⟩)
        clear he
        go_wp2
        go_quiet (fail)
        go_wp2
        go_roundw
        case rel => go_light; exact ⟨q + 1, by go_num, by omega, upto_succ hup.out (fun z hz => by rw [hx.out] at hz; cases hz; exact hne.out), below_drewN hb _⟩
        case measure => go_light; simp [intOf]; omega
    · have hm := Lib.hid (show decide ((a, b) ∈ l) = false from decide_eq_false fun h => upto_all hup.out (by omega) _ h rfl)
      go_wp2
      go_ret
      exact ⟨ret_bool hm.out.symm, hb0⟩
theorem within_any (B : Option Addr) (c N : Nat) (h : List Int) (s q : Int) (w : World) (hl : h.length ≤ 9223372036854775807) (hN : N ≤ w.heap.size) (hB : RowAt w N 1 eInt B h) :
    Calls Try.prog 40 #[.slice B h.length c, .agg #[.int .i64 s, .int .i64 q]] w fun e w' => e = .returned (.bool (rhasB h s q)) ∧ Below w.heap.size w w' := by
  have hbx := below_box1 w #[.int .i64 s, .int .i64 q] 66
  by_cases h0 : 0 ≤ s
  · by_cases h1 : s < h.length
    · obtain ⟨k, rfl⟩ : ∃ k : Nat, s = k := ⟨s.toNat, by omega⟩
      obtain ⟨g, o, x, rfl, hg, hx, hc⟩ := hB.int (k := k) (by omega)
      have hgw : g < w.heap.size := by omega
      have hlt : k < h.length := by omega
      clear hB
      go_enter Try.func40, Try.ntmps40
      go_wp2
      go_quiet (fail)
      go_wp2
      go_ret
      exact ⟨ret_bool (rhas_of hx.out hlt).symm, below_drewN hbx _⟩
    · have hd : decide (s < (h.length : Int)) = false := by simpa using h1
      go_enter Try.func40, Try.ntmps40
      go_wp2
      go_quiet (fail)
      go_wp2
      go_ret
      exact ⟨ret_bool (by unfold rhasB; rw [eq_comm, decide_eq_false_iff_not]; omega), below_drewN hbx _⟩
  · have hd : decide (0 ≤ s) = false := by simpa using h0
    go_enter Try.func40, Try.ntmps40
    go_wp2
    go_quiet (fail)
    go_wp2
    go_ret
    exact ⟨ret_bool (by unfold rhasB; rw [eq_comm, decide_eq_false_iff_not]; omega), below_drewN hbx _⟩
end Go.Proofs.Ytcffhfcjfjfokaa
