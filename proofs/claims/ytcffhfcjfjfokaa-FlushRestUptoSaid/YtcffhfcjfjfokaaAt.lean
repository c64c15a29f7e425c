/- What the document's At answers. -/
import Derived.Test.YtcffhfcjfjfokaaSmall
namespace Go.Proofs.Ytcffhfcjfjfokaa
open Go.RowKit
set_option maxHeartbeats 2000000 in
theorem at_any (A : Option Addr) (cA N : Nat) (fs : List Fl) (pos : Int) (w : World) (hN : N ≤ w.heap.size) (hA : Fls w N A fs) (hl : fs.length ≤ 9223372036854775807)
    (hp0 : 0 ≤ pos) (hp1 : pos ≤ 4611686018427387905) (hbs : ∀ f ∈ fs, 0 ≤ f.base ∧ f.base ≤ 4611686018427387904) :
    Calls Try.prog 31 #[.slice A fs.length cA, .int .i64 pos] w fun x w' => x = .returned (.agg #[.int .i64 (atOf fs pos).1, .int .i64 (atOf fs pos).2]) ∧ Below w.heap.size w w' := by
  go_enter Try.func31, Try.ntmps31
  go_wp2
  go_loopw [5] (fun k wr => ∃ q : Nat, k = .int .i64 q ∧ q ≤ fs.length ∧ upto (fun f => atF pos f = none) fs q ∧ Below (w.heap.size + 1) (box1 w #[.int .i64 0, .int .i64 0] 66) wr) (fun k _ => fs.length - (intOf k).toNat)
  case atStart => exact ⟨0, rfl, by omega, upto_zero _ _, Below.refl _ _⟩
  case round =>
    obtain ⟨q, rfl, hq, hup, hb⟩ := hrel
    obtain ⟨hbw, hc, hfz, hsz⟩ := box1_facts hb
    by_cases hlt : q < fs.length
    · obtain ⟨g, o, f, X, cX, Y, cY, rfl, hg, hf, ⟨c0, c1, c2, c3, c4, c5, c6⟩, hr⟩ := (hA.below hbw hN).at_ hlt
      obtain ⟨hf0, hf1⟩ := hbs f (List.mem_of_getElem? hf.out)
      have hgw : g < wr.heap.size := by omega
      by_cases hin : 0 ≤ pos - f.base - 1
      · by_cases hin2 : pos - f.base - 1 < f.slots.length
        · obtain ⟨j, hj⟩ : ∃ j : Nat, pos - f.base - 1 = j := ⟨(pos - f.base - 1).toNat, by omega⟩
          obtain ⟨g', o', x, y, rfl, hg', hx, k1, k2⟩ := hr.slots.slot (k := j) (by omega)
          have hgw' : g' < wr.heap.size := by omega
          have hjl : j < f.slots.length := by omega
          have hat : atF pos f = some (x, y) := by unfold atF; rw [if_pos hin, hj, Int.toNat_natCast, hx.out]
          have HR := Lib.hid (atOf_here hup hf.out hat)
          clear hat hA hr hbs
          go_wp2
          refine bodyPost_ret (v := .agg #[.int .i64 x, .int .i64 y]) (by simp [results, Try.results31, go_sem, hc]) rfl ⟨by rw [HR.out], ?_⟩
          exact (hbw.setCell (p := ⟨w.heap.size, 0, none⟩) (Nat.le_refl _) _).setCell (p := ⟨w.heap.size, 1, none⟩) (Nat.le_refl _) _
        · have hat : atF pos f = none := by unfold atF; rw [if_pos hin]; exact List.getElem?_eq_none (by omega)
          have HA := Lib.hid hat
          clear hat hA hr hbs
          go_wp2
          all_goals
            go_roundw
            case rel => go_light; exact ⟨q + 1, by go_num, by omega, upto_succ hup (fun z hz => by rw [hf.out] at hz; cases hz; exact HA.out), hb⟩
            case measure => go_light; simp [intOf]; omega
      · have hat : atF pos f = none := by unfold atF; rw [if_neg hin]
        have HA := Lib.hid hat
        clear hat hA hr hbs
        go_wp2
        all_goals
          go_roundw
          case rel => go_light; exact ⟨q + 1, by go_num, by omega, upto_succ hup (fun z hz => by rw [hf.out] at hz; cases hz; exact HA.out), hb⟩
          case measure => go_light; simp [intOf]; omega
    · have HR := Lib.hid (atOf_none hup (by omega))
      clear hA hbs
      go_wp2
      refine bodyPost_ret (v := .agg #[.int .i64 0, .int .i64 0]) (by simp [results, Try.results31, go_sem, hc]) rfl ⟨by rw [HR.out], ?_⟩
      exact (hbw.setCell (p := ⟨w.heap.size, 0, none⟩) (Nat.le_refl _) _).setCell (p := ⟨w.heap.size, 1, none⟩) (Nat.le_refl _) _
end Go.Proofs.Ytcffhfcjfjfokaa
