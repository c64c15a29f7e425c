/- What the small functions of layer 8 answer: whether an ID names a view, whether a node has a message. For every argument. -/
import Derived.Test.YtcffhfcjfjfokaaBase
namespace Go.Proofs.Ytcffhfcjfjfokaa
open Go.RowKit
theorem rhas_of {h : List Int} {k : Nat} {x q : Int} (hx : h[k]? = some x) (hlt : k < h.length) : rhasB h k q = decide (q ≤ x) := by
  unfold rhasB; rw [Int.toNat_natCast, hx, Option.getD_some]; exact decide_eq_decide.2 ⟨fun h => h.2.2, fun h => ⟨by omega, by omega, h⟩⟩
theorem hav_of {h : List Int} {k : Nat} {x q : Int} (hx : h[k]? = some x) : havB h k q = decide (q ≤ x) := by
  unfold havB; rw [Int.toNat_natCast, hx, Option.getD_some]
theorem whole1_any (n : Int) (w : World) : Calls Try.prog 120 #[.int .i64 n] w fun e w' => e = .returned (.bool (cntB n)) ∧ w = w' := by
  go_enter Try.func120, Try.ntmps120
  go_wp2
  all_goals (go_ret; go_light; exact ⟨ret_bool (by unfold cntB; simp; omega), rfl⟩)
theorem count_any (n : Int) (w : World) : Calls Try.prog 100 #[.int .i64 n] w fun e w' => e = .returned (.bool (cntB n)) ∧ w = w' := by
  go_enter Try.func100, Try.ntmps100
  go_wp2
  all_goals (go_ret; go_light; exact ⟨ret_bool (by unfold cntB; simp; omega), rfl⟩)
set_option maxHeartbeats 1000000 in
theorem whole_any (e l i c : Int) (w : World) : Calls Try.prog 118 #[.agg #[.int .i64 e, .int .i64 l, .int .i64 i, .int .i64 c]] w fun x w' => x = .returned (.bool (wholeB e l i c)) ∧ Below w.heap.size w w' := by
  have hbx := below_box1 w #[.int .i64 e, .int .i64 l, .int .i64 i, .int .i64 c] 35
  go_enter Try.func118, Try.ntmps118
  go_wp2_with (go_at_call 120; refine (whole1_any _ _).mono ?_; rintro e w' ⟨rfl, rfl⟩)
  all_goals (go_ret; go_light; refine ⟨ret_bool ?_, hbx⟩; clear hbx; simp_all [wholeB, cntB]; try omega)
set_option maxHeartbeats 1000000 in
theorem rwhole_any (e l i c : Int) (w : World) : Calls Try.prog 99 #[.agg #[.int .i64 e, .int .i64 l, .int .i64 i, .int .i64 c]] w fun x w' => x = .returned (.bool (wholeB e l i c)) ∧ Below w.heap.size w w' := by
  have hbx := below_box1 w #[.int .i64 e, .int .i64 l, .int .i64 i, .int .i64 c] 35
  go_enter Try.func99, Try.ntmps99
  go_wp2_with (go_at_call 100; refine (count_any _ _).mono ?_; rintro e w' ⟨rfl, rfl⟩)
  all_goals (go_ret; go_light; refine ⟨ret_bool ?_, hbx⟩; clear hbx; simp_all [wholeB, cntB]; try omega)
set_option maxHeartbeats 1000000 in
theorem rhas_any (f0 f1 f2 f3 f4 : Int) (sl : Value) (B : Option Addr) (c N : Nat) (h : List Int) (s q : Int) (w : World)
  (hl : h.length ≤ 9223372036854775807) (hN : N ≤ w.heap.size) (hB : RowAt w N 1 eInt B h) :
  Calls Try.prog 62 #[.agg #[.int .i64 f0, .int .i64 f1, .int .i64 f2, .int .i64 f3, .int .i64 f4, sl, .slice B h.length c], .agg #[.int .i64 s, .int .i64 q]] w
    fun e w' => e = .returned (.bool (rhasB h s q)) ∧ Below w.heap.size w w' := by
  have hbx := below_box2 w #[.int .i64 f0, .int .i64 f1, .int .i64 f2, .int .i64 f3, .int .i64 f4, sl, .slice B h.length c] 39 #[.int .i64 s, .int .i64 q] 66
  by_cases h0 : 0 ≤ s
  · by_cases h1 : s < h.length
    · obtain ⟨k, rfl⟩ : ∃ k : Nat, s = k := ⟨s.toNat, by omega⟩
      obtain ⟨g, o, x, rfl, hg, hx, hc⟩ := hB.int (k := k) (by omega)
      have hgw : g < w.heap.size := by omega
      have hgw' : g < w.heap.size + 1 := by omega
      have hlt : k < h.length := by omega
      clear hB
      go_enter Try.func62, Try.ntmps62
      go_wp2
      go_quiet (fail)
      go_wp2
      go_ret
      exact ⟨ret_bool (rhas_of hx.out hlt).symm, below_drewN hbx _⟩
    · have hd : decide (s < (h.length : Int)) = false := by simpa using h1
      go_enter Try.func62, Try.ntmps62
      go_wp2
      go_quiet (fail)
      go_wp2
      go_ret
      exact ⟨ret_bool (by unfold rhasB; rw [eq_comm, decide_eq_false_iff_not]; omega), below_drewN hbx _⟩
  · have hd : decide (0 ≤ s) = false := by simpa using h0
    go_enter Try.func62, Try.ntmps62
    go_wp2
    go_quiet (fail)
    go_wp2
    go_ret
    exact ⟨ret_bool (by unfold rhasB; rw [eq_comm, decide_eq_false_iff_not]; omega), below_drewN hbx _⟩
set_option maxHeartbeats 1000000 in
theorem has_any (f0 f1 f2 f3 f4 : Int) (sl : Value) (B : Option Addr) (c N : Nat) (h : List Int) (s q : Int) (w : World)
  (hs : 0 ≤ s) (hn : s < h.length) (hN : N ≤ w.heap.size) (hB : RowAt w N 1 eInt B h) :
  Calls Try.prog 61 #[.agg #[.int .i64 f0, .int .i64 f1, .int .i64 f2, .int .i64 f3, .int .i64 f4, sl, .slice B h.length c], .agg #[.int .i64 s, .int .i64 q]] w
    fun e w' => e = .returned (.bool (havB h s q)) ∧ Below w.heap.size w w' := by
  obtain ⟨k, rfl⟩ : ∃ k : Nat, s = k := ⟨s.toNat, by omega⟩
  obtain ⟨g, o, x, rfl, hg, hx, hc⟩ := hB.int (k := k) (by omega)
  have hgw : g < w.heap.size := by omega
  have hgw' : g < w.heap.size + 1 := by omega
  have hbx := below_box2 w #[.int .i64 f0, .int .i64 f1, .int .i64 f2, .int .i64 f3, .int .i64 f4, sl, .slice (some ⟨g, o, none⟩) h.length c] 39 #[.int .i64 k, .int .i64 q] 66
  clear hB
  go_enter Try.func61, Try.ntmps61
  go_wp2
  go_quiet (fail)
  go_wp2
  go_ret
  exact ⟨ret_bool (hav_of hx.out).symm, below_drewN hbx _⟩
end Go.Proofs.Ytcffhfcjfjfokaa
