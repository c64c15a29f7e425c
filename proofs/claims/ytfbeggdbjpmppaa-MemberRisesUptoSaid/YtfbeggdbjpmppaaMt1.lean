/- Rises0, joined. -/
import Derived.Test.YtfbeggdbjpmppaaMr2
set_option linter.unusedVariables false
set_option linter.unusedSimpArgs false
/- MemberRises, where no agent is made. -/
namespace Go.Proofs.Ytfbeggdbjpmppaa
open Go.RowKit
set_option maxRecDepth 100000 in
set_option maxHeartbeats 4000000 in
theorem rises_none (n s i f : Int) (A : Option Addr) (m c : Nat) (w : World) (h : newB n s i f = false ∨ (newB n s i f = true ∧ f = 4611686018427387904)) :
    Calls Try.prog 10 #[.agg (caseA n s i f A m c)] w fun x w' => x = .returned (.bool true) ∧ Below w.heap.size w w' := by
  obtain ⟨wA, hwA⟩ : ∃ wA, wA = w.alloc (.cells (caseA n s i f A m c) 59) := ⟨_, rfl⟩
  have hbA : Below w.heap.size w wA := by rw [hwA]; exact below_box1 _ _ _
  have zA : w.heap.size < wA.heap.size := by rw [hwA]; simp
  have oA : wA.rangeAt w.heap.size 0 (caseA n s i f A m c).toList := by rw [hwA]; exact range_new w (caseA n s i f A m c) 59
  obtain ⟨v, hv⟩ : ∃ v, v = w.heap.size := ⟨_, rfl⟩
  rw [← hv] at oA
  have key : Calls Try.prog 26 #[.agg (caseA n s i f A m c)] wA fun x w' => x = .returned (.tuple #[.pointer none, .bool true]) ∧ Below wA.heap.size wA w' := by
    rcases h with h | ⟨h, hf⟩
    · exact begun_no n s i f A m c wA h
    · exact begun_spent n s i f A m c wA h hf
  have c0 : wA.cell? ⟨v, 0, none⟩ = some (.int .i64 n) := oA 0 _ rfl
  have c1 : wA.cell? ⟨v, 1, none⟩ = some (.int .i64 s) := oA 1 _ rfl
  have c2 : wA.cell? ⟨v, 2, none⟩ = some (.int .i64 i) := oA 2 _ rfl
  have c3 : wA.cell? ⟨v, 3, none⟩ = some (.int .i64 f) := oA 3 _ rfl
  have c4 : wA.cell? ⟨v, 4, none⟩ = some (.slice A m c) := oA 4 _ rfl
  replace hbA := Lib.hid hbA
  replace oA := Lib.hid oA
  replace hwA := Lib.hid hwA
  replace hv := Lib.hid hv
  replace h := Lib.hid h
  replace key := Lib.hid key
  go_enter Try.func10, Try.ntmps10
  go_wp2_with fail
  rw [← hwA.out, ← hv.out]
  go_wp2_with (first
    | (go_at_call 26
       refine key.out.mono ?_
       rintro e w1 ⟨rfl, hb1⟩
       have b1 := Lib.hid (hbA.out.trans (hb1.mono (by omega)))
       clear hb1)
    | fail)
  go_ret
  exact ⟨rfl, b1.out⟩
end Go.Proofs.Ytfbeggdbjpmppaa
