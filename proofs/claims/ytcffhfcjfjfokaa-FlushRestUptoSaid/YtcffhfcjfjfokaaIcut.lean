import Derived.Test.YtcffhfcjfjfokaaCut
import Derived.Test.YtcffhfcjfjfokaaRcut
import Derived.Test.YtcffhfcjfjfokaaList
namespace Go.Proofs.Ytcffhfcjfjfokaa
open Go.RowKit
theorem blk_cells {w : World} {g : Nat} {cs : Array Value} {t : TypeId} (h : w.heap[g]? = some (.cells cs t (0, 0))) : ∀ i, w.cell? ⟨g, i, none⟩ = cs[i]? := fun i => cell_of_row w g i cs t (0, 0) h
theorem more_nil {fs : List Fl} {n : Int} (h : ListedMore fs [] n) : Listed fs n := by
  unfold ListedMore at h
  unfold Listed
  rw [List.append_nil] at h; exact h
set_option maxHeartbeats 1000000 in
theorem icut_any (A : Option Addr) (cA N : Nat) (fs : List Fl) (w : World) (hN : N ≤ w.heap.size) (hA : Fls w N A fs) (hl : fs.length ≤ 9223372036854775807) :
    Calls Try.prog 14 #[.slice A fs.length cA] w fun x w' => (∃ k n, x = .returned (.tuple #[.int .i64 k, .int .i64 n]) ∧ CutIs fs k n) ∧ Below w.heap.size w w' := by
  have hB : Fls w N none [] := fun h => absurd h (by simp)
  go_enter Try.func14, Try.ntmps14
  go_wp2_with (go_at_call 52; refine (list_any A none cA 0 N fs [] _ hN hA hB hl (by simp)).mono ?_; intro e w' hp; obtain ⟨hbw, hp⟩ := list_cases hp; rw [List.append_nil] at hp; rcases hp with ⟨n, rfl, hn0, hL⟩ | ⟨bs, bu, cut, F, m, rfl, hL, hfit, hcut, hbs, hbu, hub, hF⟩; all_goals try have hcc := blk_cells hub)
  · go_ret2
    go_light
    exact ⟨⟨0, n, rfl, more_nil hL, fun e => absurd e hn0, fun _ => rfl⟩, hbw⟩
  · go_ret2
    go_light
    exact ⟨⟨cut, 0, rfl, more_nil hL, fun _ => hcut, fun e => absurd rfl e⟩, hbw⟩
end Go.Proofs.Ytcffhfcjfjfokaa
