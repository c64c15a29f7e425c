/- The law's twice, of a list in which nothing stands twice. -/
import Derived.Test.YtcffhfcjfjfokaaAmong
import Derived.StillTailTactics
import Derived.IntWalk
namespace Go.Proofs.Ytcffhfcjfjfokaa
open Go.RowKit
theorem nodup_drop {α : Type} {l : List α} (h : l.Nodup) {i : Nat} {x : α} (hx : l[i]? = some x) : x ∉ l.drop (i + 1) := fun hm => by
  obtain ⟨j, hj, e⟩ := List.getElem_of_mem hm
  rw [List.getElem_drop] at e
  exact apart_of_nodup h (by omega : i ≠ i + 1 + j) hx (by rw [List.getElem?_eq_some_iff]; exact ⟨by simp at hj; omega, e⟩)
theorem cut_row {w : World} {N g c a : Nat} {l : List (Int × Int)} (h : RowAt w N 2 eSlot (some ⟨g, 0, none⟩) l) (hc : l.length ≤ c) : RowAt w N 2 eSlot (cutOff g c a) (l.drop a) := fun h0 => by
  rw [List.length_drop] at h0
  obtain ⟨b, off, e, hb, hx⟩ := h (by omega)
  injection e with e; injection e with e1 e2; subst e1 e2
  refine ⟨g, a * 2, cutOff_at (by omega), hb, fun k x hk j u hu => ?_⟩
  rw [List.getElem?_drop] at hk
  have := hx (a + k) x hk j u hu
  rw [show a * 2 + k * 2 + j = 0 + (a + k) * 2 + j by omega]; exact this
set_option maxRecDepth 100000 in
set_option maxHeartbeats 2000000 in
theorem twice_no (A : Option Addr) (cA N : Nat) (l : List (Int × Int)) (w : World) (hN : N ≤ w.heap.size) (hA : RowAt w N 2 eSlot A l) (hA0 : ∀ a, A = some a → a.off = 0) (hl : l.length ≤ cA) (hc : cA ≤ 9223372036854775807) (hnd : l.Nodup) :
    Calls Try.prog 41 #[.slice A l.length cA] w fun x w' => x = .returned (.bool false) ∧ Below w.heap.size w w' := by
  replace hnd := Lib.hid hnd
  go_enter Try.func41, Try.ntmps41
  go_wp2
  go_loopw [3] (fun k wr => ∃ q : Nat, k = .int .i64 q ∧ q ≤ l.length ∧ Below w.heap.size w wr) (fun k _ => l.length - (intOf k).toNat)
  case atStart => exact ⟨0, rfl, by omega, Below.refl _ _⟩
  case round =>
    obtain ⟨q, rfl, hq, hb⟩ := hrel
    have hsz := hb.size
    by_cases hlt : q < l.length
    · have hA2 := hA.below hb hN
      obtain ⟨g, o, x, y, rfl, hg, hx, c0, c1⟩ := hA2.slot hlt
      obtain rfl : o = 0 := hA0 _ rfl
      simp only [Nat.zero_add] at c0 c1
      have hnm : decide ((x, y) ∈ l.drop (q + 1)) = false := decide_eq_false (nodup_drop hnd.out hx.out)
      have hcr := cut_row (a := q + 1) hA2 hl
      have h39 := among_any (cutOff g cA (q + 1)) (cA - (q + 1)) N (l.drop (q + 1)) x y wr.drew (by show N ≤ wr.heap.size; omega) hcr (by rw [List.length_drop]; omega)
      rw [hnm, List.length_drop] at h39
      replace h39 := Lib.hid h39
      have hrf := fun W : World => run_from W g l.length cA (q + 1) ((q : Int) + 1) (by omega) (by omega)
      have hwr : IntKind.i64.wrap ((q : Int) + 1) = q + 1 := IntWalk.i64_in _ (by omega)
      clear hA hA2 hcr hA0 hnm
      go_wp2
      go_still_tail 8, (by kernel_rfl)
      change wpList _ _ _ _ _ wr.drew
      go_wp2_with (go_at_call 39; refine h39.out.mono ?_; rintro e w2 ⟨rfl, hb2⟩)
      have hb3 := (Below.drew hb).trans (hb2.mono (by show _ ≤ wr.heap.size; omega))
      clear hrf hwr
      go_roundw
      case rel => go_light; exact ⟨q + 1, by go_num, by omega, hb3⟩
      case measure => go_light; simp [intOf]; omega
    · go_wp2
      go_ret
      exact ⟨rfl, hb⟩
end Go.Proofs.Ytcffhfcjfjfokaa
