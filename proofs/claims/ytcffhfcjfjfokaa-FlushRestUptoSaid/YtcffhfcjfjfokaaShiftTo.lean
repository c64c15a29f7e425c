import Derived.Test.YtcffhfcjfjfokaaShift
import Derived.Test.YtcffhfcjfjfokaaRows
import Derived.ProofKit
import Derived.WalkKit
namespace Go.Proofs.Ytcffhfcjfjfokaa
open Go.RowKit
def cutOff (g c a : Nat) : Option Addr := if c = a then some ⟨g, 0, none⟩ else some ⟨g, a * 2, none⟩
theorem cutOff_at {g c a : Nat} (h : a < c) : cutOff g c a = some ⟨g, a * 2, none⟩ := if_neg (by omega)
/-- 'l[a:]' of a row of slots. -/
theorem run_from (W : World) (g n c a : Nat) (x : Int) (hx : x = a) (ha : a ≤ n) :
    (Instr.sliceAt 36 (.slice (some ⟨g, 0, none⟩) n c) (some (.int .i64 x)) none none).run Try.prog W = .ok (.slice (cutOff g c a) (n - a) (c - a)) W := by
  subst hx
  have he : Try.prog.elem 36 = 66 := by kernel_rfl
  have ht : Try.prog.underlying 36 = some (.slice (Try.prog.elem 36)) := by kernel_rfl
  have hsz : ∀ W, (sizeOf (Try.prog.elem 36)).run Try.prog W = .ok 2 W := fun W => by rw [he]; kernel_rfl
  rw [run_sliceAt_slice (h := ht), run_slice_l (ht := ht) (h0 := by omega) (h1 := by omega), hsz]
  have hc : (if c = a then some (⟨g, 0, none⟩ : Addr) else (some (⟨g, 0, none⟩ : Addr)).map (·.add (a * 2))) = cutOff g c a := by
    unfold cutOff
    by_cases h : c = a
    · rw [if_pos h, if_pos h]
    · rw [if_neg h, if_neg h]; simp [Addr.add]; omega
  simp only [Result.andThen, sliced, Int.toNat_natCast]
  rw [hc]
theorem size66 : (Try.prog.info? 66).map (·.size) = some 2 := by kernel_rfl
theorem own_cell {w : World} {base g c j : Nat} {l : List (Int × Int)} (h : Owns w base 66 2 eSlot (some ⟨g, 0, none⟩) c l) (hj : j < l.length * 2) : ∃ u, w.cell? ⟨g, j, none⟩ = some u := by
  have h1 := World.ownsRow.cellAt h j hj
  rw [h1]
  exact ⟨_, List.getElem?_eq_getElem (by rw [h.1]; exact hj)⟩
theorem own_frozen {w : World} {base g c : Nat} {l : List (Int × Int)} (h : Owns w base 66 2 eSlot (some ⟨g, 0, none⟩) c l) (j : Nat) : w.frozen? ⟨g, j, none⟩ = false := World.ownsRow.frozenAt h j
end Go.Proofs.Ytcffhfcjfjfokaa
