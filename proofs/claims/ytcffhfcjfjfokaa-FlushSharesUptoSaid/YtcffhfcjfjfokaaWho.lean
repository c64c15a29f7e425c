/- The numbers of the nodes whose contents they are. Plain words, no program in sight. -/
import Derived.Test.YtcffhfcjfjfokaaSpec
namespace Go.Proofs.Ytcffhfcjfjfokaa
open Go.RowKit
/-- Each a node's number, no two alike. -/
def nodeIn (x : Int) : Prop := 0 ≤ x ∧ x < 16
def WhoOk (who : List Int) : Prop := (∀ x ∈ who, nodeIn x) ∧ who.Nodup
/-- The place of a node in the first k of a list; -1: it is not there. -/
def PlTo (who : List Int) (t : Int) (k : Nat) (r : Int) : Prop := (r = -1 ∧ upto (fun x => x ≠ t) who k) ∨ (∃ i : Nat, i < k ∧ who[i]? = some t ∧ r = i)
theorem plTo_zero (who : List Int) (t : Int) : PlTo who t 0 (-1) := .inl ⟨rfl, upto_zero _ _⟩
theorem plTo_skip {who : List Int} {t x : Int} {k : Nat} {r : Int} (h : PlTo who t k r) (hx : who[k]? = some x) (hne : x ≠ t) : PlTo who t (k + 1) r := by
  rcases h with ⟨rfl, hu⟩ | ⟨i, hi, hw, rfl⟩
  · exact .inl ⟨rfl, upto_succ hu (fun y hy => by rw [hx] at hy; cases hy; exact hne)⟩
  · exact .inr ⟨i, by omega, hw, rfl⟩
theorem plTo_here {who : List Int} {t : Int} {k : Nat} (hx : who[k]? = some t) : PlTo who t (k + 1) k := .inr ⟨k, by omega, hx, rfl⟩
def PlaceIs (who : List Int) (t r : Int) : Prop := (∃ i : Nat, WhoOk who ∧ who[i]? = some t ∧ r = i) ∨ (r = -1 ∧ ¬ (WhoOk who ∧ t ∈ who))
theorem place_bad {who : List Int} {t : Int} (h : ¬ WhoOk who) : PlaceIs who t (-1) := .inr ⟨rfl, fun k => h k.1⟩
theorem bad_in {who : List Int} {q : Nat} {x : Int} (hx : who[q]? = some x) (h : x < 0 ∨ 16 ≤ x) : ¬ WhoOk who := fun k => by
  have := k.1 x (List.mem_of_getElem? hx); unfold nodeIn at this; omega
theorem bad_twice {who : List Int} {q j : Nat} {x : Int} (hx : who[q]? = some x) (hy : who[j]? = some x) (h : j < q) : ¬ WhoOk who := fun k =>
  apart_of_nodup k.2 (by omega : j ≠ q) hy hx
theorem who_ok {who : List Int} {q : Nat} (h1 : upto nodeIn who q) (h2 : apartTo who q) (hq : who.length ≤ q) : WhoOk who := ⟨upto_all h1 hq, nodup_of_apart h2 hq⟩
theorem place_all {who : List Int} {t : Int} {q : Nat} {r : Int} (h1 : upto nodeIn who q) (h2 : apartTo who q) (h : PlTo who t q r) (hq : who.length ≤ q) : PlaceIs who t r := by
  rcases h with ⟨rfl, hu⟩ | ⟨i, hi, hw, rfl⟩
  · exact .inr ⟨rfl, fun k => upto_all hu hq t k.2 rfl⟩
  · exact .inl ⟨i, who_ok h1 h2 hq, hw, rfl⟩

/-- The place of the lowest node of the first k that has what is asked for; -1: none has. hs: who has it. -/
def LowTo (who : List Int) (hs : List Bool) (k : Nat) (r : Int) : Prop :=
  (r = -1 ∧ ∀ j, j < k → hs[j]? ≠ some true) ∨ (∃ (i : Nat) (x : Int), i < k ∧ hs[i]? = some true ∧ who[i]? = some x ∧ r = i ∧ ∀ j y, j < k → hs[j]? = some true → who[j]? = some y → x ≤ y)
theorem lowTo_zero (who : List Int) (hs : List Bool) : LowTo who hs 0 (-1) := .inl ⟨rfl, fun j hj => by omega⟩
theorem lowTo_skip {who : List Int} {hs : List Bool} {k : Nat} {r : Int} (h : LowTo who hs k r) (hx : hs[k]? = some false) : LowTo who hs (k + 1) r := by
  rcases h with ⟨rfl, hu⟩ | ⟨i, x, hi, h1, h2, rfl, hu⟩
  · refine .inl ⟨rfl, fun j hj => ?_⟩
    by_cases e : j = k
    · subst e; rw [hx]; simp
    · exact hu j (by omega)
  · refine .inr ⟨i, x, by omega, h1, h2, rfl, fun j y hj hj1 hj2 => ?_⟩
    by_cases e : j = k
    · subst e; rw [hx] at hj1; simp at hj1
    · exact hu j y (by omega) hj1 hj2
theorem lowTo_first {who : List Int} {hs : List Bool} {k : Nat} {x : Int} (h : LowTo who hs k (-1)) (hx : hs[k]? = some true) (hw : who[k]? = some x) : LowTo who hs (k + 1) k := by
  rcases h with ⟨_, hu⟩ | ⟨i, x', hi, h1, h2, e, hu⟩
  · refine .inr ⟨k, x, by omega, hx, hw, rfl, fun j y hj hj1 hj2 => ?_⟩
    by_cases e : j = k
    · subst e; rw [hw] at hj2; cases hj2; omega
    · exact absurd hj1 (hu j (by omega))
  · omega
theorem lowTo_less {who : List Int} {hs : List Bool} {k i : Nat} {x y : Int} (h : LowTo who hs k i) (hy : who[i]? = some y) (hx : hs[k]? = some true) (hw : who[k]? = some x) (hlt : x < y) : LowTo who hs (k + 1) k := by
  rcases h with ⟨e, hu⟩ | ⟨i', x', hi, h1, h2, e, hu⟩
  · omega
  · obtain rfl : i' = i := by omega
    rw [hy] at h2; cases h2
    refine .inr ⟨k, x, by omega, hx, hw, rfl, fun j z hj hj1 hj2 => ?_⟩
    by_cases e : j = k
    · subst e; rw [hw] at hj2; cases hj2; omega
    · have := hu j z (by omega) hj1 hj2; omega
theorem lowTo_stay {who : List Int} {hs : List Bool} {k i : Nat} {x y : Int} (h : LowTo who hs k i) (hy : who[i]? = some y) (hw : who[k]? = some x) (hle : y ≤ x) : LowTo who hs (k + 1) i := by
  rcases h with ⟨e, hu⟩ | ⟨i', x', hi, h1, h2, e, hu⟩
  · omega
  · obtain rfl : i' = i := by omega
    rw [hy] at h2; cases h2
    refine .inr ⟨i', y, by omega, h1, hy, rfl, fun j z hj hj1 hj2 => ?_⟩
    by_cases e : j = k
    · subst e; rw [hw] at hj2; cases hj2; omega
    · exact hu j z (by omega) hj1 hj2

/-- The places' table, behind the first k: by node, its place in the list, from 1 on; 0: it is not there. -/
structure PlArr (who : List Int) (k : Nat) (arr : List Int) : Prop where
  len : arr.length = 16
  put : ∀ (i : Nat) (x : Int), i < k → who[i]? = some x → 0 ≤ x ∧ x < 16 ∧ arr[x.toNat]? = some ((i : Int) + 1)
  get : ∀ (p : Nat) (v : Int), arr[p]? = some v → v = 0 ∨ ∃ i : Nat, i < k ∧ v = i + 1 ∧ who[i]? = some (p : Int)
theorem plArr_zero (who : List Int) : PlArr who 0 (List.replicate 16 0) := ⟨rfl, fun i x h => by omega, fun p v h => by
  left; have := List.mem_of_getElem? h; exact List.eq_of_mem_replicate this⟩
theorem plArr_succ {who : List Int} {k p : Nat} {arr : List Int} (h : PlArr who k arr) (hx : who[k]? = some (p : Int)) (hp : p < 16) (h0 : arr[p]? = some 0) : PlArr who (k + 1) (arr.set p ((k : Int) + 1)) := by
  refine ⟨by rw [List.length_set]; exact h.len, fun i x hi hw => ?_, fun p' v hv => ?_⟩
  · by_cases e : i = k
    · subst e; rw [hx] at hw; cases hw
      refine ⟨by omega, by omega, ?_⟩
      rw [Int.toNat_natCast, List.getElem?_set_self (by rw [h.len]; exact hp)]
    · obtain ⟨a, b, c⟩ := h.put i x (by omega) hw
      refine ⟨a, b, ?_⟩
      rw [List.getElem?_set_ne]
      · exact c
      · intro e2; subst e2; rw [c] at h0; simp at h0; omega
  · by_cases e : p' = p
    · subst e
      rw [List.getElem?_set_self (by rw [h.len]; exact hp)] at hv
      cases hv
      exact .inr ⟨k, by omega, rfl, hx⟩
    · rw [List.getElem?_set_ne (fun e2 => e e2.symm)] at hv
      rcases h.get p' v hv with h | ⟨i, hi, a, b⟩
      · exact .inl h
      · exact .inr ⟨i, by omega, a, b⟩
theorem PlArr.apart {who : List Int} {k p : Nat} {arr : List Int} (h : PlArr who k arr) (hx : who[k]? = some (p : Int)) (h0 : arr[p]? = some 0) : upto (fun x => who[k]? ≠ some x) who k := by
  intro j y hj hy e
  rw [hx] at e; cases e
  obtain ⟨_, _, c⟩ := h.put j _ hj hy
  rw [Int.toNat_natCast, h0] at c
  simp at c; omega
theorem PlArr.twice {who : List Int} {k p : Nat} {arr : List Int} {v : Int} (h : PlArr who k arr) (hx : who[k]? = some (p : Int)) (hv : arr[p]? = some v) (h0 : v ≠ 0) : ¬ WhoOk who := by
  rcases h.get p v hv with e | ⟨i, hi, a, b⟩
  · exact absurd e h0
  · exact bad_twice hx b hi
/-- A node in the table: its place. -/
theorem PlArr.here {who : List Int} {arr : List Int} {p : Nat} {v : Int} (h : PlArr who who.length arr) (hv : arr[p]? = some v) (h0 : v ≠ 0) : ∃ i : Nat, v = i + 1 ∧ who[i]? = some (p : Int) ∧ i < who.length := by
  rcases h.get p v hv with e | ⟨i, hi, a, b⟩
  · exact absurd e h0
  · exact ⟨i, a, b, hi⟩
theorem PlArr.gone {who : List Int} {arr : List Int} {p : Nat} (h : PlArr who who.length arr) (hv : arr[p]? = some 0) : (p : Int) ∉ who := fun hm => by
  obtain ⟨i, hi, e⟩ := List.getElem_of_mem hm
  obtain ⟨_, _, c⟩ := h.put i p hi (by rw [List.getElem?_eq_getElem hi, e])
  rw [Int.toNat_natCast, hv] at c; simp at c; omega
end Go.Proofs.Ytcffhfcjfjfokaa
