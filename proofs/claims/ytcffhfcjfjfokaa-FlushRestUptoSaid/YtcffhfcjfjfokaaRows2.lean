/- Contents as they lie in memory. -/
import Derived.Test.YtcffhfcjfjfokaaTwL
namespace Go.Proofs.Ytcffhfcjfjfokaa
open Go.RowKit
/-- A content as it lies in memory: with its lists' places. -/
structure Rw where
  f : Fl
  X : Option Addr
  cX : Nat
  Y : Option Addr
  cY : Nat
def eRw (r : Rw) : List Value := [.int .i64 r.f.e, .int .i64 r.f.l, .int .i64 r.f.i, .int .i64 r.f.c, .int .i64 r.f.base, .slice r.X r.f.slots.length r.cX, .slice r.Y r.f.have_.length r.cY]
theorem len_eRw (x : Rw) : (eRw x).length = 7 := rfl
theorem one_eRw (x : Rw) : ∀ u ∈ eRw x, u.oneCell' = true := by intro u hu; simp [eRw] at hu; rcases hu with rfl | rfl | rfl | rfl | rfl | rfl | rfl <;> rfl
structure Rws (w : World) (N : Nat) (A : Option Addr) (rs : List Rw) : Prop where
  row : RowAt w N 7 eRw A rs
  each : ∀ r ∈ rs, FlRows w N r.f r.X r.cX r.Y r.cY
theorem fls_rows {w : World} {N : Nat} {A : Option Addr} {fs : List Fl} (h : Fls w N A fs) : ∃ rs : List Rw, rs.map Rw.f = fs ∧ Rws w N A rs := by
  by_cases h0 : 0 < fs.length
  · obtain ⟨b, off, hA, hb, hc⟩ := h h0
    have key : ∀ n, n ≤ fs.length → ∃ rs : List Rw, rs.map Rw.f = fs.take n ∧ (∀ k r, rs[k]? = some r → FlAt w N b (off + k * 7) r.f r.X r.cX r.Y r.cY ∧ FlRows w N r.f r.X r.cX r.Y r.cY) := by
      intro n
      induction n with
      | zero => intro _; exact ⟨[], by simp, by intro k r hr; simp at hr⟩
      | succ n ih =>
        intro hn
        obtain ⟨rs, h1, h2⟩ := ih (by omega)
        have hlen : rs.length = n := by have := congrArg List.length h1; simp at this; omega
        obtain ⟨X, cX, Y, cY, h3, h4⟩ := hc n fs[n] (List.getElem?_eq_getElem (by omega))
        refine ⟨rs ++ [⟨fs[n], X, cX, Y, cY⟩], ?_, fun k r hr => ?_⟩
        · rw [List.map_append, h1, List.take_add_one, List.getElem?_eq_getElem (by omega)]; rfl
        · by_cases hk : k < rs.length
          · rw [List.getElem?_append_left hk] at hr; exact h2 k r hr
          · rw [List.getElem?_append_right (by omega)] at hr
            obtain rfl : k = n := by
              have := (List.getElem?_eq_some_iff.1 hr).1; simp at this; omega
            rw [hlen] at hr; simp at hr; subst hr
            exact ⟨h3, h4⟩
    obtain ⟨rs, h1, h2⟩ := key fs.length (Nat.le_refl _)
    rw [List.take_length] at h1
    refine ⟨rs, h1, ⟨fun _ => ⟨b, off, hA, hb, fun k r hr j u hu => ?_⟩, fun r hr => ?_⟩⟩
    · obtain ⟨⟨c0, c1, c2, c3, c4, c5, c6⟩, _⟩ := h2 k r hr
      match j, hu with
      | 0, hu => simp [eRw] at hu; subst hu; exact c0
      | 1, hu => simp [eRw] at hu; subst hu; exact c1
      | 2, hu => simp [eRw] at hu; subst hu; exact c2
      | 3, hu => simp [eRw] at hu; subst hu; exact c3
      | 4, hu => simp [eRw] at hu; subst hu; exact c4
      | 5, hu => simp [eRw] at hu; subst hu; exact c5
      | 6, hu => simp [eRw] at hu; subst hu; exact c6
      | n + 7, hu => simp [eRw] at hu
    · obtain ⟨k, hk⟩ := List.mem_iff_getElem?.1 hr
      exact (h2 k r hk).2
  · have : fs = [] := List.eq_nil_of_length_eq_zero (by omega)
    subst this
    exact ⟨[], rfl, ⟨fun h => absurd h (by simp), by simp⟩⟩
theorem rows_fls {w : World} {N : Nat} {A : Option Addr} {rs : List Rw} (h : Rws w N A rs) : Fls w N A (rs.map Rw.f) := fun h0 => by
  obtain ⟨b, off, hA, hb, hc⟩ := h.row (by simpa using h0)
  refine ⟨b, off, hA, hb, fun k f hf => ?_⟩
  rw [List.getElem?_map] at hf
  cases hr : rs[k]? with
  | none => rw [hr] at hf; cases hf
  | some r =>
    rw [hr] at hf; cases hf
    refine ⟨r.X, r.cX, r.Y, r.cY, ⟨?_, ?_, ?_, ?_, ?_, ?_, ?_⟩, h.each r (List.mem_of_getElem? hr)⟩
    · exact hc k r hr 0 _ rfl
    · exact hc k r hr 1 _ rfl
    · exact hc k r hr 2 _ rfl
    · exact hc k r hr 3 _ rfl
    · exact hc k r hr 4 _ rfl
    · exact hc k r hr 5 _ rfl
    · exact hc k r hr 6 _ rfl
end Go.Proofs.Ytcffhfcjfjfokaa
