/- The document's Sound and Same, for every content. -/
import Derived.Test.YtcffhfcjfjfokaaRef1
import Derived.Test.YtcffhfcjfjfokaaSame
namespace Go.Proofs.Ytcffhfcjfjfokaa
open Go.RowKit
theorem rsound_any (f : Fl) (A B : Option Addr) (cA cB N : Nat) (w : World) (hN : N ≤ w.heap.size) (hr : FlRows w N f A cA B cB) :
    Calls Try.prog 65 #[.agg (flc f.e f.l f.i f.c f.base A f.slots.length cA B f.have_.length cB)] w fun x w' => x = .returned (.bool (soundB f)) ∧ Below w.heap.size w w' := by
  have h1 := hr.lenS; have h2 := hr.capS; have h3 := hr.lenH; have h4 := hr.capH
  by_cases hd : SoundHead f
  · exact rsound_yes f A B cA cB N w hN hr.slots hr.have_ hd
  · exact rsound_no f A B cA cB w (by omega) (by omega) hd
def sameB (f g : Fl) : Bool := decide (f.e = g.e ∧ f.l = g.l ∧ f.i = g.i ∧ f.c = g.c ∧ f.base = g.base ∧ f.slots = g.slots ∧ f.have_ = g.have_)
def SameHead (f g : Fl) : Prop := vidEq f.e f.l f.i f.c g.e g.l g.i g.c = true ∧ f.base = g.base ∧ (f.slots.length : Int) = g.slots.length ∧ (f.have_.length : Int) = g.have_.length
theorem same_head {f g : Fl} (h : ¬ SameHead f g) : false = sameB f g := by
  symm; unfold sameB; rw [decide_eq_false_iff_not]; rintro ⟨a, b, c, d, e, s, k⟩
  exact h ⟨by simp [vidEq, a, b, c, d], e, by rw [s], by rw [k]⟩
set_option maxHeartbeats 2000000 in
theorem same_no (f g : Fl) (A A' B B' : Option Addr) (cA cA' cB cB' : Nat) (w : World)
    (hl1 : f.slots.length ≤ 9223372036854775807) (hl2 : f.have_.length ≤ 9223372036854775807) (hl3 : g.slots.length ≤ 9223372036854775807) (hl4 : g.have_.length ≤ 9223372036854775807) (hd : ¬ SameHead f g) :
    Calls Try.prog 64 #[.agg (flc f.e f.l f.i f.c f.base A f.slots.length cA B f.have_.length cB), .agg (flc g.e g.l g.i g.c g.base A' g.slots.length cA' B' g.have_.length cB')] w
      fun x w' => x = .returned (.bool (sameB f g)) ∧ Below w.heap.size w w' := by
  have hnv := run_neq_vid
  replace hd := Lib.hid hd
  go_enter Try.func64, Try.ntmps64
  go_wp2
  all_goals first | (go_ret; go_light; exact ⟨ret_bool (same_head hd.out), below_box2 _ _ _ _ _⟩) | (exfalso; apply hd.out; refine ⟨by assumption, by assumption, by assumption, ?_⟩; have hlast := ‹((f.have_.length : Int) != (g.have_.length : Int)) = false›; simpa using hlast)
theorem same_any (f g : Fl) (A A' B B' : Option Addr) (cA cA' cB cB' N : Nat) (w : World) (hN : N ≤ w.heap.size) (hr : FlRows w N f A cA B cB) (hr' : FlRows w N g A' cA' B' cB') :
    Calls Try.prog 64 #[.agg (flc f.e f.l f.i f.c f.base A f.slots.length cA B f.have_.length cB), .agg (flc g.e g.l g.i g.c g.base A' g.slots.length cA' B' g.have_.length cB')] w
      fun x w' => x = .returned (.bool (sameB f g)) ∧ Below w.heap.size w w' := by
  obtain ⟨h1, h2, h3, h4, h5, h6⟩ := hr
  obtain ⟨k1, k2, k3, k4, k5, k6⟩ := hr'
  by_cases hd : SameHead f g
  · obtain ⟨e, l, i, c, b, s, h⟩ := f
    obtain ⟨e', l', i', c', b', s', h'⟩ := g
    obtain ⟨d1, d2, d3, d4⟩ := hd
    simp only [vidEq, decide_eq_true_eq] at d1 d2 d3 d4
    obtain ⟨rfl, rfl, rfl, rfl⟩ := d1
    subst d2
    have hs : s'.length = s.length := by omega
    have hh : h'.length = h.length := by omega
    dsimp only at *
    rw [hs, hh]
    refine (same_yes e l i c b s s' h h' A A' B B' cA cA' cB cB' _ _ N w hN h1 k1 h2 k2 (by omega) (by omega) rfl hs rfl hh).mono fun x w' ⟨hx, hb⟩ => ⟨?_, hb⟩
    rw [hx]; exact ret_bool (by simp [sameB])
  · exact same_no f g A A' B B' cA cA' cB cB' w (by omega) (by omega) (by omega) (by omega) hd
end Go.Proofs.Ytcffhfcjfjfokaa
