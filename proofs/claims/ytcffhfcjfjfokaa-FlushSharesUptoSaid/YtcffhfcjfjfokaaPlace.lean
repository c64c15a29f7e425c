/- The document's place. -/
import Derived.Test.YtcffhfcjfjfokaaCut
import Derived.Test.YtcffhfcjfjfokaaWho
namespace Go.Proofs.Ytcffhfcjfjfokaa
open Go.RowKit
theorem RowAt.intAt {w : World} {N g o : Nat} {l : List Int} (h : RowAt w N 1 eInt (some ⟨g, o, none⟩) l) {k : Nat} (hk : k < l.length) : ∃ x, Hid (l[k]? = some x) ∧ w.cell? ⟨g, o + k, none⟩ = some (.int .i64 x) := by
  obtain ⟨b, off, x, e, _, hx, hc⟩ := h.int hk
  injection e with e; injection e with e1 e2; subst e1 e2
  exact ⟨x, hx, hc⟩
set_option maxHeartbeats 2000000 in
theorem place_any (A : Option Addr) (cA N : Nat) (who : List Int) (t : Int) (w : World) (hN : N ≤ w.heap.size) (hA : RowAt w N 1 eInt A who) (hl : who.length ≤ 9223372036854775807) :
    Calls Try.prog 69 #[.slice A who.length cA, .int .i64 t] w fun x w' => (∃ r, x = .returned (.int .i64 r) ∧ PlaceIs who t r) ∧ Below w.heap.size w w' := by
  go_enter Try.func69, Try.ntmps69
  go_wp2
  go_loopw [5, 6] (fun a k wr => ∃ (q : Nat) (r : Int), k = .int .i64 q ∧ a = .int .i64 r ∧ q ≤ who.length ∧ PlTo who t q r ∧ upto nodeIn who q ∧ apartTo who q ∧ Below w.heap.size w wr) (fun _ k _ => who.length - (intOf k).toNat)
  case atStart => exact ⟨0, -1, rfl, rfl, by omega, plTo_zero _ _, upto_zero _ _, apartTo_zero _, Below.refl _ _⟩
  case round =>
    obtain ⟨q, r, rfl, rfl, hq, hpl, hup, hap, hb⟩ := hrel
    replace hpl := Lib.hid hpl
    replace hup := Lib.hid hup
    replace hap := Lib.hid hap
    by_cases hlt : q < who.length
    · obtain ⟨g, o, x, rfl, hg, hx, hc⟩ := (hA.below hb hN).int hlt
      by_cases h0 : x < 0
      · go_wp2
        go_ret
        exact ⟨⟨-1, rfl, place_bad (bad_in hx.out (.inl h0))⟩, hb⟩
      · by_cases h1 : 16 ≤ x
        · go_wp2
          go_ret
          exact ⟨⟨-1, rfl, place_bad (bad_in hx.out (.inr h1))⟩, hb⟩
        · have hup' := Lib.hid (upto_succ (p := nodeIn) hup.out (fun z hz => by rw [hx.out] at hz; cases hz; unfold nodeIn; omega))
          go_wp2
          obtain ⟨wo, hwo⟩ : ∃ wo : World, wo = wr := ⟨_, rfl⟩
          subst hwo
          go_loopw [7] (fun k wr => ∃ j : Nat, k = .int .i64 j ∧ j ≤ q ∧ upto (fun y => who[q]? ≠ some y) who j ∧ Below w.heap.size w wr) (fun k _ => q - (intOf k).toNat)
          case atStart => exact ⟨0, rfl, by omega, upto_zero _ _, hb⟩
          case round =>
            obtain ⟨j, rfl, hj, hja, hb1⟩ := hrel
            replace hja := Lib.hid hja
            have hA1 := hA.below hb1 hN
            obtain ⟨x2, hx2, hc2⟩ := hA1.intAt hlt
            obtain rfl : x = x2 := by have := hx2.out; rw [hx.out] at this; injection this
            have hsz1 := hb1.size
            clear hc
            by_cases hjq : j < q
            · obtain ⟨y, hy, hcy⟩ := hA1.intAt (k := j) (by omega)
              have hjl : j < who.length := by omega
              by_cases hyx : y = x
              · subst hyx
                go_wp2
                go_quiet (fail)
                go_wp2
                go_ret
                exact ⟨⟨-1, rfl, place_bad (bad_twice hx.out hy.out hjq)⟩, below_drewN hb1 _⟩
              · go_wp2
                go_quiet (fail)
                go_wp2
                go_roundw
                case rel => go_light; exact ⟨j + 1, by go_num, by omega, upto_succ hja.out (fun z hz => by rw [hy.out] at hz; cases hz; rw [hx.out]; intro e; injection e with e; exact hyx e.symm), below_drewN hb1 _⟩
                case measure => go_light; simp [intOf]; omega
            · have hap' := Lib.hid (apartTo_succ hap.out (by have : q = j := by omega
                                                             subst this; exact hja.out))
              by_cases hxt : x = t
              · subst hxt
                go_wp2
                go_roundw
                case rel => go_light; exact ⟨q + 1, (q : Int), by go_num, by go_num, by omega, plTo_here hx.out, hup'.out, hap'.out, hb1⟩
                case measure => go_light; simp [intOf]; omega
              · go_wp2
                go_roundw
                case rel => go_light; exact ⟨q + 1, r, by go_num, rfl, by omega, plTo_skip hpl.out hx.out hxt, hup'.out, hap'.out, hb1⟩
                case measure => go_light; simp [intOf]; omega
    · have hq' := Lib.hid (place_all hup.out hap.out hpl.out (by omega))
      go_wp2
      go_ret
      exact ⟨⟨r, rfl, hq'.out⟩, hb⟩
end Go.Proofs.Ytcffhfcjfjfokaa
