/- What the document's Sound and fork answer, for every content. -/
import Derived.Test.YtcffhfcjfjfokaaSmall
namespace Go.Proofs.Ytcffhfcjfjfokaa
open Go.RowKit

set_option maxHeartbeats 2000000 in
theorem rsound_no (f : Fl) (A B : Option Addr) (cA cB : Nat) (w : World)
    (hl1 : f.slots.length ≤ 9223372036854775807) (hl2 : f.have_.length ≤ 9223372036854775807) (hd : ¬ SoundHead f) :
    Calls Try.prog 65 #[.agg (flc f.e f.l f.i f.c f.base A f.slots.length cA B f.have_.length cB)] w fun x w' => x = .returned (.bool (soundB f)) ∧ Below w.heap.size w w' := by
  replace hd := Lib.hid hd
  go_enter Try.func65, Try.ntmps65
  go_wp2_with (first | (go_at_call 99; refine (rwhole_any _ _ _ _ _).mono ?_; rintro e w' ⟨rfl, hbw⟩; rw [World.size_alloc] at hbw; obtain ⟨hb0, hc, -, hsz⟩ := box1_facts hbw))
  all_goals first | (go_ret; go_light; exact ⟨ret_bool (sound_head hd.out), hb0⟩) | (exfalso; exact hd.out ⟨by assumption, by assumption, by assumption, by omega, by assumption, by omega⟩)
set_option maxHeartbeats 4000000 in
theorem rsound_yes (f : Fl) (A B : Option Addr) (cA cB N : Nat) (w : World) (hN : N ≤ w.heap.size)
    (hA : RowAt w N 2 eSlot A f.slots) (hB : RowAt w N 1 eInt B f.have_) (hd : SoundHead f) :
    Calls Try.prog 65 #[.agg (flc f.e f.l f.i f.c f.base A f.slots.length cA B f.have_.length cB)] w fun x w' => x = .returned (.bool (soundB f)) ∧ Below w.heap.size w w' := by
  have hd' := Lib.hid hd
  obtain ⟨h1, h2, h3, h4, h5, h6⟩ := hd
  have heq := run_eql_slot
  go_enter Try.func65, Try.ntmps65
  go_wp2_with (first | (go_at_call 99; refine (rwhole_any _ _ _ _ _).mono ?_; rintro e w' ⟨rfl, hbw⟩; rw [World.size_alloc] at hbw; obtain ⟨hb0, hc, -, hsz⟩ := box1_facts hbw))
  clear hb0 hc hsz
  go_loopw [3] (fun k wr => ∃ q : Nat, k = .int .i64 q ∧ q ≤ f.have_.length ∧ upto (fun x => 0 ≤ x ∧ x ≤ 4611686018427387904) f.have_ q ∧ Below (w.heap.size + 1) (box1 w (flc f.e f.l f.i f.c f.base A f.slots.length cA B f.have_.length cB) 39) wr) (fun k _ => f.have_.length - (intOf k).toNat)
  case atStart => exact ⟨0, rfl, by omega, upto_zero _ _, hbw⟩
  case round =>
    obtain ⟨q, rfl, hq, hup, hb⟩ := hrel
    obtain ⟨hb0, hc, -, hsz⟩ := box1_facts hb
    by_cases hlt : q < f.have_.length
    · obtain ⟨g, o, x, rfl, hg, hx, hk⟩ := (hB.below hb0 hN).int hlt
      clear hA hB
      by_cases hbad : x < 0 ∨ 4611686018427387904 < x
      · have HB := Lib.hid hbad
        clear hbad
        go_wp2
        all_goals first | (go_ret; go_light; exact ⟨ret_bool (unsound_have hx.out HB.out), hb0⟩) | (exfalso; have := HB.out; omega)
      · have hb1 : 0 ≤ x := by omega
        have hb2 : x ≤ 4611686018427387904 := by omega
        clear hbad
        go_wp2
        go_roundw
        case rel => go_light; exact ⟨q + 1, by go_num, by omega, upto_succ hup (fun z hz => by rw [hx.out] at hz; cases hz; exact ⟨hb1, hb2⟩), hb⟩
        case measure => go_light; simp [intOf]; omega
    · go_wp2
      have Hq : Hid (q = f.have_.length) := by show q = _; omega
      clear hlt hq hb0 hc hsz
      go_loopw [4] (fun k wr => ∃ p : Nat, k = .int .i64 p ∧ p ≤ f.slots.length ∧ upto (slotIn f.have_.length) f.slots p ∧ apartTo f.slots p ∧ Below (w.heap.size + 1) (box1 w (flc f.e f.l f.i f.c f.base A f.slots.length cA B f.have_.length cB) 39) wr) (fun k _ => f.slots.length - (intOf k).toNat)
      case atStart => exact ⟨0, rfl, by omega, upto_zero _ _, apartTo_zero _, hb⟩
      case round =>
        obtain ⟨p, rfl, hp, hup2, hap, hb⟩ := hrel
        obtain ⟨hb0, hc, -, hsz⟩ := box1_facts hb
        by_cases hlt : p < f.slots.length
        · obtain ⟨g, o, x, y, rfl, hg, hx, hk, hk2⟩ := (hA.below hb0 hN).slot hlt
          have hgw : g < wr.heap.size := by omega
          by_cases hbad : slotIn f.have_.length (x, y)
          · have HB := Lib.hid hbad
            obtain ⟨i1, i2, i3, i4⟩ := hbad
            simp only at i1 i2 i3 i4
            have hcy : cntB y = true := by simp [cntB]; exact ⟨i3, i4⟩
            go_wp2_with (first | (go_at_call 100; refine (count_any _ _).mono ?_; rintro e w' ⟨rfl, rfl⟩))
            clear hcy
            obtain ⟨wo, rfl⟩ : ∃ wo : World, wo = wr := ⟨_, rfl⟩
            go_loopw [6] (fun k wx => ∃ j : Nat, k = .int .i64 j ∧ j ≤ p ∧ upto (fun z => f.slots[p]? ≠ some z) f.slots j ∧ Below (wo.heap.size + 1) (box1 wo #[.int .i64 x, .int .i64 y] 66) wx) (fun k _ => p - (intOf k).toNat)
            case atStart => exact ⟨0, rfl, by omega, upto_zero _ _, Below.refl _ _⟩
            case round =>
              obtain ⟨j, rfl, hj, hup3, hbx⟩ := hrel
              obtain ⟨hbx0, hcx, -, hszx⟩ := box1_facts hbx
              have hb' := hb.trans (hbx0.mono hsz)
              obtain ⟨hb0', hc', -, hsz'⟩ := box1_facts hb'
              by_cases hjp : j < p
              · obtain ⟨g', o', x', y', hgo, hg', hx', hk', hk2'⟩ := (hA.below hb0' hN).slot (k := j) (by omega)
                obtain ⟨rfl, rfl⟩ : g = g' ∧ o = o' := by simpa using hgo
                clear hgo
                have hgw' : g < wr.heap.size := by have := hbx0.size; omega
                have hjl : j < f.slots.length := by omega
                clear hA hB hc hsz hb0 hk hk2
                go_wp2
                go_quiet (fail)
                go_wp2
                · go_ret
                  go_light
                  exact ⟨ret_bool (unsound_twice hx.out hx'.out hjp (by assumption)), below_drewN hb0' _⟩
                · go_roundw
                  case rel => go_light; exact ⟨j + 1, by go_num, by omega, upto_succ hup3 (fun z hz => by rw [hx'.out] at hz; cases hz; rw [hx.out]; intro he; cases he; rename_i hno; simp [slotEq] at hno), below_drewN hbx _⟩
                  case measure => go_light; simp [intOf]; omega
              · clear hA hB hc hsz hb0 hk hk2
                go_wp2
                go_roundw
                case rel => go_light; exact ⟨p + 1, by go_num, by omega, upto_succ hup2 (fun z hz => by rw [hx.out] at hz; cases hz; exact HB.out), apartTo_succ hap (fun i z hi hz => hup3 i z (by omega) hz), hb'⟩
                case measure => go_light; simp [intOf]; omega
          · have HB := Lib.hid hbad
            clear hbad
            have hno : ∀ h : 0 ≤ x, x < (f.have_.length : Int) → (!cntB y) = false → False := by
              intro a b c; apply HB.out; simp [cntB] at c; exact ⟨a, b, c.1, c.2⟩
            have HN := Lib.hid hno
            clear hno
            go_wp2_with (first | (go_at_call 100; refine (count_any _ _).mono ?_; rintro e w' ⟨rfl, rfl⟩))
            all_goals first | (go_ret; go_light; exact ⟨ret_bool (unsound_slot hx.out HB.out), (hb0.alloc (by omega) _)⟩) | (exfalso; rename_i hlast; exact HN.out hlast.1.1 hlast.1.2 hlast.2)
        · go_wp2
          go_ret
          go_light
          exact ⟨ret_bool (sound_all hd'.out (by have := Hq.out; omega) (by omega) hup hup2 hap), hb0⟩

set_option maxHeartbeats 2000000 in
theorem fork_any (f g : Fl) (A A' B B' : Option Addr) (cA cA' cB cB' N : Nat) (w : World) (hN : N ≤ w.heap.size)
    (hA : RowAt w N 2 eSlot A f.slots) (hA' : RowAt w N 2 eSlot A' g.slots)
    (hf0 : 0 ≤ f.base) (hf1 : f.base ≤ 4611686018427387904) (hg0 : 0 ≤ g.base) (hg1 : g.base ≤ 4611686018427387904) (hfl : f.slots.length ≤ 128) (hgl : g.slots.length ≤ 128) :
    Calls Try.prog 66 #[.agg (flc f.e f.l f.i f.c f.base A f.slots.length cA B f.have_.length cB), .agg (flc g.e g.l g.i g.c g.base A' g.slots.length cA' B' g.have_.length cB')] w
      fun x w' => x = .returned (.bool (forkB f g)) ∧ Below w.heap.size w w' := by
  have heq := run_eql_slot
  go_enter Try.func66, Try.ntmps66
  go_wp2
  go_loopw [5] (fun k wr => ∃ q : Nat, k = .int .i64 q ∧ q ≤ f.slots.length ∧ (∀ i, i < q → calmAt f g i g.slots.length) ∧ Below (w.heap.size + 2) (box2 w (flc f.e f.l f.i f.c f.base A f.slots.length cA B f.have_.length cB) 39 (flc g.e g.l g.i g.c g.base A' g.slots.length cA' B' g.have_.length cB') 39) wr) (fun k _ => f.slots.length - (intOf k).toNat)
  case atStart => exact ⟨0, rfl, by omega, by intro i hi; omega, Below.refl _ _⟩
  case round =>
    obtain ⟨q, rfl, hq, hcalm, hb⟩ := hrel
    obtain ⟨hbw, hc, hc', -, -, hsz, hsz2⟩ := box2_facts hb
    by_cases hlt : q < f.slots.length
    · go_wp2
      clear hbw hc hc' hsz hsz2
      go_loopw [6] (fun k wr => ∃ p : Nat, k = .int .i64 p ∧ p ≤ g.slots.length ∧ calmAt f g q p ∧ Below (w.heap.size + 2) (box2 w (flc f.e f.l f.i f.c f.base A f.slots.length cA B f.have_.length cB) 39 (flc g.e g.l g.i g.c g.base A' g.slots.length cA' B' g.have_.length cB') 39) wr) (fun k _ => g.slots.length - (intOf k).toNat)
      case atStart => exact ⟨0, rfl, by omega, by intro j s t hj; omega, hb⟩
      case round =>
        obtain ⟨p, rfl, hp, hcp, hb⟩ := hrel
        obtain ⟨hbw, hc, hc', -, -, hsz, hsz2⟩ := box2_facts hb
        by_cases hltp : p < g.slots.length
        · obtain ⟨g1, o1, x, y, rfl, hg1, hx1, k1, k2⟩ := (hA.below hbw hN).slot hlt
          obtain ⟨g2, o2, x', y', rfl, hg2, hx2, k3, k4⟩ := (hA'.below hbw hN).slot hltp
          have hw1 : g1 < wr.heap.size := by omega
          have hw2 : g2 < wr.heap.size := by omega
          have HC := Lib.hid hcalm
          clear hA hA' hcalm
          go_wp2
          go_quiet (fail)
          go_wp2
          · go_ret
            go_light
            exact ⟨ret_bool (forkB_yes hx1.out hx2.out (by assumption)), below_drewN hbw _⟩
          · go_roundw
            case rel => go_light; exact ⟨p + 1, by go_num, by omega, calmAt_succ hcp hx1.out hx2.out (by assumption), below_drewN hb _⟩
            case measure => go_light; simp [intOf]; omega
        · go_wp2
          go_roundw
          case rel =>
            go_light
            refine ⟨q + 1, by go_num, by omega, fun i hi => ?_, hb⟩
            by_cases hiq : i = q
            · subst hiq
              have hpe : p = g.slots.length := by omega
              rw [← hpe]; exact hcp
            · exact hcalm i (by omega)
          case measure => go_light; simp [intOf]; omega
    · go_wp2
      go_ret
      go_light
      exact ⟨ret_bool (forkB_no hcalm (by omega)), hbw⟩
end Go.Proofs.Ytcffhfcjfjfokaa
