/- Ref1 Same Mid Rtog Had At Whole End Cut, joined. -/
import Derived.StillTailTactics
import Derived.Test.YtcffhfcjfjfokaaSh3
set_option linter.unusedVariables false
set_option linter.unusedSimpArgs false
/- What the document's Sound and fork answer, for every content. -/
namespace Go.Proofs.Ytcffhfcjfjfokaa
open Go.RowKit

set_option maxHeartbeats 2000000 in
theorem rsound_no (f : Fl) (A B : Option Addr) (cA cB : Nat) (w : World)
    (hl1 : f.slots.length ≤ 9223372036854775807) (hl2 : f.have_.length ≤ 9223372036854775807) (hd : ¬ SoundHead f) :
    Calls Try.prog 65 #[.agg (flc f.e f.l f.i f.c f.base A f.slots.length cA B f.have_.length cB)] w fun x w' => x = .returned (.bool (soundB f)) ∧ Below w.heap.size w w' := by
  replace hd := Lib.hid hd
  go_enter Try.func65, Try.ntmps65
  go_wp2_with (first | (go_at_call 99; refine (rwhole_any _ _ _ _ _).mono ?_; rintro e w' ⟨rfl, hbw⟩; rw [World.size_alloc] at hbw; obtain ⟨hb0, hc, -, hsz⟩ := box1_facts hbw))
  all_goals first | (go_ret; go_light; exact ⟨ret_bool (sound_head hd.out), hb0⟩) | (exfalso; exact hd.out ⟨by assumption, by assumption, by assumption, by omega, by assumption, by omega⟩)
set_option maxHeartbeats 4000000 in
theorem rsound_yes (f : Fl) (A B : Option Addr) (cA cB N : Nat) (w : World) (hN : N ≤ w.heap.size)
    (hA : RowAt w N 2 eSlot A f.slots) (hB : RowAt w N 1 eInt B f.have_) (hd : SoundHead f) :
    Calls Try.prog 65 #[.agg (flc f.e f.l f.i f.c f.base A f.slots.length cA B f.have_.length cB)] w fun x w' => x = .returned (.bool (soundB f)) ∧ Below w.heap.size w w' := by
  have hd' := Lib.hid hd
  obtain ⟨h1, h2, h3, h4, h5, h6⟩ := hd
  have heq := run_eql_slot
  go_enter Try.func65, Try.ntmps65
  go_wp2_with (first | (go_at_call 99; refine (rwhole_any _ _ _ _ _).mono ?_; rintro e w' ⟨rfl, hbw⟩; rw [World.size_alloc] at hbw; obtain ⟨hb0, hc, -, hsz⟩ := box1_facts hbw))
  clear hb0 hc hsz
  go_loopw [3] (fun k wr => ∃ q : Nat, k = .int .i64 q ∧ q ≤ f.have_.length ∧ upto (fun x => 0 ≤ x ∧ x ≤ 4611686018427387904) f.have_ q ∧ Below (w.heap.size + 1) (box1 w (flc f.e f.l f.i f.c f.base A f.slots.length cA B f.have_.length cB) 39) wr) (fun k _ => f.have_.length - (intOf k).toNat)
  case atStart => exact ⟨0, rfl, by omega, upto_zero _ _, hbw⟩
  case round =>
    obtain ⟨q, rfl, hq, hup, hb⟩ := hrel
    obtain ⟨hb0, hc, -, hsz⟩ := box1_facts hb
    by_cases hlt : q < f.have_.length
    · obtain ⟨g, o, x, rfl, hg, hx, hk⟩ := (hB.below hb0 hN).int hlt
      clear hA hB
      by_cases hbad : x < 0 ∨ 4611686018427387904 < x
      · have HB := Lib.hid hbad
        clear hbad
        go_wp2
        all_goals first | (go_ret; go_light; exact ⟨ret_bool (unsound_have hx.out HB.out), hb0⟩) | (exfalso; have := HB.out; omega)
      · have hb1 : 0 ≤ x := by omega
        have hb2 : x ≤ 4611686018427387904 := by omega
        clear hbad
        go_wp2
        go_roundw
        case rel => go_light; exact ⟨q + 1, by go_num, by omega, upto_succ hup (fun z hz => by rw [hx.out] at hz; cases hz; exact ⟨hb1, hb2⟩), hb⟩
        case measure => go_light; simp [intOf]; omega
    · go_wp2
      have Hq : Hid (q = f.have_.length) := by show q = _; omega
      clear hlt hq hb0 hc hsz
      go_loopw [4] (fun k wr => ∃ p : Nat, k = .int .i64 p ∧ p ≤ f.slots.length ∧ upto (slotIn f.have_.length) f.slots p ∧ apartTo f.slots p ∧ Below (w.heap.size + 1) (box1 w (flc f.e f.l f.i f.c f.base A f.slots.length cA B f.have_.length cB) 39) wr) (fun k _ => f.slots.length - (intOf k).toNat)
      case atStart => exact ⟨0, rfl, by omega, upto_zero _ _, apartTo_zero _, hb⟩
      case round =>
        obtain ⟨p, rfl, hp, hup2, hap, hb⟩ := hrel
        obtain ⟨hb0, hc, -, hsz⟩ := box1_facts hb
        by_cases hlt : p < f.slots.length
        · obtain ⟨g, o, x, y, rfl, hg, hx, hk, hk2⟩ := (hA.below hb0 hN).slot hlt
          have hgw : g < wr.heap.size := by omega
          by_cases hbad : slotIn f.have_.length (x, y)
          · have HB := Lib.hid hbad
            obtain ⟨i1, i2, i3, i4⟩ := hbad
            simp only at i1 i2 i3 i4
            have hcy : cntB y = true := by simp [cntB]; exact ⟨i3, i4⟩
            go_wp2_with (first | (go_at_call 100; refine (count_any _ _).mono ?_; rintro e w' ⟨rfl, rfl⟩))
            clear hcy
            obtain ⟨wo, rfl⟩ : ∃ wo : World, wo = wr := ⟨_, rfl⟩
            go_loopw [6] (fun k wx => ∃ j : Nat, k = .int .i64 j ∧ j ≤ p ∧ upto (fun z => f.slots[p]? ≠ some z) f.slots j ∧ Below (wo.heap.size + 1) (box1 wo #[.int .i64 x, .int .i64 y] 66) wx) (fun k _ => p - (intOf k).toNat)
            case atStart => exact ⟨0, rfl, by omega, upto_zero _ _, Below.refl _ _⟩
            case round =>
              obtain ⟨j, rfl, hj, hup3, hbx⟩ := hrel
              obtain ⟨hbx0, hcx, -, hszx⟩ := box1_facts hbx
              have hb' := hb.trans (hbx0.mono hsz)
              obtain ⟨hb0', hc', -, hsz'⟩ := box1_facts hb'
              by_cases hjp : j < p
              · obtain ⟨g', o', x', y', hgo, hg', hx', hk', hk2'⟩ := (hA.below hb0' hN).slot (k := j) (by omega)
                obtain ⟨rfl, rfl⟩ : g = g' ∧ o = o' := by simpa using hgo
                clear hgo
                have hgw' : g < wr.heap.size := by have := hbx0.size; omega
                have hjl : j < f.slots.length := by omega
                clear hA hB hc hsz hb0 hk hk2
                go_wp2
                go_quiet (fail)
                go_wp2
                · go_ret
                  go_light
                  exact ⟨ret_bool (unsound_twice hx.out hx'.out hjp (by assumption)), below_drewN hb0' _⟩
                · go_roundw
                  case rel => go_light; exact ⟨j + 1, by go_num, by omega, upto_succ hup3 (fun z hz => by rw [hx'.out] at hz; cases hz; rw [hx.out]; intro he; cases he; rename_i hno; simp [slotEq] at hno), below_drewN hbx _⟩
                  case measure => go_light; simp [intOf]; omega
              · clear hA hB hc hsz hb0 hk hk2
                go_wp2
                go_roundw
                case rel => go_light; exact ⟨p + 1, by go_num, by omega, upto_succ hup2 (fun z hz => by rw [hx.out] at hz; cases hz; exact HB.out), apartTo_succ hap (fun i z hi hz => hup3 i z (by omega) hz), hb'⟩
                case measure => go_light; simp [intOf]; omega
          · have HB := Lib.hid hbad
            clear hbad
            have hno : ∀ h : 0 ≤ x, x < (f.have_.length : Int) → (!cntB y) = false → False := by
              intro a b c; apply HB.out; simp [cntB] at c; exact ⟨a, b, c.1, c.2⟩
            have HN := Lib.hid hno
            clear hno
            go_wp2_with (first | (go_at_call 100; refine (count_any _ _).mono ?_; rintro e w' ⟨rfl, rfl⟩))
            all_goals first | (go_ret; go_light; exact ⟨ret_bool (unsound_slot hx.out HB.out), (hb0.alloc (by omega) _)⟩) | (exfalso; rename_i hlast; exact HN.out hlast.1.1 hlast.1.2 hlast.2)
        · go_wp2
          go_ret
          go_light
          exact ⟨ret_bool (sound_all hd'.out (by have := Hq.out; omega) (by omega) hup hup2 hap), hb0⟩

set_option maxHeartbeats 2000000 in
theorem fork_any (f g : Fl) (A A' B B' : Option Addr) (cA cA' cB cB' N : Nat) (w : World) (hN : N ≤ w.heap.size)
    (hA : RowAt w N 2 eSlot A f.slots) (hA' : RowAt w N 2 eSlot A' g.slots)
    (hf0 : 0 ≤ f.base) (hf1 : f.base ≤ 4611686018427387904) (hg0 : 0 ≤ g.base) (hg1 : g.base ≤ 4611686018427387904) (hfl : f.slots.length ≤ 128) (hgl : g.slots.length ≤ 128) :
    Calls Try.prog 66 #[.agg (flc f.e f.l f.i f.c f.base A f.slots.length cA B f.have_.length cB), .agg (flc g.e g.l g.i g.c g.base A' g.slots.length cA' B' g.have_.length cB')] w
      fun x w' => x = .returned (.bool (forkB f g)) ∧ Below w.heap.size w w' := by
  have heq := run_eql_slot
  go_enter Try.func66, Try.ntmps66
  go_wp2
  go_loopw [5] (fun k wr => ∃ q : Nat, k = .int .i64 q ∧ q ≤ f.slots.length ∧ (∀ i, i < q → calmAt f g i g.slots.length) ∧ Below (w.heap.size + 2) (box2 w (flc f.e f.l f.i f.c f.base A f.slots.length cA B f.have_.length cB) 39 (flc g.e g.l g.i g.c g.base A' g.slots.length cA' B' g.have_.length cB') 39) wr) (fun k _ => f.slots.length - (intOf k).toNat)
  case atStart => exact ⟨0, rfl, by omega, by intro i hi; omega, Below.refl _ _⟩
  case round =>
    obtain ⟨q, rfl, hq, hcalm, hb⟩ := hrel
    obtain ⟨hbw, hc, hc', -, -, hsz, hsz2⟩ := box2_facts hb
    by_cases hlt : q < f.slots.length
    · go_wp2
      clear hbw hc hc' hsz hsz2
      go_loopw [6] (fun k wr => ∃ p : Nat, k = .int .i64 p ∧ p ≤ g.slots.length ∧ calmAt f g q p ∧ Below (w.heap.size + 2) (box2 w (flc f.e f.l f.i f.c f.base A f.slots.length cA B f.have_.length cB) 39 (flc g.e g.l g.i g.c g.base A' g.slots.length cA' B' g.have_.length cB') 39) wr) (fun k _ => g.slots.length - (intOf k).toNat)
      case atStart => exact ⟨0, rfl, by omega, by intro j s t hj; omega, hb⟩
      case round =>
        obtain ⟨p, rfl, hp, hcp, hb⟩ := hrel
        obtain ⟨hbw, hc, hc', -, -, hsz, hsz2⟩ := box2_facts hb
        by_cases hltp : p < g.slots.length
        · obtain ⟨g1, o1, x, y, rfl, hg1, hx1, k1, k2⟩ := (hA.below hbw hN).slot hlt
          obtain ⟨g2, o2, x', y', rfl, hg2, hx2, k3, k4⟩ := (hA'.below hbw hN).slot hltp
          have hw1 : g1 < wr.heap.size := by omega
          have hw2 : g2 < wr.heap.size := by omega
          have HC := Lib.hid hcalm
          clear hA hA' hcalm
          go_wp2
          go_quiet (fail)
          go_wp2
          · go_ret
            go_light
            exact ⟨ret_bool (forkB_yes hx1.out hx2.out (by assumption)), below_drewN hbw _⟩
          · go_roundw
            case rel => go_light; exact ⟨p + 1, by go_num, by omega, calmAt_succ hcp hx1.out hx2.out (by assumption), below_drewN hb _⟩
            case measure => go_light; simp [intOf]; omega
        · go_wp2
          go_roundw
          case rel =>
            go_light
            refine ⟨q + 1, by go_num, by omega, fun i hi => ?_, hb⟩
            by_cases hiq : i = q
            · subst hiq
              have hpe : p = g.slots.length := by omega
              rw [← hpe]; exact hcp
            · exact hcalm i (by omega)
          case measure => go_light; simp [intOf]; omega
    · go_wp2
      go_ret
      go_light
      exact ⟨ret_bool (forkB_no hcalm (by omega)), hbw⟩
end Go.Proofs.Ytcffhfcjfjfokaa
/- Whether two contents are alike, and the greatest base: what the law's and the document's small loops answer. -/
namespace Go.Proofs.Ytcffhfcjfjfokaa
open Go.RowKit

theorem same_ne1 {s s' : List (Int × Int)} {h h' : List Int} {q : Nat} {x y x' y' : Int} (h1 : s[q]? = some (x, y)) (h2 : s'[q]? = some (x', y')) (hn : (!slotEq x y x' y') = true) : false = decide (s = s' ∧ h = h') := by
  symm; rw [decide_eq_false_iff_not]; rintro ⟨rfl, _⟩
  rw [h1] at h2; cases h2
  simp [slotEq] at hn
theorem same_ne2 {s s' : List (Int × Int)} {h h' : List Int} {q : Nat} {x x' : Int} (h1 : h[q]? = some x) (h2 : h'[q]? = some x') (hn : (x != x') = true) : false = decide (s = s' ∧ h = h') := by
  symm; rw [decide_eq_false_iff_not]; rintro ⟨_, rfl⟩
  rw [h1] at h2; cases h2
  simp at hn
set_option maxHeartbeats 2000000 in
theorem same_yes (e l i c b : Int) (s s' : List (Int × Int)) (h h' : List Int) (A A' B B' : Option Addr) (cA cA' cB cB' n m N : Nat) (w : World) (hN : N ≤ w.heap.size)
    (hA : RowAt w N 2 eSlot A s) (hA' : RowAt w N 2 eSlot A' s') (hB : RowAt w N 1 eInt B h) (hB' : RowAt w N 1 eInt B' h') (hl1 : n ≤ 9223372036854775807) (hl2 : m ≤ 9223372036854775807)
    (hn : s.length = n) (hn' : s'.length = n) (hm : h.length = m) (hm' : h'.length = m) :
  Calls Try.prog 64 #[.agg (flc e l i c b A n cA B m cB), .agg (flc e l i c b A' n cA' B' m cB')] w
    fun e w' => e = .returned (.bool (decide (s = s' ∧ h = h'))) ∧ Below w.heap.size w w' := by
  have hne := run_neq_slot
  have hnv := run_neq_vid
  have hve : vidEq e l i c e l i c = true := by simp [vidEq]
  replace hn := Lib.hid hn
  replace hn' := Lib.hid hn'
  replace hm := Lib.hid hm
  replace hm' := Lib.hid hm'
  go_enter Try.func64, Try.ntmps64
  go_wp2
  clear hve
  go_loopw [5] (fun k wr => ∃ q : Nat, k = .int .i64 q ∧ q ≤ n ∧ agree s s' q ∧ Below (w.heap.size + 2) (box2 w (flc e l i c b A n cA B m cB) 39 (flc e l i c b A' n cA' B' m cB') 39) wr) (fun k _ => n - (intOf k).toNat)
  case atStart => exact ⟨0, rfl, by omega, agree_zero _ _, Below.refl _ _⟩
  case round =>
    obtain ⟨q, rfl, hq, hag, hb⟩ := hrel
    obtain ⟨hbw, hc, hc', -, -, hsz⟩ := box2_facts hb
    by_cases hlt : q < n
    · obtain ⟨g1, o1, x, y, rfl, hg1, hx1, k1, k2⟩ := (hA.below hbw hN).slot (k := q) (by rw [hn.out]; exact hlt)
      obtain ⟨g2, o2, x', y', rfl, hg2, hx2, k3, k4⟩ := (hA'.below hbw hN).slot (k := q) (by rw [hn'.out]; exact hlt)
      clear hA hA' hB hB'
      go_wp2
      go_quiet (fail)
      go_wp2
      · go_ret
        go_light
        exact ⟨ret_bool (same_ne1 hx1.out hx2.out (by assumption)), below_drewN hbw _⟩
      · go_roundw
        case rel => go_light; exact ⟨q + 1, by go_num, by omega, agree_succ hag (by rw [hx1.out, hx2.out]; have := slotEq_iff (s := (x, y)) (t := (x', y')); simp_all), below_drewN hb _⟩
        case measure => go_light; simp [intOf]; omega
    · go_wp2
      have Hq : Hid (q = n) := by show q = n; omega
      clear hlt hq hbw hc hc' hsz
      go_loopw [6] (fun k wr => ∃ q : Nat, k = .int .i64 q ∧ q ≤ m ∧ agree h h' q ∧ Below (w.heap.size + 2) (box2 w (flc e l i c b A n cA B m cB) 39 (flc e l i c b A' n cA' B' m cB') 39) wr) (fun k _ => m - (intOf k).toNat)
      case atStart => exact ⟨0, rfl, by omega, agree_zero _ _, hb⟩
      case round =>
        obtain ⟨q', rfl, hq', hag', hb⟩ := hrel
        obtain ⟨hbw, hc, hc', -, -, hsz⟩ := box2_facts hb
        by_cases hlt : q' < m
        · obtain ⟨g1, o1, x, rfl, hg1, hx1, k1⟩ := (hB.below hbw hN).int (k := q') (by rw [hm.out]; exact hlt)
          obtain ⟨g2, o2, x', rfl, hg2, hx2, k2⟩ := (hB'.below hbw hN).int (k := q') (by rw [hm'.out]; exact hlt)
          clear hA hA' hB hB'
          go_wp2
          go_quiet (fail)
          go_wp2
          · go_ret
            go_light
            exact ⟨ret_bool (same_ne2 hx1.out hx2.out (by assumption)), below_drewN hbw _⟩
          · go_roundw
            case rel => go_light; exact ⟨q' + 1, by go_num, by omega, agree_succ hag' (by rw [hx1.out, hx2.out]; simp_all), below_drewN hb _⟩
            case measure => go_light; simp [intOf]; omega
        · go_wp2
          go_ret
          go_light
          exact ⟨ret_bool (by symm; rw [decide_eq_true_eq]; exact ⟨agree_all hag (by rw [hn.out, Hq.out]) (by rw [hn'.out, Hq.out]), agree_all hag' (by rw [hm.out]; omega) (by rw [hm'.out]; omega)⟩), hbw⟩

set_option maxHeartbeats 2000000 in
theorem base_any (A : Option Addr) (cA N : Nat) (fs : List Fl) (w : World) (hA : Fls w N A fs) (hl : fs.length ≤ 9223372036854775807) :
    Calls Try.prog 30 #[.slice A fs.length cA] w fun x w' => x = .returned (.int .i64 (baseOf fs)) ∧ w = w' := by
  go_enter Try.func30, Try.ntmps30
  go_wp2
  go_loop [3, 4] (fun b k => ∃ q : Nat, k = .int .i64 q ∧ q ≤ fs.length ∧ b = .int .i64 (baseTo fs q)) (fun _ k => fs.length - (intOf k).toNat)
  case atStart => exact ⟨0, rfl, by omega, by simp [baseTo]⟩
  case round =>
    obtain ⟨q, rfl, hq, rfl⟩ := hrel
    by_cases hlt : q < fs.length
    · obtain ⟨g, o, f, X, cX, Y, cY, rfl, hg, hf, ⟨c0, c1, c2, c3, c4, c5, c6⟩, -⟩ := hA.at_ hlt
      clear hA
      go_wp2
      all_goals
        go_round
        case rel => go_light; exact ⟨q + 1, by go_num, by omega, by rw [baseTo_succ hf.out]; first | rw [if_pos (by assumption)] | rw [if_neg (by omega)]⟩
        case measure => go_light; simp [intOf]; omega
    · go_wp2
      go_ret
      go_light
      exact ⟨ret_int (by rw [baseTo_all fs (by omega)]), rfl⟩
end Go.Proofs.Ytcffhfcjfjfokaa
/- The document's Sound and Same, for every content. -/
namespace Go.Proofs.Ytcffhfcjfjfokaa
open Go.RowKit
theorem rsound_any (f : Fl) (A B : Option Addr) (cA cB N : Nat) (w : World) (hN : N ≤ w.heap.size) (hr : FlRows w N f A cA B cB) :
    Calls Try.prog 65 #[.agg (flc f.e f.l f.i f.c f.base A f.slots.length cA B f.have_.length cB)] w fun x w' => x = .returned (.bool (soundB f)) ∧ Below w.heap.size w w' := by
  have h1 := hr.lenS; have h2 := hr.capS; have h3 := hr.lenH; have h4 := hr.capH
  by_cases hd : SoundHead f
  · exact rsound_yes f A B cA cB N w hN hr.slots hr.have_ hd
  · exact rsound_no f A B cA cB w (by omega) (by omega) hd
def sameB (f g : Fl) : Bool := decide (f.e = g.e ∧ f.l = g.l ∧ f.i = g.i ∧ f.c = g.c ∧ f.base = g.base ∧ f.slots = g.slots ∧ f.have_ = g.have_)
def SameHead (f g : Fl) : Prop := vidEq f.e f.l f.i f.c g.e g.l g.i g.c = true ∧ f.base = g.base ∧ (f.slots.length : Int) = g.slots.length ∧ (f.have_.length : Int) = g.have_.length
theorem same_head {f g : Fl} (h : ¬ SameHead f g) : false = sameB f g := by
  symm; unfold sameB; rw [decide_eq_false_iff_not]; rintro ⟨a, b, c, d, e, s, k⟩
  exact h ⟨by simp [vidEq, a, b, c, d], e, by rw [s], by rw [k]⟩
set_option maxHeartbeats 2000000 in
theorem same_no (f g : Fl) (A A' B B' : Option Addr) (cA cA' cB cB' : Nat) (w : World)
    (hl1 : f.slots.length ≤ 9223372036854775807) (hl2 : f.have_.length ≤ 9223372036854775807) (hl3 : g.slots.length ≤ 9223372036854775807) (hl4 : g.have_.length ≤ 9223372036854775807) (hd : ¬ SameHead f g) :
    Calls Try.prog 64 #[.agg (flc f.e f.l f.i f.c f.base A f.slots.length cA B f.have_.length cB), .agg (flc g.e g.l g.i g.c g.base A' g.slots.length cA' B' g.have_.length cB')] w
      fun x w' => x = .returned (.bool (sameB f g)) ∧ Below w.heap.size w w' := by
  have hnv := run_neq_vid
  replace hd := Lib.hid hd
  go_enter Try.func64, Try.ntmps64
  go_wp2
  all_goals first | (go_ret; go_light; exact ⟨ret_bool (same_head hd.out), below_box2 _ _ _ _ _⟩) | (exfalso; apply hd.out; refine ⟨by assumption, by assumption, by assumption, ?_⟩; have hlast := ‹((f.have_.length : Int) != (g.have_.length : Int)) = false›; simpa using hlast)
theorem same_any (f g : Fl) (A A' B B' : Option Addr) (cA cA' cB cB' N : Nat) (w : World) (hN : N ≤ w.heap.size) (hr : FlRows w N f A cA B cB) (hr' : FlRows w N g A' cA' B' cB') :
    Calls Try.prog 64 #[.agg (flc f.e f.l f.i f.c f.base A f.slots.length cA B f.have_.length cB), .agg (flc g.e g.l g.i g.c g.base A' g.slots.length cA' B' g.have_.length cB')] w
      fun x w' => x = .returned (.bool (sameB f g)) ∧ Below w.heap.size w w' := by
  obtain ⟨h1, h2, h3, h4, h5, h6⟩ := hr
  obtain ⟨k1, k2, k3, k4, k5, k6⟩ := hr'
  by_cases hd : SameHead f g
  · obtain ⟨e, l, i, c, b, s, h⟩ := f
    obtain ⟨e', l', i', c', b', s', h'⟩ := g
    obtain ⟨d1, d2, d3, d4⟩ := hd
    simp only [vidEq, decide_eq_true_eq] at d1 d2 d3 d4
    obtain ⟨rfl, rfl, rfl, rfl⟩ := d1
    subst d2
    have hs : s'.length = s.length := by omega
    have hh : h'.length = h.length := by omega
    dsimp only at *
    rw [hs, hh]
    refine (same_yes e l i c b s s' h h' A A' B B' cA cA' cB cB' _ _ N w hN h1 k1 h2 k2 (by omega) (by omega) rfl hs rfl hh).mono fun x w' ⟨hx, hb⟩ => ⟨?_, hb⟩
    rw [hx]; exact ret_bool (by simp [sameB])
  · exact same_no f g A A' B B' cA cA' cB cB' w (by omega) (by omega) (by omega) (by omega) hd
end Go.Proofs.Ytcffhfcjfjfokaa
/- What the document's Together answers. -/
namespace Go.Proofs.Ytcffhfcjfjfokaa
open Go.RowKit
/-- Prev and the lists' lengths are those of the first. -/
def kinB (f g : Fl) : Bool := vidEq f.e f.l f.i f.c g.e g.l g.i g.c && decide (f.have_.length = g.have_.length)
/-- Do contents of a list contradict one another? -/
def ClashIn (fs : List Fl) : Prop := ∃ (i j : Nat) (f g : Fl), j < i ∧ fs[i]? = some f ∧ fs[j]? = some g ∧ Clash f g
/-- The error of contents that do not go together, as a relation. -/
inductive Together (fs : List Fl) : Int → Prop
  | arg (h : ∃ f ∈ fs, ¬ Sound f) : Together fs 1
  | prev (h : ∀ f ∈ fs, Sound f) (h2 : ∃ f g, fs[0]? = some g ∧ f ∈ fs ∧ kinB f g = false) : Together fs 80
  | fork (h : ∀ f ∈ fs, Sound f) (h2 : ∀ f ∈ fs, ∀ g, fs[0]? = some g → kinB f g = true) (h3 : ClashIn fs) : Together fs 82
  | ok (h : ∀ f ∈ fs, Sound f) (h2 : ∀ f ∈ fs, ∀ g, fs[0]? = some g → kinB f g = true) (h3 : ¬ ClashIn fs) : Together fs 0
/-- The first k contents do not contradict one another; the p-th none of the first k. -/
def calmTo (fs : List Fl) (k : Nat) : Prop := ∀ i j f g, j < i → i < k → fs[i]? = some f → fs[j]? = some g → ¬ Clash f g
def calmWith (fs : List Fl) (p k : Nat) : Prop := ∀ j f g, j < k → fs[p]? = some f → fs[j]? = some g → ¬ Clash f g
theorem calmTo_zero (fs : List Fl) : calmTo fs 0 := by intro i j f g _ h; omega
theorem calmWith_zero (fs : List Fl) (p : Nat) : calmWith fs p 0 := by intro j f g h; omega
theorem calmTo_all {fs : List Fl} {k : Nat} (h : calmTo fs k) (hk : fs.length ≤ k) : ¬ ClashIn fs := by
  rintro ⟨i, j, f, g, hij, hf, hg, hc⟩
  exact h i j f g hij (by have := (List.getElem?_eq_some_iff.1 hf).1; omega) hf hg hc
theorem calmTo_succ {fs : List Fl} {p : Nat} (h : calmTo fs p) (k : calmWith fs p p) : calmTo fs (p + 1) := by
  intro i j f g hij hi hf hg
  by_cases hip : i = p
  · subst hip; exact k j f g hij hf hg
  · exact h i j f g hij (by omega) hf hg
theorem calmWith_succ {fs : List Fl} {p q : Nat} {f g : Fl} (h : calmWith fs p q) (hf : fs[p]? = some f) (hg : fs[q]? = some g) (hc : forkB f g = false) : calmWith fs p (q + 1) := by
  intro j f' g' hj hf' hg'
  by_cases hjq : j = q
  · subst hjq; rw [hf] at hf'; cases hf'; rw [hg] at hg'; cases hg'
    intro hcl; unfold forkB at hc; rw [@decide_eq_true _ (Classical.propDecidable _) hcl] at hc; cases hc
  · exact h j f' g' (by omega) hf' hg'
theorem clash_of {f g : Fl} (h : forkB f g = true) : Clash f g := @of_decide_eq_true _ (Classical.propDecidable _) h
theorem calm_at {fs : List Fl} {p q : Nat} (h : calmWith fs p q) (e : p ≤ q) : calmWith fs p p := fun j f g hj => h j f g (by omega)
theorem RowAt.drew {α : Type} {w : World} {N sz : Nat} {enc : α → List Value} {A : Option Addr} {l : List α} (h : RowAt w N sz enc A l) : RowAt w.drew N sz enc A l := h
theorem kin_first (fs : List Fl) : upto (fun f => ∀ g, fs[0]? = some g → kinB f g = true) fs 1 := by
  intro j f hj hf g hg
  obtain rfl : j = 0 := by omega
  rw [hf] at hg; cases hg; simp [kinB, vidEq]
set_option maxRecDepth 100000 in
set_option maxHeartbeats 4000000 in
theorem together_any (A : Option Addr) (cA N : Nat) (fs : List Fl) (w : World) (hN : N ≤ w.heap.size) (hA : Fls w N A fs) (hl : fs.length ≤ 9223372036854775807) :
    Calls Try.prog 29 #[.slice A fs.length cA] w fun x w' => (∃ n, x = .returned (.int .i64 n) ∧ Together fs n) ∧ Below w.heap.size w w' := by
  have hnv := run_neq_vid
  go_enter Try.func29, Try.ntmps29
  go_wp2
  go_loopw [3] (fun k wr => ∃ q : Nat, k = .int .i64 q ∧ q ≤ fs.length ∧ upto Sound fs q ∧ Below w.heap.size w wr) (fun k _ => fs.length - (intOf k).toNat)
  case atStart => exact ⟨0, rfl, by omega, upto_zero _ _, Below.refl _ _⟩
  case round =>
    obtain ⟨q, rfl, hq, hup, hb⟩ := hrel
    have hsz := hb.size
    by_cases hlt : q < fs.length
    · obtain ⟨g, o, f, X, cX, Y, cY, rfl, hg, hf, ⟨c0, c1, c2, c3, c4, c5, c6⟩, hr⟩ := (hA.below hb hN).at_ hlt
      clear hA
      by_cases hs : Sound f
      · have hsb : soundB f = true := soundB_iff.2 hs
        have HS := Lib.hid hs
        clear hs
        go_wp2_with (go_at_call 65; refine (rsound_any _ _ _ _ _ _ _ (by omega) hr).mono ?_; rintro e w' ⟨rfl, hbw⟩)
        go_roundw
        case rel => go_light; exact ⟨q + 1, by go_num, by omega, upto_succ hup (fun z hz => by rw [hf.out] at hz; cases hz; exact HS.out), hb.trans (hbw.mono hsz)⟩
        case measure => go_light; simp [intOf]; omega
      · have hsb : soundB f = false := soundB_no.2 hs
        have HS := Lib.hid hs
        clear hs
        go_wp2_with (go_at_call 65; refine (rsound_any _ _ _ _ _ _ _ (by omega) hr).mono ?_; rintro e w' ⟨rfl, hbw⟩)
        go_ret
        go_light
        exact ⟨⟨1, rfl, .arg ⟨f, List.mem_of_getElem? hf.out, HS.out⟩⟩, hb.trans (hbw.mono hsz)⟩
    · go_wp2
      have Hall : ∀ f ∈ fs, Sound f := upto_all hup (by omega)
      replace Hall := Lib.hid Hall
      clear hlt hq hup
      obtain ⟨wo, rfl⟩ : ∃ wo : World, wo = wr := ⟨_, rfl⟩
      go_loopw [5] (fun k wr => ∃ q : Nat, k = .int .i64 q ∧ 1 ≤ q ∧ upto (fun f => ∀ g, fs[0]? = some g → kinB f g = true) fs q ∧ Below w.heap.size w wr) (fun k _ => fs.length - (intOf k).toNat)
      case atStart => exact ⟨1, rfl, by omega, kin_first fs, hb⟩
      case round =>
        obtain ⟨q, rfl, hq, hup, hb⟩ := hrel
        have hsz := hb.size
        by_cases hlt : q < fs.length
        · obtain ⟨g, o, f, X, cX, Y, cY, rfl, hg, hf, ⟨c0, c1, c2, c3, c4, c5, c6⟩, hr⟩ := (hA.below hb hN).at_ hlt
          obtain ⟨g', o', f0, X0, cX0, Y0, cY0, hgo, hg', hf0, ⟨d0, d1, d2, d3, d4, d5, d6⟩, hr0⟩ := (hA.below hb hN).at_ (k := 0) (by omega)
          obtain ⟨rfl, rfl⟩ : g = g' ∧ o = o' := by simpa using hgo
          simp only [Nat.zero_mul, Nat.add_zero] at d0 d1 d2 d3 d4 d5 d6
          have hpos : 0 < fs.length := by omega
          have hposi : (0 : Int) < (fs.length : Int) := by omega
          clear hA hgo
          by_cases hv : vidEq f.e f.l f.i f.c f0.e f0.l f0.i f0.c = true
          · go_wp2
            go_quiet (fail)
            go_wp2
            · go_ret
              go_light
              exact ⟨⟨80, rfl, .prev Hall.out ⟨f, f0, hf0.out, List.mem_of_getElem? hf.out, by have hh := ‹((f.have_.length : Int) != (f0.have_.length : Int)) = true›; simp at hh; simp [kinB]; intro _; omega⟩⟩, below_drewN hb _⟩
            · go_roundw
              case rel => go_light; exact ⟨q + 1, by go_num, by omega, upto_succ hup (fun z hz => by rw [hf.out] at hz; cases hz; intro g2 hg2; rw [hf0.out] at hg2; cases hg2; have hh := ‹((f.have_.length : Int) != (f0.have_.length : Int)) = false›; simp at hh; simp [kinB, hv]; omega), below_drewN hb _⟩
              case measure => go_light; simp [intOf]; omega
          · have hv' : vidEq f.e f.l f.i f.c f0.e f0.l f0.i f0.c = false := by simpa using hv
            clear hv
            go_wp2
            go_quiet (fail)
            go_wp2
            go_ret
            go_light
            exact ⟨⟨80, rfl, .prev Hall.out ⟨f, f0, hf0.out, List.mem_of_getElem? hf.out, by simp [kinB, hv']⟩⟩, below_drewN hb _⟩
        · go_wp2
          have Hkin : ∀ f ∈ fs, ∀ g, fs[0]? = some g → kinB f g = true := upto_all hup (by omega)
          replace Hkin := Lib.hid Hkin
          clear hlt hq hup
          obtain ⟨wo, rfl⟩ : ∃ wo : World, wo = wr := ⟨_, rfl⟩
          go_loopw [6] (fun k wr => ∃ p : Nat, k = .int .i64 p ∧ p ≤ fs.length ∧ calmTo fs p ∧ Below w.heap.size w wr) (fun k _ => fs.length - (intOf k).toNat)
          case atStart => exact ⟨0, rfl, by omega, calmTo_zero fs, hb⟩
          case round =>
            obtain ⟨p, rfl, hp, hcalm, hb⟩ := hrel
            have hsz := hb.size
            by_cases hlt : p < fs.length
            · go_wp2
              obtain ⟨wo, rfl⟩ : ∃ wo : World, wo = wr := ⟨_, rfl⟩
              go_loopw [7] (fun k wr => ∃ q : Nat, k = .int .i64 q ∧ q ≤ p ∧ calmWith fs p q ∧ Below w.heap.size w wr) (fun k _ => p - (intOf k).toNat)
              case atStart => exact ⟨0, rfl, by omega, calmWith_zero fs p, hb⟩
              case round =>
                obtain ⟨q, rfl, hq, hcw, hb⟩ := hrel
                have hsz := hb.size
                by_cases hltq : q < p
                · obtain ⟨g, o, f, X, cX, Y, cY, rfl, hg, hf, ⟨c0, c1, c2, c3, c4, c5, c6⟩, hr⟩ := (hA.below hb hN).at_ hlt
                  obtain ⟨g', o', f0, X0, cX0, Y0, cY0, hgo, hg', hf0, ⟨d0, d1, d2, d3, d4, d5, d6⟩, hr0⟩ := (hA.below hb hN).at_ (k := q) (by omega)
                  obtain ⟨rfl, rfl⟩ : g = g' ∧ o = o' := by simpa using hgo
                  have hql : q < fs.length := by omega
                  have s1 := Hall.out f (List.mem_of_getElem? hf.out)
                  have s2 := Hall.out f0 (List.mem_of_getElem? hf0.out)
                  have S1 := Lib.hid s1
                  have S2 := Lib.hid s2
                  clear hA hgo s1 s2
                  go_wp2
                  go_still_tail 8, (by kernel_rfl)
                  change wpList _ _ _ _ _ wr.drew
                  go_wp2_with (go_at_call 66; refine (fork_any (w := wr.drew) f f0 _ _ _ _ _ _ _ _ N (by show N ≤ wr.heap.size; omega) hr.slots.drew hr0.slots.drew S1.out.base0 (by have := S1.out.base; omega) S2.out.base0 (by have := S2.out.base; omega) S1.out.held S2.out.held).mono ?_; rintro e w' ⟨rfl, hbw⟩)
                  · go_ret
                    go_light
                    exact ⟨⟨82, rfl, .fork Hall.out Hkin.out ⟨p, q, f, f0, hltq, hf.out, hf0.out, clash_of (by assumption)⟩⟩, (Below.drew hb).trans (hbw.mono (by show _ ≤ wr.heap.size; omega))⟩
                  · go_roundw
                    case rel => go_light; exact ⟨q + 1, by go_num, by omega, calmWith_succ hcw hf.out hf0.out (by assumption), (Below.drew hb).trans (hbw.mono (by show _ ≤ wr.heap.size; omega))⟩
                    case measure => go_light; simp [intOf]; omega
                · go_wp2
                  go_roundw
                  case rel => go_light; exact ⟨p + 1, by go_num, by omega, calmTo_succ hcalm (calm_at hcw (by omega)), hb⟩
                  case measure => go_light; simp [intOf]; omega
            · go_wp2
              go_ret
              go_light
              exact ⟨⟨0, rfl, .ok Hall.out Hkin.out (calmTo_all hcalm (by omega))⟩, hb⟩
end Go.Proofs.Ytcffhfcjfjfokaa
/- What the closure in the program's joined answers. -/
namespace Go.Proofs.Ytcffhfcjfjfokaa
open Go.RowKit
def hadB (fs : List Fl) (s : Int × Int) : Bool := fs.any (fun f => havB f.have_ s.1 s.2)
theorem hadB_yes {fs : List Fl} {s : Int × Int} {q : Nat} {f : Fl} (hf : fs[q]? = some f) (h : havB f.have_ s.1 s.2 = true) : true = hadB fs s := by
  symm; exact List.any_eq_true.2 ⟨f, List.mem_of_getElem? hf, h⟩
theorem hadB_no {fs : List Fl} {s : Int × Int} {q : Nat} (h : upto (fun f => havB f.have_ s.1 s.2 = false) fs q) (hq : fs.length ≤ q) : false = hadB fs s := by
  symm; exact List.any_eq_false.2 (fun f hf => by rw [upto_all h hq f hf]; decide)
set_option maxRecDepth 100000 in
set_option maxHeartbeats 2000000 in
theorem had_any (A : Option Addr) (cA N bx : Nat) (fs : List Fl) (s q : Int) (w : World) (hN : N ≤ w.heap.size) (hA : Fls w N A fs) (hl : fs.length ≤ 9223372036854775807)
    (hbx : bx < w.heap.size) (hcx : w.cell? ⟨bx, 0, none⟩ = some (.slice A fs.length cA)) (hs0 : 0 ≤ s) (hs1 : ∀ f ∈ fs, s < f.have_.length) :
    Calls Try.prog 116 #[.agg #[.int .i64 s, .int .i64 q], .pointer (some ⟨bx, 0, none⟩)] w fun x w' => x = .returned (.bool (hadB fs (s, q))) ∧ Below w.heap.size w w' := by
  go_enter Try.func116, Try.ntmps116
  go_wp2
  go_loopw [8] (fun k wr => ∃ i : Nat, k = .int .i64 i ∧ i ≤ fs.length ∧ upto (fun f => havB f.have_ s q = false) fs i ∧ Below (w.heap.size + 1) (box1 w #[.int .i64 s, .int .i64 q] 66) wr) (fun k _ => fs.length - (intOf k).toNat)
  case atStart => exact ⟨0, rfl, by omega, upto_zero _ _, Below.refl _ _⟩
  case round =>
    obtain ⟨i, rfl, hi, hup, hb⟩ := hrel
    obtain ⟨hb0, hc, -, hsz⟩ := box1_facts hb
    by_cases hlt : i < fs.length
    · obtain ⟨g, o, f, X, cX, Y, cY, rfl, hg, hf, ⟨c0, c1, c2, c3, c4, c5, c6⟩, hr⟩ := (hA.below hb0 hN).at_ hlt
      have hgw : g < wr.heap.size := by omega
      have hsl := hs1 f (List.mem_of_getElem? hf.out)
      clear hA hs1
      go_wp2_with (go_at_call 61; refine (has_any _ _ _ _ _ _ _ _ N f.have_ s q _ hs0 hsl (by simp only [World.size_alloc]; omega) (by exact hr.have_.below ((Below.refl N wr).alloc (by omega) _) (Nat.le_refl _))).mono ?_; rintro e w2 ⟨rfl, hbw2⟩)
      · go_ret
        go_light
        rw [World.size_alloc] at hbw2
        exact ⟨ret_bool (hadB_yes hf.out (by assumption)), (hb0.alloc (by omega) _).trans (hbw2.mono (by omega))⟩
      · go_roundw
        case rel => go_light; rw [World.size_alloc] at hbw2; exact ⟨i + 1, by go_num, by omega, upto_succ hup (fun z hz => by rw [hf.out] at hz; cases hz; assumption), (hb.alloc (by omega) _).trans (hbw2.mono (by omega))⟩
        case measure => go_light; simp [intOf]; omega
    · go_wp2
      go_ret
      go_light
      exact ⟨ret_bool (hadB_no hup (by omega)), hb0⟩
end Go.Proofs.Ytcffhfcjfjfokaa
/- What the document's At answers. -/
namespace Go.Proofs.Ytcffhfcjfjfokaa
open Go.RowKit
set_option maxHeartbeats 2000000 in
theorem at_any (A : Option Addr) (cA N : Nat) (fs : List Fl) (pos : Int) (w : World) (hN : N ≤ w.heap.size) (hA : Fls w N A fs) (hl : fs.length ≤ 9223372036854775807)
    (hp0 : 0 ≤ pos) (hp1 : pos ≤ 4611686018427387905) (hbs : ∀ f ∈ fs, 0 ≤ f.base ∧ f.base ≤ 4611686018427387904) :
    Calls Try.prog 31 #[.slice A fs.length cA, .int .i64 pos] w fun x w' => x = .returned (.agg #[.int .i64 (atOf fs pos).1, .int .i64 (atOf fs pos).2]) ∧ Below w.heap.size w w' := by
  go_enter Try.func31, Try.ntmps31
  go_wp2
  go_loopw [5] (fun k wr => ∃ q : Nat, k = .int .i64 q ∧ q ≤ fs.length ∧ upto (fun f => atF pos f = none) fs q ∧ Below (w.heap.size + 1) (box1 w #[.int .i64 0, .int .i64 0] 66) wr) (fun k _ => fs.length - (intOf k).toNat)
  case atStart => exact ⟨0, rfl, by omega, upto_zero _ _, Below.refl _ _⟩
  case round =>
    obtain ⟨q, rfl, hq, hup, hb⟩ := hrel
    obtain ⟨hbw, hc, hfz, hsz⟩ := box1_facts hb
    by_cases hlt : q < fs.length
    · obtain ⟨g, o, f, X, cX, Y, cY, rfl, hg, hf, ⟨c0, c1, c2, c3, c4, c5, c6⟩, hr⟩ := (hA.below hbw hN).at_ hlt
      obtain ⟨hf0, hf1⟩ := hbs f (List.mem_of_getElem? hf.out)
      have hgw : g < wr.heap.size := by omega
      by_cases hin : 0 ≤ pos - f.base - 1
      · by_cases hin2 : pos - f.base - 1 < f.slots.length
        · obtain ⟨j, hj⟩ : ∃ j : Nat, pos - f.base - 1 = j := ⟨(pos - f.base - 1).toNat, by omega⟩
          obtain ⟨g', o', x, y, rfl, hg', hx, k1, k2⟩ := hr.slots.slot (k := j) (by omega)
          have hgw' : g' < wr.heap.size := by omega
          have hjl : j < f.slots.length := by omega
          have hat : atF pos f = some (x, y) := by unfold atF; rw [if_pos hin, hj, Int.toNat_natCast, hx.out]
          have HR := Lib.hid (atOf_here hup hf.out hat)
          clear hat hA hr hbs
          go_wp2
          refine bodyPost_ret (v := .agg #[.int .i64 x, .int .i64 y]) (by simp [results, Try.results31, go_sem, hc]) rfl ⟨by rw [HR.out], ?_⟩
          exact (hbw.setCell (p := ⟨w.heap.size, 0, none⟩) (Nat.le_refl _) _).setCell (p := ⟨w.heap.size, 1, none⟩) (Nat.le_refl _) _
        · have hat : atF pos f = none := by unfold atF; rw [if_pos hin]; exact List.getElem?_eq_none (by omega)
          have HA := Lib.hid hat
          clear hat hA hr hbs
          go_wp2
          all_goals
            go_roundw
            case rel => go_light; exact ⟨q + 1, by go_num, by omega, upto_succ hup (fun z hz => by rw [hf.out] at hz; cases hz; exact HA.out), hb⟩
            case measure => go_light; simp [intOf]; omega
      · have hat : atF pos f = none := by unfold atF; rw [if_neg hin]
        have HA := Lib.hid hat
        clear hat hA hr hbs
        go_wp2
        all_goals
          go_roundw
          case rel => go_light; exact ⟨q + 1, by go_num, by omega, upto_succ hup (fun z hz => by rw [hf.out] at hz; cases hz; exact HA.out), hb⟩
          case measure => go_light; simp [intOf]; omega
    · have HR := Lib.hid (atOf_none hup (by omega))
      clear hA hbs
      go_wp2
      refine bodyPost_ret (v := .agg #[.int .i64 0, .int .i64 0]) (by simp [results, Try.results31, go_sem, hc]) rfl ⟨by rw [HR.out], ?_⟩
      exact (hbw.setCell (p := ⟨w.heap.size, 0, none⟩) (Nat.le_refl _) _).setCell (p := ⟨w.heap.size, 1, none⟩) (Nat.le_refl _) _
end Go.Proofs.Ytcffhfcjfjfokaa
/- What the document's whole answers. -/
namespace Go.Proofs.Ytcffhfcjfjfokaa
open Go.RowKit
def wholeAtB (fs : List Fl) (s : Int × Int) : Bool := !(s.2 == 0) && fs.any (fun f => rhasB f.have_ s.1 s.2)
theorem wholeAt_yes {fs : List Fl} {s : Int × Int} {q : Nat} {f : Fl} (h0 : ¬ s.2 = 0) (hf : fs[q]? = some f) (h : rhasB f.have_ s.1 s.2 = true) : true = wholeAtB fs s := by
  symm; unfold wholeAtB
  rw [Bool.and_eq_true]
  exact ⟨by simpa using h0, List.any_eq_true.2 ⟨f, List.mem_of_getElem? hf, h⟩⟩
theorem wholeAt_no {fs : List Fl} {s : Int × Int} {q : Nat} (h : upto (fun f => rhasB f.have_ s.1 s.2 = false) fs q) (hq : fs.length ≤ q) : false = wholeAtB fs s := by
  symm; unfold wholeAtB
  rw [List.any_eq_false.2 (fun f hf => by rw [upto_all h hq f hf]; decide), Bool.and_false]
set_option maxRecDepth 100000 in
set_option maxHeartbeats 2000000 in
theorem whole98_any (A : Option Addr) (cA N : Nat) (fs : List Fl) (pos : Int) (w : World) (hN : N ≤ w.heap.size) (hA : Fls w N A fs) (hl : fs.length ≤ 9223372036854775807)
    (hp0 : 0 ≤ pos) (hp1 : pos ≤ 4611686018427387905) (hbs : ∀ f ∈ fs, 0 ≤ f.base ∧ f.base ≤ 4611686018427387904) :
    Calls Try.prog 98 #[.slice A fs.length cA, .int .i64 pos] w fun x w' => x = .returned (.bool (wholeAtB fs (atOf fs pos))) ∧ Below w.heap.size w w' := by
  obtain ⟨s, hs⟩ : ∃ s, s = atOf fs pos := ⟨_, rfl⟩
  have HAt : ∀ W : World, w.heap.size ≤ W.heap.size → Fls W N A fs → Calls Try.prog 31 #[.slice A fs.length cA, .int .i64 pos] W fun x w' => x = .returned (.agg #[.int .i64 s.1, .int .i64 s.2]) ∧ Below W.heap.size W w' := fun W h1 h2 => by
    rw [hs]; exact at_any A cA N fs pos W (by omega) h2 hl hp0 hp1 hbs
  rw [← hs]
  replace HAt := Lib.hid HAt
  clear hs
  by_cases h0 : s.2 = 0
  · have H0 := Lib.hid h0
    have hd : (s.2 == 0) = true := by simpa using h0
    clear h0
    go_enter Try.func98, Try.ntmps98
    go_wp2_with (go_at_call 31; refine (HAt.out _ (by omega) hA).mono ?_; rintro e w' ⟨rfl, hbw⟩)
    go_ret
    go_light
    exact ⟨ret_bool (by simp [wholeAtB, H0.out]), hbw.alloc hbw.size _⟩
  · have H0 := Lib.hid h0
    have hd : (s.2 == 0) = false := by simpa using h0
    clear h0
    go_enter Try.func98, Try.ntmps98
    go_wp2_with (go_at_call 31; refine (HAt.out _ (by omega) hA).mono ?_; rintro e w' ⟨rfl, hbw⟩)
    go_loopw [6] (fun k wr => ∃ q : Nat, k = .int .i64 q ∧ q ≤ fs.length ∧ upto (fun f => rhasB f.have_ s.1 s.2 = false) fs q ∧ Below (w'.heap.size + 1) (box1 w' #[.int .i64 s.1, .int .i64 s.2] 66) wr) (fun k _ => fs.length - (intOf k).toNat)
    case atStart => exact ⟨0, rfl, by omega, upto_zero _ _, Below.refl _ _⟩
    case round =>
      obtain ⟨q, rfl, hq, hup, hb⟩ := hrel
      obtain ⟨hb0, hc, -, hsz⟩ := box1_facts hb
      have hbb := hbw.trans (hb0.mono hbw.size)
      have hsw := hbw.size
      by_cases hlt : q < fs.length
      · obtain ⟨g, o, f, X, cX, Y, cY, rfl, hg, hf, ⟨c0, c1, c2, c3, c4, c5, c6⟩, hr⟩ := (hA.below hbb hN).at_ hlt
        have hlh := hr.lenH
        have hch := hr.capH
        clear hA
        go_wp2
        go_still_tail 5, (by kernel_rfl)
        change wpList _ _ _ _ _ wr.drew
        go_wp2_with (go_at_call 62; refine (rhas_any (w := wr.drew) _ _ _ _ _ _ _ _ N f.have_ s.1 s.2 (by omega) (by show N ≤ wr.heap.size; omega) hr.have_).mono ?_; rintro e w2 ⟨rfl, hbw2⟩)
        · go_ret
          go_light
          exact ⟨ret_bool (wholeAt_yes H0.out hf.out (by assumption)), (Below.drew hbb).trans (hbw2.mono (by show _ ≤ wr.heap.size; omega))⟩
        · go_roundw
          case rel => go_light; exact ⟨q + 1, by go_num, by omega, upto_succ hup (fun z hz => by rw [hf.out] at hz; cases hz; assumption), (Below.drew hb).trans (hbw2.mono (by show _ ≤ wr.heap.size; omega))⟩
          case measure => go_light; simp [intOf]; omega
      · go_wp2
        go_ret
        go_light
        exact ⟨ret_bool (wholeAt_no hup (by omega)), hbb⟩
end Go.Proofs.Ytcffhfcjfjfokaa
/- What the document's end answers. -/
namespace Go.Proofs.Ytcffhfcjfjfokaa
open Go.RowKit
/-- k is the cut: all positions from the base's on are whole, the next is not. -/
structure IsCut (fs : List Fl) (k : Int) : Prop where
  low : baseOf fs ≤ k
  all : ∀ p, baseOf fs < p → p ≤ k → wholeAtB fs (atOf fs p) = true
  stop : wholeAtB fs (atOf fs (k + 1)) = false
set_option maxRecDepth 100000 in
set_option maxHeartbeats 2000000 in
/-- .. where a bound on the cut holds: no more than 2048 positions from the base's on are whole. -/
theorem end_any (A : Option Addr) (cA N : Nat) (fs : List Fl) (w : World) (hN : N ≤ w.heap.size) (hA : Fls w N A fs) (hl : fs.length ≤ 9223372036854775807)
    (hbs : ∀ f ∈ fs, 0 ≤ f.base ∧ f.base ≤ 4611686018427387904) (hb0 : 0 ≤ baseOf fs)
    (hbd : ∀ n : Nat, (∀ p, baseOf fs < p → p ≤ baseOf fs + n → wholeAtB fs (atOf fs p) = true) → n ≤ 2048 ∧ baseOf fs + n ≤ 4611686018427387904) :
    Calls Try.prog 54 #[.slice A fs.length cA] w fun x w' => (∃ k, x = .returned (.int .i64 k) ∧ IsCut fs k) ∧ Below w.heap.size w w' := by
  obtain ⟨b, hb⟩ : ∃ b, b = baseOf fs := ⟨_, rfl⟩
  have HB := Lib.hid hbd
  have HS := Lib.hid hbs
  rw [← hb] at hb0
  clear hbd hbs
  go_enter Try.func54, Try.ntmps54
  go_wp2_with (go_at_call 30; refine (base_any A cA N fs _ hA hl).mono ?_; rintro e w' ⟨rfl, rfl⟩; rw [← hb])
  replace hb := Lib.hid hb
  go_loopw [3, 4] (fun k c wr => ∃ i : Nat, c = .int .i64 i ∧ k = .int .i64 (b + i) ∧ (∀ p, baseOf fs < p → p ≤ baseOf fs + i → wholeAtB fs (atOf fs p) = true) ∧ Below w.heap.size w wr) (fun _ c _ => 2049 - (intOf c).toNat)
  case atStart => exact ⟨0, rfl, by simp [hb.out], by intro p h1 h2; simp at h2; omega, Below.refl _ _⟩
  case round =>
    obtain ⟨i, rfl, rfl, hall, hbw⟩ := hrel
    have hsz := hbw.size
    obtain ⟨hi1, hi2⟩ := HB.out i hall
    rw [← hb.out] at hi2
    have HAll := Lib.hid hall
    clear hall
    cases hwh : wholeAtB fs (atOf fs (b + i + 1)) with
    | true =>
      have HW := Lib.hid hwh
      clear hwh
      go_wp2_with (go_at_call 98; refine (whole98_any A cA N fs _ _ (by omega) (hA.below hbw hN) hl (by omega) (by omega) HS.out).mono ?_; rw [HW.out]; rintro e w' ⟨rfl, hbw2⟩)
      go_roundw
      case rel =>
        go_light
        refine ⟨i + 1, by go_num, by congr 1; push_cast; omega, fun p h1 h2 => ?_, hbw.trans (hbw2.mono hsz)⟩
        by_cases hp : p ≤ baseOf fs + i
        · exact HAll.out p h1 hp
        · have : p = b + i + 1 := by have := hb.out; push_cast at h2; omega
          rw [this]; exact HW.out
      case measure => go_light; simp [intOf]; omega
    | false =>
      have HW := Lib.hid hwh
      clear hwh
      go_wp2_with (go_at_call 98; refine (whole98_any A cA N fs _ _ (by omega) (hA.below hbw hN) hl (by omega) (by omega) HS.out).mono ?_; rw [HW.out]; rintro e w' ⟨rfl, hbw2⟩)
      go_ret
      go_light
      exact ⟨⟨b + i, rfl, ⟨by have := hb.out; omega, fun p h1 h2 => HAll.out p h1 (by have := hb.out; omega), HW.out⟩⟩, hbw.trans (hbw2.mono hsz)⟩
end Go.Proofs.Ytcffhfcjfjfokaa
/- The plain law of the cut: what positions are known, that they are known as one slot, how many there can be. No program in sight. -/
namespace Go.Proofs.Ytcffhfcjfjfokaa

/-- One of the contents knows the slot at the position. -/
def Known (fs : List Fl) (pos : Int) (s : Int × Int) : Prop := ∃ (i : Nat) (g : Fl) (k : Nat), fs[i]? = some g ∧ g.slots[k]? = some s ∧ pos = g.base + 1 + k
/-- Contents that go together: sound, of one view, without a clash. -/
structure Fit (fs : List Fl) : Prop where
  sound : ∀ f ∈ fs, Sound f
  kin : ∀ f ∈ fs, ∀ g, fs[0]? = some g → kinB f g = true
  calm : ¬ ClashIn fs
theorem fit_iff {fs : List Fl} : Together fs 0 ↔ Fit fs := by
  constructor
  · intro h; cases h with | ok a b c => exact ⟨a, b, c⟩
  · intro h; exact .ok h.sound h.kin h.calm

theorem no_clash {fs : List Fl} (h : Fit fs) {i j : Nat} {f g : Fl} (hf : fs[i]? = some f) (hg : fs[j]? = some g) (hij : i ≠ j) : ¬ Clash f g := by
  intro hc
  rcases Nat.lt_or_gt_of_ne hij with hlt | hgt
  · obtain ⟨a, b, s, t, h1, h2, h3⟩ := hc
    exact h.calm ⟨j, i, g, f, hlt, hg, hf, b, a, t, s, h2, h1, fun e => h3 ⟨fun x => (e.1 x.symm).symm, fun x => (e.2 x.symm).symm⟩⟩
  · exact h.calm ⟨i, j, f, g, hgt, hf, hg, hc⟩

theorem known_one {fs : List Fl} (h : Fit fs) {p q : Int} {s t : Int × Int} (h1 : Known fs p s) (h2 : Known fs q t) : p = q ↔ s = t := by
  obtain ⟨i, f, k, hf, hs, rfl⟩ := h1
  obtain ⟨j, g, l, hg, ht, rfl⟩ := h2
  by_cases hij : i = j
  · subst hij
    rw [hf] at hg; cases hg
    constructor
    · intro e
      obtain rfl : k = l := by omega
      rw [hs] at ht; exact Option.some.inj ht
    · intro e
      subst e
      have hn := (h.sound f (List.mem_of_getElem? hf)).nodup
      have : k = l := by
        by_cases hkl : k = l
        · exact hkl
        · exact absurd ht (apart_of_nodup hn hkl hs)
      omega
  · have hc := no_clash h hf hg hij
    by_cases hst : s = t
    · refine ⟨fun _ => hst, fun _ => ?_⟩
      by_cases hp : f.base + k = g.base + l
      · omega
      · exact absurd ⟨k, l, s, t, hs, ht, fun e => hp (e.2 hst)⟩ hc
    · refine ⟨fun e => absurd ⟨k, l, s, t, hs, ht, fun x => hst (x.1 (by omega))⟩ hc, fun e => absurd e hst⟩

theorem known_slot {fs : List Fl} (h : Fit fs) {p : Int} {s : Int × Int} (h1 : Known fs p s) : ∃ f ∈ fs, 0 ≤ s.1 ∧ s.1 < f.have_.length ∧ 1 ≤ s.2 ∧ s.2 ≤ 4611686018427387904 ∧ f.base < p ∧ p ≤ 4611686018427387904 := by
  obtain ⟨i, f, k, hf, hs, rfl⟩ := h1
  have hm := List.mem_of_getElem? hf
  have hS := h.sound f hm
  obtain ⟨a, b, c, d⟩ := hS.slot s (List.mem_of_getElem? hs)
  have := hS.base
  have hk := (List.getElem?_eq_some_iff.1 hs).1
  exact ⟨f, hm, a, b, c, d, by omega, by omega⟩

theorem atF_known {f : Fl} {p : Int} {s : Int × Int} : atF p f = some s ↔ ∃ k : Nat, f.slots[k]? = some s ∧ p = f.base + 1 + k := by
  unfold atF
  constructor
  · intro h
    by_cases h0 : 0 ≤ p - f.base - 1
    · rw [if_pos h0] at h; exact ⟨_, h, by omega⟩
    · rw [if_neg h0] at h; cases h
  · rintro ⟨k, hk, rfl⟩
    rw [if_pos (by omega)]
    have : (f.base + 1 + (k : Int) - f.base - 1).toNat = k := by omega
    rw [this]; exact hk

theorem atOf_known {fs : List Fl} (h : Fit fs) {p : Int} {s : Int × Int} (hk : Known fs p s) : atOf fs p = s := by
  unfold atOf
  cases hx : fs.findSome? (atF p) with
  | none =>
    exfalso
    rw [List.findSome?_eq_none_iff] at hx
    obtain ⟨i, f, k, hf, hs, hp⟩ := hk
    have := hx f (List.mem_of_getElem? hf)
    rw [atF_known.2 ⟨k, hs, hp⟩] at this; cases this
  | some t =>
    obtain ⟨f, hf, ht⟩ := List.exists_of_findSome?_eq_some hx
    obtain ⟨k, hk', hp⟩ := atF_known.1 ht
    obtain ⟨i, hi⟩ := List.mem_iff_getElem?.1 hf
    exact (known_one h ⟨i, f, k, hi, hk', hp⟩ hk).1 rfl
theorem atOf_unknown {fs : List Fl} {p : Int} (hk : ∀ s, ¬ Known fs p s) : atOf fs p = (0, 0) := by
  unfold atOf
  rw [List.findSome?_eq_none_iff.2 (fun f hf => ?_)]; · rfl
  cases hx : atF p f with
  | none => rfl
  | some t =>
    obtain ⟨k, hk', hp⟩ := atF_known.1 hx
    obtain ⟨i, hi⟩ := List.mem_iff_getElem?.1 hf
    exact absurd ⟨i, f, k, hi, hk', hp⟩ (hk t)

theorem one_len {fs : List Fl} (h : Fit fs) {f g : Fl} (hf : f ∈ fs) (hg : g ∈ fs) : f.have_.length = g.have_.length := by
  obtain ⟨i, hi⟩ := List.mem_iff_getElem?.1 hf
  have h0 : 0 < fs.length := by have := (List.getElem?_eq_some_iff.1 hi).1; omega
  have e0 : fs[0]? = some fs[0] := List.getElem?_eq_getElem h0
  have a := h.kin f hf _ e0
  have b := h.kin g hg _ e0
  simp only [kinB, Bool.and_eq_true, decide_eq_true_eq] at a b
  omega

theorem had_rhas {fs : List Fl} (h : Fit fs) {p : Int} {s : Int × Int} (hk : Known fs p s) {f : Fl} (hf : f ∈ fs) : rhasB f.have_ s.1 s.2 = havB f.have_ s.1 s.2 := by
  obtain ⟨g, hg, a, b, _⟩ := known_slot h hk
  have := one_len h hf hg
  unfold rhasB havB
  exact decide_eq_decide.2 ⟨fun x => x.2.2, fun x => ⟨a, by omega, x⟩⟩

theorem whole_iff {fs : List Fl} (h : Fit fs) {p : Int} : wholeAtB fs (atOf fs p) = true ↔ ∃ s, Known fs p s ∧ hadB fs s = true := by
  by_cases hk : ∃ s, Known fs p s
  · obtain ⟨s, hs⟩ := hk
    rw [atOf_known h hs]
    obtain ⟨_, _, _, _, c, _⟩ := known_slot h hs
    have e : wholeAtB fs s = hadB fs s := by
      unfold wholeAtB hadB
      have h0 : (s.2 == 0) = false := by simp; omega
      rw [h0]
      simp only [Bool.not_false, Bool.true_and]
      rw [Bool.eq_iff_iff, List.any_eq_true, List.any_eq_true]
      exact ⟨fun ⟨f, hf, hx⟩ => ⟨f, hf, by rw [← had_rhas h hs hf]; exact hx⟩, fun ⟨f, hf, hx⟩ => ⟨f, hf, by rw [had_rhas h hs hf]; exact hx⟩⟩
    rw [e]
    exact ⟨fun x => ⟨s, hs, x⟩, fun ⟨t, ht, x⟩ => by rw [(known_one h hs ht).1 rfl]; exact x⟩
  · rw [atOf_unknown (fun s hs => hk ⟨s, hs⟩)]
    constructor
    · intro x; simp [wholeAtB] at x
    · rintro ⟨s, hs, _⟩; exact absurd ⟨s, hs⟩ hk

theorem baseTo_nonneg (fs : List Fl) (k : Nat) : 0 ≤ baseTo fs k := by
  induction k with
  | zero => simp [baseTo]
  | succ k ih =>
    by_cases hk : k < fs.length
    · rw [baseTo_succ (List.getElem?_eq_getElem hk)]; split <;> omega
    · have : baseTo fs (k + 1) = baseTo fs k := by rw [baseTo_all fs (by omega), baseTo_all fs (by omega)]
      omega
theorem baseTo_mono (fs : List Fl) (k : Nat) : baseTo fs k ≤ baseTo fs (k + 1) := by
  by_cases hk : k < fs.length
  · rw [baseTo_succ (List.getElem?_eq_getElem hk)]; split <;> omega
  · have : baseTo fs (k + 1) = baseTo fs k := by rw [baseTo_all fs (by omega), baseTo_all fs (by omega)]
    omega
theorem baseTo_of (fs : List Fl) (k : Nat) : baseTo fs k = 0 ∨ ∃ f ∈ fs, baseTo fs k = f.base := by
  induction k with
  | zero => left; simp [baseTo]
  | succ k ih =>
    by_cases hk : k < fs.length
    · rw [baseTo_succ (List.getElem?_eq_getElem hk)]
      split
      · right; exact ⟨fs[k], List.getElem_mem hk, rfl⟩
      · exact ih
    · have : baseTo fs (k + 1) = baseTo fs k := by rw [baseTo_all fs (by omega), baseTo_all fs (by omega)]
      rw [this]; exact ih
theorem base_nonneg (fs : List Fl) : 0 ≤ baseOf fs := by rw [← baseTo_all fs (Nat.le_refl _)]; exact baseTo_nonneg fs _
theorem base_le {fs : List Fl} (h : ∀ f ∈ fs, Sound f) : baseOf fs ≤ 4611686018427387904 := by
  rw [← baseTo_all fs (Nat.le_refl _)]
  rcases baseTo_of fs fs.length with e | ⟨f, hf, e⟩
  · omega
  · have := (h f hf).base; omega

theorem baseTo_ge (fs : List Fl) {k j : Nat} {f : Fl} (hf : fs[j]? = some f) (hj : j < k) : f.base ≤ baseTo fs k := by
  induction k with
  | zero => omega
  | succ k ih =>
    have := baseTo_mono fs k
    by_cases hjk : j = k
    · subst hjk; rw [baseTo_succ hf]; split <;> omega
    · have := ih (by omega); omega
theorem base_ge {fs : List Fl} {f : Fl} (hf : f ∈ fs) : f.base ≤ baseOf fs := by
  obtain ⟨j, hj⟩ := List.mem_iff_getElem?.1 hf
  rw [← baseTo_all fs (Nat.le_refl _)]
  exact baseTo_ge fs hj (List.getElem?_eq_some_iff.1 hj).1

/-- No more than 128 positions behind the greatest base are known: none knows more than 128 behind its own. -/
theorem cut_bound {fs : List Fl} (h : Fit fs) {n : Nat} (hn : ∀ p, baseOf fs < p → p ≤ baseOf fs + n → wholeAtB fs (atOf fs p) = true) : n ≤ 2048 ∧ baseOf fs + n ≤ 4611686018427387904 := by
  by_cases h0 : n = 0
  · subst h0; have := base_le h.sound; exact ⟨by omega, by simpa using this⟩
  · obtain ⟨s, hs, _⟩ := (whole_iff h).1 (hn (baseOf fs + n) (by omega) (Int.le_refl _))
    obtain ⟨_, _, _, _, _, _, _, hle⟩ := known_slot h hs
    refine ⟨?_, hle⟩
    obtain ⟨i, f, k, hf, hs, he⟩ := hs
    have hm := List.mem_of_getElem? hf
    have := base_ge hm
    have := (h.sound f hm).held
    have := (List.getElem?_eq_some_iff.1 hs).1
    omega

theorem cut_one {fs : List Fl} {a b : Int} (h : IsCut fs a) (k : IsCut fs b) : a = b := by
  rcases Int.lt_trichotomy a b with hlt | he | hgt
  · have := k.all (a + 1) (by have := h.low; omega) (by omega)
    rw [h.stop] at this; cases this
  · exact he
  · have := h.all (b + 1) (by have := k.low; omega) (by omega)
    rw [k.stop] at this; cases this
theorem together_one {fs : List Fl} {a b : Int} (h : Together fs a) (k : Together fs b) : a = b := by
  cases h with
  | arg x =>
    obtain ⟨f, hf, hn⟩ := x
    cases k with
    | arg _ => rfl
    | prev y _ => exact absurd (y f hf) hn
    | fork y _ _ => exact absurd (y f hf) hn
    | ok y _ _ => exact absurd (y f hf) hn
  | prev x x2 =>
    obtain ⟨f, g, hg, hf, hn⟩ := x2
    cases k with
    | arg y => obtain ⟨f', hf', hn'⟩ := y; exact absurd (x f' hf') hn'
    | prev _ _ => rfl
    | fork _ y _ => rw [y f hf g hg] at hn; cases hn
    | ok _ y _ => rw [y f hf g hg] at hn; cases hn
  | fork x x2 x3 =>
    cases k with
    | arg y => obtain ⟨f', hf', hn'⟩ := y; exact absurd (x f' hf') hn'
    | prev _ y => obtain ⟨f, g, hg, hf, hn⟩ := y; rw [x2 f hf g hg] at hn; cases hn
    | fork _ _ _ => rfl
    | ok _ _ y => exact absurd x3 y
  | ok x x2 x3 =>
    cases k with
    | arg y => obtain ⟨f', hf', hn'⟩ := y; exact absurd (x f' hf') hn'
    | prev _ y => obtain ⟨f, g, hg, hf, hn⟩ := y; rw [x2 f hf g hg] at hn; cases hn
    | fork _ _ y => exact absurd y x3
    | ok _ _ _ => rfl

end Go.Proofs.Ytcffhfcjfjfokaa
