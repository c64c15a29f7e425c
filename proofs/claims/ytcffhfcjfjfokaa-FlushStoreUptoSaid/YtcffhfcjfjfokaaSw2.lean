/- Mid Rtog Had At Whole End Cut MidStill, joined. -/
import Derived.StillTailTactics
import Derived.RegionTactic
import Derived.Lib.Hide
import Derived.Test.YtcffhfcjfjfokaaSw1
set_option linter.unusedVariables false
set_option linter.unusedSimpArgs false
/- The document's Sound and Same, for every content. -/
namespace Go.Proofs.Ytcffhfcjfjfokaa
open Go.RowKit
theorem rsound_any (f : Fl) (A B : Option Addr) (cA cB N : Nat) (w : World) (hN : N ≤ w.heap.size) (hr : FlRows w N f A cA B cB) :
    Calls Try.prog 65 #[.agg (flc f.e f.l f.i f.c f.base A f.slots.length cA B f.have_.length cB)] w fun x w' => x = .returned (.bool (soundB f)) ∧ Below w.heap.size w w' := by
  have h1 := hr.lenS; have h2 := hr.capS; have h3 := hr.lenH; have h4 := hr.capH
  by_cases hd : SoundHead f
  · exact rsound_yes f A B cA cB N w hN hr.slots hr.have_ hd
  · exact rsound_no f A B cA cB w (by omega) (by omega) hd
def sameB (f g : Fl) : Bool := decide (f.e = g.e ∧ f.l = g.l ∧ f.i = g.i ∧ f.c = g.c ∧ f.base = g.base ∧ f.slots = g.slots ∧ f.have_ = g.have_)
def SameHead (f g : Fl) : Prop := vidEq f.e f.l f.i f.c g.e g.l g.i g.c = true ∧ f.base = g.base ∧ (f.slots.length : Int) = g.slots.length ∧ (f.have_.length : Int) = g.have_.length
theorem same_head {f g : Fl} (h : ¬ SameHead f g) : false = sameB f g := by
  symm; unfold sameB; rw [decide_eq_false_iff_not]; rintro ⟨a, b, c, d, e, s, k⟩
  exact h ⟨by simp [vidEq, a, b, c, d], e, by rw [s], by rw [k]⟩
set_option maxHeartbeats 2000000 in
theorem same_no (f g : Fl) (A A' B B' : Option Addr) (cA cA' cB cB' : Nat) (w : World)
    (hl1 : f.slots.length ≤ 9223372036854775807) (hl2 : f.have_.length ≤ 9223372036854775807) (hl3 : g.slots.length ≤ 9223372036854775807) (hl4 : g.have_.length ≤ 9223372036854775807) (hd : ¬ SameHead f g) :
    Calls Try.prog 64 #[.agg (flc f.e f.l f.i f.c f.base A f.slots.length cA B f.have_.length cB), .agg (flc g.e g.l g.i g.c g.base A' g.slots.length cA' B' g.have_.length cB')] w
      fun x w' => x = .returned (.bool (sameB f g)) ∧ Below w.heap.size w w' := by
  have hnv := run_neq_vid
  replace hd := Lib.hid hd
  go_enter Try.func64, Try.ntmps64
  go_wp2
  all_goals first | (go_ret; go_light; exact ⟨ret_bool (same_head hd.out), below_box2 _ _ _ _ _⟩) | (exfalso; apply hd.out; refine ⟨by assumption, by assumption, by assumption, ?_⟩; have hlast := ‹((f.have_.length : Int) != (g.have_.length : Int)) = false›; simpa using hlast)
theorem same_any (f g : Fl) (A A' B B' : Option Addr) (cA cA' cB cB' N : Nat) (w : World) (hN : N ≤ w.heap.size) (hr : FlRows w N f A cA B cB) (hr' : FlRows w N g A' cA' B' cB') :
    Calls Try.prog 64 #[.agg (flc f.e f.l f.i f.c f.base A f.slots.length cA B f.have_.length cB), .agg (flc g.e g.l g.i g.c g.base A' g.slots.length cA' B' g.have_.length cB')] w
      fun x w' => x = .returned (.bool (sameB f g)) ∧ Below w.heap.size w w' := by
  obtain ⟨h1, h2, h3, h4, h5, h6⟩ := hr
  obtain ⟨k1, k2, k3, k4, k5, k6⟩ := hr'
  by_cases hd : SameHead f g
  · obtain ⟨e, l, i, c, b, s, h⟩ := f
    obtain ⟨e', l', i', c', b', s', h'⟩ := g
    obtain ⟨d1, d2, d3, d4⟩ := hd
    simp only [vidEq, decide_eq_true_eq] at d1 d2 d3 d4
    obtain ⟨rfl, rfl, rfl, rfl⟩ := d1
    subst d2
    have hs : s'.length = s.length := by omega
    have hh : h'.length = h.length := by omega
    dsimp only at *
    rw [hs, hh]
    refine (same_yes e l i c b s s' h h' A A' B B' cA cA' cB cB' _ _ N w hN h1 k1 h2 k2 (by omega) (by omega) rfl hs rfl hh).mono fun x w' ⟨hx, hb⟩ => ⟨?_, hb⟩
    rw [hx]; exact ret_bool (by simp [sameB])
  · exact same_no f g A A' B B' cA cA' cB cB' w (by omega) (by omega) (by omega) (by omega) hd
end Go.Proofs.Ytcffhfcjfjfokaa
/- What the document's Together answers. -/
namespace Go.Proofs.Ytcffhfcjfjfokaa
open Go.RowKit
/-- Prev and the lists' lengths are those of the first. -/
def kinB (f g : Fl) : Bool := vidEq f.e f.l f.i f.c g.e g.l g.i g.c && decide (f.have_.length = g.have_.length)
/-- Do contents of a list contradict one another? -/
def ClashIn (fs : List Fl) : Prop := ∃ (i j : Nat) (f g : Fl), j < i ∧ fs[i]? = some f ∧ fs[j]? = some g ∧ Clash f g
/-- The error of contents that do not go together, as a relation. -/
inductive Together (fs : List Fl) : Int → Prop
  | arg (h : ∃ f ∈ fs, ¬ Sound f) : Together fs 1
  | prev (h : ∀ f ∈ fs, Sound f) (h2 : ∃ f g, fs[0]? = some g ∧ f ∈ fs ∧ kinB f g = false) : Together fs 80
  | fork (h : ∀ f ∈ fs, Sound f) (h2 : ∀ f ∈ fs, ∀ g, fs[0]? = some g → kinB f g = true) (h3 : ClashIn fs) : Together fs 82
  | ok (h : ∀ f ∈ fs, Sound f) (h2 : ∀ f ∈ fs, ∀ g, fs[0]? = some g → kinB f g = true) (h3 : ¬ ClashIn fs) : Together fs 0
/-- The first k contents do not contradict one another; the p-th none of the first k. -/
def calmTo (fs : List Fl) (k : Nat) : Prop := ∀ i j f g, j < i → i < k → fs[i]? = some f → fs[j]? = some g → ¬ Clash f g
def calmWith (fs : List Fl) (p k : Nat) : Prop := ∀ j f g, j < k → fs[p]? = some f → fs[j]? = some g → ¬ Clash f g
theorem calmTo_zero (fs : List Fl) : calmTo fs 0 := by intro i j f g _ h; omega
theorem calmWith_zero (fs : List Fl) (p : Nat) : calmWith fs p 0 := by intro j f g h; omega
theorem calmTo_all {fs : List Fl} {k : Nat} (h : calmTo fs k) (hk : fs.length ≤ k) : ¬ ClashIn fs := by
  rintro ⟨i, j, f, g, hij, hf, hg, hc⟩
  exact h i j f g hij (by have := (List.getElem?_eq_some_iff.1 hf).1; omega) hf hg hc
theorem calmTo_succ {fs : List Fl} {p : Nat} (h : calmTo fs p) (k : calmWith fs p p) : calmTo fs (p + 1) := by
  intro i j f g hij hi hf hg
  by_cases hip : i = p
  · subst hip; exact k j f g hij hf hg
  · exact h i j f g hij (by omega) hf hg
theorem calmWith_succ {fs : List Fl} {p q : Nat} {f g : Fl} (h : calmWith fs p q) (hf : fs[p]? = some f) (hg : fs[q]? = some g) (hc : forkB f g = false) : calmWith fs p (q + 1) := by
  intro j f' g' hj hf' hg'
  by_cases hjq : j = q
  · subst hjq; rw [hf] at hf'; cases hf'; rw [hg] at hg'; cases hg'
    intro hcl; unfold forkB at hc; rw [@decide_eq_true _ (Classical.propDecidable _) hcl] at hc; cases hc
  · exact h j f' g' (by omega) hf' hg'
theorem clash_of {f g : Fl} (h : forkB f g = true) : Clash f g := @of_decide_eq_true _ (Classical.propDecidable _) h
theorem calm_at {fs : List Fl} {p q : Nat} (h : calmWith fs p q) (e : p ≤ q) : calmWith fs p p := fun j f g hj => h j f g (by omega)
theorem RowAt.drew {α : Type} {w : World} {N sz : Nat} {enc : α → List Value} {A : Option Addr} {l : List α} (h : RowAt w N sz enc A l) : RowAt w.drew N sz enc A l := h
theorem kin_first (fs : List Fl) : upto (fun f => ∀ g, fs[0]? = some g → kinB f g = true) fs 1 := by
  intro j f hj hf g hg
  obtain rfl : j = 0 := by omega
  rw [hf] at hg; cases hg; simp [kinB, vidEq]
set_option maxRecDepth 100000 in
set_option maxHeartbeats 4000000 in
theorem together_any (A : Option Addr) (cA N : Nat) (fs : List Fl) (w : World) (hN : N ≤ w.heap.size) (hA : Fls w N A fs) (hl : fs.length ≤ 9223372036854775807) :
    Calls Try.prog 29 #[.slice A fs.length cA] w fun x w' => (∃ n, x = .returned (.int .i64 n) ∧ Together fs n) ∧ Below w.heap.size w w' := by
  have hnv := run_neq_vid
  go_enter Try.func29, Try.ntmps29
  go_wp2
  go_loopw [3] (fun k wr => ∃ q : Nat, k = .int .i64 q ∧ q ≤ fs.length ∧ upto Sound fs q ∧ Below w.heap.size w wr) (fun k _ => fs.length - (intOf k).toNat)
  case atStart => exact ⟨0, rfl, by omega, upto_zero _ _, Below.refl _ _⟩
  case round =>
    obtain ⟨q, rfl, hq, hup, hb⟩ := hrel
    have hsz := hb.size
    by_cases hlt : q < fs.length
    · obtain ⟨g, o, f, X, cX, Y, cY, rfl, hg, hf, ⟨c0, c1, c2, c3, c4, c5, c6⟩, hr⟩ := (hA.below hb hN).at_ hlt
      clear hA
      by_cases hs : Sound f
      · have hsb : soundB f = true := soundB_iff.2 hs
        have HS := Lib.hid hs
        clear hs
        go_wp2_with (go_at_call 65; refine (rsound_any _ _ _ _ _ _ _ (by omega) hr).mono ?_; rintro e w' ⟨rfl, hbw⟩)
        go_roundw
        case rel => go_light; exact ⟨q + 1, by go_num, by omega, upto_succ hup (fun z hz => by rw [hf.out] at hz; cases hz; exact HS.out), hb.trans (hbw.mono hsz)⟩
        case measure => go_light; simp [intOf]; omega
      · have hsb : soundB f = false := soundB_no.2 hs
        have HS := Lib.hid hs
        clear hs
        go_wp2_with (go_at_call 65; refine (rsound_any _ _ _ _ _ _ _ (by omega) hr).mono ?_; rintro e w' ⟨rfl, hbw⟩)
        go_ret
        go_light
        exact ⟨⟨1, rfl, .arg ⟨f, List.mem_of_getElem? hf.out, HS.out⟩⟩, hb.trans (hbw.mono hsz)⟩
    · go_wp2
      have Hall : ∀ f ∈ fs, Sound f := upto_all hup (by omega)
      replace Hall := Lib.hid Hall
      clear hlt hq hup
      obtain ⟨wo, rfl⟩ : ∃ wo : World, wo = wr := ⟨_, rfl⟩
      go_loopw [5] (fun k wr => ∃ q : Nat, k = .int .i64 q ∧ 1 ≤ q ∧ upto (fun f => ∀ g, fs[0]? = some g → kinB f g = true) fs q ∧ Below w.heap.size w wr) (fun k _ => fs.length - (intOf k).toNat)
      case atStart => exact ⟨1, rfl, by omega, kin_first fs, hb⟩
      case round =>
        obtain ⟨q, rfl, hq, hup, hb⟩ := hrel
        have hsz := hb.size
        by_cases hlt : q < fs.length
        · obtain ⟨g, o, f, X, cX, Y, cY, rfl, hg, hf, ⟨c0, c1, c2, c3, c4, c5, c6⟩, hr⟩ := (hA.below hb hN).at_ hlt
          obtain ⟨g', o', f0, X0, cX0, Y0, cY0, hgo, hg', hf0, ⟨d0, d1, d2, d3, d4, d5, d6⟩, hr0⟩ := (hA.below hb hN).at_ (k := 0) (by omega)
          obtain ⟨rfl, rfl⟩ : g = g' ∧ o = o' := by simpa using hgo
          simp only [Nat.zero_mul, Nat.add_zero] at d0 d1 d2 d3 d4 d5 d6
          have hpos : 0 < fs.length := by omega
          have hposi : (0 : Int) < (fs.length : Int) := by omega
          clear hA hgo
          by_cases hv : vidEq f.e f.l f.i f.c f0.e f0.l f0.i f0.c = true
          · go_wp2
            go_quiet (fail)
            go_wp2
            · go_ret
              go_light
              exact ⟨⟨80, rfl, .prev Hall.out ⟨f, f0, hf0.out, List.mem_of_getElem? hf.out, by have hh := ‹((f.have_.length : Int) != (f0.have_.length : Int)) = true›; simp at hh; simp [kinB]; intro _; omega⟩⟩, below_drewN hb _⟩
            · go_roundw
              case rel => go_light; exact ⟨q + 1, by go_num, by omega, upto_succ hup (fun z hz => by rw [hf.out] at hz; cases hz; intro g2 hg2; rw [hf0.out] at hg2; cases hg2; have hh := ‹((f.have_.length : Int) != (f0.have_.length : Int)) = false›; simp at hh; simp [kinB, hv]; omega), below_drewN hb _⟩
              case measure => go_light; simp [intOf]; omega
          · have hv' : vidEq f.e f.l f.i f.c f0.e f0.l f0.i f0.c = false := by simpa using hv
            clear hv
            go_wp2
            go_quiet (fail)
            go_wp2
            go_ret
            go_light
            exact ⟨⟨80, rfl, .prev Hall.out ⟨f, f0, hf0.out, List.mem_of_getElem? hf.out, by simp [kinB, hv']⟩⟩, below_drewN hb _⟩
        · go_wp2
          have Hkin : ∀ f ∈ fs, ∀ g, fs[0]? = some g → kinB f g = true := upto_all hup (by omega)
          replace Hkin := Lib.hid Hkin
          clear hlt hq hup
          obtain ⟨wo, rfl⟩ : ∃ wo : World, wo = wr := ⟨_, rfl⟩
          go_loopw [6] (fun k wr => ∃ p : Nat, k = .int .i64 p ∧ p ≤ fs.length ∧ calmTo fs p ∧ Below w.heap.size w wr) (fun k _ => fs.length - (intOf k).toNat)
          case atStart => exact ⟨0, rfl, by omega, calmTo_zero fs, hb⟩
          case round =>
            obtain ⟨p, rfl, hp, hcalm, hb⟩ := hrel
            have hsz := hb.size
            by_cases hlt : p < fs.length
            · go_wp2
              obtain ⟨wo, rfl⟩ : ∃ wo : World, wo = wr := ⟨_, rfl⟩
              go_loopw [7] (fun k wr => ∃ q : Nat, k = .int .i64 q ∧ q ≤ p ∧ calmWith fs p q ∧ Below w.heap.size w wr) (fun k _ => p - (intOf k).toNat)
              case atStart => exact ⟨0, rfl, by omega, calmWith_zero fs p, hb⟩
              case round =>
                obtain ⟨q, rfl, hq, hcw, hb⟩ := hrel
                have hsz := hb.size
                by_cases hltq : q < p
                · obtain ⟨g, o, f, X, cX, Y, cY, rfl, hg, hf, ⟨c0, c1, c2, c3, c4, c5, c6⟩, hr⟩ := (hA.below hb hN).at_ hlt
                  obtain ⟨g', o', f0, X0, cX0, Y0, cY0, hgo, hg', hf0, ⟨d0, d1, d2, d3, d4, d5, d6⟩, hr0⟩ := (hA.below hb hN).at_ (k := q) (by omega)
                  obtain ⟨rfl, rfl⟩ : g = g' ∧ o = o' := by simpa using hgo
                  have hql : q < fs.length := by omega
                  have s1 := Hall.out f (List.mem_of_getElem? hf.out)
                  have s2 := Hall.out f0 (List.mem_of_getElem? hf0.out)
                  have S1 := Lib.hid s1
                  have S2 := Lib.hid s2
                  clear hA hgo s1 s2
                  go_wp2
                  go_still_tail 8, (by kernel_rfl)
                  change wpList _ _ _ _ _ wr.drew
                  go_wp2_with (go_at_call 66; refine (fork_any (w := wr.drew) f f0 _ _ _ _ _ _ _ _ N (by show N ≤ wr.heap.size; omega) hr.slots.drew hr0.slots.drew S1.out.base0 (by have := S1.out.base; omega) S2.out.base0 (by have := S2.out.base; omega) S1.out.held S2.out.held).mono ?_; rintro e w' ⟨rfl, hbw⟩)
                  · go_ret
                    go_light
                    exact ⟨⟨82, rfl, .fork Hall.out Hkin.out ⟨p, q, f, f0, hltq, hf.out, hf0.out, clash_of (by assumption)⟩⟩, (Below.drew hb).trans (hbw.mono (by show _ ≤ wr.heap.size; omega))⟩
                  · go_roundw
                    case rel => go_light; exact ⟨q + 1, by go_num, by omega, calmWith_succ hcw hf.out hf0.out (by assumption), (Below.drew hb).trans (hbw.mono (by show _ ≤ wr.heap.size; omega))⟩
                    case measure => go_light; simp [intOf]; omega
                · go_wp2
                  go_roundw
                  case rel => go_light; exact ⟨p + 1, by go_num, by omega, calmTo_succ hcalm (calm_at hcw (by omega)), hb⟩
                  case measure => go_light; simp [intOf]; omega
            · go_wp2
              go_ret
              go_light
              exact ⟨⟨0, rfl, .ok Hall.out Hkin.out (calmTo_all hcalm (by omega))⟩, hb⟩
end Go.Proofs.Ytcffhfcjfjfokaa
/- What the closure in the program's joined answers. -/
namespace Go.Proofs.Ytcffhfcjfjfokaa
open Go.RowKit
def hadB (fs : List Fl) (s : Int × Int) : Bool := fs.any (fun f => havB f.have_ s.1 s.2)
theorem hadB_yes {fs : List Fl} {s : Int × Int} {q : Nat} {f : Fl} (hf : fs[q]? = some f) (h : havB f.have_ s.1 s.2 = true) : true = hadB fs s := by
  symm; exact List.any_eq_true.2 ⟨f, List.mem_of_getElem? hf, h⟩
theorem hadB_no {fs : List Fl} {s : Int × Int} {q : Nat} (h : upto (fun f => havB f.have_ s.1 s.2 = false) fs q) (hq : fs.length ≤ q) : false = hadB fs s := by
  symm; exact List.any_eq_false.2 (fun f hf => by rw [upto_all h hq f hf]; decide)
set_option maxRecDepth 100000 in
set_option maxHeartbeats 2000000 in
theorem had_any (A : Option Addr) (cA N bx : Nat) (fs : List Fl) (s q : Int) (w : World) (hN : N ≤ w.heap.size) (hA : Fls w N A fs) (hl : fs.length ≤ 9223372036854775807)
    (hbx : bx < w.heap.size) (hcx : w.cell? ⟨bx, 0, none⟩ = some (.slice A fs.length cA)) (hs0 : 0 ≤ s) (hs1 : ∀ f ∈ fs, s < f.have_.length) :
    Calls Try.prog 116 #[.agg #[.int .i64 s, .int .i64 q], .pointer (some ⟨bx, 0, none⟩)] w fun x w' => x = .returned (.bool (hadB fs (s, q))) ∧ Below w.heap.size w w' := by
  go_enter Try.func116, Try.ntmps116
  go_wp2
  go_loopw [8] (fun k wr => ∃ i : Nat, k = .int .i64 i ∧ i ≤ fs.length ∧ upto (fun f => havB f.have_ s q = false) fs i ∧ Below (w.heap.size + 1) (box1 w #[.int .i64 s, .int .i64 q] 66) wr) (fun k _ => fs.length - (intOf k).toNat)
  case atStart => exact ⟨0, rfl, by omega, upto_zero _ _, Below.refl _ _⟩
  case round =>
    obtain ⟨i, rfl, hi, hup, hb⟩ := hrel
    obtain ⟨hb0, hc, -, hsz⟩ := box1_facts hb
    by_cases hlt : i < fs.length
    · obtain ⟨g, o, f, X, cX, Y, cY, rfl, hg, hf, ⟨c0, c1, c2, c3, c4, c5, c6⟩, hr⟩ := (hA.below hb0 hN).at_ hlt
      have hgw : g < wr.heap.size := by omega
      have hsl := hs1 f (List.mem_of_getElem? hf.out)
      clear hA hs1
      go_wp2_with (go_at_call 61; refine (has_any _ _ _ _ _ _ _ _ N f.have_ s q _ hs0 hsl (by simp only [World.size_alloc]; omega) (by exact hr.have_.below ((Below.refl N wr).alloc (by omega) _) (Nat.le_refl _))).mono ?_; rintro e w2 ⟨rfl, hbw2⟩)
      · go_ret
        go_light
        rw [World.size_alloc] at hbw2
        exact ⟨ret_bool (hadB_yes hf.out (by assumption)), (hb0.alloc (by omega) _).trans (hbw2.mono (by omega))⟩
      · go_roundw
        case rel => go_light; rw [World.size_alloc] at hbw2; exact ⟨i + 1, by go_num, by omega, upto_succ hup (fun z hz => by rw [hf.out] at hz; cases hz; assumption), (hb.alloc (by omega) _).trans (hbw2.mono (by omega))⟩
        case measure => go_light; simp [intOf]; omega
    · go_wp2
      go_ret
      go_light
      exact ⟨ret_bool (hadB_no hup (by omega)), hb0⟩
end Go.Proofs.Ytcffhfcjfjfokaa
/- What the document's At answers. -/
namespace Go.Proofs.Ytcffhfcjfjfokaa
open Go.RowKit
set_option maxHeartbeats 2000000 in
theorem at_any (A : Option Addr) (cA N : Nat) (fs : List Fl) (pos : Int) (w : World) (hN : N ≤ w.heap.size) (hA : Fls w N A fs) (hl : fs.length ≤ 9223372036854775807)
    (hp0 : 0 ≤ pos) (hp1 : pos ≤ 4611686018427387905) (hbs : ∀ f ∈ fs, 0 ≤ f.base ∧ f.base ≤ 4611686018427387904) :
    Calls Try.prog 31 #[.slice A fs.length cA, .int .i64 pos] w fun x w' => x = .returned (.agg #[.int .i64 (atOf fs pos).1, .int .i64 (atOf fs pos).2]) ∧ Below w.heap.size w w' := by
  go_enter Try.func31, Try.ntmps31
  go_wp2
  go_loopw [5] (fun k wr => ∃ q : Nat, k = .int .i64 q ∧ q ≤ fs.length ∧ upto (fun f => atF pos f = none) fs q ∧ Below (w.heap.size + 1) (box1 w #[.int .i64 0, .int .i64 0] 66) wr) (fun k _ => fs.length - (intOf k).toNat)
  case atStart => exact ⟨0, rfl, by omega, upto_zero _ _, Below.refl _ _⟩
  case round =>
    obtain ⟨q, rfl, hq, hup, hb⟩ := hrel
    obtain ⟨hbw, hc, hfz, hsz⟩ := box1_facts hb
    by_cases hlt : q < fs.length
    · obtain ⟨g, o, f, X, cX, Y, cY, rfl, hg, hf, ⟨c0, c1, c2, c3, c4, c5, c6⟩, hr⟩ := (hA.below hbw hN).at_ hlt
      obtain ⟨hf0, hf1⟩ := hbs f (List.mem_of_getElem? hf.out)
      have hgw : g < wr.heap.size := by omega
      by_cases hin : 0 ≤ pos - f.base - 1
      · by_cases hin2 : pos - f.base - 1 < f.slots.length
        · obtain ⟨j, hj⟩ : ∃ j : Nat, pos - f.base - 1 = j := ⟨(pos - f.base - 1).toNat, by omega⟩
          obtain ⟨g', o', x, y, rfl, hg', hx, k1, k2⟩ := hr.slots.slot (k := j) (by omega)
          have hgw' : g' < wr.heap.size := by omega
          have hjl : j < f.slots.length := by omega
          have hat : atF pos f = some (x, y) := by unfold atF; rw [if_pos hin, hj, Int.toNat_natCast, hx.out]
          have HR := Lib.hid (atOf_here hup hf.out hat)
          clear hat hA hr hbs
          go_wp2
          refine bodyPost_ret (v := .agg #[.int .i64 x, .int .i64 y]) (by simp [results, Try.results31, go_sem, hc]) rfl ⟨by rw [HR.out], ?_⟩
          exact (hbw.setCell (p := ⟨w.heap.size, 0, none⟩) (Nat.le_refl _) _).setCell (p := ⟨w.heap.size, 1, none⟩) (Nat.le_refl _) _
        · have hat : atF pos f = none := by unfold atF; rw [if_pos hin]; exact List.getElem?_eq_none (by omega)
          have HA := Lib.hid hat
          clear hat hA hr hbs
          go_wp2
          all_goals
            go_roundw
            case rel => go_light; exact ⟨q + 1, by go_num, by omega, upto_succ hup (fun z hz => by rw [hf.out] at hz; cases hz; exact HA.out), hb⟩
            case measure => go_light; simp [intOf]; omega
      · have hat : atF pos f = none := by unfold atF; rw [if_neg hin]
        have HA := Lib.hid hat
        clear hat hA hr hbs
        go_wp2
        all_goals
          go_roundw
          case rel => go_light; exact ⟨q + 1, by go_num, by omega, upto_succ hup (fun z hz => by rw [hf.out] at hz; cases hz; exact HA.out), hb⟩
          case measure => go_light; simp [intOf]; omega
    · have HR := Lib.hid (atOf_none hup (by omega))
      clear hA hbs
      go_wp2
      refine bodyPost_ret (v := .agg #[.int .i64 0, .int .i64 0]) (by simp [results, Try.results31, go_sem, hc]) rfl ⟨by rw [HR.out], ?_⟩
      exact (hbw.setCell (p := ⟨w.heap.size, 0, none⟩) (Nat.le_refl _) _).setCell (p := ⟨w.heap.size, 1, none⟩) (Nat.le_refl _) _
end Go.Proofs.Ytcffhfcjfjfokaa
/- What the document's whole answers. -/
namespace Go.Proofs.Ytcffhfcjfjfokaa
open Go.RowKit
def wholeAtB (fs : List Fl) (s : Int × Int) : Bool := !(s.2 == 0) && fs.any (fun f => rhasB f.have_ s.1 s.2)
theorem wholeAt_yes {fs : List Fl} {s : Int × Int} {q : Nat} {f : Fl} (h0 : ¬ s.2 = 0) (hf : fs[q]? = some f) (h : rhasB f.have_ s.1 s.2 = true) : true = wholeAtB fs s := by
  symm; unfold wholeAtB
  rw [Bool.and_eq_true]
  exact ⟨by simpa using h0, List.any_eq_true.2 ⟨f, List.mem_of_getElem? hf, h⟩⟩
theorem wholeAt_no {fs : List Fl} {s : Int × Int} {q : Nat} (h : upto (fun f => rhasB f.have_ s.1 s.2 = false) fs q) (hq : fs.length ≤ q) : false = wholeAtB fs s := by
  symm; unfold wholeAtB
  rw [List.any_eq_false.2 (fun f hf => by rw [upto_all h hq f hf]; decide), Bool.and_false]
set_option maxRecDepth 100000 in
set_option maxHeartbeats 2000000 in
theorem whole98_any (A : Option Addr) (cA N : Nat) (fs : List Fl) (pos : Int) (w : World) (hN : N ≤ w.heap.size) (hA : Fls w N A fs) (hl : fs.length ≤ 9223372036854775807)
    (hp0 : 0 ≤ pos) (hp1 : pos ≤ 4611686018427387905) (hbs : ∀ f ∈ fs, 0 ≤ f.base ∧ f.base ≤ 4611686018427387904) :
    Calls Try.prog 98 #[.slice A fs.length cA, .int .i64 pos] w fun x w' => x = .returned (.bool (wholeAtB fs (atOf fs pos))) ∧ Below w.heap.size w w' := by
  obtain ⟨s, hs⟩ : ∃ s, s = atOf fs pos := ⟨_, rfl⟩
  have HAt : ∀ W : World, w.heap.size ≤ W.heap.size → Fls W N A fs → Calls Try.prog 31 #[.slice A fs.length cA, .int .i64 pos] W fun x w' => x = .returned (.agg #[.int .i64 s.1, .int .i64 s.2]) ∧ Below W.heap.size W w' := fun W h1 h2 => by
    rw [hs]; exact at_any A cA N fs pos W (by omega) h2 hl hp0 hp1 hbs
  rw [← hs]
  replace HAt := Lib.hid HAt
  clear hs
  by_cases h0 : s.2 = 0
  · have H0 := Lib.hid h0
    have hd : (s.2 == 0) = true := by simpa using h0
    clear h0
    go_enter Try.func98, Try.ntmps98
    go_wp2_with (go_at_call 31; refine (HAt.out _ (by omega) hA).mono ?_; rintro e w' ⟨rfl, hbw⟩)
    go_ret
    go_light
    exact ⟨ret_bool (by simp [wholeAtB, H0.out]), hbw.alloc hbw.size _⟩
  · have H0 := Lib.hid h0
    have hd : (s.2 == 0) = false := by simpa using h0
    clear h0
    go_enter Try.func98, Try.ntmps98
    go_wp2_with (go_at_call 31; refine (HAt.out _ (by omega) hA).mono ?_; rintro e w' ⟨rfl, hbw⟩)
    go_loopw [6] (fun k wr => ∃ q : Nat, k = .int .i64 q ∧ q ≤ fs.length ∧ upto (fun f => rhasB f.have_ s.1 s.2 = false) fs q ∧ Below (w'.heap.size + 1) (box1 w' #[.int .i64 s.1, .int .i64 s.2] 66) wr) (fun k _ => fs.length - (intOf k).toNat)
    case atStart => exact ⟨0, rfl, by omega, upto_zero _ _, Below.refl _ _⟩
    case round =>
      obtain ⟨q, rfl, hq, hup, hb⟩ := hrel
      obtain ⟨hb0, hc, -, hsz⟩ := box1_facts hb
      have hbb := hbw.trans (hb0.mono hbw.size)
      have hsw := hbw.size
      by_cases hlt : q < fs.length
      · obtain ⟨g, o, f, X, cX, Y, cY, rfl, hg, hf, ⟨c0, c1, c2, c3, c4, c5, c6⟩, hr⟩ := (hA.below hbb hN).at_ hlt
        have hlh := hr.lenH
        have hch := hr.capH
        clear hA
        go_wp2
        go_still_tail 5, (by kernel_rfl)
        change wpList _ _ _ _ _ wr.drew
        go_wp2_with (go_at_call 62; refine (rhas_any (w := wr.drew) _ _ _ _ _ _ _ _ N f.have_ s.1 s.2 (by omega) (by show N ≤ wr.heap.size; omega) hr.have_).mono ?_; rintro e w2 ⟨rfl, hbw2⟩)
        · go_ret
          go_light
          exact ⟨ret_bool (wholeAt_yes H0.out hf.out (by assumption)), (Below.drew hbb).trans (hbw2.mono (by show _ ≤ wr.heap.size; omega))⟩
        · go_roundw
          case rel => go_light; exact ⟨q + 1, by go_num, by omega, upto_succ hup (fun z hz => by rw [hf.out] at hz; cases hz; assumption), (Below.drew hb).trans (hbw2.mono (by show _ ≤ wr.heap.size; omega))⟩
          case measure => go_light; simp [intOf]; omega
      · go_wp2
        go_ret
        go_light
        exact ⟨ret_bool (wholeAt_no hup (by omega)), hbb⟩
end Go.Proofs.Ytcffhfcjfjfokaa
/- What the document's end answers. -/
namespace Go.Proofs.Ytcffhfcjfjfokaa
open Go.RowKit
/-- k is the cut: all positions from the base's on are whole, the next is not. -/
structure IsCut (fs : List Fl) (k : Int) : Prop where
  low : baseOf fs ≤ k
  all : ∀ p, baseOf fs < p → p ≤ k → wholeAtB fs (atOf fs p) = true
  stop : wholeAtB fs (atOf fs (k + 1)) = false
set_option maxRecDepth 100000 in
set_option maxHeartbeats 2000000 in
/-- .. where a bound on the cut holds: no more than 2048 positions from the base's on are whole. -/
theorem end_any (A : Option Addr) (cA N : Nat) (fs : List Fl) (w : World) (hN : N ≤ w.heap.size) (hA : Fls w N A fs) (hl : fs.length ≤ 9223372036854775807)
    (hbs : ∀ f ∈ fs, 0 ≤ f.base ∧ f.base ≤ 4611686018427387904) (hb0 : 0 ≤ baseOf fs)
    (hbd : ∀ n : Nat, (∀ p, baseOf fs < p → p ≤ baseOf fs + n → wholeAtB fs (atOf fs p) = true) → n ≤ 2048 ∧ baseOf fs + n ≤ 4611686018427387904) :
    Calls Try.prog 54 #[.slice A fs.length cA] w fun x w' => (∃ k, x = .returned (.int .i64 k) ∧ IsCut fs k) ∧ Below w.heap.size w w' := by
  obtain ⟨b, hb⟩ : ∃ b, b = baseOf fs := ⟨_, rfl⟩
  have HB := Lib.hid hbd
  have HS := Lib.hid hbs
  rw [← hb] at hb0
  clear hbd hbs
  go_enter Try.func54, Try.ntmps54
  go_wp2_with (go_at_call 30; refine (base_any A cA N fs _ hA hl).mono ?_; rintro e w' ⟨rfl, rfl⟩; rw [← hb])
  replace hb := Lib.hid hb
  go_loopw [3, 4] (fun k c wr => ∃ i : Nat, c = .int .i64 i ∧ k = .int .i64 (b + i) ∧ (∀ p, baseOf fs < p → p ≤ baseOf fs + i → wholeAtB fs (atOf fs p) = true) ∧ Below w.heap.size w wr) (fun _ c _ => 2049 - (intOf c).toNat)
  case atStart => exact ⟨0, rfl, by simp [hb.out], by intro p h1 h2; simp at h2; omega, Below.refl _ _⟩
  case round =>
    obtain ⟨i, rfl, rfl, hall, hbw⟩ := hrel
    have hsz := hbw.size
    obtain ⟨hi1, hi2⟩ := HB.out i hall
    rw [← hb.out] at hi2
    have HAll := Lib.hid hall
    clear hall
    cases hwh : wholeAtB fs (atOf fs (b + i + 1)) with
    | true =>
      have HW := Lib.hid hwh
      clear hwh
      go_wp2_with (go_at_call 98; refine (whole98_any A cA N fs _ _ (by omega) (hA.below hbw hN) hl (by omega) (by omega) HS.out).mono ?_; rw [HW.out]; rintro e w' ⟨rfl, hbw2⟩)
      go_roundw
      case rel =>
        go_light
        refine ⟨i + 1, by go_num, by congr 1; push_cast; omega, fun p h1 h2 => ?_, hbw.trans (hbw2.mono hsz)⟩
        by_cases hp : p ≤ baseOf fs + i
        · exact HAll.out p h1 hp
        · have : p = b + i + 1 := by have := hb.out; push_cast at h2; omega
          rw [this]; exact HW.out
      case measure => go_light; simp [intOf]; omega
    | false =>
      have HW := Lib.hid hwh
      clear hwh
      go_wp2_with (go_at_call 98; refine (whole98_any A cA N fs _ _ (by omega) (hA.below hbw hN) hl (by omega) (by omega) HS.out).mono ?_; rw [HW.out]; rintro e w' ⟨rfl, hbw2⟩)
      go_ret
      go_light
      exact ⟨⟨b + i, rfl, ⟨by have := hb.out; omega, fun p h1 h2 => HAll.out p h1 (by have := hb.out; omega), HW.out⟩⟩, hbw.trans (hbw2.mono hsz)⟩
end Go.Proofs.Ytcffhfcjfjfokaa
/- The plain law of the cut: what positions are known, that they are known as one slot, how many there can be. No program in sight. -/
namespace Go.Proofs.Ytcffhfcjfjfokaa

/-- One of the contents knows the slot at the position. -/
def Known (fs : List Fl) (pos : Int) (s : Int × Int) : Prop := ∃ (i : Nat) (g : Fl) (k : Nat), fs[i]? = some g ∧ g.slots[k]? = some s ∧ pos = g.base + 1 + k
/-- Contents that go together: sound, of one view, without a clash. -/
structure Fit (fs : List Fl) : Prop where
  sound : ∀ f ∈ fs, Sound f
  kin : ∀ f ∈ fs, ∀ g, fs[0]? = some g → kinB f g = true
  calm : ¬ ClashIn fs
theorem fit_iff {fs : List Fl} : Together fs 0 ↔ Fit fs := by
  constructor
  · intro h; cases h with | ok a b c => exact ⟨a, b, c⟩
  · intro h; exact .ok h.sound h.kin h.calm

theorem no_clash {fs : List Fl} (h : Fit fs) {i j : Nat} {f g : Fl} (hf : fs[i]? = some f) (hg : fs[j]? = some g) (hij : i ≠ j) : ¬ Clash f g := by
  intro hc
  rcases Nat.lt_or_gt_of_ne hij with hlt | hgt
  · obtain ⟨a, b, s, t, h1, h2, h3⟩ := hc
    exact h.calm ⟨j, i, g, f, hlt, hg, hf, b, a, t, s, h2, h1, fun e => h3 ⟨fun x => (e.1 x.symm).symm, fun x => (e.2 x.symm).symm⟩⟩
  · exact h.calm ⟨i, j, f, g, hgt, hf, hg, hc⟩

theorem known_one {fs : List Fl} (h : Fit fs) {p q : Int} {s t : Int × Int} (h1 : Known fs p s) (h2 : Known fs q t) : p = q ↔ s = t := by
  obtain ⟨i, f, k, hf, hs, rfl⟩ := h1
  obtain ⟨j, g, l, hg, ht, rfl⟩ := h2
  by_cases hij : i = j
  · subst hij
    rw [hf] at hg; cases hg
    constructor
    · intro e
      obtain rfl : k = l := by omega
      rw [hs] at ht; exact Option.some.inj ht
    · intro e
      subst e
      have hn := (h.sound f (List.mem_of_getElem? hf)).nodup
      have : k = l := by
        by_cases hkl : k = l
        · exact hkl
        · exact absurd ht (apart_of_nodup hn hkl hs)
      omega
  · have hc := no_clash h hf hg hij
    by_cases hst : s = t
    · refine ⟨fun _ => hst, fun _ => ?_⟩
      by_cases hp : f.base + k = g.base + l
      · omega
      · exact absurd ⟨k, l, s, t, hs, ht, fun e => hp (e.2 hst)⟩ hc
    · refine ⟨fun e => absurd ⟨k, l, s, t, hs, ht, fun x => hst (x.1 (by omega))⟩ hc, fun e => absurd e hst⟩

theorem known_slot {fs : List Fl} (h : Fit fs) {p : Int} {s : Int × Int} (h1 : Known fs p s) : ∃ f ∈ fs, 0 ≤ s.1 ∧ s.1 < f.have_.length ∧ 1 ≤ s.2 ∧ s.2 ≤ 4611686018427387904 ∧ f.base < p ∧ p ≤ 4611686018427387904 := by
  obtain ⟨i, f, k, hf, hs, rfl⟩ := h1
  have hm := List.mem_of_getElem? hf
  have hS := h.sound f hm
  obtain ⟨a, b, c, d⟩ := hS.slot s (List.mem_of_getElem? hs)
  have := hS.base
  have hk := (List.getElem?_eq_some_iff.1 hs).1
  exact ⟨f, hm, a, b, c, d, by omega, by omega⟩

theorem atF_known {f : Fl} {p : Int} {s : Int × Int} : atF p f = some s ↔ ∃ k : Nat, f.slots[k]? = some s ∧ p = f.base + 1 + k := by
  unfold atF
  constructor
  · intro h
    by_cases h0 : 0 ≤ p - f.base - 1
    · rw [if_pos h0] at h; exact ⟨_, h, by omega⟩
    · rw [if_neg h0] at h; cases h
  · rintro ⟨k, hk, rfl⟩
    rw [if_pos (by omega)]
    have : (f.base + 1 + (k : Int) - f.base - 1).toNat = k := by omega
    rw [this]; exact hk

theorem atOf_known {fs : List Fl} (h : Fit fs) {p : Int} {s : Int × Int} (hk : Known fs p s) : atOf fs p = s := by
  unfold atOf
  cases hx : fs.findSome? (atF p) with
  | none =>
    exfalso
    rw [List.findSome?_eq_none_iff] at hx
    obtain ⟨i, f, k, hf, hs, hp⟩ := hk
    have := hx f (List.mem_of_getElem? hf)
    rw [atF_known.2 ⟨k, hs, hp⟩] at this; cases this
  | some t =>
    obtain ⟨f, hf, ht⟩ := List.exists_of_findSome?_eq_some hx
    obtain ⟨k, hk', hp⟩ := atF_known.1 ht
    obtain ⟨i, hi⟩ := List.mem_iff_getElem?.1 hf
    exact (known_one h ⟨i, f, k, hi, hk', hp⟩ hk).1 rfl
theorem atOf_unknown {fs : List Fl} {p : Int} (hk : ∀ s, ¬ Known fs p s) : atOf fs p = (0, 0) := by
  unfold atOf
  rw [List.findSome?_eq_none_iff.2 (fun f hf => ?_)]; · rfl
  cases hx : atF p f with
  | none => rfl
  | some t =>
    obtain ⟨k, hk', hp⟩ := atF_known.1 hx
    obtain ⟨i, hi⟩ := List.mem_iff_getElem?.1 hf
    exact absurd ⟨i, f, k, hi, hk', hp⟩ (hk t)

theorem one_len {fs : List Fl} (h : Fit fs) {f g : Fl} (hf : f ∈ fs) (hg : g ∈ fs) : f.have_.length = g.have_.length := by
  obtain ⟨i, hi⟩ := List.mem_iff_getElem?.1 hf
  have h0 : 0 < fs.length := by have := (List.getElem?_eq_some_iff.1 hi).1; omega
  have e0 : fs[0]? = some fs[0] := List.getElem?_eq_getElem h0
  have a := h.kin f hf _ e0
  have b := h.kin g hg _ e0
  simp only [kinB, Bool.and_eq_true, decide_eq_true_eq] at a b
  omega

theorem had_rhas {fs : List Fl} (h : Fit fs) {p : Int} {s : Int × Int} (hk : Known fs p s) {f : Fl} (hf : f ∈ fs) : rhasB f.have_ s.1 s.2 = havB f.have_ s.1 s.2 := by
  obtain ⟨g, hg, a, b, _⟩ := known_slot h hk
  have := one_len h hf hg
  unfold rhasB havB
  exact decide_eq_decide.2 ⟨fun x => x.2.2, fun x => ⟨a, by omega, x⟩⟩

theorem whole_iff {fs : List Fl} (h : Fit fs) {p : Int} : wholeAtB fs (atOf fs p) = true ↔ ∃ s, Known fs p s ∧ hadB fs s = true := by
  by_cases hk : ∃ s, Known fs p s
  · obtain ⟨s, hs⟩ := hk
    rw [atOf_known h hs]
    obtain ⟨_, _, _, _, c, _⟩ := known_slot h hs
    have e : wholeAtB fs s = hadB fs s := by
      unfold wholeAtB hadB
      have h0 : (s.2 == 0) = false := by simp; omega
      rw [h0]
      simp only [Bool.not_false, Bool.true_and]
      rw [Bool.eq_iff_iff, List.any_eq_true, List.any_eq_true]
      exact ⟨fun ⟨f, hf, hx⟩ => ⟨f, hf, by rw [← had_rhas h hs hf]; exact hx⟩, fun ⟨f, hf, hx⟩ => ⟨f, hf, by rw [had_rhas h hs hf]; exact hx⟩⟩
    rw [e]
    exact ⟨fun x => ⟨s, hs, x⟩, fun ⟨t, ht, x⟩ => by rw [(known_one h hs ht).1 rfl]; exact x⟩
  · rw [atOf_unknown (fun s hs => hk ⟨s, hs⟩)]
    constructor
    · intro x; simp [wholeAtB] at x
    · rintro ⟨s, hs, _⟩; exact absurd ⟨s, hs⟩ hk

theorem baseTo_nonneg (fs : List Fl) (k : Nat) : 0 ≤ baseTo fs k := by
  induction k with
  | zero => simp [baseTo]
  | succ k ih =>
    by_cases hk : k < fs.length
    · rw [baseTo_succ (List.getElem?_eq_getElem hk)]; split <;> omega
    · have : baseTo fs (k + 1) = baseTo fs k := by rw [baseTo_all fs (by omega), baseTo_all fs (by omega)]
      omega
theorem baseTo_mono (fs : List Fl) (k : Nat) : baseTo fs k ≤ baseTo fs (k + 1) := by
  by_cases hk : k < fs.length
  · rw [baseTo_succ (List.getElem?_eq_getElem hk)]; split <;> omega
  · have : baseTo fs (k + 1) = baseTo fs k := by rw [baseTo_all fs (by omega), baseTo_all fs (by omega)]
    omega
theorem baseTo_of (fs : List Fl) (k : Nat) : baseTo fs k = 0 ∨ ∃ f ∈ fs, baseTo fs k = f.base := by
  induction k with
  | zero => left; simp [baseTo]
  | succ k ih =>
    by_cases hk : k < fs.length
    · rw [baseTo_succ (List.getElem?_eq_getElem hk)]
      split
      · right; exact ⟨fs[k], List.getElem_mem hk, rfl⟩
      · exact ih
    · have : baseTo fs (k + 1) = baseTo fs k := by rw [baseTo_all fs (by omega), baseTo_all fs (by omega)]
      rw [this]; exact ih
theorem base_nonneg (fs : List Fl) : 0 ≤ baseOf fs := by rw [← baseTo_all fs (Nat.le_refl _)]; exact baseTo_nonneg fs _
theorem base_le {fs : List Fl} (h : ∀ f ∈ fs, Sound f) : baseOf fs ≤ 4611686018427387904 := by
  rw [← baseTo_all fs (Nat.le_refl _)]
  rcases baseTo_of fs fs.length with e | ⟨f, hf, e⟩
  · omega
  · have := (h f hf).base; omega

theorem baseTo_ge (fs : List Fl) {k j : Nat} {f : Fl} (hf : fs[j]? = some f) (hj : j < k) : f.base ≤ baseTo fs k := by
  induction k with
  | zero => omega
  | succ k ih =>
    have := baseTo_mono fs k
    by_cases hjk : j = k
    · subst hjk; rw [baseTo_succ hf]; split <;> omega
    · have := ih (by omega); omega
theorem base_ge {fs : List Fl} {f : Fl} (hf : f ∈ fs) : f.base ≤ baseOf fs := by
  obtain ⟨j, hj⟩ := List.mem_iff_getElem?.1 hf
  rw [← baseTo_all fs (Nat.le_refl _)]
  exact baseTo_ge fs hj (List.getElem?_eq_some_iff.1 hj).1

/-- No more than 128 positions behind the greatest base are known: none knows more than 128 behind its own. -/
theorem cut_bound {fs : List Fl} (h : Fit fs) {n : Nat} (hn : ∀ p, baseOf fs < p → p ≤ baseOf fs + n → wholeAtB fs (atOf fs p) = true) : n ≤ 2048 ∧ baseOf fs + n ≤ 4611686018427387904 := by
  by_cases h0 : n = 0
  · subst h0; have := base_le h.sound; exact ⟨by omega, by simpa using this⟩
  · obtain ⟨s, hs, _⟩ := (whole_iff h).1 (hn (baseOf fs + n) (by omega) (Int.le_refl _))
    obtain ⟨_, _, _, _, _, _, _, hle⟩ := known_slot h hs
    refine ⟨?_, hle⟩
    obtain ⟨i, f, k, hf, hs, he⟩ := hs
    have hm := List.mem_of_getElem? hf
    have := base_ge hm
    have := (h.sound f hm).held
    have := (List.getElem?_eq_some_iff.1 hs).1
    omega

theorem cut_one {fs : List Fl} {a b : Int} (h : IsCut fs a) (k : IsCut fs b) : a = b := by
  rcases Int.lt_trichotomy a b with hlt | he | hgt
  · have := k.all (a + 1) (by have := h.low; omega) (by omega)
    rw [h.stop] at this; cases this
  · exact he
  · have := h.all (b + 1) (by have := k.low; omega) (by omega)
    rw [k.stop] at this; cases this
theorem together_one {fs : List Fl} {a b : Int} (h : Together fs a) (k : Together fs b) : a = b := by
  cases h with
  | arg x =>
    obtain ⟨f, hf, hn⟩ := x
    cases k with
    | arg _ => rfl
    | prev y _ => exact absurd (y f hf) hn
    | fork y _ _ => exact absurd (y f hf) hn
    | ok y _ _ => exact absurd (y f hf) hn
  | prev x x2 =>
    obtain ⟨f, g, hg, hf, hn⟩ := x2
    cases k with
    | arg y => obtain ⟨f', hf', hn'⟩ := y; exact absurd (x f' hf') hn'
    | prev _ _ => rfl
    | fork _ y _ => rw [y f hf g hg] at hn; cases hn
    | ok _ y _ => rw [y f hf g hg] at hn; cases hn
  | fork x x2 x3 =>
    cases k with
    | arg y => obtain ⟨f', hf', hn'⟩ := y; exact absurd (x f' hf') hn'
    | prev _ y => obtain ⟨f, g, hg, hf, hn⟩ := y; rw [x2 f hf g hg] at hn; cases hn
    | fork _ _ _ => rfl
    | ok _ _ y => exact absurd x3 y
  | ok x x2 x3 =>
    cases k with
    | arg y => obtain ⟨f', hf', hn'⟩ := y; exact absurd (x f' hf') hn'
    | prev _ y => obtain ⟨f, g, hg, hf, hn⟩ := y; rw [x2 f hf g hg] at hn; cases hn
    | fork _ _ y => exact absurd y x3
    | ok _ _ _ => rfl

end Go.Proofs.Ytcffhfcjfjfokaa
/- A region that draws its order: reads, then one call that may make memory, then reads again (guarded ones too). One way through it, in the text's order. -/
namespace Go.Proofs.Ytcffhfcjfjfokaa
open Go Go.RowKit
section
variable {P : Program} {ops : Array Oper} {md : Region.Mode} {w : World}
/-- wpStill, shut: nothing looks into it. -/
structure WS (P : Program) (ops : Array Oper) (w : World) (Q : Act → Prop) (l : List Oper) (a : Act) : Prop where
  out : wpStill P ops w Q l a
theorem WS.nil {Q : Act → Prop} {a : Act} (h : Q a) : WS P ops w Q [] a := ⟨h⟩
theorem WS.step {Q : Act → Prop} {a : Act} {o : Oper} {rest : List Oper}
    (h : ∀ K : Act → Prop, Hid (∀ a, WS P ops w Q rest a → K a) → if Region.wanted o (yielded ops a.tmps) then o.still P a w K else K (a.put o.dst undef)) : WS P ops w Q (o :: rest) a :=
  ⟨wpStill_step fun K hK => h K (Lib.hid fun a h => hK a h.out)⟩
/-- Every operation behind number n waits for one from n on. -/
def laterB (md : Region.Mode) (ops : Array Oper) (n : Nat) : Bool :=
  (List.range ops.size).all fun t => decide (t ≤ n) || (List.range t).any fun j => decide (n ≤ j) && Region.waitsFor md ops t j
/-- While an operation ahead of n has not come up, none from n on may. -/
theorem none_later {n : Nat} {listed : Array Bool} (hs : Region.sinkB md ops n = true) (hc : laterB md ops n = true) (hn : n < ops.size) (inv : HeadInv md ops n listed) :
    ∀ (d i : Nat), n - i ≤ d → i < n → listed.getD i true = false → ∀ t, n ≤ t → t ∉ Region.ready md ops listed := by
  intro d
  induction d with
  | zero => intro i hd hi; omega
  | succ d ih =>
    intro i hd hi hun t ht hr
    obtain ⟨_, ot, hot, hall⟩ := mem_ready.1 hr
    have htlt : t < ops.size := (Array.getElem?_eq_some_iff.1 hot).1
    -- an operation that t waits for and that has not come up
    have key : ∃ j, Region.waitsFor md ops t j = true ∧ listed.getD j true = false := by
      by_cases htn : t = n
      · subst htn
        obtain ⟨j, hj, hj2⟩ := List.any_eq_true.1 (List.all_eq_true.1 hs i (List.mem_range.2 hi))
        simp only [Bool.and_eq_true, decide_eq_true_eq] at hj2
        have hjle := List.mem_range.1 hj
        by_cases hjt : j = t
        · subst hjt; exact ⟨i, hj2.2, hun⟩
        · exfalso
          obtain ⟨oj, hoj, e, he, hb, hon⟩ := Region.waitsFor_spec hj2.2
          cases hl : listed.getD j false with
          | true => have h2 := inv.closed j oj hoj hl e he hb; rw [hon, getD_both hun] at h2; cases h2
          | false => exact ih j (by omega) (by omega) (getD_in (by rw [inv.size]; omega) hl) t (Nat.le_refl _) hr
      · have h1 := List.all_eq_true.1 hc t (List.mem_range.2 htlt)
        simp only [Bool.or_eq_true, decide_eq_true_eq, List.any_eq_true, Bool.and_eq_true, List.mem_range] at h1
        rcases h1 with h1 | ⟨j, hj, hnj, hw⟩
        · omega
        · exact ⟨j, hw, inv.tail j hnj (by omega)⟩
    obtain ⟨j, hw, hlj⟩ := key
    obtain ⟨o', ho', e, he, hb, hon⟩ := Region.waitsFor_spec hw
    obtain rfl : o' = ot := Option.some.inj (ho'.symm.trans hot)
    have h2 := hall e he hb
    rw [hon, getD_both hlj] at h2; cases h2
/-- What the head's walk needs of the operations behind it. -/
def Later (md : Region.Mode) (ops : Array Oper) (n : Nat) : Prop := ∀ listed : Array Bool, HeadInv md ops n listed → ∀ i, i < n → listed.getD i true = false → ∀ t, n ≤ t → t ∉ Region.ready md ops listed
theorem head_first {n i : Nat} {oi : Oper} {v : Value} {L : Array Bool → Act → Prop} (hT : Later md ops n) (hsel : Region.noSelect ops = true) (hi : ops[i]? = some oi) (hin : i < n)
    (hdone : ∀ listed a, L listed a → ∀ j ∈ Region.ready md ops listed, n ≤ j) :
    ∀ (f : Nat) (listed : Array Bool) (a : Act), HeadInv md ops n listed →
      (∀ j oj, ops[j]? = some oj → j ≠ i → listed.getD j true = false → (∀ e ∈ oj.after, Region.binds md e = true → e.on ≠ i) → oi.apart ops oj = true) →
      i ∈ Region.ready md ops listed → YieldsAt P ops w oi v a → wpAnyL P md ops w n L f (listed.setIfInBounds i true) (a.put oi.dst v) → wpAnyL P md ops w n L (f + 1) listed a := by
  intro f
  induction f with
  | zero =>
    intro listed a inv _ hr hy H
    refine ⟨List.ne_nil_of_mem hr, fun j hj => ?_⟩
    have hjn : j < n := Nat.lt_of_not_le fun h => hT listed inv i hin (mem_ready.1 hr).1 j h hj
    by_cases hji : j = i
    · subst hji; exact ⟨hjn, hy.stOp hi H⟩
    · exact absurd (hdone _ _ H j (ready_mono hj hji)) (by omega)
  | succ f ih =>
    intro listed a inv hfree hr hy H
    have hun := (mem_ready.1 hr).1
    refine ⟨List.ne_nil_of_mem hr, fun j hj => ?_⟩
    have hjn : j < n := Nat.lt_of_not_le fun h => hT listed inv i hin hun j h hj
    refine ⟨hjn, ?_⟩
    by_cases hji : j = i
    · subst hji; exact hy.stOp hi H
    · obtain ⟨hjun, oj, hoj, hall⟩ := mem_ready.1 hj
      have hnot : ∀ e ∈ oj.after, Region.binds md e = true → e.on ≠ i := fun e he hb heq => by
        have h1 := hall e he hb
        rw [heq, getD_both hun] at h1; cases h1
      have hs := Region.noSelect_spec hsel
      refine stOp_mono (fun a' h3 => ih (listed.setIfInBounds j true) a' (inv.set hj hjn) (fun k ok hk hki hkun hno => hfree k ok hk hki ?_ hno) (ready_mono hr (Ne.symm hji)) h3.1 ?_)
        (stOp_put hoj (hfree j oj hoj hji hjun hnot) (fun cs b => hs i oi cs b hi) (fun cs b => hs j oj cs b hoj) hy (H.2 j (ready_mono hj hji)).2)
      · by_cases hjk : j = k
        · subst hjk; exact hjun
        · rwa [getD_set_ne true hjk] at hkun
      · rw [Array.setIfInBounds_comm _ _ hji]; exact h3.2
/-- The head goes in the text's order; behind it operation n alone may come up, and behind that the rest goes in the text's order too. -/
def midFrom (md : Region.Mode) (ops : Array Oper) (n : Nat) : Nat → Nat → Array Bool → Bool
  | 0, _, listed => decide (Region.ready md ops listed = [n]) && Region.lexFrom md ops (ops.size - (n + 1)) (n + 1) (listed.setIfInBounds n true)
  | f + 1, k, listed => (Region.ready md ops listed).contains k && Region.free md ops listed k && midFrom md ops n f (k + 1) (listed.setIfInBounds k true)
def midB (md : Region.Mode) (ops : Array Oper) (n : Nat) : Bool :=
  Region.noSelect ops && decide (n < ops.size) && Region.sinkB md ops n && laterB md ops n && midFrom md ops n n 0 (Array.replicate ops.size false)
theorem head_lex {n : Nat} {Lq : Act → Prop} (hT : Later md ops n) (hsel : Region.noSelect ops = true) :
    ∀ (l : List Oper) (k : Nat) (listed : Array Bool) (a : Act), (∀ j, j < l.length → l[j]? = ops[k + j]?) → k + l.length = n → HeadInv md ops n listed →
    midFrom md ops n l.length k listed = true → wpStill P ops w Lq l a → wpAnyL P md ops w n (fun listed' a' => midFrom md ops n 0 n listed' = true ∧ Lq a') l.length listed a
  | [], k, listed, a, _, hk, _, hB, h => ⟨hB, h⟩
  | o :: l, k, listed, a, hl, hk, inv, hB, h => by
    have h0 : ops[k]? = some o := by simpa using (hl 0 (by simp)).symm
    simp only [List.length_cons, midFrom, Bool.and_eq_true] at hB
    obtain ⟨⟨hr, hf⟩, hB'⟩ := hB
    have hkn : k < n := by simp only [List.length_cons] at hk; omega
    have hr' : k ∈ Region.ready md ops listed := by simpa using hr
    obtain ⟨v, hy, hK⟩ := yieldsAt_of_stOp h0 (by unfold stOp; simp only [h0]; exact h)
    refine head_first hT hsel h0 hkn (fun listed' a' hL j hj => ?_) l.length listed a inv (Region.free_spec h0 hf) hr' hy
      (head_lex hT hsel l (k + 1) _ _ (fun j hj => by have := hl (j + 1) (by simp; omega); simpa [Nat.add_assoc, Nat.add_comm 1 j] using this) (by simp only [List.length_cons] at hk; omega) (inv.set hr' hkn) hB' hK)
    have h1 := hL.1
    simp only [midFrom, Bool.and_eq_true, decide_eq_true_eq] at h1
    rw [h1.1] at hj
    have : j = n := by simpa using hj
    omega
theorem wp_region_mid {id : Nat} {Q : Exit → Act → World → Prop} {a : Act} {w : World} {l : List Oper} {o : Oper} (n : Nat) (hm : P.follows .mixedOrders = true) (ho : l[n]? = some o) (hB : midB .any l.toArray n = true)
    (h : WS P l.toArray w.drew (fun a' => ∀ K : Act → World → Prop, Hid (∀ a2 w2, WS P l.toArray w2 (fun a3 => Q .normal a3 w2) (l.drop (n + 1)) a2 → K a2 w2) → if Region.wanted o (yielded l.toArray a'.tmps) = true then o.wp P a' w.drew K Q else K (a'.put o.dst undef) w.drew) (l.take n) a) :
    (Code.region id l.toArray true).wp P Q a w := by
  simp only [midB, Bool.and_eq_true, decide_eq_true_eq] at hB
  obtain ⟨⟨⟨⟨hsel, hn⟩, hs⟩, hc⟩, hlex⟩ := hB
  have hn' : n < l.length := by simpa using hn
  have htl : (l.take n).length = n := by simp; omega
  have inv0 : HeadInv .any l.toArray n (Array.replicate l.toArray.size false) :=
    ⟨by simp, fun j oj _ hl => (by rw [getD_replicate_false] at hl; cases hl), fun t _ ht => getD_in (by simpa using ht) (getD_replicate_false _ _)⟩
  have H := head_lex (md := .any) (ops := l.toArray) (n := n) (fun listed inv i hi hun => none_later hs hc hn inv n i (by omega) hi hun) hsel (l.take n) 0 _ a (fun j hj => by
    have hj' : j < n := by rw [htl] at hj; exact hj
    simp [hj']) (by simpa using htl) inv0 (by rw [htl]; exact hlex) h.out
  refine wp_region_any hm ?_
  have := wpAny_of_head (Q' := Q) (g := l.toArray.size - (n + 1) + 1) (fun listed a' hL => by
    obtain ⟨h1, h2⟩ := hL
    simp only [midFrom, Bool.and_eq_true, decide_eq_true_eq] at h1
    refine ⟨fun h0 => (by rw [h1.1] at h0; cases h0), fun i hi => ?_⟩
    rw [h1.1] at hi
    obtain rfl : i = n := by simpa using hi
    refine wpOp_step (o := o) (by simpa using ho) fun K' hK' => ?_
    refine h2 K' (Lib.hid fun a2 w2 hst => hK' _ _ ?_)
    refine wpAny_of_still (Q := fun a3 => Q .normal a3 w2) (fun _ h => h) _ _ _ ?_
    have hdl : (l.drop (i + 1)).length = l.toArray.size - (i + 1) := by simp
    have := wpAnyS_lex (P := P) (w := w2) (md := .any) (Q := fun a3 => Q .normal a3 w2) hsel (l.drop (i + 1)) (i + 1) (listed.setIfInBounds i true) a2 (fun j => by simp [List.getElem?_drop]) (by rw [hdl]; exact h1.2) hst.out
    rwa [hdl] at this) _ _ _ H
  rw [htl, show n + (l.toArray.size - (n + 1) + 1) = l.toArray.size by have : l.toArray.size = l.length := by simp
                                                                       omega] at this
  exact this
end
end Go.Proofs.Ytcffhfcjfjfokaa
