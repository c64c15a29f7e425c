/- What the document's Together answers. -/
import Derived.Test.YtcffhfcjfjfokaaRef1
import Derived.Test.YtcffhfcjfjfokaaMid
import Derived.StillTailTactics
namespace Go.Proofs.Ytcffhfcjfjfokaa
open Go.RowKit
/-- Prev and the lists' lengths are those of the first. -/
def kinB (f g : Fl) : Bool := vidEq f.e f.l f.i f.c g.e g.l g.i g.c && decide (f.have_.length = g.have_.length)
/-- Do contents of a list contradict one another? -/
def ClashIn (fs : List Fl) : Prop := ∃ (i j : Nat) (f g : Fl), j < i ∧ fs[i]? = some f ∧ fs[j]? = some g ∧ Clash f g
/-- The error of contents that do not go together, as a relation. -/
inductive Together (fs : List Fl) : Int → Prop
  | arg (h : ∃ f ∈ fs, ¬ Sound f) : Together fs 1
  | prev (h : ∀ f ∈ fs, Sound f) (h2 : ∃ f g, fs[0]? = some g ∧ f ∈ fs ∧ kinB f g = false) : Together fs 80
  | fork (h : ∀ f ∈ fs, Sound f) (h2 : ∀ f ∈ fs, ∀ g, fs[0]? = some g → kinB f g = true) (h3 : ClashIn fs) : Together fs 82
  | ok (h : ∀ f ∈ fs, Sound f) (h2 : ∀ f ∈ fs, ∀ g, fs[0]? = some g → kinB f g = true) (h3 : ¬ ClashIn fs) : Together fs 0
/-- The first k contents do not contradict one another; the p-th none of the first k. -/
def calmTo (fs : List Fl) (k : Nat) : Prop := ∀ i j f g, j < i → i < k → fs[i]? = some f → fs[j]? = some g → ¬ Clash f g
def calmWith (fs : List Fl) (p k : Nat) : Prop := ∀ j f g, j < k → fs[p]? = some f → fs[j]? = some g → ¬ Clash f g
theorem calmTo_zero (fs : List Fl) : calmTo fs 0 := by intro i j f g _ h; omega
theorem calmWith_zero (fs : List Fl) (p : Nat) : calmWith fs p 0 := by intro j f g h; omega
theorem calmTo_all {fs : List Fl} {k : Nat} (h : calmTo fs k) (hk : fs.length ≤ k) : ¬ ClashIn fs := by
  rintro ⟨i, j, f, g, hij, hf, hg, hc⟩
  exact h i j f g hij (by have := (List.getElem?_eq_some_iff.1 hf).1; omega) hf hg hc
theorem calmTo_succ {fs : List Fl} {p : Nat} (h : calmTo fs p) (k : calmWith fs p p) : calmTo fs (p + 1) := by
  intro i j f g hij hi hf hg
  by_cases hip : i = p
  · subst hip; exact k j f g hij hf hg
  · exact h i j f g hij (by omega) hf hg
theorem calmWith_succ {fs : List Fl} {p q : Nat} {f g : Fl} (h : calmWith fs p q) (hf : fs[p]? = some f) (hg : fs[q]? = some g) (hc : forkB f g = false) : calmWith fs p (q + 1) := by
  intro j f' g' hj hf' hg'
  by_cases hjq : j = q
  · subst hjq; rw [hf] at hf'; cases hf'; rw [hg] at hg'; cases hg'
    intro hcl; unfold forkB at hc; rw [@decide_eq_true _ (Classical.propDecidable _) hcl] at hc; cases hc
  · exact h j f' g' (by omega) hf' hg'
theorem clash_of {f g : Fl} (h : forkB f g = true) : Clash f g := @of_decide_eq_true _ (Classical.propDecidable _) h
theorem calm_at {fs : List Fl} {p q : Nat} (h : calmWith fs p q) (e : p ≤ q) : calmWith fs p p := fun j f g hj => h j f g (by omega)
theorem RowAt.drew {α : Type} {w : World} {N sz : Nat} {enc : α → List Value} {A : Option Addr} {l : List α} (h : RowAt w N sz enc A l) : RowAt w.drew N sz enc A l := h
theorem kin_first (fs : List Fl) : upto (fun f => ∀ g, fs[0]? = some g → kinB f g = true) fs 1 := by
  intro j f hj hf g hg
  obtain rfl : j = 0 := by omega
  rw [hf] at hg; cases hg; simp [kinB, vidEq]
set_option maxRecDepth 100000 in
set_option maxHeartbeats 4000000 in
theorem together_any (A : Option Addr) (cA N : Nat) (fs : List Fl) (w : World) (hN : N ≤ w.heap.size) (hA : Fls w N A fs) (hl : fs.length ≤ 9223372036854775807) :
    Calls Try.prog 29 #[.slice A fs.length cA] w fun x w' => (∃ n, x = .returned (.int .i64 n) ∧ Together fs n) ∧ Below w.heap.size w w' := by
  have hnv := run_neq_vid
  go_enter Try.func29, Try.ntmps29
  go_wp2
  go_loopw [3] (fun k wr => ∃ q : Nat, k = .int .i64 q ∧ q ≤ fs.length ∧ upto Sound fs q ∧ Below w.heap.size w wr) (fun k _ => fs.length - (intOf k).toNat)
  case atStart => exact ⟨0, rfl, by omega, upto_zero _ _, Below.refl _ _⟩
  case round =>
    obtain ⟨q, rfl, hq, hup, hb⟩ := hrel
    have hsz := hb.size
    by_cases hlt : q < fs.length
    · obtain ⟨g, o, f, X, cX, Y, cY, rfl, hg, hf, ⟨c0, c1, c2, c3, c4, c5, c6⟩, hr⟩ := (hA.below hb hN).at_ hlt
      clear hA
      by_cases hs : Sound f
      · have hsb : soundB f = true := soundB_iff.2 hs
        have HS := Lib.hid hs
        clear hs
        go_wp2_with (go_at_call 65; refine (rsound_any _ _ _ _ _ _ _ (by omega) hr).mono ?_; rintro e w' ⟨rfl, hbw⟩)
        go_roundw
        case rel => go_light; exact ⟨q + 1, by go_num, by omega, upto_succ hup (fun z hz => by rw [hf.out] at hz; cases hz; exact HS.out), hb.trans (hbw.mono hsz)⟩
        case measure => go_light; simp [intOf]; omega
      · have hsb : soundB f = false := soundB_no.2 hs
        have HS := Lib.hid hs
        clear hs
        go_wp2_with (go_at_call 65; refine (rsound_any _ _ _ _ _ _ _ (by omega) hr).mono ?_; rintro e w' ⟨rfl, hbw⟩)
        go_ret
        go_light
        exact ⟨⟨1, rfl, .arg ⟨f, List.mem_of_getElem? hf.out, HS.out⟩⟩, hb.trans (hbw.mono hsz)⟩
    · go_wp2
      have Hall : ∀ f ∈ fs, Sound f := upto_all hup (by omega)
      replace Hall := Lib.hid Hall
      clear hlt hq hup
      obtain ⟨wo, rfl⟩ : ∃ wo : World, wo = wr := ⟨_, rfl⟩
      go_loopw [5] (fun k wr => ∃ q : Nat, k = .int .i64 q ∧ 1 ≤ q ∧ upto (fun f => ∀ g, fs[0]? = some g → kinB f g = true) fs q ∧ Below w.heap.size w wr) (fun k _ => fs.length - (intOf k).toNat)
      case atStart => exact ⟨1, rfl, by omega, kin_first fs, hb⟩
      case round =>
        obtain ⟨q, rfl, hq, hup, hb⟩ := hrel
        have hsz := hb.size
        by_cases hlt : q < fs.length
        · obtain ⟨g, o, f, X, cX, Y, cY, rfl, hg, hf, ⟨c0, c1, c2, c3, c4, c5, c6⟩, hr⟩ := (hA.below hb hN).at_ hlt
          obtain ⟨g', o', f0, X0, cX0, Y0, cY0, hgo, hg', hf0, ⟨d0, d1, d2, d3, d4, d5, d6⟩, hr0⟩ := (hA.below hb hN).at_ (k := 0) (by omega)
          obtain ⟨rfl, rfl⟩ : g = g' ∧ o = o' := by simpa using hgo
          simp only [Nat.zero_mul, Nat.add_zero] at d0 d1 d2 d3 d4 d5 d6
          have hpos : 0 < fs.length := by omega
          have hposi : (0 : Int) < (fs.length : Int) := by omega
          clear hA hgo
          by_cases hv : vidEq f.e f.l f.i f.c f0.e f0.l f0.i f0.c = true
          · go_wp2
            go_quiet (fail)
            go_wp2
            · go_ret
              go_light
              exact ⟨⟨80, rfl, .prev Hall.out ⟨f, f0, hf0.out, List.mem_of_getElem? hf.out, by have hh := ‹((f.have_.length : Int) != (f0.have_.length : Int)) = true›; simp at hh; simp [kinB]; intro _; omega⟩⟩, below_drewN hb _⟩
            · go_roundw
              case rel => go_light; exact ⟨q + 1, by go_num, by omega, upto_succ hup (fun z hz => by rw [hf.out] at hz; cases hz; intro g2 hg2; rw [hf0.out] at hg2; cases hg2; have hh := ‹((f.have_.length : Int) != (f0.have_.length : Int)) = false›; simp at hh; simp [kinB, hv]; omega), below_drewN hb _⟩
              case measure => go_light; simp [intOf]; omega
          · have hv' : vidEq f.e f.l f.i f.c f0.e f0.l f0.i f0.c = false := by simpa using hv
            clear hv
            go_wp2
            go_quiet (fail)
            go_wp2
            go_ret
            go_light
            exact ⟨⟨80, rfl, .prev Hall.out ⟨f, f0, hf0.out, List.mem_of_getElem? hf.out, by simp [kinB, hv']⟩⟩, below_drewN hb _⟩
        · go_wp2
          have Hkin : ∀ f ∈ fs, ∀ g, fs[0]? = some g → kinB f g = true := upto_all hup (by omega)
          replace Hkin := Lib.hid Hkin
          clear hlt hq hup
          obtain ⟨wo, rfl⟩ : ∃ wo : World, wo = wr := ⟨_, rfl⟩
          go_loopw [6] (fun k wr => ∃ p : Nat, k = .int .i64 p ∧ p ≤ fs.length ∧ calmTo fs p ∧ Below w.heap.size w wr) (fun k _ => fs.length - (intOf k).toNat)
          case atStart => exact ⟨0, rfl, by omega, calmTo_zero fs, hb⟩
          case round =>
            obtain ⟨p, rfl, hp, hcalm, hb⟩ := hrel
            have hsz := hb.size
            by_cases hlt : p < fs.length
            · go_wp2
              obtain ⟨wo, rfl⟩ : ∃ wo : World, wo = wr := ⟨_, rfl⟩
              go_loopw [7] (fun k wr => ∃ q : Nat, k = .int .i64 q ∧ q ≤ p ∧ calmWith fs p q ∧ Below w.heap.size w wr) (fun k _ => p - (intOf k).toNat)
              case atStart => exact ⟨0, rfl, by omega, calmWith_zero fs p, hb⟩
              case round =>
                obtain ⟨q, rfl, hq, hcw, hb⟩ := hrel
                have hsz := hb.size
                by_cases hltq : q < p
                · obtain ⟨g, o, f, X, cX, Y, cY, rfl, hg, hf, ⟨c0, c1, c2, c3, c4, c5, c6⟩, hr⟩ := (hA.below hb hN).at_ hlt
                  obtain ⟨g', o', f0, X0, cX0, Y0, cY0, hgo, hg', hf0, ⟨d0, d1, d2, d3, d4, d5, d6⟩, hr0⟩ := (hA.below hb hN).at_ (k := q) (by omega)
                  obtain ⟨rfl, rfl⟩ : g = g' ∧ o = o' := by simpa using hgo
                  have hql : q < fs.length := by omega
                  have s1 := Hall.out f (List.mem_of_getElem? hf.out)
                  have s2 := Hall.out f0 (List.mem_of_getElem? hf0.out)
                  have S1 := Lib.hid s1
                  have S2 := Lib.hid s2
                  clear hA hgo s1 s2
                  go_wp2
                  go_still_tail 8, (by kernel_rfl)
                  change wpList _ _ _ _ _ wr.drew
                  go_wp2_with (go_at_call 66; refine (fork_any (w := wr.drew) f f0 _ _ _ _ _ _ _ _ N (by show N ≤ wr.heap.size; omega) hr.slots.drew hr0.slots.drew S1.out.base0 (by have := S1.out.base; omega) S2.out.base0 (by have := S2.out.base; omega) S1.out.held S2.out.held).mono ?_; rintro e w' ⟨rfl, hbw⟩)
                  · go_ret
                    go_light
                    exact ⟨⟨82, rfl, .fork Hall.out Hkin.out ⟨p, q, f, f0, hltq, hf.out, hf0.out, clash_of (by assumption)⟩⟩, (Below.drew hb).trans (hbw.mono (by show _ ≤ wr.heap.size; omega))⟩
                  · go_roundw
                    case rel => go_light; exact ⟨q + 1, by go_num, by omega, calmWith_succ hcw hf.out hf0.out (by assumption), (Below.drew hb).trans (hbw.mono (by show _ ≤ wr.heap.size; omega))⟩
                    case measure => go_light; simp [intOf]; omega
                · go_wp2
                  go_roundw
                  case rel => go_light; exact ⟨p + 1, by go_num, by omega, calmTo_succ hcalm (calm_at hcw (by omega)), hb⟩
                  case measure => go_light; simp [intOf]; omega
            · go_wp2
              go_ret
              go_light
              exact ⟨⟨0, rfl, .ok Hall.out Hkin.out (calmTo_all hcalm (by omega))⟩, hb⟩
end Go.Proofs.Ytcffhfcjfjfokaa
