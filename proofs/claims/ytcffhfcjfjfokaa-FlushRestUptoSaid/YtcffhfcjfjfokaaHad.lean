/- What the closure in the program's joined answers. -/
import Derived.Test.YtcffhfcjfjfokaaMid
namespace Go.Proofs.Ytcffhfcjfjfokaa
open Go.RowKit
def hadB (fs : List Fl) (s : Int × Int) : Bool := fs.any (fun f => havB f.have_ s.1 s.2)
theorem hadB_yes {fs : List Fl} {s : Int × Int} {q : Nat} {f : Fl} (hf : fs[q]? = some f) (h : havB f.have_ s.1 s.2 = true) : true = hadB fs s := by
  symm; exact List.any_eq_true.2 ⟨f, List.mem_of_getElem? hf, h⟩
theorem hadB_no {fs : List Fl} {s : Int × Int} {q : Nat} (h : upto (fun f => havB f.have_ s.1 s.2 = false) fs q) (hq : fs.length ≤ q) : false = hadB fs s := by
  symm; exact List.any_eq_false.2 (fun f hf => by rw [upto_all h hq f hf]; decide)
set_option maxRecDepth 100000 in
set_option maxHeartbeats 2000000 in
theorem had_any (A : Option Addr) (cA N bx : Nat) (fs : List Fl) (s q : Int) (w : World) (hN : N ≤ w.heap.size) (hA : Fls w N A fs) (hl : fs.length ≤ 9223372036854775807)
    (hbx : bx < w.heap.size) (hcx : w.cell? ⟨bx, 0, none⟩ = some (.slice A fs.length cA)) (hs0 : 0 ≤ s) (hs1 : ∀ f ∈ fs, s < f.have_.length) :
    Calls Try.prog 116 #[.agg #[.int .i64 s, .int .i64 q], .pointer (some ⟨bx, 0, none⟩)] w fun x w' => x = .returned (.bool (hadB fs (s, q))) ∧ Below w.heap.size w w' := by
  go_enter Try.func116, Try.ntmps116
  go_wp2
  go_loopw [8] (fun k wr => ∃ i : Nat, k = .int .i64 i ∧ i ≤ fs.length ∧ upto (fun f => havB f.have_ s q = false) fs i ∧ Below (w.heap.size + 1) (box1 w #[.int .i64 s, .int .i64 q] 66) wr) (fun k _ => fs.length - (intOf k).toNat)
  case atStart => exact ⟨0, rfl, by omega, upto_zero _ _, Below.refl _ _⟩
  case round =>
    obtain ⟨i, rfl, hi, hup, hb⟩ := hrel
    obtain ⟨hb0, hc, -, hsz⟩ := box1_facts hb
    by_cases hlt : i < fs.length
    · obtain ⟨g, o, f, X, cX, Y, cY, rfl, hg, hf, ⟨c0, c1, c2, c3, c4, c5, c6⟩, hr⟩ := (hA.below hb0 hN).at_ hlt
      have hgw : g < wr.heap.size := by omega
      have hsl := hs1 f (List.mem_of_getElem? hf.out)
      clear hA hs1
      go_wp2_with (go_at_call 61; refine (has_any _ _ _ _ _ _ _ _ N f.have_ s q _ hs0 hsl (by simp only [World.size_alloc]; omega) (by exact hr.have_.below ((Below.refl N wr).alloc (by omega) _) (Nat.le_refl _))).mono ?_; rintro e w2 ⟨rfl, hbw2⟩)
      · go_ret
        go_light
        rw [World.size_alloc] at hbw2
        exact ⟨ret_bool (hadB_yes hf.out (by assumption)), (hb0.alloc (by omega) _).trans (hbw2.mono (by omega))⟩
      · go_roundw
        case rel => go_light; rw [World.size_alloc] at hbw2; exact ⟨i + 1, by go_num, by omega, upto_succ hup (fun z hz => by rw [hf.out] at hz; cases hz; assumption), (hb.alloc (by omega) _).trans (hbw2.mono (by omega))⟩
        case measure => go_light; simp [intOf]; omega
    · go_wp2
      go_ret
      go_light
      exact ⟨ret_bool (hadB_no hup (by omega)), hb0⟩
end Go.Proofs.Ytcffhfcjfjfokaa
