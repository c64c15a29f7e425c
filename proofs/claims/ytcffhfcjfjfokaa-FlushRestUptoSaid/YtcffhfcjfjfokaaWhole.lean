/- What the document's whole answers. -/
import Derived.Test.YtcffhfcjfjfokaaAt
import Derived.StillTailTactics
namespace Go.Proofs.Ytcffhfcjfjfokaa
open Go.RowKit
def wholeAtB (fs : List Fl) (s : Int × Int) : Bool := !(s.2 == 0) && fs.any (fun f => rhasB f.have_ s.1 s.2)
theorem wholeAt_yes {fs : List Fl} {s : Int × Int} {q : Nat} {f : Fl} (h0 : ¬ s.2 = 0) (hf : fs[q]? = some f) (h : rhasB f.have_ s.1 s.2 = true) : true = wholeAtB fs s := by
  symm; unfold wholeAtB
  rw [Bool.and_eq_true]
  exact ⟨by simpa using h0, List.any_eq_true.2 ⟨f, List.mem_of_getElem? hf, h⟩⟩
theorem wholeAt_no {fs : List Fl} {s : Int × Int} {q : Nat} (h : upto (fun f => rhasB f.have_ s.1 s.2 = false) fs q) (hq : fs.length ≤ q) : false = wholeAtB fs s := by
  symm; unfold wholeAtB
  rw [List.any_eq_false.2 (fun f hf => by rw [upto_all h hq f hf]; decide), Bool.and_false]
set_option maxRecDepth 100000 in
set_option maxHeartbeats 2000000 in
theorem whole98_any (A : Option Addr) (cA N : Nat) (fs : List Fl) (pos : Int) (w : World) (hN : N ≤ w.heap.size) (hA : Fls w N A fs) (hl : fs.length ≤ 9223372036854775807)
    (hp0 : 0 ≤ pos) (hp1 : pos ≤ 4611686018427387905) (hbs : ∀ f ∈ fs, 0 ≤ f.base ∧ f.base ≤ 4611686018427387904) :
    Calls Try.prog 98 #[.slice A fs.length cA, .int .i64 pos] w fun x w' => x = .returned (.bool (wholeAtB fs (atOf fs pos))) ∧ Below w.heap.size w w' := by
  obtain ⟨s, hs⟩ : ∃ s, s = atOf fs pos := ⟨_, rfl⟩
  have HAt : ∀ W : World, w.heap.size ≤ W.heap.size → Fls W N A fs → Calls Try.prog 31 #[.slice A fs.length cA, .int .i64 pos] W fun x w' => x = .returned (.agg #[.int .i64 s.1, .int .i64 s.2]) ∧ Below W.heap.size W w' := fun W h1 h2 => by
    rw [hs]; exact at_any A cA N fs pos W (by omega) h2 hl hp0 hp1 hbs
  rw [← hs]
  replace HAt := Lib.hid HAt
  clear hs
  by_cases h0 : s.2 = 0
  · have H0 := Lib.hid h0
    have hd : (s.2 == 0) = true := by simpa using h0
    clear h0
    go_enter Try.func98, Try.ntmps98
    go_wp2_with (go_at_call 31; refine (HAt.out _ (by omega) hA).mono ?_; rintro e w' ⟨rfl, hbw⟩)
    go_ret
    go_light
    exact ⟨ret_bool (by simp [wholeAtB, H0.out]), hbw.alloc hbw.size _⟩
  · have H0 := Lib.hid h0
    have hd : (s.2 == 0) = false := by simpa using h0
    clear h0
    go_enter Try.func98, Try.ntmps98
    go_wp2_with (go_at_call 31; refine (HAt.out _ (by omega) hA).mono ?_; rintro e w' ⟨rfl, hbw⟩)
    go_loopw [6] (fun k wr => ∃ q : Nat, k = .int .i64 q ∧ q ≤ fs.length ∧ upto (fun f => rhasB f.have_ s.1 s.2 = false) fs q ∧ Below (w'.heap.size + 1) (box1 w' #[.int .i64 s.1, .int .i64 s.2] 66) wr) (fun k _ => fs.length - (intOf k).toNat)
    case atStart => exact ⟨0, rfl, by omega, upto_zero _ _, Below.refl _ _⟩
    case round =>
      obtain ⟨q, rfl, hq, hup, hb⟩ := hrel
      obtain ⟨hb0, hc, -, hsz⟩ := box1_facts hb
      have hbb := hbw.trans (hb0.mono hbw.size)
      have hsw := hbw.size
      by_cases hlt : q < fs.length
      · obtain ⟨g, o, f, X, cX, Y, cY, rfl, hg, hf, ⟨c0, c1, c2, c3, c4, c5, c6⟩, hr⟩ := (hA.below hbb hN).at_ hlt
        have hlh := hr.lenH
        have hch := hr.capH
        clear hA
        go_wp2
        go_still_tail 5, (by kernel_rfl)
        change wpList _ _ _ _ _ wr.drew
        go_wp2_with (go_at_call 62; refine (rhas_any (w := wr.drew) _ _ _ _ _ _ _ _ N f.have_ s.1 s.2 (by omega) (by show N ≤ wr.heap.size; omega) hr.have_).mono ?_; rintro e w2 ⟨rfl, hbw2⟩)
        · go_ret
          go_light
          exact ⟨ret_bool (wholeAt_yes H0.out hf.out (by assumption)), (Below.drew hbb).trans (hbw2.mono (by show _ ≤ wr.heap.size; omega))⟩
        · go_roundw
          case rel => go_light; exact ⟨q + 1, by go_num, by omega, upto_succ hup (fun z hz => by rw [hf.out] at hz; cases hz; assumption), (Below.drew hb).trans (hbw2.mono (by show _ ≤ wr.heap.size; omega))⟩
          case measure => go_light; simp [intOf]; omega
      · go_wp2
        go_ret
        go_light
        exact ⟨ret_bool (wholeAt_no hup (by omega)), hbb⟩
end Go.Proofs.Ytcffhfcjfjfokaa
