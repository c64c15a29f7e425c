/- The document's lowest. -/
import Derived.Test.YtcffhfcjfjfokaaPlace
import Derived.Test.YtcffhfcjfjfokaaMidStill
import Derived.IntWalk
namespace Go.Proofs.Ytcffhfcjfjfokaa
open Go.RowKit
/-- Who of the contents' nodes has the slot's message. -/
def hasL (fs : List Fl) (s q : Int) : List Bool := fs.map (fun f => rhasB f.have_ s q)
theorem hasL_at {fs : List Fl} {k : Nat} {f : Fl} {s q : Int} (h : fs[k]? = some f) : (hasL fs s q)[k]? = some (rhasB f.have_ s q) := by unfold hasL; rw [List.getElem?_map, h]; rfl
set_option maxRecDepth 100000 in
set_option maxHeartbeats 4000000 in
theorem lowest_any (A B : Option Addr) (cA cB N : Nat) (who : List Int) (fs : List Fl) (s q : Int) (w : World) (hN : N ≤ w.heap.size) (hA : RowAt w N 1 eInt A who) (hB : Fls w N B fs) (hl : who.length ≤ 9223372036854775807) (hlen : fs.length = who.length) :
    Calls Try.prog 70 #[.slice A who.length cA, .slice B who.length cB, .agg #[.int .i64 s, .int .i64 q]] w fun x w' => (∃ r, x = .returned (.int .i64 r) ∧ LowTo who (hasL fs s q) who.length r) ∧ Below w.heap.size w w' := by
  go_enter Try.func70, Try.ntmps70
  go_wp2
  go_loopw [7, 8] (fun a k wr => ∃ (i : Nat) (r : Int), k = .int .i64 i ∧ a = .int .i64 r ∧ i ≤ who.length ∧ LowTo who (hasL fs s q) i r ∧ Below (w.heap.size + 1) (box1 w #[.int .i64 s, .int .i64 q] 66) wr) (fun _ k _ => who.length - (intOf k).toNat)
  case atStart => exact ⟨0, -1, rfl, rfl, by omega, lowTo_zero _ _, Below.refl _ _⟩
  case round =>
    obtain ⟨i, r, rfl, rfl, hi, hlow, hb⟩ := hrel
    replace hlow := Lib.hid hlow
    obtain ⟨hb0, hc, -, hsz⟩ := box1_facts hb
    have e0 := hc 0
    have e1 := hc 1
    simp at e0 e1
    clear hc
    by_cases hlt : i < who.length
    · obtain ⟨g, o, x, rfl, hg, hx, hcx⟩ := (hA.below hb0 hN).int hlt
      obtain ⟨g', o', f, X, cX, Y, cY, rfl, hg', hf, ⟨c0, c1, c2, c3, c4, c5, c6⟩, hr⟩ := (hB.below hb0 hN).at_ (k := i) (by omega)
      have hlh := hr.lenH
      have hch := hr.capH
      have hHas := Lib.hid (hasL_at (s := s) (q := q) hf.out)
      have hgw : g < wr.heap.size := by omega
      have hgw' : g' < wr.heap.size := by omega
      have hrh := hr.have_
      have hA1 := hA.below hb0 hN
      clear hr hB
      cases hh : rhasB f.have_ s q with
      | false =>
        rw [hh] at hHas
        replace hh := Lib.hid hh
        clear hA1 hA
        go_wp2
        refine wp_region_mid 5 (by kernel_rfl) rfl (by kernel_rfl) ?_
        simp only [List.take_succ_cons, List.take_zero]
        repeat (refine WS.step (fun K hK => ?_); go_simp; refine hK.out _ ?_; clear hK K)
        refine WS.nil ?_
        intro K hK
        go_simp
        go_at_call 62
        refine (rhas_any f.e f.l f.i f.c f.base (.slice X f.slots.length cX) Y cY N f.have_ s q wr.drew (by omega) (by show N ≤ wr.heap.size; omega) hrh).mono ?_
        rintro e w2 ⟨rfl, hbw2⟩
        rw [hh.out]
        go_wp2_with fail
        refine hK.out _ _ ?_
        clear hK K
        have hb2 := (Below.drew hb).trans (hbw2.mono (by show _ ≤ wr.heap.size; omega))
        simp only [List.drop_succ_cons, List.drop_zero]
        repeat (refine WS.step (fun K hK => ?_); go_simp; refine hK.out _ ?_; clear hK K)
        refine WS.nil ?_
        go_wp2
        go_roundw
        case rel => go_light; exact ⟨i + 1, r, by go_num, rfl, by omega, lowTo_skip hlow.out hHas.out, hb2⟩
        case measure => go_light; simp [intOf]; omega
      | true =>
        rw [hh] at hHas
        replace hh := Lib.hid hh
        by_cases hr0 : r < 0
        · obtain rfl : r = -1 := by
            rcases hlow.out with ⟨h, _⟩ | ⟨i', _, _, _, _, h, _⟩
            · exact h
            · omega
          clear hA1 hA
          go_wp2
          refine wp_region_mid 5 (by kernel_rfl) rfl (by kernel_rfl) ?_
          simp only [List.take_succ_cons, List.take_zero]
          repeat (refine WS.step (fun K hK => ?_); go_simp; refine hK.out _ ?_; clear hK K)
          refine WS.nil ?_
          intro K hK
          go_simp
          go_at_call 62
          refine (rhas_any f.e f.l f.i f.c f.base (.slice X f.slots.length cX) Y cY N f.have_ s q wr.drew (by omega) (by show N ≤ wr.heap.size; omega) hrh).mono ?_
          rintro e w2 ⟨rfl, hbw2⟩
          rw [hh.out]
          go_wp2_with fail
          refine hK.out _ _ ?_
          clear hK K
          have hb2 := (Below.drew hb).trans (hbw2.mono (by show _ ≤ wr.heap.size; omega))
          simp only [List.drop_succ_cons, List.drop_zero]
          repeat (refine WS.step (fun K hK => ?_); go_simp; refine hK.out _ ?_; clear hK K)
          refine WS.nil ?_
          go_wp2
          go_roundw
          case rel => go_light; exact ⟨i + 1, i, by go_num, by go_num, by omega, lowTo_first hlow.out hHas.out hx.out, hb2⟩
          case measure => go_light; simp [intOf]; omega
        · obtain ⟨j, rfl⟩ : ∃ j : Nat, r = j := ⟨r.toNat, by omega⟩
          have hjl : j < i := by
            rcases hlow.out with ⟨h, _⟩ | ⟨i', _, h1, _, _, h, _⟩ <;> omega
          have hjw : j < who.length := by omega
          obtain ⟨y, hy, hcy⟩ := hA1.intAt hjw
          by_cases hxy : x < y
          · clear hA1 hA
            go_wp2
            refine wp_region_mid 5 (by kernel_rfl) rfl (by kernel_rfl) ?_
            simp only [List.take_succ_cons, List.take_zero]
            repeat (refine WS.step (fun K hK => ?_); go_simp; refine hK.out _ ?_; clear hK K)
            refine WS.nil ?_
            intro K hK
            go_simp
            go_at_call 62
            refine (rhas_any f.e f.l f.i f.c f.base (.slice X f.slots.length cX) Y cY N f.have_ s q wr.drew (by omega) (by show N ≤ wr.heap.size; omega) hrh).mono ?_
            rintro e w2 ⟨rfl, hbw2⟩
            rw [hh.out]
            go_wp2_with fail
            refine hK.out _ _ ?_
            clear hK K
            have hb2 := (Below.drew hb).trans (hbw2.mono (by show _ ≤ wr.heap.size; omega))
            have hcx2 : w2.cell? ⟨g, o + i, none⟩ = some (.int .i64 x) := (hbw2.cell (p := ⟨g, o + i, none⟩) hgw).trans hcx
            have hcy2 : w2.cell? ⟨g, o + j, none⟩ = some (.int .i64 y) := (hbw2.cell (p := ⟨g, o + j, none⟩) hgw).trans hcy
            clear hcx hcy
            simp only [List.drop_succ_cons, List.drop_zero]
            repeat (refine WS.step (fun K hK => ?_); go_simp; refine hK.out _ ?_; clear hK K)
            refine WS.nil ?_
            go_wp2
            go_roundw
            case rel => go_light; exact ⟨i + 1, i, by go_num, by go_num, by omega, lowTo_less hlow.out hy.out hHas.out hx.out hxy, hb2⟩
            case measure => go_light; simp [intOf]; omega
          · clear hA1 hA
            go_wp2
            refine wp_region_mid 5 (by kernel_rfl) rfl (by kernel_rfl) ?_
            simp only [List.take_succ_cons, List.take_zero]
            repeat (refine WS.step (fun K hK => ?_); go_simp; refine hK.out _ ?_; clear hK K)
            refine WS.nil ?_
            intro K hK
            go_simp
            go_at_call 62
            refine (rhas_any f.e f.l f.i f.c f.base (.slice X f.slots.length cX) Y cY N f.have_ s q wr.drew (by omega) (by show N ≤ wr.heap.size; omega) hrh).mono ?_
            rintro e w2 ⟨rfl, hbw2⟩
            rw [hh.out]
            go_wp2_with fail
            refine hK.out _ _ ?_
            clear hK K
            have hb2 := (Below.drew hb).trans (hbw2.mono (by show _ ≤ wr.heap.size; omega))
            have hcx2 : w2.cell? ⟨g, o + i, none⟩ = some (.int .i64 x) := (hbw2.cell (p := ⟨g, o + i, none⟩) hgw).trans hcx
            have hcy2 : w2.cell? ⟨g, o + j, none⟩ = some (.int .i64 y) := (hbw2.cell (p := ⟨g, o + j, none⟩) hgw).trans hcy
            clear hcx hcy
            simp only [List.drop_succ_cons, List.drop_zero]
            repeat (refine WS.step (fun K hK => ?_); go_simp; refine hK.out _ ?_; clear hK K)
            refine WS.nil ?_
            go_wp2
            go_roundw
            case rel => go_light; exact ⟨i + 1, j, by go_num, rfl, by omega, lowTo_stay hlow.out hy.out hx.out (by omega), hb2⟩
            case measure => go_light; simp [intOf]; omega
    · obtain rfl : i = who.length := by omega
      go_wp2
      go_ret
      exact ⟨⟨r, rfl, hlow.out⟩, hb0⟩
end Go.Proofs.Ytcffhfcjfjfokaa