/- Place Lowest First Owe, joined. -/
import Derived.IntWalk
import Derived.Deep.MidRow
import Derived.Deep.RegionHeld3
import Derived.Test.YtcffhfcjfjfokaaSh5
import Derived.Test.YtcffhfcjfjfokaaSh6
import Derived.Test.YtcffhfcjfjfokaaSh20
set_option linter.unusedVariables false
set_option linter.unusedSimpArgs false
/- The document's place. -/
namespace Go.Proofs.Ytcffhfcjfjfokaa
open Go.RowKit
theorem RowAt.intAt {w : World} {N g o : Nat} {l : List Int} (h : RowAt w N 1 eInt (some ⟨g, o, none⟩) l) {k : Nat} (hk : k < l.length) : ∃ x, Hid (l[k]? = some x) ∧ w.cell? ⟨g, o + k, none⟩ = some (.int .i64 x) := by
  obtain ⟨b, off, x, e, _, hx, hc⟩ := h.int hk
  injection e with e; injection e with e1 e2; subst e1 e2
  exact ⟨x, hx, hc⟩
set_option maxHeartbeats 2000000 in
theorem place_any (A : Option Addr) (cA N : Nat) (who : List Int) (t : Int) (w : World) (hN : N ≤ w.heap.size) (hA : RowAt w N 1 eInt A who) (hl : who.length ≤ 9223372036854775807) :
    Calls Try.prog 69 #[.slice A who.length cA, .int .i64 t] w fun x w' => (∃ r, x = .returned (.int .i64 r) ∧ PlaceIs who t r) ∧ Below w.heap.size w w' := by
  go_enter Try.func69, Try.ntmps69
  go_wp2
  go_loopw [5, 6] (fun a k wr => ∃ (q : Nat) (r : Int), k = .int .i64 q ∧ a = .int .i64 r ∧ q ≤ who.length ∧ PlTo who t q r ∧ upto nodeIn who q ∧ apartTo who q ∧ Below w.heap.size w wr) (fun _ k _ => who.length - (intOf k).toNat)
  case atStart => exact ⟨0, -1, rfl, rfl, by omega, plTo_zero _ _, upto_zero _ _, apartTo_zero _, Below.refl _ _⟩
  case round =>
    obtain ⟨q, r, rfl, rfl, hq, hpl, hup, hap, hb⟩ := hrel
    replace hpl := Lib.hid hpl
    replace hup := Lib.hid hup
    replace hap := Lib.hid hap
    by_cases hlt : q < who.length
    · obtain ⟨g, o, x, rfl, hg, hx, hc⟩ := (hA.below hb hN).int hlt
      by_cases h0 : x < 0
      · go_wp2
        go_ret
        exact ⟨⟨-1, rfl, place_bad (bad_in hx.out (.inl h0))⟩, hb⟩
      · by_cases h1 : 16 ≤ x
        · go_wp2
          go_ret
          exact ⟨⟨-1, rfl, place_bad (bad_in hx.out (.inr h1))⟩, hb⟩
        · have hup' := Lib.hid (upto_succ (p := nodeIn) hup.out (fun z hz => by rw [hx.out] at hz; cases hz; unfold nodeIn; omega))
          go_wp2
          obtain ⟨wo, hwo⟩ : ∃ wo : World, wo = wr := ⟨_, rfl⟩
          subst hwo
          go_loopw [7] (fun k wr => ∃ j : Nat, k = .int .i64 j ∧ j ≤ q ∧ upto (fun y => who[q]? ≠ some y) who j ∧ Below w.heap.size w wr) (fun k _ => q - (intOf k).toNat)
          case atStart => exact ⟨0, rfl, by omega, upto_zero _ _, hb⟩
          case round =>
            obtain ⟨j, rfl, hj, hja, hb1⟩ := hrel
            replace hja := Lib.hid hja
            have hA1 := hA.below hb1 hN
            obtain ⟨x2, hx2, hc2⟩ := hA1.intAt hlt
            obtain rfl : x = x2 := by have := hx2.out; rw [hx.out] at this; injection this
            have hsz1 := hb1.size
            clear hc
            by_cases hjq : j < q
            · obtain ⟨y, hy, hcy⟩ := hA1.intAt (k := j) (by omega)
              have hjl : j < who.length := by omega
              by_cases hyx : y = x
              · subst hyx
                go_wp2
                go_quiet (fail)
                go_wp2
                go_ret
                exact ⟨⟨-1, rfl, place_bad (bad_twice hx.out hy.out hjq)⟩, below_drewN hb1 _⟩
              · go_wp2
                go_quiet (fail)
                go_wp2
                go_roundw
                case rel => go_light; exact ⟨j + 1, by go_num, by omega, upto_succ hja.out (fun z hz => by rw [hy.out] at hz; cases hz; rw [hx.out]; intro e; injection e with e; exact hyx e.symm), below_drewN hb1 _⟩
                case measure => go_light; simp [intOf]; omega
            · have hap' := Lib.hid (apartTo_succ hap.out (by have : q = j := by omega
                                                             subst this; exact hja.out))
              by_cases hxt : x = t
              · subst hxt
                go_wp2
                go_roundw
                case rel => go_light; exact ⟨q + 1, (q : Int), by go_num, by go_num, by omega, plTo_here hx.out, hup'.out, hap'.out, hb1⟩
                case measure => go_light; simp [intOf]; omega
              · go_wp2
                go_roundw
                case rel => go_light; exact ⟨q + 1, r, by go_num, rfl, by omega, plTo_skip hpl.out hx.out hxt, hup'.out, hap'.out, hb1⟩
                case measure => go_light; simp [intOf]; omega
    · have hq' := Lib.hid (place_all hup.out hap.out hpl.out (by omega))
      go_wp2
      go_ret
      exact ⟨⟨r, rfl, hq'.out⟩, hb⟩
end Go.Proofs.Ytcffhfcjfjfokaa
/- The document's lowest. -/
namespace Go.Proofs.Ytcffhfcjfjfokaa
open Go.RowKit
/-- Who of the contents' nodes has the slot's message. -/
def hasL (fs : List Fl) (s q : Int) : List Bool := fs.map (fun f => rhasB f.have_ s q)
theorem hasL_at {fs : List Fl} {k : Nat} {f : Fl} {s q : Int} (h : fs[k]? = some f) : (hasL fs s q)[k]? = some (rhasB f.have_ s q) := by unfold hasL; rw [List.getElem?_map, h]; rfl
set_option maxRecDepth 100000 in
set_option maxHeartbeats 4000000 in
theorem lowest_any (A B : Option Addr) (cA cB N : Nat) (who : List Int) (fs : List Fl) (s q : Int) (w : World) (hN : N ≤ w.heap.size) (hA : RowAt w N 1 eInt A who) (hB : Fls w N B fs) (hl : who.length ≤ 9223372036854775807) (hlen : fs.length = who.length) :
    Calls Try.prog 70 #[.slice A who.length cA, .slice B who.length cB, .agg #[.int .i64 s, .int .i64 q]] w fun x w' => (∃ r, x = .returned (.int .i64 r) ∧ LowTo who (hasL fs s q) who.length r) ∧ Below w.heap.size w w' := by
  go_enter Try.func70, Try.ntmps70
  go_wp2
  go_loopw [7, 8] (fun a k wr => ∃ (i : Nat) (r : Int), k = .int .i64 i ∧ a = .int .i64 r ∧ i ≤ who.length ∧ LowTo who (hasL fs s q) i r ∧ Below (w.heap.size + 1) (box1 w #[.int .i64 s, .int .i64 q] 66) wr) (fun _ k _ => who.length - (intOf k).toNat)
  case atStart => exact ⟨0, -1, rfl, rfl, by omega, lowTo_zero _ _, Below.refl _ _⟩
  case round =>
    obtain ⟨i, r, rfl, rfl, hi, hlow, hb⟩ := hrel
    replace hlow := Lib.hid hlow
    obtain ⟨hb0, hc, -, hsz⟩ := box1_facts hb
    have e0 := hc 0
    have e1 := hc 1
    simp at e0 e1
    clear hc
    by_cases hlt : i < who.length
    · obtain ⟨g, o, x, rfl, hg, hx, hcx⟩ := (hA.below hb0 hN).int hlt
      obtain ⟨g', o', f, X, cX, Y, cY, rfl, hg', hf, ⟨c0, c1, c2, c3, c4, c5, c6⟩, hr⟩ := (hB.below hb0 hN).at_ (k := i) (by omega)
      have hlh := hr.lenH
      have hch := hr.capH
      have hHas := Lib.hid (hasL_at (s := s) (q := q) hf.out)
      have hgw : g < wr.heap.size := by omega
      have hgw' : g' < wr.heap.size := by omega
      have hrh := hr.have_
      have hA1 := hA.below hb0 hN
      clear hr hB
      cases hh : rhasB f.have_ s q with
      | false =>
        rw [hh] at hHas
        replace hh := Lib.hid hh
        clear hA1 hA
        go_wp2
        refine wp_region_mid 5 (by kernel_rfl) rfl (by kernel_rfl) ?_
        simp only [List.take_succ_cons, List.take_zero]
        repeat (refine WS.step (fun K hK => ?_); go_simp; refine hK.out _ ?_; clear hK K)
        refine WS.nil ?_
        intro K hK
        go_simp
        go_at_call 62
        refine (rhas_any f.e f.l f.i f.c f.base (.slice X f.slots.length cX) Y cY N f.have_ s q wr.drew (by omega) (by show N ≤ wr.heap.size; omega) hrh).mono ?_
        rintro e w2 ⟨rfl, hbw2⟩
        rw [hh.out]
        go_wp2_with fail
        refine hK.out _ _ ?_
        clear hK K
        have hb2 := (Below.drew hb).trans (hbw2.mono (by show _ ≤ wr.heap.size; omega))
        simp only [List.drop_succ_cons, List.drop_zero]
        repeat (refine WS.step (fun K hK => ?_); go_simp; refine hK.out _ ?_; clear hK K)
        refine WS.nil ?_
        go_wp2
        go_roundw
        case rel => go_light; exact ⟨i + 1, r, by go_num, rfl, by omega, lowTo_skip hlow.out hHas.out, hb2⟩
        case measure => go_light; simp [intOf]; omega
      | true =>
        rw [hh] at hHas
        replace hh := Lib.hid hh
        by_cases hr0 : r < 0
        · obtain rfl : r = -1 := by
            rcases hlow.out with ⟨h, _⟩ | ⟨i', _, _, _, _, h, _⟩
            · exact h
            · omega
          clear hA1 hA
          go_wp2
          refine wp_region_mid 5 (by kernel_rfl) rfl (by kernel_rfl) ?_
          simp only [List.take_succ_cons, List.take_zero]
          repeat (refine WS.step (fun K hK => ?_); go_simp; refine hK.out _ ?_; clear hK K)
          refine WS.nil ?_
          intro K hK
          go_simp
          go_at_call 62
          refine (rhas_any f.e f.l f.i f.c f.base (.slice X f.slots.length cX) Y cY N f.have_ s q wr.drew (by omega) (by show N ≤ wr.heap.size; omega) hrh).mono ?_
          rintro e w2 ⟨rfl, hbw2⟩
          rw [hh.out]
          go_wp2_with fail
          refine hK.out _ _ ?_
          clear hK K
          have hb2 := (Below.drew hb).trans (hbw2.mono (by show _ ≤ wr.heap.size; omega))
          simp only [List.drop_succ_cons, List.drop_zero]
          repeat (refine WS.step (fun K hK => ?_); go_simp; refine hK.out _ ?_; clear hK K)
          refine WS.nil ?_
          go_wp2
          go_roundw
          case rel => go_light; exact ⟨i + 1, i, by go_num, by go_num, by omega, lowTo_first hlow.out hHas.out hx.out, hb2⟩
          case measure => go_light; simp [intOf]; omega
        · obtain ⟨j, rfl⟩ : ∃ j : Nat, r = j := ⟨r.toNat, by omega⟩
          have hjl : j < i := by
            rcases hlow.out with ⟨h, _⟩ | ⟨i', _, h1, _, _, h, _⟩ <;> omega
          have hjw : j < who.length := by omega
          obtain ⟨y, hy, hcy⟩ := hA1.intAt hjw
          by_cases hxy : x < y
          · clear hA1 hA
            go_wp2
            refine wp_region_mid 5 (by kernel_rfl) rfl (by kernel_rfl) ?_
            simp only [List.take_succ_cons, List.take_zero]
            repeat (refine WS.step (fun K hK => ?_); go_simp; refine hK.out _ ?_; clear hK K)
            refine WS.nil ?_
            intro K hK
            go_simp
            go_at_call 62
            refine (rhas_any f.e f.l f.i f.c f.base (.slice X f.slots.length cX) Y cY N f.have_ s q wr.drew (by omega) (by show N ≤ wr.heap.size; omega) hrh).mono ?_
            rintro e w2 ⟨rfl, hbw2⟩
            rw [hh.out]
            go_wp2_with fail
            refine hK.out _ _ ?_
            clear hK K
            have hb2 := (Below.drew hb).trans (hbw2.mono (by show _ ≤ wr.heap.size; omega))
            have hcx2 : w2.cell? ⟨g, o + i, none⟩ = some (.int .i64 x) := (hbw2.cell (p := ⟨g, o + i, none⟩) hgw).trans hcx
            have hcy2 : w2.cell? ⟨g, o + j, none⟩ = some (.int .i64 y) := (hbw2.cell (p := ⟨g, o + j, none⟩) hgw).trans hcy
            clear hcx hcy
            simp only [List.drop_succ_cons, List.drop_zero]
            repeat (refine WS.step (fun K hK => ?_); go_simp; refine hK.out _ ?_; clear hK K)
            refine WS.nil ?_
            go_wp2
            go_roundw
            case rel => go_light; exact ⟨i + 1, i, by go_num, by go_num, by omega, lowTo_less hlow.out hy.out hHas.out hx.out hxy, hb2⟩
            case measure => go_light; simp [intOf]; omega
          · clear hA1 hA
            go_wp2
            refine wp_region_mid 5 (by kernel_rfl) rfl (by kernel_rfl) ?_
            simp only [List.take_succ_cons, List.take_zero]
            repeat (refine WS.step (fun K hK => ?_); go_simp; refine hK.out _ ?_; clear hK K)
            refine WS.nil ?_
            intro K hK
            go_simp
            go_at_call 62
            refine (rhas_any f.e f.l f.i f.c f.base (.slice X f.slots.length cX) Y cY N f.have_ s q wr.drew (by omega) (by show N ≤ wr.heap.size; omega) hrh).mono ?_
            rintro e w2 ⟨rfl, hbw2⟩
            rw [hh.out]
            go_wp2_with fail
            refine hK.out _ _ ?_
            clear hK K
            have hb2 := (Below.drew hb).trans (hbw2.mono (by show _ ≤ wr.heap.size; omega))
            have hcx2 : w2.cell? ⟨g, o + i, none⟩ = some (.int .i64 x) := (hbw2.cell (p := ⟨g, o + i, none⟩) hgw).trans hcx
            have hcy2 : w2.cell? ⟨g, o + j, none⟩ = some (.int .i64 y) := (hbw2.cell (p := ⟨g, o + j, none⟩) hgw).trans hcy
            clear hcx hcy
            simp only [List.drop_succ_cons, List.drop_zero]
            repeat (refine WS.step (fun K hK => ?_); go_simp; refine hK.out _ ?_; clear hK K)
            refine WS.nil ?_
            go_wp2
            go_roundw
            case rel => go_light; exact ⟨i + 1, j, by go_num, rfl, by omega, lowTo_stay hlow.out hy.out hx.out (by omega), hb2⟩
            case measure => go_light; simp [intOf]; omega
    · obtain rfl : i = who.length := by omega
      go_wp2
      go_ret
      exact ⟨⟨r, rfl, hlow.out⟩, hb0⟩
end Go.Proofs.Ytcffhfcjfjfokaa
/- Duty's first closure: the lowest node that has a message. -/
namespace Go.Proofs.Ytcffhfcjfjfokaa
open Go.RowKit
def arrC (arr : List Int) : List Value := arr.map fun v => .int .i64 v
theorem arrC_at {arr : List Int} {p : Nat} {v : Int} (hv : arr[p]? = some v) : (arrC arr)[p]? = some (.int .i64 v) := by unfold arrC; rw [List.getElem?_map, hv]; rfl
theorem run_index_arr {P : Program} {W : World} {t e : TypeId} {n : Nat} {arr : List Int} {p : Nat} {v : Int} {i : TypeInfo} {d : TypeDesc} (ht : P.underlying t = some (.array n e)) (hi : P.info? e = some i) (hs : i.size = 1) (hu : P.underlying e = some d) (hd : d.isRow = false) (hp : p < n) (hv : arr[p]? = some v) :
    (Instr.index t (.agg (arrC arr).toArray) (.int .i64 p)).run P W = .ok (.int .i64 v) W := by
  have h1 := arrC_at hv
  have h2 : (Sem.run P (isAgg e) W) = .ok false W := by
    unfold isAgg
    cases d <;> simp [run_underlying hu, TypeDesc.isRow, go_sem] at hd ⊢
  simp [Instr.index, run_underlying ht, asIntOf, hp, sizeOf, typeInfo, hi, hs, part, h1, h2, go_sem]
/-- Who of the contents' nodes has the slot's message, by the lists of counts alone. -/
def hadL (fs : List Fl) (s q : Int) : List Bool := fs.map (fun f => havB f.have_ s q)
theorem hadL_at {fs : List Fl} {k : Nat} {f : Fl} {s q : Int} (h : fs[k]? = some f) : (hadL fs s q)[k]? = some (havB f.have_ s q) := by unfold hadL; rw [List.getElem?_map, h]; rfl
/-- The lowest node that has it; -1: none. -/
def FirstIs (who : List Int) (hs : List Bool) (r : Int) : Prop :=
  (r = -1 ∧ ∀ j : Nat, j < who.length → hs[j]? ≠ some true) ∨ (∃ i : Nat, who[i]? = some r ∧ hs[i]? = some true ∧ ∀ (j : Nat) (y : Int), hs[j]? = some true → who[j]? = some y → r ≤ y)
/-- None of the nodes below p has it. -/
def NoneBelow (who : List Int) (hs : List Bool) (p : Nat) : Prop := ∀ (j : Nat) (y : Int), who[j]? = some y → y < p → hs[j]? ≠ some true
theorem none_zero {who : List Int} {hs : List Bool} {arr : List Int} (h : PlArr who who.length arr) : NoneBelow who hs 0 := fun j y hy hlt => by
  have := (h.put j y (List.getElem?_eq_some_iff.1 hy).1 hy).1; omega
theorem none_gone {who : List Int} {hs : List Bool} {arr : List Int} {p : Nat} (h : PlArr who who.length arr) (hn : NoneBelow who hs p) (hv : arr[p]? = some 0) : NoneBelow who hs (p + 1) := fun j y hy hlt => by
  by_cases e : y = p
  · subst e; exact absurd (List.mem_of_getElem? hy) (h.gone hv)
  · exact hn j y hy (by omega)
theorem none_not {who : List Int} {hs : List Bool} {arr : List Int} {p i : Nat} (h : PlArr who who.length arr) (hn : NoneBelow who hs p) (hv : arr[p]? = some ((i : Int) + 1)) (hh : hs[i]? = some false) : NoneBelow who hs (p + 1) := fun j y hy hlt => by
  by_cases e : y = p
  · subst e
    have h1 := (h.put j p (List.getElem?_eq_some_iff.1 hy).1 hy).2.2
    rw [Int.toNat_natCast, hv] at h1
    have : i = j := by simp at h1; omega
    subst this; rw [hh]; simp
  · exact hn j y hy (by omega)
theorem first_here {who : List Int} {hs : List Bool} {p i : Nat} (hn : NoneBelow who hs p) (hi : who[i]? = some (p : Int)) (hh : hs[i]? = some true) : FirstIs who hs p :=
  .inr ⟨i, hi, hh, fun j y hj hy => Int.not_lt.1 fun hlt => hn j y hy hlt hj⟩
theorem first_none {who : List Int} {hs : List Bool} {arr : List Int} (h : PlArr who who.length arr) (hn : NoneBelow who hs 16) : FirstIs who hs (-1) :=
  .inl ⟨rfl, fun j hj => by
    have hx := List.getElem?_eq_getElem hj
    have := h.put j _ hj hx
    exact hn j _ hx (by omega)⟩
set_option maxRecDepth 100000 in
set_option maxHeartbeats 4000000 in
theorem first_any (bp ba N : Nat) (who arr : List Int) (A : Option Addr) (cA : Nat) (fs : List Fl) (s q : Int) (w : World) (hN : N ≤ w.heap.size) (hbp : bp < w.heap.size) (hba : ba < w.heap.size)
    (hcp : w.rangeAt bp 0 (arrC arr)) (hca : w.cell? ⟨ba, 0, none⟩ = some (.slice A who.length cA)) (hA : Fls w N A fs) (hlen : fs.length = who.length) (hl : who.length ≤ 9223372036854775807) (hP : PlArr who who.length arr) (hs : ∀ f ∈ fs, 0 ≤ s ∧ s < f.have_.length) :
    Calls Try.prog 67 #[.agg #[.int .i64 s, .int .i64 q], .pointer (some ⟨bp, 0, none⟩), .pointer (some ⟨ba, 0, none⟩)] w fun x w' => (∃ r, x = .returned (.int .i64 r) ∧ FirstIs who (hadL fs s q) r) ∧ Below w.heap.size w w' := by
  have hcp2 := World.rangeAt_alloc hcp (.cells #[.int .i64 s, .int .i64 q] 66)
  have h16 := hP.len
  replace hP := Lib.hid hP
  have hi131 : (Try.prog.info? 131).map (·.size) = some (arrC arr).length := by unfold arrC; rw [List.length_map, h16]; kernel_rfl
  go_enter Try.func67, Try.ntmps67
  go_wp2_with (refine wpList_load_mid rfl 131 (.tmp 1) rfl bp 0 rfl (arrC arr) _ hcp2 Try.underlying131 rfl hi131 ?_)
  go_loopw [8] (fun k wr => ∃ (p : Nat), k = .int .i64 p ∧ p ≤ 16 ∧ NoneBelow who (hadL fs s q) p ∧ Below (w.heap.size + 1) (box1 w #[.int .i64 s, .int .i64 q] 66) wr) (fun k _ => 16 - (intOf k).toNat)
  case atStart => exact ⟨0, rfl, by omega, none_zero hP.out, Below.refl _ _⟩
  case round =>
    obtain ⟨p, rfl, hp, hnb, hb⟩ := hrel
    replace hnb := Lib.hid hnb
    obtain ⟨hb0, hc, -, hsz⟩ := box1_facts hb
    have e0 := hc 0
    have e1 := hc 1
    simp at e0 e1
    clear hc
    by_cases hlt : p < 16
    · obtain ⟨v, hv⟩ : ∃ v, arr[p]? = some v := ⟨_, List.getElem?_eq_getElem (by omega)⟩
      have hix : ∀ W : World, (Instr.index 131 (.agg (arrC arr).toArray) (.int .i64 p)).run Try.prog W = .ok (.int .i64 v) W := fun W => run_index_arr Try.underlying131 rfl rfl Try.underlying3 rfl hlt hv
      by_cases hv0 : v = 0
      · subst hv0
        have hnb' := Lib.hid (none_gone hP.out hnb.out hv)
        go_wp2
        go_quiet (fail)
        go_wp2
        go_roundw
        case rel => go_light; exact ⟨p + 1, by go_num, by omega, hnb'.out, below_drewN hb _⟩
        case measure => go_light; simp [intOf]; omega
      · obtain ⟨i, rfl, hwi, hil⟩ := hP.out.here hv hv0
        obtain ⟨g', o', f, X, cX, Y, cY, rfl, hg', hf, ⟨c0, c1, c2, c3, c4, c5, c6⟩, hr⟩ := (hA.below hb0 hN).at_ (k := i) (by omega)
        obtain ⟨hs0, hs1⟩ := hs f (List.mem_of_getElem? hf.out)
        have hHas := Lib.hid (hadL_at (s := s) (q := q) hf.out)
        have hgw' : g' < wr.heap.size := by omega
        have hrh := hr.have_
        have hca2 : wr.cell? ⟨ba, 0, none⟩ = some (.slice (some ⟨g', o', none⟩) who.length cA) := (hb0.cell (p := ⟨ba, 0, none⟩) hba).trans hca
        have hwr : IntKind.i64.wrap ((i : Int) + 1 - 1) = i := by rw [show (i : Int) + 1 - 1 = i by omega]; exact IntWalk.i64_in _ (by omega)
        have hwr2 : IntKind.i64.wrap (i : Int) = i := IntWalk.i64_in _ (by omega)
        replace hv := Lib.hid hv
        replace hwi := Lib.hid hwi
        have hv1 : 0 < (i : Int) + 1 := by omega
        clear hv0 hA hs
        cases hh : havB f.have_ s q with
        | false =>
          rw [hh] at hHas
          have hnb' := Lib.hid (none_not hP.out hnb.out hv.out hHas.out)
          replace hh := Lib.hid hh
          go_wp2
          refine wp_region_mid 9 (by kernel_rfl) rfl (by kernel_rfl) ?_
          simp only [List.take_succ_cons, List.take_zero]
          repeat (refine WS.step (fun K hK => ?_); go_simp; refine hK.out _ ?_; clear hK K)
          refine WS.nil ?_
          intro K hK
          go_simp
          go_at_call 61
          refine (has_any f.e f.l f.i f.c f.base (.slice X f.slots.length cX) Y cY N f.have_ s q wr.drew hs0 hs1 (by show N ≤ wr.heap.size; omega) hrh).mono ?_
          rintro e w2 ⟨rfl, hbw2⟩
          rw [hh.out]
          go_wp2_with fail
          refine hK.out _ _ ?_
          clear hK K
          have hb2 := (Below.drew hb).trans (hbw2.mono (by show _ ≤ wr.heap.size; omega))
          simp only [List.drop_succ_cons, List.drop_zero]
          repeat (refine WS.step (fun K hK => ?_); go_simp; refine hK.out _ ?_; clear hK K)
          refine WS.nil ?_
          go_wp2
          go_roundw
          case rel => go_light; exact ⟨p + 1, by go_num, by omega, hnb'.out, hb2⟩
          case measure => go_light; simp [intOf]; omega
        | true =>
          rw [hh] at hHas
          replace hh := Lib.hid hh
          go_wp2
          refine wp_region_mid 9 (by kernel_rfl) rfl (by kernel_rfl) ?_
          simp only [List.take_succ_cons, List.take_zero]
          repeat (refine WS.step (fun K hK => ?_); go_simp; refine hK.out _ ?_; clear hK K)
          refine WS.nil ?_
          intro K hK
          go_simp
          go_at_call 61
          refine (has_any f.e f.l f.i f.c f.base (.slice X f.slots.length cX) Y cY N f.have_ s q wr.drew hs0 hs1 (by show N ≤ wr.heap.size; omega) hrh).mono ?_
          rintro e w2 ⟨rfl, hbw2⟩
          rw [hh.out]
          go_wp2_with fail
          refine hK.out _ _ ?_
          clear hK K
          have hb2 := (Below.drew hb).trans (hbw2.mono (by show _ ≤ wr.heap.size; omega))
          simp only [List.drop_succ_cons, List.drop_zero]
          repeat (refine WS.step (fun K hK => ?_); go_simp; refine hK.out _ ?_; clear hK K)
          refine WS.nil ?_
          go_wp2
          go_ret
          exact ⟨⟨p, rfl, first_here hnb.out hwi.out hHas.out⟩, (box1_facts hb2).1⟩
    · obtain rfl : p = 16 := by omega
      have hfn := Lib.hid (first_none hP.out hnb.out)
      go_wp2
      go_ret
      exact ⟨⟨-1, rfl, hfn.out⟩, hb0⟩
end Go.Proofs.Ytcffhfcjfjfokaa
/- Duty's second closure: is the message owed to the node q by the node self? -/
namespace Go.Proofs.Ytcffhfcjfjfokaa
open Go.RowKit
open Classical in
/-- Is self the lowest node that has it? -/
noncomputable def firstB (who : List Int) (hs : List Bool) (self : Int) : Bool :=
  decide (∃ i : Nat, who[i]? = some self ∧ hs[i]? = some true ∧ ∀ (j : Nat) (y : Int), hs[j]? = some true → who[j]? = some y → self ≤ y)
theorem first_eq {who : List Int} {hs : List Bool} {r self : Int} (h : FirstIs who hs r) (h0 : 0 ≤ self) : (r == self) = firstB who hs self := by
  unfold firstB
  rcases h with ⟨rfl, hn⟩ | ⟨i, h1, h2, h3⟩
  · rw [beq_eq_false_iff_ne.2 (by omega)]
    symm
    refine @decide_eq_false _ (Classical.propDecidable _) ?_
    rintro ⟨i, hi, hh, _⟩
    exact hn i (List.getElem?_eq_some_iff.1 hi).1 hh
  · by_cases e : r = self
    · subst e
      rw [beq_self_eq_true]
      symm
      exact @decide_eq_true _ (Classical.propDecidable _) ⟨i, h1, h2, h3⟩
    · rw [beq_eq_false_iff_ne.2 e]
      symm
      refine @decide_eq_false _ (Classical.propDecidable _) ?_
      rintro ⟨j, k1, k2, k3⟩
      have := h3 j self k2 k1
      have := k3 i r h2 h1
      omega
theorem low_eq {who : List Int} {hs : List Bool} {r self : Int} {me : Nat} (h : LowTo who hs who.length r) (hm : who[me]? = some self) (hl : hs.length = who.length) (hn : who.Nodup) : (r == (me : Int)) = firstB who hs self := by
  unfold firstB
  rcases h with ⟨rfl, hn'⟩ | ⟨i, x, hi, h1, h2, rfl, h3⟩
  · rw [beq_eq_false_iff_ne.2 (by omega)]
    symm
    refine @decide_eq_false _ (Classical.propDecidable _) ?_
    rintro ⟨i, hi, hh, _⟩
    exact hn' i (List.getElem?_eq_some_iff.1 hi).1 hh
  · by_cases e : i = me
    · subst e
      rw [h2] at hm; cases hm
      rw [beq_self_eq_true]
      symm
      exact @decide_eq_true _ (Classical.propDecidable _) ⟨i, h2, h1, fun j y hj hy => h3 j y (List.getElem?_eq_some_iff.1 hy).1 hj hy⟩
    · rw [beq_eq_false_iff_ne.2 (by omega)]
      symm
      refine @decide_eq_false _ (Classical.propDecidable _) ?_
      rintro ⟨j, k1, k2, k3⟩
      have e2 : j = me := Decidable.byContradiction fun h => apart_of_nodup hn h k1 hm
      subst e2
      have a1 := h3 j self (List.getElem?_eq_some_iff.1 k1).1 k2 k1
      have a2 := k3 i x h1 h2
      have : x = self := by omega
      subst this
      exact apart_of_nodup hn e h2 k1
set_option maxRecDepth 100000 in
set_option maxHeartbeats 4000000 in
theorem owe_any (ba bp bq bf bs N q iy : Nat) (self : Int) (who arr : List Int) (A : Option Addr) (cA : Nat) (fs : List Fl) (f : Fl) (a b : Int) (w : World) (hN : N ≤ w.heap.size) (hbp : bp < w.heap.size) (hba : ba < w.heap.size) (hbq : bq < w.heap.size) (hbf : bf < w.heap.size) (hbs : bs < w.heap.size)
    (hcp : w.rangeAt bp 0 (arrC arr)) (hca : w.cell? ⟨ba, 0, none⟩ = some (.slice A who.length cA)) (hcq : w.cell? ⟨bq, 0, none⟩ = some (.int .i64 q)) (hcs : w.cell? ⟨bs, 0, none⟩ = some (.int .i64 self))
    (hcf : w.cell? ⟨bf, 0, none⟩ = some (.func (.func 67) #[] #[.pointer (some ⟨bp, 0, none⟩), .pointer (some ⟨ba, 0, none⟩)]))
    (hA : Fls w N A fs) (hlen : fs.length = who.length) (hl : who.length ≤ 9223372036854775807) (hP : PlArr who who.length arr) (hq : q < 16) (hy : arr[q]? = some ((iy : Int) + 1)) (hf : fs[iy]? = some f) (h0 : 0 ≤ self)
    (hs : ∀ f ∈ fs, 0 ≤ a ∧ a < f.have_.length) :
    Calls Try.prog 68 #[.agg #[.int .i64 a, .int .i64 b], .pointer (some ⟨ba, 0, none⟩), .pointer (some ⟨bp, 0, none⟩), .pointer (some ⟨bq, 0, none⟩), .pointer (some ⟨bf, 0, none⟩), .pointer (some ⟨bs, 0, none⟩)] w fun x w' => x = .returned (.bool (!havB f.have_ a b && firstB who (hadL fs a b) self)) ∧ Below w.heap.size w w' := by
  have hiy : iy < fs.length := (List.getElem?_eq_some_iff.1 hf).1
  obtain ⟨g', o', f', X, cX, Y, cY, rfl, hg', hf', ⟨c0, c1, c2, c3, c4, c5, c6⟩, hr⟩ := hA.at_ hiy
  obtain rfl : f = f' := by have := hf'.out; rw [hf] at this; cases this; rfl
  obtain ⟨hs0, hs1⟩ := hs f (List.mem_of_getElem? hf)
  have hgw : g' < w.heap.size := by omega
  have hcpq : w.cell? ⟨bp, q, none⟩ = some (.int .i64 ((iy : Int) + 1)) := by have := hcp q _ (arrC_at hy); rw [Nat.zero_add] at this; exact this
  have hbx : ∀ W : World, Below (w.heap.size + 1) (box1 w #[.int .i64 a, .int .i64 b] 66) W → Below w.heap.size w W := fun W h => (box1_facts h).1
  have hall : ∀ W : World, Below (w.heap.size + 1) (box1 w #[.int .i64 a, .int .i64 b] 66) W → (Below (w.heap.size + 1) (box1 w #[.int .i64 a, .int .i64 b] 66) W ∧ W.cell? ⟨w.heap.size, 0, none⟩ = some (.int .i64 a) ∧ W.cell? ⟨w.heap.size, 1, none⟩ = some (.int .i64 b) ∧
      W.cell? ⟨ba, 0, none⟩ = some (.slice (some ⟨g', o', none⟩) who.length cA) ∧ W.cell? ⟨bq, 0, none⟩ = some (.int .i64 q) ∧ W.cell? ⟨bp, q, none⟩ = some (.int .i64 ((iy : Int) + 1)) ∧
      W.cell? ⟨g', o' + iy * 7, none⟩ = some (.int .i64 f.e) ∧ W.cell? ⟨g', o' + iy * 7 + 1, none⟩ = some (.int .i64 f.l) ∧ W.cell? ⟨g', o' + iy * 7 + 2, none⟩ = some (.int .i64 f.i) ∧ W.cell? ⟨g', o' + iy * 7 + 3, none⟩ = some (.int .i64 f.c) ∧
      W.cell? ⟨g', o' + iy * 7 + 4, none⟩ = some (.int .i64 f.base) ∧ W.cell? ⟨g', o' + iy * 7 + 5, none⟩ = some (.slice X f.slots.length cX) ∧ W.cell? ⟨g', o' + iy * 7 + 6, none⟩ = some (.slice Y f.have_.length cY) ∧
      W.cell? ⟨bf, 0, none⟩ = some (.func (.func 67) #[] #[.pointer (some ⟨bp, 0, none⟩), .pointer (some ⟨ba, 0, none⟩)]) ∧ W.cell? ⟨bs, 0, none⟩ = some (.int .i64 self)) := fun W h => by
    have h1 := hbx W h
    obtain ⟨-, hc, -, -⟩ := box1_facts h
    exact ⟨h, hc 0, hc 1, (h1.cell (p := ⟨ba, 0, none⟩) hba).trans hca, (h1.cell (p := ⟨bq, 0, none⟩) hbq).trans hcq, (h1.cell (p := ⟨bp, q, none⟩) hbp).trans hcpq,
      (h1.cell (p := ⟨g', _, none⟩) hgw).trans c0, (h1.cell (p := ⟨g', _, none⟩) hgw).trans c1, (h1.cell (p := ⟨g', _, none⟩) hgw).trans c2, (h1.cell (p := ⟨g', _, none⟩) hgw).trans c3, (h1.cell (p := ⟨g', _, none⟩) hgw).trans c4, (h1.cell (p := ⟨g', _, none⟩) hgw).trans c5, (h1.cell (p := ⟨g', _, none⟩) hgw).trans c6,
      (h1.cell (p := ⟨bf, 0, none⟩) hbf).trans hcf, (h1.cell (p := ⟨bs, 0, none⟩) hbs).trans hcs⟩
  have h61 : ∀ W : World, Below (w.heap.size + 1) (box1 w #[.int .i64 a, .int .i64 b] 66) W → Calls Try.prog 61 #[.agg #[.int .i64 f.e, .int .i64 f.l, .int .i64 f.i, .int .i64 f.c, .int .i64 f.base, .slice X f.slots.length cX, .slice Y f.have_.length cY], .agg #[.int .i64 a, .int .i64 b]] W fun e W' => e = .returned (.bool (havB f.have_ a b)) ∧ Below (w.heap.size + 1) (box1 w #[.int .i64 a, .int .i64 b] 66) W' := fun W h => by
    have h1 := hbx W h
    exact (has_any f.e f.l f.i f.c f.base _ Y cY N f.have_ a b W hs0 hs1 (by have := h1.size; omega) (hr.have_.below h1 hN)).mono fun e W' ⟨e1, e2⟩ => ⟨e1, h.trans (e2.mono (by have := h.size; simpa using this))⟩
  have h67 : ∀ W : World, Below (w.heap.size + 1) (box1 w #[.int .i64 a, .int .i64 b] 66) W → Calls Try.prog 67 #[.agg #[.int .i64 a, .int .i64 b], .pointer (some ⟨bp, 0, none⟩), .pointer (some ⟨ba, 0, none⟩)] W fun e W' => (∃ r, e = .returned (.int .i64 r) ∧ (r == self) = firstB who (hadL fs a b) self) ∧ Below (w.heap.size + 1) (box1 w #[.int .i64 a, .int .i64 b] 66) W' := fun W h => by
    have h1 := hbx W h
    refine (first_any bp ba N who arr _ cA fs a b W (by have := h1.size; omega) (by have := h1.size; omega) (by have := h1.size; omega) (fun j v hv => (h1.cell (p := ⟨bp, 0 + j, none⟩) hbp).trans (hcp j v hv)) ((h1.cell (p := ⟨ba, 0, none⟩) hba).trans hca) (hA.below h1 hN) hlen hl hP hs).mono ?_
    rintro e W' ⟨⟨r, rfl, hfi⟩, e2⟩
    exact ⟨⟨r, rfl, first_eq hfi h0⟩, h.trans (e2.mono (by have := h.size; simpa using this))⟩
  have hwr : IntKind.i64.wrap ((iy : Int) + 1 - 1) = iy := by rw [show (iy : Int) + 1 - 1 = iy by omega]; exact IntWalk.i64_in _ (by omega)
  have hwr2 : IntKind.i64.wrap (iy : Int) = iy := IntWalk.i64_in _ (by omega)
  have hiw : iy < who.length := by omega
  have hq16 : (q : Int) < 16 := by omega
  replace hall := Lib.hid hall
  replace h61 := Lib.hid h61
  replace h67 := Lib.hid h67
  replace hbx := Lib.hid hbx
  clear hs hP hA hcp hf hf' hy hr
  cases hh : havB f.have_ a b with
  | true =>
    replace hh := Lib.hid hh
    go_enter Try.func68, Try.ntmps68
    go_wp2
    refine wp_region_mid 8 (by kernel_rfl) rfl (by kernel_rfl) ?_
    simp only [List.take_succ_cons, List.take_zero]
    repeat (refine WS.step (fun K hK => ?_); go_simp; refine hK.out _ ?_; clear hK K)
    refine WS.nil ?_
    intro K hK
    go_simp
    go_at_call 61
    refine (h61.out (box1 w #[.int .i64 a, .int .i64 b] 66).drew (Below.drew (Below.refl _ _))).mono ?_
    rintro e w2 ⟨rfl, hbw2⟩
    rw [hh.out]
    go_wp2_with fail
    refine hK.out _ _ ?_
    clear hK K
    simp only [List.drop_succ_cons, List.drop_zero]
    repeat (refine WS.step (fun K hK => ?_); go_simp; refine hK.out _ ?_; clear hK K)
    refine WS.nil ?_
    go_wp2
    go_ret
    exact ⟨ret_bool (by simp), hbx.out _ hbw2⟩
  | false =>
    replace hh := Lib.hid hh
    clear hca hcq hcs hcf c0 c1 c2 c3 c4 c5 c6 hcpq
    go_enter Try.func68, Try.ntmps68
    go_wp2
    go_region_held3 (fun W => Below (w.heap.size + 1) (box1 w #[.int .i64 a, .int .i64 b] 66) W ∧ W.cell? ⟨w.heap.size, 0, none⟩ = some (.int .i64 a) ∧ W.cell? ⟨w.heap.size, 1, none⟩ = some (.int .i64 b) ∧
      W.cell? ⟨ba, 0, none⟩ = some (.slice (some ⟨g', o', none⟩) who.length cA) ∧ W.cell? ⟨bq, 0, none⟩ = some (.int .i64 q) ∧ W.cell? ⟨bp, q, none⟩ = some (.int .i64 ((iy : Int) + 1)) ∧
      W.cell? ⟨g', o' + iy * 7, none⟩ = some (.int .i64 f.e) ∧ W.cell? ⟨g', o' + iy * 7 + 1, none⟩ = some (.int .i64 f.l) ∧ W.cell? ⟨g', o' + iy * 7 + 2, none⟩ = some (.int .i64 f.i) ∧ W.cell? ⟨g', o' + iy * 7 + 3, none⟩ = some (.int .i64 f.c) ∧
      W.cell? ⟨g', o' + iy * 7 + 4, none⟩ = some (.int .i64 f.base) ∧ W.cell? ⟨g', o' + iy * 7 + 5, none⟩ = some (.slice X f.slots.length cX) ∧ W.cell? ⟨g', o' + iy * 7 + 6, none⟩ = some (.slice Y f.have_.length cY) ∧
      W.cell? ⟨bf, 0, none⟩ = some (.func (.func 67) #[] #[.pointer (some ⟨bp, 0, none⟩), .pointer (some ⟨ba, 0, none⟩)]) ∧ W.cell? ⟨bs, 0, none⟩ = some (.int .i64 self))
      (first | exact hall.out _ (Below.drew (Below.refl _ _)) | exact hall.out _ hbw2 | go_keep)
      (first | (go_at_call 61; refine (h61.out _ (‹Below (w.heap.size + 1) _ _ ∧ _›).1).mono ?_; rintro e w2 ⟨rfl, hbw2⟩; rw [hh.out]) | (go_at_call 67; refine (h67.out _ (‹Below (w.heap.size + 1) _ _ ∧ _›).1).mono ?_; rintro e w2 ⟨⟨r, rfl, hfi⟩, hbw2⟩; replace hfi := Lib.hid hfi))
    have hbl := (‹Below (w.heap.size + 1) _ _ ∧ _›).1
    have hbz := hbx.out _ hbl
    go_wp2
    go_ret
    exact ⟨ret_bool (by rw [hfi.out]; simp), hbz⟩
end Go.Proofs.Ytcffhfcjfjfokaa
