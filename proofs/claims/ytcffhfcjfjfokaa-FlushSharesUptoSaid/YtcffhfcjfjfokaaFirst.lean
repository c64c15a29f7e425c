/- Duty's first closure: the lowest node that has a message. -/
import Derived.Test.YtcffhfcjfjfokaaLowest
import Derived.Deep.MidRow
namespace Go.Proofs.Ytcffhfcjfjfokaa
open Go.RowKit
def arrC (arr : List Int) : List Value := arr.map fun v => .int .i64 v
theorem arrC_at {arr : List Int} {p : Nat} {v : Int} (hv : arr[p]? = some v) : (arrC arr)[p]? = some (.int .i64 v) := by unfold arrC; rw [List.getElem?_map, hv]; rfl
theorem run_index_arr {P : Program} {W : World} {t e : TypeId} {n : Nat} {arr : List Int} {p : Nat} {v : Int} {i : TypeInfo} {d : TypeDesc} (ht : P.underlying t = some (.array n e)) (hi : P.info? e = some i) (hs : i.size = 1) (hu : P.underlying e = some d) (hd : d.isRow = false) (hp : p < n) (hv : arr[p]? = some v) :
    (Instr.index t (.agg (arrC arr).toArray) (.int .i64 p)).run P W = .ok (.int .i64 v) W := by
  have h1 := arrC_at hv
  have h2 : (Sem.run P (isAgg e) W) = .ok false W := by
    unfold isAgg
    cases d <;> simp [run_underlying hu, TypeDesc.isRow, go_sem] at hd ⊢
  simp [Instr.index, run_underlying ht, asIntOf, hp, sizeOf, typeInfo, hi, hs, part, h1, h2, go_sem]
/-- Who of the contents' nodes has the slot's message, by the lists of counts alone. -/
def hadL (fs : List Fl) (s q : Int) : List Bool := fs.map (fun f => havB f.have_ s q)
theorem hadL_at {fs : List Fl} {k : Nat} {f : Fl} {s q : Int} (h : fs[k]? = some f) : (hadL fs s q)[k]? = some (havB f.have_ s q) := by unfold hadL; rw [List.getElem?_map, h]; rfl
/-- The lowest node that has it; -1: none. -/
def FirstIs (who : List Int) (hs : List Bool) (r : Int) : Prop :=
  (r = -1 ∧ ∀ j : Nat, j < who.length → hs[j]? ≠ some true) ∨ (∃ i : Nat, who[i]? = some r ∧ hs[i]? = some true ∧ ∀ (j : Nat) (y : Int), hs[j]? = some true → who[j]? = some y → r ≤ y)
/-- None of the nodes below p has it. -/
def NoneBelow (who : List Int) (hs : List Bool) (p : Nat) : Prop := ∀ (j : Nat) (y : Int), who[j]? = some y → y < p → hs[j]? ≠ some true
theorem none_zero {who : List Int} {hs : List Bool} {arr : List Int} (h : PlArr who who.length arr) : NoneBelow who hs 0 := fun j y hy hlt => by
  have := (h.put j y (List.getElem?_eq_some_iff.1 hy).1 hy).1; omega
theorem none_gone {who : List Int} {hs : List Bool} {arr : List Int} {p : Nat} (h : PlArr who who.length arr) (hn : NoneBelow who hs p) (hv : arr[p]? = some 0) : NoneBelow who hs (p + 1) := fun j y hy hlt => by
  by_cases e : y = p
  · subst e; exact absurd (List.mem_of_getElem? hy) (h.gone hv)
  · exact hn j y hy (by omega)
theorem none_not {who : List Int} {hs : List Bool} {arr : List Int} {p i : Nat} (h : PlArr who who.length arr) (hn : NoneBelow who hs p) (hv : arr[p]? = some ((i : Int) + 1)) (hh : hs[i]? = some false) : NoneBelow who hs (p + 1) := fun j y hy hlt => by
  by_cases e : y = p
  · subst e
    have h1 := (h.put j p (List.getElem?_eq_some_iff.1 hy).1 hy).2.2
    rw [Int.toNat_natCast, hv] at h1
    have : i = j := by simp at h1; omega
    subst this; rw [hh]; simp
  · exact hn j y hy (by omega)
theorem first_here {who : List Int} {hs : List Bool} {p i : Nat} (hn : NoneBelow who hs p) (hi : who[i]? = some (p : Int)) (hh : hs[i]? = some true) : FirstIs who hs p :=
  .inr ⟨i, hi, hh, fun j y hj hy => Int.not_lt.1 fun hlt => hn j y hy hlt hj⟩
theorem first_none {who : List Int} {hs : List Bool} {arr : List Int} (h : PlArr who who.length arr) (hn : NoneBelow who hs 16) : FirstIs who hs (-1) :=
  .inl ⟨rfl, fun j hj => by
    have hx := List.getElem?_eq_getElem hj
    have := h.put j _ hj hx
    exact hn j _ hx (by omega)⟩
set_option maxRecDepth 100000 in
set_option maxHeartbeats 4000000 in
theorem first_any (bp ba N : Nat) (who arr : List Int) (A : Option Addr) (cA : Nat) (fs : List Fl) (s q : Int) (w : World) (hN : N ≤ w.heap.size) (hbp : bp < w.heap.size) (hba : ba < w.heap.size)
    (hcp : w.rangeAt bp 0 (arrC arr)) (hca : w.cell? ⟨ba, 0, none⟩ = some (.slice A who.length cA)) (hA : Fls w N A fs) (hlen : fs.length = who.length) (hl : who.length ≤ 9223372036854775807) (hP : PlArr who who.length arr) (hs : ∀ f ∈ fs, 0 ≤ s ∧ s < f.have_.length) :
    Calls Try.prog 67 #[.agg #[.int .i64 s, .int .i64 q], .pointer (some ⟨bp, 0, none⟩), .pointer (some ⟨ba, 0, none⟩)] w fun x w' => (∃ r, x = .returned (.int .i64 r) ∧ FirstIs who (hadL fs s q) r) ∧ Below w.heap.size w w' := by
  have hcp2 := World.rangeAt_alloc hcp (.cells #[.int .i64 s, .int .i64 q] 66)
  have h16 := hP.len
  replace hP := Lib.hid hP
  have hi131 : (Try.prog.info? 131).map (·.size) = some (arrC arr).length := by unfold arrC; rw [List.length_map, h16]; kernel_rfl
  go_enter Try.func67, Try.ntmps67
  go_wp2_with (refine wpList_load_mid rfl 131 (.tmp 1) rfl bp 0 rfl (arrC arr) _ hcp2 Try.underlying131 rfl hi131 ?_)
  go_loopw [8] (fun k wr => ∃ (p : Nat), k = .int .i64 p ∧ p ≤ 16 ∧ NoneBelow who (hadL fs s q) p ∧ Below (w.heap.size + 1) (box1 w #[.int .i64 s, .int .i64 q] 66) wr) (fun k _ => 16 - (intOf k).toNat)
  case atStart => exact ⟨0, rfl, by omega, none_zero hP.out, Below.refl _ _⟩
  case round =>
    obtain ⟨p, rfl, hp, hnb, hb⟩ := hrel
    replace hnb := Lib.hid hnb
    obtain ⟨hb0, hc, -, hsz⟩ := box1_facts hb
    have e0 := hc 0
    have e1 := hc 1
    simp at e0 e1
    clear hc
    by_cases hlt : p < 16
    · obtain ⟨v, hv⟩ : ∃ v, arr[p]? = some v := ⟨_, List.getElem?_eq_getElem (by omega)⟩
      have hix : ∀ W : World, (Instr.index 131 (.agg (arrC arr).toArray) (.int .i64 p)).run Try.prog W = .ok (.int .i64 v) W := fun W => run_index_arr Try.underlying131 rfl rfl Try.underlying3 rfl hlt hv
      by_cases hv0 : v = 0
      · subst hv0
        have hnb' := Lib.hid (none_gone hP.out hnb.out hv)
        go_wp2
        go_quiet (fail)
        go_wp2
        go_roundw
        case rel => go_light; exact ⟨p + 1, by go_num, by omega, hnb'.out, below_drewN hb _⟩
        case measure => go_light; simp [intOf]; omega
      · obtain ⟨i, rfl, hwi, hil⟩ := hP.out.here hv hv0
        obtain ⟨g', o', f, X, cX, Y, cY, rfl, hg', hf, ⟨c0, c1, c2, c3, c4, c5, c6⟩, hr⟩ := (hA.below hb0 hN).at_ (k := i) (by omega)
        obtain ⟨hs0, hs1⟩ := hs f (List.mem_of_getElem? hf.out)
        have hHas := Lib.hid (hadL_at (s := s) (q := q) hf.out)
        have hgw' : g' < wr.heap.size := by omega
        have hrh := hr.have_
        have hca2 : wr.cell? ⟨ba, 0, none⟩ = some (.slice (some ⟨g', o', none⟩) who.length cA) := (hb0.cell (p := ⟨ba, 0, none⟩) hba).trans hca
        have hwr : IntKind.i64.wrap ((i : Int) + 1 - 1) = i := by rw [show (i : Int) + 1 - 1 = i by omega]; exact IntWalk.i64_in _ (by omega)
        have hwr2 : IntKind.i64.wrap (i : Int) = i := IntWalk.i64_in _ (by omega)
        replace hv := Lib.hid hv
        replace hwi := Lib.hid hwi
        have hv1 : 0 < (i : Int) + 1 := by omega
        clear hv0 hA hs
        cases hh : havB f.have_ s q with
        | false =>
          rw [hh] at hHas
          have hnb' := Lib.hid (none_not hP.out hnb.out hv.out hHas.out)
          replace hh := Lib.hid hh
          go_wp2
          refine wp_region_mid 9 (by kernel_rfl) rfl (by kernel_rfl) ?_
          simp only [List.take_succ_cons, List.take_zero]
          repeat (refine WS.step (fun K hK => ?_); go_simp; refine hK.out _ ?_; clear hK K)
          refine WS.nil ?_
          intro K hK
          go_simp
          go_at_call 61
          refine (has_any f.e f.l f.i f.c f.base (.slice X f.slots.length cX) Y cY N f.have_ s q wr.drew hs0 hs1 (by show N ≤ wr.heap.size; omega) hrh).mono ?_
          rintro e w2 ⟨rfl, hbw2⟩
          rw [hh.out]
          go_wp2_with fail
          refine hK.out _ _ ?_
          clear hK K
          have hb2 := (Below.drew hb).trans (hbw2.mono (by show _ ≤ wr.heap.size; omega))
          simp only [List.drop_succ_cons, List.drop_zero]
          repeat (refine WS.step (fun K hK => ?_); go_simp; refine hK.out _ ?_; clear hK K)
          refine WS.nil ?_
          go_wp2
          go_roundw
          case rel => go_light; exact ⟨p + 1, by go_num, by omega, hnb'.out, hb2⟩
          case measure => go_light; simp [intOf]; omega
        | true =>
          rw [hh] at hHas
          replace hh := Lib.hid hh
          go_wp2
          refine wp_region_mid 9 (by kernel_rfl) rfl (by kernel_rfl) ?_
          simp only [List.take_succ_cons, List.take_zero]
          repeat (refine WS.step (fun K hK => ?_); go_simp; refine hK.out _ ?_; clear hK K)
          refine WS.nil ?_
          intro K hK
          go_simp
          go_at_call 61
          refine (has_any f.e f.l f.i f.c f.base (.slice X f.slots.length cX) Y cY N f.have_ s q wr.drew hs0 hs1 (by show N ≤ wr.heap.size; omega) hrh).mono ?_
          rintro e w2 ⟨rfl, hbw2⟩
          rw [hh.out]
          go_wp2_with fail
          refine hK.out _ _ ?_
          clear hK K
          have hb2 := (Below.drew hb).trans (hbw2.mono (by show _ ≤ wr.heap.size; omega))
          simp only [List.drop_succ_cons, List.drop_zero]
          repeat (refine WS.step (fun K hK => ?_); go_simp; refine hK.out _ ?_; clear hK K)
          refine WS.nil ?_
          go_wp2
          go_ret
          exact ⟨⟨p, rfl, first_here hnb.out hwi.out hHas.out⟩, (box1_facts hb2).1⟩
    · obtain rfl : p = 16 := by omega
      have hfn := Lib.hid (first_none hP.out hnb.out)
      go_wp2
      go_ret
      exact ⟨⟨-1, rfl, hfn.out⟩, hb0⟩
end Go.Proofs.Ytcffhfcjfjfokaa
