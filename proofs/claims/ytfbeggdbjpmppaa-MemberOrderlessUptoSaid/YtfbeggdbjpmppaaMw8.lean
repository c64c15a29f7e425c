/- RAgm RId RInts Prop Install RTwin, joined. -/
import Derived.Test.YtfbeggdbjpmppaaMw5
import Derived.Test.YtfbeggdbjpmppaaMw6
import Derived.Test.YtfbeggdbjpmppaaMw7
set_option linter.unusedVariables false
set_option linter.unusedSimpArgs false
/- The document's agreement. -/
namespace Go.Proofs.Ytfbeggdbjpmppaa
open Go.RowKit
theorem nth_take {l : List Int} {n i : Nat} (h : i < n) : nth (l.take n) i = nth l i := by unfold nth; rw [List.getElem?_take_of_lt h]
theorem own_at {w : World} {b : Nat} {F : List Nat} {s : St} {hs : List HdR} {X : Ptrs} (h : RefAt w b F s hs X) (hI : Inv s) {i : Nat} (hi : i < s.n) :
    (∃ g o, X.S = some ⟨g, o, none⟩ ∧ g < w.heap.size ∧ w.cell? ⟨g, o + i, none⟩ = some (.int .i64 (nth s.own.set i))) ∧ (∃ g o, X.V = some ⟨g, o, none⟩ ∧ g < w.heap.size ∧ w.cell? ⟨g, o + i, none⟩ = some (.int .i64 (nth s.own.vec i))) := by
  have e1 : (s.own.set.take s.n).length = s.n := List.length_take_of_le (by rw [hI.own.set]; exact hI.n2)
  have e2 : (s.own.vec.take s.n).length = s.n := List.length_take_of_le (by rw [hI.own.vec]; exact hI.n2)
  obtain ⟨g, o, a1, a2, a3⟩ := int_at' h.rset.row (k := i) (by rw [e1]; exact hi)
  obtain ⟨g', o', b1, b2, b3⟩ := int_at' h.rvec.row (k := i) (by rw [e2]; exact hi)
  rw [nth_take hi] at a3 b3
  exact ⟨⟨g, o, a1, a2, a3⟩, ⟨g', o', b1, b2, b3⟩⟩
theorem late_seen {s : St} {H : List Hd} (hrep : Rep s H) (hI : Inv s) (hR : RInv s) {i : Nat} (hi : i < s.n) (hs : i ≠ s.self) (hv : nth s.own.vec i ≠ 0) : ∃ j x, late H i = some j ∧ H[j]? = some x ∧ s.wishOf i = x.p.wish ∧ x.p.set.length = s.n ∧ x.p.vec.length = s.n ∧ j < H.length := by
  have hn := hI.n2
  cases hl : late H i with
  | none => exact absurd (by rw [hrep.no i (by omega) hl]; rfl) (hR.seen i hs hv)
  | some j =>
    obtain ⟨hj, x, hx, _⟩ := late_some hl
    have := hrep.ok x (List.mem_of_getElem? hx)
    exact ⟨j, x, rfl, hx, by unfold St.wishOf; rw [if_neg hs, hrep.yes i (by omega) j x hl hx], this.1, this.2.1, hj⟩
theorem vec_same {s : St} {x : Pr} (hR : RInv s) (hI : Inv s) (hx : x.vec.length = s.n) : x.wish.vec = s.own.vec ↔ x.vec = s.own.vec.take s.n := by
  have e2 : (s.own.vec.take s.n).length = s.n := List.length_take_of_le (by rw [hI.own.vec]; exact hI.n2)
  constructor
  · intro h
    rw [hR.vec] at h
    exact (pad_inj (by rw [hx, e2])).1 h
  · intro h
    rw [hR.vec, ← h]; rfl
set_option maxRecDepth 100000 in
set_option maxHeartbeats 4000000 in
theorem ragm_any (b : Nat) (F : List Nat) (s : St) (hs : List HdR) (X : Ptrs) (w : World) (h : RefAt w b F s hs X) (hI : Inv s) (hR : RInv s) (hlen : hs.length ≤ 1000000) :
    Calls Try.prog 77 #[.pointer (some ⟨b, 0, none⟩)] w fun x w' => x = .returned (.bool s.agreed.isSome) ∧ Below w.heap.size w w' := by
  have hbl := h.bl
  have hn16 := hI.n2
  obtain ⟨H, hH⟩ : ∃ H, H = hs.map (·.h) := ⟨_, rfl⟩
  have hHk : ∀ k, H[k]? = hs[k]?.map HdR.h := fun k => by rw [hH, List.getElem?_map]
  have hrep : Rep s H := by rw [hH]; exact h.rep
  have hHl : H.length = hs.length := by rw [hH, List.length_map]
  have hvl : (s.own.vec.take s.n).length = s.n := List.length_take_of_le (by rw [hI.own.vec]; exact hI.n2)
  replace hvl := Lib.hid hvl
  replace hHl := Lib.hid hHl
  replace hrep := Lib.hid hrep
  replace hHk := Lib.hid hHk
  replace hH := Lib.hid hH
  replace hI := Lib.hid hI
  replace hR := Lib.hid hR
  have q8 := h.opn
  have q0 := h.n
  replace h := Lib.hid h
  cases hop : s.opn with
  | false =>
    rw [hop] at q8
    have hno := Lib.hid (show s.agreed.isSome = false by unfold St.agreed; rw [hop]; rfl)
    replace hop := Lib.hid hop
    go_enter Try.func77, Try.ntmps77
    go_wp2
    go_ret
    exact ⟨ret_bool hno.out.symm, Below.refl _ _⟩
  | true =>
    rw [hop] at q8
    have hag := Lib.hid (show s.agreed = s.agTo s.n by unfold St.agreed; rw [hop]; rfl)
    replace hop := Lib.hid hop
    go_enter Try.func77, Try.ntmps77
    go_wp2
    clear q8 q0
    go_loopw [3] (fun k wr => ∃ i y, k = .int .i64 ((i : Nat) : Int) ∧ i ≤ s.n ∧ Hid (s.agTo i = some y) ∧ Below w.heap.size w wr) (fun k _ => s.n - (intOf k).toNat)
    case atStart => exact ⟨0, _, rfl, by omega, Lib.hid rfl, Below.refl _ _⟩
    case round =>
      obtain ⟨i, y, rfl, hi, hy, hb⟩ := hrel
      have hsz := hb.size
      have hr := h.out.below hb
      have k0 := hr.n
      by_cases hlt : i < s.n
      · have hi16 : i < 16 := by omega
        have k1 := hr.self
        have k9 := hr.set
        have k17 := hr.vec
        obtain ⟨⟨gS, oS, hSe, hgS, cs⟩, ⟨gV, oV, hVe, hgV, cv⟩⟩ := own_at hr hI.out hlt
        rw [hSe] at k9
        replace hSe := Lib.hid hSe
        replace hr := Lib.hid hr
        by_cases e0 : nth s.own.set i = 0
        · have b0 : (nth s.own.set i == 0) = true := by simp [e0]
          have hy' := Lib.hid (agTo_skip hy.out e0)
          replace e0 := Lib.hid e0
          replace hVe := Lib.hid hVe
          go_wp2
          go_roundw
          case rel => exact ⟨i + 1, y, by go_num, by omega, hy', hb⟩
          case measure => go_light; simp [intOf]; omega
        · have b0 : (nth s.own.set i == 0) = false := by simp [e0]
          rw [hVe] at k17
          replace hVe := Lib.hid hVe
          by_cases e1 : nth s.own.vec i = 0
          · have b1 : (nth s.own.vec i == 0) = true := by simp [e1]
            have hno := Lib.hid (agreed_stop hlt hy.out e0 (.inl e1))
            replace e0 := Lib.hid e0
            replace e1 := Lib.hid e1
            go_wp2
            go_ret
            exact ⟨ret_bool (by rw [hno.out]; rfl), hb⟩
          · have b1 : (nth s.own.vec i == 0) = false := by simp [e1]
            by_cases e2 : i = s.self
            · have b2 : (((i : Nat) : Int) != (s.self : Int)) = false := by simp [e2]
              have hy' := Lib.hid (agTo_go hy.out e0 e1 (by unfold St.wishOf; rw [if_pos e2]))
              replace e0 := Lib.hid e0
              replace e1 := Lib.hid e1
              replace e2 := Lib.hid e2
              go_wp2
              go_roundw
              case rel => exact ⟨i + 1, _, by go_num, by omega, hy', hb⟩
              case measure => go_light; simp [intOf]; omega
            · have b2 : (((i : Nat) : Int) != (s.self : Int)) = true := by simp; omega
              obtain ⟨j, x, hla, hx, hwi, hxs, hxv, hjH⟩ := late_seen hrep.out hI.out hR.out hlt e2 e1
              have hjl : j < hs.length := by rw [← hHl.out]; exact hjH
              have hlb := Lib.hid (show lateI (late H i) = (j : Int) by rw [hla]; rfl)
              have hvs := Lib.hid (vec_same hR.out hI.out hxv)
              have hstop := fun h2 => agreed_stop hlt hy.out e0 (.inr (by rw [hwi]; exact h2))
              have hgo := fun h2 => agTo_go hy.out e0 e1 (by rw [hwi]; exact h2)
              replace hstop := Lib.hid hstop
              replace hgo := Lib.hid hgo
              replace hla := Lib.hid hla
              replace hwi := Lib.hid hwi
              replace hxs := Lib.hid hxs
              replace hxv := Lib.hid hxv
              replace e0 := Lib.hid e0
              replace e1 := Lib.hid e1
              replace e2 := Lib.hid e2
              have hjn : decide ((0 : Int) ≤ (j : Int)) = true := decide_eq_true (by omega)
              go_wp2_with (first
                | (go_at_call 73
                   refine (latest_any b F s hs X i wr hr.out hlen).mono ?_
                   rintro e w1 ⟨rfl, hb1⟩
                   rw [← hH.out, hlb.out])
                | fail)
              have z1 := hb1.size
              have hb01 := hb.trans (hb1.mono hsz)
              have hr1 := hr.out.below hb1
              obtain ⟨gA, oA, ry, hAe, hgA, hry, hcA⟩ := (hr1.own.row len_eHd).hd hjl
              have hxe : x = ry.h := by have := hHk.out j; rw [hry.out, hx] at this; simpa using this
              subst hxe
              have hS0 : Below w1.heap.size w1 w1.drew := Below.drew (Below.refl _ _)
              have hC : ∀ x' : Prop, (∀ W, Below w1.heap.size w1 W → x') ↔ x' := fun x' => ⟨fun f => f _ hS0, fun f _ _ => f⟩
              have L49 : ∀ W, Below w1.heap.size w1 W → (loadVar 121 ⟨b, 18, none⟩).run Try.prog W = .ok (.slice (some ⟨gA, oA, none⟩) hs.length X.cA) W := fun W hW => load121 (by rw [← hAe]; exact (hr1.below hW).all)
              have L54 : ∀ W, Below w1.heap.size w1 W → (loadVar 27 ⟨gA, oA + j * 11 + 10, none⟩).run Try.prog W = .ok (.slice ry.V ry.h.p.vec.length ry.cV) W := fun W hW => load27 ((hW.cell (p := ⟨gA, _, none⟩) hgA).trans (hcA 10 _ rfl))
              have L59 : ∀ W, Below w1.heap.size w1 W → (loadVar 27 ⟨b, 17, none⟩).run Try.prog W = .ok (.slice X.V s.n X.cV) W := fun W hW => load27 (hr1.below hW).vec
              have hrA := (hr1.each ry (List.mem_of_getElem? hry.out)).2.row
              have hrV := hr1.rvec.row
              replace L49 := Lib.hid L49
              replace L54 := Lib.hid L54
              replace L59 := Lib.hid L59
              replace hS0 := Lib.hid hS0
              replace hrA := Lib.hid hrA
              replace hrV := Lib.hid hrV
              replace hAe := Lib.hid hAe
              replace hcA := Lib.hid hcA
              replace hr1 := Lib.hid hr1
              replace hx := Lib.hid hx
              replace hb01 := Lib.hid hb01
              refine wp_region_ord [([0, 1, 2, 3, 4, 5, 6, 7, 8, 9, 10, 11, 12, 13], 14)] [15] (Below w1.heap.size w1) rfl (by kernel_rfl) rfl hS0.out ?_
              refine WO.seg rfl ?_ hS0.out
              simp only [picks, pick, List.cons_append, List.nil_append, List.append_nil]
              repeat (first
                | go_big_quiet_skip
                | (refine wpQuiet_loadC (by rfl) 121 (.tmp 48) rfl b 18 (by rfl) _ L49.out ?_; go_simp)
                | (refine wpQuiet_loadC (by rfl) 27 (.tmp 53) rfl gA (oA + j * 11 + 10) (by rfl) _ L54.out ?_; go_simp)
                | (refine wpQuiet_loadC (by rfl) 27 (.tmp 58) rfl b 17 (by rfl) _ L59.out ?_; go_simp)
                | go_big_quiet_step (fail))
              refine wpQuiet_nil ?_
              intro K hK
              go_simp
              go_at_call 70
              refine (equal_any' ry.V X.V ry.cV X.cV w1.heap.size ry.h.p.vec (s.own.vec.take s.n) s.n w1.drew (Nat.le_refl _) (hrA.out.below hS0.out (Nat.le_refl _)) (hrV.out.below hS0.out (Nat.le_refl _)) hvl.out (by rw [hxv.out]; omega)).mono ?_
              rintro e w3 ⟨rfl, hb3⟩
              have hb13 : Below w1.heap.size w1 w3 := hS0.out.trans hb3
              have hbw3 := Lib.hid (hb01.out.trans (hb13.mono (by omega)))
              replace hb13 := Lib.hid hb13
              go_wp2_with fail
              refine hK.out _ _ hb13.out ?_
              clear hK K
              refine WO.end_ ?_
              simp only [picks, pick, List.cons_append, List.nil_append, List.append_nil]
              repeat go_big_quiet_step (fail)
              refine wpQuiet_nil ?_
              clear hC
              by_cases e3 : ry.h.p.vec = s.own.vec.take s.n
              · have b3 : decide (ry.h.p.vec = s.own.vec.take s.n) = true := decide_eq_true e3
                have hy' := Lib.hid (hgo.out (hvs.out.2 e3))
                replace e3 := Lib.hid e3
                rw [b3]
                go_wp2
                go_roundw
                case rel => exact ⟨i + 1, _, by go_num, by omega, hy', hbw3.out⟩
                case measure => go_light; simp [intOf]; omega
              · have b3 : decide (ry.h.p.vec = s.own.vec.take s.n) = false := decide_eq_false e3
                have hno := Lib.hid (hstop.out (fun z => e3 (hvs.out.1 z)))
                replace e3 := Lib.hid e3
                rw [b3]
                go_wp2
                go_ret
                exact ⟨ret_bool (by rw [hno.out]; rfl), hbw3.out⟩
      · obtain rfl : i = s.n := by omega
        have hyes := Lib.hid (show s.agreed.isSome = true by rw [hag.out, hy.out]; rfl)
        replace hr := Lib.hid hr
        go_wp2
        go_ret
        exact ⟨ret_bool hyes.out.symm, hb⟩
end Go.Proofs.Ytfbeggdbjpmppaa
/- The document's sameID, none, whole. -/
namespace Go.Proofs.Ytfbeggdbjpmppaa
open Go.RowKit
set_option maxRecDepth 100000 in
set_option maxHeartbeats 1000000 in
theorem sameID_any (x y : Vid) (w : World) : Calls Try.prog 78 #[.agg (vidC x), .agg (vidC y)] w fun r w' => r = .returned (.bool (vidEq x y)) ∧ Below w.heap.size w w' := by
  have hb := Lib.hid (below_box2 w (vidC x) 29 (vidC y) 29)
  have key : ∀ (p q r t : Bool), (x.e == y.e) = p → (x.l == y.l) = q → (x.i == y.i) = r → (x.c == y.c) = t → vidEq x y = (p && q && r && t) := by
    intro p q r t h1 h2 h3 h4
    subst h1 h2 h3 h4
    unfold vidEq
    rw [Bool.eq_iff_iff]
    simp only [decide_eq_true_eq, Bool.and_eq_true, beq_iff_eq]
    constructor
    · rintro rfl; exact ⟨⟨⟨rfl, rfl⟩, rfl⟩, rfl⟩
    · rintro ⟨⟨⟨h1, h2⟩, h3⟩, h4⟩; cases x; cases y; simp_all
  cases h1 : (x.e == y.e) with
  | false =>
    have k := Lib.hid (key _ _ _ _ h1 rfl rfl rfl)
    clear key
    go_enter Try.func78, Try.ntmps78
    go_wp2
    go_ret
    exact ⟨ret_bool (by rw [k.out]; rfl), hb.out⟩
  | true =>
    cases h2 : (x.l == y.l) with
    | false =>
      have k := Lib.hid (key _ _ _ _ h1 h2 rfl rfl)
      clear key
      go_enter Try.func78, Try.ntmps78
      go_wp2
      go_ret
      exact ⟨ret_bool (by rw [k.out]; rfl), hb.out⟩
    | true =>
      cases h3 : (x.i == y.i) with
      | false =>
        have k := Lib.hid (key _ _ _ _ h1 h2 h3 rfl)
        clear key
        go_enter Try.func78, Try.ntmps78
        go_wp2
        go_ret
        exact ⟨ret_bool (by rw [k.out]; rfl), hb.out⟩
      | true =>
        have k := Lib.hid (key _ _ _ _ h1 h2 h3 rfl)
        clear key
        go_enter Try.func78, Try.ntmps78
        go_wp2
        go_ret
        exact ⟨ret_bool (by rw [k.out]; rfl), hb.out⟩
theorem none_any (x : Vid) (w : World) : Calls Try.prog 79 #[.agg (vidC x)] w fun r w' => r = .returned (.bool (vidEq x Vid.zero)) ∧ Below w.heap.size w w' := by
  have hb := Lib.hid (below_box1 w (vidC x) 29)
  have hs : w.heap.size < (w.alloc (.cells (vidC x) 29)).heap.size := by simp
  replace hs := Lib.hid hs
  go_enter Try.func79, Try.ntmps79
  go_wp2_with (first
    | (go_at_call 78
       refine (sameID_any x Vid.zero _).mono ?_
       rintro e w1 ⟨rfl, hb1⟩)
    | fail)
  go_ret
  exact ⟨rfl, hb.out.trans (hb1.mono (by have := hs.out; omega))⟩
def wholeB (v : Vid) (n : Nat) : Bool := cntB v.e && cntB v.i && cntB v.c && decide (0 ≤ v.l ∧ v.l < n)
set_option maxRecDepth 100000 in
set_option maxHeartbeats 1000000 in
theorem whole_any (x : Vid) (n : Nat) (w : World) : Calls Try.prog 83 #[.agg (vidC x), .int .i64 n] w fun r w' => r = .returned (.bool (wholeB x n)) ∧ Below w.heap.size w w' := by
  have hb := Lib.hid (below_box1 w (vidC x) 29)
  obtain ⟨e, l, i, c⟩ := x
  have hc : ((e < 1) ∨ (1 ≤ e ∧ 4611686018427387904 < e) ∨ (1 ≤ e ∧ e ≤ 4611686018427387904 ∧ i < 1) ∨ (1 ≤ e ∧ e ≤ 4611686018427387904 ∧ 1 ≤ i ∧ 4611686018427387904 < i) ∨ (1 ≤ e ∧ e ≤ 4611686018427387904 ∧ 1 ≤ i ∧ i ≤ 4611686018427387904 ∧ c < 1) ∨ (1 ≤ e ∧ e ≤ 4611686018427387904 ∧ 1 ≤ i ∧ i ≤ 4611686018427387904 ∧ 1 ≤ c ∧ 4611686018427387904 < c)) ∨ (1 ≤ e ∧ e ≤ 4611686018427387904 ∧ 1 ≤ i ∧ i ≤ 4611686018427387904 ∧ 1 ≤ c ∧ c ≤ 4611686018427387904) := by omega
  rcases hc with hc | hc
  · have hf : wholeB ⟨e, l, i, c⟩ n = false := by
      unfold wholeB cntB
      have : ¬ ((1 ≤ e ∧ e ≤ 4611686018427387904) ∧ (1 ≤ i ∧ i ≤ 4611686018427387904) ∧ (1 ≤ c ∧ c ≤ 4611686018427387904)) := by omega
      rw [Bool.eq_false_iff]; intro h; simp only [Bool.and_eq_true, decide_eq_true_eq] at h
      exact this ⟨h.1.1.1, h.1.1.2, h.1.2⟩
    replace hf := Lib.hid hf
    rcases hc with h1 | ⟨h1, h2⟩ | ⟨h1, h2, h3⟩ | ⟨h1, h2, h3, h4⟩ | ⟨h1, h2, h3, h4, h5⟩ | ⟨h1, h2, h3, h4, h5, h6⟩
    all_goals
      go_enter Try.func83, Try.ntmps83
      go_wp2
      go_ret
      exact ⟨ret_bool hf.out.symm, hb.out⟩
  · obtain ⟨h1, h2, h3, h4, h5, h6⟩ := hc
    have hw : wholeB ⟨e, l, i, c⟩ n = decide (0 ≤ l ∧ l < n) := by
      unfold wholeB cntB
      rw [decide_eq_true ⟨h1, h2⟩, decide_eq_true ⟨h3, h4⟩, decide_eq_true ⟨h5, h6⟩]; rfl
    by_cases g1 : 0 ≤ l
    · by_cases g2 : l < n
      · have hf := Lib.hid (hw.trans (decide_eq_true ⟨g1, g2⟩))
        clear hw
        go_enter Try.func83, Try.ntmps83
        go_wp2
        go_ret
        exact ⟨ret_bool hf.out.symm, hb.out⟩
      · have hf := Lib.hid (hw.trans (decide_eq_false (fun h => g2 h.2)))
        clear hw
        go_enter Try.func83, Try.ntmps83
        go_wp2
        go_ret
        exact ⟨ret_bool hf.out.symm, hb.out⟩
    · have hf := Lib.hid (hw.trans (decide_eq_false (fun h => g1 h.1)))
      clear hw
      go_enter Try.func83, Try.ntmps83
      go_wp2
      go_ret
      exact ⟨ret_bool hf.out.symm, hb.out⟩
end Go.Proofs.Ytfbeggdbjpmppaa
/- The document's ints: the numbers again. -/
namespace Go.Proofs.Ytfbeggdbjpmppaa
open Go.RowKit
set_option maxRecDepth 100000 in
set_option maxHeartbeats 1000000 in
theorem rints_any (A : Option Addr) (cA N : Nat) (l : List Int) (w : World) (hN : N ≤ w.heap.size) (hA : RowAt w N 1 eInt A l) (hl : l.length ≤ 1000000) :
    Calls Try.prog 82 #[.slice A l.length cA] w fun x w' => ∃ B c, x = .returned (.slice B l.length c) ∧ RowN w' w.heap.size 1 eInt B l ∧ Below w.heap.size w w' := by
  go_enter Try.func82, Try.ntmps82
  go_wp2
  go_loopw [3, 4] (fun t k wr => ∃ q B c, k = .int .i64 ((q : Nat) : Int) ∧ q ≤ l.length ∧ t = .slice B q c ∧ Owns wr w.heap.size 3 1 eInt B c (l.take q) ∧ Below w.heap.size w wr) (fun _ k _ => l.length - (intOf k).toNat)
  case atStart => exact ⟨0, none, 0, rfl, by omega, rfl, owns_nil _ _ _ _ _, Below.refl _ _⟩
  case round =>
    obtain ⟨q, B, c, rfl, hq, rfl, ho, hb⟩ := hrel
    have hsz := hb.size
    by_cases hlt : q < l.length
    · obtain ⟨g, o, x, hAe, hg, hx, c0⟩ := (hA.below hb hN).int hlt
      have hlq : (l.take q).length = q := List.length_take_of_le (by omega)
      have hsnoc : l.take q ++ [x] = l.take (q + 1) := by rw [List.take_add_one, hx.out]; rfl
      have hb1 : Below w.heap.size w (wr.alloc (.cells #[.int .i64 x] 3)) := hb.alloc hsz _
      have ho1 := ho.alloc (.cells #[.int .i64 x] 3)
      have hrow1 := row_new wr 3 1 eInt x #[.int .i64 x] rfl
      replace hsnoc := Lib.hid hsnoc
      replace ho := Lib.hid ho
      replace ho1 := Lib.hid ho1
      replace hb1 := Lib.hid hb1
      replace hrow1 := Lib.hid hrow1
      rw [hAe]
      go_wp2_with (first
        | (refine wpList_append_rows _ rfl (.tmp 11) (.tmp 16) 27 rfl w.heap.size 3 1 8 (.int .i64 0) Try.underlying27 info3 (by rfl) (by omega) eInt len_eInt one_eInt B c (l.take q) (some ⟨wr.heap.size, 0, none⟩) 1 (wr.heap.size + 1) q 1 [x] (by rfl) (by rfl) hlq rfl ho1.out hrow1.out (by omega) (by omega) (by rw [World.size_alloc]; omega) ?_
           intro B' c' w2 ho2 hg2 hB2
           rw [hsnoc.out] at ho2
           have hb2 : Below w.heap.size w w2 := hb1.out.grown hg2 (by rw [World.size_alloc]; omega) (fun k hk => (ho.out.lo k hk).1)
           replace ho2 := Lib.hid ho2
           replace hb2 := Lib.hid hb2)
        | fail)
      go_roundw
      case rel => go_light; exact ⟨q + 1, B', c', by go_num, by omega, rfl, ho2.out, hb2.out⟩
      case measure => go_light; simp [intOf]; omega
    · have : q = l.length := by omega
      subst this
      rw [List.take_length] at ho
      replace ho := Lib.hid ho
      go_wp2
      go_ret
      exact ⟨B, c, rfl, ho.out.rowN len_eInt, hb⟩
end Go.Proofs.Ytfbeggdbjpmppaa
/- The program's Proposal. -/
namespace Go.Proofs.Ytfbeggdbjpmppaa
open Go.RowKit
/-- A proposal by value. -/
abbrev propA (o : Wish) (S : Option Addr) (cS : Nat) (V : Option Addr) (cV n : Nat) : Array Value := #[.slice S n cS, .int .i64 o.cid, .int .i64 o.rev, .int .i64 o.top, .int .i64 o.prev.e, .int .i64 o.prev.l, .int .i64 o.prev.i, .int .i64 o.prev.c, .slice V n cV]
theorem size31 : (Try.prog.info? 31).map (·.size) = some 9 := by kernel_rfl
/-- A variable that holds a proposal is written whole. -/
theorem run_loadVar31 (w : World) (b : Nat) (o : Wish) (S : Option Addr) (cS : Nat) (V : Option Addr) (cV n : Nat) (h : w.rangeAt b 0 (propA o S cS V cV n).toList) : (loadVar 31 ⟨b, 0, none⟩).run Try.prog w = .ok (.agg (propA o S cS V cV n)) w := by
  have h0 := h 0 _ rfl
  have h1 := h 1 _ rfl
  have h2 := h 2 _ rfl
  have h3 := h 3 _ rfl
  have h4 := h 4 _ rfl
  have h5 := h 5 _ rfl
  have h6 := h 6 _ rfl
  have h7 := h 7 _ rfl
  have h8 := h 8 _ rfl
  simp only [Nat.zero_add] at h0 h1 h2 h3 h4 h5 h6 h7 h8
  clear h
  go_simp
theorem one_propA (o : Wish) (S : Option Addr) (cS : Nat) (V : Option Addr) (cV n : Nat) : (propA o S cS V cV n).all (·.oneCell') = true := by
  refine all_oneCell_toArray (cs := [.slice S n cS, .int .i64 o.cid, .int .i64 o.rev, .int .i64 o.top, .int .i64 o.prev.e, .int .i64 o.prev.l, .int .i64 o.prev.i, .int .i64 o.prev.c, .slice V n cV]) fun u hu => ?_
  simp at hu; rcases hu with rfl | rfl | rfl | rfl | rfl | rfl | rfl | rfl | rfl <;> rfl
theorem wp_store31 {o : Oper} {a : Act} {w : World} {K : Act → World → Prop} {Q : Exit → Act → World → Prop} (x y : Operand) (ho : o.op = .store 31 x y) (hd : o.dst = none) (b : Nat) (hx : a.eval x = .pointer (some ⟨b, 0, none⟩)) (p : Wish) (S : Option Addr) (cS : Nat) (V : Option Addr) (cV n : Nat)
    (hy : a.eval y = .agg (propA p S cS V cV n)) (ht : w.there b 0 9) (h : ∀ w', Hid (w' = w.setCells b 0 (propA p S cS V cV n).toList) → K a w') : o.wp Try.prog a w K Q :=
  wp_store_mid 31 x y ho b 0 (propA p S cS V cV n) hx hy ht (by rw [size31]; rfl) (one_propA _ _ _ _ _ _) (by rw [hd]; exact h _ (Lib.hid rfl))
theorem RowN.keep {α : Type} {w w' : World} {lo sz : Nat} {enc : α → List Value} {A : Option Addr} {l : List α} (h : RowN w lo sz enc A l) (hs : w.heap.size ≤ w'.heap.size) (hk : ∀ k, lo ≤ k → k < w.heap.size → w'.heap[k]? = w.heap[k]?) : RowN w' lo sz enc A l := fun h0 => by
  obtain ⟨g, off, e, h1, h2, h3⟩ := h h0
  exact ⟨g, off, e, h1, by omega, fun k x hx j u hu => (World.cell?_of_block (hk g h1 h2)).trans (h3 k x hx j u hu)⟩
structure PrS (w : World) (b : Nat) (s : St) (M : Option Addr) (cM : Nat) (W : World) : Prop where
  at_ : AgAt W b s M cM
  there : W.there w.heap.size 0 9
  lt : w.heap.size < W.heap.size
  bel : Below w.heap.size w W
theorem PrS.below {w W W' : World} {b : Nat} {s : St} {M : Option Addr} {cM : Nat} (h : PrS w b s M cM W) (hb : b < w.heap.size) (hb' : Below W.heap.size W W') : PrS w b s M cM W' :=
  ⟨h.at_.same (hb'.block b (by have := h.lt; omega)), there_below h.there hb' h.lt, Nat.lt_of_lt_of_le h.lt hb'.size, h.bel.trans (hb'.mono (by have := h.lt; omega))⟩
set_option maxRecDepth 100000 in
set_option maxHeartbeats 4000000 in
theorem proposal_any (b : Nat) (s : St) (M : Option Addr) (cM : Nat) (w : World) (h : AgAt w b s M cM) (hb : b < w.heap.size) (hn : s.n ≤ 16) :
    Calls Try.prog 30 #[.pointer (some ⟨b, 0, none⟩)] w fun x w' => ∃ S V, x = .returned (.agg (propA s.own S s.n V s.n s.n)) ∧ RowN w' w.heap.size 1 eInt S (s.own.set.take s.n) ∧ RowN w' w.heap.size 1 eInt V (s.own.vec.take s.n) ∧ Below w.heap.size w w' := by
  obtain ⟨w1, hw1⟩ : ∃ w1, w1 = w.alloc (.cells #[.slice none 0 0, .int .i64 0, .int .i64 0, .int .i64 0, .int .i64 0, .int .i64 0, .int .i64 0, .int .i64 0, .slice none 0 0] 31) := ⟨_, rfl⟩
  have s1 : w1.heap.size = w.heap.size + 1 := by rw [hw1, World.size_alloc]
  have hb1 : Below w.heap.size w w1 := by rw [hw1]; exact below_box1 _ _ _
  have h1 : PrS w b s M cM w1.drew := by
    have := there_new w #[.slice none 0 0, .int .i64 0, .int .i64 0, .int .i64 0, .int .i64 0, .int .i64 0, .int .i64 0, .int .i64 0, .slice none 0 0] 31
    rw [← hw1] at this
    exact ⟨(h.same (hb1.block b hb)).drew, this, by show w.heap.size < w1.heap.size; omega, Below.drew hb1⟩
  have hC : ∀ x : Prop, (∀ W, PrS w b s M cM W → x) ↔ x := fun x => ⟨fun f => f _ h1, fun f _ _ => f⟩
  have L10 : ∀ W, PrS w b s M cM W → (loadVar 94 ⟨b, 4, none⟩).run Try.prog W = .ok (.agg (arr s.own.set)) W := fun W hW => run_loadVar_arr W b 4 _ hW.at_.set hW.at_.l1
  have L35 : ∀ W, PrS w b s M cM W → (loadVar 94 ⟨b, 20, none⟩).run Try.prog W = .ok (.agg (arr s.own.vec)) W := fun W hW => run_loadVar_arr W b 20 _ hW.at_.vec hW.at_.l2
  have L14 : ∀ W, PrS w b s M cM W → (loadVar 3 ⟨b, 0, none⟩).run Try.prog W = .ok (.int .i64 s.n) W := fun W hW => load3 hW.at_.n
  have L19 : ∀ W, PrS w b s M cM W → (loadVar 3 ⟨b, 36, none⟩).run Try.prog W = .ok (.int .i64 s.own.cid) W := fun W hW => load3 hW.at_.cid
  have L23 : ∀ W, PrS w b s M cM W → (loadVar 3 ⟨b, 37, none⟩).run Try.prog W = .ok (.int .i64 s.own.rev) W := fun W hW => load3 hW.at_.rev
  have L27 : ∀ W, PrS w b s M cM W → (loadVar 3 ⟨b, 38, none⟩).run Try.prog W = .ok (.int .i64 s.own.top) W := fun W hW => load3 hW.at_.top
  have L31 : ∀ W, PrS w b s M cM W → (loadVar 29 ⟨b, 39, none⟩).run Try.prog W = .ok (.agg (vidC s.own.prev)) W := fun W hW => load29 hW.at_.pe hW.at_.pl hW.at_.pi hW.at_.pc
  have l1 := h.l1
  have l2 := h.l2
  replace h := Lib.hid h
  replace h1 := Lib.hid h1
  replace hw1 := Lib.hid hw1
  replace L10 := Lib.hid L10
  replace L35 := Lib.hid L35
  replace L14 := Lib.hid L14
  replace L19 := Lib.hid L19
  replace L23 := Lib.hid L23
  replace L27 := Lib.hid L27
  replace L31 := Lib.hid L31
  go_enter Try.func30, Try.ntmps30
  go_wp2
  rw [← hw1.out]
  refine wp_region_ord [([0, 1, 2, 3, 4, 5, 6, 7, 9, 10, 11, 12, 13, 14, 15, 16, 17, 18, 19, 20, 21, 22, 23, 24, 25, 26, 27, 28, 29, 30, 31, 32], 8), ([], 33), ([34], 35)] [] (PrS w b s M cM) rfl (by kernel_rfl) rfl h1.out ?_
  refine WO.seg rfl ?_ h1.out
  simp only [picks, pick, List.cons_append, List.nil_append, List.append_nil]
  repeat (first
    | go_big_quiet_skip
    | (refine wpQuiet_loadC (by rfl) 94 (.tmp 9) rfl b 4 (by rfl) _ L10.out ?_; go_simp)
    | (refine wpQuiet_loadC (by rfl) 94 (.tmp 34) rfl b 20 (by rfl) _ L35.out ?_; go_simp)
    | (refine wpQuiet_loadC (by rfl) 3 (.tmp 13) rfl b 0 (by rfl) _ L14.out ?_; go_simp)
    | (refine wpQuiet_loadC (by rfl) 3 (.tmp 38) rfl b 0 (by rfl) _ L14.out ?_; go_simp)
    | (refine wpQuiet_loadC (by rfl) 3 (.tmp 18) rfl b 36 (by rfl) _ L19.out ?_; go_simp)
    | (refine wpQuiet_loadC (by rfl) 3 (.tmp 22) rfl b 37 (by rfl) _ L23.out ?_; go_simp)
    | (refine wpQuiet_loadC (by rfl) 3 (.tmp 26) rfl b 38 (by rfl) _ L27.out ?_; go_simp)
    | (refine wpQuiet_loadC (by rfl) 29 (.tmp 30) rfl b 39 (by rfl) _ L31.out ?_; go_simp)
    | go_big_quiet_step (fail))
  refine wpQuiet_nil ?_
  intro K hK
  go_simp
  go_at_call 51
  refine (list_any s.own.set s.n _ l1 hn).mono ?_
  rintro e w5 ⟨S, rfl, rS, hb5⟩
  have h5 := h1.out.below hb hb5
  have s15 : w.heap.size ≤ w1.drew.heap.size := by show w.heap.size ≤ w1.heap.size; omega
  have s15' : w.heap.size + 1 ≤ w1.drew.heap.size := by show w.heap.size + 1 ≤ w1.heap.size; omega
  replace rS := Lib.hid (rS.low s15')
  replace h5 := Lib.hid h5
  go_wp2_with fail
  refine hK.out _ _ h5.out ?_
  clear hK K
  refine WO.seg rfl ?_ h5.out
  simp only [picks]
  refine wpQuiet_nil ?_
  intro K hK
  go_simp
  go_at_call 51
  refine (list_any s.own.vec s.n _ l2 hn).mono ?_
  rintro e w6 ⟨V, rfl, rV, hb6⟩
  have h6 := h5.out.below hb hb6
  have s16 : w.heap.size + 1 ≤ w5.heap.size := by have := h5.out.lt; omega
  replace rV := Lib.hid (rV.low s16)
  have rS6 := Lib.hid (rS.out.below hb6)
  replace h6 := Lib.hid h6
  go_wp2_with fail
  refine hK.out _ _ h6.out ?_
  clear hK K
  refine WO.seg rfl ?_ h6.out
  simp only [picks, pick, List.cons_append, List.nil_append, List.append_nil]
  repeat go_big_quiet_step (fail)
  refine wpQuiet_nil ?_
  intro K hK
  rw [if_pos (by rfl)]
  refine wp_store31 (.tmp 2) (.tmp 41) rfl rfl w.heap.size (by rfl) s.own S s.n V s.n s.n (by rfl) h6.out.there ?_
  intro w7 hw7
  have r7 : w7.rangeAt w.heap.size 0 (propA s.own S s.n V s.n s.n).toList := by rw [hw7.out]; exact World.rangeAt_setCells_same _ _ _ _ h6.out.there
  have hl7 := run_loadVar31 w7 w.heap.size s.own S s.n V s.n s.n r7
  have g7 : w6.grownBy w7 (some w.heap.size) := by rw [hw7.out]; exact grown_sets _ _ _ _
  have b7 : Below w.heap.size w w7 := by rw [hw7.out]; exact below_sets h6.out.bel (Nat.le_refl _) _ _ (by have := h6.out.lt; omega)
  have h7 : PrS w b s M cM w7 := by
    refine ⟨h6.out.at_.same (g7.block b (by have := h6.out.lt; omega) (by intro e; injection e with e; omega)), ?_, Nat.lt_of_lt_of_le h6.out.lt g7.size, b7⟩
    rw [hw7.out]; exact World.there_setCells h6.out.there _ _ _
  have rS7 := (rS6.out.keep g7.size (fun k h1 hk => g7.block k hk (by intro e; injection e with e; omega))).low (Nat.le_succ _)
  have rV7 := (rV.out.keep g7.size (fun k h1 hk => g7.block k hk (by intro e; injection e with e; omega))).low (Nat.le_succ _)
  refine hK.out _ _ h7 ?_
  clear hK K
  refine WO.end_ ?_
  simp only [picks]
  refine wpQuiet_nil ?_
  clear hC
  go_wp2
  exact bodyPost_ret (res_cell (p := 2) (ty := 31) rfl rfl hl7) rfl ⟨S, V, rfl, rS7, rV7, b7⟩
end Go.Proofs.Ytfbeggdbjpmppaa
/- The program's Install. -/
namespace Go.Proofs.Ytfbeggdbjpmppaa
open Go.RowKit
theorem grown_there {w w' : World} {a b o n : Nat} (hg : w.grownBy w' (some b)) (ha : a < w.heap.size ∧ a ≠ b) (h : w.there a o n) : w'.there a o n := fun j hj => by
  have hk := hg.block a ha.1 (by intro e; injection e with e; exact ha.2 e)
  rw [World.cell?_of_block (a := ⟨a, o + j, none⟩) hk, World.frozen?_of_block (a := ⟨a, o + j, none⟩) hk]; exact h j hj
theorem RowN.grown {α : Type} {w w' : World} {lo sz b : Nat} {enc : α → List Value} {A : Option Addr} {l : List α} (h : RowN w lo sz enc A l) (hg : w.grownBy w' (some b)) (hb : b < lo) : RowN w' lo sz enc A l := fun h0 => by
  obtain ⟨g, off, e, h1, h2, h3⟩ := h h0
  exact ⟨g, off, e, h1, Nat.lt_of_lt_of_le h2 hg.size, fun k x hx j u hu => (World.cell?_of_block (hg.block g h2 (by intro e; injection e with e; omega))).trans (h3 k x hx j u hu)⟩
set_option maxRecDepth 100000 in
set_option maxHeartbeats 1000000 in
theorem install_none (b : Nat) (s : St) (M : Option Addr) (cM : Nat) (w : World) (h : AgAt w b s M cM) (hb : b < w.heap.size) (hI : Inv s) (hno : s.agreed = none) :
    Calls Try.prog 27 #[.pointer (some ⟨b, 0, none⟩)] w fun x w' => x = .returned (.tuple #[.agg (viewA Vid.zero none 0 0), .slice none 0 0, .int .i64 61]) ∧ Left w w' b s M cM := by
  have hb0 : Below w.heap.size w (w.alloc (.cells (viewA Vid.zero none 0 0) 46)) := (Below.refl _ _).alloc (Nat.le_refl _) _
  have ht0 : (w.alloc (.cells (viewA Vid.zero none 0 0) 46)).there w.heap.size 0 5 := there_new w (viewA Vid.zero none 0 0) 46
  have h0 := Lib.hid (h.same (hb0.block b hb))
  have z0 : (w.alloc (.cells (viewA Vid.zero none 0 0) 46)).heap.size = w.heap.size + 1 := World.size_alloc _ _
  replace h := Lib.hid h
  replace hno := Lib.hid hno
  replace hb0 := Lib.hid hb0
  replace ht0 := Lib.hid ht0
  replace z0 := Lib.hid z0
  go_enter Try.func27, Try.ntmps27
  go_wp2_with (first
    | (go_at_call 50
       refine (agreed_any b s M cM _ (by exact h0.out) (by rw [z0.out]; omega) hI).mono ?_
       rintro e w1 ⟨h1, -, b1⟩
       obtain rfl := h1 hno.out
       have s1 := b1.size
       rw [z0.out] at s1 b1
       have hb1 : Below w.heap.size w w1 := hb0.out.trans (b1.mono (Nat.le_succ _))
       have hb1a : Below w.heap.size w (w1.alloc (.cells (viewA Vid.zero none 0 0) 46)) := hb1.alloc (by omega) _
       have ht1 := there_below ht0.out b1 (Nat.lt_succ_self _)
       have ht1a := World.there_alloc ht1 (.cells (viewA Vid.zero none 0 0) 46)
       replace b1 := Lib.hid b1
       replace hb1a := Lib.hid hb1a
       replace ht1a := Lib.hid ht1a
       clear h1)
    | (refine wpList_store46 rfl (.tmp 5) (.tmp 11) rfl w1.heap.size 0 (by rfl) Vid.zero none 0 0 (by rfl) (there_new w1 (viewA Vid.zero none 0 0) 46) ?_
       intro w2 hw2
       have hb2 : Below w.heap.size w w2 := by rw [hw2.out]; exact below_sets hb1a.out (by omega) _ _ (by simp; omega)
       have z2 : w2.heap.size = w1.heap.size + 1 := by rw [hw2.out, size_sets, World.size_alloc]
       have ht2 : w2.there w.heap.size 0 5 := by rw [hw2.out]; exact World.there_setCells ht1a.out _ _ _
       replace hb2 := Lib.hid hb2
       replace ht2 := Lib.hid ht2)
    | (refine wpList_store46 rfl (.tmp 2) (.tmp 16) rfl w.heap.size 0 (by rfl) Vid.zero none 0 0 (by rfl) ht2.out ?_; intro w3 hw3)
    | fail)
  have v3 : ViAt w3 w.heap.size Vid.zero none 0 0 := by rw [hw3.out]; exact viAt_put (w := w2) (v := Vid.zero) (A := none) (n := 0) (c := 0) ht2.out
  have hb3 : Below w.heap.size w w3 := by rw [hw3.out]; exact below_sets hb2.out (Nat.le_refl _) _ _ (by omega)
  exact bodyPost_ret (res_cell_tmp_tmp (p := 2) (u := 3) (u' := 4) (ty := 46) rfl rfl v3.load) rfl ⟨rfl, Left.below h.out hb hb3⟩
/-- What Install answers where there is a view. -/
def InPost (w : World) (b : Nat) (s : St) (a : Ag) (x : Ending) (w' : World) : Prop :=
  ∃ A c T cT M' cM', x = .returned (.tuple #[.agg (viewA a.vid A a.mem.length c), .slice T a.trans.length cT, .int .i64 0]) ∧ Left w w' b s.install M' cM' ∧ RowN w' w.heap.size 3 eMb M' a.mem ∧ RowN w' w.heap.size 3 eMb A a.mem ∧ RowN w' w.heap.size 1 eInt T a.trans
set_option maxRecDepth 100000 in
set_option maxHeartbeats 1000000 in
theorem install_some (b : Nat) (s : St) (M : Option Addr) (cM : Nat) (w : World) (h : AgAt w b s M cM) (hb : b < w.heap.size) (hI : Inv s) (a : Ag) (ha : s.agreed = some a) :
    Calls Try.prog 27 #[.pointer (some ⟨b, 0, none⟩)] w (InPost w b s a) := by
  have hb0 : Below w.heap.size w (w.alloc (.cells (viewA Vid.zero none 0 0) 46)) := (Below.refl _ _).alloc (Nat.le_refl _) _
  have ht0 : (w.alloc (.cells (viewA Vid.zero none 0 0) 46)).there w.heap.size 0 5 := there_new w (viewA Vid.zero none 0 0) 46
  have h0 := Lib.hid (h.same (hb0.block b hb))
  have z0 : (w.alloc (.cells (viewA Vid.zero none 0 0) 46)).heap.size = w.heap.size + 1 := World.size_alloc _ _
  have hin : s.install = { s with vid := a.vid, mem := a.mem, opn := false } := by unfold St.install; rw [ha]
  have hlen : a.mem.length ≤ 16 := by
    have hn := hI.n2
    unfold St.agreed at ha
    split at ha
    · have := (agTo_len ha).1; omega
    · cases ha
  replace h := Lib.hid h
  replace ha := Lib.hid ha
  replace hin := Lib.hid hin
  replace hb0 := Lib.hid hb0
  replace ht0 := Lib.hid ht0
  replace z0 := Lib.hid z0
  go_enter Try.func27, Try.ntmps27
  go_wp2_with (first
    | (go_at_call 50
       refine (agreed_any b s M cM _ (by exact h0.out) (by rw [z0.out]; omega) hI).mono ?_
       rintro e w1 ⟨-, h1, b1⟩
       obtain ⟨A, c, T, cT, rfl, rA, rT⟩ := h1 a ha.out
       have s1 := b1.size
       rw [z0.out] at s1 b1 rA rT
       have hb1 : Below w.heap.size w w1 := hb0.out.trans (b1.mono (Nat.le_succ _))
       have hb1a : Below w.heap.size w (w1.alloc (.cells (viewA Vid.zero none 0 0) 46)) := hb1.alloc (by omega) _
       have ht1 := there_below ht0.out b1 (Nat.lt_succ_self _)
       have ht1a := World.there_alloc ht1 (.cells (viewA Vid.zero none 0 0) 46)
       have hw1a : Below w1.heap.size w1 (w1.alloc (.cells (viewA Vid.zero none 0 0) 46)) := (Below.refl _ _).alloc (Nat.le_refl _) _
       replace b1 := Lib.hid b1
       replace hb1a := Lib.hid hb1a
       replace ht1a := Lib.hid ht1a
       replace rA := Lib.hid rA
       replace rT := Lib.hid rT
       replace hw1a := Lib.hid hw1a
       clear h1)
    | (refine wpList_store46 rfl (.tmp 5) (.tmp 11) rfl w1.heap.size 0 (by rfl) a.vid A a.mem.length c (by rfl) (there_new w1 (viewA Vid.zero none 0 0) 46) ?_
       intro w2 hw2
       have hb2 : Below w.heap.size w w2 := by rw [hw2.out]; exact below_sets hb1a.out (by omega) _ _ (by simp; omega)
       have hw12 : Below w1.heap.size w1 w2 := by rw [hw2.out]; exact below_sets hw1a.out (Nat.le_refl _) _ _ (by simp)
       have z2 : w2.heap.size = w1.heap.size + 1 := by rw [hw2.out, size_sets, World.size_alloc]
       have ht2 : w2.there w.heap.size 0 5 := by rw [hw2.out]; exact World.there_setCells ht1a.out _ _ _
       have v2 : ViAt w2 w1.heap.size a.vid A a.mem.length c := by rw [hw2.out]; exact viAt_put (there_new w1 (viewA Vid.zero none 0 0) 46)
       have h2 := h.out.same (hb2.block b hb)
       replace rA := Lib.hid (rA.out.below hw12)
       replace rT := Lib.hid (rT.out.below hw12)
       replace hb2 := Lib.hid hb2
       replace ht2 := Lib.hid ht2
       replace v2 := Lib.hid v2
       replace h2 := Lib.hid h2)
    | (refine wpList_loadR rfl 46 (.tmp 5) rfl w1.heap.size 0 (by rfl) _ v2.out.load ?_)
    | (refine wpList_store46 rfl (.tmp 20) (.tmp 18) rfl b 683 (by rfl) a.vid A a.mem.length c (by rfl) (World.there.at h2.out.there (by omega)) ?_
       intro w3 hw3
       have h3 : AgAt w3 b { s with vid := a.vid, mem := a.mem } A c := by rw [hw3.out]; exact h2.out.setView a.vid a.mem A c
       have g3 : w2.grownBy w3 (some b) := by rw [hw3.out]; exact grown_sets _ _ _ _
       have k3 : w3.cell? ⟨b, 3, none⟩ = some (.bool s.opn) := h3.opn
       have f3 : w3.frozen? ⟨b, 3, none⟩ = false := there_frozen (k := 3) h3.there (by omega)
       obtain ⟨w4, hw4⟩ : ∃ w4, w4 = w3.setCell ⟨b, 3, none⟩ (.bool false) := ⟨_, rfl⟩
       have h4 : AgAt w4 b s.install A c := by rw [hin.out, hw4]; exact h3.setOpn false
       have g4 : w3.grownBy w4 (some b) := by rw [hw4]; exact grown_cell _ _ _ _
       replace h3 := Lib.hid h3
       replace h4 := Lib.hid h4
       replace hw4 := Lib.hid hw4)
    | (rw [← hw4.out]
       go_at_call 22
       have z3 := g3.size
       have z4 := g4.size
       have rA4 : RowN w4 (w.heap.size + 1) 3 eMb A a.mem := (rA.out.grown g3 (by omega)).grown g4 (by omega)
       have rT4 : RowN w4 (w.heap.size + 1) 1 eInt T a.trans := (rT.out.grown g3 (by omega)).grown g4 (by omega)
       refine (view_any b s.install A c w4.heap.size w4 h4.out (by omega) (Nat.le_refl _) (by rw [hin.out]; exact rA4.row) (by rw [hin.out]; exact hlen)).mono ?_
       rintro e w5 ⟨A', c', rfl, rA5, hb5⟩)
    | (refine wpList_store46 rfl (.tmp 2) (.tmp 25) rfl w.heap.size 0 (by rfl) a.vid A' a.mem.length c' (by rw [hin.out]; rfl) (there_below ((grown_there g4 (by omega) (grown_there g3 (by omega) ht2.out))) hb5 (by omega)) ?_
       intro w6 hw6)
    | fail)
  have z5 := hb5.size
  have ht4 : w4.there w.heap.size 0 5 := grown_there g4 ⟨by omega, by omega⟩ (grown_there g3 ⟨by omega, by omega⟩ ht2.out)
  have ht5 := there_below ht4 hb5 (by omega)
  have v6 : ViAt w6 w.heap.size a.vid A' a.mem.length c' := by rw [hw6.out]; exact viAt_put (w := w5) (v := a.vid) (A := A') (n := a.mem.length) (c := c') ht5
  have g6 : w5.grownBy w6 (some w.heap.size) := by rw [hw6.out]; exact grown_sets _ _ _ _
  have at5 := h4.out.same (hb5.block b (by omega))
  have at6 := at5.same (g6.block b (by omega) (by intro e; injection e with e; omega))
  have gb : w.grownBy w6 (some b) := by
    have e1 := (World.grownBy.but (grown_below hb2.out) (some b)).trans (g3.trans (g4.trans (World.grownBy.but (grown_below hb5) (some b))))
    exact ⟨g6.os.trans e1.os, g6.tape.trans e1.tape, g6.output.trans e1.output, Nat.le_trans e1.size g6.size, fun k hk hne => (g6.block k (by omega) (by intro e; injection e with e; omega)).trans (e1.block k hk hne)⟩
  rw [hin.out] at rA5
  exact bodyPost_ret (res_cell_tmp_tmp (p := 2) (u := 3) (u' := 4) (ty := 46) rfl rfl v6.load) rfl ⟨A', c', T, cT, A, c, rfl, ⟨at6, gb⟩, ((rA4.below hb5).grown g6 (Nat.lt_succ_self _)).low (Nat.le_succ _), (rA5.grown g6 (by omega)).low (by omega), ((rT4.below hb5).grown g6 (Nat.lt_succ_self _)).low (Nat.le_succ _)⟩
end Go.Proofs.Ytfbeggdbjpmppaa
/- The document's twin. -/
namespace Go.Proofs.Ytfbeggdbjpmppaa
open Go.RowKit
/-- A proposal by value, its lists as they lie. -/
abbrev prV (S : Option Addr) (nS cS : Nat) (V : Option Addr) (nV cV : Nat) (p : Pr) : Array Value := #[.slice S nS cS, .int .i64 p.cid, .int .i64 p.rev, .int .i64 p.top, .int .i64 p.prev.e, .int .i64 p.prev.l, .int .i64 p.prev.i, .int .i64 p.prev.c, .slice V nV cV]
theorem one_prV (S : Option Addr) (nS cS : Nat) (V : Option Addr) (nV cV : Nat) (p : Pr) : (prV S nS cS V nV cV p).all (·.oneCell') = true := by
  refine all_oneCell_toArray (cs := [.slice S nS cS, .int .i64 p.cid, .int .i64 p.rev, .int .i64 p.top, .int .i64 p.prev.e, .int .i64 p.prev.l, .int .i64 p.prev.i, .int .i64 p.prev.c, .slice V nV cV]) fun u hu => ?_
  simp at hu; rcases hu with rfl | rfl | rfl | rfl | rfl | rfl | rfl | rfl | rfl <;> rfl
/-- A variable that holds a proposal. -/
structure PVar (w : World) (b : Nat) (S : Option Addr) (nS cS : Nat) (V : Option Addr) (nV cV : Nat) (p : Pr) : Prop where
  c0 : w.cell? ⟨b, 0, none⟩ = some (.slice S nS cS)
  c1 : w.cell? ⟨b, 1, none⟩ = some (.int .i64 p.cid)
  c2 : w.cell? ⟨b, 2, none⟩ = some (.int .i64 p.rev)
  c3 : w.cell? ⟨b, 3, none⟩ = some (.int .i64 p.top)
  c4 : w.cell? ⟨b, 4, none⟩ = some (.int .i64 p.prev.e)
  c5 : w.cell? ⟨b, 5, none⟩ = some (.int .i64 p.prev.l)
  c6 : w.cell? ⟨b, 6, none⟩ = some (.int .i64 p.prev.i)
  c7 : w.cell? ⟨b, 7, none⟩ = some (.int .i64 p.prev.c)
  c8 : w.cell? ⟨b, 8, none⟩ = some (.slice V nV cV)
  there : w.there b 0 9
section
variable {w w' : World} {b : Nat} {S : Option Addr} {nS cS : Nat} {V : Option Addr} {nV cV : Nat} {p : Pr}
theorem PVar.same (h : PVar w b S nS cS V nV cV p) (hb : w'.heap[b]? = w.heap[b]?) : PVar w' b S nS cS V nV cV p := by
  have hc : ∀ o, w'.cell? ⟨b, o, none⟩ = w.cell? ⟨b, o, none⟩ := fun o => World.cell?_of_block hb
  have hf : ∀ o, w'.frozen? ⟨b, o, none⟩ = w.frozen? ⟨b, o, none⟩ := fun o => World.frozen?_of_block hb
  exact ⟨(hc _).trans h.c0, (hc _).trans h.c1, (hc _).trans h.c2, (hc _).trans h.c3, (hc _).trans h.c4, (hc _).trans h.c5, (hc _).trans h.c6, (hc _).trans h.c7, (hc _).trans h.c8, fun j hj => by rw [hc, hf]; exact h.there j hj⟩
theorem PVar.ofRange (hr : w.rangeAt b 0 (prV S nS cS V nV cV p).toList) (ht : w.there b 0 9) : PVar w b S nS cS V nV cV p :=
  ⟨hr 0 _ rfl, hr 1 _ rfl, hr 2 _ rfl, hr 3 _ rfl, hr 4 _ rfl, hr 5 _ rfl, hr 6 _ rfl, hr 7 _ rfl, hr 8 _ rfl, ht⟩
theorem PVar.new (w : World) (S : Option Addr) (nS cS : Nat) (V : Option Addr) (nV cV : Nat) (p : Pr) (t : TypeId) : PVar (w.alloc (.cells (prV S nS cS V nV cV p) t)) w.heap.size S nS cS V nV cV p :=
  PVar.ofRange (range_new w (prV S nS cS V nV cV p) t) (there_new w (prV S nS cS V nV cV p) t)
theorem PVar.put (ht : w.there b 0 9) : PVar (w.setCells b 0 (prV S nS cS V nV cV p).toList) b S nS cS V nV cV p :=
  PVar.ofRange (World.rangeAt_setCells_same w b 0 _ ht) (World.there_setCells ht _ _ _)
theorem PVar.set (h : PVar w b S nS cS V nV cV p) (S' : Option Addr) (nS' cS' : Nat) : PVar (w.setCell ⟨b, 0, none⟩ (.slice S' nS' cS')) b S' nS' cS' V nV cV p := by
  show PVar (w.setCells b 0 [.slice S' nS' cS']) _ _ _ _ _ _ _ _
  have hv : ([.slice S' nS' cS'] : List Value).length = 1 := rfl
  exact ⟨cell_in (i := 0) h.there (by omega) rfl, cell_out h.c1 (by omega), cell_out h.c2 (by omega), cell_out h.c3 (by omega), cell_out h.c4 (by omega), cell_out h.c5 (by omega), cell_out h.c6 (by omega), cell_out h.c7 (by omega), cell_out h.c8 (by omega), World.there_setCells h.there _ _ _⟩
theorem PVar.setV (h : PVar w b S nS cS V nV cV p) (V' : Option Addr) (nV' cV' : Nat) : PVar (w.setCell ⟨b, 8, none⟩ (.slice V' nV' cV')) b S nS cS V' nV' cV' p := by
  show PVar (w.setCells b 8 [.slice V' nV' cV']) _ _ _ _ _ _ _ _
  have hv : ([.slice V' nV' cV'] : List Value).length = 1 := rfl
  exact ⟨cell_out h.c0 (by omega), cell_out h.c1 (by omega), cell_out h.c2 (by omega), cell_out h.c3 (by omega), cell_out h.c4 (by omega), cell_out h.c5 (by omega), cell_out h.c6 (by omega), cell_out h.c7 (by omega), cell_in (i := 0) h.there (by omega) rfl, World.there_setCells h.there _ _ _⟩
theorem PVar.load (h : PVar w b S nS cS V nV cV p) : (loadVar 31 ⟨b, 0, none⟩).run Try.prog w = .ok (.agg (prV S nS cS V nV cV p)) w := by
  obtain ⟨h0, h1, h2, h3, h4, h5, h6, h7, h8, _⟩ := h
  go_simp
end
section
variable {ops : Array Oper} {rest : List Oper} {op : Oper} {a : Act} {w : World} {Q : Exit → Act → World → Prop}
theorem wpList_store31 (hgd : op.guard = none) (x y : Operand) (ho : op.op = .store 31 x y) (b off : Nat) (hx : a.eval x = .pointer (some ⟨b, off, none⟩)) (S : Option Addr) (nS cS : Nat) (V : Option Addr) (nV cV : Nat) (p : Pr) (hy : a.eval y = .agg (prV S nS cS V nV cV p)) (ht : w.there b off 9)
    (h : ∀ w', Hid (w' = w.setCells b off (prV S nS cS V nV cV p).toList) → wpList Try.prog ops Q rest (a.put op.dst undef) w') : wpList Try.prog ops Q (op :: rest) a w :=
  wpList_store_mid hgd 31 x y ho b off (prV S nS cS V nV cV p) hx hy ht (by rw [size31]; rfl) (one_prV _ _ _ _ _ _ _) (h _ (Lib.hid rfl))
end
abbrev prZ : Array Value := #[.slice none 0 0, .int .i64 0, .int .i64 0, .int .i64 0, .int .i64 0, .int .i64 0, .int .i64 0, .int .i64 0, .slice none 0 0]
/-- What twin answers. -/
def TwPost (w : World) (p : Pr) (n m : Nat) (ls lv : List Int) (x : Ending) (w' : World) : Prop :=
  ∃ S cS V cV, x = .returned (.agg (prV S n cS V m cV p)) ∧ RowN w' w.heap.size 1 eInt S ls ∧ RowN w' w.heap.size 1 eInt V lv ∧ Below w.heap.size w w'
set_option maxRecDepth 100000 in
set_option maxHeartbeats 1000000 in
theorem twin_any (S : Option Addr) (cS : Nat) (V : Option Addr) (cV N : Nat) (p : Pr) (ls lv : List Int) (w : World) (hN : N ≤ w.heap.size) (hS : RowAt w N 1 eInt S ls) (hV : RowAt w N 1 eInt V lv) (l1 : ls.length ≤ 1000000) (l2 : lv.length ≤ 1000000) :
    Calls Try.prog 74 #[.agg (prV S ls.length cS V lv.length cV p)] w (TwPost w p ls.length lv.length ls lv) := by
  obtain ⟨w3, hw3⟩ : ∃ w3, w3 = ((w.alloc (.cells (prV S ls.length cS V lv.length cV p) 31)).alloc (.cells prZ 31)).alloc (.cells prZ 31) := ⟨_, rfl⟩
  have hb3 : Below w.heap.size w w3 := by rw [hw3]; exact below_box3 _ _ _ _ _ _ _
  have z3 : w3.heap.size = w.heap.size + 3 := by rw [hw3]; simp
  have t3 : w3.there (w.heap.size + 2) 0 9 := by
    have := there_new ((w.alloc (.cells (prV S ls.length cS V lv.length cV p) 31)).alloc (.cells prZ 31)) prZ 31
    rw [← hw3] at this; simpa using this
  have t3' : w3.there (w.heap.size + 1) 0 9 := by
    have := World.there_alloc (there_new (w.alloc (.cells (prV S ls.length cS V lv.length cV p) 31)) prZ 31) (.cells prZ 31)
    rw [← hw3] at this; simpa using this
  have v3 : PVar w3 w.heap.size S ls.length cS V lv.length cV p := by
    refine (PVar.new w S ls.length cS V lv.length cV p 31).same ?_
    rw [hw3, heap_alloc_old _ _ (by simp; omega), heap_alloc_old _ _ (by simp)]
  have hx : ∀ W, Below w.heap.size w W → RowAt W N 1 eInt S ls ∧ RowAt W N 1 eInt V lv ∧ N ≤ W.heap.size := fun W hW => ⟨hS.below hW hN, hV.below hW hN, Nat.le_trans hN hW.size⟩
  replace hx := Lib.hid hx
  have k0 := v3.c0
  have k8 := v3.c8
  clear hS hV
  replace hw3 := Lib.hid hw3
  have hld : (loadVar 31 ⟨w.heap.size, 0, none⟩).run Try.prog ((w.alloc (.cells (prV S ls.length cS V lv.length cV p) 31)).alloc (.cells prZ 31)) = .ok (.agg (prV S ls.length cS V lv.length cV p)) ((w.alloc (.cells (prV S ls.length cS V lv.length cV p) 31)).alloc (.cells prZ 31)) :=
    ((PVar.new w S ls.length cS V lv.length cV p 31).same (heap_alloc_old _ _ (by simp))).load
  replace hld := Lib.hid hld
  replace t3 := Lib.hid t3
  replace t3' := Lib.hid t3'
  replace v3 := Lib.hid v3
  replace hb3 := Lib.hid hb3
  go_enter Try.func74, Try.ntmps74
  go_wp2_with (first
    | (refine wpList_loadR rfl 31 (.tmp 1) rfl w.heap.size 0 (by rfl) _ hld.out ?_)
    | (refine wpList_store31 rfl (.tmp 3) (.tmp 4) rfl (w.heap.size + 2) 0 (by rfl) S ls.length cS V lv.length cV p (by rfl) (by rw [← hw3.out]; exact t3.out) ?_
       rw [← hw3.out]
       intro w4 hw4
       have p4 : PVar w4 (w.heap.size + 2) S ls.length cS V lv.length cV p := by rw [hw4.out]; exact PVar.put t3.out
       have g4 : w3.grownBy w4 (some (w.heap.size + 2)) := by rw [hw4.out]; exact grown_sets _ _ _ _
       have v4 := v3.out.same (g4.block w.heap.size (by omega) (by intro e; injection e with e; omega))
       have t4 := grown_there g4 (a := w.heap.size + 1) ⟨by omega, by omega⟩ t3'.out
       have b4 : Below w.heap.size w w4 := hb3.out.grown g4 (by omega) (by intro k hk; injection hk with hk; omega)
       have z4 := g4.size
       replace k0 := v4.c0
       replace k8 := v4.c8
       replace p4 := Lib.hid p4
       replace v4 := Lib.hid v4
       replace b4 := Lib.hid b4
       replace t4 := Lib.hid t4)
    | (go_at_call 82
       first
         | (with_reducible refine (rints_any S cS N ls w4 (hx.out _ b4.out).2.2 (hx.out _ b4.out).1 l1).mono ?_
            rintro e w5 ⟨S', cS', rfl, rS5, hb5⟩
            have z5 := hb5.size
            have p5 := p4.out.same (hb5.block _ (by omega))
            have v5 := v4.out.same (hb5.block _ (by omega))
            have t5 := there_below t4.out hb5 (by omega)
            have b5 := b4.out.trans (hb5.mono (by omega))
            clear k0 k8
            have k8 := v5.c8
            have m0 := p5.c0
            have f0 : w5.frozen? ⟨w.heap.size + 2, 0, none⟩ = false := there_frozen (k := 0) p5.there (by omega)
            obtain ⟨w6, hw6⟩ : ∃ w6, w6 = w5.setCell ⟨w.heap.size + 2, 0, none⟩ (.slice S' ls.length cS') := ⟨_, rfl⟩
            have g6 : w5.grownBy w6 (some (w.heap.size + 2)) := by rw [hw6]; exact grown_cell _ _ _ _
            have p6 : PVar w6 (w.heap.size + 2) S' ls.length cS' V lv.length cV p := by rw [hw6]; exact p5.set S' ls.length cS'
            have t6 := grown_there g6 (a := w.heap.size + 1) ⟨by omega, by omega⟩ t5
            have v6 := v5.same (g6.block w.heap.size (by omega) (by intro e; injection e with e; omega))
            have b6 : Below w.heap.size w w6 := b5.grown g6 (by omega) (by intro k hk; injection hk with hk; omega)
            have z6 := g6.size
            have k86 := v6.c8
            replace rS5 := Lib.hid (rS5.grown g6 (by omega))
            replace p6 := Lib.hid p6
            replace t6 := Lib.hid t6
            replace b6 := Lib.hid b6
            replace v6 := Lib.hid v6
            replace hw6 := Lib.hid hw6
            clear p5 t5 b5 v5)
         | (rw [← hw6.out]
            refine (rints_any V cV N lv w6 (hx.out _ b6.out).2.2 (hx.out _ b6.out).2.1 l2).mono ?_
            rintro e w7 ⟨V', cV', rfl, rV7, hb7⟩
            have z7 := hb7.size
            have p7 := p6.out.same (hb7.block _ (by omega))
            have t7 := there_below t6.out hb7 (by omega)
            have b7 := b6.out.trans (hb7.mono (by omega))
            have rS7 := Lib.hid (rS5.out.below hb7)
            clear k86 k8 m0 f0
            have m8 := p7.c8
            have f8 : w7.frozen? ⟨w.heap.size + 2, 8, none⟩ = false := there_frozen (k := 8) p7.there (by omega)
            obtain ⟨w8, hw8⟩ : ∃ w8, w8 = w7.setCell ⟨w.heap.size + 2, 8, none⟩ (.slice V' lv.length cV') := ⟨_, rfl⟩
            have g8 : w7.grownBy w8 (some (w.heap.size + 2)) := by rw [hw8]; exact grown_cell _ _ _ _
            have p8 : PVar w8 (w.heap.size + 2) S' ls.length cS' V' lv.length cV' p := by rw [hw8]; exact p7.setV V' lv.length cV'
            have t8 := grown_there g8 (a := w.heap.size + 1) ⟨by omega, by omega⟩ t7
            have b8 : Below w.heap.size w w8 := b7.grown g8 (by omega) (by intro k hk; injection hk with hk; omega)
            have z8 := g8.size
            replace rS7 := Lib.hid (rS7.out.grown g8 (by omega))
            replace rV7 := Lib.hid (rV7.grown g8 (by omega))
            replace p8 := Lib.hid p8
            replace t8 := Lib.hid t8
            replace b8 := Lib.hid b8
            replace hw8 := Lib.hid hw8
            clear p7 t7 b7))
    | (rw [← hw8.out]
       refine wpList_loadR rfl 31 (.tmp 3) rfl (w.heap.size + 2) 0 (by rfl) _ p8.out.load ?_)
    | (refine wpList_store31 rfl (.tmp 2) (.tmp 13) rfl (w.heap.size + 1) 0 (by rfl) S' ls.length cS' V' lv.length cV' p (by rfl) t8.out ?_
       intro w9 hw9)
    | fail)
  have p9 : PVar w9 (w.heap.size + 1) S' ls.length cS' V' lv.length cV' p := by rw [hw9.out]; exact PVar.put t8.out
  have g9 : w8.grownBy w9 (some (w.heap.size + 1)) := by rw [hw9.out]; exact grown_sets _ _ _ _
  have b9 : Below w.heap.size w w9 := b8.out.grown g9 (by omega) (by intro k hk; injection hk with hk; omega)
  exact bodyPost_ret (res_cell (p := 2) (ty := 31) rfl rfl p9.load) rfl ⟨S', cS', V', cV', rfl, (rS7.out.grown g9 (by omega)).low (by omega), (rV7.out.grown g9 (by omega)).low (by omega), b9⟩
end Go.Proofs.Ytfbeggdbjpmppaa
