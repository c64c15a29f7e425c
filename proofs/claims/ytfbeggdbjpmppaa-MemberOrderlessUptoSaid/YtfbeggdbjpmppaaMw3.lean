/- Begin Pack Estimate Wish HeldLex, joined. -/
import Derived.Deep.RegionHeld3
import Derived.Outline
import Derived.BigRegion
import Derived.OrdersHeld
import Derived.Deep.Quiet
import Derived.StillTail
import Derived.RegionTactic
import Derived.Lib.Hide
import Derived.Test.YtfbeggdbjpmppaaMw1
import Derived.Test.YtfbeggdbjpmppaaMw2
set_option linter.unusedVariables false
set_option linter.unusedSimpArgs false
/- The program's begin: a change begins. -/
namespace Go.Proofs.Ytfbeggdbjpmppaa
open Go.RowKit
theorem vidEq_iff {a b : Vid} : vidEq a b = true ↔ a = b := by simp [vidEq]
set_option maxRecDepth 100000 in
set_option maxHeartbeats 4000000 in
theorem begin_no (b : Nat) (s : St) (M : Option Addr) (cM : Nat) (x : List Int) (w : World) (h : AgAt w b s M cM) (hb : b < w.heap.size) (hs : s.spent = true) :
    Calls Try.prog 55 #[.pointer (some ⟨b, 0, none⟩), .agg (arr x)] w fun e w' => e = .returned (.bool false) ∧ Below w.heap.size w w' := by
  have hbx := below_box1 w (arr x) 94
  have h1 := h.same (hbx.block b hb)
  have q1 := h1.cid
  have q2 := h1.rev
  have q3 := h1.ve
  replace h := Lib.hid h
  replace h1 := Lib.hid h1
  unfold St.spent at hs
  simp only [decide_eq_true_eq] at hs
  replace hbx := Lib.hid hbx
  by_cases e1 : s.own.cid = 4611686018427387904
  · have c1 : (s.own.cid == 4611686018427387904) = true := by simp [e1]
    replace e1 := Lib.hid e1
    replace hs := Lib.hid hs
    go_enter Try.func55, Try.ntmps55
    go_wp2
    go_ret
    exact ⟨rfl, hbx.out⟩
  · have c1 : (s.own.cid == 4611686018427387904) = false := by simp [e1]
    by_cases e2 : s.own.rev = 4611686018427387904
    · have c2 : (s.own.rev == 4611686018427387904) = true := by simp [e2]
      replace e1 := Lib.hid e1
      replace e2 := Lib.hid e2
      replace hs := Lib.hid hs
      go_enter Try.func55, Try.ntmps55
      go_wp2
      go_ret
      exact ⟨rfl, hbx.out⟩
    · have c2 : (s.own.rev == 4611686018427387904) = false := by simp [e2]
      have e3 : s.vid.e = 4611686018427387904 := by omega
      have c3 : (s.vid.e == 4611686018427387904) = true := by simp [e3]
      replace e1 := Lib.hid e1
      replace e2 := Lib.hid e2
      replace e3 := Lib.hid e3
      replace hs := Lib.hid hs
      go_enter Try.func55, Try.ntmps55
      go_wp2
      go_ret
      exact ⟨rfl, hbx.out⟩
theorem there_frozen {w : World} {b n k : Nat} (h : w.there b 0 n) (hk : k < n) : w.frozen? ⟨b, k, none⟩ = false := by
  have := (h k hk).2; rwa [Nat.zero_add] at this
theorem grown_drew (w : World) (row : Option Nat) : w.grownBy w.drew row := ⟨rfl, rfl, rfl, Nat.le_refl _, fun _ _ _ => rfl⟩
theorem size_drew1 (w : World) : w.drew.heap.size = w.heap.size := rfl
theorem AgAt.drew {w : World} {b : Nat} {s : St} {M : Option Addr} {cM : Nat} (h : AgAt w b s M cM) : AgAt w.drew b s M cM := h.same rfl
theorem grown_below {w w' : World} (h : Below w.heap.size w w') : w.grownBy w' none := ⟨h.os, h.tape, h.output, h.size, fun k hk _ => h.block k hk⟩
set_option maxRecDepth 100000 in
set_option maxHeartbeats 8000000 in
theorem begin_yes (b : Nat) (s : St) (M : Option Addr) (cM : Nat) (x : List Int) (w : World) (h : AgAt w b s M cM) (hb : b < w.heap.size) (hI : Inv s) (hs : s.spent = false) (hx : x.length = 16) :
    Calls Try.prog 55 #[.pointer (some ⟨b, 0, none⟩), .agg (arr x)] w fun e w' => e = .returned (.bool true) ∧ AgAt w' b (s.begin_ x) M cM ∧ w.grownBy w' (some b) := by
  have q1 := h.cid
  have q2 := h.rev
  have q3 := h.ve
  have f1 := there_frozen h.there (k := 36) (by omega)
  have f2 := there_frozen h.there (k := 37) (by omega)
  have hnv := run_neq_vid
  obtain ⟨i1, i2⟩ := hI.own.cid
  obtain ⟨i3, i4⟩ := hI.own.rev
  have hn := hI.n2
  have hsf := hI.self
  unfold St.spent at hs
  simp only [decide_eq_false_iff_not, not_or] at hs
  obtain ⟨e1, e2, e3⟩ := hs
  have c1 : (s.own.cid == 4611686018427387904) = false := by simp [e1]
  have c2 : (s.own.rev == 4611686018427387904) = false := by simp [e2]
  have c3 : (s.vid.e == 4611686018427387904) = false := by simp [e3]
  have h2' := (h.setCid (s.own.cid + 1)).setRev (s.own.rev + 1)
  obtain ⟨W2, hW2⟩ : ∃ W2, W2 = ((w.setCell ⟨b, 36, none⟩ (.int .i64 (s.own.cid + 1))).setCell ⟨b, 37, none⟩ (.int .i64 (s.own.rev + 1))).alloc (.cells (arr x) 94) := ⟨_, rfl⟩
  have hr2 : W2.rangeAt w.heap.size 0 (ints x) := by
    have := range_new ((w.setCell ⟨b, 36, none⟩ (.int .i64 (s.own.cid + 1))).setCell ⟨b, 37, none⟩ (.int .i64 (s.own.rev + 1))) (arr x) 94
    rw [← hW2, arr_list, World.size_setCell, World.size_setCell] at this; exact this
  have g2 : w.grownBy W2 (some b) := by rw [hW2]; exact ((grown_cell w b 36 _).trans (grown_cell _ b 37 _)).trans (World.grownBy_alloc _ _ (some b))
  have s2 : W2.heap.size = w.heap.size + 1 := by rw [hW2, World.size_alloc, World.size_setCell, World.size_setCell]
  have h2 : AgAt W2 b _ M cM := h2'.same (by rw [hW2]; exact (heap_alloc_old _ _ (by rw [World.size_setCell, World.size_setCell]; exact hb)))
  have t2 := World.there.at h2.there (o := 4) (m := 16) (by omega)
  clear h2'
  replace hW2 := Lib.hid hW2
  replace hr2 := Lib.hid hr2
  replace h2 := Lib.hid h2
  replace t2 := Lib.hid t2
  replace g2 := Lib.hid g2
  replace e1 := Lib.hid e1
  replace e2 := Lib.hid e2
  replace e3 := Lib.hid e3
  replace h := Lib.hid h
  by_cases hz : s.vid = Vid.zero
  · have hv : vidEq ⟨s.vid.e, s.vid.l, s.vid.i, s.vid.c⟩ ⟨0, 0, 0, 0⟩ = true := vidEq_iff.2 (by rw [show (⟨s.vid.e, s.vid.l, s.vid.i, s.vid.c⟩ : Vid) = s.vid from rfl, hz])
    have hz' := Lib.hid hz
    clear hz
    go_enter Try.func55, Try.ntmps55
    go_wp2_with (first
      | (rw [← hW2.out]; refine wpList_load94 rfl (.tmp 3) rfl w.heap.size 0 (by rfl) x hr2.out hx ?_)
      | (refine wpList_store94 rfl (.tmp 50) (.tmp 47) rfl b 4 (by rfl) x (by rfl) t2.out hx ?_; intro W6 hW6; have h5 := Lib.hid (h2.out.setSet x hx); rw [← hW6.out] at h5; have q4 := h5.out.ve; have q5 := h5.out.vl; have q6 := h5.out.vi; have q7 := h5.out.vc; clear q1 q2 q3 f1 f2
         have h6 : Hid (AgAt W6 b (s.beg1 x) M cM) := (by
           have : s.beg1 x = { s with own := { s.own with cid := s.own.cid + 1, rev := s.own.rev + 1, set := x } } := (by unfold St.beg1; rw [if_pos hz'.out, if_pos hz'.out])
           show AgAt W6 b (s.beg1 x) M cM
           rw [this]; exact h5.out)
         have s6 : W6.heap.size = w.heap.size + 1 := (by rw [hW6.out, size_sets]; exact s2)
         have g6 : Hid (w.grownBy W6 (some b)) := (by show w.grownBy W6 (some b); rw [hW6.out]; exact g2.out.trans (grown_sets b _ _ _)))
      | (go_at_call 53; refine (heard_any b (s.beg1 x) M cM W6 h6.out (by omega) hn hsf).mono ?_; rintro e w7 ⟨rfl, hb7⟩; have h7 := h6.out.same (hb7.block b (by omega)); have t7 := World.there.at h7.there (o := 20) (m := 16) (by omega); replace h7 := Lib.hid h7; replace t7 := Lib.hid t7)
      | (refine wpList_store94 rfl (.tmp 82) (.tmp 79) rfl b 20 (by rfl) _ (by rfl) t7.out (len_heard _) ?_; intro w8 hw8; have h8 := Lib.hid (h7.out.setVec _ (len_heard (s.beg1 x))); rw [← hw8.out] at h8; have o1 := h8.out.opn; have o2 := there_frozen h8.out.there (k := 3) (by omega))
      | fail)
    have h9 : AgAt (w8.setCell ⟨b, 3, none⟩ (.bool true)) b (s.begin_ x) M cM := h8.out.setOpn true
    have g9 : w.grownBy (w8.setCell ⟨b, 3, none⟩ (.bool true)) (some b) := by
      refine ((g6.out.trans (World.grownBy.but (grown_below hb7) _)).trans ?_).trans (grown_cell _ b 3 _)
      rw [hw8.out]; exact grown_sets b _ _ _
    go_ret
    exact ⟨rfl, h9, g9⟩
  · have hv : vidEq ⟨s.vid.e, s.vid.l, s.vid.i, s.vid.c⟩ ⟨0, 0, 0, 0⟩ = false := by rw [← Bool.not_eq_true, vidEq_iff]; exact hz
    have hz' := Lib.hid hz
    clear hz
    go_enter Try.func55, Try.ntmps55
    go_wp2_with (first
      | (rw [← hW2.out]; refine wpList_load94 rfl (.tmp 3) rfl w.heap.size 0 (by rfl) x hr2.out hx ?_)
      | (refine wpList_store94 rfl (.tmp 50) (.tmp 47) rfl b 4 (by rfl) x (by rfl) t2.out hx ?_; intro w5 hw5; have h5 := Lib.hid (h2.out.setSet x hx); rw [← hw5.out] at h5; have q4 := h5.out.ve; have q5 := h5.out.vl; have q6 := h5.out.vi; have q7 := h5.out.vc; clear q1 q2 q3 f1 f2; have k1 := h5.out.top; have k2 := h5.out.pe; have k3 := h5.out.pl; have k4 := h5.out.pi; have k5 := h5.out.pc; have f1 := there_frozen h5.out.there (k := 38) (by omega); have f2 := there_frozen h5.out.there (k := 39) (by omega); have f3 := there_frozen h5.out.there (k := 40) (by omega); have f4 := there_frozen h5.out.there (k := 41) (by omega); have f5 := there_frozen h5.out.there (k := 42) (by omega))
      | fail)
    go_region
    obtain ⟨W6, hW6⟩ : ∃ W6, W6 = (((((w5.setCell ⟨b, 38, none⟩ (.int .i64 s.vid.e)).setCell ⟨b, 39, none⟩ (.int .i64 s.vid.e)).setCell ⟨b, 40, none⟩ (.int .i64 s.vid.l)).setCell ⟨b, 41, none⟩ (.int .i64 s.vid.i)).setCell ⟨b, 42, none⟩ (.int .i64 s.vid.c)).drew := ⟨_, rfl⟩
    rw [← hW6]
    have h6 : AgAt W6 b (s.beg1 x) M cM := by
      have : s.beg1 x = { s with own := { s.own with cid := s.own.cid + 1, rev := s.own.rev + 1, set := x, top := s.vid.e, prev := s.vid } } := by unfold St.beg1; rw [if_neg hz'.out, if_neg hz'.out]
      rw [hW6, this]
      exact AgAt.drew ((h5.out.setTop s.vid.e).setPrev s.vid)
    have s6 : W6.heap.size = w.heap.size + 1 := by
      rw [hW6, hw5.out, size_drew1]
      simp only [World.size_setCell, size_sets]; exact s2
    have g6 : w.grownBy W6 (some b) := by
      rw [hW6, hw5.out]
      refine World.grownBy.trans ?_ (grown_drew _ _)
      exact (((((g2.out.trans (grown_sets b _ _ _)).trans (grown_cell _ b 38 _)).trans (grown_cell _ b 39 _)).trans (grown_cell _ b 40 _)).trans (grown_cell _ b 41 _)).trans (grown_cell _ b 42 _)
    replace h6 := Lib.hid h6
    replace g6 := Lib.hid g6
    replace hW6 := Lib.hid hW6
    clear q4 q5 q6 q7 k1 k2 k3 k4 k5 f1 f2 f3 f4 f5
    go_wp2_with (first
      | (go_at_call 53; refine (heard_any b (s.beg1 x) M cM W6 h6.out (by omega) hn hsf).mono ?_; rintro e w7 ⟨rfl, hb7⟩; have h7 := h6.out.same (hb7.block b (by omega)); have t7 := World.there.at h7.there (o := 20) (m := 16) (by omega); replace h7 := Lib.hid h7; replace t7 := Lib.hid t7)
      | (refine wpList_store94 rfl (.tmp 82) (.tmp 79) rfl b 20 (by rfl) _ (by rfl) t7.out (len_heard _) ?_; intro w8 hw8; have h8 := Lib.hid (h7.out.setVec _ (len_heard (s.beg1 x))); rw [← hw8.out] at h8; have o1 := h8.out.opn; have o2 := there_frozen h8.out.there (k := 3) (by omega))
      | fail)
    have h9 : AgAt (w8.setCell ⟨b, 3, none⟩ (.bool true)) b (s.begin_ x) M cM := h8.out.setOpn true
    have g9 : w.grownBy (w8.setCell ⟨b, 3, none⟩ (.bool true)) (some b) := by
      refine ((g6.out.trans (World.grownBy.but (grown_below hb7) _)).trans ?_).trans (grown_cell _ b 3 _)
      rw [hw8.out]; exact grown_sets b _ _ _
    go_ret
    exact ⟨rfl, h9, g9⟩
end Go.Proofs.Ytfbeggdbjpmppaa
/- The program's pack: a list of so many counts as a row of sixteen. -/
namespace Go.Proofs.Ytfbeggdbjpmppaa
open Go.RowKit
set_option maxHeartbeats 2000000 in
theorem pack_any (A : Option Addr) (cA N n : Nat) (l : List Int) (w : World) (hN : N ≤ w.heap.size) (hn : n ≤ 16) (hA : RowAt w N 1 eInt A l) (hl : l.length ≤ 9223372036854775807) :
    Calls Try.prog 56 #[.slice A l.length cA, .int .i64 n] w fun x w' => (∃ m, x = .returned (.tuple #[.agg (arr m), .bool (packB l n)]) ∧ m.length = 16 ∧ (packB l n = true → m = pad l)) ∧ Below w.heap.size w w' := by
  have hz0 := len_zeros
  have hb2 : Below w.heap.size w ((w.alloc (.cells (arr zeros) 94)).alloc (.cells (arr zeros) 94)) := below_box2 _ _ _ _ _
  have h6 := range_new (w.alloc (.cells (arr zeros) 94)) (arr zeros) 94
  have t6 := there_new (w.alloc (.cells (arr zeros) 94)) (arr zeros) 94
  have t4 := World.there_alloc (there_new w (arr zeros) 94) (.cells (arr zeros) 94)
  rw [World.size_alloc] at h6 t6
  rw [arr_list] at h6
  rw [size_arr, hz0] at t6 t4
  by_cases hln : l.length = n
  · have hlnI : ((l.length : Int) != n) = false := by simp [hln]
    have hl16 : l.length ≤ 16 := by omega
    replace hln := Lib.hid hln
    replace h6 := Lib.hid h6
    replace t6 := Lib.hid t6
    replace t4 := Lib.hid t4
    replace hz0 := Lib.hid hz0
    go_enter Try.func56, Try.ntmps56
    go_wp2_with (first | (refine wpList_alloc94 rfl rfl ?_) | fail)
    go_loopw [16] (fun k wr => ∃ i : Nat, k = .int .i64 i ∧ i ≤ l.length ∧ Hid (∀ v ∈ l.take i, okB v = true) ∧ wr.rangeAt (w.heap.size + 1) 0 (ints (pad (l.take i))) ∧ wr.there (w.heap.size + 1) 0 16 ∧ wr.there w.heap.size 0 16 ∧ Below w.heap.size w wr ∧ w.heap.size + 2 ≤ wr.heap.size) (fun k _ => l.length - (intOf k).toNat)
    case atStart => exact ⟨0, rfl, by omega, (by intro v hv; simp at hv), by simpa [pad, zeros] using h6.out, t6.out, t4.out, hb2, by simp⟩
    case round =>
      obtain ⟨i, rfl, hi, hok, hr, ht6, ht4, hb, hsz⟩ := hrel
      replace hr := Lib.hid hr
      replace ht6 := Lib.hid ht6
      replace ht4 := Lib.hid ht4
      have hlp : (pad (l.take i)).length = 16 := len_pad (Nat.le_trans (List.length_take_le _ _) (by omega))
      replace hlp := Lib.hid hlp
      have hload : ∀ w' : World, w'.rangeAt w.heap.size 0 (ints (pad (l.take i))) → (loadVar 94 ⟨w.heap.size, 0, none⟩).run Try.prog w' = .ok (.agg (arr (pad (l.take i)))) w' := fun w' h => run_loadVar_arr w' _ 0 _ h hlp.out
      replace hload := Lib.hid hload
      by_cases hlt : i < l.length
      · obtain ⟨g, o, v, rfl, hg, hv, hc⟩ := (hA.below hb hN).int hlt
        by_cases hbad : v < 0 ∨ 4611686018427387904 < v
        · have hpb : packB l n = false := by
            rw [Bool.eq_false_iff]; intro h
            unfold packB at h
            simp only [Bool.and_eq_true, List.all_eq_true] at h
            have := h.2 v (List.mem_of_getElem? hv.out)
            simp [okB] at this; omega
          replace hpb := Lib.hid hpb
          by_cases hneg : v < 0
          all_goals first | (have hbig : 4611686018427387904 < v := (by omega)) | skip
          all_goals
            clear hbad
            go_wp2_with (first
              | (refine wpList_load94 rfl (.tmp 6) rfl (w.heap.size + 1) 0 (by rfl) _ hr.out hlp.out ?_)
              | (refine wpList_store94 rfl (.tmp 4) (.tmp 27) rfl w.heap.size 0 (by rfl) (pad (l.take i)) (by rfl) ht4.out hlp.out ?_; intro w5 hw5)
              | fail)
            have hr5 : w5.rangeAt w.heap.size 0 (ints (pad (l.take i))) := by rw [hw5.out]; exact World.rangeAt_setCells_same _ _ _ _ (by rw [len_ints, hlp.out]; exact ht4.out)
            have hb5 : Below w.heap.size w w5 := by rw [hw5.out]; exact below_sets hb (Nat.le_refl _) _ _ (by omega)
            have hl5 := hload.out w5 hr5
            refine bodyPost_ret (v := .tuple #[.agg (arr (pad (l.take i))), .bool false]) (res_cell_tmp (p := 4) (u := 5) (ty := 94) rfl rfl hl5) rfl ⟨⟨_, by rw [hpb.out], hlp.out, fun e => ?_⟩, hb5⟩
            rw [hpb.out] at e; cases e
        · have hv1 : 0 ≤ v := by omega
          have hv2 : v ≤ 4611686018427387904 := by omega
          have hi16 : (i : Int) < 16 := by omega
          obtain ⟨u, hu⟩ : ∃ u, (pad (l.take i))[i]? = some u := ⟨_, List.getElem?_eq_getElem (by rw [hlp.out]; omega)⟩
          have hci := rangeAt_cell hr.out hu
          have hfi := (ht6.out i (by omega)).2
          rw [Nat.zero_add] at hci hfi
          have hok' : Hid (∀ x ∈ l.take (i + 1), okB x = true) := fun x hx => by
            rw [List.take_add_one, hv.out] at hx
            rcases List.mem_append.1 hx with h | h
            · exact hok.out x h
            · obtain rfl : x = v := by simpa using h
              simp [okB]; omega
          have hr' : (wr.setCell ⟨w.heap.size + 1, i, none⟩ (.int .i64 v)).rangeAt (w.heap.size + 1) 0 (ints (pad (l.take (i + 1)))) := by
            have := range_set hr.out (k := i) (by rw [hlp.out]; omega) v
            rw [Nat.zero_add, pad_take_set (by omega) hv.out] at this
            exact this
          have ht6' := there_set ht6.out ⟨w.heap.size + 1, i, none⟩ (.int .i64 v)
          have ht4' := there_set ht4.out ⟨w.heap.size + 1, i, none⟩ (.int .i64 v)
          replace hr' := Lib.hid hr'
          replace ht6' := Lib.hid ht6'
          replace ht4' := Lib.hid ht4'
          replace hu := Lib.hid hu
          have hb' := hb.setCell (p := ⟨w.heap.size + 1, i, none⟩) (by show w.heap.size ≤ w.heap.size + 1; omega) (.int .i64 v)
          replace hb' := Lib.hid hb'
          clear hbad
          go_wp2
          go_roundw
          case rel => go_light; exact ⟨i + 1, by go_num, by omega, hok', hr'.out, ht6'.out, ht4'.out, hb'.out, by rw [World.size_setCell]; exact hsz⟩
          case measure => go_light; simp [intOf]; omega
      · obtain rfl : i = l.length := by omega
        have hpb : packB l n = true := by
          unfold packB
          simp only [Bool.and_eq_true, decide_eq_true_eq, List.all_eq_true]
          refine ⟨hln.out, fun v hv => hok.out v (by rw [List.take_length]; exact hv)⟩
        replace hpb := Lib.hid hpb
        go_wp2_with (first
          | (refine wpList_load94 rfl (.tmp 6) rfl (w.heap.size + 1) 0 (by rfl) _ hr.out hlp.out ?_)
          | (refine wpList_store94 rfl (.tmp 4) (.tmp 32) rfl w.heap.size 0 (by rfl) (pad (l.take l.length)) (by rfl) ht4.out hlp.out ?_; intro w5 hw5)
          | fail)
        have hr5 : w5.rangeAt w.heap.size 0 (ints (pad (l.take l.length))) := by rw [hw5.out]; exact World.rangeAt_setCells_same _ _ _ _ (by rw [len_ints, hlp.out]; exact ht4.out)
        have hb5 : Below w.heap.size w w5 := by rw [hw5.out]; exact below_sets hb (Nat.le_refl _) _ _ (by omega)
        have hl5 := hload.out w5 hr5
        refine bodyPost_ret (v := .tuple #[.agg (arr (pad (l.take l.length))), .bool true]) (res_cell_tmp (p := 4) (u := 5) (ty := 94) rfl rfl hl5) rfl ⟨⟨_, by rw [hpb.out], hlp.out, fun _ => by rw [List.take_length]⟩, hb5⟩
  · have hlnI : ((l.length : Int) != n) = true := by simp; omega
    have hpb : packB l n = false := by
      rw [Bool.eq_false_iff]; intro h; exact hln (packB_len h)
    replace hpb := Lib.hid hpb
    replace hln := Lib.hid hln
    replace h6 := Lib.hid h6
    replace t6 := Lib.hid t6
    replace t4 := Lib.hid t4
    replace hz0 := Lib.hid hz0
    go_enter Try.func56, Try.ntmps56
    go_wp2_with (first
      | (refine wpList_alloc94 rfl rfl ?_)
      | (refine wpList_load94 rfl (.tmp 6) rfl (w.heap.size + 1) 0 (by rfl) _ h6.out hz0.out ?_)
      | (refine wpList_store94 rfl (.tmp 4) (.tmp 13) rfl w.heap.size 0 (by rfl) zeros (by rfl) t4.out hz0.out ?_; intro w5 hw5)
      | fail)
    have hr5 : w5.rangeAt w.heap.size 0 (ints zeros) := by rw [hw5.out]; exact World.rangeAt_setCells_same _ _ _ _ (by rw [len_ints, hz0.out]; exact t4.out)
    have hb5 : Below w.heap.size w w5 := by rw [hw5.out]; exact below_sets hb2 (Nat.le_refl _) _ _ (by simp; omega)
    have hl5 := run_loadVar_arr w5 _ 0 _ hr5 hz0.out
    refine bodyPost_ret (v := .tuple #[.agg (arr zeros), .bool false]) (res_cell_tmp (p := 4) (u := 5) (ty := 94) rfl rfl hl5) rfl ⟨⟨_, by rw [hpb.out], hz0.out, fun e => ?_⟩, hb5⟩
    rw [hpb.out] at e; cases e
end Go.Proofs.Ytfbeggdbjpmppaa
/- The program's Estimate. -/
namespace Go.Proofs.Ytfbeggdbjpmppaa
open Go.RowKit
/-- What a call leaves of the agent: the machine behind it, and nothing else of what was there has turned. -/
structure Left (w w' : World) (b : Nat) (s : St) (M : Option Addr) (cM : Nat) : Prop where
  at_ : AgAt w' b s M cM
  grown : w.grownBy w' (some b)
theorem Left.below {w w' : World} {b : Nat} {s : St} {M : Option Addr} {cM : Nat} (h : AgAt w b s M cM) (hb : b < w.heap.size) (hb' : Below w.heap.size w w') : Left w w' b s M cM :=
  ⟨h.same (hb'.block b hb), World.grownBy.but (grown_below hb') _⟩
set_option maxRecDepth 100000 in
set_option maxHeartbeats 8000000 in
theorem estimate_any (b : Nat) (s : St) (M : Option Addr) (cM : Nat) (A : Option Addr) (cA N : Nat) (l : List Int) (w : World) (h : AgAt w b s M cM) (hb : b < w.heap.size) (hI : Inv s) (hN : N ≤ w.heap.size) (hA : RowAt w N 1 eInt A l) (hl : l.length ≤ 9223372036854775807) :
    Calls Try.prog 37 #[.pointer (some ⟨b, 0, none⟩), .slice A l.length cA] w fun x w' => x = .returned (.tuple #[.bool (s.estimate l).1, .int .i64 (s.estimate l).2.1]) ∧ Left w w' b (s.estimate l).2.2 M cM := by
  have q0 := h.n
  have hn := hI.n2
  have hn' : (s.self : Int) < 16 := by have := hI.self; omega
  replace h := Lib.hid h
  cases hp0 : packB l s.n with
  | false =>
    have he : s.estimate l = (false, 60, s) := by unfold St.estimate; rw [if_pos (.inl hp0)]
    have hp := Lib.hid hp0
    replace he := Lib.hid he
    clear hp0
    go_enter Try.func37, Try.ntmps37
    go_wp2_with (first
      | (go_at_call 56; refine (pack_any A cA N s.n l w hN hn hA hl).mono ?_; rintro e w1 ⟨⟨m, rfl, hm, hmp⟩, hb1⟩; rw [hp.out]; have s1 := hb1.size; clear hmp; replace hm := Lib.hid hm)
      | (refine wpList_alloc94 rfl rfl ?_)
      | (refine wpList_store94 rfl (.tmp 6) (.tmp 15) rfl w1.heap.size 0 (by rfl) m (by rfl) (by have := there_new w1 (arr zeros) 94; rwa [size_arr, len_zeros] at this) hm.out ?_; intro w2 hw2)
      | fail)
    have hb2 : Below w.heap.size w w2 := by rw [hw2.out]; exact below_sets (hb1.alloc s1 _) s1 _ _ (by rw [World.size_alloc]; omega)
    have h2 := h.out.same (hb2.block b hb)
    have s2 : w2.heap.size = w1.heap.size + 1 := by rw [hw2.out, size_sets, World.size_alloc]
    clear q0
    replace h2 := Lib.hid h2
    replace hw2 := Lib.hid hw2
    go_quiet (fail)
    go_wp2
    go_ret2
    exact ⟨by rw [he.out]; rfl, by rw [he.out]; exact Left.below h.out hb (below_drewN hb2 _)⟩
  | true =>
    have hp := Lib.hid hp0
    go_enter Try.func37, Try.ntmps37
    go_wp2_with (first
      | (go_at_call 56; refine (pack_any A cA N s.n l w hN hn hA hl).mono ?_; rintro e w1 ⟨⟨m, rfl, hm, hmp⟩, hb1⟩; rw [hp.out]; have s1 := hb1.size; obtain rfl : m = pad l := hmp hp.out; clear hmp; replace hm := Lib.hid hm)
      | (refine wpList_alloc94 rfl rfl ?_)
      | (refine wpList_store94 rfl (.tmp 6) (.tmp 15) rfl w1.heap.size 0 (by rfl) (pad l) (by rfl) (by have := there_new w1 (arr zeros) 94; rwa [size_arr, len_zeros] at this) hm.out ?_; intro w2 hw2)
      | fail)
    have hb2 : Below w.heap.size w w2 := by rw [hw2.out]; exact below_sets (hb1.alloc s1 _) s1 _ _ (by rw [World.size_alloc]; omega)
    have h2 := h.out.same (hb2.block b hb)
    have s2 : w2.heap.size = w1.heap.size + 1 := by rw [hw2.out, size_sets, World.size_alloc]
    have hr2 : w2.rangeAt w1.heap.size 0 (ints (pad l)) := by rw [hw2.out]; exact World.rangeAt_setCells_same _ _ _ _ (by rw [len_ints, hm.out]; have := there_new w1 (arr zeros) 94; rwa [size_arr, len_zeros] at this)
    have k1 := h2.self
    have k2 := h2.inc
    have k3 := rangeAt_cell hr2 (nth_some (l := pad l) (k := s.self) (by rw [hm.out]; omega))
    rw [Nat.zero_add] at k3
    have r2 := Lib.hid h2.set
    have l2 := Lib.hid h2.l1
    have e1 := fun W : World => run_eql_arr W (pad l) s.own.set hm.out l2.out
    replace hr2 := Lib.hid hr2
    replace h2 := Lib.hid h2
    replace hw2 := Lib.hid hw2
    have hw1lt : w1.heap.size < w2.heap.size := by omega
    clear q0
    by_cases hm1 : nth (pad l) s.self = s.inc
    · have c1 : (nth (pad l) s.self != s.inc) = false := by simp [hm1]
      cases hq : (pad l == s.own.set) with
      | true =>
        have he : s.estimate l = (false, 0, s) := by
          unfold St.estimate
          rw [if_neg (by simp [hp0, hm1]), if_pos (by simpa using hq)]
        replace he := Lib.hid he
        replace hm1 := Lib.hid hm1
        clear hp0
        go_quiet (fail)
        go_wp2
        refine wp_region_quiet_lit (by kernel_rfl) (by kernel_rfl) ?_
        repeat (first
          | (refine wpQuiet_load94c (by rfl) (.tmp 6) rfl w1.heap.size 0 (by rfl) (pad l) (by rintro _ ⟨n, rfl⟩; exact hr2.out) hm.out ?_; go_simp)
          | (refine wpQuiet_load94c (by rfl) (.tmp 36) rfl b 4 (by rfl) s.own.set (by rintro _ ⟨n, rfl⟩; exact r2.out) l2.out ?_; go_simp)
          | go_big_quiet_step (fail))
        refine wpQuiet_nil ?_
        first | (intro _ hw'; obtain ⟨nq, hw''⟩ := hw'; subst hw'') | intro nq
        go_wp2
        go_ret2
        exact ⟨by rw [he.out]; rfl, by rw [he.out]; exact Left.below h.out hb (below_drewN hb2 _)⟩
      | false =>
        replace hm1 := Lib.hid hm1
        go_quiet (fail)
        go_wp2
        refine wp_region_quiet_lit (by kernel_rfl) (by kernel_rfl) ?_
        repeat (first
          | (refine wpQuiet_load94c (by rfl) (.tmp 6) rfl w1.heap.size 0 (by rfl) (pad l) (by rintro _ ⟨n, rfl⟩; exact hr2.out) hm.out ?_; go_simp)
          | (refine wpQuiet_load94c (by rfl) (.tmp 36) rfl b 4 (by rfl) s.own.set (by rintro _ ⟨n, rfl⟩; exact r2.out) l2.out ?_; go_simp)
          | go_big_quiet_step (fail))
        refine wpQuiet_nil ?_
        first | (intro _ hw'; obtain ⟨nq, hw''⟩ := hw'; subst hw'') | intro nq
        have hm1o := hm1
        have hpk := pack_ok hp.out
        have hbn := hI
        replace hI := Lib.hid hI
        cases hsp : s.spent with
        | true =>
          have he : s.estimate l = (false, 3, s) := by
            unfold St.estimate
            rw [if_neg (by simp [hp.out, hm1.out]), if_neg (by simpa using hq), if_pos hsp]
          replace he := Lib.hid he
          replace hpk := Lib.hid hpk
          clear hp0 hbn
          go_wp2_with (first
            | (refine wpList_load94 rfl (.tmp 6) rfl w1.heap.size 0 (by rfl) (pad l) hr2.out hm.out ?_)
            | (go_at_call 55; refine (begin_no b s M cM (pad l) _ (by exact h2.out.same rfl) (by show b < w2.heap.size; omega) hsp).mono ?_; rintro e w5 ⟨rfl, hb5⟩)
            | fail)
          go_ret2
          have hb5' : Below w.heap.size w w5 := (below_drewN hb2 _).trans (hb5.mono (by show w.heap.size ≤ w2.heap.size; omega))
          exact ⟨by rw [he.out]; rfl, by rw [he.out]; exact Left.below h.out hb hb5'⟩
        | false =>
          have he : s.estimate l = (true, 0, s.begin_ (pad l)) := by
            unfold St.estimate
            rw [if_neg (by simp [hp.out, hm1.out]), if_neg (by simpa using hq), if_neg (by rw [hsp]; decide)]
          replace he := Lib.hid he
          replace hpk := Lib.hid hpk
          clear hp0 hbn
          go_wp2_with (first
            | (refine wpList_load94 rfl (.tmp 6) rfl w1.heap.size 0 (by rfl) (pad l) hr2.out hm.out ?_)
            | (go_at_call 55; refine (begin_yes b s M cM (pad l) _ (by exact h2.out.same rfl) (by show b < w2.heap.size; omega) hI.out hsp hm.out).mono ?_; rintro e w5 ⟨rfl, h5, g5⟩)
            | fail)
          go_ret2
          exact ⟨by rw [he.out]; rfl, by rw [he.out]; exact ⟨h5, (World.grownBy.but (grown_below (below_drewN hb2 _)) _).trans g5⟩⟩
    · have c1 : (nth (pad l) s.self != s.inc) = true := by simp [hm1]
      have he : s.estimate l = (false, 60, s) := by unfold St.estimate; rw [if_pos (.inr hm1)]
      replace he := Lib.hid he
      replace hm1 := Lib.hid hm1
      clear hp0
      go_quiet (fail)
      go_wp2
      go_ret2
      exact ⟨by rw [he.out]; rfl, by rw [he.out]; exact Left.below h.out hb (below_drewN hb2 _)⟩
end Go.Proofs.Ytfbeggdbjpmppaa
/- A kept proposal by value: made, out of memory, into memory. -/
namespace Go.Proofs.Ytfbeggdbjpmppaa
open Go.RowKit
def wishA (t : Wish) : Array Value := (wishL t).toArray
def ltA (t : Lt) : Array Value := (ltL t).toArray
theorem size96 : (Try.prog.info? 96).map (·.size) = some 39 := by kernel_rfl
theorem size98 : (Try.prog.info? 98).map (·.size) = some 40 := by kernel_rfl
theorem zero96 : (Try.prog.info? 96).map (·.zero) = some (some (.agg (wishA Wish.zero))) := by kernel_rfl
theorem zero98 : (Try.prog.info? 98).map (·.zero) = some (some (.agg (ltA Lt.zero))) := by kernel_rfl
theorem one_wishL (t : Wish) : ∀ u ∈ wishL t, u.oneCell' = true := by
  intro u hu
  unfold wishL at hu
  rcases List.mem_append.1 hu with hu | hu
  · exact one_ints _ u hu
  · rcases List.mem_append.1 hu with hu | hu
    · exact one_ints _ u hu
    · simp at hu; rcases hu with rfl | rfl | rfl | rfl | rfl | rfl | rfl <;> rfl
theorem one_ltL (t : Lt) : ∀ u ∈ ltL t, u.oneCell' = true := by
  intro u hu
  unfold ltL at hu
  rcases List.mem_cons.1 hu with rfl | hu
  · rfl
  · exact one_wishL t.w u hu
theorem build96 (w : World) (c r t e l i k : Int) : (Instr.build 96 #[(2, .int .i64 c), (3, .int .i64 r), (4, .int .i64 t), (5, .agg #[.int .i64 e, .int .i64 l, .int .i64 i, .int .i64 k])]).run Try.prog w = .ok (.agg (wishA ⟨zeros, zeros, c, r, t, ⟨e, l, i, k⟩⟩)) w := by kernel_rfl
structure WLen (t : Wish) : Prop where
  l1 : t.set.length = 16
  l2 : t.vec.length = 16
section
variable {ops : Array Oper} {rest : List Oper} {op : Oper} {a : Act} {w : World} {Q : Exit → Act → World → Prop}
theorem wpList_build96 (hgd : op.guard = none) (x2 x3 x4 x5 : Operand) (ho : op.op = .build 96 #[(2, x2), (3, x3), (4, x4), (5, x5)]) (c r t e l i k : Int) (h2 : a.eval x2 = .int .i64 c) (h3 : a.eval x3 = .int .i64 r) (h4 : a.eval x4 = .int .i64 t)
    (h5 : a.eval x5 = .agg #[.int .i64 e, .int .i64 l, .int .i64 i, .int .i64 k]) (h : wpList Try.prog ops Q rest (a.put op.dst (.agg (wishA ⟨zeros, zeros, c, r, t, ⟨e, l, i, k⟩⟩))) w) : wpList Try.prog ops Q (op :: rest) a w := by
  refine wpList_plain hgd fun _ hK => ?_
  unfold Oper.wp execOp
  simp only [ho, List.map_toArray, List.map_cons, List.map_nil, h2, h3, h4, h5, Sem.run_bind, build96, Result.andThen_ok, Sem.run_pure]
  exact hK _ _ h
theorem wpList_alloc96 (hgd : op.guard = none) (ho : op.op = .alloc 96) (h : wpList Try.prog ops Q rest (a.put op.dst (.pointer (some ⟨w.heap.size, 0, none⟩))) (w.alloc (.cells (wishA Wish.zero) 96))) : wpList Try.prog ops Q (op :: rest) a w :=
  wpList_alloc_zero hgd 96 ho _ zero96 h
theorem wpList_alloc98 (hgd : op.guard = none) (ho : op.op = .alloc 98) (h : wpList Try.prog ops Q rest (a.put op.dst (.pointer (some ⟨w.heap.size, 0, none⟩))) (w.alloc (.cells (ltA Lt.zero) 98))) : wpList Try.prog ops Q (op :: rest) a w :=
  wpList_alloc_zero hgd 98 ho _ zero98 h
theorem wpList_load96 (hgd : op.guard = none) (x : Operand) (ho : op.op = .load 96 x) (b o : Nat) (hx : a.eval x = .pointer (some ⟨b, o, none⟩)) (t : Wish) (hc : w.rangeAt b o (wishL t)) (hl : WLen t)
    (h : wpList Try.prog ops Q rest (a.put op.dst (.agg (wishA t))) w) : wpList Try.prog ops Q (op :: rest) a w :=
  wpList_load_mid hgd 96 x ho b o hx (wishL t) _ hc Try.underlying96 rfl (by rw [size96, len_wishL hl.l1 hl.l2]) h
theorem wpList_load98 (hgd : op.guard = none) (x : Operand) (ho : op.op = .load 98 x) (b o : Nat) (hx : a.eval x = .pointer (some ⟨b, o, none⟩)) (t : Lt) (hc : w.rangeAt b o (ltL t)) (hl : WLen t.w)
    (h : wpList Try.prog ops Q rest (a.put op.dst (.agg (ltA t))) w) : wpList Try.prog ops Q (op :: rest) a w :=
  wpList_load_mid hgd 98 x ho b o hx (ltL t) _ hc Try.underlying98 rfl (by rw [size98, len_ltL hl.l1 hl.l2]) h
theorem wpList_store96 (hgd : op.guard = none) (x y : Operand) (ho : op.op = .store 96 x y) (b o : Nat) (hx : a.eval x = .pointer (some ⟨b, o, none⟩)) (t : Wish) (hy : a.eval y = .agg (wishA t)) (ht : w.there b o 39) (hl : WLen t)
    (h : ∀ w', Hid (w' = w.setCells b o (wishL t)) → wpList Try.prog ops Q rest (a.put op.dst undef) w') : wpList Try.prog ops Q (op :: rest) a w := by
  have hs : (wishA t).size = 39 := by unfold wishA; rw [List.size_toArray, len_wishL hl.l1 hl.l2]
  exact wpList_store_mid hgd 96 x y ho b o (wishA t) hx hy (by rw [hs]; exact ht) (by rw [size96, hs]) (all_oneCell_toArray (one_wishL t)) (h _ (Lib.hid rfl))
theorem wpList_store98 (hgd : op.guard = none) (x y : Operand) (ho : op.op = .store 98 x y) (b o : Nat) (hx : a.eval x = .pointer (some ⟨b, o, none⟩)) (t : Lt) (hy : a.eval y = .agg (ltA t)) (ht : w.there b o 40) (hl : WLen t.w)
    (h : ∀ w', Hid (w' = w.setCells b o (ltL t)) → wpList Try.prog ops Q rest (a.put op.dst undef) w') : wpList Try.prog ops Q (op :: rest) a w := by
  have hs : (ltA t).size = 40 := by unfold ltA; rw [List.size_toArray, len_ltL hl.l1 hl.l2]
  exact wpList_store_mid hgd 98 x y ho b o (ltA t) hx hy (by rw [hs]; exact ht) (by rw [size98, hs]) (all_oneCell_toArray (one_ltL t)) (h _ (Lib.hid rfl))
end
theorem run_loadVar_wish (w : World) (b o : Nat) (t : Wish) (hc : w.rangeAt b o (wishL t)) (hl : WLen t) : (loadVar 96 ⟨b, o, none⟩).run Try.prog w = .ok (.agg (wishA t)) w :=
  run_loadVar_mid w b o 96 (wishL t) _ hc Try.underlying96 rfl (by rw [size96, len_wishL hl.l1 hl.l2])
theorem wishA_list (t : Wish) : (wishA t).toList = wishL t := rfl
theorem ltA_list (t : Lt) : (ltA t).toList = ltL t := rfl
theorem range_new96 (w : World) (t : Wish) : (w.alloc (.cells (wishA t) 96)).rangeAt w.heap.size 0 (wishL t) := range_new w (wishA t) 96
theorem there_new96 (w : World) (t : Wish) (hl : WLen t) : (w.alloc (.cells (wishA t) 96)).there w.heap.size 0 39 := by
  have := there_new w (wishA t) 96
  rwa [show (wishA t).size = 39 by unfold wishA; rw [List.size_toArray, len_wishL hl.l1 hl.l2]] at this
theorem wlen_zero : WLen Wish.zero := ⟨len_zeros, len_zeros⟩
/-- A variable that holds a kept proposal. -/
structure WVar (w : World) (b : Nat) (t : Wish) : Prop where
  rng : w.rangeAt b 0 (wishL t)
  there : w.there b 0 39
  len : WLen t
theorem WVar.below {w w' : World} {b N : Nat} {t : Wish} (h : WVar w b t) (hb : Below N w w') (hN : b < N) : WVar w' b t := ⟨range_below h.rng hb hN, there_below h.there hb hN, h.len⟩
theorem WVar.new (w : World) (t : Wish) (hl : WLen t) : WVar (w.alloc (.cells (wishA t) 96)) w.heap.size t := ⟨range_new96 w t, there_new96 w t hl, hl⟩
theorem WVar.put {w : World} {b : Nat} {t u : Wish} (h : WVar w b t) (hl : WLen u) : WVar (w.setCells b 0 (wishL u)) b u := by
  have e := len_wishL hl.l1 hl.l2
  exact ⟨World.rangeAt_setCells_same w b 0 _ (by rw [e]; exact h.there), World.there_setCells h.there b _ _, hl⟩
theorem WVar.setSet {w : World} {b : Nat} {t : Wish} (h : WVar w b t) {x : List Int} (hx : x.length = 16) : WVar (w.setCells b 0 (ints x)) b { t with set := x } := by
  obtain ⟨h1, h2, h3, h4, h5, h6, h7, h8, h9⟩ := (wish_parts h.len.l1 h.len.l2).1 h.rng
  have e := len_ints x
  have e2 := len_ints t.vec
  have e3 := h.len.l2
  refine ⟨(wish_parts (t := { t with set := x }) hx h.len.l2).2 ⟨rng_in h.there (by omega), rng_out (cs := ints t.vec) h2 (by omega), ?_, ?_, ?_, ?_, ?_, ?_, ?_⟩, World.there_setCells h.there b _ _, ⟨hx, h.len.l2⟩⟩
  · exact cell_out h3 (by omega)
  · exact cell_out h4 (by omega)
  · exact cell_out h5 (by omega)
  · exact cell_out h6 (by omega)
  · exact cell_out h7 (by omega)
  · exact cell_out h8 (by omega)
  · exact cell_out h9 (by omega)
theorem WVar.setVec {w : World} {b : Nat} {t : Wish} (h : WVar w b t) {x : List Int} (hx : x.length = 16) : WVar (w.setCells b 16 (ints x)) b { t with vec := x } := by
  obtain ⟨h1, h2, h3, h4, h5, h6, h7, h8, h9⟩ := (wish_parts h.len.l1 h.len.l2).1 h.rng
  have e := len_ints x
  have e2 := len_ints t.set
  have e3 := h.len.l1
  refine ⟨(wish_parts (t := { t with vec := x }) h.len.l1 hx).2 ⟨rng_out (cs := ints t.set) h1 (by omega), rng_in h.there (by omega), ?_, ?_, ?_, ?_, ?_, ?_, ?_⟩, World.there_setCells h.there b _ _, ⟨h.len.l1, hx⟩⟩
  · exact cell_out h3 (by omega)
  · exact cell_out h4 (by omega)
  · exact cell_out h5 (by omega)
  · exact cell_out h6 (by omega)
  · exact cell_out h7 (by omega)
  · exact cell_out h8 (by omega)
  · exact cell_out h9 (by omega)
/-- A store into another variable. -/
theorem WVar.other {w : World} {b b' : Nat} {t : Wish} (h : WVar w b t) (hb : b ≠ b') (o : Nat) (vs : List Value) : WVar (w.setCells b' o vs) b t :=
  ⟨World.rangeAt_setCells_apart h.rng b' o vs (.inl hb), World.there_setCells h.there b' o vs, h.len⟩
end Go.Proofs.Ytfbeggdbjpmppaa
/- A region that draws its order: reads (guarded ones that are off, too), all taken first in the text's order, then stores and assigns, one behind the other; a read may come behind a store that does not touch it. -/
namespace Go.Proofs.Ytfbeggdbjpmppaa
open Go Go.RowKit
/-- Operations that hand back a value at once. -/
def plainB (o : Oper) : Bool := match o.op with
  | .move _ | .assign _ | .fieldAddr .. | .indexAddr .. | .load .. | .binOp .. | .unOp .. | .extract .. | .field .. | .index .. | .build .. | .pick .. | .nilCheck _ => true
  | _ => false
section
variable {P : Program} {ops : Array Oper} {md : Region.Mode} {S : World → Prop} {Q : Exit → Act → World → Prop}
theorem value_v {s : Sem Value} {w w' : World} {n : Next} (h : (do let r ← s; pure (Next.value r) : Sem Next).run P w = .ok n w') : ∃ u, n = .value u := by
  rw [Sem.run_bind] at h
  generalize s.run P w = r at h
  cases r with
  | ok v w1 => simp [Result.andThen] at h; exact ⟨_, h.1.symm⟩
  | halt x w1 => simp [Result.andThen] at h
theorem plain_value {o : Oper} {ev : Operand → Value} {w w' : World} {n : Next} (hp : plainB o = true) (h : (execOp ev o).run P w = .ok n w') : ∃ u, n = .value u := by
  unfold plainB at hp
  unfold execOp at h
  cases ho : o.op <;> rw [ho] at hp h <;> simp only [Bool.false_eq_true] at hp <;> dsimp only at h <;> try exact value_v h
  · simp at h; exact ⟨_, h.1.symm⟩
  · simp at h; exact ⟨_, h.1.symm⟩
  · rename_i c a b
    rw [Sem.run_bind] at h
    generalize (asBool (ev c)).run P w = r at h
    cases r with
    | ok v w1 => simp [Result.andThen] at h; exact ⟨_, h.1.symm⟩
    | halt x w1 => simp [Result.andThen] at h
  · split at h
    · simp [runtimePanic] at h
    · simp [runtimePanic] at h
    · simp [runtimePanic] at h
    · split at h
      · simp [runtimePanic] at h
      · rw [Sem.run_bind] at h
        generalize Sem.run P program w = r at h
        cases r with
        | halt x w1 => simp [Result.andThen] at h
        | ok p w1 =>
          simp only [Result.andThen_ok] at h
          rw [Sem.run_bind] at h
          generalize Sem.run P (nilAhead _ _ _ _) w1 = r at h
          cases r with
          | halt x w2 => simp [Result.andThen] at h
          | ok v w2 =>
            simp only [Result.andThen_ok] at h
            split at h
            · simp [unsupported, Sem.run_bind, Result.andThen] at h
            · simp [Sem.run_bind, Result.andThen] at h; exact ⟨_, h.1.symm⟩
      · simp at h; exact ⟨_, h.1.symm⟩
    · simp at h; exact ⟨_, h.1.symm⟩
theorem yields_of_quiet {o : Oper} {a : Act} {v : Value} (hp : plainB o = true) (hw : Region.wanted o (yielded ops a.tmps) = true) (h : ∀ w, S w → o.quietAt P a S w v) : YieldsIf P ops S o v a := by
  refine .inl ⟨hw, fun w hS => ?_⟩
  have h1 := h w hS
  unfold Oper.quietAt at h1
  cases hr : (execOp a.eval o).run P w with
  | halt x w' => rw [hr] at h1; exact absurd h1 (by simp [Oper.quietUpon])
  | ok n w' =>
    obtain ⟨u, rfl⟩ := plain_value hp hr
    rw [hr] at h1
    obtain ⟨rfl, rfl⟩ := h1
    rfl
/-- Which have come up when the first k have. -/
def Lk (s : Nat) : Nat → Array Bool
  | 0 => Array.replicate s false
  | k + 1 => (Lk s k).setIfInBounds k true
/-- The first n are plain and may be taken first one by one; each behind them waits for all ahead of it. -/
def heldB (md : Region.Mode) (ops : Array Oper) (n : Nat) : Bool :=
  Region.noSelect ops && decide (n ≤ ops.size) && (List.range n).all (fun k => Region.free md ops (Lk ops.size k) k && (Region.ready md ops (Lk ops.size k)).contains k) &&
    (List.range ops.size).all (fun k => decide (k < n) || decide (Region.ready md ops (Lk ops.size k) = [k])) && decide (Region.ready md ops (Lk ops.size ops.size) = [])
/-- The tail: one operation behind the other, S behind each. -/
def wpTail (P : Program) (ops : Array Oper) (Q : Exit → Act → World → Prop) (S : World → Prop) : List Oper → Act → World → Prop
  | [], a, w => Q .normal a w
  | o :: rest, a, w => if Region.wanted o (yielded ops a.tmps) then o.wp P a w (fun a' w' => S w' ∧ wpTail P ops Q S rest a' w') Q else S w ∧ wpTail P ops Q S rest (a.put o.dst undef) w
theorem tail_ok {n : Nat} (hT : ∀ k, n ≤ k → k < ops.size → Region.ready md ops (Lk ops.size k) = [k]) (hE : Region.ready md ops (Lk ops.size ops.size) = []) :
    ∀ (l : List Oper) (k : Nat) (a : Act) (w : World), n ≤ k → k + l.length = ops.size → (∀ j, j < l.length → ops[k + j]? = l[j]?) → wpTail P ops Q S l a w → wpAnyH P md ops Q S l.length (Lk ops.size k) a w
  | [], k, a, w, hk, hl, _, h => by
    have : k = ops.size := by simpa using hl
    subst this
    exact ⟨hE, h⟩
  | o :: rest, k, a, w, hk, hl, hj, h => by
    have hkl : k < ops.size := by simp at hl; omega
    have ho : ops[k]? = some o := by have := hj 0 (by simp); simpa using this
    refine ⟨fun h0 => (by rw [hT k hk hkl] at h0; cases h0), fun i hi => ?_⟩
    rw [hT k hk hkl] at hi
    obtain rfl : i = k := by simpa using hi
    have ih := fun a' w' => tail_ok hT hE rest (i + 1) a' w' (by omega) (by simp at hl; omega) (fun j hj' => by have := hj (j + 1) (by simp; omega); rw [show i + 1 + j = i + (j + 1) by omega]; simpa using this)
    unfold wpOp
    simp only [ho]
    unfold wpTail at h
    by_cases hw : Region.wanted o (yielded ops a.tmps) = true
    · rw [if_pos hw] at h ⊢
      exact .inl (Oper.wp_mono (fun a' w' h' => ⟨h'.1, ih a' w' h'.2⟩) h)
    · rw [if_neg hw] at h ⊢
      exact ⟨h.1, ih _ _ h.2⟩
/-- The head: each operation in the text's order; it is passed over, or plain and of one value in every world that meets S. -/
def wpHeldQ (P : Program) (ops : Array Oper) (S : World → Prop) (K : Act → Prop) : List Oper → Act → Prop
  | [], a => K a
  | o :: rest, a => if Region.wanted o (yielded ops a.tmps) then plainB o = true ∧ o.quiet P a S (wpHeldQ P ops S K rest) else wpHeldQ P ops S K rest (a.put o.dst undef)
theorem wpHeldQ_nil {K : Act → Prop} {a : Act} (h : K a) : wpHeldQ P ops S K [] a := h
theorem wpHeldQ_skip {K : Act → Prop} {a : Act} {o : Oper} {rest : List Oper} (hw : Region.wanted o (yielded ops a.tmps) = false) (h : wpHeldQ P ops S K rest (a.put o.dst undef)) : wpHeldQ P ops S K (o :: rest) a := by
  unfold wpHeldQ; rw [hw]; exact h
theorem wpHeldQ_want {K : Act → Prop} {a : Act} {o : Oper} {rest : List Oper} (hw : Region.wanted o (yielded ops a.tmps) = true) (hp : plainB o = true) (h : ∀ K' : Act → Prop, (∀ a, wpHeldQ P ops S K rest a → K' a) → o.quiet P a S K') : wpHeldQ P ops S K (o :: rest) a := by
  unfold wpHeldQ; rw [if_pos hw]; exact ⟨hp, h _ fun _ h => h⟩
/-- A row or a struct read. -/
theorem wpHeldQ_load {K : Act → Prop} {a : Act} {o : Oper} {rest : List Oper} (hw : Region.wanted o (yielded ops a.tmps) = true) (ty : TypeId) (x : Operand) (ho : o.op = .load ty x) (b off : Nat) (hx : a.eval x = .pointer (some ⟨b, off, none⟩)) (v : Value)
    (hv : ∀ w, S w → (loadVar ty ⟨b, off, none⟩).run P w = .ok v w) (h : wpHeldQ P ops S K rest (a.put o.dst v)) : wpHeldQ P ops S K (o :: rest) a := by
  unfold wpHeldQ
  rw [if_pos hw]
  refine ⟨by unfold plainB; rw [ho], v, fun w hS => ?_, h⟩
  unfold Oper.quietAt execOp
  simp only [ho, hx, Instr.loadAt, Instr.sureAddr, Sem.run_bind, Sem.run_pure, Result.andThen_ok, hv w hS]
  exact ⟨rfl, rfl⟩
theorem head_ok {n : Nat} (hsel : Region.noSelect ops = true) (hB : ∀ k, k < n → Region.free md ops (Lk ops.size k) k = true ∧ (Region.ready md ops (Lk ops.size k)).contains k = true)
    (hQ : ∀ c a d v w, Q (.panic c) (Act.put a d v) w → Q (.panic c) a w) {K : Act → Prop} {w : World} {fuel : Nat} (hS : S w) (hK : ∀ a', K a' → wpAnyH P md ops Q S fuel (Lk ops.size n) a' w) :
    ∀ (l : List Oper) (k : Nat) (a : Act), k + l.length = n → (∀ j, j < l.length → ops[k + j]? = l[j]?) → wpHeldQ P ops S K l a → wpAnyH P md ops Q S (l.length + fuel) (Lk ops.size k) a w
  | [], k, a, hl, _, h => by
    have : k = n := by simpa using hl
    subst this
    simpa using hK a h
  | o :: rest, k, a, hl, hj, h => by
    have hkn : k < n := by simp at hl; omega
    have ho : ops[k]? = some o := by have := hj 0 (by simp); simpa using this
    obtain ⟨b2, b3⟩ := hB k hkn
    have ih := fun a' => head_ok hsel hB hQ hS hK rest (k + 1) a' (by simp at hl; omega) (fun j hj' => by have := hj (j + 1) (by simp; omega); rw [show k + 1 + j = k + (j + 1) by omega]; simpa using this)
    have key : ∃ v, YieldsIf P ops S o v a ∧ wpHeldQ P ops S K rest (a.put o.dst v) := by
      unfold wpHeldQ at h
      by_cases hw : Region.wanted o (yielded ops a.tmps) = true
      · rw [if_pos hw] at h
        obtain ⟨hp, v, h1, h2⟩ := h
        exact ⟨v, yields_of_quiet hp hw h1, h2⟩
      · rw [if_neg hw] at h
        exact ⟨undef, .inr ⟨by simpa using hw, rfl⟩, h⟩
    obtain ⟨v, hy, hr⟩ := key
    have := wpAnyH_take (i := k) (fuel := rest.length + fuel) ho hsel b2 b3 (fun c a w => hQ c a _ _ w) hy hS (ih _ hr)
    rw [show (o :: rest).length + fuel = rest.length + fuel + 1 by simp; omega]
    exact this
theorem wp_region_lex {id : Nat} {a : Act} {w : World} {l : List Oper} (n : Nat) (S : World → Prop) (hm : P.follows .mixedOrders = true) (hB : heldB .any l.toArray n = true) (hQ : ∀ c a d v w, Q (.panic c) (Act.put a d v) w → Q (.panic c) a w) (hS : S w.drew)
    (h : wpHeldQ P l.toArray S (fun a' => wpTail P l.toArray Q S (l.drop n) a' w.drew) (l.take n) a) : (Code.region id l.toArray true).wp P Q a w := by
  unfold heldB at hB
  simp only [Bool.and_eq_true, decide_eq_true_eq, List.all_eq_true, List.mem_range, Bool.or_eq_true] at hB
  obtain ⟨⟨⟨⟨hsel, hn⟩, hh⟩, ht⟩, he⟩ := hB
  have hn' : n ≤ l.length := by simpa using hn
  have htl : (l.take n).length = n := by simp; omega
  have hdl : (l.drop n).length = l.toArray.size - n := by simp
  refine wp_region_held (S := S) hm ?_
  have hT : ∀ k, n ≤ k → k < l.toArray.size → Region.ready .any l.toArray (Lk l.toArray.size k) = [k] := fun k h1 h2 => by
    rcases ht k h2 with h3 | h3
    · omega
    · exact h3
  have H := head_ok (n := n) (fuel := (l.drop n).length) hsel (fun k hk => by exact hh k hk) hQ hS (fun a' ha' => tail_ok hT he (l.drop n) n a' _ (Nat.le_refl _) (by rw [hdl]; omega) (fun j hj => by simp [List.getElem?_drop]) ha') (l.take n) 0 a (by simpa using htl)
    (fun j hj => by have : j < n := by rw [htl] at hj; exact hj
                    simp [this]) h
  rw [htl, hdl, show n + (l.toArray.size - n) = l.toArray.size by omega] at H
  exact H
end
end Go.Proofs.Ytfbeggdbjpmppaa
