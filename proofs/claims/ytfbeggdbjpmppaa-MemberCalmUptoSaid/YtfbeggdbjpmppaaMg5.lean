/- Begin Pack Estimate Wish HeldLex Ord Aid, joined. -/
import Derived.Deep.RegionHeld3
import Derived.Outline
import Derived.BigRegion
import Derived.OrdersHeld
import Derived.Deep.Quiet
import Derived.StillTail
import Derived.RegionTactic
import Derived.Lib.Hide
import Derived.Test.YtfbeggdbjpmppaaMg4
set_option linter.unusedVariables false
set_option linter.unusedSimpArgs false
namespace Go.Proofs.Ytfbeggdbjpmppaa
open Go.RowKit
theorem vidEq_iff {a b : Vid} : vidEq a b = true ↔ a = b := by simp [vidEq]
set_option maxRecDepth 100000 in
set_option maxHeartbeats 4000000 in
theorem begin_no (b : Nat) (s : St) (M : Option Addr) (cM : Nat) (x : List Int) (w : World) (h : AgAt w b s M cM) (hb : b < w.heap.size) (hs : s.spent = true) :
    Calls Try.prog 55 #[.pointer (some ⟨b, 0, none⟩), .agg (arr x)] w fun e w' => e = .returned (.bool false) ∧ Below w.heap.size w w' := by
  have hbx := below_box1 w (arr x) 94
  have h1 := h.same (hbx.block b hb)
  have q1 := h1.cid
  have q2 := h1.rev
  have q3 := h1.ve
  replace h := Lib.hid h
  replace h1 := Lib.hid h1
  unfold St.spent at hs
  simp only [decide_eq_true_eq] at hs
  replace hbx := Lib.hid hbx
  by_cases e1 : s.own.cid = 4611686018427387904
  · have c1 : (s.own.cid == 4611686018427387904) = true := by simp [e1]
    replace e1 := Lib.hid e1
    replace hs := Lib.hid hs
    go_enter Try.func55, Try.ntmps55
    go_wp2
    go_ret
    exact ⟨rfl, hbx.out⟩
  · have c1 : (s.own.cid == 4611686018427387904) = false := by simp [e1]
    by_cases e2 : s.own.rev = 4611686018427387904
    · have c2 : (s.own.rev == 4611686018427387904) = true := by simp [e2]
      replace e1 := Lib.hid e1
      replace e2 := Lib.hid e2
      replace hs := Lib.hid hs
      go_enter Try.func55, Try.ntmps55
      go_wp2
      go_ret
      exact ⟨rfl, hbx.out⟩
    · have c2 : (s.own.rev == 4611686018427387904) = false := by simp [e2]
      have e3 : s.vid.e = 4611686018427387904 := by omega
      have c3 : (s.vid.e == 4611686018427387904) = true := by simp [e3]
      replace e1 := Lib.hid e1
      replace e2 := Lib.hid e2
      replace e3 := Lib.hid e3
      replace hs := Lib.hid hs
      go_enter Try.func55, Try.ntmps55
      go_wp2
      go_ret
      exact ⟨rfl, hbx.out⟩
theorem there_frozen {w : World} {b n k : Nat} (h : w.there b 0 n) (hk : k < n) : w.frozen? ⟨b, k, none⟩ = false := by
  have := (h k hk).2; rwa [Nat.zero_add] at this
theorem grown_drew (w : World) (row : Option Nat) : w.grownBy w.drew row := ⟨rfl, rfl, rfl, Nat.le_refl _, fun _ _ _ => rfl⟩
theorem size_drew1 (w : World) : w.drew.heap.size = w.heap.size := rfl
theorem AgAt.drew {w : World} {b : Nat} {s : St} {M : Option Addr} {cM : Nat} (h : AgAt w b s M cM) : AgAt w.drew b s M cM := h.same rfl
theorem grown_below {w w' : World} (h : Below w.heap.size w w') : w.grownBy w' none := ⟨h.os, h.tape, h.output, h.size, fun k hk _ => h.block k hk⟩
set_option maxRecDepth 100000 in
set_option maxHeartbeats 8000000 in
theorem begin_yes (b : Nat) (s : St) (M : Option Addr) (cM : Nat) (x : List Int) (w : World) (h : AgAt w b s M cM) (hb : b < w.heap.size) (hI : Inv s) (hs : s.spent = false) (hx : x.length = 16) :
    Calls Try.prog 55 #[.pointer (some ⟨b, 0, none⟩), .agg (arr x)] w fun e w' => e = .returned (.bool true) ∧ AgAt w' b (s.begin_ x) M cM ∧ w.grownBy w' (some b) := by
  have q1 := h.cid
  have q2 := h.rev
  have q3 := h.ve
  have f1 := there_frozen h.there (k := 36) (by omega)
  have f2 := there_frozen h.there (k := 37) (by omega)
  have hnv := run_neq_vid
  obtain ⟨i1, i2⟩ := hI.own.cid
  obtain ⟨i3, i4⟩ := hI.own.rev
  have hn := hI.n2
  have hsf := hI.self
  unfold St.spent at hs
  simp only [decide_eq_false_iff_not, not_or] at hs
  obtain ⟨e1, e2, e3⟩ := hs
  have c1 : (s.own.cid == 4611686018427387904) = false := by simp [e1]
  have c2 : (s.own.rev == 4611686018427387904) = false := by simp [e2]
  have c3 : (s.vid.e == 4611686018427387904) = false := by simp [e3]
  have h2' := (h.setCid (s.own.cid + 1)).setRev (s.own.rev + 1)
  obtain ⟨W2, hW2⟩ : ∃ W2, W2 = ((w.setCell ⟨b, 36, none⟩ (.int .i64 (s.own.cid + 1))).setCell ⟨b, 37, none⟩ (.int .i64 (s.own.rev + 1))).alloc (.cells (arr x) 94) := ⟨_, rfl⟩
  have hr2 : W2.rangeAt w.heap.size 0 (ints x) := by
    have := range_new ((w.setCell ⟨b, 36, none⟩ (.int .i64 (s.own.cid + 1))).setCell ⟨b, 37, none⟩ (.int .i64 (s.own.rev + 1))) (arr x) 94
    rw [← hW2, arr_list, World.size_setCell, World.size_setCell] at this; exact this
  have g2 : w.grownBy W2 (some b) := by rw [hW2]; exact ((grown_cell w b 36 _).trans (grown_cell _ b 37 _)).trans (World.grownBy_alloc _ _ (some b))
  have s2 : W2.heap.size = w.heap.size + 1 := by rw [hW2, World.size_alloc, World.size_setCell, World.size_setCell]
  have h2 : AgAt W2 b _ M cM := h2'.same (by rw [hW2]; exact (heap_alloc_old _ _ (by rw [World.size_setCell, World.size_setCell]; exact hb)))
  have t2 := World.there.at h2.there (o := 4) (m := 16) (by omega)
  clear h2'
  replace hW2 := Lib.hid hW2
  replace hr2 := Lib.hid hr2
  replace h2 := Lib.hid h2
  replace t2 := Lib.hid t2
  replace g2 := Lib.hid g2
  replace e1 := Lib.hid e1
  replace e2 := Lib.hid e2
  replace e3 := Lib.hid e3
  replace h := Lib.hid h
  by_cases hz : s.vid = Vid.zero
  · have hv : vidEq ⟨s.vid.e, s.vid.l, s.vid.i, s.vid.c⟩ ⟨0, 0, 0, 0⟩ = true := vidEq_iff.2 (by rw [show (⟨s.vid.e, s.vid.l, s.vid.i, s.vid.c⟩ : Vid) = s.vid from rfl, hz])
    have hz' := Lib.hid hz
    clear hz
    go_enter Try.func55, Try.ntmps55
    go_wp2_with (first
      | (rw [← hW2.out]; refine wpList_load94 rfl (.tmp 3) rfl w.heap.size 0 (by rfl) x hr2.out hx ?_)
      | (refine wpList_store94 rfl (.tmp 50) (.tmp 47) rfl b 4 (by rfl) x (by rfl) t2.out hx ?_; intro W6 hW6; have h5 := Lib.hid (h2.out.setSet x hx); rw [← hW6.out] at h5; have q4 := h5.out.ve; have q5 := h5.out.vl; have q6 := h5.out.vi; have q7 := h5.out.vc; clear q1 q2 q3 f1 f2
         have h6 : Hid (AgAt W6 b (s.beg1 x) M cM) := (by
           have : s.beg1 x = { s with own := { s.own with cid := s.own.cid + 1, rev := s.own.rev + 1, set := x } } := (by unfold St.beg1; rw [if_pos hz'.out, if_pos hz'.out])
           show AgAt W6 b (s.beg1 x) M cM
           rw [this]; exact h5.out)
         have s6 : W6.heap.size = w.heap.size + 1 := (by rw [hW6.out, size_sets]; exact s2)
         have g6 : Hid (w.grownBy W6 (some b)) := (by show w.grownBy W6 (some b); rw [hW6.out]; exact g2.out.trans (grown_sets b _ _ _)))
      | (go_at_call 53; refine (heard_any b (s.beg1 x) M cM W6 h6.out (by omega) hn hsf).mono ?_; rintro e w7 ⟨rfl, hb7⟩; have h7 := h6.out.same (hb7.block b (by omega)); have t7 := World.there.at h7.there (o := 20) (m := 16) (by omega); replace h7 := Lib.hid h7; replace t7 := Lib.hid t7)
      | (refine wpList_store94 rfl (.tmp 82) (.tmp 79) rfl b 20 (by rfl) _ (by rfl) t7.out (len_heard _) ?_; intro w8 hw8; have h8 := Lib.hid (h7.out.setVec _ (len_heard (s.beg1 x))); rw [← hw8.out] at h8; have o1 := h8.out.opn; have o2 := there_frozen h8.out.there (k := 3) (by omega))
      | fail)
    have h9 : AgAt (w8.setCell ⟨b, 3, none⟩ (.bool true)) b (s.begin_ x) M cM := h8.out.setOpn true
    have g9 : w.grownBy (w8.setCell ⟨b, 3, none⟩ (.bool true)) (some b) := by
      refine ((g6.out.trans (World.grownBy.but (grown_below hb7) _)).trans ?_).trans (grown_cell _ b 3 _)
      rw [hw8.out]; exact grown_sets b _ _ _
    go_ret
    exact ⟨rfl, h9, g9⟩
  · have hv : vidEq ⟨s.vid.e, s.vid.l, s.vid.i, s.vid.c⟩ ⟨0, 0, 0, 0⟩ = false := by rw [← Bool.not_eq_true, vidEq_iff]; exact hz
    have hz' := Lib.hid hz
    clear hz
    go_enter Try.func55, Try.ntmps55
    go_wp2_with (first
      | (rw [← hW2.out]; refine wpList_load94 rfl (.tmp 3) rfl w.heap.size 0 (by rfl) x hr2.out hx ?_)
      | (refine wpList_store94 rfl (.tmp 50) (.tmp 47) rfl b 4 (by rfl) x (by rfl) t2.out hx ?_; intro w5 hw5; have h5 := Lib.hid (h2.out.setSet x hx); rw [← hw5.out] at h5; have q4 := h5.out.ve; have q5 := h5.out.vl; have q6 := h5.out.vi; have q7 := h5.out.vc; clear q1 q2 q3 f1 f2; have k1 := h5.out.top; have k2 := h5.out.pe; have k3 := h5.out.pl; have k4 := h5.out.pi; have k5 := h5.out.pc; have f1 := there_frozen h5.out.there (k := 38) (by omega); have f2 := there_frozen h5.out.there (k := 39) (by omega); have f3 := there_frozen h5.out.there (k := 40) (by omega); have f4 := there_frozen h5.out.there (k := 41) (by omega); have f5 := there_frozen h5.out.there (k := 42) (by omega))
      | fail)
    go_region
    obtain ⟨W6, hW6⟩ : ∃ W6, W6 = (((((w5.setCell ⟨b, 38, none⟩ (.int .i64 s.vid.e)).setCell ⟨b, 39, none⟩ (.int .i64 s.vid.e)).setCell ⟨b, 40, none⟩ (.int .i64 s.vid.l)).setCell ⟨b, 41, none⟩ (.int .i64 s.vid.i)).setCell ⟨b, 42, none⟩ (.int .i64 s.vid.c)).drew := ⟨_, rfl⟩
    rw [← hW6]
    have h6 : AgAt W6 b (s.beg1 x) M cM := by
      have : s.beg1 x = { s with own := { s.own with cid := s.own.cid + 1, rev := s.own.rev + 1, set := x, top := s.vid.e, prev := s.vid } } := by unfold St.beg1; rw [if_neg hz'.out, if_neg hz'.out]
      rw [hW6, this]
      exact AgAt.drew ((h5.out.setTop s.vid.e).setPrev s.vid)
    have s6 : W6.heap.size = w.heap.size + 1 := by
      rw [hW6, hw5.out, size_drew1]
      simp only [World.size_setCell, size_sets]; exact s2
    have g6 : w.grownBy W6 (some b) := by
      rw [hW6, hw5.out]
      refine World.grownBy.trans ?_ (grown_drew _ _)
      exact (((((g2.out.trans (grown_sets b _ _ _)).trans (grown_cell _ b 38 _)).trans (grown_cell _ b 39 _)).trans (grown_cell _ b 40 _)).trans (grown_cell _ b 41 _)).trans (grown_cell _ b 42 _)
    replace h6 := Lib.hid h6
    replace g6 := Lib.hid g6
    replace hW6 := Lib.hid hW6
    clear q4 q5 q6 q7 k1 k2 k3 k4 k5 f1 f2 f3 f4 f5
    go_wp2_with (first
      | (go_at_call 53; refine (heard_any b (s.beg1 x) M cM W6 h6.out (by omega) hn hsf).mono ?_; rintro e w7 ⟨rfl, hb7⟩; have h7 := h6.out.same (hb7.block b (by omega)); have t7 := World.there.at h7.there (o := 20) (m := 16) (by omega); replace h7 := Lib.hid h7; replace t7 := Lib.hid t7)
      | (refine wpList_store94 rfl (.tmp 82) (.tmp 79) rfl b 20 (by rfl) _ (by rfl) t7.out (len_heard _) ?_; intro w8 hw8; have h8 := Lib.hid (h7.out.setVec _ (len_heard (s.beg1 x))); rw [← hw8.out] at h8; have o1 := h8.out.opn; have o2 := there_frozen h8.out.there (k := 3) (by omega))
      | fail)
    have h9 : AgAt (w8.setCell ⟨b, 3, none⟩ (.bool true)) b (s.begin_ x) M cM := h8.out.setOpn true
    have g9 : w.grownBy (w8.setCell ⟨b, 3, none⟩ (.bool true)) (some b) := by
      refine ((g6.out.trans (World.grownBy.but (grown_below hb7) _)).trans ?_).trans (grown_cell _ b 3 _)
      rw [hw8.out]; exact grown_sets b _ _ _
    go_ret
    exact ⟨rfl, h9, g9⟩
end Go.Proofs.Ytfbeggdbjpmppaa
namespace Go.Proofs.Ytfbeggdbjpmppaa
open Go.RowKit
set_option maxHeartbeats 2000000 in
theorem pack_any (A : Option Addr) (cA N n : Nat) (l : List Int) (w : World) (hN : N ≤ w.heap.size) (hn : n ≤ 16) (hA : RowAt w N 1 eInt A l) (hl : l.length ≤ 9223372036854775807) :
    Calls Try.prog 56 #[.slice A l.length cA, .int .i64 n] w fun x w' => (∃ m, x = .returned (.tuple #[.agg (arr m), .bool (packB l n)]) ∧ m.length = 16 ∧ (packB l n = true → m = pad l)) ∧ Below w.heap.size w w' := by
  have hz0 := len_zeros
  have hb2 : Below w.heap.size w ((w.alloc (.cells (arr zeros) 94)).alloc (.cells (arr zeros) 94)) := below_box2 _ _ _ _ _
  have h6 := range_new (w.alloc (.cells (arr zeros) 94)) (arr zeros) 94
  have t6 := there_new (w.alloc (.cells (arr zeros) 94)) (arr zeros) 94
  have t4 := World.there_alloc (there_new w (arr zeros) 94) (.cells (arr zeros) 94)
  rw [World.size_alloc] at h6 t6
  rw [arr_list] at h6
  rw [size_arr, hz0] at t6 t4
  by_cases hln : l.length = n
  · have hlnI : ((l.length : Int) != n) = false := by simp [hln]
    have hl16 : l.length ≤ 16 := by omega
    replace hln := Lib.hid hln
    replace h6 := Lib.hid h6
    replace t6 := Lib.hid t6
    replace t4 := Lib.hid t4
    replace hz0 := Lib.hid hz0
    go_enter Try.func56, Try.ntmps56
    go_wp2_with (first | (refine wpList_alloc94 rfl rfl ?_) | fail)
    go_loopw [16] (fun k wr => ∃ i : Nat, k = .int .i64 i ∧ i ≤ l.length ∧ Hid (∀ v ∈ l.take i, okB v = true) ∧ wr.rangeAt (w.heap.size + 1) 0 (ints (pad (l.take i))) ∧ wr.there (w.heap.size + 1) 0 16 ∧ wr.there w.heap.size 0 16 ∧ Below w.heap.size w wr ∧ w.heap.size + 2 ≤ wr.heap.size) (fun k _ => l.length - (intOf k).toNat)
    case atStart => exact ⟨0, rfl, by omega, (by intro v hv; simp at hv), by simpa [pad, zeros] using h6.out, t6.out, t4.out, hb2, by simp⟩
    case round =>
      obtain ⟨i, rfl, hi, hok, hr, ht6, ht4, hb, hsz⟩ := hrel
      replace hr := Lib.hid hr
      replace ht6 := Lib.hid ht6
      replace ht4 := Lib.hid ht4
      have hlp : (pad (l.take i)).length = 16 := len_pad (Nat.le_trans (List.length_take_le _ _) (by omega))
      replace hlp := Lib.hid hlp
      have hload : ∀ w' : World, w'.rangeAt w.heap.size 0 (ints (pad (l.take i))) → (loadVar 94 ⟨w.heap.size, 0, none⟩).run Try.prog w' = .ok (.agg (arr (pad (l.take i)))) w' := fun w' h => run_loadVar_arr w' _ 0 _ h hlp.out
      replace hload := Lib.hid hload
      by_cases hlt : i < l.length
      · obtain ⟨g, o, v, rfl, hg, hv, hc⟩ := (hA.below hb hN).int hlt
        by_cases hbad : v < 0 ∨ 4611686018427387904 < v
        · have hpb : packB l n = false := by
            rw [Bool.eq_false_iff]; intro h
            unfold packB at h
            simp only [Bool.and_eq_true, List.all_eq_true] at h
            have := h.2 v (List.mem_of_getElem? hv.out)
            simp [okB] at this; omega
          replace hpb := Lib.hid hpb
          by_cases hneg : v < 0
          all_goals first | (have hbig : 4611686018427387904 < v := (by omega)) | skip
          all_goals
            clear hbad
            go_wp2_with (first
              | (refine wpList_load94 rfl (.tmp 6) rfl (w.heap.size + 1) 0 (by rfl) _ hr.out hlp.out ?_)
              | (refine wpList_store94 rfl (.tmp 4) (.tmp 27) rfl w.heap.size 0 (by rfl) (pad (l.take i)) (by rfl) ht4.out hlp.out ?_; intro w5 hw5)
              | fail)
            have hr5 : w5.rangeAt w.heap.size 0 (ints (pad (l.take i))) := by rw [hw5.out]; exact World.rangeAt_setCells_same _ _ _ _ (by rw [len_ints, hlp.out]; exact ht4.out)
            have hb5 : Below w.heap.size w w5 := by rw [hw5.out]; exact below_sets hb (Nat.le_refl _) _ _ (by omega)
            have hl5 := hload.out w5 hr5
            refine bodyPost_ret (v := .tuple #[.agg (arr (pad (l.take i))), .bool false]) (res_cell_tmp (p := 4) (u := 5) (ty := 94) rfl rfl hl5) rfl ⟨⟨_, by rw [hpb.out], hlp.out, fun e => ?_⟩, hb5⟩
            rw [hpb.out] at e; cases e
        · have hv1 : 0 ≤ v := by omega
          have hv2 : v ≤ 4611686018427387904 := by omega
          have hi16 : (i : Int) < 16 := by omega
          obtain ⟨u, hu⟩ : ∃ u, (pad (l.take i))[i]? = some u := ⟨_, List.getElem?_eq_getElem (by rw [hlp.out]; omega)⟩
          have hci := rangeAt_cell hr.out hu
          have hfi := (ht6.out i (by omega)).2
          rw [Nat.zero_add] at hci hfi
          have hok' : Hid (∀ x ∈ l.take (i + 1), okB x = true) := fun x hx => by
            rw [List.take_add_one, hv.out] at hx
            rcases List.mem_append.1 hx with h | h
            · exact hok.out x h
            · obtain rfl : x = v := by simpa using h
              simp [okB]; omega
          have hr' : (wr.setCell ⟨w.heap.size + 1, i, none⟩ (.int .i64 v)).rangeAt (w.heap.size + 1) 0 (ints (pad (l.take (i + 1)))) := by
            have := range_set hr.out (k := i) (by rw [hlp.out]; omega) v
            rw [Nat.zero_add, pad_take_set (by omega) hv.out] at this
            exact this
          have ht6' := there_set ht6.out ⟨w.heap.size + 1, i, none⟩ (.int .i64 v)
          have ht4' := there_set ht4.out ⟨w.heap.size + 1, i, none⟩ (.int .i64 v)
          replace hr' := Lib.hid hr'
          replace ht6' := Lib.hid ht6'
          replace ht4' := Lib.hid ht4'
          replace hu := Lib.hid hu
          have hb' := hb.setCell (p := ⟨w.heap.size + 1, i, none⟩) (by show w.heap.size ≤ w.heap.size + 1; omega) (.int .i64 v)
          replace hb' := Lib.hid hb'
          clear hbad
          go_wp2
          go_roundw
          case rel => go_light; exact ⟨i + 1, by go_num, by omega, hok', hr'.out, ht6'.out, ht4'.out, hb'.out, by rw [World.size_setCell]; exact hsz⟩
          case measure => go_light; simp [intOf]; omega
      · obtain rfl : i = l.length := by omega
        have hpb : packB l n = true := by
          unfold packB
          simp only [Bool.and_eq_true, decide_eq_true_eq, List.all_eq_true]
          refine ⟨hln.out, fun v hv => hok.out v (by rw [List.take_length]; exact hv)⟩
        replace hpb := Lib.hid hpb
        go_wp2_with (first
          | (refine wpList_load94 rfl (.tmp 6) rfl (w.heap.size + 1) 0 (by rfl) _ hr.out hlp.out ?_)
          | (refine wpList_store94 rfl (.tmp 4) (.tmp 32) rfl w.heap.size 0 (by rfl) (pad (l.take l.length)) (by rfl) ht4.out hlp.out ?_; intro w5 hw5)
          | fail)
        have hr5 : w5.rangeAt w.heap.size 0 (ints (pad (l.take l.length))) := by rw [hw5.out]; exact World.rangeAt_setCells_same _ _ _ _ (by rw [len_ints, hlp.out]; exact ht4.out)
        have hb5 : Below w.heap.size w w5 := by rw [hw5.out]; exact below_sets hb (Nat.le_refl _) _ _ (by omega)
        have hl5 := hload.out w5 hr5
        refine bodyPost_ret (v := .tuple #[.agg (arr (pad (l.take l.length))), .bool true]) (res_cell_tmp (p := 4) (u := 5) (ty := 94) rfl rfl hl5) rfl ⟨⟨_, by rw [hpb.out], hlp.out, fun _ => by rw [List.take_length]⟩, hb5⟩
  · have hlnI : ((l.length : Int) != n) = true := by simp; omega
    have hpb : packB l n = false := by
      rw [Bool.eq_false_iff]; intro h; exact hln (packB_len h)
    replace hpb := Lib.hid hpb
    replace hln := Lib.hid hln
    replace h6 := Lib.hid h6
    replace t6 := Lib.hid t6
    replace t4 := Lib.hid t4
    replace hz0 := Lib.hid hz0
    go_enter Try.func56, Try.ntmps56
    go_wp2_with (first
      | (refine wpList_alloc94 rfl rfl ?_)
      | (refine wpList_load94 rfl (.tmp 6) rfl (w.heap.size + 1) 0 (by rfl) _ h6.out hz0.out ?_)
      | (refine wpList_store94 rfl (.tmp 4) (.tmp 13) rfl w.heap.size 0 (by rfl) zeros (by rfl) t4.out hz0.out ?_; intro w5 hw5)
      | fail)
    have hr5 : w5.rangeAt w.heap.size 0 (ints zeros) := by rw [hw5.out]; exact World.rangeAt_setCells_same _ _ _ _ (by rw [len_ints, hz0.out]; exact t4.out)
    have hb5 : Below w.heap.size w w5 := by rw [hw5.out]; exact below_sets hb2 (Nat.le_refl _) _ _ (by simp; omega)
    have hl5 := run_loadVar_arr w5 _ 0 _ hr5 hz0.out
    refine bodyPost_ret (v := .tuple #[.agg (arr zeros), .bool false]) (res_cell_tmp (p := 4) (u := 5) (ty := 94) rfl rfl hl5) rfl ⟨⟨_, by rw [hpb.out], hz0.out, fun e => ?_⟩, hb5⟩
    rw [hpb.out] at e; cases e
end Go.Proofs.Ytfbeggdbjpmppaa
namespace Go.Proofs.Ytfbeggdbjpmppaa
open Go.RowKit
structure Left (w w' : World) (b : Nat) (s : St) (M : Option Addr) (cM : Nat) : Prop where
  at_ : AgAt w' b s M cM
  grown : w.grownBy w' (some b)
theorem Left.below {w w' : World} {b : Nat} {s : St} {M : Option Addr} {cM : Nat} (h : AgAt w b s M cM) (hb : b < w.heap.size) (hb' : Below w.heap.size w w') : Left w w' b s M cM :=
  ⟨h.same (hb'.block b hb), World.grownBy.but (grown_below hb') _⟩
set_option maxRecDepth 100000 in
set_option maxHeartbeats 8000000 in
theorem estimate_any (b : Nat) (s : St) (M : Option Addr) (cM : Nat) (A : Option Addr) (cA N : Nat) (l : List Int) (w : World) (h : AgAt w b s M cM) (hb : b < w.heap.size) (hI : Inv s) (hN : N ≤ w.heap.size) (hA : RowAt w N 1 eInt A l) (hl : l.length ≤ 9223372036854775807) :
    Calls Try.prog 37 #[.pointer (some ⟨b, 0, none⟩), .slice A l.length cA] w fun x w' => x = .returned (.tuple #[.bool (s.estimate l).1, .int .i64 (s.estimate l).2.1]) ∧ Left w w' b (s.estimate l).2.2 M cM := by
  have q0 := h.n
  have hn := hI.n2
  have hn' : (s.self : Int) < 16 := by have := hI.self; omega
  replace h := Lib.hid h
  cases hp0 : packB l s.n with
  | false =>
    have he : s.estimate l = (false, 60, s) := by unfold St.estimate; rw [if_pos (.inl hp0)]
    have hp := Lib.hid hp0
    replace he := Lib.hid he
    clear hp0
    go_enter Try.func37, Try.ntmps37
    go_wp2_with (first
      | (go_at_call 56; refine (pack_any A cA N s.n l w hN hn hA hl).mono ?_; rintro e w1 ⟨⟨m, rfl, hm, hmp⟩, hb1⟩; rw [hp.out]; have s1 := hb1.size; clear hmp; replace hm := Lib.hid hm)
      | (refine wpList_alloc94 rfl rfl ?_)
      | (refine wpList_store94 rfl (.tmp 6) (.tmp 15) rfl w1.heap.size 0 (by rfl) m (by rfl) (by have := there_new w1 (arr zeros) 94; rwa [size_arr, len_zeros] at this) hm.out ?_; intro w2 hw2)
      | fail)
    have hb2 : Below w.heap.size w w2 := by rw [hw2.out]; exact below_sets (hb1.alloc s1 _) s1 _ _ (by rw [World.size_alloc]; omega)
    have h2 := h.out.same (hb2.block b hb)
    have s2 : w2.heap.size = w1.heap.size + 1 := by rw [hw2.out, size_sets, World.size_alloc]
    clear q0
    replace h2 := Lib.hid h2
    replace hw2 := Lib.hid hw2
    go_quiet (fail)
    go_wp2
    go_ret2
    exact ⟨by rw [he.out]; rfl, by rw [he.out]; exact Left.below h.out hb (below_drewN hb2 _)⟩
  | true =>
    have hp := Lib.hid hp0
    go_enter Try.func37, Try.ntmps37
    go_wp2_with (first
      | (go_at_call 56; refine (pack_any A cA N s.n l w hN hn hA hl).mono ?_; rintro e w1 ⟨⟨m, rfl, hm, hmp⟩, hb1⟩; rw [hp.out]; have s1 := hb1.size; obtain rfl : m = pad l := hmp hp.out; clear hmp; replace hm := Lib.hid hm)
      | (refine wpList_alloc94 rfl rfl ?_)
      | (refine wpList_store94 rfl (.tmp 6) (.tmp 15) rfl w1.heap.size 0 (by rfl) (pad l) (by rfl) (by have := there_new w1 (arr zeros) 94; rwa [size_arr, len_zeros] at this) hm.out ?_; intro w2 hw2)
      | fail)
    have hb2 : Below w.heap.size w w2 := by rw [hw2.out]; exact below_sets (hb1.alloc s1 _) s1 _ _ (by rw [World.size_alloc]; omega)
    have h2 := h.out.same (hb2.block b hb)
    have s2 : w2.heap.size = w1.heap.size + 1 := by rw [hw2.out, size_sets, World.size_alloc]
    have hr2 : w2.rangeAt w1.heap.size 0 (ints (pad l)) := by rw [hw2.out]; exact World.rangeAt_setCells_same _ _ _ _ (by rw [len_ints, hm.out]; have := there_new w1 (arr zeros) 94; rwa [size_arr, len_zeros] at this)
    have k1 := h2.self
    have k2 := h2.inc
    have k3 := rangeAt_cell hr2 (nth_some (l := pad l) (k := s.self) (by rw [hm.out]; omega))
    rw [Nat.zero_add] at k3
    have r2 := Lib.hid h2.set
    have l2 := Lib.hid h2.l1
    have e1 := fun W : World => run_eql_arr W (pad l) s.own.set hm.out l2.out
    replace hr2 := Lib.hid hr2
    replace h2 := Lib.hid h2
    replace hw2 := Lib.hid hw2
    have hw1lt : w1.heap.size < w2.heap.size := by omega
    clear q0
    by_cases hm1 : nth (pad l) s.self = s.inc
    · have c1 : (nth (pad l) s.self != s.inc) = false := by simp [hm1]
      cases hq : (pad l == s.own.set) with
      | true =>
        have he : s.estimate l = (false, 0, s) := by
          unfold St.estimate
          rw [if_neg (by simp [hp0, hm1]), if_pos (by simpa using hq)]
        replace he := Lib.hid he
        replace hm1 := Lib.hid hm1
        clear hp0
        go_quiet (fail)
        go_wp2
        refine wp_region_quiet_lit (by kernel_rfl) (by kernel_rfl) ?_
        repeat (first
          | (refine wpQuiet_load94c (by rfl) (.tmp 6) rfl w1.heap.size 0 (by rfl) (pad l) (by rintro _ ⟨n, rfl⟩; exact hr2.out) hm.out ?_; go_simp)
          | (refine wpQuiet_load94c (by rfl) (.tmp 36) rfl b 4 (by rfl) s.own.set (by rintro _ ⟨n, rfl⟩; exact r2.out) l2.out ?_; go_simp)
          | go_big_quiet_step (fail))
        refine wpQuiet_nil ?_
        first | (intro _ hw'; obtain ⟨nq, hw''⟩ := hw'; subst hw'') | intro nq
        go_wp2
        go_ret2
        exact ⟨by rw [he.out]; rfl, by rw [he.out]; exact Left.below h.out hb (below_drewN hb2 _)⟩
      | false =>
        replace hm1 := Lib.hid hm1
        go_quiet (fail)
        go_wp2
        refine wp_region_quiet_lit (by kernel_rfl) (by kernel_rfl) ?_
        repeat (first
          | (refine wpQuiet_load94c (by rfl) (.tmp 6) rfl w1.heap.size 0 (by rfl) (pad l) (by rintro _ ⟨n, rfl⟩; exact hr2.out) hm.out ?_; go_simp)
          | (refine wpQuiet_load94c (by rfl) (.tmp 36) rfl b 4 (by rfl) s.own.set (by rintro _ ⟨n, rfl⟩; exact r2.out) l2.out ?_; go_simp)
          | go_big_quiet_step (fail))
        refine wpQuiet_nil ?_
        first | (intro _ hw'; obtain ⟨nq, hw''⟩ := hw'; subst hw'') | intro nq
        have hm1o := hm1
        have hpk := pack_ok hp.out
        have hbn := hI
        replace hI := Lib.hid hI
        cases hsp : s.spent with
        | true =>
          have he : s.estimate l = (false, 3, s) := by
            unfold St.estimate
            rw [if_neg (by simp [hp.out, hm1.out]), if_neg (by simpa using hq), if_pos hsp]
          replace he := Lib.hid he
          replace hpk := Lib.hid hpk
          clear hp0 hbn
          go_wp2_with (first
            | (refine wpList_load94 rfl (.tmp 6) rfl w1.heap.size 0 (by rfl) (pad l) hr2.out hm.out ?_)
            | (go_at_call 55; refine (begin_no b s M cM (pad l) _ (by exact h2.out.same rfl) (by show b < w2.heap.size; omega) hsp).mono ?_; rintro e w5 ⟨rfl, hb5⟩)
            | fail)
          go_ret2
          have hb5' : Below w.heap.size w w5 := (below_drewN hb2 _).trans (hb5.mono (by show w.heap.size ≤ w2.heap.size; omega))
          exact ⟨by rw [he.out]; rfl, by rw [he.out]; exact Left.below h.out hb hb5'⟩
        | false =>
          have he : s.estimate l = (true, 0, s.begin_ (pad l)) := by
            unfold St.estimate
            rw [if_neg (by simp [hp.out, hm1.out]), if_neg (by simpa using hq), if_neg (by rw [hsp]; decide)]
          replace he := Lib.hid he
          replace hpk := Lib.hid hpk
          clear hp0 hbn
          go_wp2_with (first
            | (refine wpList_load94 rfl (.tmp 6) rfl w1.heap.size 0 (by rfl) (pad l) hr2.out hm.out ?_)
            | (go_at_call 55; refine (begin_yes b s M cM (pad l) _ (by exact h2.out.same rfl) (by show b < w2.heap.size; omega) hI.out hsp hm.out).mono ?_; rintro e w5 ⟨rfl, h5, g5⟩)
            | fail)
          go_ret2
          exact ⟨by rw [he.out]; rfl, by rw [he.out]; exact ⟨h5, (World.grownBy.but (grown_below (below_drewN hb2 _)) _).trans g5⟩⟩
    · have c1 : (nth (pad l) s.self != s.inc) = true := by simp [hm1]
      have he : s.estimate l = (false, 60, s) := by unfold St.estimate; rw [if_pos (.inr hm1)]
      replace he := Lib.hid he
      replace hm1 := Lib.hid hm1
      clear hp0
      go_quiet (fail)
      go_wp2
      go_ret2
      exact ⟨by rw [he.out]; rfl, by rw [he.out]; exact Left.below h.out hb (below_drewN hb2 _)⟩
end Go.Proofs.Ytfbeggdbjpmppaa
namespace Go.Proofs.Ytfbeggdbjpmppaa
open Go.RowKit
def wishA (t : Wish) : Array Value := (wishL t).toArray
def ltA (t : Lt) : Array Value := (ltL t).toArray
theorem size96 : (Try.prog.info? 96).map (·.size) = some 39 := by kernel_rfl
theorem size98 : (Try.prog.info? 98).map (·.size) = some 40 := by kernel_rfl
theorem zero96 : (Try.prog.info? 96).map (·.zero) = some (some (.agg (wishA Wish.zero))) := by kernel_rfl
theorem zero98 : (Try.prog.info? 98).map (·.zero) = some (some (.agg (ltA Lt.zero))) := by kernel_rfl
theorem one_wishL (t : Wish) : ∀ u ∈ wishL t, u.oneCell' = true := by
  intro u hu
  unfold wishL at hu
  rcases List.mem_append.1 hu with hu | hu
  · exact one_ints _ u hu
  · rcases List.mem_append.1 hu with hu | hu
    · exact one_ints _ u hu
    · simp at hu; rcases hu with rfl | rfl | rfl | rfl | rfl | rfl | rfl <;> rfl
theorem one_ltL (t : Lt) : ∀ u ∈ ltL t, u.oneCell' = true := by
  intro u hu
  unfold ltL at hu
  rcases List.mem_cons.1 hu with rfl | hu
  · rfl
  · exact one_wishL t.w u hu
theorem build96 (w : World) (c r t e l i k : Int) : (Instr.build 96 #[(2, .int .i64 c), (3, .int .i64 r), (4, .int .i64 t), (5, .agg #[.int .i64 e, .int .i64 l, .int .i64 i, .int .i64 k])]).run Try.prog w = .ok (.agg (wishA ⟨zeros, zeros, c, r, t, ⟨e, l, i, k⟩⟩)) w := by kernel_rfl
structure WLen (t : Wish) : Prop where
  l1 : t.set.length = 16
  l2 : t.vec.length = 16
section
variable {ops : Array Oper} {rest : List Oper} {op : Oper} {a : Act} {w : World} {Q : Exit → Act → World → Prop}
theorem wpList_build96 (hgd : op.guard = none) (x2 x3 x4 x5 : Operand) (ho : op.op = .build 96 #[(2, x2), (3, x3), (4, x4), (5, x5)]) (c r t e l i k : Int) (h2 : a.eval x2 = .int .i64 c) (h3 : a.eval x3 = .int .i64 r) (h4 : a.eval x4 = .int .i64 t)
    (h5 : a.eval x5 = .agg #[.int .i64 e, .int .i64 l, .int .i64 i, .int .i64 k]) (h : wpList Try.prog ops Q rest (a.put op.dst (.agg (wishA ⟨zeros, zeros, c, r, t, ⟨e, l, i, k⟩⟩))) w) : wpList Try.prog ops Q (op :: rest) a w := by
  refine wpList_plain hgd fun _ hK => ?_
  unfold Oper.wp execOp
  simp only [ho, List.map_toArray, List.map_cons, List.map_nil, h2, h3, h4, h5, Sem.run_bind, build96, Result.andThen_ok, Sem.run_pure]
  exact hK _ _ h
theorem wpList_alloc96 (hgd : op.guard = none) (ho : op.op = .alloc 96) (h : wpList Try.prog ops Q rest (a.put op.dst (.pointer (some ⟨w.heap.size, 0, none⟩))) (w.alloc (.cells (wishA Wish.zero) 96))) : wpList Try.prog ops Q (op :: rest) a w :=
  wpList_alloc_zero hgd 96 ho _ zero96 h
theorem wpList_alloc98 (hgd : op.guard = none) (ho : op.op = .alloc 98) (h : wpList Try.prog ops Q rest (a.put op.dst (.pointer (some ⟨w.heap.size, 0, none⟩))) (w.alloc (.cells (ltA Lt.zero) 98))) : wpList Try.prog ops Q (op :: rest) a w :=
  wpList_alloc_zero hgd 98 ho _ zero98 h
theorem wpList_load96 (hgd : op.guard = none) (x : Operand) (ho : op.op = .load 96 x) (b o : Nat) (hx : a.eval x = .pointer (some ⟨b, o, none⟩)) (t : Wish) (hc : w.rangeAt b o (wishL t)) (hl : WLen t)
    (h : wpList Try.prog ops Q rest (a.put op.dst (.agg (wishA t))) w) : wpList Try.prog ops Q (op :: rest) a w :=
  wpList_load_mid hgd 96 x ho b o hx (wishL t) _ hc Try.underlying96 rfl (by rw [size96, len_wishL hl.l1 hl.l2]) h
theorem wpList_load98 (hgd : op.guard = none) (x : Operand) (ho : op.op = .load 98 x) (b o : Nat) (hx : a.eval x = .pointer (some ⟨b, o, none⟩)) (t : Lt) (hc : w.rangeAt b o (ltL t)) (hl : WLen t.w)
    (h : wpList Try.prog ops Q rest (a.put op.dst (.agg (ltA t))) w) : wpList Try.prog ops Q (op :: rest) a w :=
  wpList_load_mid hgd 98 x ho b o hx (ltL t) _ hc Try.underlying98 rfl (by rw [size98, len_ltL hl.l1 hl.l2]) h
theorem wpList_store96 (hgd : op.guard = none) (x y : Operand) (ho : op.op = .store 96 x y) (b o : Nat) (hx : a.eval x = .pointer (some ⟨b, o, none⟩)) (t : Wish) (hy : a.eval y = .agg (wishA t)) (ht : w.there b o 39) (hl : WLen t)
    (h : ∀ w', Hid (w' = w.setCells b o (wishL t)) → wpList Try.prog ops Q rest (a.put op.dst undef) w') : wpList Try.prog ops Q (op :: rest) a w := by
  have hs : (wishA t).size = 39 := by unfold wishA; rw [List.size_toArray, len_wishL hl.l1 hl.l2]
  exact wpList_store_mid hgd 96 x y ho b o (wishA t) hx hy (by rw [hs]; exact ht) (by rw [size96, hs]) (all_oneCell_toArray (one_wishL t)) (h _ (Lib.hid rfl))
theorem wpList_store98 (hgd : op.guard = none) (x y : Operand) (ho : op.op = .store 98 x y) (b o : Nat) (hx : a.eval x = .pointer (some ⟨b, o, none⟩)) (t : Lt) (hy : a.eval y = .agg (ltA t)) (ht : w.there b o 40) (hl : WLen t.w)
    (h : ∀ w', Hid (w' = w.setCells b o (ltL t)) → wpList Try.prog ops Q rest (a.put op.dst undef) w') : wpList Try.prog ops Q (op :: rest) a w := by
  have hs : (ltA t).size = 40 := by unfold ltA; rw [List.size_toArray, len_ltL hl.l1 hl.l2]
  exact wpList_store_mid hgd 98 x y ho b o (ltA t) hx hy (by rw [hs]; exact ht) (by rw [size98, hs]) (all_oneCell_toArray (one_ltL t)) (h _ (Lib.hid rfl))
end
theorem run_loadVar_wish (w : World) (b o : Nat) (t : Wish) (hc : w.rangeAt b o (wishL t)) (hl : WLen t) : (loadVar 96 ⟨b, o, none⟩).run Try.prog w = .ok (.agg (wishA t)) w :=
  run_loadVar_mid w b o 96 (wishL t) _ hc Try.underlying96 rfl (by rw [size96, len_wishL hl.l1 hl.l2])
theorem range_new96 (w : World) (t : Wish) : (w.alloc (.cells (wishA t) 96)).rangeAt w.heap.size 0 (wishL t) := range_new w (wishA t) 96
theorem there_new96 (w : World) (t : Wish) (hl : WLen t) : (w.alloc (.cells (wishA t) 96)).there w.heap.size 0 39 := by
  have := there_new w (wishA t) 96
  rwa [show (wishA t).size = 39 by unfold wishA; rw [List.size_toArray, len_wishL hl.l1 hl.l2]] at this
theorem wlen_zero : WLen Wish.zero := ⟨len_zeros, len_zeros⟩
structure WVar (w : World) (b : Nat) (t : Wish) : Prop where
  rng : w.rangeAt b 0 (wishL t)
  there : w.there b 0 39
  len : WLen t
theorem WVar.below {w w' : World} {b N : Nat} {t : Wish} (h : WVar w b t) (hb : Below N w w') (hN : b < N) : WVar w' b t := ⟨range_below h.rng hb hN, there_below h.there hb hN, h.len⟩
theorem WVar.new (w : World) (t : Wish) (hl : WLen t) : WVar (w.alloc (.cells (wishA t) 96)) w.heap.size t := ⟨range_new96 w t, there_new96 w t hl, hl⟩
theorem WVar.put {w : World} {b : Nat} {t u : Wish} (h : WVar w b t) (hl : WLen u) : WVar (w.setCells b 0 (wishL u)) b u := by
  have e := len_wishL hl.l1 hl.l2
  exact ⟨World.rangeAt_setCells_same w b 0 _ (by rw [e]; exact h.there), World.there_setCells h.there b _ _, hl⟩
theorem WVar.setSet {w : World} {b : Nat} {t : Wish} (h : WVar w b t) {x : List Int} (hx : x.length = 16) : WVar (w.setCells b 0 (ints x)) b { t with set := x } := by
  obtain ⟨h1, h2, h3, h4, h5, h6, h7, h8, h9⟩ := (wish_parts h.len.l1 h.len.l2).1 h.rng
  have e := len_ints x
  have e2 := len_ints t.vec
  have e3 := h.len.l2
  refine ⟨(wish_parts (t := { t with set := x }) hx h.len.l2).2 ⟨rng_in h.there (by omega), rng_out (cs := ints t.vec) h2 (by omega), ?_, ?_, ?_, ?_, ?_, ?_, ?_⟩, World.there_setCells h.there b _ _, ⟨hx, h.len.l2⟩⟩
  · exact cell_out h3 (by omega)
  · exact cell_out h4 (by omega)
  · exact cell_out h5 (by omega)
  · exact cell_out h6 (by omega)
  · exact cell_out h7 (by omega)
  · exact cell_out h8 (by omega)
  · exact cell_out h9 (by omega)
theorem WVar.setVec {w : World} {b : Nat} {t : Wish} (h : WVar w b t) {x : List Int} (hx : x.length = 16) : WVar (w.setCells b 16 (ints x)) b { t with vec := x } := by
  obtain ⟨h1, h2, h3, h4, h5, h6, h7, h8, h9⟩ := (wish_parts h.len.l1 h.len.l2).1 h.rng
  have e := len_ints x
  have e2 := len_ints t.set
  have e3 := h.len.l1
  refine ⟨(wish_parts (t := { t with vec := x }) h.len.l1 hx).2 ⟨rng_out (cs := ints t.set) h1 (by omega), rng_in h.there (by omega), ?_, ?_, ?_, ?_, ?_, ?_, ?_⟩, World.there_setCells h.there b _ _, ⟨h.len.l1, hx⟩⟩
  · exact cell_out h3 (by omega)
  · exact cell_out h4 (by omega)
  · exact cell_out h5 (by omega)
  · exact cell_out h6 (by omega)
  · exact cell_out h7 (by omega)
  · exact cell_out h8 (by omega)
  · exact cell_out h9 (by omega)
theorem WVar.other {w : World} {b b' : Nat} {t : Wish} (h : WVar w b t) (hb : b ≠ b') (o : Nat) (vs : List Value) : WVar (w.setCells b' o vs) b t :=
  ⟨World.rangeAt_setCells_apart h.rng b' o vs (.inl hb), World.there_setCells h.there b' o vs, h.len⟩
end Go.Proofs.Ytfbeggdbjpmppaa
namespace Go.Proofs.Ytfbeggdbjpmppaa
open Go Go.RowKit
def plainB (o : Oper) : Bool := match o.op with
  | .move _ | .assign _ | .fieldAddr .. | .indexAddr .. | .load .. | .binOp .. | .unOp .. | .extract .. | .field .. | .index .. | .build .. | .pick .. | .nilCheck _ => true
  | _ => false
section
variable {P : Program} {ops : Array Oper} {md : Region.Mode} {S : World → Prop} {Q : Exit → Act → World → Prop}
theorem value_v {s : Sem Value} {w w' : World} {n : Next} (h : (do let r ← s; pure (Next.value r) : Sem Next).run P w = .ok n w') : ∃ u, n = .value u := by
  rw [Sem.run_bind] at h
  generalize s.run P w = r at h
  cases r with
  | ok v w1 => simp [Result.andThen] at h; exact ⟨_, h.1.symm⟩
  | halt x w1 => simp [Result.andThen] at h
theorem plain_value {o : Oper} {ev : Operand → Value} {w w' : World} {n : Next} (hp : plainB o = true) (h : (execOp ev o).run P w = .ok n w') : ∃ u, n = .value u := by
  unfold plainB at hp
  unfold execOp at h
  cases ho : o.op <;> rw [ho] at hp h <;> simp only [Bool.false_eq_true] at hp <;> dsimp only at h <;> try exact value_v h
  · simp at h; exact ⟨_, h.1.symm⟩
  · simp at h; exact ⟨_, h.1.symm⟩
  · rename_i c a b
    rw [Sem.run_bind] at h
    generalize (asBool (ev c)).run P w = r at h
    cases r with
    | ok v w1 => simp [Result.andThen] at h; exact ⟨_, h.1.symm⟩
    | halt x w1 => simp [Result.andThen] at h
  · split at h
    · simp [runtimePanic] at h
    · simp [runtimePanic] at h
    · simp [runtimePanic] at h
    · split at h
      · simp [runtimePanic] at h
      · rw [Sem.run_bind] at h
        generalize Sem.run P program w = r at h
        cases r with
        | halt x w1 => simp [Result.andThen] at h
        | ok p w1 =>
          simp only [Result.andThen_ok] at h
          rw [Sem.run_bind] at h
          generalize Sem.run P (nilAhead _ _ _ _) w1 = r at h
          cases r with
          | halt x w2 => simp [Result.andThen] at h
          | ok v w2 =>
            simp only [Result.andThen_ok] at h
            split at h
            · simp [unsupported, Sem.run_bind, Result.andThen] at h
            · simp [Sem.run_bind, Result.andThen] at h; exact ⟨_, h.1.symm⟩
      · simp at h; exact ⟨_, h.1.symm⟩
    · simp at h; exact ⟨_, h.1.symm⟩
theorem yields_of_quiet {o : Oper} {a : Act} {v : Value} (hp : plainB o = true) (hw : Region.wanted o (yielded ops a.tmps) = true) (h : ∀ w, S w → o.quietAt P a S w v) : YieldsIf P ops S o v a := by
  refine .inl ⟨hw, fun w hS => ?_⟩
  have h1 := h w hS
  unfold Oper.quietAt at h1
  cases hr : (execOp a.eval o).run P w with
  | halt x w' => rw [hr] at h1; exact absurd h1 (by simp [Oper.quietUpon])
  | ok n w' =>
    obtain ⟨u, rfl⟩ := plain_value hp hr
    rw [hr] at h1
    obtain ⟨rfl, rfl⟩ := h1
    rfl
def Lk (s : Nat) : Nat → Array Bool
  | 0 => Array.replicate s false
  | k + 1 => (Lk s k).setIfInBounds k true
end
end Go.Proofs.Ytfbeggdbjpmppaa
namespace Go.Proofs.Ytfbeggdbjpmppaa
open Go Go.RowKit
section
variable {P : Program} {ops : Array Oper} {md : Region.Mode} {S : World → Prop} {Q : Exit → Act → World → Prop}
def wpAnyZ (P : Program) (md : Region.Mode) (ops : Array Oper) (Q : Exit → Act → World → Prop) (S : World → Prop) (z : Nat) : Nat → Array Bool → Act → World → Prop
  | 0, listed, a, w => Region.ready md ops listed = [] ∧ Q .normal a w
  | fuel + 1, listed, a, w =>
    (Region.ready md ops listed = [] → Q .normal a w) ∧
    ∀ i ∈ Region.ready md ops listed, wpOp P ops Q i (fun a' w' => (i = z ∨ S w') ∧ wpAnyZ P md ops Q S z fuel (listed.setIfInBounds i true) a' w') a w
theorem wpAny_of_z {z : Nat} : ∀ (fuel : Nat) (listed : Array Bool) (a : Act) (w : World), wpAnyZ P md ops Q S z fuel listed a w → wpAny P md ops Q fuel listed a w
  | 0, _, _, _, h => h
  | fuel + 1, _, _, _, h => ⟨h.1, fun i hi => wpOp_mono (fun a' w' h' => wpAny_of_z fuel _ a' w' h'.2) (h.2 i hi)⟩
theorem wpAnyZ_first {i z : Nat} {oi : Oper} {v : Value} (hi : ops[i]? = some oi) (hz : ops.size ≤ z ∨ Region.waitsFor md ops z i = true) (hsel : ∀ (j : Nat) (o : Oper) cs b, ops[j]? = some o → o.op ≠ .select cs b)
    (hQ : ∀ c a w, Q (.panic c) (a.put oi.dst v) w → Q (.panic c) a w) :
    ∀ (fuel : Nat) (listed : Array Bool) (a : Act) (w : World),
      (∀ j oj, ops[j]? = some oj → j ≠ i → listed.getD j true = false → (∀ e ∈ oj.after, Region.binds md e = true → e.on ≠ i) → oi.apart ops oj = true) →
      i ∈ Region.ready md ops listed → YieldsIf P ops S oi v a → S w →
      wpAnyZ P md ops Q S z fuel (listed.setIfInBounds i true) (a.put oi.dst v) w → wpAnyZ P md ops Q S z (fuel + 1) listed a w := by
  intro fuel
  induction fuel with
  | zero =>
    intro listed a w _ hr hy hS H
    refine ⟨fun h => (by rw [h] at hr; cases hr), fun j hj => ?_⟩
    by_cases hji : j = i
    · subst hji; exact hy.wpOp hi hS ⟨.inr hS, H⟩
    · have := ready_mono hj hji
      rw [H.1] at this
      cases this
  | succ fuel ih =>
    intro listed a w hfree hr hy hS H
    refine ⟨fun h => (by rw [h] at hr; cases hr), fun j hj => ?_⟩
    by_cases hji : j = i
    · subst hji; exact hy.wpOp hi hS ⟨.inr hS, H⟩
    · have h1 := H.2 j (ready_mono hj hji)
      obtain ⟨hjun, oj, hoj, hall⟩ := mem_ready.1 hj
      have hnot : ∀ e ∈ oj.after, Region.binds md e = true → e.on ≠ i := fun e he hb heq => by
        have h1 := hall e he hb
        have h0 := (mem_ready.1 hr).1
        rw [heq] at h1
        rcases Nat.lt_or_ge i listed.size with h' | h'
        · simp [h'] at h0 h1; rw [h0] at h1; cases h1
        · simp [Array.getElem?_eq_none h'] at h1
      have hjz : j ≠ z := fun e => by
        subst e
        rcases hz with hz | hz
        · have := (Array.getElem?_eq_some_iff.1 hoj).1; omega
        · obtain ⟨o', ho', e, he, hb, hon⟩ := Region.waitsFor_spec hz
          obtain rfl : o' = oj := Option.some.inj (ho'.symm.trans hoj)
          exact hnot e he hb hon
      have h2 := wpOp_putIf hoj (hfree j oj hoj hji hjun hnot) (fun cs b => hsel i oi cs b hi) (fun cs b => hsel j oj cs b hoj) hQ hy h1
      have hfree' : ∀ k ok, ops[k]? = some ok → k ≠ i → (listed.setIfInBounds j true).getD k true = false →
          (∀ e ∈ ok.after, Region.binds md e = true → e.on ≠ i) → oi.apart ops ok = true := fun k ok hk hki hun hno => by
        refine hfree k ok hk hki ?_ hno
        by_cases hjk : j = k
        · subst hjk; exact hjun
        · rw [getD_set_ne true hjk] at hun; exact hun
      refine wpOp_mono (fun a' w' h3 => ⟨h3.2.1, ih (listed.setIfInBounds j true) a' w' hfree' (ready_mono hr (Ne.symm hji)) h3.1 (h3.2.1.resolve_left hjz) ?_⟩) h2
      rw [Array.setIfInBounds_comm _ _ hji]
      exact h3.2.2
def pick : List Oper → Nat → List Oper
  | [], _ => []
  | o :: _, 0 => [o]
  | _ :: r, i + 1 => pick r i
def picks (l : List Oper) : List Nat → List Oper
  | [] => []
  | i :: r => pick l i ++ picks l r
theorem pick_of : ∀ {l : List Oper} {i : Nat} {o : Oper}, l[i]? = some o → pick l i = [o]
  | [], i, o, h => by simp at h
  | x :: r, 0, o, h => by simp at h; rw [pick, h]
  | x :: r, i + 1, o, h => by rw [pick]; exact pick_of (by simpa using h)
def runB (md : Region.Mode) (ops : Array Oper) (z : Nat) : Array Bool → List Nat → Option (Array Bool)
  | L, [] => some L
  | L, i :: r => if Region.free md ops L i && (Region.ready md ops L).contains i && decide (i < ops.size) && (ops[i]?.map plainB == some true) && (decide (ops.size ≤ z) || Region.waitsFor md ops z i) then runB md ops z (L.setIfInBounds i true) r else none
def segB (md : Region.Mode) (ops : Array Oper) (z : Nat) (last : List Nat) : Array Bool → List (List Nat × Nat) → Bool
  | L, [] => match runB md ops z L last with
    | some L' => decide (Region.ready md ops L' = [])
    | none => false
  | L, (is, i) :: r => match runB md ops z L is with
    | some L' => decide (Region.ready md ops L' = [i]) && decide (i < ops.size) && (decide (i = z → r = [] ∧ last = [])) && segB md ops z last (L'.setIfInBounds i true) r
    | none => false
def ordB (md : Region.Mode) (ops : Array Oper) (z : Nat) (segs : List (List Nat × Nat)) (last : List Nat) : Bool := Region.noSelect ops && segB md ops z last (Array.replicate ops.size false) segs
def woD (P : Program) (l : List Oper) (z : Nat) (S : World → Prop) (Q : Exit → Act → World → Prop) (last : List Nat) : List (List Nat × Nat) → Act → World → Prop
  | [], a, w => wpQuiet P l.toArray S (fun a' => Q .normal a' w) (picks l last) a
  | (is, i) :: r, a, w => wpQuiet P l.toArray S (fun a' => ∀ o, pick l i = [o] → if Region.wanted o (yielded l.toArray a'.tmps) = true then o.wp P a' w (fun a2 w2 => (i = z ∨ S w2) ∧ woD P l z S Q last r a2 w2) Q else woD P l z S Q last r (a'.put o.dst undef) w) (picks l is) a
structure WO (P : Program) (l : List Oper) (z : Nat) (S : World → Prop) (Q : Exit → Act → World → Prop) (last : List Nat) (segs : List (List Nat × Nat)) (a : Act) (w : World) : Prop where
  out : woD P l z S Q last segs a w
variable {l : List Oper} {z : Nat} {last : List Nat} {w : World} {a : Act}
theorem quiet_mono {K K' : Act → Prop} (h : ∀ a, K a → K' a) : ∀ {m : List Oper} {a : Act}, wpQuiet P ops S K m a → wpQuiet P ops S K' m a
  | [], a, hk => h a hk
  | o :: m, a, hk => by
    unfold wpQuiet at hk ⊢
    split
    · rename_i hw
      rw [if_pos hw] at hk
      obtain ⟨v, h1, h2⟩ := hk
      exact ⟨v, h1, quiet_mono h h2⟩
    · rename_i hw
      rw [if_neg hw] at hk
      exact quiet_mono h hk
theorem WO.seg {is : List Nat} {i : Nat} {o : Oper} {r : List (List Nat × Nat)} (ho : pick l i = [o])
    (h : wpQuiet P l.toArray S (fun a' => ∀ K : Act → World → Prop, Hid (∀ a2 w2, S w2 → WO P l z S Q last r a2 w2 → K a2 w2) → if Region.wanted o (yielded l.toArray a'.tmps) = true then o.wp P a' w K Q else K (a'.put o.dst undef) w) (picks l is) a) (hS : S w) :
    WO P l z S Q last ((is, i) :: r) a w := by
  refine ⟨?_⟩
  unfold woD
  refine quiet_mono (fun a' h' o' ho' => ?_) h
  obtain rfl : o' = o := by rw [ho] at ho'; simpa using ho'.symm
  have := h' (fun a2 w2 => S w2 ∧ woD P l z S Q last r a2 w2) (Lib.hid fun a2 w2 h1 h2 => ⟨h1, h2.out⟩)
  split
  · rename_i hw; rw [if_pos hw] at this; exact Oper.wp_mono (fun a3 w3 h3 => ⟨.inr h3.1, h3.2⟩) this
  · rename_i hw; rw [if_neg hw] at this; exact this.2
theorem WO.segz {is : List Nat} {o : Oper} (ho : pick l z = [o])
    (h : wpQuiet P l.toArray S (fun a' => ∀ K : Act → World → Prop, Hid (∀ a2 w2, Q .normal a2 w2 → K a2 w2) → if Region.wanted o (yielded l.toArray a'.tmps) = true then o.wp P a' w K (NoPanic Q) else K (a'.put o.dst undef) w) (picks l is) a) :
    WO P l z S (NoPanic Q) [] [(is, z)] a w := by
  refine ⟨?_⟩
  unfold woD
  refine quiet_mono (fun a' h' o' ho' => ?_) h
  obtain rfl : o' = o := by rw [ho] at ho'; simpa using ho'.symm
  have := h' (fun a2 w2 => Q .normal a2 w2) (Lib.hid fun a2 w2 h1 => h1)
  split
  · rename_i hw; rw [if_pos hw] at this; exact Oper.wp_mono (fun a3 w3 h3 => ⟨.inl rfl, h3⟩) this
  · rename_i hw; rw [if_neg hw] at this; exact this
theorem run_ok (hsel : Region.noSelect l.toArray = true) (hQ : ∀ c a d v w, Q (.panic c) (Act.put a d v) w → Q (.panic c) a w) {K : Act → Prop} {fuel : Nat} :
    ∀ (is : List Nat) (L L' : Array Bool) (a : Act), (S w ∨ is = []) → runB md l.toArray z L is = some L' → (∀ a', K a' → wpAnyZ P md l.toArray Q S z fuel L' a' w) → wpQuiet P l.toArray S K (picks l is) a → wpAnyZ P md l.toArray Q S z (is.length + fuel) L a w
  | [], L, L', a, _, hb, hK, h => by
    cases hb
    simpa using hK a h
  | i :: r, L, L', a, hS', hb, hK, h => by
    have hS : S w := hS'.resolve_right (by simp)
    unfold runB at hb
    split at hb
    · rename_i hc
      simp only [Bool.and_eq_true, decide_eq_true_eq, beq_iff_eq] at hc
      obtain ⟨⟨⟨⟨h1, h2⟩, h3⟩, h4⟩, h5⟩ := hc
      have h5' : l.toArray.size ≤ z ∨ Region.waitsFor md l.toArray z i = true := by simpa using h5
      have ho : l.toArray[i]? = some l.toArray[i] := Array.getElem?_eq_getElem h3
      generalize l.toArray[i] = o at ho
      have hol : l[i]? = some o := by simpa using ho
      rw [picks, pick_of hol, List.singleton_append] at h
      rw [ho] at h4
      have h4' : plainB o = true := by simpa using h4
      have key : ∃ v, YieldsIf P l.toArray S o v a ∧ wpQuiet P l.toArray S K (picks l r) (a.put o.dst v) := by
        unfold wpQuiet at h
        by_cases hw : Region.wanted o (yielded l.toArray a.tmps) = true
        · rw [if_pos hw] at h
          obtain ⟨v, e1, e2⟩ := h
          exact ⟨v, yields_of_quiet h4' hw e1, e2⟩
        · rw [if_neg hw] at h
          exact ⟨undef, .inr ⟨by simpa using hw, rfl⟩, h⟩
      obtain ⟨v, hy, hr⟩ := key
      have := wpAnyZ_first (z := z) ho h5' (Region.noSelect_spec hsel) (fun c a w => hQ c a _ _ w) (r.length + fuel) L a w (Region.free_spec ho h1) (by simpa using h2) hy hS (run_ok hsel hQ r _ L' _ (.inl hS) hb hK hr)
      rw [show (i :: r).length + fuel = r.length + fuel + 1 by simp; omega]
      exact this
    · cases hb
def segLen : List (List Nat × Nat) → Nat
  | [] => 0
  | (is, _) :: r => is.length + 1 + segLen r
theorem seg_ok (hsel : Region.noSelect l.toArray = true) (hQ : ∀ c a d v w, Q (.panic c) (Act.put a d v) w → Q (.panic c) a w) :
    ∀ (segs : List (List Nat × Nat)) (L : Array Bool) (a : Act) (w : World), segB md l.toArray z last L segs = true → (S w ∨ (segs = [] ∧ last = [])) → woD P l z S Q last segs a w → wpAnyZ P md l.toArray Q S z (segLen segs + last.length) L a w
  | [], L, a, w, hb, hS, h => by
    unfold segB at hb
    cases hr : runB md l.toArray z L last with
    | none => rw [hr] at hb; simp at hb
    | some L' =>
      rw [hr] at hb
      have hb' : Region.ready md l.toArray L' = [] := by simpa using hb
      have := run_ok (fuel := 0) hsel hQ last L L' a (hS.imp id (·.2)) hr (K := fun a' => Q .normal a' w) (fun a' h' => ⟨hb', h'⟩) h
      rwa [segLen, Nat.zero_add]
  | (is, i) :: r, L, a, w, hb, hS', h => by
    have hS : S w := hS'.resolve_right (by simp)
    unfold segB at hb
    cases hr : runB md l.toArray z L is with
    | none => rw [hr] at hb; simp at hb
    | some L' =>
      rw [hr] at hb
      simp only [Bool.and_eq_true, decide_eq_true_eq] at hb
      obtain ⟨⟨⟨b1, b2⟩, b4⟩, b3⟩ := hb
      have b4' : i = z → r = [] ∧ last = [] := by simpa using b4
      have ho : l.toArray[i]? = some l.toArray[i] := Array.getElem?_eq_getElem b2
      generalize l.toArray[i] = o at ho
      have hol : l[i]? = some o := by simpa using ho
      have ih := fun a' w' => seg_ok hsel hQ r (L'.setIfInBounds i true) a' w' b3
      have := run_ok (fuel := segLen r + last.length + 1) hsel hQ is L L' a (.inl hS) hr (fun a' h' => (by
        have h2 := h' o (pick_of hol)
        refine ⟨fun h0 => (by rw [b1] at h0; cases h0), fun j hj => ?_⟩
        rw [b1] at hj
        obtain rfl : j = i := by simpa using hj
        unfold wpOp
        simp only [ho]
        split
        · rename_i hw
          rw [if_pos hw] at h2
          exact .inl (Oper.wp_mono (fun a3 w3 h3 => ⟨h3.1, ih a3 w3 (h3.1.elim (fun e => .inr (b4' e)) .inl) h3.2⟩) h2)
        · rename_i hw
          rw [if_neg hw] at h2
          exact ⟨.inr hS, ih _ _ (.inl hS) h2⟩)) h
      rw [show segLen ((is, i) :: r) + last.length = is.length + (segLen r + last.length + 1) by rw [segLen]; omega]
      exact this
theorem WO.end_ (h : wpQuiet P l.toArray S (fun a' => Q .normal a' w) (picks l last) a) : WO P l z S (NoPanic Q) last [] a w := ⟨h⟩
theorem wp_region_ordz {id : Nat} (z : Nat) (segs : List (List Nat × Nat)) (last : List Nat) (S : World → Prop) (hm : P.follows .mixedOrders = true) (hB : ordB .any l.toArray z segs last = true) (hn : segLen segs + last.length = l.length)
    (hS : S w.drew) (h : WO P l z S (NoPanic Q) last segs a w.drew) : (Code.region id l.toArray true).wp P Q a w := by
  unfold ordB at hB
  simp only [Bool.and_eq_true] at hB
  refine wp_region_noPanic (wp_region_any hm (wpAny_of_z (S := S) (z := z) _ _ _ _ ?_))
  have := seg_ok (Q := NoPanic Q) hB.1 (fun _ _ _ _ _ h => h) segs _ a _ hB.2 (.inl hS) h.out
  rw [hn] at this
  simpa using this
theorem wp_region_ord {id : Nat} (segs : List (List Nat × Nat)) (last : List Nat) (S : World → Prop) (hm : P.follows .mixedOrders = true) (hB : ordB .any l.toArray 1000 segs last = true) (hn : segLen segs + last.length = l.length)
    (hS : S w.drew) (h : WO P l 1000 S (NoPanic Q) last segs a w.drew) : (Code.region id l.toArray true).wp P Q a w :=
  wp_region_ordz 1000 segs last S hm hB hn hS h
end
end Go.Proofs.Ytfbeggdbjpmppaa
namespace Go.Proofs.Ytfbeggdbjpmppaa
open Go.RowKit
theorem load3 {w : World} {b o : Nat} {v : Int} (h : w.cell? ⟨b, o, none⟩ = some (.int .i64 v)) : (loadVar 3 ⟨b, o, none⟩).run Try.prog w = .ok (.int .i64 v) w := by go_simp
theorem load27 {w : World} {b o n c : Nat} {A : Option Addr} (h : w.cell? ⟨b, o, none⟩ = some (.slice A n c)) : (loadVar 27 ⟨b, o, none⟩).run Try.prog w = .ok (.slice A n c) w := by go_simp
theorem load29 {w : World} {b o : Nat} {v : Vid} (h0 : w.cell? ⟨b, o, none⟩ = some (.int .i64 v.e)) (h1 : w.cell? ⟨b, o + 1, none⟩ = some (.int .i64 v.l)) (h2 : w.cell? ⟨b, o + 2, none⟩ = some (.int .i64 v.i)) (h3 : w.cell? ⟨b, o + 3, none⟩ = some (.int .i64 v.c)) :
    (loadVar 29 ⟨b, o, none⟩).run Try.prog w = .ok (.agg (vidC v)) w := by go_simp
section
variable {ops : Array Oper} {C : World → Prop} {Q : Act → Prop} {a : Act} {o : Oper} {rest : List Oper}
theorem wpQuiet_loadC (hw : Region.wanted o (yielded ops a.tmps) = true) (ty : TypeId) (x : Operand) (ho : o.op = .load ty x) (b off : Nat)
    (hx : a.eval x = .pointer (some ⟨b, off, none⟩)) (v : Value) (hc : ∀ w', C w' → (loadVar ty ⟨b, off, none⟩).run Try.prog w' = .ok v w')
    (h : wpQuiet Try.prog ops C Q rest (a.put o.dst v)) : wpQuiet Try.prog ops C Q (o :: rest) a := by
  refine wpQuiet_step fun K hK => ?_
  rw [if_pos hw]
  refine ⟨v, ?_, hK _ h⟩
  intro w' hw'
  unfold Oper.quietAt execOp
  simp only [ho, hx, Instr.loadAt, Instr.sureAddr, Sem.run_bind, Sem.run_pure, Result.andThen_ok, hc w' hw']
  exact ⟨rfl, rfl⟩
end
theorem wp_store94 {o : Oper} {a : Act} {w : World} {K : Act → World → Prop} {Q : Exit → Act → World → Prop} (x y : Operand) (ho : o.op = .store 94 x y) (hd : o.dst = none) (b off : Nat) (hx : a.eval x = .pointer (some ⟨b, off, none⟩)) (l : List Int) (hy : a.eval y = .agg (arr l))
    (ht : w.there b off 16) (hl : l.length = 16) (h : ∀ w', Hid (w' = w.setCells b off (ints l)) → K a w') : o.wp Try.prog a w K Q :=
  wp_store_mid 94 x y ho b off (arr l) hx hy (by rw [size_arr, hl]; exact ht) (by rw [size94, size_arr, hl]) (all_oneCell_toArray (one_ints l)) (by rw [hd]; exact h _ (Lib.hid (by rw [arr_list])))
theorem wp_store96 {o : Oper} {a : Act} {w : World} {K : Act → World → Prop} {Q : Exit → Act → World → Prop} (x y : Operand) (ho : o.op = .store 96 x y) (hd : o.dst = none) (b off : Nat) (hx : a.eval x = .pointer (some ⟨b, off, none⟩)) (t : Wish) (hy : a.eval y = .agg (wishA t))
    (ht : w.there b off 39) (hl : WLen t) (h : ∀ w', Hid (w' = w.setCells b off (wishL t)) → K a w') : o.wp Try.prog a w K Q := by
  have hs : (wishA t).size = 39 := by unfold wishA; rw [List.size_toArray, len_wishL hl.l1 hl.l2]
  exact wp_store_mid 96 x y ho b off (wishA t) hx hy (by rw [hs]; exact ht) (by rw [size96, hs]) (all_oneCell_toArray (one_wishL t)) (by rw [hd]; exact h _ (Lib.hid rfl))
theorem run_index94 (W : World) {l : List Int} {p : Nat} {v : Int} (hp : p < 16) (hv : l[p]? = some v) : (Instr.index 94 (.agg (arr l)) (.int .i64 p)).run Try.prog W = .ok (.int .i64 v) W := by
  have h1 := ints_at hv
  have h2 : (Sem.run Try.prog (isAgg 3) W) = .ok false W := by
    unfold isAgg
    simp [run_underlying Try.underlying3, TypeDesc.isRow, go_sem]
  have hi0 : (Try.prog.info? 3).map (·.size) = some 1 := by kernel_rfl
  obtain ⟨ti, hi, hs⟩ := Option.map_eq_some_iff.1 hi0
  unfold arr
  simp [Instr.index, run_underlying Try.underlying94, asIntOf, hp, sizeOf, typeInfo, hi, hs, part, h1, h2, go_sem]
end Go.Proofs.Ytfbeggdbjpmppaa
