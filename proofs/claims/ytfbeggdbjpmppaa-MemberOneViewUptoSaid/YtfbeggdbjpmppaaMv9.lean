/- TkAll PlC MOpen MClose HlxE OrdE, joined. -/
import Derived.Deep.DeepCutAuto
import Derived.Test.YtfbeggdbjpmppaaRows
import Derived.Deep.Slices
import Derived.Deep.Fields
import Derived.ChangeSame
import Derived.ProofKit
import Derived.WalkKit
import Derived.OpenShut
import Derived.JoinedCond
import Derived.Below
import Derived.Carry
import Derived.OrdersHeld
import Derived.Deep.Quiet
import Derived.StillTail
import Derived.RegionTactic
import Derived.Lib.Hide
import Derived.Deep.RegionHeld3
import Derived.Test.YtfbeggdbjpmppaaMv7
import Derived.Test.YtfbeggdbjpmppaaMv8
set_option linter.unusedVariables false
set_option linter.unusedSimpArgs false
namespace Go.Proofs.Ytfbeggdbjpmppaa
open Go.RowKit
set_option maxRecDepth 100000 in
set_option maxHeartbeats 8000000 in
theorem take_fits (b : Nat) (s : St) (M : Option Addr) (cM : Nat) (S V : Option Addr) (cS cV N : Nat) (p : Pr) (q : Nat) (inc : Int) (w : World) (h : AgAt w b s M cM) (hb : b < w.heap.size) (hI : Inv s) (hq : q < s.n) (hs : q ≠ s.self) (hi1 : 1 ≤ inc) (hi2 : inc ≤ 4611686018427387904)
    (hN : N ≤ w.heap.size) (hS : RowAt w N 1 eInt S p.set) (hV : RowAt w N 1 eInt V p.vec) (hl1 : p.set.length ≤ 9223372036854775807) (hl2 : p.vec.length ≤ 9223372036854775807) (hg : p.goodB q inc s.n = true) (hM : ∀ W, w.grownBy W (some b) → RowAt W W.heap.size 3 eMb M s.mem) (hml : s.mem.length ≤ 16) (c1 : ¬ inc < (s.lt q).inc) (c2 : ¬ ((s.lt q).inc = inc ∧ p.rev ≤ (s.lt q).w.rev)) :
    Calls Try.prog 36 #[.pointer (some ⟨b, 0, none⟩), .int .i64 q, .int .i64 inc, .agg (prA S V cS cV p)] w fun x w' => x = .returned (.tuple #[.bool (s.take q inc p).1, .int .i64 (s.take q inc p).2.1]) ∧ Left w w' b (s.take q inc p).2.2 M cM := by
  have hb0 : Below w.heap.size w (w.alloc (.cells (prA S V cS cV p) 31)) := (Below.refl _ _).alloc (Nat.le_refl _) _
  have z0 : (w.alloc (.cells (prA S V cS cV p) 31)).heap.size = w.heap.size + 1 := World.size_alloc _ _
  have h0 := Lib.hid (h.same (hb0.block b hb))
  have q0 := h.n
  have q1 := h.self
  have hn := hI.n2
  have hq16 : q < 16 := by omega
  have hol : WLen (s.lt q).w := ⟨h.l3 q hq16, h.l4 q hq16⟩
  have rS := Lib.hid (hS.below hb0 hN)
  have rV := Lib.hid (hV.below hb0 hN)
  have b3 : ((q : Int) == (s.self : Int)) = false := by simp; omega
  have hargs : ¬ ((q : Int) < 0 ∨ (s.n : Int) ≤ q ∨ (q : Int) = s.self ∨ inc < 1 ∨ 4611686018427387904 < inc) := by omega
  have htk : s.take q inc p = if inc < (s.lt q).inc then (false, 50, s) else if (s.lt q).inc = inc ∧ p.rev ≤ (s.lt q).w.rev then (false, 51, s) else
      (if s.opn then
        if (s.put q inc p.wish).heard = (s.put q inc p.wish).own.vec then (false, 0, s.put q inc p.wish)
        else if (s.put q inc p.wish).own.rev < 4611686018427387904 then (false, 0, { (s.put q inc p.wish) with own := { (s.put q inc p.wish).own with vec := (s.put q inc p.wish).heard, rev := (s.put q inc p.wish).own.rev + 1 } })
        else (false, 3, s)
      else if leavesB (s.put q inc p.wish).mem q inc p.cid = false then (false, 0, s.put q inc p.wish)
      else if (s.put q inc p.wish).spent then (false, 3, s)
      else (true, 0, (s.put q inc p.wish).begin_ (s.put q inc p.wish).own.set)) := by
    unfold St.take
    rw [if_neg hargs, if_neg (by rw [Int.toNat_natCast, hg]; decide)]
    rfl
  replace htk := Lib.hid htk
  have hgw := Lib.hid (good_wish hI.n2 hg)
  replace h := Lib.hid h
  replace hb0 := Lib.hid hb0
  replace hI := Lib.hid hI
  replace hg := Lib.hid hg
  replace z0 := Lib.hid z0
  replace hM := Lib.hid hM
  clear hS hV hargs
  have d1 : decide (inc < (s.lt q).inc) = false := decide_eq_false c1
  have c1' : Hid (¬ inc < (s.lt q).inc) := Lib.hid c1
  have c2' : Hid (¬ ((s.lt q).inc = inc ∧ p.rev ≤ (s.lt q).w.rev)) := Lib.hid c2
  clear c1 c2
  go_enter Try.func36, Try.ntmps36
  go_upto_region 9 with (first
    | (go_at_call 52
       refine (read_any b s M cM S V cS cV N p q inc _ (by exact h0.out) (by rw [z0.out]; omega) hn hq (by rw [z0.out]; omega) (by exact rS.out) (by exact rV.out) hl1 hl2).mono ?_
       rintro e w1 ⟨⟨t, rfl, hwl, hgt⟩, hb1⟩
       rw [hg.out]
       obtain rfl := hgt hg.out
       rw [z0.out] at hb1
       have z1 := hb1.size
       rw [z0.out] at z1
       have b1 := Lib.hid (hb0.out.trans (hb1.mono (Nat.le_succ _)))
       replace hwl := Lib.hid hwl
       clear q0 q1 hgt)
    | (refine wpList_alloc96 rfl rfl ?_)
    | (refine wpList_store96 rfl (.tmp 10) (.tmp 46) rfl w1.heap.size 0 (by rfl) p.wish (by rfl) (there_new96 _ _ wlen_zero) hwl.out ?_
       intro w2 hw2
       have z2 : w2.heap.size = w1.heap.size + 1 := by rw [hw2.out, size_sets, World.size_alloc]
       have v2 : WVar w2 w1.heap.size p.wish := by rw [hw2.out]; exact (WVar.new w1 Wish.zero wlen_zero).put hwl.out
       have b2 : Below w.heap.size w w2 := by rw [hw2.out]; exact below_sets (b1.out.alloc (by omega) _) (by omega) _ _ (by simp; omega)
       have h2 := h.out.same (b2.block b hb)
       replace v2 := Lib.hid v2
       replace b2 := Lib.hid b2
       replace h2 := Lib.hid h2
       replace z2 := Lib.hid z2)
    | (refine wpList_load98 rfl (.tmp 54) rfl b (43 + q * 40) (by rfl) (s.lt q) (h2.out.other hq16) hol ?_)
    | (refine wpList_alloc98 rfl rfl ?_)
    | (refine wpList_store98 rfl (.tmp 12) (.tmp 55) rfl w2.heap.size 0 (by rfl) (s.lt q) (by rfl) (there_new98 _ _ wlen_zero) hol ?_
       intro w3 hw3
       have hT : TkR w b s M cM w1.heap.size w2.heap.size p.wish (s.lt q) w3 := by
         have z2' := z2.out
         have b23 : Below w2.heap.size w2 w3 := by rw [hw3.out]; exact below_sets ((Below.refl _ _).alloc (Nat.le_refl _) _) (Nat.le_refl _) _ _ (by simp)
         have z3 : w3.heap.size = w2.heap.size + 1 := by rw [hw3.out, size_sets, World.size_alloc]
         refine ⟨h2.out.same (b23.block b (by omega)), v2.out.below b23 (by omega), by rw [hw3.out]; exact LVar.put (there_new98 _ _ wlen_zero) hol, (World.grownBy.but (grown_below b2.out) _).trans (World.grownBy.but (grown_below b23) _), by omega, by omega, by omega, by omega⟩
       have k1 : w3.cell? ⟨w2.heap.size, 0, none⟩ = some (.int .i64 (s.lt q).inc) := (lt_parts.1 hT.old.rng).1
       have k2 : w3.cell? ⟨w2.heap.size, 34, none⟩ = some (.int .i64 (s.lt q).w.rev) := ((wish_parts hol.l1 hol.l2).1 (lt_parts.1 hT.old.rng).2).2.2.2.1
       have k3 : w3.cell? ⟨w1.heap.size, 33, none⟩ = some (.int .i64 p.rev) := hT.new.cells.2.2.2.1
       replace hT := Lib.hid hT)
    | fail)
  go_cut [61] (fun s61 wx => s61 = .bool false ∧ wx = w3)
  case first =>
    cases d2 : ((s.lt q).inc == inc) with
    | true =>
      have d3 : decide (p.rev ≤ (s.lt q).w.rev) = false := decide_eq_false (fun x => c2'.out ⟨by simpa using d2, x⟩)
      go_wp2_with fail
      go_meet
      exact ⟨rfl, rfl⟩
    | false =>
      go_wp2_with fail
      go_meet
      exact ⟨rfl, rfl⟩
  case rest =>
    obtain ⟨rfl, hwc⟩ := hcut
    obtain rfl : w3 = wc := hwc.symm
    go_wp2_with fail
    try simp only [Act.put, List.setIfInBounds_toArray, List.set_cons_zero, List.set_cons_succ]
    obtain ⟨v, hv⟩ : ∃ v, v = w1.heap.size := ⟨_, rfl⟩
    obtain ⟨o, ho⟩ : ∃ o, o = w2.heap.size := ⟨_, rfl⟩
    rw [← hv, ← ho] at hT
    rw [← hv, ← ho]
    replace hv := Lib.hid hv
    replace ho := Lib.hid ho
    have hS4 : TkR w b s M cM v o p.wish (s.lt q) w3.drew := hT.out.below hb (Below.drew (Below.refl _ _))
    have hV4 : WVar w3.drew v p.wish := hS4.new
    have hC : ∀ x' : Prop, (∀ W, WVar W v p.wish → x') ↔ x' := fun x' => ⟨fun f => f _ hV4, fun f _ _ => f⟩
    have L77 : ∀ W, WVar W v p.wish → (loadVar 96 ⟨v, 0, none⟩).run Try.prog W = .ok (.agg (wishA p.wish)) W := fun W hW => run_loadVar_wish W v 0 p.wish hW.rng hwl.out
    replace L77 := Lib.hid L77
    replace hS4 := Lib.hid hS4
    replace hV4 := Lib.hid hV4
    clear k1 k2 k3
    refine wp_region_ord [([0, 1, 2, 3, 4, 5, 6, 7], 8)] [] (fun W => WVar W v p.wish) rfl (by kernel_rfl) rfl hV4.out ?_
    refine WO.seg rfl ?_ hV4.out
    simp only [picks, pick, List.cons_append, List.nil_append, List.append_nil]
    repeat (first
      | go_big_quiet_skip
      | (refine wpQuiet_loadC (by rfl) 96 (.tmp 10) rfl v 0 (by rfl) _ L77.out ?_; simp only [Act.put, List.setIfInBounds_toArray, List.set_cons_zero, List.set_cons_succ])
      | (refine wpQuiet_build98 (by rfl) (.tmp 76) (.tmp 77) rfl inc p.wish (by rfl) (by rfl) hwl.out ?_; simp only [Act.put, List.setIfInBounds_toArray, List.set_cons_zero, List.set_cons_succ])
      | go_big_quiet_step (fail))
    refine wpQuiet_nil ?_
    intro K hK
    rw [if_pos (by rfl)]
    refine wp_store98 (.tmp 81) (.tmp 78) rfl rfl b (43 + q * 40) (by rfl) ⟨inc, p.wish⟩ (by rfl) (World.there.at hS4.out.at_.there (by omega)) hwl.out ?_
    intro w5 hw5
    obtain ⟨t, ht⟩ : ∃ t, t = s.put q inc p.wish := ⟨_, rfl⟩
    have hT5 : TkR w b t M cM v o p.wish (s.lt q) w5 := by
      rw [hw5.out, ht]
      exact hS4.out.put hb (hS4.out.at_.setLt q hq16 hI.out.oth ⟨inc, p.wish⟩ hwl.out.l1 hwl.out.l2) (grown_sets _ _ _ _)
    have hIt : Inv t := by rw [ht]; exact put_inv hI.out hgw.out
    have htn : t.n = s.n := by rw [ht]; rfl
    have hto : t.opn = s.opn := by rw [ht]; rfl
    have htm : t.mem = s.mem := by rw [ht]; rfl
    have hback : t.put q (s.lt q).inc (s.lt q).w = s := by rw [ht]; exact put_back (hI.out.lt_some hq16)
    have hoth : t.oth.length = 16 := hIt.oth
    have k3 := hT5.at_.opn
    rw [hto] at k3
    replace hT5 := Lib.hid hT5
    replace hIt := Lib.hid hIt
    replace htn := Lib.hid htn
    replace hto := Lib.hid hto
    replace htm := Lib.hid htm
    replace hback := Lib.hid hback
    replace hoth := Lib.hid hoth
    replace ht := Lib.hid ht
    refine hK.out _ _ hT5.out.new ?_
    clear hK K
    refine WO.end_ ?_
    simp only [picks]
    refine wpQuiet_nil ?_
    clear hC L77 hV4
    have z5 : b < w5.heap.size := by have := hT5.out.v0; have := hT5.out.vw; omega
    cases hop : s.opn with
    | true =>
      rw [hop] at k3
      by_cases f1 : (s.put q inc p.wish).heard = (s.put q inc p.wish).own.vec
      ·
        have hans := Lib.hid (show s.take q inc p = (false, 0, s.put q inc p.wish) by rw [htk.out, if_neg (Int.not_lt.2 c1'.out), if_neg c2'.out, if_pos hop, if_pos f1])
        try rw [← ht.out] at hans
        replace hop := Lib.hid hop
        have g1 : (t.heard == t.own.vec) = true := by rw [ht.out]; simp [f1]
        have f1' := Lib.hid f1
        clear f1
        go_wp2_with (first
          | (go_at_call 53
             refine (heard_any b t M cM w5 hT5.out.at_ z5 (by rw [htn.out]; exact hn) hIt.out.self).mono ?_
             rintro e w6 ⟨rfl, hb6⟩
             have hT6 := Lib.hid (hT5.out.below hb hb6)
             have z6 := hb6.size
             clear k3)
          | (refine wpList_alloc94 rfl rfl ?_)
          | (refine wpList_store94 rfl (.tmp 13) (.tmp 87) rfl w6.heap.size 0 (by rfl) t.heard (by rfl) (by have := there_new w6 (arr zeros) 94; rwa [size_arr, len_zeros] at this) (len_heard t) ?_
             intro w7 hw7
             have r7 : w7.rangeAt w6.heap.size 0 (ints t.heard) := by rw [hw7.out]; exact World.rangeAt_setCells_same _ _ _ _ (by rw [len_ints, len_heard]; have := there_new w6 (arr zeros) 94; rwa [size_arr, len_zeros] at this)
             have hb67 : Below w6.heap.size w6 w7 := by rw [hw7.out]; exact below_sets ((Below.refl _ _).alloc (Nat.le_refl _) _) (Nat.le_refl _) _ _ (by simp)
             have z7 : w6.heap.size < w7.heap.size := by rw [hw7.out, size_sets]; simp
             have hT7 := Lib.hid (hT6.out.below hb hb67)
             replace r7 := Lib.hid r7)
          | fail)
        have rn := fun W : World => run_eql_arr W t.heard t.own.vec (len_heard t) hIt.out.own.vec
        try simp only [Act.put, List.setIfInBounds_toArray, List.set_cons_zero, List.set_cons_succ]
        refine wp_region_quiet_lit (by kernel_rfl) (by kernel_rfl) ?_
        repeat (first
          | go_big_quiet_skip
          | (refine wpQuiet_load94 (by rfl) (.tmp 13) rfl w6.heap.size 0 (by rfl) _ r7.out (len_heard t) ?_; go_simp)
          | (refine wpQuiet_load94 (by rfl) (.tmp 92) rfl b 20 (by rfl) _ hT7.out.at_.vec hIt.out.own.vec ?_; go_simp)
          | go_big_quiet_step (fail))
        refine wpQuiet_nil ?_
        first | rintro _ ⟨nq, rfl⟩ | intro nq
        have hT8 := Lib.hid (hT7.out.below hb (below_drewN (Below.refl _ _) nq))
        go_wp2
        go_ret2
        exact ⟨by rw [hans.out]; rfl, by rw [hans.out]; exact ⟨hT8.out.at_, hT8.out.grown⟩⟩
      · by_cases f2 : (s.put q inc p.wish).own.rev < 4611686018427387904
        ·
          have hans := Lib.hid (show s.take q inc p = (false, 0, { (s.put q inc p.wish) with own := { (s.put q inc p.wish).own with vec := (s.put q inc p.wish).heard, rev := (s.put q inc p.wish).own.rev + 1 } }) by rw [htk.out, if_neg (Int.not_lt.2 c1'.out), if_neg c2'.out, if_pos hop, if_neg f1, if_pos f2])
          try rw [← ht.out] at hans
          replace hop := Lib.hid hop
          have g1 : (t.heard == t.own.vec) = false := by rw [ht.out]; simp [f1]
          have g2 : decide (t.own.rev < 4611686018427387904) = true := by rw [ht.out]; exact decide_eq_true f2
          have g3 : t.own.rev < 4611686018427387904 := by rw [ht.out]; exact f2
          have g4 := hIt.out.own.rev
          have hwr : IntKind.i64.wrap (t.own.rev + 1) = t.own.rev + 1 := by rw [IntKind.wrap_i64]; omega
          replace f1 := Lib.hid f1
          replace f2 := Lib.hid f2
          go_wp2_with (first
            | (go_at_call 53
               refine (heard_any b t M cM w5 hT5.out.at_ z5 (by rw [htn.out]; exact hn) hIt.out.self).mono ?_
               rintro e w6 ⟨rfl, hb6⟩
               have hT6 := Lib.hid (hT5.out.below hb hb6)
               have z6 := hb6.size
               clear k3)
            | (refine wpList_alloc94 rfl rfl ?_)
            | (refine wpList_store94 rfl (.tmp 13) (.tmp 87) rfl w6.heap.size 0 (by rfl) t.heard (by rfl) (by have := there_new w6 (arr zeros) 94; rwa [size_arr, len_zeros] at this) (len_heard t) ?_
               intro w7 hw7
               have r7 : w7.rangeAt w6.heap.size 0 (ints t.heard) := by rw [hw7.out]; exact World.rangeAt_setCells_same _ _ _ _ (by rw [len_ints, len_heard]; have := there_new w6 (arr zeros) 94; rwa [size_arr, len_zeros] at this)
               have hb67 : Below w6.heap.size w6 w7 := by rw [hw7.out]; exact below_sets ((Below.refl _ _).alloc (Nat.le_refl _) _) (Nat.le_refl _) _ _ (by simp)
               have z7 : w6.heap.size < w7.heap.size := by rw [hw7.out, size_sets]; simp
               have hT7 := Lib.hid (hT6.out.below hb hb67)
               replace r7 := Lib.hid r7)
            | fail)
          have rn := fun W : World => run_eql_arr W t.heard t.own.vec (len_heard t) hIt.out.own.vec
          try simp only [Act.put, List.setIfInBounds_toArray, List.set_cons_zero, List.set_cons_succ]
          refine wp_region_quiet_lit (by kernel_rfl) (by kernel_rfl) ?_
          repeat (first
            | go_big_quiet_skip
            | (refine wpQuiet_load94 (by rfl) (.tmp 13) rfl w6.heap.size 0 (by rfl) _ r7.out (len_heard t) ?_; go_simp)
            | (refine wpQuiet_load94 (by rfl) (.tmp 92) rfl b 20 (by rfl) _ hT7.out.at_.vec hIt.out.own.vec ?_; go_simp)
            | go_big_quiet_step (fail))
          refine wpQuiet_nil ?_
          first | rintro _ ⟨nq, rfl⟩ | intro nq
          have hT8 := Lib.hid (hT7.out.below hb (below_drewN (Below.refl _ _) nq))
          have k7 : w7.cell? ⟨b, 37, none⟩ = some (.int .i64 t.own.rev) := hT7.out.at_.rev
          go_wp2_with (first
            | (refine wpList_load94 rfl (.tmp 13) rfl w6.heap.size 0 (by rfl) t.heard (by exact r7.out) (len_heard t) ?_)
            | (refine wpList_store94 rfl (.tmp 105) (.tmp 102) rfl b 20 (by rfl) t.heard (by rfl) (World.there.at hT8.out.at_.there (by omega)) (len_heard t) ?_
               intro w9 hw9
               have h9 := hT8.out.at_.setVec t.heard (len_heard t)
               rw [← hw9.out] at h9
               have g9 : w.grownBy w9 (some b) := by rw [hw9.out]; exact hT8.out.grown.trans (grown_sets _ _ _ _)
               have k9 : w9.cell? ⟨b, 37, none⟩ = some (.int .i64 t.own.rev) := h9.rev
               have f9 : w9.frozen? ⟨b, 37, none⟩ = false := there_frozen (k := 37) h9.there (by omega)
               have h10 := h9.setRev (t.own.rev + 1)
               have g10 := g9.trans (grown_cell w9 b 37 (.int .i64 (t.own.rev + 1)))
               replace h9 := Lib.hid h9
               replace h10 := Lib.hid h10
               replace g10 := Lib.hid g10
               clear k7)
            | fail)
          go_ret2
          exact ⟨by rw [hans.out]; rfl, by rw [hans.out]; exact ⟨h10.out, g10.out⟩⟩
        ·
          have hans := Lib.hid (show s.take q inc p = (false, 3, s) by rw [htk.out, if_neg (Int.not_lt.2 c1'.out), if_neg c2'.out, if_pos hop, if_neg f1, if_neg f2])
          try rw [← ht.out] at hans
          replace hop := Lib.hid hop
          have g1 : (t.heard == t.own.vec) = false := by rw [ht.out]; simp [f1]
          have g2 : decide (t.own.rev < 4611686018427387904) = false := by rw [ht.out]; exact decide_eq_false (by omega)
          replace f1 := Lib.hid f1
          replace f2 := Lib.hid f2
          go_wp2_with (first
            | (go_at_call 53
               refine (heard_any b t M cM w5 hT5.out.at_ z5 (by rw [htn.out]; exact hn) hIt.out.self).mono ?_
               rintro e w6 ⟨rfl, hb6⟩
               have hT6 := Lib.hid (hT5.out.below hb hb6)
               have z6 := hb6.size
               clear k3)
            | (refine wpList_alloc94 rfl rfl ?_)
            | (refine wpList_store94 rfl (.tmp 13) (.tmp 87) rfl w6.heap.size 0 (by rfl) t.heard (by rfl) (by have := there_new w6 (arr zeros) 94; rwa [size_arr, len_zeros] at this) (len_heard t) ?_
               intro w7 hw7
               have r7 : w7.rangeAt w6.heap.size 0 (ints t.heard) := by rw [hw7.out]; exact World.rangeAt_setCells_same _ _ _ _ (by rw [len_ints, len_heard]; have := there_new w6 (arr zeros) 94; rwa [size_arr, len_zeros] at this)
               have hb67 : Below w6.heap.size w6 w7 := by rw [hw7.out]; exact below_sets ((Below.refl _ _).alloc (Nat.le_refl _) _) (Nat.le_refl _) _ _ (by simp)
               have z7 : w6.heap.size < w7.heap.size := by rw [hw7.out, size_sets]; simp
               have hT7 := Lib.hid (hT6.out.below hb hb67)
               replace r7 := Lib.hid r7)
            | fail)
          have rn := fun W : World => run_eql_arr W t.heard t.own.vec (len_heard t) hIt.out.own.vec
          try simp only [Act.put, List.setIfInBounds_toArray, List.set_cons_zero, List.set_cons_succ]
          refine wp_region_quiet_lit (by kernel_rfl) (by kernel_rfl) ?_
          repeat (first
            | go_big_quiet_skip
            | (refine wpQuiet_load94 (by rfl) (.tmp 13) rfl w6.heap.size 0 (by rfl) _ r7.out (len_heard t) ?_; go_simp)
            | (refine wpQuiet_load94 (by rfl) (.tmp 92) rfl b 20 (by rfl) _ hT7.out.at_.vec hIt.out.own.vec ?_; go_simp)
            | go_big_quiet_step (fail))
          refine wpQuiet_nil ?_
          first | rintro _ ⟨nq, rfl⟩ | intro nq
          have hT8 := Lib.hid (hT7.out.below hb (below_drewN (Below.refl _ _) nq))
          have k7 : w7.cell? ⟨b, 37, none⟩ = some (.int .i64 t.own.rev) := hT7.out.at_.rev
          go_wp2
          try simp only [Act.put, List.setIfInBounds_toArray, List.set_cons_zero, List.set_cons_succ]
          have hS8 := hT8.out.below hb (Below.drew (Below.refl _ _))
          have hV8 := hS8.old
          have hC : ∀ x' : Prop, (∀ W, LVar W o (s.lt q) → x') ↔ x' := fun x' => ⟨fun f => f _ hV8, fun f _ _ => f⟩
          have L131 : ∀ W, LVar W o (s.lt q) → (loadVar 98 ⟨o, 0, none⟩).run Try.prog W = .ok (.agg (ltA (s.lt q))) W := fun W hW => run_loadVar98 W o 0 (s.lt q) hW.rng hol
          replace L131 := Lib.hid L131
          replace hS8 := Lib.hid hS8
          replace hV8 := Lib.hid hV8
          refine wp_region_ord [([0, 1, 2, 3, 4, 5], 6)] [] (fun W => LVar W o (s.lt q)) rfl (by kernel_rfl) rfl hV8.out ?_
          refine WO.seg rfl ?_ hV8.out
          simp only [picks, pick, List.cons_append, List.nil_append, List.append_nil]
          repeat (first
            | go_big_quiet_skip
            | (refine wpQuiet_loadC (by rfl) 98 (.tmp 12) rfl o 0 (by rfl) _ L131.out ?_; simp only [Act.put, List.setIfInBounds_toArray, List.set_cons_zero, List.set_cons_succ])
            | go_big_quiet_step (fail))
          refine wpQuiet_nil ?_
          intro K hK
          rw [if_pos (by rfl)]
          refine wp_store98 (.tmp 134) (.tmp 131) rfl rfl b (43 + q * 40) (by rfl) (s.lt q) (by rfl) (World.there.at hS8.out.at_.there (by omega)) hol ?_
          intro w9 hw9
          have h9 : AgAt w9 b s M cM := by
            have := hS8.out.at_.setLt q hq16 hoth.out (s.lt q) hol.l1 hol.l2
            rw [hback.out] at this
            rw [hw9.out]; exact this
          have g9 : w.grownBy w9 (some b) := by rw [hw9.out]; exact hS8.out.grown.trans (grown_sets _ _ _ _)
          have v9 : LVar w9 o (s.lt q) := by rw [hw9.out]; exact hV8.out.same ((grown_sets _ _ _ _).block o hS8.out.ow (by intro e; injection e with e; have := hS8.out.o0; omega))
          refine hK.out _ _ v9 ?_
          clear hK K
          refine WO.end_ ?_
          simp only [picks]
          refine wpQuiet_nil ?_
          clear hC
          go_wp2
          go_ret2
          exact ⟨by rw [hans.out]; rfl, by rw [hans.out]; exact ⟨h9, g9⟩⟩
    | false =>
      rw [hop] at k3
      by_cases f1 : leavesB (s.put q inc p.wish).mem q inc p.cid = false
      ·
        have hans := Lib.hid (show s.take q inc p = (false, 0, s.put q inc p.wish) by rw [htk.out, if_neg (Int.not_lt.2 c1'.out), if_neg c2'.out, if_neg (by rw [hop]; decide), if_pos f1])
        have f1' := Lib.hid f1
        clear f1
        try rw [← ht.out] at hans
        replace hop := Lib.hid hop
        have k32 : w5.cell? ⟨v, 32, none⟩ = some (.int .i64 p.cid) := hT5.out.new.cells.2.2.1
        have hrow5 := hM.out w5 hT5.out.grown
        rw [← htm.out] at hrow5
        replace hrow5 := Lib.hid hrow5
        go_wp2_with (first
          | (go_at_call 54
             refine (leaving_any b t M cM w5.heap.size q inc p.cid w5 hT5.out.at_ z5 (Nat.le_refl _) hrow5.out (by rw [htm.out]; omega)).mono ?_
             rintro e w6 ⟨rfl, hb6⟩
             rw [show leavesB t.mem q inc p.cid = false by rw [ht.out]; exact f1'.out]
             have hT6 := Lib.hid (hT5.out.below hb hb6)
             have z6 := hb6.size
             clear k3 k32)
          | fail)
        go_ret2
        exact ⟨by rw [hans.out]; rfl, by rw [hans.out]; exact ⟨hT6.out.at_, hT6.out.grown⟩⟩
      · by_cases f2 : (s.put q inc p.wish).spent = true
        ·
          have hans := Lib.hid (show s.take q inc p = (false, 3, s) by rw [htk.out, if_neg (Int.not_lt.2 c1'.out), if_neg c2'.out, if_neg (by rw [hop]; decide), if_neg f1, if_pos f2])
          have f1' : Hid (leavesB (s.put q inc p.wish).mem q inc p.cid = true) := Lib.hid (by simpa using f1)
          clear f1
          try rw [← ht.out] at hans
          replace hop := Lib.hid hop
          replace f2 := Lib.hid f2
          have k32 : w5.cell? ⟨v, 32, none⟩ = some (.int .i64 p.cid) := hT5.out.new.cells.2.2.1
          have hrow5 := hM.out w5 hT5.out.grown
          rw [← htm.out] at hrow5
          replace hrow5 := Lib.hid hrow5
          go_wp2_with (first
            | (go_at_call 54
               refine (leaving_any b t M cM w5.heap.size q inc p.cid w5 hT5.out.at_ z5 (Nat.le_refl _) hrow5.out (by rw [htm.out]; omega)).mono ?_
               rintro e w6 ⟨rfl, hb6⟩
               rw [show leavesB t.mem q inc p.cid = true by rw [ht.out]; exact f1'.out]
               have hT6 := Lib.hid (hT5.out.below hb hb6)
               have z6 := hb6.size
               clear k3 k32)
            | (refine wpList_load94 rfl (.tmp 126) rfl b 4 (by rfl) t.own.set hT6.out.at_.set hIt.out.own.set ?_)
            | (go_at_call 55
               refine (begin_no b t M cM t.own.set w6 hT6.out.at_ (by omega) (by rw [ht.out]; exact f2.out)).mono ?_
               rintro e w7 ⟨rfl, hb7⟩
               have hT7 := Lib.hid (hT6.out.below hb hb7))
            | fail)
          try simp only [Act.put, List.setIfInBounds_toArray, List.set_cons_zero, List.set_cons_succ]
          have hS8 := hT7.out.below hb (Below.drew (Below.refl _ _))
          have hV8 := hS8.old
          have hC : ∀ x' : Prop, (∀ W, LVar W o (s.lt q) → x') ↔ x' := fun x' => ⟨fun f => f _ hV8, fun f _ _ => f⟩
          have L131 : ∀ W, LVar W o (s.lt q) → (loadVar 98 ⟨o, 0, none⟩).run Try.prog W = .ok (.agg (ltA (s.lt q))) W := fun W hW => run_loadVar98 W o 0 (s.lt q) hW.rng hol
          replace L131 := Lib.hid L131
          replace hS8 := Lib.hid hS8
          replace hV8 := Lib.hid hV8
          refine wp_region_ord [([0, 1, 2, 3, 4, 5], 6)] [] (fun W => LVar W o (s.lt q)) rfl (by kernel_rfl) rfl hV8.out ?_
          refine WO.seg rfl ?_ hV8.out
          simp only [picks, pick, List.cons_append, List.nil_append, List.append_nil]
          repeat (first
            | go_big_quiet_skip
            | (refine wpQuiet_loadC (by rfl) 98 (.tmp 12) rfl o 0 (by rfl) _ L131.out ?_; simp only [Act.put, List.setIfInBounds_toArray, List.set_cons_zero, List.set_cons_succ])
            | go_big_quiet_step (fail))
          refine wpQuiet_nil ?_
          intro K hK
          rw [if_pos (by rfl)]
          refine wp_store98 (.tmp 134) (.tmp 131) rfl rfl b (43 + q * 40) (by rfl) (s.lt q) (by rfl) (World.there.at hS8.out.at_.there (by omega)) hol ?_
          intro w9 hw9
          have h9 : AgAt w9 b s M cM := by
            have := hS8.out.at_.setLt q hq16 hoth.out (s.lt q) hol.l1 hol.l2
            rw [hback.out] at this
            rw [hw9.out]; exact this
          have g9 : w.grownBy w9 (some b) := by rw [hw9.out]; exact hS8.out.grown.trans (grown_sets _ _ _ _)
          have v9 : LVar w9 o (s.lt q) := by rw [hw9.out]; exact hV8.out.same ((grown_sets _ _ _ _).block o hS8.out.ow (by intro e; injection e with e; have := hS8.out.o0; omega))
          refine hK.out _ _ v9 ?_
          clear hK K
          refine WO.end_ ?_
          simp only [picks]
          refine wpQuiet_nil ?_
          clear hC
          go_wp2
          go_ret2
          exact ⟨by rw [hans.out]; rfl, by rw [hans.out]; exact ⟨h9, g9⟩⟩
        ·
          have hans := Lib.hid (show s.take q inc p = (true, 0, (s.put q inc p.wish).begin_ (s.put q inc p.wish).own.set) by rw [htk.out, if_neg (Int.not_lt.2 c1'.out), if_neg c2'.out, if_neg (by rw [hop]; decide), if_neg f1, if_neg f2])
          have f1' : Hid (leavesB (s.put q inc p.wish).mem q inc p.cid = true) := Lib.hid (by simpa using f1)
          clear f1
          try rw [← ht.out] at hans
          replace hop := Lib.hid hop
          replace f2 := Lib.hid f2
          have k32 : w5.cell? ⟨v, 32, none⟩ = some (.int .i64 p.cid) := hT5.out.new.cells.2.2.1
          have hrow5 := hM.out w5 hT5.out.grown
          rw [← htm.out] at hrow5
          replace hrow5 := Lib.hid hrow5
          go_wp2_with (first
            | (go_at_call 54
               refine (leaving_any b t M cM w5.heap.size q inc p.cid w5 hT5.out.at_ z5 (Nat.le_refl _) hrow5.out (by rw [htm.out]; omega)).mono ?_
               rintro e w6 ⟨rfl, hb6⟩
               rw [show leavesB t.mem q inc p.cid = true by rw [ht.out]; exact f1'.out]
               have hT6 := Lib.hid (hT5.out.below hb hb6)
               have z6 := hb6.size
               clear k3 k32)
            | (refine wpList_load94 rfl (.tmp 126) rfl b 4 (by rfl) t.own.set hT6.out.at_.set hIt.out.own.set ?_)
            | (go_at_call 55
               refine (begin_yes b t M cM t.own.set w6 hT6.out.at_ (by omega) hIt.out (by rw [ht.out]; simpa using f2.out) hIt.out.own.set).mono ?_
               rintro e w7 ⟨rfl, h7, g7⟩)
            | fail)
          go_ret2
          exact ⟨by rw [hans.out]; rfl, by rw [hans.out]; exact ⟨h7, hT6.out.grown.trans g7⟩⟩
theorem take_any (b : Nat) (s : St) (M : Option Addr) (cM : Nat) (S V : Option Addr) (cS cV N : Nat) (p : Pr) (q inc : Int) (w : World) (h : AgAt w b s M cM) (hb : b < w.heap.size) (hI : Inv s)
    (hN : N ≤ w.heap.size) (hS : RowAt w N 1 eInt S p.set) (hV : RowAt w N 1 eInt V p.vec) (hl1 : p.set.length ≤ 9223372036854775807) (hl2 : p.vec.length ≤ 9223372036854775807) (hM : ∀ W, w.grownBy W (some b) → RowAt W W.heap.size 3 eMb M s.mem) (hml : s.mem.length ≤ 16) :
    Calls Try.prog 36 #[.pointer (some ⟨b, 0, none⟩), .int .i64 q, .int .i64 inc, .agg (prA S V cS cV p)] w fun x w' => x = .returned (.tuple #[.bool (s.take q inc p).1, .int .i64 (s.take q inc p).2.1]) ∧ Left w w' b (s.take q inc p).2.2 M cM := by
  by_cases hc : q < 0 ∨ (s.n : Int) ≤ q ∨ q = s.self ∨ inc < 1 ∨ 4611686018427387904 < inc
  · have e : s.take q inc p = (false, 1, s) := by unfold St.take; rw [if_pos hc]
    rw [e]
    exact take_bad b s M cM S V cS cV p q inc w h hb hc
  · obtain ⟨k, rfl⟩ := Int.eq_ofNat_of_zero_le (show 0 ≤ q by omega)
    have k1 : k < s.n := by omega
    have k2 : k ≠ s.self := by omega
    have i1 : 1 ≤ inc := by omega
    have i2 : inc ≤ 4611686018427387904 := by omega
    cases hg : p.goodB k inc s.n with
    | false =>
      have e : s.take k inc p = (false, 60, s) := by unfold St.take; rw [if_neg hc, if_pos (by rw [Int.toNat_natCast]; exact hg)]
      rw [e]
      exact take_unfit b s M cM S V cS cV N p k inc w h hb hI k1 k2 i1 i2 hN hS hV hl1 hl2 hg
    | true =>
      by_cases c1 : inc < (s.lt k).inc
      · exact take_old b s M cM S V cS cV N p k inc w h hb hI k1 k2 i1 i2 hN hS hV hl1 hl2 hg hM hml c1
      · by_cases c2 : (s.lt k).inc = inc ∧ p.rev ≤ (s.lt k).w.rev
        · exact take_stale b s M cM S V cS cV N p k inc w h hb hI k1 k2 i1 i2 hN hS hV hl1 hl2 hg hM hml c1 c2.1 c2.2
        · exact take_fits b s M cM S V cS cV N p k inc w h hb hI k1 k2 i1 i2 hN hS hV hl1 hl2 hg hM hml c1 c2
end Go.Proofs.Ytfbeggdbjpmppaa
namespace Go.Proofs.Ytfbeggdbjpmppaa
open Go.RowKit
theorem Owns.there {w : World} {base g c : Nat} {l : List Int} (h : Owns w base 3 1 eInt (some ⟨g, 0, none⟩) c l) : w.there g 0 l.length := fun j hj => by
  rw [Nat.zero_add]
  refine ⟨?_, World.ownsRow.frozenAt h j⟩
  rw [World.ownsRow.cellAt h j (by omega)]
  rw [List.getElem?_eq_getElem (by rw [length_flat len_eInt]; omega)]; rfl
theorem viSame_refl (v : Vid) (ms : List Mb) : viSame v ms v ms = true := by unfold viSame vidEq; simp
theorem estimate_any' (b : Nat) (s : St) (M : Option Addr) (cM : Nat) (A : Option Addr) (cA N n : Nat) (l : List Int) (w : World) (hn : l.length = n) (h : AgAt w b s M cM) (hb : b < w.heap.size) (hI : Inv s) (hN : N ≤ w.heap.size) (hA : RowAt w N 1 eInt A l) (hl : n ≤ 9223372036854775807) :
    Calls Try.prog 37 #[.pointer (some ⟨b, 0, none⟩), .slice A n cA] w fun x w' => x = .returned (.tuple #[.bool (s.estimate l).1, .int .i64 (s.estimate l).2.1]) ∧ Left w w' b (s.estimate l).2.2 M cM := by
  subst hn
  exact estimate_any b s M cM A cA N l w h hb hI hN hA hl
theorem row_prefix {w : World} {N : Nat} {A : Option Addr} {l m : List Int} (h : RowAt w N 1 eInt A (l ++ m)) : RowAt w N 1 eInt A l := fun h0 => by
  obtain ⟨b, off, e, hb, hc⟩ := h (by rw [List.length_append]; omega)
  exact ⟨b, off, e, hb, fun k x hx j u hu => hc k x (by rw [List.getElem?_append_left (List.getElem?_eq_some_iff.1 hx).1]; exact hx) j u hu⟩
end Go.Proofs.Ytfbeggdbjpmppaa
namespace Go.Proofs.Ytfbeggdbjpmppaa
open Go.RowKit Go.Deep Go.ChangeShapes Go.WideShapes
theorem exists_list {α : Type} {P : Nat → α → Prop} : ∀ n, (∀ i, i < n → ∃ x, P i x) → ∃ l : List α, l.length = n ∧ ∀ k x, l[k]? = some x → P k x
  | 0, _ => ⟨[], rfl, by intro k x h; simp at h⟩
  | n + 1, h => by
    obtain ⟨l, hl, hp⟩ := exists_list n (fun i hi => h i (by omega))
    obtain ⟨x, hx⟩ := h n (by omega)
    refine ⟨l ++ [x], by simp [hl], fun k y hy => ?_⟩
    by_cases hk : k < l.length
    · rw [List.getElem?_append_left hk] at hy; exact hp k y hy
    · rw [List.getElem?_append_right (by omega)] at hy
      have := (List.getElem?_eq_some_iff.1 hy).1
      obtain rfl : k = n := by simp at this; omega
      rw [hl] at hy; simp at hy; subst hy; exact hx
theorem cell_lt {w : World} {a : Addr} {u : Value} (h : w.cell? a = some u) : a.block < w.heap.size ∧ a.spot = none := by
  refine ⟨World.block_lt_of_cell? w a h, ?_⟩
  unfold World.cell? at h
  split at h
  · cases hs : a.spot with
    | none => rfl
    | some x => rw [hs] at h; simp at h
  · cases h
namespace bulks
theorem one_le {H : Type} (d : DataW H) : 1 ≤ Rows.uptoBulk d := by
  cases d with
  | lit l => cases l <;> simp [Rows.uptoBulk]
  | nil => simp [Rows.uptoBulk]
  | ptr d => simp [Rows.uptoBulk]
  | slice elems spare => simp [Rows.uptoBulk]
  | agg parts => simp [Rows.uptoBulk]
  | iface t d => simp [Rows.uptoBulk]
  | map entries => simp [Rows.uptoBulk]
  | held h => simp [Rows.uptoBulk]
theorem part_le {H : Type} {d : DataW H} {l : List (DataW H)} (h : d ∈ l) : Rows.uptoBulk d ≤ Rows.uptoBulkAll l := by
  induction l with
  | nil => cases h
  | cons x r ih =>
    simp only [Rows.uptoBulkAll]
    cases List.mem_cons.1 h with
    | inl e => subst e; omega
    | inr e => have := ih e; omega
theorem two_le {H : Type} : ∀ (l : List (DataW H)), (∀ d ∈ l, 2 ≤ Rows.uptoBulk d) → l.length * 2 ≤ Rows.uptoBulkAll l
  | [], _ => by simp
  | d :: l, h => by
    have h1 := h d (List.mem_cons_self ..)
    have h2 := two_le l (fun x hx => h x (List.mem_cons_of_mem _ hx))
    simp only [Rows.uptoBulkAll, List.length_cons]; omega
theorem length_le {H : Type} (l : List (DataW H)) : l.length ≤ Rows.uptoBulkAll l := by
  induction l with
  | nil => simp [Rows.uptoBulkAll]
  | cons x r ih => have := one_le x; simp only [Rows.uptoBulkAll, List.length_cons]; omega
theorem slice_part {H : Type} {d : DataW H} {elems spare : List (DataW H)} (h : d ∈ elems) : Rows.uptoBulk d ≤ Rows.uptoBulk (.slice elems spare) := by
  have h1 := part_le h
  simp only [Rows.uptoBulk]; omega
end bulks
section
variable {H : Type} {enc : TypeId × Value → H} {P : Program} {W : World} {sp : Nat → Bool}
theorem open_row2 {α : Type} {t e : TypeId} {sz : Nat} (ht : P.underlying t = some (.slice e)) (hc : P.cellsOf e = sz) (hsz : 0 < sz) (ec : α → List Value) (Q : α → Nat → Prop)
    (hq2 : ∀ y b, Q y b → 2 ≤ b) (helem : ∀ (n : Nat) (cs : List Value) (y : DataW H × List MemPlace), DataW.trod enc P W 0 sp true n e cs = some y → ∃ x, cs = ec x ∧ Q x (Rows.uptoBulk y.1))
    {fuel : Nat} {v : Value} {x : DataW H × List MemPlace} (h : DataW.trod enc P W 0 sp true fuel t [v] = some x) :
    ∃ (A : Option Addr) (l : List α) (c : Nat), v = .slice A l.length c ∧ RowAt W W.heap.size sz ec A l ∧ l.length ≤ c ∧ c ≤ 9223372036854775807 ∧ l.length * 2 ≤ Rows.uptoBulk x.1 ∧ ∀ y ∈ l, ∃ b, b ≤ Rows.uptoBulk x.1 ∧ Q y b := by
  rcases open_slice ht h with ⟨h1, rfl⟩ | ⟨a, len, cap, m, n, D, Pl, h1, _, hl, hm, hmm, rfl, hi⟩
  · obtain rfl := (List.cons.inj h1).1
    exact ⟨none, [], 0, rfl, fun h => absurd h (by simp), by simp, by omega, by simp, by simp⟩
  · obtain rfl := (List.cons.inj h1).1
    obtain ⟨l, hll, hp⟩ := exists_list (P := fun i (y : α) => W.cells? 0 (a.add (i * sz)) sz = some (ec y) ∧ Q y (Rows.uptoBulk (D i))) len (fun i hil => by
      obtain ⟨cs, h2, h3⟩ := hi i (by rw [hmm]; split <;> omega)
      obtain ⟨y, rfl, hq⟩ := helem n cs _ h3
      rw [hc] at h2
      exact ⟨y, h2, hq⟩)
    refine ⟨some a, l, cap, by rw [hll], fun h0 => ?_, by omega, by unfold maxLen at hm; omega, ?_, fun y hy => ?_⟩
    · have g0 := hp 0 l[0] (List.getElem?_eq_getElem h0)
      obtain ⟨_, hlen, hcell⟩ := World.cells?_some g0.1
      have c0 := hcell 0 hsz
      have e0 : (a.add (0 * sz)).add 0 = a := by simp [Addr.add]
      rw [e0, List.getElem?_eq_getElem (by omega)] at c0
      obtain ⟨hb, hs⟩ := cell_lt c0
      have ha : a = ⟨a.block, a.off, none⟩ := by cases a; simp at hs; simp [hs]
      refine ⟨a.block, a.off, by rw [← ha], hb, fun k y hk j u hu => ?_⟩
      obtain ⟨g1, _⟩ := hp k y hk
      obtain ⟨_, hlen', hcell'⟩ := World.cells?_some g1
      have hj : j < sz := by have := (List.getElem?_eq_some_iff.1 hu).1; omega
      have := hcell' j hj
      rw [hu, ha, Addr.add_lit, Addr.add_lit] at this
      exact this
    · have := bulks.two_le ((List.range len).map D) (fun d hd => by
        obtain ⟨k, hk, rfl⟩ := List.mem_map.1 hd
        have hkl := List.mem_range.1 hk
        exact hq2 _ _ (hp k l[k] (List.getElem?_eq_getElem (by omega))).2)
      rw [List.length_map, List.length_range] at this
      rw [hll]
      simp only [Rows.uptoBulk]; omega
    · obtain ⟨k, hk⟩ := List.mem_iff_getElem?.1 hy
      have hkl := (List.getElem?_eq_some_iff.1 hk).1
      refine ⟨_, bulks.slice_part (List.mem_map.2 ⟨k, List.mem_range.2 (by omega), rfl⟩), (hp k y hk).2⟩
end
theorem cells3' : Try.prog.cellsOf 3 = 1 := by kernel_rfl
section
variable {H : Type} {enc : TypeId × Value → H} {W : World} {sp : Nat → Bool}
end
end Go.Proofs.Ytfbeggdbjpmppaa
namespace Go.Proofs.Ytfbeggdbjpmppaa
open Go.ChangeShapes Go.WideShapes Go.ChangeAt Go.RowKit
section
variable {H : Type} {enc : TypeId × Value → H} {P : Program}
theorem post_of_below {f : Func} {s : ChangeSpec} {apart fresh handsOn again : Bool} {W W' : World} {args : Array Value} {v : Value} {ds gs : List (DataW H)} {before pa pv : List MemPlace}
    (hW : DataW.Whole enc P f.params.toList s.vars apart W args.toList ds gs before)
    (hres : ∀ (b : Nat) (sp : Nat → Bool) (hd : Bool), DataW.TrodAll enc P W' b sp hd f.resultTypes.toList (v.resultList f.resultTypes.size) (s.fn H (ds ++ gs)).results [])
    (hargs : ∀ sp : Nat → Bool, (∀ p ∈ before, sp p.block = true) → DataW.TrodAll enc P W' 0 sp true f.params.toList args.toList (s.fn H (ds ++ gs)).args pa)
    (hvars : ∀ sp : Nat → Bool, (∀ p ∈ before, sp p.block = true) → DataW.TrodVars enc P W' sp s.vars (s.fn H (ds ++ gs)).vars pv)
    (hps : before = pa ++ pv) (hb : Below W.heap.size W W')
    (hok : ∀ (j : Nat) (t : TypeId) (r : Value), f.resultTypes[j]? = some t → (v.resultList f.resultTypes.size)[j]? = some r → Value.okWide P W' .any 0 t r) :
    s.post enc P f apart fresh handsOn again W args v W' := by
  have hlt : ∀ p ∈ before, p.block < W.heap.size := fun p hp => hW.lt p hp
  have hold : ∀ p ∈ before, (fun b => decide (b < W.heap.size)) p.block = true := fun p hp => by simpa using hlt p hp
  refine ⟨ds, gs, before, [], pa, pv, hW, hres _ _ _, hargs _ hold, hvars _ hold, World.keptBut_mono (fun p hp => ⟨hp, ?_⟩) (hb.frame (· ∈ before)), fun _ => ?_⟩
  · rw [hps, List.mem_append] at hp
    exact Or.inr hp
  · obtain ⟨_, _, _, _, _, hz, hn⟩ := hW
    refine ⟨hok, _, _, ([] ++ pa) ++ pv, ⟨[] ++ pa, pv, trodAll_append (hargs _ (fun _ _ => rfl)) (hres _ _ _), hvars _ (fun _ _ => rfl), rfl, ?_, ?_⟩, ?_⟩
    · intro b off hp
      have hin : MemPlace.cell b off ∈ before := by rw [hps]; simpa using hp
      rw [hb.frozen (hlt _ hin)]
      exact hz b off hin
    · intro ha
      have := hn ha
      rw [hps] at this
      simpa using this
    · intro p hp _
      rw [hps]
      simpa using hp
end
theorem own : ownKnob Try.prog.godebug = none := by kernel_rfl
theorem laidOut : laidOutB Try.prog = true := by kernel_rfl
end Go.Proofs.Ytfbeggdbjpmppaa
namespace Go.Proofs.Ytfbeggdbjpmppaa
open Go Go.RowKit
def plainBE (o : Oper) : Bool := match o.op with
  | .move _ | .assign _ | .fieldAddr .. | .indexAddr .. | .load .. | .binOp .. | .unOp .. | .extract .. | .field .. | .index .. | .build .. | .pick .. | .nilCheck _ | .convert .. | .slice .. | .makeFunc .. => true
  | .call { callee := .builtin .len, .. } => true
  | _ => false
section
variable {P : Program} {ops : Array Oper} {md : Region.Mode} {S : World → Prop} {Q : Exit → Act → World → Prop}
theorem value_vE {s : Sem Value} {w w' : World} {n : Next} (h : (do let r ← s; pure (Next.value r) : Sem Next).run P w = .ok n w') : ∃ u, n = .value u := by
  rw [Sem.run_bind] at h
  generalize s.run P w = r at h
  cases r with
  | ok v w1 => simp [Result.andThen] at h; exact ⟨_, h.1.symm⟩
  | halt x w1 => simp [Result.andThen] at h
theorem plain_valueE {o : Oper} {ev : Operand → Value} {w w' : World} {n : Next} (hp : plainBE o = true) (h : (execOp ev o).run P w = .ok n w') : ∃ u, n = .value u := by
  unfold plainBE at hp
  unfold execOp at h
  cases ho : o.op <;> rw [ho] at hp h <;> simp only [Bool.false_eq_true] at hp <;> dsimp only at h <;> try exact value_vE h
  · simp at h; exact ⟨_, h.1.symm⟩
  · simp at h; exact ⟨_, h.1.symm⟩
  · rename_i c a b
    rw [Sem.run_bind] at h
    generalize (asBool (ev c)).run P w = r at h
    cases r with
    | ok v w1 => simp [Result.andThen] at h; exact ⟨_, h.1.symm⟩
    | halt x w1 => simp [Result.andThen] at h
  · split at h
    · simp [runtimePanic] at h
    · simp [runtimePanic] at h
    · simp [runtimePanic] at h
    · split at h
      · simp [runtimePanic] at h
      · rw [Sem.run_bind] at h
        generalize Sem.run P program w = r at h
        cases r with
        | halt x w1 => simp [Result.andThen] at h
        | ok p w1 =>
          simp only [Result.andThen_ok] at h
          rw [Sem.run_bind] at h
          generalize Sem.run P (nilAhead _ _ _ _) w1 = r at h
          cases r with
          | halt x w2 => simp [Result.andThen] at h
          | ok v w2 =>
            simp only [Result.andThen_ok] at h
            split at h
            · simp [unsupported, Sem.run_bind, Result.andThen] at h
            · simp [Sem.run_bind, Result.andThen] at h; exact ⟨_, h.1.symm⟩
      · simp at h; exact ⟨_, h.1.symm⟩
    · simp at h; exact ⟨_, h.1.symm⟩
  · rename_i cl
    obtain ⟨callee, args, argTypes⟩ := cl
    cases callee <;> first | (simp at hp; done) | skip
    rename_i bi
    cases bi <;> first | (simp at hp; done) | skip
    simp only [resolve, invoke, builtin, Sem.run_bind, Sem.run_pure, Result.andThen_ok] at h
    generalize Sem.run P (Builtin.len_ argTypes o.type (Array.map ev args)) w = r at h
    cases r with
    | ok v w1 => simp [Result.andThen] at h; exact ⟨_, h.1.symm⟩
    | halt x w1 => simp [Result.andThen] at h
theorem yields_of_quietE {o : Oper} {a : Act} {v : Value} (hp : plainBE o = true) (hw : Region.wanted o (yielded ops a.tmps) = true) (h : ∀ w, S w → o.quietAt P a S w v) : YieldsIf P ops S o v a := by
  refine .inl ⟨hw, fun w hS => ?_⟩
  have h1 := h w hS
  unfold Oper.quietAt at h1
  cases hr : (execOp a.eval o).run P w with
  | halt x w' => rw [hr] at h1; exact absurd h1 (by simp [Oper.quietUpon])
  | ok n w' =>
    obtain ⟨u, rfl⟩ := plain_valueE hp hr
    rw [hr] at h1
    obtain ⟨rfl, rfl⟩ := h1
    rfl
end
end Go.Proofs.Ytfbeggdbjpmppaa
namespace Go.Proofs.Ytfbeggdbjpmppaa
open Go Go.RowKit
section
variable {P : Program} {ops : Array Oper} {md : Region.Mode} {S : World → Prop} {Q : Exit → Act → World → Prop}
def wpAnyZE (P : Program) (md : Region.Mode) (ops : Array Oper) (Q : Exit → Act → World → Prop) (S : World → Prop) (z : Nat) : Nat → Array Bool → Act → World → Prop
  | 0, listed, a, w => Region.ready md ops listed = [] ∧ Q .normal a w
  | fuel + 1, listed, a, w =>
    (Region.ready md ops listed = [] → Q .normal a w) ∧
    ∀ i ∈ Region.ready md ops listed, wpOp P ops Q i (fun a' w' => (i = z ∨ S w') ∧ wpAnyZE P md ops Q S z fuel (listed.setIfInBounds i true) a' w') a w
theorem wpAny_of_zE {z : Nat} : ∀ (fuel : Nat) (listed : Array Bool) (a : Act) (w : World), wpAnyZE P md ops Q S z fuel listed a w → wpAny P md ops Q fuel listed a w
  | 0, _, _, _, h => h
  | fuel + 1, _, _, _, h => ⟨h.1, fun i hi => wpOp_mono (fun a' w' h' => wpAny_of_zE fuel _ a' w' h'.2) (h.2 i hi)⟩
theorem wpAnyZ_firstE {i z : Nat} {oi : Oper} {v : Value} (hi : ops[i]? = some oi) (hz : ops.size ≤ z ∨ Region.waitsFor md ops z i = true) (hsel : ∀ (j : Nat) (o : Oper) cs b, ops[j]? = some o → o.op ≠ .select cs b)
    (hQ : ∀ c a w, Q (.panic c) (a.put oi.dst v) w → Q (.panic c) a w) :
    ∀ (fuel : Nat) (listed : Array Bool) (a : Act) (w : World),
      (∀ j oj, ops[j]? = some oj → j ≠ i → listed.getD j true = false → (∀ e ∈ oj.after, Region.binds md e = true → e.on ≠ i) → oi.apart ops oj = true) →
      i ∈ Region.ready md ops listed → YieldsIf P ops S oi v a → S w →
      wpAnyZE P md ops Q S z fuel (listed.setIfInBounds i true) (a.put oi.dst v) w → wpAnyZE P md ops Q S z (fuel + 1) listed a w := by
  intro fuel
  induction fuel with
  | zero =>
    intro listed a w _ hr hy hS H
    refine ⟨fun h => (by rw [h] at hr; cases hr), fun j hj => ?_⟩
    by_cases hji : j = i
    · subst hji; exact hy.wpOp hi hS ⟨.inr hS, H⟩
    · have := ready_mono hj hji
      rw [H.1] at this
      cases this
  | succ fuel ih =>
    intro listed a w hfree hr hy hS H
    refine ⟨fun h => (by rw [h] at hr; cases hr), fun j hj => ?_⟩
    by_cases hji : j = i
    · subst hji; exact hy.wpOp hi hS ⟨.inr hS, H⟩
    · have h1 := H.2 j (ready_mono hj hji)
      obtain ⟨hjun, oj, hoj, hall⟩ := mem_ready.1 hj
      have hnot : ∀ e ∈ oj.after, Region.binds md e = true → e.on ≠ i := fun e he hb heq => by
        have h1 := hall e he hb
        have h0 := (mem_ready.1 hr).1
        rw [heq] at h1
        rcases Nat.lt_or_ge i listed.size with h' | h'
        · simp [h'] at h0 h1; rw [h0] at h1; cases h1
        · simp [Array.getElem?_eq_none h'] at h1
      have hjz : j ≠ z := fun e => by
        subst e
        rcases hz with hz | hz
        · have := (Array.getElem?_eq_some_iff.1 hoj).1; omega
        · obtain ⟨o', ho', e, he, hb, hon⟩ := Region.waitsFor_spec hz
          obtain rfl : o' = oj := Option.some.inj (ho'.symm.trans hoj)
          exact hnot e he hb hon
      have h2 := wpOp_putIf hoj (hfree j oj hoj hji hjun hnot) (fun cs b => hsel i oi cs b hi) (fun cs b => hsel j oj cs b hoj) hQ hy h1
      have hfree' : ∀ k ok, ops[k]? = some ok → k ≠ i → (listed.setIfInBounds j true).getD k true = false →
          (∀ e ∈ ok.after, Region.binds md e = true → e.on ≠ i) → oi.apart ops ok = true := fun k ok hk hki hun hno => by
        refine hfree k ok hk hki ?_ hno
        by_cases hjk : j = k
        · subst hjk; exact hjun
        · rw [getD_set_ne true hjk] at hun; exact hun
      refine wpOp_mono (fun a' w' h3 => ⟨h3.2.1, ih (listed.setIfInBounds j true) a' w' hfree' (ready_mono hr (Ne.symm hji)) h3.1 (h3.2.1.resolve_left hjz) ?_⟩) h2
      rw [Array.setIfInBounds_comm _ _ hji]
      exact h3.2.2
def pickE : List Oper → Nat → List Oper
  | [], _ => []
  | o :: _, 0 => [o]
  | _ :: r, i + 1 => pickE r i
def picksE (l : List Oper) : List Nat → List Oper
  | [] => []
  | i :: r => pickE l i ++ picksE l r
theorem pick_ofE : ∀ {l : List Oper} {i : Nat} {o : Oper}, l[i]? = some o → pickE l i = [o]
  | [], i, o, h => by simp at h
  | x :: r, 0, o, h => by simp at h; rw [pickE, h]
  | x :: r, i + 1, o, h => by rw [pickE]; exact pick_ofE (by simpa using h)
def runBE (md : Region.Mode) (ops : Array Oper) (z : Nat) : Array Bool → List Nat → Option (Array Bool)
  | L, [] => some L
  | L, i :: r => if Region.free md ops L i && (Region.ready md ops L).contains i && decide (i < ops.size) && (ops[i]?.map plainBE == some true) && (decide (ops.size ≤ z) || Region.waitsFor md ops z i) then runBE md ops z (L.setIfInBounds i true) r else none
def segBE (md : Region.Mode) (ops : Array Oper) (z : Nat) (last : List Nat) : Array Bool → List (List Nat × Nat) → Bool
  | L, [] => match runBE md ops z L last with
    | some L' => decide (Region.ready md ops L' = [])
    | none => false
  | L, (is, i) :: r => match runBE md ops z L is with
    | some L' => decide (Region.ready md ops L' = [i]) && decide (i < ops.size) && (decide (i = z → r = [] ∧ last = [])) && segBE md ops z last (L'.setIfInBounds i true) r
    | none => false
def ordBE (md : Region.Mode) (ops : Array Oper) (z : Nat) (segs : List (List Nat × Nat)) (last : List Nat) : Bool := Region.noSelect ops && segBE md ops z last (Array.replicate ops.size false) segs
def woDE (P : Program) (l : List Oper) (z : Nat) (S : World → Prop) (Q : Exit → Act → World → Prop) (last : List Nat) : List (List Nat × Nat) → Act → World → Prop
  | [], a, w => wpQuiet P l.toArray S (fun a' => Q .normal a' w) (picksE l last) a
  | (is, i) :: r, a, w => wpQuiet P l.toArray S (fun a' => ∀ o, pickE l i = [o] → if Region.wanted o (yielded l.toArray a'.tmps) = true then o.wp P a' w (fun a2 w2 => (i = z ∨ S w2) ∧ woDE P l z S Q last r a2 w2) Q else woDE P l z S Q last r (a'.put o.dst undef) w) (picksE l is) a
structure WOE (P : Program) (l : List Oper) (z : Nat) (S : World → Prop) (Q : Exit → Act → World → Prop) (last : List Nat) (segs : List (List Nat × Nat)) (a : Act) (w : World) : Prop where
  out : woDE P l z S Q last segs a w
variable {l : List Oper} {z : Nat} {last : List Nat} {w : World} {a : Act}
theorem quiet_monoE {K K' : Act → Prop} (h : ∀ a, K a → K' a) : ∀ {m : List Oper} {a : Act}, wpQuiet P ops S K m a → wpQuiet P ops S K' m a
  | [], a, hk => h a hk
  | o :: m, a, hk => by
    unfold wpQuiet at hk ⊢
    split
    · rename_i hw
      rw [if_pos hw] at hk
      obtain ⟨v, h1, h2⟩ := hk
      exact ⟨v, h1, quiet_monoE h h2⟩
    · rename_i hw
      rw [if_neg hw] at hk
      exact quiet_monoE h hk
theorem WOE.seg {is : List Nat} {i : Nat} {o : Oper} {r : List (List Nat × Nat)} (ho : pickE l i = [o])
    (h : wpQuiet P l.toArray S (fun a' => ∀ K : Act → World → Prop, Hid (∀ a2 w2, S w2 → WOE P l z S Q last r a2 w2 → K a2 w2) → if Region.wanted o (yielded l.toArray a'.tmps) = true then o.wp P a' w K Q else K (a'.put o.dst undef) w) (picksE l is) a) (hS : S w) :
    WOE P l z S Q last ((is, i) :: r) a w := by
  refine ⟨?_⟩
  unfold woDE
  refine quiet_monoE (fun a' h' o' ho' => ?_) h
  obtain rfl : o' = o := by rw [ho] at ho'; simpa using ho'.symm
  have := h' (fun a2 w2 => S w2 ∧ woDE P l z S Q last r a2 w2) (Lib.hid fun a2 w2 h1 h2 => ⟨h1, h2.out⟩)
  split
  · rename_i hw; rw [if_pos hw] at this; exact Oper.wp_mono (fun a3 w3 h3 => ⟨.inr h3.1, h3.2⟩) this
  · rename_i hw; rw [if_neg hw] at this; exact this.2
theorem WOE.segz {is : List Nat} {o : Oper} (ho : pickE l z = [o])
    (h : wpQuiet P l.toArray S (fun a' => ∀ K : Act → World → Prop, Hid (∀ a2 w2, Q .normal a2 w2 → K a2 w2) → if Region.wanted o (yielded l.toArray a'.tmps) = true then o.wp P a' w K (NoPanic Q) else K (a'.put o.dst undef) w) (picksE l is) a) :
    WOE P l z S (NoPanic Q) [] [(is, z)] a w := by
  refine ⟨?_⟩
  unfold woDE
  refine quiet_monoE (fun a' h' o' ho' => ?_) h
  obtain rfl : o' = o := by rw [ho] at ho'; simpa using ho'.symm
  have := h' (fun a2 w2 => Q .normal a2 w2) (Lib.hid fun a2 w2 h1 => h1)
  split
  · rename_i hw; rw [if_pos hw] at this; exact Oper.wp_mono (fun a3 w3 h3 => ⟨.inl rfl, h3⟩) this
  · rename_i hw; rw [if_neg hw] at this; exact this
theorem run_okE (hsel : Region.noSelect l.toArray = true) (hQ : ∀ c a d v w, Q (.panic c) (Act.put a d v) w → Q (.panic c) a w) {K : Act → Prop} {fuel : Nat} :
    ∀ (is : List Nat) (L L' : Array Bool) (a : Act), (S w ∨ is = []) → runBE md l.toArray z L is = some L' → (∀ a', K a' → wpAnyZE P md l.toArray Q S z fuel L' a' w) → wpQuiet P l.toArray S K (picksE l is) a → wpAnyZE P md l.toArray Q S z (is.length + fuel) L a w
  | [], L, L', a, _, hb, hK, h => by
    cases hb
    simpa using hK a h
  | i :: r, L, L', a, hS', hb, hK, h => by
    have hS : S w := hS'.resolve_right (by simp)
    unfold runBE at hb
    split at hb
    · rename_i hc
      simp only [Bool.and_eq_true, decide_eq_true_eq, beq_iff_eq] at hc
      obtain ⟨⟨⟨⟨h1, h2⟩, h3⟩, h4⟩, h5⟩ := hc
      have h5' : l.toArray.size ≤ z ∨ Region.waitsFor md l.toArray z i = true := by simpa using h5
      have ho : l.toArray[i]? = some l.toArray[i] := Array.getElem?_eq_getElem h3
      generalize l.toArray[i] = o at ho
      have hol : l[i]? = some o := by simpa using ho
      rw [picksE, pick_ofE hol, List.singleton_append] at h
      rw [ho] at h4
      have h4' : plainBE o = true := by simpa using h4
      have key : ∃ v, YieldsIf P l.toArray S o v a ∧ wpQuiet P l.toArray S K (picksE l r) (a.put o.dst v) := by
        unfold wpQuiet at h
        by_cases hw : Region.wanted o (yielded l.toArray a.tmps) = true
        · rw [if_pos hw] at h
          obtain ⟨v, e1, e2⟩ := h
          exact ⟨v, yields_of_quietE h4' hw e1, e2⟩
        · rw [if_neg hw] at h
          exact ⟨undef, .inr ⟨by simpa using hw, rfl⟩, h⟩
      obtain ⟨v, hy, hr⟩ := key
      have := wpAnyZ_firstE (z := z) ho h5' (Region.noSelect_spec hsel) (fun c a w => hQ c a _ _ w) (r.length + fuel) L a w (Region.free_spec ho h1) (by simpa using h2) hy hS (run_okE hsel hQ r _ L' _ (.inl hS) hb hK hr)
      rw [show (i :: r).length + fuel = r.length + fuel + 1 by simp; omega]
      exact this
    · cases hb
def segLenE : List (List Nat × Nat) → Nat
  | [] => 0
  | (is, _) :: r => is.length + 1 + segLenE r
theorem seg_okE (hsel : Region.noSelect l.toArray = true) (hQ : ∀ c a d v w, Q (.panic c) (Act.put a d v) w → Q (.panic c) a w) :
    ∀ (segs : List (List Nat × Nat)) (L : Array Bool) (a : Act) (w : World), segBE md l.toArray z last L segs = true → (S w ∨ (segs = [] ∧ last = [])) → woDE P l z S Q last segs a w → wpAnyZE P md l.toArray Q S z (segLenE segs + last.length) L a w
  | [], L, a, w, hb, hS, h => by
    unfold segBE at hb
    cases hr : runBE md l.toArray z L last with
    | none => rw [hr] at hb; simp at hb
    | some L' =>
      rw [hr] at hb
      have hb' : Region.ready md l.toArray L' = [] := by simpa using hb
      have := run_okE (fuel := 0) hsel hQ last L L' a (hS.imp id (·.2)) hr (K := fun a' => Q .normal a' w) (fun a' h' => ⟨hb', h'⟩) h
      rwa [segLenE, Nat.zero_add]
  | (is, i) :: r, L, a, w, hb, hS', h => by
    have hS : S w := hS'.resolve_right (by simp)
    unfold segBE at hb
    cases hr : runBE md l.toArray z L is with
    | none => rw [hr] at hb; simp at hb
    | some L' =>
      rw [hr] at hb
      simp only [Bool.and_eq_true, decide_eq_true_eq] at hb
      obtain ⟨⟨⟨b1, b2⟩, b4⟩, b3⟩ := hb
      have b4' : i = z → r = [] ∧ last = [] := by simpa using b4
      have ho : l.toArray[i]? = some l.toArray[i] := Array.getElem?_eq_getElem b2
      generalize l.toArray[i] = o at ho
      have hol : l[i]? = some o := by simpa using ho
      have ih := fun a' w' => seg_okE hsel hQ r (L'.setIfInBounds i true) a' w' b3
      have := run_okE (fuel := segLenE r + last.length + 1) hsel hQ is L L' a (.inl hS) hr (fun a' h' => (by
        have h2 := h' o (pick_ofE hol)
        refine ⟨fun h0 => (by rw [b1] at h0; cases h0), fun j hj => ?_⟩
        rw [b1] at hj
        obtain rfl : j = i := by simpa using hj
        unfold wpOp
        simp only [ho]
        split
        · rename_i hw
          rw [if_pos hw] at h2
          exact .inl (Oper.wp_mono (fun a3 w3 h3 => ⟨h3.1, ih a3 w3 (h3.1.elim (fun e => .inr (b4' e)) .inl) h3.2⟩) h2)
        · rename_i hw
          rw [if_neg hw] at h2
          exact ⟨.inr hS, ih _ _ (.inl hS) h2⟩)) h
      rw [show segLenE ((is, i) :: r) + last.length = is.length + (segLenE r + last.length + 1) by rw [segLenE]; omega]
      exact this
theorem WOE.end_ (h : wpQuiet P l.toArray S (fun a' => Q .normal a' w) (picksE l last) a) : WOE P l z S (NoPanic Q) last [] a w := ⟨h⟩
theorem wp_region_ordzE {id : Nat} (z : Nat) (segs : List (List Nat × Nat)) (last : List Nat) (S : World → Prop) (hm : P.follows .mixedOrders = true) (hB : ordBE .any l.toArray z segs last = true) (hn : segLenE segs + last.length = l.length)
    (hS : S w.drew) (h : WOE P l z S (NoPanic Q) last segs a w.drew) : (Code.region id l.toArray true).wp P Q a w := by
  unfold ordBE at hB
  simp only [Bool.and_eq_true] at hB
  refine wp_region_noPanic (wp_region_any hm (wpAny_of_zE (S := S) (z := z) _ _ _ _ ?_))
  have := seg_okE (Q := NoPanic Q) hB.1 (fun _ _ _ _ _ h => h) segs _ a _ hB.2 (.inl hS) h.out
  rw [hn] at this
  simpa using this
end
end Go.Proofs.Ytfbeggdbjpmppaa
