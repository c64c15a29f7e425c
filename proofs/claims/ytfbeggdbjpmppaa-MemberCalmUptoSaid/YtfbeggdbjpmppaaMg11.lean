/- TkAll PlC PlD RisStep OrdLaw GenT Team, joined. -/
import Derived.Deep.DeepCutAuto
import Derived.Test.YtfbeggdbjpmppaaMg3
import Derived.Test.YtfbeggdbjpmppaaMg9
import Derived.Test.YtfbeggdbjpmppaaMg10
set_option linter.unusedVariables false
set_option linter.unusedSimpArgs false
namespace Go.Proofs.Ytfbeggdbjpmppaa
open Go.RowKit
set_option maxRecDepth 100000 in
set_option maxHeartbeats 8000000 in
theorem take_fits (b : Nat) (s : St) (M : Option Addr) (cM : Nat) (S V : Option Addr) (cS cV N : Nat) (p : Pr) (q : Nat) (inc : Int) (w : World) (h : AgAt w b s M cM) (hb : b < w.heap.size) (hI : Inv s) (hq : q < s.n) (hs : q ≠ s.self) (hi1 : 1 ≤ inc) (hi2 : inc ≤ 4611686018427387904)
    (hN : N ≤ w.heap.size) (hS : RowAt w N 1 eInt S p.set) (hV : RowAt w N 1 eInt V p.vec) (hl1 : p.set.length ≤ 9223372036854775807) (hl2 : p.vec.length ≤ 9223372036854775807) (hg : p.goodB q inc s.n = true) (hM : ∀ W, w.grownBy W (some b) → RowAt W W.heap.size 3 eMb M s.mem) (hml : s.mem.length ≤ 16) (c1 : ¬ inc < (s.lt q).inc) (c2 : ¬ ((s.lt q).inc = inc ∧ p.rev ≤ (s.lt q).w.rev)) :
    Calls Try.prog 36 #[.pointer (some ⟨b, 0, none⟩), .int .i64 q, .int .i64 inc, .agg (prA S V cS cV p)] w fun x w' => x = .returned (.tuple #[.bool (s.take q inc p).1, .int .i64 (s.take q inc p).2.1]) ∧ Left w w' b (s.take q inc p).2.2 M cM := by
  have hb0 : Below w.heap.size w (w.alloc (.cells (prA S V cS cV p) 31)) := (Below.refl _ _).alloc (Nat.le_refl _) _
  have z0 : (w.alloc (.cells (prA S V cS cV p) 31)).heap.size = w.heap.size + 1 := World.size_alloc _ _
  have h0 := Lib.hid (h.same (hb0.block b hb))
  have q0 := h.n
  have q1 := h.self
  have hn := hI.n2
  have hq16 : q < 16 := by omega
  have hol : WLen (s.lt q).w := ⟨h.l3 q hq16, h.l4 q hq16⟩
  have rS := Lib.hid (hS.below hb0 hN)
  have rV := Lib.hid (hV.below hb0 hN)
  have b3 : ((q : Int) == (s.self : Int)) = false := by simp; omega
  have hargs : ¬ ((q : Int) < 0 ∨ (s.n : Int) ≤ q ∨ (q : Int) = s.self ∨ inc < 1 ∨ 4611686018427387904 < inc) := by omega
  have htk : s.take q inc p = if inc < (s.lt q).inc then (false, 50, s) else if (s.lt q).inc = inc ∧ p.rev ≤ (s.lt q).w.rev then (false, 51, s) else
      (if s.opn then
        if (s.put q inc p.wish).heard = (s.put q inc p.wish).own.vec then (false, 0, s.put q inc p.wish)
        else if (s.put q inc p.wish).own.rev < 4611686018427387904 then (false, 0, { (s.put q inc p.wish) with own := { (s.put q inc p.wish).own with vec := (s.put q inc p.wish).heard, rev := (s.put q inc p.wish).own.rev + 1 } })
        else (false, 3, s)
      else if leavesB (s.put q inc p.wish).mem q inc p.cid = false then (false, 0, s.put q inc p.wish)
      else if (s.put q inc p.wish).spent then (false, 3, s)
      else (true, 0, (s.put q inc p.wish).begin_ (s.put q inc p.wish).own.set)) := by
    unfold St.take
    rw [if_neg hargs, if_neg (by rw [Int.toNat_natCast, hg]; decide)]
    rfl
  replace htk := Lib.hid htk
  have hgw := Lib.hid (good_wish hI.n2 hg)
  replace h := Lib.hid h
  replace hb0 := Lib.hid hb0
  replace hI := Lib.hid hI
  replace hg := Lib.hid hg
  replace z0 := Lib.hid z0
  replace hM := Lib.hid hM
  clear hS hV hargs
  have d1 : decide (inc < (s.lt q).inc) = false := decide_eq_false c1
  have c1' : Hid (¬ inc < (s.lt q).inc) := Lib.hid c1
  have c2' : Hid (¬ ((s.lt q).inc = inc ∧ p.rev ≤ (s.lt q).w.rev)) := Lib.hid c2
  clear c1 c2
  go_enter Try.func36, Try.ntmps36
  go_upto_region 9 with (first
    | (go_at_call 52
       refine (read_any b s M cM S V cS cV N p q inc _ (by exact h0.out) (by rw [z0.out]; omega) hn hq (by rw [z0.out]; omega) (by exact rS.out) (by exact rV.out) hl1 hl2).mono ?_
       rintro e w1 ⟨⟨t, rfl, hwl, hgt⟩, hb1⟩
       rw [hg.out]
       obtain rfl := hgt hg.out
       rw [z0.out] at hb1
       have z1 := hb1.size
       rw [z0.out] at z1
       have b1 := Lib.hid (hb0.out.trans (hb1.mono (Nat.le_succ _)))
       replace hwl := Lib.hid hwl
       clear q0 q1 hgt)
    | (refine wpList_alloc96 rfl rfl ?_)
    | (refine wpList_store96 rfl (.tmp 10) (.tmp 46) rfl w1.heap.size 0 (by rfl) p.wish (by rfl) (there_new96 _ _ wlen_zero) hwl.out ?_
       intro w2 hw2
       have z2 : w2.heap.size = w1.heap.size + 1 := by rw [hw2.out, size_sets, World.size_alloc]
       have v2 : WVar w2 w1.heap.size p.wish := by rw [hw2.out]; exact (WVar.new w1 Wish.zero wlen_zero).put hwl.out
       have b2 : Below w.heap.size w w2 := by rw [hw2.out]; exact below_sets (b1.out.alloc (by omega) _) (by omega) _ _ (by simp; omega)
       have h2 := h.out.same (b2.block b hb)
       replace v2 := Lib.hid v2
       replace b2 := Lib.hid b2
       replace h2 := Lib.hid h2
       replace z2 := Lib.hid z2)
    | (refine wpList_load98 rfl (.tmp 54) rfl b (43 + q * 40) (by rfl) (s.lt q) (h2.out.other hq16) hol ?_)
    | (refine wpList_alloc98 rfl rfl ?_)
    | (refine wpList_store98 rfl (.tmp 12) (.tmp 55) rfl w2.heap.size 0 (by rfl) (s.lt q) (by rfl) (there_new98 _ _ wlen_zero) hol ?_
       intro w3 hw3
       have hT : TkR w b s M cM w1.heap.size w2.heap.size p.wish (s.lt q) w3 := by
         have z2' := z2.out
         have b23 : Below w2.heap.size w2 w3 := by rw [hw3.out]; exact below_sets ((Below.refl _ _).alloc (Nat.le_refl _) _) (Nat.le_refl _) _ _ (by simp)
         have z3 : w3.heap.size = w2.heap.size + 1 := by rw [hw3.out, size_sets, World.size_alloc]
         refine ⟨h2.out.same (b23.block b (by omega)), v2.out.below b23 (by omega), by rw [hw3.out]; exact LVar.put (there_new98 _ _ wlen_zero) hol, (World.grownBy.but (grown_below b2.out) _).trans (World.grownBy.but (grown_below b23) _), by omega, by omega, by omega, by omega⟩
       have k1 : w3.cell? ⟨w2.heap.size, 0, none⟩ = some (.int .i64 (s.lt q).inc) := (lt_parts.1 hT.old.rng).1
       have k2 : w3.cell? ⟨w2.heap.size, 34, none⟩ = some (.int .i64 (s.lt q).w.rev) := ((wish_parts hol.l1 hol.l2).1 (lt_parts.1 hT.old.rng).2).2.2.2.1
       have k3 : w3.cell? ⟨w1.heap.size, 33, none⟩ = some (.int .i64 p.rev) := hT.new.cells.2.2.2.1
       replace hT := Lib.hid hT)
    | fail)
  go_cut [61] (fun s61 wx => s61 = .bool false ∧ wx = w3)
  case first =>
    cases d2 : ((s.lt q).inc == inc) with
    | true =>
      have d3 : decide (p.rev ≤ (s.lt q).w.rev) = false := decide_eq_false (fun x => c2'.out ⟨by simpa using d2, x⟩)
      go_wp2_with fail
      go_meet
      exact ⟨rfl, rfl⟩
    | false =>
      go_wp2_with fail
      go_meet
      exact ⟨rfl, rfl⟩
  case rest =>
    obtain ⟨rfl, hwc⟩ := hcut
    obtain rfl : w3 = wc := hwc.symm
    go_wp2_with fail
    try simp only [Act.put, List.setIfInBounds_toArray, List.set_cons_zero, List.set_cons_succ]
    obtain ⟨v, hv⟩ : ∃ v, v = w1.heap.size := ⟨_, rfl⟩
    obtain ⟨o, ho⟩ : ∃ o, o = w2.heap.size := ⟨_, rfl⟩
    rw [← hv, ← ho] at hT
    rw [← hv, ← ho]
    replace hv := Lib.hid hv
    replace ho := Lib.hid ho
    have hS4 : TkR w b s M cM v o p.wish (s.lt q) w3.drew := hT.out.below hb (Below.drew (Below.refl _ _))
    have hV4 : WVar w3.drew v p.wish := hS4.new
    have hC : ∀ x' : Prop, (∀ W, WVar W v p.wish → x') ↔ x' := fun x' => ⟨fun f => f _ hV4, fun f _ _ => f⟩
    have L77 : ∀ W, WVar W v p.wish → (loadVar 96 ⟨v, 0, none⟩).run Try.prog W = .ok (.agg (wishA p.wish)) W := fun W hW => run_loadVar_wish W v 0 p.wish hW.rng hwl.out
    replace L77 := Lib.hid L77
    replace hS4 := Lib.hid hS4
    replace hV4 := Lib.hid hV4
    clear k1 k2 k3
    refine wp_region_ord [([0, 1, 2, 3, 4, 5, 6, 7], 8)] [] (fun W => WVar W v p.wish) rfl (by kernel_rfl) rfl hV4.out ?_
    refine WO.seg rfl ?_ hV4.out
    simp only [picks, pick, List.cons_append, List.nil_append, List.append_nil]
    repeat (first
      | go_big_quiet_skip
      | (refine wpQuiet_loadC (by rfl) 96 (.tmp 10) rfl v 0 (by rfl) _ L77.out ?_; simp only [Act.put, List.setIfInBounds_toArray, List.set_cons_zero, List.set_cons_succ])
      | (refine wpQuiet_build98 (by rfl) (.tmp 76) (.tmp 77) rfl inc p.wish (by rfl) (by rfl) hwl.out ?_; simp only [Act.put, List.setIfInBounds_toArray, List.set_cons_zero, List.set_cons_succ])
      | go_big_quiet_step (fail))
    refine wpQuiet_nil ?_
    intro K hK
    rw [if_pos (by rfl)]
    refine wp_store98 (.tmp 81) (.tmp 78) rfl rfl b (43 + q * 40) (by rfl) ⟨inc, p.wish⟩ (by rfl) (World.there.at hS4.out.at_.there (by omega)) hwl.out ?_
    intro w5 hw5
    obtain ⟨t, ht⟩ : ∃ t, t = s.put q inc p.wish := ⟨_, rfl⟩
    have hT5 : TkR w b t M cM v o p.wish (s.lt q) w5 := by
      rw [hw5.out, ht]
      exact hS4.out.put hb (hS4.out.at_.setLt q hq16 hI.out.oth ⟨inc, p.wish⟩ hwl.out.l1 hwl.out.l2) (grown_sets _ _ _ _)
    have hIt : Inv t := by rw [ht]; exact put_inv hI.out hgw.out
    have htn : t.n = s.n := by rw [ht]; rfl
    have hto : t.opn = s.opn := by rw [ht]; rfl
    have htm : t.mem = s.mem := by rw [ht]; rfl
    have hback : t.put q (s.lt q).inc (s.lt q).w = s := by rw [ht]; exact put_back (hI.out.lt_some hq16)
    have hoth : t.oth.length = 16 := hIt.oth
    have k3 := hT5.at_.opn
    rw [hto] at k3
    replace hT5 := Lib.hid hT5
    replace hIt := Lib.hid hIt
    replace htn := Lib.hid htn
    replace hto := Lib.hid hto
    replace htm := Lib.hid htm
    replace hback := Lib.hid hback
    replace hoth := Lib.hid hoth
    replace ht := Lib.hid ht
    refine hK.out _ _ hT5.out.new ?_
    clear hK K
    refine WO.end_ ?_
    simp only [picks]
    refine wpQuiet_nil ?_
    clear hC L77 hV4
    have z5 : b < w5.heap.size := by have := hT5.out.v0; have := hT5.out.vw; omega
    cases hop : s.opn with
    | true =>
      rw [hop] at k3
      by_cases f1 : (s.put q inc p.wish).heard = (s.put q inc p.wish).own.vec
      ·
        have hans := Lib.hid (show s.take q inc p = (false, 0, s.put q inc p.wish) by rw [htk.out, if_neg (Int.not_lt.2 c1'.out), if_neg c2'.out, if_pos hop, if_pos f1])
        try rw [← ht.out] at hans
        replace hop := Lib.hid hop
        have g1 : (t.heard == t.own.vec) = true := by rw [ht.out]; simp [f1]
        have f1' := Lib.hid f1
        clear f1
        go_wp2_with (first
          | (go_at_call 53
             refine (heard_any b t M cM w5 hT5.out.at_ z5 (by rw [htn.out]; exact hn) hIt.out.self).mono ?_
             rintro e w6 ⟨rfl, hb6⟩
             have hT6 := Lib.hid (hT5.out.below hb hb6)
             have z6 := hb6.size
             clear k3)
          | (refine wpList_alloc94 rfl rfl ?_)
          | (refine wpList_store94 rfl (.tmp 13) (.tmp 87) rfl w6.heap.size 0 (by rfl) t.heard (by rfl) (by have := there_new w6 (arr zeros) 94; rwa [size_arr, len_zeros] at this) (len_heard t) ?_
             intro w7 hw7
             have r7 : w7.rangeAt w6.heap.size 0 (ints t.heard) := by rw [hw7.out]; exact World.rangeAt_setCells_same _ _ _ _ (by rw [len_ints, len_heard]; have := there_new w6 (arr zeros) 94; rwa [size_arr, len_zeros] at this)
             have hb67 : Below w6.heap.size w6 w7 := by rw [hw7.out]; exact below_sets ((Below.refl _ _).alloc (Nat.le_refl _) _) (Nat.le_refl _) _ _ (by simp)
             have z7 : w6.heap.size < w7.heap.size := by rw [hw7.out, size_sets]; simp
             have hT7 := Lib.hid (hT6.out.below hb hb67)
             replace r7 := Lib.hid r7)
          | fail)
        have rn := fun W : World => run_eql_arr W t.heard t.own.vec (len_heard t) hIt.out.own.vec
        try simp only [Act.put, List.setIfInBounds_toArray, List.set_cons_zero, List.set_cons_succ]
        refine wp_region_quiet_lit (by kernel_rfl) (by kernel_rfl) ?_
        repeat (first
          | go_big_quiet_skip
          | (refine wpQuiet_load94 (by rfl) (.tmp 13) rfl w6.heap.size 0 (by rfl) _ r7.out (len_heard t) ?_; go_simp)
          | (refine wpQuiet_load94 (by rfl) (.tmp 92) rfl b 20 (by rfl) _ hT7.out.at_.vec hIt.out.own.vec ?_; go_simp)
          | go_big_quiet_step (fail))
        refine wpQuiet_nil ?_
        first | rintro _ ⟨nq, rfl⟩ | intro nq
        have hT8 := Lib.hid (hT7.out.below hb (below_drewN (Below.refl _ _) nq))
        go_wp2
        go_ret2
        exact ⟨by rw [hans.out]; rfl, by rw [hans.out]; exact ⟨hT8.out.at_, hT8.out.grown⟩⟩
      · by_cases f2 : (s.put q inc p.wish).own.rev < 4611686018427387904
        ·
          have hans := Lib.hid (show s.take q inc p = (false, 0, { (s.put q inc p.wish) with own := { (s.put q inc p.wish).own with vec := (s.put q inc p.wish).heard, rev := (s.put q inc p.wish).own.rev + 1 } }) by rw [htk.out, if_neg (Int.not_lt.2 c1'.out), if_neg c2'.out, if_pos hop, if_neg f1, if_pos f2])
          try rw [← ht.out] at hans
          replace hop := Lib.hid hop
          have g1 : (t.heard == t.own.vec) = false := by rw [ht.out]; simp [f1]
          have g2 : decide (t.own.rev < 4611686018427387904) = true := by rw [ht.out]; exact decide_eq_true f2
          have g3 : t.own.rev < 4611686018427387904 := by rw [ht.out]; exact f2
          have g4 := hIt.out.own.rev
          have hwr : IntKind.i64.wrap (t.own.rev + 1) = t.own.rev + 1 := by rw [IntKind.wrap_i64]; omega
          replace f1 := Lib.hid f1
          replace f2 := Lib.hid f2
          go_wp2_with (first
            | (go_at_call 53
               refine (heard_any b t M cM w5 hT5.out.at_ z5 (by rw [htn.out]; exact hn) hIt.out.self).mono ?_
               rintro e w6 ⟨rfl, hb6⟩
               have hT6 := Lib.hid (hT5.out.below hb hb6)
               have z6 := hb6.size
               clear k3)
            | (refine wpList_alloc94 rfl rfl ?_)
            | (refine wpList_store94 rfl (.tmp 13) (.tmp 87) rfl w6.heap.size 0 (by rfl) t.heard (by rfl) (by have := there_new w6 (arr zeros) 94; rwa [size_arr, len_zeros] at this) (len_heard t) ?_
               intro w7 hw7
               have r7 : w7.rangeAt w6.heap.size 0 (ints t.heard) := by rw [hw7.out]; exact World.rangeAt_setCells_same _ _ _ _ (by rw [len_ints, len_heard]; have := there_new w6 (arr zeros) 94; rwa [size_arr, len_zeros] at this)
               have hb67 : Below w6.heap.size w6 w7 := by rw [hw7.out]; exact below_sets ((Below.refl _ _).alloc (Nat.le_refl _) _) (Nat.le_refl _) _ _ (by simp)
               have z7 : w6.heap.size < w7.heap.size := by rw [hw7.out, size_sets]; simp
               have hT7 := Lib.hid (hT6.out.below hb hb67)
               replace r7 := Lib.hid r7)
            | fail)
          have rn := fun W : World => run_eql_arr W t.heard t.own.vec (len_heard t) hIt.out.own.vec
          try simp only [Act.put, List.setIfInBounds_toArray, List.set_cons_zero, List.set_cons_succ]
          refine wp_region_quiet_lit (by kernel_rfl) (by kernel_rfl) ?_
          repeat (first
            | go_big_quiet_skip
            | (refine wpQuiet_load94 (by rfl) (.tmp 13) rfl w6.heap.size 0 (by rfl) _ r7.out (len_heard t) ?_; go_simp)
            | (refine wpQuiet_load94 (by rfl) (.tmp 92) rfl b 20 (by rfl) _ hT7.out.at_.vec hIt.out.own.vec ?_; go_simp)
            | go_big_quiet_step (fail))
          refine wpQuiet_nil ?_
          first | rintro _ ⟨nq, rfl⟩ | intro nq
          have hT8 := Lib.hid (hT7.out.below hb (below_drewN (Below.refl _ _) nq))
          have k7 : w7.cell? ⟨b, 37, none⟩ = some (.int .i64 t.own.rev) := hT7.out.at_.rev
          go_wp2_with (first
            | (refine wpList_load94 rfl (.tmp 13) rfl w6.heap.size 0 (by rfl) t.heard (by exact r7.out) (len_heard t) ?_)
            | (refine wpList_store94 rfl (.tmp 105) (.tmp 102) rfl b 20 (by rfl) t.heard (by rfl) (World.there.at hT8.out.at_.there (by omega)) (len_heard t) ?_
               intro w9 hw9
               have h9 := hT8.out.at_.setVec t.heard (len_heard t)
               rw [← hw9.out] at h9
               have g9 : w.grownBy w9 (some b) := by rw [hw9.out]; exact hT8.out.grown.trans (grown_sets _ _ _ _)
               have k9 : w9.cell? ⟨b, 37, none⟩ = some (.int .i64 t.own.rev) := h9.rev
               have f9 : w9.frozen? ⟨b, 37, none⟩ = false := there_frozen (k := 37) h9.there (by omega)
               have h10 := h9.setRev (t.own.rev + 1)
               have g10 := g9.trans (grown_cell w9 b 37 (.int .i64 (t.own.rev + 1)))
               replace h9 := Lib.hid h9
               replace h10 := Lib.hid h10
               replace g10 := Lib.hid g10
               clear k7)
            | fail)
          go_ret2
          exact ⟨by rw [hans.out]; rfl, by rw [hans.out]; exact ⟨h10.out, g10.out⟩⟩
        ·
          have hans := Lib.hid (show s.take q inc p = (false, 3, s) by rw [htk.out, if_neg (Int.not_lt.2 c1'.out), if_neg c2'.out, if_pos hop, if_neg f1, if_neg f2])
          try rw [← ht.out] at hans
          replace hop := Lib.hid hop
          have g1 : (t.heard == t.own.vec) = false := by rw [ht.out]; simp [f1]
          have g2 : decide (t.own.rev < 4611686018427387904) = false := by rw [ht.out]; exact decide_eq_false (by omega)
          replace f1 := Lib.hid f1
          replace f2 := Lib.hid f2
          go_wp2_with (first
            | (go_at_call 53
               refine (heard_any b t M cM w5 hT5.out.at_ z5 (by rw [htn.out]; exact hn) hIt.out.self).mono ?_
               rintro e w6 ⟨rfl, hb6⟩
               have hT6 := Lib.hid (hT5.out.below hb hb6)
               have z6 := hb6.size
               clear k3)
            | (refine wpList_alloc94 rfl rfl ?_)
            | (refine wpList_store94 rfl (.tmp 13) (.tmp 87) rfl w6.heap.size 0 (by rfl) t.heard (by rfl) (by have := there_new w6 (arr zeros) 94; rwa [size_arr, len_zeros] at this) (len_heard t) ?_
               intro w7 hw7
               have r7 : w7.rangeAt w6.heap.size 0 (ints t.heard) := by rw [hw7.out]; exact World.rangeAt_setCells_same _ _ _ _ (by rw [len_ints, len_heard]; have := there_new w6 (arr zeros) 94; rwa [size_arr, len_zeros] at this)
               have hb67 : Below w6.heap.size w6 w7 := by rw [hw7.out]; exact below_sets ((Below.refl _ _).alloc (Nat.le_refl _) _) (Nat.le_refl _) _ _ (by simp)
               have z7 : w6.heap.size < w7.heap.size := by rw [hw7.out, size_sets]; simp
               have hT7 := Lib.hid (hT6.out.below hb hb67)
               replace r7 := Lib.hid r7)
            | fail)
          have rn := fun W : World => run_eql_arr W t.heard t.own.vec (len_heard t) hIt.out.own.vec
          try simp only [Act.put, List.setIfInBounds_toArray, List.set_cons_zero, List.set_cons_succ]
          refine wp_region_quiet_lit (by kernel_rfl) (by kernel_rfl) ?_
          repeat (first
            | go_big_quiet_skip
            | (refine wpQuiet_load94 (by rfl) (.tmp 13) rfl w6.heap.size 0 (by rfl) _ r7.out (len_heard t) ?_; go_simp)
            | (refine wpQuiet_load94 (by rfl) (.tmp 92) rfl b 20 (by rfl) _ hT7.out.at_.vec hIt.out.own.vec ?_; go_simp)
            | go_big_quiet_step (fail))
          refine wpQuiet_nil ?_
          first | rintro _ ⟨nq, rfl⟩ | intro nq
          have hT8 := Lib.hid (hT7.out.below hb (below_drewN (Below.refl _ _) nq))
          have k7 : w7.cell? ⟨b, 37, none⟩ = some (.int .i64 t.own.rev) := hT7.out.at_.rev
          go_wp2
          try simp only [Act.put, List.setIfInBounds_toArray, List.set_cons_zero, List.set_cons_succ]
          have hS8 := hT8.out.below hb (Below.drew (Below.refl _ _))
          have hV8 := hS8.old
          have hC : ∀ x' : Prop, (∀ W, LVar W o (s.lt q) → x') ↔ x' := fun x' => ⟨fun f => f _ hV8, fun f _ _ => f⟩
          have L131 : ∀ W, LVar W o (s.lt q) → (loadVar 98 ⟨o, 0, none⟩).run Try.prog W = .ok (.agg (ltA (s.lt q))) W := fun W hW => run_loadVar98 W o 0 (s.lt q) hW.rng hol
          replace L131 := Lib.hid L131
          replace hS8 := Lib.hid hS8
          replace hV8 := Lib.hid hV8
          refine wp_region_ord [([0, 1, 2, 3, 4, 5], 6)] [] (fun W => LVar W o (s.lt q)) rfl (by kernel_rfl) rfl hV8.out ?_
          refine WO.seg rfl ?_ hV8.out
          simp only [picks, pick, List.cons_append, List.nil_append, List.append_nil]
          repeat (first
            | go_big_quiet_skip
            | (refine wpQuiet_loadC (by rfl) 98 (.tmp 12) rfl o 0 (by rfl) _ L131.out ?_; simp only [Act.put, List.setIfInBounds_toArray, List.set_cons_zero, List.set_cons_succ])
            | go_big_quiet_step (fail))
          refine wpQuiet_nil ?_
          intro K hK
          rw [if_pos (by rfl)]
          refine wp_store98 (.tmp 134) (.tmp 131) rfl rfl b (43 + q * 40) (by rfl) (s.lt q) (by rfl) (World.there.at hS8.out.at_.there (by omega)) hol ?_
          intro w9 hw9
          have h9 : AgAt w9 b s M cM := by
            have := hS8.out.at_.setLt q hq16 hoth.out (s.lt q) hol.l1 hol.l2
            rw [hback.out] at this
            rw [hw9.out]; exact this
          have g9 : w.grownBy w9 (some b) := by rw [hw9.out]; exact hS8.out.grown.trans (grown_sets _ _ _ _)
          have v9 : LVar w9 o (s.lt q) := by rw [hw9.out]; exact hV8.out.same ((grown_sets _ _ _ _).block o hS8.out.ow (by intro e; injection e with e; have := hS8.out.o0; omega))
          refine hK.out _ _ v9 ?_
          clear hK K
          refine WO.end_ ?_
          simp only [picks]
          refine wpQuiet_nil ?_
          clear hC
          go_wp2
          go_ret2
          exact ⟨by rw [hans.out]; rfl, by rw [hans.out]; exact ⟨h9, g9⟩⟩
    | false =>
      rw [hop] at k3
      by_cases f1 : leavesB (s.put q inc p.wish).mem q inc p.cid = false
      ·
        have hans := Lib.hid (show s.take q inc p = (false, 0, s.put q inc p.wish) by rw [htk.out, if_neg (Int.not_lt.2 c1'.out), if_neg c2'.out, if_neg (by rw [hop]; decide), if_pos f1])
        have f1' := Lib.hid f1
        clear f1
        try rw [← ht.out] at hans
        replace hop := Lib.hid hop
        have k32 : w5.cell? ⟨v, 32, none⟩ = some (.int .i64 p.cid) := hT5.out.new.cells.2.2.1
        have hrow5 := hM.out w5 hT5.out.grown
        rw [← htm.out] at hrow5
        replace hrow5 := Lib.hid hrow5
        go_wp2_with (first
          | (go_at_call 54
             refine (leaving_any b t M cM w5.heap.size q inc p.cid w5 hT5.out.at_ z5 (Nat.le_refl _) hrow5.out (by rw [htm.out]; omega)).mono ?_
             rintro e w6 ⟨rfl, hb6⟩
             rw [show leavesB t.mem q inc p.cid = false by rw [ht.out]; exact f1'.out]
             have hT6 := Lib.hid (hT5.out.below hb hb6)
             have z6 := hb6.size
             clear k3 k32)
          | fail)
        go_ret2
        exact ⟨by rw [hans.out]; rfl, by rw [hans.out]; exact ⟨hT6.out.at_, hT6.out.grown⟩⟩
      · by_cases f2 : (s.put q inc p.wish).spent = true
        ·
          have hans := Lib.hid (show s.take q inc p = (false, 3, s) by rw [htk.out, if_neg (Int.not_lt.2 c1'.out), if_neg c2'.out, if_neg (by rw [hop]; decide), if_neg f1, if_pos f2])
          have f1' : Hid (leavesB (s.put q inc p.wish).mem q inc p.cid = true) := Lib.hid (by simpa using f1)
          clear f1
          try rw [← ht.out] at hans
          replace hop := Lib.hid hop
          replace f2 := Lib.hid f2
          have k32 : w5.cell? ⟨v, 32, none⟩ = some (.int .i64 p.cid) := hT5.out.new.cells.2.2.1
          have hrow5 := hM.out w5 hT5.out.grown
          rw [← htm.out] at hrow5
          replace hrow5 := Lib.hid hrow5
          go_wp2_with (first
            | (go_at_call 54
               refine (leaving_any b t M cM w5.heap.size q inc p.cid w5 hT5.out.at_ z5 (Nat.le_refl _) hrow5.out (by rw [htm.out]; omega)).mono ?_
               rintro e w6 ⟨rfl, hb6⟩
               rw [show leavesB t.mem q inc p.cid = true by rw [ht.out]; exact f1'.out]
               have hT6 := Lib.hid (hT5.out.below hb hb6)
               have z6 := hb6.size
               clear k3 k32)
            | (refine wpList_load94 rfl (.tmp 126) rfl b 4 (by rfl) t.own.set hT6.out.at_.set hIt.out.own.set ?_)
            | (go_at_call 55
               refine (begin_no b t M cM t.own.set w6 hT6.out.at_ (by omega) (by rw [ht.out]; exact f2.out)).mono ?_
               rintro e w7 ⟨rfl, hb7⟩
               have hT7 := Lib.hid (hT6.out.below hb hb7))
            | fail)
          try simp only [Act.put, List.setIfInBounds_toArray, List.set_cons_zero, List.set_cons_succ]
          have hS8 := hT7.out.below hb (Below.drew (Below.refl _ _))
          have hV8 := hS8.old
          have hC : ∀ x' : Prop, (∀ W, LVar W o (s.lt q) → x') ↔ x' := fun x' => ⟨fun f => f _ hV8, fun f _ _ => f⟩
          have L131 : ∀ W, LVar W o (s.lt q) → (loadVar 98 ⟨o, 0, none⟩).run Try.prog W = .ok (.agg (ltA (s.lt q))) W := fun W hW => run_loadVar98 W o 0 (s.lt q) hW.rng hol
          replace L131 := Lib.hid L131
          replace hS8 := Lib.hid hS8
          replace hV8 := Lib.hid hV8
          refine wp_region_ord [([0, 1, 2, 3, 4, 5], 6)] [] (fun W => LVar W o (s.lt q)) rfl (by kernel_rfl) rfl hV8.out ?_
          refine WO.seg rfl ?_ hV8.out
          simp only [picks, pick, List.cons_append, List.nil_append, List.append_nil]
          repeat (first
            | go_big_quiet_skip
            | (refine wpQuiet_loadC (by rfl) 98 (.tmp 12) rfl o 0 (by rfl) _ L131.out ?_; simp only [Act.put, List.setIfInBounds_toArray, List.set_cons_zero, List.set_cons_succ])
            | go_big_quiet_step (fail))
          refine wpQuiet_nil ?_
          intro K hK
          rw [if_pos (by rfl)]
          refine wp_store98 (.tmp 134) (.tmp 131) rfl rfl b (43 + q * 40) (by rfl) (s.lt q) (by rfl) (World.there.at hS8.out.at_.there (by omega)) hol ?_
          intro w9 hw9
          have h9 : AgAt w9 b s M cM := by
            have := hS8.out.at_.setLt q hq16 hoth.out (s.lt q) hol.l1 hol.l2
            rw [hback.out] at this
            rw [hw9.out]; exact this
          have g9 : w.grownBy w9 (some b) := by rw [hw9.out]; exact hS8.out.grown.trans (grown_sets _ _ _ _)
          have v9 : LVar w9 o (s.lt q) := by rw [hw9.out]; exact hV8.out.same ((grown_sets _ _ _ _).block o hS8.out.ow (by intro e; injection e with e; have := hS8.out.o0; omega))
          refine hK.out _ _ v9 ?_
          clear hK K
          refine WO.end_ ?_
          simp only [picks]
          refine wpQuiet_nil ?_
          clear hC
          go_wp2
          go_ret2
          exact ⟨by rw [hans.out]; rfl, by rw [hans.out]; exact ⟨h9, g9⟩⟩
        ·
          have hans := Lib.hid (show s.take q inc p = (true, 0, (s.put q inc p.wish).begin_ (s.put q inc p.wish).own.set) by rw [htk.out, if_neg (Int.not_lt.2 c1'.out), if_neg c2'.out, if_neg (by rw [hop]; decide), if_neg f1, if_neg f2])
          have f1' : Hid (leavesB (s.put q inc p.wish).mem q inc p.cid = true) := Lib.hid (by simpa using f1)
          clear f1
          try rw [← ht.out] at hans
          replace hop := Lib.hid hop
          replace f2 := Lib.hid f2
          have k32 : w5.cell? ⟨v, 32, none⟩ = some (.int .i64 p.cid) := hT5.out.new.cells.2.2.1
          have hrow5 := hM.out w5 hT5.out.grown
          rw [← htm.out] at hrow5
          replace hrow5 := Lib.hid hrow5
          go_wp2_with (first
            | (go_at_call 54
               refine (leaving_any b t M cM w5.heap.size q inc p.cid w5 hT5.out.at_ z5 (Nat.le_refl _) hrow5.out (by rw [htm.out]; omega)).mono ?_
               rintro e w6 ⟨rfl, hb6⟩
               rw [show leavesB t.mem q inc p.cid = true by rw [ht.out]; exact f1'.out]
               have hT6 := Lib.hid (hT5.out.below hb hb6)
               have z6 := hb6.size
               clear k3 k32)
            | (refine wpList_load94 rfl (.tmp 126) rfl b 4 (by rfl) t.own.set hT6.out.at_.set hIt.out.own.set ?_)
            | (go_at_call 55
               refine (begin_yes b t M cM t.own.set w6 hT6.out.at_ (by omega) hIt.out (by rw [ht.out]; simpa using f2.out) hIt.out.own.set).mono ?_
               rintro e w7 ⟨rfl, h7, g7⟩)
            | fail)
          go_ret2
          exact ⟨by rw [hans.out]; rfl, by rw [hans.out]; exact ⟨h7, hT6.out.grown.trans g7⟩⟩
theorem take_any (b : Nat) (s : St) (M : Option Addr) (cM : Nat) (S V : Option Addr) (cS cV N : Nat) (p : Pr) (q inc : Int) (w : World) (h : AgAt w b s M cM) (hb : b < w.heap.size) (hI : Inv s)
    (hN : N ≤ w.heap.size) (hS : RowAt w N 1 eInt S p.set) (hV : RowAt w N 1 eInt V p.vec) (hl1 : p.set.length ≤ 9223372036854775807) (hl2 : p.vec.length ≤ 9223372036854775807) (hM : ∀ W, w.grownBy W (some b) → RowAt W W.heap.size 3 eMb M s.mem) (hml : s.mem.length ≤ 16) :
    Calls Try.prog 36 #[.pointer (some ⟨b, 0, none⟩), .int .i64 q, .int .i64 inc, .agg (prA S V cS cV p)] w fun x w' => x = .returned (.tuple #[.bool (s.take q inc p).1, .int .i64 (s.take q inc p).2.1]) ∧ Left w w' b (s.take q inc p).2.2 M cM := by
  by_cases hc : q < 0 ∨ (s.n : Int) ≤ q ∨ q = s.self ∨ inc < 1 ∨ 4611686018427387904 < inc
  · have e : s.take q inc p = (false, 1, s) := by unfold St.take; rw [if_pos hc]
    rw [e]
    exact take_bad b s M cM S V cS cV p q inc w h hb hc
  · obtain ⟨k, rfl⟩ := Int.eq_ofNat_of_zero_le (show 0 ≤ q by omega)
    have k1 : k < s.n := by omega
    have k2 : k ≠ s.self := by omega
    have i1 : 1 ≤ inc := by omega
    have i2 : inc ≤ 4611686018427387904 := by omega
    cases hg : p.goodB k inc s.n with
    | false =>
      have e : s.take k inc p = (false, 60, s) := by unfold St.take; rw [if_neg hc, if_pos (by rw [Int.toNat_natCast]; exact hg)]
      rw [e]
      exact take_unfit b s M cM S V cS cV N p k inc w h hb hI k1 k2 i1 i2 hN hS hV hl1 hl2 hg
    | true =>
      by_cases c1 : inc < (s.lt k).inc
      · exact take_old b s M cM S V cS cV N p k inc w h hb hI k1 k2 i1 i2 hN hS hV hl1 hl2 hg hM hml c1
      · by_cases c2 : (s.lt k).inc = inc ∧ p.rev ≤ (s.lt k).w.rev
        · exact take_stale b s M cM S V cS cV N p k inc w h hb hI k1 k2 i1 i2 hN hS hV hl1 hl2 hg hM hml c1 c2.1 c2.2
        · exact take_fits b s M cM S V cS cV N p k inc w h hb hI k1 k2 i1 i2 hN hS hV hl1 hl2 hg hM hml c1 c2
end Go.Proofs.Ytfbeggdbjpmppaa
namespace Go.Proofs.Ytfbeggdbjpmppaa
open Go.RowKit
theorem Owns.there {w : World} {base g c : Nat} {l : List Int} (h : Owns w base 3 1 eInt (some ⟨g, 0, none⟩) c l) : w.there g 0 l.length := fun j hj => by
  rw [Nat.zero_add]
  refine ⟨?_, World.ownsRow.frozenAt h j⟩
  rw [World.ownsRow.cellAt h j (by omega)]
  rw [List.getElem?_eq_getElem (by rw [length_flat len_eInt]; omega)]; rfl
theorem viSame_refl (v : Vid) (ms : List Mb) : viSame v ms v ms = true := by unfold viSame vidEq; simp
theorem estimate_any' (b : Nat) (s : St) (M : Option Addr) (cM : Nat) (A : Option Addr) (cA N n : Nat) (l : List Int) (w : World) (hn : l.length = n) (h : AgAt w b s M cM) (hb : b < w.heap.size) (hI : Inv s) (hN : N ≤ w.heap.size) (hA : RowAt w N 1 eInt A l) (hl : n ≤ 9223372036854775807) :
    Calls Try.prog 37 #[.pointer (some ⟨b, 0, none⟩), .slice A n cA] w fun x w' => x = .returned (.tuple #[.bool (s.estimate l).1, .int .i64 (s.estimate l).2.1]) ∧ Left w w' b (s.estimate l).2.2 M cM := by
  subst hn
  exact estimate_any b s M cM A cA N l w h hb hI hN hA hl
theorem row_prefix {w : World} {N : Nat} {A : Option Addr} {l m : List Int} (h : RowAt w N 1 eInt A (l ++ m)) : RowAt w N 1 eInt A l := fun h0 => by
  obtain ⟨b, off, e, hb, hc⟩ := h (by rw [List.length_append]; omega)
  exact ⟨b, off, e, hb, fun k x hx j u hu => hc k x (by rw [List.getElem?_append_left (List.getElem?_eq_some_iff.1 hx).1]; exact hx) j u hu⟩
end Go.Proofs.Ytfbeggdbjpmppaa
namespace Go.Proofs.Ytfbeggdbjpmppaa
open Go.RowKit
def agV : Option Ag → Vid
  | some a => a.vid
  | none => Vid.zero
def agM : Option Ag → List Mb
  | some a => a.mem
  | none => []
def agT : Option Ag → List Int
  | some a => a.trans
  | none => []
theorem rowN_nil {α : Type} (w : World) (lo sz : Nat) (enc : α → List Value) (A : Option Addr) : RowN w lo sz enc A [] := fun h => by simp at h
def AoPost (w : World) (g : Option Ag) (x : Ending) (w' : World) : Prop :=
  ∃ A c T cT, x = .returned (.tuple #[.agg (viewA (agV g) A (agM g).length c), .slice T (agT g).length cT, .bool g.isSome]) ∧ RowN w' w.heap.size 3 eMb A (agM g) ∧ RowN w' w.heap.size 1 eInt T (agT g) ∧ Below w.heap.size w w'
theorem AgPost.one {w w' : World} {s : St} {x : Ending} (h : AgPost w s x w') : AoPost w s.agreed x w' := by
  obtain ⟨h1, h2, h3⟩ := h
  cases ha : s.agreed with
  | none => exact ⟨none, 0, none, 0, h1 ha, rowN_nil _ _ _ _ _, rowN_nil _ _ _ _ _, h3⟩
  | some a =>
    obtain ⟨A, c, T, cT, e, rA, rT⟩ := h2 a ha
    exact ⟨A, c, T, cT, e, rA, rT, h3⟩
section
variable {w0 w : World} {a b : Nat} {G F : List Nat} {s t : St} {hs : List HdR} {X : Ptrs} {M : Option Addr} {cM : Nat}
end
end Go.Proofs.Ytfbeggdbjpmppaa
namespace Go.Proofs.Ytfbeggdbjpmppaa
def St.out (s : St) : Pr := ⟨s.own.set.take s.n, s.own.cid, s.own.rev, s.own.top, s.own.prev, s.own.vec.take s.n⟩
end Go.Proofs.Ytfbeggdbjpmppaa
namespace Go.Proofs.Ytfbeggdbjpmppaa
def Hrd (s : St) : Prop := s.opn = true → s.own.vec = s.heard
theorem begin_hrd (s : St) (x : List Int) : Hrd (s.begin_ x) := fun _ => rfl
theorem take_hrd {s : St} (h : Hrd s) (q inc : Int) (p : Pr) : Hrd (s.take q inc p).2.2 := by
  unfold St.take
  split
  · exact h
  · split
    · exact h
    · split
      · exact h
      · split
        · exact h
        · dsimp only
          split
          · split
            · rename_i h6
              exact fun _ => h6.symm
            · split
              · exact fun _ => rfl
              · exact h
          · rename_i h5
            split
            · exact fun e => absurd e h5
            · split
              · exact h
              · exact begin_hrd _ _
theorem install_hrd {s : St} (h : Hrd s) : Hrd s.install := by
  unfold St.install
  split
  · exact fun e => by cases e
  · exact h
theorem new_hrd {n self : Nat} {inc floor : Int} (h : newB n self inc floor = true) : Hrd (newSt n self inc floor) := fun _ => by
  unfold newB at h
  simp only [decide_eq_true_eq] at h
  show zeros.set self (floor + 1) = (newSt n self inc floor).heard
  unfold St.heard
  apply List.ext_getElem?
  intro j
  by_cases hj : j < 16
  · rw [List.getElem?_map, List.getElem?_range hj]
    have hlt : (newSt n self inc floor).lt j = Lt.zero := by
      show (List.replicate 16 Lt.zero)[j]?.getD Lt.zero = _
      rw [List.getElem?_replicate]; split <;> rfl
    by_cases e : self = j
    · subst e
      rw [List.getElem?_set_self (by rw [len_zeros]; exact hj)]
      show _ = some ((newSt n self inc floor).vecAt self)
      unfold St.vecAt
      rw [if_pos (show self = (newSt n self inc floor).self from rfl)]; rfl
    · rw [List.getElem?_set_ne e]
      show zeros[j]? = some ((newSt n self inc floor).vecAt j)
      unfold St.vecAt
      rw [if_neg (fun e2 => e e2.symm), if_neg (by rintro ⟨_, h2⟩; unfold St.matB at h2; rw [hlt] at h2; simp [Lt.zero] at h2)]
      unfold zeros
      rw [List.getElem?_replicate, if_pos hj]
  · rw [List.getElem?_eq_none (by rw [List.length_set, len_zeros]; omega), List.getElem?_eq_none (by simp; omega)]
end Go.Proofs.Ytfbeggdbjpmppaa
namespace Go.Proofs.Ytfbeggdbjpmppaa
open Go Go.RowKit
theorem range_sub {w : World} {b o n : Nat} {l m : List Value} (h : w.rangeAt b o l) (k : Nat) (hk : (l.drop k).take n = m) : w.rangeAt b (o + k) m := fun j u hu => by
  rw [Nat.add_assoc]
  refine h (k + j) u ?_
  rw [← hk, List.getElem?_take, List.getElem?_drop] at hu
  split at hu
  · exact hu
  · cases hu
theorem flatk_take {α : Type} {enc : α → List Value} {sz : Nat} (hsz : ∀ x, (enc x).length = sz) : ∀ (l : List α) (k : Nat), (l.flatMap enc).take (k * sz) = (l.take k).flatMap enc
  | [], k => by simp
  | x :: l, 0 => by simp
  | x :: l, k + 1 => by
    rw [List.flatMap_cons, List.take_succ_cons, List.flatMap_cons, ← flatk_take hsz l k, List.take_append, hsz, show (k + 1) * sz - sz = k * sz by rw [Nat.add_mul]; omega, List.take_of_length_le (by rw [hsz, Nat.add_mul]; omega)]
theorem flatk_drop {α : Type} {enc : α → List Value} {sz : Nat} (hsz : ∀ x, (enc x).length = sz) : ∀ (l : List α) (k : Nat), (l.flatMap enc).drop (k * sz) = (l.drop k).flatMap enc
  | [], k => by simp
  | x :: l, 0 => by simp
  | x :: l, k + 1 => by
    rw [List.flatMap_cons, List.drop_succ_cons, ← flatk_drop hsz l k, List.drop_append, hsz, show (k + 1) * sz - sz = k * sz by rw [Nat.add_mul]; omega, List.drop_eq_nil_of_le (by rw [hsz, Nat.add_mul]; omega)]; rfl
theorem stored_sets {base g n c sz : Nat} {e : TypeId} : ∀ (vs xs : List Value) (o : Nat) (w : World), w.ownsRow base e sz (.slice (some ⟨g, 0, none⟩) n c) n xs → o + vs.length ≤ xs.length → (w.setCells g o vs).ownsRow base e sz (.slice (some ⟨g, 0, none⟩) n c) n (xs.take o ++ vs ++ xs.drop (o + vs.length))
  | [], xs, o, w, h, _ => by simpa [World.setCells] using h
  | v :: vs, xs, o, w, h, hl => by
    rw [List.length_cons] at hl
    have h1 := (World.ownsRow.stored h o v).1
    have := stored_sets vs (xs.set o v) (o + 1) (w.setCell ⟨g, o, none⟩ v) h1 (by rw [List.length_set]; omega)
    have e : xs.take o ++ v :: vs ++ xs.drop (o + (v :: vs).length) = (xs.set o v).take (o + 1) ++ vs ++ (xs.set o v).drop (o + 1 + vs.length) := by
      rw [List.length_cons, List.take_add_one, List.getElem?_set_self (by omega), List.take_set_of_le (Nat.le_refl _), List.drop_set_of_lt (by omega)]
      simp [Nat.add_assoc, Nat.add_comm 1]
    rw [World.setCells, e]
    exact this
theorem Owns.same {α : Type} {w w' : World} {base sz c : Nat} {e : TypeId} {enc : α → List Value} {A : Option Addr} {l : List α} (h : Owns w base e sz enc A c l) (hb : ∀ g, blk A = some g → w'.heap[g]? = w.heap[g]?) : Owns w' base e sz enc A c l := by
  refine ⟨h.1, ?_⟩
  rcases h.2 with h2 | ⟨g, cap, cur, hv, h3, h4, h5⟩
  · exact .inl h2
  · injection hv with e1 e2 e3
    subst e1; subst e3
    exact .inr ⟨g, c, cur, rfl, h3, (hb g rfl).trans h4, h5⟩
theorem Owns.sets {α : Type} {w : World} {base g c k sz : Nat} {e : TypeId} {enc : α → List Value} {l : List α} (h : Owns w base e sz enc (some ⟨g, 0, none⟩) c l) (hsz : ∀ x, (enc x).length = sz) (hk : k < l.length) (x : α) : Owns (w.setCells g (k * sz) (enc x)) base e sz enc (some ⟨g, 0, none⟩) c (l.set k x) := by
  have hl := length_flat hsz l
  have hm : (k + 1) * sz ≤ l.length * sz := Nat.mul_le_mul_right _ hk
  have := stored_sets (enc x) (l.flatMap enc) (k * sz) w h (by rw [hl, hsz, ← Nat.succ_mul]; exact hm)
  have e : (l.set k x).flatMap enc = (l.flatMap enc).take (k * sz) ++ enc x ++ (l.flatMap enc).drop (k * sz + (enc x).length) := by
    rw [hsz, ← Nat.succ_mul, flatk_take hsz, flatk_drop hsz]
    have e2 : (l.set k x).flatMap enc = ((l.set k x).take k ++ (l.set k x).drop k).flatMap enc := by rw [List.take_append_drop]
    rw [e2, List.flatMap_append, List.take_set_of_le (Nat.le_refl _), List.drop_eq_getElem_cons (by rw [List.length_set]; exact hk), List.flatMap_cons, List.getElem_set_self, List.drop_set_of_lt (by omega), List.append_assoc]
  unfold Owns
  rw [List.length_set, e]
  exact this
theorem Owns.cell {α : Type} {w : World} {base c sz : Nat} {e : TypeId} {enc : α → List Value} {A : Option Addr} {l : List α} (h : Owns w base e sz enc A c l) (hsz : ∀ x, (enc x).length = sz) {k : Nat} {x : α} (hx : l[k]? = some x) : ∃ g, A = some ⟨g, 0, none⟩ ∧ w.rangeAt g (k * sz) (enc x) := by
  have hl : 0 < l.length := by have := (List.getElem?_eq_some_iff.1 hx).1; omega
  obtain ⟨g, cap, hv, _, _⟩ := World.ownsRow.form h hl
  have hA : A = some ⟨g, 0, none⟩ := by injection hv
  subst hA
  refine ⟨g, rfl, fun j u hu => ?_⟩
  have hu' := flatMap_at hsz l k j x u hx hu
  rw [World.ownsRow.cellAt h (k * sz + j) (by rw [← length_flat hsz l]; exact (List.getElem?_eq_some_iff.1 hu').1), ← hu']
section
variable {α : Type} {w : World} {base sz c : Nat} {e : TypeId} {enc : α → List Value} {A : Option Addr} {l : List α}
end
end Go.Proofs.Ytfbeggdbjpmppaa
namespace Go.Proofs.Ytfbeggdbjpmppaa
def Bef (a b : Lt) : Prop := a.inc = b.inc → a.w.rev < b.w.rev ∧ a.w.cid ≤ b.w.cid ∧ (a.w.cid = b.w.cid → a.w.set = b.w.set ∧ a.w.top = b.w.top ∧ a.w.prev = b.w.prev ∧ ∀ q, nth a.w.vec q ≠ 0 → nth b.w.vec q ≠ 0 → nth a.w.vec q ≤ nth b.w.vec q)
theorem pw_two {α : Type} {R : α → α → Prop} : ∀ {l : List α}, l.Pairwise R → ∀ {a b : α}, a ∈ l → b ∈ l → a = b ∨ R a b ∨ R b a
  | [], _, a, b, ha, _ => absurd ha (by simp)
  | x :: l, h, a, b, ha, hb => by
    obtain ⟨h1, h2⟩ := List.pairwise_cons.1 h
    rcases List.mem_cons.1 ha with ea | ha
    · rcases List.mem_cons.1 hb with eb | hb
      · exact .inl (ea.trans eb.symm)
      · exact .inr (.inl (ea ▸ h1 b hb))
    · rcases List.mem_cons.1 hb with eb | hb
      · exact .inr (.inr (eb ▸ h1 a ha))
      · exact pw_two h2 ha hb
structure EI (n i : Nat) (e : Lt) : Prop where
  inc1 : 1 ≤ e.inc
  cid1 : 1 ≤ e.w.cid
  rev1 : 1 ≤ e.w.rev
  me : nth e.w.set i = e.inc
  mev : nth e.w.vec i = e.w.cid
  ok : WOk e.w
  pset : e.w.set = pad (e.w.set.take n)
  pvec : e.w.vec = pad (e.w.vec.take n)
  pval : validB e.w.prev n = true
structure NI (E : Nat → List Lt) (n : Nat) (fl : Int) (i : Nat) (s : St) : Prop where
  self : s.self = i
  last : (E i).getLast? = some ⟨s.inc, s.own⟩
  each : ∀ e ∈ E i, EI n i e ∧ e.inc ≤ s.inc
  pw : (E i).Pairwise Bef
  src : ∀ e ∈ E i, ∀ q, nth e.w.vec q ≠ 0 → ∃ x ∈ E q, x.inc = nth e.w.set q ∧ x.w.set = e.w.set ∧ x.w.cid = nth e.w.vec q
  kn : ∀ q, (s.lt q).inc ≠ 0 → s.lt q ∈ E q
  low : ∀ e ∈ E i, e.inc = s.inc → ∀ q, q ≠ i → nth e.w.vec q ≠ 0 → nth e.w.set q < (s.lt q).inc ∨ (nth e.w.set q = (s.lt q).inc ∧ nth e.w.vec q ≤ (s.lt q).w.cid)
  pv : s.vid = Vid.zero ∨ s.opn = true → s.own.prev = s.vid
  vz : s.vid = Vid.zero ∨ fl < s.vid.e
  ft : fl ≤ s.own.top
  vval : validB s.vid n = true
def addE (E : Nat → List Lt) (i : Nat) (y : Lt) : Nat → List Lt := fun k => if k = i then E i ++ [y] else E k
theorem addE_same (E : Nat → List Lt) (i : Nat) (y : Lt) : addE E i y i = E i ++ [y] := if_pos rfl
theorem addE_ne (E : Nat → List Lt) {i k : Nat} (y : Lt) (h : k ≠ i) : addE E i y k = E k := if_neg h
theorem addE_mono {E : Nat → List Lt} {i : Nat} {y x : Lt} {k : Nat} (h : x ∈ E k) : x ∈ addE E i y k := by
  unfold addE; split
  · rename_i e; subst e; exact List.mem_append_left _ h
  · exact h
theorem addE_new (E : Nat → List Lt) (i : Nat) (y : Lt) : y ∈ addE E i y i := by rw [addE_same]; exact List.mem_append_right _ (List.mem_singleton.2 rfl)
structure EG (E : Nat → List Lt) : Prop where
  pw : ∀ k, (E k).Pairwise Bef
  inc1 : ∀ k, ∀ x ∈ E k, 1 ≤ x.inc
section
variable {E : Nat → List Lt} {n : Nat} {fl : Int} {i j : Nat} {s : St}
theorem NI.other (h : NI E n fl j s) (y : Lt) (hij : j ≠ i) : NI (addE E i y) n fl j s := by
  have e := addE_ne E y hij
  refine ⟨h.self, by rw [e]; exact h.last, by rw [e]; exact h.each, by rw [e]; exact h.pw, ?_, fun q hq => addE_mono (h.kn q hq), by rw [e]; exact h.low, h.pv, h.vz, h.ft, h.vval⟩
  rw [e]
  intro x hx q hq
  obtain ⟨z, hz, r⟩ := h.src x hx q hq
  exact ⟨z, addE_mono hz, r⟩
theorem pw_last {l : List Lt} {y : Lt} (h : l.getLast? = some y) (hp : l.Pairwise Bef) {a : Lt} (ha : a ∈ l) : a = y ∨ Bef a y := by
  obtain ⟨l', rfl⟩ := List.getLast?_eq_some_iff.1 h
  rcases List.mem_append.1 ha with ha | ha
  · exact .inr ((List.pairwise_append.1 hp).2.2 a ha y (List.mem_singleton.2 rfl))
  · exact .inl (List.mem_singleton.1 ha)
theorem NI.here (h : NI E n fl i s) : (⟨s.inc, s.own⟩ : Lt) ∈ E i := List.mem_of_getLast? h.last
theorem NI.upto (h : NI E n fl i s) {e : Lt} (he : e ∈ E i) (hi : e.inc = s.inc) : e.w.rev ≤ s.own.rev ∧ e.w.cid ≤ s.own.cid ∧ (e.w.rev = s.own.rev → e = ⟨s.inc, s.own⟩) := by
  rcases pw_last h.last h.pw he with rfl | hb
  · exact ⟨Int.le_refl _, Int.le_refl _, fun _ => rfl⟩
  · have := hb hi
    exact ⟨by have := this.1; simp only at this; omega, this.2.1, fun e2 => by have := this.1; simp only at this; omega⟩
theorem NI.put (h : NI E n fl i s) (g : EG E) (hs : s.oth.length = 16) {q : Nat} (hq : q < 16) {x : Lt} (hx : x ∈ E q) (h1 : ¬ x.inc < (s.lt q).inc) (h2 : ¬ ((s.lt q).inc = x.inc ∧ x.w.rev ≤ (s.lt q).w.rev)) : NI E n fl i (s.put q x.inc x.w) := by
  have hlt : ∀ r, (s.put q x.inc x.w).lt r = if r = q then x else s.lt r := fun r => lt_put (by omega)
  refine ⟨h.self, h.last, h.each, h.pw, h.src, fun r hr => ?_, fun e he hi r hr hv => ?_, h.pv, h.vz, h.ft, h.vval⟩
  · rw [hlt] at hr ⊢
    split at hr
    · rename_i e; subst e; rw [if_pos rfl]; exact hx
    · rename_i e; rw [if_neg e]; exact h.kn r hr
  · rw [hlt]
    split
    · rename_i e2; subst e2
      rcases h.low e he hi r hr hv with h3 | ⟨h3, h4⟩
      · left; omega
      · by_cases h5 : (s.lt r).inc = x.inc
        · right
          refine ⟨h3.trans h5, ?_⟩
          obtain ⟨z, hz, z1, -⟩ := h.src e he r hv
          have hpos : (s.lt r).inc ≠ 0 := by have := g.inc1 r z hz; omega
          have hold := h.kn r hpos
          rcases pw_two (g.pw r) hold hx with e3 | hb | hb
          · exact absurd ⟨h5, by rw [e3]; exact Int.le_refl _⟩ h2
          · exact Int.le_trans h4 (hb h5).2.1
          · exact absurd ⟨h5, Int.le_of_lt (hb h5.symm).1⟩ h2
        · left; omega
    · exact h.low e he hi r hr hv
theorem NI.push (h : NI E n fl i s) {s' : St} (hself : s'.self = s.self) (hinc : s'.inc = s.inc) (hei : EI n i ⟨s'.inc, s'.own⟩)
    (hrev : s.own.rev < s'.own.rev) (hcid : s.own.cid ≤ s'.own.cid)
    (hsame : s'.own.cid = s.own.cid → s.own.set = s'.own.set ∧ s.own.top = s'.own.top ∧ s.own.prev = s'.own.prev)
    (hlt : ∀ q, s'.lt q = s.lt q) (hvec : ∀ q, q ≠ i → nth s'.own.vec q ≠ 0 → (s.lt q).inc ≠ 0 ∧ (s.lt q).inc = nth s'.own.set q ∧ (s.lt q).w.set = s'.own.set ∧ (s.lt q).w.cid = nth s'.own.vec q)
    (hpv : s'.vid = Vid.zero ∨ s'.opn = true → s'.own.prev = s'.vid) (hvz : s'.vid = Vid.zero ∨ fl < s'.vid.e) (hft : fl ≤ s'.own.top) (hvv : validB s'.vid n = true) : NI (addE E i ⟨s'.inc, s'.own⟩) n fl i s' := by
  have e := addE_same E i ⟨s'.inc, s'.own⟩
  refine ⟨hself.trans h.self, by rw [e]; simp, fun a ha => ?_, ?_, fun a ha q hq => ?_, fun q hq => by rw [hlt] at hq ⊢; exact addE_mono (h.kn q hq), fun a ha hi q hq hv => ?_, hpv, hvz, hft, hvv⟩
  · rw [e] at ha
    rcases List.mem_append.1 ha with ha | ha
    · rw [hinc]; exact h.each a ha
    · rw [List.mem_singleton.1 ha]; exact ⟨hei, Int.le_refl _⟩
  · rw [e]
    refine List.pairwise_append.2 ⟨h.pw, List.pairwise_singleton _ _, fun a ha b hb => ?_⟩
    rw [List.mem_singleton.1 hb]
    intro hi
    have hi' : a.inc = s.inc := hi.trans hinc
    obtain ⟨u1, u2, -⟩ := h.upto ha hi'
    refine ⟨by show a.w.rev < s'.own.rev; omega, by show a.w.cid ≤ s'.own.cid; omega, fun hc => ?_⟩
    have hc' : a.w.cid = s'.own.cid := hc
    obtain ⟨p1, p2, p3⟩ := hsame (by omega)
    have hold : a.w.set = s.own.set ∧ a.w.top = s.own.top ∧ a.w.prev = s.own.prev := by
      rcases pw_last h.last h.pw ha with rfl | hb2
      · exact ⟨rfl, rfl, rfl⟩
      · have := (hb2 hi').2.2 (by show a.w.cid = s.own.cid; omega)
        exact ⟨this.1, this.2.1, this.2.2.1⟩
    refine ⟨hold.1.trans p1, hold.2.1.trans p2, hold.2.2.trans p3, fun q hq1 hq2 => ?_⟩
    by_cases hqi : q = i
    · have m1 := (h.each a ha).1.mev
      have m2 := hei.mev
      rw [hqi, m1]
      show _ ≤ nth s'.own.vec i
      have m2' : nth s'.own.vec i = s'.own.cid := m2
      omega
    · obtain ⟨v0, v1, v2, v3⟩ := hvec q hqi hq2
      have hse : a.w.set = s'.own.set := hold.1.trans p1
      rcases h.low a ha hi' q hqi hq1 with l1 | ⟨l1, l2⟩
      · rw [hse] at l1; omega
      · show _ ≤ nth s'.own.vec q
        omega
  · rw [e] at ha
    rcases List.mem_append.1 ha with ha | ha
    · obtain ⟨z, hz, r⟩ := h.src a ha q hq
      exact ⟨z, addE_mono hz, r⟩
    · rw [List.mem_singleton.1 ha] at hq ⊢
      by_cases hqi : q = i
      · subst hqi
        exact ⟨_, addE_new E q ⟨s'.inc, s'.own⟩, hei.me.symm, rfl, hei.mev.symm⟩
      · obtain ⟨v0, v1, v2, v3⟩ := hvec q hqi hq
        exact ⟨s.lt q, addE_mono (h.kn q v0), v1, v2, v3⟩
  · rw [e] at ha
    rw [hlt]
    rcases List.mem_append.1 ha with ha | ha
    · exact h.low a ha (hi.trans hinc) q hq hv
    · rw [List.mem_singleton.1 ha] at hv ⊢
      obtain ⟨v0, v1, v2, v3⟩ := hvec q hq hv
      exact .inr ⟨v1.symm, by show nth s'.own.vec q ≤ _; omega⟩
theorem heard_src {t : St} {q : Nat} (hq : q ≠ t.self) (h : nth t.heard q ≠ 0) : (t.lt q).inc ≠ 0 ∧ (t.lt q).inc = nth t.own.set q ∧ (t.lt q).w.set = t.own.set ∧ (t.lt q).w.cid = nth t.heard q := by
  by_cases h16 : q < 16
  · rw [nth_heard h16] at h ⊢
    unfold St.vecAt at h ⊢
    rw [if_neg hq] at h ⊢
    split at h
    · rename_i e
      rw [if_pos e]
      have := e.2; unfold St.matB at this; simp only [decide_eq_true_eq] at this
      exact ⟨this.1, this.2.1, this.2.2, rfl⟩
    · exact absurd rfl h
  · exact absurd (nth_over (by rw [len_heard]; omega)) h
theorem EI.of {t : St} (h : Ris t) (hn : t.n = n) (hs : t.self = i) (hv : validB t.own.prev n = true) (hr : 1 ≤ t.own.rev) : EI n i ⟨t.inc, t.own⟩ := by
  subst hn; subst hs
  exact ⟨h.inv.inc1, h.cid1, hr, h.inv.me, h.me, h.inv.own, h.rinv.set, h.rinv.vec, hv⟩
theorem NI.begin_ (h : NI E n fl i s) (hn : s.n = n) {x : List Int} (hr : Ris (s.begin_ x)) : NI (addE E i ⟨(s.begin_ x).inc, (s.begin_ x).own⟩) n fl i (s.begin_ x) := by
  have hprev : (s.begin_ x).own.prev = s.vid := by
    show (if s.vid = Vid.zero then s.own.prev else s.vid) = s.vid
    split
    · rename_i e; exact h.pv (.inl e)
    · rfl
  refine h.push rfl rfl (EI.of hr hn h.self (by rw [hprev]; exact h.vval) (by have : 1 ≤ s.own.rev := (h.each _ h.here).1.rev1; show 1 ≤ s.own.rev + 1; omega)) (by show s.own.rev < s.own.rev + 1; omega) (by show s.own.cid ≤ s.own.cid + 1; omega) (fun e => by have e' : s.own.cid + 1 = s.own.cid := e; omega) (fun _ => rfl) (fun q hq hv => ?_) (fun _ => hprev) h.vz ?_ h.vval
  · exact heard_src (t := s.beg1 x) (by show q ≠ s.self; rw [h.self]; exact hq) hv
  · show fl ≤ if s.vid = Vid.zero then s.own.top else s.vid.e
    split
    · exact h.ft
    · rename_i e; rcases h.vz with e2 | e2
      · exact absurd e2 e
      · omega
theorem NI.vec (h : NI E n fl i s) (hn : s.n = n) (ho : s.opn = true) {t : St} (ht : t = { s with own := { s.own with vec := s.heard, rev := s.own.rev + 1 } }) (hr : Ris t) : NI (addE E i ⟨t.inc, t.own⟩) n fl i t := by
  subst ht
  refine h.push rfl rfl (EI.of hr hn h.self (h.each _ h.here).1.pval (by have : 1 ≤ s.own.rev := (h.each _ h.here).1.rev1; show 1 ≤ s.own.rev + 1; omega)) (by show s.own.rev < s.own.rev + 1; omega) (Int.le_refl _) (fun _ => ⟨rfl, rfl, rfl⟩) (fun _ => rfl) (fun q hq hv => ?_) (fun _ => h.pv (.inr ho)) h.vz h.ft h.vval
  exact heard_src (t := s) (by rw [h.self]; exact hq) hv
end
end Go.Proofs.Ytfbeggdbjpmppaa
