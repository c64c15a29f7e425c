/- Orl, joined. -/
import Derived.Test.YtfbeggdbjpmppaaMo1
set_option linter.unusedVariables false
set_option linter.unusedSimpArgs false
/- MemberOrderless, where agents are made. -/
namespace Go.Proofs.Ytfbeggdbjpmppaa
open Go.RowKit
set_option maxRecDepth 100000 in
set_option maxHeartbeats 4000000 in
theorem orl_some (n s : Nat) (i f : Int) (A : Option Addr) (c N : Nat) (os : List OpX) (B : Option Addr) (cB : Nat) (tl : List TellX) (w : World) (h : newB n s i f = true) (hf : f ≠ 4611686018427387904) (hN : N ≤ w.heap.size) (hA : OpsAt w N A os) (hB : ToldAt w N B tl) :
    Calls Try.prog 12 #[.agg (caseA n s i f A os.length c), .slice B tl.length cB] w fun x w' => x = .returned (.bool true) ∧ Below w.heap.size w w' := by
  obtain ⟨wA, hwA⟩ : ∃ wA, wA = w.alloc (.cells (caseA n s i f A os.length c) 59) := ⟨_, rfl⟩
  have hbA : Below w.heap.size w wA := by rw [hwA]; exact below_box1 _ _ _
  have zA : w.heap.size < wA.heap.size := by rw [hwA]; simp
  have oA : wA.rangeAt w.heap.size 0 (caseA n s i f A os.length c).toList := by rw [hwA]; exact range_new w (caseA n s i f A os.length c) 59
  obtain ⟨v, hv⟩ : ∃ v, v = w.heap.size := ⟨_, rfl⟩
  rw [← hv] at oA
  have c0 : wA.cell? ⟨v, 0, none⟩ = some (.int .i64 n) := oA 0 _ rfl
  have c1 : wA.cell? ⟨v, 1, none⟩ = some (.int .i64 s) := oA 1 _ rfl
  have c2 : wA.cell? ⟨v, 2, none⟩ = some (.int .i64 i) := oA 2 _ rfl
  have c3 : wA.cell? ⟨v, 3, none⟩ = some (.int .i64 f) := oA 3 _ rfl
  have c4 : wA.cell? ⟨v, 4, none⟩ = some (.slice A os.length c) := oA 4 _ rfl
  have opsA : OpsAt wA wA.heap.size A os := hA.up (hbA.mono hN) (by omega)
  have tlA : ToldAt wA wA.heap.size B tl := hB.up (hbA.mono hN) (by omega)
  have hlen := hA.len
  have tlen := hB.len
  have hvz : v < wA.heap.size := by omega
  obtain ⟨s0, hs0⟩ : ∃ x, x = newSt n s i f := ⟨_, rfl⟩
  have hi0 : Inv s0 := by rw [hs0]; exact new_inv h hf
  have hr0 : RInv s0 := by rw [hs0]; exact new_rinv h hf
  have hh0 : Hrd s0 := by rw [hs0]; exact new_hrd h
  have on0 : s0.opn = true := by rw [hs0]; rfl
  have nn0 : s0.n = n := by rw [hs0]; rfl
  have me0 : s0.mem = [] := by rw [hs0]; rfl
  have oo : ∀ W, Below wA.heap.size wA W → W.rangeAt v 0 (caseA n s i f A os.length c).toList := fun W hW => range_same oA (hW.block v hvz)
  replace oo := Lib.hid oo
  replace hi0 := Lib.hid hi0
  replace hr0 := Lib.hid hr0
  replace hh0 := Lib.hid hh0
  replace on0 := Lib.hid on0
  replace nn0 := Lib.hid nn0
  replace me0 := Lib.hid me0
  replace hs0 := Lib.hid hs0
  replace hbA := Lib.hid hbA
  replace oA := Lib.hid oA
  replace hwA := Lib.hid hwA
  replace hv := Lib.hid hv
  replace opsA := Lib.hid opsA
  replace tlA := Lib.hid tlA
  replace h := Lib.hid h
  replace hf := Lib.hid hf
  clear hA hB
  have tok : True := trivial
  go_enter Try.func12, Try.ntmps12
  go_wp2_with fail
  rw [← hwA.out, ← hv.out]
  go_wp2_with (first
    | (clear tok
       go_at_call 26
       refine (begun_yes n s i f A os.length c wA h.out hf.out).mono ?_
       rintro e w1 ⟨a, rfl, ag1, hb1, lo1⟩
       rw [← hs0.out] at ag1
       have D1 : Solo wA a [a] s0 none 0 w1 := by
         refine ⟨ag1, by rw [me0.out]; exact rowF_nil, List.mem_cons_self .., fun x hx => ?_, fun x hx => ?_, hi0.out, hr0.out, hb1⟩
         · have := List.mem_singleton.1 hx; omega
         · have := List.mem_singleton.1 hx; subst this; exact ag_lt ag1
       have q1 := oo.out _ hb1
       clear c0 c1 c2 c3 c4 ag1 lo1
       have c0 : w1.cell? ⟨v, 0, none⟩ = some (.int .i64 n) := q1 0 _ rfl
       have c1 : w1.cell? ⟨v, 1, none⟩ = some (.int .i64 s) := q1 1 _ rfl
       have c2 : w1.cell? ⟨v, 2, none⟩ = some (.int .i64 i) := q1 2 _ rfl
       have c3 : w1.cell? ⟨v, 3, none⟩ = some (.int .i64 f) := q1 3 _ rfl
       have c4 : w1.cell? ⟨v, 4, none⟩ = some (.slice A os.length c) := q1 4 _ rfl
       replace D1 := Lib.hid D1
       clear q1 hb1)
    | (go_at_call 26
       refine (begun_yes n s i f A os.length c w1 h.out hf.out).mono ?_
       rintro e w2 ⟨b, rfl, ag2, hb2, lo2⟩
       rw [← hs0.out] at ag2
       have hz2 := ag_lt ag2
       have hbl := D1.out.bel.size
       have haz := D1.out.hi a D1.out.aF
       have T2 : Two wA a b [b, a] s0 s0 none 0 none 0 w2 := by
         refine ⟨D1.out.add hb2 lo2 hz2, ⟨ag2, by rw [me0.out]; exact rowF_nil, List.mem_cons_self .., fun x hx => ?_, fun x hx => ?_, hi0.out, hr0.out, D1.out.bel.trans (hb2.mono hbl)⟩, by omega⟩
         · rcases List.mem_cons.1 hx with e | e
           · omega
           · have := List.mem_singleton.1 e; have := D1.out.lo a D1.out.aF; omega
         · rcases List.mem_cons.1 hx with e | e
           · omega
           · have := List.mem_singleton.1 e; have := hb2.size; omega
       clear c0 c1 c2 c3 c4 ag2 hb2
       replace T2 := Lib.hid T2)
    | fail)
  have hC : ∀ x' : Prop, (∀ W, Below w2.heap.size w2 W → x') ↔ x' := fun x' => ⟨fun f => f _ (Below.refl _ _), fun f _ _ => f⟩
  have hbz2 := T2.out.A.bel.size
  have L0 : ∀ W, Below w2.heap.size w2 W → (loadVar 3 ⟨v, 0, none⟩).run Try.prog W = .ok (.int .i64 (s0.n : Int)) W := fun W hW => load3 (by rw [nn0.out]; exact oo.out W (T2.out.A.bel.trans (hW.mono hbz2)) 0 _ rfl)
  replace L0 := Lib.hid L0
  have n16 : s0.n ≤ 16 := hi0.out.n2
  have l1 : (s0.own.set.take s0.n).length = s0.n := List.length_take_of_le (by rw [hi0.out.own.set]; exact n16)
  have l2 : (s0.own.vec.take s0.n).length = s0.n := List.length_take_of_le (by rw [hi0.out.own.vec]; exact n16)
  replace l1 := Lib.hid l1
  replace l2 := Lib.hid l2
  have bd : Below w2.heap.size w2 w2.drew := Below.drew (Below.refl _ _)
  replace bd := Lib.hid bd
  refine wp_region_ord [([0], 1), ([2, 3, 4, 6], 5), ([], 7), ([], 8), ([9, 10, 11, 12, 16, 17], 13), ([14], 15)] [18, 19] (fun W => Below w2.heap.size w2 W) rfl (by kernel_rfl) rfl bd.out ?_
  refine WO.seg rfl ?_ bd.out
  simp only [picks, pick, List.cons_append, List.nil_append, List.append_nil]
  repeat (first
    | (refine wpQuiet_loadC (by rfl) 3 (.tmp 60) rfl v 0 (by rfl) _ L0.out ?_; simp only [Act.put, List.setIfInBounds_toArray, List.set_cons_zero, List.set_cons_succ])
    | go_big_quiet_step (fail))
  refine wpQuiet_nil ?_
  intro K hK
  go_simp
  go_at_call 31
  refine (changing_any a s0 none 0 w2.drew (T2.out.below bd.out).A.ag).mono ?_
  rintro e x0 ⟨rfl, rfl⟩
  rw [on0.out]
  go_wp2_with fail
  refine hK.out _ _ bd.out ?_
  clear hK K
  refine WO.seg rfl ?_ bd.out
  simp only [picks, pick, List.cons_append, List.nil_append, List.append_nil]
  repeat (first
    | (refine wpQuiet_loadC (by rfl) 3 (.tmp 60) rfl v 0 (by rfl) _ L0.out ?_; simp only [Act.put, List.setIfInBounds_toArray, List.set_cons_zero, List.set_cons_succ])
    | go_big_quiet_step (fail))
  refine wpQuiet_nil ?_
  intro K hK
  go_simp
  go_at_call 30
  refine (proposal_any a s0 none 0 w2.drew (T2.out.below bd.out).A.ag ((T2.out.below bd.out).A.hi a T2.out.A.aF) n16).mono ?_
  rintro e x1 ⟨S1, V1, rfl, rS1, rV1, hx⟩
  have bx1 : Below w2.heap.size w2 x1 := bd.out.trans hx
  replace bx1 := Lib.hid bx1
  replace rS1 := Lib.hid rS1
  replace rV1 := Lib.hid rV1
  clear hx
  go_wp2_with fail
  refine hK.out _ _ bx1.out ?_
  clear hK K
  refine WO.seg rfl ?_ bx1.out
  simp only [picks]
  refine wpQuiet_nil ?_
  intro K hK
  go_simp
  go_at_call 30
  refine (proposal_any b s0 none 0 x1 (T2.out.below bx1.out).B.ag ((T2.out.below bx1.out).B.hi b T2.out.B.aF) n16).mono ?_
  rintro e x2 ⟨S2, V2, rfl, rS2, rV2, hx⟩
  have bx2 : Below w2.heap.size w2 x2 := bx1.out.trans (hx.mono bx1.out.size)
  have rS3 := rS1.out.below hx
  have rV3 := rV1.out.below hx
  replace bx2 := Lib.hid bx2
  replace rS2 := Lib.hid rS2
  replace rV2 := Lib.hid rV2
  replace rS3 := Lib.hid rS3
  replace rV3 := Lib.hid rV3
  clear hx
  go_wp2_with fail
  refine hK.out _ _ bx2.out ?_
  clear hK K
  refine WO.seg rfl ?_ bx2.out
  simp only [picks]
  refine wpQuiet_nil ?_
  intro K hK
  go_simp
  go_at_call 33
  refine (proposals_any S1 V1 S2 V2 s0.n s0.n s0.n s0.n x2.heap.size s0.n s0.n s0.n s0.n s0.out s0.out (s0.own.set.take s0.n) (s0.own.vec.take s0.n) (s0.own.set.take s0.n) (s0.own.vec.take s0.n) x2 l1.out l2.out l1.out l2.out (Nat.le_refl _) rS3.out.row rV3.out.row rS2.out.row rV2.out.row (by omega) (by omega) (by omega) (by omega)).mono ?_
  rintro e x3 ⟨rfl, hx⟩
  rw [prSame_refl]
  have bx3 : Below w2.heap.size w2 x3 := bx2.out.trans (hx.mono bx2.out.size)
  replace bx3 := Lib.hid bx3
  clear hx
  go_wp2_with fail
  refine hK.out _ _ bx3.out ?_
  clear hK K
  refine WO.seg rfl ?_ bx3.out
  simp only [picks, pick, List.cons_append, List.nil_append, List.append_nil]
  repeat (first
    | (refine wpQuiet_loadC (by rfl) 3 (.tmp 60) rfl v 0 (by rfl) _ L0.out ?_; simp only [Act.put, List.setIfInBounds_toArray, List.set_cons_zero, List.set_cons_succ])
    | go_big_quiet_step (fail))
  refine wpQuiet_nil ?_
  intro K hK
  go_simp
  go_at_call 30
  refine (proposal_any a s0 none 0 x3 (T2.out.below bx3.out).A.ag ((T2.out.below bx3.out).A.hi a T2.out.A.aF) n16).mono ?_
  rintro e x4 ⟨S4, V4, rfl, rS4, rV4, hx⟩
  have bx4 : Below w2.heap.size w2 x4 := bx3.out.trans (hx.mono bx3.out.size)
  have fd4 := fun W => run_field31s s0.own S4 s0.n V4 s0.n s0.n W
  replace bx4 := Lib.hid bx4
  clear hx rS4 rV4
  go_wp2_with fail
  refine hK.out _ _ bx4.out ?_
  clear hK K
  refine WO.seg rfl ?_ bx4.out
  simp only [picks, pick, List.cons_append, List.nil_append, List.append_nil]
  repeat (first
    | (refine wpQuiet_loadC (by rfl) 3 (.tmp 60) rfl v 0 (by rfl) _ L0.out ?_; simp only [Act.put, List.setIfInBounds_toArray, List.set_cons_zero, List.set_cons_succ])
    | go_big_quiet_step (fail))
  refine wpQuiet_nil ?_
  intro K hK
  go_simp
  refine hK.out _ _ bx4.out ?_
  clear hK K
  refine WO.end_ ?_
  simp only [picks, pick, List.cons_append, List.nil_append, List.append_nil]
  repeat (first
    | (refine wpQuiet_loadC (by rfl) 3 (.tmp 60) rfl v 0 (by rfl) _ L0.out ?_; simp only [Act.put, List.setIfInBounds_toArray, List.set_cons_zero, List.set_cons_succ])
    | go_big_quiet_step (fail))
  refine wpQuiet_nil ?_
  clear hC L0 fd4
  have T3 := Lib.hid (T2.out.below bx4.out)
  go_wp2
  clear n16
  replace T2 := Lib.hid T3
  go_loopw [9] (fun k wr => ∃ q t M cM M' cM', k = .int .i64 ((q : Nat) : Int) ∧ q ≤ os.length ∧ Two wA a b [b, a] t t M cM M' cM' wr ∧ Hrd t) (fun k _ => os.length - (intOf k).toNat)
  case atStart => exact ⟨0, s0, none, 0, none, 0, rfl, by omega, T3.out, hh0.out⟩
  case round =>
    obtain ⟨q, t, M, cM, M', cM', rfl, hq, D, hH⟩ := hrel
    have oq := oo.out _ D.A.bel
    have c4 : wr.cell? ⟨v, 4, none⟩ = some (.slice A os.length c) := oq 4 _ rfl
    by_cases hlt : q < os.length
    · obtain ⟨g, off, hAe, hg, hc⟩ := opsA.out.row (by omega)
      have hx : os[q]? = some os[q] := List.getElem?_eq_getElem hlt
      obtain ⟨y, hy⟩ : ∃ y, y = os[q] := ⟨_, rfl⟩
      rw [← hy] at hx
      have hym : y ∈ os := by rw [hy]; exact List.getElem_mem hlt
      have L75 : ∀ W, Below wA.heap.size wA W → (loadVar 71 ⟨g, off + q * 13, none⟩).run Try.prog W = .ok (.agg (opA y.o y.P)) W := fun W hW => load71 (fun j u hu => (hW.cell (p := ⟨g, _, none⟩) hg).trans (hc q y hx j u hu))
      have L72 : ∀ W, Below wA.heap.size wA W → (loadVar 57 ⟨v, 4, none⟩).run Try.prog W = .ok (.slice (some ⟨g, off, none⟩) os.length c) W := fun W hW => load57 (by rw [← hAe]; exact oo.out W hW 4 _ rfl)
      have oy := opsA.out.each y hym
      have hq0 : (0 : Int) ≤ (q : Int) := by omega
      have hq1 : (q : Int) < (os.length : Int) := by omega
      obtain ⟨j1, j2, j3⟩ := callT_inv D.A.inv D.A.rinv hH y.o
      have hC : ∀ x' : Prop, (∀ W, Below wA.heap.size wA W → x') ↔ x' := fun x' => ⟨fun f => f _ (Below.refl _ _), fun f _ _ => f⟩
      have bd : Below wA.heap.size wA wr.drew := D.A.bel.trans ((Below.drew (Below.refl _ _)).mono D.A.bel.size)
      rw [hAe] at c4
      have Dd := D.below (Below.drew (Below.refl _ _))
      replace Dd := Lib.hid Dd
      replace bd := Lib.hid bd
      replace j1 := Lib.hid j1
      replace j2 := Lib.hid j2
      replace j3 := Lib.hid j3
      replace oy := Lib.hid oy
      replace L75 := Lib.hid L75
      replace L72 := Lib.hid L72
      replace hAe := Lib.hid hAe
      replace hx := Lib.hid hx
      replace hy := Lib.hid hy
      replace D := Lib.hid D
      replace oq := Lib.hid oq
      replace hH := Lib.hid hH
      clear hc
      go_wp2_with fail
      refine wp_region_ord [([0, 1, 2, 3, 4, 5, 7, 8, 9, 10, 11, 12], 6), ([], 13)] [14] (fun W => Below wA.heap.size wA W) rfl (by kernel_rfl) rfl bd.out ?_
      refine WO.seg rfl ?_ bd.out
      simp only [picks, pick, List.cons_append, List.nil_append, List.append_nil]
      repeat (first
        | (refine wpQuiet_loadC (by rfl) 57 (.tmp 72) rfl v 4 (by rfl) _ L72.out ?_; simp only [Act.put, List.setIfInBounds_toArray, List.set_cons_zero, List.set_cons_succ])
        | (refine wpQuiet_loadC (by rfl) 57 (.tmp 79) rfl v 4 (by rfl) _ L72.out ?_; simp only [Act.put, List.setIfInBounds_toArray, List.set_cons_zero, List.set_cons_succ])
        | (refine wpQuiet_loadC (by rfl) 71 (.tmp 75) rfl g (off + q * 13) (by rfl) _ L75.out ?_; simp only [Act.put, List.setIfInBounds_toArray, List.set_cons_zero, List.set_cons_succ])
        | (refine wpQuiet_loadC (by rfl) 71 (.tmp 82) rfl g (off + q * 13) (by rfl) _ L75.out ?_; simp only [Act.put, List.setIfInBounds_toArray, List.set_cons_zero, List.set_cons_succ])
        | go_big_quiet_step (fail))
      refine wpQuiet_nil ?_
      intro K hK
      go_simp
      go_at_call 32
      refine (call_all wA a [b, a] t M cM y.o y.P wr.drew Dd.out.A oy.out).mono ?_
      rintro e x1 ⟨rfl, M1, cM1, D1, hg1⟩
      have E1 := Dd.out.first D1 hg1
      have bx1 : Below wA.heap.size wA x1 := D1.bel
      replace E1 := Lib.hid E1
      replace bx1 := Lib.hid bx1
      clear D1 hg1
      go_wp2_with fail
      refine hK.out _ _ bx1.out ?_
      clear hK K
      refine WO.seg rfl ?_ bx1.out
      simp only [picks]
      refine wpQuiet_nil ?_
      intro K hK
      go_simp
      go_at_call 32
      refine (call_all wA b [b, a] t M' cM' y.o y.P x1 E1.out.B oy.out).mono ?_
      rintro e x2 ⟨rfl, M2, cM2, D2, hg2⟩
      have E2 := E1.out.second D2 hg2
      have bx2 : Below wA.heap.size wA x2 := D2.bel
      replace E2 := Lib.hid E2
      replace bx2 := Lib.hid bx2
      clear D2 hg2
      go_wp2_with fail
      refine hK.out _ _ bx2.out ?_
      clear hK K
      refine WO.end_ ?_
      simp only [picks, pick, List.cons_append, List.nil_append, List.append_nil]
      repeat (first
        | (refine wpQuiet_loadC (by rfl) 57 (.tmp 72) rfl v 4 (by rfl) _ L72.out ?_; simp only [Act.put, List.setIfInBounds_toArray, List.set_cons_zero, List.set_cons_succ])
        | (refine wpQuiet_loadC (by rfl) 57 (.tmp 79) rfl v 4 (by rfl) _ L72.out ?_; simp only [Act.put, List.setIfInBounds_toArray, List.set_cons_zero, List.set_cons_succ])
        | (refine wpQuiet_loadC (by rfl) 71 (.tmp 75) rfl g (off + q * 13) (by rfl) _ L75.out ?_; simp only [Act.put, List.setIfInBounds_toArray, List.set_cons_zero, List.set_cons_succ])
        | (refine wpQuiet_loadC (by rfl) 71 (.tmp 82) rfl g (off + q * 13) (by rfl) _ L75.out ?_; simp only [Act.put, List.setIfInBounds_toArray, List.set_cons_zero, List.set_cons_succ])
        | go_big_quiet_step (fail))
      refine wpQuiet_nil ?_
      clear hC L72 L75
      go_wp2
      go_roundw
      case rel => go_light; exact ⟨q + 1, _, M1, cM1, M2, cM2, by go_num, by omega, E2.out, j3.out⟩
      case measure => go_light; simp [intOf]; omega
    · obtain rfl : q = os.length := by omega
      clear c4
      replace oq := Lib.hid oq
      replace hH := Lib.hid hH
      have n16 : t.n ≤ 16 := D.A.inv.n2
      by_cases ho : t.opn = true
      · by_cases hrv : 4611686018427387804 < t.own.rev
        · have hb1 : decide (4611686018427387804 < t.own.rev) = true := decide_eq_true hrv
          have hend := hbA.out.trans (D.A.bel.mono (by omega))
          have haz := D.A.hi a D.A.aF
          replace hrv := Lib.hid hrv
          replace D := Lib.hid D
          replace hend := Lib.hid hend
          have c4 : wr.cell? ⟨v, 4, none⟩ = some (.slice A os.length c) := oq.out 4 _ rfl
          go_wp2_with (first
            | (go_at_call 31
               refine (changing_any a t M cM wr D.out.A.ag).mono ?_
               rintro e x0 ⟨rfl, rfl⟩
               rw [ho])
            | (go_at_call 30
               refine (proposal_any a t M cM x0 D.out.A.ag haz n16).mono ?_
               rintro e x1 ⟨S1, V1, rfl, rS1, rV1, hx1⟩
               have fd1 := fun W => run_field31r t.own S1 t.n V1 t.n t.n W
               have hend1 := Lib.hid (hend.out.trans (hx1.mono (by have := hend.out.size; omega)))
               clear hx1 rS1 rV1)
            | fail)
          go_ret
          exact ⟨rfl, hend1.out⟩
        · have hb1 : decide (4611686018427387804 < t.own.rev) = false := decide_eq_false hrv
          have hrv' : t.own.rev ≤ 4611686018427387904 - 100 := by omega
          have hT0 : Telling t t 0 := ⟨D.A.inv, D.A.rinv, hH.out, ho, by omega⟩
          have haz := D.A.hi a D.A.aF
          replace hT0 := Lib.hid hT0
          replace hrv := Lib.hid hrv
          replace hrv' := Lib.hid hrv'
          replace D := Lib.hid D
          have c4 : wr.cell? ⟨v, 4, none⟩ = some (.slice A os.length c) := oq.out 4 _ rfl
          go_wp2_with (first
            | (go_at_call 31
               refine (changing_any a t M cM wr D.out.A.ag).mono ?_
               rintro e x0 ⟨rfl, rfl⟩
               rw [ho])
            | (go_at_call 30
               refine (proposal_any a t M cM x0 D.out.A.ag haz n16).mono ?_
               rintro e x1 ⟨S1, V1, rfl, rS1, rV1, hx1⟩
               have fd1 := fun W => run_field31r t.own S1 t.n V1 t.n t.n W
               have D1 := Lib.hid (D.out.below hx1)
               clear hx1 rS1 rV1 c4)
            | (clear fd1
               refine wpList_alloc83 rfl rfl ?_
               obtain ⟨x2, hx2⟩ : ∃ x, x = x1.alloc (.cells bz 83) := ⟨_, rfl⟩
               have by2 : ByAt x2 x1.heap.size (List.replicate 16 false) := by rw [hx2]; exact ByAt.new x1
               have b12 : Below x1.heap.size x1 x2 := by rw [hx2]; exact below_box1 _ _ _
               have z12 : x2.heap.size = x1.heap.size + 1 := by rw [hx2]; simp
               rw [← hx2]
               obtain ⟨ub, hub⟩ : ∃ u, u = x1.heap.size := ⟨_, rfl⟩
               rw [← hub] at by2 ⊢
               replace hub := Lib.hid hub
               replace by2 := Lib.hid by2
               replace b12 := Lib.hid b12
               replace z12 := Lib.hid z12
               replace hx2 := Lib.hid hx2)
            | fail)
          go_loopw [12, 11] (fun k l wr => ∃ j C cC L bits, k = .int .i64 ((j : Nat) : Int) ∧ l = .slice C L.length cC ∧ j ≤ tl.length ∧ L.length ≤ 16 ∧ Owns wr (ub + 1) 85 11 eTo C cC L ∧ ByAt wr ub bits ∧ GoodL tl L bits ∧ Below x1.heap.size x1 wr ∧ ub < wr.heap.size) (fun k _ _ => tl.length - (intOf k).toNat)
          case atStart => exact ⟨0, none, 0, [], _, rfl, rfl, by omega, by simp, owns_nil _ _ _ _ _, by2.out, goodL_nil _ _, b12.out, by have := hub.out; have := z12.out; omega⟩
          case round =>
            obtain ⟨j, C, cC, L, bits, rfl, rfl, hj, h16, hO, hB, hG, hb, huz⟩ := hrel
            have hzx := hb.size
            have tlr := tlA.out.up (D1.out.A.bel.trans (hb.mono D1.out.A.bel.size)) (Nat.le_refl _)
            have hl16 := hB.l
            replace hO := Lib.hid hO
            replace hB := Lib.hid hB
            replace hG := Lib.hid hG
            replace hb := Lib.hid hb
            replace tlr := Lib.hid tlr
            by_cases hlt : j < tl.length
            · by_cases h15 : L.length < 16
              · obtain ⟨gT, oT, hTe, hgT, hcT⟩ := tlr.out.row (by omega)
                have hx : tl[j]? = some tl[j] := List.getElem?_eq_getElem hlt
                obtain ⟨y, hy⟩ : ∃ y, y = tl[j] := ⟨_, rfl⟩
                rw [← hy] at hx
                have hym : y ∈ tl := by rw [hy]; exact List.getElem_mem hlt
                have hyr : wr.rangeAt gT (oT + j * 11) (eTo y) := fun r u hu => hcT j y hx r u hu
                have cq : wr.cell? ⟨gT, oT + j * 11, none⟩ = some (.int .i64 y.x.q) := hyr 0 _ rfl
                have hq0 : (0 : Int) ≤ (j : Int) := by omega
                have hq1 : (j : Int) < (tl.length : Int) := by omega
                have h15' : (L.length : Int) < 16 := by omega
                have hax : wA.heap.size ≤ x1.heap.size := D1.out.A.bel.size
                replace hTe := Lib.hid hTe
                replace hx := Lib.hid hx
                replace hy := Lib.hid hy
                replace hym := Lib.hid hym
                replace hyr := Lib.hid hyr
                clear hcT
                rw [hTe.out]
                by_cases hq2 : 0 ≤ y.x.q
                · by_cases hq3 : y.x.q < 16
                  · obtain ⟨k, hk⟩ := Int.eq_ofNat_of_zero_le hq2
                    rw [hk] at cq hq2 hq3
                    have hk16 : k < 16 := by omega
                    obtain ⟨bit, hbit⟩ : ∃ z, bits[k]? = some z := ⟨_, List.getElem?_eq_getElem (by omega)⟩
                    have cb := hB.out.cell hbit
                    have fb : wr.frozen? ⟨ub, k, none⟩ = false := there_frozen (k := k) hB.out.t hk16
                    replace hk := Lib.hid hk
                    replace hk16 := Lib.hid hk16
                    cases bit with
                    | true =>
                      go_wp2
                      go_roundw
                      case rel => go_light; exact ⟨j + 1, C, cC, L, bits, by go_num, rfl, by omega, by omega, hO.out, hB.out, hG.out, hb.out, huz⟩
                      case measure => go_light; simp [intOf]; omega
                    | false =>
                      have hG3 := hG.out.push hym.out hk.out hk16.out hbit hl16
                      obtain ⟨x3, hx3⟩ : ∃ x, x = wr.setCell ⟨ub, k, none⟩ (.bool true) := ⟨_, rfl⟩
                      have g3 : wr.grownBy x3 (some ub) := by rw [hx3]; exact grown_cell _ _ _ _
                      have hubz := hub.out
                      have hgz : gT ≠ ub := by omega
                      have hyr3 : x3.rangeAt gT (oT + j * 11) (eTo y) := range_same hyr.out (g3.block gT (by omega) (by intro e; injection e with e; exact hgz e))
                      have hB3 : ByAt x3 ub (bits.set k true) := by rw [hx3]; exact hB.out.set hk16.out
                      have hO3 : Owns x3 (ub + 1) 85 11 eTo C cC L := hO.out.kept g3 (.inr (by intro e; have := (hO.out.lo _ e).1; omega))
                      have b3 : Below x1.heap.size x1 x3 := hb.out.grown g3 hb.out.size (by intro r hr; injection hr with hr; omega)
                      have hO4 := hO3.alloc (.cells (toA y) 85)
                      have r4 := row_new x3 85 11 eTo y (toA y) rfl
                      have z3 : ub < x3.heap.size := Nat.lt_of_lt_of_le huz g3.size
                      have hB4 : ByAt (x3.alloc (.cells (toA y) 85)) ub (bits.set k true) := hB3.same (heap_alloc_old _ _ z3)
                      have b4 : Below x1.heap.size x1 (x3.alloc (.cells (toA y) 85)) := b3.alloc (by omega) _
                      have z4 : (x3.alloc (.cells (toA y) 85)).heap.size = x3.heap.size + 1 := by simp
                      have lo4 := hO4.lo
                      replace hx3 := Lib.hid hx3
                      replace hyr3 := Lib.hid hyr3
                      replace hG3 := Lib.hid hG3
                      replace hO4 := Lib.hid hO4
                      replace r4 := Lib.hid r4
                      replace hB4 := Lib.hid hB4
                      replace b4 := Lib.hid b4
                      replace lo4 := Lib.hid lo4
                      replace z4 := Lib.hid z4
                      replace hubz := Lib.hid hubz
                      clear g3 hgz hB3 hO3 b3
                      go_wp2_with (first
                        | (rw [← hx3.out]
                           refine wpList_loadR rfl 85 (.tmp 128) rfl gT (oT + j * 11) (by rfl) _ (by exact load85r hyr3.out) ?_)
                        | (refine wpList_append_rows _ rfl (.tmp 125) (.tmp 130) 82 rfl (ub + 1) 85 11 120 (.agg toZ) Try.underlying82 info85 (by rfl) (by omega) eTo len_eTo one_eTo C cC L (some ⟨x3.heap.size, 0, none⟩) 1 (x3.heap.size + 1) L.length 1 [y] (by rfl) (by rfl) rfl rfl hO4.out r4.out (by omega) (by omega) (by rw [World.size_alloc]; omega) ?_
                           intro C' cC' x5 hO5 hg5 hblk5
                           have hs5 := hg5.size
                           rw [World.size_alloc] at hs5
                           have hB5 := hB4.out.same (hg5.block ub (by rw [World.size_alloc]; omega) (by intro e; have := (lo4.out ub e.symm).1; omega))
                           have b5 : Below x1.heap.size x1 x5 := b4.out.grown hg5 (by rw [World.size_alloc]; have := hubz.out; omega) (fun r hr => by have := (lo4.out r hr).1; have := hubz.out; omega)
                           have z5 : ub < x5.heap.size := by omega
                           replace hO5 := Lib.hid hO5
                           replace hB5 := Lib.hid hB5
                           replace b5 := Lib.hid b5
                           clear hg5 hblk5)
                        | fail)
                      go_roundw
                      case rel => go_light; exact ⟨j + 1, C', cC', L ++ [y], _, by go_num, by simp, by omega, by simp; omega, hO5.out, hB5.out, hG3.out, b5.out, z5⟩
                      case measure => go_light; simp [intOf]; omega
                  · have hq3' : ¬ y.x.q < 16 := hq3
                    go_wp2
                    go_roundw
                    case rel => go_light; exact ⟨j + 1, C, cC, L, bits, by go_num, rfl, by omega, by omega, hO.out, hB.out, hG.out, hb.out, huz⟩
                    case measure => go_light; simp [intOf]; omega
                · have hq2' : ¬ 0 ≤ y.x.q := hq2
                  go_wp2
                  go_roundw
                  case rel => go_light; exact ⟨j + 1, C, cC, L, bits, by go_num, rfl, by omega, by omega, hO.out, hB.out, hG.out, hb.out, huz⟩
                  case measure => go_light; simp [intOf]; omega
              · have hq0 : (0 : Int) ≤ (j : Int) := by omega
                have hq1 : (j : Int) < (tl.length : Int) := by omega
                have h15' : ¬ (L.length : Int) < 16 := by omega
                have T4 := D1.out.below hb.out
                have hxz := hub.out
                have haz1 := D1.out.A.hi a D1.out.A.aF
                have hbz1 := D1.out.B.hi b D1.out.B.aF
                have hF : ∀ y ∈ [b, a], y < ub + 1 := fun y hy => by
                  rcases List.mem_cons.1 hy with e | e
                  · omega
                  · have := List.mem_singleton.1 e; omega
                have rL : RowF wr [b, a] 11 eTo C L := RowF.ofOwns hO.out len_eTo hF
                have hGm : ∀ y ∈ L, y ∈ tl := fun y hy => (hG.out.of y hy).1
                have hGq : ∀ y ∈ L.map (·.x), y.q.toNat < 16 := fun y hy => by
                  obtain ⟨z, hz, rfl⟩ := List.mem_map.1 hy
                  obtain ⟨_, h2, h3, _⟩ := hG.out.of z hz
                  omega
                have hend4 := hbA.out.trans (D1.out.A.bel.mono (by omega))
                obtain ⟨Ls, hLs⟩ : ∃ l, l = L.map (·.x) := ⟨_, rfl⟩
                have hLl : Ls.length = L.length := by rw [hLs]; simp
                have hLk : ∀ (k : Nat) (y : TellX), L[k]? = some y → Ls[k]? = some y.x := fun k y hk => by rw [hLs, List.getElem?_map, hk]; rfl
                have hrev : Ls.reverse.foldl St.tell t = Ls.foldl St.tell t := by rw [hLs]; exact tell_reverse _ t D.out.A.inv.oth hGq hG.out.pw
                replace hrev := Lib.hid hrev
                replace hLs := Lib.hid hLs
                replace hLl := Lib.hid hLl
                replace hLk := Lib.hid hLk
                replace T4 := Lib.hid T4
                replace rL := Lib.hid rL
                replace hGm := Lib.hid hGm
                replace hend4 := Lib.hid hend4
                clear hF hGq
                obtain ⟨wp, hwp⟩ : ∃ wp : World, wp = wr := ⟨_, rfl⟩
                subst hwp
                go_wp2_with fail
                go_loopw [14] (fun k wr => ∃ j s1 s2 M cM M' cM', k = .int .i64 ((j : Nat) : Int) ∧ j ≤ L.length ∧ Two wA a b [b, a] s1 s2 M cM M' cM' wr ∧ s1 = (Ls.take j).foldl St.tell t ∧ s2 = (Ls.reverse.take j).foldl St.tell t ∧ Telling t s1 j ∧ Telling t s2 j ∧ RowF wr [b, a] 11 eTo C L) (fun k _ => L.length - (intOf k).toNat)
                case atStart => exact ⟨0, t, t, M, cM, M', cM', rfl, by omega, T4.out, rfl, rfl, hT0.out, hT0.out, rL.out⟩
                case round =>
                  obtain ⟨j3, s1, s2, N1, cN1, N2, cN2, rfl, hj3, E, e1, e2, t1, t2, rL3⟩ := hrel
                  by_cases hl3 : j3 < L.length
                  · obtain ⟨gL, oL, rfl, hgL, hnF, hcL⟩ := rL3 (by omega)
                    obtain ⟨y3, hy3⟩ : ∃ y, L[j3]? = some y := ⟨_, List.getElem?_eq_getElem hl3⟩
                    obtain ⟨l1, hl1⟩ : ∃ l1, l1 = L.length - 1 := ⟨_, rfl⟩
                    obtain ⟨m, hm⟩ : ∃ m, m = L.length - 1 - j3 := ⟨_, rfl⟩
                    have hmL : m < L.length := by omega
                    obtain ⟨z3, hz3⟩ : ∃ y, L[m]? = some y := ⟨_, List.getElem?_eq_getElem hmL⟩
                    have hyr : wr.rangeAt gL (oL + j3 * 11) (eTo y3) := fun r u hu => hcL j3 y3 hy3 r u hu
                    have hzr : wr.rangeAt gL (oL + m * 11) (eTo z3) := fun r u hu => hcL m z3 hz3 r u hu
                    have hga : gL ≠ a := fun e => hnF (by rw [e]; simp)
                    have hgb : gL ≠ b := fun e => hnF (by rw [e]; simp)
                    have hw1 : IntKind.i64.wrap ((L.length : Int) - 1) = (l1 : Int) := by rw [IntKind.wrap_i64] <;> omega
                    have hw2 : IntKind.i64.wrap ((l1 : Int) - (j3 : Int)) = (m : Int) := by rw [IntKind.wrap_i64] <;> omega
                    have hm0 : (0 : Int) ≤ (m : Int) := by omega
                    have hm1 : (m : Int) < (L.length : Int) := by omega
                    have hr0 : (0 : Int) ≤ (j3 : Int) := by omega
                    have hr1 : (j3 : Int) < (L.length : Int) := by omega
                    obtain ⟨k1, k2⟩ := telling_step t1 hrv'.out (by omega) y3.x
                    obtain ⟨k3, k4⟩ := telling_step t2 hrv'.out (by omega) z3.x
                    have k5 : (Ls.take (j3 + 1)).foldl St.tell t = s1.tell y3.x := by rw [e1]; exact tell_more (hLk.out j3 y3 hy3)
                    have k6 : (Ls.reverse.take (j3 + 1)).foldl St.tell t = s2.tell z3.x := by
                      rw [e2]
                      refine tell_more (rev_at (by rw [hLl.out]; exact hl3) ?_)
                      rw [hLl.out, ← hm]; exact hLk.out m z3 hz3
                    have my : y3 ∈ tl := hGm.out y3 (List.mem_of_getElem? hy3)
                    have mz : z3 ∈ tl := hGm.out z3 (List.mem_of_getElem? hz3)
                    have hC : ∀ x' : Prop, (∀ W : World, W.rangeAt gL (oL + j3 * 11) (eTo y3) → x') ↔ x' := fun x' => ⟨fun f => f _ hyr, fun f _ _ => f⟩
                    have La : ∀ W : World, W.rangeAt gL (oL + j3 * 11) (eTo y3) → (loadVar 3 ⟨gL, oL + j3 * 11, none⟩).run Try.prog W = .ok (.int .i64 y3.x.q) W := fun W hW => load3 (hW 0 _ rfl)
                    have Lb : ∀ W : World, W.rangeAt gL (oL + j3 * 11) (eTo y3) → (loadVar 3 ⟨gL, oL + j3 * 11 + 1, none⟩).run Try.prog W = .ok (.int .i64 y3.x.i) W := fun W hW => load3 (hW 1 _ rfl)
                    have Lc : ∀ W : World, W.rangeAt gL (oL + j3 * 11) (eTo y3) → (loadVar 31 ⟨gL, oL + j3 * 11 + 2, none⟩).run Try.prog W = .ok (.agg (prA y3.S y3.V y3.cS y3.cV y3.x.p)) W := fun W hW => to31 hW
                    have bd : Below wr.heap.size wr wr.drew := Below.drew (Below.refl _ _)
                    have Ed := E.below bd
                    have hzd := range_same hzr (bd.block gL hgL)
                    have rLd := rL3.below bd
                    have hgd : gL < wr.drew.heap.size := hgL
                    have hyd : wr.drew.rangeAt gL (oL + j3 * 11) (eTo y3) := range_same hyr rfl
                    replace hyd := Lib.hid hyd
                    clear hcL
                    replace hl1 := Lib.hid hl1
                    replace hm := Lib.hid hm
                    replace hy3 := Lib.hid hy3
                    replace hz3 := Lib.hid hz3
                    replace hyr := Lib.hid hyr
                    replace hzr := Lib.hid hzr
                    replace hzd := Lib.hid hzd
                    replace rLd := Lib.hid rLd
                    replace rL3 := Lib.hid rL3
                    replace k1 := Lib.hid k1
                    replace k2 := Lib.hid k2
                    replace k3 := Lib.hid k3
                    replace k4 := Lib.hid k4
                    replace k5 := Lib.hid k5
                    replace k6 := Lib.hid k6
                    replace e1 := Lib.hid e1
                    replace e2 := Lib.hid e2
                    replace t1 := Lib.hid t1
                    replace t2 := Lib.hid t2
                    replace my := Lib.hid my
                    replace mz := Lib.hid mz
                    replace La := Lib.hid La
                    replace Lb := Lib.hid Lb
                    replace Lc := Lib.hid Lc
                    replace bd := Lib.hid bd
                    replace Ed := Lib.hid Ed
                    replace E := Lib.hid E
                    go_wp2_with fail
                    refine wp_region_ord [([0, 1, 2, 3, 4, 5, 6, 7, 8, 9, 10, 11, 12, 13, 14, 15], 16)] [] (fun W => W.rangeAt gL (oL + j3 * 11) (eTo y3)) rfl (by kernel_rfl) rfl hyd.out ?_
                    refine WO.seg rfl ?_ hyd.out
                    simp only [picks, pick, List.cons_append, List.nil_append, List.append_nil]
                    repeat (first
                      | (refine wpQuiet_loadC (by rfl) 3 (.tmp 142) rfl gL (oL + j3 * 11) (by rfl) _ La.out ?_; simp only [Act.put, List.setIfInBounds_toArray, List.set_cons_zero, List.set_cons_succ])
                      | (refine wpQuiet_loadC (by rfl) 3 (.tmp 147) rfl gL (oL + j3 * 11 + 1) (by rfl) _ Lb.out ?_; simp only [Act.put, List.setIfInBounds_toArray, List.set_cons_zero, List.set_cons_succ])
                      | (refine wpQuiet_loadC (by rfl) 31 (.tmp 152) rfl gL (oL + j3 * 11 + 2) (by rfl) _ Lc.out ?_; simp only [Act.put, List.setIfInBounds_toArray, List.set_cons_zero, List.set_cons_succ])
                      | go_big_quiet_step (fail))
                    refine wpQuiet_nil ?_
                    intro K hK
                    go_simp
                    go_at_call 36
                    refine (take_solo Ed.out.A tlA.out my.out).mono ?_
                    rintro e x3 ⟨rfl, F1, g1⟩
                    rw [k1.out] at F1
                    have E3 := Ed.out.first F1 g1
                    have hz4 := range_same hzd.out (g1.block gL hgd (by intro e; injection e with e; exact hga e))
                    have hy4 := range_same hyd.out (g1.block gL hgd (by intro e; injection e with e; exact hga e))
                    have rL4 := rLd.out.keep g1.size (fun r hr hn => g1.block r hr (by intro e; injection e with e; subst e; exact hn (by simp)))
                    have hgx3 : gL < x3.heap.size := Nat.lt_of_lt_of_le hgd g1.size
                    replace E3 := Lib.hid E3
                    replace hz4 := Lib.hid hz4
                    replace hy4 := Lib.hid hy4
                    replace rL4 := Lib.hid rL4
                    clear F1 g1
                    go_wp2_with fail
                    refine hK.out _ _ hy4.out ?_
                    clear hK K
                    refine WO.end_ ?_
                    simp only [picks]
                    refine wpQuiet_nil ?_
                    clear hC La Lb Lc
                    go_wp2_with (first
                      | (refine wpList_loadR rfl 85 (.tmp 161) rfl gL (oL + m * 11) (by rfl) _ (by exact load85r hz4.out) ?_)
                      | (refine wpList_store85 rfl (.tmp 15) (.tmp 162) rfl x3.heap.size 0 (by rfl) z3 (by rfl) (there_new x3 toZ 85) ?_
                         intro x4 hx4
                         have b34 : Below x3.heap.size x3 x4 := by rw [hx4.out]; exact below_sets ((Below.refl _ _).alloc (Nat.le_refl _) _) (Nat.le_refl _) _ _ (by simp)
                         have o4 : x4.rangeAt x3.heap.size 0 (eTo z3) := by rw [hx4.out]; exact World.rangeAt_setCells_same _ _ _ _ (there_new x3 toZ 85)
                         obtain ⟨u15, hu15⟩ : ∃ u, u = x3.heap.size := ⟨_, rfl⟩
                         rw [← hu15] at o4 ⊢
                         have E4 := E3.out.below b34
                         have rL5 := rL4.out.below b34
                         replace hu15 := Lib.hid hu15
                         replace o4 := Lib.hid o4
                         replace E4 := Lib.hid E4
                         replace rL5 := Lib.hid rL5
                         clear b34 hx4)
                      | (refine wpList_loadR rfl 3 (.tmp 164) rfl u15 0 (by rfl) _ (by exact load3 (o4.out 0 _ rfl)) ?_)
                      | (refine wpList_loadR rfl 3 (.tmp 166) rfl u15 1 (by rfl) _ (by exact load3 (o4.out 1 _ rfl)) ?_)
                      | (refine wpList_loadR rfl 31 (.tmp 168) rfl u15 2 (by rfl) _ (by exact to31 o4.out) ?_)
                      | fail)
                    go_wp2_with (first
                      | (go_at_call 36
                         refine (take_solo E4.out.B tlA.out mz.out).mono ?_
                         rintro e x5 ⟨rfl, F2, g2⟩
                         rw [k3.out] at F2
                         have E5 := E4.out.second F2 g2
                         have rL6 := rL5.out.keep g2.size (fun r hr hn => g2.block r hr (by intro e; injection e with e; subst e; exact hn (by simp)))
                         replace E5 := Lib.hid E5
                         replace rL6 := Lib.hid rL6
                         clear F2 g2)
                      | fail)
                    go_roundw
                    case rel => go_light; exact ⟨j3 + 1, _, _, N1, cN1, N2, cN2, by go_num, by omega, E5.out, k5.out.symm, k6.out.symm, k2.out, k4.out, rL6.out⟩
                    case measure => go_light; simp [intOf]; omega
                  · obtain rfl : j3 = L.length := by omega
                    have e12 : s2 = s1 := by
                      rw [e1, e2, ← hLl.out, List.take_length, show Ls.length = Ls.reverse.length from (List.length_reverse).symm, List.take_length]
                      exact hrev.out
                    subst e12
                    have hend5 := hbA.out.trans (E.A.bel.mono (by have := hbA.out.size; omega))
                    replace hend5 := Lib.hid hend5
                    replace e1 := Lib.hid e1
                    replace e2 := Lib.hid e2
                    replace t1 := Lib.hid t1
                    replace t2 := Lib.hid t2
                    replace rL3 := Lib.hid rL3
                    replace E := Lib.hid E
                    have tok : True := trivial
                    go_wp2_with (first
                      | (clear tok
                         go_at_call 34
                         refine (look_any wA a [b, a] s2 N1 cN1 wr E.out.A).mono ?_
                         rintro e y1 ⟨P1, rfl, R1, hy1⟩
                         have E6 := E.out.below hy1
                         have hend6 := hend5.out.trans (hy1.mono (by have := hend5.out.size; omega))
                         replace R1 := Lib.hid R1
                         replace E6 := Lib.hid E6
                         replace hend6 := Lib.hid hend6
                         clear hy1)
                      | (go_at_call 34
                         refine (look_any wA b [b, a] s2 N2 cN2 y1 E6.out.B).mono ?_
                         rintro e y2 ⟨P2, rfl, R2, hy2⟩
                         have R3 := R1.out.below hy2
                         have hend7 := hend6.out.trans (hy2.mono (by have := hend6.out.size; omega))
                         replace R2 := Lib.hid R2
                         replace R3 := Lib.hid R3
                         replace hend7 := Lib.hid hend7
                         clear hy2)
                      | (go_at_call 35
                         refine (is_same (siOf s2) P1 P2 y2.heap.size y2 (Nat.le_refl _) R3.out.row R2.out.row).mono ?_
                         rintro e y3 ⟨rfl, hy3⟩
                         have hend8 := Lib.hid (hend7.out.trans (hy3.mono (by have := hend7.out.size; omega)))
                         clear hy3)
                      | fail)
                    go_ret
                    exact ⟨rfl, hend8.out⟩
            · have hq0 : (0 : Int) ≤ (j : Int) := by omega
              have hq1 : ¬ (j : Int) < (tl.length : Int) := by omega
              have T4 := D1.out.below hb.out
              have hxz := hub.out
              have haz1 := D1.out.A.hi a D1.out.A.aF
              have hbz1 := D1.out.B.hi b D1.out.B.aF
              have hF : ∀ y ∈ [b, a], y < ub + 1 := fun y hy => by
                rcases List.mem_cons.1 hy with e | e
                · omega
                · have := List.mem_singleton.1 e; omega
              have rL : RowF wr [b, a] 11 eTo C L := RowF.ofOwns hO.out len_eTo hF
              have hGm : ∀ y ∈ L, y ∈ tl := fun y hy => (hG.out.of y hy).1
              have hGq : ∀ y ∈ L.map (·.x), y.q.toNat < 16 := fun y hy => by
                obtain ⟨z, hz, rfl⟩ := List.mem_map.1 hy
                obtain ⟨_, h2, h3, _⟩ := hG.out.of z hz
                omega
              have hend4 := hbA.out.trans (D1.out.A.bel.mono (by omega))
              obtain ⟨Ls, hLs⟩ : ∃ l, l = L.map (·.x) := ⟨_, rfl⟩
              have hLl : Ls.length = L.length := by rw [hLs]; simp
              have hLk : ∀ (k : Nat) (y : TellX), L[k]? = some y → Ls[k]? = some y.x := fun k y hk => by rw [hLs, List.getElem?_map, hk]; rfl
              have hrev : Ls.reverse.foldl St.tell t = Ls.foldl St.tell t := by rw [hLs]; exact tell_reverse _ t D.out.A.inv.oth hGq hG.out.pw
              replace hrev := Lib.hid hrev
              replace hLs := Lib.hid hLs
              replace hLl := Lib.hid hLl
              replace hLk := Lib.hid hLk
              replace T4 := Lib.hid T4
              replace rL := Lib.hid rL
              replace hGm := Lib.hid hGm
              replace hend4 := Lib.hid hend4
              clear hF hGq
              obtain ⟨wp, hwp⟩ : ∃ wp : World, wp = wr := ⟨_, rfl⟩
              subst hwp
              go_wp2_with fail
              go_loopw [14] (fun k wr => ∃ j s1 s2 M cM M' cM', k = .int .i64 ((j : Nat) : Int) ∧ j ≤ L.length ∧ Two wA a b [b, a] s1 s2 M cM M' cM' wr ∧ s1 = (Ls.take j).foldl St.tell t ∧ s2 = (Ls.reverse.take j).foldl St.tell t ∧ Telling t s1 j ∧ Telling t s2 j ∧ RowF wr [b, a] 11 eTo C L) (fun k _ => L.length - (intOf k).toNat)
              case atStart => exact ⟨0, t, t, M, cM, M', cM', rfl, by omega, T4.out, rfl, rfl, hT0.out, hT0.out, rL.out⟩
              case round =>
                obtain ⟨j3, s1, s2, N1, cN1, N2, cN2, rfl, hj3, E, e1, e2, t1, t2, rL3⟩ := hrel
                by_cases hl3 : j3 < L.length
                · obtain ⟨gL, oL, rfl, hgL, hnF, hcL⟩ := rL3 (by omega)
                  obtain ⟨y3, hy3⟩ : ∃ y, L[j3]? = some y := ⟨_, List.getElem?_eq_getElem hl3⟩
                  obtain ⟨l1, hl1⟩ : ∃ l1, l1 = L.length - 1 := ⟨_, rfl⟩
                  obtain ⟨m, hm⟩ : ∃ m, m = L.length - 1 - j3 := ⟨_, rfl⟩
                  have hmL : m < L.length := by omega
                  obtain ⟨z3, hz3⟩ : ∃ y, L[m]? = some y := ⟨_, List.getElem?_eq_getElem hmL⟩
                  have hyr : wr.rangeAt gL (oL + j3 * 11) (eTo y3) := fun r u hu => hcL j3 y3 hy3 r u hu
                  have hzr : wr.rangeAt gL (oL + m * 11) (eTo z3) := fun r u hu => hcL m z3 hz3 r u hu
                  have hga : gL ≠ a := fun e => hnF (by rw [e]; simp)
                  have hgb : gL ≠ b := fun e => hnF (by rw [e]; simp)
                  have hw1 : IntKind.i64.wrap ((L.length : Int) - 1) = (l1 : Int) := by rw [IntKind.wrap_i64] <;> omega
                  have hw2 : IntKind.i64.wrap ((l1 : Int) - (j3 : Int)) = (m : Int) := by rw [IntKind.wrap_i64] <;> omega
                  have hm0 : (0 : Int) ≤ (m : Int) := by omega
                  have hm1 : (m : Int) < (L.length : Int) := by omega
                  have hr0 : (0 : Int) ≤ (j3 : Int) := by omega
                  have hr1 : (j3 : Int) < (L.length : Int) := by omega
                  obtain ⟨k1, k2⟩ := telling_step t1 hrv'.out (by omega) y3.x
                  obtain ⟨k3, k4⟩ := telling_step t2 hrv'.out (by omega) z3.x
                  have k5 : (Ls.take (j3 + 1)).foldl St.tell t = s1.tell y3.x := by rw [e1]; exact tell_more (hLk.out j3 y3 hy3)
                  have k6 : (Ls.reverse.take (j3 + 1)).foldl St.tell t = s2.tell z3.x := by
                    rw [e2]
                    refine tell_more (rev_at (by rw [hLl.out]; exact hl3) ?_)
                    rw [hLl.out, ← hm]; exact hLk.out m z3 hz3
                  have my : y3 ∈ tl := hGm.out y3 (List.mem_of_getElem? hy3)
                  have mz : z3 ∈ tl := hGm.out z3 (List.mem_of_getElem? hz3)
                  have hC : ∀ x' : Prop, (∀ W : World, W.rangeAt gL (oL + j3 * 11) (eTo y3) → x') ↔ x' := fun x' => ⟨fun f => f _ hyr, fun f _ _ => f⟩
                  have La : ∀ W : World, W.rangeAt gL (oL + j3 * 11) (eTo y3) → (loadVar 3 ⟨gL, oL + j3 * 11, none⟩).run Try.prog W = .ok (.int .i64 y3.x.q) W := fun W hW => load3 (hW 0 _ rfl)
                  have Lb : ∀ W : World, W.rangeAt gL (oL + j3 * 11) (eTo y3) → (loadVar 3 ⟨gL, oL + j3 * 11 + 1, none⟩).run Try.prog W = .ok (.int .i64 y3.x.i) W := fun W hW => load3 (hW 1 _ rfl)
                  have Lc : ∀ W : World, W.rangeAt gL (oL + j3 * 11) (eTo y3) → (loadVar 31 ⟨gL, oL + j3 * 11 + 2, none⟩).run Try.prog W = .ok (.agg (prA y3.S y3.V y3.cS y3.cV y3.x.p)) W := fun W hW => to31 hW
                  have bd : Below wr.heap.size wr wr.drew := Below.drew (Below.refl _ _)
                  have Ed := E.below bd
                  have hzd := range_same hzr (bd.block gL hgL)
                  have rLd := rL3.below bd
                  have hgd : gL < wr.drew.heap.size := hgL
                  have hyd : wr.drew.rangeAt gL (oL + j3 * 11) (eTo y3) := range_same hyr rfl
                  replace hyd := Lib.hid hyd
                  clear hcL
                  replace hl1 := Lib.hid hl1
                  replace hm := Lib.hid hm
                  replace hy3 := Lib.hid hy3
                  replace hz3 := Lib.hid hz3
                  replace hyr := Lib.hid hyr
                  replace hzr := Lib.hid hzr
                  replace hzd := Lib.hid hzd
                  replace rLd := Lib.hid rLd
                  replace rL3 := Lib.hid rL3
                  replace k1 := Lib.hid k1
                  replace k2 := Lib.hid k2
                  replace k3 := Lib.hid k3
                  replace k4 := Lib.hid k4
                  replace k5 := Lib.hid k5
                  replace k6 := Lib.hid k6
                  replace e1 := Lib.hid e1
                  replace e2 := Lib.hid e2
                  replace t1 := Lib.hid t1
                  replace t2 := Lib.hid t2
                  replace my := Lib.hid my
                  replace mz := Lib.hid mz
                  replace La := Lib.hid La
                  replace Lb := Lib.hid Lb
                  replace Lc := Lib.hid Lc
                  replace bd := Lib.hid bd
                  replace Ed := Lib.hid Ed
                  replace E := Lib.hid E
                  go_wp2_with fail
                  refine wp_region_ord [([0, 1, 2, 3, 4, 5, 6, 7, 8, 9, 10, 11, 12, 13, 14, 15], 16)] [] (fun W => W.rangeAt gL (oL + j3 * 11) (eTo y3)) rfl (by kernel_rfl) rfl hyd.out ?_
                  refine WO.seg rfl ?_ hyd.out
                  simp only [picks, pick, List.cons_append, List.nil_append, List.append_nil]
                  repeat (first
                    | (refine wpQuiet_loadC (by rfl) 3 (.tmp 142) rfl gL (oL + j3 * 11) (by rfl) _ La.out ?_; simp only [Act.put, List.setIfInBounds_toArray, List.set_cons_zero, List.set_cons_succ])
                    | (refine wpQuiet_loadC (by rfl) 3 (.tmp 147) rfl gL (oL + j3 * 11 + 1) (by rfl) _ Lb.out ?_; simp only [Act.put, List.setIfInBounds_toArray, List.set_cons_zero, List.set_cons_succ])
                    | (refine wpQuiet_loadC (by rfl) 31 (.tmp 152) rfl gL (oL + j3 * 11 + 2) (by rfl) _ Lc.out ?_; simp only [Act.put, List.setIfInBounds_toArray, List.set_cons_zero, List.set_cons_succ])
                    | go_big_quiet_step (fail))
                  refine wpQuiet_nil ?_
                  intro K hK
                  go_simp
                  go_at_call 36
                  refine (take_solo Ed.out.A tlA.out my.out).mono ?_
                  rintro e x3 ⟨rfl, F1, g1⟩
                  rw [k1.out] at F1
                  have E3 := Ed.out.first F1 g1
                  have hz4 := range_same hzd.out (g1.block gL hgd (by intro e; injection e with e; exact hga e))
                  have hy4 := range_same hyd.out (g1.block gL hgd (by intro e; injection e with e; exact hga e))
                  have rL4 := rLd.out.keep g1.size (fun r hr hn => g1.block r hr (by intro e; injection e with e; subst e; exact hn (by simp)))
                  have hgx3 : gL < x3.heap.size := Nat.lt_of_lt_of_le hgd g1.size
                  replace E3 := Lib.hid E3
                  replace hz4 := Lib.hid hz4
                  replace hy4 := Lib.hid hy4
                  replace rL4 := Lib.hid rL4
                  clear F1 g1
                  go_wp2_with fail
                  refine hK.out _ _ hy4.out ?_
                  clear hK K
                  refine WO.end_ ?_
                  simp only [picks]
                  refine wpQuiet_nil ?_
                  clear hC La Lb Lc
                  go_wp2_with (first
                    | (refine wpList_loadR rfl 85 (.tmp 161) rfl gL (oL + m * 11) (by rfl) _ (by exact load85r hz4.out) ?_)
                    | (refine wpList_store85 rfl (.tmp 15) (.tmp 162) rfl x3.heap.size 0 (by rfl) z3 (by rfl) (there_new x3 toZ 85) ?_
                       intro x4 hx4
                       have b34 : Below x3.heap.size x3 x4 := by rw [hx4.out]; exact below_sets ((Below.refl _ _).alloc (Nat.le_refl _) _) (Nat.le_refl _) _ _ (by simp)
                       have o4 : x4.rangeAt x3.heap.size 0 (eTo z3) := by rw [hx4.out]; exact World.rangeAt_setCells_same _ _ _ _ (there_new x3 toZ 85)
                       obtain ⟨u15, hu15⟩ : ∃ u, u = x3.heap.size := ⟨_, rfl⟩
                       rw [← hu15] at o4 ⊢
                       have E4 := E3.out.below b34
                       have rL5 := rL4.out.below b34
                       replace hu15 := Lib.hid hu15
                       replace o4 := Lib.hid o4
                       replace E4 := Lib.hid E4
                       replace rL5 := Lib.hid rL5
                       clear b34 hx4)
                    | (refine wpList_loadR rfl 3 (.tmp 164) rfl u15 0 (by rfl) _ (by exact load3 (o4.out 0 _ rfl)) ?_)
                    | (refine wpList_loadR rfl 3 (.tmp 166) rfl u15 1 (by rfl) _ (by exact load3 (o4.out 1 _ rfl)) ?_)
                    | (refine wpList_loadR rfl 31 (.tmp 168) rfl u15 2 (by rfl) _ (by exact to31 o4.out) ?_)
                    | fail)
                  go_wp2_with (first
                    | (go_at_call 36
                       refine (take_solo E4.out.B tlA.out mz.out).mono ?_
                       rintro e x5 ⟨rfl, F2, g2⟩
                       rw [k3.out] at F2
                       have E5 := E4.out.second F2 g2
                       have rL6 := rL5.out.keep g2.size (fun r hr hn => g2.block r hr (by intro e; injection e with e; subst e; exact hn (by simp)))
                       replace E5 := Lib.hid E5
                       replace rL6 := Lib.hid rL6
                       clear F2 g2)
                    | fail)
                  go_roundw
                  case rel => go_light; exact ⟨j3 + 1, _, _, N1, cN1, N2, cN2, by go_num, by omega, E5.out, k5.out.symm, k6.out.symm, k2.out, k4.out, rL6.out⟩
                  case measure => go_light; simp [intOf]; omega
                · obtain rfl : j3 = L.length := by omega
                  have e12 : s2 = s1 := by
                    rw [e1, e2, ← hLl.out, List.take_length, show Ls.length = Ls.reverse.length from (List.length_reverse).symm, List.take_length]
                    exact hrev.out
                  subst e12
                  have hend5 := hbA.out.trans (E.A.bel.mono (by have := hbA.out.size; omega))
                  replace hend5 := Lib.hid hend5
                  replace e1 := Lib.hid e1
                  replace e2 := Lib.hid e2
                  replace t1 := Lib.hid t1
                  replace t2 := Lib.hid t2
                  replace rL3 := Lib.hid rL3
                  replace E := Lib.hid E
                  have tok : True := trivial
                  go_wp2_with (first
                    | (clear tok
                       go_at_call 34
                       refine (look_any wA a [b, a] s2 N1 cN1 wr E.out.A).mono ?_
                       rintro e y1 ⟨P1, rfl, R1, hy1⟩
                       have E6 := E.out.below hy1
                       have hend6 := hend5.out.trans (hy1.mono (by have := hend5.out.size; omega))
                       replace R1 := Lib.hid R1
                       replace E6 := Lib.hid E6
                       replace hend6 := Lib.hid hend6
                       clear hy1)
                    | (go_at_call 34
                       refine (look_any wA b [b, a] s2 N2 cN2 y1 E6.out.B).mono ?_
                       rintro e y2 ⟨P2, rfl, R2, hy2⟩
                       have R3 := R1.out.below hy2
                       have hend7 := hend6.out.trans (hy2.mono (by have := hend6.out.size; omega))
                       replace R2 := Lib.hid R2
                       replace R3 := Lib.hid R3
                       replace hend7 := Lib.hid hend7
                       clear hy2)
                    | (go_at_call 35
                       refine (is_same (siOf s2) P1 P2 y2.heap.size y2 (Nat.le_refl _) R3.out.row R2.out.row).mono ?_
                       rintro e y3 ⟨rfl, hy3⟩
                       have hend8 := Lib.hid (hend7.out.trans (hy3.mono (by have := hend7.out.size; omega)))
                       clear hy3)
                    | fail)
                  go_ret
                  exact ⟨rfl, hend8.out⟩
      · have ho' : t.opn = false := by simpa using ho
        have hend := hbA.out.trans (D.A.bel.mono (by omega))
        have haz := D.A.hi a D.A.aF
        have c4 : wr.cell? ⟨v, 4, none⟩ = some (.slice A os.length c) := oq.out 4 _ rfl
        replace D := Lib.hid D
        replace hend := Lib.hid hend
        go_wp2_with (first
          | (go_at_call 31
             refine (changing_any a t M cM wr D.out.A.ag).mono ?_
             rintro e x0 ⟨rfl, rfl⟩
             rw [ho'])
          | fail)
        go_ret
        exact ⟨rfl, hend.out⟩
end Go.Proofs.Ytfbeggdbjpmppaa
