/- Ref, joined. -/
import Derived.Test.YtfbeggdbjpmppaaMr2
set_option linter.unusedVariables false
set_option linter.unusedSimpArgs false
/- MemberRefusals, where an agent is made. -/
namespace Go.Proofs.Ytfbeggdbjpmppaa
open Go.RowKit
set_option maxRecDepth 100000 in
set_option maxHeartbeats 4000000 in
theorem refuse_some (n s : Nat) (i f : Int) (A : Option Addr) (c N : Nat) (os : List OpX) (w : World) (h : newB n s i f = true) (hf : f ≠ 4611686018427387904) (hN : N ≤ w.heap.size) (hA : OpsAt w N A os) :
    Calls Try.prog 11 #[.agg (caseA n s i f A os.length c)] w fun x w' => x = .returned (.bool true) ∧ Below w.heap.size w w' := by
  obtain ⟨wA, hwA⟩ : ∃ wA, wA = w.alloc (.cells (caseA n s i f A os.length c) 59) := ⟨_, rfl⟩
  have hbA : Below w.heap.size w wA := by rw [hwA]; exact below_box1 _ _ _
  have zA : w.heap.size < wA.heap.size := by rw [hwA]; simp
  have oA : wA.rangeAt w.heap.size 0 (caseA n s i f A os.length c).toList := by rw [hwA]; exact range_new w (caseA n s i f A os.length c) 59
  obtain ⟨v, hv⟩ : ∃ v, v = w.heap.size := ⟨_, rfl⟩
  rw [← hv] at oA
  have c0 : wA.cell? ⟨v, 0, none⟩ = some (.int .i64 n) := oA 0 _ rfl
  have c1 : wA.cell? ⟨v, 1, none⟩ = some (.int .i64 s) := oA 1 _ rfl
  have c2 : wA.cell? ⟨v, 2, none⟩ = some (.int .i64 i) := oA 2 _ rfl
  have c3 : wA.cell? ⟨v, 3, none⟩ = some (.int .i64 f) := oA 3 _ rfl
  have c4 : wA.cell? ⟨v, 4, none⟩ = some (.slice A os.length c) := oA 4 _ rfl
  have opsA : OpsAt wA wA.heap.size A os := hA.up (hbA.mono hN) (by omega)
  have hlen := hA.len
  have hi0 := new_inv h hf
  have hr0 := new_rinv h hf
  have hvz : v < wA.heap.size := by omega
  replace hi0 := Lib.hid hi0
  replace hr0 := Lib.hid hr0
  replace hbA := Lib.hid hbA
  replace oA := Lib.hid oA
  replace hwA := Lib.hid hwA
  replace hv := Lib.hid hv
  replace opsA := Lib.hid opsA
  replace h := Lib.hid h
  replace hf := Lib.hid hf
  clear hA
  go_enter Try.func11, Try.ntmps11
  go_wp2_with fail
  rw [← hwA.out, ← hv.out]
  go_wp2_with (first
    | (go_at_call 26
       refine (begun_yes n s i f A os.length c wA h.out hf.out).mono ?_
       rintro e w1 ⟨b, rfl, ag1, hb1, lo1⟩
       have D1 : Solo wA b [b] (newSt n s i f) none 0 w1 := by
         refine ⟨ag1, rowF_nil, List.mem_cons_self .., fun x hx => ?_, fun x hx => ?_, hi0.out, hr0.out, hb1⟩
         · have := List.mem_singleton.1 hx; omega
         · have := List.mem_singleton.1 hx; subst this; exact ag_lt ag1
       clear c0 c1 c2 c3 c4 ag1
       replace D1 := Lib.hid D1
       replace hb1 := Lib.hid hb1)
    | fail)
  go_wp2_with (first
    | (go_at_call 31
       refine (changing_any b _ _ _ w1 D1.out.ag).mono ?_
       rintro e w1' ⟨rfl, rfl⟩
       rw [show (newSt n s i f).opn = true from rfl])
    | (go_at_call 22
       refine (view_any b _ _ _ w1'.heap.size w1' D1.out.ag (D1.out.hi b D1.out.aF) (Nat.le_refl _) D1.out.rM.row D1.out.rinv.len).mono ?_
       rintro e w2 ⟨B, cB, rfl, rB, hb2⟩
       have D2 := Lib.hid (D1.out.below hb2)
       rw [show (newSt n s i f).mem.length = 0 from rfl]
       have fd46 := fun W => run_field46 (newSt n s i f).vid B 0 cB W
       clear hb2 rB)
    | fail)
  go_loopw [5] (fun k wr => ∃ q t M cM, k = .int .i64 ((q : Nat) : Int) ∧ q ≤ os.length ∧ Solo wA b [b] t M cM wr) (fun k _ => os.length - (intOf k).toNat)
  case atStart => exact ⟨0, _, none, 0, rfl, by omega, D2.out⟩
  case round =>
    obtain ⟨q, t, M, cM, rfl, hq, D⟩ := hrel
    have oq := range_same oA.out (D.bel.block v hvz)
    have c4 : wr.cell? ⟨v, 4, none⟩ = some (.slice A os.length c) := oq 4 _ rfl
    by_cases hlt : q < os.length
    · have opsr := opsA.out.up D.bel (Nat.le_refl _)
      obtain ⟨g, off, hAe, hg, hc⟩ := opsr.row (by omega)
      have hx : os[q]? = some os[q] := List.getElem?_eq_getElem hlt
      obtain ⟨y, hy⟩ : ∃ y, y = os[q] := ⟨_, rfl⟩
      rw [← hy] at hx
      have hym : y ∈ os := by rw [hy]; exact List.getElem_mem hlt
      have hld : (loadVar 71 ⟨g, off + q * 13, none⟩).run Try.prog wr = .ok (.agg (opA y.o y.P)) wr := load71 (fun j u hu => hc q y hx j u hu)
      have oy := opsA.out.each y hym
      have hq0 : (0 : Int) ≤ (q : Int) := by omega
      have hq1 : (q : Int) < (os.length : Int) := by omega
      rw [hAe] at c4
      have hox : ∀ W, Below wA.heap.size wA W → OpAt W wA.heap.size y.o y.P ∧ wA.heap.size ≤ W.heap.size := fun W hW => ⟨oy.below hW, hW.size⟩
      have hbz : b < wr.heap.size := D.hi b D.aF
      have hrz : wA.heap.size ≤ wr.heap.size := D.bel.size
      replace hox := Lib.hid hox
      replace hAe := Lib.hid hAe
      replace hld := Lib.hid hld
      replace hx := Lib.hid hx
      replace hy := Lib.hid hy
      replace D := Lib.hid D
      replace oq := Lib.hid oq
      clear hc opsr oy
      by_cases h5 : y.o.k = 5
      · have b5 : (y.o.k == 5) = true := by simp [h5]
        replace h5 := Lib.hid h5
        cases hsome : t.agreed.isSome with
        | true =>
          have hE := Lib.hid ((install_yes hsome).2.2.2)
          replace hsome := Lib.hid hsome
          go_wp2_with (first
            | (refine wpList_loadR rfl 71 (.tmp 48) rfl g (off + q * 13) (by rfl) _ (by exact hld.out) ?_)
            | (refine wpList_store71 rfl (.tmp 6) (.tmp 49) rfl wr.heap.size 0 (by rfl) y.o y.P (by rfl) (there_new wr opZ 71) ?_
               intro w1 hw1
               have b1 : Below wr.heap.size wr w1 := by rw [hw1.out]; exact below_sets ((Below.refl _ _).alloc (Nat.le_refl _) _) (Nat.le_refl _) _ _ (by simp)
               have o1 : w1.rangeAt wr.heap.size 0 (opA y.o y.P).toList := by rw [hw1.out]; exact World.rangeAt_setCells_same _ _ _ _ (there_new wr opZ 71)
               have z1 : w1.heap.size = wr.heap.size + 1 := by rw [hw1.out, size_sets]; simp
               obtain ⟨u1, hu1⟩ : ∃ u, u = wr.heap.size := ⟨_, rfl⟩
               have D1 := D.out.below b1
               rw [← hu1] at o1 ⊢
               replace o1 := Lib.hid o1
               replace D1 := Lib.hid D1
               replace hu1 := Lib.hid hu1
               replace z1 := Lib.hid z1
               clear c4 b1 hw1)
            | fail)
          go_wp2_with (first
            | (go_at_call 34
               refine (look_any wA b [b] t M cM w1 D1.out).mono ?_
               rintro e w2 ⟨P2, rfl, N2, hb2⟩
               have D2 := D1.out.below hb2
               have z2 := hb2.size
               have hu1' := hu1.out
               have z1' := z1.out
               have o2 := range_same o1.out (hb2.block u1 (by omega))
               clear hu1' z1'
               replace o2 := Lib.hid o2
               replace N2 := Lib.hid N2
               replace D2 := Lib.hid D2
               clear hb2)
            | (refine wpList_store76 rfl (.tmp 7) (.tmp 51) rfl w2.heap.size 0 (by rfl) (siOf t).p P2.S (siOf t).ls.length P2.cS P2.V (siOf t).lv.length P2.cV (siOf t).v P2.A (siOf t).ms.length P2.cA (siOf t).u P2.B (siOf t).us.length P2.cB P2.T (siOf t).ts.length P2.cT (siOf t).ok (siOf t).opn (by rfl) (there_new w2 siZ 76) ?_
               intro w3 hw3
               obtain ⟨u2, hu2⟩ : ∃ u, u = w2.heap.size := ⟨_, rfl⟩
               have hu1' := hu1.out
               have z1' := z1.out
               have b23 : Below w2.heap.size w2 w3 := by rw [hw3.out]; exact below_sets ((Below.refl _ _).alloc (Nat.le_refl _) _) (Nat.le_refl _) _ _ (by simp)
               have z3 : w3.heap.size = w2.heap.size + 1 := by rw [hw3.out, size_sets]; simp
               have sg3 : SgV w3 u2 [u2, b] (siOf t) P2 := by rw [hu2, hw3.out]; exact SgV.new N2.out (by omega) (by omega)
               have D3 : Solo wA b [u2, b] t M cM w3 := D2.out.add b23 (g := u2) (by omega) (by omega)
               have o3 := range_same o2.out (b23.block u1 (by omega))
               have k0 : (loadVar 3 ⟨u1, 0, none⟩).run Try.prog w3 = .ok (.int .i64 y.o.k) w3 := load3 (o3 0 _ rfl)
               replace k0 := Lib.hid k0
               have hbu2 : b ≠ u2 := by omega
               have hu12 : u1 ≠ u2 := by omega
               have hub : u1 ≠ b := by omega
               have hu1z : u1 < w3.heap.size := by omega
               have hu2z : u2 < w3.heap.size := by omega
               rw [← hu2]
               replace hu12 := Lib.hid hu12
               replace hub := Lib.hid hub
               replace hbu2 := Lib.hid hbu2
               replace sg3 := Lib.hid sg3
               replace D3 := Lib.hid D3
               replace o3 := Lib.hid o3
               replace hu2 := Lib.hid hu2
               replace z3 := Lib.hid z3
               clear hu1' z1' b23 hw3 N2 D2 D1 o1 o2)
            | (refine wpList_loadR rfl 3 (.tmp 52) rfl u1 0 (by rfl) _ (by exact k0.out) ?_)
            | (refine wpList_loadR rfl 71 (.tmp 6) rfl u1 0 (by rfl) _ (by exact load71z o3.out) ?_)
            | fail)
          go_wp2_with (first
            | (go_at_call 27
               refine (install_solo D3.out).mono ?_
               rintro e w4 ⟨B4, c4, T4, cT4, M4, cM4, rfl, rB4, rT4, D4, g4⟩
               rw [hE.out]
               have b4u : Below w4.heap.size w4 (w4.alloc (.cells (viewA Vid.zero none 0 0) 46)) := (Below.refl _ _).alloc (Nat.le_refl _) _
               have sg4 := sg3.out.grown g4 (List.mem_cons_of_mem _ (List.mem_cons_self ..)) hbu2.out
               have z4 := g4.size
               clear k0 g4
               replace D4 := Lib.hid D4
               replace sg4 := Lib.hid sg4
               replace rB4 := Lib.hid rB4
               replace rT4 := Lib.hid rT4
               replace b4u := Lib.hid b4u)
            | (refine wpList_store46 rfl (.tmp 8) (.tmp 58) rfl w4.heap.size 0 (by rfl) (agV t.agreed) B4 (agM t.agreed).length c4 (by rfl) (there_new w4 (viewA Vid.zero none 0 0) 46) ?_
               intro w5 hw5
               obtain ⟨u3, hu3⟩ : ∃ u, u = w4.heap.size := ⟨_, rfl⟩
               have p5 : ViAt w5 u3 (agV t.agreed) B4 (agM t.agreed).length c4 := by rw [hw5.out, hu3]; exact viAt_put (there_new w4 (viewA Vid.zero none 0 0) 46)
               have b45 : Below w4.heap.size w4 w5 := by rw [hw5.out]; exact below_sets b4u.out (Nat.le_refl _) _ _ (by simp)
               have u3w5 : u3 < w5.heap.size := by rw [hw5.out, size_sets, hu3]; simp
               have D5 := D4.out.below b45
               have sg5 := sg4.out.below b45
               have rB5 := rB4.out.below b45
               have rT5 := rT4.out.below b45
               obtain ⟨lM, lT⟩ := agM_len D3.out.inv
               rw [← hu3]
               have a0 := p5.ce
               have a1 := p5.cl
               have a2 := p5.ci
               have a3 := p5.cc
               have a4 := p5.cm
               have q14 : w5.cell? ⟨u2, 14, none⟩ = some (.int .i64 (agV t.agreed).e) := sg5.cells 14 _ rfl
               have q15 : w5.cell? ⟨u2, 15, none⟩ = some (.int .i64 (agV t.agreed).l) := sg5.cells 15 _ rfl
               have q16 : w5.cell? ⟨u2, 16, none⟩ = some (.int .i64 (agV t.agreed).i) := sg5.cells 16 _ rfl
               have q17 : w5.cell? ⟨u2, 17, none⟩ = some (.int .i64 (agV t.agreed).c) := sg5.cells 17 _ rfl
               have q18 : w5.cell? ⟨u2, 18, none⟩ = some (.slice P2.B (agM t.agreed).length P2.cB) := sg5.cells 18 _ rfl
               have q20 : w5.cell? ⟨u2, 20, none⟩ = some (.bool true) := by have := sg5.cells 20 _ rfl; rw [Nat.zero_add] at this; rw [this, ← hsome.out]; rfl
               clear b45 hw5
               replace hu3 := Lib.hid hu3
               replace p5 := Lib.hid p5
               replace D5 := Lib.hid D5
               replace sg5 := Lib.hid sg5
               replace rB5 := Lib.hid rB5
               replace rT5 := Lib.hid rT5)
            | fail)
          go_wp2_with (first
            | (go_at_call 21
               refine (views_any (agV t.agreed) (agV t.agreed) B4 P2.B c4 P2.cB w5.heap.size _ _ (agM t.agreed) (agM t.agreed) w5 rfl rfl (Nat.le_refl _) rB5.out.row sg5.out.rows.row.B (by omega) (by omega)).mono ?_
               rintro e w6 ⟨rfl, hb6⟩
               rw [viSame_refl]
               have D6 := D5.out.below hb6
               have sg6 := sg5.out.below hb6
               have rT6 := rT5.out.below hb6
               have rB6 := Lib.hid (rB5.out.below hb6)
               have p6 := p5.out.same (hb6.block u3 u3w5)
               have u3w6 : u3 < w6.heap.size := Nat.lt_of_lt_of_le u3w5 hb6.size
               clear a0 a1 a2 a3 a4 q14 q15 q16 q17 q18 q20 hb6
               have q19 : w6.cell? ⟨u2, 19, none⟩ = some (.slice P2.T (agT t.agreed).length P2.cT) := sg6.cells 19 _ rfl
               replace D6 := Lib.hid D6
               replace sg6 := Lib.hid sg6
               replace rT6 := Lib.hid rT6
               replace p6 := Lib.hid p6)
            | fail)
          go_wp2_with (first
            | (go_at_call 23
               refine (lints_two T4 P2.T cT4 P2.cT w6.heap.size (agT t.agreed) (agT t.agreed) _ _ w6 rfl rfl (Nat.le_refl _) rT6.out.row sg6.out.rows.row.T (by omega) (by omega)).mono ?_
               rintro e w7 ⟨rfl, hb7⟩
               rw [decide_eq_true (rfl : agT t.agreed = agT t.agreed)]
               have D7 := D6.out.below hb7
               have sg7 := sg6.out.below hb7
               have p7 := p6.out.same (hb7.block u3 u3w6)
               have u3w7 : u3 < w7.heap.size := Nat.lt_of_lt_of_le u3w6 hb7.size
               have rB7 := Lib.hid (rB6.out.below hb7)
               clear q19 hb7
               replace D7 := Lib.hid D7
               replace sg7 := Lib.hid sg7
               replace p7 := Lib.hid p7)
            | fail)
          obtain ⟨i1, i2, i3, -⟩ := install_yes hsome.out
          have n16 : t.install.n ≤ 16 := D7.out.inv.n2
          have lm7 := D7.out.rinv.len
          have len1 : (t.install.own.set.take t.install.n).length = t.install.n := List.length_take_of_le (by rw [D7.out.inv.own.set]; exact n16)
          have len2 : (t.install.own.vec.take t.install.n).length = t.install.n := List.length_take_of_le (by rw [D7.out.inv.own.vec]; exact n16)
          have lls := sg7.out.rows.lS
          have llv := sg7.out.rows.lV
          have llu := sg7.out.rows.lB
          replace i1 := Lib.hid i1
          replace i2 := Lib.hid i2
          replace i3 := Lib.hid i3
          replace len1 := Lib.hid len1
          replace len2 := Lib.hid len2
          have hC : ∀ x' : Prop, (∀ W, Below w7.heap.size w7 W → x') ↔ x' := fun x' => ⟨fun f => f _ (Below.refl _ _), fun f _ _ => f⟩
          have L46 : ∀ W, Below w7.heap.size w7 W → (loadVar 46 ⟨u3, 0, none⟩).run Try.prog W = .ok (.agg (viewA (agV t.agreed) B4 (agM t.agreed).length c4)) W := fun W hW => (p7.out.same (hW.block u3 u3w7)).load
          have L31 : ∀ W, Below w7.heap.size w7 W → (loadVar 31 ⟨u2, 0, none⟩).run Try.prog W = .ok (.agg (prV P2.S (siOf t).ls.length P2.cS P2.V (siOf t).lv.length P2.cV (siOf t).p)) W := fun W hW => (sg7.out.below hW).prop
          replace L46 := Lib.hid L46
          replace L31 := Lib.hid L31
          have bd : Below w7.heap.size w7 w7.drew := Below.drew (Below.refl _ _)
          have DD := Lib.hid (D7.out.below bd)
          replace bd := Lib.hid bd
          refine wp_region_ord [([0, 1, 2, 3, 5], 4), ([], 6), ([7, 8, 9], 10), ([11, 12, 13, 15, 16], 14), ([], 17)] [18, 19, 20] (fun W => Below w7.heap.size w7 W) rfl (by kernel_rfl) rfl bd.out ?_
          refine WO.seg rfl ?_ bd.out
          simp only [picks, pick, List.cons_append, List.nil_append, List.append_nil]
          repeat (first
            | (refine wpQuiet_loadC (by rfl) 46 (.tmp 8) rfl u3 0 (by rfl) _ L46.out ?_; simp only [Act.put, List.setIfInBounds_toArray, List.set_cons_zero, List.set_cons_succ])
            | go_big_quiet_step (fail))
          refine wpQuiet_nil ?_
          intro K hK
          go_simp
          go_at_call 22
          refine (view_any b t.install M4 cM4 w7.drew.heap.size w7.drew DD.out.ag (DD.out.hi b DD.out.aF) (Nat.le_refl _) DD.out.rM.row lm7).mono ?_
          rintro e x1 ⟨A8, c8, rfl, rA8, hb8⟩
          have bx1 : Below w7.heap.size w7 x1 := bd.out.trans hb8
          replace bx1 := Lib.hid bx1
          replace rA8 := Lib.hid rA8
          clear hb8
          go_wp2_with fail
          refine hK.out _ _ bx1.out ?_
          clear hK K
          refine WO.seg rfl ?_ bx1.out
          simp only [picks]
          refine wpQuiet_nil ?_
          intro K hK
          go_simp
          go_at_call 21
          refine (views_any t.install.vid (agV t.agreed) A8 B4 c8 c4 x1.heap.size _ _ t.install.mem (agM t.agreed) x1 rfl rfl (Nat.le_refl _) rA8.out.row ((rB7.out.below bx1.out).row) (by omega) (by omega)).mono ?_
          rintro e x2 ⟨rfl, hb8⟩
          rw [i1.out, i2.out, viSame_refl]
          have bx2 : Below w7.heap.size w7 x2 := bx1.out.trans (hb8.mono bx1.out.size)
          replace bx2 := Lib.hid bx2
          clear hb8
          go_wp2_with fail
          refine hK.out _ _ bx2.out ?_
          clear hK K
          refine WO.seg rfl ?_ bx2.out
          simp only [picks, pick, List.cons_append, List.nil_append, List.append_nil]
          repeat go_big_quiet_step (fail)
          refine wpQuiet_nil ?_
          intro K hK
          go_simp
          go_at_call 31
          refine (changing_any b t.install M4 cM4 x2 (D7.out.below bx2.out).ag).mono ?_
          rintro e x3 ⟨rfl, rfl⟩
          rw [i3.out]
          go_wp2_with fail
          refine hK.out _ _ bx2.out ?_
          clear hK K
          refine WO.seg rfl ?_ bx2.out
          simp only [picks, pick, List.cons_append, List.nil_append, List.append_nil]
          repeat (first
            | (refine wpQuiet_loadC (by rfl) 31 (.tmp 103) rfl u2 0 (by rfl) _ L31.out ?_; simp only [Act.put, List.setIfInBounds_toArray, List.set_cons_zero, List.set_cons_succ])
            | go_big_quiet_step (fail))
          refine wpQuiet_nil ?_
          intro K hK
          go_simp
          go_at_call 30
          refine (proposal_any b t.install M4 cM4 x3 (D7.out.below bx2.out).ag ((D7.out.below bx2.out).hi b D7.out.aF) n16).mono ?_
          rintro e x4 ⟨S8, V8, rfl, rS8, rV8, hb8⟩
          have bx4 : Below w7.heap.size w7 x4 := bx2.out.trans (hb8.mono bx2.out.size)
          replace bx4 := Lib.hid bx4
          replace rS8 := Lib.hid rS8
          replace rV8 := Lib.hid rV8
          clear hb8
          go_wp2_with fail
          refine hK.out _ _ bx4.out ?_
          clear hK K
          refine WO.seg rfl ?_ bx4.out
          simp only [picks]
          refine wpQuiet_nil ?_
          intro K hK
          go_simp
          go_at_call 33
          refine (proposals_any S8 V8 P2.S P2.V t.install.n t.install.n P2.cS P2.cV x4.heap.size t.install.n t.install.n _ _ t.install.out (siOf t).p (t.install.own.set.take t.install.n) (t.install.own.vec.take t.install.n) (siOf t).ls (siOf t).lv x4 len1.out len2.out rfl rfl (Nat.le_refl _) rS8.out.row rV8.out.row (sg7.out.below bx4.out).rows.row.S (sg7.out.below bx4.out).rows.row.V (by omega) (by omega) (by omega) (by omega)).mono ?_
          rintro e x5 ⟨rfl, hb8⟩
          rw [pr_inst]
          have bx5 : Below w7.heap.size w7 x5 := bx4.out.trans (hb8.mono bx4.out.size)
          have D8 := Lib.hid (D7.out.below bx5)
          replace bx5 := Lib.hid bx5
          clear hb8
          go_wp2_with fail
          refine hK.out _ _ bx5.out ?_
          clear hK K
          refine WO.end_ ?_
          simp only [picks, pick, List.cons_append, List.nil_append, List.append_nil]
          repeat go_big_quiet_step (fail)
          refine wpQuiet_nil ?_
          clear hC L46 L31
          go_wp2
          go_roundw
          case rel => go_light; exact ⟨q + 1, t.install, M4, cM4, by go_num, by omega, D8.out.fewer (fun x hx => List.mem_cons_of_mem _ hx) (List.mem_cons_self ..)⟩
          case measure => go_light; simp [intOf]; omega
        | false =>
          have hE := Lib.hid (install_not hsome)
          replace hsome := Lib.hid hsome
          go_wp2_with (first
            | (refine wpList_loadR rfl 71 (.tmp 48) rfl g (off + q * 13) (by rfl) _ (by exact hld.out) ?_)
            | (refine wpList_store71 rfl (.tmp 6) (.tmp 49) rfl wr.heap.size 0 (by rfl) y.o y.P (by rfl) (there_new wr opZ 71) ?_
               intro w1 hw1
               have b1 : Below wr.heap.size wr w1 := by rw [hw1.out]; exact below_sets ((Below.refl _ _).alloc (Nat.le_refl _) _) (Nat.le_refl _) _ _ (by simp)
               have o1 : w1.rangeAt wr.heap.size 0 (opA y.o y.P).toList := by rw [hw1.out]; exact World.rangeAt_setCells_same _ _ _ _ (there_new wr opZ 71)
               have z1 : w1.heap.size = wr.heap.size + 1 := by rw [hw1.out, size_sets]; simp
               obtain ⟨u1, hu1⟩ : ∃ u, u = wr.heap.size := ⟨_, rfl⟩
               have D1 := D.out.below b1
               rw [← hu1] at o1 ⊢
               replace o1 := Lib.hid o1
               replace D1 := Lib.hid D1
               replace hu1 := Lib.hid hu1
               replace z1 := Lib.hid z1
               clear c4 b1 hw1)
            | fail)
          go_wp2_with (first
            | (go_at_call 34
               refine (look_any wA b [b] t M cM w1 D1.out).mono ?_
               rintro e w2 ⟨P2, rfl, N2, hb2⟩
               have D2 := D1.out.below hb2
               have z2 := hb2.size
               have hu1' := hu1.out
               have z1' := z1.out
               have o2 := range_same o1.out (hb2.block u1 (by omega))
               clear hu1' z1'
               replace o2 := Lib.hid o2
               replace N2 := Lib.hid N2
               replace D2 := Lib.hid D2
               clear hb2)
            | (refine wpList_store76 rfl (.tmp 7) (.tmp 51) rfl w2.heap.size 0 (by rfl) (siOf t).p P2.S (siOf t).ls.length P2.cS P2.V (siOf t).lv.length P2.cV (siOf t).v P2.A (siOf t).ms.length P2.cA (siOf t).u P2.B (siOf t).us.length P2.cB P2.T (siOf t).ts.length P2.cT (siOf t).ok (siOf t).opn (by rfl) (there_new w2 siZ 76) ?_
               intro w3 hw3
               obtain ⟨u2, hu2⟩ : ∃ u, u = w2.heap.size := ⟨_, rfl⟩
               have hu1' := hu1.out
               have z1' := z1.out
               have b23 : Below w2.heap.size w2 w3 := by rw [hw3.out]; exact below_sets ((Below.refl _ _).alloc (Nat.le_refl _) _) (Nat.le_refl _) _ _ (by simp)
               have z3 : w3.heap.size = w2.heap.size + 1 := by rw [hw3.out, size_sets]; simp
               have sg3 : SgV w3 u2 [u2, b] (siOf t) P2 := by rw [hu2, hw3.out]; exact SgV.new N2.out (by omega) (by omega)
               have D3 : Solo wA b [u2, b] t M cM w3 := D2.out.add b23 (g := u2) (by omega) (by omega)
               have o3 := range_same o2.out (b23.block u1 (by omega))
               have k0 : (loadVar 3 ⟨u1, 0, none⟩).run Try.prog w3 = .ok (.int .i64 y.o.k) w3 := load3 (o3 0 _ rfl)
               replace k0 := Lib.hid k0
               have hbu2 : b ≠ u2 := by omega
               have hu12 : u1 ≠ u2 := by omega
               have hub : u1 ≠ b := by omega
               have hu1z : u1 < w3.heap.size := by omega
               have hu2z : u2 < w3.heap.size := by omega
               rw [← hu2]
               replace hu12 := Lib.hid hu12
               replace hub := Lib.hid hub
               replace hbu2 := Lib.hid hbu2
               replace sg3 := Lib.hid sg3
               replace D3 := Lib.hid D3
               replace o3 := Lib.hid o3
               replace hu2 := Lib.hid hu2
               replace z3 := Lib.hid z3
               clear hu1' z1' b23 hw3 N2 D2 D1 o1 o2)
            | (refine wpList_loadR rfl 3 (.tmp 52) rfl u1 0 (by rfl) _ (by exact k0.out) ?_)
            | (refine wpList_loadR rfl 71 (.tmp 6) rfl u1 0 (by rfl) _ (by exact load71z o3.out) ?_)
            | fail)
          go_wp2_with (first
            | (go_at_call 27
               refine (install_solo D3.out).mono ?_
               rintro e w4 ⟨B4, c4, T4, cT4, M4, cM4, rfl, rB4, rT4, D4, g4⟩
               rw [hE.out]
               have b4u : Below w4.heap.size w4 (w4.alloc (.cells (viewA Vid.zero none 0 0) 46)) := (Below.refl _ _).alloc (Nat.le_refl _) _
               have sg4 := sg3.out.grown g4 (List.mem_cons_of_mem _ (List.mem_cons_self ..)) hbu2.out
               have z4 := g4.size
               clear k0 g4
               replace D4 := Lib.hid D4
               replace sg4 := Lib.hid sg4
               replace rB4 := Lib.hid rB4
               replace rT4 := Lib.hid rT4
               replace b4u := Lib.hid b4u)
            | (refine wpList_store46 rfl (.tmp 8) (.tmp 58) rfl w4.heap.size 0 (by rfl) (agV t.agreed) B4 (agM t.agreed).length c4 (by rfl) (there_new w4 (viewA Vid.zero none 0 0) 46) ?_
               intro w5 hw5
               obtain ⟨u3, hu3⟩ : ∃ u, u = w4.heap.size := ⟨_, rfl⟩
               have p5 : ViAt w5 u3 (agV t.agreed) B4 (agM t.agreed).length c4 := by rw [hw5.out, hu3]; exact viAt_put (there_new w4 (viewA Vid.zero none 0 0) 46)
               have b45 : Below w4.heap.size w4 w5 := by rw [hw5.out]; exact below_sets b4u.out (Nat.le_refl _) _ _ (by simp)
               have u3w5 : u3 < w5.heap.size := by rw [hw5.out, size_sets, hu3]; simp
               have D5 := D4.out.below b45
               have sg5 := sg4.out.below b45
               have rB5 := rB4.out.below b45
               have rT5 := rT4.out.below b45
               obtain ⟨lM, lT⟩ := agM_len D3.out.inv
               rw [← hu3]
               have a0 := p5.ce
               have a1 := p5.cl
               have a2 := p5.ci
               have a3 := p5.cc
               have a4 := p5.cm
               have q14 : w5.cell? ⟨u2, 14, none⟩ = some (.int .i64 (agV t.agreed).e) := sg5.cells 14 _ rfl
               have q15 : w5.cell? ⟨u2, 15, none⟩ = some (.int .i64 (agV t.agreed).l) := sg5.cells 15 _ rfl
               have q16 : w5.cell? ⟨u2, 16, none⟩ = some (.int .i64 (agV t.agreed).i) := sg5.cells 16 _ rfl
               have q17 : w5.cell? ⟨u2, 17, none⟩ = some (.int .i64 (agV t.agreed).c) := sg5.cells 17 _ rfl
               have q18 : w5.cell? ⟨u2, 18, none⟩ = some (.slice P2.B (agM t.agreed).length P2.cB) := sg5.cells 18 _ rfl
               have q20 : w5.cell? ⟨u2, 20, none⟩ = some (.bool false) := by have := sg5.cells 20 _ rfl; rw [Nat.zero_add] at this; rw [this, ← hsome.out]; rfl
               clear b45 hw5
               replace hu3 := Lib.hid hu3
               replace p5 := Lib.hid p5
               replace D5 := Lib.hid D5
               replace sg5 := Lib.hid sg5
               replace rB5 := Lib.hid rB5
               replace rT5 := Lib.hid rT5)
            | fail)
          go_wp2_with (first
            | (go_at_call 21
               refine (views_any (agV t.agreed) (agV t.agreed) B4 P2.B c4 P2.cB w5.heap.size _ _ (agM t.agreed) (agM t.agreed) w5 rfl rfl (Nat.le_refl _) rB5.out.row sg5.out.rows.row.B (by omega) (by omega)).mono ?_
               rintro e w6 ⟨rfl, hb6⟩
               rw [viSame_refl]
               have D6 := D5.out.below hb6
               have sg6 := sg5.out.below hb6
               have rT6 := rT5.out.below hb6
               have rB6 := Lib.hid (rB5.out.below hb6)
               have p6 := p5.out.same (hb6.block u3 u3w5)
               have u3w6 : u3 < w6.heap.size := Nat.lt_of_lt_of_le u3w5 hb6.size
               clear a0 a1 a2 a3 a4 q14 q15 q16 q17 q18 q20 hb6
               have q19 : w6.cell? ⟨u2, 19, none⟩ = some (.slice P2.T (agT t.agreed).length P2.cT) := sg6.cells 19 _ rfl
               replace D6 := Lib.hid D6
               replace sg6 := Lib.hid sg6
               replace rT6 := Lib.hid rT6
               replace p6 := Lib.hid p6)
            | fail)
          go_wp2_with (first
            | (go_at_call 23
               refine (lints_two T4 P2.T cT4 P2.cT w6.heap.size (agT t.agreed) (agT t.agreed) _ _ w6 rfl rfl (Nat.le_refl _) rT6.out.row sg6.out.rows.row.T (by omega) (by omega)).mono ?_
               rintro e w7 ⟨rfl, hb7⟩
               rw [decide_eq_true (rfl : agT t.agreed = agT t.agreed)]
               have D7 := D6.out.below hb7
               have sg7 := sg6.out.below hb7
               have p7 := p6.out.same (hb7.block u3 u3w6)
               have u3w7 : u3 < w7.heap.size := Nat.lt_of_lt_of_le u3w6 hb7.size
               have rB7 := Lib.hid (rB6.out.below hb7)
               clear q19 hb7
               replace D7 := Lib.hid D7
               replace sg7 := Lib.hid sg7
               replace p7 := Lib.hid p7)
            | fail)
          refine wp_region_quiet_lit (by kernel_rfl) (by kernel_rfl) ?_
          repeat (first | go_big_quiet_skip | go_big_quiet_step (fail))
          refine wpQuiet_nil ?_
          rintro w8 ⟨n8, hn8⟩
          have D8 := Lib.hid (D7.out.below (show Below w7.heap.size w7 w8 by rw [hn8]; exact below_drewN (Below.refl _ _) _))
          clear hn8
          go_wp2
          go_roundw
          case rel => go_light; exact ⟨q + 1, t.install, M4, cM4, by go_num, by omega, D8.out.fewer (fun x hx => List.mem_cons_of_mem _ hx) (List.mem_cons_self ..)⟩
          case measure => go_light; simp [intOf]; omega
      · have b5 : (y.o.k == 5) = false := by simp [h5]
        have hri := callS_inv D.out.inv D.out.rinv y.o
        have hme := callS_mem t y.o
        replace hri := Lib.hid hri
        replace hme := Lib.hid hme
        by_cases he : (callS y.o t).1 = 0
        · obtain ⟨t', ht'⟩ : ∃ t', t' = (callS y.o t).2 := ⟨_, rfl⟩
          have hag : y.o.k = 2 → t'.take y.o.q y.o.i y.o.p = (false, 51, t') := fun h2 => by rw [ht']; exact callS_take h2 D.out.inv he
          rw [← ht'] at hri hme
          replace ht' := Lib.hid ht'
          replace hag := Lib.hid hag
          replace he := Lib.hid he
          replace h5 := Lib.hid h5
          by_cases h2 : y.o.k = 2
          · have b2 : (y.o.k == 2) = true := by simp [h2]
            replace h2 := Lib.hid h2
            go_wp2_with (first
              | (refine wpList_loadR rfl 71 (.tmp 48) rfl g (off + q * 13) (by rfl) _ (by exact hld.out) ?_)
              | (refine wpList_store71 rfl (.tmp 6) (.tmp 49) rfl wr.heap.size 0 (by rfl) y.o y.P (by rfl) (there_new wr opZ 71) ?_
                 intro w1 hw1
                 have b1 : Below wr.heap.size wr w1 := by rw [hw1.out]; exact below_sets ((Below.refl _ _).alloc (Nat.le_refl _) _) (Nat.le_refl _) _ _ (by simp)
                 have o1 : w1.rangeAt wr.heap.size 0 (opA y.o y.P).toList := by rw [hw1.out]; exact World.rangeAt_setCells_same _ _ _ _ (there_new wr opZ 71)
                 have z1 : w1.heap.size = wr.heap.size + 1 := by rw [hw1.out, size_sets]; simp
                 obtain ⟨u1, hu1⟩ : ∃ u, u = wr.heap.size := ⟨_, rfl⟩
                 have D1 := D.out.below b1
                 rw [← hu1] at o1 ⊢
                 replace o1 := Lib.hid o1
                 replace D1 := Lib.hid D1
                 replace hu1 := Lib.hid hu1
                 replace z1 := Lib.hid z1
                 clear c4 b1 hw1)
              | fail)
            go_wp2_with (first
              | (go_at_call 34
                 refine (look_any wA b [b] t M cM w1 D1.out).mono ?_
                 rintro e w2 ⟨P2, rfl, N2, hb2⟩
                 have D2 := D1.out.below hb2
                 have z2 := hb2.size
                 have hu1' := hu1.out
                 have z1' := z1.out
                 have o2 := range_same o1.out (hb2.block u1 (by omega))
                 clear hu1' z1'
                 replace o2 := Lib.hid o2
                 replace N2 := Lib.hid N2
                 replace D2 := Lib.hid D2
                 clear hb2)
              | (refine wpList_store76 rfl (.tmp 7) (.tmp 51) rfl w2.heap.size 0 (by rfl) (siOf t).p P2.S (siOf t).ls.length P2.cS P2.V (siOf t).lv.length P2.cV (siOf t).v P2.A (siOf t).ms.length P2.cA (siOf t).u P2.B (siOf t).us.length P2.cB P2.T (siOf t).ts.length P2.cT (siOf t).ok (siOf t).opn (by rfl) (there_new w2 siZ 76) ?_
                 intro w3 hw3
                 obtain ⟨u2, hu2⟩ : ∃ u, u = w2.heap.size := ⟨_, rfl⟩
                 have hu1' := hu1.out
                 have z1' := z1.out
                 have b23 : Below w2.heap.size w2 w3 := by rw [hw3.out]; exact below_sets ((Below.refl _ _).alloc (Nat.le_refl _) _) (Nat.le_refl _) _ _ (by simp)
                 have z3 : w3.heap.size = w2.heap.size + 1 := by rw [hw3.out, size_sets]; simp
                 have sg3 : SgV w3 u2 [u2, b] (siOf t) P2 := by rw [hu2, hw3.out]; exact SgV.new N2.out (by omega) (by omega)
                 have D3 : Solo wA b [u2, b] t M cM w3 := D2.out.add b23 (g := u2) (by omega) (by omega)
                 have o3 := range_same o2.out (b23.block u1 (by omega))
                 have k0 : (loadVar 3 ⟨u1, 0, none⟩).run Try.prog w3 = .ok (.int .i64 y.o.k) w3 := load3 (o3 0 _ rfl)
                 replace k0 := Lib.hid k0
                 have hbu2 : b ≠ u2 := by omega
                 have hu12 : u1 ≠ u2 := by omega
                 have hub : u1 ≠ b := by omega
                 have hu1z : u1 < w3.heap.size := by omega
                 have hu2z : u2 < w3.heap.size := by omega
                 rw [← hu2]
                 replace hu12 := Lib.hid hu12
                 replace hub := Lib.hid hub
                 replace hbu2 := Lib.hid hbu2
                 replace sg3 := Lib.hid sg3
                 replace D3 := Lib.hid D3
                 replace o3 := Lib.hid o3
                 replace hu2 := Lib.hid hu2
                 replace z3 := Lib.hid z3
                 clear hu1' z1' b23 hw3 N2 D2 D1 o1 o2)
              | (refine wpList_loadR rfl 3 (.tmp 52) rfl u1 0 (by rfl) _ (by exact k0.out) ?_)
              | (refine wpList_loadR rfl 71 (.tmp 6) rfl u1 0 (by rfl) _ (by exact load71z o3.out) ?_)
              | fail)
            go_wp2_with (first
              | (go_at_call 32
                 refine (call_any wA b [u2, b] t M cM y.o y.P w3 D3.out (hox.out _ (Below.refl _ _)).1 h5.out).mono ?_
                 rintro e w4 ⟨rfl, hl4⟩
                 rw [he.out]
                 rw [← ht'.out] at hl4
                 have D4 := D3.out.prog hl4 hme.out hri.out.1 hri.out.2
                 have sg4 := sg3.out.grown hl4.grown (List.mem_cons_of_mem _ (List.mem_cons_self ..)) hbu2.out
                 have o4 := range_same o3.out (hl4.grown.block u1 hu1z (by intro e; injection e with e; exact hub.out e))
                 have hu1w4 : u1 < w4.heap.size := Nat.lt_of_lt_of_le hu1z hl4.grown.size
                 replace D4 := Lib.hid D4
                 replace sg4 := Lib.hid sg4
                 replace o4 := Lib.hid o4
                 clear k0 hl4)
              | fail)
            refine wp_region_quiet_lit (by kernel_rfl) (by kernel_rfl) ?_
            repeat (first | go_big_quiet_skip | go_big_quiet_step (fail))
            refine wpQuiet_nil ?_
            rintro w5 ⟨n5, hn5⟩
            have b45 : Below w4.heap.size w4 w5 := by rw [hn5]; exact below_drewN (Below.refl _ _) _
            have D5 := D4.out.below b45
            have sg5 := sg4.out.below b45
            have o5 := range_same o4.out (b45.block u1 hu1w4)
            have hu1w5 : u1 < w5.heap.size := Nat.lt_of_lt_of_le hu1w4 b45.size
            have k0 : w5.cell? ⟨u1, 0, none⟩ = some (.int .i64 y.o.k) := o5 0 _ rfl
            clear hn5 n5 b45
            replace D5 := Lib.hid D5
            replace sg5 := Lib.hid sg5
            replace o5 := Lib.hid o5
            have u2w5 : u2 < w5.heap.size := sg5.out.lt
            have bw5 : b < w5.heap.size := D5.out.hi b D5.out.aF
            go_wp2_with (first
              | (go_at_call 34
                 refine (look_any wA b [u2, b] t' M cM w5 D5.out).mono ?_
                 rintro e w6 ⟨P6, rfl, N6, hb6⟩
                 have D6 := D5.out.below hb6
                 have sg6 := sg5.out.below hb6
                 have o6 := range_same o5.out (hb6.block u1 hu1w5)
                 have hu1w6 : u1 < w6.heap.size := Nat.lt_of_lt_of_le hu1w5 hb6.size
                 clear hb6 k0
                 replace D6 := Lib.hid D6
                 replace sg6 := Lib.hid sg6
                 replace o6 := Lib.hid o6
                 replace N6 := Lib.hid N6)
              | (refine wpList_store76 rfl (.tmp 7) (.tmp 129) rfl u2 0 (by rfl) (siOf t').p P6.S (siOf t').ls.length P6.cS P6.V (siOf t').lv.length P6.cV (siOf t').v P6.A (siOf t').ms.length P6.cA (siOf t').u P6.B (siOf t').us.length P6.cB P6.T (siOf t').ts.length P6.cT (siOf t').ok (siOf t').opn (by rfl) sg6.out.there ?_
                 intro w7 hw7
                 have g7 : w6.grownBy w7 (some u2) := by rw [hw7.out]; exact grown_sets _ _ _ _
                 have sg7 : SgV w7 u2 [u2, b] (siOf t') P6 := by rw [hw7.out]; exact sg6.out.put N6.out (fun y hy => by rcases List.mem_cons.1 hy with e | e; omega; have := List.mem_singleton.1 e; omega)
                 have D7 := D6.out.spoil (List.mem_cons_self ..) (fun e => hbu2.out e.symm) g7
                 have o7 := range_same o6.out (g7.block u1 hu1w6 (by intro e; injection e with e; exact hu12.out e))
                 have hu1w7 : u1 < w7.heap.size := Nat.lt_of_lt_of_le hu1w6 g7.size
                 clear g7 hw7
                 replace sg7 := Lib.hid sg7
                 replace D7 := Lib.hid D7
                 replace o7 := Lib.hid o7)
              | (refine wpList_loadR rfl 3 (.tmp 132) rfl u1 1 (by rfl) _ (by exact load3 (o7.out 1 _ rfl)) ?_)
              | (refine wpList_loadR rfl 3 (.tmp 134) rfl u1 2 (by rfl) _ (by exact load3 (o7.out 2 _ rfl)) ?_)
              | (refine wpList_loadR rfl 31 (.tmp 136) rfl u1 4 (by rfl) _ (by exact op31 o7.out) ?_)
              | fail)
            go_wp2_with (first
              | (go_at_call 36
                 refine (take_any b t' M cM y.P.S y.P.V y.P.cS y.P.cV wA.heap.size y.o.p y.o.q y.o.i w7 D7.out.ag (D7.out.hi b D7.out.aF) D7.out.inv (hox.out _ D7.out.bel).2 (hox.out _ D7.out.bel).1.s (hox.out _ D7.out.bel).1.v (by have := (hox.out _ D7.out.bel).1.lS; omega) (by have := (hox.out _ D7.out.bel).1.lv; omega) (fun W hW => (D7.out.rM.keep hW.size (fun k hk hn => hW.block k hk (by intro e; injection e with e; subst e; exact hn D7.out.aF))).row) D7.out.rinv.len).mono ?_
                 rintro e w8 ⟨rfl, hl8⟩
                 rw [hag.out h2.out] at hl8 ⊢
                 have D8 := D7.out.prog hl8 rfl D7.out.inv D7.out.rinv
                 have sg8 := sg7.out.grown hl8.grown (List.mem_cons_of_mem _ (List.mem_cons_self ..)) hbu2.out
                 have o8 := range_same o7.out (hl8.grown.block u1 hu1w7 (by intro e; injection e with e; exact hub.out e))
                 have hu1w8 : u1 < w8.heap.size := Nat.lt_of_lt_of_le hu1w7 hl8.grown.size
                 clear hl8
                 replace D8 := Lib.hid D8
                 replace sg8 := Lib.hid sg8
                 replace o8 := Lib.hid o8)
              | fail)
            have hC : ∀ x' : Prop, (∀ W, Below w8.heap.size w8 W → x') ↔ x' := fun x' => ⟨fun f => f _ (Below.refl _ _), fun f _ _ => f⟩
            have L : ∀ W, Below w8.heap.size w8 W → (loadVar 76 ⟨u2, 0, none⟩).run Try.prog W = .ok (.agg (siA (siOf t') P6)) W := fun W hW => (sg8.out.below hW).load
            replace L := Lib.hid L
            refine wp_region_ord [([0, 1, 2, 3, 4], 5), ([], 6)] [7, 8] (fun W => Below w8.heap.size w8 W) rfl (by kernel_rfl) rfl (Below.drew (Below.refl _ _)) ?_
            refine WO.seg rfl ?_ (Below.drew (Below.refl _ _))
            simp only [picks, pick, List.cons_append, List.nil_append, List.append_nil]
            repeat (first
              | (refine wpQuiet_loadC (by rfl) 76 (.tmp 7) rfl u2 0 (by rfl) _ L.out ?_; simp only [Act.put, List.setIfInBounds_toArray, List.set_cons_zero, List.set_cons_succ])
              | go_big_quiet_step (fail))
            refine wpQuiet_nil ?_
            intro K hK
            go_simp
            go_at_call 34
            refine (look_any wA b [u2, b] t' M cM w8.drew (D8.out.below (Below.drew (Below.refl _ _)))).mono ?_
            rintro e x9 ⟨P9, rfl, N9, hb9⟩
            have bx9 : Below w8.heap.size w8 x9 := (Below.drew (Below.refl _ _)).trans hb9
            replace N9 := Lib.hid N9
            replace bx9 := Lib.hid bx9
            clear hb9
            go_wp2_with fail
            refine hK.out _ _ bx9.out ?_
            clear hK K
            refine WO.seg rfl ?_ bx9.out
            simp only [picks]
            refine wpQuiet_nil ?_
            intro K hK
            go_simp
            go_at_call 35
            refine (is_same (siOf t') P6 P9 x9.heap.size x9 (Nat.le_refl _) (sg8.out.below bx9.out).rows.row N9.out.row).mono ?_
            rintro e y9 ⟨rfl, hb9⟩
            have by9 : Below w8.heap.size w8 y9 := bx9.out.trans (hb9.mono bx9.out.size)
            have D9 := D8.out.below by9
            have sg9 := sg8.out.below by9
            have o9 := range_same o8.out (by9.block u1 hu1w8)
            have hu1y9 : u1 < y9.heap.size := Nat.lt_of_lt_of_le hu1w8 by9.size
            replace by9 := Lib.hid by9
            replace D9 := Lib.hid D9
            replace sg9 := Lib.hid sg9
            replace o9 := Lib.hid o9
            clear hb9 N9 bx9
            go_wp2_with fail
            refine hK.out _ _ by9.out ?_
            clear hK K
            refine WO.end_ ?_
            simp only [picks, pick, List.cons_append, List.nil_append, List.append_nil]
            repeat go_big_quiet_step (fail)
            refine wpQuiet_nil ?_
            clear hC L
            have len6 : (t'.own.set.take t'.n).length = t'.n := List.length_take_of_le (by rw [D9.out.inv.own.set]; exact D9.out.inv.n2)
            have n16 : t'.n ≤ 16 := D9.out.inv.n2
            have u2w0 : u2 < y9.heap.size := sg9.out.lt
            have bw0 : b < y9.heap.size := D9.out.hi b D9.out.aF
            replace len6 := Lib.hid len6
            go_wp2_with (first
              | (go_at_call 30
                 refine (proposal_any b t' M cM y9 D9.out.ag (D9.out.hi b D9.out.aF) n16).mono ?_
                 rintro e w6 ⟨S6, V6, rfl, rS6, rV6, hb6⟩
                 have fd6 := fun W => run_field31s t'.own S6 t'.n V6 t'.n t'.n W
                 have D6 := D9.out.below hb6
                 have sg6 := sg9.out.below hb6
                 have o6 := range_same o9.out (hb6.block u1 hu1y9)
                 have hu1w6 : u1 < w6.heap.size := Nat.lt_of_lt_of_le hu1y9 hb6.size
                 have z6 := hb6.size
                 try clear k0
                 replace D6 := Lib.hid D6
                 replace sg6 := Lib.hid sg6
                 replace o6 := Lib.hid o6
                 replace rS6 := Lib.hid rS6
                 clear hb6 rV6)
              | fail)
            go_wp2_with (first
              | (go_at_call 34
                 refine (look_any wA b [u2, b] t' M cM w6 D6.out).mono ?_
                 rintro e w7 ⟨P7, rfl, N7, hb7⟩
                 have D7 := D6.out.below hb7
                 have sg7 := sg6.out.below hb7
                 have o7 := range_same o6.out (hb7.block u1 hu1w6)
                 have rS7 := rS6.out.below hb7
                 have hu1w7 : u1 < w7.heap.size := Nat.lt_of_lt_of_le hu1w6 hb7.size
                 clear fd6 hb7
                 replace D7 := Lib.hid D7
                 replace sg7 := Lib.hid sg7
                 replace o7 := Lib.hid o7
                 replace rS7 := Lib.hid rS7
                 replace N7 := Lib.hid N7)
              | (refine wpList_store76 rfl (.tmp 7) (.tmp 154) rfl u2 0 (by rfl) (siOf t').p P7.S (siOf t').ls.length P7.cS P7.V (siOf t').lv.length P7.cV (siOf t').v P7.A (siOf t').ms.length P7.cA (siOf t').u P7.B (siOf t').us.length P7.cB P7.T (siOf t').ts.length P7.cT (siOf t').ok (siOf t').opn (by rfl) sg7.out.there ?_
                 intro w8 hw8
                 have g8 : w7.grownBy w8 (some u2) := by rw [hw8.out]; exact grown_sets _ _ _ _
                 have sg8 : SgV w8 u2 [u2, b] (siOf t') P7 := by rw [hw8.out]; exact sg7.out.put N7.out (fun y hy => by rcases List.mem_cons.1 hy with e | e; omega; have := List.mem_singleton.1 e; omega)
                 have D8 := D7.out.spoil (List.mem_cons_self ..) (fun e => hbu2.out e.symm) g8
                 have o8 := range_same o7.out (g8.block u1 hu1w7 (by intro e; injection e with e; exact hu12.out e))
                 have rS8 := rS7.out.grown g8 u2w0
                 have hu1w8 : u1 < w8.heap.size := Nat.lt_of_lt_of_le hu1w7 g8.size
                 clear g8 hw8
                 replace sg8 := Lib.hid sg8
                 replace D8 := Lib.hid D8
                 replace o8 := Lib.hid o8
                 replace rS8 := Lib.hid rS8)
              | fail)
            go_wp2_with (first
              | (go_at_call 37
                 refine (estimate_any' b t' M cM S6 t'.n w8.heap.size t'.n (t'.own.set.take t'.n) w8 len6.out D8.out.ag (D8.out.hi b D8.out.aF) D8.out.inv (Nat.le_refl _) rS8.out.row (by omega)).mono ?_
                 rintro e w9 ⟨rfl, hl9⟩
                 rw [estimate_own D8.out.inv D8.out.rinv] at hl9 ⊢
                 have D9 := D8.out.prog hl9 rfl D8.out.inv D8.out.rinv
                 have sg9 := sg8.out.grown hl9.grown (List.mem_cons_of_mem _ (List.mem_cons_self ..)) hbu2.out
                 have o9 := range_same o8.out (hl9.grown.block u1 hu1w8 (by intro e; injection e with e; exact hub.out e))
                 have hu1w9 : u1 < w9.heap.size := Nat.lt_of_lt_of_le hu1w8 hl9.grown.size
                 clear hl9
                 replace D9 := Lib.hid D9
                 replace sg9 := Lib.hid sg9
                 replace o9 := Lib.hid o9)
              | fail)
            have hC : ∀ x' : Prop, (∀ W, Below w9.heap.size w9 W → x') ↔ x' := fun x' => ⟨fun f => f _ (Below.refl _ _), fun f _ _ => f⟩
            have L : ∀ W, Below w9.heap.size w9 W → (loadVar 76 ⟨u2, 0, none⟩).run Try.prog W = .ok (.agg (siA (siOf t') P7)) W := fun W hW => (sg9.out.below hW).load
            replace L := Lib.hid L
            refine wp_region_ord [([0, 1, 2, 3, 4, 5, 6, 7], 8), ([], 9)] [10, 11] (fun W => Below w9.heap.size w9 W) rfl (by kernel_rfl) rfl (Below.drew (Below.refl _ _)) ?_
            refine WO.seg rfl ?_ (Below.drew (Below.refl _ _))
            simp only [picks, pick, List.cons_append, List.nil_append, List.append_nil]
            repeat (first
              | (refine wpQuiet_loadC (by rfl) 76 (.tmp 7) rfl u2 0 (by rfl) _ L.out ?_; simp only [Act.put, List.setIfInBounds_toArray, List.set_cons_zero, List.set_cons_succ])
              | go_big_quiet_step (fail))
            refine wpQuiet_nil ?_
            intro K hK
            go_simp
            go_at_call 34
            refine (look_any wA b [u2, b] t' M cM w9.drew (D9.out.below (Below.drew (Below.refl _ _)))).mono ?_
            rintro e x10 ⟨P10, rfl, N10, hb10⟩
            have bx10 : Below w9.heap.size w9 x10 := (Below.drew (Below.refl _ _)).trans hb10
            replace N10 := Lib.hid N10
            replace bx10 := Lib.hid bx10
            clear hb10
            go_wp2_with fail
            refine hK.out _ _ bx10.out ?_
            clear hK K
            refine WO.seg rfl ?_ bx10.out
            simp only [picks]
            refine wpQuiet_nil ?_
            intro K hK
            go_simp
            go_at_call 35
            refine (is_same (siOf t') P7 P10 x10.heap.size x10 (Nat.le_refl _) (sg9.out.below bx10.out).rows.row N10.out.row).mono ?_
            rintro e y10 ⟨rfl, hb10⟩
            have by10 : Below w9.heap.size w9 y10 := bx10.out.trans (hb10.mono bx10.out.size)
            have D10 := D9.out.below by10
            have sg10 := sg9.out.below by10
            have o10 := range_same o9.out (by10.block u1 hu1w9)
            have hu1y10 : u1 < y10.heap.size := Nat.lt_of_lt_of_le hu1w9 by10.size
            replace by10 := Lib.hid by10
            replace D10 := Lib.hid D10
            replace sg10 := Lib.hid sg10
            replace o10 := Lib.hid o10
            clear hb10 N10 bx10
            go_wp2_with fail
            refine hK.out _ _ by10.out ?_
            clear hK K
            refine WO.end_ ?_
            simp only [picks, pick, List.cons_append, List.nil_append, List.append_nil]
            repeat go_big_quiet_step (fail)
            refine wpQuiet_nil ?_
            clear hC L
            go_wp2
            go_roundw
            case rel => go_light; exact ⟨q + 1, t', M, cM, by go_num, by omega, D10.out.fewer (fun x hx => List.mem_cons_of_mem _ hx) (List.mem_cons_self ..)⟩
            case measure => go_light; simp [intOf]; omega
          · have b2 : (y.o.k == 2) = false := by simp [h2]
            replace h2 := Lib.hid h2
            go_wp2_with (first
              | (refine wpList_loadR rfl 71 (.tmp 48) rfl g (off + q * 13) (by rfl) _ (by exact hld.out) ?_)
              | (refine wpList_store71 rfl (.tmp 6) (.tmp 49) rfl wr.heap.size 0 (by rfl) y.o y.P (by rfl) (there_new wr opZ 71) ?_
                 intro w1 hw1
                 have b1 : Below wr.heap.size wr w1 := by rw [hw1.out]; exact below_sets ((Below.refl _ _).alloc (Nat.le_refl _) _) (Nat.le_refl _) _ _ (by simp)
                 have o1 : w1.rangeAt wr.heap.size 0 (opA y.o y.P).toList := by rw [hw1.out]; exact World.rangeAt_setCells_same _ _ _ _ (there_new wr opZ 71)
                 have z1 : w1.heap.size = wr.heap.size + 1 := by rw [hw1.out, size_sets]; simp
                 obtain ⟨u1, hu1⟩ : ∃ u, u = wr.heap.size := ⟨_, rfl⟩
                 have D1 := D.out.below b1
                 rw [← hu1] at o1 ⊢
                 replace o1 := Lib.hid o1
                 replace D1 := Lib.hid D1
                 replace hu1 := Lib.hid hu1
                 replace z1 := Lib.hid z1
                 clear c4 b1 hw1)
              | fail)
            go_wp2_with (first
              | (go_at_call 34
                 refine (look_any wA b [b] t M cM w1 D1.out).mono ?_
                 rintro e w2 ⟨P2, rfl, N2, hb2⟩
                 have D2 := D1.out.below hb2
                 have z2 := hb2.size
                 have hu1' := hu1.out
                 have z1' := z1.out
                 have o2 := range_same o1.out (hb2.block u1 (by omega))
                 clear hu1' z1'
                 replace o2 := Lib.hid o2
                 replace N2 := Lib.hid N2
                 replace D2 := Lib.hid D2
                 clear hb2)
              | (refine wpList_store76 rfl (.tmp 7) (.tmp 51) rfl w2.heap.size 0 (by rfl) (siOf t).p P2.S (siOf t).ls.length P2.cS P2.V (siOf t).lv.length P2.cV (siOf t).v P2.A (siOf t).ms.length P2.cA (siOf t).u P2.B (siOf t).us.length P2.cB P2.T (siOf t).ts.length P2.cT (siOf t).ok (siOf t).opn (by rfl) (there_new w2 siZ 76) ?_
                 intro w3 hw3
                 obtain ⟨u2, hu2⟩ : ∃ u, u = w2.heap.size := ⟨_, rfl⟩
                 have hu1' := hu1.out
                 have z1' := z1.out
                 have b23 : Below w2.heap.size w2 w3 := by rw [hw3.out]; exact below_sets ((Below.refl _ _).alloc (Nat.le_refl _) _) (Nat.le_refl _) _ _ (by simp)
                 have z3 : w3.heap.size = w2.heap.size + 1 := by rw [hw3.out, size_sets]; simp
                 have sg3 : SgV w3 u2 [u2, b] (siOf t) P2 := by rw [hu2, hw3.out]; exact SgV.new N2.out (by omega) (by omega)
                 have D3 : Solo wA b [u2, b] t M cM w3 := D2.out.add b23 (g := u2) (by omega) (by omega)
                 have o3 := range_same o2.out (b23.block u1 (by omega))
                 have k0 : (loadVar 3 ⟨u1, 0, none⟩).run Try.prog w3 = .ok (.int .i64 y.o.k) w3 := load3 (o3 0 _ rfl)
                 replace k0 := Lib.hid k0
                 have hbu2 : b ≠ u2 := by omega
                 have hu12 : u1 ≠ u2 := by omega
                 have hub : u1 ≠ b := by omega
                 have hu1z : u1 < w3.heap.size := by omega
                 have hu2z : u2 < w3.heap.size := by omega
                 rw [← hu2]
                 replace hu12 := Lib.hid hu12
                 replace hub := Lib.hid hub
                 replace hbu2 := Lib.hid hbu2
                 replace sg3 := Lib.hid sg3
                 replace D3 := Lib.hid D3
                 replace o3 := Lib.hid o3
                 replace hu2 := Lib.hid hu2
                 replace z3 := Lib.hid z3
                 clear hu1' z1' b23 hw3 N2 D2 D1 o1 o2)
              | (refine wpList_loadR rfl 3 (.tmp 52) rfl u1 0 (by rfl) _ (by exact k0.out) ?_)
              | (refine wpList_loadR rfl 71 (.tmp 6) rfl u1 0 (by rfl) _ (by exact load71z o3.out) ?_)
              | fail)
            go_wp2_with (first
              | (go_at_call 32
                 refine (call_any wA b [u2, b] t M cM y.o y.P w3 D3.out (hox.out _ (Below.refl _ _)).1 h5.out).mono ?_
                 rintro e w4 ⟨rfl, hl4⟩
                 rw [he.out]
                 rw [← ht'.out] at hl4
                 have D4 := D3.out.prog hl4 hme.out hri.out.1 hri.out.2
                 have sg4 := sg3.out.grown hl4.grown (List.mem_cons_of_mem _ (List.mem_cons_self ..)) hbu2.out
                 have o4 := range_same o3.out (hl4.grown.block u1 hu1z (by intro e; injection e with e; exact hub.out e))
                 have hu1w4 : u1 < w4.heap.size := Nat.lt_of_lt_of_le hu1z hl4.grown.size
                 replace D4 := Lib.hid D4
                 replace sg4 := Lib.hid sg4
                 replace o4 := Lib.hid o4
                 clear k0 hl4)
              | fail)
            refine wp_region_quiet_lit (by kernel_rfl) (by kernel_rfl) ?_
            repeat (first | go_big_quiet_skip | go_big_quiet_step (fail))
            refine wpQuiet_nil ?_
            rintro w5 ⟨n5, hn5⟩
            have b45 : Below w4.heap.size w4 w5 := by rw [hn5]; exact below_drewN (Below.refl _ _) _
            have D5 := D4.out.below b45
            have sg5 := sg4.out.below b45
            have o5 := range_same o4.out (b45.block u1 hu1w4)
            have hu1w5 : u1 < w5.heap.size := Nat.lt_of_lt_of_le hu1w4 b45.size
            have k0 : w5.cell? ⟨u1, 0, none⟩ = some (.int .i64 y.o.k) := o5 0 _ rfl
            clear hn5 n5 b45
            replace D5 := Lib.hid D5
            replace sg5 := Lib.hid sg5
            replace o5 := Lib.hid o5
            have len6 : (t'.own.set.take t'.n).length = t'.n := List.length_take_of_le (by rw [D5.out.inv.own.set]; exact D5.out.inv.n2)
            have n16 : t'.n ≤ 16 := D5.out.inv.n2
            have u2w0 : u2 < w5.heap.size := sg5.out.lt
            have bw0 : b < w5.heap.size := D5.out.hi b D5.out.aF
            replace len6 := Lib.hid len6
            go_wp2_with (first
              | (go_at_call 30
                 refine (proposal_any b t' M cM w5 D5.out.ag (D5.out.hi b D5.out.aF) n16).mono ?_
                 rintro e w6 ⟨S6, V6, rfl, rS6, rV6, hb6⟩
                 have fd6 := fun W => run_field31s t'.own S6 t'.n V6 t'.n t'.n W
                 have D6 := D5.out.below hb6
                 have sg6 := sg5.out.below hb6
                 have o6 := range_same o5.out (hb6.block u1 hu1w5)
                 have hu1w6 : u1 < w6.heap.size := Nat.lt_of_lt_of_le hu1w5 hb6.size
                 have z6 := hb6.size
                 try clear k0
                 replace D6 := Lib.hid D6
                 replace sg6 := Lib.hid sg6
                 replace o6 := Lib.hid o6
                 replace rS6 := Lib.hid rS6
                 clear hb6 rV6)
              | fail)
            go_wp2_with (first
              | (go_at_call 34
                 refine (look_any wA b [u2, b] t' M cM w6 D6.out).mono ?_
                 rintro e w7 ⟨P7, rfl, N7, hb7⟩
                 have D7 := D6.out.below hb7
                 have sg7 := sg6.out.below hb7
                 have o7 := range_same o6.out (hb7.block u1 hu1w6)
                 have rS7 := rS6.out.below hb7
                 have hu1w7 : u1 < w7.heap.size := Nat.lt_of_lt_of_le hu1w6 hb7.size
                 clear fd6 hb7
                 replace D7 := Lib.hid D7
                 replace sg7 := Lib.hid sg7
                 replace o7 := Lib.hid o7
                 replace rS7 := Lib.hid rS7
                 replace N7 := Lib.hid N7)
              | (refine wpList_store76 rfl (.tmp 7) (.tmp 154) rfl u2 0 (by rfl) (siOf t').p P7.S (siOf t').ls.length P7.cS P7.V (siOf t').lv.length P7.cV (siOf t').v P7.A (siOf t').ms.length P7.cA (siOf t').u P7.B (siOf t').us.length P7.cB P7.T (siOf t').ts.length P7.cT (siOf t').ok (siOf t').opn (by rfl) sg7.out.there ?_
                 intro w8 hw8
                 have g8 : w7.grownBy w8 (some u2) := by rw [hw8.out]; exact grown_sets _ _ _ _
                 have sg8 : SgV w8 u2 [u2, b] (siOf t') P7 := by rw [hw8.out]; exact sg7.out.put N7.out (fun y hy => by rcases List.mem_cons.1 hy with e | e; omega; have := List.mem_singleton.1 e; omega)
                 have D8 := D7.out.spoil (List.mem_cons_self ..) (fun e => hbu2.out e.symm) g8
                 have o8 := range_same o7.out (g8.block u1 hu1w7 (by intro e; injection e with e; exact hu12.out e))
                 have rS8 := rS7.out.grown g8 u2w0
                 have hu1w8 : u1 < w8.heap.size := Nat.lt_of_lt_of_le hu1w7 g8.size
                 clear g8 hw8
                 replace sg8 := Lib.hid sg8
                 replace D8 := Lib.hid D8
                 replace o8 := Lib.hid o8
                 replace rS8 := Lib.hid rS8)
              | fail)
            go_wp2_with (first
              | (go_at_call 37
                 refine (estimate_any' b t' M cM S6 t'.n w8.heap.size t'.n (t'.own.set.take t'.n) w8 len6.out D8.out.ag (D8.out.hi b D8.out.aF) D8.out.inv (Nat.le_refl _) rS8.out.row (by omega)).mono ?_
                 rintro e w9 ⟨rfl, hl9⟩
                 rw [estimate_own D8.out.inv D8.out.rinv] at hl9 ⊢
                 have D9 := D8.out.prog hl9 rfl D8.out.inv D8.out.rinv
                 have sg9 := sg8.out.grown hl9.grown (List.mem_cons_of_mem _ (List.mem_cons_self ..)) hbu2.out
                 have o9 := range_same o8.out (hl9.grown.block u1 hu1w8 (by intro e; injection e with e; exact hub.out e))
                 have hu1w9 : u1 < w9.heap.size := Nat.lt_of_lt_of_le hu1w8 hl9.grown.size
                 clear hl9
                 replace D9 := Lib.hid D9
                 replace sg9 := Lib.hid sg9
                 replace o9 := Lib.hid o9)
              | fail)
            have hC : ∀ x' : Prop, (∀ W, Below w9.heap.size w9 W → x') ↔ x' := fun x' => ⟨fun f => f _ (Below.refl _ _), fun f _ _ => f⟩
            have L : ∀ W, Below w9.heap.size w9 W → (loadVar 76 ⟨u2, 0, none⟩).run Try.prog W = .ok (.agg (siA (siOf t') P7)) W := fun W hW => (sg9.out.below hW).load
            replace L := Lib.hid L
            refine wp_region_ord [([0, 1, 2, 3, 4, 5, 6, 7], 8), ([], 9)] [10, 11] (fun W => Below w9.heap.size w9 W) rfl (by kernel_rfl) rfl (Below.drew (Below.refl _ _)) ?_
            refine WO.seg rfl ?_ (Below.drew (Below.refl _ _))
            simp only [picks, pick, List.cons_append, List.nil_append, List.append_nil]
            repeat (first
              | (refine wpQuiet_loadC (by rfl) 76 (.tmp 7) rfl u2 0 (by rfl) _ L.out ?_; simp only [Act.put, List.setIfInBounds_toArray, List.set_cons_zero, List.set_cons_succ])
              | go_big_quiet_step (fail))
            refine wpQuiet_nil ?_
            intro K hK
            go_simp
            go_at_call 34
            refine (look_any wA b [u2, b] t' M cM w9.drew (D9.out.below (Below.drew (Below.refl _ _)))).mono ?_
            rintro e x10 ⟨P10, rfl, N10, hb10⟩
            have bx10 : Below w9.heap.size w9 x10 := (Below.drew (Below.refl _ _)).trans hb10
            replace N10 := Lib.hid N10
            replace bx10 := Lib.hid bx10
            clear hb10
            go_wp2_with fail
            refine hK.out _ _ bx10.out ?_
            clear hK K
            refine WO.seg rfl ?_ bx10.out
            simp only [picks]
            refine wpQuiet_nil ?_
            intro K hK
            go_simp
            go_at_call 35
            refine (is_same (siOf t') P7 P10 x10.heap.size x10 (Nat.le_refl _) (sg9.out.below bx10.out).rows.row N10.out.row).mono ?_
            rintro e y10 ⟨rfl, hb10⟩
            have by10 : Below w9.heap.size w9 y10 := bx10.out.trans (hb10.mono bx10.out.size)
            have D10 := D9.out.below by10
            have sg10 := sg9.out.below by10
            have o10 := range_same o9.out (by10.block u1 hu1w9)
            have hu1y10 : u1 < y10.heap.size := Nat.lt_of_lt_of_le hu1w9 by10.size
            replace by10 := Lib.hid by10
            replace D10 := Lib.hid D10
            replace sg10 := Lib.hid sg10
            replace o10 := Lib.hid o10
            clear hb10 N10 bx10
            go_wp2_with fail
            refine hK.out _ _ by10.out ?_
            clear hK K
            refine WO.end_ ?_
            simp only [picks, pick, List.cons_append, List.nil_append, List.append_nil]
            repeat go_big_quiet_step (fail)
            refine wpQuiet_nil ?_
            clear hC L
            go_wp2
            go_roundw
            case rel => go_light; exact ⟨q + 1, t', M, cM, by go_num, by omega, D10.out.fewer (fun x hx => List.mem_cons_of_mem _ hx) (List.mem_cons_self ..)⟩
            case measure => go_light; simp [intOf]; omega
        · have be1 : ((callS y.o t).1 == 0) = false := by simp [he]
          have be2 : ((callS y.o t).1 != 0) = true := by simp [he]
          have hst : (callS y.o t).2 = t := callS_fail he
          replace hst := Lib.hid hst
          replace he := Lib.hid he
          replace h5 := Lib.hid h5
          go_wp2_with (first
            | (refine wpList_loadR rfl 71 (.tmp 48) rfl g (off + q * 13) (by rfl) _ (by exact hld.out) ?_)
            | (refine wpList_store71 rfl (.tmp 6) (.tmp 49) rfl wr.heap.size 0 (by rfl) y.o y.P (by rfl) (there_new wr opZ 71) ?_
               intro w1 hw1
               have b1 : Below wr.heap.size wr w1 := by rw [hw1.out]; exact below_sets ((Below.refl _ _).alloc (Nat.le_refl _) _) (Nat.le_refl _) _ _ (by simp)
               have o1 : w1.rangeAt wr.heap.size 0 (opA y.o y.P).toList := by rw [hw1.out]; exact World.rangeAt_setCells_same _ _ _ _ (there_new wr opZ 71)
               have z1 : w1.heap.size = wr.heap.size + 1 := by rw [hw1.out, size_sets]; simp
               obtain ⟨u1, hu1⟩ : ∃ u, u = wr.heap.size := ⟨_, rfl⟩
               have D1 := D.out.below b1
               rw [← hu1] at o1 ⊢
               replace o1 := Lib.hid o1
               replace D1 := Lib.hid D1
               replace hu1 := Lib.hid hu1
               replace z1 := Lib.hid z1
               clear c4 b1 hw1)
            | fail)
          go_wp2_with (first
            | (go_at_call 34
               refine (look_any wA b [b] t M cM w1 D1.out).mono ?_
               rintro e w2 ⟨P2, rfl, N2, hb2⟩
               have D2 := D1.out.below hb2
               have z2 := hb2.size
               have hu1' := hu1.out
               have z1' := z1.out
               have o2 := range_same o1.out (hb2.block u1 (by omega))
               clear hu1' z1'
               replace o2 := Lib.hid o2
               replace N2 := Lib.hid N2
               replace D2 := Lib.hid D2
               clear hb2)
            | (refine wpList_store76 rfl (.tmp 7) (.tmp 51) rfl w2.heap.size 0 (by rfl) (siOf t).p P2.S (siOf t).ls.length P2.cS P2.V (siOf t).lv.length P2.cV (siOf t).v P2.A (siOf t).ms.length P2.cA (siOf t).u P2.B (siOf t).us.length P2.cB P2.T (siOf t).ts.length P2.cT (siOf t).ok (siOf t).opn (by rfl) (there_new w2 siZ 76) ?_
               intro w3 hw3
               obtain ⟨u2, hu2⟩ : ∃ u, u = w2.heap.size := ⟨_, rfl⟩
               have hu1' := hu1.out
               have z1' := z1.out
               have b23 : Below w2.heap.size w2 w3 := by rw [hw3.out]; exact below_sets ((Below.refl _ _).alloc (Nat.le_refl _) _) (Nat.le_refl _) _ _ (by simp)
               have z3 : w3.heap.size = w2.heap.size + 1 := by rw [hw3.out, size_sets]; simp
               have sg3 : SgV w3 u2 [u2, b] (siOf t) P2 := by rw [hu2, hw3.out]; exact SgV.new N2.out (by omega) (by omega)
               have D3 : Solo wA b [u2, b] t M cM w3 := D2.out.add b23 (g := u2) (by omega) (by omega)
               have o3 := range_same o2.out (b23.block u1 (by omega))
               have k0 : (loadVar 3 ⟨u1, 0, none⟩).run Try.prog w3 = .ok (.int .i64 y.o.k) w3 := load3 (o3 0 _ rfl)
               replace k0 := Lib.hid k0
               have hbu2 : b ≠ u2 := by omega
               have hu12 : u1 ≠ u2 := by omega
               have hub : u1 ≠ b := by omega
               have hu1z : u1 < w3.heap.size := by omega
               have hu2z : u2 < w3.heap.size := by omega
               rw [← hu2]
               replace hu12 := Lib.hid hu12
               replace hub := Lib.hid hub
               replace hbu2 := Lib.hid hbu2
               replace sg3 := Lib.hid sg3
               replace D3 := Lib.hid D3
               replace o3 := Lib.hid o3
               replace hu2 := Lib.hid hu2
               replace z3 := Lib.hid z3
               clear hu1' z1' b23 hw3 N2 D2 D1 o1 o2)
            | (refine wpList_loadR rfl 3 (.tmp 52) rfl u1 0 (by rfl) _ (by exact k0.out) ?_)
            | (refine wpList_loadR rfl 71 (.tmp 6) rfl u1 0 (by rfl) _ (by exact load71z o3.out) ?_)
            | fail)
          go_wp2_with (first
            | (go_at_call 32
               refine (call_any wA b [u2, b] t M cM y.o y.P w3 D3.out (hox.out _ (Below.refl _ _)).1 h5.out).mono ?_
               rintro e w4 ⟨rfl, hl4⟩
               rw [hst.out] at hl4
               have D4 := D3.out.prog hl4 rfl D3.out.inv D3.out.rinv
               have sg4 := sg3.out.grown hl4.grown (List.mem_cons_of_mem _ (List.mem_cons_self ..)) hbu2.out
               have o4 := range_same o3.out (hl4.grown.block u1 hu1z (by intro e; injection e with e; exact hub.out e))
               have hu1w4 : u1 < w4.heap.size := Nat.lt_of_lt_of_le hu1z hl4.grown.size
               replace D4 := Lib.hid D4
               replace sg4 := Lib.hid sg4
               replace o4 := Lib.hid o4
               clear k0 hl4)
            | fail)
          have hC : ∀ x' : Prop, (∀ W, Below w4.heap.size w4 W → x') ↔ x' := fun x' => ⟨fun f => f _ (Below.refl _ _), fun f _ _ => f⟩
          have L : ∀ W, Below w4.heap.size w4 W → (loadVar 76 ⟨u2, 0, none⟩).run Try.prog W = .ok (.agg (siA (siOf t) P2)) W := fun W hW => (sg4.out.below hW).load
          replace L := Lib.hid L
          refine wp_region_ord [([0, 1, 2, 3, 4], 5), ([], 6)] [7, 8] (fun W => Below w4.heap.size w4 W) rfl (by kernel_rfl) rfl (Below.drew (Below.refl _ _)) ?_
          refine WO.seg rfl ?_ (Below.drew (Below.refl _ _))
          simp only [picks, pick, List.cons_append, List.nil_append, List.append_nil]
          repeat (first
            | (refine wpQuiet_loadC (by rfl) 76 (.tmp 7) rfl u2 0 (by rfl) _ L.out ?_; simp only [Act.put, List.setIfInBounds_toArray, List.set_cons_zero, List.set_cons_succ])
            | go_big_quiet_step (fail))
          refine wpQuiet_nil ?_
          intro K hK
          go_simp
          go_at_call 34
          refine (look_any wA b [u2, b] t M cM w4.drew (D4.out.below (Below.drew (Below.refl _ _)))).mono ?_
          rintro e x5 ⟨P5, rfl, N5, hb5⟩
          have bx5 : Below w4.heap.size w4 x5 := (Below.drew (Below.refl _ _)).trans hb5
          replace N5 := Lib.hid N5
          replace bx5 := Lib.hid bx5
          clear hb5
          go_wp2_with fail
          refine hK.out _ _ bx5.out ?_
          clear hK K
          refine WO.seg rfl ?_ bx5.out
          simp only [picks]
          refine wpQuiet_nil ?_
          intro K hK
          go_simp
          go_at_call 35
          refine (is_same (siOf t) P2 P5 x5.heap.size x5 (Nat.le_refl _) (sg4.out.below bx5.out).rows.row N5.out.row).mono ?_
          rintro e y5 ⟨rfl, hb5⟩
          have by5 : Below w4.heap.size w4 y5 := bx5.out.trans (hb5.mono bx5.out.size)
          have D5 := D4.out.below by5
          have sg5 := sg4.out.below by5
          have o5 := range_same o4.out (by5.block u1 hu1w4)
          have hu1y5 : u1 < y5.heap.size := Nat.lt_of_lt_of_le hu1w4 by5.size
          replace by5 := Lib.hid by5
          replace D5 := Lib.hid D5
          replace sg5 := Lib.hid sg5
          replace o5 := Lib.hid o5
          clear hb5 N5 bx5
          go_wp2_with fail
          refine hK.out _ _ by5.out ?_
          clear hK K
          refine WO.end_ ?_
          simp only [picks, pick, List.cons_append, List.nil_append, List.append_nil]
          repeat go_big_quiet_step (fail)
          refine wpQuiet_nil ?_
          clear hC L
          have len6 : (t.own.set.take t.n).length = t.n := List.length_take_of_le (by rw [D5.out.inv.own.set]; exact D5.out.inv.n2)
          have n16 : t.n ≤ 16 := D5.out.inv.n2
          have u2w0 : u2 < y5.heap.size := sg5.out.lt
          have bw0 : b < y5.heap.size := D5.out.hi b D5.out.aF
          replace len6 := Lib.hid len6
          go_wp2_with (first
            | (go_at_call 30
               refine (proposal_any b t M cM y5 D5.out.ag (D5.out.hi b D5.out.aF) n16).mono ?_
               rintro e w6 ⟨S6, V6, rfl, rS6, rV6, hb6⟩
               have fd6 := fun W => run_field31s t.own S6 t.n V6 t.n t.n W
               have D6 := D5.out.below hb6
               have sg6 := sg5.out.below hb6
               have o6 := range_same o5.out (hb6.block u1 hu1y5)
               have hu1w6 : u1 < w6.heap.size := Nat.lt_of_lt_of_le hu1y5 hb6.size
               have z6 := hb6.size
               try clear k0
               replace D6 := Lib.hid D6
               replace sg6 := Lib.hid sg6
               replace o6 := Lib.hid o6
               replace rS6 := Lib.hid rS6
               clear hb6 rV6)
            | fail)
          go_wp2_with (first
            | (go_at_call 34
               refine (look_any wA b [u2, b] t M cM w6 D6.out).mono ?_
               rintro e w7 ⟨P7, rfl, N7, hb7⟩
               have D7 := D6.out.below hb7
               have sg7 := sg6.out.below hb7
               have o7 := range_same o6.out (hb7.block u1 hu1w6)
               have rS7 := rS6.out.below hb7
               have hu1w7 : u1 < w7.heap.size := Nat.lt_of_lt_of_le hu1w6 hb7.size
               clear fd6 hb7
               replace D7 := Lib.hid D7
               replace sg7 := Lib.hid sg7
               replace o7 := Lib.hid o7
               replace rS7 := Lib.hid rS7
               replace N7 := Lib.hid N7)
            | (refine wpList_store76 rfl (.tmp 7) (.tmp 154) rfl u2 0 (by rfl) (siOf t).p P7.S (siOf t).ls.length P7.cS P7.V (siOf t).lv.length P7.cV (siOf t).v P7.A (siOf t).ms.length P7.cA (siOf t).u P7.B (siOf t).us.length P7.cB P7.T (siOf t).ts.length P7.cT (siOf t).ok (siOf t).opn (by rfl) sg7.out.there ?_
               intro w8 hw8
               have g8 : w7.grownBy w8 (some u2) := by rw [hw8.out]; exact grown_sets _ _ _ _
               have sg8 : SgV w8 u2 [u2, b] (siOf t) P7 := by rw [hw8.out]; exact sg7.out.put N7.out (fun y hy => by rcases List.mem_cons.1 hy with e | e; omega; have := List.mem_singleton.1 e; omega)
               have D8 := D7.out.spoil (List.mem_cons_self ..) (fun e => hbu2.out e.symm) g8
               have o8 := range_same o7.out (g8.block u1 hu1w7 (by intro e; injection e with e; exact hu12.out e))
               have rS8 := rS7.out.grown g8 u2w0
               have hu1w8 : u1 < w8.heap.size := Nat.lt_of_lt_of_le hu1w7 g8.size
               clear g8 hw8
               replace sg8 := Lib.hid sg8
               replace D8 := Lib.hid D8
               replace o8 := Lib.hid o8
               replace rS8 := Lib.hid rS8)
            | fail)
          go_wp2_with (first
            | (go_at_call 37
               refine (estimate_any' b t M cM S6 t.n w8.heap.size t.n (t.own.set.take t.n) w8 len6.out D8.out.ag (D8.out.hi b D8.out.aF) D8.out.inv (Nat.le_refl _) rS8.out.row (by omega)).mono ?_
               rintro e w9 ⟨rfl, hl9⟩
               rw [estimate_own D8.out.inv D8.out.rinv] at hl9 ⊢
               have D9 := D8.out.prog hl9 rfl D8.out.inv D8.out.rinv
               have sg9 := sg8.out.grown hl9.grown (List.mem_cons_of_mem _ (List.mem_cons_self ..)) hbu2.out
               have o9 := range_same o8.out (hl9.grown.block u1 hu1w8 (by intro e; injection e with e; exact hub.out e))
               have hu1w9 : u1 < w9.heap.size := Nat.lt_of_lt_of_le hu1w8 hl9.grown.size
               clear hl9
               replace D9 := Lib.hid D9
               replace sg9 := Lib.hid sg9
               replace o9 := Lib.hid o9)
            | fail)
          have hC : ∀ x' : Prop, (∀ W, Below w9.heap.size w9 W → x') ↔ x' := fun x' => ⟨fun f => f _ (Below.refl _ _), fun f _ _ => f⟩
          have L : ∀ W, Below w9.heap.size w9 W → (loadVar 76 ⟨u2, 0, none⟩).run Try.prog W = .ok (.agg (siA (siOf t) P7)) W := fun W hW => (sg9.out.below hW).load
          replace L := Lib.hid L
          refine wp_region_ord [([0, 1, 2, 3, 4, 5, 6, 7], 8), ([], 9)] [10, 11] (fun W => Below w9.heap.size w9 W) rfl (by kernel_rfl) rfl (Below.drew (Below.refl _ _)) ?_
          refine WO.seg rfl ?_ (Below.drew (Below.refl _ _))
          simp only [picks, pick, List.cons_append, List.nil_append, List.append_nil]
          repeat (first
            | (refine wpQuiet_loadC (by rfl) 76 (.tmp 7) rfl u2 0 (by rfl) _ L.out ?_; simp only [Act.put, List.setIfInBounds_toArray, List.set_cons_zero, List.set_cons_succ])
            | go_big_quiet_step (fail))
          refine wpQuiet_nil ?_
          intro K hK
          go_simp
          go_at_call 34
          refine (look_any wA b [u2, b] t M cM w9.drew (D9.out.below (Below.drew (Below.refl _ _)))).mono ?_
          rintro e x10 ⟨P10, rfl, N10, hb10⟩
          have bx10 : Below w9.heap.size w9 x10 := (Below.drew (Below.refl _ _)).trans hb10
          replace N10 := Lib.hid N10
          replace bx10 := Lib.hid bx10
          clear hb10
          go_wp2_with fail
          refine hK.out _ _ bx10.out ?_
          clear hK K
          refine WO.seg rfl ?_ bx10.out
          simp only [picks]
          refine wpQuiet_nil ?_
          intro K hK
          go_simp
          go_at_call 35
          refine (is_same (siOf t) P7 P10 x10.heap.size x10 (Nat.le_refl _) (sg9.out.below bx10.out).rows.row N10.out.row).mono ?_
          rintro e y10 ⟨rfl, hb10⟩
          have by10 : Below w9.heap.size w9 y10 := bx10.out.trans (hb10.mono bx10.out.size)
          have D10 := D9.out.below by10
          have sg10 := sg9.out.below by10
          have o10 := range_same o9.out (by10.block u1 hu1w9)
          have hu1y10 : u1 < y10.heap.size := Nat.lt_of_lt_of_le hu1w9 by10.size
          replace by10 := Lib.hid by10
          replace D10 := Lib.hid D10
          replace sg10 := Lib.hid sg10
          replace o10 := Lib.hid o10
          clear hb10 N10 bx10
          go_wp2_with fail
          refine hK.out _ _ by10.out ?_
          clear hK K
          refine WO.end_ ?_
          simp only [picks, pick, List.cons_append, List.nil_append, List.append_nil]
          repeat go_big_quiet_step (fail)
          refine wpQuiet_nil ?_
          clear hC L
          go_wp2
          go_roundw
          case rel => go_light; exact ⟨q + 1, t, M, cM, by go_num, by omega, D10.out.fewer (fun x hx => List.mem_cons_of_mem _ hx) (List.mem_cons_self ..)⟩
          case measure => go_light; simp [intOf]; omega
    · obtain rfl : q = os.length := by omega
      have hend := hbA.out.trans (D.bel.mono (by omega))
      replace D := Lib.hid D
      go_wp2
      go_ret
      exact ⟨rfl, hend⟩
theorem refuse_any (n s i f : Int) (A : Option Addr) (c N : Nat) (os : List OpX) (w : World) (hN : N ≤ w.heap.size) (hA : OpsAt w N A os) :
    Calls Try.prog 11 #[.agg (caseA n s i f A os.length c)] w fun x w' => x = .returned (.bool true) ∧ Below w.heap.size w w' := by
  cases h : newB n s i f with
  | false => exact refuse_none n s i f A os.length c w (.inl h)
  | true =>
    by_cases hf : f = 4611686018427387904
    · exact refuse_none n s i f A os.length c w (.inr ⟨h, hf⟩)
    · have h' := of_decide_eq_true h
      obtain ⟨n', rfl⟩ := Int.eq_ofNat_of_zero_le (show 0 ≤ n by omega)
      obtain ⟨s', rfl⟩ := Int.eq_ofNat_of_zero_le (show 0 ≤ s by omega)
      exact refuse_some n' s' i f A c N os w h hf hN hA
end Go.Proofs.Ytfbeggdbjpmppaa
