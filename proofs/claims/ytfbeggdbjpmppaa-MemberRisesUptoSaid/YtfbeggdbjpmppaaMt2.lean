/- Ris, joined. -/
import Derived.Test.YtfbeggdbjpmppaaMs1
import Derived.Test.YtfbeggdbjpmppaaMt1
set_option linter.unusedVariables false
set_option linter.unusedSimpArgs false
/- MemberRises, where an agent is made. -/
namespace Go.Proofs.Ytfbeggdbjpmppaa
open Go.RowKit
set_option maxRecDepth 100000 in
set_option maxHeartbeats 40000000 in
theorem rises_some (n s : Nat) (i f : Int) (A : Option Addr) (c N : Nat) (os : List OpX) (w : World) (h : newB n s i f = true) (hf : f ≠ 4611686018427387904) (hN : N ≤ w.heap.size) (hA : OpsAt w N A os) :
    Calls Try.prog 10 #[.agg (caseA n s i f A os.length c)] w fun x w' => x = .returned (.bool true) ∧ Below w.heap.size w w' := by
  obtain ⟨wA, hwA⟩ : ∃ wA, wA = w.alloc (.cells (caseA n s i f A os.length c) 59) := ⟨_, rfl⟩
  have hbA : Below w.heap.size w wA := by rw [hwA]; exact below_box1 _ _ _
  have zA : w.heap.size < wA.heap.size := by rw [hwA]; simp
  have oA : wA.rangeAt w.heap.size 0 (caseA n s i f A os.length c).toList := by rw [hwA]; exact range_new w (caseA n s i f A os.length c) 59
  obtain ⟨v, hv⟩ : ∃ v, v = w.heap.size := ⟨_, rfl⟩
  rw [← hv] at oA
  have c0 : wA.cell? ⟨v, 0, none⟩ = some (.int .i64 n) := oA 0 _ rfl
  have c1 : wA.cell? ⟨v, 1, none⟩ = some (.int .i64 s) := oA 1 _ rfl
  have c2 : wA.cell? ⟨v, 2, none⟩ = some (.int .i64 i) := oA 2 _ rfl
  have c3 : wA.cell? ⟨v, 3, none⟩ = some (.int .i64 f) := oA 3 _ rfl
  have c4 : wA.cell? ⟨v, 4, none⟩ = some (.slice A os.length c) := oA 4 _ rfl
  have opsA : OpsAt wA wA.heap.size A os := hA.up (hbA.mono hN) (by omega)
  have hlen := hA.len
  have hi0 := new_inv h hf
  have hr0 := new_rinv h hf
  have hvz : v < wA.heap.size := by omega
  obtain ⟨hv1, hm1, ht1, he1, hs1⟩ := first_ag h
  obtain ⟨i1, i2, i3, -⟩ := install_yes hs1
  have hris := (install_ris (new_ris h hf) (new_agreed h)).1
  have wr1 : IntKind.i64.wrap (f + 1) = f + 1 := by have := of_decide_eq_true h; rw [IntKind.wrap_i64]; omega
  have hin1 := install_n (newSt n s i f)
  obtain ⟨t1, ht1'⟩ : ∃ t, t = (newSt n s i f).install := ⟨_, rfl⟩
  rw [hv1] at i1
  rw [hm1] at i2
  rw [← ht1'] at i1 i2 hris hin1
  replace hv1 := Lib.hid hv1
  replace hm1 := Lib.hid hm1
  replace ht1 := Lib.hid ht1
  replace he1 := Lib.hid he1
  replace hs1 := Lib.hid hs1
  replace i1 := Lib.hid i1
  replace i2 := Lib.hid i2
  replace i3 := Lib.hid i3
  replace hris := Lib.hid hris
  replace ht1' := Lib.hid ht1'
  replace hin1 := Lib.hid hin1
  replace wr1 := Lib.hid wr1
  replace hi0 := Lib.hid hi0
  replace hr0 := Lib.hid hr0
  replace hbA := Lib.hid hbA
  replace oA := Lib.hid oA
  replace hwA := Lib.hid hwA
  replace hv := Lib.hid hv
  replace opsA := Lib.hid opsA
  replace h := Lib.hid h
  replace hf := Lib.hid hf
  clear hA
  go_enter Try.func10, Try.ntmps10
  go_wp2_with fail
  rw [← hwA.out, ← hv.out]
  go_wp2_with (first
    | (go_at_call 26
       refine (begun_yes n s i f A os.length c wA h.out hf.out).mono ?_
       rintro e w1 ⟨b, rfl, ag1, hb1, lo1⟩
       have D1 : Solo wA b [b] (newSt n s i f) none 0 w1 := by
         refine ⟨ag1, rowF_nil, List.mem_cons_self .., fun x hx => ?_, fun x hx => ?_, hi0.out, hr0.out, hb1⟩
         · have := List.mem_singleton.1 hx; omega
         · have := List.mem_singleton.1 hx; subst this; exact ag_lt ag1
       clear c0 c1 c2 c3 c4 ag1
       replace D1 := Lib.hid D1
       replace hb1 := Lib.hid hb1)
    | fail)
  go_wp2_with (first
    | (go_at_call 27
       refine (install_solo D1.out).mono ?_
       rintro e w2 ⟨B, cB, T, cT, M2, cM2, rfl, rB, rT, D2, -⟩
       rw [hv1.out, hm1.out, ht1.out, he1.out] at *
       rw [show ([⟨s, i, f + 1⟩] : List Mb).length = 1 from rfl, show ([(s : Int)] : List Int).length = 1 from rfl]
       rw [← ht1'.out] at D2
       have b2u : Below w2.heap.size w2 (w2.alloc (.cells (viewA Vid.zero none 0 0) 46)) := (Below.refl _ _).alloc (Nat.le_refl _) _
       replace D2 := Lib.hid D2
       replace rB := Lib.hid rB
       replace rT := Lib.hid rT
       replace b2u := Lib.hid b2u)
    | (refine wpList_store46 rfl (.tmp 5) (.tmp 32) rfl w2.heap.size 0 (by rfl) ⟨f + 1, s, i, f + 1⟩ B 1 cB (by rfl) (there_new w2 (viewA Vid.zero none 0 0) 46) ?_
       intro w3 hw3
       obtain ⟨u5, hu5⟩ : ∃ u, u = w2.heap.size := ⟨_, rfl⟩
       have p3 : ViAt w3 u5 ⟨f + 1, s, i, f + 1⟩ B 1 cB := by rw [hw3.out, hu5]; exact viAt_put (there_new w2 (viewA Vid.zero none 0 0) 46)
       have b23 : Below w2.heap.size w2 w3 := by rw [hw3.out]; exact below_sets b2u.out (Nat.le_refl _) _ _ (by simp)
       have u5w3 : u5 < w3.heap.size := by rw [hw3.out, size_sets, hu5]; simp
       have D3 := D2.out.add b23 (g := u5) (by omega) u5w3
       have rB3 := rB.out.below b23
       have rT3 := rT.out.below b23
       have bw1 : b < w1.heap.size := D1.out.hi b D1.out.aF
       have rF3 : RowF w3 [u5, b] 3 eMb B [⟨s, i, f + 1⟩] := by
         refine ((rB.out.away (F := [b]) (fun y hy => by have := List.mem_singleton.1 hy; omega)).more (F' := [u5, b]) (fun y hy => ?_)).below b23
         rcases List.mem_cons.1 hy with e | e
         · exact .inr (by omega)
         · exact .inl e
       replace rF3 := Lib.hid rF3
       have hbu5 : b ≠ u5 := by have := D2.out.hi b D2.out.aF; omega
       have vw3 : v < w3.heap.size := by have := D3.bel.size; omega
       have o3 := range_same oA.out (D3.bel.block v hvz)
       rw [← hu5]
       clear b23 hw3
       replace hbu5 := Lib.hid hbu5
       replace hu5 := Lib.hid hu5
       replace p3 := Lib.hid p3
       replace D3 := Lib.hid D3
       replace rB3 := Lib.hid rB3
       replace rT3 := Lib.hid rT3
       replace o3 := Lib.hid o3)
    | fail)
  have wr1' := wr1.out
  have hC : ∀ x' : Prop, (∀ W, Below w3.heap.size w3 W → x') ↔ x' := fun x' => ⟨fun f => f _ (Below.refl _ _), fun f _ _ => f⟩
  have oo : ∀ W, Below w3.heap.size w3 W → W.rangeAt v 0 (caseA n s i f A os.length c).toList := fun W hW => range_same o3.out (hW.block v vw3)
  have L39 : ∀ W, Below w3.heap.size w3 W → (loadVar 44 ⟨u5, 4, none⟩).run Try.prog W = .ok (.slice B 1 cB) W := fun W hW => load44 (p3.out.same (hW.block u5 u5w3)).cm
  have L52 : ∀ W, Below w3.heap.size w3 W → (loadVar 46 ⟨u5, 0, none⟩).run Try.prog W = .ok (.agg (viewA ⟨f + 1, s, i, f + 1⟩ B 1 cB)) W := fun W hW => (p3.out.same (hW.block u5 u5w3)).load
  have L1 : ∀ W, Below w3.heap.size w3 W → (loadVar 3 ⟨v, 1, none⟩).run Try.prog W = .ok (.int .i64 s) W := fun W hW => load3 (oo W hW 1 _ rfl)
  have L2 : ∀ W, Below w3.heap.size w3 W → (loadVar 3 ⟨v, 2, none⟩).run Try.prog W = .ok (.int .i64 i) W := fun W hW => load3 (oo W hW 2 _ rfl)
  have L3 : ∀ W, Below w3.heap.size w3 W → (loadVar 3 ⟨v, 3, none⟩).run Try.prog W = .ok (.int .i64 f) W := fun W hW => load3 (oo W hW 3 _ rfl)
  replace L39 := Lib.hid L39
  replace L52 := Lib.hid L52
  replace L1 := Lib.hid L1
  replace L2 := Lib.hid L2
  replace L3 := Lib.hid L3
  replace oo := Lib.hid oo
  have bd : Below w3.heap.size w3 w3.drew := Below.drew (Below.refl _ _)
  replace bd := Lib.hid bd
  refine wp_region_ord [([0, 1, 2, 3, 4], 5), ([6, 7, 8, 9, 10, 11], 12), ([], 13), ([14, 15, 16, 17, 18, 19, 20, 21, 23, 24, 25], 22)] [26, 27] (fun W => Below w3.heap.size w3 W) rfl (by kernel_rfl) rfl bd.out ?_
  refine WO.seg rfl ?_ bd.out
  simp only [picks, pick, List.cons_append, List.nil_append, List.append_nil]
  repeat (first
    | (refine wpQuiet_loadC (by rfl) 44 (.tmp 38) rfl u5 4 (by rfl) _ L39.out ?_; simp only [Act.put, List.setIfInBounds_toArray, List.set_cons_zero, List.set_cons_succ])
    | (refine wpQuiet_loadC (by rfl) 3 (.tmp 45) rfl v 1 (by rfl) _ L1.out ?_; simp only [Act.put, List.setIfInBounds_toArray, List.set_cons_zero, List.set_cons_succ])
    | (refine wpQuiet_loadC (by rfl) 46 (.tmp 5) rfl u5 0 (by rfl) _ L52.out ?_; simp only [Act.put, List.setIfInBounds_toArray, List.set_cons_zero, List.set_cons_succ])
    | (refine wpQuiet_loadC (by rfl) 3 (.tmp 53) rfl v 1 (by rfl) _ L1.out ?_; simp only [Act.put, List.setIfInBounds_toArray, List.set_cons_zero, List.set_cons_succ])
    | (refine wpQuiet_loadC (by rfl) 3 (.tmp 55) rfl v 2 (by rfl) _ L2.out ?_; simp only [Act.put, List.setIfInBounds_toArray, List.set_cons_zero, List.set_cons_succ])
    | (refine wpQuiet_loadC (by rfl) 3 (.tmp 58) rfl v 3 (by rfl) _ L3.out ?_; simp only [Act.put, List.setIfInBounds_toArray, List.set_cons_zero, List.set_cons_succ])
    | go_big_quiet_step (fail))
  refine wpQuiet_nil ?_
  intro K hK
  go_simp
  refine hK.out _ _ bd.out ?_
  clear hK K
  refine WO.seg rfl ?_ bd.out
  simp only [picks, pick, List.cons_append, List.nil_append, List.append_nil]
  repeat (first
    | (refine wpQuiet_loadC (by rfl) 44 (.tmp 38) rfl u5 4 (by rfl) _ L39.out ?_; simp only [Act.put, List.setIfInBounds_toArray, List.set_cons_zero, List.set_cons_succ])
    | (refine wpQuiet_loadC (by rfl) 3 (.tmp 45) rfl v 1 (by rfl) _ L1.out ?_; simp only [Act.put, List.setIfInBounds_toArray, List.set_cons_zero, List.set_cons_succ])
    | (refine wpQuiet_loadC (by rfl) 46 (.tmp 5) rfl u5 0 (by rfl) _ L52.out ?_; simp only [Act.put, List.setIfInBounds_toArray, List.set_cons_zero, List.set_cons_succ])
    | (refine wpQuiet_loadC (by rfl) 3 (.tmp 53) rfl v 1 (by rfl) _ L1.out ?_; simp only [Act.put, List.setIfInBounds_toArray, List.set_cons_zero, List.set_cons_succ])
    | (refine wpQuiet_loadC (by rfl) 3 (.tmp 55) rfl v 2 (by rfl) _ L2.out ?_; simp only [Act.put, List.setIfInBounds_toArray, List.set_cons_zero, List.set_cons_succ])
    | (refine wpQuiet_loadC (by rfl) 3 (.tmp 58) rfl v 3 (by rfl) _ L3.out ?_; simp only [Act.put, List.setIfInBounds_toArray, List.set_cons_zero, List.set_cons_succ])
    | go_big_quiet_step (fail))
  refine wpQuiet_nil ?_
  intro K hK
  go_simp
  have bx1 : Below w3.heap.size w3 (w3.drew.alloc (.cells #[.int .i64 s] 3)) := bd.out.alloc (by show w3.heap.size ≤ w3.heap.size; omega) _
  replace bx1 := Lib.hid bx1
  refine hK.out _ _ bx1.out ?_
  clear hK K
  refine WO.seg rfl ?_ bx1.out
  simp only [picks, pick, List.cons_append, List.nil_append, List.append_nil]
  repeat (first
    | (refine wpQuiet_loadC (by rfl) 44 (.tmp 38) rfl u5 4 (by rfl) _ L39.out ?_; simp only [Act.put, List.setIfInBounds_toArray, List.set_cons_zero, List.set_cons_succ])
    | (refine wpQuiet_loadC (by rfl) 3 (.tmp 45) rfl v 1 (by rfl) _ L1.out ?_; simp only [Act.put, List.setIfInBounds_toArray, List.set_cons_zero, List.set_cons_succ])
    | (refine wpQuiet_loadC (by rfl) 46 (.tmp 5) rfl u5 0 (by rfl) _ L52.out ?_; simp only [Act.put, List.setIfInBounds_toArray, List.set_cons_zero, List.set_cons_succ])
    | (refine wpQuiet_loadC (by rfl) 3 (.tmp 53) rfl v 1 (by rfl) _ L1.out ?_; simp only [Act.put, List.setIfInBounds_toArray, List.set_cons_zero, List.set_cons_succ])
    | (refine wpQuiet_loadC (by rfl) 3 (.tmp 55) rfl v 2 (by rfl) _ L2.out ?_; simp only [Act.put, List.setIfInBounds_toArray, List.set_cons_zero, List.set_cons_succ])
    | (refine wpQuiet_loadC (by rfl) 3 (.tmp 58) rfl v 3 (by rfl) _ L3.out ?_; simp only [Act.put, List.setIfInBounds_toArray, List.set_cons_zero, List.set_cons_succ])
    | go_big_quiet_step (fail))
  refine wpQuiet_nil ?_
  intro K hK
  go_simp
  go_at_call 23
  refine (lints_two T (some ⟨w3.drew.heap.size, 0, none⟩) cT 1 (w3.drew.heap.size + 1) [(s : Int)] [(s : Int)] 1 1 _ rfl rfl (by simp) ((rT3.out.row.below (N' := w3.heap.size) bx1.out (Nat.le_refl _)).more (Nat.le_succ _)) (row_new w3.drew 3 1 eInt (s : Int) #[.int .i64 s] rfl) (by omega) (by omega)).mono ?_
  rintro e x2 ⟨rfl, hx2⟩
  rw [decide_eq_true (rfl : [(s : Int)] = [(s : Int)])]
  have bx2 : Below w3.heap.size w3 x2 := bx1.out.trans (hx2.mono bx1.out.size)
  replace bx2 := Lib.hid bx2
  clear hx2
  go_wp2_with fail
  refine hK.out _ _ bx2.out ?_
  clear hK K
  refine WO.seg rfl ?_ bx2.out
  simp only [picks, pick, List.cons_append, List.nil_append, List.append_nil]
  repeat (first
    | (refine wpQuiet_loadC (by rfl) 44 (.tmp 38) rfl u5 4 (by rfl) _ L39.out ?_; simp only [Act.put, List.setIfInBounds_toArray, List.set_cons_zero, List.set_cons_succ])
    | (refine wpQuiet_loadC (by rfl) 3 (.tmp 45) rfl v 1 (by rfl) _ L1.out ?_; simp only [Act.put, List.setIfInBounds_toArray, List.set_cons_zero, List.set_cons_succ])
    | (refine wpQuiet_loadC (by rfl) 46 (.tmp 5) rfl u5 0 (by rfl) _ L52.out ?_; simp only [Act.put, List.setIfInBounds_toArray, List.set_cons_zero, List.set_cons_succ])
    | (refine wpQuiet_loadC (by rfl) 3 (.tmp 53) rfl v 1 (by rfl) _ L1.out ?_; simp only [Act.put, List.setIfInBounds_toArray, List.set_cons_zero, List.set_cons_succ])
    | (refine wpQuiet_loadC (by rfl) 3 (.tmp 55) rfl v 2 (by rfl) _ L2.out ?_; simp only [Act.put, List.setIfInBounds_toArray, List.set_cons_zero, List.set_cons_succ])
    | (refine wpQuiet_loadC (by rfl) 3 (.tmp 58) rfl v 3 (by rfl) _ L3.out ?_; simp only [Act.put, List.setIfInBounds_toArray, List.set_cons_zero, List.set_cons_succ])
    | go_big_quiet_step (fail))
  refine wpQuiet_nil ?_
  intro K hK
  go_simp
  go_at_call 28
  refine (holds_any ⟨f + 1, s, i, f + 1⟩ B cB w3.heap.size 1 [⟨s, i, f + 1⟩] s i x2 rfl bx2.out.size (rB3.out.row.below bx2.out (Nat.le_refl _)) (by omega)).mono ?_
  rintro e x3 ⟨rfl, hx3⟩
  rw [first_holds]
  have bx3 : Below w3.heap.size w3 x3 := bx2.out.trans (hx3.mono bx2.out.size)
  replace bx3 := Lib.hid bx3
  clear hx3
  go_wp2_with fail
  refine hK.out _ _ bx3.out ?_
  clear hK K
  refine WO.end_ ?_
  simp only [picks, pick, List.cons_append, List.nil_append, List.append_nil]
  repeat (first
    | (refine wpQuiet_loadC (by rfl) 44 (.tmp 38) rfl u5 4 (by rfl) _ L39.out ?_; simp only [Act.put, List.setIfInBounds_toArray, List.set_cons_zero, List.set_cons_succ])
    | (refine wpQuiet_loadC (by rfl) 3 (.tmp 45) rfl v 1 (by rfl) _ L1.out ?_; simp only [Act.put, List.setIfInBounds_toArray, List.set_cons_zero, List.set_cons_succ])
    | (refine wpQuiet_loadC (by rfl) 46 (.tmp 5) rfl u5 0 (by rfl) _ L52.out ?_; simp only [Act.put, List.setIfInBounds_toArray, List.set_cons_zero, List.set_cons_succ])
    | (refine wpQuiet_loadC (by rfl) 3 (.tmp 53) rfl v 1 (by rfl) _ L1.out ?_; simp only [Act.put, List.setIfInBounds_toArray, List.set_cons_zero, List.set_cons_succ])
    | (refine wpQuiet_loadC (by rfl) 3 (.tmp 55) rfl v 2 (by rfl) _ L2.out ?_; simp only [Act.put, List.setIfInBounds_toArray, List.set_cons_zero, List.set_cons_succ])
    | (refine wpQuiet_loadC (by rfl) 3 (.tmp 58) rfl v 3 (by rfl) _ L3.out ?_; simp only [Act.put, List.setIfInBounds_toArray, List.set_cons_zero, List.set_cons_succ])
    | go_big_quiet_step (fail))
  refine wpQuiet_nil ?_
  clear hC L39 L52 L1 L2 L3 bd bx1 bx2
  have D4 := D3.out.below bx3.out
  have p4 := p3.out.same (bx3.out.block u5 u5w3)
  have o4 := range_same o3.out (bx3.out.block v vw3)
  have rF4 := rF3.out.below bx3.out
  have u5x3 : u5 < x3.heap.size := Nat.lt_of_lt_of_le u5w3 bx3.out.size
  have a0 := p4.ce
  have a1 := p4.cl
  have a2 := p4.ci
  have a3 := p4.cc
  have c1 : x3.cell? ⟨v, 1, none⟩ = some (.int .i64 s) := o4 1 _ rfl
  have c2 : x3.cell? ⟨v, 2, none⟩ = some (.int .i64 i) := o4 2 _ rfl
  have c3 : x3.cell? ⟨v, 3, none⟩ = some (.int .i64 f) := o4 3 _ rfl
  replace D4 := Lib.hid D4
  replace p4 := Lib.hid p4
  replace o4 := Lib.hid o4
  replace rF4 := Lib.hid rF4
  have n16 : t1.n ≤ 16 := D4.out.inv.n2
  go_wp2_with (first
    | (go_at_call 29
       refine (lsame_any ⟨f + 1, s, i, f + 1⟩ ⟨f + 1, s, i, f + 1⟩ x3).mono ?_
       rintro e x4 ⟨rfl, hx4⟩
       rw [show vidEq (⟨f + 1, s, i, f + 1⟩ : Vid) ⟨f + 1, s, i, f + 1⟩ = true from by simp [vidEq]]
       clear a0 a1 a2 a3 c1 c2 c3
       have D5 := D4.out.below hx4
       have v5 : VV x4 [u5, b] u5 t1.vid t1.mem B cB := by
         rw [i1.out, i2.out]
         exact ⟨p4.out.same (hx4.block u5 u5x3), rF4.out.below hx4, Nat.lt_of_lt_of_le u5x3 hx4.size⟩
       replace D5 := Lib.hid D5
       replace v5 := Lib.hid v5
       clear hx4)
    | fail)
  go_wp2_with (first
    | (go_at_call 30
       refine (proposal_any b t1 M2 cM2 x4 D5.out.ag (D5.out.hi b D5.out.aF) n16).mono ?_
       rintro e x5 ⟨S, V, rfl, rS, rV, hx5⟩
       have D6 := D5.out.below hx5
       have v6 := v5.out.below hx5
       have b5u : Below x5.heap.size x5 (x5.alloc (.cells prZ 31)) := (Below.refl _ _).alloc (Nat.le_refl _) _
       have z5 := hx5.size
       replace D6 := Lib.hid D6
       replace v6 := Lib.hid v6
       replace rS := Lib.hid rS
       replace rV := Lib.hid rV
       replace b5u := Lib.hid b5u
       clear hx5)
    | (refine wpList_store31 rfl (.tmp 8) (.tmp 79) rfl x5.heap.size 0 (by rfl) S t1.n t1.n V t1.n t1.n t1.out (by rfl) (there_new x5 prZ 31) ?_
       intro x6 hx6
       obtain ⟨u8, hu8⟩ : ∃ u, u = x5.heap.size := ⟨_, rfl⟩
       have p6 : PVar x6 u8 S t1.n t1.n V t1.n t1.n t1.out := by rw [hx6.out, hu8]; exact PVar.put (there_new x5 prZ 31)
       have b56 : Below x5.heap.size x5 x6 := by rw [hx6.out]; exact below_sets b5u.out (Nat.le_refl _) _ _ (by simp)
       have u8z : u8 < x6.heap.size := by rw [hx6.out, size_sets, hu8]; simp
       have D7 := D6.out.add b56 (g := u8) (by omega) u8z
       have b5z := D6.out.hi b D6.out.aF
       have u5z := v6.out.lt
       have hbu8 : b ≠ u8 := by omega
       have hu58 : u5 ≠ u8 := by omega
       have hm : ∀ y ∈ [u8, u5, b], y ∈ [u5, b] ∨ x5.heap.size ≤ y := fun y hy => (List.mem_cons.1 hy).elim (fun e => .inr (by omega)) .inl
       have v7 : VV x6 [u8, u5, b] u5 t1.vid t1.mem B cB := ⟨v6.out.at_.same (b56.block u5 u5z), (v6.out.row.more hm).below b56, by omega⟩
       have b4z : b < x4.heap.size := D5.out.hi b D5.out.aF
       have u4z : u5 < x4.heap.size := v5.out.lt
       have hF : ∀ y ∈ [u5, b], y < x4.heap.size := fun y hy => by
         rcases List.mem_cons.1 hy with e | e
         · omega
         · have := List.mem_singleton.1 e; omega
       have q7 : PV x6 [u8, u5, b] u8 t1.n t1.out (t1.own.set.take t1.n) (t1.own.vec.take t1.n) S t1.n V t1.n := ⟨p6, ((rS.out.away hF).more hm).below b56, ((rV.out.away hF).more hm).below b56, u8z⟩
       rw [← hu8]
       clear b56 hx6 hm hF b4z u4z b5z u5z p6
       replace hu8 := Lib.hid hu8
       replace hbu8 := Lib.hid hbu8
       replace hu58 := Lib.hid hu58
       replace D7 := Lib.hid D7
       replace v7 := Lib.hid v7
       replace q7 := Lib.hid q7)
    | fail)
  go_loopw [9] (fun k wr => ∃ q t M cM B cB S cS V cV, k = .int .i64 ((q : Nat) : Int) ∧ q ≤ os.length ∧ Solo wA b [u8, u5, b] t M cM wr ∧ Ris t ∧ (t.n = n ∧ t.self = s ∧ t.inc = i) ∧ VV wr [u8, u5, b] u5 t.vid t.mem B cB ∧ PV wr [u8, u5, b] u8 t.n t.out (t.own.set.take t.n) (t.own.vec.take t.n) S cS V cV) (fun k _ => os.length - (intOf k).toNat)
  case atStart => exact ⟨0, t1, M2, cM2, B, cB, S, t1.n, V, t1.n, rfl, by omega, D7.out, hris.out, hin1.out, v7.out, q7.out⟩
  case round =>
    obtain ⟨q, t, M, cM, B, cB, S, cS, V, cV, rfl, hq, D, hR, ⟨tn, ts, ti⟩, vv, pv⟩ := hrel
    have oq := range_same oA.out (D.bel.block v hvz)
    have c4 : wr.cell? ⟨v, 4, none⟩ = some (.slice A os.length c) := oq 4 _ rfl
    by_cases hlt : q < os.length
    · have opsr := opsA.out.up D.bel (Nat.le_refl _)
      obtain ⟨g, off, hAe, hg, hc⟩ := opsr.row (by omega)
      have hx : os[q]? = some os[q] := List.getElem?_eq_getElem hlt
      obtain ⟨y, hy⟩ : ∃ y, y = os[q] := ⟨_, rfl⟩
      rw [← hy] at hx
      have hym : y ∈ os := by rw [hy]; exact List.getElem_mem hlt
      have hld : (loadVar 71 ⟨g, off + q * 13, none⟩).run Try.prog wr = .ok (.agg (opA y.o y.P)) wr := load71 (fun j u hu => hc q y hx j u hu)
      have oy := opsA.out.each y hym
      have hq0 : (0 : Int) ≤ (q : Int) := by omega
      have hq1 : (q : Int) < (os.length : Int) := by omega
      rw [hAe] at c4
      have hox : ∀ W, Below wA.heap.size wA W → OpAt W wA.heap.size y.o y.P ∧ wA.heap.size ≤ W.heap.size := fun W hW => ⟨oy.below hW, hW.size⟩
      have hbz : b < wr.heap.size := D.hi b D.aF
      have hvr : v < wr.heap.size := by have := D.bel.size; omega
      have n16' : t.n ≤ 16 := D.inv.n2
      replace tn := Lib.hid tn
      replace ts := Lib.hid ts
      replace ti := Lib.hid ti
      replace hR := Lib.hid hR
      replace vv := Lib.hid vv
      replace pv := Lib.hid pv
      replace hox := Lib.hid hox
      replace hAe := Lib.hid hAe
      replace hld := Lib.hid hld
      replace hx := Lib.hid hx
      replace hy := Lib.hid hy
      replace D := Lib.hid D
      replace oq := Lib.hid oq
      clear hc opsr oy
      by_cases h5 : y.o.k = 5
      · have b5 : (y.o.k == 5) = true := by simp [h5]
        replace h5 := Lib.hid h5
        cases hsome : t.agreed.isSome with
        | true =>
          obtain ⟨t2, ht2⟩ : ∃ t', t' = t.install := ⟨_, rfl⟩
          have hup : Up t t2 ∨ (t2.own = t.own ∧ t2.n = t.n) := .inr (by rw [ht2]; exact (install_out t).2)
          have hn2 : t2.n = n ∧ t2.self = s ∧ t2.inc = i := by
            obtain ⟨e1, e2, e3⟩ := install_n t
            rw [ht2, e1, e2, e3]; exact ⟨tn.out, ts.out, ti.out⟩
          obtain ⟨hR2, he1, he2, he3, he4⟩ := install_ris2 hR.out hsome
          obtain ⟨j1, j2, j3, hE⟩ := install_yes hsome
          rw [← ht2] at hR2 j1 j2 j3
          replace he1 := Lib.hid he1
          replace he2 := Lib.hid he2
          replace he3 := Lib.hid he3
          replace he4 := Lib.hid he4
          replace j1 := Lib.hid j1
          replace j2 := Lib.hid j2
          replace j3 := Lib.hid j3
          replace hE := Lib.hid hE
          replace hR2 := Lib.hid hR2
          replace hup := Lib.hid hup
          replace hn2 := Lib.hid hn2
          replace ht2 := Lib.hid ht2
          replace hsome := Lib.hid hsome
          go_wp2_with (first
            | (refine wpList_loadR rfl 71 (.tmp 90) rfl g (off + q * 13) (by rfl) _ (by exact hld.out) ?_)
            | (refine wpList_store71 rfl (.tmp 10) (.tmp 91) rfl wr.heap.size 0 (by rfl) y.o y.P (by rfl) (there_new wr opZ 71) ?_
               intro w1 hw1
               have b1 : Below wr.heap.size wr w1 := by rw [hw1.out]; exact below_sets ((Below.refl _ _).alloc (Nat.le_refl _) _) (Nat.le_refl _) _ _ (by simp)
               have o1 : w1.rangeAt wr.heap.size 0 (opA y.o y.P).toList := by rw [hw1.out]; exact World.rangeAt_setCells_same _ _ _ _ (there_new wr opZ 71)
               have z1 : wr.heap.size < w1.heap.size := by rw [hw1.out, size_sets]; simp
               obtain ⟨u1, hu1⟩ : ∃ u, u = wr.heap.size := ⟨_, rfl⟩
               have D1 := D.out.below b1
               have vv1 := vv.out.below b1
               have pv1 := pv.out.below b1
               have oq1 := range_same oq.out (b1.block v hvr)
               have k0 := load3 (o1 0 _ rfl)
               rw [← hu1] at o1 k0 ⊢
               replace o1 := Lib.hid o1
               replace D1 := Lib.hid D1
               replace vv1 := Lib.hid vv1
               replace pv1 := Lib.hid pv1
               replace oq1 := Lib.hid oq1
               replace hu1 := Lib.hid hu1
               replace z1 := Lib.hid z1
               replace k0 := Lib.hid k0
               clear c4 b1 hw1)
            | (refine wpList_loadR rfl 3 (.tmp 92) rfl u1 0 (by rfl) _ (by exact k0.out) ?_)
            | (refine wpList_loadR rfl 71 (.tmp 10) rfl u1 0 (by rfl) _ (by exact load71z o1.out) ?_)
            | fail)
          go_wp2_with (first
            | (go_at_call 27
               refine (install_solo D1.out).mono ?_
               rintro e w2 ⟨B4, c4, T4, cT4, M4, cM4, rfl, rB4, rT4, D2, g2⟩
               rw [hE.out]
               rw [← ht2.out] at D2
               have b2u : Below w2.heap.size w2 (w2.alloc (.cells (viewA Vid.zero none 0 0) 46)) := (Below.refl _ _).alloc (Nat.le_refl _) _
               have hvb : some v ≠ some b := by intro e; injection e with e; have := D1.out.lo b D1.out.aF; omega
               have vw1 : v < w1.heap.size := Nat.lt_trans hvr z1.out
               have vv2 := vv1.out.grown g2 (List.mem_cons_of_mem _ (List.mem_cons_of_mem _ (List.mem_cons_self ..))) hbu5.out
               have pv2 := pv1.out.grown g2 (List.mem_cons_of_mem _ (List.mem_cons_of_mem _ (List.mem_cons_self ..))) hbu8.out
               have oq2 := range_same oq1.out (g2.block v vw1 hvb)
               have vw2 : v < w2.heap.size := Nat.lt_of_lt_of_le vw1 g2.size
               have rF2 : RowF w2 [u8, u5, b] 3 eMb B4 (agM t.agreed) := rB4.away (fun y hy => D1.out.hi y hy)
               have lag := agM_len D1.out.inv
               clear k0 g2 hvb vw1
               replace lag := Lib.hid lag
               replace D2 := Lib.hid D2
               replace vv2 := Lib.hid vv2
               replace pv2 := Lib.hid pv2
               replace oq2 := Lib.hid oq2
               replace rF2 := Lib.hid rF2
               replace rT4 := Lib.hid rT4
               replace b2u := Lib.hid b2u)
            | (refine wpList_store46 rfl (.tmp 11) (.tmp 98) rfl w2.heap.size 0 (by rfl) (agV t.agreed) B4 (agM t.agreed).length c4 (by rfl) (there_new w2 (viewA Vid.zero none 0 0) 46) ?_
               intro w3 hw3
               obtain ⟨u11, hu11⟩ : ∃ u, u = w2.heap.size := ⟨_, rfl⟩
               have p11 : ViAt w3 u11 (agV t.agreed) B4 (agM t.agreed).length c4 := by rw [hw3.out, hu11]; exact viAt_put (there_new w2 (viewA Vid.zero none 0 0) 46)
               have b23 : Below w2.heap.size w2 w3 := by rw [hw3.out]; exact below_sets b2u.out (Nat.le_refl _) _ _ (by simp)
               have u11z : u11 < w3.heap.size := by rw [hw3.out, size_sets, hu11]; simp
               have E0 := D2.out.below b23
               have ev0 := vv2.out.below b23
               have ep0 := pv2.out.below b23
               have eo0 := range_same oq2.out (b23.block v vw2)
               have vy0 : v < w3.heap.size := Nat.lt_of_lt_of_le vw2 b23.size
               have rF3 := rF2.out.below b23
               have rT3 := rT4.out.below b23
               rw [← hu11]
               clear b23 hw3
               replace hu11 := Lib.hid hu11
               replace p11 := Lib.hid p11
               replace E0 := Lib.hid E0
               replace ep0 := Lib.hid ep0
               replace eo0 := Lib.hid eo0
               replace rF3 := Lib.hid rF3
               replace rT3 := Lib.hid rT3
               have k1 : (loadVar 3 ⟨v, 1, none⟩).run Try.prog w3 = .ok (.int .i64 (t.self : Int)) w3 := load3 (by rw [ts.out]; exact eo0.out 1 _ rfl)
               have k2 : (loadVar 3 ⟨v, 2, none⟩).run Try.prog w3 = .ok (.int .i64 t.inc) w3 := load3 (by rw [ti.out]; exact eo0.out 2 _ rfl)
               replace k1 := Lib.hid k1
               replace k2 := Lib.hid k2
               replace ev0 := Lib.hid ev0)
            | (refine wpList_loadR rfl 46 (.tmp 11) rfl u11 0 (by rfl) _ (by exact p11.out.load) ?_)
            | (refine wpList_loadR rfl 3 (.tmp 104) rfl v 1 (by rfl) _ (by exact k1.out) ?_)
            | (refine wpList_loadR rfl 3 (.tmp 106) rfl v 2 (by rfl) _ (by exact k2.out) ?_)
            | fail)
          go_wp2_with (first
            | (go_at_call 28
               refine (holds_any (agV t.agreed) B4 c4 w3.heap.size _ (agM t.agreed) t.self t.inc w3 rfl (Nat.le_refl _) rF3.out.row (by have := lag.out.1; omega)).mono ?_
               rintro e w4 ⟨rfl, hb4⟩
               rw [he2.out]
               have G0 := E0.out.below hb4
               have gv0 := ev0.out.below hb4
               have gp0 := ep0.out.below hb4
               have go0 := range_same eo0.out (hb4.block v vy0)
               have vw4 : v < w4.heap.size := Nat.lt_of_lt_of_le vy0 hb4.size
               have p11' := p11.out.same (hb4.block u11 u11z)
               have u11w4 : u11 < w4.heap.size := Nat.lt_of_lt_of_le u11z hb4.size
               have rF4 := rF3.out.below hb4
               have rT5 := rT3.out.below hb4
               clear hb4
               replace G0 := Lib.hid G0
               replace gv0 := Lib.hid gv0
               replace gp0 := Lib.hid gp0
               replace go0 := Lib.hid go0
               replace p11' := Lib.hid p11'
               replace rF4 := Lib.hid rF4
               replace rT5 := Lib.hid rT5)
            | fail)
          have hb1 : decide ((agV t.agreed).e ≤ t.vid.e) = false := decide_eq_false (by have := he1.out; omega)
          have hb2 : decide (t.own.cid ≤ holdsI t.mem t.self t.inc) = false := decide_eq_false (by have := he3.out; omega)
          have hb3 : (((agT t.agreed).length : Int) == 0) = false := beq_eq_false_iff_ne.2 (by have := he4.out; omega)
          have hC : ∀ x' : Prop, (∀ W, Below w4.heap.size w4 W → x') ↔ x' := fun x' => ⟨fun f => f _ (Below.refl _ _), fun f _ _ => f⟩
          have oo : ∀ W, Below w4.heap.size w4 W → W.rangeAt v 0 (caseA n s i f A os.length c).toList := fun W hW => range_same go0.out (hW.block v vw4)
          have La : ∀ W, Below w4.heap.size w4 W → (loadVar 3 ⟨u11, 0, none⟩).run Try.prog W = .ok (.int .i64 (agV t.agreed).e) W := fun W hW => load3 (p11'.out.same (hW.block u11 u11w4)).ce
          have Lb : ∀ W, Below w4.heap.size w4 W → (loadVar 3 ⟨u5, 0, none⟩).run Try.prog W = .ok (.int .i64 t.vid.e) W := fun W hW => load3 (gv0.out.below hW).at_.ce
          have Lc : ∀ W, Below w4.heap.size w4 W → (loadVar 46 ⟨u5, 0, none⟩).run Try.prog W = .ok (.agg (viewA t.vid B t.mem.length cB)) W := fun W hW => (gv0.out.below hW).at_.load
          have Ld : ∀ W, Below w4.heap.size w4 W → (loadVar 3 ⟨v, 1, none⟩).run Try.prog W = .ok (.int .i64 (t.self : Int)) W := fun W hW => load3 (by rw [ts.out]; exact oo W hW 1 _ rfl)
          have Le : ∀ W, Below w4.heap.size w4 W → (loadVar 3 ⟨v, 2, none⟩).run Try.prog W = .ok (.int .i64 t.inc) W := fun W hW => load3 (by rw [ti.out]; exact oo W hW 2 _ rfl)
          have Lf : ∀ W, Below w4.heap.size w4 W → (loadVar 46 ⟨u11, 0, none⟩).run Try.prog W = .ok (.agg (viewA (agV t.agreed) B4 (agM t.agreed).length c4)) W := fun W hW => (p11'.out.same (hW.block u11 u11w4)).load
          have lm7 := G0.out.rinv.len
          have lmt := hR.out.rinv.len
          replace lm7 := Lib.hid lm7
          replace lmt := Lib.hid lmt
          replace La := Lib.hid La
          replace Lb := Lib.hid Lb
          replace Lc := Lib.hid Lc
          replace Ld := Lib.hid Ld
          replace Le := Lib.hid Le
          replace Lf := Lib.hid Lf
          clear oo
          have bd : Below w4.heap.size w4 w4.drew := Below.drew (Below.refl _ _)
          replace bd := Lib.hid bd
          refine wp_region_ord [([0, 1, 2, 3, 4, 5, 6, 7, 8, 9, 10, 11, 12, 13], 14), ([15, 16, 17, 18], 19), ([20, 21, 22, 23, 25], 24), ([], 26), ([27, 28, 29, 30], 31)] [32] (fun W => Below w4.heap.size w4 W) rfl (by kernel_rfl) rfl bd.out ?_
          refine WO.seg rfl ?_ bd.out
          simp only [picks, pick, List.cons_append, List.nil_append, List.append_nil]
          repeat (first
            | (refine wpQuiet_loadC (by rfl) 3 (.tmp 110) rfl u11 0 (by rfl) _ La.out ?_; simp only [Act.put, List.setIfInBounds_toArray, List.set_cons_zero, List.set_cons_succ])
            | (refine wpQuiet_loadC (by rfl) 3 (.tmp 113) rfl u5 0 (by rfl) _ Lb.out ?_; simp only [Act.put, List.setIfInBounds_toArray, List.set_cons_zero, List.set_cons_succ])
            | (refine wpQuiet_loadC (by rfl) 46 (.tmp 5) rfl u5 0 (by rfl) _ Lc.out ?_; simp only [Act.put, List.setIfInBounds_toArray, List.set_cons_zero, List.set_cons_succ])
            | (refine wpQuiet_loadC (by rfl) 3 (.tmp 119) rfl v 1 (by rfl) _ Ld.out ?_; simp only [Act.put, List.setIfInBounds_toArray, List.set_cons_zero, List.set_cons_succ])
            | (refine wpQuiet_loadC (by rfl) 3 (.tmp 121) rfl v 2 (by rfl) _ Le.out ?_; simp only [Act.put, List.setIfInBounds_toArray, List.set_cons_zero, List.set_cons_succ])
            | (refine wpQuiet_loadC (by rfl) 46 (.tmp 11) rfl u11 0 (by rfl) _ Lf.out ?_; simp only [Act.put, List.setIfInBounds_toArray, List.set_cons_zero, List.set_cons_succ])
            | go_big_quiet_step (fail))
          refine wpQuiet_nil ?_
          intro K hK
          go_simp
          go_at_call 28
          refine (holds_any t.vid B cB w4.drew.heap.size _ t.mem t.self t.inc w4.drew rfl (Nat.le_refl _) (gv0.out.below bd.out).row.row (by have := lmt.out; omega)).mono ?_
          rintro e x1 ⟨rfl, hx⟩
          have bx1 : Below w4.heap.size w4 x1 := bd.out.trans hx
          replace bx1 := Lib.hid bx1
          clear hx
          go_wp2_with fail
          refine hK.out _ _ bx1.out ?_
          clear hK K
          refine WO.seg rfl ?_ bx1.out
          simp only [picks, pick, List.cons_append, List.nil_append, List.append_nil]
          repeat (first
            | (refine wpQuiet_loadC (by rfl) 3 (.tmp 110) rfl u11 0 (by rfl) _ La.out ?_; simp only [Act.put, List.setIfInBounds_toArray, List.set_cons_zero, List.set_cons_succ])
            | (refine wpQuiet_loadC (by rfl) 3 (.tmp 113) rfl u5 0 (by rfl) _ Lb.out ?_; simp only [Act.put, List.setIfInBounds_toArray, List.set_cons_zero, List.set_cons_succ])
            | (refine wpQuiet_loadC (by rfl) 46 (.tmp 5) rfl u5 0 (by rfl) _ Lc.out ?_; simp only [Act.put, List.setIfInBounds_toArray, List.set_cons_zero, List.set_cons_succ])
            | (refine wpQuiet_loadC (by rfl) 3 (.tmp 119) rfl v 1 (by rfl) _ Ld.out ?_; simp only [Act.put, List.setIfInBounds_toArray, List.set_cons_zero, List.set_cons_succ])
            | (refine wpQuiet_loadC (by rfl) 3 (.tmp 121) rfl v 2 (by rfl) _ Le.out ?_; simp only [Act.put, List.setIfInBounds_toArray, List.set_cons_zero, List.set_cons_succ])
            | (refine wpQuiet_loadC (by rfl) 46 (.tmp 11) rfl u11 0 (by rfl) _ Lf.out ?_; simp only [Act.put, List.setIfInBounds_toArray, List.set_cons_zero, List.set_cons_succ])
            | go_big_quiet_step (fail))
          refine wpQuiet_nil ?_
          intro K hK
          go_simp
          refine hK.out _ _ bx1.out ?_
          clear hK K
          refine WO.seg rfl ?_ bx1.out
          simp only [picks, pick, List.cons_append, List.nil_append, List.append_nil]
          repeat (first
            | (refine wpQuiet_loadC (by rfl) 3 (.tmp 110) rfl u11 0 (by rfl) _ La.out ?_; simp only [Act.put, List.setIfInBounds_toArray, List.set_cons_zero, List.set_cons_succ])
            | (refine wpQuiet_loadC (by rfl) 3 (.tmp 113) rfl u5 0 (by rfl) _ Lb.out ?_; simp only [Act.put, List.setIfInBounds_toArray, List.set_cons_zero, List.set_cons_succ])
            | (refine wpQuiet_loadC (by rfl) 46 (.tmp 5) rfl u5 0 (by rfl) _ Lc.out ?_; simp only [Act.put, List.setIfInBounds_toArray, List.set_cons_zero, List.set_cons_succ])
            | (refine wpQuiet_loadC (by rfl) 3 (.tmp 119) rfl v 1 (by rfl) _ Ld.out ?_; simp only [Act.put, List.setIfInBounds_toArray, List.set_cons_zero, List.set_cons_succ])
            | (refine wpQuiet_loadC (by rfl) 3 (.tmp 121) rfl v 2 (by rfl) _ Le.out ?_; simp only [Act.put, List.setIfInBounds_toArray, List.set_cons_zero, List.set_cons_succ])
            | (refine wpQuiet_loadC (by rfl) 46 (.tmp 11) rfl u11 0 (by rfl) _ Lf.out ?_; simp only [Act.put, List.setIfInBounds_toArray, List.set_cons_zero, List.set_cons_succ])
            | go_big_quiet_step (fail))
          refine wpQuiet_nil ?_
          intro K hK
          go_simp
          go_at_call 22
          refine (view_any b t2 M4 cM4 x1.heap.size x1 (G0.out.below bx1.out).ag ((G0.out.below bx1.out).hi b G0.out.aF) (Nat.le_refl _) (G0.out.below bx1.out).rM.row lm7.out).mono ?_
          rintro e x2 ⟨A8, c8, rfl, rA8, hx⟩
          have bx2 : Below w4.heap.size w4 x2 := bx1.out.trans (hx.mono bx1.out.size)
          replace bx2 := Lib.hid bx2
          replace rA8 := Lib.hid rA8
          clear hx
          go_wp2_with fail
          refine hK.out _ _ bx2.out ?_
          clear hK K
          refine WO.seg rfl ?_ bx2.out
          simp only [picks, pick, List.cons_append, List.nil_append, List.append_nil]
          repeat (first
            | (refine wpQuiet_loadC (by rfl) 3 (.tmp 110) rfl u11 0 (by rfl) _ La.out ?_; simp only [Act.put, List.setIfInBounds_toArray, List.set_cons_zero, List.set_cons_succ])
            | (refine wpQuiet_loadC (by rfl) 3 (.tmp 113) rfl u5 0 (by rfl) _ Lb.out ?_; simp only [Act.put, List.setIfInBounds_toArray, List.set_cons_zero, List.set_cons_succ])
            | (refine wpQuiet_loadC (by rfl) 46 (.tmp 5) rfl u5 0 (by rfl) _ Lc.out ?_; simp only [Act.put, List.setIfInBounds_toArray, List.set_cons_zero, List.set_cons_succ])
            | (refine wpQuiet_loadC (by rfl) 3 (.tmp 119) rfl v 1 (by rfl) _ Ld.out ?_; simp only [Act.put, List.setIfInBounds_toArray, List.set_cons_zero, List.set_cons_succ])
            | (refine wpQuiet_loadC (by rfl) 3 (.tmp 121) rfl v 2 (by rfl) _ Le.out ?_; simp only [Act.put, List.setIfInBounds_toArray, List.set_cons_zero, List.set_cons_succ])
            | (refine wpQuiet_loadC (by rfl) 46 (.tmp 11) rfl u11 0 (by rfl) _ Lf.out ?_; simp only [Act.put, List.setIfInBounds_toArray, List.set_cons_zero, List.set_cons_succ])
            | go_big_quiet_step (fail))
          refine wpQuiet_nil ?_
          intro K hK
          go_simp
          go_at_call 21
          refine (views_any t2.vid (agV t.agreed) A8 B4 c8 c4 x2.heap.size _ _ t2.mem (agM t.agreed) x2 rfl rfl (Nat.le_refl _) rA8.out.row (rF4.out.below bx2.out).row (by have := lm7.out; omega) (by have := lag.out.1; omega)).mono ?_
          rintro e x3 ⟨rfl, hx⟩
          rw [j1.out, j2.out, viSame_refl]
          have bx3 : Below w4.heap.size w4 x3 := bx2.out.trans (hx.mono bx2.out.size)
          replace bx3 := Lib.hid bx3
          clear hx
          go_wp2_with fail
          refine hK.out _ _ bx3.out ?_
          clear hK K
          refine WO.seg rfl ?_ bx3.out
          simp only [picks, pick, List.cons_append, List.nil_append, List.append_nil]
          repeat (first
            | (refine wpQuiet_loadC (by rfl) 3 (.tmp 110) rfl u11 0 (by rfl) _ La.out ?_; simp only [Act.put, List.setIfInBounds_toArray, List.set_cons_zero, List.set_cons_succ])
            | (refine wpQuiet_loadC (by rfl) 3 (.tmp 113) rfl u5 0 (by rfl) _ Lb.out ?_; simp only [Act.put, List.setIfInBounds_toArray, List.set_cons_zero, List.set_cons_succ])
            | (refine wpQuiet_loadC (by rfl) 46 (.tmp 5) rfl u5 0 (by rfl) _ Lc.out ?_; simp only [Act.put, List.setIfInBounds_toArray, List.set_cons_zero, List.set_cons_succ])
            | (refine wpQuiet_loadC (by rfl) 3 (.tmp 119) rfl v 1 (by rfl) _ Ld.out ?_; simp only [Act.put, List.setIfInBounds_toArray, List.set_cons_zero, List.set_cons_succ])
            | (refine wpQuiet_loadC (by rfl) 3 (.tmp 121) rfl v 2 (by rfl) _ Le.out ?_; simp only [Act.put, List.setIfInBounds_toArray, List.set_cons_zero, List.set_cons_succ])
            | (refine wpQuiet_loadC (by rfl) 46 (.tmp 11) rfl u11 0 (by rfl) _ Lf.out ?_; simp only [Act.put, List.setIfInBounds_toArray, List.set_cons_zero, List.set_cons_succ])
            | go_big_quiet_step (fail))
          refine wpQuiet_nil ?_
          intro K hK
          go_simp
          go_at_call 31
          refine (changing_any b t2 M4 cM4 x3 (G0.out.below bx3.out).ag).mono ?_
          rintro e x4 ⟨rfl, rfl⟩
          rw [j3.out]
          go_wp2_with fail
          refine hK.out _ _ bx3.out ?_
          clear hK K
          refine WO.end_ ?_
          simp only [picks, pick, List.cons_append, List.nil_append, List.append_nil]
          repeat (first
            | (refine wpQuiet_loadC (by rfl) 3 (.tmp 110) rfl u11 0 (by rfl) _ La.out ?_; simp only [Act.put, List.setIfInBounds_toArray, List.set_cons_zero, List.set_cons_succ])
            | (refine wpQuiet_loadC (by rfl) 3 (.tmp 113) rfl u5 0 (by rfl) _ Lb.out ?_; simp only [Act.put, List.setIfInBounds_toArray, List.set_cons_zero, List.set_cons_succ])
            | (refine wpQuiet_loadC (by rfl) 46 (.tmp 5) rfl u5 0 (by rfl) _ Lc.out ?_; simp only [Act.put, List.setIfInBounds_toArray, List.set_cons_zero, List.set_cons_succ])
            | (refine wpQuiet_loadC (by rfl) 3 (.tmp 119) rfl v 1 (by rfl) _ Ld.out ?_; simp only [Act.put, List.setIfInBounds_toArray, List.set_cons_zero, List.set_cons_succ])
            | (refine wpQuiet_loadC (by rfl) 3 (.tmp 121) rfl v 2 (by rfl) _ Le.out ?_; simp only [Act.put, List.setIfInBounds_toArray, List.set_cons_zero, List.set_cons_succ])
            | (refine wpQuiet_loadC (by rfl) 46 (.tmp 11) rfl u11 0 (by rfl) _ Lf.out ?_; simp only [Act.put, List.setIfInBounds_toArray, List.set_cons_zero, List.set_cons_succ])
            | go_big_quiet_step (fail))
          refine wpQuiet_nil ?_
          clear hC La Lb Lc Ld Le Lf bd hb1 hb2 hb3
          have H0 := G0.out.below bx3.out
          have hv0 := gv0.out.below bx3.out
          have hp0 := gp0.out.below bx3.out
          have ho0 := range_same go0.out (bx3.out.block v vw4)
          have vx4 : v < x4.heap.size := Nat.lt_of_lt_of_le vw4 bx3.out.size
          have p11x := p11'.out.same (bx3.out.block u11 u11w4)
          have rF5 := rF4.out.below bx3.out
          replace H0 := Lib.hid H0
          replace hv0 := Lib.hid hv0
          replace hp0 := Lib.hid hp0
          replace ho0 := Lib.hid ho0
          replace p11x := Lib.hid p11x
          replace rF5 := Lib.hid rF5
          go_wp2_with (first
            | (refine wpList_loadR rfl 46 (.tmp 11) rfl u11 0 (by rfl) _ (by exact p11x.out.load) ?_)
            | (refine wpList_store46 rfl (.tmp 5) (.tmp 142) rfl u5 0 (by rfl) (agV t.agreed) B4 (agM t.agreed).length c4 (by rfl) hv0.out.at_.there ?_
               intro y0 hy0
               have g0 : x4.grownBy y0 (some u5) := by rw [hy0.out]; exact grown_sets _ _ _ _
               have m5 : u5 ∈ [u8, u5, b] := List.mem_cons_of_mem _ (List.mem_cons_self ..)
               have E0 := H0.out.spoil m5 (fun e => hbu5.out e.symm) g0
               have ev0 : VV y0 [u8, u5, b] u5 t2.vid t2.mem B4 c4 := by
                 rw [j1.out, j2.out]
                 refine ⟨?_, rF5.out.keep g0.size (fun k hk hn => g0.block k hk (by intro e; injection e with e; subst e; exact hn m5)), Nat.lt_of_lt_of_le hv0.out.lt g0.size⟩
                 rw [hy0.out]; exact viAt_put hv0.out.at_.there
               have ep0 := hp0.out.grown g0 m5 hu58.out
               have eo0 := range_same ho0.out (g0.block v vx4 (by intro e; injection e with e; have := H0.out.lo u5 m5; omega))
               have vy0 : v < y0.heap.size := Nat.lt_of_lt_of_le vx4 g0.size
               clear g0 hy0
               replace E0 := Lib.hid E0
               replace ev0 := Lib.hid ev0
               replace ep0 := Lib.hid ep0
               replace eo0 := Lib.hid eo0)
            | fail)
          have n16t : t2.n ≤ 16 := hR2.out.inv.n2
          obtain ⟨hs1', hcid, hrv1, hrv2⟩ := out_same hR.out hR2.out hup.out { t2.out with rev := t.own.rev } rfl
          have wr2 : IntKind.i64.wrap (t.own.rev + 1) = t.own.rev + 1 := ris_sizes hR.out
          have hset : nth (t2.own.set.take t2.n) t2.self = t2.inc := by rw [nth_take hR2.out.inv.self]; exact hR2.out.inv.me
          have hvec : nth (t2.own.vec.take t2.n) t2.self = t2.own.cid := by rw [nth_take hR2.out.inv.self]; exact hR2.out.me
          have l1 : (t.own.set.take t.n).length = t.n := List.length_take_of_le (by rw [hR.out.inv.own.set]; exact n16')
          have l2 : (t.own.vec.take t.n).length = t.n := List.length_take_of_le (by rw [hR.out.inv.own.vec]; exact n16')
          have l3 : (t2.own.set.take t2.n).length = t2.n := List.length_take_of_le (by rw [hR2.out.inv.own.set]; exact n16t)
          have l4 : (t2.own.vec.take t2.n).length = t2.n := List.length_take_of_le (by rw [hR2.out.inv.own.vec]; exact n16t)
          have hz1 : (t2.self : Int) < (t2.n : Int) := by have := hR2.out.inv.self; omega
          have hz0 : (0 : Int) ≤ (t2.self : Int) := by omega
          replace hs1' := Lib.hid hs1'
          replace hset := Lib.hid hset
          replace hvec := Lib.hid hvec
          replace l1 := Lib.hid l1
          replace l2 := Lib.hid l2
          replace l3 := Lib.hid l3
          replace l4 := Lib.hid l4
          replace hcid := Lib.hid hcid
          replace hrv1 := Lib.hid hrv1
          replace hrv2 := Lib.hid hrv2
          replace wr2 := Lib.hid wr2
          replace hz0 := Lib.hid hz0
          replace hz1 := Lib.hid hz1
          go_wp2_with (first
            | (go_at_call 30
               refine (proposal_any b t2 M4 cM4 y0 E0.out.ag (E0.out.hi b E0.out.aF) n16t).mono ?_
               rintro e y1 ⟨S6, V6, rfl, rS6, rV6, hy1⟩
               have b1u : Below y1.heap.size y1 (y1.alloc (.cells prZ 31)) := (Below.refl _ _).alloc (Nat.le_refl _) _
               replace rS6 := Lib.hid rS6
               replace rV6 := Lib.hid rV6
               replace b1u := Lib.hid b1u
               replace hy1 := Lib.hid hy1)
            | (refine wpList_store31 rfl (.tmp 15) (.tmp 147) rfl y1.heap.size 0 (by rfl) S6 t2.n t2.n V6 t2.n t2.n t2.out (by rfl) (there_new y1 prZ 31) ?_
               intro y2 hy2
               obtain ⟨u15, hu15⟩ : ∃ u, u = y1.heap.size := ⟨_, rfl⟩
               have p15 : PVar y2 u15 S6 t2.n t2.n V6 t2.n t2.n t2.out := by rw [hy2.out, hu15]; exact PVar.put (there_new y1 prZ 31)
               have b12 : Below y1.heap.size y1 y2 := by rw [hy2.out]; exact below_sets b1u.out (Nat.le_refl _) _ _ (by simp)
               have b02 : Below y0.heap.size y0 y2 := hy1.out.trans (b12.mono hy1.out.size)
               have b2u : Below y2.heap.size y2 (y2.alloc (.cells prZ 31)) := (Below.refl _ _).alloc (Nat.le_refl _) _
               have u15z : u15 < y2.heap.size := by rw [hy2.out, size_sets, hu15]; simp
               rw [← hu15]
               clear hy2
               replace hu15 := Lib.hid hu15
               replace p15 := Lib.hid p15
               replace b02 := Lib.hid b02
               replace b12 := Lib.hid b12
               replace b2u := Lib.hid b2u)
            | (refine wpList_loadR rfl 31 (.tmp 15) rfl u15 0 (by rfl) _ (by exact p15.out.load) ?_)
            | (refine wpList_store31 rfl (.tmp 16) (.tmp 148) rfl y2.heap.size 0 (by rfl) S6 t2.n t2.n V6 t2.n t2.n t2.out (by rfl) (there_new y2 prZ 31) ?_
               intro y3 hy3
               obtain ⟨u16, hu16⟩ : ∃ u, u = y2.heap.size := ⟨_, rfl⟩
               have p16' : PVar y3 u16 S6 t2.n t2.n V6 t2.n t2.n t2.out := by rw [hy3.out, hu16]; exact PVar.put (there_new y2 prZ 31)
               have b23 : Below y2.heap.size y2 y3 := by rw [hy3.out]; exact below_sets b2u.out (Nat.le_refl _) _ _ (by simp)
               have u16z : u16 < y3.heap.size := by rw [hy3.out, size_sets, hu16]; simp
               have k16 : y3.cell? ⟨u16, 2, none⟩ = some (.int .i64 t2.own.rev) := p16'.c2
               have f16 : y3.frozen? ⟨u16, 2, none⟩ = false := there_frozen (k := 2) p16'.there (by omega)
               obtain ⟨y4, hy4⟩ : ∃ y, y = y3.setCell ⟨u16, 2, none⟩ (.int .i64 t.own.rev) := ⟨_, rfl⟩
               have p16 : PVar y4 u16 S6 t2.n t2.n V6 t2.n t2.n { t2.out with rev := t.own.rev } := by rw [hy4]; exact p16'.setRev _
               have b24 : Below y2.heap.size y2 y4 := by rw [hy4]; exact b23.setCell (by show y2.heap.size ≤ u16; omega) _
               have b04 : Below y0.heap.size y0 y4 := b02.out.trans (b24.mono b02.out.size)
               have b14 : Below y1.heap.size y1 y4 := b12.out.trans (b24.mono b12.out.size)
               have u16y4 : u16 < y4.heap.size := by rw [hy4, World.size_setCell]; exact u16z
               have u15y4 : u15 < y4.heap.size := Nat.lt_of_lt_of_le u15z b24.size
               have E4 := E0.out.below b04
               have ev4 := ev0.out.below b04
               have ep4 := ep0.out.below b04
               have eo4 := range_same eo0.out (b04.block v vy0)
               have vy4 : v < y4.heap.size := Nat.lt_of_lt_of_le vy0 b04.size
               have p15' := p15.out.same (b24.block u15 u15z)
               have rS4 := rS6.out.below b14
               have rV4 := rV6.out.below b14
               have b03 : Below y0.heap.size y0 y3 := b02.out.trans (b23.mono b02.out.size)
               have k8 : (loadVar 3 ⟨u8, 2, none⟩).run Try.prog y3 = .ok (.int .i64 t.own.rev) y3 := load3 (ep0.out.below b03).at_.c2
               rw [← hu16]
               clear hy3 b23 b24 b04 b14 b03 p16'
               replace hy4 := Lib.hid hy4
               replace hu16 := Lib.hid hu16
               replace p16 := Lib.hid p16
               replace p15' := Lib.hid p15'
               replace E4 := Lib.hid E4
               replace ev4 := Lib.hid ev4
               replace ep4 := Lib.hid ep4
               replace eo4 := Lib.hid eo4
               replace rS4 := Lib.hid rS4
               replace rV4 := Lib.hid rV4
               replace k8 := Lib.hid k8)
            | (refine wpList_loadR rfl 3 (.tmp 149) rfl u8 2 (by rfl) _ (by exact k8.out) ?_)
            | fail)
          rw [← hy4.out]
          clear k16 f16
          have wr2' := wr2.out
          have hb1 : decide (t2.own.cid < t.own.cid) = false := decide_eq_false (by have := hcid.out; omega)
          have hb2 : decide (t2.own.rev < t.own.rev) = false := decide_eq_false (by have := hrv1.out; omega)
          have hb3 : decide (t.own.rev + 1 < t2.own.rev) = false := decide_eq_false (by have := hrv2.out; omega)
          have hC : ∀ x' : Prop, (∀ W, Below y4.heap.size y4 W → x') ↔ x' := fun x' => ⟨fun f => f _ (Below.refl _ _), fun f _ _ => f⟩
          have P15 : ∀ W, Below y4.heap.size y4 W → PVar W u15 S6 t2.n t2.n V6 t2.n t2.n t2.out := fun W hW => p15'.out.same (hW.block u15 u15y4)
          have P16 : ∀ W, Below y4.heap.size y4 W → PVar W u16 S6 t2.n t2.n V6 t2.n t2.n { t2.out with rev := t.own.rev } := fun W hW => p16.out.same (hW.block u16 u16y4)
          have P8 : ∀ W, Below y4.heap.size y4 W → PVar W u8 S t.n cS V t.n cV t.out := fun W hW => (ep4.out.below hW).at_
          have La : ∀ W, Below y4.heap.size y4 W → (loadVar 3 ⟨u15, 1, none⟩).run Try.prog W = .ok (.int .i64 t2.own.cid) W := fun W hW => load3 (P15 W hW).c1
          have Lb : ∀ W, Below y4.heap.size y4 W → (loadVar 3 ⟨u15, 2, none⟩).run Try.prog W = .ok (.int .i64 t2.own.rev) W := fun W hW => load3 (P15 W hW).c2
          have Lc : ∀ W, Below y4.heap.size y4 W → (loadVar 3 ⟨u8, 1, none⟩).run Try.prog W = .ok (.int .i64 t.own.cid) W := fun W hW => load3 (P8 W hW).c1
          have Ld : ∀ W, Below y4.heap.size y4 W → (loadVar 3 ⟨u8, 2, none⟩).run Try.prog W = .ok (.int .i64 t.own.rev) W := fun W hW => load3 (P8 W hW).c2
          have Le : ∀ W, Below y4.heap.size y4 W → (loadVar 31 ⟨u8, 0, none⟩).run Try.prog W = .ok (.agg (prV S t.n cS V t.n cV t.out)) W := fun W hW => (P8 W hW).load
          have Lf : ∀ W, Below y4.heap.size y4 W → (loadVar 31 ⟨u16, 0, none⟩).run Try.prog W = .ok (.agg (prV S6 t2.n t2.n V6 t2.n t2.n { t2.out with rev := t.own.rev })) W := fun W hW => (P16 W hW).load
          replace La := Lib.hid La
          replace Lb := Lib.hid Lb
          replace Lc := Lib.hid Lc
          replace Ld := Lib.hid Ld
          replace Le := Lib.hid Le
          replace Lf := Lib.hid Lf
          replace P15 := Lib.hid P15
          replace P16 := Lib.hid P16
          replace P8 := Lib.hid P8
          have bd : Below y4.heap.size y4 y4.drew := Below.drew (Below.refl _ _)
          replace bd := Lib.hid bd
          refine wp_region_ord [([0, 1, 2, 3, 4, 5, 6, 7, 8, 9, 10, 11, 12, 13, 14, 15, 16, 17, 18, 19, 20, 21, 22, 23, 24, 25, 26, 27], 28)] [29, 30] (fun W => Below y4.heap.size y4 W) rfl (by kernel_rfl) rfl bd.out ?_
          refine WO.seg rfl ?_ bd.out
          simp only [picks, pick, List.cons_append, List.nil_append, List.append_nil]
          repeat (first
            | (refine wpQuiet_loadC (by rfl) 3 (.tmp 152) rfl u15 1 (by rfl) _ La.out ?_; simp only [Act.put, List.setIfInBounds_toArray, List.set_cons_zero, List.set_cons_succ])
            | (refine wpQuiet_loadC (by rfl) 3 (.tmp 154) rfl u8 1 (by rfl) _ Lc.out ?_; simp only [Act.put, List.setIfInBounds_toArray, List.set_cons_zero, List.set_cons_succ])
            | (refine wpQuiet_loadC (by rfl) 3 (.tmp 158) rfl u15 2 (by rfl) _ Lb.out ?_; simp only [Act.put, List.setIfInBounds_toArray, List.set_cons_zero, List.set_cons_succ])
            | (refine wpQuiet_loadC (by rfl) 3 (.tmp 160) rfl u8 2 (by rfl) _ Ld.out ?_; simp only [Act.put, List.setIfInBounds_toArray, List.set_cons_zero, List.set_cons_succ])
            | (refine wpQuiet_loadC (by rfl) 3 (.tmp 165) rfl u15 2 (by rfl) _ Lb.out ?_; simp only [Act.put, List.setIfInBounds_toArray, List.set_cons_zero, List.set_cons_succ])
            | (refine wpQuiet_loadC (by rfl) 3 (.tmp 167) rfl u8 2 (by rfl) _ Ld.out ?_; simp only [Act.put, List.setIfInBounds_toArray, List.set_cons_zero, List.set_cons_succ])
            | (refine wpQuiet_loadC (by rfl) 3 (.tmp 173) rfl u15 2 (by rfl) _ Lb.out ?_; simp only [Act.put, List.setIfInBounds_toArray, List.set_cons_zero, List.set_cons_succ])
            | (refine wpQuiet_loadC (by rfl) 3 (.tmp 175) rfl u8 2 (by rfl) _ Ld.out ?_; simp only [Act.put, List.setIfInBounds_toArray, List.set_cons_zero, List.set_cons_succ])
            | (refine wpQuiet_loadC (by rfl) 31 (.tmp 8) rfl u8 0 (by rfl) _ Le.out ?_; simp only [Act.put, List.setIfInBounds_toArray, List.set_cons_zero, List.set_cons_succ])
            | (refine wpQuiet_loadC (by rfl) 31 (.tmp 16) rfl u16 0 (by rfl) _ Lf.out ?_; simp only [Act.put, List.setIfInBounds_toArray, List.set_cons_zero, List.set_cons_succ])
            | go_big_quiet_step (fail))
          refine wpQuiet_nil ?_
          intro K hK
          go_simp
          go_at_call 33
          refine (proposals_any S V S6 V6 cS cV t2.n t2.n y4.drew.heap.size t.n t.n t2.n t2.n t.out { t2.out with rev := t.own.rev } (t.own.set.take t.n) (t.own.vec.take t.n) (t2.own.set.take t2.n) (t2.own.vec.take t2.n) y4.drew l1.out l2.out l3.out l4.out (Nat.le_refl _) (ep4.out.below bd.out).rS.row (ep4.out.below bd.out).rV.row (rS4.out.below bd.out).row (rV4.out.below bd.out).row (by omega) (by omega) (by omega) (by omega)).mono ?_
          rintro e y5 ⟨rfl, hy5⟩
          rw [← hs1'.out]
          have b45 : Below y4.heap.size y4 y5 := bd.out.trans hy5
          replace b45 := Lib.hid b45
          clear hy5
          go_wp2_with fail
          refine hK.out _ _ b45.out ?_
          clear hK K
          refine WO.end_ ?_
          simp only [picks, pick, List.cons_append, List.nil_append, List.append_nil]
          repeat (first
            | (refine wpQuiet_loadC (by rfl) 3 (.tmp 152) rfl u15 1 (by rfl) _ La.out ?_; simp only [Act.put, List.setIfInBounds_toArray, List.set_cons_zero, List.set_cons_succ])
            | (refine wpQuiet_loadC (by rfl) 3 (.tmp 154) rfl u8 1 (by rfl) _ Lc.out ?_; simp only [Act.put, List.setIfInBounds_toArray, List.set_cons_zero, List.set_cons_succ])
            | (refine wpQuiet_loadC (by rfl) 3 (.tmp 158) rfl u15 2 (by rfl) _ Lb.out ?_; simp only [Act.put, List.setIfInBounds_toArray, List.set_cons_zero, List.set_cons_succ])
            | (refine wpQuiet_loadC (by rfl) 3 (.tmp 160) rfl u8 2 (by rfl) _ Ld.out ?_; simp only [Act.put, List.setIfInBounds_toArray, List.set_cons_zero, List.set_cons_succ])
            | (refine wpQuiet_loadC (by rfl) 3 (.tmp 165) rfl u15 2 (by rfl) _ Lb.out ?_; simp only [Act.put, List.setIfInBounds_toArray, List.set_cons_zero, List.set_cons_succ])
            | (refine wpQuiet_loadC (by rfl) 3 (.tmp 167) rfl u8 2 (by rfl) _ Ld.out ?_; simp only [Act.put, List.setIfInBounds_toArray, List.set_cons_zero, List.set_cons_succ])
            | (refine wpQuiet_loadC (by rfl) 3 (.tmp 173) rfl u15 2 (by rfl) _ Lb.out ?_; simp only [Act.put, List.setIfInBounds_toArray, List.set_cons_zero, List.set_cons_succ])
            | (refine wpQuiet_loadC (by rfl) 3 (.tmp 175) rfl u8 2 (by rfl) _ Ld.out ?_; simp only [Act.put, List.setIfInBounds_toArray, List.set_cons_zero, List.set_cons_succ])
            | (refine wpQuiet_loadC (by rfl) 31 (.tmp 8) rfl u8 0 (by rfl) _ Le.out ?_; simp only [Act.put, List.setIfInBounds_toArray, List.set_cons_zero, List.set_cons_succ])
            | (refine wpQuiet_loadC (by rfl) 31 (.tmp 16) rfl u16 0 (by rfl) _ Lf.out ?_; simp only [Act.put, List.setIfInBounds_toArray, List.set_cons_zero, List.set_cons_succ])
            | go_big_quiet_step (fail))
          refine wpQuiet_nil ?_
          clear hC La Lb Lc Ld Le Lf bd P15 P16 P8 hb1 hb2 hb3 wr2'
          go_wp2_with fail
          have E5 := E4.out.below b45.out
          have ev5 := ev4.out.below b45.out
          have ep5 := ep4.out.below b45.out
          have eo5 := range_same eo4.out (b45.out.block v vy4)
          have p15'' := p15'.out.same (b45.out.block u15 u15y4)
          have u15y5 : u15 < y5.heap.size := Nat.lt_of_lt_of_le u15y4 b45.out.size
          have vy5 : v < y5.heap.size := Nat.lt_of_lt_of_le vy4 b45.out.size
          have rS5 := rS4.out.below b45.out
          have rV5 := rV4.out.below b45.out
          obtain ⟨gS, oS, rfl, hgS, csS⟩ := int_at' rS5.row (k := t2.self) (by rw [l3.out]; exact hR2.out.inv.self)
          obtain ⟨gV, oV, rfl, hgV, csV⟩ := int_at' rV5.row (k := t2.self) (by rw [l4.out]; exact hR2.out.inv.self)
          rw [hset.out] at csS
          rw [hvec.out] at csV
          have hz0' := hz0.out
          have hz1' := hz1.out
          have hC : ∀ x' : Prop, (∀ W, Below y5.heap.size y5 W → x') ↔ x' := fun x' => ⟨fun f => f _ (Below.refl _ _), fun f _ _ => f⟩
          have P15 : ∀ W, Below y5.heap.size y5 W → PVar W u15 (some ⟨gS, oS, none⟩) t2.n t2.n (some ⟨gV, oV, none⟩) t2.n t2.n t2.out := fun W hW => p15''.same (hW.block u15 u15y5)
          have oo : ∀ W, Below y5.heap.size y5 W → W.rangeAt v 0 (caseA n s i f A os.length c).toList := fun W hW => range_same eo5 (hW.block v vy5)
          have La : ∀ W, Below y5.heap.size y5 W → (loadVar 27 ⟨u15, 0, none⟩).run Try.prog W = .ok (.slice (some ⟨gS, oS, none⟩) t2.n t2.n) W := fun W hW => load27 (P15 W hW).c0
          have Lb : ∀ W, Below y5.heap.size y5 W → (loadVar 27 ⟨u15, 8, none⟩).run Try.prog W = .ok (.slice (some ⟨gV, oV, none⟩) t2.n t2.n) W := fun W hW => load27 (P15 W hW).c8
          have Lc : ∀ W, Below y5.heap.size y5 W → (loadVar 3 ⟨v, 0, none⟩).run Try.prog W = .ok (.int .i64 (t2.n : Int)) W := fun W hW => load3 (by rw [hn2.out.1]; exact oo W hW 0 _ rfl)
          have Ld : ∀ W, Below y5.heap.size y5 W → (loadVar 3 ⟨v, 1, none⟩).run Try.prog W = .ok (.int .i64 (t2.self : Int)) W := fun W hW => load3 (by rw [hn2.out.2.1]; exact oo W hW 1 _ rfl)
          have Le : ∀ W, Below y5.heap.size y5 W → (loadVar 3 ⟨v, 2, none⟩).run Try.prog W = .ok (.int .i64 t2.inc) W := fun W hW => load3 (by rw [hn2.out.2.2]; exact oo W hW 2 _ rfl)
          have Lf : ∀ W, Below y5.heap.size y5 W → (loadVar 3 ⟨u15, 1, none⟩).run Try.prog W = .ok (.int .i64 t2.own.cid) W := fun W hW => load3 (P15 W hW).c1
          have Lg : ∀ W, Below y5.heap.size y5 W → (loadVar 3 ⟨gS, oS + t2.self, none⟩).run Try.prog W = .ok (.int .i64 t2.inc) W := fun W hW => load3 ((hW.cell (p := ⟨gS, _, none⟩) hgS).trans csS)
          have Lh : ∀ W, Below y5.heap.size y5 W → (loadVar 3 ⟨gV, oV + t2.self, none⟩).run Try.prog W = .ok (.int .i64 t2.own.cid) W := fun W hW => load3 ((hW.cell (p := ⟨gV, _, none⟩) hgV).trans csV)
          replace La := Lib.hid La
          replace Lb := Lib.hid Lb
          replace Lc := Lib.hid Lc
          replace Ld := Lib.hid Ld
          replace Le := Lib.hid Le
          replace Lf := Lib.hid Lf
          replace Lg := Lib.hid Lg
          replace Lh := Lib.hid Lh
          replace E5 := Lib.hid E5
          replace ev5 := Lib.hid ev5
          replace ep5 := Lib.hid ep5
          replace eo5 := Lib.hid eo5
          replace p15'' := Lib.hid p15''
          replace rS5 := Lib.hid rS5
          replace rV5 := Lib.hid rV5
          clear csS csV P15 oo
          have bd : Below y5.heap.size y5 y5.drew := Below.drew (Below.refl _ _)
          replace bd := Lib.hid bd
          refine wp_region_ord [([0, 1, 3, 4], 2), ([5, 6, 7, 8, 10, 11], 9)] [12, 13, 14, 15, 16, 17, 18, 19, 20, 21, 22, 23, 24, 25, 26, 27, 28, 29, 30, 31, 32, 33, 34, 35] (fun W => Below y5.heap.size y5 W) rfl (by kernel_rfl) rfl bd.out ?_
          refine WO.seg rfl ?_ bd.out
          simp only [picks, pick, List.cons_append, List.nil_append, List.append_nil]
          repeat (first
            | (refine wpQuiet_loadC (by rfl) 27 (.tmp 183) rfl u15 0 (by rfl) _ La.out ?_; simp only [Act.put, List.setIfInBounds_toArray, List.set_cons_zero, List.set_cons_succ])
            | (refine wpQuiet_loadC (by rfl) 3 (.tmp 186) rfl v 0 (by rfl) _ Lc.out ?_; simp only [Act.put, List.setIfInBounds_toArray, List.set_cons_zero, List.set_cons_succ])
            | (refine wpQuiet_loadC (by rfl) 27 (.tmp 190) rfl u15 8 (by rfl) _ Lb.out ?_; simp only [Act.put, List.setIfInBounds_toArray, List.set_cons_zero, List.set_cons_succ])
            | (refine wpQuiet_loadC (by rfl) 3 (.tmp 193) rfl v 0 (by rfl) _ Lc.out ?_; simp only [Act.put, List.setIfInBounds_toArray, List.set_cons_zero, List.set_cons_succ])
            | (refine wpQuiet_loadC (by rfl) 27 (.tmp 198) rfl u15 0 (by rfl) _ La.out ?_; simp only [Act.put, List.setIfInBounds_toArray, List.set_cons_zero, List.set_cons_succ])
            | (refine wpQuiet_loadC (by rfl) 3 (.tmp 200) rfl v 1 (by rfl) _ Ld.out ?_; simp only [Act.put, List.setIfInBounds_toArray, List.set_cons_zero, List.set_cons_succ])
            | (refine wpQuiet_loadC (by rfl) 3 (.tmp 202) rfl gS (oS + t2.self) (by rfl) _ Lg.out ?_; simp only [Act.put, List.setIfInBounds_toArray, List.set_cons_zero, List.set_cons_succ])
            | (refine wpQuiet_loadC (by rfl) 3 (.tmp 204) rfl v 2 (by rfl) _ Le.out ?_; simp only [Act.put, List.setIfInBounds_toArray, List.set_cons_zero, List.set_cons_succ])
            | (refine wpQuiet_loadC (by rfl) 27 (.tmp 209) rfl u15 8 (by rfl) _ Lb.out ?_; simp only [Act.put, List.setIfInBounds_toArray, List.set_cons_zero, List.set_cons_succ])
            | (refine wpQuiet_loadC (by rfl) 3 (.tmp 211) rfl v 1 (by rfl) _ Ld.out ?_; simp only [Act.put, List.setIfInBounds_toArray, List.set_cons_zero, List.set_cons_succ])
            | (refine wpQuiet_loadC (by rfl) 3 (.tmp 213) rfl gV (oV + t2.self) (by rfl) _ Lh.out ?_; simp only [Act.put, List.setIfInBounds_toArray, List.set_cons_zero, List.set_cons_succ])
            | (refine wpQuiet_loadC (by rfl) 3 (.tmp 215) rfl u15 1 (by rfl) _ Lf.out ?_; simp only [Act.put, List.setIfInBounds_toArray, List.set_cons_zero, List.set_cons_succ])
            | go_big_quiet_step (fail))
          refine wpQuiet_nil ?_
          intro K hK
          go_simp
          refine hK.out _ _ bd.out ?_
          clear hK K
          refine WO.seg rfl ?_ bd.out
          simp only [picks, pick, List.cons_append, List.nil_append, List.append_nil]
          repeat (first
            | (refine wpQuiet_loadC (by rfl) 27 (.tmp 183) rfl u15 0 (by rfl) _ La.out ?_; simp only [Act.put, List.setIfInBounds_toArray, List.set_cons_zero, List.set_cons_succ])
            | (refine wpQuiet_loadC (by rfl) 3 (.tmp 186) rfl v 0 (by rfl) _ Lc.out ?_; simp only [Act.put, List.setIfInBounds_toArray, List.set_cons_zero, List.set_cons_succ])
            | (refine wpQuiet_loadC (by rfl) 27 (.tmp 190) rfl u15 8 (by rfl) _ Lb.out ?_; simp only [Act.put, List.setIfInBounds_toArray, List.set_cons_zero, List.set_cons_succ])
            | (refine wpQuiet_loadC (by rfl) 3 (.tmp 193) rfl v 0 (by rfl) _ Lc.out ?_; simp only [Act.put, List.setIfInBounds_toArray, List.set_cons_zero, List.set_cons_succ])
            | (refine wpQuiet_loadC (by rfl) 27 (.tmp 198) rfl u15 0 (by rfl) _ La.out ?_; simp only [Act.put, List.setIfInBounds_toArray, List.set_cons_zero, List.set_cons_succ])
            | (refine wpQuiet_loadC (by rfl) 3 (.tmp 200) rfl v 1 (by rfl) _ Ld.out ?_; simp only [Act.put, List.setIfInBounds_toArray, List.set_cons_zero, List.set_cons_succ])
            | (refine wpQuiet_loadC (by rfl) 3 (.tmp 202) rfl gS (oS + t2.self) (by rfl) _ Lg.out ?_; simp only [Act.put, List.setIfInBounds_toArray, List.set_cons_zero, List.set_cons_succ])
            | (refine wpQuiet_loadC (by rfl) 3 (.tmp 204) rfl v 2 (by rfl) _ Le.out ?_; simp only [Act.put, List.setIfInBounds_toArray, List.set_cons_zero, List.set_cons_succ])
            | (refine wpQuiet_loadC (by rfl) 27 (.tmp 209) rfl u15 8 (by rfl) _ Lb.out ?_; simp only [Act.put, List.setIfInBounds_toArray, List.set_cons_zero, List.set_cons_succ])
            | (refine wpQuiet_loadC (by rfl) 3 (.tmp 211) rfl v 1 (by rfl) _ Ld.out ?_; simp only [Act.put, List.setIfInBounds_toArray, List.set_cons_zero, List.set_cons_succ])
            | (refine wpQuiet_loadC (by rfl) 3 (.tmp 213) rfl gV (oV + t2.self) (by rfl) _ Lh.out ?_; simp only [Act.put, List.setIfInBounds_toArray, List.set_cons_zero, List.set_cons_succ])
            | (refine wpQuiet_loadC (by rfl) 3 (.tmp 215) rfl u15 1 (by rfl) _ Lf.out ?_; simp only [Act.put, List.setIfInBounds_toArray, List.set_cons_zero, List.set_cons_succ])
            | go_big_quiet_step (fail))
          refine wpQuiet_nil ?_
          intro K hK
          go_simp
          refine hK.out _ _ bd.out ?_
          clear hK K
          refine WO.end_ ?_
          simp only [picks, pick, List.cons_append, List.nil_append, List.append_nil]
          repeat (first
            | (refine wpQuiet_loadC (by rfl) 27 (.tmp 183) rfl u15 0 (by rfl) _ La.out ?_; simp only [Act.put, List.setIfInBounds_toArray, List.set_cons_zero, List.set_cons_succ])
            | (refine wpQuiet_loadC (by rfl) 3 (.tmp 186) rfl v 0 (by rfl) _ Lc.out ?_; simp only [Act.put, List.setIfInBounds_toArray, List.set_cons_zero, List.set_cons_succ])
            | (refine wpQuiet_loadC (by rfl) 27 (.tmp 190) rfl u15 8 (by rfl) _ Lb.out ?_; simp only [Act.put, List.setIfInBounds_toArray, List.set_cons_zero, List.set_cons_succ])
            | (refine wpQuiet_loadC (by rfl) 3 (.tmp 193) rfl v 0 (by rfl) _ Lc.out ?_; simp only [Act.put, List.setIfInBounds_toArray, List.set_cons_zero, List.set_cons_succ])
            | (refine wpQuiet_loadC (by rfl) 27 (.tmp 198) rfl u15 0 (by rfl) _ La.out ?_; simp only [Act.put, List.setIfInBounds_toArray, List.set_cons_zero, List.set_cons_succ])
            | (refine wpQuiet_loadC (by rfl) 3 (.tmp 200) rfl v 1 (by rfl) _ Ld.out ?_; simp only [Act.put, List.setIfInBounds_toArray, List.set_cons_zero, List.set_cons_succ])
            | (refine wpQuiet_loadC (by rfl) 3 (.tmp 202) rfl gS (oS + t2.self) (by rfl) _ Lg.out ?_; simp only [Act.put, List.setIfInBounds_toArray, List.set_cons_zero, List.set_cons_succ])
            | (refine wpQuiet_loadC (by rfl) 3 (.tmp 204) rfl v 2 (by rfl) _ Le.out ?_; simp only [Act.put, List.setIfInBounds_toArray, List.set_cons_zero, List.set_cons_succ])
            | (refine wpQuiet_loadC (by rfl) 27 (.tmp 209) rfl u15 8 (by rfl) _ Lb.out ?_; simp only [Act.put, List.setIfInBounds_toArray, List.set_cons_zero, List.set_cons_succ])
            | (refine wpQuiet_loadC (by rfl) 3 (.tmp 211) rfl v 1 (by rfl) _ Ld.out ?_; simp only [Act.put, List.setIfInBounds_toArray, List.set_cons_zero, List.set_cons_succ])
            | (refine wpQuiet_loadC (by rfl) 3 (.tmp 213) rfl gV (oV + t2.self) (by rfl) _ Lh.out ?_; simp only [Act.put, List.setIfInBounds_toArray, List.set_cons_zero, List.set_cons_succ])
            | (refine wpQuiet_loadC (by rfl) 3 (.tmp 215) rfl u15 1 (by rfl) _ Lf.out ?_; simp only [Act.put, List.setIfInBounds_toArray, List.set_cons_zero, List.set_cons_succ])
            | go_big_quiet_step (fail))
          refine wpQuiet_nil ?_
          clear hC La Lb Lc Ld Le Lf Lg Lh hz0' hz1'
          have E6 := E5.out.below bd.out
          have ev6 := ev5.out.below bd.out
          have ep6 := ep5.out.below bd.out
          have p6 := p15''.out.same (bd.out.block u15 u15y5)
          have rS6 := rS5.out.below bd.out
          have rV6 := rV5.out.below bd.out
          have hF : ∀ y ∈ [u8, u5, b], y < y0.heap.size := fun y hy => by
            rcases List.mem_cons.1 hy with e | e
            · subst e; exact ep0.out.lt
            · rcases List.mem_cons.1 e with e | e
              · subst e; exact ev0.out.lt
              · have := List.mem_singleton.1 e; subst this; exact E0.out.hi _ E0.out.aF
          replace hF := Lib.hid hF
          replace E6 := Lib.hid E6
          replace ev6 := Lib.hid ev6
          replace ep6 := Lib.hid ep6
          replace p6 := Lib.hid p6
          replace rS6 := Lib.hid rS6
          replace rV6 := Lib.hid rV6
          go_wp2_with (first
            | (refine wpList_loadR rfl 31 (.tmp 15) rfl u15 0 (by rfl) _ (by exact p6.out.load) ?_)
            | (refine wpList_store31 rfl (.tmp 8) (.tmp 219) rfl u8 0 (by rfl) (some ⟨gS, oS, none⟩) t2.n t2.n (some ⟨gV, oV, none⟩) t2.n t2.n t2.out (by rfl) ep6.out.at_.there ?_
               intro y7 hy7
               have g7 : y5.drew.grownBy y7 (some u8) := by rw [hy7.out]; exact grown_sets _ _ _ _
               have E7 := E6.out.spoil (List.mem_cons_self ..) (fun e => hbu8.out e.symm) g7
               have ev7 := ev6.out.grown g7 (List.mem_cons_self ..) (fun e => hu58.out e.symm)
               have ep7 : PV y7 [u8, u5, b] u8 t2.n t2.out (t2.own.set.take t2.n) (t2.own.vec.take t2.n) (some ⟨gS, oS, none⟩) t2.n (some ⟨gV, oV, none⟩) t2.n := by
                 refine ⟨by rw [hy7.out]; exact PVar.put ep6.out.at_.there, ?_, ?_, Nat.lt_of_lt_of_le ep6.out.lt g7.size⟩
                 · exact (rS6.out.away hF.out).keep g7.size (fun k hk hn => g7.block k hk (by intro e; injection e with e; subst e; exact hn (List.mem_cons_self ..)))
                 · exact (rV6.out.away hF.out).keep g7.size (fun k hk hn => g7.block k hk (by intro e; injection e with e; subst e; exact hn (List.mem_cons_self ..)))
               clear hy7 g7
               replace E7 := Lib.hid E7
               replace ev7 := Lib.hid ev7
               replace ep7 := Lib.hid ep7)
            | fail)
          go_roundw
          case rel => go_light; exact ⟨q + 1, t2, M4, cM4, _, _, _, _, _, _, by go_num, by omega, E7.out, hR2.out, hn2.out, ev7.out, ep7.out⟩
          case measure => go_light; simp [intOf]; omega
        | false =>
          obtain ⟨t2, ht2⟩ : ∃ t', t' = t.install := ⟨_, rfl⟩
          have hup : Up t t2 ∨ (t2.own = t.own ∧ t2.n = t.n) := .inr (by rw [ht2]; exact (install_out t).2)
          have hn2 : t2.n = n ∧ t2.self = s ∧ t2.inc = i := by
            obtain ⟨e1, e2, e3⟩ := install_n t
            rw [ht2, e1, e2, e3]; exact ⟨tn.out, ts.out, ti.out⟩
          have hst := install_same hsome
          have hE := install_not hsome
          have hR2 : Ris t2 := by rw [ht2, hst]; exact hR.out
          replace hst := Lib.hid hst
          replace hE := Lib.hid hE
          replace hR2 := Lib.hid hR2
          replace hup := Lib.hid hup
          replace hn2 := Lib.hid hn2
          replace ht2 := Lib.hid ht2
          replace hsome := Lib.hid hsome
          go_wp2_with (first
            | (refine wpList_loadR rfl 71 (.tmp 90) rfl g (off + q * 13) (by rfl) _ (by exact hld.out) ?_)
            | (refine wpList_store71 rfl (.tmp 10) (.tmp 91) rfl wr.heap.size 0 (by rfl) y.o y.P (by rfl) (there_new wr opZ 71) ?_
               intro w1 hw1
               have b1 : Below wr.heap.size wr w1 := by rw [hw1.out]; exact below_sets ((Below.refl _ _).alloc (Nat.le_refl _) _) (Nat.le_refl _) _ _ (by simp)
               have o1 : w1.rangeAt wr.heap.size 0 (opA y.o y.P).toList := by rw [hw1.out]; exact World.rangeAt_setCells_same _ _ _ _ (there_new wr opZ 71)
               have z1 : wr.heap.size < w1.heap.size := by rw [hw1.out, size_sets]; simp
               obtain ⟨u1, hu1⟩ : ∃ u, u = wr.heap.size := ⟨_, rfl⟩
               have D1 := D.out.below b1
               have vv1 := vv.out.below b1
               have pv1 := pv.out.below b1
               have oq1 := range_same oq.out (b1.block v hvr)
               have k0 := load3 (o1 0 _ rfl)
               rw [← hu1] at o1 k0 ⊢
               replace o1 := Lib.hid o1
               replace D1 := Lib.hid D1
               replace vv1 := Lib.hid vv1
               replace pv1 := Lib.hid pv1
               replace oq1 := Lib.hid oq1
               replace hu1 := Lib.hid hu1
               replace z1 := Lib.hid z1
               replace k0 := Lib.hid k0
               clear c4 b1 hw1)
            | (refine wpList_loadR rfl 3 (.tmp 92) rfl u1 0 (by rfl) _ (by exact k0.out) ?_)
            | (refine wpList_loadR rfl 71 (.tmp 10) rfl u1 0 (by rfl) _ (by exact load71z o1.out) ?_)
            | fail)
          go_wp2_with (first
            | (go_at_call 27
               refine (install_solo D1.out).mono ?_
               rintro e w2 ⟨B4, c4, T4, cT4, M4, cM4, rfl, rB4, rT4, D2, g2⟩
               rw [hE.out]
               rw [← ht2.out] at D2
               have b2u : Below w2.heap.size w2 (w2.alloc (.cells (viewA Vid.zero none 0 0) 46)) := (Below.refl _ _).alloc (Nat.le_refl _) _
               have hvb : some v ≠ some b := by intro e; injection e with e; have := D1.out.lo b D1.out.aF; omega
               have vw1 : v < w1.heap.size := Nat.lt_trans hvr z1.out
               have vv2 := vv1.out.grown g2 (List.mem_cons_of_mem _ (List.mem_cons_of_mem _ (List.mem_cons_self ..))) hbu5.out
               have pv2 := pv1.out.grown g2 (List.mem_cons_of_mem _ (List.mem_cons_of_mem _ (List.mem_cons_self ..))) hbu8.out
               have oq2 := range_same oq1.out (g2.block v vw1 hvb)
               have vw2 : v < w2.heap.size := Nat.lt_of_lt_of_le vw1 g2.size
               have rF2 : RowF w2 [u8, u5, b] 3 eMb B4 (agM t.agreed) := rB4.away (fun y hy => D1.out.hi y hy)
               have lag := agM_len D1.out.inv
               clear k0 g2 hvb vw1
               replace lag := Lib.hid lag
               replace D2 := Lib.hid D2
               replace vv2 := Lib.hid vv2
               replace pv2 := Lib.hid pv2
               replace oq2 := Lib.hid oq2
               replace rF2 := Lib.hid rF2
               replace rT4 := Lib.hid rT4
               replace b2u := Lib.hid b2u)
            | (refine wpList_store46 rfl (.tmp 11) (.tmp 98) rfl w2.heap.size 0 (by rfl) (agV t.agreed) B4 (agM t.agreed).length c4 (by rfl) (there_new w2 (viewA Vid.zero none 0 0) 46) ?_
               intro y0 hw3
               obtain ⟨u11, hu11⟩ : ∃ u, u = w2.heap.size := ⟨_, rfl⟩
               have p11 : ViAt y0 u11 (agV t.agreed) B4 (agM t.agreed).length c4 := by rw [hw3.out, hu11]; exact viAt_put (there_new w2 (viewA Vid.zero none 0 0) 46)
               have b23 : Below w2.heap.size w2 y0 := by rw [hw3.out]; exact below_sets b2u.out (Nat.le_refl _) _ _ (by simp)
               have u11z : u11 < y0.heap.size := by rw [hw3.out, size_sets, hu11]; simp
               have E0 := D2.out.below b23
               have ev0 := vv2.out.below b23
               have ep0 := pv2.out.below b23
               have eo0 := range_same oq2.out (b23.block v vw2)
               have vy0 : v < y0.heap.size := Nat.lt_of_lt_of_le vw2 b23.size
               have rF3 := rF2.out.below b23
               have rT3 := rT4.out.below b23
               rw [← hu11]
               clear b23 hw3
               replace hu11 := Lib.hid hu11
               replace p11 := Lib.hid p11
               replace E0 := Lib.hid E0
               replace ep0 := Lib.hid ep0
               replace eo0 := Lib.hid eo0
               replace rF3 := Lib.hid rF3
               replace rT3 := Lib.hid rT3
               rw [← hst.out, ← ht2.out] at ev0
               replace ev0 := Lib.hid ev0)
            | fail)
          have n16t : t2.n ≤ 16 := hR2.out.inv.n2
          obtain ⟨hs1', hcid, hrv1, hrv2⟩ := out_same hR.out hR2.out hup.out { t2.out with rev := t.own.rev } rfl
          have wr2 : IntKind.i64.wrap (t.own.rev + 1) = t.own.rev + 1 := ris_sizes hR.out
          have hset : nth (t2.own.set.take t2.n) t2.self = t2.inc := by rw [nth_take hR2.out.inv.self]; exact hR2.out.inv.me
          have hvec : nth (t2.own.vec.take t2.n) t2.self = t2.own.cid := by rw [nth_take hR2.out.inv.self]; exact hR2.out.me
          have l1 : (t.own.set.take t.n).length = t.n := List.length_take_of_le (by rw [hR.out.inv.own.set]; exact n16')
          have l2 : (t.own.vec.take t.n).length = t.n := List.length_take_of_le (by rw [hR.out.inv.own.vec]; exact n16')
          have l3 : (t2.own.set.take t2.n).length = t2.n := List.length_take_of_le (by rw [hR2.out.inv.own.set]; exact n16t)
          have l4 : (t2.own.vec.take t2.n).length = t2.n := List.length_take_of_le (by rw [hR2.out.inv.own.vec]; exact n16t)
          have hz1 : (t2.self : Int) < (t2.n : Int) := by have := hR2.out.inv.self; omega
          have hz0 : (0 : Int) ≤ (t2.self : Int) := by omega
          replace hs1' := Lib.hid hs1'
          replace hset := Lib.hid hset
          replace hvec := Lib.hid hvec
          replace l1 := Lib.hid l1
          replace l2 := Lib.hid l2
          replace l3 := Lib.hid l3
          replace l4 := Lib.hid l4
          replace hcid := Lib.hid hcid
          replace hrv1 := Lib.hid hrv1
          replace hrv2 := Lib.hid hrv2
          replace wr2 := Lib.hid wr2
          replace hz0 := Lib.hid hz0
          replace hz1 := Lib.hid hz1
          go_wp2_with (first
            | (go_at_call 30
               refine (proposal_any b t2 M4 cM4 y0 E0.out.ag (E0.out.hi b E0.out.aF) n16t).mono ?_
               rintro e y1 ⟨S6, V6, rfl, rS6, rV6, hy1⟩
               have b1u : Below y1.heap.size y1 (y1.alloc (.cells prZ 31)) := (Below.refl _ _).alloc (Nat.le_refl _) _
               replace rS6 := Lib.hid rS6
               replace rV6 := Lib.hid rV6
               replace b1u := Lib.hid b1u
               replace hy1 := Lib.hid hy1)
            | (refine wpList_store31 rfl (.tmp 15) (.tmp 147) rfl y1.heap.size 0 (by rfl) S6 t2.n t2.n V6 t2.n t2.n t2.out (by rfl) (there_new y1 prZ 31) ?_
               intro y2 hy2
               obtain ⟨u15, hu15⟩ : ∃ u, u = y1.heap.size := ⟨_, rfl⟩
               have p15 : PVar y2 u15 S6 t2.n t2.n V6 t2.n t2.n t2.out := by rw [hy2.out, hu15]; exact PVar.put (there_new y1 prZ 31)
               have b12 : Below y1.heap.size y1 y2 := by rw [hy2.out]; exact below_sets b1u.out (Nat.le_refl _) _ _ (by simp)
               have b02 : Below y0.heap.size y0 y2 := hy1.out.trans (b12.mono hy1.out.size)
               have b2u : Below y2.heap.size y2 (y2.alloc (.cells prZ 31)) := (Below.refl _ _).alloc (Nat.le_refl _) _
               have u15z : u15 < y2.heap.size := by rw [hy2.out, size_sets, hu15]; simp
               rw [← hu15]
               clear hy2
               replace hu15 := Lib.hid hu15
               replace p15 := Lib.hid p15
               replace b02 := Lib.hid b02
               replace b12 := Lib.hid b12
               replace b2u := Lib.hid b2u)
            | (refine wpList_loadR rfl 31 (.tmp 15) rfl u15 0 (by rfl) _ (by exact p15.out.load) ?_)
            | (refine wpList_store31 rfl (.tmp 16) (.tmp 148) rfl y2.heap.size 0 (by rfl) S6 t2.n t2.n V6 t2.n t2.n t2.out (by rfl) (there_new y2 prZ 31) ?_
               intro y3 hy3
               obtain ⟨u16, hu16⟩ : ∃ u, u = y2.heap.size := ⟨_, rfl⟩
               have p16' : PVar y3 u16 S6 t2.n t2.n V6 t2.n t2.n t2.out := by rw [hy3.out, hu16]; exact PVar.put (there_new y2 prZ 31)
               have b23 : Below y2.heap.size y2 y3 := by rw [hy3.out]; exact below_sets b2u.out (Nat.le_refl _) _ _ (by simp)
               have u16z : u16 < y3.heap.size := by rw [hy3.out, size_sets, hu16]; simp
               have k16 : y3.cell? ⟨u16, 2, none⟩ = some (.int .i64 t2.own.rev) := p16'.c2
               have f16 : y3.frozen? ⟨u16, 2, none⟩ = false := there_frozen (k := 2) p16'.there (by omega)
               obtain ⟨y4, hy4⟩ : ∃ y, y = y3.setCell ⟨u16, 2, none⟩ (.int .i64 t.own.rev) := ⟨_, rfl⟩
               have p16 : PVar y4 u16 S6 t2.n t2.n V6 t2.n t2.n { t2.out with rev := t.own.rev } := by rw [hy4]; exact p16'.setRev _
               have b24 : Below y2.heap.size y2 y4 := by rw [hy4]; exact b23.setCell (by show y2.heap.size ≤ u16; omega) _
               have b04 : Below y0.heap.size y0 y4 := b02.out.trans (b24.mono b02.out.size)
               have b14 : Below y1.heap.size y1 y4 := b12.out.trans (b24.mono b12.out.size)
               have u16y4 : u16 < y4.heap.size := by rw [hy4, World.size_setCell]; exact u16z
               have u15y4 : u15 < y4.heap.size := Nat.lt_of_lt_of_le u15z b24.size
               have E4 := E0.out.below b04
               have ev4 := ev0.out.below b04
               have ep4 := ep0.out.below b04
               have eo4 := range_same eo0.out (b04.block v vy0)
               have vy4 : v < y4.heap.size := Nat.lt_of_lt_of_le vy0 b04.size
               have p15' := p15.out.same (b24.block u15 u15z)
               have rS4 := rS6.out.below b14
               have rV4 := rV6.out.below b14
               have b03 : Below y0.heap.size y0 y3 := b02.out.trans (b23.mono b02.out.size)
               have k8 : (loadVar 3 ⟨u8, 2, none⟩).run Try.prog y3 = .ok (.int .i64 t.own.rev) y3 := load3 (ep0.out.below b03).at_.c2
               rw [← hu16]
               clear hy3 b23 b24 b04 b14 b03 p16'
               replace hy4 := Lib.hid hy4
               replace hu16 := Lib.hid hu16
               replace p16 := Lib.hid p16
               replace p15' := Lib.hid p15'
               replace E4 := Lib.hid E4
               replace ev4 := Lib.hid ev4
               replace ep4 := Lib.hid ep4
               replace eo4 := Lib.hid eo4
               replace rS4 := Lib.hid rS4
               replace rV4 := Lib.hid rV4
               replace k8 := Lib.hid k8)
            | (refine wpList_loadR rfl 3 (.tmp 149) rfl u8 2 (by rfl) _ (by exact k8.out) ?_)
            | fail)
          rw [← hy4.out]
          clear k16 f16
          have wr2' := wr2.out
          have hb1 : decide (t2.own.cid < t.own.cid) = false := decide_eq_false (by have := hcid.out; omega)
          have hb2 : decide (t2.own.rev < t.own.rev) = false := decide_eq_false (by have := hrv1.out; omega)
          have hb3 : decide (t.own.rev + 1 < t2.own.rev) = false := decide_eq_false (by have := hrv2.out; omega)
          have hC : ∀ x' : Prop, (∀ W, Below y4.heap.size y4 W → x') ↔ x' := fun x' => ⟨fun f => f _ (Below.refl _ _), fun f _ _ => f⟩
          have P15 : ∀ W, Below y4.heap.size y4 W → PVar W u15 S6 t2.n t2.n V6 t2.n t2.n t2.out := fun W hW => p15'.out.same (hW.block u15 u15y4)
          have P16 : ∀ W, Below y4.heap.size y4 W → PVar W u16 S6 t2.n t2.n V6 t2.n t2.n { t2.out with rev := t.own.rev } := fun W hW => p16.out.same (hW.block u16 u16y4)
          have P8 : ∀ W, Below y4.heap.size y4 W → PVar W u8 S t.n cS V t.n cV t.out := fun W hW => (ep4.out.below hW).at_
          have La : ∀ W, Below y4.heap.size y4 W → (loadVar 3 ⟨u15, 1, none⟩).run Try.prog W = .ok (.int .i64 t2.own.cid) W := fun W hW => load3 (P15 W hW).c1
          have Lb : ∀ W, Below y4.heap.size y4 W → (loadVar 3 ⟨u15, 2, none⟩).run Try.prog W = .ok (.int .i64 t2.own.rev) W := fun W hW => load3 (P15 W hW).c2
          have Lc : ∀ W, Below y4.heap.size y4 W → (loadVar 3 ⟨u8, 1, none⟩).run Try.prog W = .ok (.int .i64 t.own.cid) W := fun W hW => load3 (P8 W hW).c1
          have Ld : ∀ W, Below y4.heap.size y4 W → (loadVar 3 ⟨u8, 2, none⟩).run Try.prog W = .ok (.int .i64 t.own.rev) W := fun W hW => load3 (P8 W hW).c2
          have Le : ∀ W, Below y4.heap.size y4 W → (loadVar 31 ⟨u8, 0, none⟩).run Try.prog W = .ok (.agg (prV S t.n cS V t.n cV t.out)) W := fun W hW => (P8 W hW).load
          have Lf : ∀ W, Below y4.heap.size y4 W → (loadVar 31 ⟨u16, 0, none⟩).run Try.prog W = .ok (.agg (prV S6 t2.n t2.n V6 t2.n t2.n { t2.out with rev := t.own.rev })) W := fun W hW => (P16 W hW).load
          replace La := Lib.hid La
          replace Lb := Lib.hid Lb
          replace Lc := Lib.hid Lc
          replace Ld := Lib.hid Ld
          replace Le := Lib.hid Le
          replace Lf := Lib.hid Lf
          replace P15 := Lib.hid P15
          replace P16 := Lib.hid P16
          replace P8 := Lib.hid P8
          have bd : Below y4.heap.size y4 y4.drew := Below.drew (Below.refl _ _)
          replace bd := Lib.hid bd
          refine wp_region_ord [([0, 1, 2, 3, 4, 5, 6, 7, 8, 9, 10, 11, 12, 13, 14, 15, 16, 17, 18, 19, 20, 21, 22, 23, 24, 25, 26, 27], 28)] [29, 30] (fun W => Below y4.heap.size y4 W) rfl (by kernel_rfl) rfl bd.out ?_
          refine WO.seg rfl ?_ bd.out
          simp only [picks, pick, List.cons_append, List.nil_append, List.append_nil]
          repeat (first
            | (refine wpQuiet_loadC (by rfl) 3 (.tmp 152) rfl u15 1 (by rfl) _ La.out ?_; simp only [Act.put, List.setIfInBounds_toArray, List.set_cons_zero, List.set_cons_succ])
            | (refine wpQuiet_loadC (by rfl) 3 (.tmp 154) rfl u8 1 (by rfl) _ Lc.out ?_; simp only [Act.put, List.setIfInBounds_toArray, List.set_cons_zero, List.set_cons_succ])
            | (refine wpQuiet_loadC (by rfl) 3 (.tmp 158) rfl u15 2 (by rfl) _ Lb.out ?_; simp only [Act.put, List.setIfInBounds_toArray, List.set_cons_zero, List.set_cons_succ])
            | (refine wpQuiet_loadC (by rfl) 3 (.tmp 160) rfl u8 2 (by rfl) _ Ld.out ?_; simp only [Act.put, List.setIfInBounds_toArray, List.set_cons_zero, List.set_cons_succ])
            | (refine wpQuiet_loadC (by rfl) 3 (.tmp 165) rfl u15 2 (by rfl) _ Lb.out ?_; simp only [Act.put, List.setIfInBounds_toArray, List.set_cons_zero, List.set_cons_succ])
            | (refine wpQuiet_loadC (by rfl) 3 (.tmp 167) rfl u8 2 (by rfl) _ Ld.out ?_; simp only [Act.put, List.setIfInBounds_toArray, List.set_cons_zero, List.set_cons_succ])
            | (refine wpQuiet_loadC (by rfl) 3 (.tmp 173) rfl u15 2 (by rfl) _ Lb.out ?_; simp only [Act.put, List.setIfInBounds_toArray, List.set_cons_zero, List.set_cons_succ])
            | (refine wpQuiet_loadC (by rfl) 3 (.tmp 175) rfl u8 2 (by rfl) _ Ld.out ?_; simp only [Act.put, List.setIfInBounds_toArray, List.set_cons_zero, List.set_cons_succ])
            | (refine wpQuiet_loadC (by rfl) 31 (.tmp 8) rfl u8 0 (by rfl) _ Le.out ?_; simp only [Act.put, List.setIfInBounds_toArray, List.set_cons_zero, List.set_cons_succ])
            | (refine wpQuiet_loadC (by rfl) 31 (.tmp 16) rfl u16 0 (by rfl) _ Lf.out ?_; simp only [Act.put, List.setIfInBounds_toArray, List.set_cons_zero, List.set_cons_succ])
            | go_big_quiet_step (fail))
          refine wpQuiet_nil ?_
          intro K hK
          go_simp
          go_at_call 33
          refine (proposals_any S V S6 V6 cS cV t2.n t2.n y4.drew.heap.size t.n t.n t2.n t2.n t.out { t2.out with rev := t.own.rev } (t.own.set.take t.n) (t.own.vec.take t.n) (t2.own.set.take t2.n) (t2.own.vec.take t2.n) y4.drew l1.out l2.out l3.out l4.out (Nat.le_refl _) (ep4.out.below bd.out).rS.row (ep4.out.below bd.out).rV.row (rS4.out.below bd.out).row (rV4.out.below bd.out).row (by omega) (by omega) (by omega) (by omega)).mono ?_
          rintro e y5 ⟨rfl, hy5⟩
          rw [← hs1'.out]
          have b45 : Below y4.heap.size y4 y5 := bd.out.trans hy5
          replace b45 := Lib.hid b45
          clear hy5
          go_wp2_with fail
          refine hK.out _ _ b45.out ?_
          clear hK K
          refine WO.end_ ?_
          simp only [picks, pick, List.cons_append, List.nil_append, List.append_nil]
          repeat (first
            | (refine wpQuiet_loadC (by rfl) 3 (.tmp 152) rfl u15 1 (by rfl) _ La.out ?_; simp only [Act.put, List.setIfInBounds_toArray, List.set_cons_zero, List.set_cons_succ])
            | (refine wpQuiet_loadC (by rfl) 3 (.tmp 154) rfl u8 1 (by rfl) _ Lc.out ?_; simp only [Act.put, List.setIfInBounds_toArray, List.set_cons_zero, List.set_cons_succ])
            | (refine wpQuiet_loadC (by rfl) 3 (.tmp 158) rfl u15 2 (by rfl) _ Lb.out ?_; simp only [Act.put, List.setIfInBounds_toArray, List.set_cons_zero, List.set_cons_succ])
            | (refine wpQuiet_loadC (by rfl) 3 (.tmp 160) rfl u8 2 (by rfl) _ Ld.out ?_; simp only [Act.put, List.setIfInBounds_toArray, List.set_cons_zero, List.set_cons_succ])
            | (refine wpQuiet_loadC (by rfl) 3 (.tmp 165) rfl u15 2 (by rfl) _ Lb.out ?_; simp only [Act.put, List.setIfInBounds_toArray, List.set_cons_zero, List.set_cons_succ])
            | (refine wpQuiet_loadC (by rfl) 3 (.tmp 167) rfl u8 2 (by rfl) _ Ld.out ?_; simp only [Act.put, List.setIfInBounds_toArray, List.set_cons_zero, List.set_cons_succ])
            | (refine wpQuiet_loadC (by rfl) 3 (.tmp 173) rfl u15 2 (by rfl) _ Lb.out ?_; simp only [Act.put, List.setIfInBounds_toArray, List.set_cons_zero, List.set_cons_succ])
            | (refine wpQuiet_loadC (by rfl) 3 (.tmp 175) rfl u8 2 (by rfl) _ Ld.out ?_; simp only [Act.put, List.setIfInBounds_toArray, List.set_cons_zero, List.set_cons_succ])
            | (refine wpQuiet_loadC (by rfl) 31 (.tmp 8) rfl u8 0 (by rfl) _ Le.out ?_; simp only [Act.put, List.setIfInBounds_toArray, List.set_cons_zero, List.set_cons_succ])
            | (refine wpQuiet_loadC (by rfl) 31 (.tmp 16) rfl u16 0 (by rfl) _ Lf.out ?_; simp only [Act.put, List.setIfInBounds_toArray, List.set_cons_zero, List.set_cons_succ])
            | go_big_quiet_step (fail))
          refine wpQuiet_nil ?_
          clear hC La Lb Lc Ld Le Lf bd P15 P16 P8 hb1 hb2 hb3 wr2'
          go_wp2_with fail
          have E5 := E4.out.below b45.out
          have ev5 := ev4.out.below b45.out
          have ep5 := ep4.out.below b45.out
          have eo5 := range_same eo4.out (b45.out.block v vy4)
          have p15'' := p15'.out.same (b45.out.block u15 u15y4)
          have u15y5 : u15 < y5.heap.size := Nat.lt_of_lt_of_le u15y4 b45.out.size
          have vy5 : v < y5.heap.size := Nat.lt_of_lt_of_le vy4 b45.out.size
          have rS5 := rS4.out.below b45.out
          have rV5 := rV4.out.below b45.out
          obtain ⟨gS, oS, rfl, hgS, csS⟩ := int_at' rS5.row (k := t2.self) (by rw [l3.out]; exact hR2.out.inv.self)
          obtain ⟨gV, oV, rfl, hgV, csV⟩ := int_at' rV5.row (k := t2.self) (by rw [l4.out]; exact hR2.out.inv.self)
          rw [hset.out] at csS
          rw [hvec.out] at csV
          have hz0' := hz0.out
          have hz1' := hz1.out
          have hC : ∀ x' : Prop, (∀ W, Below y5.heap.size y5 W → x') ↔ x' := fun x' => ⟨fun f => f _ (Below.refl _ _), fun f _ _ => f⟩
          have P15 : ∀ W, Below y5.heap.size y5 W → PVar W u15 (some ⟨gS, oS, none⟩) t2.n t2.n (some ⟨gV, oV, none⟩) t2.n t2.n t2.out := fun W hW => p15''.same (hW.block u15 u15y5)
          have oo : ∀ W, Below y5.heap.size y5 W → W.rangeAt v 0 (caseA n s i f A os.length c).toList := fun W hW => range_same eo5 (hW.block v vy5)
          have La : ∀ W, Below y5.heap.size y5 W → (loadVar 27 ⟨u15, 0, none⟩).run Try.prog W = .ok (.slice (some ⟨gS, oS, none⟩) t2.n t2.n) W := fun W hW => load27 (P15 W hW).c0
          have Lb : ∀ W, Below y5.heap.size y5 W → (loadVar 27 ⟨u15, 8, none⟩).run Try.prog W = .ok (.slice (some ⟨gV, oV, none⟩) t2.n t2.n) W := fun W hW => load27 (P15 W hW).c8
          have Lc : ∀ W, Below y5.heap.size y5 W → (loadVar 3 ⟨v, 0, none⟩).run Try.prog W = .ok (.int .i64 (t2.n : Int)) W := fun W hW => load3 (by rw [hn2.out.1]; exact oo W hW 0 _ rfl)
          have Ld : ∀ W, Below y5.heap.size y5 W → (loadVar 3 ⟨v, 1, none⟩).run Try.prog W = .ok (.int .i64 (t2.self : Int)) W := fun W hW => load3 (by rw [hn2.out.2.1]; exact oo W hW 1 _ rfl)
          have Le : ∀ W, Below y5.heap.size y5 W → (loadVar 3 ⟨v, 2, none⟩).run Try.prog W = .ok (.int .i64 t2.inc) W := fun W hW => load3 (by rw [hn2.out.2.2]; exact oo W hW 2 _ rfl)
          have Lf : ∀ W, Below y5.heap.size y5 W → (loadVar 3 ⟨u15, 1, none⟩).run Try.prog W = .ok (.int .i64 t2.own.cid) W := fun W hW => load3 (P15 W hW).c1
          have Lg : ∀ W, Below y5.heap.size y5 W → (loadVar 3 ⟨gS, oS + t2.self, none⟩).run Try.prog W = .ok (.int .i64 t2.inc) W := fun W hW => load3 ((hW.cell (p := ⟨gS, _, none⟩) hgS).trans csS)
          have Lh : ∀ W, Below y5.heap.size y5 W → (loadVar 3 ⟨gV, oV + t2.self, none⟩).run Try.prog W = .ok (.int .i64 t2.own.cid) W := fun W hW => load3 ((hW.cell (p := ⟨gV, _, none⟩) hgV).trans csV)
          replace La := Lib.hid La
          replace Lb := Lib.hid Lb
          replace Lc := Lib.hid Lc
          replace Ld := Lib.hid Ld
          replace Le := Lib.hid Le
          replace Lf := Lib.hid Lf
          replace Lg := Lib.hid Lg
          replace Lh := Lib.hid Lh
          replace E5 := Lib.hid E5
          replace ev5 := Lib.hid ev5
          replace ep5 := Lib.hid ep5
          replace eo5 := Lib.hid eo5
          replace p15'' := Lib.hid p15''
          replace rS5 := Lib.hid rS5
          replace rV5 := Lib.hid rV5
          clear csS csV P15 oo
          have bd : Below y5.heap.size y5 y5.drew := Below.drew (Below.refl _ _)
          replace bd := Lib.hid bd
          refine wp_region_ord [([0, 1, 3, 4], 2), ([5, 6, 7, 8, 10, 11], 9)] [12, 13, 14, 15, 16, 17, 18, 19, 20, 21, 22, 23, 24, 25, 26, 27, 28, 29, 30, 31, 32, 33, 34, 35] (fun W => Below y5.heap.size y5 W) rfl (by kernel_rfl) rfl bd.out ?_
          refine WO.seg rfl ?_ bd.out
          simp only [picks, pick, List.cons_append, List.nil_append, List.append_nil]
          repeat (first
            | (refine wpQuiet_loadC (by rfl) 27 (.tmp 183) rfl u15 0 (by rfl) _ La.out ?_; simp only [Act.put, List.setIfInBounds_toArray, List.set_cons_zero, List.set_cons_succ])
            | (refine wpQuiet_loadC (by rfl) 3 (.tmp 186) rfl v 0 (by rfl) _ Lc.out ?_; simp only [Act.put, List.setIfInBounds_toArray, List.set_cons_zero, List.set_cons_succ])
            | (refine wpQuiet_loadC (by rfl) 27 (.tmp 190) rfl u15 8 (by rfl) _ Lb.out ?_; simp only [Act.put, List.setIfInBounds_toArray, List.set_cons_zero, List.set_cons_succ])
            | (refine wpQuiet_loadC (by rfl) 3 (.tmp 193) rfl v 0 (by rfl) _ Lc.out ?_; simp only [Act.put, List.setIfInBounds_toArray, List.set_cons_zero, List.set_cons_succ])
            | (refine wpQuiet_loadC (by rfl) 27 (.tmp 198) rfl u15 0 (by rfl) _ La.out ?_; simp only [Act.put, List.setIfInBounds_toArray, List.set_cons_zero, List.set_cons_succ])
            | (refine wpQuiet_loadC (by rfl) 3 (.tmp 200) rfl v 1 (by rfl) _ Ld.out ?_; simp only [Act.put, List.setIfInBounds_toArray, List.set_cons_zero, List.set_cons_succ])
            | (refine wpQuiet_loadC (by rfl) 3 (.tmp 202) rfl gS (oS + t2.self) (by rfl) _ Lg.out ?_; simp only [Act.put, List.setIfInBounds_toArray, List.set_cons_zero, List.set_cons_succ])
            | (refine wpQuiet_loadC (by rfl) 3 (.tmp 204) rfl v 2 (by rfl) _ Le.out ?_; simp only [Act.put, List.setIfInBounds_toArray, List.set_cons_zero, List.set_cons_succ])
            | (refine wpQuiet_loadC (by rfl) 27 (.tmp 209) rfl u15 8 (by rfl) _ Lb.out ?_; simp only [Act.put, List.setIfInBounds_toArray, List.set_cons_zero, List.set_cons_succ])
            | (refine wpQuiet_loadC (by rfl) 3 (.tmp 211) rfl v 1 (by rfl) _ Ld.out ?_; simp only [Act.put, List.setIfInBounds_toArray, List.set_cons_zero, List.set_cons_succ])
            | (refine wpQuiet_loadC (by rfl) 3 (.tmp 213) rfl gV (oV + t2.self) (by rfl) _ Lh.out ?_; simp only [Act.put, List.setIfInBounds_toArray, List.set_cons_zero, List.set_cons_succ])
            | (refine wpQuiet_loadC (by rfl) 3 (.tmp 215) rfl u15 1 (by rfl) _ Lf.out ?_; simp only [Act.put, List.setIfInBounds_toArray, List.set_cons_zero, List.set_cons_succ])
            | go_big_quiet_step (fail))
          refine wpQuiet_nil ?_
          intro K hK
          go_simp
          refine hK.out _ _ bd.out ?_
          clear hK K
          refine WO.seg rfl ?_ bd.out
          simp only [picks, pick, List.cons_append, List.nil_append, List.append_nil]
          repeat (first
            | (refine wpQuiet_loadC (by rfl) 27 (.tmp 183) rfl u15 0 (by rfl) _ La.out ?_; simp only [Act.put, List.setIfInBounds_toArray, List.set_cons_zero, List.set_cons_succ])
            | (refine wpQuiet_loadC (by rfl) 3 (.tmp 186) rfl v 0 (by rfl) _ Lc.out ?_; simp only [Act.put, List.setIfInBounds_toArray, List.set_cons_zero, List.set_cons_succ])
            | (refine wpQuiet_loadC (by rfl) 27 (.tmp 190) rfl u15 8 (by rfl) _ Lb.out ?_; simp only [Act.put, List.setIfInBounds_toArray, List.set_cons_zero, List.set_cons_succ])
            | (refine wpQuiet_loadC (by rfl) 3 (.tmp 193) rfl v 0 (by rfl) _ Lc.out ?_; simp only [Act.put, List.setIfInBounds_toArray, List.set_cons_zero, List.set_cons_succ])
            | (refine wpQuiet_loadC (by rfl) 27 (.tmp 198) rfl u15 0 (by rfl) _ La.out ?_; simp only [Act.put, List.setIfInBounds_toArray, List.set_cons_zero, List.set_cons_succ])
            | (refine wpQuiet_loadC (by rfl) 3 (.tmp 200) rfl v 1 (by rfl) _ Ld.out ?_; simp only [Act.put, List.setIfInBounds_toArray, List.set_cons_zero, List.set_cons_succ])
            | (refine wpQuiet_loadC (by rfl) 3 (.tmp 202) rfl gS (oS + t2.self) (by rfl) _ Lg.out ?_; simp only [Act.put, List.setIfInBounds_toArray, List.set_cons_zero, List.set_cons_succ])
            | (refine wpQuiet_loadC (by rfl) 3 (.tmp 204) rfl v 2 (by rfl) _ Le.out ?_; simp only [Act.put, List.setIfInBounds_toArray, List.set_cons_zero, List.set_cons_succ])
            | (refine wpQuiet_loadC (by rfl) 27 (.tmp 209) rfl u15 8 (by rfl) _ Lb.out ?_; simp only [Act.put, List.setIfInBounds_toArray, List.set_cons_zero, List.set_cons_succ])
            | (refine wpQuiet_loadC (by rfl) 3 (.tmp 211) rfl v 1 (by rfl) _ Ld.out ?_; simp only [Act.put, List.setIfInBounds_toArray, List.set_cons_zero, List.set_cons_succ])
            | (refine wpQuiet_loadC (by rfl) 3 (.tmp 213) rfl gV (oV + t2.self) (by rfl) _ Lh.out ?_; simp only [Act.put, List.setIfInBounds_toArray, List.set_cons_zero, List.set_cons_succ])
            | (refine wpQuiet_loadC (by rfl) 3 (.tmp 215) rfl u15 1 (by rfl) _ Lf.out ?_; simp only [Act.put, List.setIfInBounds_toArray, List.set_cons_zero, List.set_cons_succ])
            | go_big_quiet_step (fail))
          refine wpQuiet_nil ?_
          intro K hK
          go_simp
          refine hK.out _ _ bd.out ?_
          clear hK K
          refine WO.end_ ?_
          simp only [picks, pick, List.cons_append, List.nil_append, List.append_nil]
          repeat (first
            | (refine wpQuiet_loadC (by rfl) 27 (.tmp 183) rfl u15 0 (by rfl) _ La.out ?_; simp only [Act.put, List.setIfInBounds_toArray, List.set_cons_zero, List.set_cons_succ])
            | (refine wpQuiet_loadC (by rfl) 3 (.tmp 186) rfl v 0 (by rfl) _ Lc.out ?_; simp only [Act.put, List.setIfInBounds_toArray, List.set_cons_zero, List.set_cons_succ])
            | (refine wpQuiet_loadC (by rfl) 27 (.tmp 190) rfl u15 8 (by rfl) _ Lb.out ?_; simp only [Act.put, List.setIfInBounds_toArray, List.set_cons_zero, List.set_cons_succ])
            | (refine wpQuiet_loadC (by rfl) 3 (.tmp 193) rfl v 0 (by rfl) _ Lc.out ?_; simp only [Act.put, List.setIfInBounds_toArray, List.set_cons_zero, List.set_cons_succ])
            | (refine wpQuiet_loadC (by rfl) 27 (.tmp 198) rfl u15 0 (by rfl) _ La.out ?_; simp only [Act.put, List.setIfInBounds_toArray, List.set_cons_zero, List.set_cons_succ])
            | (refine wpQuiet_loadC (by rfl) 3 (.tmp 200) rfl v 1 (by rfl) _ Ld.out ?_; simp only [Act.put, List.setIfInBounds_toArray, List.set_cons_zero, List.set_cons_succ])
            | (refine wpQuiet_loadC (by rfl) 3 (.tmp 202) rfl gS (oS + t2.self) (by rfl) _ Lg.out ?_; simp only [Act.put, List.setIfInBounds_toArray, List.set_cons_zero, List.set_cons_succ])
            | (refine wpQuiet_loadC (by rfl) 3 (.tmp 204) rfl v 2 (by rfl) _ Le.out ?_; simp only [Act.put, List.setIfInBounds_toArray, List.set_cons_zero, List.set_cons_succ])
            | (refine wpQuiet_loadC (by rfl) 27 (.tmp 209) rfl u15 8 (by rfl) _ Lb.out ?_; simp only [Act.put, List.setIfInBounds_toArray, List.set_cons_zero, List.set_cons_succ])
            | (refine wpQuiet_loadC (by rfl) 3 (.tmp 211) rfl v 1 (by rfl) _ Ld.out ?_; simp only [Act.put, List.setIfInBounds_toArray, List.set_cons_zero, List.set_cons_succ])
            | (refine wpQuiet_loadC (by rfl) 3 (.tmp 213) rfl gV (oV + t2.self) (by rfl) _ Lh.out ?_; simp only [Act.put, List.setIfInBounds_toArray, List.set_cons_zero, List.set_cons_succ])
            | (refine wpQuiet_loadC (by rfl) 3 (.tmp 215) rfl u15 1 (by rfl) _ Lf.out ?_; simp only [Act.put, List.setIfInBounds_toArray, List.set_cons_zero, List.set_cons_succ])
            | go_big_quiet_step (fail))
          refine wpQuiet_nil ?_
          clear hC La Lb Lc Ld Le Lf Lg Lh hz0' hz1'
          have E6 := E5.out.below bd.out
          have ev6 := ev5.out.below bd.out
          have ep6 := ep5.out.below bd.out
          have p6 := p15''.out.same (bd.out.block u15 u15y5)
          have rS6 := rS5.out.below bd.out
          have rV6 := rV5.out.below bd.out
          have hF : ∀ y ∈ [u8, u5, b], y < y0.heap.size := fun y hy => by
            rcases List.mem_cons.1 hy with e | e
            · subst e; exact ep0.out.lt
            · rcases List.mem_cons.1 e with e | e
              · subst e; exact ev0.out.lt
              · have := List.mem_singleton.1 e; subst this; exact E0.out.hi _ E0.out.aF
          replace hF := Lib.hid hF
          replace E6 := Lib.hid E6
          replace ev6 := Lib.hid ev6
          replace ep6 := Lib.hid ep6
          replace p6 := Lib.hid p6
          replace rS6 := Lib.hid rS6
          replace rV6 := Lib.hid rV6
          go_wp2_with (first
            | (refine wpList_loadR rfl 31 (.tmp 15) rfl u15 0 (by rfl) _ (by exact p6.out.load) ?_)
            | (refine wpList_store31 rfl (.tmp 8) (.tmp 219) rfl u8 0 (by rfl) (some ⟨gS, oS, none⟩) t2.n t2.n (some ⟨gV, oV, none⟩) t2.n t2.n t2.out (by rfl) ep6.out.at_.there ?_
               intro y7 hy7
               have g7 : y5.drew.grownBy y7 (some u8) := by rw [hy7.out]; exact grown_sets _ _ _ _
               have E7 := E6.out.spoil (List.mem_cons_self ..) (fun e => hbu8.out e.symm) g7
               have ev7 := ev6.out.grown g7 (List.mem_cons_self ..) (fun e => hu58.out e.symm)
               have ep7 : PV y7 [u8, u5, b] u8 t2.n t2.out (t2.own.set.take t2.n) (t2.own.vec.take t2.n) (some ⟨gS, oS, none⟩) t2.n (some ⟨gV, oV, none⟩) t2.n := by
                 refine ⟨by rw [hy7.out]; exact PVar.put ep6.out.at_.there, ?_, ?_, Nat.lt_of_lt_of_le ep6.out.lt g7.size⟩
                 · exact (rS6.out.away hF.out).keep g7.size (fun k hk hn => g7.block k hk (by intro e; injection e with e; subst e; exact hn (List.mem_cons_self ..)))
                 · exact (rV6.out.away hF.out).keep g7.size (fun k hk hn => g7.block k hk (by intro e; injection e with e; subst e; exact hn (List.mem_cons_self ..)))
               clear hy7 g7
               replace E7 := Lib.hid E7
               replace ev7 := Lib.hid ev7
               replace ep7 := Lib.hid ep7)
            | fail)
          go_roundw
          case rel => go_light; exact ⟨q + 1, t2, M4, cM4, _, _, _, _, _, _, by go_num, by omega, E7.out, hR2.out, hn2.out, ev7.out, ep7.out⟩
          case measure => go_light; simp [intOf]; omega
      · have b5 : (y.o.k == 5) = false := by simp [h5]
        have hri := callS_ris hR.out y.o
        obtain ⟨t2, ht2⟩ : ∃ t', t' = (callS y.o t).2 := ⟨_, rfl⟩
        rw [← ht2] at hri
        replace ht2 := Lib.hid ht2
        replace hri := Lib.hid hri
        replace h5 := Lib.hid h5
        go_wp2_with (first
          | (refine wpList_loadR rfl 71 (.tmp 90) rfl g (off + q * 13) (by rfl) _ (by exact hld.out) ?_)
          | (refine wpList_store71 rfl (.tmp 10) (.tmp 91) rfl wr.heap.size 0 (by rfl) y.o y.P (by rfl) (there_new wr opZ 71) ?_
             intro w1 hw1
             have b1 : Below wr.heap.size wr w1 := by rw [hw1.out]; exact below_sets ((Below.refl _ _).alloc (Nat.le_refl _) _) (Nat.le_refl _) _ _ (by simp)
             have o1 : w1.rangeAt wr.heap.size 0 (opA y.o y.P).toList := by rw [hw1.out]; exact World.rangeAt_setCells_same _ _ _ _ (there_new wr opZ 71)
             have z1 : wr.heap.size < w1.heap.size := by rw [hw1.out, size_sets]; simp
             obtain ⟨u1, hu1⟩ : ∃ u, u = wr.heap.size := ⟨_, rfl⟩
             have D1 := D.out.below b1
             have vv1 := vv.out.below b1
             have pv1 := pv.out.below b1
             have oq1 := range_same oq.out (b1.block v hvr)
             have k0 := load3 (o1 0 _ rfl)
             rw [← hu1] at o1 k0 ⊢
             replace o1 := Lib.hid o1
             replace D1 := Lib.hid D1
             replace vv1 := Lib.hid vv1
             replace pv1 := Lib.hid pv1
             replace oq1 := Lib.hid oq1
             replace hu1 := Lib.hid hu1
             replace z1 := Lib.hid z1
             replace k0 := Lib.hid k0
             clear c4 b1 hw1)
          | (refine wpList_loadR rfl 3 (.tmp 92) rfl u1 0 (by rfl) _ (by exact k0.out) ?_)
          | (refine wpList_loadR rfl 71 (.tmp 10) rfl u1 0 (by rfl) _ (by exact load71z o1.out) ?_)
          | fail)
        go_wp2_with (first
          | (go_at_call 32
             refine (call_any wA b [u8, u5, b] t M cM y.o y.P w1 D1.out (hox.out _ (Below.refl _ _)).1 h5.out).mono ?_
             rintro e y0 ⟨rfl, hl⟩
             rw [← ht2.out] at hl
             have E0 := D1.out.prog hl hri.out.2.mem hri.out.1.inv hri.out.1.rinv
             have ev0 := vv1.out.grown hl.grown (List.mem_cons_of_mem _ (List.mem_cons_of_mem _ (List.mem_cons_self ..))) hbu5.out
             have ep0 := pv1.out.grown hl.grown (List.mem_cons_of_mem _ (List.mem_cons_of_mem _ (List.mem_cons_self ..))) hbu8.out
             have hvb : some v ≠ some b := by intro e; injection e with e; have := D1.out.lo b D1.out.aF; omega
             have eo0 := range_same oq1.out (hl.grown.block v (Nat.lt_trans hvr z1.out) hvb)
             have vy0 : v < y0.heap.size := Nat.lt_of_lt_of_le (Nat.lt_trans hvr z1.out) hl.grown.size
             have hup : Up t t2 ∨ (t2.own = t.own ∧ t2.n = t.n) := .inl hri.out.2
             have hR2 := hri.out.1
             have hn2 : t2.n = n ∧ t2.self = s ∧ t2.inc = i := ⟨hri.out.2.n.trans tn.out, hri.out.2.self.trans ts.out, hri.out.2.inc.trans ti.out⟩
             rw [← hri.out.2.vid, ← hri.out.2.mem] at ev0
             clear hl hvb
             replace E0 := Lib.hid E0
             replace ev0 := Lib.hid ev0
             replace ep0 := Lib.hid ep0
             replace eo0 := Lib.hid eo0
             replace hup := Lib.hid hup
             replace hR2 := Lib.hid hR2
             replace hn2 := Lib.hid hn2)
          | fail)
        have n16t : t2.n ≤ 16 := hR2.out.inv.n2
        obtain ⟨hs1', hcid, hrv1, hrv2⟩ := out_same hR.out hR2.out hup.out { t2.out with rev := t.own.rev } rfl
        have wr2 : IntKind.i64.wrap (t.own.rev + 1) = t.own.rev + 1 := ris_sizes hR.out
        have hset : nth (t2.own.set.take t2.n) t2.self = t2.inc := by rw [nth_take hR2.out.inv.self]; exact hR2.out.inv.me
        have hvec : nth (t2.own.vec.take t2.n) t2.self = t2.own.cid := by rw [nth_take hR2.out.inv.self]; exact hR2.out.me
        have l1 : (t.own.set.take t.n).length = t.n := List.length_take_of_le (by rw [hR.out.inv.own.set]; exact n16')
        have l2 : (t.own.vec.take t.n).length = t.n := List.length_take_of_le (by rw [hR.out.inv.own.vec]; exact n16')
        have l3 : (t2.own.set.take t2.n).length = t2.n := List.length_take_of_le (by rw [hR2.out.inv.own.set]; exact n16t)
        have l4 : (t2.own.vec.take t2.n).length = t2.n := List.length_take_of_le (by rw [hR2.out.inv.own.vec]; exact n16t)
        have hz1 : (t2.self : Int) < (t2.n : Int) := by have := hR2.out.inv.self; omega
        have hz0 : (0 : Int) ≤ (t2.self : Int) := by omega
        replace hs1' := Lib.hid hs1'
        replace hset := Lib.hid hset
        replace hvec := Lib.hid hvec
        replace l1 := Lib.hid l1
        replace l2 := Lib.hid l2
        replace l3 := Lib.hid l3
        replace l4 := Lib.hid l4
        replace hcid := Lib.hid hcid
        replace hrv1 := Lib.hid hrv1
        replace hrv2 := Lib.hid hrv2
        replace wr2 := Lib.hid wr2
        replace hz0 := Lib.hid hz0
        replace hz1 := Lib.hid hz1
        go_wp2_with (first
          | (go_at_call 30
             refine (proposal_any b t2 M cM y0 E0.out.ag (E0.out.hi b E0.out.aF) n16t).mono ?_
             rintro e y1 ⟨S6, V6, rfl, rS6, rV6, hy1⟩
             have b1u : Below y1.heap.size y1 (y1.alloc (.cells prZ 31)) := (Below.refl _ _).alloc (Nat.le_refl _) _
             replace rS6 := Lib.hid rS6
             replace rV6 := Lib.hid rV6
             replace b1u := Lib.hid b1u
             replace hy1 := Lib.hid hy1)
          | (refine wpList_store31 rfl (.tmp 15) (.tmp 147) rfl y1.heap.size 0 (by rfl) S6 t2.n t2.n V6 t2.n t2.n t2.out (by rfl) (there_new y1 prZ 31) ?_
             intro y2 hy2
             obtain ⟨u15, hu15⟩ : ∃ u, u = y1.heap.size := ⟨_, rfl⟩
             have p15 : PVar y2 u15 S6 t2.n t2.n V6 t2.n t2.n t2.out := by rw [hy2.out, hu15]; exact PVar.put (there_new y1 prZ 31)
             have b12 : Below y1.heap.size y1 y2 := by rw [hy2.out]; exact below_sets b1u.out (Nat.le_refl _) _ _ (by simp)
             have b02 : Below y0.heap.size y0 y2 := hy1.out.trans (b12.mono hy1.out.size)
             have b2u : Below y2.heap.size y2 (y2.alloc (.cells prZ 31)) := (Below.refl _ _).alloc (Nat.le_refl _) _
             have u15z : u15 < y2.heap.size := by rw [hy2.out, size_sets, hu15]; simp
             rw [← hu15]
             clear hy2
             replace hu15 := Lib.hid hu15
             replace p15 := Lib.hid p15
             replace b02 := Lib.hid b02
             replace b12 := Lib.hid b12
             replace b2u := Lib.hid b2u)
          | (refine wpList_loadR rfl 31 (.tmp 15) rfl u15 0 (by rfl) _ (by exact p15.out.load) ?_)
          | (refine wpList_store31 rfl (.tmp 16) (.tmp 148) rfl y2.heap.size 0 (by rfl) S6 t2.n t2.n V6 t2.n t2.n t2.out (by rfl) (there_new y2 prZ 31) ?_
             intro y3 hy3
             obtain ⟨u16, hu16⟩ : ∃ u, u = y2.heap.size := ⟨_, rfl⟩
             have p16' : PVar y3 u16 S6 t2.n t2.n V6 t2.n t2.n t2.out := by rw [hy3.out, hu16]; exact PVar.put (there_new y2 prZ 31)
             have b23 : Below y2.heap.size y2 y3 := by rw [hy3.out]; exact below_sets b2u.out (Nat.le_refl _) _ _ (by simp)
             have u16z : u16 < y3.heap.size := by rw [hy3.out, size_sets, hu16]; simp
             have k16 : y3.cell? ⟨u16, 2, none⟩ = some (.int .i64 t2.own.rev) := p16'.c2
             have f16 : y3.frozen? ⟨u16, 2, none⟩ = false := there_frozen (k := 2) p16'.there (by omega)
             obtain ⟨y4, hy4⟩ : ∃ y, y = y3.setCell ⟨u16, 2, none⟩ (.int .i64 t.own.rev) := ⟨_, rfl⟩
             have p16 : PVar y4 u16 S6 t2.n t2.n V6 t2.n t2.n { t2.out with rev := t.own.rev } := by rw [hy4]; exact p16'.setRev _
             have b24 : Below y2.heap.size y2 y4 := by rw [hy4]; exact b23.setCell (by show y2.heap.size ≤ u16; omega) _
             have b04 : Below y0.heap.size y0 y4 := b02.out.trans (b24.mono b02.out.size)
             have b14 : Below y1.heap.size y1 y4 := b12.out.trans (b24.mono b12.out.size)
             have u16y4 : u16 < y4.heap.size := by rw [hy4, World.size_setCell]; exact u16z
             have u15y4 : u15 < y4.heap.size := Nat.lt_of_lt_of_le u15z b24.size
             have E4 := E0.out.below b04
             have ev4 := ev0.out.below b04
             have ep4 := ep0.out.below b04
             have eo4 := range_same eo0.out (b04.block v vy0)
             have vy4 : v < y4.heap.size := Nat.lt_of_lt_of_le vy0 b04.size
             have p15' := p15.out.same (b24.block u15 u15z)
             have rS4 := rS6.out.below b14
             have rV4 := rV6.out.below b14
             have b03 : Below y0.heap.size y0 y3 := b02.out.trans (b23.mono b02.out.size)
             have k8 : (loadVar 3 ⟨u8, 2, none⟩).run Try.prog y3 = .ok (.int .i64 t.own.rev) y3 := load3 (ep0.out.below b03).at_.c2
             rw [← hu16]
             clear hy3 b23 b24 b04 b14 b03 p16'
             replace hy4 := Lib.hid hy4
             replace hu16 := Lib.hid hu16
             replace p16 := Lib.hid p16
             replace p15' := Lib.hid p15'
             replace E4 := Lib.hid E4
             replace ev4 := Lib.hid ev4
             replace ep4 := Lib.hid ep4
             replace eo4 := Lib.hid eo4
             replace rS4 := Lib.hid rS4
             replace rV4 := Lib.hid rV4
             replace k8 := Lib.hid k8)
          | (refine wpList_loadR rfl 3 (.tmp 149) rfl u8 2 (by rfl) _ (by exact k8.out) ?_)
          | fail)
        rw [← hy4.out]
        clear k16 f16
        have wr2' := wr2.out
        have hb1 : decide (t2.own.cid < t.own.cid) = false := decide_eq_false (by have := hcid.out; omega)
        have hb2 : decide (t2.own.rev < t.own.rev) = false := decide_eq_false (by have := hrv1.out; omega)
        have hb3 : decide (t.own.rev + 1 < t2.own.rev) = false := decide_eq_false (by have := hrv2.out; omega)
        have hC : ∀ x' : Prop, (∀ W, Below y4.heap.size y4 W → x') ↔ x' := fun x' => ⟨fun f => f _ (Below.refl _ _), fun f _ _ => f⟩
        have P15 : ∀ W, Below y4.heap.size y4 W → PVar W u15 S6 t2.n t2.n V6 t2.n t2.n t2.out := fun W hW => p15'.out.same (hW.block u15 u15y4)
        have P16 : ∀ W, Below y4.heap.size y4 W → PVar W u16 S6 t2.n t2.n V6 t2.n t2.n { t2.out with rev := t.own.rev } := fun W hW => p16.out.same (hW.block u16 u16y4)
        have P8 : ∀ W, Below y4.heap.size y4 W → PVar W u8 S t.n cS V t.n cV t.out := fun W hW => (ep4.out.below hW).at_
        have La : ∀ W, Below y4.heap.size y4 W → (loadVar 3 ⟨u15, 1, none⟩).run Try.prog W = .ok (.int .i64 t2.own.cid) W := fun W hW => load3 (P15 W hW).c1
        have Lb : ∀ W, Below y4.heap.size y4 W → (loadVar 3 ⟨u15, 2, none⟩).run Try.prog W = .ok (.int .i64 t2.own.rev) W := fun W hW => load3 (P15 W hW).c2
        have Lc : ∀ W, Below y4.heap.size y4 W → (loadVar 3 ⟨u8, 1, none⟩).run Try.prog W = .ok (.int .i64 t.own.cid) W := fun W hW => load3 (P8 W hW).c1
        have Ld : ∀ W, Below y4.heap.size y4 W → (loadVar 3 ⟨u8, 2, none⟩).run Try.prog W = .ok (.int .i64 t.own.rev) W := fun W hW => load3 (P8 W hW).c2
        have Le : ∀ W, Below y4.heap.size y4 W → (loadVar 31 ⟨u8, 0, none⟩).run Try.prog W = .ok (.agg (prV S t.n cS V t.n cV t.out)) W := fun W hW => (P8 W hW).load
        have Lf : ∀ W, Below y4.heap.size y4 W → (loadVar 31 ⟨u16, 0, none⟩).run Try.prog W = .ok (.agg (prV S6 t2.n t2.n V6 t2.n t2.n { t2.out with rev := t.own.rev })) W := fun W hW => (P16 W hW).load
        replace La := Lib.hid La
        replace Lb := Lib.hid Lb
        replace Lc := Lib.hid Lc
        replace Ld := Lib.hid Ld
        replace Le := Lib.hid Le
        replace Lf := Lib.hid Lf
        replace P15 := Lib.hid P15
        replace P16 := Lib.hid P16
        replace P8 := Lib.hid P8
        have bd : Below y4.heap.size y4 y4.drew := Below.drew (Below.refl _ _)
        replace bd := Lib.hid bd
        refine wp_region_ord [([0, 1, 2, 3, 4, 5, 6, 7, 8, 9, 10, 11, 12, 13, 14, 15, 16, 17, 18, 19, 20, 21, 22, 23, 24, 25, 26, 27], 28)] [29, 30] (fun W => Below y4.heap.size y4 W) rfl (by kernel_rfl) rfl bd.out ?_
        refine WO.seg rfl ?_ bd.out
        simp only [picks, pick, List.cons_append, List.nil_append, List.append_nil]
        repeat (first
          | (refine wpQuiet_loadC (by rfl) 3 (.tmp 152) rfl u15 1 (by rfl) _ La.out ?_; simp only [Act.put, List.setIfInBounds_toArray, List.set_cons_zero, List.set_cons_succ])
          | (refine wpQuiet_loadC (by rfl) 3 (.tmp 154) rfl u8 1 (by rfl) _ Lc.out ?_; simp only [Act.put, List.setIfInBounds_toArray, List.set_cons_zero, List.set_cons_succ])
          | (refine wpQuiet_loadC (by rfl) 3 (.tmp 158) rfl u15 2 (by rfl) _ Lb.out ?_; simp only [Act.put, List.setIfInBounds_toArray, List.set_cons_zero, List.set_cons_succ])
          | (refine wpQuiet_loadC (by rfl) 3 (.tmp 160) rfl u8 2 (by rfl) _ Ld.out ?_; simp only [Act.put, List.setIfInBounds_toArray, List.set_cons_zero, List.set_cons_succ])
          | (refine wpQuiet_loadC (by rfl) 3 (.tmp 165) rfl u15 2 (by rfl) _ Lb.out ?_; simp only [Act.put, List.setIfInBounds_toArray, List.set_cons_zero, List.set_cons_succ])
          | (refine wpQuiet_loadC (by rfl) 3 (.tmp 167) rfl u8 2 (by rfl) _ Ld.out ?_; simp only [Act.put, List.setIfInBounds_toArray, List.set_cons_zero, List.set_cons_succ])
          | (refine wpQuiet_loadC (by rfl) 3 (.tmp 173) rfl u15 2 (by rfl) _ Lb.out ?_; simp only [Act.put, List.setIfInBounds_toArray, List.set_cons_zero, List.set_cons_succ])
          | (refine wpQuiet_loadC (by rfl) 3 (.tmp 175) rfl u8 2 (by rfl) _ Ld.out ?_; simp only [Act.put, List.setIfInBounds_toArray, List.set_cons_zero, List.set_cons_succ])
          | (refine wpQuiet_loadC (by rfl) 31 (.tmp 8) rfl u8 0 (by rfl) _ Le.out ?_; simp only [Act.put, List.setIfInBounds_toArray, List.set_cons_zero, List.set_cons_succ])
          | (refine wpQuiet_loadC (by rfl) 31 (.tmp 16) rfl u16 0 (by rfl) _ Lf.out ?_; simp only [Act.put, List.setIfInBounds_toArray, List.set_cons_zero, List.set_cons_succ])
          | go_big_quiet_step (fail))
        refine wpQuiet_nil ?_
        intro K hK
        go_simp
        go_at_call 33
        refine (proposals_any S V S6 V6 cS cV t2.n t2.n y4.drew.heap.size t.n t.n t2.n t2.n t.out { t2.out with rev := t.own.rev } (t.own.set.take t.n) (t.own.vec.take t.n) (t2.own.set.take t2.n) (t2.own.vec.take t2.n) y4.drew l1.out l2.out l3.out l4.out (Nat.le_refl _) (ep4.out.below bd.out).rS.row (ep4.out.below bd.out).rV.row (rS4.out.below bd.out).row (rV4.out.below bd.out).row (by omega) (by omega) (by omega) (by omega)).mono ?_
        rintro e y5 ⟨rfl, hy5⟩
        rw [← hs1'.out]
        have b45 : Below y4.heap.size y4 y5 := bd.out.trans hy5
        replace b45 := Lib.hid b45
        clear hy5
        go_wp2_with fail
        refine hK.out _ _ b45.out ?_
        clear hK K
        refine WO.end_ ?_
        simp only [picks, pick, List.cons_append, List.nil_append, List.append_nil]
        repeat (first
          | (refine wpQuiet_loadC (by rfl) 3 (.tmp 152) rfl u15 1 (by rfl) _ La.out ?_; simp only [Act.put, List.setIfInBounds_toArray, List.set_cons_zero, List.set_cons_succ])
          | (refine wpQuiet_loadC (by rfl) 3 (.tmp 154) rfl u8 1 (by rfl) _ Lc.out ?_; simp only [Act.put, List.setIfInBounds_toArray, List.set_cons_zero, List.set_cons_succ])
          | (refine wpQuiet_loadC (by rfl) 3 (.tmp 158) rfl u15 2 (by rfl) _ Lb.out ?_; simp only [Act.put, List.setIfInBounds_toArray, List.set_cons_zero, List.set_cons_succ])
          | (refine wpQuiet_loadC (by rfl) 3 (.tmp 160) rfl u8 2 (by rfl) _ Ld.out ?_; simp only [Act.put, List.setIfInBounds_toArray, List.set_cons_zero, List.set_cons_succ])
          | (refine wpQuiet_loadC (by rfl) 3 (.tmp 165) rfl u15 2 (by rfl) _ Lb.out ?_; simp only [Act.put, List.setIfInBounds_toArray, List.set_cons_zero, List.set_cons_succ])
          | (refine wpQuiet_loadC (by rfl) 3 (.tmp 167) rfl u8 2 (by rfl) _ Ld.out ?_; simp only [Act.put, List.setIfInBounds_toArray, List.set_cons_zero, List.set_cons_succ])
          | (refine wpQuiet_loadC (by rfl) 3 (.tmp 173) rfl u15 2 (by rfl) _ Lb.out ?_; simp only [Act.put, List.setIfInBounds_toArray, List.set_cons_zero, List.set_cons_succ])
          | (refine wpQuiet_loadC (by rfl) 3 (.tmp 175) rfl u8 2 (by rfl) _ Ld.out ?_; simp only [Act.put, List.setIfInBounds_toArray, List.set_cons_zero, List.set_cons_succ])
          | (refine wpQuiet_loadC (by rfl) 31 (.tmp 8) rfl u8 0 (by rfl) _ Le.out ?_; simp only [Act.put, List.setIfInBounds_toArray, List.set_cons_zero, List.set_cons_succ])
          | (refine wpQuiet_loadC (by rfl) 31 (.tmp 16) rfl u16 0 (by rfl) _ Lf.out ?_; simp only [Act.put, List.setIfInBounds_toArray, List.set_cons_zero, List.set_cons_succ])
          | go_big_quiet_step (fail))
        refine wpQuiet_nil ?_
        clear hC La Lb Lc Ld Le Lf bd P15 P16 P8 hb1 hb2 hb3 wr2'
        go_wp2_with fail
        have E5 := E4.out.below b45.out
        have ev5 := ev4.out.below b45.out
        have ep5 := ep4.out.below b45.out
        have eo5 := range_same eo4.out (b45.out.block v vy4)
        have p15'' := p15'.out.same (b45.out.block u15 u15y4)
        have u15y5 : u15 < y5.heap.size := Nat.lt_of_lt_of_le u15y4 b45.out.size
        have vy5 : v < y5.heap.size := Nat.lt_of_lt_of_le vy4 b45.out.size
        have rS5 := rS4.out.below b45.out
        have rV5 := rV4.out.below b45.out
        obtain ⟨gS, oS, rfl, hgS, csS⟩ := int_at' rS5.row (k := t2.self) (by rw [l3.out]; exact hR2.out.inv.self)
        obtain ⟨gV, oV, rfl, hgV, csV⟩ := int_at' rV5.row (k := t2.self) (by rw [l4.out]; exact hR2.out.inv.self)
        rw [hset.out] at csS
        rw [hvec.out] at csV
        have hz0' := hz0.out
        have hz1' := hz1.out
        have hC : ∀ x' : Prop, (∀ W, Below y5.heap.size y5 W → x') ↔ x' := fun x' => ⟨fun f => f _ (Below.refl _ _), fun f _ _ => f⟩
        have P15 : ∀ W, Below y5.heap.size y5 W → PVar W u15 (some ⟨gS, oS, none⟩) t2.n t2.n (some ⟨gV, oV, none⟩) t2.n t2.n t2.out := fun W hW => p15''.same (hW.block u15 u15y5)
        have oo : ∀ W, Below y5.heap.size y5 W → W.rangeAt v 0 (caseA n s i f A os.length c).toList := fun W hW => range_same eo5 (hW.block v vy5)
        have La : ∀ W, Below y5.heap.size y5 W → (loadVar 27 ⟨u15, 0, none⟩).run Try.prog W = .ok (.slice (some ⟨gS, oS, none⟩) t2.n t2.n) W := fun W hW => load27 (P15 W hW).c0
        have Lb : ∀ W, Below y5.heap.size y5 W → (loadVar 27 ⟨u15, 8, none⟩).run Try.prog W = .ok (.slice (some ⟨gV, oV, none⟩) t2.n t2.n) W := fun W hW => load27 (P15 W hW).c8
        have Lc : ∀ W, Below y5.heap.size y5 W → (loadVar 3 ⟨v, 0, none⟩).run Try.prog W = .ok (.int .i64 (t2.n : Int)) W := fun W hW => load3 (by rw [hn2.out.1]; exact oo W hW 0 _ rfl)
        have Ld : ∀ W, Below y5.heap.size y5 W → (loadVar 3 ⟨v, 1, none⟩).run Try.prog W = .ok (.int .i64 (t2.self : Int)) W := fun W hW => load3 (by rw [hn2.out.2.1]; exact oo W hW 1 _ rfl)
        have Le : ∀ W, Below y5.heap.size y5 W → (loadVar 3 ⟨v, 2, none⟩).run Try.prog W = .ok (.int .i64 t2.inc) W := fun W hW => load3 (by rw [hn2.out.2.2]; exact oo W hW 2 _ rfl)
        have Lf : ∀ W, Below y5.heap.size y5 W → (loadVar 3 ⟨u15, 1, none⟩).run Try.prog W = .ok (.int .i64 t2.own.cid) W := fun W hW => load3 (P15 W hW).c1
        have Lg : ∀ W, Below y5.heap.size y5 W → (loadVar 3 ⟨gS, oS + t2.self, none⟩).run Try.prog W = .ok (.int .i64 t2.inc) W := fun W hW => load3 ((hW.cell (p := ⟨gS, _, none⟩) hgS).trans csS)
        have Lh : ∀ W, Below y5.heap.size y5 W → (loadVar 3 ⟨gV, oV + t2.self, none⟩).run Try.prog W = .ok (.int .i64 t2.own.cid) W := fun W hW => load3 ((hW.cell (p := ⟨gV, _, none⟩) hgV).trans csV)
        replace La := Lib.hid La
        replace Lb := Lib.hid Lb
        replace Lc := Lib.hid Lc
        replace Ld := Lib.hid Ld
        replace Le := Lib.hid Le
        replace Lf := Lib.hid Lf
        replace Lg := Lib.hid Lg
        replace Lh := Lib.hid Lh
        replace E5 := Lib.hid E5
        replace ev5 := Lib.hid ev5
        replace ep5 := Lib.hid ep5
        replace eo5 := Lib.hid eo5
        replace p15'' := Lib.hid p15''
        replace rS5 := Lib.hid rS5
        replace rV5 := Lib.hid rV5
        clear csS csV P15 oo
        have bd : Below y5.heap.size y5 y5.drew := Below.drew (Below.refl _ _)
        replace bd := Lib.hid bd
        refine wp_region_ord [([0, 1, 3, 4], 2), ([5, 6, 7, 8, 10, 11], 9)] [12, 13, 14, 15, 16, 17, 18, 19, 20, 21, 22, 23, 24, 25, 26, 27, 28, 29, 30, 31, 32, 33, 34, 35] (fun W => Below y5.heap.size y5 W) rfl (by kernel_rfl) rfl bd.out ?_
        refine WO.seg rfl ?_ bd.out
        simp only [picks, pick, List.cons_append, List.nil_append, List.append_nil]
        repeat (first
          | (refine wpQuiet_loadC (by rfl) 27 (.tmp 183) rfl u15 0 (by rfl) _ La.out ?_; simp only [Act.put, List.setIfInBounds_toArray, List.set_cons_zero, List.set_cons_succ])
          | (refine wpQuiet_loadC (by rfl) 3 (.tmp 186) rfl v 0 (by rfl) _ Lc.out ?_; simp only [Act.put, List.setIfInBounds_toArray, List.set_cons_zero, List.set_cons_succ])
          | (refine wpQuiet_loadC (by rfl) 27 (.tmp 190) rfl u15 8 (by rfl) _ Lb.out ?_; simp only [Act.put, List.setIfInBounds_toArray, List.set_cons_zero, List.set_cons_succ])
          | (refine wpQuiet_loadC (by rfl) 3 (.tmp 193) rfl v 0 (by rfl) _ Lc.out ?_; simp only [Act.put, List.setIfInBounds_toArray, List.set_cons_zero, List.set_cons_succ])
          | (refine wpQuiet_loadC (by rfl) 27 (.tmp 198) rfl u15 0 (by rfl) _ La.out ?_; simp only [Act.put, List.setIfInBounds_toArray, List.set_cons_zero, List.set_cons_succ])
          | (refine wpQuiet_loadC (by rfl) 3 (.tmp 200) rfl v 1 (by rfl) _ Ld.out ?_; simp only [Act.put, List.setIfInBounds_toArray, List.set_cons_zero, List.set_cons_succ])
          | (refine wpQuiet_loadC (by rfl) 3 (.tmp 202) rfl gS (oS + t2.self) (by rfl) _ Lg.out ?_; simp only [Act.put, List.setIfInBounds_toArray, List.set_cons_zero, List.set_cons_succ])
          | (refine wpQuiet_loadC (by rfl) 3 (.tmp 204) rfl v 2 (by rfl) _ Le.out ?_; simp only [Act.put, List.setIfInBounds_toArray, List.set_cons_zero, List.set_cons_succ])
          | (refine wpQuiet_loadC (by rfl) 27 (.tmp 209) rfl u15 8 (by rfl) _ Lb.out ?_; simp only [Act.put, List.setIfInBounds_toArray, List.set_cons_zero, List.set_cons_succ])
          | (refine wpQuiet_loadC (by rfl) 3 (.tmp 211) rfl v 1 (by rfl) _ Ld.out ?_; simp only [Act.put, List.setIfInBounds_toArray, List.set_cons_zero, List.set_cons_succ])
          | (refine wpQuiet_loadC (by rfl) 3 (.tmp 213) rfl gV (oV + t2.self) (by rfl) _ Lh.out ?_; simp only [Act.put, List.setIfInBounds_toArray, List.set_cons_zero, List.set_cons_succ])
          | (refine wpQuiet_loadC (by rfl) 3 (.tmp 215) rfl u15 1 (by rfl) _ Lf.out ?_; simp only [Act.put, List.setIfInBounds_toArray, List.set_cons_zero, List.set_cons_succ])
          | go_big_quiet_step (fail))
        refine wpQuiet_nil ?_
        intro K hK
        go_simp
        refine hK.out _ _ bd.out ?_
        clear hK K
        refine WO.seg rfl ?_ bd.out
        simp only [picks, pick, List.cons_append, List.nil_append, List.append_nil]
        repeat (first
          | (refine wpQuiet_loadC (by rfl) 27 (.tmp 183) rfl u15 0 (by rfl) _ La.out ?_; simp only [Act.put, List.setIfInBounds_toArray, List.set_cons_zero, List.set_cons_succ])
          | (refine wpQuiet_loadC (by rfl) 3 (.tmp 186) rfl v 0 (by rfl) _ Lc.out ?_; simp only [Act.put, List.setIfInBounds_toArray, List.set_cons_zero, List.set_cons_succ])
          | (refine wpQuiet_loadC (by rfl) 27 (.tmp 190) rfl u15 8 (by rfl) _ Lb.out ?_; simp only [Act.put, List.setIfInBounds_toArray, List.set_cons_zero, List.set_cons_succ])
          | (refine wpQuiet_loadC (by rfl) 3 (.tmp 193) rfl v 0 (by rfl) _ Lc.out ?_; simp only [Act.put, List.setIfInBounds_toArray, List.set_cons_zero, List.set_cons_succ])
          | (refine wpQuiet_loadC (by rfl) 27 (.tmp 198) rfl u15 0 (by rfl) _ La.out ?_; simp only [Act.put, List.setIfInBounds_toArray, List.set_cons_zero, List.set_cons_succ])
          | (refine wpQuiet_loadC (by rfl) 3 (.tmp 200) rfl v 1 (by rfl) _ Ld.out ?_; simp only [Act.put, List.setIfInBounds_toArray, List.set_cons_zero, List.set_cons_succ])
          | (refine wpQuiet_loadC (by rfl) 3 (.tmp 202) rfl gS (oS + t2.self) (by rfl) _ Lg.out ?_; simp only [Act.put, List.setIfInBounds_toArray, List.set_cons_zero, List.set_cons_succ])
          | (refine wpQuiet_loadC (by rfl) 3 (.tmp 204) rfl v 2 (by rfl) _ Le.out ?_; simp only [Act.put, List.setIfInBounds_toArray, List.set_cons_zero, List.set_cons_succ])
          | (refine wpQuiet_loadC (by rfl) 27 (.tmp 209) rfl u15 8 (by rfl) _ Lb.out ?_; simp only [Act.put, List.setIfInBounds_toArray, List.set_cons_zero, List.set_cons_succ])
          | (refine wpQuiet_loadC (by rfl) 3 (.tmp 211) rfl v 1 (by rfl) _ Ld.out ?_; simp only [Act.put, List.setIfInBounds_toArray, List.set_cons_zero, List.set_cons_succ])
          | (refine wpQuiet_loadC (by rfl) 3 (.tmp 213) rfl gV (oV + t2.self) (by rfl) _ Lh.out ?_; simp only [Act.put, List.setIfInBounds_toArray, List.set_cons_zero, List.set_cons_succ])
          | (refine wpQuiet_loadC (by rfl) 3 (.tmp 215) rfl u15 1 (by rfl) _ Lf.out ?_; simp only [Act.put, List.setIfInBounds_toArray, List.set_cons_zero, List.set_cons_succ])
          | go_big_quiet_step (fail))
        refine wpQuiet_nil ?_
        intro K hK
        go_simp
        refine hK.out _ _ bd.out ?_
        clear hK K
        refine WO.end_ ?_
        simp only [picks, pick, List.cons_append, List.nil_append, List.append_nil]
        repeat (first
          | (refine wpQuiet_loadC (by rfl) 27 (.tmp 183) rfl u15 0 (by rfl) _ La.out ?_; simp only [Act.put, List.setIfInBounds_toArray, List.set_cons_zero, List.set_cons_succ])
          | (refine wpQuiet_loadC (by rfl) 3 (.tmp 186) rfl v 0 (by rfl) _ Lc.out ?_; simp only [Act.put, List.setIfInBounds_toArray, List.set_cons_zero, List.set_cons_succ])
          | (refine wpQuiet_loadC (by rfl) 27 (.tmp 190) rfl u15 8 (by rfl) _ Lb.out ?_; simp only [Act.put, List.setIfInBounds_toArray, List.set_cons_zero, List.set_cons_succ])
          | (refine wpQuiet_loadC (by rfl) 3 (.tmp 193) rfl v 0 (by rfl) _ Lc.out ?_; simp only [Act.put, List.setIfInBounds_toArray, List.set_cons_zero, List.set_cons_succ])
          | (refine wpQuiet_loadC (by rfl) 27 (.tmp 198) rfl u15 0 (by rfl) _ La.out ?_; simp only [Act.put, List.setIfInBounds_toArray, List.set_cons_zero, List.set_cons_succ])
          | (refine wpQuiet_loadC (by rfl) 3 (.tmp 200) rfl v 1 (by rfl) _ Ld.out ?_; simp only [Act.put, List.setIfInBounds_toArray, List.set_cons_zero, List.set_cons_succ])
          | (refine wpQuiet_loadC (by rfl) 3 (.tmp 202) rfl gS (oS + t2.self) (by rfl) _ Lg.out ?_; simp only [Act.put, List.setIfInBounds_toArray, List.set_cons_zero, List.set_cons_succ])
          | (refine wpQuiet_loadC (by rfl) 3 (.tmp 204) rfl v 2 (by rfl) _ Le.out ?_; simp only [Act.put, List.setIfInBounds_toArray, List.set_cons_zero, List.set_cons_succ])
          | (refine wpQuiet_loadC (by rfl) 27 (.tmp 209) rfl u15 8 (by rfl) _ Lb.out ?_; simp only [Act.put, List.setIfInBounds_toArray, List.set_cons_zero, List.set_cons_succ])
          | (refine wpQuiet_loadC (by rfl) 3 (.tmp 211) rfl v 1 (by rfl) _ Ld.out ?_; simp only [Act.put, List.setIfInBounds_toArray, List.set_cons_zero, List.set_cons_succ])
          | (refine wpQuiet_loadC (by rfl) 3 (.tmp 213) rfl gV (oV + t2.self) (by rfl) _ Lh.out ?_; simp only [Act.put, List.setIfInBounds_toArray, List.set_cons_zero, List.set_cons_succ])
          | (refine wpQuiet_loadC (by rfl) 3 (.tmp 215) rfl u15 1 (by rfl) _ Lf.out ?_; simp only [Act.put, List.setIfInBounds_toArray, List.set_cons_zero, List.set_cons_succ])
          | go_big_quiet_step (fail))
        refine wpQuiet_nil ?_
        clear hC La Lb Lc Ld Le Lf Lg Lh hz0' hz1'
        have E6 := E5.out.below bd.out
        have ev6 := ev5.out.below bd.out
        have ep6 := ep5.out.below bd.out
        have p6 := p15''.out.same (bd.out.block u15 u15y5)
        have rS6 := rS5.out.below bd.out
        have rV6 := rV5.out.below bd.out
        have hF : ∀ y ∈ [u8, u5, b], y < y0.heap.size := fun y hy => by
          rcases List.mem_cons.1 hy with e | e
          · subst e; exact ep0.out.lt
          · rcases List.mem_cons.1 e with e | e
            · subst e; exact ev0.out.lt
            · have := List.mem_singleton.1 e; subst this; exact E0.out.hi _ E0.out.aF
        replace hF := Lib.hid hF
        replace E6 := Lib.hid E6
        replace ev6 := Lib.hid ev6
        replace ep6 := Lib.hid ep6
        replace p6 := Lib.hid p6
        replace rS6 := Lib.hid rS6
        replace rV6 := Lib.hid rV6
        go_wp2_with (first
          | (refine wpList_loadR rfl 31 (.tmp 15) rfl u15 0 (by rfl) _ (by exact p6.out.load) ?_)
          | (refine wpList_store31 rfl (.tmp 8) (.tmp 219) rfl u8 0 (by rfl) (some ⟨gS, oS, none⟩) t2.n t2.n (some ⟨gV, oV, none⟩) t2.n t2.n t2.out (by rfl) ep6.out.at_.there ?_
             intro y7 hy7
             have g7 : y5.drew.grownBy y7 (some u8) := by rw [hy7.out]; exact grown_sets _ _ _ _
             have E7 := E6.out.spoil (List.mem_cons_self ..) (fun e => hbu8.out e.symm) g7
             have ev7 := ev6.out.grown g7 (List.mem_cons_self ..) (fun e => hu58.out e.symm)
             have ep7 : PV y7 [u8, u5, b] u8 t2.n t2.out (t2.own.set.take t2.n) (t2.own.vec.take t2.n) (some ⟨gS, oS, none⟩) t2.n (some ⟨gV, oV, none⟩) t2.n := by
               refine ⟨by rw [hy7.out]; exact PVar.put ep6.out.at_.there, ?_, ?_, Nat.lt_of_lt_of_le ep6.out.lt g7.size⟩
               · exact (rS6.out.away hF.out).keep g7.size (fun k hk hn => g7.block k hk (by intro e; injection e with e; subst e; exact hn (List.mem_cons_self ..)))
               · exact (rV6.out.away hF.out).keep g7.size (fun k hk hn => g7.block k hk (by intro e; injection e with e; subst e; exact hn (List.mem_cons_self ..)))
             clear hy7 g7
             replace E7 := Lib.hid E7
             replace ev7 := Lib.hid ev7
             replace ep7 := Lib.hid ep7)
          | fail)
        go_roundw
        case rel => go_light; exact ⟨q + 1, t2, M, cM, _, _, _, _, _, _, by go_num, by omega, E7.out, hR2.out, hn2.out, ev7.out, ep7.out⟩
        case measure => go_light; simp [intOf]; omega
    · obtain rfl : q = os.length := by omega
      have hend := hbA.out.trans (D.bel.mono (by omega))
      replace D := Lib.hid D
      go_wp2
      go_ret
      exact ⟨rfl, hend⟩
theorem rises_any (n s i f : Int) (A : Option Addr) (c N : Nat) (os : List OpX) (w : World) (hN : N ≤ w.heap.size) (hA : OpsAt w N A os) :
    Calls Try.prog 10 #[.agg (caseA n s i f A os.length c)] w fun x w' => x = .returned (.bool true) ∧ Below w.heap.size w w' := by
  cases h : newB n s i f with
  | false => exact rises_none n s i f A os.length c w (.inl h)
  | true =>
    by_cases hf : f = 4611686018427387904
    · exact rises_none n s i f A os.length c w (.inr ⟨h, hf⟩)
    · have h' := of_decide_eq_true h
      obtain ⟨n', rfl⟩ := Int.eq_ofNat_of_zero_le (show 0 ≤ n by omega)
      obtain ⟨s', rfl⟩ := Int.eq_ofNat_of_zero_le (show 0 ≤ s by omega)
      exact rises_some n' s' i f A c N os w h hf hN hA
end Go.Proofs.Ytfbeggdbjpmppaa
