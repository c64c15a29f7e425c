/- Pl1 Pl2 Pl3 PlD Pl4 Pl5 Pl6 Pl7 Pl8, joined. -/
import Derived.Test.YtfbeggdbjpmppaaMw18
set_option linter.unusedVariables false
set_option linter.unusedSimpArgs false
/- The law's plays: kind 1. -/
namespace Go.Proofs.Ytfbeggdbjpmppaa
open Go.RowKit
set_option maxRecDepth 100000 in
set_option maxHeartbeats 4000000 in
theorem plays_1 (w0 : World) (a b : Nat) (F : List Nat) (s : St) (hs : List HdR) (X : Ptrs) (M : Option Addr) (cM : Nat) (o : OpD) (P : OpP) (w : World) (h : Duo w0 a b [a] F s s hs X M cM w) (hlen : hs.length + 1 ≤ 1000000) (ho : OpAt w0 w0.heap.size o P) (hk : o.k = 1) :
    Calls Try.prog 49 #[.pointer (some ⟨a, 0, none⟩), .pointer (some ⟨b, 0, none⟩), .agg (opA o P)] w (PlPost w0 a b (hs.length + 1)) := by
  obtain ⟨wA, hwA⟩ : ∃ wA, wA = w.alloc (.cells (opA o P) 71) := ⟨_, rfl⟩
  have hbA : Below w.heap.size w wA := by rw [hwA]; exact below_box1 _ _ _
  have zA : w.heap.size < wA.heap.size := by rw [hwA]; simp
  have oA : wA.rangeAt w.heap.size 0 (opA o P).toList := by rw [hwA]; exact range_new w (opA o P) 71
  obtain ⟨v, hv⟩ : ∃ v, v = w.heap.size := ⟨_, rfl⟩
  have DA := h.add hbA (g := v) (by omega) (by omega)
  rw [← hv] at oA
  have hva : v ≠ a := by have := h.sz.1; omega
  have c0 : wA.cell? ⟨v, 0, none⟩ = some (.int .i64 o.k) := oA 0 _ rfl
  have hx : ∀ W, Below w0.heap.size w0 W → OpAt W w0.heap.size o P ∧ w0.heap.size ≤ W.heap.size := fun W hW => ⟨ho.below hW, hW.size⟩
  replace hx := Lib.hid hx
  replace hwA := Lib.hid hwA
  replace hv := Lib.hid hv
  replace DA := Lib.hid DA
  replace oA := Lib.hid oA
  replace h := Lib.hid h
  clear ho hbA
  have kk : o.k = 1 := hk
  have b1 : (o.k == 1) = true := by simp [kk]
  clear hk
  replace kk := Lib.hid kk
  have k3 : wA.cell? ⟨v, 3, none⟩ = some (.slice P.A o.ls.length P.cA) := oA.out 3 _ rfl
  go_enter Try.func49, Try.ntmps49
  go_wp2_with fail
  rw [← hwA.out, ← hv.out]
  go_wp2_with (first
    | (go_at_call 57
       refine (fresh_any P.A P.cA w0.heap.size o.ls.length o.ls wA rfl (hx.out _ DA.out.bel).2 (hx.out _ DA.out.bel).1.a (hx.out _ DA.out.bel).1.la).mono ?_
       rintro e w1 ⟨g, c, rfl, ho1, hb1⟩
       have lo1 := ho1.lo g rfl
       have hlen1 := ho1.len
       rw [List.length_append, len_marks] at hlen1
       have D1 := DA.out.add hb1 (g := g) lo1.1 lo1.2
       have hvA := DA.out.hi v (List.mem_cons_self ..)
       have hgv : g ≠ v := by omega
       have hga : g ≠ a := by have := DA.out.sz.1; omega
       have o1 := range_same oA.out (hb1.block v hvA)
       clear k3 c0
       replace ho1 := Lib.hid ho1
       replace D1 := Lib.hid D1
       replace o1 := Lib.hid o1
       clear hb1)
    | fail)
  go_wp2_with (first
    | (go_at_call 37
       refine (estimate_any' a s M cM (some ⟨g, 0, none⟩) c w1.heap.size o.ls.length o.ls w1 rfl D1.out.ag D1.out.sz.1 D1.out.inv (Nat.le_refl _) (row_prefix (ho1.out.row len_eInt)) (by omega)).mono ?_
       rintro e w2 ⟨rfl, hl2⟩
       have D2 := D1.out.prog hl2 (estimate_mem _ _) (estimate_inv D1.out.inv _) (estimate_rinv D1.out.rinv D1.out.inv _)
       have ho2 := own_same ho1.out (hl2.grown.block g lo1.2 (by intro e; injection e with e; exact hga e))
       have o2 := range_same o1.out (hl2.grown.block v (D1.out.hi v (by simp)) (by intro e; injection e with e; exact hva e))
       have k3 : w2.cell? ⟨v, 3, none⟩ = some (.slice P.A o.ls.length P.cA) := o2 3 _ rfl
       have z2 := hl2.grown.size
       replace ho2 := Lib.hid ho2
       replace D2 := Lib.hid D2
       replace o2 := Lib.hid o2
       clear hl2)
    | fail)
  go_wp2_with (first
    | (go_at_call 58
       refine (rest_any b _ s hs X P.A P.cA w0.heap.size o.ls.length o.ls w2 rfl D2.out.rf D2.out.hi D2.out.invt D2.out.rinvt (by omega) (hx.out _ D2.out.bel).2 (hx.out _ D2.out.bel).1.a (by have := (hx.out _ D2.out.bel).1.la; omega)).mono ?_
       rintro e w3 ⟨rfl, hl3⟩
       obtain ⟨⟨F3, hs3, X3, D3, hn3⟩, hk3⟩ := D2.out.ref hl3 (estimate_inv D2.out.invt _) (estimate_rinv D2.out.rinvt D2.out.invt _)
       have ho3 := own_same ho2.out (hk3 g (List.mem_cons_self ..))
       have o3 := range_same o2.out (hk3 v (by simp))
       clear k3
       have k3 : w3.cell? ⟨v, 3, none⟩ = some (.slice P.A o.ls.length P.cA) := o3 3 _ rfl
       replace ho3 := Lib.hid ho3
       replace D3 := Lib.hid D3
       replace o3 := Lib.hid o3
       replace hn3 := Lib.hid hn3
       clear hl3 hk3)
    | fail)
  go_wp2_with (first
    | (go_at_call 59
       refine (intact_any g c P.A P.cA w3.heap.size o.ls.length o.ls w3 rfl (Nat.le_refl _) (ho3.out.row len_eInt) ((hx.out _ D3.out.bel).1.a.more (hx.out _ D3.out.bel).2) (hx.out _ D3.out.bel).1.la (by omega) (by omega)).mono ?_
       rintro e w4 ⟨rfl, hb4⟩
       have D4 := D3.out.below hb4
       have ho4 := own_same ho3.out (hb4.block g (D3.out.hi g ((D3.out.gF g (by simp)).1)))
       clear k3
       replace ho4 := Lib.hid ho4
       replace D4 := Lib.hid D4
       clear hb4)
    | fail)
  go_wp2_with (first
    | (go_at_call 60
       refine (spoil_any g o.ls.length c (o.ls ++ marks 64).length w4 ho4.out.there (by rw [List.length_append]; omega) (hx.out _ D4.out.bel).1.la).mono ?_
       rintro e w5 ⟨rfl, hg5⟩
       have D5 := Lib.hid ((D4.out.spoil (x := g) (by simp) hga hg5).own (fun x hx => by simp at hx; simp [hx]))
       clear hg5)
    | (go_at_call 48
       refine (num_any _ _).mono ?_
       rintro e w' ⟨rfl, rfl⟩)
    | fail)
  go_ret
  exact ⟨ret_bool (by simp), F3, _, hs3, X3, M, cM, D5.out, by have := hn3.out; omega⟩
end Go.Proofs.Ytfbeggdbjpmppaa
/- The law's plays: kind 2. -/
namespace Go.Proofs.Ytfbeggdbjpmppaa
open Go.RowKit
set_option maxRecDepth 100000 in
set_option maxHeartbeats 4000000 in
theorem plays_2 (w0 : World) (a b : Nat) (F : List Nat) (s : St) (hs : List HdR) (X : Ptrs) (M : Option Addr) (cM : Nat) (o : OpD) (P : OpP) (w : World) (h : Duo w0 a b [a] F s s hs X M cM w) (hlen : hs.length + 1 ≤ 1000000) (ho : OpAt w0 w0.heap.size o P) (hk : o.k = 2) :
    Calls Try.prog 49 #[.pointer (some ⟨a, 0, none⟩), .pointer (some ⟨b, 0, none⟩), .agg (opA o P)] w (PlPost w0 a b (hs.length + 1)) := by
  obtain ⟨wA, hwA⟩ : ∃ wA, wA = w.alloc (.cells (opA o P) 71) := ⟨_, rfl⟩
  have hbA : Below w.heap.size w wA := by rw [hwA]; exact below_box1 _ _ _
  have zA : w.heap.size < wA.heap.size := by rw [hwA]; simp
  have oA : wA.rangeAt w.heap.size 0 (opA o P).toList := by rw [hwA]; exact range_new w (opA o P) 71
  obtain ⟨v, hv⟩ : ∃ v, v = w.heap.size := ⟨_, rfl⟩
  have DA := h.add hbA (g := v) (by omega) (by omega)
  rw [← hv] at oA
  have hva : v ≠ a := by have := h.sz.1; omega
  have c0 : wA.cell? ⟨v, 0, none⟩ = some (.int .i64 o.k) := oA 0 _ rfl
  have hx : ∀ W, Below w0.heap.size w0 W → OpAt W w0.heap.size o P ∧ w0.heap.size ≤ W.heap.size := fun W hW => ⟨ho.below hW, hW.size⟩
  replace hx := Lib.hid hx
  replace hwA := Lib.hid hwA
  replace hv := Lib.hid hv
  replace DA := Lib.hid DA
  replace oA := Lib.hid oA
  replace h := Lib.hid h
  clear ho hbA
  have kk : o.k = 2 := hk
  have b1 : (o.k == 1) = false := by simp [kk]
  have b2 : (o.k == 2) = true := by simp [kk]
  clear hk
  replace kk := Lib.hid kk
  have k4 : (loadVar 31 ⟨v, 4, none⟩).run Try.prog wA = .ok (.agg (prA P.S P.V P.cS P.cV o.p)) wA := load31 (fun j u hu => by
    have := oA.out (4 + j) u (by rw [← hu]; rw [Nat.add_comm]; rfl)
    rw [Nat.zero_add] at this; exact this)
  replace k4 := Lib.hid k4
  go_enter Try.func49, Try.ntmps49
  go_wp2_with fail
  rw [← hwA.out, ← hv.out]
  go_wp2_with (first
    | (refine wpList_loadR rfl 31 (.tmp 74) rfl v 4 (by rfl) _ (by exact k4.out) ?_)
    | (go_at_call 41
       refine (copied_any P.S P.cS P.V P.cV w0.heap.size o.p.set.length o.p.vec.length o.p o.p.set o.p.vec wA rfl rfl (hx.out _ DA.out.bel).2 (hx.out _ DA.out.bel).1.s (hx.out _ DA.out.bel).1.v (hx.out _ DA.out.bel).1.lS (hx.out _ DA.out.bel).1.lv).mono ?_
       rintro e w1 ⟨g, c, h', d, rfl, ho1, ho1', hgh, hb1⟩
       have lo1 := ho1.lo g rfl
       have lo1' := ho1'.lo h' rfl
       have hlen1 := ho1.len
       have hlen1' := ho1'.len
       rw [List.length_append, len_marks] at hlen1 hlen1'
       have hvA := DA.out.hi v (List.mem_cons_self ..)
       have hsa := DA.out.sz.1
       have o1 := range_same oA.out (hb1.block v hvA)
       have b1u : Below w1.heap.size w1 (w1.alloc (.cells prZ 31)) := (Below.refl _ _).alloc (Nat.le_refl _) _
       clear c0
       replace ho1 := Lib.hid ho1
       replace ho1' := Lib.hid ho1'
       replace o1 := Lib.hid o1
       replace hb1 := Lib.hid hb1
       replace b1u := Lib.hid b1u)
    | (refine wpList_store31 rfl (.tmp 13) (.tmp 76) rfl w1.heap.size 0 (by rfl) (some ⟨g, 0, none⟩) o.p.set.length c (some ⟨h', 0, none⟩) o.p.vec.length d o.p (by rfl) (there_new w1 prZ 31) ?_
       intro w2 hw2
       obtain ⟨u, hu⟩ : ∃ u, u = w1.heap.size := ⟨_, rfl⟩
       have p2 : PVar w2 u (some ⟨g, 0, none⟩) o.p.set.length c (some ⟨h', 0, none⟩) o.p.vec.length d o.p := by rw [hw2.out, hu]; exact PVar.put (there_new w1 prZ 31)
       have b12 : Below w1.heap.size w1 w2 := by rw [hw2.out]; exact below_sets b1u.out (Nat.le_refl _) _ _ (by simp)
       have z2 : w1.heap.size < w2.heap.size := by rw [hw2.out, size_sets]; simp
       have bA2 : Below wA.heap.size wA w2 := hb1.out.trans (b12.mono (by have := hb1.out.size; omega))
       have hg2 : ∀ x ∈ [g, h', u], wA.heap.size ≤ x ∧ x < w2.heap.size := fun x hx => by
         simp only [List.mem_cons, List.not_mem_nil, or_false] at hx
         rcases hx with e | e | e
         · omega
         · omega
         · rw [e, hu]; exact ⟨hb1.out.size, z2⟩
       have D2 := DA.out.adds bA2 [g, h', u] hg2
       have ho2 := own_same ho1.out (b12.block g lo1.2)
       have ho2' := own_same ho1'.out (b12.block h' lo1'.2)
       have o2 := range_same o1.out (b12.block v (by have := hb1.out.size; omega))
       have hga : g ≠ a := by omega
       have hha : h' ≠ a := by omega
       have hua : u ≠ a := by have := (hg2 u (by simp)).1; omega
       have hgu : g ≠ u := by rw [hu]; omega
       have hhu : h' ≠ u := by rw [hu]; omega
       have hzz : w1.heap.size ≤ w2.heap.size := by omega
       have hgz : g < w2.heap.size := by omega
       have hhz : h' < w2.heap.size := by omega
       have huz : u < w2.heap.size := (hg2 u (by simp)).2
       have q1 : w2.cell? ⟨v, 1, none⟩ = some (.int .i64 o.q) := o2 1 _ rfl
       have q2 : w2.cell? ⟨v, 2, none⟩ = some (.int .i64 o.i) := o2 2 _ rfl
       rw [← hu]
       replace hu := Lib.hid hu
       replace p2 := Lib.hid p2
       replace ho2 := Lib.hid ho2
       replace ho2' := Lib.hid ho2'
       replace D2 := Lib.hid D2
       replace o2 := Lib.hid o2
       clear b12 bA2 hw2 hg2)
    | (refine wpList_loadR rfl 31 (.tmp 13) rfl u 0 (by rfl) _ (by exact p2.out.load) ?_)
    | fail)
  go_wp2_with (first
    | (go_at_call 36
       refine (take_any a s M cM (some ⟨g, 0, none⟩) (some ⟨h', 0, none⟩) c d w2.heap.size o.p o.q o.i w2 D2.out.ag D2.out.sz.1 D2.out.inv (Nat.le_refl _) (row_prefix (ho2.out.row len_eInt)) (row_prefix (ho2'.out.row len_eInt)) (by omega) (by omega) (fun W hW => (D2.out.rM.keep hW.size (fun k hk hn => hW.block k hk (by intro e; injection e with e; subst e; exact hn (D2.out.gF _ D2.out.aG).1))).row) D2.out.rinv.len).mono ?_
       rintro e w3 ⟨rfl, hl3⟩
       have D3 := D2.out.prog hl3 (take_mem _ _ _ _) (take_inv D2.out.inv _ _ _) (take_rinv D2.out.rinv D2.out.inv _ _ _)
       have hb3 : ∀ k, k < w2.heap.size → k ≠ a → w3.heap[k]? = w2.heap[k]? := fun k hk hn => hl3.grown.block k hk (by intro e; injection e with e; exact hn e)
       have ho3 := own_same ho2.out (hb3 g hgz hga)
       have ho3' := own_same ho2'.out (hb3 h' hhz hha)
       have p3 := p2.out.same (hb3 u huz hua)
       have o3 := range_same o2.out (hb3 v (D2.out.hi v (by simp)) hva)
       clear q1 q2
       have q1 : w3.cell? ⟨v, 1, none⟩ = some (.int .i64 o.q) := o3 1 _ rfl
       have q2 : w3.cell? ⟨v, 2, none⟩ = some (.int .i64 o.i) := o3 2 _ rfl
       have k4 : (loadVar 31 ⟨v, 4, none⟩).run Try.prog w3 = .ok (.agg (prA P.S P.V P.cS P.cV o.p)) w3 := load31 (fun j u hu => by
         have := o3 (4 + j) u (by rw [← hu]; rw [Nat.add_comm]; rfl)
         rw [Nat.zero_add] at this; exact this)
       replace k4 := Lib.hid k4
       replace ho3 := Lib.hid ho3
       replace ho3' := Lib.hid ho3'
       replace p3 := Lib.hid p3
       replace D3 := Lib.hid D3
       replace o3 := Lib.hid o3
       clear hl3 hb3)
    | (refine wpList_loadR rfl 31 (.tmp 93) rfl v 4 (by rfl) _ (by exact k4.out) ?_)
    | fail)
  go_wp2_with (first
    | (go_at_call 61
       refine (rtake_any b _ s hs X P.S P.V P.cS P.cV w0.heap.size o.p o.q o.i w3 D3.out.rf D3.out.hi D3.out.invt D3.out.rinvt hlen (hx.out _ D3.out.bel).2 (hx.out _ D3.out.bel).1.s (hx.out _ D3.out.bel).1.v (by have := (hx.out _ D3.out.bel).1.lS; omega) (by have := (hx.out _ D3.out.bel).1.lv; omega)).mono ?_
       rintro e w4 ⟨rfl, hl4⟩
       obtain ⟨⟨F4, hs4, X4, D4, hn4⟩, hk4⟩ := D3.out.ref hl4 (take_inv D3.out.invt _ _ _) (take_rinv D3.out.rinvt D3.out.invt _ _ _)
       have ho4 := own_same ho3.out (hk4 g (by simp))
       have ho4' := own_same ho3'.out (hk4 h' (by simp))
       have p4 := p3.out.same (hk4 u (by simp))
       have o4 := range_same o3.out (hk4 v (by simp))
       clear q1 q2
       have r0 := p4.c0
       have r4 : w4.cell? ⟨v, 4, none⟩ = some (.slice P.S o.p.set.length P.cS) := o4 4 _ rfl
       replace ho4 := Lib.hid ho4
       replace ho4' := Lib.hid ho4'
       replace p4 := Lib.hid p4
       replace D4 := Lib.hid D4
       replace o4 := Lib.hid o4
       replace hn4 := Lib.hid hn4
       clear hl4 hk4)
    | fail)
  have tok1 : True := trivial
  go_wp2_with (first
    | (go_at_call 59
       have tt := tok1
       refine (intact_any g c P.S P.cS w4.heap.size o.p.set.length o.p.set w4 rfl (Nat.le_refl _) (ho4.out.row len_eInt) ((hx.out _ D4.out.bel).1.s.more (hx.out _ D4.out.bel).2) (hx.out _ D4.out.bel).1.lS (by omega) (by omega)).mono ?_
       rintro e w5 ⟨rfl, hb5⟩
       have D5 := D4.out.below hb5
       have hbk : ∀ k, k ∈ F4 → w5.heap[k]? = w4.heap[k]? := fun k hk => hb5.block k (D4.out.hi k hk)
       have ho5 := own_same ho4.out (hbk g ((D4.out.gF g (by simp)).1))
       have ho5' := own_same ho4'.out (hbk h' ((D4.out.gF h' (by simp)).1))
       have p5 := p4.out.same (hbk u ((D4.out.gF u (by simp)).1))
       have o5 := range_same o4.out (hbk v ((D4.out.gF v (by simp)).1))
       clear r0 r4 tt tok1
       have r8 := p5.c8
       have r12 : w5.cell? ⟨v, 12, none⟩ = some (.slice P.V o.p.vec.length P.cV) := o5 12 _ rfl
       replace ho5 := Lib.hid ho5
       replace ho5' := Lib.hid ho5'
       replace p5 := Lib.hid p5
       replace D5 := Lib.hid D5
       replace o5 := Lib.hid o5
       clear hb5 hbk)
    | fail)
  go_wp2_with (first
    | (go_at_call 59
       refine (intact_any h' d P.V P.cV w5.heap.size o.p.vec.length o.p.vec w5 rfl (Nat.le_refl _) (ho5'.out.row len_eInt) ((hx.out _ D5.out.bel).1.v.more (hx.out _ D5.out.bel).2) (hx.out _ D5.out.bel).1.lv (by omega) (by omega)).mono ?_
       rintro e w6 ⟨rfl, hb6⟩
       have D6 := D5.out.below hb6
       have hbk : ∀ k, k ∈ F4 → w6.heap[k]? = w5.heap[k]? := fun k hk => hb6.block k (D5.out.hi k hk)
       have ho6 := own_same ho5.out (hbk g ((D5.out.gF g (by simp)).1))
       have ho6' := own_same ho5'.out (hbk h' ((D5.out.gF h' (by simp)).1))
       have p6 := p5.out.same (hbk u ((D5.out.gF u (by simp)).1))
       clear r8 r12
       have r0 := p6.c0
       replace ho6 := Lib.hid ho6
       replace ho6' := Lib.hid ho6'
       replace p6 := Lib.hid p6
       replace D6 := Lib.hid D6
       clear hb6 hbk)
    | fail)
  have tok2 : True := trivial
  go_wp2_with (first
    | (go_at_call 60
       have tt := tok2
       refine (spoil_any g o.p.set.length c (o.p.set ++ marks 64).length w6 ho6.out.there (by rw [List.length_append]; omega) (hx.out _ D6.out.bel).1.lS).mono ?_
       rintro e w7 ⟨rfl, hg7⟩
       have D7 := D6.out.spoil (x := g) (by simp) hga hg7
       have ho7' := own_same ho6'.out (hg7.block h' (D6.out.hi h' ((D6.out.gF h' (by simp)).1)) (by intro e; injection e with e; exact hgh e.symm))
       have p7 := p6.out.same (hg7.block u (D6.out.hi u ((D6.out.gF u (by simp)).1)) (by intro e; injection e with e; exact hgu e.symm))
       clear r0 tt tok2
       have r8 := p7.c8
       replace ho7' := Lib.hid ho7'
       replace p7 := Lib.hid p7
       replace D7 := Lib.hid D7
       clear hg7)
    | fail)
  go_wp2_with (first
    | (go_at_call 60
       refine (spoil_any h' o.p.vec.length d (o.p.vec ++ marks 64).length w7 ho7'.out.there (by rw [List.length_append]; omega) (hx.out _ D7.out.bel).1.lv).mono ?_
       rintro e w8 ⟨rfl, hg8⟩
       have D8 := Lib.hid ((D7.out.spoil (x := h') (by simp) hha hg8).own (fun x hx => by simp at hx; simp [hx]))
       clear hg8 r8)
    | (go_at_call 48
       refine (num_any _ _).mono ?_
       rintro e w' ⟨rfl, rfl⟩)
    | fail)
  go_ret
  exact ⟨ret_bool (by simp), F4, _, hs4, X4, M, cM, D8.out, hn4.out⟩
end Go.Proofs.Ytfbeggdbjpmppaa
/- The law's plays: kind 3. -/
namespace Go.Proofs.Ytfbeggdbjpmppaa
open Go.RowKit
set_option maxRecDepth 100000 in
set_option maxHeartbeats 4000000 in
theorem plays_3 (w0 : World) (a b : Nat) (F : List Nat) (s : St) (hs : List HdR) (X : Ptrs) (M : Option Addr) (cM : Nat) (o : OpD) (P : OpP) (w : World) (h : Duo w0 a b [a] F s s hs X M cM w) (hlen : hs.length + 1 ≤ 1000000) (ho : OpAt w0 w0.heap.size o P) (hk : o.k = 3) :
    Calls Try.prog 49 #[.pointer (some ⟨a, 0, none⟩), .pointer (some ⟨b, 0, none⟩), .agg (opA o P)] w (PlPost w0 a b (hs.length + 1)) := by
  obtain ⟨wA, hwA⟩ : ∃ wA, wA = w.alloc (.cells (opA o P) 71) := ⟨_, rfl⟩
  have hbA : Below w.heap.size w wA := by rw [hwA]; exact below_box1 _ _ _
  have zA : w.heap.size < wA.heap.size := by rw [hwA]; simp
  have oA : wA.rangeAt w.heap.size 0 (opA o P).toList := by rw [hwA]; exact range_new w (opA o P) 71
  obtain ⟨v, hv⟩ : ∃ v, v = w.heap.size := ⟨_, rfl⟩
  have DA := h.add hbA (g := v) (by omega) (by omega)
  rw [← hv] at oA
  have hva : v ≠ a := by have := h.sz.1; omega
  have c0 : wA.cell? ⟨v, 0, none⟩ = some (.int .i64 o.k) := oA 0 _ rfl
  have hx : ∀ W, Below w0.heap.size w0 W → OpAt W w0.heap.size o P ∧ w0.heap.size ≤ W.heap.size := fun W hW => ⟨ho.below hW, hW.size⟩
  replace hx := Lib.hid hx
  replace hwA := Lib.hid hwA
  replace hv := Lib.hid hv
  replace DA := Lib.hid DA
  replace oA := Lib.hid oA
  replace h := Lib.hid h
  clear ho hbA
  have kk : o.k = 3 := hk
  have b1 : (o.k == 1) = false := by simp [kk]
  have b2 : (o.k == 2) = false := by simp [kk]
  have b3 : (o.k == 3) = true := by simp [kk]
  clear hk
  replace kk := Lib.hid kk
  go_enter Try.func49, Try.ntmps49
  go_wp2_with fail
  rw [← hwA.out, ← hv.out]
  go_wp2_with (first
    | (go_at_call 30
       refine (proposal_any a s M cM wA DA.out.ag DA.out.sz.1 DA.out.inv.n2).mono ?_
       rintro e w1 ⟨S, V, rfl, rS, rV, hb1⟩
       have D1 := DA.out.below hb1
       have b1u : Below w1.heap.size w1 (w1.alloc (.cells prZ 31)) := (Below.refl _ _).alloc (Nat.le_refl _) _
       clear c0
       replace D1 := Lib.hid D1
       replace rS := Lib.hid rS
       replace rV := Lib.hid rV
       replace b1u := Lib.hid b1u
       clear hb1)
    | (refine wpList_store31 rfl (.tmp 19) (.tmp 134) rfl w1.heap.size 0 (by rfl) S s.n s.n V s.n s.n (s.own.pr s.n) (by rfl) (there_new w1 prZ 31) ?_
       intro w2 hw2
       obtain ⟨u, hu⟩ : ∃ u, u = w1.heap.size := ⟨_, rfl⟩
       have p2 : PVar w2 u S s.n s.n V s.n s.n (s.own.pr s.n) := by rw [hw2.out, hu]; exact PVar.put (there_new w1 prZ 31)
       have b12 : Below w1.heap.size w1 w2 := by rw [hw2.out]; exact below_sets b1u.out (Nat.le_refl _) _ _ (by simp)
       have huz : u < w2.heap.size := by rw [hw2.out, size_sets, hu]; simp
       have D2 := D1.out.below b12
       have rS2 := rS.out.below b12
       have rV2 := rV.out.below b12
       rw [← hu]
       replace hu := Lib.hid hu
       replace p2 := Lib.hid p2
       replace D2 := Lib.hid D2
       replace rS2 := Lib.hid rS2
       replace rV2 := Lib.hid rV2
       clear b12 hw2)
    | fail)
  go_wp2_with (first
    | (go_at_call 62
       refine (rproposal_any b _ s hs X w2 D2.out.rf D2.out.invt).mono ?_
       rintro e w3 ⟨S', cS', V', cV', rfl, rS', rV', hb3⟩
       have D3 := D2.out.below hb3
       have b3u : Below w3.heap.size w3 (w3.alloc (.cells prZ 31)) := (Below.refl _ _).alloc (Nat.le_refl _) _
       have p3 := p2.out.same (hb3.block u huz)
       have rS3 := rS2.out.below hb3
       have rV3 := rV2.out.below hb3
       have huz3 : u < w3.heap.size := by have := hb3.size; omega
       replace D3 := Lib.hid D3
       replace p3 := Lib.hid p3
       replace rS3 := Lib.hid rS3
       replace rV3 := Lib.hid rV3
       replace rS' := Lib.hid rS'
       replace rV' := Lib.hid rV'
       replace b3u := Lib.hid b3u
       clear hb3)
    | (refine wpList_store31 rfl (.tmp 20) (.tmp 136) rfl w3.heap.size 0 (by rfl) S' s.n cS' V' s.n cV' (s.own.pr s.n) (by rfl) (there_new w3 prZ 31) ?_
       intro w4 hw4
       obtain ⟨u', hu'⟩ : ∃ u', u' = w3.heap.size := ⟨_, rfl⟩
       have p4' : PVar w4 u' S' s.n cS' V' s.n cV' (s.own.pr s.n) := by rw [hw4.out, hu']; exact PVar.put (there_new w3 prZ 31)
       have b34 : Below w3.heap.size w3 w4 := by rw [hw4.out]; exact below_sets b3u.out (Nat.le_refl _) _ _ (by simp)
       have D4 := D3.out.below b34
       have p4 := p3.out.same (b34.block u huz3)
       have rS4 := rS3.out.below b34
       have rV4 := rV3.out.below b34
       have rS4' := rS'.out.below b34
       have rV4' := rV'.out.below b34
       have lS := len_take16 D4.inv.own.set D4.inv.n2
       have lV := len_take16 D4.inv.own.vec D4.inv.n2
       have hn16 := D4.inv.n2
       rw [← hu']
       replace hu' := Lib.hid hu'
       replace p4 := Lib.hid p4
       replace p4' := Lib.hid p4'
       replace D4 := Lib.hid D4
       replace rS4 := Lib.hid rS4
       replace rV4 := Lib.hid rV4
       replace rS4' := Lib.hid rS4'
       replace rV4' := Lib.hid rV4'
       replace lS := Lib.hid lS
       replace lV := Lib.hid lV
       clear b34 hw4)
    | (refine wpList_loadR rfl 31 (.tmp 19) rfl u 0 (by rfl) _ (by exact p4.out.load) ?_)
    | (refine wpList_loadR rfl 31 (.tmp 20) rfl u' 0 (by rfl) _ (by exact p4'.out.load) ?_)
    | fail)
  go_wp2_with (first
    | (go_at_call 33
       refine (proposals_any S V S' V' s.n s.n cS' cV' w4.heap.size s.n s.n s.n s.n (s.own.pr s.n) (s.own.pr s.n) (s.own.set.take s.n) (s.own.vec.take s.n) (s.own.set.take s.n) (s.own.vec.take s.n) w4 lS.out lV.out lS.out lV.out (Nat.le_refl _) rS4.out.row rV4.out.row rS4'.out.row rV4'.out.row (by omega) (by omega) (by omega) (by omega)).mono ?_
       rintro e w5 ⟨rfl, hb5⟩
       have D5 := Lib.hid ((D4.out.below hb5).own (fun x hx => by simp at hx; simp [hx]))
       clear hb5)
    | fail)
  go_ret
  exact ⟨ret_bool (prSame_refl _ _ _), _, _, hs, X, M, cM, D5.out, by omega⟩
end Go.Proofs.Ytfbeggdbjpmppaa
/- Agreed and Install, as plays needs them. -/
namespace Go.Proofs.Ytfbeggdbjpmppaa
open Go.RowKit
def agV : Option Ag → Vid
  | some a => a.vid
  | none => Vid.zero
def agM : Option Ag → List Mb
  | some a => a.mem
  | none => []
def agT : Option Ag → List Int
  | some a => a.trans
  | none => []
def agE : Option Ag → Int
  | some _ => 0
  | none => 61
theorem rowN_nil {α : Type} (w : World) (lo sz : Nat) (enc : α → List Value) (A : Option Addr) : RowN w lo sz enc A [] := fun h => by simp at h
/-- Agreed, whatever it answers. -/
def AoPost (w : World) (g : Option Ag) (x : Ending) (w' : World) : Prop :=
  ∃ A c T cT, x = .returned (.tuple #[.agg (viewA (agV g) A (agM g).length c), .slice T (agT g).length cT, .bool g.isSome]) ∧ RowN w' w.heap.size 3 eMb A (agM g) ∧ RowN w' w.heap.size 1 eInt T (agT g) ∧ Below w.heap.size w w'
theorem AgPost.one {w w' : World} {s : St} {x : Ending} (h : AgPost w s x w') : AoPost w s.agreed x w' := by
  obtain ⟨h1, h2, h3⟩ := h
  cases ha : s.agreed with
  | none => exact ⟨none, 0, none, 0, h1 ha, rowN_nil _ _ _ _ _, rowN_nil _ _ _ _ _, h3⟩
  | some a =>
    obtain ⟨A, c, T, cT, e, rA, rT⟩ := h2 a ha
    exact ⟨A, c, T, cT, e, rA, rT, h3⟩
theorem agM_len {s : St} (hI : Inv s) : (agM s.agreed).length ≤ 16 ∧ (agT s.agreed).length ≤ 16 := by
  cases ha : s.agreed with
  | none => exact ⟨Nat.zero_le _, Nat.zero_le _⟩
  | some a =>
    have hn := hI.n2
    unfold St.agreed at ha
    split at ha
    · have := agTo_len ha; show a.mem.length ≤ 16 ∧ a.trans.length ≤ 16; omega
    · cases ha
theorem RowN.chg {α : Type} {w w' : World} {lo sz b : Nat} {o : Option Nat} {enc : α → List Value} {A : Option Addr} {l : List α} (h : RowN w lo sz enc A l) (c : Chg w w' b o) (hb : b < lo) (ho : ∀ k, o = some k → k < lo) : RowN w' lo sz enc A l := fun h0 => by
  obtain ⟨g, off, e, h1, h2, h3⟩ := h h0
  exact ⟨g, off, e, h1, Nat.lt_of_lt_of_le h2 c.size, fun k x hx j u hu => (World.cell?_of_block (c.block g h2 (by omega) (fun e => by have := ho g e.symm; omega))).trans (h3 k x hx j u hu)⟩
section
variable {w0 w : World} {a b : Nat} {G F : List Nat} {s t : St} {hs : List HdR} {X : Ptrs} {M : Option Addr} {cM : Nat}
/-- The program's Install. -/
def IpPost (w0 : World) (a b : Nat) (G F : List Nat) (s t : St) (hs : List HdR) (X : Ptrs) (w : World) (x : Ending) (w' : World) : Prop :=
  ∃ A c T cT M' cM', x = .returned (.tuple #[.agg (viewA (agV s.agreed) A (agM s.agreed).length c), .slice T (agT s.agreed).length cT, .int .i64 (agE s.agreed)]) ∧ RowN w' w.heap.size 3 eMb A (agM s.agreed) ∧ RowN w' w.heap.size 1 eInt T (agT s.agreed) ∧ Duo w0 a b G F s.install t hs X M' cM' w' ∧ w.grownBy w' (some a)
theorem install_duo (h : Duo w0 a b G F s t hs X M cM w) : Calls Try.prog 27 #[.pointer (some ⟨a, 0, none⟩)] w (IpPost w0 a b G F s t hs X w) := by
  cases ha : s.agreed with
  | none =>
    refine (install_none a s M cM w h.ag h.sz.1 h.inv ha).mono ?_
    rintro x w' ⟨rfl, hl⟩
    have hin : s.install = s := by unfold St.install; rw [ha]
    refine ⟨none, 0, none, 0, M, cM, by rw [ha]; rfl, by rw [ha]; exact rowN_nil _ _ _ _ _, by rw [ha]; exact rowN_nil _ _ _ _ _, ?_, hl.grown⟩
    rw [hin]
    exact h.prog hl rfl h.inv h.rinv
  | some g =>
    refine (install_some a s M cM w h.ag h.sz.1 h.inv g ha).mono ?_
    rintro x w' ⟨A, c, T, cT, M', cM', rfl, hl, rM, rA, rT⟩
    have hin : s.install.mem = g.mem := by unfold St.install; rw [ha]
    exact ⟨A, c, T, cT, M', cM', by rw [ha]; rfl, by rw [ha]; exact rA, by rw [ha]; exact rT, h.progM hl (by rw [hin]; exact rM) (install_inv h.inv) (install_rinv h.rinv h.inv), hl.grown⟩
/-- The document's Install. -/
def IrPost (w0 : World) (a b : Nat) (G : List Nat) (s t : St) (M : Option Addr) (cM n : Nat) (o : Option Nat) (w : World) (x : Ending) (w' : World) : Prop :=
  ∃ A c T cT F' hs' X', x = .returned (.tuple #[.agg (viewA (agV t.agreed) A (agM t.agreed).length c), .slice T (agT t.agreed).length cT, .int .i64 (agE t.agreed)]) ∧ RowN w' w.heap.size 3 eMb A (agM t.agreed) ∧ RowN w' w.heap.size 1 eInt T (agT t.agreed) ∧ Duo w0 a b G F' s t.install hs' X' M cM w' ∧ hs'.length ≤ n ∧ Chg w w' b o
theorem rinstall_duo (h : Duo w0 a b G F s t hs X M cM w) (hlen : hs.length ≤ 1000000) : Calls Try.prog 64 #[.pointer (some ⟨b, 0, none⟩)] w (IrPost w0 a b G s t M cM hs.length (blk X.A) w) := by
  cases ha : t.agreed with
  | none =>
    refine (rinstall_none b F t hs X w h.rf h.hi h.invt h.rinvt hlen ha).mono ?_
    rintro x w' ⟨rfl, hl⟩
    have hin : t.install = t := by unfold St.install; rw [ha]
    obtain ⟨⟨F', hs', X', D, hn⟩, _⟩ := h.ref hl h.invt h.rinvt
    exact ⟨none, 0, none, 0, F', hs', X', by rw [ha]; rfl, by rw [ha]; exact rowN_nil _ _ _ _ _, by rw [ha]; exact rowN_nil _ _ _ _ _, by rw [hin]; exact D, hn, hl.chg⟩
  | some g =>
    refine (rinstall_some b F t hs X w h.rf h.hi h.invt h.rinvt hlen g ha).mono ?_
    rintro x w' ⟨A, c, T, cT, rfl, hl, rA, rT⟩
    obtain ⟨⟨F', hs', X', D, hn⟩, _⟩ := h.ref hl (install_inv h.invt) (install_rinv h.rinvt h.invt)
    exact ⟨A, c, T, cT, F', hs', X', by rw [ha]; rfl, by rw [ha]; exact rA, by rw [ha]; exact rT, D, hn, hl.chg⟩
end
end Go.Proofs.Ytfbeggdbjpmppaa
/- The law's plays: kind 4. -/
namespace Go.Proofs.Ytfbeggdbjpmppaa
open Go.RowKit
set_option maxRecDepth 100000 in
set_option maxHeartbeats 4000000 in
theorem plays_4 (w0 : World) (a b : Nat) (F : List Nat) (s : St) (hs : List HdR) (X : Ptrs) (M : Option Addr) (cM : Nat) (o : OpD) (P : OpP) (w : World) (h : Duo w0 a b [a] F s s hs X M cM w) (hlen : hs.length + 1 ≤ 1000000) (ho : OpAt w0 w0.heap.size o P) (hk : o.k = 4) :
    Calls Try.prog 49 #[.pointer (some ⟨a, 0, none⟩), .pointer (some ⟨b, 0, none⟩), .agg (opA o P)] w (PlPost w0 a b (hs.length + 1)) := by
  obtain ⟨wA, hwA⟩ : ∃ wA, wA = w.alloc (.cells (opA o P) 71) := ⟨_, rfl⟩
  have hbA : Below w.heap.size w wA := by rw [hwA]; exact below_box1 _ _ _
  have zA : w.heap.size < wA.heap.size := by rw [hwA]; simp
  have oA : wA.rangeAt w.heap.size 0 (opA o P).toList := by rw [hwA]; exact range_new w (opA o P) 71
  obtain ⟨v, hv⟩ : ∃ v, v = w.heap.size := ⟨_, rfl⟩
  have DA := h.add hbA (g := v) (by omega) (by omega)
  rw [← hv] at oA
  have hva : v ≠ a := by have := h.sz.1; omega
  have c0 : wA.cell? ⟨v, 0, none⟩ = some (.int .i64 o.k) := oA 0 _ rfl
  have hx : ∀ W, Below w0.heap.size w0 W → OpAt W w0.heap.size o P ∧ w0.heap.size ≤ W.heap.size := fun W hW => ⟨ho.below hW, hW.size⟩
  replace hx := Lib.hid hx
  replace hwA := Lib.hid hwA
  replace hv := Lib.hid hv
  replace DA := Lib.hid DA
  replace oA := Lib.hid oA
  replace h := Lib.hid h
  clear ho hbA
  have kk : o.k = 4 := hk
  have b1 : (o.k == 1) = false := by simp [kk]
  have b2 : (o.k == 2) = false := by simp [kk]
  have b3 : (o.k == 3) = false := by simp [kk]
  have b4 : (o.k == 4) = true := by simp [kk]
  clear hk
  replace kk := Lib.hid kk
  go_enter Try.func49, Try.ntmps49
  go_wp2_with fail
  rw [← hwA.out, ← hv.out]
  go_wp2_with (first
    | (go_at_call 50
       refine (agreed_any a s M cM wA DA.out.ag DA.out.sz.1 DA.out.inv).mono ?_
       intro e w1 hag
       obtain ⟨A, c, T, cT, rfl, rA, rT, hb1⟩ := hag.one
       clear hag
       have D1 := DA.out.below hb1
       have b1u : Below w1.heap.size w1 (w1.alloc (.cells (viewA Vid.zero none 0 0) 46)) := (Below.refl _ _).alloc (Nat.le_refl _) _
       clear c0
       replace D1 := Lib.hid D1
       replace rA := Lib.hid rA
       replace rT := Lib.hid rT
       replace b1u := Lib.hid b1u
       clear hb1)
    | (refine wpList_store46 rfl (.tmp 21) (.tmp 145) rfl w1.heap.size 0 (by rfl) (agV s.agreed) A (agM s.agreed).length c (by rfl) (there_new w1 (viewA Vid.zero none 0 0) 46) ?_
       intro w2 hw2
       obtain ⟨u, hu⟩ : ∃ u, u = w1.heap.size := ⟨_, rfl⟩
       have p2 : ViAt w2 u (agV s.agreed) A (agM s.agreed).length c := by rw [hw2.out, hu]; exact viAt_put (there_new w1 (viewA Vid.zero none 0 0) 46)
       have b12 : Below w1.heap.size w1 w2 := by rw [hw2.out]; exact below_sets b1u.out (Nat.le_refl _) _ _ (by simp)
       have huz : u < w2.heap.size := by rw [hw2.out, size_sets, hu]; simp
       have D2 := D1.out.below b12
       have rA2 := rA.out.below b12
       have rT2 := rT.out.below b12
       rw [← hu]
       replace hu := Lib.hid hu
       replace p2 := Lib.hid p2
       replace D2 := Lib.hid D2
       replace rA2 := Lib.hid rA2
       replace rT2 := Lib.hid rT2
       clear b12 hw2)
    | fail)
  go_wp2_with (first
    | (go_at_call 63
       refine (ragreed_any b _ s hs X w2 D2.out.rf D2.out.invt D2.out.rinvt (by omega)).mono ?_
       intro e w3 hag
       obtain ⟨A', c', T', cT', rfl, rA', rT', hb3⟩ := hag.one
       clear hag
       have D3 := D2.out.below hb3
       have b3u : Below w3.heap.size w3 (w3.alloc (.cells (viewA Vid.zero none 0 0) 46)) := (Below.refl _ _).alloc (Nat.le_refl _) _
       have p3 := p2.out.same (hb3.block u huz)
       have rA3 := rA2.out.below hb3
       have rT3 := rT2.out.below hb3
       have huz3 : u < w3.heap.size := by have := hb3.size; omega
       replace D3 := Lib.hid D3
       replace p3 := Lib.hid p3
       replace rA3 := Lib.hid rA3
       replace rT3 := Lib.hid rT3
       replace rA' := Lib.hid rA'
       replace rT' := Lib.hid rT'
       replace b3u := Lib.hid b3u
       clear hb3)
    | (refine wpList_store46 rfl (.tmp 24) (.tmp 151) rfl w3.heap.size 0 (by rfl) (agV s.agreed) A' (agM s.agreed).length c' (by rfl) (there_new w3 (viewA Vid.zero none 0 0) 46) ?_
       intro w4 hw4
       obtain ⟨u', hu'⟩ : ∃ u', u' = w3.heap.size := ⟨_, rfl⟩
       have p4' : ViAt w4 u' (agV s.agreed) A' (agM s.agreed).length c' := by rw [hw4.out, hu']; exact viAt_put (there_new w3 (viewA Vid.zero none 0 0) 46)
       have b34 : Below w3.heap.size w3 w4 := by rw [hw4.out]; exact below_sets b3u.out (Nat.le_refl _) _ _ (by simp)
       have D4 := D3.out.below b34
       have p4 := p3.out.same (b34.block u huz3)
       have rA4 := rA3.out.below b34
       have rT4 := rT3.out.below b34
       have rA4' := rA'.out.below b34
       have rT4' := rT'.out.below b34
       obtain ⟨lM, lT⟩ := agM_len D4.inv
       rw [← hu']
       replace hu' := Lib.hid hu'
       replace p4 := Lib.hid p4
       replace p4' := Lib.hid p4'
       replace D4 := Lib.hid D4
       replace rA4 := Lib.hid rA4
       replace rT4 := Lib.hid rT4
       replace rA4' := Lib.hid rA4'
       replace rT4' := Lib.hid rT4'
       clear b34 hw4)
    | (refine wpList_loadR rfl 46 (.tmp 21) rfl u 0 (by rfl) _ (by exact p4.out.load) ?_)
    | (refine wpList_loadR rfl 46 (.tmp 24) rfl u' 0 (by rfl) _ (by exact p4'.out.load) ?_)
    | fail)
  go_wp2_with (first
    | (go_at_call 21
       refine (views_any (agV s.agreed) (agV s.agreed) A A' c c' w4.heap.size _ _ (agM s.agreed) (agM s.agreed) w4 rfl rfl (Nat.le_refl _) rA4.out.row rA4'.out.row (by omega) (by omega)).mono ?_
       rintro e w5 ⟨rfl, hb5⟩
       rw [viSame_refl]
       have D5 := D4.out.below hb5
       have rT5 := rT4.out.below hb5
       have rT5' := rT4'.out.below hb5
       replace D5 := Lib.hid D5
       replace rT5 := Lib.hid rT5
       replace rT5' := Lib.hid rT5'
       clear hb5)
    | fail)
  go_wp2_with (first
    | (go_at_call 23
       refine (lints_two T T' cT cT' w5.heap.size (agT s.agreed) (agT s.agreed) _ _ w5 rfl rfl (Nat.le_refl _) rT5.out.row rT5'.out.row (by omega) (by omega)).mono ?_
       rintro e w6 ⟨rfl, hb6⟩
       rw [decide_eq_true (rfl : agT s.agreed = agT s.agreed)]
       have D6 := Lib.hid ((D5.out.below hb6).own (fun x hx => by simp at hx; simp [hx]))
       clear hb6)
    | fail)
  go_ret
  exact ⟨ret_bool (by simp), _, _, hs, X, M, cM, D6.out, by omega⟩
end Go.Proofs.Ytfbeggdbjpmppaa
/- The law's plays: kind 5. -/
namespace Go.Proofs.Ytfbeggdbjpmppaa
open Go.RowKit
set_option maxRecDepth 100000 in
set_option maxHeartbeats 4000000 in
theorem plays_5 (w0 : World) (a b : Nat) (F : List Nat) (s : St) (hs : List HdR) (X : Ptrs) (M : Option Addr) (cM : Nat) (o : OpD) (P : OpP) (w : World) (h : Duo w0 a b [a] F s s hs X M cM w) (hlen : hs.length + 1 ≤ 1000000) (ho : OpAt w0 w0.heap.size o P) (hk : o.k = 5) :
    Calls Try.prog 49 #[.pointer (some ⟨a, 0, none⟩), .pointer (some ⟨b, 0, none⟩), .agg (opA o P)] w (PlPost w0 a b (hs.length + 1)) := by
  obtain ⟨wA, hwA⟩ : ∃ wA, wA = w.alloc (.cells (opA o P) 71) := ⟨_, rfl⟩
  have hbA : Below w.heap.size w wA := by rw [hwA]; exact below_box1 _ _ _
  have zA : w.heap.size < wA.heap.size := by rw [hwA]; simp
  have oA : wA.rangeAt w.heap.size 0 (opA o P).toList := by rw [hwA]; exact range_new w (opA o P) 71
  obtain ⟨v, hv⟩ : ∃ v, v = w.heap.size := ⟨_, rfl⟩
  have DA := h.add hbA (g := v) (by omega) (by omega)
  rw [← hv] at oA
  have hva : v ≠ a := by have := h.sz.1; omega
  have c0 : wA.cell? ⟨v, 0, none⟩ = some (.int .i64 o.k) := oA 0 _ rfl
  have hx : ∀ W, Below w0.heap.size w0 W → OpAt W w0.heap.size o P ∧ w0.heap.size ≤ W.heap.size := fun W hW => ⟨ho.below hW, hW.size⟩
  replace hx := Lib.hid hx
  replace hwA := Lib.hid hwA
  replace hv := Lib.hid hv
  replace DA := Lib.hid DA
  replace oA := Lib.hid oA
  replace h := Lib.hid h
  clear ho hbA
  have kk : o.k = 5 := hk
  have b1 : (o.k == 1) = false := by simp [kk]
  have b2 : (o.k == 2) = false := by simp [kk]
  have b3 : (o.k == 3) = false := by simp [kk]
  have b4 : (o.k == 4) = false := by simp [kk]
  have b5 : (o.k == 5) = true := by simp [kk]
  clear hk
  replace kk := Lib.hid kk
  go_enter Try.func49, Try.ntmps49
  go_wp2_with fail
  rw [← hwA.out, ← hv.out]
  go_wp2_with (first
    | (go_at_call 27
       refine (install_duo DA.out).mono ?_
       rintro e w1 ⟨A, c, T, cT, M1, cM1, rfl, rA, rT, D1, hg1⟩
       have b1u : Below w1.heap.size w1 (w1.alloc (.cells (viewA Vid.zero none 0 0) 46)) := (Below.refl _ _).alloc (Nat.le_refl _) _
       have z1 := hg1.size
       clear c0
       replace D1 := Lib.hid D1
       replace rA := Lib.hid rA
       replace rT := Lib.hid rT
       replace b1u := Lib.hid b1u
       clear hg1)
    | (refine wpList_store46 rfl (.tmp 27) (.tmp 172) rfl w1.heap.size 0 (by rfl) (agV s.agreed) A (agM s.agreed).length c (by rfl) (there_new w1 (viewA Vid.zero none 0 0) 46) ?_
       intro w2 hw2
       obtain ⟨u, hu⟩ : ∃ u, u = w1.heap.size := ⟨_, rfl⟩
       have p2 : ViAt w2 u (agV s.agreed) A (agM s.agreed).length c := by rw [hw2.out, hu]; exact viAt_put (there_new w1 (viewA Vid.zero none 0 0) 46)
       have b12 : Below w1.heap.size w1 w2 := by rw [hw2.out]; exact below_sets b1u.out (Nat.le_refl _) _ _ (by simp)
       have huz : u < w2.heap.size := by rw [hw2.out, size_sets, hu]; simp
       have huA : wA.heap.size ≤ u := by rw [hu]; exact z1
       have D2 := D1.out.below b12
       have rA2 := rA.out.below b12
       have rT2 := rT.out.below b12
       rw [← hu]
       replace hu := Lib.hid hu
       replace p2 := Lib.hid p2
       replace D2 := Lib.hid D2
       replace rA2 := Lib.hid rA2
       replace rT2 := Lib.hid rT2
       clear b12 hw2)
    | fail)
  go_wp2_with (first
    | (go_at_call 64
       refine (rinstall_duo D2.out (by omega)).mono ?_
       rintro e w3 ⟨A', c', T', cT', F3, hs3, X3, rfl, rA', rT', D3, hn3, ch3⟩
       have hbA := DA.out.hi b DA.out.rf.bF
       have hxA : ∀ k, blk X.A = some k → k < wA.heap.size := fun k hk => DA.out.hi k (DA.out.rf.aF k hk)
       have b3u : Below w3.heap.size w3 (w3.alloc (.cells (viewA Vid.zero none 0 0) 46)) := (Below.refl _ _).alloc (Nat.le_refl _) _
       have p3 := p2.out.same (ch3.block u huz (by omega) (fun e => by have := hxA u e.symm; omega))
       have rA3 := rA2.out.chg ch3 hbA hxA
       have rT3 := rT2.out.chg ch3 hbA hxA
       have huz3 : u < w3.heap.size := by have := ch3.size; omega
       replace D3 := Lib.hid D3
       replace p3 := Lib.hid p3
       replace rA3 := Lib.hid rA3
       replace rT3 := Lib.hid rT3
       replace rA' := Lib.hid rA'
       replace rT' := Lib.hid rT'
       replace b3u := Lib.hid b3u
       replace hn3 := Lib.hid hn3
       clear ch3 hxA hbA)
    | (refine wpList_store46 rfl (.tmp 30) (.tmp 178) rfl w3.heap.size 0 (by rfl) (agV s.agreed) A' (agM s.agreed).length c' (by rfl) (there_new w3 (viewA Vid.zero none 0 0) 46) ?_
       intro w4 hw4
       obtain ⟨u', hu'⟩ : ∃ u', u' = w3.heap.size := ⟨_, rfl⟩
       have p4' : ViAt w4 u' (agV s.agreed) A' (agM s.agreed).length c' := by rw [hw4.out, hu']; exact viAt_put (there_new w3 (viewA Vid.zero none 0 0) 46)
       have b34 : Below w3.heap.size w3 w4 := by rw [hw4.out]; exact below_sets b3u.out (Nat.le_refl _) _ _ (by simp)
       have D4 := D3.out.below b34
       have p4 := p3.out.same (b34.block u huz3)
       have rA4 := rA3.out.below b34
       have rT4 := rT3.out.below b34
       have rA4' := rA'.out.below b34
       have rT4' := rT'.out.below b34
       obtain ⟨lM, lT⟩ := agM_len DA.out.inv
       rw [← hu']
       replace hu' := Lib.hid hu'
       replace p4 := Lib.hid p4
       replace p4' := Lib.hid p4'
       replace D4 := Lib.hid D4
       replace rA4 := Lib.hid rA4
       replace rT4 := Lib.hid rT4
       replace rA4' := Lib.hid rA4'
       replace rT4' := Lib.hid rT4'
       clear b34 hw4)
    | (refine wpList_loadR rfl 46 (.tmp 27) rfl u 0 (by rfl) _ (by exact p4.out.load) ?_)
    | (refine wpList_loadR rfl 46 (.tmp 30) rfl u' 0 (by rfl) _ (by exact p4'.out.load) ?_)
    | fail)
  go_wp2_with (first
    | (go_at_call 21
       refine (views_any (agV s.agreed) (agV s.agreed) A A' c c' w4.heap.size _ _ (agM s.agreed) (agM s.agreed) w4 rfl rfl (Nat.le_refl _) rA4.out.row rA4'.out.row (by omega) (by omega)).mono ?_
       rintro e w5 ⟨rfl, hb5⟩
       rw [viSame_refl]
       have D5 := D4.out.below hb5
       have rT5 := rT4.out.below hb5
       have rT5' := rT4'.out.below hb5
       replace D5 := Lib.hid D5
       replace rT5 := Lib.hid rT5
       replace rT5' := Lib.hid rT5'
       clear hb5)
    | fail)
  go_wp2_with (first
    | (go_at_call 23
       refine (lints_two T T' cT cT' w5.heap.size (agT s.agreed) (agT s.agreed) _ _ w5 rfl rfl (Nat.le_refl _) rT5.out.row rT5'.out.row (by omega) (by omega)).mono ?_
       rintro e w6 ⟨rfl, hb6⟩
       rw [decide_eq_true (rfl : agT s.agreed = agT s.agreed)]
       have D6 := Lib.hid ((D5.out.below hb6).own (fun x hx => by simp at hx; simp [hx]))
       clear hb6)
    | (go_at_call 48
       refine (num_any _ _).mono ?_
       rintro e w' ⟨rfl, rfl⟩)
    | fail)
  go_ret
  exact ⟨ret_bool (by simp), _, _, hs3, X3, M1, cM1, D6.out, by have := hn3.out; omega⟩
end Go.Proofs.Ytfbeggdbjpmppaa
/- The law's plays: kind 6. -/
namespace Go.Proofs.Ytfbeggdbjpmppaa
open Go.RowKit
set_option maxRecDepth 100000 in
set_option maxHeartbeats 4000000 in
theorem plays_6 (w0 : World) (a b : Nat) (F : List Nat) (s : St) (hs : List HdR) (X : Ptrs) (M : Option Addr) (cM : Nat) (o : OpD) (P : OpP) (w : World) (h : Duo w0 a b [a] F s s hs X M cM w) (hlen : hs.length + 1 ≤ 1000000) (ho : OpAt w0 w0.heap.size o P) (hk : o.k = 6) :
    Calls Try.prog 49 #[.pointer (some ⟨a, 0, none⟩), .pointer (some ⟨b, 0, none⟩), .agg (opA o P)] w (PlPost w0 a b (hs.length + 1)) := by
  obtain ⟨wA, hwA⟩ : ∃ wA, wA = w.alloc (.cells (opA o P) 71) := ⟨_, rfl⟩
  have hbA : Below w.heap.size w wA := by rw [hwA]; exact below_box1 _ _ _
  have zA : w.heap.size < wA.heap.size := by rw [hwA]; simp
  have oA : wA.rangeAt w.heap.size 0 (opA o P).toList := by rw [hwA]; exact range_new w (opA o P) 71
  obtain ⟨v, hv⟩ : ∃ v, v = w.heap.size := ⟨_, rfl⟩
  have DA := h.add hbA (g := v) (by omega) (by omega)
  rw [← hv] at oA
  have hva : v ≠ a := by have := h.sz.1; omega
  have c0 : wA.cell? ⟨v, 0, none⟩ = some (.int .i64 o.k) := oA 0 _ rfl
  have hx : ∀ W, Below w0.heap.size w0 W → OpAt W w0.heap.size o P ∧ w0.heap.size ≤ W.heap.size := fun W hW => ⟨ho.below hW, hW.size⟩
  replace hx := Lib.hid hx
  replace hwA := Lib.hid hwA
  replace hv := Lib.hid hv
  replace DA := Lib.hid DA
  replace oA := Lib.hid oA
  replace h := Lib.hid h
  clear ho hbA
  have kk : o.k = 6 := hk
  have b1 : (o.k == 1) = false := by simp [kk]
  have b2 : (o.k == 2) = false := by simp [kk]
  have b3 : (o.k == 3) = false := by simp [kk]
  have b4 : (o.k == 4) = false := by simp [kk]
  have b5 : (o.k == 5) = false := by simp [kk]
  have b6 : (o.k == 6) = true := by simp [kk]
  clear hk
  replace kk := Lib.hid kk
  go_enter Try.func49, Try.ntmps49
  go_wp2_with fail
  rw [← hwA.out, ← hv.out]
  go_wp2_with (first
    | (go_at_call 22
       refine (view_any a s M cM wA.heap.size wA DA.out.ag DA.out.sz.1 (Nat.le_refl _) DA.out.rM.row DA.out.rinv.len).mono ?_
       rintro e w1 ⟨A, c, rfl, rA, hb1⟩
       have D1 := DA.out.below hb1
       have lM := D1.rinv.len
       clear c0
       replace D1 := Lib.hid D1
       replace rA := Lib.hid rA
       clear hb1)
    | fail)
  go_wp2_with (first
    | (go_at_call 65
       refine (rview65_any b _ s hs X w1 D1.out.rf D1.out.rinvt).mono ?_
       rintro e w2 ⟨A', c', rfl, rA', hb2⟩
       have D2 := D1.out.below hb2
       have rA2 := rA.out.below hb2
       replace D2 := Lib.hid D2
       replace rA2 := Lib.hid rA2
       replace rA' := Lib.hid rA'
       clear hb2)
    | fail)
  go_wp2_with (first
    | (go_at_call 21
       refine (views_any s.vid s.vid A A' c c' w2.heap.size _ _ s.mem s.mem w2 rfl rfl (Nat.le_refl _) rA2.out.row rA'.out.row (by omega) (by omega)).mono ?_
       rintro e w5 ⟨rfl, hb5⟩
       rw [viSame_refl]
       have D5 := Lib.hid ((D2.out.below hb5).own (fun x hx => by simp at hx; simp [hx]))
       clear hb5)
    | fail)
  go_ret
  exact ⟨rfl, _, _, hs, X, M, cM, D5.out, by omega⟩
end Go.Proofs.Ytfbeggdbjpmppaa
/- The law's plays: kind 7. -/
namespace Go.Proofs.Ytfbeggdbjpmppaa
open Go.RowKit
set_option maxRecDepth 100000 in
set_option maxHeartbeats 4000000 in
theorem plays_7 (w0 : World) (a b : Nat) (F : List Nat) (s : St) (hs : List HdR) (X : Ptrs) (M : Option Addr) (cM : Nat) (o : OpD) (P : OpP) (w : World) (h : Duo w0 a b [a] F s s hs X M cM w) (hlen : hs.length + 1 ≤ 1000000) (ho : OpAt w0 w0.heap.size o P) (hk : o.k = 7) :
    Calls Try.prog 49 #[.pointer (some ⟨a, 0, none⟩), .pointer (some ⟨b, 0, none⟩), .agg (opA o P)] w (PlPost w0 a b (hs.length + 1)) := by
  obtain ⟨wA, hwA⟩ : ∃ wA, wA = w.alloc (.cells (opA o P) 71) := ⟨_, rfl⟩
  have hbA : Below w.heap.size w wA := by rw [hwA]; exact below_box1 _ _ _
  have zA : w.heap.size < wA.heap.size := by rw [hwA]; simp
  have oA : wA.rangeAt w.heap.size 0 (opA o P).toList := by rw [hwA]; exact range_new w (opA o P) 71
  obtain ⟨v, hv⟩ : ∃ v, v = w.heap.size := ⟨_, rfl⟩
  have DA := h.add hbA (g := v) (by omega) (by omega)
  rw [← hv] at oA
  have hva : v ≠ a := by have := h.sz.1; omega
  have c0 : wA.cell? ⟨v, 0, none⟩ = some (.int .i64 o.k) := oA 0 _ rfl
  have hx : ∀ W, Below w0.heap.size w0 W → OpAt W w0.heap.size o P ∧ w0.heap.size ≤ W.heap.size := fun W hW => ⟨ho.below hW, hW.size⟩
  replace hx := Lib.hid hx
  replace hwA := Lib.hid hwA
  replace hv := Lib.hid hv
  replace DA := Lib.hid DA
  replace oA := Lib.hid oA
  replace h := Lib.hid h
  clear ho hbA
  have kk : o.k = 7 := hk
  have b1 : (o.k == 1) = false := by simp [kk]
  have b2 : (o.k == 2) = false := by simp [kk]
  have b3 : (o.k == 3) = false := by simp [kk]
  have b4 : (o.k == 4) = false := by simp [kk]
  have b5 : (o.k == 5) = false := by simp [kk]
  have b6 : (o.k == 6) = false := by simp [kk]
  have b7 : (o.k == 7) = true := by simp [kk]
  clear hk
  replace kk := Lib.hid kk
  go_enter Try.func49, Try.ntmps49
  go_wp2_with fail
  rw [← hwA.out, ← hv.out]
  go_wp2_with (first
    | (go_at_call 31
       refine (changing_any a s M cM wA DA.out.ag).mono ?_
       rintro e w1 ⟨rfl, rfl⟩
       clear c0)
    | (go_at_call 66
       refine (rchanging_any b _ s hs X _ DA.out.rf).mono ?_
       rintro e w2 ⟨rfl, rfl⟩)
    | fail)
  go_ret
  have D5 := DA.out.own (fun x hx => by simp at hx; simp [hx])
  exact ⟨ret_bool (by simp), _, _, hs, X, M, cM, D5, by omega⟩
end Go.Proofs.Ytfbeggdbjpmppaa
/- The law's plays: kind 8. -/
namespace Go.Proofs.Ytfbeggdbjpmppaa
open Go.RowKit
set_option maxRecDepth 100000 in
set_option maxHeartbeats 4000000 in
theorem plays_other (w0 : World) (a b : Nat) (F : List Nat) (s : St) (hs : List HdR) (X : Ptrs) (M : Option Addr) (cM : Nat) (o : OpD) (P : OpP) (w : World) (h : Duo w0 a b [a] F s s hs X M cM w) (hlen : hs.length + 1 ≤ 1000000) (ho : OpAt w0 w0.heap.size o P) (hk : o.k ≠ 1 ∧ o.k ≠ 2 ∧ o.k ≠ 3 ∧ o.k ≠ 4 ∧ o.k ≠ 5 ∧ o.k ≠ 6 ∧ o.k ≠ 7) :
    Calls Try.prog 49 #[.pointer (some ⟨a, 0, none⟩), .pointer (some ⟨b, 0, none⟩), .agg (opA o P)] w (PlPost w0 a b (hs.length + 1)) := by
  obtain ⟨wA, hwA⟩ : ∃ wA, wA = w.alloc (.cells (opA o P) 71) := ⟨_, rfl⟩
  have hbA : Below w.heap.size w wA := by rw [hwA]; exact below_box1 _ _ _
  have zA : w.heap.size < wA.heap.size := by rw [hwA]; simp
  have oA : wA.rangeAt w.heap.size 0 (opA o P).toList := by rw [hwA]; exact range_new w (opA o P) 71
  obtain ⟨v, hv⟩ : ∃ v, v = w.heap.size := ⟨_, rfl⟩
  have DA := h.add hbA (g := v) (by omega) (by omega)
  rw [← hv] at oA
  have hva : v ≠ a := by have := h.sz.1; omega
  have c0 : wA.cell? ⟨v, 0, none⟩ = some (.int .i64 o.k) := oA 0 _ rfl
  have hx : ∀ W, Below w0.heap.size w0 W → OpAt W w0.heap.size o P ∧ w0.heap.size ≤ W.heap.size := fun W hW => ⟨ho.below hW, hW.size⟩
  replace hx := Lib.hid hx
  replace hwA := Lib.hid hwA
  replace hv := Lib.hid hv
  replace DA := Lib.hid DA
  replace oA := Lib.hid oA
  replace h := Lib.hid h
  clear ho hbA
  obtain ⟨n1, n2, n3, n4, n5, n6, n7⟩ := hk
  have b1 : (o.k == 1) = false := by simp [n1]
  have b2 : (o.k == 2) = false := by simp [n2]
  have b3 : (o.k == 3) = false := by simp [n3]
  have b4 : (o.k == 4) = false := by simp [n4]
  have b5 : (o.k == 5) = false := by simp [n5]
  have b6 : (o.k == 6) = false := by simp [n6]
  have b7 : (o.k == 7) = false := by simp [n7]
  replace n1 := Lib.hid n1
  replace n2 := Lib.hid n2
  replace n3 := Lib.hid n3
  replace n4 := Lib.hid n4
  replace n5 := Lib.hid n5
  replace n6 := Lib.hid n6
  replace n7 := Lib.hid n7
  go_enter Try.func49, Try.ntmps49
  go_wp2_with fail
  go_ret
  have D5 := DA.out.own (fun x hx => by simp at hx; simp [hx])
  rw [hwA.out] at D5
  exact ⟨rfl, _, _, hs, X, M, cM, D5, by omega⟩
end Go.Proofs.Ytfbeggdbjpmppaa
