/- Sto3 Alike Miss Fresh, joined. -/
import Derived.Deep.RegionHeld3
import Derived.Deep.MidRow
import Derived.Test.YtcffhfcjfjfokaaSw1
import Derived.Test.YtcffhfcjfjfokaaSw5
set_option linter.unusedVariables false
set_option linter.unusedSimpArgs false
/- A content of its own: the document's copyOf. -/
namespace Go.Proofs.Ytcffhfcjfjfokaa
open Go.RowKit
theorem build39b (W : World) (e l i c b : Int) : (Instr.build 39 #[(0, .agg #[.int .i64 e, .int .i64 l, .int .i64 i, .int .i64 c]), (1, .int .i64 b)]).run Try.prog W = .ok (.agg (flc e l i c b none 0 0 none 0 0)) W := by kernel_rfl
theorem wpList_store39 {ops : Array Oper} {rest : List Oper} {op : Oper} {a : Act} {w : World} {Q : Exit → Act → World → Prop} (hgd : op.guard = none) (x y : Operand) (ho : op.op = .store 39 x y) (b off : Nat) (hx : a.eval x = .pointer (some ⟨b, off, none⟩)) (e l i c u : Int) (A : Option Addr) (n cA : Nat) (B : Option Addr) (m cB : Nat) (hy : a.eval y = .agg (flc e l i c u A n cA B m cB)) (ht : w.there b off 7)
    (h : ∀ w', Hid (w' = w.setCells b off (flc e l i c u A n cA B m cB).toList) → wpList Try.prog ops Q rest (a.put op.dst undef) w') : wpList Try.prog ops Q (op :: rest) a w :=
  wpList_store_mid hgd 39 x y ho b off (flc e l i c u A n cA B m cB) hx hy ht (by rw [size39s]; rfl) (one_flc ..) (h _ (Lib.hid rfl))
set_option maxRecDepth 100000 in
set_option maxHeartbeats 1000000 in
theorem copyOf_any (f : Fl) (A : Option Addr) (cA : Nat) (B : Option Addr) (cB N : Nat) (w : World) (hN : N ≤ w.heap.size) (hA : RowAt w N 2 eSlot A f.slots) (hB : RowAt w N 1 eInt B f.have_) (l1 : f.slots.length ≤ 1048576) (l2 : f.have_.length ≤ 1048576) :
    Calls Try.prog 107 #[.agg (flc f.e f.l f.i f.c f.base A f.slots.length cA B f.have_.length cB)] w (TwPost w f) := by
  obtain ⟨wA, hwA⟩ : ∃ wA, wA = (w.alloc (.cells (flc f.e f.l f.i f.c f.base A f.slots.length cA B f.have_.length cB) 39)).alloc (.cells flZ 39) := ⟨_, rfl⟩
  have hbA : Below w.heap.size w wA := by rw [hwA]; exact below_box2 _ _ _ _ _
  have zA : wA.heap.size = w.heap.size + 2 := by rw [hwA]; simp
  have oA : wA.rangeAt w.heap.size 0 (flc f.e f.l f.i f.c f.base A f.slots.length cA B f.have_.length cB).toList := by rw [hwA]; exact range_same (range_new w (flc f.e f.l f.i f.c f.base A f.slots.length cA B f.have_.length cB) 39) (heap_alloc_old _ _ (by simp))
  have tA : wA.there (w.heap.size + 1) 0 7 := by
    have := there_new (w.alloc (.cells (flc f.e f.l f.i f.c f.base A f.slots.length cA B f.have_.length cB) 39)) flZ 39
    rw [hwA]; rw [World.size_alloc] at this; exact this
  have L4 := load35 (range_mid (l1 := []) (m := [.int .i64 f.e, .int .i64 f.l, .int .i64 f.i, .int .i64 f.c]) (l3 := [.int .i64 f.base, .slice A f.slots.length cA, .slice B f.have_.length cB]) oA rfl)
  have L6 : (loadVar 3 ⟨w.heap.size, 4, none⟩).run Try.prog wA = .ok (.int .i64 f.base) wA := load3 (oA 4 _ rfl)
  have hbu := fun W => build39b W f.e f.l f.i f.c f.base
  have hA2 := hA.below hbA hN
  have hB2 := hB.below hbA hN
  replace hA2 := Lib.hid hA2
  replace hB2 := Lib.hid hB2
  replace L4 := Lib.hid L4
  replace L6 := Lib.hid L6
  replace oA := Lib.hid oA
  replace tA := Lib.hid tA
  replace hbA := Lib.hid hbA
  replace hwA := Lib.hid hwA
  replace zA := Lib.hid zA
  clear hA hB
  go_enter Try.func107, Try.ntmps107
  go_wp2_with (first
    | (rw [← hwA.out]
       refine wpList_loadR rfl 35 (.tmp 4) rfl w.heap.size 0 (by rfl) _ (by exact L4.out) ?_)
    | (refine wpList_loadR rfl 3 (.tmp 6) rfl w.heap.size 4 (by rfl) _ (by exact L6.out) ?_)
    | (refine wpList_store39 rfl (.tmp 3) (.tmp 8) rfl wA.heap.size 0 (by rfl) f.e f.l f.i f.c f.base none 0 0 none 0 0 (by rfl) (there_new wA flZ 39) ?_
       intro w1 hw1
       have b1 : Below wA.heap.size wA w1 := by rw [hw1.out]; exact below_sets ((Below.refl _ _).alloc (Nat.le_refl _) _) (Nat.le_refl _) _ _ (by simp)
       have z1 : w1.heap.size = wA.heap.size + 1 := by rw [hw1.out, size_sets]; simp
       obtain ⟨u, hu⟩ : ∃ u, u = wA.heap.size := ⟨_, rfl⟩
       have r1 : w1.rangeAt u 0 (flc f.e f.l f.i f.c f.base none 0 0 none 0 0).toList := by rw [hu, hw1.out]; exact World.rangeAt_setCells_same _ _ _ _ (there_new wA flZ 39)
       have t1 : w1.there u 0 7 := by rw [hu, hw1.out]; exact World.there_setCells (there_new wA flZ 39) _ _ _
       have o1 := range_same oA.out (b1.block w.heap.size (by have := zA.out; omega))
       have tR := there_below tA.out b1 (by have := zA.out; omega)
       have L10 := load36 (w := w1) (b := u) (o := 5) (r1 5 _ rfl)
       have L12 : (loadVar 36 ⟨w.heap.size, 5, none⟩).run Try.prog w1 = .ok (.slice A f.slots.length cA) w1 := load36 (o1 5 _ rfl)
       have hA3 := hA2.out.below b1 (by have := zA.out; omega)
       have hB3 := hB2.out.below b1 (by have := zA.out; omega)
       rw [← hu]
       replace hu := Lib.hid hu
       replace b1 := Lib.hid b1
       replace z1 := Lib.hid z1
       replace r1 := Lib.hid r1
       replace t1 := Lib.hid t1
       replace o1 := Lib.hid o1
       replace tR := Lib.hid tR
       replace L10 := Lib.hid L10
       replace L12 := Lib.hid L12
       replace hA3 := Lib.hid hA3
       replace hB3 := Lib.hid hB3
       clear hw1 hbu)
    | (refine wpList_loadR rfl 36 (.tmp 9) rfl u 5 (by rfl) _ (by exact L10.out) ?_)
    | (refine wpList_loadR rfl 36 (.tmp 11) rfl w.heap.size 5 (by rfl) _ (by exact L12.out) ?_)
    | (refine wpList_append_rows _ rfl (.tmp 10) (.tmp 12) 36 rfl w1.heap.size 66 2 16 (.agg #[.int .i64 0, .int .i64 0]) Try.underlying36 info66 (by rfl) (by omega) eSlot len_eSlot one_eSlot none 0 [] A cA N 0 f.slots.length f.slots (by rfl) (by rfl) rfl rfl (owns_nil _ _ _ _ _) hA3.out (by omega) (by omega) (Nat.le_refl _) ?_
       intro A1 c1 w2 ho1 hg1 hk1
       rw [Nat.zero_add]
       rw [List.nil_append] at ho1
       have zu : u < w1.heap.size := by have := hu.out; have := z1.out; omega
       have bw : Below w1.heap.size w1 w2 := (Below.refl _ _).grown hg1 (Nat.le_refl _) (fun k hk => by cases hk)
       have r2 := range_same r1.out (bw.block u zu)
       have t2 := there_same t1.out (bw.block u zu)
       have k5 : w2.cell? ⟨u, 5, none⟩ = some (.slice none 0 0) := r2 5 _ rfl
       have f5 : w2.frozen? ⟨u, 5, none⟩ = false := there_frozen (k := 5) t2 (by omega)
       obtain ⟨w3, hw3⟩ : ∃ w3, w3 = w2.setCell ⟨u, 5, none⟩ (.slice A1 f.slots.length c1) := ⟨_, rfl⟩
       have r3 : w3.rangeAt u 0 (flc f.e f.l f.i f.c f.base A1 f.slots.length c1 none 0 0).toList := by rw [hw3]; exact rng_put (o := 5) (vs := [.slice A1 f.slots.length c1]) r2 t2 rfl (by show 5 + 1 ≤ 7; omega)
       have t3 : w3.there u 0 7 := by rw [hw3]; exact there_set t2 _ _
       have g3 : w2.grownBy w3 (some u) := by rw [hw3]; exact grown_cell _ _ _ _
       have b3 : Below u w1 w3 := (bw.mono (by omega)).grown g3 (by have := bw.size; omega) (by intro k hk; injection hk with hk; omega)
       have lo1 := ho1.lo
       have o3 : Owns w3 w1.heap.size 66 2 eSlot A1 c1 f.slots := ho1.kept g3 (.inr (by intro e; have := (lo1 _ e).1; omega))
       have huz := hu.out
       have zz := zA.out
       have v3 := range_same o1.out (b3.block w.heap.size (by omega))
       have tR3 := there_below tR.out b3 (by omega)
       have L17 := load37 (w := w3) (b := u) (o := 6) (r3 6 _ rfl)
       have L19 : (loadVar 37 ⟨w.heap.size, 6, none⟩).run Try.prog w3 = .ok (.slice B f.have_.length cB) w3 := load37 (v3 6 _ rfl)
       have hB4 := hB3.out.below b3 (by omega)
       have z3 : w1.heap.size ≤ w3.heap.size := Nat.le_trans bw.size g3.size
       clear hg1 hk1 r2 t2 bw huz zz
       replace ho1 := Lib.hid ho1
       replace hw3 := Lib.hid hw3
       replace r3 := Lib.hid r3
       replace t3 := Lib.hid t3
       replace b3 := Lib.hid b3
       replace lo1 := Lib.hid lo1
       replace o3 := Lib.hid o3
       replace v3 := Lib.hid v3
       replace tR3 := Lib.hid tR3
       replace L17 := Lib.hid L17
       replace L19 := Lib.hid L19
       replace hB4 := Lib.hid hB4
       replace g3 := Lib.hid g3)
    | (rw [← hw3.out]
       refine wpList_loadR rfl 37 (.tmp 15) rfl u 6 (by rfl) _ (by exact L17.out) ?_)
    | (refine wpList_loadR rfl 37 (.tmp 17) rfl w.heap.size 6 (by rfl) _ (by exact L19.out) ?_)
    | (refine wpList_append_rows _ rfl (.tmp 16) (.tmp 18) 37 rfl w3.heap.size 3 1 8 (.int .i64 0) Try.underlying37 info3 (by rfl) (by omega) eInt len_eInt one_eInt none 0 [] B cB N 0 f.have_.length f.have_ (by rfl) (by rfl) rfl rfl (owns_nil _ _ _ _ _) hB4.out (by omega) (by omega) (Nat.le_refl _) ?_
       intro B1 d1 w4 ho4 hg4 hk4
       rw [Nat.zero_add]
       rw [List.nil_append] at ho4
       have zu3 : u < w3.heap.size := by have := hu.out; have := z1.out; omega
       have bw4 : Below w3.heap.size w3 w4 := (Below.refl _ _).grown hg4 (Nat.le_refl _) (fun k hk => by cases hk)
       have r4 := range_same r3.out (bw4.block u zu3)
       have t4 := there_same t3.out (bw4.block u zu3)
       have k6 : w4.cell? ⟨u, 6, none⟩ = some (.slice none 0 0) := r4 6 _ rfl
       have f6 : w4.frozen? ⟨u, 6, none⟩ = false := there_frozen (k := 6) t4 (by omega)
       obtain ⟨w5, hw5⟩ : ∃ w5, w5 = w4.setCell ⟨u, 6, none⟩ (.slice B1 f.have_.length d1) := ⟨_, rfl⟩
       have r5 : w5.rangeAt u 0 (flc f.e f.l f.i f.c f.base A1 f.slots.length c1 B1 f.have_.length d1).toList := by rw [hw5]; exact rng_put (o := 6) (vs := [.slice B1 f.have_.length d1]) r4 t4 rfl (by show 6 + 1 ≤ 7; omega)
       have g5 : w4.grownBy w5 (some u) := by rw [hw5]; exact grown_cell _ _ _ _
       have b5 : Below u w3 w5 := (bw4.mono (by omega)).grown g5 (by have := bw4.size; omega) (by intro k hk; injection hk with hk; omega)
       have lo4 := ho4.lo
       have hlo1 := lo1.out
       have o5 : Owns w5 w3.heap.size 3 1 eInt B1 d1 f.have_ := ho4.kept g5 (.inr (by intro e; have := (lo4 _ e).1; omega))
       have o35 : Owns w5 w1.heap.size 66 2 eSlot A1 c1 f.slots := (o3.out.keep bw4 (fun k hk => by have := o3.out.lo k hk; omega)).kept g5 (.inr (by intro e; have := (o3.out.lo _ e).1; have := hu.out; have := z1.out; omega))
       have huz := hu.out
       have zz := zA.out
       have tR5 := there_below tR3.out b5 (by omega)
       have b05 : Below w.heap.size w w5 := ((hbA.out.trans (b1.out.mono (by omega))).trans (b3.out.mono (by omega))).trans (b5.mono (by omega))
       have L21 := load39 r5
       clear hg4 hk4 r4 t4 bw4 huz zz hlo1
       replace hw5 := Lib.hid hw5
       replace r5 := Lib.hid r5
       replace o5 := Lib.hid o5
       replace o35 := Lib.hid o35
       replace tR5 := Lib.hid tR5
       replace b05 := Lib.hid b05
       replace L21 := Lib.hid L21
       replace lo4 := Lib.hid lo4
       replace g5 := Lib.hid g5
       replace b5 := Lib.hid b5)
    | (rw [← hw5.out]
       refine wpList_loadR rfl 39 (.tmp 3) rfl u 0 (by rfl) _ (by exact L21.out) ?_)
    | (refine wpList_store39 rfl (.tmp 2) (.tmp 21) rfl (w.heap.size + 1) 0 (by rfl) f.e f.l f.i f.c f.base A1 f.slots.length c1 B1 f.have_.length d1 (by rfl) tR5.out ?_
       intro w6 hw6)
    | fail)
  have g6 : w5.grownBy w6 (some (w.heap.size + 1)) := by rw [hw6.out]; exact grown_sets _ _ _ _
  have r6 : w6.rangeAt (w.heap.size + 1) 0 (flc f.e f.l f.i f.c f.base A1 f.slots.length c1 B1 f.have_.length d1).toList := by rw [hw6.out]; exact World.rangeAt_setCells_same _ _ _ _ tR5.out
  have huz := hu.out
  have zz := zA.out
  have zz1 := z1.out
  have b06 : Below w.heap.size w w6 := b05.out.grown g6 b05.out.size (by intro k hk; injection hk with hk; omega)
  have h1 := o35.out.kept g6 (.inr (by intro e; have := (o35.out.lo _ e).1; omega))
  have h2 := o5.out.kept g6 (.inr (by intro e; have := (o5.out.lo _ e).1; omega))
  exact bodyPost_ret (res_cell (p := 2) (ty := 39) rfl rfl (load39 r6)) rfl ⟨A1, c1, B1, d1, rfl, h1.base (by omega), h2.base (by omega), b06⟩
end Go.Proofs.Ytcffhfcjfjfokaa
/- The program's alike: two contents. -/
namespace Go.Proofs.Ytcffhfcjfjfokaa
open Go.RowKit
theorem fl_ext {f g : Fl} (h1 : vidEq f.e f.l f.i f.c g.e g.l g.i g.c = true) (h2 : f.base = g.base) (h3 : f.slots = g.slots) (h4 : f.have_ = g.have_) : f = g := by
  cases f; cases g
  simp [vidEq] at h1 h2 h3 h4
  obtain ⟨a, b, c, d⟩ := h1
  subst a b c d h2 h3 h4; rfl
open Classical in
noncomputable def flB (f g : Fl) : Bool := decide (f = g)
theorem flB_no {f g : Fl} (h : f ≠ g) : false = flB f g := by unfold flB; simp [h]
theorem flB_yes {f g : Fl} (h : f = g) : true = flB f g := by unfold flB; simp [h]
theorem fl_slot_ne {f g : Fl} {q : Nat} {x y x' y' : Int} (h1 : f.slots[q]? = some (x, y)) (h2 : g.slots[q]? = some (x', y')) (hn : (!slotEq x y x' y') = true) : false = flB f g := flB_no (by
  intro e; rw [e] at h1; rw [h1] at h2; cases h2; simp [slotEq] at hn)
theorem fl_have_ne {f g : Fl} {q : Nat} {x x' : Int} (h1 : f.have_[q]? = some x) (h2 : g.have_[q]? = some x') (hn : (x != x') = true) : false = flB f g := flB_no (by
  intro e; rw [e] at h1; rw [h1] at h2; cases h2; simp at hn)
theorem load66 {w : World} {b o : Nat} {x y : Int} (h0 : w.cell? ⟨b, o, none⟩ = some (.int .i64 x)) (h1 : w.cell? ⟨b, o + 1, none⟩ = some (.int .i64 y)) : (loadVar 66 ⟨b, o, none⟩).run Try.prog w = .ok (.agg #[.int .i64 x, .int .i64 y]) w := by go_simp
set_option maxRecDepth 100000 in
set_option maxHeartbeats 2000000 in
theorem alike_any (f f' : Fl) (A A' : Option Addr) (cA cA' : Nat) (B B' : Option Addr) (cB cB' N : Nat) (w : World) (hN : N ≤ w.heap.size) (hA : RowAt w N 2 eSlot A f.slots) (hA' : RowAt w N 2 eSlot A' f'.slots) (hB : RowAt w N 1 eInt B f.have_) (hB' : RowAt w N 1 eInt B' f'.have_)
    (l1 : f.slots.length ≤ 1048576) (l2 : f.have_.length ≤ 1048576) (l3 : f'.slots.length ≤ 1048576) (l4 : f'.have_.length ≤ 1048576) :
    Calls Try.prog 117 #[.agg (flc f.e f.l f.i f.c f.base A f.slots.length cA B f.have_.length cB), .agg (flc f'.e f'.l f'.i f'.c f'.base A' f'.slots.length cA' B' f'.have_.length cB')] w fun x w' => x = .returned (.bool (flB f f')) ∧ Below w.heap.size w w' := by
  have hne := run_neq_slot
  have hnv := run_neq_vid
  have hb0 := below_box2 w (flc f.e f.l f.i f.c f.base A f.slots.length cA B f.have_.length cB) 39 (flc f'.e f'.l f'.i f'.c f'.base A' f'.slots.length cA' B' f'.have_.length cB') 39
  replace hb0 := Lib.hid hb0
  cases hv : vidEq f.e f.l f.i f.c f'.e f'.l f'.i f'.c with
  | false =>
    have he := Lib.hid (flB_no (f := f) (g := f') (by rintro rfl; simp [vidEq] at hv))
    clear hA hA' hB hB'
    go_enter Try.func117, Try.ntmps117
    go_wp2
    go_ret
    exact ⟨ret_bool he.out, hb0.out⟩
  | true =>
    by_cases h2 : f.base = f'.base
    · have b2 : (f.base != f'.base) = false := by simp [h2]
      by_cases h3 : f.slots.length = f'.slots.length
      · have b3 : ((f.slots.length : Int) != (f'.slots.length : Int)) = false := by simp [h3]
        by_cases h4 : f.have_.length = f'.have_.length
        · have b4 : ((f.have_.length : Int) != (f'.have_.length : Int)) = false := by simp [h4]
          have hv' := Lib.hid hv
          replace h2 := Lib.hid h2
          replace h3 := Lib.hid h3
          replace h4 := Lib.hid h4
          go_enter Try.func117, Try.ntmps117
          go_wp2
          clear b2 b3 b4 hv
          go_loopw [42] (fun k wr => ∃ q : Nat, k = .int .i64 q ∧ q ≤ f.slots.length ∧ agree f.slots f'.slots q ∧ Below (w.heap.size + 2) (box2 w (flc f.e f.l f.i f.c f.base A f.slots.length cA B f.have_.length cB) 39 (flc f'.e f'.l f'.i f'.c f'.base A' f'.slots.length cA' B' f'.have_.length cB') 39) wr) (fun k _ => f.slots.length - (intOf k).toNat)
          case atStart => exact ⟨0, rfl, by omega, agree_zero _ _, Below.refl _ _⟩
          case round =>
            obtain ⟨q, rfl, hq, hag, hb⟩ := hrel
            obtain ⟨hbw, hc, hc', hf, hf', hsz, hsz'⟩ := box2_facts hb
            have p5 := hc' 5
            have p6 := hc' 6
            have q6 := hc 6
            simp at p5 p6 q6
            clear hc hc' hf hf'
            have hzz := hb.size
            simp at hzz
            replace hag := Lib.hid hag
            by_cases hlt : q < f.slots.length
            · obtain ⟨g1, o1, x, y, rfl, hg1, hx1, k1, k2⟩ := (hA.below hbw hN).slot (k := q) hlt
              obtain ⟨g2, o2, x', y', rfl, hg2, hx2, k3, k4⟩ := (hA'.below hbw hN).slot (k := q) (by rw [← h3.out]; exact hlt)
              have hw1 : (q : Int) < (f'.slots.length : Int) := by rw [← h3.out]; omega
              have hb9 : Below (w.heap.size + 2) (box2 w (flc f.e f.l f.i f.c f.base (some ⟨g1, o1, none⟩) f.slots.length cA B f.have_.length cB) 39 (flc f'.e f'.l f'.i f'.c f'.base (some ⟨g2, o2, none⟩) f'.slots.length cA' B' f'.have_.length cB') 39) (wr.alloc (.cells #[.int .i64 x, .int .i64 y] 66)) := hb.alloc (by omega) _
              have hbw9 : Below w.heap.size w (wr.alloc (.cells #[.int .i64 x, .int .i64 y] 66)) := hbw.alloc (by omega) _
              replace hb9 := Lib.hid hb9
              replace hbw9 := Lib.hid hbw9
              replace hb := Lib.hid hb
              replace hbw := Lib.hid hbw
              obtain ⟨x6, hx6⟩ : ∃ x6, x6 = wr.alloc (.cells #[.int .i64 x, .int .i64 y] 66) := ⟨_, rfl⟩
              have b69 : Below wr.heap.size wr x6 := by rw [hx6]; exact below_box1 _ _ _
              have r6 : x6.rangeAt wr.heap.size 0 [.int .i64 x, .int .i64 y] := by rw [hx6]; exact range_new wr #[.int .i64 x, .int .i64 y] 66
              have z6 : wr.heap.size < x6.heap.size := by rw [hx6]; simp
              have m3 := (b69.cell (p := ⟨g2, o2 + q * 2, none⟩) (by show g2 < _; omega)).trans k3
              have m4 := (b69.cell (p := ⟨g2, o2 + q * 2 + 1, none⟩) (by show g2 < _; omega)).trans k4
              have m5 := (b69.cell (p := ⟨w.heap.size + 1, 5, none⟩) (by show w.heap.size + 1 < _; omega)).trans p5
              have hC : ∀ x' : Prop, (∀ W, Below x6.heap.size x6 W → x') ↔ x' := fun x' => ⟨fun f => f _ (Below.refl _ _), fun f _ _ => f⟩
              have La : ∀ W, Below x6.heap.size x6 W → (loadVar 66 ⟨wr.heap.size, 0, none⟩).run Try.prog W = .ok (.agg #[.int .i64 x, .int .i64 y]) W := fun W hW => load66 ((hW.cell (p := ⟨wr.heap.size, 0, none⟩) z6).trans (r6 0 _ rfl)) ((hW.cell (p := ⟨wr.heap.size, 1, none⟩) z6).trans (r6 1 _ rfl))
              have Lb : ∀ W, Below x6.heap.size x6 W → (loadVar 36 ⟨w.heap.size + 1, 5, none⟩).run Try.prog W = .ok (.slice (some ⟨g2, o2, none⟩) f'.slots.length cA') W := fun W hW => load36 ((hW.cell (p := ⟨w.heap.size + 1, 5, none⟩) (by show w.heap.size + 1 < _; omega)).trans m5)
              have Lc : ∀ W, Below x6.heap.size x6 W → (loadVar 66 ⟨g2, o2 + q * 2, none⟩).run Try.prog W = .ok (.agg #[.int .i64 x', .int .i64 y']) W := fun W hW => load66 ((hW.cell (p := ⟨g2, o2 + q * 2, none⟩) (by show g2 < _; omega)).trans m3) ((hW.cell (p := ⟨g2, o2 + q * 2 + 1, none⟩) (by show g2 < _; omega)).trans m4)
              have bd : Below x6.heap.size x6 x6.drew := Below.drew (Below.refl _ _)
              rw [← hx6] at hb9 hbw9
              replace bd := Lib.hid bd
              replace La := Lib.hid La
              replace Lb := Lib.hid Lb
              replace Lc := Lib.hid Lc
              replace hx6 := Lib.hid hx6
              replace r6 := Lib.hid r6
              replace b69 := Lib.hid b69
              clear hA hA' hB hB' m3 m4 m5
              have hw0 : (0 : Int) ≤ (q : Int) := by omega
              go_wp2_with fail
              rw [← hx6.out]
              clear k3 k4 p5
              refine wp_region_ord [] [0, 1, 2, 3, 4, 5, 6] (fun W => Below x6.heap.size x6 W) rfl (by kernel_rfl) rfl bd.out ?_
              refine WO.end_ ?_
              simp only [picks, pick, List.cons_append, List.nil_append, List.append_nil]
              repeat (first
                | go_big_quiet_skip
                | (refine wpQuiet_loadC (by rfl) 66 (.tmp 6) rfl wr.heap.size 0 (by rfl) _ La.out ?_; simp only [Act.put, List.setIfInBounds_toArray, List.set_cons_zero, List.set_cons_succ])
                | (refine wpQuiet_loadC (by rfl) 36 (.tmp 48) rfl (w.heap.size + 1) 5 (by rfl) _ Lb.out ?_; simp only [Act.put, List.setIfInBounds_toArray, List.set_cons_zero, List.set_cons_succ])
                | (refine wpQuiet_loadC (by rfl) 66 (.tmp 51) rfl g2 (o2 + q * 2) (by rfl) _ Lc.out ?_; simp only [Act.put, List.setIfInBounds_toArray, List.set_cons_zero, List.set_cons_succ])
                | go_big_quiet_step (fail))
              refine wpQuiet_nil ?_
              clear hC La Lb Lc
              go_wp2
              · go_ret
                go_light
                exact ⟨ret_bool (fl_slot_ne hx1.out hx2.out (by assumption)), hbw9.out.drew⟩
              · go_roundw
                case rel => go_light; exact ⟨q + 1, by go_num, by omega, agree_succ hag.out (by rw [hx1.out, hx2.out]; have := slotEq_iff (s := (x, y)) (t := (x', y')); simp_all), hb9.out.drew⟩
                case measure => go_light; simp [intOf]; omega
            · have Hq : Hid (q = f.slots.length) := by show q = f.slots.length; omega
              have hsl := Lib.hid (agree_all hag.out (show f.slots.length = q by have := Hq.out; omega) (by rw [← h3.out]; have := Hq.out; omega))
              have hq' : ¬ (q : Int) < (f.slots.length : Int) := by omega
              replace hb := Lib.hid hb
              replace hbw := Lib.hid hbw
              go_wp2
              clear hlt hq' hq p5 p6 q6
              go_loopw [58] (fun k wr => ∃ q : Nat, k = .int .i64 q ∧ q ≤ f.have_.length ∧ agree f.have_ f'.have_ q ∧ Below (w.heap.size + 2) (box2 w (flc f.e f.l f.i f.c f.base A f.slots.length cA B f.have_.length cB) 39 (flc f'.e f'.l f'.i f'.c f'.base A' f'.slots.length cA' B' f'.have_.length cB') 39) wr) (fun k _ => f.have_.length - (intOf k).toNat)
              case atStart => exact ⟨0, rfl, by omega, agree_zero _ _, hb.out⟩
              case round =>
                obtain ⟨p, rfl, hp, hag2, hb2⟩ := hrel
                obtain ⟨hbw2, hc, hc', -, -, -, -⟩ := box2_facts hb2
                have p6 := hc' 6
                have q6 := hc 6
                simp at p6 q6
                clear hc hc'
                replace hag2 := Lib.hid hag2
                by_cases hlt : p < f.have_.length
                · obtain ⟨g1, o1, x, rfl, hg1, hx1, k1⟩ := (hB.below hbw2 hN).int (k := p) hlt
                  obtain ⟨g2, o2, x', rfl, hg2, hx2, k2⟩ := (hB'.below hbw2 hN).int (k := p) (by rw [← h4.out]; exact hlt)
                  have hw1 : (p : Int) < (f'.have_.length : Int) := by rw [← h4.out]; omega
                  replace hb2 := Lib.hid hb2
                  replace hbw2 := Lib.hid hbw2
                  clear hA hA' hB hB'
                  by_cases hxx : x = x'
                  · have bx : (x != x') = false := by simp [hxx]
                    replace hxx := Lib.hid hxx
                    go_wp2
                    go_roundw
                    case rel => go_light; exact ⟨p + 1, by go_num, by omega, agree_succ hag2.out (by rw [hx1.out, hx2.out, hxx.out]), hb2.out⟩
                    case measure => go_light; simp [intOf]; omega
                  · have bx : (x != x') = true := by simp [hxx]
                    have he := Lib.hid (fl_have_ne hx1.out hx2.out bx)
                    replace hxx := Lib.hid hxx
                    go_wp2
                    go_ret
                    exact ⟨ret_bool he.out, hbw2.out⟩
                · have hhl := Lib.hid (agree_all hag2.out (show f.have_.length = p by omega) (by rw [← h4.out]; omega))
                  have he := Lib.hid (flB_yes (fl_ext hv'.out h2.out hsl.out hhl.out))
                  replace hbw2 := Lib.hid hbw2
                  replace hb2 := Lib.hid hb2
                  clear hA hA' hB hB'
                  go_wp2
                  go_ret
                  exact ⟨ret_bool he.out, hbw2.out⟩
        · have b4 : ((f.have_.length : Int) != (f'.have_.length : Int)) = true := by simp; omega
          have he := Lib.hid (flB_no (f := f) (g := f') (by intro e; exact h4 (by rw [e])))
          replace h2 := Lib.hid h2
          replace h3 := Lib.hid h3
          replace h4 := Lib.hid h4
          clear hA hA' hB hB'
          go_enter Try.func117, Try.ntmps117
          go_wp2
          go_ret
          exact ⟨ret_bool he.out, hb0.out⟩
      · have b3 : ((f.slots.length : Int) != (f'.slots.length : Int)) = true := by simp; omega
        have he := Lib.hid (flB_no (f := f) (g := f') (by intro e; exact h3 (by rw [e])))
        replace h2 := Lib.hid h2
        replace h3 := Lib.hid h3
        clear hA hA' hB hB'
        go_enter Try.func117, Try.ntmps117
        go_wp2
        go_ret
        exact ⟨ret_bool he.out, hb0.out⟩
    · have b2 : (f.base != f'.base) = true := by simp [h2]
      have he := Lib.hid (flB_no (f := f) (g := f') (by intro e; exact h2 (by rw [e])))
      replace h2 := Lib.hid h2
      clear hA hA' hB hB'
      go_enter Try.func117, Try.ntmps117
      go_wp2
      go_ret
      exact ⟨ret_bool he.out, hb0.out⟩
end Go.Proofs.Ytcffhfcjfjfokaa
/- Missing: whose content of a view is not here. The program's and the document's. -/
namespace Go.Proofs.Ytcffhfcjfjfokaa
open Go.RowKit
def eMm (m : Mm) : List Value := [.int .i64 m.p, .int .i64 m.i, .int .i64 m.c]
theorem size168 : (Try.prog.info? 168).map (·.size) = some 3 := by kernel_rfl
theorem load168 {w : World} {b o : Nat} {m : Mm} (h : w.rangeAt b o (eMm m)) : (loadVar 168 ⟨b, o, none⟩).run Try.prog w = .ok (.agg #[.int .i64 m.p, .int .i64 m.i, .int .i64 m.c]) w :=
  run_loadVar_mid w b o 168 (eMm m) _ h Try.underlying168 rfl (by rw [size168]; rfl)
theorem missing_snoc (s : Sto) (e l i c : Int) (who : List Mm) {q : Nat} {m : Mm} (hm : who[q]? = some m) : s.missing e l i c (who.take (q + 1)) = if s.hereB e l i c m = true then s.missing e l i c (who.take q) else s.missing e l i c (who.take q) ++ [m.p] := by
  unfold Sto.missing
  rw [List.take_add_one, hm]
  simp only [Option.toList_some, List.filter_append, List.map_append]
  cases hh : s.hereB e l i c m <;> simp [hh]
theorem missing_len (s : Sto) (e l i c : Int) (who : List Mm) : (s.missing e l i c who).length ≤ who.length := by
  unfold Sto.missing
  rw [List.length_map]; exact List.length_filter_le _ _
/-- What Missing answers. -/
def MsPost (w : World) (l : List Int) (x : Ending) (w' : World) : Prop :=
  ∃ B c, x = .returned (.slice B l.length c) ∧ Owns w' w.heap.size 3 1 eInt B c l ∧ Below w.heap.size w w'
set_option maxRecDepth 100000 in
set_option maxHeartbeats 2000000 in
theorem missing_any {w : World} {F : List Nat} {b g : Nat} {s : Sto} {ks : List KpX} {Mp : Option Addr} {cM : Nat} {ms : List Dr} (h : StV w F b g 0 1 s ks Mp cM ms) (e l i c : Int) (A : Option Addr) (cA N : Nat) (who : List Mm) (hN : N ≤ w.heap.size) (hA : RowAt w N 3 eMm A who) (hl : who.length ≤ 1048576) :
    Calls Try.prog 72 #[.pointer (some ⟨b, 0, none⟩), .agg #[.int .i64 e, .int .i64 l, .int .i64 i, .int .i64 c], .slice A who.length cA] w (MsPost w (s.missing e l i c who)) := by
  obtain ⟨wA, hwA⟩ : ∃ wA, wA = w.alloc (.cells #[.int .i64 e, .int .i64 l, .int .i64 i, .int .i64 c] 35) := ⟨_, rfl⟩
  have hbA : Below w.heap.size w wA := by rw [hwA]; exact below_box1 _ _ _
  have zA : wA.heap.size = w.heap.size + 1 := by rw [hwA]; simp
  have oA : wA.rangeAt w.heap.size 0 [.int .i64 e, .int .i64 l, .int .i64 i, .int .i64 c] := by rw [hwA]; exact range_new w #[.int .i64 e, .int .i64 l, .int .i64 i, .int .i64 c] 35
  have hbz := h.hi b h.bF
  have hx : ∀ W, Below wA.heap.size wA W → RowAt W N 3 eMm A who ∧ StV W F b g 0 1 s ks Mp cM ms ∧ W.rangeAt w.heap.size 0 [.int .i64 e, .int .i64 l, .int .i64 i, .int .i64 c] := fun W hW =>
    ⟨(hA.below hbA hN).below hW (by omega), (h.below hbA).below hW, range_same oA (hW.block w.heap.size (by omega))⟩
  replace hx := Lib.hid hx
  replace hbA := Lib.hid hbA
  replace hwA := Lib.hid hwA
  replace zA := Lib.hid zA
  clear h oA hA
  go_enter Try.func72, Try.ntmps72
  go_wp2
  rw [← hwA.out]
  go_loopw [7, 12] (fun v k wr => ∃ (q : Nat) (B : Option Addr) (d : Nat), k = .int .i64 q ∧ q ≤ who.length ∧ v = .slice B (s.missing e l i c (who.take q)).length d ∧ Owns wr wA.heap.size 3 1 eInt B d (s.missing e l i c (who.take q)) ∧ Below wA.heap.size wA wr) (fun _ k _ => who.length - (intOf k).toNat)
  case atStart => exact ⟨0, none, 0, rfl, by omega, rfl, owns_nil _ _ _ _ _, Below.refl _ _⟩
  case round =>
    obtain ⟨q, B, d, rfl, hq, rfl, ho, hb⟩ := hrel
    have hlm := Nat.le_trans (missing_len s e l i c (who.take q)) (List.length_take_le ..)
    have hzr := hb.size
    replace ho := Lib.hid ho
    replace hb := Lib.hid hb
    by_cases hlt : q < who.length
    · obtain ⟨g1, o1, rfl, hg1, hc1⟩ := (hx.out _ hb.out).1 (by omega)
      have hm : who[q]? = some who[q] := List.getElem?_eq_getElem hlt
      obtain ⟨m, hme⟩ : ∃ m, m = who[q] := ⟨_, rfl⟩
      rw [← hme] at hm
      have hmr : wr.rangeAt g1 (o1 + q * 3) (eMm m) := fun j u hu => hc1 q m hm j u hu
      have hsn := missing_snoc s e l i c who hm
      obtain ⟨x1, hx1⟩ : ∃ x1, x1 = wr.alloc (.cells #[.int .i64 m.p, .int .i64 m.i, .int .i64 m.c] 168) := ⟨_, rfl⟩
      have b1 : Below wr.heap.size wr x1 := by rw [hx1]; exact below_box1 _ _ _
      have r1 : x1.rangeAt wr.heap.size 0 (eMm m) := by rw [hx1]; exact range_new wr #[.int .i64 m.p, .int .i64 m.i, .int .i64 m.c] 168
      have z1 : wr.heap.size < x1.heap.size := by rw [hx1]; simp
      have bA1 := hb.out.trans (b1.mono hzr)
      have o1' : Owns x1 wA.heap.size 3 1 eInt B d (s.missing e l i c (who.take q)) := by rw [hx1]; exact ho.out.alloc _
      obtain ⟨-, h1, v1⟩ := hx.out _ bA1
      have Lv := load35 v1
      have Lm := load168 r1
      have hq0 : (0 : Int) ≤ (q : Int) := by omega
      have hq1 : (q : Int) < (who.length : Int) := by omega
      replace hme := Lib.hid hme
      replace hm := Lib.hid hm
      replace hmr := Lib.hid hmr
      replace hsn := Lib.hid hsn
      replace hx1 := Lib.hid hx1
      replace b1 := Lib.hid b1
      replace r1 := Lib.hid r1
      replace bA1 := Lib.hid bA1
      replace o1' := Lib.hid o1'
      replace h1 := Lib.hid h1
      replace Lv := Lib.hid Lv
      replace Lm := Lib.hid Lm
      clear hc1 v1
      cases hh : s.hereB e l i c m with
      | true =>
        rw [hh, if_pos rfl] at hsn
        go_wp2_with (first
          | (refine wpList_loadR rfl 168 (.tmp 14) rfl g1 (o1 + q * 3) (by rfl) _ (by exact load168 hmr.out) ?_)
          | (rw [← hx1.out]
             refine wpList_loadR rfl 35 (.tmp 4) rfl w.heap.size 0 (by rfl) _ (by exact Lv.out) ?_)
          | (refine wpList_loadR rfl 168 (.tmp 9) rfl wr.heap.size 0 (by rfl) _ (by exact Lm.out) ?_)
          | fail)
        go_wp2_with (first
          | (go_at_call 103
             refine (here_any h1.out e l i c m).mono ?_
             rintro e' x2 ⟨rfl, hb2⟩
             rw [hh]
             have bA2 := Lib.hid (bA1.out.trans (hb2.mono bA1.out.size))
             have ho2 := Lib.hid (o1'.out.keep hb2 (fun k hk => (o1'.out.lo k hk).2))
             clear hb2)
          | fail)
        go_roundw
        case rel => go_light; exact ⟨q + 1, B, d, by go_num, by omega, by rw [hsn.out], by rw [hsn.out]; exact ho2.out, bA2.out⟩
        case measure => go_light; simp [intOf]; omega
      | false =>
        rw [hh, if_neg (by simp)] at hsn
        go_wp2_with (first
          | (refine wpList_loadR rfl 168 (.tmp 14) rfl g1 (o1 + q * 3) (by rfl) _ (by exact load168 hmr.out) ?_)
          | (rw [← hx1.out]
             refine wpList_loadR rfl 35 (.tmp 4) rfl w.heap.size 0 (by rfl) _ (by exact Lv.out) ?_)
          | (refine wpList_loadR rfl 168 (.tmp 9) rfl wr.heap.size 0 (by rfl) _ (by exact Lm.out) ?_)
          | fail)
        go_wp2_with (first
          | (go_at_call 103
             refine (here_any h1.out e l i c m).mono ?_
             rintro e' x2 ⟨rfl, hb2⟩
             rw [hh]
             have bA2 := bA1.out.trans (hb2.mono bA1.out.size)
             have ho2 := o1'.out.keep hb2 (fun k hk => (o1'.out.lo k hk).2)
             have Lp : (loadVar 3 ⟨wr.heap.size, 0, none⟩).run Try.prog x2 = .ok (.int .i64 m.p) x2 := load3 ((hb2.cell (p := ⟨wr.heap.size, 0, none⟩) z1).trans (r1.out 0 _ rfl))
             have ho3 := ho2.alloc (.cells #[.int .i64 m.p] 3)
             have r3 := row_new x2 3 1 eInt m.p #[.int .i64 m.p] rfl
             have z2 := bA2.size
             have b3 : Below wA.heap.size wA (x2.alloc (.cells #[.int .i64 m.p] 3)) := bA2.alloc z2 _
             have lo3 := ho3.lo
             replace bA2 := Lib.hid bA2
             replace ho3 := Lib.hid ho3
             replace r3 := Lib.hid r3
             replace b3 := Lib.hid b3
             replace Lp := Lib.hid Lp
             replace lo3 := Lib.hid lo3
             clear hb2 ho2)
          | (refine wpList_loadR rfl 3 (.tmp 22) rfl wr.heap.size 0 (by rfl) _ (by exact Lp.out) ?_)
          | (refine wpList_append_rows _ rfl (.tmp 21) (.tmp 24) 37 rfl wA.heap.size 3 1 8 (.int .i64 0) Try.underlying37 info3 (by rfl) (by omega) eInt len_eInt one_eInt B d (s.missing e l i c (who.take q)) (some ⟨x2.heap.size, 0, none⟩) 1 (x2.heap.size + 1) (s.missing e l i c (who.take q)).length 1 [m.p] (by rfl) (by rfl) rfl rfl ho3.out r3.out (by omega) (by omega) (by rw [World.size_alloc]; omega) ?_
             intro B4 d4 x4 ho4 hg4 hk4
             have b4 := b3.out.grown hg4 (by rw [World.size_alloc]; omega) (fun k hk => (lo3.out k hk).1)
             replace ho4 := Lib.hid ho4
             replace b4 := Lib.hid b4
             clear hg4 hk4)
          | fail)
        go_roundw
        case rel => go_light; exact ⟨q + 1, B4, d4, by go_num, by omega, by rw [hsn.out]; simp, by rw [hsn.out]; exact ho4.out, b4.out⟩
        case measure => go_light; simp [intOf]; omega
    · obtain rfl : q = who.length := by omega
      rw [List.take_length] at ho ⊢
      have hfin := Lib.hid (hbA.out.trans (hb.out.mono (by have := zA.out; omega)))
      go_wp2
      go_ret
      exact ⟨B, d, rfl, ho.out.base (by have := zA.out; omega), hfin.out⟩
set_option maxRecDepth 100000 in
set_option maxHeartbeats 2000000 in
theorem rmissing_any {w : World} {F : List Nat} {b g : Nat} {s : Sto} {ks : List KpX} {Mp : Option Addr} {cM : Nat} {ms : List Dr} (h : StV w F b g 1 2 s ks Mp cM ms) (hn : w.cell? ⟨b, 0, none⟩ = some (.int .i64 s.n)) (e l i c : Int) (A : Option Addr) (cA N : Nat) (who : List Mm) (hN : N ≤ w.heap.size) (hA : RowAt w N 3 eMm A who) (hl : who.length ≤ 1048576) :
    Calls Try.prog 73 #[.pointer (some ⟨b, 0, none⟩), .agg #[.int .i64 e, .int .i64 l, .int .i64 i, .int .i64 c], .slice A who.length cA] w (MsPost w (s.missing e l i c who)) := by
  obtain ⟨wA, hwA⟩ : ∃ wA, wA = w.alloc (.cells #[.int .i64 e, .int .i64 l, .int .i64 i, .int .i64 c] 35) := ⟨_, rfl⟩
  have hbA : Below w.heap.size w wA := by rw [hwA]; exact below_box1 _ _ _
  have zA : wA.heap.size = w.heap.size + 1 := by rw [hwA]; simp
  have oA : wA.rangeAt w.heap.size 0 [.int .i64 e, .int .i64 l, .int .i64 i, .int .i64 c] := by rw [hwA]; exact range_new w #[.int .i64 e, .int .i64 l, .int .i64 i, .int .i64 c] 35
  have hbz := h.hi b h.bF
  have hx : ∀ W, Below wA.heap.size wA W → RowAt W N 3 eMm A who ∧ StV W F b g 1 2 s ks Mp cM ms ∧ W.rangeAt w.heap.size 0 [.int .i64 e, .int .i64 l, .int .i64 i, .int .i64 c] ∧ W.cell? ⟨b, 0, none⟩ = some (.int .i64 s.n) := fun W hW =>
    ⟨(hA.below hbA hN).below hW (by omega), (h.below hbA).below hW, range_same oA (hW.block w.heap.size (by omega)), (hW.cell (p := ⟨b, 0, none⟩) (by show b < _; omega)).trans ((hbA.cell (p := ⟨b, 0, none⟩) hbz).trans hn)⟩
  replace hx := Lib.hid hx
  replace hbA := Lib.hid hbA
  replace hwA := Lib.hid hwA
  replace zA := Lib.hid zA
  clear h oA hA hn
  go_enter Try.func73, Try.ntmps73
  go_wp2
  rw [← hwA.out]
  go_loopw [7, 8] (fun v k wr => ∃ (q : Nat) (B : Option Addr) (d : Nat), k = .int .i64 q ∧ q ≤ who.length ∧ v = .slice B (s.missing e l i c (who.take q)).length d ∧ Owns wr wA.heap.size 3 1 eInt B d (s.missing e l i c (who.take q)) ∧ Below wA.heap.size wA wr) (fun _ k _ => who.length - (intOf k).toNat)
  case atStart => exact ⟨0, none, 0, rfl, by omega, rfl, owns_nil _ _ _ _ _, Below.refl _ _⟩
  case round =>
    obtain ⟨q, B, d, rfl, hq, rfl, ho, hb⟩ := hrel
    have hlm := Nat.le_trans (missing_len s e l i c (who.take q)) (List.length_take_le ..)
    have hzr := hb.size
    replace ho := Lib.hid ho
    replace hb := Lib.hid hb
    by_cases hlt : q < who.length
    · obtain ⟨g1, o1, rfl, hg1, hc1⟩ := (hx.out _ hb.out).1 (by omega)
      have hm : who[q]? = some who[q] := List.getElem?_eq_getElem hlt
      obtain ⟨m, hme⟩ : ∃ m, m = who[q] := ⟨_, rfl⟩
      rw [← hme] at hm
      have hmr : wr.rangeAt g1 (o1 + q * 3) (eMm m) := fun j u hu => hc1 q m hm j u hu
      have hsn := missing_snoc s e l i c who hm
      have hq0 : (0 : Int) ≤ (q : Int) := by omega
      have hq1 : (q : Int) < (who.length : Int) := by omega
      replace hme := Lib.hid hme
      replace hm := Lib.hid hm
      replace hmr := Lib.hid hmr
      replace hsn := Lib.hid hsn
      clear hc1
      cases hh : s.hereB e l i c m with
      | true =>
        rw [hh, if_pos rfl] at hsn
        go_wp2_with fail
        have bd : Below wr.heap.size wr wr.drew := Below.drew (Below.refl _ _)
        have hC : ∀ x' : Prop, (∀ W, Below wr.heap.size wr W → x') ↔ x' := fun x' => ⟨fun f => f _ (Below.refl _ _), fun f _ _ => f⟩
        have La : ∀ W, Below wr.heap.size wr W → (loadVar 35 ⟨w.heap.size, 0, none⟩).run Try.prog W = .ok (.agg #[.int .i64 e, .int .i64 l, .int .i64 i, .int .i64 c]) W := fun W hW => load35 (hx.out _ (hb.out.trans (hW.mono hzr))).2.2.1
        have Lb : ∀ W, Below wr.heap.size wr W → (loadVar 168 ⟨g1, o1 + q * 3, none⟩).run Try.prog W = .ok (.agg #[.int .i64 m.p, .int .i64 m.i, .int .i64 m.c]) W := fun W hW => load168 (range_same hmr.out (hW.block g1 (by have := zA.out; omega)))
        obtain ⟨-, h1, -, n1⟩ := hx.out _ (hb.out.trans (bd.mono hzr))
        replace h1 := Lib.hid h1
        replace n1 := Lib.hid n1
        replace La := Lib.hid La
        replace Lb := Lib.hid Lb
        replace bd := Lib.hid bd
        refine wp_region_ord [([0, 1, 2, 3, 4, 5], 6)] [7] (fun W => Below wr.heap.size wr W) rfl (by kernel_rfl) rfl bd.out ?_
        refine WO.seg rfl ?_ bd.out
        simp only [picks, pick, List.cons_append, List.nil_append, List.append_nil]
        repeat (first
          | go_big_quiet_skip
          | (refine wpQuiet_loadC (by rfl) 35 (.tmp 4) rfl w.heap.size 0 (by rfl) _ La.out ?_; simp only [Act.put, List.setIfInBounds_toArray, List.set_cons_zero, List.set_cons_succ])
          | (refine wpQuiet_loadC (by rfl) 168 (.tmp 20) rfl g1 (o1 + q * 3) (by rfl) _ Lb.out ?_; simp only [Act.put, List.setIfInBounds_toArray, List.set_cons_zero, List.set_cons_succ])
          | go_big_quiet_step (fail))
        refine wpQuiet_nil ?_
        intro K hK
        go_simp
        go_at_call 104
        refine (rhere_any h1.out n1.out e l i c m).mono ?_
        rintro e' x2 ⟨rfl, hb2⟩
        rw [hh]
        have b2 : Below wr.heap.size wr x2 := bd.out.trans hb2
        have bA2 := hb.out.trans (b2.mono hzr)
        have ho2 := ho.out.keep b2 (fun k hk => (ho.out.lo k hk).2)
        replace b2 := Lib.hid b2
        replace bA2 := Lib.hid bA2
        replace ho2 := Lib.hid ho2
        clear hb2
        go_wp2_with fail
        refine hK.out _ _ b2.out ?_
        clear hK K
        refine WO.end_ ?_
        simp only [picks, pick, List.cons_append, List.nil_append, List.append_nil]
        repeat go_big_quiet_step (fail)
        refine wpQuiet_nil ?_
        clear hC La Lb
        go_wp2
        go_roundw
        case rel => go_light; exact ⟨q + 1, B, d, by go_num, by omega, by rw [hsn.out], by rw [hsn.out]; exact ho2.out, bA2.out⟩
        case measure => go_light; simp [intOf]; omega
      | false =>
        rw [hh, if_neg (by simp)] at hsn
        go_wp2_with fail
        have bd : Below wr.heap.size wr wr.drew := Below.drew (Below.refl _ _)
        have hC : ∀ x' : Prop, (∀ W, Below wr.heap.size wr W → x') ↔ x' := fun x' => ⟨fun f => f _ (Below.refl _ _), fun f _ _ => f⟩
        have La : ∀ W, Below wr.heap.size wr W → (loadVar 35 ⟨w.heap.size, 0, none⟩).run Try.prog W = .ok (.agg #[.int .i64 e, .int .i64 l, .int .i64 i, .int .i64 c]) W := fun W hW => load35 (hx.out _ (hb.out.trans (hW.mono hzr))).2.2.1
        have Lb : ∀ W, Below wr.heap.size wr W → (loadVar 168 ⟨g1, o1 + q * 3, none⟩).run Try.prog W = .ok (.agg #[.int .i64 m.p, .int .i64 m.i, .int .i64 m.c]) W := fun W hW => load168 (range_same hmr.out (hW.block g1 (by have := zA.out; omega)))
        obtain ⟨-, h1, -, n1⟩ := hx.out _ (hb.out.trans (bd.mono hzr))
        replace h1 := Lib.hid h1
        replace n1 := Lib.hid n1
        replace La := Lib.hid La
        replace Lb := Lib.hid Lb
        replace bd := Lib.hid bd
        refine wp_region_ord [([0, 1, 2, 3, 4, 5], 6)] [7] (fun W => Below wr.heap.size wr W) rfl (by kernel_rfl) rfl bd.out ?_
        refine WO.seg rfl ?_ bd.out
        simp only [picks, pick, List.cons_append, List.nil_append, List.append_nil]
        repeat (first
          | go_big_quiet_skip
          | (refine wpQuiet_loadC (by rfl) 35 (.tmp 4) rfl w.heap.size 0 (by rfl) _ La.out ?_; simp only [Act.put, List.setIfInBounds_toArray, List.set_cons_zero, List.set_cons_succ])
          | (refine wpQuiet_loadC (by rfl) 168 (.tmp 20) rfl g1 (o1 + q * 3) (by rfl) _ Lb.out ?_; simp only [Act.put, List.setIfInBounds_toArray, List.set_cons_zero, List.set_cons_succ])
          | go_big_quiet_step (fail))
        refine wpQuiet_nil ?_
        intro K hK
        go_simp
        go_at_call 104
        refine (rhere_any h1.out n1.out e l i c m).mono ?_
        rintro e' x2 ⟨rfl, hb2⟩
        rw [hh]
        have b2 : Below wr.heap.size wr x2 := bd.out.trans hb2
        have bA2 := hb.out.trans (b2.mono hzr)
        have ho2 := ho.out.keep b2 (fun k hk => (ho.out.lo k hk).2)
        replace b2 := Lib.hid b2
        replace bA2 := Lib.hid bA2
        replace ho2 := Lib.hid ho2
        clear hb2
        go_wp2_with fail
        refine hK.out _ _ b2.out ?_
        clear hK K
        refine WO.end_ ?_
        simp only [picks, pick, List.cons_append, List.nil_append, List.append_nil]
        repeat go_big_quiet_step (fail)
        refine wpQuiet_nil ?_
        clear hC La Lb
        have Lp : (loadVar 3 ⟨g1, o1 + q * 3, none⟩).run Try.prog x2 = .ok (.int .i64 m.p) x2 := load3 ((b2.out.cell (p := ⟨g1, o1 + q * 3, none⟩) (by show g1 < _; have := zA.out; omega)).trans (hmr.out 0 _ rfl))
        have ho3 := ho2.out.alloc (.cells #[.int .i64 m.p] 3)
        have r3 := row_new x2 3 1 eInt m.p #[.int .i64 m.p] rfl
        have z2 := bA2.out.size
        have b3 : Below wA.heap.size wA (x2.alloc (.cells #[.int .i64 m.p] 3)) := bA2.out.alloc z2 _
        have lo3 := ho3.lo
        replace ho3 := Lib.hid ho3
        replace r3 := Lib.hid r3
        replace b3 := Lib.hid b3
        replace Lp := Lib.hid Lp
        replace lo3 := Lib.hid lo3
        go_wp2_with (first
          | (refine wpList_loadR rfl 3 (.tmp 29) rfl g1 (o1 + q * 3) (by rfl) _ (by exact Lp.out) ?_)
          | (refine wpList_append_rows _ rfl (.tmp 25) (.tmp 31) 37 rfl wA.heap.size 3 1 8 (.int .i64 0) Try.underlying37 info3 (by rfl) (by omega) eInt len_eInt one_eInt B d (s.missing e l i c (who.take q)) (some ⟨x2.heap.size, 0, none⟩) 1 (x2.heap.size + 1) (s.missing e l i c (who.take q)).length 1 [m.p] (by rfl) (by rfl) rfl rfl ho3.out r3.out (by omega) (by omega) (by rw [World.size_alloc]; omega) ?_
             intro B4 d4 x4 ho4 hg4 hk4
             have b4 := b3.out.grown hg4 (by rw [World.size_alloc]; omega) (fun k hk => (lo3.out k hk).1)
             replace ho4 := Lib.hid ho4
             replace b4 := Lib.hid b4
             clear hg4 hk4)
          | fail)
        go_roundw
        case rel => go_light; exact ⟨q + 1, B4, d4, by go_num, by omega, by rw [hsn.out]; simp, by rw [hsn.out]; exact ho4.out, b4.out⟩
        case measure => go_light; simp [intOf]; omega
    · obtain rfl : q = who.length := by omega
      rw [List.take_length] at ho ⊢
      have hfin := Lib.hid (hbA.out.trans (hb.out.mono (by have := zA.out; omega)))
      go_wp2
      go_ret
      exact ⟨B, d, rfl, ho.out.base (by have := zA.out; omega), hfin.out⟩
end Go.Proofs.Ytcffhfcjfjfokaa
/- append onto an empty slice, at a step of a region that draws its order: a row of its own. -/
namespace Go.Proofs.Ytcffhfcjfjfokaa
open Go.RowKit
/-- A row in blocks from lo on. -/
def FRow {α : Type} (w : World) (lo sz : Nat) (enc : α → List Value) (A : Option Addr) (l : List α) : Prop :=
  0 < l.length → ∃ b off, A = some ⟨b, off, none⟩ ∧ lo ≤ b ∧ b < w.heap.size ∧ ∀ k x, l[k]? = some x → ∀ j u, (enc x)[j]? = some u → w.cell? ⟨b, off + k * sz + j, none⟩ = some u
section
variable {α : Type} {w w' : World} {lo sz : Nat} {enc : α → List Value} {A : Option Addr} {l : List α}
theorem FRow.row (h : FRow w lo sz enc A l) : RowAt w w.heap.size sz enc A l := fun h0 => by
  obtain ⟨b, off, e, _, hb, hc⟩ := h h0
  exact ⟨b, off, e, hb, hc⟩
theorem FRow.below (h : FRow w lo sz enc A l) (hb : Below w.heap.size w w') : FRow w' lo sz enc A l := fun h0 => by
  obtain ⟨b, off, e, h1, h2, hc⟩ := h h0
  exact ⟨b, off, e, h1, Nat.lt_of_lt_of_le h2 hb.size, fun k x hk j u hu => (hb.cell (p := ⟨b, _, none⟩) h2).trans (hc k x hk j u hu)⟩
theorem FRow.setCell (h : FRow w lo sz enc A l) {p : Addr} (hp : p.block < lo) (v : Value) : FRow (w.setCell p v) lo sz enc A l := fun h0 => by
  obtain ⟨b, off, e, h1, h2, hc⟩ := h h0
  refine ⟨b, off, e, h1, by rw [World.size_setCell]; exact h2, fun k x hk j u hu => ?_⟩
  have hne : ∀ o, p ≠ ⟨b, o, none⟩ := fun o e2 => by rw [e2] at hp; exact absurd h1 (Nat.not_le.2 hp)
  rw [World.cell?_setCell_other _ _ _ _ (hne _)]
  exact hc k x hk j u hu
theorem FRow.lower {lo' : Nat} (h : FRow w lo sz enc A l) (hl : lo' ≤ lo) : FRow w lo' sz enc A l := fun h0 => by
  obtain ⟨b, off, e, h1, h2, hc⟩ := h h0
  exact ⟨b, off, e, by omega, h2, hc⟩
theorem FRow.of_owns {base c : Nat} {e : TypeId} (h : Owns w base e sz enc A c l) (hsz : ∀ x, (enc x).length = sz) : FRow w base sz enc A l := fun h0 => by
  obtain ⟨b, off, e, hb, hc⟩ := h.row hsz h0
  exact ⟨b, off, e, (h.lo b (by rw [e]; rfl)).1, hb, hc⟩
end
section
variable {P : Program}
theorem run_append_zero (w : World) (t ty e : TypeId) (i : TypeInfo) (ht : P.underlying t = some (.slice e)) (hi : P.info? e = some i) (g : Addr) (B : Option Addr) (m c : Nat) (hm : 0 < m) (hb : m * i.bytes ≤ 140737488355328) :
    (Builtin.append_ #[t, t] ty #[.slice (some g) 0 0, .slice B m c]).run P w = (Builtin.append_ #[t, t] ty #[.slice none 0 0, .slice B m c]).run P w := by
  have h1 : ¬ m ≤ 0 := by omega
  have h2 := growslice_fits (need := m) (old := 0) (bytes := i.bytes) hm hb
  have h3 : ¬ m = 0 := by omega
  have h4 : ¬ 281474976710656 < Builtin.nextslicecap m 0 * i.bytes := by omega
  simp [Builtin.append_, run_underlying ht, sizeOf, typeInfo, hi, Builtin.lenOf, Builtin.firstCells, loadCells, loadCellsFrom, h1, h3, h4]
theorem run_append_none (w : World) (t ty e : TypeId) (i : TypeInfo) (ht : P.underlying t = some (.slice e)) (hi : P.info? e = some i) (A B : Option Addr) (c : Nat) :
    (Builtin.append_ #[t, t] ty #[.slice A 0 0, .slice B 0 c]).run P w = .ok (.slice A 0 0) w := by
  cases A <;> cases B <;> simp [Builtin.append_, run_underlying ht, sizeOf, typeInfo, hi, Builtin.lenOf, Builtin.firstCells, loadCells, loadCellsFrom, storeCells]
/-- append onto an empty slice literal, at a step of a region that draws its order: a row of its own; no block that was there has turned. -/
theorem step_append_fresh {α : Type} {ops : Array Oper} {o : Oper} {a : Act} {w : World} {K : Act → World → Prop} {Q : Exit → Act → World → Prop} (hgd : o.guard = none) (s x : Operand) (t : TypeId)
    (ho : o.op = .call { callee := .builtin .append, args := #[s, x], argTypes := #[t, t] })
    (e : TypeId) (sz bytes : Nat) (z : Value) (ht : P.underlying t = some (.slice e)) (hinfo : (P.info? e).map (fun i => (i.zero, i.size, i.bytes)) = some (some z, sz, bytes))
    (hzs : z.cells.size = sz) (hsz : 0 < sz) (enc : α → List Value) (henc : ∀ x, (enc x).length = sz) (hone : ∀ x, ∀ u ∈ enc x, u.oneCell' = true)
    (A B : Option Addr) (cB N m : Nat) (l : List α) (hs : a.eval s = .slice A 0 0) (hx : a.eval x = .slice B m cB) (hm : l.length = m) (hr : RowAt w N sz enc B l) (hbytes : m * bytes ≤ 140737488351232) (h63 : m ≤ 9223372036854775807)
    (h : ∀ A' c' w', FRow w' w.heap.size sz enc A' l → m ≤ c' → c' ≤ 9223372036854775807 → Below w.heap.size w w' → K (a.put o.dst (.slice A' m c')) w') :
    if Region.wanted o (yielded ops a.tmps) = true then o.wp P a w K Q else K (a.put o.dst undef) w := by
  subst hm
  obtain ⟨i, hi, hz, hsize, hby⟩ := info_parts hinfo
  have hw : Region.wanted o (yielded ops a.tmps) = true := by simp [Region.wanted, hgd]
  rw [if_pos hw]
  have key : ∃ A' c' w', (Builtin.append_ #[t, t] o.type #[.slice A 0 0, .slice B l.length cB]).run P w = .ok (.slice A' l.length c') w' ∧ FRow w' w.heap.size sz enc A' l ∧ l.length ≤ c' ∧ c' ≤ 9223372036854775807 ∧ Below w.heap.size w w' := by
    by_cases h0 : 0 < l.length
    · obtain ⟨b, off, rfl, hb, hc⟩ := hr h0
      obtain ⟨v', w', h1, h2, h3, _, h5⟩ := run_append_own_at (P := P) w w.heap.size t o.type e i z sz bytes ht hi hz hsize hby hzs hsz (.slice none 0 0) 0 _ (owns_nil (α := α) w w.heap.size e sz enc) ⟨b, off, none⟩ l.length cB (l.flatMap enc)
        (length_flat henc l) (fun j u hu => by
          obtain ⟨k, r, x, hk, hr', rfl⟩ := flatMap_of henc l j u hu
          have := hc k x hk r u hr'
          by_cases hz0 : k * sz + r = 0
          · rw [hz0]; simp only [Addr.add, if_true]
            have e0 : off + k * sz + r = off := by omega
            rw [e0] at this; exact this
          · simp only [Addr.add, if_neg hz0]
            rw [← Nat.add_assoc]; exact this)
        (fun u hu => by obtain ⟨x, _, hux⟩ := List.mem_flatMap.1 hu; exact hone x u hux) (by simp only [maxLen]; omega) (by rw [Nat.zero_add]; omega) (Nat.le_refl _)
      rw [Nat.zero_add, List.flatMap_nil, List.nil_append] at h2
      obtain ⟨g, cap, rfl, hg1, hg2⟩ := World.ownsRow.form h2 h0
      have hO : Owns w' w.heap.size e sz enc (some ⟨g, 0, none⟩) cap l := h2
      refine ⟨some ⟨g, 0, none⟩, cap, w', ?_, FRow.of_owns hO henc, hO.len.1, hO.len.2, (Below.refl w.heap.size w).grown h3 (Nat.le_refl _) (by intro k hk; cases hk)⟩
      cases A with
      | none => exact h1
      | some ga => rw [run_append_zero w t o.type e i ht hi ga _ _ _ h0 (by rw [hby]; omega)]; exact h1
    · have hl : l = [] := List.eq_nil_of_length_eq_zero (by omega)
      subst hl
      exact ⟨A, 0, w, run_append_none w t o.type e i ht hi A B cB, fun h => absurd h (by simp), by simp, by omega, Below.refl _ _⟩
  obtain ⟨A', c', w', hrun, h2, h3, h4, h5⟩ := key
  unfold Oper.wp execOp
  simp only [ho, resolve, invoke, builtin, Sem.run_bind, Sem.run_pure, Result.andThen_ok, List.map_toArray, List.map_cons, List.map_nil, hs, hx, hrun]
  exact h A' c' w' h2 h3 h4 h5
end
end Go.Proofs.Ytcffhfcjfjfokaa
