/- RNew LawA LawB, joined. -/
import Derived.Test.YtfbeggdbjpmppaaMw12
set_option linter.unusedVariables false
set_option linter.unusedSimpArgs false
/- The document's New. -/
namespace Go.Proofs.Ytfbeggdbjpmppaa
open Go.RowKit
/-- The cells of an agent that is being made. -/
abbrev nwL (n self inc : Int) (S : Option Addr) (i cS : Nat) (cid rev top : Int) (V : Option Addr) (j cV : Nat) : List Value := [.int .i64 n, .int .i64 self, .int .i64 inc, .int .i64 0, .int .i64 0, .int .i64 0, .int .i64 0, .slice none 0 0, .bool true, .slice S i cS, .int .i64 cid, .int .i64 rev, .int .i64 top, .int .i64 0, .int .i64 0, .int .i64 0, .int .i64 0, .slice V j cV, .slice none 0 0]
abbrev nwA (n self inc : Int) : Array Value := #[.int .i64 n, .int .i64 self, .int .i64 inc, .int .i64 0, .int .i64 0, .int .i64 0, .int .i64 0, .slice none 0 0, .bool true, .slice none 0 0, .int .i64 0, .int .i64 0, .int .i64 0, .int .i64 0, .int .i64 0, .int .i64 0, .int .i64 0, .slice none 0 0, .slice none 0 0]
theorem build123 (w : World) (n self inc : Int) : (Instr.build 123 #[(0, .int .i64 n), (1, .int .i64 self), (2, .int .i64 inc), (4, .bool true)]).run Try.prog w = .ok (.agg (nwA n self inc)) w := by kernel_rfl
section
variable {ops : Array Oper} {rest : List Oper} {op : Oper} {a : Act} {w : World} {Q : Exit → Act → World → Prop}
theorem wpList_build123 (hgd : op.guard = none) (x0 x1 x2 : Operand) (ho : op.op = .build 123 #[(0, x0), (1, x1), (2, x2), (4, .const (.bool true))]) (n self inc : Int) (h0 : a.eval x0 = .int .i64 n) (h1 : a.eval x1 = .int .i64 self) (h2 : a.eval x2 = .int .i64 inc)
    (h : wpList Try.prog ops Q rest (a.put op.dst (.agg (nwA n self inc))) w) : wpList Try.prog ops Q (op :: rest) a w := by
  refine wpList_plain hgd fun _ hK => ?_
  unfold Oper.wp execOp
  have h3 : a.eval (.const (.bool true)) = .bool true := rfl
  simp only [ho, List.map_toArray, List.map_cons, List.map_nil, h0, h1, h2, h3, Sem.run_bind, build123, Result.andThen_ok, Sem.run_pure]
  exact hK _ _ h
end
/-- One cell of a row of cells is set. -/
theorem rng_set1 {w : World} {b n : Nat} {l l' : List Value} {v : Value} (h : w.rangeAt b 0 l) (ht : w.there b 0 n) (k : Nat) (hk : k < n) (hl : l' = l.set k v) : (w.setCell ⟨b, k, none⟩ v).rangeAt b 0 l' := fun j u hu => by
  subst hl
  show (w.setCells b k [v]).cell? _ = _
  have hv : ([v] : List Value).length = 1 := rfl
  rw [Nat.zero_add]
  by_cases e : k = j
  · subst e
    have : u = v := by
      rw [List.getElem?_set] at hu
      simp at hu
      exact hu.2.symm
    subst this
    exact cell_in (i := 0) ht (by omega) rfl
  · rw [List.getElem?_set_ne e] at hu
    have := h j u hu
    rw [Nat.zero_add] at this
    exact cell_out this (by omega)
/-- What a round of New finds. -/
structure NwR (w0 : World) (n me inc : Int) (ls lv : List Int) (i : Nat) (S : Option Addr) (cS j : Nat) (V : Option Addr) (cV : Nat) (w : World) : Prop where
  rng : w.rangeAt w0.heap.size 0 (nwL n me inc S i cS 0 0 0 V j cV)
  there : w.there w0.heap.size 0 19
  oS : Owns w (w0.heap.size + 1) 3 1 eInt S cS (ls.take i)
  oV : Owns w (w0.heap.size + 1) 3 1 eInt V cV (lv.take j)
  ne : ∀ k, blk S = some k → blk V ≠ some k
  bel : Below w0.heap.size w0 w
  lt : w0.heap.size + 1 ≤ w.heap.size
theorem own_ne {A B : Option Addr} (h : ∀ k, blk A = some k → blk B ≠ some k) : blk B = none ∨ blk B ≠ blk A := by
  cases e : blk B with
  | none => exact .inl rfl
  | some k => exact .inr (fun e2 => h k e2.symm e)
theorem own_ne' {A B : Option Addr} (h : ∀ k, blk A = some k → blk B ≠ some k) : blk A = none ∨ blk A ≠ blk B := by
  cases e : blk A with
  | none => exact .inl rfl
  | some k => exact .inr (fun e2 => h k e e2.symm)
theorem sat {g : Nat} {v : Option Nat} {B : Nat} (h : ∀ k, v = some k → B ≤ k) (hg : g < B) : some g ≠ v := fun e => by have := h g e.symm; omega
theorem range_same {w w' : World} {b o : Nat} {l : List Value} (h : w.rangeAt b o l) (hb : w'.heap[b]? = w.heap[b]?) : w'.rangeAt b o l := fun j u hu => (World.cell?_of_block (a := ⟨b, o + j, none⟩) hb).trans (h j u hu)
theorem there_same {w w' : World} {b o n : Nat} (h : w.there b o n) (hb : w'.heap[b]? = w.heap[b]?) : w'.there b o n := fun j hj => by
  rw [World.cell?_of_block (a := ⟨b, o + j, none⟩) hb, World.frozen?_of_block (a := ⟨b, o + j, none⟩) hb]; exact h j hj
section
variable {w0 w w' : World} {n self inc : Int} {ls lv : List Int} {i j cS cV : Nat} {S V : Option Addr}
theorem NwR.base (h : NwR w0 n self inc ls lv i S cS j V cV w) (o : Obj) {row : Option Nat} (hr : ∀ k, row = some k → w0.heap.size + 1 ≤ k) (hg : (w.alloc o).grownBy w' row) : w'.rangeAt w0.heap.size 0 (nwL n self inc S i cS 0 0 0 V j cV) ∧ w'.there w0.heap.size 0 19 ∧ Below w0.heap.size w0 w' ∧ w0.heap.size + 1 ≤ w'.heap.size := by
  have hl := h.lt
  have hz := hg.size
  rw [World.size_alloc] at hz
  have hb : w'.heap[w0.heap.size]? = w.heap[w0.heap.size]? := (hg.block _ (by rw [World.size_alloc]; omega) (sat hr (by omega))).trans (heap_alloc_old _ _ (by omega))
  exact ⟨range_same h.rng hb, there_same h.there hb, (h.bel.alloc (by omega) _).grown hg (by rw [World.size_alloc]; omega) (fun k hk => by have := hr k hk; omega), by omega⟩
theorem NwR.stepS (h : NwR w0 n self inc ls lv i S cS j V cV w) (o : Obj) {S' : Option Addr} {cS' : Nat} (ho : Owns w' (w0.heap.size + 1) 3 1 eInt S' cS' (ls.take (i + 1))) (hg : (w.alloc o).grownBy w' (blk S)) (hS : blk S' = blk S ∨ blk S' = some (w.alloc o).heap.size) :
    NwR w0 n self inc ls lv (i + 1) S' cS' j V cV (w'.setCell ⟨w0.heap.size, 9, none⟩ (.slice S' (i + 1) cS')) := by
  obtain ⟨h1, h2, h3, h4⟩ := h.base o (fun k hk => (h.oS.lo k hk).1) hg
  have g := grown_cell w' w0.heap.size 9 (.slice S' (i + 1) cS')
  refine ⟨rng_set1 h1 h2 9 (by omega) rfl, ?_, ho.kept g (.inr (fun e => by have := (ho.lo _ e).1; omega)), ((h.oV.alloc o).kept hg (own_ne h.ne)).kept g (.inr (fun e => by have := (h.oV.lo _ e).1; omega)), fun k hk => ?_, h3.setCell (Nat.le_refl _) _, by rw [World.size_setCell]; exact h4⟩
  · exact World.there_setCells h2 w0.heap.size 9 [.slice S' (i + 1) cS']
  · rcases hS with e | e
    · exact h.ne k (e.symm.trans hk)
    · intro e2
      have := (h.oV.lo k e2).2
      rw [e, World.size_alloc] at hk; injection hk with hk; omega
theorem NwR.stepV (h : NwR w0 n self inc ls lv i S cS j V cV w) (o : Obj) {V' : Option Addr} {cV' : Nat} (ho : Owns w' (w0.heap.size + 1) 3 1 eInt V' cV' (lv.take (j + 1))) (hg : (w.alloc o).grownBy w' (blk V)) (hV : blk V' = blk V ∨ blk V' = some (w.alloc o).heap.size) :
    NwR w0 n self inc ls lv i S cS (j + 1) V' cV' (w'.setCell ⟨w0.heap.size, 17, none⟩ (.slice V' (j + 1) cV')) := by
  obtain ⟨h1, h2, h3, h4⟩ := h.base o (fun k hk => (h.oV.lo k hk).1) hg
  have g := grown_cell w' w0.heap.size 17 (.slice V' (j + 1) cV')
  refine ⟨rng_set1 h1 h2 17 (by omega) rfl, ?_, ((h.oS.alloc o).kept hg (own_ne' h.ne)).kept g (.inr (fun e => by have := (h.oS.lo _ e).1; omega)), ho.kept g (.inr (fun e => by have := (ho.lo _ e).1; omega)), fun k hk => ?_, h3.setCell (Nat.le_refl _) _, by rw [World.size_setCell]; exact h4⟩
  · exact World.there_setCells h2 w0.heap.size 17 [.slice V' (j + 1) cV']
  · rcases hV with e | e
    · rw [e]; exact h.ne k hk
    · intro e2
      have := (h.oS.lo k hk).2
      rw [e, World.size_alloc] at e2; injection e2 with e2; omega
end
set_option maxRecDepth 100000 in
set_option maxHeartbeats 4000000 in
theorem rnew_no (n self inc floor : Int) (w : World) (h : newB n self inc floor = false) :
    Calls Try.prog 47 #[.int .i64 n, .int .i64 self, .int .i64 inc, .int .i64 floor] w fun x w' => x = .returned (.tuple #[.pointer none, .int .i64 1]) ∧ w' = w := by
  have hc : n < 1 ∨ (1 ≤ n ∧ 16 < n) ∨ (1 ≤ n ∧ n ≤ 16 ∧ self < 0) ∨ (1 ≤ n ∧ n ≤ 16 ∧ 0 ≤ self ∧ n ≤ self) ∨ (1 ≤ n ∧ n ≤ 16 ∧ 0 ≤ self ∧ self < n ∧ inc < 1) ∨ (1 ≤ n ∧ n ≤ 16 ∧ 0 ≤ self ∧ self < n ∧ 1 ≤ inc ∧ 4611686018427387904 < inc) ∨
      (1 ≤ n ∧ n ≤ 16 ∧ 0 ≤ self ∧ self < n ∧ 1 ≤ inc ∧ inc ≤ 4611686018427387904 ∧ floor < 0) ∨ (1 ≤ n ∧ n ≤ 16 ∧ 0 ≤ self ∧ self < n ∧ 1 ≤ inc ∧ inc ≤ 4611686018427387904 ∧ 0 ≤ floor ∧ 4611686018427387904 < floor) := by
    have := of_decide_eq_false h
    omega
  rcases hc with n1 | ⟨n1, n2⟩ | ⟨n1, n2, n3⟩ | ⟨n1, n2, n3, n4⟩ | ⟨n1, n2, n3, n4, n5⟩ | ⟨n1, n2, n3, n4, n5, n6⟩ | ⟨n1, n2, n3, n4, n5, n6, n7⟩ | ⟨n1, n2, n3, n4, n5, n6, n7, n8⟩
  all_goals
    go_enter Try.func47, Try.ntmps47
    go_wp2
    go_ret2
    exact ⟨rfl, rfl⟩
theorem rnew_spent (n self inc floor : Int) (w : World) (h : newB n self inc floor = true) (hf : floor = 4611686018427387904) :
    Calls Try.prog 47 #[.int .i64 n, .int .i64 self, .int .i64 inc, .int .i64 floor] w fun x w' => x = .returned (.tuple #[.pointer none, .int .i64 3]) ∧ w' = w := by
  obtain ⟨n1, n2, n3, n4, n5, n6, n7, n8⟩ := of_decide_eq_true h
  subst hf
  replace h := Lib.hid h
  go_enter Try.func47, Try.ntmps47
  go_wp2
  go_ret2
  exact ⟨rfl, rfl⟩
/-- What the document's New answers. -/
def NwPost (w : World) (F0 : List Nat) (n self : Nat) (inc floor : Int) (x : Ending) (w' : World) : Prop :=
  x = .returned (.tuple #[.pointer (some ⟨w.heap.size, 0, none⟩), .int .i64 0]) ∧ (∃ X, RefAt w' w.heap.size (w.heap.size :: F0) (newSt n self inc floor) [] X ∧ X.A = none) ∧ Below w.heap.size w w' ∧ w.heap.size < w'.heap.size
set_option maxRecDepth 100000 in
set_option maxHeartbeats 4000000 in
theorem rnew_yes (F0 : List Nat) (n self : Nat) (inc floor : Int) (w : World) (hF0 : ∀ x ∈ F0, x < w.heap.size) (h : newB n self inc floor = true) (hf : floor ≠ 4611686018427387904) :
    Calls Try.prog 47 #[.int .i64 n, .int .i64 self, .int .i64 inc, .int .i64 floor] w (NwPost w F0 n self inc floor) := by
  obtain ⟨n1, n2, n3, n4, n5, n6, n7, n8⟩ := of_decide_eq_true h
  have hfl : (floor == 4611686018427387904) = false := by simp [hf]
  have hs16 : self < 16 := by omega
  have hn16 : n ≤ 16 := by omega
  have hsI : (self : Int) < 16 := by omega
  have wr1 : IntKind.i64.wrap (floor + 1) = floor + 1 := by rw [IntKind.wrap_i64]; omega
  obtain ⟨w1, hw1⟩ : ∃ w1, w1 = w.alloc (.cells (nwA n self inc) 123) := ⟨_, rfl⟩
  obtain ⟨ls, hls⟩ : ∃ ls, ls = zeros.set self inc := ⟨_, rfl⟩
  obtain ⟨lv, hlv⟩ : ∃ lv, lv = zeros.set self (floor + 1) := ⟨_, rfl⟩
  have lls : ls.length = 16 := by rw [hls, List.length_set, len_zeros]
  have llv : lv.length = 16 := by rw [hlv, List.length_set, len_zeros]
  have els : ∀ i, i < 16 → ls[i]? = some (if i = self then inc else 0) := fun i hi => by
    rw [hls, List.getElem?_set]
    by_cases e : self = i
    · subst e; rw [if_pos rfl, if_pos (by rw [len_zeros]; exact hi), if_pos rfl]
    · rw [if_neg e, if_neg (fun x => e x.symm)]; unfold zeros; rw [List.getElem?_replicate, if_pos hi]
  have elv : ∀ i, i < 16 → lv[i]? = some (if i = self then floor + 1 else 0) := fun i hi => by
    rw [hlv, List.getElem?_set]
    by_cases e : self = i
    · subst e; rw [if_pos rfl, if_pos (by rw [len_zeros]; exact hi), if_pos rfl]
    · rw [if_neg e, if_neg (fun x => e x.symm)]; unfold zeros; rw [List.getElem?_replicate, if_pos hi]
  have hR0 : NwR w n self inc ls lv 0 none 0 0 none 0 w1 := by
    rw [hw1]
    exact ⟨range_new w (nwA n self inc) 123, there_new w (nwA n self inc) 123, owns_nil _ _ _ _ _, owns_nil _ _ _ _ _, (fun k hk => by cases hk), below_box1 _ _ _, by simp⟩
  replace hR0 := Lib.hid hR0
  replace hF0 := Lib.hid hF0
  replace hw1 := Lib.hid hw1
  replace hls := Lib.hid hls
  replace hlv := Lib.hid hlv
  replace lls := Lib.hid lls
  replace llv := Lib.hid llv
  replace els := Lib.hid els
  replace elv := Lib.hid elv
  replace h := Lib.hid h
  replace hf := Lib.hid hf
  go_enter Try.func47, Try.ntmps47
  go_wp2_with (first
    | (refine wpList_build123 rfl (.tmp 47) (.tmp 48) (.tmp 49) rfl _ _ _ (by rfl) (by rfl) (by rfl) ?_)
    | fail)
  rw [← hw1.out]
  go_loopw [11] (fun k wr => ∃ i S cS V cV, k = .int .i64 ((i : Nat) : Int) ∧ i ≤ n ∧ NwR w n self inc ls lv i S cS i V cV wr) (fun k _ => n - (intOf k).toNat)
  case atStart => exact ⟨0, none, 0, none, 0, rfl, by omega, hR0.out⟩
  case round =>
    obtain ⟨i, S, cS, V, cV, rfl, hi, hR⟩ := hrel
    have hlw := hR.lt
    have hlw := hR.lt
    have hlw := hR.lt
    by_cases hlt : i < n
    · have hll : (ls.take i).length = i := List.length_take_of_le (by rw [lls.out]; omega)
      have hlv' : (lv.take i).length = i := List.length_take_of_le (by rw [llv.out]; omega)
      replace hll := hll
      by_cases e : i = self
      ·
        have b0 : (((i : Nat) : Int) == (self : Int)) = true := by simp [e]
        have hsn := Lib.hid (show ls.take i ++ [inc] = ls.take (i + 1) by rw [List.take_add_one, els.out i (by omega), if_pos e]; rfl)
        have hvn := Lib.hid (show lv.take i ++ [floor + 1] = lv.take (i + 1) by rw [List.take_add_one, elv.out i (by omega), if_pos e]; rfl)
        replace e := Lib.hid e
        have k9 : wr.cell? ⟨w.heap.size, 9, none⟩ = some (.slice S i cS) := hR.rng 9 _ rfl
        have oSA := hR.oS.alloc (.cells #[.int .i64 (inc)] 3)
        have rowA := row_new wr 3 1 eInt (inc) #[.int .i64 (inc)] rfl
        replace oSA := Lib.hid oSA
        replace rowA := Lib.hid rowA
        replace hR := Lib.hid hR
        go_wp2_with (first
          | (refine wpList_append_rows _ rfl (.tmp 68) (.tmp 70) 27 rfl (w.heap.size + 1) 3 1 8 (.int .i64 0) Try.underlying27 info3 (by rfl) (by omega) eInt len_eInt one_eInt S cS (ls.take i) (some ⟨wr.heap.size, 0, none⟩) 1 (wr.heap.size + 1) i 1 [inc] (by rfl) (by rfl) hll rfl oSA.out rowA.out (by omega) (by omega) (by rw [World.size_alloc]; omega) ?_
             intro S' cS' wB oSB gB hSB
             rw [hsn.out] at oSB
             have hC := hR.out.stepS _ oSB gB hSB
             obtain ⟨kB, tB, -, -⟩ := hR.out.base _ (fun k hk => (hR.out.oS.lo k hk).1) gB
             obtain ⟨wC, hwC⟩ : ∃ wC, wC = wB.setCell ⟨w.heap.size, 9, none⟩ (.slice S' (i + 1) cS') := ⟨_, rfl⟩
             rw [← hwC] at hC
             have kB9 : wB.cell? ⟨w.heap.size, 9, none⟩ = some (.slice S i cS) := kB 9 _ rfl
             have fB9 := there_frozen tB (k := 9) (by omega)
             have kB17 : wB.cell? ⟨w.heap.size, 17, none⟩ = some (.slice V i cV) := kB 17 _ rfl
             have oVC := hC.oV.alloc (.cells #[.int .i64 (floor + 1)] 3)
             have rowC := row_new wC 3 1 eInt (floor + 1) #[.int .i64 (floor + 1)] rfl
             have zC := hC.lt
             have zBC : wC.heap.size = wB.heap.size := by rw [hwC, World.size_setCell]
             replace hC := Lib.hid hC
             replace hwC := Lib.hid hwC
             replace oVC := Lib.hid oVC
             replace rowC := Lib.hid rowC
             replace oSB := Lib.hid oSB
             replace gB := Lib.hid gB
             replace zBC := Lib.hid zBC
             clear hSB kB tB k9)
          | (rw [← hwC.out, ← zBC.out]
             refine wpList_append_rows _ rfl (.tmp 80) (.tmp 82) 27 rfl (w.heap.size + 1) 3 1 8 (.int .i64 0) Try.underlying27 info3 (by rfl) (by omega) eInt len_eInt one_eInt V cV (lv.take i) (some ⟨wC.heap.size, 0, none⟩) 1 (wC.heap.size + 1) i 1 [floor + 1] (by rfl) (by rfl) hlv' rfl oVC.out rowC.out (by omega) (by omega) (by rw [World.size_alloc]; omega) ?_
             intro V' cV' wD oVD gD hVD
             rw [hvn.out] at oVD
             have hE := hC.out.stepV _ oVD gD hVD
             obtain ⟨kD, tD, -, -⟩ := hC.out.base _ (fun k hk => (hC.out.oV.lo k hk).1) gD
             have kD17 : wD.cell? ⟨w.heap.size, 17, none⟩ = some (.slice V i cV) := kD 17 _ rfl
             have fD17 := there_frozen tD (k := 17) (by omega)
             replace hE := Lib.hid hE
             replace oVD := Lib.hid oVD
             replace gD := Lib.hid gD
             clear hVD kD tD kB9 fB9 kB17)
          | fail)
        go_roundw
        case rel => exact ⟨i + 1, S', cS', V', cV', by go_num, by omega, hE.out⟩
        case measure => go_light; simp [intOf]; omega
      ·
        have b0 : (((i : Nat) : Int) == (self : Int)) = false := by simp; omega
        have hsn := Lib.hid (show ls.take i ++ [0] = ls.take (i + 1) by rw [List.take_add_one, els.out i (by omega), if_neg e]; rfl)
        have hvn := Lib.hid (show lv.take i ++ [0] = lv.take (i + 1) by rw [List.take_add_one, elv.out i (by omega), if_neg e]; rfl)
        replace e := Lib.hid e
        have k9 : wr.cell? ⟨w.heap.size, 9, none⟩ = some (.slice S i cS) := hR.rng 9 _ rfl
        have oSA := hR.oS.alloc (.cells #[.int .i64 (0)] 3)
        have rowA := row_new wr 3 1 eInt (0) #[.int .i64 (0)] rfl
        replace oSA := Lib.hid oSA
        replace rowA := Lib.hid rowA
        replace hR := Lib.hid hR
        go_wp2_with (first
          | (refine wpList_append_rows _ rfl (.tmp 68) (.tmp 70) 27 rfl (w.heap.size + 1) 3 1 8 (.int .i64 0) Try.underlying27 info3 (by rfl) (by omega) eInt len_eInt one_eInt S cS (ls.take i) (some ⟨wr.heap.size, 0, none⟩) 1 (wr.heap.size + 1) i 1 [0] (by rfl) (by rfl) hll rfl oSA.out rowA.out (by omega) (by omega) (by rw [World.size_alloc]; omega) ?_
             intro S' cS' wB oSB gB hSB
             rw [hsn.out] at oSB
             have hC := hR.out.stepS _ oSB gB hSB
             obtain ⟨kB, tB, -, -⟩ := hR.out.base _ (fun k hk => (hR.out.oS.lo k hk).1) gB
             obtain ⟨wC, hwC⟩ : ∃ wC, wC = wB.setCell ⟨w.heap.size, 9, none⟩ (.slice S' (i + 1) cS') := ⟨_, rfl⟩
             rw [← hwC] at hC
             have kB9 : wB.cell? ⟨w.heap.size, 9, none⟩ = some (.slice S i cS) := kB 9 _ rfl
             have fB9 := there_frozen tB (k := 9) (by omega)
             have kB17 : wB.cell? ⟨w.heap.size, 17, none⟩ = some (.slice V i cV) := kB 17 _ rfl
             have oVC := hC.oV.alloc (.cells #[.int .i64 (0)] 3)
             have rowC := row_new wC 3 1 eInt (0) #[.int .i64 (0)] rfl
             have zC := hC.lt
             have zBC : wC.heap.size = wB.heap.size := by rw [hwC, World.size_setCell]
             replace hC := Lib.hid hC
             replace hwC := Lib.hid hwC
             replace oVC := Lib.hid oVC
             replace rowC := Lib.hid rowC
             replace oSB := Lib.hid oSB
             replace gB := Lib.hid gB
             replace zBC := Lib.hid zBC
             clear hSB kB tB k9)
          | (rw [← hwC.out, ← zBC.out]
             refine wpList_append_rows _ rfl (.tmp 80) (.tmp 82) 27 rfl (w.heap.size + 1) 3 1 8 (.int .i64 0) Try.underlying27 info3 (by rfl) (by omega) eInt len_eInt one_eInt V cV (lv.take i) (some ⟨wC.heap.size, 0, none⟩) 1 (wC.heap.size + 1) i 1 [0] (by rfl) (by rfl) hlv' rfl oVC.out rowC.out (by omega) (by omega) (by rw [World.size_alloc]; omega) ?_
             intro V' cV' wD oVD gD hVD
             rw [hvn.out] at oVD
             have hE := hC.out.stepV _ oVD gD hVD
             obtain ⟨kD, tD, -, -⟩ := hC.out.base _ (fun k hk => (hC.out.oV.lo k hk).1) gD
             have kD17 : wD.cell? ⟨w.heap.size, 17, none⟩ = some (.slice V i cV) := kD 17 _ rfl
             have fD17 := there_frozen tD (k := 17) (by omega)
             replace hE := Lib.hid hE
             replace oVD := Lib.hid oVD
             replace gD := Lib.hid gD
             clear hVD kD tD kB9 fB9 kB17)
          | fail)
        go_roundw
        case rel => exact ⟨i + 1, S', cS', V', cV', by go_num, by omega, hE.out⟩
        case measure => go_light; simp [intOf]; omega
    · obtain rfl : i = n := by omega
      have k10 : wr.cell? ⟨w.heap.size, 10, none⟩ = some (.int .i64 0) := hR.rng 10 _ rfl
      have k11 : wr.cell? ⟨w.heap.size, 11, none⟩ = some (.int .i64 0) := hR.rng 11 _ rfl
      have k12 : wr.cell? ⟨w.heap.size, 12, none⟩ = some (.int .i64 0) := hR.rng 12 _ rfl
      have f10 := there_frozen hR.there (k := 10) (by omega)
      have f11 := there_frozen hR.there (k := 11) (by omega)
      have f12 := there_frozen hR.there (k := 12) (by omega)
      have hfin : ∀ w5, Hid (w5 = ((wr.setCell ⟨w.heap.size, 10, none⟩ (.int .i64 (floor + 1))).setCell ⟨w.heap.size, 11, none⟩ (.int .i64 1)).setCell ⟨w.heap.size, 12, none⟩ (.int .i64 floor)) → (∃ X, RefAt w5 w.heap.size (w.heap.size :: F0) (newSt i self inc floor) [] X ∧ X.A = none) ∧ Below w.heap.size w w5 ∧ w.heap.size < w5.heap.size := by
        intro w5 hw5
        have r1 := rng_set1 (v := .int .i64 (floor + 1)) hR.rng hR.there 10 (by omega) rfl
        have t1 := World.there_setCells hR.there w.heap.size 10 [.int .i64 (floor + 1)]
        have r2 := rng_set1 (v := .int .i64 1) r1 t1 11 (by omega) rfl
        have t2 := World.there_setCells t1 w.heap.size 11 [.int .i64 1]
        have r3 := rng_set1 (v := .int .i64 floor) r2 t2 12 (by omega) rfl
        have t3 := World.there_setCells t2 w.heap.size 12 [.int .i64 floor]
        have b5 : Below w.heap.size w w5 := by rw [hw5.out]; exact ((hR.bel.setCell (Nat.le_refl _) _).setCell (Nat.le_refl _) _).setCell (Nat.le_refl _) _
        have g5 : wr.grownBy w5 (some w.heap.size) := by rw [hw5.out]; exact ((grown_cell _ _ _ _).trans (grown_cell _ _ _ _)).trans (grown_cell _ _ _ _)
        have z5 := g5.size
        have r : w5.rangeAt w.heap.size 0 (nwL i self inc S i cS (floor + 1) 1 floor V i cV) := by rw [hw5.out]; exact r3
        have th : w5.there w.heap.size 0 19 := by rw [hw5.out]; exact t3
        have oS := hR.oS.kept g5 (.inr (fun e => by have := (hR.oS.lo _ e).1; omega))
        have oV := hR.oV.kept g5 (.inr (fun e => by have := (hR.oV.lo _ e).1; omega))
        refine ⟨⟨⟨none, 0, S, cS, V, cV, none, 0⟩, ?_, rfl⟩, b5, by omega⟩
        have e1 : (newSt i self inc floor).own.set = ls := by rw [hls.out]; rfl
        have e2 : (newSt i self inc floor).own.vec = lv := by rw [hlv.out]; rfl
        refine ⟨r 0 _ rfl, r 1 _ rfl, r 2 _ rfl, r 3 _ rfl, r 4 _ rfl, r 5 _ rfl, r 6 _ rfl, r 7 _ rfl, r 8 _ rfl, r 9 _ rfl, r 10 _ rfl, r 11 _ rfl, r 12 _ rfl, r 13 _ rfl, r 14 _ rfl, r 15 _ rfl, r 16 _ rfl, r 17 _ rfl, r 18 _ rfl, th, rowF_nil, ?_, ?_, owns_nil _ _ _ _ _, (fun x hx => by cases hx), new_rep _ _ _ _, List.mem_cons_self .., (fun k hk => by cases hk), (by intro e; cases e), by omega⟩
        · rw [e1]; exact RowF.ofOwns oS len_eInt (fun x hx => (List.mem_cons.1 hx).elim (fun e => by omega) (fun e => by have := hF0.out x e; omega))
        · rw [e2]; exact RowF.ofOwns oV len_eInt (fun x hx => (List.mem_cons.1 hx).elim (fun e => by omega) (fun e => by have := hF0.out x e; omega))
      replace hfin := Lib.hid hfin
      replace hR := Lib.hid hR
      go_wp2
      go_ret2
      obtain ⟨y1, y2, y3⟩ := hfin.out _ (Lib.hid rfl)
      exact ⟨rfl, y1, y2, y3⟩
end Go.Proofs.Ytfbeggdbjpmppaa
/- The law's small words: ints, sameID, num, fresh, intact, spoil. -/
namespace Go.Proofs.Ytfbeggdbjpmppaa
open Go.RowKit
set_option maxRecDepth 100000 in
set_option maxHeartbeats 1000000 in
theorem lints_any (A B : Option Addr) (cA cB N : Nat) (l m : List Int) (w : World) (hN : N ≤ w.heap.size) (hA : RowAt w N 1 eInt A l) (hB : RowAt w N 1 eInt B m) (hl : l.length ≤ 9223372036854775807) (hm : m.length ≤ 9223372036854775807) :
    Calls Try.prog 23 #[.slice A l.length cA, .slice B m.length cB] w fun x w' => x = .returned (.bool (decide (l = m))) ∧ Below w.heap.size w w' := by
  by_cases he : l.length = m.length
  · have e1 : ((l.length : Int) != (m.length : Int)) = false := by simp [he]
    have he' := he
    replace he := Lib.hid he
    clear he'
    go_enter Try.func23, Try.ntmps23
    go_wp2
    go_loopw [5] (fun k wr => ∃ q : Nat, k = .int .i64 q ∧ q ≤ l.length ∧ agree l m q ∧ Below w.heap.size w wr) (fun k _ => l.length - (intOf k).toNat)
    case atStart => exact ⟨0, rfl, by omega, agree_zero _ _, Below.refl _ _⟩
    case round =>
      obtain ⟨q, rfl, hq, hag, hb⟩ := hrel
      have hsz := hb.size
      replace hag := Lib.hid hag
      by_cases hlt : q < l.length
      · obtain ⟨g, o, x, hAe, hg, hx, c0⟩ := (hA.below hb hN).int hlt
        obtain ⟨g', o', x', hBe, hg', hx', d0⟩ := (hB.below hb hN).int (show q < m.length by rw [← he.out]; exact hlt)
        have hlt' : q < m.length := by rw [← he.out]; exact hlt
        by_cases hxx : x = x'
        · have e2 : (x != x') = false := by simp [hxx]
          have hag' := Lib.hid (agree_succ hag.out (by rw [hx.out, hx'.out, hxx]))
          replace hxx := Lib.hid hxx
          rw [hAe, hBe]
          go_wp2
          go_quiet (fail)
          go_wp2
          go_roundw
          case rel => go_light; exact ⟨q + 1, by go_num, by omega, hag'.out, below_drewN hb _⟩
          case measure => go_light; simp [intOf]; omega
        · have e2 : (x != x') = true := by simp [hxx]
          have hno := Lib.hid (show decide (l = m) = false from decide_eq_false (fun e => by subst e; have := hx.out.symm.trans hx'.out; injection this with this; exact hxx this))
          replace hxx := Lib.hid hxx
          rw [hAe, hBe]
          go_wp2
          go_quiet (fail)
          go_wp2
          go_ret
          exact ⟨ret_bool hno.out.symm, below_drewN hb _⟩
      · obtain rfl : q = l.length := by omega
        have hyes := Lib.hid (show decide (l = m) = true from decide_eq_true (agree_all hag.out rfl he.out.symm))
        go_wp2
        go_ret
        exact ⟨ret_bool hyes.out.symm, hb⟩
  · have e1 : ((l.length : Int) != (m.length : Int)) = true := by simp; omega
    have hno := Lib.hid (show decide (l = m) = false from decide_eq_false (fun e => he (by rw [e])))
    replace he := Lib.hid he
    go_enter Try.func23, Try.ntmps23
    go_wp2
    go_ret
    exact ⟨ret_bool hno.out.symm, Below.refl _ _⟩
set_option maxRecDepth 100000 in
set_option maxHeartbeats 1000000 in
theorem lsame_any (x y : Vid) (w : World) : Calls Try.prog 29 #[.agg (vidC x), .agg (vidC y)] w fun r w' => r = .returned (.bool (vidEq x y)) ∧ Below w.heap.size w w' := by
  have hb := Lib.hid (below_box2 w (vidC x) 29 (vidC y) 29)
  have key : ∀ (p q r t : Bool), (x.e == y.e) = p → (x.l == y.l) = q → (x.i == y.i) = r → (x.c == y.c) = t → vidEq x y = (p && q && r && t) := by
    intro p q r t h1 h2 h3 h4
    subst h1 h2 h3 h4
    unfold vidEq
    rw [Bool.eq_iff_iff]
    simp only [decide_eq_true_eq, Bool.and_eq_true, beq_iff_eq]
    constructor
    · rintro rfl; exact ⟨⟨⟨rfl, rfl⟩, rfl⟩, rfl⟩
    · rintro ⟨⟨⟨h1, h2⟩, h3⟩, h4⟩; cases x; cases y; simp_all
  cases h1 : (x.e == y.e) with
  | false =>
    have k := Lib.hid (key _ _ _ _ h1 rfl rfl rfl)
    clear key
    go_enter Try.func29, Try.ntmps29
    go_wp2
    go_ret
    exact ⟨ret_bool (by rw [k.out]; rfl), hb.out⟩
  | true =>
    cases h2 : (x.l == y.l) with
    | false =>
      have k := Lib.hid (key _ _ _ _ h1 h2 rfl rfl)
      clear key
      go_enter Try.func29, Try.ntmps29
      go_wp2
      go_ret
      exact ⟨ret_bool (by rw [k.out]; rfl), hb.out⟩
    | true =>
      cases h3 : (x.i == y.i) with
      | false =>
        have k := Lib.hid (key _ _ _ _ h1 h2 h3 rfl)
        clear key
        go_enter Try.func29, Try.ntmps29
        go_wp2
        go_ret
        exact ⟨ret_bool (by rw [k.out]; rfl), hb.out⟩
      | true =>
        have k := Lib.hid (key _ _ _ _ h1 h2 h3 rfl)
        clear key
        go_enter Try.func29, Try.ntmps29
        go_wp2
        go_ret
        exact ⟨ret_bool (by rw [k.out]; rfl), hb.out⟩
theorem lints_two (A B : Option Addr) (cA cB N : Nat) (l m : List Int) (k n : Nat) (w : World) (hk : l.length = k) (hm : m.length = n) (hN : N ≤ w.heap.size) (hA : RowAt w N 1 eInt A l) (hB : RowAt w N 1 eInt B m) (hl : k ≤ 9223372036854775807) (hn : n ≤ 9223372036854775807) :
    Calls Try.prog 23 #[.slice A k cA, .slice B n cB] w fun x w' => x = .returned (.bool (decide (l = m))) ∧ Below w.heap.size w w' := by
  subst hk hm
  exact lints_any A B cA cB N l m w hN hA hB hl hn
theorem num_any (e : Int) (w : World) : Calls Try.prog 48 #[.int .i64 e] w fun x w' => x = .returned (.int .i64 e) ∧ w = w' := by
  go_enter Try.func48, Try.ntmps48
  go_wp2
  go_ret
  exact ⟨rfl, rfl⟩
/-- The marks of the spare room. -/
def marks (i : Nat) : List Int := (List.range i).map fun j : Nat => 77 + (j : Int)
theorem len_marks (i : Nat) : (marks i).length = i := by simp [marks]
theorem marks_succ (i : Nat) : marks (i + 1) = marks i ++ [77 + (i : Int)] := by simp [marks, List.range_succ]
theorem marks_at {l : List Int} {n i j : Nat} (hl : l.length = n) (hi : i < j) : (l ++ marks j)[n + i]? = some (77 + (i : Int)) := by
  rw [List.getElem?_append_right (by omega), hl, Nat.add_sub_cancel_left]
  unfold marks
  rw [List.getElem?_map, List.getElem?_range hi]; rfl
/-- What fresh answers. -/
def FrPost (w : World) (n : Nat) (l : List Int) (x : Ending) (w' : World) : Prop :=
  ∃ g c, x = .returned (.slice (some ⟨g, 0, none⟩) n c) ∧ Owns w' w.heap.size 3 1 eInt (some ⟨g, 0, none⟩) c (l ++ marks 64) ∧ Below w.heap.size w w'
set_option maxRecDepth 100000 in
set_option maxHeartbeats 1000000 in
theorem fresh_any (A : Option Addr) (cA N n : Nat) (l : List Int) (w : World) (hl : l.length = n) (hN : N ≤ w.heap.size) (hA : RowAt w N 1 eInt A l) (hn : n ≤ 2000000) :
    Calls Try.prog 57 #[.slice A n cA] w (FrPost w n l) := by
  have hl' := Lib.hid hl
  clear hl
  go_enter Try.func57, Try.ntmps57
  go_wp2_with (first
    | (refine wpList_append_rows _ rfl (.tmp 5) (.tmp 6) 27 rfl w.heap.size 3 1 8 (.int .i64 0) Try.underlying27 info3 (by rfl) (by omega) eInt len_eInt one_eInt none 0 [] A cA N 0 n l (by rfl) (by rfl) rfl hl'.out (owns_nil _ _ _ _ _) hA (by omega) (by omega) (by exact Nat.le_refl _) ?_
       intro A1 c1 w1 ho1 hg1 hA1
       rw [List.nil_append] at ho1
       rw [Nat.zero_add]
       have b1 : Below w.heap.size w w1 := (Below.refl _ _).grown hg1 (Nat.le_refl _) (fun k hk => by cases hk)
       replace ho1 := Lib.hid ho1
       replace b1 := Lib.hid b1
       clear hg1 hA1)
    | fail)
  go_loopw [3, 4] (fun v k wr => ∃ i B c, k = .int .i64 ((i : Nat) : Int) ∧ i ≤ 64 ∧ v = .slice B (n + i) c ∧ Owns wr w.heap.size 3 1 eInt B c (l ++ marks i) ∧ Below w.heap.size w wr) (fun _ k _ => 64 - (intOf k).toNat)
  case atStart => exact ⟨0, A1, c1, rfl, by omega, rfl, by show Owns w1 _ 3 1 eInt A1 c1 (l ++ []); rw [List.append_nil]; exact ho1.out, b1.out⟩
  case round =>
    obtain ⟨i, B, c, rfl, hi, rfl, ho, hb⟩ := hrel
    have hz := hb.size
    have hlo := ho.lo
    have hll : (l ++ marks i).length = n + i := by rw [List.length_append, hl'.out, len_marks]
    by_cases hlt : i < 64
    · have hms := Lib.hid (show l ++ marks i ++ [77 + (i : Int)] = l ++ marks (i + 1) by rw [marks_succ, List.append_assoc])
      have ho9 := ho.alloc (.cells #[.int .i64 (77 + (i : Int))] 3)
      have hrow9 := row_new wr 3 1 eInt (77 + (i : Int)) #[.int .i64 (77 + (i : Int))] rfl
      have hb9 : Below w.heap.size w (wr.alloc (.cells #[.int .i64 (77 + (i : Int))] 3)) := hb.alloc hz _
      replace ho9 := Lib.hid ho9
      replace hrow9 := Lib.hid hrow9
      replace hb9 := Lib.hid hb9
      replace hlo := Lib.hid hlo
      replace ho := Lib.hid ho
      go_wp2_with (first
        | (refine wpList_append_rows _ rfl (.tmp 12) (.tmp 15) 27 rfl w.heap.size 3 1 8 (.int .i64 0) Try.underlying27 info3 (by rfl) (by omega) eInt len_eInt one_eInt B c (l ++ marks i) (some ⟨wr.heap.size, 0, none⟩) 1 (wr.heap.size + 1) (n + i) 1 [77 + (i : Int)] (by rfl) (by rfl) hll rfl ho9.out hrow9.out (by omega) (by omega) (by rw [World.size_alloc]; omega) ?_
           intro B' c' w2 ho2 hg2 hB2
           rw [hms.out] at ho2
           have b2 : Below w.heap.size w w2 := hb9.out.grown hg2 (by rw [World.size_alloc]; omega) (fun k hk => (hlo.out k hk).1)
           replace ho2 := Lib.hid ho2
           replace b2 := Lib.hid b2
           clear hg2 hB2)
        | fail)
      go_roundw
      case rel => go_light; exact ⟨i + 1, B', c', by go_num, by omega, rfl, ho2.out, b2.out⟩
      case measure => go_light; simp [intOf]; omega
    · obtain rfl : i = 64 := by omega
      have hpos : 0 < (l ++ marks 64).length := by rw [hll]; omega
      obtain ⟨g, cap, hv, -, -⟩ := World.ownsRow.form ho hpos
      have hB : B = some ⟨g, 0, none⟩ := by injection hv
      subst hB
      obtain ⟨hc1, hc2⟩ := ho.len
      rw [hll] at hc1
      replace ho := Lib.hid ho
      replace hlo := Lib.hid hlo
      replace hll := Lib.hid hll
      clear hv
      go_wp2
      go_ret
      exact ⟨g, c, rfl, ho.out, hb⟩
set_option maxRecDepth 100000 in
set_option maxHeartbeats 1000000 in
theorem intact_any (g c : Nat) (A : Option Addr) (cA N n : Nat) (l : List Int) (w : World) (hl : l.length = n) (hN : N ≤ w.heap.size) (hG : RowAt w N 1 eInt (some ⟨g, 0, none⟩) (l ++ marks 64)) (hA : RowAt w N 1 eInt A l) (hn : n ≤ 2000000) (hc1 : n + 64 ≤ c) (hc2 : c ≤ 9223372036854775807) :
    Calls Try.prog 59 #[.slice (some ⟨g, 0, none⟩) n c, .slice A n cA] w fun x w' => x = .returned (.bool true) ∧ Below w.heap.size w w' := by
  have hGl : RowAt w N 1 eInt (some ⟨g, 0, none⟩) l := fun h0 => by
    obtain ⟨b, off, e, hb, hc⟩ := hG (by rw [List.length_append]; omega)
    refine ⟨b, off, e, hb, fun k x hx j u hu => hc k x ?_ j u hu⟩
    rw [List.getElem?_append_left (List.getElem?_eq_some_iff.1 hx).1]; exact hx
  have hcell : ∀ i, i < 64 → ∀ W, Below w.heap.size w W → W.cell? ⟨g, n + i, none⟩ = some (.int .i64 (77 + (i : Int))) := fun i hi W hW => by
    obtain ⟨b, off, e, hb, hc⟩ := (hG.below hW hN) (by rw [List.length_append, len_marks]; omega)
    injection e with e; injection e with e1 e2; subst e1 e2
    have := hc (n + i) _ (marks_at hl hi) 0 _ rfl
    simpa using this
  replace hcell := Lib.hid hcell
  replace hGl := Lib.hid hGl
  have hl' := Lib.hid hl
  clear hl hG
  go_enter Try.func59, Try.ntmps59
  go_wp2
  go_loopw [6] (fun k wr => ∃ i : Nat, k = .int .i64 (i : Int) ∧ i ≤ 64 ∧ Below w.heap.size w wr) (fun k _ => 64 - (intOf k).toNat)
  case atStart => exact ⟨0, rfl, by omega, Below.refl _ _⟩
  case round =>
    obtain ⟨i, rfl, hi, hb⟩ := hrel
    by_cases hlt : i < 64
    · have cc := hcell.out i hlt wr hb
      go_wp2
      go_roundw
      case rel => go_light; exact ⟨i + 1, by go_num, by omega, hb⟩
      case measure => go_light; simp [intOf]; omega
    · obtain rfl : i = 64 := by omega
      have hz := hb.size
      go_wp2_with (first
        | (go_at_call 23
           refine (lints_two (some ⟨g, 0, none⟩) A c cA N l l n n wr hl'.out hl'.out (by omega) (hGl.out.below hb hN) (hA.below hb hN) (by omega) (by omega)).mono ?_
           rintro e w1 ⟨rfl, hb1⟩)
        | fail)
      go_ret
      exact ⟨ret_bool (by simp), hb.trans (hb1.mono hz)⟩
set_option maxRecDepth 100000 in
set_option maxHeartbeats 1000000 in
theorem spoil_any (g n c m : Nat) (w : World) (ht : w.there g 0 m) (hn : n ≤ m) (hn2 : n ≤ 2000000) :
    Calls Try.prog 60 #[.slice (some ⟨g, 0, none⟩) n c] w fun x w' => x = .returned (.tuple #[]) ∧ w.grownBy w' (some g) := by
  have ht' := Lib.hid ht
  clear ht
  go_enter Try.func60, Try.ntmps60
  go_wp2
  go_loopw [2] (fun k wr => ∃ i : Nat, k = .int .i64 (i : Int) ∧ i ≤ n ∧ w.grownBy wr (some g) ∧ wr.there g 0 m) (fun k _ => n - (intOf k).toNat)
  case atStart => exact ⟨0, rfl, by omega, World.grownBy.refl _ _, ht'.out⟩
  case round =>
    obtain ⟨i, rfl, hi, hg, ht⟩ := hrel
    by_cases hlt : i < n
    · obtain ⟨h1, h2⟩ := ht i (by omega)
      rw [Nat.zero_add] at h1 h2
      obtain ⟨u, hu⟩ := Option.isSome_iff_exists.1 h1
      have hg2 := hg.trans (grown_cell wr g i (.int .i64 5))
      have ht2 : (wr.setCell ⟨g, i, none⟩ (.int .i64 5)).there g 0 m := World.there_setCells ht g i [.int .i64 5]
      replace hg := Lib.hid hg
      replace ht := Lib.hid ht
      replace hg2 := Lib.hid hg2
      replace ht2 := Lib.hid ht2
      clear h1
      go_wp2
      go_roundw
      case rel => go_light; exact ⟨i + 1, by go_num, by omega, hg2.out, ht2.out⟩
      case measure => go_light; simp [intOf]; omega
    · obtain rfl : i = n := by omega
      replace ht := Lib.hid ht
      go_wp2
      go_end0
      exact ⟨rfl, hg⟩
end Go.Proofs.Ytfbeggdbjpmppaa
/- The law's copied, proposals, views; the document's View. -/
namespace Go.Proofs.Ytfbeggdbjpmppaa
open Go.RowKit
theorem build31 (w : World) (cid rev top e l k c : Int) (S V : Option Addr) (n cS m cV : Nat) : (Instr.build 31 #[(0, .slice S n cS), (1, .int .i64 cid), (2, .int .i64 rev), (3, .int .i64 top), (4, .agg #[.int .i64 e, .int .i64 l, .int .i64 k, .int .i64 c]), (5, .slice V m cV)]).run Try.prog w = .ok (.agg #[.slice S n cS, .int .i64 cid, .int .i64 rev, .int .i64 top, .int .i64 e, .int .i64 l, .int .i64 k, .int .i64 c, .slice V m cV]) w := by kernel_rfl
section
variable {ops : Array Oper} {S : World → Prop} {Q : Act → Prop} {a : Act} {o : Oper} {rest : List Oper}
theorem wpQuiet_build31 (hw : Region.wanted o (yielded ops a.tmps) = true) (x0 x1 x2 x3 x4 x5 : Operand) (ho : o.op = .build 31 #[(0, x0), (1, x1), (2, x2), (3, x3), (4, x4), (5, x5)]) (p : Pr) (A V : Option Addr) (n cA m cV : Nat) (h0 : a.eval x0 = .slice A n cA) (h1 : a.eval x1 = .int .i64 p.cid) (h2 : a.eval x2 = .int .i64 p.rev) (h3 : a.eval x3 = .int .i64 p.top) (h4 : a.eval x4 = .agg (vidC p.prev)) (h5 : a.eval x5 = .slice V m cV)
    (h : wpQuiet Try.prog ops S Q rest (a.put o.dst (.agg (prV A n cA V m cV p)))) : wpQuiet Try.prog ops S Q (o :: rest) a := by
  refine wpQuiet_step fun K hK => ?_
  rw [if_pos hw]
  refine ⟨_, ?_, hK _ h⟩
  intro w' hw'
  unfold Oper.quietAt execOp
  simp only [ho, List.map_toArray, List.map_cons, List.map_nil, h0, h1, h2, h3, h4, h5, Sem.run_bind, build31 w', Result.andThen_ok, Sem.run_pure]
  exact ⟨rfl, rfl⟩
end
theorem wp_store31v {o : Oper} {a : Act} {w : World} {K : Act → World → Prop} {Q : Exit → Act → World → Prop} (x y : Operand) (ho : o.op = .store 31 x y) (hd : o.dst = none) (b off : Nat) (hx : a.eval x = .pointer (some ⟨b, off, none⟩)) (S : Option Addr) (nS cS : Nat) (V : Option Addr) (nV cV : Nat) (p : Pr) (hy : a.eval y = .agg (prV S nS cS V nV cV p))
    (ht : w.there b off 9) (h : ∀ w', Hid (w' = w.setCells b off (prV S nS cS V nV cV p).toList) → K a w') : o.wp Try.prog a w K Q :=
  wp_store_mid 31 x y ho b off (prV S nS cS V nV cV p) hx hy ht (by rw [size31]; rfl) (one_prV _ _ _ _ _ _ _) (by rw [hd]; exact h _ (Lib.hid rfl))
/-- What copied answers. -/
def CpPost (w : World) (p : Pr) (n m : Nat) (ls lv : List Int) (x : Ending) (w' : World) : Prop :=
  ∃ g c h d, x = .returned (.agg (prV (some ⟨g, 0, none⟩) n c (some ⟨h, 0, none⟩) m d p)) ∧ Owns w' w.heap.size 3 1 eInt (some ⟨g, 0, none⟩) c (ls ++ marks 64) ∧ Owns w' w.heap.size 3 1 eInt (some ⟨h, 0, none⟩) d (lv ++ marks 64) ∧ g ≠ h ∧ Below w.heap.size w w'
theorem Owns.base {α : Type} {w : World} {base base' sz c : Nat} {e : TypeId} {enc : α → List Value} {A : Option Addr} {l : List α} (h : Owns w base e sz enc A c l) (hb : base' ≤ base) : Owns w base' e sz enc A c l := by
  refine ⟨h.1, ?_⟩
  rcases h.2 with h2 | ⟨g, cap, cur, hv, hbase, hr⟩
  · exact .inl h2
  · exact .inr ⟨g, cap, cur, hv, by omega, hr⟩
set_option maxRecDepth 100000 in
set_option maxHeartbeats 2000000 in
theorem copied_any (S : Option Addr) (cS : Nat) (V : Option Addr) (cV N n m : Nat) (p : Pr) (ls lv : List Int) (w : World) (hn : ls.length = n) (hm : lv.length = m) (hN : N ≤ w.heap.size) (hS : RowAt w N 1 eInt S ls) (hV : RowAt w N 1 eInt V lv) (l1 : n ≤ 2000000) (l2 : m ≤ 2000000) :
    Calls Try.prog 41 #[.agg (prV S n cS V m cV p)] w (CpPost w p n m ls lv) := by
  obtain ⟨w2, hw2⟩ : ∃ w2, w2 = (w.alloc (.cells (prV S n cS V m cV p) 31)).alloc (.cells prZ 31) := ⟨_, rfl⟩
  have hb2 : Below w.heap.size w w2 := by rw [hw2]; exact below_box2 _ _ _ _ _
  have z2 : w2.heap.size = w.heap.size + 2 := by rw [hw2]; simp
  have t2 : w2.there (w.heap.size + 1) 0 9 := by
    have := there_new (w.alloc (.cells (prV S n cS V m cV p) 31)) prZ 31
    rw [← hw2] at this; simpa using this
  have v2 : PVar w2 w.heap.size S n cS V m cV p := by rw [hw2]; exact (PVar.new w S n cS V m cV p 31).same (heap_alloc_old _ _ (by simp))
  have hx : ∀ W, Below w.heap.size w W → RowAt W N 1 eInt S ls ∧ RowAt W N 1 eInt V lv ∧ N ≤ W.heap.size := fun W hW => ⟨hS.below hW hN, hV.below hW hN, Nat.le_trans hN hW.size⟩
  have hS0 : PVar w2.drew w.heap.size S n cS V m cV p := v2.same rfl
  have hC : ∀ x' : Prop, (∀ W, PVar W w.heap.size S n cS V m cV p → x') ↔ x' := fun x' => ⟨fun f => f _ hS0, fun f _ _ => f⟩
  have L4 : ∀ W, PVar W w.heap.size S n cS V m cV p → (loadVar 27 ⟨w.heap.size, 0, none⟩).run Try.prog W = .ok (.slice S n cS) W := fun W hW => load27 hW.c0
  have L7 : ∀ W, PVar W w.heap.size S n cS V m cV p → (loadVar 3 ⟨w.heap.size, 1, none⟩).run Try.prog W = .ok (.int .i64 p.cid) W := fun W hW => load3 hW.c1
  have L9 : ∀ W, PVar W w.heap.size S n cS V m cV p → (loadVar 3 ⟨w.heap.size, 2, none⟩).run Try.prog W = .ok (.int .i64 p.rev) W := fun W hW => load3 hW.c2
  have L11 : ∀ W, PVar W w.heap.size S n cS V m cV p → (loadVar 3 ⟨w.heap.size, 3, none⟩).run Try.prog W = .ok (.int .i64 p.top) W := fun W hW => load3 hW.c3
  have L13 : ∀ W, PVar W w.heap.size S n cS V m cV p → (loadVar 29 ⟨w.heap.size, 4, none⟩).run Try.prog W = .ok (.agg (vidC p.prev)) W := fun W hW => load29 hW.c4 hW.c5 hW.c6 hW.c7
  have L15 : ∀ W, PVar W w.heap.size S n cS V m cV p → (loadVar 27 ⟨w.heap.size, 8, none⟩).run Try.prog W = .ok (.slice V m cV) W := fun W hW => load27 hW.c8
  replace L4 := Lib.hid L4
  replace L7 := Lib.hid L7
  replace L9 := Lib.hid L9
  replace L11 := Lib.hid L11
  replace L13 := Lib.hid L13
  replace L15 := Lib.hid L15
  replace hS0 := Lib.hid hS0
  replace hx := Lib.hid hx
  replace v2 := Lib.hid v2
  replace t2 := Lib.hid t2
  replace hw2 := Lib.hid hw2
  replace hb2 := Lib.hid hb2
  replace hn := Lib.hid hn
  replace hm := Lib.hid hm
  clear hS hV
  go_enter Try.func41, Try.ntmps41
  go_wp2_with fail
  rw [← hw2.out]
  refine wp_region_ord [([0, 1, 3, 4, 5, 6, 7, 8, 9, 10, 11, 12], 2), ([], 13), ([14], 15)] [] (fun W => PVar W w.heap.size S n cS V m cV p) rfl (by kernel_rfl) rfl hS0.out ?_
  refine WO.seg rfl ?_ hS0.out
  simp only [picks, pick, List.cons_append, List.nil_append, List.append_nil]
  repeat (first
    | go_big_quiet_skip
    | (refine wpQuiet_loadC (by rfl) 27 (.tmp 3) rfl w.heap.size 0 (by rfl) _ L4.out ?_; simp only [Act.put, List.setIfInBounds_toArray, List.set_cons_zero, List.set_cons_succ])
    | (refine wpQuiet_loadC (by rfl) 3 (.tmp 6) rfl w.heap.size 1 (by rfl) _ L7.out ?_; simp only [Act.put, List.setIfInBounds_toArray, List.set_cons_zero, List.set_cons_succ])
    | (refine wpQuiet_loadC (by rfl) 3 (.tmp 8) rfl w.heap.size 2 (by rfl) _ L9.out ?_; simp only [Act.put, List.setIfInBounds_toArray, List.set_cons_zero, List.set_cons_succ])
    | (refine wpQuiet_loadC (by rfl) 3 (.tmp 10) rfl w.heap.size 3 (by rfl) _ L11.out ?_; simp only [Act.put, List.setIfInBounds_toArray, List.set_cons_zero, List.set_cons_succ])
    | (refine wpQuiet_loadC (by rfl) 29 (.tmp 12) rfl w.heap.size 4 (by rfl) _ L13.out ?_; simp only [Act.put, List.setIfInBounds_toArray, List.set_cons_zero, List.set_cons_succ])
    | (refine wpQuiet_loadC (by rfl) 27 (.tmp 14) rfl w.heap.size 8 (by rfl) _ L15.out ?_; simp only [Act.put, List.setIfInBounds_toArray, List.set_cons_zero, List.set_cons_succ])
    | go_big_quiet_step (fail))
  refine wpQuiet_nil ?_
  intro K hK
  go_simp
  go_at_call 57
  refine (fresh_any S cS N n ls w2.drew hn.out (hx.out _ (Below.drew hb2.out)).2.2 (hx.out _ (Below.drew hb2.out)).1 l1).mono ?_
  rintro e w3 ⟨g, c, rfl, ho3, hb3⟩
  have b23 : Below w2.heap.size w2 w3 := (Below.drew (Below.refl _ _)).trans hb3
  have z3 := b23.size
  have b3 := hb2.out.trans (b23.mono (by omega))
  have v3 := v2.out.same (b23.block _ (by omega))
  have t3 := there_below t2.out b23 (by omega)
  have lo3 := ho3.lo
  replace ho3 := Lib.hid ho3
  replace lo3 := Lib.hid lo3
  replace b3 := Lib.hid b3
  replace v3 := Lib.hid v3
  replace t3 := Lib.hid t3
  clear b23 hb3
  go_wp2_with fail
  refine hK.out _ _ v3.out ?_
  clear hK K
  refine WO.seg rfl ?_ v3.out
  simp only [picks]
  refine wpQuiet_nil ?_
  intro K hK
  go_simp
  go_at_call 57
  refine (fresh_any V cV N m lv w3 hm.out (hx.out _ b3.out).2.2 (hx.out _ b3.out).2.1 l2).mono ?_
  rintro e w4 ⟨h, d, rfl, ho4, hb4⟩
  have z4 := hb4.size
  have b4 := b3.out.trans (hb4.mono (by omega))
  have v4 := v3.out.same (hb4.block _ (by omega))
  have t4 := there_below t3.out hb4 (by omega)
  have ho34 := ho3.out.keep hb4 (fun k hk => (lo3.out k hk).2)
  have hgh : g ≠ h := fun e => by
    have h1 := (lo3.out g rfl).2
    have h2 := (ho4.lo h rfl).1
    omega
  replace ho34 := Lib.hid ho34
  replace ho4 := Lib.hid ho4
  replace b4 := Lib.hid b4
  replace v4 := Lib.hid v4
  replace t4 := Lib.hid t4
  clear hb4
  go_wp2_with fail
  refine hK.out _ _ v4.out ?_
  clear hK K
  refine WO.seg rfl ?_ v4.out
  simp only [picks, pick, List.cons_append, List.nil_append, List.append_nil]
  repeat (first
    | go_big_quiet_skip
    | (refine wpQuiet_build31 (by rfl) (.tmp 5) (.tmp 7) (.tmp 9) (.tmp 11) (.tmp 13) (.tmp 16) rfl p (some ⟨g, 0, none⟩) (some ⟨h, 0, none⟩) n c m d (by rfl) (by rfl) (by rfl) (by rfl) (by rfl) (by rfl) ?_; simp only [Act.put, List.setIfInBounds_toArray, List.set_cons_zero, List.set_cons_succ])
    | go_big_quiet_step (fail))
  refine wpQuiet_nil ?_
  intro K hK
  rw [if_pos (by rfl)]
  refine wp_store31v (.tmp 2) (.tmp 17) rfl rfl (w.heap.size + 1) 0 (by rfl) (some ⟨g, 0, none⟩) n c (some ⟨h, 0, none⟩) m d p (by rfl) t4.out ?_
  intro w5 hw5
  have g5 : w4.grownBy w5 (some (w.heap.size + 1)) := by rw [hw5.out]; exact grown_sets _ _ _ _
  have v5 := v4.out.same (g5.block w.heap.size (by omega) (by intro e; injection e with e; omega))
  refine hK.out _ _ v5 ?_
  clear hK K
  refine WO.end_ ?_
  simp only [picks]
  refine wpQuiet_nil ?_
  clear hC
  have p5 : PVar w5 (w.heap.size + 1) (some ⟨g, 0, none⟩) n c (some ⟨h, 0, none⟩) m d p := by rw [hw5.out]; exact PVar.put t4.out
  have b5 : Below w.heap.size w w5 := b4.out.grown g5 (by omega) (by intro k hk; injection hk with hk; omega)
  have o5 := ho34.out.kept g5 (.inr (by intro e; have := (ho34.out.lo _ e).1; have : w2.drew.heap.size = w2.heap.size := rfl; omega))
  have o6 := ho4.out.kept g5 (.inr (by intro e; have := (ho4.out.lo _ e).1; omega))
  go_wp2
  exact bodyPost_ret (res_cell (p := 2) (ty := 31) rfl rfl p5.load) rfl ⟨g, c, h, d, rfl, o5.base (by show w.heap.size ≤ w2.heap.size; omega), o6.base (by omega), hgh, b5⟩
set_option maxRecDepth 100000 in
set_option maxHeartbeats 1000000 in
theorem rview65_any (b : Nat) (F : List Nat) (s : St) (hs : List HdR) (X : Ptrs) (w : World) (h : RefAt w b F s hs X) (hR : RInv s) :
    Calls Try.prog 65 #[.pointer (some ⟨b, 0, none⟩)] w (VwPost w s.vid s.mem) := by
  obtain ⟨w1, hw1⟩ : ∃ w1, w1 = w.alloc (.cells (viewA Vid.zero none 0 0) 46) := ⟨_, rfl⟩
  have b1 : Below w.heap.size w w1 := by rw [hw1]; exact below_box1 _ _ _
  have z1 : w1.heap.size = w.heap.size + 1 := by rw [hw1]; simp
  have t1 : w1.there w.heap.size 0 5 := by rw [hw1]; exact there_new w (viewA Vid.zero none 0 0) 46
  have h1 := h.below b1
  have hld : (loadVar 46 ⟨b, 3, none⟩).run Try.prog w1 = .ok (.agg (viewA s.vid X.M s.mem.length X.cM)) w1 := by
    have c0 := h1.ve
    have c1 := h1.vl
    have c2 := h1.vi
    have c3 := h1.vc
    have c4 := h1.mem
    clear h1 h hw1
    go_simp
  have rM := h1.rmem.row
  replace rM := Lib.hid rM
  replace hld := Lib.hid hld
  replace h1 := Lib.hid h1
  replace hw1 := Lib.hid hw1
  replace t1 := Lib.hid t1
  replace h := Lib.hid h
  go_enter Try.func65, Try.ntmps65
  go_wp2_with (first
    | (rw [← hw1.out]
       refine wpList_loadR rfl 46 (.tmp 5) rfl b 3 (by rfl) _ (by exact hld.out) ?_)
    | (go_at_call 80
       refine (rview_any s.vid X.M X.cM w1.heap.size s.mem w1 (Nat.le_refl _) rM.out hR.len).mono ?_
       rintro e w2 ⟨A, c, rfl, rA, hb2⟩
       have z2 := hb2.size
       have t2 := there_below t1.out hb2 (by omega)
       replace rA := Lib.hid rA
       replace t2 := Lib.hid t2
       replace hb2 := Lib.hid hb2)
    | (refine wpList_store46 rfl (.tmp 2) (.tmp 7) rfl w.heap.size 0 (by rfl) s.vid A s.mem.length c (by rfl) t2.out ?_
       intro w3 hw3)
    | fail)
  have g3 : w2.grownBy w3 (some w.heap.size) := by rw [hw3.out]; exact grown_sets _ _ _ _
  have v3 : ViAt w3 w.heap.size s.vid A s.mem.length c := by rw [hw3.out]; exact viAt_put (w := w2) (v := s.vid) (A := A) (n := s.mem.length) (c := c) t2.out
  have b3 : Below w.heap.size w w3 := (b1.trans (hb2.out.mono (by omega))).grown g3 (by omega) (by intro k hk; injection hk with hk; omega)
  exact bodyPost_ret (res_cell (p := 2) (ty := 46) rfl rfl v3.load) rfl ⟨A, c, rfl, (rA.out.grown g3 (by omega)).low (by omega), b3⟩
end Go.Proofs.Ytfbeggdbjpmppaa
