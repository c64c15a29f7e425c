/- Agreed RLate, joined. -/
import Derived.Test.YtfbeggdbjpmppaaMg6
set_option linter.unusedVariables false
set_option linter.unusedSimpArgs false
namespace Go.Proofs.Ytfbeggdbjpmppaa
open Go.RowKit
theorem load44 {w : World} {b o n c : Nat} {A : Option Addr} (h : w.cell? ⟨b, o, none⟩ = some (.slice A n c)) : (loadVar 44 ⟨b, o, none⟩).run Try.prog w = .ok (.slice A n c) w := by go_simp
theorem len_eInt (x : Int) : (eInt x).length = 1 := rfl
theorem one_eInt (x : Int) : ∀ u ∈ eInt x, u.oneCell' = true := by intro u hu; simp [eInt] at hu; subst hu; rfl
structure AgR (w0 : World) (b : Nat) (s : St) (M : Option Addr) (cM : Nat) (ms : List Mb) (A : Option Addr) (c : Nat) (ts : List Int) (T : Option Addr) (cT : Nat) (w : World) : Prop where
  at_ : AgAt w b s M cM
  out : w.there w0.heap.size 0 5
  vi : ViAt w (w0.heap.size + 1) Vid.zero A ms.length c
  own : Owns w (w0.heap.size + 2) 43 3 eMb A c ms
  tr : Owns w (w0.heap.size + 2) 3 1 eInt T cT ts
  bel : Below w0.heap.size w0 w
  lt : w0.heap.size + 2 ≤ w.heap.size
section
variable {w0 w w' w'' : World} {b : Nat} {s : St} {M : Option Addr} {cM : Nat} {ms : List Mb} {A : Option Addr} {c : Nat} {ts : List Int} {T : Option Addr} {cT : Nat}
theorem AgR.below (h : AgR w0 b s M cM ms A c ts T cT w) (hb : b < w0.heap.size) (hw : Below w.heap.size w w') : AgR w0 b s M cM ms A c ts T cT w' := by
  have hl := h.lt
  exact ⟨h.at_.same (hw.block b (by omega)), there_below h.out hw (by omega), h.vi.same (hw.block _ (by omega)), h.own.keep hw (fun k hk => (h.own.lo k hk).2), h.tr.keep hw (fun k hk => (h.tr.lo k hk).2), h.bel.trans (hw.mono (by omega)), Nat.le_trans hl hw.size⟩
theorem AgR.push (h : AgR w0 b s M cM ms A c ts T cT w) (hb : b < w0.heap.size) {ms' : List Mb} {A' : Option Addr} {c' : Nat} (ho : Owns w' (w0.heap.size + 2) 43 3 eMb A' c' ms') (hg : w.grownBy w' (blk A)) (hA : blk A' = blk A ∨ blk A' = some w.heap.size) :
    AgR w0 b s M cM ms' A' c' ts T cT (w'.setCells (w0.heap.size + 1) 4 [.slice A' ms'.length c']) := by
  have hl := h.lt
  have hs := hg.size
  have hno : ∀ k, k < w0.heap.size + 2 → w'.heap[k]? = w.heap[k]? := fun k hk => hg.block k (by omega) (fun e => by have := h.own.lo k e.symm; omega)
  have hg2 := grown_sets (w0.heap.size + 1) [.slice A' ms'.length c'] 4 w'
  have hno2 : ∀ k, k < w0.heap.size + 2 → k ≠ w0.heap.size + 1 → (w'.setCells (w0.heap.size + 1) 4 [.slice A' ms'.length c']).heap[k]? = w'.heap[k]? := fun k hk hk1 => hg2.block k (by omega) (fun e => hk1 (by injection e))
  refine ⟨(h.at_.same (hno b (by omega))).same (hno2 b (by omega) (by omega)), World.there_setCells (fun j hj => ?_) _ _ _, (h.vi.same (hno _ (by omega))).setM A' ms'.length c', ho.kept hg2 ?_, (h.tr.kept hg (h.tr.ne h.own (by decide))).kept hg2 ?_, ?_, by rw [size_sets]; omega⟩
  · have hc : ∀ o, w'.cell? ⟨w0.heap.size, o, none⟩ = w.cell? ⟨w0.heap.size, o, none⟩ := fun o => World.cell?_of_block (hno w0.heap.size (by omega))
    have hf : ∀ o, w'.frozen? ⟨w0.heap.size, o, none⟩ = w.frozen? ⟨w0.heap.size, o, none⟩ := fun o => World.frozen?_of_block (hno w0.heap.size (by omega))
    rw [hc, hf]; exact h.out j hj
  · right; intro e; have := (ho.lo _ e).1; omega
  · right; intro e; have := (h.tr.lo _ e).1; omega
  · refine below_sets (h.bel.grown hg (by omega) ?_) (by omega) _ _ (by omega)
    intro k hk; have := (h.own.lo k hk).1; omega
theorem AgR.tpush (h : AgR w0 b s M cM ms A c ts T cT w) (hb : b < w0.heap.size) {ts' : List Int} {T' : Option Addr} {cT' : Nat} (ho : Owns w' (w0.heap.size + 2) 3 1 eInt T' cT' ts') (hg : w.grownBy w' (blk T)) :
    AgR w0 b s M cM ms A c ts' T' cT' w' := by
  have hl := h.lt
  have hs := hg.size
  have hno : ∀ k, k < w0.heap.size + 2 → w'.heap[k]? = w.heap[k]? := fun k hk => hg.block k (by omega) (fun e => by have := h.tr.lo k e.symm; omega)
  refine ⟨h.at_.same (hno b (by omega)), fun j hj => ?_, h.vi.same (hno _ (by omega)), h.own.kept hg (h.own.ne h.tr (by decide)), ho, ?_, by omega⟩
  · have hc : ∀ o, w'.cell? ⟨w0.heap.size, o, none⟩ = w.cell? ⟨w0.heap.size, o, none⟩ := fun o => World.cell?_of_block (hno w0.heap.size (by omega))
    have hf : ∀ o, w'.frozen? ⟨w0.heap.size, o, none⟩ = w.frozen? ⟨w0.heap.size, o, none⟩ := fun o => World.frozen?_of_block (hno w0.heap.size (by omega))
    rw [hc, hf]; exact h.out j hj
  · refine h.bel.grown hg (by omega) ?_
    intro k hk; have := (h.tr.lo k hk).1; omega
end
structure AgS (b : Nat) (s : St) (M : Option Addr) (cM v : Nat) (A : Option Addr) (n c : Nat) (w : World) : Prop where
  at_ : AgAt w b s M cM
  vi : ViAt w v Vid.zero A n c
theorem AgS.same {b v n c cM : Nat} {s : St} {M A : Option Addr} {w w' : World} (h : AgS b s M cM v A n c w) (h1 : w'.heap[b]? = w.heap[b]?) (h2 : w'.heap[v]? = w.heap[v]?) : AgS b s M cM v A n c w' := ⟨h.at_.same h1, h.vi.same h2⟩
def AgPost (w : World) (s : St) (x : Ending) (w' : World) : Prop :=
  (s.agreed = none → x = .returned (.tuple #[.agg (viewA Vid.zero none 0 0), .slice none 0 0, .bool false])) ∧
  (∀ a, s.agreed = some a → ∃ A c T cT, x = .returned (.tuple #[.agg (viewA a.vid A a.mem.length c), .slice T a.trans.length cT, .bool true]) ∧ RowN w' w.heap.size 3 eMb A a.mem ∧ RowN w' w.heap.size 1 eInt T a.trans) ∧
  Below w.heap.size w w'
theorem none_post {w w' : World} {s : St} (h : s.agreed = none) (hb : Below w.heap.size w w') : AgPost w s (.returned (.tuple #[.agg (viewA Vid.zero none 0 0), .slice none 0 0, .bool false])) w' :=
  ⟨fun _ => rfl, fun a e => by rw [h] at e; (cases e), hb⟩
theorem agTo_none {s : St} {k : Nat} (h : s.agTo k = none) : ∀ {n : Nat}, k ≤ n → s.agTo n = none := by
  intro n hn
  induction n with
  | zero => obtain rfl : k = 0 := by omega
            exact h
  | succ n ih =>
    by_cases e : k = n + 1
    · subst e; exact h
    · rw [St.agTo, ih (by omega)]; rfl
theorem agreed_stop {s : St} {i : Nat} {x : Ag} (hi : i < s.n) (hx : s.agTo i = some x) (h0 : nth s.own.set i ≠ 0) (h1 : nth s.own.vec i = 0 ∨ (s.wishOf i).vec ≠ s.own.vec) : s.agreed = none := by
  have : s.agTo (i + 1) = none := by rw [St.agTo, hx]; show s.agStep x i = none; unfold St.agStep; rw [if_neg h0, if_pos h1]
  unfold St.agreed; rw [agTo_none this (by omega)]; simp
theorem agTo_skip {s : St} {i : Nat} {x : Ag} (hx : s.agTo i = some x) (h0 : nth s.own.set i = 0) : s.agTo (i + 1) = some x := by
  rw [St.agTo, hx]; show s.agStep x i = _; unfold St.agStep; rw [if_pos h0]
theorem agTo_go {s : St} {i : Nat} {x : Ag} (hx : s.agTo i = some x) (h0 : nth s.own.set i ≠ 0) (h1 : nth s.own.vec i ≠ 0) (h2 : (s.wishOf i).vec = s.own.vec) :
    s.agTo (i + 1) = some ⟨max x.top (s.wishOf i).top, x.mem ++ [⟨i, nth s.own.set i, nth s.own.vec i⟩], if i = s.self ∨ ((s.wishOf i).prev ≠ Vid.zero ∧ (s.wishOf i).prev = s.own.prev) then x.trans ++ [(i : Int)] else x.trans⟩ := by
  rw [St.agTo, hx]; show s.agStep x i = _; unfold St.agStep; rw [if_neg h0, if_neg (by intro h; rcases h with h | h; exact h1 h; exact h h2)]
theorem wp_store44 {o : Oper} {a : Act} {w : World} {K : Act → World → Prop} {Q : Exit → Act → World → Prop} (x y : Operand) (ho : o.op = .store 44 x y) (hd : o.dst = none) (b off : Nat) (hx : a.eval x = .pointer (some ⟨b, off, none⟩)) (A : Option Addr) (n c : Nat) (hy : a.eval y = .slice A n c)
    (ht : w.there b off 1) (h : ∀ w', Hid (w' = w.setCells b off [.slice A n c]) → K a w') : o.wp Try.prog a w K Q := by
  have hc := (ht 0 (by omega)).1
  have hf := (ht 0 (by omega)).2
  rw [Nat.add_zero] at hc hf
  obtain ⟨u, hu⟩ := Option.isSome_iff_exists.1 hc
  have key : (storeVar 44 ⟨b, off, none⟩ (.slice A n c)).run Try.prog w = .ok () (w.setCells b off [.slice A n c]) := by
    show _ = Result.ok () (w.setCell ⟨b, off, none⟩ (.slice A n c))
    go_simp
  unfold Oper.wp execOp
  simp only [ho, hx, hy, Instr.storeAt, Instr.sureAddr, Sem.run_bind, key, Result.andThen_ok, Sem.run_pure]
  show K (a.put o.dst undef) _
  rw [show a.put o.dst undef = a by rw [hd]; rfl]
  exact h _ (Lib.hid rfl)
theorem viAt_put {w : World} {b : Nat} {v : Vid} {A : Option Addr} {n c : Nat} (h : w.there b 0 5) : ViAt (w.setCells b 0 (viewA v A n c).toList) b v A n c := by
  have hr := World.rangeAt_setCells_same w b 0 (viewA v A n c).toList h
  exact ⟨hr 0 _ rfl, hr 1 _ rfl, hr 2 _ rfl, hr 3 _ rfl, hr 4 _ rfl, World.there_setCells h b _ _⟩
section
variable {ops : Array Oper} {rest : List Oper} {op : Oper} {a : Act} {w : World} {Q : Exit → Act → World → Prop}
theorem wpList_max (hgd : op.guard = none) (x y : Operand) (ho : op.op = .call { callee := .builtin .max, args := #[x, y], argTypes := #[3, 3] }) (m n : Int) (hx : a.eval x = .int .i64 m) (hy : a.eval y = .int .i64 n)
    (h : wpList Try.prog ops Q rest (a.put op.dst (.int .i64 (max m n))) w) : wpList Try.prog ops Q (op :: rest) a w := by
  have key : ∀ ty, (Builtin.max_ #[3, 3] ty #[.int .i64 m, .int .i64 n]).run Try.prog w = .ok (.int .i64 (max m n)) w := by
    intro ty
    rw [run_max_int2]
    have : (if n > m then n else m) = max m n := by split <;> omega
    rw [this]
  refine wpList_plain hgd fun K hK => ?_
  unfold Oper.wp execOp
  simp only [ho, resolve, invoke, builtin, Sem.run_bind, Sem.run_pure, Result.andThen_ok, List.map_toArray, List.map_cons, List.map_nil, hx, hy, key]
  exact hK _ _ h
end
theorem one_ints3 (x y z : Int) : (#[.int .i64 x, .int .i64 y, .int .i64 z] : Array Value).all (·.oneCell') = true := by
  refine all_oneCell_toArray (cs := [.int .i64 x, .int .i64 y, .int .i64 z]) fun u hu => ?_
  simp at hu; rcases hu with rfl | rfl | rfl <;> rfl
theorem one_ints4 (x y z t : Int) : (#[.int .i64 x, .int .i64 y, .int .i64 z, .int .i64 t] : Array Value).all (·.oneCell') = true := by
  refine all_oneCell_toArray (cs := [.int .i64 x, .int .i64 y, .int .i64 z, .int .i64 t]) fun u hu => ?_
  simp at hu; rcases hu with rfl | rfl | rfl | rfl <;> rfl
set_option maxRecDepth 100000 in
set_option maxHeartbeats 4000000 in
theorem agreed_shut (b : Nat) (s : St) (M : Option Addr) (cM : Nat) (w : World) (h : AgAt w b s M cM) (hb : b < w.heap.size) (ho : s.opn = false) :
    Calls Try.prog 50 #[.pointer (some ⟨b, 0, none⟩)] w (AgPost w s) := by
  have q := h.opn
  rw [ho] at q
  have hno : s.agreed = none := by unfold St.agreed; rw [ho]; rfl
  have hth : (w.alloc (.cells (viewA Vid.zero none 0 0) 46)).there w.heap.size 0 5 := there_new w (viewA Vid.zero none 0 0) 46
  have hbel : Below w.heap.size w (w.alloc (.cells (viewA Vid.zero none 0 0) 46)) := (Below.refl _ _).alloc (Nat.le_refl _) _
  replace h := Lib.hid h
  replace ho := Lib.hid ho
  replace hno := Lib.hid hno
  replace hbel := Lib.hid hbel
  replace hth := Lib.hid hth
  go_enter Try.func50, Try.ntmps50
  go_wp2_with (first
    | (refine wpList_store46 rfl (.tmp 2) (.tmp 16) rfl w.heap.size 0 (by rfl) Vid.zero none 0 0 (by rfl) hth.out ?_; intro w7 hw7)
    | fail)
  have v7 := (ViAt.new w Vid.zero none 0 0 46).setAll Vid.zero none 0 0
  rw [← hw7.out] at v7
  exact bodyPost_ret (res_cell_tmp_tmp (p := 2) (u := 3) (u' := 4) (ty := 46) rfl rfl v7.load) rfl (none_post hno.out (by rw [hw7.out]; exact below_sets hbel.out (Nat.le_refl _) _ _ (by simp)))
set_option maxRecDepth 100000 in
set_option maxHeartbeats 4000000 in
theorem agreed_open (b : Nat) (s : St) (M : Option Addr) (cM : Nat) (w : World) (h : AgAt w b s M cM) (hb : b < w.heap.size) (hI : Inv s) (ho : s.opn = true) :
    Calls Try.prog 50 #[.pointer (some ⟨b, 0, none⟩)] w (AgPost w s) := by
  have q := h.opn
  rw [ho] at q
  have qt := h.top
  have qn := h.n
  have hag : s.agreed = s.agTo s.n := by unfold St.agreed; rw [ho]; rfl
  have hn16 := hI.n2
  obtain ⟨w2, hw2⟩ : ∃ w2, w2 = (w.alloc (.cells (viewA Vid.zero none 0 0) 46)).alloc (.cells (viewA Vid.zero none 0 0) 46) := ⟨_, rfl⟩
  have s2 : w2.heap.size = w.heap.size + 2 := by rw [hw2]; simp
  have hR0 : AgR w b s M cM [] none 0 [] none 0 w2 := by
    have hb2 : Below w.heap.size w w2 := by rw [hw2]; exact below_box2 _ _ _ _ _
    refine ⟨h.same (hb2.block b hb), ?_, ?_, owns_nil _ _ _ _ _, owns_nil _ _ _ _ _, hb2, by omega⟩
    · rw [hw2]; exact World.there_alloc (there_new w (viewA Vid.zero none 0 0) 46) _
    · have := ViAt.new (w.alloc (.cells (viewA Vid.zero none 0 0) 46)) Vid.zero none 0 0 46
      rw [← hw2, World.size_alloc] at this; exact this
  replace hR0 := Lib.hid hR0
  replace hw2 := Lib.hid hw2
  replace h := Lib.hid h
  replace ho := Lib.hid ho
  replace hag := Lib.hid hag
  go_enter Try.func50, Try.ntmps50
  go_wp2
  rw [← hw2.out]
  go_loopw [6, 7, 26] (fun t6 t7 k wr => ∃ i x A c T cT, k = .int .i64 ((i : Nat) : Int) ∧ i ≤ s.n ∧ Hid (s.agTo i = some x) ∧ t7 = .int .i64 x.top ∧ t6 = .slice T x.trans.length cT ∧ AgR w b s M cM x.mem A c x.trans T cT wr) (fun _ _ k _ => s.n - (intOf k).toNat)
  case atStart => exact ⟨0, ⟨s.own.top, [], []⟩, none, 0, none, 0, rfl, by omega, Lib.hid rfl, rfl, rfl, hR0.out⟩
  case round =>
    obtain ⟨i, x, A, c, T, cT, rfl, hi, hx, rfl, rfl, hR⟩ := hrel
    by_cases hlt : i < s.n
    · have hi16 : i < 16 := by omega
      have qs := rangeAt_cell hR.at_.set (nth_some (l := s.own.set) (k := i) (by rw [hR.at_.l1]; omega))
      by_cases h0 : nth s.own.set i = 0
      · have hsk := Lib.hid (agTo_skip hx.out h0)
        rw [h0] at qs
        replace h0 := Lib.hid h0
        replace hR := Lib.hid hR
        go_wp2
        go_roundw
        case rel => exact ⟨i + 1, x, A, c, T, cT, by go_num, by omega, hsk.out, rfl, rfl, hR.out⟩
        case measure => go_light; simp [intOf]; omega
      · by_cases hs : i = s.self
        · have e0 : (nth s.own.set i == 0) = false := by simp [h0]
          have e1 : (((i : Nat) : Int) != (s.self : Int)) = false := by simp [hs]
          have hwish : s.wishOf i = s.own := by unfold St.wishOf; rw [if_pos hs]
          have hul := hR.at_.l2
          have hol := hR.at_.l2
          replace hs := Lib.hid hs
          replace h0 := Lib.hid h0
          replace hwish := Lib.hid hwish
          by_cases h1 : nth s.own.vec i = 0
          · have e2 : (nth s.own.vec i == 0) = true := by simp [h1]
            have hno := Lib.hid (agreed_stop hlt hx.out h0.out (.inl h1))
            replace h1 := Lib.hid h1
            have hwl : WLen s.own := ⟨hR.at_.l1, hR.at_.l2⟩
            have hlw := hR.lt
            have hbl := hR.bel
            have qv := rangeAt_cell hR.at_.vec (nth_some (l := s.own.vec) (k := i) (by rw [hR.at_.l2]; omega))
            obtain ⟨hlm, hlq⟩ := agTo_len hx.out
            replace hR := Lib.hid hR
            go_wp2_with (first
              | (refine wpList_load96 rfl (.tmp 39) rfl b 4 (by rfl) s.own hR.out.at_.wish hwl ?_)
              | (refine wpList_alloc96 rfl rfl ?_)
              | (refine wpList_store96 rfl (.tmp 9) (.tmp 40) rfl wr.heap.size 0 (by rfl) s.own (by rfl) (by exact there_new96 _ _ wlen_zero) hwl ?_
                 intro w4 hw4
                 have hb4 : Below wr.heap.size wr w4 := by rw [hw4.out]; exact below_sets ((Below.refl _ _).alloc (Nat.le_refl _) _) (Nat.le_refl _) _ _ (by simp)
                 have z4 : wr.heap.size < w4.heap.size := by rw [hw4.out, size_sets]; simp
                 have v4 : WVar w4 wr.heap.size s.own := by rw [hw4.out]; exact (WVar.new wr Wish.zero wlen_zero).put hwl
                 have h4 := Lib.hid (hR.out.below hb hb4)
                 have k1 := h4.out.at_.self
                 replace v4 := Lib.hid v4
                 replace hb4 := Lib.hid hb4
                 clear qs qv)
              | fail)
            obtain ⟨w5, hw5e⟩ : ∃ w5, w5 = w4 := ⟨_, rfl⟩
            subst hw5e
            have h5 := h4
            have v5 := v4
            have hb5 := hb4
            have z5 := z4
            clear h4 v4 hb4 z4
            have k5 := rangeAt_cell h5.out.at_.vec (nth_some (l := s.own.vec) (k := i) (by rw [h5.out.at_.l2]; omega))
            try simp only [Act.put, List.setIfInBounds_toArray, List.set_cons_zero, List.set_cons_succ]
            refine wp_region_quiet_lit (by kernel_rfl) (by kernel_rfl) ?_
            repeat (first
              | go_big_quiet_skip
              | (refine wpQuiet_load94 (by rfl) (.tmp 63) rfl wr.heap.size 16 (by rfl) _ v5.out.cells.2.1 hul ?_; go_simp)
              | (refine wpQuiet_load94 (by rfl) (.tmp 68) rfl b 20 (by rfl) _ h5.out.at_.vec hol ?_; go_simp)
              | go_big_quiet_step (fail))
            refine wpQuiet_nil ?_
            first | rintro _ ⟨nq, rfl⟩ | intro nq
            go_wp2_with (first
              | (refine wpList_store46 rfl (.tmp 2) (.tmp 72) rfl w.heap.size 0 (by rfl) Vid.zero none 0 0 (by rfl) (by exact h5.out.out) ?_; intro w7 hw7)
              | fail)
            have ht5 : (w5.drewN nq).there w.heap.size 0 5 := there_below h5.out.out (below_drewN (Below.refl w5.heap.size w5) nq) (by have := h5.out.lt; omega)
            have v7 : ViAt w7 w.heap.size Vid.zero none 0 0 := by rw [hw7.out]; exact viAt_put (w := w5.drewN nq) (v := Vid.zero) (A := none) (n := 0) (c := 0) ht5
            have z7 := h5.out.lt
            have hb7 : Below w.heap.size w w7 := by rw [hw7.out]; exact below_sets (below_drewN h5.out.bel nq) (Nat.le_refl _) _ _ (by show w.heap.size ≤ w5.heap.size; omega)
            exact bodyPost_ret (res_cell_tmp_tmp (p := 2) (u := 3) (u' := 4) (ty := 46) rfl rfl v7.load) rfl (none_post hno.out hb7)
          · have e2 : (nth s.own.vec i == 0) = false := by simp [h1]
            have e3 : (s.own.vec == s.own.vec) = true := by simp
            have rn := fun W : World => run_neq_arr W s.own.vec s.own.vec hul hol
            have hgo := Lib.hid (agTo_go hx.out h0.out h1 (by rw [hwish.out]))
            replace h1 := Lib.hid h1
            have hwl : WLen s.own := ⟨hR.at_.l1, hR.at_.l2⟩
            have hlw := hR.lt
            have hbl := hR.bel
            have qv := rangeAt_cell hR.at_.vec (nth_some (l := s.own.vec) (k := i) (by rw [hR.at_.l2]; omega))
            obtain ⟨hlm, hlq⟩ := agTo_len hx.out
            replace hR := Lib.hid hR
            go_wp2_with (first
              | (refine wpList_load96 rfl (.tmp 39) rfl b 4 (by rfl) s.own hR.out.at_.wish hwl ?_)
              | (refine wpList_alloc96 rfl rfl ?_)
              | (refine wpList_store96 rfl (.tmp 9) (.tmp 40) rfl wr.heap.size 0 (by rfl) s.own (by rfl) (by exact there_new96 _ _ wlen_zero) hwl ?_
                 intro w4 hw4
                 have hb4 : Below wr.heap.size wr w4 := by rw [hw4.out]; exact below_sets ((Below.refl _ _).alloc (Nat.le_refl _) _) (Nat.le_refl _) _ _ (by simp)
                 have z4 : wr.heap.size < w4.heap.size := by rw [hw4.out, size_sets]; simp
                 have v4 : WVar w4 wr.heap.size s.own := by rw [hw4.out]; exact (WVar.new wr Wish.zero wlen_zero).put hwl
                 have h4 := Lib.hid (hR.out.below hb hb4)
                 have k1 := h4.out.at_.self
                 replace v4 := Lib.hid v4
                 replace hb4 := Lib.hid hb4
                 clear qs qv)
              | fail)
            obtain ⟨w5, hw5e⟩ : ∃ w5, w5 = w4 := ⟨_, rfl⟩
            subst hw5e
            have h5 := h4
            have v5 := v4
            have hb5 := hb4
            have z5 := z4
            clear h4 v4 hb4 z4
            have k5 := rangeAt_cell h5.out.at_.vec (nth_some (l := s.own.vec) (k := i) (by rw [h5.out.at_.l2]; omega))
            try simp only [Act.put, List.setIfInBounds_toArray, List.set_cons_zero, List.set_cons_succ]
            refine wp_region_quiet_lit (by kernel_rfl) (by kernel_rfl) ?_
            repeat (first
              | go_big_quiet_skip
              | (refine wpQuiet_load94 (by rfl) (.tmp 63) rfl wr.heap.size 16 (by rfl) _ v5.out.cells.2.1 hul ?_; go_simp)
              | (refine wpQuiet_load94 (by rfl) (.tmp 68) rfl b 20 (by rfl) _ h5.out.at_.vec hol ?_; go_simp)
              | go_big_quiet_step (fail))
            refine wpQuiet_nil ?_
            first | rintro _ ⟨nq, rfl⟩ | intro nq
            have v6 := v5.out.cells.2.2.2.2.1
            go_wp2_with (first
              | (refine wpList_max rfl (.tmp 73) (.tmp 75) rfl x.top (s.wishOf i).top (by rfl) (by rw [hwish.out]; rfl) ?_)
              | fail)
            clear v6
            obtain ⟨w6, hw6⟩ : ∃ w6, w6 = (w5.drewN nq).drew := ⟨_, rfl⟩
            have h6 : AgR w b s M cM x.mem A c x.trans T cT w6 := by rw [hw6]; exact h5.out.below hb (Below.drew (below_drewN (Below.refl _ _) nq))
            have v6 : WVar w6 wr.heap.size s.own := by rw [hw6]; exact v5.out.same rfl
            have z6 : wr.heap.size < w6.heap.size := by rw [hw6]; exact z5
            have hS6 : AgS b s M cM (w.heap.size + 1) A x.mem.length c w6 := ⟨h6.at_, h6.vi⟩
            have hC : ∀ x' : Prop, (∀ W, AgS b s M cM (w.heap.size + 1) A x.mem.length c W → x') ↔ x' := fun x' => ⟨fun f => f _ hS6, fun f _ _ => f⟩
            have L77 : ∀ W, AgS b s M cM (w.heap.size + 1) A x.mem.length c W → (loadVar 44 ⟨w.heap.size + 1, 4, none⟩).run Try.prog W = .ok (.slice A x.mem.length c) W := fun W hW => load44 hW.vi.cm
            have L85 : ∀ W, AgS b s M cM (w.heap.size + 1) A x.mem.length c W → (loadVar 3 ⟨b, 4 + i, none⟩).run Try.prog W = .ok (.int .i64 (nth s.own.set i)) W := fun W hW => load3 (rangeAt_cell hW.at_.set (nth_some (l := s.own.set) (k := i) (by rw [hW.at_.l1]; omega)))
            have L92 : ∀ W, AgS b s M cM (w.heap.size + 1) A x.mem.length c W → (loadVar 3 ⟨b, 20 + i, none⟩).run Try.prog W = .ok (.int .i64 (nth s.own.vec i)) W := fun W hW => load3 (rangeAt_cell hW.at_.vec (nth_some (l := s.own.vec) (k := i) (by rw [hW.at_.l2]; omega)))
            replace L77 := Lib.hid L77
            replace L85 := Lib.hid L85
            replace L92 := Lib.hid L92
            replace h6 := Lib.hid h6
            replace v6 := Lib.hid v6
            replace hS6 := Lib.hid hS6
            replace hw6 := Lib.hid hw6
            try simp only [Act.put, List.setIfInBounds_toArray, List.set_cons_zero, List.set_cons_succ]
            refine wp_region_ordz 21 [([0, 1, 2, 3, 4, 5, 6, 7, 8, 9, 10, 11, 12, 13, 14, 15, 16, 17], 18), ([], 19), ([20], 21)] [] (AgS b s M cM (w.heap.size + 1) A x.mem.length c) rfl (by kernel_rfl) rfl (by rw [← hw6.out]; exact hS6.out) ?_
            rw [← hw6.out]
            refine WO.seg rfl ?_ hS6.out
            simp only [picks, pick, List.cons_append, List.nil_append, List.append_nil]
            repeat (first
              | go_big_quiet_skip
              | (refine wpQuiet_loadC (by rfl) 44 (.tmp 77) rfl (w.heap.size + 1) 4 (by rfl) _ L77.out ?_; go_simp)
              | (refine wpQuiet_loadC (by rfl) 3 (.tmp 85) rfl b (4 + i) (by rfl) _ L85.out ?_; go_simp)
              | (refine wpQuiet_loadC (by rfl) 3 (.tmp 92) rfl b (20 + i) (by rfl) _ L92.out ?_; go_simp)
              | go_big_quiet_step (fail))
            refine wpQuiet_nil ?_
            intro K hK
            go_simp
            obtain ⟨w8, hw8⟩ : ∃ w8, w8 = w6.alloc (.cells #[.int .i64 (i : Int), .int .i64 (nth s.own.set i), .int .i64 (nth s.own.vec i)] 43) := ⟨_, rfl⟩
            have hb8 : Below w6.heap.size w6 w8 := by rw [hw8]; exact (Below.refl _ _).alloc (Nat.le_refl _) _
            have h8 := Lib.hid (h6.out.below hb hb8)
            have z8 : w6.heap.size < w8.heap.size := by rw [hw8]; simp
            have hS8 : AgS b s M cM (w.heap.size + 1) A x.mem.length c w8 := ⟨h8.out.at_, h8.out.vi⟩
            have hrow8 : RowAt w8 w8.heap.size 3 eMb (some ⟨w6.heap.size, 0, none⟩) [⟨(i : Int), nth s.own.set i, nth s.own.vec i⟩] := by
              have := row_new w6 43 3 eMb ⟨(i : Int), nth s.own.set i, nth s.own.vec i⟩ #[.int .i64 (i : Int), .int .i64 (nth s.own.set i), .int .i64 (nth s.own.vec i)] rfl
              rw [← hw8] at this
              exact this.more z8
            rw [← hw8]
            replace hw8 := Lib.hid hw8
            replace hS8 := Lib.hid hS8
            refine hK.out _ _ hS8.out ?_
            clear hK K
            refine WO.seg rfl ?_ hS8.out
            simp only [picks]
            refine wpQuiet_nil ?_
            intro K hK
            rw [if_pos (by rfl)]
            refine wp_append_rows w8 (.tmp 78) (.tmp 95) 44 rfl (w.heap.size + 2) 43 3 24 mbZ Try.underlying44 info43 (by rfl) (by omega) eMb len_eMb one_eMb A c x.mem (some ⟨w6.heap.size, 0, none⟩) 1 w8.heap.size x.mem.length 1 _ (by rfl) (by rfl) rfl rfl h8.out.own hrow8 (by omega) (by omega) h8.out.lt ?_
            intro A' c' w9 ho9 hg9 hA9
            have h8l := h8.out.lt
            have hno9 : ∀ k, k < w.heap.size + 2 → w9.heap[k]? = w8.heap[k]? := fun k hk => hg9.block k (by omega) (fun e => by have := h8.out.own.lo k e.symm; omega)
            have hS9 : AgS b s M cM (w.heap.size + 1) A x.mem.length c w9 := hS8.out.same (hno9 b (by omega)) (hno9 _ (by omega))
            have v9 : WVar w9 wr.heap.size s.own := (v6.out.below hb8 z6).same (hg9.block _ (by omega) (fun e => by have := h6.out.own.lo _ e.symm; have := hR.out.own.lo _ e.symm; omega))
            have h10 := h8.out.push hb ho9 hg9 hA9
            replace hS9 := Lib.hid hS9
            replace v9 := Lib.hid v9
            replace h10 := Lib.hid h10
            replace ho9 := Lib.hid ho9
            replace hg9 := Lib.hid hg9
            refine hK.out _ _ hS9.out ?_
            clear hK K
            refine WO.segz rfl ?_
            simp only [picks, pick, List.cons_append, List.nil_append, List.append_nil]
            try simp only [Act.put, List.setIfInBounds_toArray, List.set_cons_zero, List.set_cons_succ]
            repeat go_big_quiet_step (fail)
            refine wpQuiet_nil ?_
            intro K hK
            rw [if_pos (by rfl)]
            refine wp_store44 (.tmp 97) (.tmp 96) rfl rfl (w.heap.size + 1) 4 (by rfl) A' (x.mem.length + 1) c' (by rfl) (World.there.at hS9.out.vi.there (by omega)) ?_
            intro w10 hw10
            replace h10 : Hid (AgR w b s M cM (x.mem ++ [⟨(i : Int), nth s.own.set i, nth s.own.vec i⟩]) A' c' x.trans T cT w10) := by rw [hw10.out]; have := h10.out; rw [List.length_append] at this; exact Lib.hid this
            have v10 : WVar w10 wr.heap.size s.own := by rw [hw10.out]; exact v9.out.other (by omega) _ _
            refine hK.out _ _ ?_
            clear hK K hC
            clear hS6 hS8 hS9 L77 L85 L92
            replace v10 := Lib.hid v10
            have k10 := h10.out.at_.self
            have e5 : (((i : Nat) : Int) == (s.self : Int)) = true := by simp [hs.out]
            have hgo2 : Hid (s.agTo (i + 1) = some ⟨max x.top (s.wishOf i).top, x.mem ++ [⟨i, nth s.own.set i, nth s.own.vec i⟩], x.trans ++ [(i : Int)]⟩) := Lib.hid (by rw [hgo.out, if_pos (.inl hs.out)])
            go_wp2
            try simp only [Act.put, List.setIfInBounds_toArray, List.set_cons_zero, List.set_cons_succ]
            refine wp_region_quiet_lit (by kernel_rfl) (by kernel_rfl) ?_
            repeat (first
              | go_big_quiet_skip
              | go_big_quiet_step (fail))
            refine wpQuiet_nil ?_
            first | rintro _ ⟨nq2, rfl⟩ | intro nq2
            have hb11 : Below w10.heap.size w10 ((w10.drewN nq2).alloc (.cells #[.int .i64 (i : Int)] 3)) := (below_drewN (Below.refl _ _) nq2).alloc (Nat.le_refl _) _
            have h11 := Lib.hid (h10.out.below hb hb11)
            have hrow11 : RowAt ((w10.drewN nq2).alloc (.cells #[.int .i64 (i : Int)] 3)) (w10.heap.size + 1) 1 eInt (some ⟨w10.heap.size, 0, none⟩) [(i : Int)] := row_new (w10.drewN nq2) 3 1 eInt (i : Int) #[.int .i64 (i : Int)] rfl
            have z11 := h11.out.lt
            go_wp2_with (first
              | (refine wpList_append_rows _ rfl (.tmp 120) (.tmp 122) 27 rfl (w.heap.size + 2) 3 1 8 (.int .i64 0) Try.underlying27 info3 (by rfl) (by omega) eInt len_eInt one_eInt T cT x.trans (some ⟨w10.heap.size, 0, none⟩) 1 (w10.heap.size + 1) x.trans.length 1 [(i : Int)] (by rfl) (by rfl) rfl rfl h11.out.tr hrow11 (by omega) (by omega) z11 ?_
                 intro T' cT' w12 ho12 hg12 hT12
                 have h12 := Lib.hid (h11.out.tpush hb ho12 hg12))
              | fail)
            go_roundw
            case rel => exact ⟨i + 1, _, A', c', T', cT', by go_num, by omega, hgo2, rfl, by rw [List.length_append]; rfl, h12.out⟩
            case measure => go_light; simp [intOf]; omega
        · have e0 : (nth s.own.set i == 0) = false := by simp [h0]
          have e1 : (((i : Nat) : Int) != (s.self : Int)) = true := by simp; omega
          have hwl2 : WLen (s.lt i).w := ⟨hR.at_.l3 i hi16, hR.at_.l4 i hi16⟩
          have hwish : s.wishOf i = (s.lt i).w := by unfold St.wishOf; rw [if_neg hs]
          have hul := hwl2.l2
          have hol := hR.at_.l2
          replace hs := Lib.hid hs
          replace h0 := Lib.hid h0
          replace hwish := Lib.hid hwish
          by_cases h1 : nth s.own.vec i = 0
          · have e2 : (nth s.own.vec i == 0) = true := by simp [h1]
            have hno := Lib.hid (agreed_stop hlt hx.out h0.out (.inl h1))
            replace h1 := Lib.hid h1
            have hwl : WLen s.own := ⟨hR.at_.l1, hR.at_.l2⟩
            have hlw := hR.lt
            have hbl := hR.bel
            have qv := rangeAt_cell hR.at_.vec (nth_some (l := s.own.vec) (k := i) (by rw [hR.at_.l2]; omega))
            obtain ⟨hlm, hlq⟩ := agTo_len hx.out
            replace hR := Lib.hid hR
            go_wp2_with (first
              | (refine wpList_load96 rfl (.tmp 39) rfl b 4 (by rfl) s.own hR.out.at_.wish hwl ?_)
              | (refine wpList_alloc96 rfl rfl ?_)
              | (refine wpList_store96 rfl (.tmp 9) (.tmp 40) rfl wr.heap.size 0 (by rfl) s.own (by rfl) (by exact there_new96 _ _ wlen_zero) hwl ?_
                 intro w4 hw4
                 have hb4 : Below wr.heap.size wr w4 := by rw [hw4.out]; exact below_sets ((Below.refl _ _).alloc (Nat.le_refl _) _) (Nat.le_refl _) _ _ (by simp)
                 have z4 : wr.heap.size < w4.heap.size := by rw [hw4.out, size_sets]; simp
                 have v4 : WVar w4 wr.heap.size s.own := by rw [hw4.out]; exact (WVar.new wr Wish.zero wlen_zero).put hwl
                 have h4 := Lib.hid (hR.out.below hb hb4)
                 have k1 := h4.out.at_.self
                 replace v4 := Lib.hid v4
                 replace hb4 := Lib.hid hb4
                 clear qs qv)
              | (refine wpList_load96 rfl (.tmp 52) rfl b (43 + i * 40 + 1) (by rfl) (s.lt i).w (lt_parts.1 (h4.out.at_.other hi16)).2 hwl2 ?_)
              | (refine wpList_store96 rfl (.tmp 9) (.tmp 53) rfl wr.heap.size 0 (by rfl) (s.lt i).w (by rfl) v4.out.there hwl2 ?_
                 intro w5 hw5
                 have hb5 : Below wr.heap.size wr w5 := by rw [hw5.out]; exact below_sets hb4.out (Nat.le_refl _) _ _ (by omega)
                 have z5 : wr.heap.size < w5.heap.size := by rw [hw5.out, size_sets]; exact z4
                 have v5 : WVar w5 wr.heap.size (s.lt i).w := by rw [hw5.out]; exact v4.out.put hwl2
                 have h5 := Lib.hid (hR.out.below hb hb5)
                 replace v5 := Lib.hid v5
                 replace hb5 := Lib.hid hb5
                 clear k1)
              | fail)
            have k5 := rangeAt_cell h5.out.at_.vec (nth_some (l := s.own.vec) (k := i) (by rw [h5.out.at_.l2]; omega))
            try simp only [Act.put, List.setIfInBounds_toArray, List.set_cons_zero, List.set_cons_succ]
            refine wp_region_quiet_lit (by kernel_rfl) (by kernel_rfl) ?_
            repeat (first
              | go_big_quiet_skip
              | (refine wpQuiet_load94 (by rfl) (.tmp 63) rfl wr.heap.size 16 (by rfl) _ v5.out.cells.2.1 hul ?_; go_simp)
              | (refine wpQuiet_load94 (by rfl) (.tmp 68) rfl b 20 (by rfl) _ h5.out.at_.vec hol ?_; go_simp)
              | go_big_quiet_step (fail))
            refine wpQuiet_nil ?_
            first | rintro _ ⟨nq, rfl⟩ | intro nq
            go_wp2_with (first
              | (refine wpList_store46 rfl (.tmp 2) (.tmp 72) rfl w.heap.size 0 (by rfl) Vid.zero none 0 0 (by rfl) (by exact h5.out.out) ?_; intro w7 hw7)
              | fail)
            have ht5 : (w5.drewN nq).there w.heap.size 0 5 := there_below h5.out.out (below_drewN (Below.refl w5.heap.size w5) nq) (by have := h5.out.lt; omega)
            have v7 : ViAt w7 w.heap.size Vid.zero none 0 0 := by rw [hw7.out]; exact viAt_put (w := w5.drewN nq) (v := Vid.zero) (A := none) (n := 0) (c := 0) ht5
            have z7 := h5.out.lt
            have hb7 : Below w.heap.size w w7 := by rw [hw7.out]; exact below_sets (below_drewN h5.out.bel nq) (Nat.le_refl _) _ _ (by show w.heap.size ≤ w5.heap.size; omega)
            exact bodyPost_ret (res_cell_tmp_tmp (p := 2) (u := 3) (u' := 4) (ty := 46) rfl rfl v7.load) rfl (none_post hno.out hb7)
          · have e2 : (nth s.own.vec i == 0) = false := by simp [h1]
            by_cases h2 : (s.lt i).w.vec = s.own.vec
            · have e3 : ((s.lt i).w.vec == s.own.vec) = true := by simp [h2]
              have rn := fun W : World => run_neq_arr W (s.lt i).w.vec s.own.vec hul hol
              have hgo := Lib.hid (agTo_go hx.out h0.out h1 (by rw [hwish.out]; exact h2))
              replace h1 := Lib.hid h1
              replace h2 := Lib.hid h2
              have hwl : WLen s.own := ⟨hR.at_.l1, hR.at_.l2⟩
              have hlw := hR.lt
              have hbl := hR.bel
              have qv := rangeAt_cell hR.at_.vec (nth_some (l := s.own.vec) (k := i) (by rw [hR.at_.l2]; omega))
              obtain ⟨hlm, hlq⟩ := agTo_len hx.out
              replace hR := Lib.hid hR
              go_wp2_with (first
                | (refine wpList_load96 rfl (.tmp 39) rfl b 4 (by rfl) s.own hR.out.at_.wish hwl ?_)
                | (refine wpList_alloc96 rfl rfl ?_)
                | (refine wpList_store96 rfl (.tmp 9) (.tmp 40) rfl wr.heap.size 0 (by rfl) s.own (by rfl) (by exact there_new96 _ _ wlen_zero) hwl ?_
                   intro w4 hw4
                   have hb4 : Below wr.heap.size wr w4 := by rw [hw4.out]; exact below_sets ((Below.refl _ _).alloc (Nat.le_refl _) _) (Nat.le_refl _) _ _ (by simp)
                   have z4 : wr.heap.size < w4.heap.size := by rw [hw4.out, size_sets]; simp
                   have v4 : WVar w4 wr.heap.size s.own := by rw [hw4.out]; exact (WVar.new wr Wish.zero wlen_zero).put hwl
                   have h4 := Lib.hid (hR.out.below hb hb4)
                   have k1 := h4.out.at_.self
                   replace v4 := Lib.hid v4
                   replace hb4 := Lib.hid hb4
                   clear qs qv)
                | (refine wpList_load96 rfl (.tmp 52) rfl b (43 + i * 40 + 1) (by rfl) (s.lt i).w (lt_parts.1 (h4.out.at_.other hi16)).2 hwl2 ?_)
                | (refine wpList_store96 rfl (.tmp 9) (.tmp 53) rfl wr.heap.size 0 (by rfl) (s.lt i).w (by rfl) v4.out.there hwl2 ?_
                   intro w5 hw5
                   have hb5 : Below wr.heap.size wr w5 := by rw [hw5.out]; exact below_sets hb4.out (Nat.le_refl _) _ _ (by omega)
                   have z5 : wr.heap.size < w5.heap.size := by rw [hw5.out, size_sets]; exact z4
                   have v5 : WVar w5 wr.heap.size (s.lt i).w := by rw [hw5.out]; exact v4.out.put hwl2
                   have h5 := Lib.hid (hR.out.below hb hb5)
                   replace v5 := Lib.hid v5
                   replace hb5 := Lib.hid hb5
                   clear k1)
                | fail)
              have k5 := rangeAt_cell h5.out.at_.vec (nth_some (l := s.own.vec) (k := i) (by rw [h5.out.at_.l2]; omega))
              try simp only [Act.put, List.setIfInBounds_toArray, List.set_cons_zero, List.set_cons_succ]
              refine wp_region_quiet_lit (by kernel_rfl) (by kernel_rfl) ?_
              repeat (first
                | go_big_quiet_skip
                | (refine wpQuiet_load94 (by rfl) (.tmp 63) rfl wr.heap.size 16 (by rfl) _ v5.out.cells.2.1 hul ?_; go_simp)
                | (refine wpQuiet_load94 (by rfl) (.tmp 68) rfl b 20 (by rfl) _ h5.out.at_.vec hol ?_; go_simp)
                | go_big_quiet_step (fail))
              refine wpQuiet_nil ?_
              first | rintro _ ⟨nq, rfl⟩ | intro nq
              have v6 := v5.out.cells.2.2.2.2.1
              go_wp2_with (first
                | (refine wpList_max rfl (.tmp 73) (.tmp 75) rfl x.top (s.wishOf i).top (by rfl) (by rw [hwish.out]; rfl) ?_)
                | fail)
              clear v6
              obtain ⟨w6, hw6⟩ : ∃ w6, w6 = (w5.drewN nq).drew := ⟨_, rfl⟩
              have h6 : AgR w b s M cM x.mem A c x.trans T cT w6 := by rw [hw6]; exact h5.out.below hb (Below.drew (below_drewN (Below.refl _ _) nq))
              have v6 : WVar w6 wr.heap.size (s.lt i).w := by rw [hw6]; exact v5.out.same rfl
              have z6 : wr.heap.size < w6.heap.size := by rw [hw6]; exact z5
              have hS6 : AgS b s M cM (w.heap.size + 1) A x.mem.length c w6 := ⟨h6.at_, h6.vi⟩
              have hC : ∀ x' : Prop, (∀ W, AgS b s M cM (w.heap.size + 1) A x.mem.length c W → x') ↔ x' := fun x' => ⟨fun f => f _ hS6, fun f _ _ => f⟩
              have L77 : ∀ W, AgS b s M cM (w.heap.size + 1) A x.mem.length c W → (loadVar 44 ⟨w.heap.size + 1, 4, none⟩).run Try.prog W = .ok (.slice A x.mem.length c) W := fun W hW => load44 hW.vi.cm
              have L85 : ∀ W, AgS b s M cM (w.heap.size + 1) A x.mem.length c W → (loadVar 3 ⟨b, 4 + i, none⟩).run Try.prog W = .ok (.int .i64 (nth s.own.set i)) W := fun W hW => load3 (rangeAt_cell hW.at_.set (nth_some (l := s.own.set) (k := i) (by rw [hW.at_.l1]; omega)))
              have L92 : ∀ W, AgS b s M cM (w.heap.size + 1) A x.mem.length c W → (loadVar 3 ⟨b, 20 + i, none⟩).run Try.prog W = .ok (.int .i64 (nth s.own.vec i)) W := fun W hW => load3 (rangeAt_cell hW.at_.vec (nth_some (l := s.own.vec) (k := i) (by rw [hW.at_.l2]; omega)))
              replace L77 := Lib.hid L77
              replace L85 := Lib.hid L85
              replace L92 := Lib.hid L92
              replace h6 := Lib.hid h6
              replace v6 := Lib.hid v6
              replace hS6 := Lib.hid hS6
              replace hw6 := Lib.hid hw6
              try simp only [Act.put, List.setIfInBounds_toArray, List.set_cons_zero, List.set_cons_succ]
              refine wp_region_ordz 21 [([0, 1, 2, 3, 4, 5, 6, 7, 8, 9, 10, 11, 12, 13, 14, 15, 16, 17], 18), ([], 19), ([20], 21)] [] (AgS b s M cM (w.heap.size + 1) A x.mem.length c) rfl (by kernel_rfl) rfl (by rw [← hw6.out]; exact hS6.out) ?_
              rw [← hw6.out]
              refine WO.seg rfl ?_ hS6.out
              simp only [picks, pick, List.cons_append, List.nil_append, List.append_nil]
              repeat (first
                | go_big_quiet_skip
                | (refine wpQuiet_loadC (by rfl) 44 (.tmp 77) rfl (w.heap.size + 1) 4 (by rfl) _ L77.out ?_; go_simp)
                | (refine wpQuiet_loadC (by rfl) 3 (.tmp 85) rfl b (4 + i) (by rfl) _ L85.out ?_; go_simp)
                | (refine wpQuiet_loadC (by rfl) 3 (.tmp 92) rfl b (20 + i) (by rfl) _ L92.out ?_; go_simp)
                | go_big_quiet_step (fail))
              refine wpQuiet_nil ?_
              intro K hK
              go_simp
              obtain ⟨w8, hw8⟩ : ∃ w8, w8 = w6.alloc (.cells #[.int .i64 (i : Int), .int .i64 (nth s.own.set i), .int .i64 (nth s.own.vec i)] 43) := ⟨_, rfl⟩
              have hb8 : Below w6.heap.size w6 w8 := by rw [hw8]; exact (Below.refl _ _).alloc (Nat.le_refl _) _
              have h8 := Lib.hid (h6.out.below hb hb8)
              have z8 : w6.heap.size < w8.heap.size := by rw [hw8]; simp
              have hS8 : AgS b s M cM (w.heap.size + 1) A x.mem.length c w8 := ⟨h8.out.at_, h8.out.vi⟩
              have hrow8 : RowAt w8 w8.heap.size 3 eMb (some ⟨w6.heap.size, 0, none⟩) [⟨(i : Int), nth s.own.set i, nth s.own.vec i⟩] := by
                have := row_new w6 43 3 eMb ⟨(i : Int), nth s.own.set i, nth s.own.vec i⟩ #[.int .i64 (i : Int), .int .i64 (nth s.own.set i), .int .i64 (nth s.own.vec i)] rfl
                rw [← hw8] at this
                exact this.more z8
              rw [← hw8]
              replace hw8 := Lib.hid hw8
              replace hS8 := Lib.hid hS8
              refine hK.out _ _ hS8.out ?_
              clear hK K
              refine WO.seg rfl ?_ hS8.out
              simp only [picks]
              refine wpQuiet_nil ?_
              intro K hK
              rw [if_pos (by rfl)]
              refine wp_append_rows w8 (.tmp 78) (.tmp 95) 44 rfl (w.heap.size + 2) 43 3 24 mbZ Try.underlying44 info43 (by rfl) (by omega) eMb len_eMb one_eMb A c x.mem (some ⟨w6.heap.size, 0, none⟩) 1 w8.heap.size x.mem.length 1 _ (by rfl) (by rfl) rfl rfl h8.out.own hrow8 (by omega) (by omega) h8.out.lt ?_
              intro A' c' w9 ho9 hg9 hA9
              have h8l := h8.out.lt
              have hno9 : ∀ k, k < w.heap.size + 2 → w9.heap[k]? = w8.heap[k]? := fun k hk => hg9.block k (by omega) (fun e => by have := h8.out.own.lo k e.symm; omega)
              have hS9 : AgS b s M cM (w.heap.size + 1) A x.mem.length c w9 := hS8.out.same (hno9 b (by omega)) (hno9 _ (by omega))
              have v9 : WVar w9 wr.heap.size (s.lt i).w := (v6.out.below hb8 z6).same (hg9.block _ (by omega) (fun e => by have := h6.out.own.lo _ e.symm; have := hR.out.own.lo _ e.symm; omega))
              have h10 := h8.out.push hb ho9 hg9 hA9
              replace hS9 := Lib.hid hS9
              replace v9 := Lib.hid v9
              replace h10 := Lib.hid h10
              replace ho9 := Lib.hid ho9
              replace hg9 := Lib.hid hg9
              refine hK.out _ _ hS9.out ?_
              clear hK K
              refine WO.segz rfl ?_
              simp only [picks, pick, List.cons_append, List.nil_append, List.append_nil]
              try simp only [Act.put, List.setIfInBounds_toArray, List.set_cons_zero, List.set_cons_succ]
              repeat go_big_quiet_step (fail)
              refine wpQuiet_nil ?_
              intro K hK
              rw [if_pos (by rfl)]
              refine wp_store44 (.tmp 97) (.tmp 96) rfl rfl (w.heap.size + 1) 4 (by rfl) A' (x.mem.length + 1) c' (by rfl) (World.there.at hS9.out.vi.there (by omega)) ?_
              intro w10 hw10
              replace h10 : Hid (AgR w b s M cM (x.mem ++ [⟨(i : Int), nth s.own.set i, nth s.own.vec i⟩]) A' c' x.trans T cT w10) := by rw [hw10.out]; have := h10.out; rw [List.length_append] at this; exact Lib.hid this
              have v10 : WVar w10 wr.heap.size (s.lt i).w := by rw [hw10.out]; exact v9.out.other (by omega) _ _
              refine hK.out _ _ ?_
              clear hK K hC
              clear hS6 hS8 hS9 L77 L85 L92
              replace v10 := Lib.hid v10
              have k10 := h10.out.at_.self
              have e5 : (((i : Nat) : Int) == (s.self : Int)) = false := by simp; have := hs.out; omega
              obtain ⟨-, -, -, -, -, p35, p36, p37, p38⟩ := v10.out.cells
              by_cases hz : (s.lt i).w.prev = Vid.zero
              · have hnv := fun W => run_neq_vid W (s.lt i).w.prev.e (s.lt i).w.prev.l (s.lt i).w.prev.i (s.lt i).w.prev.c 0 0 0 0
                have pz : vidEq ⟨(s.lt i).w.prev.e, (s.lt i).w.prev.l, (s.lt i).w.prev.i, (s.lt i).w.prev.c⟩ ⟨0, 0, 0, 0⟩ = true := decide_eq_true hz
                have hgo2 : Hid (s.agTo (i + 1) = some ⟨max x.top (s.wishOf i).top, x.mem ++ [⟨i, nth s.own.set i, nth s.own.vec i⟩], x.trans⟩) := Lib.hid (by rw [hgo.out, if_neg (by rw [hwish.out]; intro o; rcases o with o | o; exact hs.out o; exact o.1 hz)])
                replace hz := Lib.hid hz
                go_wp2
                try simp only [Act.put, List.setIfInBounds_toArray, List.set_cons_zero, List.set_cons_succ]
                refine wp_region_quiet_lit (by kernel_rfl) (by kernel_rfl) ?_
                repeat (first
                  | go_big_quiet_skip
                  | go_big_quiet_step (fail))
                refine wpQuiet_nil ?_
                first | rintro _ ⟨nq2, rfl⟩ | intro nq2
                go_wp2
                go_roundw
                case rel => exact ⟨i + 1, _, A', c', T, cT, by go_num, by omega, hgo2, rfl, rfl, h10.out.below hb (below_drewN (Below.refl _ _) nq2)⟩
                case measure => go_light; simp [intOf]; omega
              · have hnv := fun W => run_neq_vid W (s.lt i).w.prev.e (s.lt i).w.prev.l (s.lt i).w.prev.i (s.lt i).w.prev.c 0 0 0 0
                have pz : vidEq ⟨(s.lt i).w.prev.e, (s.lt i).w.prev.l, (s.lt i).w.prev.i, (s.lt i).w.prev.c⟩ ⟨0, 0, 0, 0⟩ = false := decide_eq_false hz
                have g1 := h10.out.at_.pe
                have g2 := h10.out.at_.pl
                have g3 := h10.out.at_.pi
                have g4 := h10.out.at_.pc
                have hev := fun W => run_eql_vid W (s.lt i).w.prev.e (s.lt i).w.prev.l (s.lt i).w.prev.i (s.lt i).w.prev.c s.own.prev.e s.own.prev.l s.own.prev.i s.own.prev.c
                by_cases hp : (s.lt i).w.prev = s.own.prev
                · have pe : vidEq ⟨(s.lt i).w.prev.e, (s.lt i).w.prev.l, (s.lt i).w.prev.i, (s.lt i).w.prev.c⟩ ⟨s.own.prev.e, s.own.prev.l, s.own.prev.i, s.own.prev.c⟩ = true := decide_eq_true hp
                  have hgo2 : Hid (s.agTo (i + 1) = some ⟨max x.top (s.wishOf i).top, x.mem ++ [⟨i, nth s.own.set i, nth s.own.vec i⟩], x.trans ++ [(i : Int)]⟩) := Lib.hid (by rw [hgo.out, if_pos (.inr (by rw [hwish.out]; exact ⟨hz, hp⟩))])
                  replace hz := Lib.hid hz
                  replace hp := Lib.hid hp
                  go_wp2
                  try simp only [Act.put, List.setIfInBounds_toArray, List.set_cons_zero, List.set_cons_succ]
                  refine wp_region_quiet_lit (by kernel_rfl) (by kernel_rfl) ?_
                  repeat (first
                    | go_big_quiet_skip
                    | go_big_quiet_step (fail))
                  refine wpQuiet_nil ?_
                  first | rintro _ ⟨nq2, rfl⟩ | intro nq2
                  have hb11 : Below w10.heap.size w10 ((w10.drewN nq2).alloc (.cells #[.int .i64 (i : Int)] 3)) := (below_drewN (Below.refl _ _) nq2).alloc (Nat.le_refl _) _
                  have h11 := Lib.hid (h10.out.below hb hb11)
                  have hrow11 : RowAt ((w10.drewN nq2).alloc (.cells #[.int .i64 (i : Int)] 3)) (w10.heap.size + 1) 1 eInt (some ⟨w10.heap.size, 0, none⟩) [(i : Int)] := row_new (w10.drewN nq2) 3 1 eInt (i : Int) #[.int .i64 (i : Int)] rfl
                  have z11 := h11.out.lt
                  go_wp2_with (first
                    | (refine wpList_append_rows _ rfl (.tmp 120) (.tmp 122) 27 rfl (w.heap.size + 2) 3 1 8 (.int .i64 0) Try.underlying27 info3 (by rfl) (by omega) eInt len_eInt one_eInt T cT x.trans (some ⟨w10.heap.size, 0, none⟩) 1 (w10.heap.size + 1) x.trans.length 1 [(i : Int)] (by rfl) (by rfl) rfl rfl h11.out.tr hrow11 (by omega) (by omega) z11 ?_
                       intro T' cT' w12 ho12 hg12 hT12
                       have h12 := Lib.hid (h11.out.tpush hb ho12 hg12))
                    | fail)
                  go_roundw
                  case rel => exact ⟨i + 1, _, A', c', T', cT', by go_num, by omega, hgo2, rfl, by rw [List.length_append]; rfl, h12.out⟩
                  case measure => go_light; simp [intOf]; omega
                · have pe : vidEq ⟨(s.lt i).w.prev.e, (s.lt i).w.prev.l, (s.lt i).w.prev.i, (s.lt i).w.prev.c⟩ ⟨s.own.prev.e, s.own.prev.l, s.own.prev.i, s.own.prev.c⟩ = false := decide_eq_false hp
                  have hgo2 : Hid (s.agTo (i + 1) = some ⟨max x.top (s.wishOf i).top, x.mem ++ [⟨i, nth s.own.set i, nth s.own.vec i⟩], x.trans⟩) := Lib.hid (by rw [hgo.out, if_neg (by rw [hwish.out]; intro o; rcases o with o | o; exact hs.out o; exact hp o.2)])
                  replace hz := Lib.hid hz
                  replace hp := Lib.hid hp
                  go_wp2
                  try simp only [Act.put, List.setIfInBounds_toArray, List.set_cons_zero, List.set_cons_succ]
                  refine wp_region_quiet_lit (by kernel_rfl) (by kernel_rfl) ?_
                  repeat (first
                    | go_big_quiet_skip
                    | go_big_quiet_step (fail))
                  refine wpQuiet_nil ?_
                  first | rintro _ ⟨nq2, rfl⟩ | intro nq2
                  go_wp2
                  go_roundw
                  case rel => exact ⟨i + 1, _, A', c', T, cT, by go_num, by omega, hgo2, rfl, rfl, h10.out.below hb (below_drewN (Below.refl _ _) nq2)⟩
                  case measure => go_light; simp [intOf]; omega
            · have e3 : ((s.lt i).w.vec == s.own.vec) = false := by simp [h2]
              have rn := fun W : World => run_neq_arr W (s.lt i).w.vec s.own.vec hul hol
              have hno := Lib.hid (agreed_stop hlt hx.out h0.out (.inr (by rw [hwish.out]; exact h2)))
              replace h1 := Lib.hid h1
              replace h2 := Lib.hid h2
              have hwl : WLen s.own := ⟨hR.at_.l1, hR.at_.l2⟩
              have hlw := hR.lt
              have hbl := hR.bel
              have qv := rangeAt_cell hR.at_.vec (nth_some (l := s.own.vec) (k := i) (by rw [hR.at_.l2]; omega))
              obtain ⟨hlm, hlq⟩ := agTo_len hx.out
              replace hR := Lib.hid hR
              go_wp2_with (first
                | (refine wpList_load96 rfl (.tmp 39) rfl b 4 (by rfl) s.own hR.out.at_.wish hwl ?_)
                | (refine wpList_alloc96 rfl rfl ?_)
                | (refine wpList_store96 rfl (.tmp 9) (.tmp 40) rfl wr.heap.size 0 (by rfl) s.own (by rfl) (by exact there_new96 _ _ wlen_zero) hwl ?_
                   intro w4 hw4
                   have hb4 : Below wr.heap.size wr w4 := by rw [hw4.out]; exact below_sets ((Below.refl _ _).alloc (Nat.le_refl _) _) (Nat.le_refl _) _ _ (by simp)
                   have z4 : wr.heap.size < w4.heap.size := by rw [hw4.out, size_sets]; simp
                   have v4 : WVar w4 wr.heap.size s.own := by rw [hw4.out]; exact (WVar.new wr Wish.zero wlen_zero).put hwl
                   have h4 := Lib.hid (hR.out.below hb hb4)
                   have k1 := h4.out.at_.self
                   replace v4 := Lib.hid v4
                   replace hb4 := Lib.hid hb4
                   clear qs qv)
                | (refine wpList_load96 rfl (.tmp 52) rfl b (43 + i * 40 + 1) (by rfl) (s.lt i).w (lt_parts.1 (h4.out.at_.other hi16)).2 hwl2 ?_)
                | (refine wpList_store96 rfl (.tmp 9) (.tmp 53) rfl wr.heap.size 0 (by rfl) (s.lt i).w (by rfl) v4.out.there hwl2 ?_
                   intro w5 hw5
                   have hb5 : Below wr.heap.size wr w5 := by rw [hw5.out]; exact below_sets hb4.out (Nat.le_refl _) _ _ (by omega)
                   have z5 : wr.heap.size < w5.heap.size := by rw [hw5.out, size_sets]; exact z4
                   have v5 : WVar w5 wr.heap.size (s.lt i).w := by rw [hw5.out]; exact v4.out.put hwl2
                   have h5 := Lib.hid (hR.out.below hb hb5)
                   replace v5 := Lib.hid v5
                   replace hb5 := Lib.hid hb5
                   clear k1)
                | fail)
              have k5 := rangeAt_cell h5.out.at_.vec (nth_some (l := s.own.vec) (k := i) (by rw [h5.out.at_.l2]; omega))
              try simp only [Act.put, List.setIfInBounds_toArray, List.set_cons_zero, List.set_cons_succ]
              refine wp_region_quiet_lit (by kernel_rfl) (by kernel_rfl) ?_
              repeat (first
                | go_big_quiet_skip
                | (refine wpQuiet_load94 (by rfl) (.tmp 63) rfl wr.heap.size 16 (by rfl) _ v5.out.cells.2.1 hul ?_; go_simp)
                | (refine wpQuiet_load94 (by rfl) (.tmp 68) rfl b 20 (by rfl) _ h5.out.at_.vec hol ?_; go_simp)
                | go_big_quiet_step (fail))
              refine wpQuiet_nil ?_
              first | rintro _ ⟨nq, rfl⟩ | intro nq
              go_wp2_with (first
                | (refine wpList_store46 rfl (.tmp 2) (.tmp 72) rfl w.heap.size 0 (by rfl) Vid.zero none 0 0 (by rfl) (by exact h5.out.out) ?_; intro w7 hw7)
                | fail)
              have ht5 : (w5.drewN nq).there w.heap.size 0 5 := there_below h5.out.out (below_drewN (Below.refl w5.heap.size w5) nq) (by have := h5.out.lt; omega)
              have v7 : ViAt w7 w.heap.size Vid.zero none 0 0 := by rw [hw7.out]; exact viAt_put (w := w5.drewN nq) (v := Vid.zero) (A := none) (n := 0) (c := 0) ht5
              have z7 := h5.out.lt
              have hb7 : Below w.heap.size w w7 := by rw [hw7.out]; exact below_sets (below_drewN h5.out.bel nq) (Nat.le_refl _) _ _ (by show w.heap.size ≤ w5.heap.size; omega)
              exact bodyPost_ret (res_cell_tmp_tmp (p := 2) (u := 3) (u' := 4) (ty := 46) rfl rfl v7.load) rfl (none_post hno.out hb7)
    · obtain rfl : i = s.n := by omega
      have hpos : 0 < x.mem.length := List.length_pos_iff.2 (agTo_me hI hI.self hx.out)
      obtain ⟨hlm, hlq⟩ := agTo_len hx.out
      obtain ⟨htop1, htop2⟩ := agTo_top hI hx.out
      have hwr : IntKind.i64.wrap (x.top + 1) = x.top + 1 := by rw [IntKind.wrap_i64]; omega
      obtain ⟨g, o, m, hA, hg, hm, c0, c1, c2⟩ := (hR.own.row len_eMb).mb hpos
      rw [Nat.zero_mul, Nat.add_zero] at c0 c1 c2
      have hvid : x.vid = ⟨x.top + 1, m.p, m.i, m.c⟩ := by
        have := hm.out
        unfold Ag.vid
        cases hq : x.mem with
        | nil => rw [hq] at this; simp at this
        | cons y r => rw [hq] at this; simp at this; subst this; rfl
      have hlw := hR.lt
      have kc := hR.vi.cm
      have hyes := Lib.hid (show s.agreed = some x by rw [hag.out]; exact hx.out)
      replace hvid := Lib.hid hvid
      replace hR := Lib.hid hR
      rw [hA] at kc
      have hbw : Below wr.heap.size wr (wr.alloc (.cells #[.int .i64 0, .int .i64 0, .int .i64 0] 43)) := (Below.refl _ _).alloc (Nat.le_refl _) _
      have htn : (wr.alloc (.cells #[.int .i64 0, .int .i64 0, .int .i64 0] 43)).there wr.heap.size 0 3 := there_new wr #[.int .i64 0, .int .i64 0, .int .i64 0] 43
      replace hA := Lib.hid hA
      go_wp2_with (first
        | (refine wpList_store_mid rfl 43 (.tmp 10) (.tmp 128) rfl wr.heap.size 0 #[.int .i64 m.p, .int .i64 m.i, .int .i64 m.c] (by rfl) (by rfl) htn (by kernel_rfl) (one_ints3 _ _ _) ?_
           obtain ⟨w3, hw3⟩ : ∃ w3, w3 = (wr.alloc (.cells #[.int .i64 0, .int .i64 0, .int .i64 0] 43)).setCells wr.heap.size 0 #[.int .i64 m.p, .int .i64 m.i, .int .i64 m.c].toList := ⟨_, rfl⟩
           rw [← hw3]
           have hb3 : Below wr.heap.size wr w3 := by rw [hw3]; exact below_sets hbw (Nat.le_refl _) _ _ (by simp)
           have h3 := Lib.hid (hR.out.below hb hb3)
           have r3 : w3.rangeAt wr.heap.size 0 #[.int .i64 m.p, .int .i64 m.i, .int .i64 m.c].toList := by rw [hw3]; exact World.rangeAt_setCells_same _ _ _ _ htn
           have d0 := r3 0 _ rfl
           have d1 := r3 1 _ rfl
           have d2 := r3 2 _ rfl
           replace hw3 := Lib.hid hw3
           replace r3 := Lib.hid r3
           clear c0 c1 c2 kc)
        | (refine wpList_store_mid rfl 29 (.tmp 138) (.tmp 137) rfl (w.heap.size + 1) 0 #[.int .i64 (x.top + 1), .int .i64 m.p, .int .i64 m.i, .int .i64 m.c] (by rfl) (by rfl) (World.there.at h3.out.vi.there (by show 0 + 4 ≤ 5; omega)) (by kernel_rfl) (one_ints4 _ _ _ _) ?_
           obtain ⟨w4, hw4⟩ : ∃ w4, w4 = w3.setCells (w.heap.size + 1) 0 #[.int .i64 (x.top + 1), .int .i64 m.p, .int .i64 m.i, .int .i64 m.c].toList := ⟨_, rfl⟩
           rw [← hw4]
           have v4 : ViAt w4 (w.heap.size + 1) x.vid A x.mem.length c := by
             rw [hw4, hvid.out]
             have hr := World.rangeAt_setCells_same w3 (w.heap.size + 1) 0 #[.int .i64 (x.top + 1), .int .i64 m.p, .int .i64 m.i, .int .i64 m.c].toList (World.there.at h3.out.vi.there (by show 0 + 4 ≤ 5; omega))
             exact ⟨hr 0 _ rfl, hr 1 _ rfl, hr 2 _ rfl, hr 3 _ rfl, cell_out h3.out.vi.cm (.inr (by show 0 + 4 ≤ 4; omega)), World.there_setCells h3.out.vi.there _ _ _⟩
           replace v4 := Lib.hid v4
           replace hw4 := Lib.hid hw4
           clear d0 d1 d2)
        | (refine wpList_loadR rfl 46 (.tmp 5) rfl (w.heap.size + 1) 0 (by rfl) _ v4.out.load ?_)
        | (refine wpList_store46 rfl (.tmp 2) (.tmp 139) rfl w.heap.size 0 (by rfl) x.vid A x.mem.length c (by rfl) (by rw [hw4.out]; exact World.there_setCells h3.out.out _ _ _) ?_; intro w5 hw5)
        | fail)
      have ht4 : w4.there w.heap.size 0 5 := by rw [hw4.out]; exact World.there_setCells h3.out.out _ _ _
      have v5 : ViAt w5 w.heap.size x.vid A x.mem.length c := by rw [hw5.out]; exact viAt_put (w := w4) (v := x.vid) (A := A) (n := x.mem.length) (c := c) ht4
      have g4 : w3.grownBy w4 (some (w.heap.size + 1)) := by rw [hw4.out]; exact grown_sets _ _ _ _
      have g5 : w4.grownBy w5 (some w.heap.size) := by rw [hw5.out]; exact grown_sets _ _ _ _
      have z3 := h3.out.lt
      have z4 := g4.size
      have b5 : Below w.heap.size w w5 := (h3.out.bel.grown g4 (by omega) (by intro k hk; injection hk with hk; omega)).grown g5 (by omega) (by intro k hk; injection hk with hk; omega)
      have o5 := (h3.out.own.kept g4 (.inr (by intro e; have := (h3.out.own.lo _ e).1; omega))).kept g5 (.inr (by intro e; have := (h3.out.own.lo _ e).1; omega))
      have t5 := (h3.out.tr.kept g4 (.inr (by intro e; have := (h3.out.tr.lo _ e).1; omega))).kept g5 (.inr (by intro e; have := (h3.out.tr.lo _ e).1; omega))
      refine bodyPost_ret (res_cell_tmp_tmp (p := 2) (u := 3) (u' := 4) (ty := 46) rfl rfl v5.load) rfl ⟨fun e => ?_, fun a e => ?_, b5⟩
      · rw [hyes.out] at e; cases e
      · rw [hyes.out] at e; injection e with e; subst e
        exact ⟨A, c, T, cT, rfl, (o5.rowN len_eMb).low (by omega), (t5.rowN len_eInt).low (by omega)⟩
theorem agreed_any (b : Nat) (s : St) (M : Option Addr) (cM : Nat) (w : World) (h : AgAt w b s M cM) (hb : b < w.heap.size) (hI : Inv s) :
    Calls Try.prog 50 #[.pointer (some ⟨b, 0, none⟩)] w (AgPost w s) := by
  cases ho : s.opn with
  | false => exact agreed_shut b s M cM w h hb ho
  | true => exact agreed_open b s M cM w h hb hI ho
end Go.Proofs.Ytfbeggdbjpmppaa
namespace Go.Proofs.Ytfbeggdbjpmppaa
open Go.RowKit
theorem RowAt.hd {w : World} {N : Nat} {A : Option Addr} {l : List HdR} (h : RowAt w N 11 eHd A l) {k : Nat} (hk : k < l.length) :
    ∃ b off r, A = some ⟨b, off, none⟩ ∧ b < N ∧ Hid (l[k]? = some r) ∧ w.rangeAt b (off + k * 11) (eHd r) := by
  obtain ⟨b, off, e, hb, hc⟩ := h (by omega)
  have hx := List.getElem?_eq_getElem hk
  exact ⟨b, off, l[k], e, hb, hx, fun j u hu => hc k _ hx j u hu⟩
end Go.Proofs.Ytfbeggdbjpmppaa
