/- RAgr, joined. -/
import Derived.Test.YtfbeggdbjpmppaaMw8
import Derived.Test.YtfbeggdbjpmppaaMw10
set_option linter.unusedVariables false
set_option linter.unusedSimpArgs false
/- The document's Agreed. -/
namespace Go.Proofs.Ytfbeggdbjpmppaa
open Go.RowKit
/-- What a round finds: the view that is being made, the list. -/
structure RgR (w0 : World) (v : Nat) (ms : List Mb) (A : Option Addr) (c : Nat) (ts : List Int) (T : Option Addr) (cT : Nat) (w : World) : Prop where
  out : w.there w0.heap.size 0 5
  vi : ViAt w v Vid.zero A ms.length c
  own : Owns w (v + 1) 43 3 eMb A c ms
  tr : Owns w (v + 1) 3 1 eInt T cT ts
  bel : Below w0.heap.size w0 w
  lt : v + 1 ≤ w.heap.size
section
variable {w0 w w' w'' : World} {v : Nat} {ms : List Mb} {A : Option Addr} {c : Nat} {ts : List Int} {T : Option Addr} {cT : Nat}
theorem RgR.below (h : RgR w0 v ms A c ts T cT w) (hv : w0.heap.size < v) (hw : Below w.heap.size w w') : RgR w0 v ms A c ts T cT w' := by
  have hl := h.lt
  exact ⟨there_below h.out hw (by omega), h.vi.same (hw.block _ (by omega)), h.own.keep hw (fun k hk => (h.own.lo k hk).2), h.tr.keep hw (fun k hk => (h.tr.lo k hk).2), h.bel.trans (hw.mono (by omega)), Nat.le_trans hl hw.size⟩
theorem RgR.push (h : RgR w0 v ms A c ts T cT w) (hv : w0.heap.size < v) {ms' : List Mb} {A' : Option Addr} {c' : Nat} (ho : Owns w' (v + 1) 43 3 eMb A' c' ms') (hg : w.grownBy w' (blk A)) :
    RgR w0 v ms' A' c' ts T cT (w'.setCells v 4 [.slice A' ms'.length c']) := by
  have hl := h.lt
  have hs := hg.size
  have hno : ∀ k, k < v + 1 → w'.heap[k]? = w.heap[k]? := fun k hk => hg.block k (by omega) (fun e => by have := h.own.lo k e.symm; omega)
  have hg2 := grown_sets v [.slice A' ms'.length c'] 4 w'
  refine ⟨World.there_setCells (fun j hj => ?_) _ _ _, (h.vi.same (hno _ (by omega))).setM A' ms'.length c', ho.kept hg2 ?_, (h.tr.kept hg (h.tr.ne h.own (by decide))).kept hg2 ?_, ?_, by rw [size_sets]; omega⟩
  · have hc : ∀ o, w'.cell? ⟨w0.heap.size, o, none⟩ = w.cell? ⟨w0.heap.size, o, none⟩ := fun o => World.cell?_of_block (hno w0.heap.size (by omega))
    have hf : ∀ o, w'.frozen? ⟨w0.heap.size, o, none⟩ = w.frozen? ⟨w0.heap.size, o, none⟩ := fun o => World.frozen?_of_block (hno w0.heap.size (by omega))
    rw [hc, hf]; exact h.out j hj
  · right; intro e; have := (ho.lo _ e).1; omega
  · right; intro e; have := (h.tr.lo _ e).1; omega
  · refine below_sets (h.bel.grown hg (by have := h.bel.size; omega) ?_) (by omega) _ _ (by omega)
    intro k hk; have := (h.own.lo k hk).1; omega
theorem RgR.tpush (h : RgR w0 v ms A c ts T cT w) (hv : w0.heap.size < v) {ts' : List Int} {T' : Option Addr} {cT' : Nat} (ho : Owns w' (v + 1) 3 1 eInt T' cT' ts') (hg : w.grownBy w' (blk T)) :
    RgR w0 v ms A c ts' T' cT' w' := by
  have hl := h.lt
  have hs := hg.size
  have hno : ∀ k, k < v + 1 → w'.heap[k]? = w.heap[k]? := fun k hk => hg.block k (by omega) (fun e => by have := h.tr.lo k e.symm; omega)
  refine ⟨fun j hj => ?_, h.vi.same (hno _ (by omega)), h.own.kept hg (h.own.ne h.tr (by decide)), ho, ?_, by omega⟩
  · have hc : ∀ o, w'.cell? ⟨w0.heap.size, o, none⟩ = w.cell? ⟨w0.heap.size, o, none⟩ := fun o => World.cell?_of_block (hno w0.heap.size (by omega))
    have hf : ∀ o, w'.frozen? ⟨w0.heap.size, o, none⟩ = w.frozen? ⟨w0.heap.size, o, none⟩ := fun o => World.frozen?_of_block (hno w0.heap.size (by omega))
    rw [hc, hf]; exact h.out j hj
  · refine h.bel.grown hg (by have := h.bel.size; omega) ?_
    intro k hk; have := (h.tr.lo k hk).1; omega
end
/-- The worlds of the region that appends a member. -/
structure RgS (w0 : World) (v : Nat) (A : Option Addr) (n c : Nat) (w : World) : Prop where
  bel : Below w0.heap.size w0 w
  vi : ViAt w v Vid.zero A n c
/-- Where there is an agreement, each round goes on. -/
theorem agTo_some {s : St} {a : Ag} (h : s.agreed = some a) {i : Nat} (hi : i ≤ s.n) : ∃ x, s.agTo i = some x := by
  cases hx : s.agTo i with
  | some x => exact ⟨x, rfl⟩
  | none =>
    unfold St.agreed at h
    rw [agTo_none hx hi] at h
    simp at h
theorem agTo_ok {s : St} {a : Ag} (h : s.agreed = some a) {i : Nat} {x : Ag} (hi : i < s.n) (hx : s.agTo i = some x) (h0 : nth s.own.set i ≠ 0) : nth s.own.vec i ≠ 0 ∧ (s.wishOf i).vec = s.own.vec := by
  refine ⟨fun e => ?_, Classical.byContradiction fun e => ?_⟩
  · rw [agreed_stop hi hx h0 (.inl e)] at h; cases h
  · rw [agreed_stop hi hx h0 (.inr e)] at h; cases h
set_option maxRecDepth 100000 in
set_option maxHeartbeats 1000000 in
theorem ragreed_none (b : Nat) (F : List Nat) (s : St) (hs : List HdR) (X : Ptrs) (w : World) (h : RefAt w b F s hs X) (hI : Inv s) (hR : RInv s) (hlen : hs.length ≤ 1000000) (hno : s.agreed = none) :
    Calls Try.prog 63 #[.pointer (some ⟨b, 0, none⟩)] w (AgPost w s) := by
  obtain ⟨w1, hw1⟩ : ∃ w1, w1 = w.alloc (.cells (viewA Vid.zero none 0 0) 46) := ⟨_, rfl⟩
  have b1 : Below w.heap.size w w1 := by rw [hw1]; exact below_box1 _ _ _
  have z1 : w1.heap.size = w.heap.size + 1 := by rw [hw1]; simp
  have t1 : w1.there w.heap.size 0 5 := by rw [hw1]; exact there_new w (viewA Vid.zero none 0 0) 46
  have h1 := h.below b1
  have hsm := Lib.hid (show s.agreed.isSome = false by rw [hno]; rfl)
  replace hno := Lib.hid hno
  replace h := Lib.hid h
  replace h1 := Lib.hid h1
  replace hw1 := Lib.hid hw1
  replace t1 := Lib.hid t1
  replace hI := Lib.hid hI
  replace hR := Lib.hid hR
  go_enter Try.func63, Try.ntmps63
  go_wp2_with (first
    | (rw [← hw1.out]
       go_at_call 77
       refine (ragm_any b F s hs X w1 h1.out hI.out hR.out hlen).mono ?_
       rintro e w2 ⟨rfl, hb2⟩
       rw [hsm.out]
       have z2 := hb2.size
       have b2 := b1.trans (hb2.mono (by omega))
       have t2 := there_below t1.out hb2 (by omega)
       replace b2 := Lib.hid b2
       replace t2 := Lib.hid t2)
    | (refine wpList_store46 rfl (.tmp 2) (.tmp 18) rfl w.heap.size 0 (by rfl) Vid.zero none 0 0 (by rfl) t2.out ?_; intro w7 hw7)
    | fail)
  have v7 : ViAt w7 w.heap.size Vid.zero none 0 0 := by rw [hw7.out]; exact viAt_put (w := w2) (v := Vid.zero) (A := none) (n := 0) (c := 0) t2.out
  exact bodyPost_ret (res_cell_tmp_tmp (p := 2) (u := 3) (u' := 4) (ty := 46) rfl rfl v7.load) rfl (none_post hno.out (by rw [hw7.out]; exact below_sets b2.out (Nat.le_refl _) _ _ (by omega)))
theorem if_off {c : Bool} {P Q : Prop} (h : c = false) (hq : Q) : if c = true then P else Q := by rw [h]; exact hq
theorem agTo_ge {s : St} : ∀ {i : Nat} {x : Ag}, s.agTo i = some x → s.own.top ≤ x.top
  | 0, x, e => by cases e; exact Int.le_refl _
  | i + 1, x, e => by
    rw [St.agTo] at e
    obtain ⟨y, hy, hs⟩ := Option.bind_eq_some_iff.1 e
    have ih := agTo_ge hy
    unfold St.agStep at hs
    split at hs
    · cases hs; exact ih
    · split at hs
      · cases hs
      · cases hs; show s.own.top ≤ max _ _; omega
theorem load31 {w : World} {g o : Nat} {S : Option Addr} {nS cS : Nat} {V : Option Addr} {nV cV : Nat} {p : Pr} (h : w.rangeAt g o (prV S nS cS V nV cV p).toList) : (loadVar 31 ⟨g, o, none⟩).run Try.prog w = .ok (.agg (prV S nS cS V nV cV p)) w := by
  have h0 : w.cell? ⟨g, o, none⟩ = some (.slice S nS cS) := h 0 _ rfl
  have h1 := h 1 _ rfl
  have h2 := h 2 _ rfl
  have h3 := h 3 _ rfl
  have h4 := h 4 _ rfl
  have h5 := h 5 _ rfl
  have h6 := h 6 _ rfl
  have h7 := h 7 _ rfl
  have h8 := h 8 _ rfl
  clear h
  go_simp
set_option maxRecDepth 100000 in
set_option maxHeartbeats 16000000 in
theorem ragreed_some (b : Nat) (F : List Nat) (s : St) (hs : List HdR) (X : Ptrs) (w : World) (h : RefAt w b F s hs X) (hI : Inv s) (hR0 : RInv s) (hlen : hs.length ≤ 1000000) (a : Ag) (ha : s.agreed = some a) :
    Calls Try.prog 63 #[.pointer (some ⟨b, 0, none⟩)] w (AgPost w s) := by
  obtain ⟨w1, hw1⟩ : ∃ w1, w1 = w.alloc (.cells (viewA Vid.zero none 0 0) 46) := ⟨_, rfl⟩
  have b1 : Below w.heap.size w w1 := by rw [hw1]; exact below_box1 _ _ _
  have z1 : w1.heap.size = w.heap.size + 1 := by rw [hw1]; simp
  have t1 : w1.there w.heap.size 0 5 := by rw [hw1]; exact there_new w (viewA Vid.zero none 0 0) 46
  have h1 := h.below b1
  have hbl := h.bl
  have hn16 := hI.n2
  have hsm := Lib.hid (show s.agreed.isSome = true by rw [ha]; rfl)
  have hag : s.agreed = s.agTo s.n := by
    unfold St.agreed at ha ⊢
    cases hop : s.opn with
    | true => rfl
    | false => rw [hop] at ha; simp at ha
  obtain ⟨H, hH⟩ : ∃ H, H = hs.map (·.h) := ⟨_, rfl⟩
  have hHk : ∀ k, H[k]? = hs[k]?.map HdR.h := fun k => by rw [hH, List.getElem?_map]
  have hHl : H.length = hs.length := by rw [hH, List.length_map]
  have hrep : Rep s H := by rw [hH]; exact h.rep
  replace hrep := Lib.hid hrep
  replace hHk := Lib.hid hHk
  replace hHl := Lib.hid hHl
  replace hH := Lib.hid hH
  replace ha := Lib.hid ha
  replace hag := Lib.hid hag
  replace h := Lib.hid h
  replace h1 := Lib.hid h1
  replace hw1 := Lib.hid hw1
  replace t1 := Lib.hid t1
  replace hI := Lib.hid hI
  replace hR0 := Lib.hid hR0
  go_enter Try.func63, Try.ntmps63
  go_wp2_with (first
    | (rw [← hw1.out]
       go_at_call 77
       refine (ragm_any b F s hs X w1 h1.out hI.out hR0.out hlen).mono ?_
       rintro e w2 ⟨rfl, hb2⟩
       rw [hsm.out]
       have z2 := hb2.size
       have b2 := b1.trans (hb2.mono (by omega))
       have t2 := there_below t1.out hb2 (by omega)
       have h2 := h.out.below b2
       have q12 := h2.top
       have ht3 := there_new w2 (viewA Vid.zero none 0 0) 46
       have b3 : Below w2.heap.size w2 (w2.alloc (.cells (viewA Vid.zero none 0 0) 46)) := (Below.refl _ _).alloc (Nat.le_refl _) _
       obtain ⟨v, hv⟩ : ∃ v, v = w2.heap.size := ⟨_, rfl⟩
       replace ht3 := Lib.hid ht3
       replace b2 := Lib.hid b2
       replace t2 := Lib.hid t2
       replace h2 := Lib.hid h2
       replace b3 := Lib.hid b3
       replace hv := Lib.hid hv)
    | (refine wpList_store46 rfl (.tmp 6) (.tmp 19) rfl w2.heap.size 0 (by rfl) Vid.zero none 0 0 (by rfl) ht3.out ?_; intro w3 hw3
       have b23 : Below w2.heap.size w2 w3 := by rw [hw3.out]; exact below_sets b3.out (Nat.le_refl _) _ _ (by simp)
       have z3 : w3.heap.size = w2.heap.size + 1 := by rw [hw3.out, size_sets, World.size_alloc]
       have h3 := h2.out.below b23
       have q13 := h3.top
       clear q12
       have hR0' : RgR w v [] none 0 [] none 0 w3 := by
         rw [hv.out]
         exact ⟨there_below t2.out b23 (by omega), by rw [hw3.out]; exact viAt_put ht3.out, owns_nil _ _ _ _ _, owns_nil _ _ _ _ _, b2.out.trans (b23.mono (by omega)), by omega⟩
       have hv0 : w.heap.size < v := by rw [hv.out]; omega
       replace hR0' := Lib.hid hR0'
       replace h3 := Lib.hid h3
       clear b23)
    | fail)
  rw [← hv.out]
  clear q13
  go_loopw [7, 8, 9] (fun t7 t8 k wr => ∃ i x A c T cT, k = .int .i64 ((i : Nat) : Int) ∧ i ≤ s.n ∧ Hid (s.agTo i = some x) ∧ t8 = .int .i64 x.top ∧ t7 = .slice T x.trans.length cT ∧ RgR w v x.mem A c x.trans T cT wr) (fun _ _ k _ => s.n - (intOf k).toNat)
  case atStart => exact ⟨0, ⟨s.own.top, [], []⟩, none, 0, none, 0, rfl, by omega, Lib.hid rfl, rfl, rfl, hR0'.out⟩
  case round =>
    obtain ⟨i, x, A, c, T, cT, rfl, hi, hx, rfl, rfl, hR⟩ := hrel
    have hr := h.out.below hR.bel
    have k0 := hr.n
    by_cases hlt : i < s.n
    · have hi16 : i < 16 := by omega
      obtain ⟨⟨gS, oS, hSe, hgS, cs⟩, ⟨gV, oV, hVe, hgV, cv⟩⟩ := own_at hr hI.out hlt
      have k9 := hr.set
      rw [hSe] at k9
      by_cases h0 : nth s.own.set i = 0
      · have hsk := Lib.hid (agTo_skip hx.out h0)
        rw [h0] at cs
        replace h0 := Lib.hid h0
        replace hR := Lib.hid hR
        replace hr := Lib.hid hr
        replace hSe := Lib.hid hSe
        replace hVe := Lib.hid hVe
        go_wp2
        go_roundw
        case rel => exact ⟨i + 1, x, A, c, T, cT, by go_num, by omega, hsk.out, rfl, rfl, hR.out⟩
        case measure => go_light; simp [intOf]; omega
      · have e0 : (nth s.own.set i == 0) = false := by simp [h0]
        obtain ⟨hv1, hv2⟩ := agTo_ok ha.out hlt hx.out h0
        have hgo := agTo_go hx.out h0 hv1 hv2
        have hlw := hR.lt
        obtain ⟨hlm, hlq⟩ := agTo_len hx.out
        have hS6 : RgS w v A x.mem.length c wr.drew := ⟨Below.drew hR.bel, hR.vi.same rfl⟩
        have hr6 := hR.below hv0 (Below.drew (Below.refl _ _))
        have hC : ∀ x' : Prop, (∀ W, RgS w v A x.mem.length c W → x') ↔ x' := fun x' => ⟨fun f => f _ hS6, fun f _ _ => f⟩
        have LL : ∀ W, RgS w v A x.mem.length c W → W.cell? ⟨b, 9, none⟩ = some (.slice (some ⟨gS, oS, none⟩) s.n X.cS) ∧ W.cell? ⟨gS, oS + i, none⟩ = some (.int .i64 (nth s.own.set i)) ∧ W.cell? ⟨b, 17, none⟩ = some (.slice (some ⟨gV, oV, none⟩) s.n X.cV) ∧ W.cell? ⟨gV, oV + i, none⟩ = some (.int .i64 (nth s.own.vec i)) := fun W hW => by
          have hw := h.out.below hW.bel
          obtain ⟨⟨g1, o1, e1, _, c1⟩, ⟨g2, o2, e2, _, c2⟩⟩ := own_at hw hI.out hlt
          rw [hSe] at e1; injection e1 with e1; injection e1 with e1 e1'; subst e1 e1'
          rw [hVe] at e2; injection e2 with e2; injection e2 with e2 e2'; subst e2 e2'
          exact ⟨by rw [← hSe]; exact hw.set, c1, by rw [← hVe]; exact hw.vec, c2⟩
        have L43 : ∀ W, RgS w v A x.mem.length c W → (loadVar 44 ⟨v, 4, none⟩).run Try.prog W = .ok (.slice A x.mem.length c) W := fun W hW => load44 hW.vi.cm
        have L49 : ∀ W, RgS w v A x.mem.length c W → (loadVar 27 ⟨b, 9, none⟩).run Try.prog W = .ok (.slice (some ⟨gS, oS, none⟩) s.n X.cS) W := fun W hW => load27 (LL W hW).1
        have L52 : ∀ W, RgS w v A x.mem.length c W → (loadVar 3 ⟨gS, oS + i, none⟩).run Try.prog W = .ok (.int .i64 (nth s.own.set i)) W := fun W hW => load3 (LL W hW).2.1
        have L57 : ∀ W, RgS w v A x.mem.length c W → (loadVar 27 ⟨b, 17, none⟩).run Try.prog W = .ok (.slice (some ⟨gV, oV, none⟩) s.n X.cV) W := fun W hW => load27 (LL W hW).2.2.1
        have L60 : ∀ W, RgS w v A x.mem.length c W → (loadVar 3 ⟨gV, oV + i, none⟩).run Try.prog W = .ok (.int .i64 (nth s.own.vec i)) W := fun W hW => load3 (LL W hW).2.2.2
        obtain ⟨w6, hw6⟩ : ∃ w6, w6 = wr.drew := ⟨_, rfl⟩
        rw [← hw6] at hS6 hr6
        have z6 : v + 1 ≤ w6.heap.size := hr6.lt
        clear LL
        replace L43 := Lib.hid L43
        replace L49 := Lib.hid L49
        replace L52 := Lib.hid L52
        replace L57 := Lib.hid L57
        replace L60 := Lib.hid L60
        replace hS6 := Lib.hid hS6
        replace hr6 := Lib.hid hr6
        replace hw6 := Lib.hid hw6
        replace hgo := Lib.hid hgo
        replace hv2 := Lib.hid hv2
        replace h0 := Lib.hid h0
        replace hR := Lib.hid hR
        replace hr := Lib.hid hr
        replace hSe := Lib.hid hSe
        replace hVe := Lib.hid hVe
        have hilt : (i : Int) < (s.n : Int) := by omega
        have hige : (0 : Int) ≤ (i : Int) := by omega
        go_wp2_with fail
        clear k0 k9 cs cv
        try simp only [Act.put, List.setIfInBounds_toArray, List.set_cons_zero, List.set_cons_succ]
        refine wp_region_ordz 23 [([0, 1, 2, 3, 4, 5, 6, 7, 8, 9, 10, 11, 12, 13, 14, 15, 16, 17, 18, 19], 20), ([], 21), ([22], 23)] [] (RgS w v A x.mem.length c) rfl (by kernel_rfl) rfl (by rw [← hw6.out]; exact hS6.out) ?_
        rw [← hw6.out]
        refine WO.seg rfl ?_ hS6.out
        simp only [picks, pick, List.cons_append, List.nil_append, List.append_nil]
        repeat (first
          | go_big_quiet_skip
          | (refine wpQuiet_loadC (by rfl) 44 (.tmp 42) rfl v 4 (by rfl) _ L43.out ?_; simp only [Act.put, List.setIfInBounds_toArray, List.set_cons_zero, List.set_cons_succ])
          | (refine wpQuiet_loadC (by rfl) 27 (.tmp 48) rfl b 9 (by rfl) _ L49.out ?_; simp only [Act.put, List.setIfInBounds_toArray, List.set_cons_zero, List.set_cons_succ])
          | (refine wpQuiet_loadC (by rfl) 3 (.tmp 51) rfl gS (oS + i) (by rfl) _ L52.out ?_; simp only [Act.put, List.setIfInBounds_toArray, List.set_cons_zero, List.set_cons_succ])
          | (refine wpQuiet_loadC (by rfl) 27 (.tmp 56) rfl b 17 (by rfl) _ L57.out ?_; simp only [Act.put, List.setIfInBounds_toArray, List.set_cons_zero, List.set_cons_succ])
          | (refine wpQuiet_loadC (by rfl) 3 (.tmp 59) rfl gV (oV + i) (by rfl) _ L60.out ?_; simp only [Act.put, List.setIfInBounds_toArray, List.set_cons_zero, List.set_cons_succ])
          | go_big_quiet_step (fail))
        refine wpQuiet_nil ?_
        intro K hK
        go_simp
        obtain ⟨w8, hw8⟩ : ∃ w8, w8 = w6.alloc (.cells #[.int .i64 (i : Int), .int .i64 (nth s.own.set i), .int .i64 (nth s.own.vec i)] 43) := ⟨_, rfl⟩
        have hb8 : Below w6.heap.size w6 w8 := by rw [hw8]; exact (Below.refl _ _).alloc (Nat.le_refl _) _
        have h8 := Lib.hid (hr6.out.below hv0 hb8)
        have z8 : w6.heap.size < w8.heap.size := by rw [hw8]; simp
        have hS8 : RgS w v A x.mem.length c w8 := ⟨h8.out.bel, h8.out.vi⟩
        have hrow8 : RowAt w8 w8.heap.size 3 eMb (some ⟨w6.heap.size, 0, none⟩) [⟨(i : Int), nth s.own.set i, nth s.own.vec i⟩] := by
          have := row_new w6 43 3 eMb ⟨(i : Int), nth s.own.set i, nth s.own.vec i⟩ #[.int .i64 (i : Int), .int .i64 (nth s.own.set i), .int .i64 (nth s.own.vec i)] rfl
          rw [← hw8] at this
          exact this.more z8
        rw [← hw8]
        replace hw8 := Lib.hid hw8
        replace hS8 := Lib.hid hS8
        replace hrow8 := Lib.hid hrow8
        refine hK.out _ _ hS8.out ?_
        clear hK K
        refine WO.seg rfl ?_ hS8.out
        simp only [picks]
        refine wpQuiet_nil ?_
        intro K hK
        rw [if_pos (by rfl)]
        refine wp_append_rows w8 (.tmp 43) (.tmp 62) 44 rfl (v + 1) 43 3 24 mbZ Try.underlying44 info43 (by rfl) (by omega) eMb len_eMb one_eMb A c x.mem (some ⟨w6.heap.size, 0, none⟩) 1 w8.heap.size x.mem.length 1 _ (by rfl) (by rfl) rfl rfl h8.out.own hrow8.out (by omega) (by omega) h8.out.lt ?_
        intro A' c' w9 ho9 hg9 hA9
        have h8l := h8.out.lt
        have hno9 : ∀ k, k < v + 1 → w9.heap[k]? = w8.heap[k]? := fun k hk => hg9.block k (by omega) (fun e => by have := h8.out.own.lo k e.symm; omega)
        have hS9 : RgS w v A x.mem.length c w9 := ⟨h8.out.bel.grown hg9 (by omega) (fun k hk => by have := (h8.out.own.lo k hk).1; omega), hS8.out.vi.same (hno9 _ (by omega))⟩
        have h10 := h8.out.push hv0 ho9 hg9
        replace hS9 := Lib.hid hS9
        replace h10 := Lib.hid h10
        replace ho9 := Lib.hid ho9
        replace hg9 := Lib.hid hg9
        replace hno9 := Lib.hid hno9
        refine hK.out _ _ hS9.out ?_
        clear hK K
        refine WO.segz rfl ?_
        simp only [picks, pick, List.cons_append, List.nil_append, List.append_nil]
        try simp only [Act.put, List.setIfInBounds_toArray, List.set_cons_zero, List.set_cons_succ]
        repeat go_big_quiet_step (fail)
        refine wpQuiet_nil ?_
        intro K hK
        rw [if_pos (by rfl)]
        refine wp_store44 (.tmp 64) (.tmp 63) rfl rfl v 4 (by rfl) A' (x.mem.length + 1) c' (by rfl) (World.there.at hS9.out.vi.there (by omega)) ?_
        intro w10 hw10
        replace h10 : Hid (RgR w v (x.mem ++ [⟨(i : Int), nth s.own.set i, nth s.own.vec i⟩]) A' c' x.trans T cT w10) := by rw [hw10.out]; have := h10.out; rw [List.length_append] at this; exact Lib.hid this
        refine hK.out _ _ ?_
        clear hK K hC hw10 hS6 hS8 hS9 L43 L49 L52 L57 L60 ho9 hg9 hno9 hA9 h8 hrow8 hb8
        have hr10' := h.out.below h10.out.bel
        have k10 := hr10'.self
        have k10z := h10.out.lt
        replace hr10' := Lib.hid hr10'
        by_cases hs1 : i = s.self
        · have e1 : (((i : Nat) : Int) == (s.self : Int)) = true := by simp [hs1]
          have hwi : s.wishOf i = s.own := by unfold St.wishOf; rw [if_pos hs1]
          have hmx : max x.top (s.wishOf i).top = x.top := by
            rw [hwi]; have := agTo_ge hx.out; omega
          have hgo2 := Lib.hid (show s.agTo (i + 1) = some ⟨x.top, x.mem ++ [⟨i, nth s.own.set i, nth s.own.vec i⟩], x.trans ++ [(i : Int)]⟩ by rw [hgo.out, if_pos (.inl hs1), hmx])
          replace hs1 := Lib.hid hs1
          replace hwi := Lib.hid hwi
          replace hmx := Lib.hid hmx
          have hb11 : Below w10.heap.size w10 (w10.alloc (.cells #[.int .i64 (i : Int)] 3)) := (Below.refl _ _).alloc (Nat.le_refl _) _
          have h11 := Lib.hid (h10.out.below hv0 hb11)
          have hrow11 : RowAt (w10.alloc (.cells #[.int .i64 (i : Int)] 3)) (w10.heap.size + 1) 1 eInt (some ⟨w10.heap.size, 0, none⟩) [(i : Int)] := row_new w10 3 1 eInt (i : Int) #[.int .i64 (i : Int)] rfl
          have z11 := h11.out.lt
          replace hrow11 := Lib.hid hrow11
          replace hb11 := Lib.hid hb11
          go_wp2_with (first
            | (refine wpList_append_rows _ rfl (.tmp 71) (.tmp 73) 27 rfl (v + 1) 3 1 8 (.int .i64 0) Try.underlying27 info3 (by rfl) (by omega) eInt len_eInt one_eInt T cT x.trans (some ⟨w10.heap.size, 0, none⟩) 1 (w10.heap.size + 1) x.trans.length 1 [(i : Int)] (by rfl) (by rfl) rfl rfl h11.out.tr hrow11.out (by omega) (by omega) z11 ?_
               intro T' cT' w12 ho12 hg12 hT12
               have h12 := Lib.hid (h11.out.tpush hv0 ho12 hg12)
               replace ho12 := Lib.hid ho12
               replace hg12 := Lib.hid hg12)
            | fail)
          go_roundw
          case rel => exact ⟨i + 1, _, A', c', T', cT', by go_num, by omega, hgo2, rfl, by rw [List.length_append]; rfl, h12.out⟩
          case measure => go_light; simp [intOf]; omega
        · have e1 : (((i : Nat) : Int) == (s.self : Int)) = false := by simp; omega
          obtain ⟨j, y, hla, hy, hwi, -, -, hjH⟩ := late_seen hrep.out hI.out hR0.out hlt hs1 hv1
          have hjl : j < hs.length := by rw [← hHl.out]; exact hjH
          have hlb := Lib.hid (show lateI (late H i) = (j : Int) by rw [hla]; rfl)
          obtain ⟨ry, hry⟩ : ∃ ry, hs[j]? = some ry := ⟨_, List.getElem?_eq_getElem hjl⟩
          have hyr : y = ry.h := by have := hHk.out j; rw [hry, hy] at this; simpa using this
          have htop : (s.wishOf i).top = ry.h.p.top := by rw [hwi, hyr]; rfl
          have hprev : (s.wishOf i).prev = ry.h.p.prev := by rw [hwi, hyr]; rfl
          rw [htop, hprev] at hgo
          have hgo := Lib.hid hgo.out
          have hj0 : (0 : Int) ≤ (j : Int) := by omega
          replace hla := Lib.hid hla
          replace hy := Lib.hid hy
          replace hwi := Lib.hid hwi
          replace hyr := Lib.hid hyr
          replace hry := Lib.hid hry
          replace htop := Lib.hid htop
          replace hprev := Lib.hid hprev
          replace hs1 := Lib.hid hs1
          have hr10 := h.out.below h10.out.bel
          replace hr10 := Lib.hid hr10
          go_wp2_with (first
            | (go_at_call 73
               refine (latest_any b F s hs X i w10 hr10.out hlen).mono ?_
               rintro e w11 ⟨rfl, hb11⟩
               rw [← hH.out, hlb.out]
               have z11 := hb11.size
               have h11 := h10.out.below hv0 hb11
               have hr11 := h.out.below h11.bel
               obtain ⟨gA, oA, r', hAe, hgA, hr', hcA⟩ := (hr11.own.row len_eHd).hd hjl
               have hrr : r' = ry := by have := hry.out; rw [hr'.out] at this; simpa using this
               rw [hrr] at hcA
               have k18 := hr11.all
               rw [hAe] at k18
               have hld : (loadVar 31 ⟨gA, oA + j * 11 + 2, none⟩).run Try.prog w11 = .ok (.agg (prV ry.S ry.h.p.set.length ry.cS ry.V ry.h.p.vec.length ry.cV ry.h.p)) w11 := load31 (fun m u hu => by
                 have := hcA (2 + m) u (by rw [← hu]; rw [Nat.add_comm]; rfl)
                 rw [← Nat.add_assoc] at this; exact this)
               replace hld := Lib.hid hld
               replace hAe := Lib.hid hAe
               replace hcA := Lib.hid hcA
               replace hrr := Lib.hid hrr
               replace hr' := Lib.hid hr'
               replace h11 := Lib.hid h11
               replace hr11 := Lib.hid hr11
               clear hb11)
            | (refine wpList_loadR rfl 31 (.tmp 84) rfl gA (oA + j * 11 + 2) (by rfl) _ (by exact hld.out) ?_)
            | (refine wpList_store31 rfl (.tmp 11) (.tmp 85) rfl w11.heap.size 0 (by rfl) ry.S ry.h.p.set.length ry.cS ry.V ry.h.p.vec.length ry.cV ry.h.p (by rfl) (there_new w11 prZ 31) ?_
               intro w12 hw12
               have p12 : PVar w12 w11.heap.size ry.S ry.h.p.set.length ry.cS ry.V ry.h.p.vec.length ry.cV ry.h.p := by rw [hw12.out]; exact PVar.put (there_new w11 prZ 31)
               have b12 : Below w11.heap.size w11 w12 := by rw [hw12.out]; exact below_sets ((Below.refl _ _).alloc (Nat.le_refl _) _) (Nat.le_refl _) _ _ (by simp)
               have z12 : w11.heap.size < w12.heap.size := by rw [hw12.out, size_sets]; simp
               have h12 := h11.out.below hv0 b12
               have c3 := p12.c3
               obtain ⟨pb, hpb⟩ : ∃ pb, pb = w11.heap.size := ⟨_, rfl⟩
               rw [← hpb] at p12 z12 c3
               replace hpb := Lib.hid hpb
               replace p12 := Lib.hid p12
               replace h12 := Lib.hid h12
               clear hw12 b12
               rw [← hpb.out]
               by_cases htp : x.top < ry.h.p.top)
            | fail)
          · have hmx : max x.top ry.h.p.top = ry.h.p.top := by omega
            replace hmx := Lib.hid hmx
            by_cases d1 : ry.h.p.prev = s.own.prev
            · by_cases d2 : ry.h.p.prev = Vid.zero
              ·
                have hS13 : Below w12.heap.size w12 w12.drew := Below.drew (Below.refl _ _)
                have hr12 := h.out.below h12.out.bel
                have hC : ∀ x' : Prop, (∀ W, Below w12.heap.size w12 W → x') ↔ x' := fun x' => ⟨fun f => f _ hS13, fun f _ _ => f⟩
                have L93 : ∀ W, Below w12.heap.size w12 W → (loadVar 29 ⟨pb, 4, none⟩).run Try.prog W = .ok (.agg (vidC ry.h.p.prev)) W := fun W hW => by
                  have p := p12.out.same (hW.block _ z12)
                  exact load29 p.c4 p.c5 p.c6 p.c7
                have L98 : ∀ W, Below w12.heap.size w12 W → (loadVar 29 ⟨b, 13, none⟩).run Try.prog W = .ok (.agg (vidC s.own.prev)) W := fun W hW => by
                  have r := hr12.below hW
                  exact load29 r.pe r.pl r.pi r.pc
                replace L93 := Lib.hid L93
                replace L98 := Lib.hid L98
                replace hS13 := Lib.hid hS13
                replace hr12 := Lib.hid hr12
                have hans := Lib.hid (show s.agTo (i + 1) = some ⟨ry.h.p.top, x.mem ++ [⟨i, nth s.own.set i, nth s.own.vec i⟩], x.trans⟩ by rw [hgo.out, hmx.out, if_neg (by rintro (e | ⟨e, _⟩); exact hs1.out e; exact e d2)])
                have v1 := Lib.hid (show vidEq ry.h.p.prev s.own.prev = true from decide_eq_true d1)
                have v2 := Lib.hid (show vidEq ry.h.p.prev Vid.zero = true from decide_eq_true d2)
                replace d1 := Lib.hid d1
                replace d2 := Lib.hid d2
                go_wp2_with fail
                clear c3
                try simp only [Act.put, List.setIfInBounds_toArray, List.set_cons_zero, List.set_cons_succ]
                refine wp_region_ord [([0, 1, 2, 3, 4, 5, 6], 7), ([8, 9, 10], 11)] [12, 13, 14] (Below w12.heap.size w12) rfl (by kernel_rfl) rfl hS13.out ?_
                refine WO.seg rfl ?_ hS13.out
                simp only [picks, pick, List.cons_append, List.nil_append, List.append_nil]
                repeat (first
                  | go_big_quiet_skip
                  | (refine wpQuiet_loadC (by rfl) 29 (.tmp 92) rfl pb 4 (by rfl) _ L93.out ?_; simp only [Act.put, List.setIfInBounds_toArray, List.set_cons_zero, List.set_cons_succ])
                  | (refine wpQuiet_loadC (by rfl) 29 (.tmp 97) rfl b 13 (by rfl) _ L98.out ?_; simp only [Act.put, List.setIfInBounds_toArray, List.set_cons_zero, List.set_cons_succ])
                  | go_big_quiet_step (fail))
                refine wpQuiet_nil ?_
                intro K hK
                go_simp
                go_at_call 78
                refine (sameID_any ry.h.p.prev s.own.prev w12.drew).mono ?_
                rintro e w14 ⟨rfl, hb14⟩
                rw [v1.out]
                have b14 : Below w12.heap.size w12 w14 := hS13.out.trans hb14
                have h14 := h12.out.below hv0 b14
                have z14 := b14.size
                replace b14 := Lib.hid b14
                replace h14 := Lib.hid h14
                clear hb14
                go_wp2_with fail
                refine hK.out _ _ b14.out ?_
                clear hK K
                refine WO.seg rfl ?_ b14.out
                simp only [picks, pick, List.cons_append, List.nil_append, List.append_nil]
                repeat (first
                  | go_big_quiet_skip
                  | (refine wpQuiet_loadC (by rfl) 29 (.tmp 101) rfl pb 4 (by rfl) _ L93.out ?_; simp only [Act.put, List.setIfInBounds_toArray, List.set_cons_zero, List.set_cons_succ])
                  | go_big_quiet_step (fail))
                refine wpQuiet_nil ?_
                intro K hK
                go_simp
                go_at_call 79
                refine (none_any ry.h.p.prev w14).mono ?_
                rintro e w15 ⟨rfl, hb15⟩
                rw [v2.out]
                have b15 : Below w12.heap.size w12 w15 := b14.out.trans (hb15.mono (by omega))
                have h15 := h14.out.below hv0 hb15
                have z15 := hb15.size
                replace b15 := Lib.hid b15
                replace h15 := Lib.hid h15
                clear hb15
                go_wp2_with fail
                refine hK.out _ _ b15.out ?_
                clear hK K
                refine WO.end_ ?_
                simp only [picks, pick, List.cons_append, List.nil_append, List.append_nil]
                repeat (first | go_big_quiet_skip | go_big_quiet_step (fail))
                refine wpQuiet_nil ?_
                clear hC
                go_wp2
                go_roundw
                case rel => exact ⟨i + 1, _, A', c', T, cT, by go_num, by omega, hans, rfl, rfl, h15.out⟩
                case measure => go_light; simp [intOf]; omega
              ·
                have hS13 : Below w12.heap.size w12 w12.drew := Below.drew (Below.refl _ _)
                have hr12 := h.out.below h12.out.bel
                have hC : ∀ x' : Prop, (∀ W, Below w12.heap.size w12 W → x') ↔ x' := fun x' => ⟨fun f => f _ hS13, fun f _ _ => f⟩
                have L93 : ∀ W, Below w12.heap.size w12 W → (loadVar 29 ⟨pb, 4, none⟩).run Try.prog W = .ok (.agg (vidC ry.h.p.prev)) W := fun W hW => by
                  have p := p12.out.same (hW.block _ z12)
                  exact load29 p.c4 p.c5 p.c6 p.c7
                have L98 : ∀ W, Below w12.heap.size w12 W → (loadVar 29 ⟨b, 13, none⟩).run Try.prog W = .ok (.agg (vidC s.own.prev)) W := fun W hW => by
                  have r := hr12.below hW
                  exact load29 r.pe r.pl r.pi r.pc
                replace L93 := Lib.hid L93
                replace L98 := Lib.hid L98
                replace hS13 := Lib.hid hS13
                replace hr12 := Lib.hid hr12
                have hans := Lib.hid (show s.agTo (i + 1) = some ⟨ry.h.p.top, x.mem ++ [⟨i, nth s.own.set i, nth s.own.vec i⟩], x.trans ++ [(i : Int)]⟩ by rw [hgo.out, hmx.out, if_pos (.inr ⟨d2, d1⟩)])
                have v1 := Lib.hid (show vidEq ry.h.p.prev s.own.prev = true from decide_eq_true d1)
                have v2 := Lib.hid (show vidEq ry.h.p.prev Vid.zero = false from decide_eq_false d2)
                replace d1 := Lib.hid d1
                replace d2 := Lib.hid d2
                go_wp2_with fail
                clear c3
                try simp only [Act.put, List.setIfInBounds_toArray, List.set_cons_zero, List.set_cons_succ]
                refine wp_region_ord [([0, 1, 2, 3, 4, 5, 6], 7), ([8, 9, 10], 11)] [12, 13, 14] (Below w12.heap.size w12) rfl (by kernel_rfl) rfl hS13.out ?_
                refine WO.seg rfl ?_ hS13.out
                simp only [picks, pick, List.cons_append, List.nil_append, List.append_nil]
                repeat (first
                  | go_big_quiet_skip
                  | (refine wpQuiet_loadC (by rfl) 29 (.tmp 92) rfl pb 4 (by rfl) _ L93.out ?_; simp only [Act.put, List.setIfInBounds_toArray, List.set_cons_zero, List.set_cons_succ])
                  | (refine wpQuiet_loadC (by rfl) 29 (.tmp 97) rfl b 13 (by rfl) _ L98.out ?_; simp only [Act.put, List.setIfInBounds_toArray, List.set_cons_zero, List.set_cons_succ])
                  | go_big_quiet_step (fail))
                refine wpQuiet_nil ?_
                intro K hK
                go_simp
                go_at_call 78
                refine (sameID_any ry.h.p.prev s.own.prev w12.drew).mono ?_
                rintro e w14 ⟨rfl, hb14⟩
                rw [v1.out]
                have b14 : Below w12.heap.size w12 w14 := hS13.out.trans hb14
                have h14 := h12.out.below hv0 b14
                have z14 := b14.size
                replace b14 := Lib.hid b14
                replace h14 := Lib.hid h14
                clear hb14
                go_wp2_with fail
                refine hK.out _ _ b14.out ?_
                clear hK K
                refine WO.seg rfl ?_ b14.out
                simp only [picks, pick, List.cons_append, List.nil_append, List.append_nil]
                repeat (first
                  | go_big_quiet_skip
                  | (refine wpQuiet_loadC (by rfl) 29 (.tmp 101) rfl pb 4 (by rfl) _ L93.out ?_; simp only [Act.put, List.setIfInBounds_toArray, List.set_cons_zero, List.set_cons_succ])
                  | go_big_quiet_step (fail))
                refine wpQuiet_nil ?_
                intro K hK
                go_simp
                go_at_call 79
                refine (none_any ry.h.p.prev w14).mono ?_
                rintro e w15 ⟨rfl, hb15⟩
                rw [v2.out]
                have b15 : Below w12.heap.size w12 w15 := b14.out.trans (hb15.mono (by omega))
                have h15 := h14.out.below hv0 hb15
                have z15 := hb15.size
                replace b15 := Lib.hid b15
                replace h15 := Lib.hid h15
                clear hb15
                go_wp2_with fail
                refine hK.out _ _ b15.out ?_
                clear hK K
                refine WO.end_ ?_
                simp only [picks, pick, List.cons_append, List.nil_append, List.append_nil]
                repeat (first | go_big_quiet_skip | go_big_quiet_step (fail))
                refine wpQuiet_nil ?_
                clear hC
                have hb16 : Below w15.heap.size w15 (w15.alloc (.cells #[.int .i64 (i : Int)] 3)) := (Below.refl _ _).alloc (Nat.le_refl _) _
                have h16 := Lib.hid (h15.out.below hv0 hb16)
                have hrow16 : RowAt (w15.alloc (.cells #[.int .i64 (i : Int)] 3)) (w15.heap.size + 1) 1 eInt (some ⟨w15.heap.size, 0, none⟩) [(i : Int)] := row_new w15 3 1 eInt (i : Int) #[.int .i64 (i : Int)] rfl
                have z16 := h16.out.lt
                replace hrow16 := Lib.hid hrow16
                replace hb16 := Lib.hid hb16
                go_wp2_with (first
                  | (refine wpList_append_rows _ rfl (.tmp 107) (.tmp 109) 27 rfl (v + 1) 3 1 8 (.int .i64 0) Try.underlying27 info3 (by rfl) (by omega) eInt len_eInt one_eInt T cT x.trans (some ⟨w15.heap.size, 0, none⟩) 1 (w15.heap.size + 1) x.trans.length 1 [(i : Int)] (by rfl) (by rfl) rfl rfl h16.out.tr hrow16.out (by omega) (by omega) z16 ?_
                     intro T' cT' w17 ho17 hg17 hT17
                     have h17 := Lib.hid (h16.out.tpush hv0 ho17 hg17)
                     replace ho17 := Lib.hid ho17
                     replace hg17 := Lib.hid hg17)
                  | fail)
                go_roundw
                case rel => exact ⟨i + 1, _, A', c', T', cT', by go_num, by omega, hans, rfl, by rw [List.length_append]; rfl, h17.out⟩
                case measure => go_light; simp [intOf]; omega
            ·
              have hS13 : Below w12.heap.size w12 w12.drew := Below.drew (Below.refl _ _)
              have hr12 := h.out.below h12.out.bel
              have hC : ∀ x' : Prop, (∀ W, Below w12.heap.size w12 W → x') ↔ x' := fun x' => ⟨fun f => f _ hS13, fun f _ _ => f⟩
              have L93 : ∀ W, Below w12.heap.size w12 W → (loadVar 29 ⟨pb, 4, none⟩).run Try.prog W = .ok (.agg (vidC ry.h.p.prev)) W := fun W hW => by
                have p := p12.out.same (hW.block _ z12)
                exact load29 p.c4 p.c5 p.c6 p.c7
              have L98 : ∀ W, Below w12.heap.size w12 W → (loadVar 29 ⟨b, 13, none⟩).run Try.prog W = .ok (.agg (vidC s.own.prev)) W := fun W hW => by
                have r := hr12.below hW
                exact load29 r.pe r.pl r.pi r.pc
              replace L93 := Lib.hid L93
              replace L98 := Lib.hid L98
              replace hS13 := Lib.hid hS13
              replace hr12 := Lib.hid hr12
              have hans := Lib.hid (show s.agTo (i + 1) = some ⟨ry.h.p.top, x.mem ++ [⟨i, nth s.own.set i, nth s.own.vec i⟩], x.trans⟩ by rw [hgo.out, hmx.out, if_neg (by rintro (e | ⟨_, e⟩); exact hs1.out e; exact d1 e)])
              have v1 := Lib.hid (show vidEq ry.h.p.prev s.own.prev = false from decide_eq_false d1)
              replace d1 := Lib.hid d1
              go_wp2_with fail
              clear c3
              try simp only [Act.put, List.setIfInBounds_toArray, List.set_cons_zero, List.set_cons_succ]
              refine wp_region_ord [([0, 1, 2, 3, 4, 5, 6], 7), ([8, 9, 10], 11)] [12, 13, 14] (Below w12.heap.size w12) rfl (by kernel_rfl) rfl hS13.out ?_
              refine WO.seg rfl ?_ hS13.out
              simp only [picks, pick, List.cons_append, List.nil_append, List.append_nil]
              repeat (first
                | go_big_quiet_skip
                | (refine wpQuiet_loadC (by rfl) 29 (.tmp 92) rfl pb 4 (by rfl) _ L93.out ?_; simp only [Act.put, List.setIfInBounds_toArray, List.set_cons_zero, List.set_cons_succ])
                | (refine wpQuiet_loadC (by rfl) 29 (.tmp 97) rfl b 13 (by rfl) _ L98.out ?_; simp only [Act.put, List.setIfInBounds_toArray, List.set_cons_zero, List.set_cons_succ])
                | go_big_quiet_step (fail))
              refine wpQuiet_nil ?_
              intro K hK
              go_simp
              go_at_call 78
              refine (sameID_any ry.h.p.prev s.own.prev w12.drew).mono ?_
              rintro e w14 ⟨rfl, hb14⟩
              rw [v1.out]
              have b14 : Below w12.heap.size w12 w14 := hS13.out.trans hb14
              have h14 := h12.out.below hv0 b14
              have z14 := b14.size
              replace b14 := Lib.hid b14
              replace h14 := Lib.hid h14
              clear hb14
              go_wp2_with fail
              refine hK.out _ _ b14.out ?_
              clear hK K
              refine WO.seg rfl ?_ b14.out
              simp only [picks, pick, List.cons_append, List.nil_append, List.append_nil]
              repeat (first
                | go_big_quiet_skip
                | (refine wpQuiet_loadC (by rfl) 29 (.tmp 101) rfl pb 4 (by rfl) _ L93.out ?_; simp only [Act.put, List.setIfInBounds_toArray, List.set_cons_zero, List.set_cons_succ])
                | go_big_quiet_step (fail))
              refine wpQuiet_nil ?_
              intro K hK
              refine if_off (by rfl) ?_
              try simp only [Act.put, List.setIfInBounds_toArray, List.set_cons_zero, List.set_cons_succ]
              refine hK.out _ _ b14.out ?_
              clear hK K
              refine WO.end_ ?_
              simp only [picks, pick, List.cons_append, List.nil_append, List.append_nil]
              repeat (first | go_big_quiet_skip | go_big_quiet_step (fail))
              refine wpQuiet_nil ?_
              clear hC
              go_wp2
              go_roundw
              case rel => exact ⟨i + 1, _, A', c', T, cT, by go_num, by omega, hans, rfl, rfl, h14.out⟩
              case measure => go_light; simp [intOf]; omega
          · have hmx : max x.top ry.h.p.top = x.top := by omega
            replace hmx := Lib.hid hmx
            by_cases d1 : ry.h.p.prev = s.own.prev
            · by_cases d2 : ry.h.p.prev = Vid.zero
              ·
                have hS13 : Below w12.heap.size w12 w12.drew := Below.drew (Below.refl _ _)
                have hr12 := h.out.below h12.out.bel
                have hC : ∀ x' : Prop, (∀ W, Below w12.heap.size w12 W → x') ↔ x' := fun x' => ⟨fun f => f _ hS13, fun f _ _ => f⟩
                have L93 : ∀ W, Below w12.heap.size w12 W → (loadVar 29 ⟨pb, 4, none⟩).run Try.prog W = .ok (.agg (vidC ry.h.p.prev)) W := fun W hW => by
                  have p := p12.out.same (hW.block _ z12)
                  exact load29 p.c4 p.c5 p.c6 p.c7
                have L98 : ∀ W, Below w12.heap.size w12 W → (loadVar 29 ⟨b, 13, none⟩).run Try.prog W = .ok (.agg (vidC s.own.prev)) W := fun W hW => by
                  have r := hr12.below hW
                  exact load29 r.pe r.pl r.pi r.pc
                replace L93 := Lib.hid L93
                replace L98 := Lib.hid L98
                replace hS13 := Lib.hid hS13
                replace hr12 := Lib.hid hr12
                have hans := Lib.hid (show s.agTo (i + 1) = some ⟨x.top, x.mem ++ [⟨i, nth s.own.set i, nth s.own.vec i⟩], x.trans⟩ by rw [hgo.out, hmx.out, if_neg (by rintro (e | ⟨e, _⟩); exact hs1.out e; exact e d2)])
                have v1 := Lib.hid (show vidEq ry.h.p.prev s.own.prev = true from decide_eq_true d1)
                have v2 := Lib.hid (show vidEq ry.h.p.prev Vid.zero = true from decide_eq_true d2)
                replace d1 := Lib.hid d1
                replace d2 := Lib.hid d2
                go_wp2_with fail
                clear c3
                try simp only [Act.put, List.setIfInBounds_toArray, List.set_cons_zero, List.set_cons_succ]
                refine wp_region_ord [([0, 1, 2, 3, 4, 5, 6], 7), ([8, 9, 10], 11)] [12, 13, 14] (Below w12.heap.size w12) rfl (by kernel_rfl) rfl hS13.out ?_
                refine WO.seg rfl ?_ hS13.out
                simp only [picks, pick, List.cons_append, List.nil_append, List.append_nil]
                repeat (first
                  | go_big_quiet_skip
                  | (refine wpQuiet_loadC (by rfl) 29 (.tmp 92) rfl pb 4 (by rfl) _ L93.out ?_; simp only [Act.put, List.setIfInBounds_toArray, List.set_cons_zero, List.set_cons_succ])
                  | (refine wpQuiet_loadC (by rfl) 29 (.tmp 97) rfl b 13 (by rfl) _ L98.out ?_; simp only [Act.put, List.setIfInBounds_toArray, List.set_cons_zero, List.set_cons_succ])
                  | go_big_quiet_step (fail))
                refine wpQuiet_nil ?_
                intro K hK
                go_simp
                go_at_call 78
                refine (sameID_any ry.h.p.prev s.own.prev w12.drew).mono ?_
                rintro e w14 ⟨rfl, hb14⟩
                rw [v1.out]
                have b14 : Below w12.heap.size w12 w14 := hS13.out.trans hb14
                have h14 := h12.out.below hv0 b14
                have z14 := b14.size
                replace b14 := Lib.hid b14
                replace h14 := Lib.hid h14
                clear hb14
                go_wp2_with fail
                refine hK.out _ _ b14.out ?_
                clear hK K
                refine WO.seg rfl ?_ b14.out
                simp only [picks, pick, List.cons_append, List.nil_append, List.append_nil]
                repeat (first
                  | go_big_quiet_skip
                  | (refine wpQuiet_loadC (by rfl) 29 (.tmp 101) rfl pb 4 (by rfl) _ L93.out ?_; simp only [Act.put, List.setIfInBounds_toArray, List.set_cons_zero, List.set_cons_succ])
                  | go_big_quiet_step (fail))
                refine wpQuiet_nil ?_
                intro K hK
                go_simp
                go_at_call 79
                refine (none_any ry.h.p.prev w14).mono ?_
                rintro e w15 ⟨rfl, hb15⟩
                rw [v2.out]
                have b15 : Below w12.heap.size w12 w15 := b14.out.trans (hb15.mono (by omega))
                have h15 := h14.out.below hv0 hb15
                have z15 := hb15.size
                replace b15 := Lib.hid b15
                replace h15 := Lib.hid h15
                clear hb15
                go_wp2_with fail
                refine hK.out _ _ b15.out ?_
                clear hK K
                refine WO.end_ ?_
                simp only [picks, pick, List.cons_append, List.nil_append, List.append_nil]
                repeat (first | go_big_quiet_skip | go_big_quiet_step (fail))
                refine wpQuiet_nil ?_
                clear hC
                go_wp2
                go_roundw
                case rel => exact ⟨i + 1, _, A', c', T, cT, by go_num, by omega, hans, rfl, rfl, h15.out⟩
                case measure => go_light; simp [intOf]; omega
              ·
                have hS13 : Below w12.heap.size w12 w12.drew := Below.drew (Below.refl _ _)
                have hr12 := h.out.below h12.out.bel
                have hC : ∀ x' : Prop, (∀ W, Below w12.heap.size w12 W → x') ↔ x' := fun x' => ⟨fun f => f _ hS13, fun f _ _ => f⟩
                have L93 : ∀ W, Below w12.heap.size w12 W → (loadVar 29 ⟨pb, 4, none⟩).run Try.prog W = .ok (.agg (vidC ry.h.p.prev)) W := fun W hW => by
                  have p := p12.out.same (hW.block _ z12)
                  exact load29 p.c4 p.c5 p.c6 p.c7
                have L98 : ∀ W, Below w12.heap.size w12 W → (loadVar 29 ⟨b, 13, none⟩).run Try.prog W = .ok (.agg (vidC s.own.prev)) W := fun W hW => by
                  have r := hr12.below hW
                  exact load29 r.pe r.pl r.pi r.pc
                replace L93 := Lib.hid L93
                replace L98 := Lib.hid L98
                replace hS13 := Lib.hid hS13
                replace hr12 := Lib.hid hr12
                have hans := Lib.hid (show s.agTo (i + 1) = some ⟨x.top, x.mem ++ [⟨i, nth s.own.set i, nth s.own.vec i⟩], x.trans ++ [(i : Int)]⟩ by rw [hgo.out, hmx.out, if_pos (.inr ⟨d2, d1⟩)])
                have v1 := Lib.hid (show vidEq ry.h.p.prev s.own.prev = true from decide_eq_true d1)
                have v2 := Lib.hid (show vidEq ry.h.p.prev Vid.zero = false from decide_eq_false d2)
                replace d1 := Lib.hid d1
                replace d2 := Lib.hid d2
                go_wp2_with fail
                clear c3
                try simp only [Act.put, List.setIfInBounds_toArray, List.set_cons_zero, List.set_cons_succ]
                refine wp_region_ord [([0, 1, 2, 3, 4, 5, 6], 7), ([8, 9, 10], 11)] [12, 13, 14] (Below w12.heap.size w12) rfl (by kernel_rfl) rfl hS13.out ?_
                refine WO.seg rfl ?_ hS13.out
                simp only [picks, pick, List.cons_append, List.nil_append, List.append_nil]
                repeat (first
                  | go_big_quiet_skip
                  | (refine wpQuiet_loadC (by rfl) 29 (.tmp 92) rfl pb 4 (by rfl) _ L93.out ?_; simp only [Act.put, List.setIfInBounds_toArray, List.set_cons_zero, List.set_cons_succ])
                  | (refine wpQuiet_loadC (by rfl) 29 (.tmp 97) rfl b 13 (by rfl) _ L98.out ?_; simp only [Act.put, List.setIfInBounds_toArray, List.set_cons_zero, List.set_cons_succ])
                  | go_big_quiet_step (fail))
                refine wpQuiet_nil ?_
                intro K hK
                go_simp
                go_at_call 78
                refine (sameID_any ry.h.p.prev s.own.prev w12.drew).mono ?_
                rintro e w14 ⟨rfl, hb14⟩
                rw [v1.out]
                have b14 : Below w12.heap.size w12 w14 := hS13.out.trans hb14
                have h14 := h12.out.below hv0 b14
                have z14 := b14.size
                replace b14 := Lib.hid b14
                replace h14 := Lib.hid h14
                clear hb14
                go_wp2_with fail
                refine hK.out _ _ b14.out ?_
                clear hK K
                refine WO.seg rfl ?_ b14.out
                simp only [picks, pick, List.cons_append, List.nil_append, List.append_nil]
                repeat (first
                  | go_big_quiet_skip
                  | (refine wpQuiet_loadC (by rfl) 29 (.tmp 101) rfl pb 4 (by rfl) _ L93.out ?_; simp only [Act.put, List.setIfInBounds_toArray, List.set_cons_zero, List.set_cons_succ])
                  | go_big_quiet_step (fail))
                refine wpQuiet_nil ?_
                intro K hK
                go_simp
                go_at_call 79
                refine (none_any ry.h.p.prev w14).mono ?_
                rintro e w15 ⟨rfl, hb15⟩
                rw [v2.out]
                have b15 : Below w12.heap.size w12 w15 := b14.out.trans (hb15.mono (by omega))
                have h15 := h14.out.below hv0 hb15
                have z15 := hb15.size
                replace b15 := Lib.hid b15
                replace h15 := Lib.hid h15
                clear hb15
                go_wp2_with fail
                refine hK.out _ _ b15.out ?_
                clear hK K
                refine WO.end_ ?_
                simp only [picks, pick, List.cons_append, List.nil_append, List.append_nil]
                repeat (first | go_big_quiet_skip | go_big_quiet_step (fail))
                refine wpQuiet_nil ?_
                clear hC
                have hb16 : Below w15.heap.size w15 (w15.alloc (.cells #[.int .i64 (i : Int)] 3)) := (Below.refl _ _).alloc (Nat.le_refl _) _
                have h16 := Lib.hid (h15.out.below hv0 hb16)
                have hrow16 : RowAt (w15.alloc (.cells #[.int .i64 (i : Int)] 3)) (w15.heap.size + 1) 1 eInt (some ⟨w15.heap.size, 0, none⟩) [(i : Int)] := row_new w15 3 1 eInt (i : Int) #[.int .i64 (i : Int)] rfl
                have z16 := h16.out.lt
                replace hrow16 := Lib.hid hrow16
                replace hb16 := Lib.hid hb16
                go_wp2_with (first
                  | (refine wpList_append_rows _ rfl (.tmp 107) (.tmp 109) 27 rfl (v + 1) 3 1 8 (.int .i64 0) Try.underlying27 info3 (by rfl) (by omega) eInt len_eInt one_eInt T cT x.trans (some ⟨w15.heap.size, 0, none⟩) 1 (w15.heap.size + 1) x.trans.length 1 [(i : Int)] (by rfl) (by rfl) rfl rfl h16.out.tr hrow16.out (by omega) (by omega) z16 ?_
                     intro T' cT' w17 ho17 hg17 hT17
                     have h17 := Lib.hid (h16.out.tpush hv0 ho17 hg17)
                     replace ho17 := Lib.hid ho17
                     replace hg17 := Lib.hid hg17)
                  | fail)
                go_roundw
                case rel => exact ⟨i + 1, _, A', c', T', cT', by go_num, by omega, hans, rfl, by rw [List.length_append]; rfl, h17.out⟩
                case measure => go_light; simp [intOf]; omega
            ·
              have hS13 : Below w12.heap.size w12 w12.drew := Below.drew (Below.refl _ _)
              have hr12 := h.out.below h12.out.bel
              have hC : ∀ x' : Prop, (∀ W, Below w12.heap.size w12 W → x') ↔ x' := fun x' => ⟨fun f => f _ hS13, fun f _ _ => f⟩
              have L93 : ∀ W, Below w12.heap.size w12 W → (loadVar 29 ⟨pb, 4, none⟩).run Try.prog W = .ok (.agg (vidC ry.h.p.prev)) W := fun W hW => by
                have p := p12.out.same (hW.block _ z12)
                exact load29 p.c4 p.c5 p.c6 p.c7
              have L98 : ∀ W, Below w12.heap.size w12 W → (loadVar 29 ⟨b, 13, none⟩).run Try.prog W = .ok (.agg (vidC s.own.prev)) W := fun W hW => by
                have r := hr12.below hW
                exact load29 r.pe r.pl r.pi r.pc
              replace L93 := Lib.hid L93
              replace L98 := Lib.hid L98
              replace hS13 := Lib.hid hS13
              replace hr12 := Lib.hid hr12
              have hans := Lib.hid (show s.agTo (i + 1) = some ⟨x.top, x.mem ++ [⟨i, nth s.own.set i, nth s.own.vec i⟩], x.trans⟩ by rw [hgo.out, hmx.out, if_neg (by rintro (e | ⟨_, e⟩); exact hs1.out e; exact d1 e)])
              have v1 := Lib.hid (show vidEq ry.h.p.prev s.own.prev = false from decide_eq_false d1)
              replace d1 := Lib.hid d1
              go_wp2_with fail
              clear c3
              try simp only [Act.put, List.setIfInBounds_toArray, List.set_cons_zero, List.set_cons_succ]
              refine wp_region_ord [([0, 1, 2, 3, 4, 5, 6], 7), ([8, 9, 10], 11)] [12, 13, 14] (Below w12.heap.size w12) rfl (by kernel_rfl) rfl hS13.out ?_
              refine WO.seg rfl ?_ hS13.out
              simp only [picks, pick, List.cons_append, List.nil_append, List.append_nil]
              repeat (first
                | go_big_quiet_skip
                | (refine wpQuiet_loadC (by rfl) 29 (.tmp 92) rfl pb 4 (by rfl) _ L93.out ?_; simp only [Act.put, List.setIfInBounds_toArray, List.set_cons_zero, List.set_cons_succ])
                | (refine wpQuiet_loadC (by rfl) 29 (.tmp 97) rfl b 13 (by rfl) _ L98.out ?_; simp only [Act.put, List.setIfInBounds_toArray, List.set_cons_zero, List.set_cons_succ])
                | go_big_quiet_step (fail))
              refine wpQuiet_nil ?_
              intro K hK
              go_simp
              go_at_call 78
              refine (sameID_any ry.h.p.prev s.own.prev w12.drew).mono ?_
              rintro e w14 ⟨rfl, hb14⟩
              rw [v1.out]
              have b14 : Below w12.heap.size w12 w14 := hS13.out.trans hb14
              have h14 := h12.out.below hv0 b14
              have z14 := b14.size
              replace b14 := Lib.hid b14
              replace h14 := Lib.hid h14
              clear hb14
              go_wp2_with fail
              refine hK.out _ _ b14.out ?_
              clear hK K
              refine WO.seg rfl ?_ b14.out
              simp only [picks, pick, List.cons_append, List.nil_append, List.append_nil]
              repeat (first
                | go_big_quiet_skip
                | (refine wpQuiet_loadC (by rfl) 29 (.tmp 101) rfl pb 4 (by rfl) _ L93.out ?_; simp only [Act.put, List.setIfInBounds_toArray, List.set_cons_zero, List.set_cons_succ])
                | go_big_quiet_step (fail))
              refine wpQuiet_nil ?_
              intro K hK
              refine if_off (by rfl) ?_
              try simp only [Act.put, List.setIfInBounds_toArray, List.set_cons_zero, List.set_cons_succ]
              refine hK.out _ _ b14.out ?_
              clear hK K
              refine WO.end_ ?_
              simp only [picks, pick, List.cons_append, List.nil_append, List.append_nil]
              repeat (first | go_big_quiet_skip | go_big_quiet_step (fail))
              refine wpQuiet_nil ?_
              clear hC
              go_wp2
              go_roundw
              case rel => exact ⟨i + 1, _, A', c', T, cT, by go_num, by omega, hans, rfl, rfl, h14.out⟩
              case measure => go_light; simp [intOf]; omega
    · obtain rfl : i = s.n := by omega
      clear hlt
      have hpos : 0 < x.mem.length := List.length_pos_iff.2 (agTo_me hI.out hI.out.self hx.out)
      obtain ⟨hlm, hlq⟩ := agTo_len hx.out
      obtain ⟨htop1, htop2⟩ := agTo_top hI.out hx.out
      have hwr : IntKind.i64.wrap (x.top + 1) = x.top + 1 := by rw [IntKind.wrap_i64]; omega
      obtain ⟨g, o, m, hA, hg, hm, c0, c1, c2⟩ := (hR.own.row len_eMb).mb hpos
      rw [Nat.zero_mul, Nat.add_zero] at c0 c1 c2
      have hvid : x.vid = ⟨x.top + 1, m.p, m.i, m.c⟩ := by
        have := hm.out
        unfold Ag.vid
        cases hq : x.mem with
        | nil => rw [hq] at this; simp at this
        | cons y r => rw [hq] at this; simp at this; subst this; rfl
      have hlw := hR.lt
      have kc := hR.vi.cm
      have hyes := Lib.hid (show s.agreed = some x by rw [hag.out]; exact hx.out)
      replace hvid := Lib.hid hvid
      replace hR := Lib.hid hR
      rw [hA] at kc
      have hbw : Below wr.heap.size wr (wr.alloc (.cells #[.int .i64 0, .int .i64 0, .int .i64 0] 43)) := (Below.refl _ _).alloc (Nat.le_refl _) _
      have htn : (wr.alloc (.cells #[.int .i64 0, .int .i64 0, .int .i64 0] 43)).there wr.heap.size 0 3 := there_new wr #[.int .i64 0, .int .i64 0, .int .i64 0] 43
      replace hA := Lib.hid hA
      go_wp2_with (first
        | (refine wpList_store_mid rfl 43 (.tmp 13) (.tmp 114) rfl wr.heap.size 0 #[.int .i64 m.p, .int .i64 m.i, .int .i64 m.c] (by rfl) (by rfl) htn (by kernel_rfl) (one_ints3 _ _ _) ?_
           obtain ⟨w3, hw3⟩ : ∃ w3, w3 = (wr.alloc (.cells #[.int .i64 0, .int .i64 0, .int .i64 0] 43)).setCells wr.heap.size 0 #[.int .i64 m.p, .int .i64 m.i, .int .i64 m.c].toList := ⟨_, rfl⟩
           rw [← hw3]
           have hb3 : Below wr.heap.size wr w3 := by rw [hw3]; exact below_sets hbw (Nat.le_refl _) _ _ (by simp)
           have h3 := Lib.hid (hR.out.below hv0 hb3)
           have r3 : w3.rangeAt wr.heap.size 0 #[.int .i64 m.p, .int .i64 m.i, .int .i64 m.c].toList := by rw [hw3]; exact World.rangeAt_setCells_same _ _ _ _ htn
           have d0 := r3 0 _ rfl
           have d1 := r3 1 _ rfl
           have d2 := r3 2 _ rfl
           replace hw3 := Lib.hid hw3
           replace r3 := Lib.hid r3
           clear c0 c1 c2 kc)
        | (refine wpList_store_mid rfl 29 (.tmp 124) (.tmp 123) rfl v 0 #[.int .i64 (x.top + 1), .int .i64 m.p, .int .i64 m.i, .int .i64 m.c] (by rfl) (by rfl) (World.there.at h3.out.vi.there (by show 0 + 4 ≤ 5; omega)) (by kernel_rfl) (one_ints4 _ _ _ _) ?_
           obtain ⟨w4, hw4⟩ : ∃ w4, w4 = w3.setCells v 0 #[.int .i64 (x.top + 1), .int .i64 m.p, .int .i64 m.i, .int .i64 m.c].toList := ⟨_, rfl⟩
           rw [← hw4]
           have v4 : ViAt w4 v x.vid A x.mem.length c := by
             rw [hw4, hvid.out]
             have hr := World.rangeAt_setCells_same w3 v 0 #[.int .i64 (x.top + 1), .int .i64 m.p, .int .i64 m.i, .int .i64 m.c].toList (World.there.at h3.out.vi.there (by show 0 + 4 ≤ 5; omega))
             exact ⟨hr 0 _ rfl, hr 1 _ rfl, hr 2 _ rfl, hr 3 _ rfl, cell_out h3.out.vi.cm (.inr (by show 0 + 4 ≤ 4; omega)), World.there_setCells h3.out.vi.there _ _ _⟩
           replace v4 := Lib.hid v4
           replace hw4 := Lib.hid hw4
           clear d0 d1 d2)
        | (refine wpList_loadR rfl 46 (.tmp 6) rfl v 0 (by rfl) _ v4.out.load ?_)
        | (refine wpList_store46 rfl (.tmp 2) (.tmp 125) rfl w.heap.size 0 (by rfl) x.vid A x.mem.length c (by rfl) (by rw [hw4.out]; exact World.there_setCells h3.out.out _ _ _) ?_; intro w5 hw5)
        | fail)
      have ht4 : w4.there w.heap.size 0 5 := by rw [hw4.out]; exact World.there_setCells h3.out.out _ _ _
      have v5 : ViAt w5 w.heap.size x.vid A x.mem.length c := by rw [hw5.out]; exact viAt_put (w := w4) (v := x.vid) (A := A) (n := x.mem.length) (c := c) ht4
      have g4 : w3.grownBy w4 (some v) := by rw [hw4.out]; exact grown_sets _ _ _ _
      have g5 : w4.grownBy w5 (some w.heap.size) := by rw [hw5.out]; exact grown_sets _ _ _ _
      have z3 := h3.out.lt
      have z4 := g4.size
      have b5 : Below w.heap.size w w5 := (h3.out.bel.grown g4 (by omega) (by intro k hk; injection hk with hk; omega)).grown g5 (by omega) (by intro k hk; injection hk with hk; omega)
      have o5 := (h3.out.own.kept g4 (.inr (by intro e; have := (h3.out.own.lo _ e).1; omega))).kept g5 (.inr (by intro e; have := (h3.out.own.lo _ e).1; omega))
      have t5 := (h3.out.tr.kept g4 (.inr (by intro e; have := (h3.out.tr.lo _ e).1; omega))).kept g5 (.inr (by intro e; have := (h3.out.tr.lo _ e).1; omega))
      refine bodyPost_ret (res_cell_tmp_tmp (p := 2) (u := 3) (u' := 4) (ty := 46) rfl rfl v5.load) rfl ⟨fun e => ?_, fun a e => ?_, b5⟩
      · rw [hyes.out] at e; cases e
      · rw [hyes.out] at e; injection e with e; subst e
        exact ⟨A, c, T, cT, rfl, (o5.rowN len_eMb).low (by omega), (t5.rowN len_eInt).low (by omega)⟩
theorem ragreed_any (b : Nat) (F : List Nat) (s : St) (hs : List HdR) (X : Ptrs) (w : World) (h : RefAt w b F s hs X) (hI : Inv s) (hR0 : RInv s) (hlen : hs.length ≤ 1000000) :
    Calls Try.prog 63 #[.pointer (some ⟨b, 0, none⟩)] w (AgPost w s) := by
  cases ha : s.agreed with
  | none => exact ragreed_none b F s hs X w h hI hR0 hlen ha
  | some a => exact ragreed_some b F s hs X w h hI hR0 hlen a ha
end Go.Proofs.Ytfbeggdbjpmppaa
