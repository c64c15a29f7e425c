/- RView RInst New, joined. -/
import Derived.Test.YtfbeggdbjpmppaaMw3
import Derived.Test.YtfbeggdbjpmppaaMw4
import Derived.Test.YtfbeggdbjpmppaaMw8
import Derived.Test.YtfbeggdbjpmppaaMw11
set_option linter.unusedVariables false
set_option linter.unusedSimpArgs false
/- The document's view. -/
namespace Go.Proofs.Ytfbeggdbjpmppaa
open Go.RowKit
/-- What a round of view's loop finds. -/
structure RvR (w0 : World) (v : Vid) (M : Option Addr) (n cM : Nat) (ms : List Mb) (A : Option Addr) (c : Nat) (w : World) : Prop where
  par : ViAt w w0.heap.size v M n cM
  out : w.there (w0.heap.size + 1) 0 5
  vi : ViAt w (w0.heap.size + 2) v A ms.length c
  own : Owns w (w0.heap.size + 3) 43 3 eMb A c ms
  bel : Below w0.heap.size w0 w
  lt : w0.heap.size + 3 ≤ w.heap.size
section
variable {w0 w w' : World} {v : Vid} {M : Option Addr} {n cM : Nat} {ms : List Mb} {A : Option Addr} {c : Nat}
theorem RvR.below (h : RvR w0 v M n cM ms A c w) (hw : Below w.heap.size w w') : RvR w0 v M n cM ms A c w' := by
  have hl := h.lt
  exact ⟨h.par.same (hw.block _ (by omega)), there_below h.out hw (by omega), h.vi.same (hw.block _ (by omega)), h.own.keep hw (fun k hk => (h.own.lo k hk).2), h.bel.trans (hw.mono (by omega)), Nat.le_trans hl hw.size⟩
theorem RvR.push (h : RvR w0 v M n cM ms A c w) {ms' : List Mb} {A' : Option Addr} {c' : Nat} (ho : Owns w' (w0.heap.size + 3) 43 3 eMb A' c' ms') (hg : w.grownBy w' (blk A)) :
    RvR w0 v M n cM ms' A' c' (w'.setCells (w0.heap.size + 2) 4 [.slice A' ms'.length c']) := by
  have hl := h.lt
  have hs := hg.size
  have hno : ∀ k, k < w0.heap.size + 3 → w'.heap[k]? = w.heap[k]? := fun k hk => hg.block k (by omega) (fun e => by have := h.own.lo k e.symm; omega)
  have hg2 := grown_sets (w0.heap.size + 2) [.slice A' ms'.length c'] 4 w'
  have hno2 : ∀ k, k < w0.heap.size + 3 → k ≠ w0.heap.size + 2 → (w'.setCells (w0.heap.size + 2) 4 [.slice A' ms'.length c']).heap[k]? = w'.heap[k]? := fun k hk hk1 => hg2.block k (by omega) (fun e => hk1 (by injection e))
  refine ⟨(h.par.same (hno _ (by omega))).same (hno2 _ (by omega) (by omega)), World.there_setCells (fun j hj => ?_) _ _ _, (h.vi.same (hno _ (by omega))).setM A' ms'.length c', ho.kept hg2 ?_, ?_, by rw [size_sets]; omega⟩
  · have hc : ∀ o, w'.cell? ⟨w0.heap.size + 1, o, none⟩ = w.cell? ⟨w0.heap.size + 1, o, none⟩ := fun o => World.cell?_of_block (hno (w0.heap.size + 1) (by omega))
    have hf : ∀ o, w'.frozen? ⟨w0.heap.size + 1, o, none⟩ = w.frozen? ⟨w0.heap.size + 1, o, none⟩ := fun o => World.frozen?_of_block (hno (w0.heap.size + 1) (by omega))
    rw [hc, hf]; exact h.out j hj
  · right; intro e; have := (ho.lo _ e).1; omega
  · refine below_sets (h.bel.grown hg (by omega) ?_) (by omega) _ _ (by omega)
    intro k hk; have := (h.own.lo k hk).1; omega
end
/-- What view answers. -/
def VwPost (w : World) (v : Vid) (ms : List Mb) (x : Ending) (w' : World) : Prop :=
  ∃ A c, x = .returned (.agg (viewA v A ms.length c)) ∧ RowN w' w.heap.size 3 eMb A ms ∧ Below w.heap.size w w'
structure RvS (w0 : World) (v : Vid) (M : Option Addr) (n cM : Nat) (A : Option Addr) (m c : Nat) (g o : Nat) (x : Mb) (w : World) : Prop where
  par : ViAt w w0.heap.size v M n cM
  vi : ViAt w (w0.heap.size + 2) v A m c
  c0 : w.cell? ⟨g, o, none⟩ = some (.int .i64 x.p)
  c1 : w.cell? ⟨g, o + 1, none⟩ = some (.int .i64 x.i)
  c2 : w.cell? ⟨g, o + 2, none⟩ = some (.int .i64 x.c)
theorem load43 {w : World} {b o : Nat} {x : Mb} (h0 : w.cell? ⟨b, o, none⟩ = some (.int .i64 x.p)) (h1 : w.cell? ⟨b, o + 1, none⟩ = some (.int .i64 x.i)) (h2 : w.cell? ⟨b, o + 2, none⟩ = some (.int .i64 x.c)) :
    (loadVar 43 ⟨b, o, none⟩).run Try.prog w = .ok (.agg #[.int .i64 x.p, .int .i64 x.i, .int .i64 x.c]) w := by go_simp
set_option maxRecDepth 100000 in
set_option maxHeartbeats 4000000 in
theorem rview_any (v : Vid) (M : Option Addr) (cM N : Nat) (ms : List Mb) (w : World) (hN : N ≤ w.heap.size) (hM : RowAt w N 3 eMb M ms) (hl : ms.length ≤ 16) :
    Calls Try.prog 80 #[.agg (viewA v M ms.length cM)] w (VwPost w v ms) := by
  obtain ⟨w2, hw2⟩ : ∃ w2, w2 = (w.alloc (.cells (viewA v M ms.length cM) 46)).alloc (.cells (viewA Vid.zero none 0 0) 46) := ⟨_, rfl⟩
  have hb2 : Below w.heap.size w w2 := by rw [hw2]; exact below_box2 _ _ _ _ _
  have z2 : w2.heap.size = w.heap.size + 2 := by rw [hw2]; simp
  have p2 : ViAt w2 w.heap.size v M ms.length cM := by rw [hw2]; exact (ViAt.new w v M ms.length cM 46).same (heap_alloc_old _ _ (by simp))
  have t2 : w2.there (w.heap.size + 1) 0 5 := by
    have := there_new (w.alloc (.cells (viewA v M ms.length cM) 46)) (viewA Vid.zero none 0 0) 46
    rw [← hw2] at this; simpa using this
  obtain ⟨w3, hw3⟩ : ∃ w3, w3 = w2.alloc (.cells (viewA Vid.zero none 0 0) 46) := ⟨_, rfl⟩
  have p3 : ViAt w3 w.heap.size v M ms.length cM := p2.same (by rw [hw3]; exact heap_alloc_old _ _ (by omega))
  have t3 : w3.there (w.heap.size + 1) 0 5 := by rw [hw3]; exact World.there_alloc t2 _
  have t3' : w3.there (w.heap.size + 2) 0 5 := by have := there_new w2 (viewA Vid.zero none 0 0) 46; rw [← hw3, z2] at this; exact this
  have hb3 : Below w.heap.size w w3 := by rw [hw3]; exact hb2.alloc (by omega) _
  have z3 : w3.heap.size = w.heap.size + 3 := by rw [hw3, World.size_alloc]; omega
  have hw23 := Lib.hid (show w3 = ((w.alloc (.cells (viewA v M ms.length cM) 46)).alloc (.cells (viewA Vid.zero none 0 0) 46)).alloc (.cells (viewA Vid.zero none 0 0) 46) by rw [hw3, hw2])
  have k0 := (ViAt.new w v M ms.length cM 46).ce
  have k1 := (ViAt.new w v M ms.length cM 46).cl
  have k2 := (ViAt.new w v M ms.length cM 46).ci
  have k3 := (ViAt.new w v M ms.length cM 46).cc
  clear hw2 hw3 p2 t2 hb2
  replace p3 := Lib.hid p3
  replace t3 := Lib.hid t3
  replace t3' := Lib.hid t3'
  replace hb3 := Lib.hid hb3
  go_enter Try.func80, Try.ntmps80
  go_wp2_with (first
    | (refine wpList_store46 rfl (.tmp 3) (.tmp 7) rfl (w.heap.size + 2) 0 (by rfl) v none 0 0 (by rfl) (by rw [← hw23.out]; exact t3'.out) ?_
       rw [← hw23.out]
       intro w4 hw4
       have g4 : w3.grownBy w4 (some (w.heap.size + 2)) := by rw [hw4.out]; exact grown_sets _ _ _ _
       have hR0 : RvR w v M ms.length cM [] none 0 w4 := by
         refine ⟨p3.out.same (g4.block _ (by omega) (by intro e; injection e with e; omega)), grown_there g4 (a := w.heap.size + 1) ⟨by omega, by omega⟩ t3.out, by rw [hw4.out]; exact viAt_put t3'.out, owns_nil _ _ _ _ _, hb3.out.grown g4 (by omega) (by intro k hk; injection hk with hk; omega), by have := g4.size; omega⟩
       replace hR0 := Lib.hid hR0
       clear k0 k1 k2 k3)
    | fail)
  go_loopw [4] (fun k wr => ∃ i A c, k = .int .i64 ((i : Nat) : Int) ∧ i ≤ ms.length ∧ RvR w v M ms.length cM (ms.take i) A c wr) (fun k _ => ms.length - (intOf k).toNat)
  case atStart => exact ⟨0, none, 0, rfl, by omega, hR0.out⟩
  case round =>
    obtain ⟨i, A, c, rfl, hi, hR⟩ := hrel
    have hlq : (ms.take i).length = i := List.length_take_of_le (by omega)
    have k0 := hR.par.cm
    have hlw := hR.lt
    by_cases hlt : i < ms.length
    · obtain ⟨g, o, x, hMe, hg, hx, c0, c1, c2⟩ := (hM.below hR.bel hN).mb hlt
      have hsnoc : ms.take i ++ [x] = ms.take (i + 1) := by rw [List.take_add_one, hx.out]; rfl
      have hS0 : RvS w v M ms.length cM A i c g (o + i * 3) x wr.drew := ⟨hR.par.same rfl, by have := hR.vi.same (w' := wr.drew) rfl; rwa [hlq] at this, c0, c1, c2⟩
      have h6 := hR.below (Below.drew (Below.refl wr.heap.size wr))
      have hC : ∀ x' : Prop, (∀ W, RvS w v M ms.length cM A i c g (o + i * 3) x W → x') ↔ x' := fun x' => ⟨fun f => f _ hS0, fun f _ _ => f⟩
      have L16 : ∀ W, RvS w v M ms.length cM A i c g (o + i * 3) x W → (loadVar 44 ⟨w.heap.size + 2, 4, none⟩).run Try.prog W = .ok (.slice A i c) W := fun W hW => load44 hW.vi.cm
      have L18 : ∀ W, RvS w v M ms.length cM A i c g (o + i * 3) x W → (loadVar 44 ⟨w.heap.size, 4, none⟩).run Try.prog W = .ok (.slice (some ⟨g, o, none⟩) ms.length cM) W := fun W hW => load44 (by rw [← hMe]; exact hW.par.cm)
      have L21 : ∀ W, RvS w v M ms.length cM A i c g (o + i * 3) x W → (loadVar 43 ⟨g, o + i * 3, none⟩).run Try.prog W = .ok (.agg #[.int .i64 x.p, .int .i64 x.i, .int .i64 x.c]) W := fun W hW => load43 hW.c0 hW.c1 hW.c2
      obtain ⟨w6, hw6⟩ : ∃ w6, w6 = wr.drew := ⟨_, rfl⟩
      rw [← hw6] at h6 hS0
      have z6 : w6.heap.size = wr.heap.size := by rw [hw6]; rfl
      have hg6 : g < w6.heap.size := by omega
      have hgl := hg
      replace z6 := Lib.hid z6
      replace L16 := Lib.hid L16
      replace L18 := Lib.hid L18
      replace L21 := Lib.hid L21
      replace hS0 := Lib.hid hS0
      replace h6 := Lib.hid h6
      replace hsnoc := Lib.hid hsnoc
      replace hMe := Lib.hid hMe
      replace hR := Lib.hid hR
      replace hw6 := Lib.hid hw6
      clear c0 c1 c2
      go_wp2_with fail
      try simp only [Act.put, List.setIfInBounds_toArray, List.set_cons_zero, List.set_cons_succ]
      refine wp_region_ordz 10 [([0, 1, 2, 3, 4, 5, 6], 7), ([], 8), ([9], 10)] [] (RvS w v M ms.length cM A i c g (o + i * 3) x) rfl (by kernel_rfl) rfl (by rw [← hw6.out]; exact hS0.out) ?_
      rw [← hw6.out]
      refine WO.seg rfl ?_ hS0.out
      simp only [picks, pick, List.cons_append, List.nil_append, List.append_nil]
      repeat (first
        | go_big_quiet_skip
        | (refine wpQuiet_loadC (by rfl) 44 (.tmp 15) rfl (w.heap.size + 2) 4 (by rfl) _ L16.out ?_; go_simp)
        | (refine wpQuiet_loadC (by rfl) 44 (.tmp 17) rfl w.heap.size 4 (by rfl) _ L18.out ?_; go_simp)
        | (refine wpQuiet_loadC (by rfl) 43 (.tmp 20) rfl g (o + i * 3) (by rfl) _ L21.out ?_; go_simp)
        | go_big_quiet_step (fail))
      refine wpQuiet_nil ?_
      intro K hK
      go_simp
      obtain ⟨w8, hw8⟩ : ∃ w8, w8 = w6.alloc (.cells #[.int .i64 x.p, .int .i64 x.i, .int .i64 x.c] 43) := ⟨_, rfl⟩
      have hb8 : Below w6.heap.size w6 w8 := by rw [hw8]; exact (Below.refl _ _).alloc (Nat.le_refl _) _
      have h8 := h6.out.below hb8
      have z8 : w6.heap.size < w8.heap.size := by rw [hw8]; simp
      have hS8 : RvS w v M ms.length cM A i c g (o + i * 3) x w8 := ⟨h8.par, by have := h8.vi; rwa [hlq] at this, (hb8.cell (p := ⟨g, _, none⟩) hg6).trans hS0.out.c0, (hb8.cell (p := ⟨g, _, none⟩) hg6).trans hS0.out.c1, (hb8.cell (p := ⟨g, _, none⟩) hg6).trans hS0.out.c2⟩
      have hrow8 : RowAt w8 w8.heap.size 3 eMb (some ⟨w6.heap.size, 0, none⟩) [x] := by
        have := row_new w6 43 3 eMb x #[.int .i64 x.p, .int .i64 x.i, .int .i64 x.c] rfl
        rw [← hw8] at this
        exact this.more z8
      rw [← hw8]
      replace hw8 := Lib.hid hw8
      replace hS8 := Lib.hid hS8
      replace h8 := Lib.hid h8
      refine hK.out _ _ hS8.out ?_
      clear hK K
      refine WO.seg rfl ?_ hS8.out
      simp only [picks]
      refine wpQuiet_nil ?_
      intro K hK
      rw [if_pos (by rfl)]
      refine wp_append_rows w8 (.tmp 16) (.tmp 22) 44 rfl (w.heap.size + 3) 43 3 24 mbZ Try.underlying44 info43 (by rfl) (by omega) eMb len_eMb one_eMb A c (ms.take i) (some ⟨w6.heap.size, 0, none⟩) 1 w8.heap.size i 1 [x] (by rfl) (by rfl) hlq rfl h8.out.own hrow8 (by omega) (by omega) h8.out.lt ?_
      intro A' c' w9 ho9 hg9 hA9
      rw [hsnoc.out] at ho9
      have h8l := h8.out.lt
      have hlq' : (ms.take (i + 1)).length = i + 1 := List.length_take_of_le (by omega)
      have hno9 : ∀ k, k < w.heap.size + 3 → w9.heap[k]? = w8.heap[k]? := fun k hk => hg9.block k (by omega) (fun e => by have := h8.out.own.lo k e.symm; omega)
      have hgno : g < w.heap.size + 3 := by omega
      have hS9 : RvS w v M ms.length cM A i c g (o + i * 3) x w9 := ⟨hS8.out.par.same (hno9 _ (by omega)), hS8.out.vi.same (hno9 _ (by omega)), (World.cell?_of_block (a := ⟨g, _, none⟩) (hno9 g hgno)).trans hS8.out.c0, (World.cell?_of_block (a := ⟨g, _, none⟩) (hno9 g hgno)).trans hS8.out.c1, (World.cell?_of_block (a := ⟨g, _, none⟩) (hno9 g hgno)).trans hS8.out.c2⟩
      have h10 := h8.out.push ho9 hg9
      rw [hlq'] at h10
      replace hS9 := Lib.hid hS9
      replace h10 := Lib.hid h10
      replace ho9 := Lib.hid ho9
      replace hg9 := Lib.hid hg9
      refine hK.out _ _ hS9.out ?_
      clear hK K
      refine WO.segz rfl ?_
      simp only [picks, pick, List.cons_append, List.nil_append, List.append_nil]
      try simp only [Act.put, List.setIfInBounds_toArray, List.set_cons_zero, List.set_cons_succ]
      repeat go_big_quiet_step (fail)
      refine wpQuiet_nil ?_
      intro K hK
      rw [if_pos (by rfl)]
      refine wp_store44 (.tmp 24) (.tmp 23) rfl rfl (w.heap.size + 2) 4 (by rfl) A' (i + 1) c' (by rfl) (World.there.at hS9.out.vi.there (by omega)) ?_
      intro w10 hw10
      replace h10 : Hid (RvR w v M ms.length cM (ms.take (i + 1)) A' c' w10) := by rw [hw10.out]; exact h10
      refine hK.out _ _ ?_
      clear hK K hC
      go_wp2
      go_roundw
      case rel => exact ⟨i + 1, A', c', by go_num, by omega, h10.out⟩
      case measure => go_light; simp [intOf]; omega
    · obtain rfl : i = ms.length := by omega
      rw [List.take_length] at hR
      replace hR := Lib.hid hR
      go_wp2_with (first
        | (refine wpList_loadR rfl 46 (.tmp 3) rfl (w.heap.size + 2) 0 (by rfl) _ hR.out.vi.load ?_)
        | (refine wpList_store46 rfl (.tmp 2) (.tmp 25) rfl (w.heap.size + 1) 0 (by rfl) v A ms.length c (by rfl) hR.out.out ?_; intro w5 hw5)
        | fail)
      have v5 : ViAt w5 (w.heap.size + 1) v A ms.length c := by rw [hw5.out]; exact viAt_put hR.out.out
      have g5 : wr.grownBy w5 (some (w.heap.size + 1)) := by rw [hw5.out]; exact grown_sets _ _ _ _
      have b5 : Below w.heap.size w w5 := hR.out.bel.grown g5 (by omega) (by intro k hk; injection hk with hk; omega)
      have o5 := hR.out.own.kept g5 (.inr (by intro e; have := (hR.out.own.lo _ e).1; omega))
      exact bodyPost_ret (res_cell (p := 2) (ty := 46) rfl rfl v5.load) rfl ⟨A, c, rfl, (o5.rowN len_eMb).low (by omega), b5⟩
end Go.Proofs.Ytfbeggdbjpmppaa
/- The document's Install. -/
namespace Go.Proofs.Ytfbeggdbjpmppaa
open Go.RowKit
set_option maxRecDepth 100000 in
set_option maxHeartbeats 1000000 in
theorem rinstall_none (b : Nat) (F : List Nat) (s : St) (hs : List HdR) (X : Ptrs) (w : World) (h : RefAt w b F s hs X) (hF : ∀ x ∈ F, x < w.heap.size) (hI : Inv s) (hR : RInv s) (hlen : hs.length ≤ 1000000) (hno : s.agreed = none) :
    Calls Try.prog 64 #[.pointer (some ⟨b, 0, none⟩)] w fun x w' => x = .returned (.tuple #[.agg (viewA Vid.zero none 0 0), .slice none 0 0, .int .i64 61]) ∧ RLeft w w' b F s hs.length (blk X.A) := by
  obtain ⟨w1, hw1⟩ : ∃ w1, w1 = w.alloc (.cells (viewA Vid.zero none 0 0) 46) := ⟨_, rfl⟩
  have b1 : Below w.heap.size w w1 := by rw [hw1]; exact below_box1 _ _ _
  have z1 : w1.heap.size = w.heap.size + 1 := by rw [hw1]; simp
  have t1 : w1.there w.heap.size 0 5 := by rw [hw1]; exact there_new w (viewA Vid.zero none 0 0) 46
  have h1 := h.below b1
  replace hno := Lib.hid hno
  replace h := Lib.hid h
  replace h1 := Lib.hid h1
  replace hw1 := Lib.hid hw1
  replace t1 := Lib.hid t1
  replace hI := Lib.hid hI
  replace hR := Lib.hid hR
  replace hF := Lib.hid hF
  go_enter Try.func64, Try.ntmps64
  go_wp2_with (first
    | (rw [← hw1.out]
       go_at_call 63
       refine (ragreed_any b F s hs X w1 h1.out hI.out hR.out hlen).mono ?_
       rintro e w2 ⟨hx, -, hb2⟩
       obtain rfl := hx hno.out
       have z2 := hb2.size
       have b2 := b1.trans (hb2.mono (by omega))
       have t2 := there_below t1.out hb2 (by omega)
       have b2a : Below w.heap.size w (w2.alloc (.cells (viewA Vid.zero none 0 0) 46)) := b2.alloc (by omega) _
       have t2a := World.there_alloc t2 (.cells (viewA Vid.zero none 0 0) 46)
       replace b2 := Lib.hid b2
       replace t2 := Lib.hid t2
       replace b2a := Lib.hid b2a
       replace t2a := Lib.hid t2a
       clear hx hb2)
    | (refine wpList_store46 rfl (.tmp 5) (.tmp 11) rfl w2.heap.size 0 (by rfl) Vid.zero none 0 0 (by rfl) (there_new w2 (viewA Vid.zero none 0 0) 46) ?_
       intro w3 hw3
       have b3 : Below w.heap.size w w3 := by rw [hw3.out]; exact below_sets b2a.out (by omega) _ _ (by simp; omega)
       have z3 : w3.heap.size = w2.heap.size + 1 := by rw [hw3.out, size_sets, World.size_alloc]
       have t3 : w3.there w.heap.size 0 5 := by rw [hw3.out]; exact World.there_setCells t2a.out _ _ _
       replace b3 := Lib.hid b3
       replace t3 := Lib.hid t3)
    | (refine wpList_store46 rfl (.tmp 2) (.tmp 16) rfl w.heap.size 0 (by rfl) Vid.zero none 0 0 (by rfl) t3.out ?_; intro w4 hw4)
    | fail)
  have v4 : ViAt w4 w.heap.size Vid.zero none 0 0 := by rw [hw4.out]; exact viAt_put (w := w3) (v := Vid.zero) (A := none) (n := 0) (c := 0) t3.out
  have hb4 : Below w.heap.size w w4 := by rw [hw4.out]; exact below_sets b3.out (Nat.le_refl _) _ _ (by omega)
  exact bodyPost_ret (res_cell_tmp_tmp (p := 2) (u := 3) (u' := 4) (ty := 46) rfl rfl v4.load) rfl ⟨rfl, h.out.left hb4 hF.out (Nat.le_refl _)⟩
/-- What the document's Install answers where there is a view. -/
def RnPost (w : World) (b : Nat) (F : List Nat) (s : St) (n : Nat) (o : Option Nat) (a : Ag) (x : Ending) (w' : World) : Prop :=
  ∃ A c T cT, x = .returned (.tuple #[.agg (viewA a.vid A a.mem.length c), .slice T a.trans.length cT, .int .i64 0]) ∧ RLeft w w' b F s.install n o ∧ RowN w' w.heap.size 3 eMb A a.mem ∧ RowN w' w.heap.size 1 eInt T a.trans
set_option maxRecDepth 100000 in
set_option maxHeartbeats 2000000 in
theorem rinstall_some (b : Nat) (F : List Nat) (s : St) (hs : List HdR) (X : Ptrs) (w : World) (h : RefAt w b F s hs X) (hF : ∀ x ∈ F, x < w.heap.size) (hI : Inv s) (hR : RInv s) (hlen : hs.length ≤ 1000000) (a : Ag) (ha : s.agreed = some a) :
    Calls Try.prog 64 #[.pointer (some ⟨b, 0, none⟩)] w (RnPost w b F s hs.length (blk X.A) a) := by
  obtain ⟨w1, hw1⟩ : ∃ w1, w1 = w.alloc (.cells (viewA Vid.zero none 0 0) 46) := ⟨_, rfl⟩
  have b1 : Below w.heap.size w w1 := by rw [hw1]; exact below_box1 _ _ _
  have z1 : w1.heap.size = w.heap.size + 1 := by rw [hw1]; simp
  have t1 : w1.there w.heap.size 0 5 := by rw [hw1]; exact there_new w (viewA Vid.zero none 0 0) 46
  have h1 := h.below b1
  have hbl := h.bl
  have hX : RefAt w b (w.heap.size :: F) s hs X := h.more (fun x hx => List.mem_cons_of_mem _ hx) (fun x hx => (List.mem_cons.1 hx).elim (fun e => .inr (by omega)) .inl)
  have hin : s.install = { s with vid := a.vid, mem := a.mem, opn := false } := by unfold St.install; rw [ha]
  have hml : a.mem.length ≤ 16 := by
    have hn := hI.n2
    unfold St.agreed at ha
    split at ha
    · have := (agTo_len ha).1; omega
    · cases ha
  replace hin := Lib.hid hin
  replace ha := Lib.hid ha
  replace h := Lib.hid h
  replace h1 := Lib.hid h1
  replace hX := Lib.hid hX
  replace hw1 := Lib.hid hw1
  replace t1 := Lib.hid t1
  replace hI := Lib.hid hI
  replace hR := Lib.hid hR
  replace hF := Lib.hid hF
  go_enter Try.func64, Try.ntmps64
  go_wp2_with (first
    | (rw [← hw1.out]
       go_at_call 63
       refine (ragreed_any b F s hs X w1 h1.out hI.out hR.out hlen).mono ?_
       rintro e w2 ⟨-, hx, hb2⟩
       obtain ⟨A, c, T, cT, rfl, rA, rT⟩ := hx a ha.out
       have z2 := hb2.size
       have b2 := b1.trans (hb2.mono (by omega))
       have t2 := there_below t1.out hb2 (by omega)
       have b2a : Below w.heap.size w (w2.alloc (.cells (viewA Vid.zero none 0 0) 46)) := b2.alloc (by omega) _
       have t2a := World.there_alloc t2 (.cells (viewA Vid.zero none 0 0) 46)
       have b22 : Below w2.heap.size w2 (w2.alloc (.cells (viewA Vid.zero none 0 0) 46)) := (Below.refl _ _).alloc (Nat.le_refl _) _
       replace b2 := Lib.hid b2
       replace t2 := Lib.hid t2
       replace b2a := Lib.hid b2a
       replace t2a := Lib.hid t2a
       replace b22 := Lib.hid b22
       replace rA := Lib.hid rA
       replace rT := Lib.hid rT
       clear hx hb2)
    | (refine wpList_store46 rfl (.tmp 5) (.tmp 11) rfl w2.heap.size 0 (by rfl) a.vid A a.mem.length c (by rfl) (there_new w2 (viewA Vid.zero none 0 0) 46) ?_
       intro w3 hw3
       have b3 : Below w.heap.size w w3 := by rw [hw3.out]; exact below_sets b2a.out (by omega) _ _ (by simp; omega)
       have b23 : Below w2.heap.size w2 w3 := by rw [hw3.out]; exact below_sets b22.out (Nat.le_refl _) _ _ (by simp)
       have z3 : w3.heap.size = w2.heap.size + 1 := by rw [hw3.out, size_sets, World.size_alloc]
       have t3 : w3.there w.heap.size 0 5 := by rw [hw3.out]; exact World.there_setCells t2a.out _ _ _
       have v3 : ViAt w3 w2.heap.size a.vid A a.mem.length c := by rw [hw3.out]; exact viAt_put (there_new w2 (viewA Vid.zero none 0 0) 46)
       replace rA := Lib.hid (rA.out.below b23)
       replace rT := Lib.hid (rT.out.below b23)
       replace b3 := Lib.hid b3
       replace t3 := Lib.hid t3
       replace v3 := Lib.hid v3
       clear b23 hw3)
    | (refine wpList_loadR rfl 46 (.tmp 5) rfl w2.heap.size 0 (by rfl) _ (by exact v3.out.load) ?_)
    | fail)
  go_wp2_with (first
    | (go_at_call 80
       refine (rview_any a.vid A c w3.heap.size a.mem w3 (Nat.le_refl _) rA.out.row hml).mono ?_
       rintro e w4 ⟨A', c', rfl, rA', hb4⟩
       have z4 := hb4.size
       have b4 := b3.out.trans (hb4.mono (by omega))
       have h4 := hX.out.below b4
       have t4 := there_below t3.out hb4 (by omega)
       have v4 := v3.out.same (hb4.block _ (by omega))
       have rA4 := rA.out.below hb4
       have rT4 := rT.out.below hb4
       have tb := World.there.at h4.there (o := 3) (m := 5) (by omega)
       have rM : RowF w4 (w.heap.size :: F) 3 eMb A' a.mem := rA'.away (fun x hx => by rcases List.mem_cons.1 hx with e | e; (· omega); (· have := hF.out x e; omega))
       replace b4 := Lib.hid b4
       replace h4 := Lib.hid h4
       replace t4 := Lib.hid t4
       replace v4 := Lib.hid v4
       replace rA4 := Lib.hid rA4
       replace rT4 := Lib.hid rT4
       replace tb := Lib.hid tb
       replace rM := Lib.hid rM
       clear rA' hb4)
    | (refine wpList_store46 rfl (.tmp 21) (.tmp 19) rfl b 3 (by rfl) a.vid A' a.mem.length c' (by rfl) tb.out ?_
       intro w5 hw5
       have h5 := h4.out.setNow a.vid a.mem A' c' rM.out
       have g5 : w4.grownBy w5 (some b) := by rw [hw5.out]; exact grown_sets _ _ _ _
       have h5' : RefAt w5 b (w.heap.size :: F) { s with vid := a.vid, mem := a.mem } hs { X with M := A', cM := c' } := by rw [hw5.out]; exact h5
       have k8 : w5.cell? ⟨b, 8, none⟩ = some (.bool s.opn) := h5'.opn
       have f8 := there_frozen h5'.there (k := 8) (by omega)
       obtain ⟨w6, hw6⟩ : ∃ w6, w6 = w5.setCell ⟨b, 8, none⟩ (.bool false) := ⟨_, rfl⟩
       have h6 : RefAt w6 b (w.heap.size :: F) s.install hs { X with M := A', cM := c' } := by rw [hin.out, hw6]; exact h5'.setOpn false
       have g6 : w5.grownBy w6 (some b) := by rw [hw6]; exact grown_cell _ _ _ _
       have z5 := g5.size
       have z6 := g6.size
       have v6 := (v4.out.same (g5.block w2.heap.size (by omega) (by intro e; injection e with e; omega))).same (g6.block w2.heap.size (by omega) (by intro e; injection e with e; omega))
       have t6 := grown_there g6 (a := w.heap.size) ⟨by omega, by omega⟩ (grown_there g5 ⟨by omega, by omega⟩ t4.out)
       have rA6 := (rA4.out.grown g5 (by omega)).grown g6 (by omega)
       have rT6 := (rT4.out.grown g5 (by omega)).grown g6 (by omega)
       have c6 : Chg w w6 b (blk X.A) := ((Chg.ofBelow b4.out).trans (Chg.ofGrown g5)).trans (Chg.ofGrown g6)
       replace h6 := Lib.hid h6
       replace hw6 := Lib.hid hw6
       replace v6 := Lib.hid v6
       replace t6 := Lib.hid t6
       replace rA6 := Lib.hid rA6
       replace rT6 := Lib.hid rT6
       replace c6 := Lib.hid c6
       clear h5 h5' hw5)
    | (rw [← hw6.out]
       refine wpList_loadR rfl 46 (.tmp 5) rfl w2.heap.size 0 (by rfl) _ (by exact v6.out.load) ?_)
    | (refine wpList_store46 rfl (.tmp 2) (.tmp 25) rfl w.heap.size 0 (by rfl) a.vid A a.mem.length c (by rfl) t6.out ?_; intro w7 hw7)
    | fail)
  have g7 : w6.grownBy w7 (some w.heap.size) := by rw [hw7.out]; exact grown_sets _ _ _ _
  have v7 : ViAt w7 w.heap.size a.vid A a.mem.length c := by rw [hw7.out]; exact viAt_put (w := w6) (v := a.vid) (A := A) (n := a.mem.length) (c := c) t6.out
  have z7 := g7.size
  have hA6 : ∀ k, blk X.A = some k → k < w.heap.size := fun k hk => hF.out k (h.out.aF k hk)
  have h7 := h6.out.other g7 (List.mem_cons_self ..) (by omega) (by intro e; have := hA6 _ e; omega)
  refine bodyPost_ret (res_cell_tmp_tmp (p := 2) (u := 3) (u' := 4) (ty := 46) rfl rfl v7.load) rfl ⟨A, c, T, cT, rfl, ⟨⟨_, hs, _, h7, fun x hx => List.mem_cons_of_mem _ hx, fun x hx => (List.mem_cons.1 hx).elim (fun e => .inr (by omega)) .inl, fun x hx => ?_, Nat.le_refl _, fun _ hk => .inl hk⟩, ?_⟩, ?_, ?_⟩
  · rcases List.mem_cons.1 hx with e | e
    · omega
    · have := hF.out x e; omega
  · exact ⟨g7.os.trans c6.out.os, g7.tape.trans c6.out.tape, g7.output.trans c6.out.output, Nat.le_trans c6.out.size g7.size, fun k hk e1 e2 => (g7.block k (by omega) (by intro e; injection e with e; omega)).trans (c6.out.block k hk e1 e2)⟩
  · exact (rA6.out.grown g7 (by omega)).low (by omega)
  · exact (rT6.out.grown g7 (by omega)).low (by omega)
end Go.Proofs.Ytfbeggdbjpmppaa
/- The program's New. -/
namespace Go.Proofs.Ytfbeggdbjpmppaa
open Go.RowKit
theorem AgAt.setSetAt {w : World} {b : Nat} {s : St} {M : Option Addr} {cM : Nat} (h : AgAt w b s M cM) (i : Nat) (hi : i < 16) (x : Int) : AgAt (w.setCell ⟨b, 4 + i, none⟩ (.int .i64 x)) b { s with own := { s.own with set := s.own.set.set i x } } M cM := by
  have hrs := range_set h.set (k := i) (by rw [h.l1]; exact hi) x
  show AgAt (w.setCells b (4 + i) [(.int .i64 x)]) _ _ _ _
  change (w.setCells b (4 + i) [(.int .i64 x)]).rangeAt _ _ _ at hrs
  have hv : ([(.int .i64 x)] : List Value).length = 1 := rfl
  have h1 := len_ints s.own.set
  have h2 := len_ints s.own.vec
  have k1 := h.l1
  have k2 := h.l2
  refine ⟨?_, ?_, ?_, ?_, ?_, ?_, ?_, ?_, ?_, ?_, ?_, ?_, ?_, ?_, ?_, ?_, ?_, ?_, ?_, ?_, ?_, ?_, ?_, ?_, ?_, ?_, ?_, ?_, ?_, by rw [List.length_set]; exact h.l1, h.l2, h.l3, h.l4⟩
  · exact cell_out h.n (by omega)
  · exact cell_out h.self (by omega)
  · exact cell_out h.inc (by omega)
  · exact cell_out h.opn (by omega)
  · exact hrs
  · exact rng_out (cs := ints s.own.vec) h.vec (by omega)
  · exact cell_out h.cid (by omega)
  · exact cell_out h.rev (by omega)
  · exact cell_out h.top (by omega)
  · exact cell_out h.pe (by omega)
  · exact cell_out h.pl (by omega)
  · exact cell_out h.pi (by omega)
  · exact cell_out h.pc (by omega)
  · exact cell_out h.ve (by omega)
  · exact cell_out h.vl (by omega)
  · exact cell_out h.vi (by omega)
  · exact cell_out h.vc (by omega)
  · exact cell_out h.mem (by omega)
  · exact fun q hq => cell_out (h.oinc q hq) (by omega)
  · exact fun q hq => rng_out (cs := ints (s.lt q).w.set) (h.oset q hq) (by have := h.l3 q hq; have := h.l4 q hq; have := len_ints (s.lt q).w.set; have := len_ints (s.lt q).w.vec; omega)
  · exact fun q hq => rng_out (cs := ints (s.lt q).w.vec) (h.ovec q hq) (by have := h.l3 q hq; have := h.l4 q hq; have := len_ints (s.lt q).w.set; have := len_ints (s.lt q).w.vec; omega)
  · exact fun q hq => cell_out (h.ocid q hq) (by omega)
  · exact fun q hq => cell_out (h.orev q hq) (by omega)
  · exact fun q hq => cell_out (h.otop q hq) (by omega)
  · exact fun q hq => cell_out (h.ope q hq) (by omega)
  · exact fun q hq => cell_out (h.opl q hq) (by omega)
  · exact fun q hq => cell_out (h.opi q hq) (by omega)
  · exact fun q hq => cell_out (h.opc q hq) (by omega)
  · exact World.there_setCells h.there b _ _
theorem AgAt.setVecAt {w : World} {b : Nat} {s : St} {M : Option Addr} {cM : Nat} (h : AgAt w b s M cM) (i : Nat) (hi : i < 16) (x : Int) : AgAt (w.setCell ⟨b, 20 + i, none⟩ (.int .i64 x)) b { s with own := { s.own with vec := s.own.vec.set i x } } M cM := by
  have hrs := range_set h.vec (k := i) (by rw [h.l2]; exact hi) x
  show AgAt (w.setCells b (20 + i) [(.int .i64 x)]) _ _ _ _
  change (w.setCells b (20 + i) [(.int .i64 x)]).rangeAt _ _ _ at hrs
  have hv : ([(.int .i64 x)] : List Value).length = 1 := rfl
  have h1 := len_ints s.own.set
  have h2 := len_ints s.own.vec
  have k1 := h.l1
  have k2 := h.l2
  refine ⟨?_, ?_, ?_, ?_, ?_, ?_, ?_, ?_, ?_, ?_, ?_, ?_, ?_, ?_, ?_, ?_, ?_, ?_, ?_, ?_, ?_, ?_, ?_, ?_, ?_, ?_, ?_, ?_, ?_, h.l1, by rw [List.length_set]; exact h.l2, h.l3, h.l4⟩
  · exact cell_out h.n (by omega)
  · exact cell_out h.self (by omega)
  · exact cell_out h.inc (by omega)
  · exact cell_out h.opn (by omega)
  · exact rng_out (cs := ints s.own.set) h.set (by omega)
  · exact hrs
  · exact cell_out h.cid (by omega)
  · exact cell_out h.rev (by omega)
  · exact cell_out h.top (by omega)
  · exact cell_out h.pe (by omega)
  · exact cell_out h.pl (by omega)
  · exact cell_out h.pi (by omega)
  · exact cell_out h.pc (by omega)
  · exact cell_out h.ve (by omega)
  · exact cell_out h.vl (by omega)
  · exact cell_out h.vi (by omega)
  · exact cell_out h.vc (by omega)
  · exact cell_out h.mem (by omega)
  · exact fun q hq => cell_out (h.oinc q hq) (by omega)
  · exact fun q hq => rng_out (cs := ints (s.lt q).w.set) (h.oset q hq) (by have := h.l3 q hq; have := h.l4 q hq; have := len_ints (s.lt q).w.set; have := len_ints (s.lt q).w.vec; omega)
  · exact fun q hq => rng_out (cs := ints (s.lt q).w.vec) (h.ovec q hq) (by have := h.l3 q hq; have := h.l4 q hq; have := len_ints (s.lt q).w.set; have := len_ints (s.lt q).w.vec; omega)
  · exact fun q hq => cell_out (h.ocid q hq) (by omega)
  · exact fun q hq => cell_out (h.orev q hq) (by omega)
  · exact fun q hq => cell_out (h.otop q hq) (by omega)
  · exact fun q hq => cell_out (h.ope q hq) (by omega)
  · exact fun q hq => cell_out (h.opl q hq) (by omega)
  · exact fun q hq => cell_out (h.opi q hq) (by omega)
  · exact fun q hq => cell_out (h.opc q hq) (by omega)
  · exact World.there_setCells h.there b _ _

/-- An agent's cells as the composite literal makes them. -/
def agL (n self inc : Int) : List Value := .int .i64 n :: .int .i64 self :: .int .i64 inc :: .bool true :: (wishL Wish.zero ++ ((List.replicate 16 ()).flatMap (fun _ => ltL Lt.zero) ++ [.int .i64 0, .int .i64 0, .int .i64 0, .int .i64 0, .slice none 0 0]))
def agA (n self inc : Int) : Array Value := (agL n self inc).toArray
theorem build101 (w : World) (n self inc : Int) : (Instr.build 101 #[(0, .int .i64 n), (1, .int .i64 self), (2, .int .i64 inc), (3, .bool true)]).run Try.prog w = .ok (.agg (agA n self inc)) w := by kernel_rfl
theorem cells101 (n self inc : Int) : (Value.agg (agA n self inc)).cells = agA n self inc := rfl
theorem size_agA (n self inc : Int) : (agA n self inc).size = 688 := by kernel_rfl
/-- The machine of a literal. -/
def litSt (n self : Nat) (inc : Int) : St := ⟨n, self, inc, true, Wish.zero, List.replicate 16 Lt.zero, Vid.zero, []⟩
theorem lit_lt (n self : Nat) (inc : Int) {q : Nat} (hq : q < 16) : (litSt n self inc).lt q = Lt.zero := by
  show (List.replicate 16 Lt.zero)[q]?.getD Lt.zero = Lt.zero
  rw [List.getElem?_replicate, if_pos hq]; rfl
theorem lit_at (w : World) (n self : Nat) (inc : Int) : AgAt (w.alloc (.cells (agA n self inc) 101)) w.heap.size (litSt n self inc) none 0 := by
  have h := range_new w (agA n self inc) 101
  have e : (agA n self inc).toList = agL n self inc := rfl
  rw [e] at h
  have ht := there_new w (agA n self inc) 101
  rw [size_agA] at ht
  unfold agL at h
  simp only [rng_cons] at h
  obtain ⟨h0, h1, h2, h3, h4⟩ := h
  have z1 : (wishL Wish.zero).length = 39 := len_wishL len_zeros len_zeros
  have z2 : (ltL Lt.zero).length = 40 := len_ltL len_zeros len_zeros
  have hw := rng_left h4
  have hr := rng_right h4 z1
  have ho := rng_left hr
  have hl : ((List.replicate 16 ()).flatMap (fun _ => ltL Lt.zero)).length = 640 := by rw [length_flat (sz := 40) (fun _ => z2)]; rfl
  have hv := rng_right hr hl
  simp only [rng_cons] at hv
  obtain ⟨v0, v1, v2, v3, v4, _⟩ := hv
  obtain ⟨a1, a2, a3, a4, a5, a6, a7, a8, a9⟩ := (wish_parts len_zeros len_zeros).1 hw
  have hq : ∀ q, q < 16 → (w.alloc (.cells (agA n self inc) 101)).rangeAt w.heap.size (43 + q * 40) (ltL Lt.zero) := fun q hq j u hu => by
    have := ho (q * 40 + j) u (flatMap_at (enc := fun _ => ltL Lt.zero) (sz := 40) (fun _ => z2) _ q j () u (by rw [List.getElem?_replicate, if_pos hq]) hu)
    rw [show 43 + q * 40 + j = 0 + 1 + 1 + 1 + 1 + 39 + (q * 40 + j) by omega]; exact this
  have hp := fun q hq' => lt_parts.1 (hq q hq')
  have hpw := fun q hq' => (wish_parts len_zeros len_zeros).1 (hp q hq').2
  have L := fun q (hq' : q < 16) => lit_lt n self inc hq'
  refine ⟨h0, h1, h2, h3, a1, a2, a3, a4, a5, a6, a7, a8, a9, v0, v1, v2, v3, v4, ?_, ?_, ?_, ?_, ?_, ?_, ?_, ?_, ?_, ?_, ht, len_zeros, len_zeros, ?_, ?_⟩
  · exact fun q hq' => by rw [L q hq']; exact (hp q hq').1
  · exact fun q hq' => by rw [L q hq']; exact (hpw q hq').1
  · exact fun q hq' => by rw [L q hq']; exact (hpw q hq').2.1
  · exact fun q hq' => by rw [L q hq']; exact (hpw q hq').2.2.1
  · exact fun q hq' => by rw [L q hq']; exact (hpw q hq').2.2.2.1
  · exact fun q hq' => by rw [L q hq']; exact (hpw q hq').2.2.2.2.1
  · exact fun q hq' => by rw [L q hq']; exact (hpw q hq').2.2.2.2.2.1
  · exact fun q hq' => by rw [L q hq']; exact (hpw q hq').2.2.2.2.2.2.1
  · exact fun q hq' => by rw [L q hq']; exact (hpw q hq').2.2.2.2.2.2.2.1
  · exact fun q hq' => by rw [L q hq']; exact (hpw q hq').2.2.2.2.2.2.2.2
  · exact fun q hq' => by rw [L q hq']; exact len_zeros
  · exact fun q hq' => by rw [L q hq']; exact len_zeros
section
variable {ops : Array Oper} {rest : List Oper} {op : Oper} {a : Act} {w : World} {Q : Exit → Act → World → Prop}
theorem wpList_build101 (hgd : op.guard = none) (x0 x1 x2 : Operand) (ho : op.op = .build 101 #[(0, x0), (1, x1), (2, x2), (3, .const (.bool true))]) (n self inc : Int) (h0 : a.eval x0 = .int .i64 n) (h1 : a.eval x1 = .int .i64 self) (h2 : a.eval x2 = .int .i64 inc)
    (h : wpList Try.prog ops Q rest (a.put op.dst (.agg (agA n self inc))) w) : wpList Try.prog ops Q (op :: rest) a w := by
  refine wpList_plain hgd fun _ hK => ?_
  unfold Oper.wp execOp
  have h3 : a.eval (.const (.bool true)) = .bool true := rfl
  simp only [ho, List.map_toArray, List.map_cons, List.map_nil, h0, h1, h2, h3, Sem.run_bind, build101, Result.andThen_ok, Sem.run_pure]
  exact hK _ _ h
theorem wpList_box101 (hgd : op.guard = none) (x : Operand) (ho : op.op = .box 101 x) (n self inc : Int) (hx : a.eval x = .agg (agA n self inc))
    (h : wpList Try.prog ops Q rest (a.put op.dst (.pointer (some ⟨w.heap.size, 0, none⟩))) (w.alloc (.cells (agA n self inc) 101))) : wpList Try.prog ops Q (op :: rest) a w := by
  refine wpList_plain hgd fun _ hK => ?_
  unfold Oper.wp execOp
  simp only [ho, hx]
  simp [Instr.box, newVar, Sem.run_bind, cells101]
  exact hK _ _ h
end
theorem newB_no {n self inc floor : Int} (h : ¬ (1 ≤ n ∧ n ≤ 16 ∧ 0 ≤ self ∧ self < n ∧ 1 ≤ inc ∧ inc ≤ 4611686018427387904 ∧ 0 ≤ floor ∧ floor ≤ 4611686018427387904)) : newB n self inc floor = false := decide_eq_false h
theorem newB_yes {n self inc floor : Int} (h : 1 ≤ n ∧ n ≤ 16 ∧ 0 ≤ self ∧ self < n ∧ 1 ≤ inc ∧ inc ≤ 4611686018427387904 ∧ 0 ≤ floor ∧ floor ≤ 4611686018427387904) : newB n self inc floor = true := decide_eq_true h
set_option maxRecDepth 100000 in
set_option maxHeartbeats 8000000 in
theorem new_no (n self inc floor : Int) (w : World) (h : newB n self inc floor = false) :
    Calls Try.prog 46 #[.int .i64 n, .int .i64 self, .int .i64 inc, .int .i64 floor] w fun x w' => x = .returned (.tuple #[.pointer none, .int .i64 1]) ∧ w' = w := by
  have hc : n < 1 ∨ (1 ≤ n ∧ 16 < n) ∨ (1 ≤ n ∧ n ≤ 16 ∧ self < 0) ∨ (1 ≤ n ∧ n ≤ 16 ∧ 0 ≤ self ∧ n ≤ self) ∨ (1 ≤ n ∧ n ≤ 16 ∧ 0 ≤ self ∧ self < n ∧ inc < 1) ∨ (1 ≤ n ∧ n ≤ 16 ∧ 0 ≤ self ∧ self < n ∧ 1 ≤ inc ∧ 4611686018427387904 < inc) ∨
      (1 ≤ n ∧ n ≤ 16 ∧ 0 ≤ self ∧ self < n ∧ 1 ≤ inc ∧ inc ≤ 4611686018427387904 ∧ floor < 0) ∨ (1 ≤ n ∧ n ≤ 16 ∧ 0 ≤ self ∧ self < n ∧ 1 ≤ inc ∧ inc ≤ 4611686018427387904 ∧ 0 ≤ floor ∧ 4611686018427387904 < floor) := by
    have := of_decide_eq_false h
    omega
  rcases hc with n1 | ⟨n1, n2⟩ | ⟨n1, n2, n3⟩ | ⟨n1, n2, n3, n4⟩ | ⟨n1, n2, n3, n4, n5⟩ | ⟨n1, n2, n3, n4, n5, n6⟩ | ⟨n1, n2, n3, n4, n5, n6, n7⟩ | ⟨n1, n2, n3, n4, n5, n6, n7, n8⟩
  all_goals
    replace h := Lib.hid h
    go_enter Try.func46, Try.ntmps46
    go_wp2
    go_ret2
    exact ⟨rfl, rfl⟩
set_option maxRecDepth 100000 in
set_option maxHeartbeats 8000000 in
theorem new_spent (n self inc floor : Int) (w : World) (h : newB n self inc floor = true) (hf : floor = 4611686018427387904) :
    Calls Try.prog 46 #[.int .i64 n, .int .i64 self, .int .i64 inc, .int .i64 floor] w fun x w' => x = .returned (.tuple #[.pointer none, .int .i64 3]) ∧ w' = w := by
  obtain ⟨n1, n2, n3, n4, n5, n6, n7, n8⟩ := of_decide_eq_true h
  subst hf
  replace h := Lib.hid h
  go_enter Try.func46, Try.ntmps46
  go_wp2
  go_ret2
  exact ⟨rfl, rfl⟩
set_option maxRecDepth 100000 in
set_option maxHeartbeats 8000000 in
theorem new_yes (n self : Nat) (inc floor : Int) (w : World) (h : newB n self inc floor = true) (hf : floor ≠ 4611686018427387904) :
    Calls Try.prog 46 #[.int .i64 n, .int .i64 self, .int .i64 inc, .int .i64 floor] w fun x w' => x = .returned (.tuple #[.pointer (some ⟨w.heap.size, 0, none⟩), .int .i64 0]) ∧ AgAt w' w.heap.size (newSt n self inc floor) none 0 ∧ Below w.heap.size w w' := by
  obtain ⟨n1, n2, n3, n4, n5, n6, n7, n8⟩ := of_decide_eq_true h
  have hfl : (floor == 4611686018427387904) = false := by simp [hf]
  have hs16 : self < 16 := by omega
  have hsI : (self : Int) < 16 := by omega
  obtain ⟨w1, hw1⟩ : ∃ w1, w1 = w.alloc (.cells (agA n self inc) 101) := ⟨_, rfl⟩
  have h1 : AgAt w1 w.heap.size (litSt n self inc) none 0 := by rw [hw1]; exact lit_at w n self inc
  have h2 := h1.setSetAt self hs16 inc
  have h3 := ((h2.setCid (floor + 1)).setRev 1).setTop floor
  obtain ⟨w3, hw3⟩ : ∃ w3, w3 = (((w1.setCell ⟨w.heap.size, 4 + self, none⟩ (.int .i64 inc)).setCell ⟨w.heap.size, 36, none⟩ (.int .i64 (floor + 1))).setCell ⟨w.heap.size, 37, none⟩ (.int .i64 1)).setCell ⟨w.heap.size, 38, none⟩ (.int .i64 floor) := ⟨_, rfl⟩
  rw [← hw3] at h3
  have h4 := h3.setVecAt self hs16 (floor + 1)
  have hb1 : Below w.heap.size w w1 := by rw [hw1]; exact below_box1 _ _ _
  have hb3 : Below w.heap.size w w3 := by
    rw [hw3]
    exact (((hb1.setCell (Nat.le_refl _) _).setCell (Nat.le_refl _) _).setCell (Nat.le_refl _) _).setCell (Nat.le_refl _) _
  have c1 := rangeAt_cell h1.set (nth_some (l := (litSt n self inc).own.set) (k := self) (by rw [h1.l1]; exact hs16))
  have f1 := there_frozen h1.there (k := 4 + self) (by omega)
  have c2 := h1.cid
  have f2 := there_frozen h1.there (k := 36) (by omega)
  have c3 := h1.rev
  have f3 := there_frozen h1.there (k := 37) (by omega)
  have c4 := h1.top
  have f4 := there_frozen h1.there (k := 38) (by omega)
  have wr1 : IntKind.i64.wrap (floor + 1) = floor + 1 := by rw [IntKind.wrap_i64]; omega
  replace hw1 := Lib.hid hw1
  replace hw3 := Lib.hid hw3
  replace h1 := Lib.hid h1
  replace h2 := Lib.hid h2
  replace h3 := Lib.hid h3
  replace h4 := Lib.hid h4
  replace h := Lib.hid h
  replace hf := Lib.hid hf
  go_enter Try.func46, Try.ntmps46
  go_wp2_with (first
    | (refine wpList_build101 rfl (.tmp 44) (.tmp 45) (.tmp 46) rfl _ _ _ (by rfl) (by rfl) (by rfl) ?_)
    | (refine wpList_box101 rfl (.tmp 47) rfl _ _ _ (by rfl) ?_; rw [← hw1.out])
    | fail)
  rw [← hw3.out]
  clear c1 f1 c2 f2 c3 f3 c4 f4
  have d1 := h3.out.cid
  have d2 := rangeAt_cell h3.out.vec (nth_some (l := zeros) (k := self) (by rw [len_zeros]; exact hs16))
  have d3 := there_frozen h3.out.there (k := 20 + self) (by omega)
  go_still_tail 11, (by kernel_rfl)
  change wpList _ _ _ _ _ w3.drew
  go_wp2
  go_ret2
  refine ⟨rfl, ?_, ?_⟩
  · exact h4.out.drew
  · exact Below.drew (hb3.setCell (Nat.le_refl _) _)
end Go.Proofs.Ytfbeggdbjpmppaa
