/- Prop Install RTwin RBeg RAgr New RNew LawA, joined. -/
import Derived.Test.YtfbeggdbjpmppaaMg5
import Derived.Test.YtfbeggdbjpmppaaMg6
import Derived.Test.YtfbeggdbjpmppaaMg7
set_option linter.unusedVariables false
set_option linter.unusedSimpArgs false
namespace Go.Proofs.Ytfbeggdbjpmppaa
open Go.RowKit
abbrev propA (o : Wish) (S : Option Addr) (cS : Nat) (V : Option Addr) (cV n : Nat) : Array Value := #[.slice S n cS, .int .i64 o.cid, .int .i64 o.rev, .int .i64 o.top, .int .i64 o.prev.e, .int .i64 o.prev.l, .int .i64 o.prev.i, .int .i64 o.prev.c, .slice V n cV]
theorem size31 : (Try.prog.info? 31).map (·.size) = some 9 := by kernel_rfl
theorem run_loadVar31 (w : World) (b : Nat) (o : Wish) (S : Option Addr) (cS : Nat) (V : Option Addr) (cV n : Nat) (h : w.rangeAt b 0 (propA o S cS V cV n).toList) : (loadVar 31 ⟨b, 0, none⟩).run Try.prog w = .ok (.agg (propA o S cS V cV n)) w := by
  have h0 := h 0 _ rfl
  have h1 := h 1 _ rfl
  have h2 := h 2 _ rfl
  have h3 := h 3 _ rfl
  have h4 := h 4 _ rfl
  have h5 := h 5 _ rfl
  have h6 := h 6 _ rfl
  have h7 := h 7 _ rfl
  have h8 := h 8 _ rfl
  simp only [Nat.zero_add] at h0 h1 h2 h3 h4 h5 h6 h7 h8
  clear h
  go_simp
theorem one_propA (o : Wish) (S : Option Addr) (cS : Nat) (V : Option Addr) (cV n : Nat) : (propA o S cS V cV n).all (·.oneCell') = true := by
  refine all_oneCell_toArray (cs := [.slice S n cS, .int .i64 o.cid, .int .i64 o.rev, .int .i64 o.top, .int .i64 o.prev.e, .int .i64 o.prev.l, .int .i64 o.prev.i, .int .i64 o.prev.c, .slice V n cV]) fun u hu => ?_
  simp at hu; rcases hu with rfl | rfl | rfl | rfl | rfl | rfl | rfl | rfl | rfl <;> rfl
theorem wp_store31 {o : Oper} {a : Act} {w : World} {K : Act → World → Prop} {Q : Exit → Act → World → Prop} (x y : Operand) (ho : o.op = .store 31 x y) (hd : o.dst = none) (b : Nat) (hx : a.eval x = .pointer (some ⟨b, 0, none⟩)) (p : Wish) (S : Option Addr) (cS : Nat) (V : Option Addr) (cV n : Nat)
    (hy : a.eval y = .agg (propA p S cS V cV n)) (ht : w.there b 0 9) (h : ∀ w', Hid (w' = w.setCells b 0 (propA p S cS V cV n).toList) → K a w') : o.wp Try.prog a w K Q :=
  wp_store_mid 31 x y ho b 0 (propA p S cS V cV n) hx hy ht (by rw [size31]; rfl) (one_propA _ _ _ _ _ _) (by rw [hd]; exact h _ (Lib.hid rfl))
theorem RowN.keep {α : Type} {w w' : World} {lo sz : Nat} {enc : α → List Value} {A : Option Addr} {l : List α} (h : RowN w lo sz enc A l) (hs : w.heap.size ≤ w'.heap.size) (hk : ∀ k, lo ≤ k → k < w.heap.size → w'.heap[k]? = w.heap[k]?) : RowN w' lo sz enc A l := fun h0 => by
  obtain ⟨g, off, e, h1, h2, h3⟩ := h h0
  exact ⟨g, off, e, h1, by omega, fun k x hx j u hu => (World.cell?_of_block (hk g h1 h2)).trans (h3 k x hx j u hu)⟩
structure PrS (w : World) (b : Nat) (s : St) (M : Option Addr) (cM : Nat) (W : World) : Prop where
  at_ : AgAt W b s M cM
  there : W.there w.heap.size 0 9
  lt : w.heap.size < W.heap.size
  bel : Below w.heap.size w W
theorem PrS.below {w W W' : World} {b : Nat} {s : St} {M : Option Addr} {cM : Nat} (h : PrS w b s M cM W) (hb : b < w.heap.size) (hb' : Below W.heap.size W W') : PrS w b s M cM W' :=
  ⟨h.at_.same (hb'.block b (by have := h.lt; omega)), there_below h.there hb' h.lt, Nat.lt_of_lt_of_le h.lt hb'.size, h.bel.trans (hb'.mono (by have := h.lt; omega))⟩
set_option maxRecDepth 100000 in
set_option maxHeartbeats 4000000 in
theorem proposal_any (b : Nat) (s : St) (M : Option Addr) (cM : Nat) (w : World) (h : AgAt w b s M cM) (hb : b < w.heap.size) (hn : s.n ≤ 16) :
    Calls Try.prog 30 #[.pointer (some ⟨b, 0, none⟩)] w fun x w' => ∃ S V, x = .returned (.agg (propA s.own S s.n V s.n s.n)) ∧ RowN w' w.heap.size 1 eInt S (s.own.set.take s.n) ∧ RowN w' w.heap.size 1 eInt V (s.own.vec.take s.n) ∧ Below w.heap.size w w' := by
  obtain ⟨w1, hw1⟩ : ∃ w1, w1 = w.alloc (.cells #[.slice none 0 0, .int .i64 0, .int .i64 0, .int .i64 0, .int .i64 0, .int .i64 0, .int .i64 0, .int .i64 0, .slice none 0 0] 31) := ⟨_, rfl⟩
  have s1 : w1.heap.size = w.heap.size + 1 := by rw [hw1, World.size_alloc]
  have hb1 : Below w.heap.size w w1 := by rw [hw1]; exact below_box1 _ _ _
  have h1 : PrS w b s M cM w1.drew := by
    have := there_new w #[.slice none 0 0, .int .i64 0, .int .i64 0, .int .i64 0, .int .i64 0, .int .i64 0, .int .i64 0, .int .i64 0, .slice none 0 0] 31
    rw [← hw1] at this
    exact ⟨(h.same (hb1.block b hb)).drew, this, by show w.heap.size < w1.heap.size; omega, Below.drew hb1⟩
  have hC : ∀ x : Prop, (∀ W, PrS w b s M cM W → x) ↔ x := fun x => ⟨fun f => f _ h1, fun f _ _ => f⟩
  have L10 : ∀ W, PrS w b s M cM W → (loadVar 94 ⟨b, 4, none⟩).run Try.prog W = .ok (.agg (arr s.own.set)) W := fun W hW => run_loadVar_arr W b 4 _ hW.at_.set hW.at_.l1
  have L35 : ∀ W, PrS w b s M cM W → (loadVar 94 ⟨b, 20, none⟩).run Try.prog W = .ok (.agg (arr s.own.vec)) W := fun W hW => run_loadVar_arr W b 20 _ hW.at_.vec hW.at_.l2
  have L14 : ∀ W, PrS w b s M cM W → (loadVar 3 ⟨b, 0, none⟩).run Try.prog W = .ok (.int .i64 s.n) W := fun W hW => load3 hW.at_.n
  have L19 : ∀ W, PrS w b s M cM W → (loadVar 3 ⟨b, 36, none⟩).run Try.prog W = .ok (.int .i64 s.own.cid) W := fun W hW => load3 hW.at_.cid
  have L23 : ∀ W, PrS w b s M cM W → (loadVar 3 ⟨b, 37, none⟩).run Try.prog W = .ok (.int .i64 s.own.rev) W := fun W hW => load3 hW.at_.rev
  have L27 : ∀ W, PrS w b s M cM W → (loadVar 3 ⟨b, 38, none⟩).run Try.prog W = .ok (.int .i64 s.own.top) W := fun W hW => load3 hW.at_.top
  have L31 : ∀ W, PrS w b s M cM W → (loadVar 29 ⟨b, 39, none⟩).run Try.prog W = .ok (.agg (vidC s.own.prev)) W := fun W hW => load29 hW.at_.pe hW.at_.pl hW.at_.pi hW.at_.pc
  have l1 := h.l1
  have l2 := h.l2
  replace h := Lib.hid h
  replace h1 := Lib.hid h1
  replace hw1 := Lib.hid hw1
  replace L10 := Lib.hid L10
  replace L35 := Lib.hid L35
  replace L14 := Lib.hid L14
  replace L19 := Lib.hid L19
  replace L23 := Lib.hid L23
  replace L27 := Lib.hid L27
  replace L31 := Lib.hid L31
  go_enter Try.func30, Try.ntmps30
  go_wp2
  rw [← hw1.out]
  refine wp_region_ord [([0, 1, 2, 3, 4, 5, 6, 7, 9, 10, 11, 12, 13, 14, 15, 16, 17, 18, 19, 20, 21, 22, 23, 24, 25, 26, 27, 28, 29, 30, 31, 32], 8), ([], 33), ([34], 35)] [] (PrS w b s M cM) rfl (by kernel_rfl) rfl h1.out ?_
  refine WO.seg rfl ?_ h1.out
  simp only [picks, pick, List.cons_append, List.nil_append, List.append_nil]
  repeat (first
    | go_big_quiet_skip
    | (refine wpQuiet_loadC (by rfl) 94 (.tmp 9) rfl b 4 (by rfl) _ L10.out ?_; go_simp)
    | (refine wpQuiet_loadC (by rfl) 94 (.tmp 34) rfl b 20 (by rfl) _ L35.out ?_; go_simp)
    | (refine wpQuiet_loadC (by rfl) 3 (.tmp 13) rfl b 0 (by rfl) _ L14.out ?_; go_simp)
    | (refine wpQuiet_loadC (by rfl) 3 (.tmp 38) rfl b 0 (by rfl) _ L14.out ?_; go_simp)
    | (refine wpQuiet_loadC (by rfl) 3 (.tmp 18) rfl b 36 (by rfl) _ L19.out ?_; go_simp)
    | (refine wpQuiet_loadC (by rfl) 3 (.tmp 22) rfl b 37 (by rfl) _ L23.out ?_; go_simp)
    | (refine wpQuiet_loadC (by rfl) 3 (.tmp 26) rfl b 38 (by rfl) _ L27.out ?_; go_simp)
    | (refine wpQuiet_loadC (by rfl) 29 (.tmp 30) rfl b 39 (by rfl) _ L31.out ?_; go_simp)
    | go_big_quiet_step (fail))
  refine wpQuiet_nil ?_
  intro K hK
  go_simp
  go_at_call 51
  refine (list_any s.own.set s.n _ l1 hn).mono ?_
  rintro e w5 ⟨S, rfl, rS, hb5⟩
  have h5 := h1.out.below hb hb5
  have s15 : w.heap.size ≤ w1.drew.heap.size := by show w.heap.size ≤ w1.heap.size; omega
  have s15' : w.heap.size + 1 ≤ w1.drew.heap.size := by show w.heap.size + 1 ≤ w1.heap.size; omega
  replace rS := Lib.hid (rS.low s15')
  replace h5 := Lib.hid h5
  go_wp2_with fail
  refine hK.out _ _ h5.out ?_
  clear hK K
  refine WO.seg rfl ?_ h5.out
  simp only [picks]
  refine wpQuiet_nil ?_
  intro K hK
  go_simp
  go_at_call 51
  refine (list_any s.own.vec s.n _ l2 hn).mono ?_
  rintro e w6 ⟨V, rfl, rV, hb6⟩
  have h6 := h5.out.below hb hb6
  have s16 : w.heap.size + 1 ≤ w5.heap.size := by have := h5.out.lt; omega
  replace rV := Lib.hid (rV.low s16)
  have rS6 := Lib.hid (rS.out.below hb6)
  replace h6 := Lib.hid h6
  go_wp2_with fail
  refine hK.out _ _ h6.out ?_
  clear hK K
  refine WO.seg rfl ?_ h6.out
  simp only [picks, pick, List.cons_append, List.nil_append, List.append_nil]
  repeat go_big_quiet_step (fail)
  refine wpQuiet_nil ?_
  intro K hK
  rw [if_pos (by rfl)]
  refine wp_store31 (.tmp 2) (.tmp 41) rfl rfl w.heap.size (by rfl) s.own S s.n V s.n s.n (by rfl) h6.out.there ?_
  intro w7 hw7
  have r7 : w7.rangeAt w.heap.size 0 (propA s.own S s.n V s.n s.n).toList := by rw [hw7.out]; exact World.rangeAt_setCells_same _ _ _ _ h6.out.there
  have hl7 := run_loadVar31 w7 w.heap.size s.own S s.n V s.n s.n r7
  have g7 : w6.grownBy w7 (some w.heap.size) := by rw [hw7.out]; exact grown_sets _ _ _ _
  have b7 : Below w.heap.size w w7 := by rw [hw7.out]; exact below_sets h6.out.bel (Nat.le_refl _) _ _ (by have := h6.out.lt; omega)
  have h7 : PrS w b s M cM w7 := by
    refine ⟨h6.out.at_.same (g7.block b (by have := h6.out.lt; omega) (by intro e; injection e with e; omega)), ?_, Nat.lt_of_lt_of_le h6.out.lt g7.size, b7⟩
    rw [hw7.out]; exact World.there_setCells h6.out.there _ _ _
  have rS7 := (rS6.out.keep g7.size (fun k h1 hk => g7.block k hk (by intro e; injection e with e; omega))).low (Nat.le_succ _)
  have rV7 := (rV.out.keep g7.size (fun k h1 hk => g7.block k hk (by intro e; injection e with e; omega))).low (Nat.le_succ _)
  refine hK.out _ _ h7 ?_
  clear hK K
  refine WO.end_ ?_
  simp only [picks]
  refine wpQuiet_nil ?_
  clear hC
  go_wp2
  exact bodyPost_ret (res_cell (p := 2) (ty := 31) rfl rfl hl7) rfl ⟨S, V, rfl, rS7, rV7, b7⟩
end Go.Proofs.Ytfbeggdbjpmppaa
namespace Go.Proofs.Ytfbeggdbjpmppaa
open Go.RowKit
theorem grown_there {w w' : World} {a b o n : Nat} (hg : w.grownBy w' (some b)) (ha : a < w.heap.size ∧ a ≠ b) (h : w.there a o n) : w'.there a o n := fun j hj => by
  have hk := hg.block a ha.1 (by intro e; injection e with e; exact ha.2 e)
  rw [World.cell?_of_block (a := ⟨a, o + j, none⟩) hk, World.frozen?_of_block (a := ⟨a, o + j, none⟩) hk]; exact h j hj
theorem RowN.grown {α : Type} {w w' : World} {lo sz b : Nat} {enc : α → List Value} {A : Option Addr} {l : List α} (h : RowN w lo sz enc A l) (hg : w.grownBy w' (some b)) (hb : b < lo) : RowN w' lo sz enc A l := fun h0 => by
  obtain ⟨g, off, e, h1, h2, h3⟩ := h h0
  exact ⟨g, off, e, h1, Nat.lt_of_lt_of_le h2 hg.size, fun k x hx j u hu => (World.cell?_of_block (hg.block g h2 (by intro e; injection e with e; omega))).trans (h3 k x hx j u hu)⟩
set_option maxRecDepth 100000 in
set_option maxHeartbeats 1000000 in
theorem install_none (b : Nat) (s : St) (M : Option Addr) (cM : Nat) (w : World) (h : AgAt w b s M cM) (hb : b < w.heap.size) (hI : Inv s) (hno : s.agreed = none) :
    Calls Try.prog 27 #[.pointer (some ⟨b, 0, none⟩)] w fun x w' => x = .returned (.tuple #[.agg (viewA Vid.zero none 0 0), .slice none 0 0, .int .i64 61]) ∧ Left w w' b s M cM := by
  have hb0 : Below w.heap.size w (w.alloc (.cells (viewA Vid.zero none 0 0) 46)) := (Below.refl _ _).alloc (Nat.le_refl _) _
  have ht0 : (w.alloc (.cells (viewA Vid.zero none 0 0) 46)).there w.heap.size 0 5 := there_new w (viewA Vid.zero none 0 0) 46
  have h0 := Lib.hid (h.same (hb0.block b hb))
  have z0 : (w.alloc (.cells (viewA Vid.zero none 0 0) 46)).heap.size = w.heap.size + 1 := World.size_alloc _ _
  replace h := Lib.hid h
  replace hno := Lib.hid hno
  replace hb0 := Lib.hid hb0
  replace ht0 := Lib.hid ht0
  replace z0 := Lib.hid z0
  go_enter Try.func27, Try.ntmps27
  go_wp2_with (first
    | (go_at_call 50
       refine (agreed_any b s M cM _ (by exact h0.out) (by rw [z0.out]; omega) hI).mono ?_
       rintro e w1 ⟨h1, -, b1⟩
       obtain rfl := h1 hno.out
       have s1 := b1.size
       rw [z0.out] at s1 b1
       have hb1 : Below w.heap.size w w1 := hb0.out.trans (b1.mono (Nat.le_succ _))
       have hb1a : Below w.heap.size w (w1.alloc (.cells (viewA Vid.zero none 0 0) 46)) := hb1.alloc (by omega) _
       have ht1 := there_below ht0.out b1 (Nat.lt_succ_self _)
       have ht1a := World.there_alloc ht1 (.cells (viewA Vid.zero none 0 0) 46)
       replace b1 := Lib.hid b1
       replace hb1a := Lib.hid hb1a
       replace ht1a := Lib.hid ht1a
       clear h1)
    | (refine wpList_store46 rfl (.tmp 5) (.tmp 11) rfl w1.heap.size 0 (by rfl) Vid.zero none 0 0 (by rfl) (there_new w1 (viewA Vid.zero none 0 0) 46) ?_
       intro w2 hw2
       have hb2 : Below w.heap.size w w2 := by rw [hw2.out]; exact below_sets hb1a.out (by omega) _ _ (by simp; omega)
       have z2 : w2.heap.size = w1.heap.size + 1 := by rw [hw2.out, size_sets, World.size_alloc]
       have ht2 : w2.there w.heap.size 0 5 := by rw [hw2.out]; exact World.there_setCells ht1a.out _ _ _
       replace hb2 := Lib.hid hb2
       replace ht2 := Lib.hid ht2)
    | (refine wpList_store46 rfl (.tmp 2) (.tmp 16) rfl w.heap.size 0 (by rfl) Vid.zero none 0 0 (by rfl) ht2.out ?_; intro w3 hw3)
    | fail)
  have v3 : ViAt w3 w.heap.size Vid.zero none 0 0 := by rw [hw3.out]; exact viAt_put (w := w2) (v := Vid.zero) (A := none) (n := 0) (c := 0) ht2.out
  have hb3 : Below w.heap.size w w3 := by rw [hw3.out]; exact below_sets hb2.out (Nat.le_refl _) _ _ (by omega)
  exact bodyPost_ret (res_cell_tmp_tmp (p := 2) (u := 3) (u' := 4) (ty := 46) rfl rfl v3.load) rfl ⟨rfl, Left.below h.out hb hb3⟩
def InPost (w : World) (b : Nat) (s : St) (a : Ag) (x : Ending) (w' : World) : Prop :=
  ∃ A c T cT M' cM', x = .returned (.tuple #[.agg (viewA a.vid A a.mem.length c), .slice T a.trans.length cT, .int .i64 0]) ∧ Left w w' b s.install M' cM' ∧ RowN w' w.heap.size 3 eMb M' a.mem ∧ RowN w' w.heap.size 3 eMb A a.mem ∧ RowN w' w.heap.size 1 eInt T a.trans
set_option maxRecDepth 100000 in
set_option maxHeartbeats 1000000 in
theorem install_some (b : Nat) (s : St) (M : Option Addr) (cM : Nat) (w : World) (h : AgAt w b s M cM) (hb : b < w.heap.size) (hI : Inv s) (a : Ag) (ha : s.agreed = some a) :
    Calls Try.prog 27 #[.pointer (some ⟨b, 0, none⟩)] w (InPost w b s a) := by
  have hb0 : Below w.heap.size w (w.alloc (.cells (viewA Vid.zero none 0 0) 46)) := (Below.refl _ _).alloc (Nat.le_refl _) _
  have ht0 : (w.alloc (.cells (viewA Vid.zero none 0 0) 46)).there w.heap.size 0 5 := there_new w (viewA Vid.zero none 0 0) 46
  have h0 := Lib.hid (h.same (hb0.block b hb))
  have z0 : (w.alloc (.cells (viewA Vid.zero none 0 0) 46)).heap.size = w.heap.size + 1 := World.size_alloc _ _
  have hin : s.install = { s with vid := a.vid, mem := a.mem, opn := false } := by unfold St.install; rw [ha]
  have hlen : a.mem.length ≤ 16 := by
    have hn := hI.n2
    unfold St.agreed at ha
    split at ha
    · have := (agTo_len ha).1; omega
    · cases ha
  replace h := Lib.hid h
  replace ha := Lib.hid ha
  replace hin := Lib.hid hin
  replace hb0 := Lib.hid hb0
  replace ht0 := Lib.hid ht0
  replace z0 := Lib.hid z0
  go_enter Try.func27, Try.ntmps27
  go_wp2_with (first
    | (go_at_call 50
       refine (agreed_any b s M cM _ (by exact h0.out) (by rw [z0.out]; omega) hI).mono ?_
       rintro e w1 ⟨-, h1, b1⟩
       obtain ⟨A, c, T, cT, rfl, rA, rT⟩ := h1 a ha.out
       have s1 := b1.size
       rw [z0.out] at s1 b1 rA rT
       have hb1 : Below w.heap.size w w1 := hb0.out.trans (b1.mono (Nat.le_succ _))
       have hb1a : Below w.heap.size w (w1.alloc (.cells (viewA Vid.zero none 0 0) 46)) := hb1.alloc (by omega) _
       have ht1 := there_below ht0.out b1 (Nat.lt_succ_self _)
       have ht1a := World.there_alloc ht1 (.cells (viewA Vid.zero none 0 0) 46)
       have hw1a : Below w1.heap.size w1 (w1.alloc (.cells (viewA Vid.zero none 0 0) 46)) := (Below.refl _ _).alloc (Nat.le_refl _) _
       replace b1 := Lib.hid b1
       replace hb1a := Lib.hid hb1a
       replace ht1a := Lib.hid ht1a
       replace rA := Lib.hid rA
       replace rT := Lib.hid rT
       replace hw1a := Lib.hid hw1a
       clear h1)
    | (refine wpList_store46 rfl (.tmp 5) (.tmp 11) rfl w1.heap.size 0 (by rfl) a.vid A a.mem.length c (by rfl) (there_new w1 (viewA Vid.zero none 0 0) 46) ?_
       intro w2 hw2
       have hb2 : Below w.heap.size w w2 := by rw [hw2.out]; exact below_sets hb1a.out (by omega) _ _ (by simp; omega)
       have hw12 : Below w1.heap.size w1 w2 := by rw [hw2.out]; exact below_sets hw1a.out (Nat.le_refl _) _ _ (by simp)
       have z2 : w2.heap.size = w1.heap.size + 1 := by rw [hw2.out, size_sets, World.size_alloc]
       have ht2 : w2.there w.heap.size 0 5 := by rw [hw2.out]; exact World.there_setCells ht1a.out _ _ _
       have v2 : ViAt w2 w1.heap.size a.vid A a.mem.length c := by rw [hw2.out]; exact viAt_put (there_new w1 (viewA Vid.zero none 0 0) 46)
       have h2 := h.out.same (hb2.block b hb)
       replace rA := Lib.hid (rA.out.below hw12)
       replace rT := Lib.hid (rT.out.below hw12)
       replace hb2 := Lib.hid hb2
       replace ht2 := Lib.hid ht2
       replace v2 := Lib.hid v2
       replace h2 := Lib.hid h2)
    | (refine wpList_loadR rfl 46 (.tmp 5) rfl w1.heap.size 0 (by rfl) _ v2.out.load ?_)
    | (refine wpList_store46 rfl (.tmp 20) (.tmp 18) rfl b 683 (by rfl) a.vid A a.mem.length c (by rfl) (World.there.at h2.out.there (by omega)) ?_
       intro w3 hw3
       have h3 : AgAt w3 b { s with vid := a.vid, mem := a.mem } A c := by rw [hw3.out]; exact h2.out.setView a.vid a.mem A c
       have g3 : w2.grownBy w3 (some b) := by rw [hw3.out]; exact grown_sets _ _ _ _
       have k3 : w3.cell? ⟨b, 3, none⟩ = some (.bool s.opn) := h3.opn
       have f3 : w3.frozen? ⟨b, 3, none⟩ = false := there_frozen (k := 3) h3.there (by omega)
       obtain ⟨w4, hw4⟩ : ∃ w4, w4 = w3.setCell ⟨b, 3, none⟩ (.bool false) := ⟨_, rfl⟩
       have h4 : AgAt w4 b s.install A c := by rw [hin.out, hw4]; exact h3.setOpn false
       have g4 : w3.grownBy w4 (some b) := by rw [hw4]; exact grown_cell _ _ _ _
       replace h3 := Lib.hid h3
       replace h4 := Lib.hid h4
       replace hw4 := Lib.hid hw4)
    | (rw [← hw4.out]
       go_at_call 22
       have z3 := g3.size
       have z4 := g4.size
       have rA4 : RowN w4 (w.heap.size + 1) 3 eMb A a.mem := (rA.out.grown g3 (by omega)).grown g4 (by omega)
       have rT4 : RowN w4 (w.heap.size + 1) 1 eInt T a.trans := (rT.out.grown g3 (by omega)).grown g4 (by omega)
       refine (view_any b s.install A c w4.heap.size w4 h4.out (by omega) (Nat.le_refl _) (by rw [hin.out]; exact rA4.row) (by rw [hin.out]; exact hlen)).mono ?_
       rintro e w5 ⟨A', c', rfl, rA5, hb5⟩)
    | (refine wpList_store46 rfl (.tmp 2) (.tmp 25) rfl w.heap.size 0 (by rfl) a.vid A' a.mem.length c' (by rw [hin.out]; rfl) (there_below ((grown_there g4 (by omega) (grown_there g3 (by omega) ht2.out))) hb5 (by omega)) ?_
       intro w6 hw6)
    | fail)
  have z5 := hb5.size
  have ht4 : w4.there w.heap.size 0 5 := grown_there g4 ⟨by omega, by omega⟩ (grown_there g3 ⟨by omega, by omega⟩ ht2.out)
  have ht5 := there_below ht4 hb5 (by omega)
  have v6 : ViAt w6 w.heap.size a.vid A' a.mem.length c' := by rw [hw6.out]; exact viAt_put (w := w5) (v := a.vid) (A := A') (n := a.mem.length) (c := c') ht5
  have g6 : w5.grownBy w6 (some w.heap.size) := by rw [hw6.out]; exact grown_sets _ _ _ _
  have at5 := h4.out.same (hb5.block b (by omega))
  have at6 := at5.same (g6.block b (by omega) (by intro e; injection e with e; omega))
  have gb : w.grownBy w6 (some b) := by
    have e1 := (World.grownBy.but (grown_below hb2.out) (some b)).trans (g3.trans (g4.trans (World.grownBy.but (grown_below hb5) (some b))))
    exact ⟨g6.os.trans e1.os, g6.tape.trans e1.tape, g6.output.trans e1.output, Nat.le_trans e1.size g6.size, fun k hk hne => (g6.block k (by omega) (by intro e; injection e with e; omega)).trans (e1.block k hk hne)⟩
  rw [hin.out] at rA5
  exact bodyPost_ret (res_cell_tmp_tmp (p := 2) (u := 3) (u' := 4) (ty := 46) rfl rfl v6.load) rfl ⟨A', c', T, cT, A, c, rfl, ⟨at6, gb⟩, ((rA4.below hb5).grown g6 (Nat.lt_succ_self _)).low (Nat.le_succ _), (rA5.grown g6 (by omega)).low (by omega), ((rT4.below hb5).grown g6 (Nat.lt_succ_self _)).low (Nat.le_succ _)⟩
end Go.Proofs.Ytfbeggdbjpmppaa
namespace Go.Proofs.Ytfbeggdbjpmppaa
open Go.RowKit
abbrev prV (S : Option Addr) (nS cS : Nat) (V : Option Addr) (nV cV : Nat) (p : Pr) : Array Value := #[.slice S nS cS, .int .i64 p.cid, .int .i64 p.rev, .int .i64 p.top, .int .i64 p.prev.e, .int .i64 p.prev.l, .int .i64 p.prev.i, .int .i64 p.prev.c, .slice V nV cV]
theorem one_prV (S : Option Addr) (nS cS : Nat) (V : Option Addr) (nV cV : Nat) (p : Pr) : (prV S nS cS V nV cV p).all (·.oneCell') = true := by
  refine all_oneCell_toArray (cs := [.slice S nS cS, .int .i64 p.cid, .int .i64 p.rev, .int .i64 p.top, .int .i64 p.prev.e, .int .i64 p.prev.l, .int .i64 p.prev.i, .int .i64 p.prev.c, .slice V nV cV]) fun u hu => ?_
  simp at hu; rcases hu with rfl | rfl | rfl | rfl | rfl | rfl | rfl | rfl | rfl <;> rfl
structure PVar (w : World) (b : Nat) (S : Option Addr) (nS cS : Nat) (V : Option Addr) (nV cV : Nat) (p : Pr) : Prop where
  c0 : w.cell? ⟨b, 0, none⟩ = some (.slice S nS cS)
  c1 : w.cell? ⟨b, 1, none⟩ = some (.int .i64 p.cid)
  c2 : w.cell? ⟨b, 2, none⟩ = some (.int .i64 p.rev)
  c3 : w.cell? ⟨b, 3, none⟩ = some (.int .i64 p.top)
  c4 : w.cell? ⟨b, 4, none⟩ = some (.int .i64 p.prev.e)
  c5 : w.cell? ⟨b, 5, none⟩ = some (.int .i64 p.prev.l)
  c6 : w.cell? ⟨b, 6, none⟩ = some (.int .i64 p.prev.i)
  c7 : w.cell? ⟨b, 7, none⟩ = some (.int .i64 p.prev.c)
  c8 : w.cell? ⟨b, 8, none⟩ = some (.slice V nV cV)
  there : w.there b 0 9
section
variable {w w' : World} {b : Nat} {S : Option Addr} {nS cS : Nat} {V : Option Addr} {nV cV : Nat} {p : Pr}
theorem PVar.same (h : PVar w b S nS cS V nV cV p) (hb : w'.heap[b]? = w.heap[b]?) : PVar w' b S nS cS V nV cV p := by
  have hc : ∀ o, w'.cell? ⟨b, o, none⟩ = w.cell? ⟨b, o, none⟩ := fun o => World.cell?_of_block hb
  have hf : ∀ o, w'.frozen? ⟨b, o, none⟩ = w.frozen? ⟨b, o, none⟩ := fun o => World.frozen?_of_block hb
  exact ⟨(hc _).trans h.c0, (hc _).trans h.c1, (hc _).trans h.c2, (hc _).trans h.c3, (hc _).trans h.c4, (hc _).trans h.c5, (hc _).trans h.c6, (hc _).trans h.c7, (hc _).trans h.c8, fun j hj => by rw [hc, hf]; exact h.there j hj⟩
theorem PVar.ofRange (hr : w.rangeAt b 0 (prV S nS cS V nV cV p).toList) (ht : w.there b 0 9) : PVar w b S nS cS V nV cV p :=
  ⟨hr 0 _ rfl, hr 1 _ rfl, hr 2 _ rfl, hr 3 _ rfl, hr 4 _ rfl, hr 5 _ rfl, hr 6 _ rfl, hr 7 _ rfl, hr 8 _ rfl, ht⟩
theorem PVar.new (w : World) (S : Option Addr) (nS cS : Nat) (V : Option Addr) (nV cV : Nat) (p : Pr) (t : TypeId) : PVar (w.alloc (.cells (prV S nS cS V nV cV p) t)) w.heap.size S nS cS V nV cV p :=
  PVar.ofRange (range_new w (prV S nS cS V nV cV p) t) (there_new w (prV S nS cS V nV cV p) t)
theorem PVar.put (ht : w.there b 0 9) : PVar (w.setCells b 0 (prV S nS cS V nV cV p).toList) b S nS cS V nV cV p :=
  PVar.ofRange (World.rangeAt_setCells_same w b 0 _ ht) (World.there_setCells ht _ _ _)
theorem PVar.set (h : PVar w b S nS cS V nV cV p) (S' : Option Addr) (nS' cS' : Nat) : PVar (w.setCell ⟨b, 0, none⟩ (.slice S' nS' cS')) b S' nS' cS' V nV cV p := by
  show PVar (w.setCells b 0 [.slice S' nS' cS']) _ _ _ _ _ _ _ _
  have hv : ([.slice S' nS' cS'] : List Value).length = 1 := rfl
  exact ⟨cell_in (i := 0) h.there (by omega) rfl, cell_out h.c1 (by omega), cell_out h.c2 (by omega), cell_out h.c3 (by omega), cell_out h.c4 (by omega), cell_out h.c5 (by omega), cell_out h.c6 (by omega), cell_out h.c7 (by omega), cell_out h.c8 (by omega), World.there_setCells h.there _ _ _⟩
theorem PVar.load (h : PVar w b S nS cS V nV cV p) : (loadVar 31 ⟨b, 0, none⟩).run Try.prog w = .ok (.agg (prV S nS cS V nV cV p)) w := by
  obtain ⟨h0, h1, h2, h3, h4, h5, h6, h7, h8, _⟩ := h
  go_simp
end
section
variable {ops : Array Oper} {rest : List Oper} {op : Oper} {a : Act} {w : World} {Q : Exit → Act → World → Prop}
end
abbrev prZ : Array Value := #[.slice none 0 0, .int .i64 0, .int .i64 0, .int .i64 0, .int .i64 0, .int .i64 0, .int .i64 0, .int .i64 0, .slice none 0 0]
end Go.Proofs.Ytfbeggdbjpmppaa
namespace Go.Proofs.Ytfbeggdbjpmppaa
open Go.RowKit
section
variable {w w' : World} {b : Nat} {S : Option Addr} {nS cS : Nat} {V : Option Addr} {nV cV : Nat} {p : Pr}
theorem PVar.setCid (h : PVar w b S nS cS V nV cV p) (x : Int) : PVar (w.setCell ⟨b, 1, none⟩ (.int .i64 x)) b S nS cS V nV cV { p with cid := x } := by
  show PVar (w.setCells b 1 [.int .i64 x]) _ _ _ _ _ _ _ _
  have hv : ([.int .i64 x] : List Value).length = 1 := rfl
  exact ⟨cell_out h.c0 (by omega), cell_in (i := 0) h.there (by omega) rfl, cell_out h.c2 (by omega), cell_out h.c3 (by omega), cell_out h.c4 (by omega), cell_out h.c5 (by omega), cell_out h.c6 (by omega), cell_out h.c7 (by omega), cell_out h.c8 (by omega), World.there_setCells h.there _ _ _⟩
theorem PVar.setRev (h : PVar w b S nS cS V nV cV p) (x : Int) : PVar (w.setCell ⟨b, 2, none⟩ (.int .i64 x)) b S nS cS V nV cV { p with rev := x } := by
  show PVar (w.setCells b 2 [.int .i64 x]) _ _ _ _ _ _ _ _
  have hv : ([.int .i64 x] : List Value).length = 1 := rfl
  exact ⟨cell_out h.c0 (by omega), cell_out h.c1 (by omega), cell_in (i := 0) h.there (by omega) rfl, cell_out h.c3 (by omega), cell_out h.c4 (by omega), cell_out h.c5 (by omega), cell_out h.c6 (by omega), cell_out h.c7 (by omega), cell_out h.c8 (by omega), World.there_setCells h.there _ _ _⟩
theorem PVar.setTop (h : PVar w b S nS cS V nV cV p) (x : Int) : PVar (w.setCell ⟨b, 3, none⟩ (.int .i64 x)) b S nS cS V nV cV { p with top := x } := by
  show PVar (w.setCells b 3 [.int .i64 x]) _ _ _ _ _ _ _ _
  have hv : ([.int .i64 x] : List Value).length = 1 := rfl
  exact ⟨cell_out h.c0 (by omega), cell_out h.c1 (by omega), cell_out h.c2 (by omega), cell_in (i := 0) h.there (by omega) rfl, cell_out h.c4 (by omega), cell_out h.c5 (by omega), cell_out h.c6 (by omega), cell_out h.c7 (by omega), cell_out h.c8 (by omega), World.there_setCells h.there _ _ _⟩
theorem PVar.setPrev (h : PVar w b S nS cS V nV cV p) (x : Vid) : PVar ((((w.setCell ⟨b, 4, none⟩ (.int .i64 x.e)).setCell ⟨b, 5, none⟩ (.int .i64 x.l)).setCell ⟨b, 6, none⟩ (.int .i64 x.i)).setCell ⟨b, 7, none⟩ (.int .i64 x.c)) b S nS cS V nV cV { p with prev := x } := by
  show PVar (w.setCells b 4 [.int .i64 x.e, .int .i64 x.l, .int .i64 x.i, .int .i64 x.c]) _ _ _ _ _ _ _ _
  have hv : ([.int .i64 x.e, .int .i64 x.l, .int .i64 x.i, .int .i64 x.c] : List Value).length = 4 := rfl
  exact ⟨cell_out h.c0 (by omega), cell_out h.c1 (by omega), cell_out h.c2 (by omega), cell_out h.c3 (by omega), cell_in (i := 0) h.there (by omega) rfl, cell_in (i := 1) h.there (by omega) rfl, cell_in (i := 2) h.there (by omega) rfl, cell_in (i := 3) h.there (by omega) rfl, cell_out h.c8 (by omega), World.there_setCells h.there _ _ _⟩
theorem PVar.fr (h : PVar w b S nS cS V nV cV p) {k : Nat} (hk : k < 9) : w.frozen? ⟨b, k, none⟩ = false := there_frozen h.there hk
end
end Go.Proofs.Ytfbeggdbjpmppaa
namespace Go.Proofs.Ytfbeggdbjpmppaa
open Go.RowKit
section
variable {w0 w w' w'' : World} {v : Nat} {ms : List Mb} {A : Option Addr} {c : Nat} {ts : List Int} {T : Option Addr} {cT : Nat}
end
theorem agTo_ge {s : St} : ∀ {i : Nat} {x : Ag}, s.agTo i = some x → s.own.top ≤ x.top
  | 0, x, e => by cases e; exact Int.le_refl _
  | i + 1, x, e => by
    rw [St.agTo] at e
    obtain ⟨y, hy, hs⟩ := Option.bind_eq_some_iff.1 e
    have ih := agTo_ge hy
    unfold St.agStep at hs
    split at hs
    · cases hs; exact ih
    · split at hs
      · cases hs
      · cases hs; show s.own.top ≤ max _ _; omega
end Go.Proofs.Ytfbeggdbjpmppaa
namespace Go.Proofs.Ytfbeggdbjpmppaa
open Go.RowKit
theorem AgAt.setSetAt {w : World} {b : Nat} {s : St} {M : Option Addr} {cM : Nat} (h : AgAt w b s M cM) (i : Nat) (hi : i < 16) (x : Int) : AgAt (w.setCell ⟨b, 4 + i, none⟩ (.int .i64 x)) b { s with own := { s.own with set := s.own.set.set i x } } M cM := by
  have hrs := range_set h.set (k := i) (by rw [h.l1]; exact hi) x
  show AgAt (w.setCells b (4 + i) [(.int .i64 x)]) _ _ _ _
  change (w.setCells b (4 + i) [(.int .i64 x)]).rangeAt _ _ _ at hrs
  have hv : ([(.int .i64 x)] : List Value).length = 1 := rfl
  have h1 := len_ints s.own.set
  have h2 := len_ints s.own.vec
  have k1 := h.l1
  have k2 := h.l2
  refine ⟨?_, ?_, ?_, ?_, ?_, ?_, ?_, ?_, ?_, ?_, ?_, ?_, ?_, ?_, ?_, ?_, ?_, ?_, ?_, ?_, ?_, ?_, ?_, ?_, ?_, ?_, ?_, ?_, ?_, by rw [List.length_set]; exact h.l1, h.l2, h.l3, h.l4⟩
  · exact cell_out h.n (by omega)
  · exact cell_out h.self (by omega)
  · exact cell_out h.inc (by omega)
  · exact cell_out h.opn (by omega)
  · exact hrs
  · exact rng_out (cs := ints s.own.vec) h.vec (by omega)
  · exact cell_out h.cid (by omega)
  · exact cell_out h.rev (by omega)
  · exact cell_out h.top (by omega)
  · exact cell_out h.pe (by omega)
  · exact cell_out h.pl (by omega)
  · exact cell_out h.pi (by omega)
  · exact cell_out h.pc (by omega)
  · exact cell_out h.ve (by omega)
  · exact cell_out h.vl (by omega)
  · exact cell_out h.vi (by omega)
  · exact cell_out h.vc (by omega)
  · exact cell_out h.mem (by omega)
  · exact fun q hq => cell_out (h.oinc q hq) (by omega)
  · exact fun q hq => rng_out (cs := ints (s.lt q).w.set) (h.oset q hq) (by have := h.l3 q hq; have := h.l4 q hq; have := len_ints (s.lt q).w.set; have := len_ints (s.lt q).w.vec; omega)
  · exact fun q hq => rng_out (cs := ints (s.lt q).w.vec) (h.ovec q hq) (by have := h.l3 q hq; have := h.l4 q hq; have := len_ints (s.lt q).w.set; have := len_ints (s.lt q).w.vec; omega)
  · exact fun q hq => cell_out (h.ocid q hq) (by omega)
  · exact fun q hq => cell_out (h.orev q hq) (by omega)
  · exact fun q hq => cell_out (h.otop q hq) (by omega)
  · exact fun q hq => cell_out (h.ope q hq) (by omega)
  · exact fun q hq => cell_out (h.opl q hq) (by omega)
  · exact fun q hq => cell_out (h.opi q hq) (by omega)
  · exact fun q hq => cell_out (h.opc q hq) (by omega)
  · exact World.there_setCells h.there b _ _
theorem AgAt.setVecAt {w : World} {b : Nat} {s : St} {M : Option Addr} {cM : Nat} (h : AgAt w b s M cM) (i : Nat) (hi : i < 16) (x : Int) : AgAt (w.setCell ⟨b, 20 + i, none⟩ (.int .i64 x)) b { s with own := { s.own with vec := s.own.vec.set i x } } M cM := by
  have hrs := range_set h.vec (k := i) (by rw [h.l2]; exact hi) x
  show AgAt (w.setCells b (20 + i) [(.int .i64 x)]) _ _ _ _
  change (w.setCells b (20 + i) [(.int .i64 x)]).rangeAt _ _ _ at hrs
  have hv : ([(.int .i64 x)] : List Value).length = 1 := rfl
  have h1 := len_ints s.own.set
  have h2 := len_ints s.own.vec
  have k1 := h.l1
  have k2 := h.l2
  refine ⟨?_, ?_, ?_, ?_, ?_, ?_, ?_, ?_, ?_, ?_, ?_, ?_, ?_, ?_, ?_, ?_, ?_, ?_, ?_, ?_, ?_, ?_, ?_, ?_, ?_, ?_, ?_, ?_, ?_, h.l1, by rw [List.length_set]; exact h.l2, h.l3, h.l4⟩
  · exact cell_out h.n (by omega)
  · exact cell_out h.self (by omega)
  · exact cell_out h.inc (by omega)
  · exact cell_out h.opn (by omega)
  · exact rng_out (cs := ints s.own.set) h.set (by omega)
  · exact hrs
  · exact cell_out h.cid (by omega)
  · exact cell_out h.rev (by omega)
  · exact cell_out h.top (by omega)
  · exact cell_out h.pe (by omega)
  · exact cell_out h.pl (by omega)
  · exact cell_out h.pi (by omega)
  · exact cell_out h.pc (by omega)
  · exact cell_out h.ve (by omega)
  · exact cell_out h.vl (by omega)
  · exact cell_out h.vi (by omega)
  · exact cell_out h.vc (by omega)
  · exact cell_out h.mem (by omega)
  · exact fun q hq => cell_out (h.oinc q hq) (by omega)
  · exact fun q hq => rng_out (cs := ints (s.lt q).w.set) (h.oset q hq) (by have := h.l3 q hq; have := h.l4 q hq; have := len_ints (s.lt q).w.set; have := len_ints (s.lt q).w.vec; omega)
  · exact fun q hq => rng_out (cs := ints (s.lt q).w.vec) (h.ovec q hq) (by have := h.l3 q hq; have := h.l4 q hq; have := len_ints (s.lt q).w.set; have := len_ints (s.lt q).w.vec; omega)
  · exact fun q hq => cell_out (h.ocid q hq) (by omega)
  · exact fun q hq => cell_out (h.orev q hq) (by omega)
  · exact fun q hq => cell_out (h.otop q hq) (by omega)
  · exact fun q hq => cell_out (h.ope q hq) (by omega)
  · exact fun q hq => cell_out (h.opl q hq) (by omega)
  · exact fun q hq => cell_out (h.opi q hq) (by omega)
  · exact fun q hq => cell_out (h.opc q hq) (by omega)
  · exact World.there_setCells h.there b _ _
def agL (n self inc : Int) : List Value := .int .i64 n :: .int .i64 self :: .int .i64 inc :: .bool true :: (wishL Wish.zero ++ ((List.replicate 16 ()).flatMap (fun _ => ltL Lt.zero) ++ [.int .i64 0, .int .i64 0, .int .i64 0, .int .i64 0, .slice none 0 0]))
def agA (n self inc : Int) : Array Value := (agL n self inc).toArray
theorem build101 (w : World) (n self inc : Int) : (Instr.build 101 #[(0, .int .i64 n), (1, .int .i64 self), (2, .int .i64 inc), (3, .bool true)]).run Try.prog w = .ok (.agg (agA n self inc)) w := by kernel_rfl
theorem cells101 (n self inc : Int) : (Value.agg (agA n self inc)).cells = agA n self inc := rfl
theorem size_agA (n self inc : Int) : (agA n self inc).size = 688 := by kernel_rfl
def litSt (n self : Nat) (inc : Int) : St := ⟨n, self, inc, true, Wish.zero, List.replicate 16 Lt.zero, Vid.zero, []⟩
theorem lit_lt (n self : Nat) (inc : Int) {q : Nat} (hq : q < 16) : (litSt n self inc).lt q = Lt.zero := by
  show (List.replicate 16 Lt.zero)[q]?.getD Lt.zero = Lt.zero
  rw [List.getElem?_replicate, if_pos hq]; rfl
theorem lit_at (w : World) (n self : Nat) (inc : Int) : AgAt (w.alloc (.cells (agA n self inc) 101)) w.heap.size (litSt n self inc) none 0 := by
  have h := range_new w (agA n self inc) 101
  have e : (agA n self inc).toList = agL n self inc := rfl
  rw [e] at h
  have ht := there_new w (agA n self inc) 101
  rw [size_agA] at ht
  unfold agL at h
  simp only [rng_cons] at h
  obtain ⟨h0, h1, h2, h3, h4⟩ := h
  have z1 : (wishL Wish.zero).length = 39 := len_wishL len_zeros len_zeros
  have z2 : (ltL Lt.zero).length = 40 := len_ltL len_zeros len_zeros
  have hw := rng_left h4
  have hr := rng_right h4 z1
  have ho := rng_left hr
  have hl : ((List.replicate 16 ()).flatMap (fun _ => ltL Lt.zero)).length = 640 := by rw [length_flat (sz := 40) (fun _ => z2)]; rfl
  have hv := rng_right hr hl
  simp only [rng_cons] at hv
  obtain ⟨v0, v1, v2, v3, v4, _⟩ := hv
  obtain ⟨a1, a2, a3, a4, a5, a6, a7, a8, a9⟩ := (wish_parts len_zeros len_zeros).1 hw
  have hq : ∀ q, q < 16 → (w.alloc (.cells (agA n self inc) 101)).rangeAt w.heap.size (43 + q * 40) (ltL Lt.zero) := fun q hq j u hu => by
    have := ho (q * 40 + j) u (flatMap_at (enc := fun _ => ltL Lt.zero) (sz := 40) (fun _ => z2) _ q j () u (by rw [List.getElem?_replicate, if_pos hq]) hu)
    rw [show 43 + q * 40 + j = 0 + 1 + 1 + 1 + 1 + 39 + (q * 40 + j) by omega]; exact this
  have hp := fun q hq' => lt_parts.1 (hq q hq')
  have hpw := fun q hq' => (wish_parts len_zeros len_zeros).1 (hp q hq').2
  have L := fun q (hq' : q < 16) => lit_lt n self inc hq'
  refine ⟨h0, h1, h2, h3, a1, a2, a3, a4, a5, a6, a7, a8, a9, v0, v1, v2, v3, v4, ?_, ?_, ?_, ?_, ?_, ?_, ?_, ?_, ?_, ?_, ht, len_zeros, len_zeros, ?_, ?_⟩
  · exact fun q hq' => by rw [L q hq']; exact (hp q hq').1
  · exact fun q hq' => by rw [L q hq']; exact (hpw q hq').1
  · exact fun q hq' => by rw [L q hq']; exact (hpw q hq').2.1
  · exact fun q hq' => by rw [L q hq']; exact (hpw q hq').2.2.1
  · exact fun q hq' => by rw [L q hq']; exact (hpw q hq').2.2.2.1
  · exact fun q hq' => by rw [L q hq']; exact (hpw q hq').2.2.2.2.1
  · exact fun q hq' => by rw [L q hq']; exact (hpw q hq').2.2.2.2.2.1
  · exact fun q hq' => by rw [L q hq']; exact (hpw q hq').2.2.2.2.2.2.1
  · exact fun q hq' => by rw [L q hq']; exact (hpw q hq').2.2.2.2.2.2.2.1
  · exact fun q hq' => by rw [L q hq']; exact (hpw q hq').2.2.2.2.2.2.2.2
  · exact fun q hq' => by rw [L q hq']; exact len_zeros
  · exact fun q hq' => by rw [L q hq']; exact len_zeros
section
variable {ops : Array Oper} {rest : List Oper} {op : Oper} {a : Act} {w : World} {Q : Exit → Act → World → Prop}
theorem wpList_build101 (hgd : op.guard = none) (x0 x1 x2 : Operand) (ho : op.op = .build 101 #[(0, x0), (1, x1), (2, x2), (3, .const (.bool true))]) (n self inc : Int) (h0 : a.eval x0 = .int .i64 n) (h1 : a.eval x1 = .int .i64 self) (h2 : a.eval x2 = .int .i64 inc)
    (h : wpList Try.prog ops Q rest (a.put op.dst (.agg (agA n self inc))) w) : wpList Try.prog ops Q (op :: rest) a w := by
  refine wpList_plain hgd fun _ hK => ?_
  unfold Oper.wp execOp
  have h3 : a.eval (.const (.bool true)) = .bool true := rfl
  simp only [ho, List.map_toArray, List.map_cons, List.map_nil, h0, h1, h2, h3, Sem.run_bind, build101, Result.andThen_ok, Sem.run_pure]
  exact hK _ _ h
theorem wpList_box101 (hgd : op.guard = none) (x : Operand) (ho : op.op = .box 101 x) (n self inc : Int) (hx : a.eval x = .agg (agA n self inc))
    (h : wpList Try.prog ops Q rest (a.put op.dst (.pointer (some ⟨w.heap.size, 0, none⟩))) (w.alloc (.cells (agA n self inc) 101))) : wpList Try.prog ops Q (op :: rest) a w := by
  refine wpList_plain hgd fun _ hK => ?_
  unfold Oper.wp execOp
  simp only [ho, hx]
  simp [Instr.box, newVar, Sem.run_bind, cells101]
  exact hK _ _ h
end
theorem newB_yes {n self inc floor : Int} (h : 1 ≤ n ∧ n ≤ 16 ∧ 0 ≤ self ∧ self < n ∧ 1 ≤ inc ∧ inc ≤ 4611686018427387904 ∧ 0 ≤ floor ∧ floor ≤ 4611686018427387904) : newB n self inc floor = true := decide_eq_true h
set_option maxRecDepth 100000 in
set_option maxHeartbeats 8000000 in
theorem new_yes (n self : Nat) (inc floor : Int) (w : World) (h : newB n self inc floor = true) (hf : floor ≠ 4611686018427387904) :
    Calls Try.prog 46 #[.int .i64 n, .int .i64 self, .int .i64 inc, .int .i64 floor] w fun x w' => x = .returned (.tuple #[.pointer (some ⟨w.heap.size, 0, none⟩), .int .i64 0]) ∧ AgAt w' w.heap.size (newSt n self inc floor) none 0 ∧ Below w.heap.size w w' := by
  obtain ⟨n1, n2, n3, n4, n5, n6, n7, n8⟩ := of_decide_eq_true h
  have hfl : (floor == 4611686018427387904) = false := by simp [hf]
  have hs16 : self < 16 := by omega
  have hsI : (self : Int) < 16 := by omega
  obtain ⟨w1, hw1⟩ : ∃ w1, w1 = w.alloc (.cells (agA n self inc) 101) := ⟨_, rfl⟩
  have h1 : AgAt w1 w.heap.size (litSt n self inc) none 0 := by rw [hw1]; exact lit_at w n self inc
  have h2 := h1.setSetAt self hs16 inc
  have h3 := ((h2.setCid (floor + 1)).setRev 1).setTop floor
  obtain ⟨w3, hw3⟩ : ∃ w3, w3 = (((w1.setCell ⟨w.heap.size, 4 + self, none⟩ (.int .i64 inc)).setCell ⟨w.heap.size, 36, none⟩ (.int .i64 (floor + 1))).setCell ⟨w.heap.size, 37, none⟩ (.int .i64 1)).setCell ⟨w.heap.size, 38, none⟩ (.int .i64 floor) := ⟨_, rfl⟩
  rw [← hw3] at h3
  have h4 := h3.setVecAt self hs16 (floor + 1)
  have hb1 : Below w.heap.size w w1 := by rw [hw1]; exact below_box1 _ _ _
  have hb3 : Below w.heap.size w w3 := by
    rw [hw3]
    exact (((hb1.setCell (Nat.le_refl _) _).setCell (Nat.le_refl _) _).setCell (Nat.le_refl _) _).setCell (Nat.le_refl _) _
  have c1 := rangeAt_cell h1.set (nth_some (l := (litSt n self inc).own.set) (k := self) (by rw [h1.l1]; exact hs16))
  have f1 := there_frozen h1.there (k := 4 + self) (by omega)
  have c2 := h1.cid
  have f2 := there_frozen h1.there (k := 36) (by omega)
  have c3 := h1.rev
  have f3 := there_frozen h1.there (k := 37) (by omega)
  have c4 := h1.top
  have f4 := there_frozen h1.there (k := 38) (by omega)
  have wr1 : IntKind.i64.wrap (floor + 1) = floor + 1 := by rw [IntKind.wrap_i64]; omega
  replace hw1 := Lib.hid hw1
  replace hw3 := Lib.hid hw3
  replace h1 := Lib.hid h1
  replace h2 := Lib.hid h2
  replace h3 := Lib.hid h3
  replace h4 := Lib.hid h4
  replace h := Lib.hid h
  replace hf := Lib.hid hf
  go_enter Try.func46, Try.ntmps46
  go_wp2_with (first
    | (refine wpList_build101 rfl (.tmp 44) (.tmp 45) (.tmp 46) rfl _ _ _ (by rfl) (by rfl) (by rfl) ?_)
    | (refine wpList_box101 rfl (.tmp 47) rfl _ _ _ (by rfl) ?_; rw [← hw1.out])
    | fail)
  rw [← hw3.out]
  clear c1 f1 c2 f2 c3 f3 c4 f4
  have d1 := h3.out.cid
  have d2 := rangeAt_cell h3.out.vec (nth_some (l := zeros) (k := self) (by rw [len_zeros]; exact hs16))
  have d3 := there_frozen h3.out.there (k := 20 + self) (by omega)
  go_still_tail 11, (by kernel_rfl)
  change wpList _ _ _ _ _ w3.drew
  go_wp2
  go_ret2
  refine ⟨rfl, ?_, ?_⟩
  · exact h4.out.drew
  · exact Below.drew (hb3.setCell (Nat.le_refl _) _)
end Go.Proofs.Ytfbeggdbjpmppaa
namespace Go.Proofs.Ytfbeggdbjpmppaa
open Go.RowKit
section
variable {ops : Array Oper} {rest : List Oper} {op : Oper} {a : Act} {w : World} {Q : Exit → Act → World → Prop}
end
theorem range_same {w w' : World} {b o : Nat} {l : List Value} (h : w.rangeAt b o l) (hb : w'.heap[b]? = w.heap[b]?) : w'.rangeAt b o l := fun j u hu => (World.cell?_of_block (a := ⟨b, o + j, none⟩) hb).trans (h j u hu)
theorem there_same {w w' : World} {b o n : Nat} (h : w.there b o n) (hb : w'.heap[b]? = w.heap[b]?) : w'.there b o n := fun j hj => by
  rw [World.cell?_of_block (a := ⟨b, o + j, none⟩) hb, World.frozen?_of_block (a := ⟨b, o + j, none⟩) hb]; exact h j hj
section
variable {w0 w w' : World} {n self inc : Int} {ls lv : List Int} {i j cS cV : Nat} {S V : Option Addr}
end
end Go.Proofs.Ytfbeggdbjpmppaa
namespace Go.Proofs.Ytfbeggdbjpmppaa
open Go.RowKit
set_option maxRecDepth 100000 in
set_option maxHeartbeats 1000000 in
theorem lints_any (A B : Option Addr) (cA cB N : Nat) (l m : List Int) (w : World) (hN : N ≤ w.heap.size) (hA : RowAt w N 1 eInt A l) (hB : RowAt w N 1 eInt B m) (hl : l.length ≤ 9223372036854775807) (hm : m.length ≤ 9223372036854775807) :
    Calls Try.prog 23 #[.slice A l.length cA, .slice B m.length cB] w fun x w' => x = .returned (.bool (decide (l = m))) ∧ Below w.heap.size w w' := by
  by_cases he : l.length = m.length
  · have e1 : ((l.length : Int) != (m.length : Int)) = false := by simp [he]
    have he' := he
    replace he := Lib.hid he
    clear he'
    go_enter Try.func23, Try.ntmps23
    go_wp2
    go_loopw [5] (fun k wr => ∃ q : Nat, k = .int .i64 q ∧ q ≤ l.length ∧ agree l m q ∧ Below w.heap.size w wr) (fun k _ => l.length - (intOf k).toNat)
    case atStart => exact ⟨0, rfl, by omega, agree_zero _ _, Below.refl _ _⟩
    case round =>
      obtain ⟨q, rfl, hq, hag, hb⟩ := hrel
      have hsz := hb.size
      replace hag := Lib.hid hag
      by_cases hlt : q < l.length
      · obtain ⟨g, o, x, hAe, hg, hx, c0⟩ := (hA.below hb hN).int hlt
        obtain ⟨g', o', x', hBe, hg', hx', d0⟩ := (hB.below hb hN).int (show q < m.length by rw [← he.out]; exact hlt)
        have hlt' : q < m.length := by rw [← he.out]; exact hlt
        by_cases hxx : x = x'
        · have e2 : (x != x') = false := by simp [hxx]
          have hag' := Lib.hid (agree_succ hag.out (by rw [hx.out, hx'.out, hxx]))
          replace hxx := Lib.hid hxx
          rw [hAe, hBe]
          go_wp2
          go_quiet (fail)
          go_wp2
          go_roundw
          case rel => go_light; exact ⟨q + 1, by go_num, by omega, hag'.out, below_drewN hb _⟩
          case measure => go_light; simp [intOf]; omega
        · have e2 : (x != x') = true := by simp [hxx]
          have hno := Lib.hid (show decide (l = m) = false from decide_eq_false (fun e => by subst e; have := hx.out.symm.trans hx'.out; injection this with this; exact hxx this))
          replace hxx := Lib.hid hxx
          rw [hAe, hBe]
          go_wp2
          go_quiet (fail)
          go_wp2
          go_ret
          exact ⟨ret_bool hno.out.symm, below_drewN hb _⟩
      · obtain rfl : q = l.length := by omega
        have hyes := Lib.hid (show decide (l = m) = true from decide_eq_true (agree_all hag.out rfl he.out.symm))
        go_wp2
        go_ret
        exact ⟨ret_bool hyes.out.symm, hb⟩
  · have e1 : ((l.length : Int) != (m.length : Int)) = true := by simp; omega
    have hno := Lib.hid (show decide (l = m) = false from decide_eq_false (fun e => he (by rw [e])))
    replace he := Lib.hid he
    go_enter Try.func23, Try.ntmps23
    go_wp2
    go_ret
    exact ⟨ret_bool hno.out.symm, Below.refl _ _⟩
set_option maxRecDepth 100000 in
set_option maxHeartbeats 1000000 in
theorem lsame_any (x y : Vid) (w : World) : Calls Try.prog 29 #[.agg (vidC x), .agg (vidC y)] w fun r w' => r = .returned (.bool (vidEq x y)) ∧ Below w.heap.size w w' := by
  have hb := Lib.hid (below_box2 w (vidC x) 29 (vidC y) 29)
  have key : ∀ (p q r t : Bool), (x.e == y.e) = p → (x.l == y.l) = q → (x.i == y.i) = r → (x.c == y.c) = t → vidEq x y = (p && q && r && t) := by
    intro p q r t h1 h2 h3 h4
    subst h1 h2 h3 h4
    unfold vidEq
    rw [Bool.eq_iff_iff]
    simp only [decide_eq_true_eq, Bool.and_eq_true, beq_iff_eq]
    constructor
    · rintro rfl; exact ⟨⟨⟨rfl, rfl⟩, rfl⟩, rfl⟩
    · rintro ⟨⟨⟨h1, h2⟩, h3⟩, h4⟩; cases x; cases y; simp_all
  cases h1 : (x.e == y.e) with
  | false =>
    have k := Lib.hid (key _ _ _ _ h1 rfl rfl rfl)
    clear key
    go_enter Try.func29, Try.ntmps29
    go_wp2
    go_ret
    exact ⟨ret_bool (by rw [k.out]; rfl), hb.out⟩
  | true =>
    cases h2 : (x.l == y.l) with
    | false =>
      have k := Lib.hid (key _ _ _ _ h1 h2 rfl rfl)
      clear key
      go_enter Try.func29, Try.ntmps29
      go_wp2
      go_ret
      exact ⟨ret_bool (by rw [k.out]; rfl), hb.out⟩
    | true =>
      cases h3 : (x.i == y.i) with
      | false =>
        have k := Lib.hid (key _ _ _ _ h1 h2 h3 rfl)
        clear key
        go_enter Try.func29, Try.ntmps29
        go_wp2
        go_ret
        exact ⟨ret_bool (by rw [k.out]; rfl), hb.out⟩
      | true =>
        have k := Lib.hid (key _ _ _ _ h1 h2 h3 rfl)
        clear key
        go_enter Try.func29, Try.ntmps29
        go_wp2
        go_ret
        exact ⟨ret_bool (by rw [k.out]; rfl), hb.out⟩
theorem lints_two (A B : Option Addr) (cA cB N : Nat) (l m : List Int) (k n : Nat) (w : World) (hk : l.length = k) (hm : m.length = n) (hN : N ≤ w.heap.size) (hA : RowAt w N 1 eInt A l) (hB : RowAt w N 1 eInt B m) (hl : k ≤ 9223372036854775807) (hn : n ≤ 9223372036854775807) :
    Calls Try.prog 23 #[.slice A k cA, .slice B n cB] w fun x w' => x = .returned (.bool (decide (l = m))) ∧ Below w.heap.size w w' := by
  subst hk hm
  exact lints_any A B cA cB N l m w hN hA hB hl hn
def marks (i : Nat) : List Int := (List.range i).map fun j : Nat => 77 + (j : Int)
theorem len_marks (i : Nat) : (marks i).length = i := by simp [marks]
theorem marks_succ (i : Nat) : marks (i + 1) = marks i ++ [77 + (i : Int)] := by simp [marks, List.range_succ]
def FrPost (w : World) (n : Nat) (l : List Int) (x : Ending) (w' : World) : Prop :=
  ∃ g c, x = .returned (.slice (some ⟨g, 0, none⟩) n c) ∧ Owns w' w.heap.size 3 1 eInt (some ⟨g, 0, none⟩) c (l ++ marks 64) ∧ Below w.heap.size w w'
set_option maxRecDepth 100000 in
set_option maxHeartbeats 1000000 in
theorem fresh_any (A : Option Addr) (cA N n : Nat) (l : List Int) (w : World) (hl : l.length = n) (hN : N ≤ w.heap.size) (hA : RowAt w N 1 eInt A l) (hn : n ≤ 2000000) :
    Calls Try.prog 57 #[.slice A n cA] w (FrPost w n l) := by
  have hl' := Lib.hid hl
  clear hl
  go_enter Try.func57, Try.ntmps57
  go_wp2_with (first
    | (refine wpList_append_rows _ rfl (.tmp 5) (.tmp 6) 27 rfl w.heap.size 3 1 8 (.int .i64 0) Try.underlying27 info3 (by rfl) (by omega) eInt len_eInt one_eInt none 0 [] A cA N 0 n l (by rfl) (by rfl) rfl hl'.out (owns_nil _ _ _ _ _) hA (by omega) (by omega) (by exact Nat.le_refl _) ?_
       intro A1 c1 w1 ho1 hg1 hA1
       rw [List.nil_append] at ho1
       rw [Nat.zero_add]
       have b1 : Below w.heap.size w w1 := (Below.refl _ _).grown hg1 (Nat.le_refl _) (fun k hk => by cases hk)
       replace ho1 := Lib.hid ho1
       replace b1 := Lib.hid b1
       clear hg1 hA1)
    | fail)
  go_loopw [3, 4] (fun v k wr => ∃ i B c, k = .int .i64 ((i : Nat) : Int) ∧ i ≤ 64 ∧ v = .slice B (n + i) c ∧ Owns wr w.heap.size 3 1 eInt B c (l ++ marks i) ∧ Below w.heap.size w wr) (fun _ k _ => 64 - (intOf k).toNat)
  case atStart => exact ⟨0, A1, c1, rfl, by omega, rfl, by show Owns w1 _ 3 1 eInt A1 c1 (l ++ []); rw [List.append_nil]; exact ho1.out, b1.out⟩
  case round =>
    obtain ⟨i, B, c, rfl, hi, rfl, ho, hb⟩ := hrel
    have hz := hb.size
    have hlo := ho.lo
    have hll : (l ++ marks i).length = n + i := by rw [List.length_append, hl'.out, len_marks]
    by_cases hlt : i < 64
    · have hms := Lib.hid (show l ++ marks i ++ [77 + (i : Int)] = l ++ marks (i + 1) by rw [marks_succ, List.append_assoc])
      have ho9 := ho.alloc (.cells #[.int .i64 (77 + (i : Int))] 3)
      have hrow9 := row_new wr 3 1 eInt (77 + (i : Int)) #[.int .i64 (77 + (i : Int))] rfl
      have hb9 : Below w.heap.size w (wr.alloc (.cells #[.int .i64 (77 + (i : Int))] 3)) := hb.alloc hz _
      replace ho9 := Lib.hid ho9
      replace hrow9 := Lib.hid hrow9
      replace hb9 := Lib.hid hb9
      replace hlo := Lib.hid hlo
      replace ho := Lib.hid ho
      go_wp2_with (first
        | (refine wpList_append_rows _ rfl (.tmp 12) (.tmp 15) 27 rfl w.heap.size 3 1 8 (.int .i64 0) Try.underlying27 info3 (by rfl) (by omega) eInt len_eInt one_eInt B c (l ++ marks i) (some ⟨wr.heap.size, 0, none⟩) 1 (wr.heap.size + 1) (n + i) 1 [77 + (i : Int)] (by rfl) (by rfl) hll rfl ho9.out hrow9.out (by omega) (by omega) (by rw [World.size_alloc]; omega) ?_
           intro B' c' w2 ho2 hg2 hB2
           rw [hms.out] at ho2
           have b2 : Below w.heap.size w w2 := hb9.out.grown hg2 (by rw [World.size_alloc]; omega) (fun k hk => (hlo.out k hk).1)
           replace ho2 := Lib.hid ho2
           replace b2 := Lib.hid b2
           clear hg2 hB2)
        | fail)
      go_roundw
      case rel => go_light; exact ⟨i + 1, B', c', by go_num, by omega, rfl, ho2.out, b2.out⟩
      case measure => go_light; simp [intOf]; omega
    · obtain rfl : i = 64 := by omega
      have hpos : 0 < (l ++ marks 64).length := by rw [hll]; omega
      obtain ⟨g, cap, hv, -, -⟩ := World.ownsRow.form ho hpos
      have hB : B = some ⟨g, 0, none⟩ := by injection hv
      subst hB
      obtain ⟨hc1, hc2⟩ := ho.len
      rw [hll] at hc1
      replace ho := Lib.hid ho
      replace hlo := Lib.hid hlo
      replace hll := Lib.hid hll
      clear hv
      go_wp2
      go_ret
      exact ⟨g, c, rfl, ho.out, hb⟩
end Go.Proofs.Ytfbeggdbjpmppaa
