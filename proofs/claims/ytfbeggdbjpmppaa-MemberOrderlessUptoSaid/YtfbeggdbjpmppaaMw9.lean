/- RCom RBeg RCnt, joined. -/
import Derived.Test.YtfbeggdbjpmppaaMw5
import Derived.Test.YtfbeggdbjpmppaaMw7
import Derived.Test.YtfbeggdbjpmppaaMw8
set_option linter.unusedVariables false
set_option linter.unusedSimpArgs false
/- The document's agent: its own proposal by value, what a call leaves; its Proposal. -/
namespace Go.Proofs.Ytfbeggdbjpmppaa
open Go.RowKit
/-- The own proposal with lists of n numbers. -/
def Wish.pr (o : Wish) (n : Nat) : Pr := ⟨o.set.take n, o.cid, o.rev, o.top, o.prev, o.vec.take n⟩
/-- What a call of the document's agent leaves. -/
structure RLeft (w w' : World) (b : Nat) (F : List Nat) (s : St) (n : Nat) (o : Option Nat) : Prop where
  ex : ∃ F' hs X, RefAt w' b F' s hs X ∧ (∀ x ∈ F, x ∈ F') ∧ (∀ x ∈ F', x ∈ F ∨ w.heap.size ≤ x) ∧ (∀ x ∈ F', x < w'.heap.size) ∧ hs.length ≤ n ∧ ∀ k, blk X.A = some k → o = some k ∨ w.heap.size ≤ k
  chg : Chg w w' b o
section
variable {w w' : World} {b : Nat} {F : List Nat} {s : St} {hs : List HdR} {X : Ptrs}
theorem RefAt.load (h : RefAt w b F s hs X) : (loadVar 31 ⟨b, 9, none⟩).run Try.prog w = .ok (.agg (prV X.S s.n X.cS X.V s.n X.cV (s.own.pr s.n))) w := by
  have h0 := h.set
  have h1 := h.cid
  have h2 := h.rev
  have h3 := h.top
  have h4 := h.pe
  have h5 := h.pl
  have h6 := h.pi
  have h7 := h.pc
  have h8 := h.vec
  clear h
  unfold Wish.pr
  go_simp
theorem RefAt.left (h : RefAt w b F s hs X) (hb : Below w.heap.size w w') (hF : ∀ x ∈ F, x < w.heap.size) {n : Nat} (hn : hs.length ≤ n) : RLeft w w' b F s n (blk X.A) :=
  ⟨⟨F, hs, X, h.below hb, fun _ h => h, fun _ h => .inl h, fun x hx => Nat.lt_of_lt_of_le (hF x hx) hb.size, hn, fun _ hk => .inl hk⟩, Chg.ofBelow hb⟩
end
theorem len_take16 {l : List Int} {n : Nat} (hl : l.length = 16) (hn : n ≤ 16) : (l.take n).length = n := List.length_take_of_le (by omega)
theorem twin_any' (S : Option Addr) (cS : Nat) (V : Option Addr) (cV N : Nat) (p : Pr) (ls lv : List Int) (n m : Nat) (w : World) (hn : ls.length = n) (hm : lv.length = m) (hN : N ≤ w.heap.size) (hS : RowAt w N 1 eInt S ls) (hV : RowAt w N 1 eInt V lv) (l1 : n ≤ 1000000) (l2 : m ≤ 1000000) :
    Calls Try.prog 74 #[.agg (prV S n cS V m cV p)] w (TwPost w p n m ls lv) := by
  subst hn hm
  exact twin_any S cS V cV N p ls lv w hN hS hV l1 l2
set_option maxRecDepth 100000 in
set_option maxHeartbeats 1000000 in
theorem rproposal_any (b : Nat) (F : List Nat) (s : St) (hs : List HdR) (X : Ptrs) (w : World) (h : RefAt w b F s hs X) (hI : Inv s) :
    Calls Try.prog 62 #[.pointer (some ⟨b, 0, none⟩)] w (TwPost w (s.own.pr s.n) s.n s.n (s.own.set.take s.n) (s.own.vec.take s.n)) := by
  obtain ⟨w1, hw1⟩ : ∃ w1, w1 = w.alloc (.cells prZ 31) := ⟨_, rfl⟩
  have hb1 : Below w.heap.size w w1 := by rw [hw1]; exact below_box1 _ _ _
  have z1 : w1.heap.size = w.heap.size + 1 := by rw [hw1]; simp
  have t1 : w1.there w.heap.size 0 9 := by have := there_new w prZ 31; rw [← hw1] at this; simpa using this
  have h1 := h.below hb1
  have hld := h1.load
  have hn := hI.n2
  have lS := len_take16 hI.own.set hn
  have lV := len_take16 hI.own.vec hn
  replace hld := Lib.hid hld
  replace h1 := Lib.hid h1
  replace t1 := Lib.hid t1
  replace hw1 := Lib.hid hw1
  replace lS := Lib.hid lS
  replace lV := Lib.hid lV
  replace hI := Lib.hid hI
  go_enter Try.func62, Try.ntmps62
  go_wp2_with (first
    | (refine wpList_loadR rfl 31 (.tmp 5) rfl b 9 (by rfl) _ (by rw [← hw1.out]; exact hld.out) ?_
       rw [← hw1.out])
    | (go_at_call 74
       refine (twin_any' X.S X.cS X.V X.cV w1.heap.size (s.own.pr s.n) (s.own.set.take s.n) (s.own.vec.take s.n) s.n s.n w1 lS.out lV.out (Nat.le_refl _) h1.out.rset.row h1.out.rvec.row (by omega) (by omega)).mono ?_
       rintro e w2 ⟨S, cS, V, cV, rfl, rS, rV, hb2⟩
       have z2 := hb2.size
       have t2 := there_below t1.out hb2 (by omega)
       replace rS := Lib.hid rS
       replace rV := Lib.hid rV
       replace t2 := Lib.hid t2
       replace hb2 := Lib.hid hb2)
    | (refine wpList_store31 rfl (.tmp 2) (.tmp 7) rfl w.heap.size 0 (by rfl) S s.n cS V s.n cV (s.own.pr s.n) (by rfl) t2.out ?_
       intro w3 hw3)
    | fail)
  have g3 : w2.grownBy w3 (some w.heap.size) := by rw [hw3.out]; exact grown_sets _ _ _ _
  have p3 : PVar w3 w.heap.size S s.n cS V s.n cV (s.own.pr s.n) := by rw [hw3.out]; exact PVar.put t2.out
  have b3 : Below w.heap.size w w3 := (hb1.trans (hb2.out.mono (by omega))).grown g3 (by omega) (by intro k hk; injection hk with hk; omega)
  exact bodyPost_ret (res_cell (p := 2) (ty := 31) rfl rfl p3.load) rfl ⟨S, cS, V, cV, rfl, (rS.out.grown g3 (by omega)).low (by omega), (rV.out.grown g3 (by omega)).low (by omega), b3⟩
end Go.Proofs.Ytfbeggdbjpmppaa
/- The document's begin. -/
namespace Go.Proofs.Ytfbeggdbjpmppaa
open Go.RowKit
section
variable {w w' : World} {b : Nat} {S : Option Addr} {nS cS : Nat} {V : Option Addr} {nV cV : Nat} {p : Pr}
theorem PVar.setCid (h : PVar w b S nS cS V nV cV p) (x : Int) : PVar (w.setCell ⟨b, 1, none⟩ (.int .i64 x)) b S nS cS V nV cV { p with cid := x } := by
  show PVar (w.setCells b 1 [.int .i64 x]) _ _ _ _ _ _ _ _
  have hv : ([.int .i64 x] : List Value).length = 1 := rfl
  exact ⟨cell_out h.c0 (by omega), cell_in (i := 0) h.there (by omega) rfl, cell_out h.c2 (by omega), cell_out h.c3 (by omega), cell_out h.c4 (by omega), cell_out h.c5 (by omega), cell_out h.c6 (by omega), cell_out h.c7 (by omega), cell_out h.c8 (by omega), World.there_setCells h.there _ _ _⟩
theorem PVar.setRev (h : PVar w b S nS cS V nV cV p) (x : Int) : PVar (w.setCell ⟨b, 2, none⟩ (.int .i64 x)) b S nS cS V nV cV { p with rev := x } := by
  show PVar (w.setCells b 2 [.int .i64 x]) _ _ _ _ _ _ _ _
  have hv : ([.int .i64 x] : List Value).length = 1 := rfl
  exact ⟨cell_out h.c0 (by omega), cell_out h.c1 (by omega), cell_in (i := 0) h.there (by omega) rfl, cell_out h.c3 (by omega), cell_out h.c4 (by omega), cell_out h.c5 (by omega), cell_out h.c6 (by omega), cell_out h.c7 (by omega), cell_out h.c8 (by omega), World.there_setCells h.there _ _ _⟩
theorem PVar.setTop (h : PVar w b S nS cS V nV cV p) (x : Int) : PVar (w.setCell ⟨b, 3, none⟩ (.int .i64 x)) b S nS cS V nV cV { p with top := x } := by
  show PVar (w.setCells b 3 [.int .i64 x]) _ _ _ _ _ _ _ _
  have hv : ([.int .i64 x] : List Value).length = 1 := rfl
  exact ⟨cell_out h.c0 (by omega), cell_out h.c1 (by omega), cell_out h.c2 (by omega), cell_in (i := 0) h.there (by omega) rfl, cell_out h.c4 (by omega), cell_out h.c5 (by omega), cell_out h.c6 (by omega), cell_out h.c7 (by omega), cell_out h.c8 (by omega), World.there_setCells h.there _ _ _⟩
theorem PVar.setPrev (h : PVar w b S nS cS V nV cV p) (x : Vid) : PVar ((((w.setCell ⟨b, 4, none⟩ (.int .i64 x.e)).setCell ⟨b, 5, none⟩ (.int .i64 x.l)).setCell ⟨b, 6, none⟩ (.int .i64 x.i)).setCell ⟨b, 7, none⟩ (.int .i64 x.c)) b S nS cS V nV cV { p with prev := x } := by
  show PVar (w.setCells b 4 [.int .i64 x.e, .int .i64 x.l, .int .i64 x.i, .int .i64 x.c]) _ _ _ _ _ _ _ _
  have hv : ([.int .i64 x.e, .int .i64 x.l, .int .i64 x.i, .int .i64 x.c] : List Value).length = 4 := rfl
  exact ⟨cell_out h.c0 (by omega), cell_out h.c1 (by omega), cell_out h.c2 (by omega), cell_out h.c3 (by omega), cell_in (i := 0) h.there (by omega) rfl, cell_in (i := 1) h.there (by omega) rfl, cell_in (i := 2) h.there (by omega) rfl, cell_in (i := 3) h.there (by omega) rfl, cell_out h.c8 (by omega), World.there_setCells h.there _ _ _⟩
theorem PVar.fr (h : PVar w b S nS cS V nV cV p) {k : Nat} (hk : k < 9) : w.frozen? ⟨b, k, none⟩ = false := there_frozen h.there hk
end
theorem rints_any' (A : Option Addr) (cA N n : Nat) (l : List Int) (w : World) (hn : l.length = n) (hN : N ≤ w.heap.size) (hA : RowAt w N 1 eInt A l) (hl : n ≤ 1000000) :
    Calls Try.prog 82 #[.slice A n cA] w fun x w' => ∃ B c, x = .returned (.slice B n c) ∧ RowN w' w.heap.size 1 eInt B l ∧ Below w.heap.size w w' := by
  subst hn
  exact rints_any A cA N l w hN hA hl

set_option maxRecDepth 100000 in
set_option maxHeartbeats 1000000 in
theorem rbegin_no (b : Nat) (F : List Nat) (s : St) (hs : List HdR) (X : Ptrs) (A : Option Addr) (n c : Nat) (w : World) (h : RefAt w b F s hs X) (hsp : s.spent = true) :
    Calls Try.prog 71 #[.pointer (some ⟨b, 0, none⟩), .slice A n c] w fun x w' => x = .returned (.tuple #[.agg (prV X.S s.n X.cS X.V s.n X.cV (s.own.pr s.n)), .bool false]) ∧ Below w.heap.size w w' := by
  obtain ⟨w2, hw2⟩ : ∃ w2, w2 = (w.alloc (.cells prZ 31)).alloc (.cells prZ 31) := ⟨_, rfl⟩
  have hb2 : Below w.heap.size w w2 := by rw [hw2]; exact below_box2 _ _ _ _ _
  have z2 : w2.heap.size = w.heap.size + 2 := by rw [hw2]; simp
  have t2' : w2.there w.heap.size 0 9 := by
    have := World.there_alloc (there_new w prZ 31) (.cells prZ 31)
    rw [← hw2] at this; simpa using this
  have t2 : w2.there (w.heap.size + 1) 0 9 := by
    have := there_new (w.alloc (.cells prZ 31)) prZ 31
    rw [← hw2] at this; simpa using this
  have hld := (h.below (below_box1 w prZ 31)).load
  have hbl := h.bl
  replace hw2 := Lib.hid hw2
  replace hld := Lib.hid hld
  replace h := Lib.hid h
  replace t2 := Lib.hid t2
  replace t2' := Lib.hid t2'
  have hend : ∀ w4 w5, Below w.heap.size w w4 → w4.there w.heap.size 0 9 → w.heap.size < w4.heap.size → Hid (w5 = w4.setCells w.heap.size 0 (prV X.S s.n X.cS X.V s.n X.cV (s.own.pr s.n)).toList) → PVar w5 w.heap.size X.S s.n X.cS X.V s.n X.cV (s.own.pr s.n) ∧ Below w.heap.size w w5 := by
    intro w4 w5 hb ht hz hw
    have g5 : w4.grownBy w5 (some w.heap.size) := by rw [hw.out]; exact grown_sets _ _ _ _
    exact ⟨by rw [hw.out]; exact PVar.put ht, hb.grown g5 (by omega) (by intro k hk; injection hk with hk; omega)⟩
  replace hend := Lib.hid hend
  have hc : s.own.cid = 4611686018427387904 ∨ (s.own.cid ≠ 4611686018427387904 ∧ s.own.rev = 4611686018427387904) ∨ (s.own.cid ≠ 4611686018427387904 ∧ s.own.rev ≠ 4611686018427387904 ∧ s.vid.e = 4611686018427387904) := by
    unfold St.spent at hsp
    have := of_decide_eq_true hsp
    omega
  clear hsp
  rcases hc with e1 | ⟨e1, e2⟩ | ⟨e1, e2, e3⟩
  · have c1 : (s.own.cid == 4611686018427387904) = true := by simp [e1]
    replace e1 := Lib.hid e1
    go_enter Try.func71, Try.ntmps71
    go_wp2_with (first
      | (refine wpList_loadR rfl 31 (.tmp 9) rfl b 9 (by rfl) _ (by exact hld.out) ?_)
      | (refine wpList_store31 rfl (.tmp 6) (.tmp 10) rfl (w.heap.size + 1) 0 (by rfl) X.S s.n X.cS X.V s.n X.cV (s.own.pr s.n) (by rfl) (by rw [← hw2.out]; exact t2.out) ?_
         rw [← hw2.out]
         intro w4 hw4
         have p4 : PVar w4 (w.heap.size + 1) X.S s.n X.cS X.V s.n X.cV (s.own.pr s.n) := by rw [hw4.out]; exact PVar.put t2.out
         have g4 : w2.grownBy w4 (some (w.heap.size + 1)) := by rw [hw4.out]; exact grown_sets _ _ _ _
         have b4 : Below w.heap.size w w4 := hb2.grown g4 (by omega) (by intro k hk; injection hk with hk; omega)
         have t4 := grown_there g4 (a := w.heap.size) ⟨by omega, by omega⟩ t2'.out
         have h4 := h.out.below b4
         have z4 := g4.size
         have q0 := h4.ve
         have k1 : w4.cell? ⟨w.heap.size + 1, 1, none⟩ = some (.int .i64 s.own.cid) := p4.c1
         have k2 : w4.cell? ⟨w.heap.size + 1, 2, none⟩ = some (.int .i64 s.own.rev) := p4.c2
         replace p4 := Lib.hid p4
         replace b4 := Lib.hid b4
         replace t4 := Lib.hid t4
         replace h4 := Lib.hid h4
         replace g4 := Lib.hid g4)
      | (refine wpList_loadR rfl 31 (.tmp 6) rfl (w.heap.size + 1) 0 (by rfl) _ (by exact p4.out.load) ?_)
      | (refine wpList_store31 rfl (.tmp 4) (.tmp 28) rfl w.heap.size 0 (by rfl) X.S s.n X.cS X.V s.n X.cV (s.own.pr s.n) (by rfl) t4.out ?_
         intro w5 hw5)
      | fail)
    obtain ⟨p5, b5⟩ := hend.out w4 w5 b4.out t4.out (by omega) hw5
    exact bodyPost_ret (res_cell_tmp (p := 4) (u := 5) (ty := 31) rfl rfl p5.load) rfl ⟨rfl, b5⟩
  · have c1 : (s.own.cid == 4611686018427387904) = false := by simp [e1]
    have c2 : (s.own.rev == 4611686018427387904) = true := by simp [e2]
    replace e1 := Lib.hid e1
    replace e2 := Lib.hid e2
    go_enter Try.func71, Try.ntmps71
    go_wp2_with (first
      | (refine wpList_loadR rfl 31 (.tmp 9) rfl b 9 (by rfl) _ (by exact hld.out) ?_)
      | (refine wpList_store31 rfl (.tmp 6) (.tmp 10) rfl (w.heap.size + 1) 0 (by rfl) X.S s.n X.cS X.V s.n X.cV (s.own.pr s.n) (by rfl) (by rw [← hw2.out]; exact t2.out) ?_
         rw [← hw2.out]
         intro w4 hw4
         have p4 : PVar w4 (w.heap.size + 1) X.S s.n X.cS X.V s.n X.cV (s.own.pr s.n) := by rw [hw4.out]; exact PVar.put t2.out
         have g4 : w2.grownBy w4 (some (w.heap.size + 1)) := by rw [hw4.out]; exact grown_sets _ _ _ _
         have b4 : Below w.heap.size w w4 := hb2.grown g4 (by omega) (by intro k hk; injection hk with hk; omega)
         have t4 := grown_there g4 (a := w.heap.size) ⟨by omega, by omega⟩ t2'.out
         have h4 := h.out.below b4
         have z4 := g4.size
         have q0 := h4.ve
         have k1 : w4.cell? ⟨w.heap.size + 1, 1, none⟩ = some (.int .i64 s.own.cid) := p4.c1
         have k2 : w4.cell? ⟨w.heap.size + 1, 2, none⟩ = some (.int .i64 s.own.rev) := p4.c2
         replace p4 := Lib.hid p4
         replace b4 := Lib.hid b4
         replace t4 := Lib.hid t4
         replace h4 := Lib.hid h4
         replace g4 := Lib.hid g4)
      | (refine wpList_loadR rfl 31 (.tmp 6) rfl (w.heap.size + 1) 0 (by rfl) _ (by exact p4.out.load) ?_)
      | (refine wpList_store31 rfl (.tmp 4) (.tmp 28) rfl w.heap.size 0 (by rfl) X.S s.n X.cS X.V s.n X.cV (s.own.pr s.n) (by rfl) t4.out ?_
         intro w5 hw5)
      | fail)
    obtain ⟨p5, b5⟩ := hend.out w4 w5 b4.out t4.out (by omega) hw5
    exact bodyPost_ret (res_cell_tmp (p := 4) (u := 5) (ty := 31) rfl rfl p5.load) rfl ⟨rfl, b5⟩
  · have c1 : (s.own.cid == 4611686018427387904) = false := by simp [e1]
    have c2 : (s.own.rev == 4611686018427387904) = false := by simp [e2]
    have c3 : (s.vid.e == 4611686018427387904) = true := by simp [e3]
    replace e1 := Lib.hid e1
    replace e2 := Lib.hid e2
    replace e3 := Lib.hid e3
    go_enter Try.func71, Try.ntmps71
    go_wp2_with (first
      | (refine wpList_loadR rfl 31 (.tmp 9) rfl b 9 (by rfl) _ (by exact hld.out) ?_)
      | (refine wpList_store31 rfl (.tmp 6) (.tmp 10) rfl (w.heap.size + 1) 0 (by rfl) X.S s.n X.cS X.V s.n X.cV (s.own.pr s.n) (by rfl) (by rw [← hw2.out]; exact t2.out) ?_
         rw [← hw2.out]
         intro w4 hw4
         have p4 : PVar w4 (w.heap.size + 1) X.S s.n X.cS X.V s.n X.cV (s.own.pr s.n) := by rw [hw4.out]; exact PVar.put t2.out
         have g4 : w2.grownBy w4 (some (w.heap.size + 1)) := by rw [hw4.out]; exact grown_sets _ _ _ _
         have b4 : Below w.heap.size w w4 := hb2.grown g4 (by omega) (by intro k hk; injection hk with hk; omega)
         have t4 := grown_there g4 (a := w.heap.size) ⟨by omega, by omega⟩ t2'.out
         have h4 := h.out.below b4
         have z4 := g4.size
         have q0 := h4.ve
         have k1 : w4.cell? ⟨w.heap.size + 1, 1, none⟩ = some (.int .i64 s.own.cid) := p4.c1
         have k2 : w4.cell? ⟨w.heap.size + 1, 2, none⟩ = some (.int .i64 s.own.rev) := p4.c2
         replace p4 := Lib.hid p4
         replace b4 := Lib.hid b4
         replace t4 := Lib.hid t4
         replace h4 := Lib.hid h4
         replace g4 := Lib.hid g4)
      | (refine wpList_loadR rfl 31 (.tmp 6) rfl (w.heap.size + 1) 0 (by rfl) _ (by exact p4.out.load) ?_)
      | (refine wpList_store31 rfl (.tmp 4) (.tmp 28) rfl w.heap.size 0 (by rfl) X.S s.n X.cS X.V s.n X.cV (s.own.pr s.n) (by rfl) t4.out ?_
         intro w5 hw5)
      | fail)
    obtain ⟨p5, b5⟩ := hend.out w4 w5 b4.out t4.out (by omega) hw5
    exact bodyPost_ret (res_cell_tmp (p := 4) (u := 5) (ty := 31) rfl rfl p5.load) rfl ⟨rfl, b5⟩
/-- What begin answers. -/
def BgPost (w : World) (s : St) (l : List Int) (x : Ending) (w' : World) : Prop :=
  ∃ S cS V cV, x = .returned (.tuple #[.agg (prV S s.n cS V s.n cV ((s.begin_ (pad l)).own.pr s.n)), .bool true]) ∧ RowN w' w.heap.size 1 eInt S l ∧ RowN w' w.heap.size 1 eInt V ((s.begin_ (pad l)).own.vec.take s.n) ∧ Below w.heap.size w w'
set_option maxRecDepth 100000 in
set_option maxHeartbeats 2000000 in
theorem rbegin_yes (b : Nat) (F : List Nat) (s : St) (hs : List HdR) (X : Ptrs) (A : Option Addr) (c N : Nat) (l : List Int) (w : World) (h : RefAt w b F s hs X) (hI : Inv s) (hR : RInv s) (hlen : hs.length ≤ 1000000) (hsp : s.spent = false) (hl : l.length = s.n) (hN : N ≤ w.heap.size) (hA : RowAt w N 1 eInt A l) :
    Calls Try.prog 71 #[.pointer (some ⟨b, 0, none⟩), .slice A s.n c] w (BgPost w s l) := by
  obtain ⟨w2, hw2⟩ : ∃ w2, w2 = (w.alloc (.cells prZ 31)).alloc (.cells prZ 31) := ⟨_, rfl⟩
  have hb2 : Below w.heap.size w w2 := by rw [hw2]; exact below_box2 _ _ _ _ _
  have z2 : w2.heap.size = w.heap.size + 2 := by rw [hw2]; simp
  have t2' : w2.there w.heap.size 0 9 := by
    have := World.there_alloc (there_new w prZ 31) (.cells prZ 31)
    rw [← hw2] at this; simpa using this
  have t2 : w2.there (w.heap.size + 1) 0 9 := by
    have := there_new (w.alloc (.cells prZ 31)) prZ 31
    rw [← hw2] at this; simpa using this
  have hld := (h.below (below_box1 w prZ 31)).load
  have hbl := h.bl
  have hn := hI.n2
  obtain ⟨i1, i2⟩ := hI.own.cid
  obtain ⟨i3, i4⟩ := hI.own.rev
  unfold St.spent at hsp
  simp only [decide_eq_false_iff_not, not_or] at hsp
  obtain ⟨e1, e2, e3⟩ := hsp
  have c1 : (s.own.cid == 4611686018427387904) = false := by simp [e1]
  have c2 : (s.own.rev == 4611686018427387904) = false := by simp [e2]
  have c3 : (s.vid.e == 4611686018427387904) = false := by simp [e3]
  have l1 : s.own.cid < 4611686018427387904 := by omega
  have l2 : s.own.rev < 4611686018427387904 := by omega
  have hx : ∀ W, Below w.heap.size w W → RowAt W N 1 eInt A l ∧ N ≤ W.heap.size := fun W hW => ⟨hA.below hW hN, Nat.le_trans hN hW.size⟩
  replace e1 := Lib.hid e1
  replace e2 := Lib.hid e2
  replace e3 := Lib.hid e3
  replace hx := Lib.hid hx
  clear hA
  have hnov := hR.nov
  replace hnov := Lib.hid hnov
  replace hR := Lib.hid hR
  replace hI := Lib.hid hI
  replace hl := Lib.hid hl
  replace hw2 := Lib.hid hw2
  replace hld := Lib.hid hld
  replace h := Lib.hid h
  replace t2 := Lib.hid t2
  replace t2' := Lib.hid t2'
  have hend : ∀ w8 w9 S cS V cV p, Below w.heap.size w w8 → w8.there w.heap.size 0 9 → w.heap.size < w8.heap.size → RowN w8 (w.heap.size + 1) 1 eInt S l → RowN w8 (w.heap.size + 1) 1 eInt V ((s.begin_ (pad l)).own.vec.take s.n) → Hid (w9 = w8.setCells w.heap.size 0 (prV S s.n cS V s.n cV p).toList) →
      PVar w9 w.heap.size S s.n cS V s.n cV p ∧ Below w.heap.size w w9 ∧ RowN w9 w.heap.size 1 eInt S l ∧ RowN w9 w.heap.size 1 eInt V ((s.begin_ (pad l)).own.vec.take s.n) := by
    intro w8 w9 S cS V cV p hb ht hz rS rV hw
    have g5 : w8.grownBy w9 (some w.heap.size) := by rw [hw.out]; exact grown_sets _ _ _ _
    exact ⟨by rw [hw.out]; exact PVar.put ht, hb.grown g5 (by omega) (by intro k hk; injection hk with hk; omega), (rS.grown g5 (by omega)).low (by omega), (rV.grown g5 (by omega)).low (by omega)⟩
  replace hend := Lib.hid hend
  have hvec : (s.withSet l (s.own.cid + 1)).heard = (s.begin_ (pad l)).own.vec := rfl
  replace hvec := Lib.hid hvec
  obtain ⟨nm, hnm⟩ : ∃ nm, nm = s.mem.length := ⟨_, rfl⟩
  by_cases hm : nm = 0
  · subst hm
    have hz : s.vid = Vid.zero := hnov.out.2 (List.eq_nil_of_length_eq_zero hnm.symm)
    replace hnm := Lib.hid hnm
    have hans := Lib.hid (show (s.begin_ (pad l)).own.pr s.n = ⟨(s.begin_ (pad l)).own.set.take s.n, s.own.cid + 1, s.own.rev + 1, s.own.top, s.own.prev, (s.begin_ (pad l)).own.vec.take s.n⟩ by
      unfold Wish.pr St.begin_ St.beg1
      simp only [if_pos hz])
    replace hz := Lib.hid hz
    go_enter Try.func71, Try.ntmps71
    go_wp2_with (first
      | (refine wpList_loadR rfl 31 (.tmp 9) rfl b 9 (by rfl) _ (by exact hld.out) ?_)
      | (refine wpList_store31 rfl (.tmp 6) (.tmp 10) rfl (w.heap.size + 1) 0 (by rfl) X.S s.n X.cS X.V s.n X.cV (s.own.pr s.n) (by rfl) (by rw [← hw2.out]; exact t2.out) ?_
         rw [← hw2.out]
         intro w4 hw4
         have p4 : PVar w4 (w.heap.size + 1) X.S s.n X.cS X.V s.n X.cV (s.own.pr s.n) := by rw [hw4.out]; exact PVar.put t2.out
         have g4 : w2.grownBy w4 (some (w.heap.size + 1)) := by rw [hw4.out]; exact grown_sets _ _ _ _
         have b4 : Below w.heap.size w w4 := hb2.grown g4 (by omega) (by intro k hk; injection hk with hk; omega)
         have t4 := grown_there g4 (a := w.heap.size) ⟨by omega, by omega⟩ t2'.out
         have h4 := h.out.below b4
         have z4 := g4.size
         have q0 := h4.ve
         have k1 : w4.cell? ⟨w.heap.size + 1, 1, none⟩ = some (.int .i64 s.own.cid) := p4.c1
         have k2 : w4.cell? ⟨w.heap.size + 1, 2, none⟩ = some (.int .i64 s.own.rev) := p4.c2
         have f1 := p4.fr (k := 1) (by omega)
         have f2 := p4.fr (k := 2) (by omega)
         obtain ⟨w6, hw6⟩ : ∃ w6, w6 = (w4.setCell ⟨w.heap.size + 1, 1, none⟩ (.int .i64 (s.own.cid + 1))).setCell ⟨w.heap.size + 1, 2, none⟩ (.int .i64 (s.own.rev + 1)) := ⟨_, rfl⟩
         have g6 : w4.grownBy w6 (some (w.heap.size + 1)) := by rw [hw6]; exact (grown_cell _ _ _ _).trans (grown_cell _ _ _ _)
         have p6 := (p4.setCid (s.own.cid + 1)).setRev (s.own.rev + 1)
         rw [← hw6] at p6
         have b6 : Below w.heap.size w w6 := b4.grown g6 (by omega) (by intro k hk; injection hk with hk; omega)
         have t6 := grown_there g6 (a := w.heap.size) ⟨by omega, by omega⟩ t4
         have z6 := g6.size
         replace p6 := Lib.hid p6
         replace b6 := Lib.hid b6
         replace t6 := Lib.hid t6
         replace hw6 := Lib.hid hw6
         replace p4 := Lib.hid p4
         replace b4 := Lib.hid b4
         replace t4 := Lib.hid t4
         replace h4 := Lib.hid h4
         replace g4 := Lib.hid g4)
      | fail)
    go_wp2_with (first
      | (go_at_call 82
         rw [← hw6.out]
         refine (rints_any' A c N s.n l w6 hl.out (hx.out _ b6.out).2 (hx.out _ b6.out).1 (by omega)).mono ?_
         rintro e w7 ⟨S', cS', rfl, rS, hb7⟩
         have z7 := hb7.size
         have p7 := p6.out.same (hb7.block _ (by omega))
         have t7 := there_below t6.out hb7 (by omega)
         have b7 := b6.out.trans (hb7.mono (by omega))
         clear q0 k1 k2 f1 f2
         have m0 := p7.c0
         have f0 := p7.fr (k := 0) (by omega)
         obtain ⟨w8, hw8⟩ : ∃ w8, w8 = w7.setCell ⟨w.heap.size + 1, 0, none⟩ (.slice S' s.n cS') := ⟨_, rfl⟩
         have g8 : w7.grownBy w8 (some (w.heap.size + 1)) := by rw [hw8]; exact grown_cell _ _ _ _
         have p8 := p7.set S' s.n cS'
         rw [← hw8] at p8
         have t8 := grown_there g8 (a := w.heap.size) ⟨by omega, by omega⟩ t7
         have b8 : Below w.heap.size w w8 := b7.grown g8 (by omega) (by intro k hk; injection hk with hk; omega)
         have z8 := g8.size
         have h7 := h.out.below b7
         have h8 := h.out.below b8
         have rS8 := (rS.grown g8 (by omega)).low (lo' := w.heap.size + 2) (by omega)
         have q1 := h7.mem
         rw [← hnm.out] at q1
         have m1 : w7.cell? ⟨w.heap.size + 1, 1, none⟩ = some (.int .i64 (s.own.cid + 1)) := p7.c1
         replace hw8 := Lib.hid hw8
         replace t8 := Lib.hid t8
         replace b8 := Lib.hid b8
         replace p8 := Lib.hid p8
         replace rS8 := Lib.hid rS8
         replace h8 := Lib.hid h8
         clear p7 t7 b7 h7 rS)
      | fail)
    go_wp2_with (first
      | (go_at_call 76
         rw [← hw8.out]
         refine (rvec_any b F s hs X A c N l (s.own.cid + 1) w8 h8.out hI.out hlen hl.out (hx.out _ b8.out).2 (hx.out _ b8.out).1).mono ?_
         rintro e wv ⟨V, cV, rfl, rV, hbv⟩
         rw [hvec.out] at rV
         have zv := hbv.size
         have pv := p8.out.same (hbv.block _ (by omega))
         have tv := there_below t8.out hbv (by omega)
         have bv := b8.out.trans (hbv.mono (by omega))
         have rSv := rS8.out.below hbv
         clear q1 m0 f0 m1
         have m8 := pv.c8
         have f8 := pv.fr (k := 8) (by omega)
         obtain ⟨wx, hwx⟩ : ∃ wx, wx = wv.setCell ⟨w.heap.size + 1, 8, none⟩ (.slice V s.n cV) := ⟨_, rfl⟩
         have gx : wv.grownBy wx (some (w.heap.size + 1)) := by rw [hwx]; exact grown_cell _ _ _ _
         have px := pv.setV V s.n cV
         rw [← hwx] at px
         have tx := grown_there gx (a := w.heap.size) ⟨by omega, by omega⟩ tv
         have bx : Below w.heap.size w wx := bv.grown gx (by omega) (by intro k hk; injection hk with hk; omega)
         have zx := gx.size
         have rSx := (rSv.grown gx (by omega)).low (lo' := w.heap.size + 1) (by omega)
         have rVx := (rV.grown gx (by omega)).low (lo' := w.heap.size + 1) (by omega)
         replace hwx := Lib.hid hwx
         replace tx := Lib.hid tx
         replace bx := Lib.hid bx
         replace px := Lib.hid px
         replace rSx := Lib.hid rSx
         replace rVx := Lib.hid rVx
         clear pv tv bv rV)
      | (rw [← hwx.out]
         refine wpList_loadR rfl 31 (.tmp 6) rfl (w.heap.size + 1) 0 (by rfl) _ (by exact px.out.load) ?_)
      | (refine wpList_store31 rfl (.tmp 4) (.tmp 66) rfl w.heap.size 0 (by rfl) S' s.n cS' V s.n cV ⟨(s.own.pr s.n).set, s.own.cid + 1, s.own.rev + 1, s.own.top, s.own.prev, (s.own.pr s.n).vec⟩ (by rfl) tx.out ?_
         intro w9 hw9)
      | fail)
    obtain ⟨p9, b9, rS9, rV9⟩ := hend.out wx w9 S' cS' V cV ⟨(s.own.pr s.n).set, s.own.cid + 1, s.own.rev + 1, s.own.top, s.own.prev, (s.own.pr s.n).vec⟩ bx.out tx.out (by omega) rSx.out rVx.out hw9
    exact bodyPost_ret (res_cell_tmp (p := 4) (u := 5) (ty := 31) rfl rfl p9.load) rfl ⟨S', cS', V, cV, by rw [hans.out]; rfl, rS9, rV9, b9⟩
  · have hz : s.vid ≠ Vid.zero := fun e => hm (by rw [hnm, hnov.out.1 e]; rfl)
    have hpos : 0 < nm := by omega
    replace hm := Lib.hid hm
    replace hnm := Lib.hid hnm
    have hans := Lib.hid (show (s.begin_ (pad l)).own.pr s.n = ⟨(s.begin_ (pad l)).own.set.take s.n, s.own.cid + 1, s.own.rev + 1, s.vid.e, s.vid, (s.begin_ (pad l)).own.vec.take s.n⟩ by
      unfold Wish.pr St.begin_ St.beg1
      simp only [if_neg hz])
    replace hz := Lib.hid hz
    go_enter Try.func71, Try.ntmps71
    go_wp2_with (first
      | (refine wpList_loadR rfl 31 (.tmp 9) rfl b 9 (by rfl) _ (by exact hld.out) ?_)
      | (refine wpList_store31 rfl (.tmp 6) (.tmp 10) rfl (w.heap.size + 1) 0 (by rfl) X.S s.n X.cS X.V s.n X.cV (s.own.pr s.n) (by rfl) (by rw [← hw2.out]; exact t2.out) ?_
         rw [← hw2.out]
         intro w4 hw4
         have p4 : PVar w4 (w.heap.size + 1) X.S s.n X.cS X.V s.n X.cV (s.own.pr s.n) := by rw [hw4.out]; exact PVar.put t2.out
         have g4 : w2.grownBy w4 (some (w.heap.size + 1)) := by rw [hw4.out]; exact grown_sets _ _ _ _
         have b4 : Below w.heap.size w w4 := hb2.grown g4 (by omega) (by intro k hk; injection hk with hk; omega)
         have t4 := grown_there g4 (a := w.heap.size) ⟨by omega, by omega⟩ t2'.out
         have h4 := h.out.below b4
         have z4 := g4.size
         have q0 := h4.ve
         have k1 : w4.cell? ⟨w.heap.size + 1, 1, none⟩ = some (.int .i64 s.own.cid) := p4.c1
         have k2 : w4.cell? ⟨w.heap.size + 1, 2, none⟩ = some (.int .i64 s.own.rev) := p4.c2
         have f1 := p4.fr (k := 1) (by omega)
         have f2 := p4.fr (k := 2) (by omega)
         obtain ⟨w6, hw6⟩ : ∃ w6, w6 = (w4.setCell ⟨w.heap.size + 1, 1, none⟩ (.int .i64 (s.own.cid + 1))).setCell ⟨w.heap.size + 1, 2, none⟩ (.int .i64 (s.own.rev + 1)) := ⟨_, rfl⟩
         have g6 : w4.grownBy w6 (some (w.heap.size + 1)) := by rw [hw6]; exact (grown_cell _ _ _ _).trans (grown_cell _ _ _ _)
         have p6 := (p4.setCid (s.own.cid + 1)).setRev (s.own.rev + 1)
         rw [← hw6] at p6
         have b6 : Below w.heap.size w w6 := b4.grown g6 (by omega) (by intro k hk; injection hk with hk; omega)
         have t6 := grown_there g6 (a := w.heap.size) ⟨by omega, by omega⟩ t4
         have z6 := g6.size
         replace p6 := Lib.hid p6
         replace b6 := Lib.hid b6
         replace t6 := Lib.hid t6
         replace hw6 := Lib.hid hw6
         replace p4 := Lib.hid p4
         replace b4 := Lib.hid b4
         replace t4 := Lib.hid t4
         replace h4 := Lib.hid h4
         replace g4 := Lib.hid g4)
      | fail)
    go_wp2_with (first
      | (go_at_call 82
         rw [← hw6.out]
         refine (rints_any' A c N s.n l w6 hl.out (hx.out _ b6.out).2 (hx.out _ b6.out).1 (by omega)).mono ?_
         rintro e w7 ⟨S', cS', rfl, rS, hb7⟩
         have z7 := hb7.size
         have p7 := p6.out.same (hb7.block _ (by omega))
         have t7 := there_below t6.out hb7 (by omega)
         have b7 := b6.out.trans (hb7.mono (by omega))
         clear q0 k1 k2 f1 f2
         have m0 := p7.c0
         have f0 := p7.fr (k := 0) (by omega)
         obtain ⟨w8, hw8⟩ : ∃ w8, w8 = w7.setCell ⟨w.heap.size + 1, 0, none⟩ (.slice S' s.n cS') := ⟨_, rfl⟩
         have g8 : w7.grownBy w8 (some (w.heap.size + 1)) := by rw [hw8]; exact grown_cell _ _ _ _
         have p8 := p7.set S' s.n cS'
         rw [← hw8] at p8
         have t8 := grown_there g8 (a := w.heap.size) ⟨by omega, by omega⟩ t7
         have b8 : Below w.heap.size w w8 := b7.grown g8 (by omega) (by intro k hk; injection hk with hk; omega)
         have z8 := g8.size
         have h7 := h.out.below b7
         have h8 := h.out.below b8
         have rS8 := (rS.grown g8 (by omega)).low (lo' := w.heap.size + 2) (by omega)
         have q1 := h7.mem
         rw [← hnm.out] at q1
         have q2 := h7.ve
         have q3 := h7.vl
         have q4 := h7.vi
         have q5 := h7.vc
         have d3 : w7.cell? ⟨w.heap.size + 1, 3, none⟩ = some (.int .i64 s.own.top) := p7.c3
         have d4 : w7.cell? ⟨w.heap.size + 1, 4, none⟩ = some (.int .i64 s.own.prev.e) := p7.c4
         have d5 : w7.cell? ⟨w.heap.size + 1, 5, none⟩ = some (.int .i64 s.own.prev.l) := p7.c5
         have d6 : w7.cell? ⟨w.heap.size + 1, 6, none⟩ = some (.int .i64 s.own.prev.i) := p7.c6
         have d7 : w7.cell? ⟨w.heap.size + 1, 7, none⟩ = some (.int .i64 s.own.prev.c) := p7.c7
         have f3 := p7.fr (k := 3) (by omega)
         have f4 := p7.fr (k := 4) (by omega)
         have f5 := p7.fr (k := 5) (by omega)
         have f6 := p7.fr (k := 6) (by omega)
         have f7 := p7.fr (k := 7) (by omega)
         have m1 : w7.cell? ⟨w.heap.size + 1, 1, none⟩ = some (.int .i64 (s.own.cid + 1)) := p7.c1
         obtain ⟨wt, hwt⟩ : ∃ wt, wt = ((((w8.setCell ⟨w.heap.size + 1, 3, none⟩ (.int .i64 s.vid.e)).setCell ⟨w.heap.size + 1, 4, none⟩ (.int .i64 s.vid.e)).setCell ⟨w.heap.size + 1, 5, none⟩ (.int .i64 s.vid.l)).setCell ⟨w.heap.size + 1, 6, none⟩ (.int .i64 s.vid.i)).setCell ⟨w.heap.size + 1, 7, none⟩ (.int .i64 s.vid.c) := ⟨_, rfl⟩
         have gt : w8.grownBy wt (some (w.heap.size + 1)) := by rw [hwt]; exact ((((grown_cell _ _ _ _).trans (grown_cell _ _ _ _)).trans (grown_cell _ _ _ _)).trans (grown_cell _ _ _ _)).trans (grown_cell _ _ _ _)
         have pt := (p8.setTop s.vid.e).setPrev s.vid
         rw [← hwt] at pt
         have tt := grown_there gt (a := w.heap.size) ⟨by omega, by omega⟩ t8
         have bt : Below w.heap.size w wt := b8.grown gt (by omega) (by intro k hk; injection hk with hk; omega)
         have zt := gt.size
         have rSt := rS8.grown gt (by omega)
         have ht := h.out.below bt
         rw [hw8] at hwt
         replace hwt := Lib.hid hwt
         replace tt := Lib.hid tt
         replace bt := Lib.hid bt
         replace pt := Lib.hid pt
         replace rSt := Lib.hid rSt
         replace ht := Lib.hid ht
         replace hw8 := Lib.hid hw8
         replace t8 := Lib.hid t8
         replace b8 := Lib.hid b8
         replace p8 := Lib.hid p8
         replace rS8 := Lib.hid rS8
         replace h8 := Lib.hid h8
         clear p7 t7 b7 h7 rS)
      | fail)
    go_wp2_with (first
      | (go_at_call 76
         rw [← hwt.out]
         refine (rvec_any b F s hs X A c N l (s.own.cid + 1) wt ht.out hI.out hlen hl.out (hx.out _ bt.out).2 (hx.out _ bt.out).1).mono ?_
         rintro e wv ⟨V, cV, rfl, rV, hbv⟩
         rw [hvec.out] at rV
         have zv := hbv.size
         have pv := pt.out.same (hbv.block _ (by omega))
         have tv := there_below tt.out hbv (by omega)
         have bv := bt.out.trans (hbv.mono (by omega))
         have rSv := rSt.out.below hbv
         clear q1 m0 f0 m1 q2 q3 q4 q5 d3 d4 d5 d6 d7 f3 f4 f5 f6 f7
         have m8 := pv.c8
         have f8 := pv.fr (k := 8) (by omega)
         obtain ⟨wx, hwx⟩ : ∃ wx, wx = wv.setCell ⟨w.heap.size + 1, 8, none⟩ (.slice V s.n cV) := ⟨_, rfl⟩
         have gx : wv.grownBy wx (some (w.heap.size + 1)) := by rw [hwx]; exact grown_cell _ _ _ _
         have px := pv.setV V s.n cV
         rw [← hwx] at px
         have tx := grown_there gx (a := w.heap.size) ⟨by omega, by omega⟩ tv
         have bx : Below w.heap.size w wx := bv.grown gx (by omega) (by intro k hk; injection hk with hk; omega)
         have zx := gx.size
         have rSx := (rSv.grown gx (by omega)).low (lo' := w.heap.size + 1) (by omega)
         have rVx := (rV.grown gx (by omega)).low (lo' := w.heap.size + 1) (by omega)
         replace hwx := Lib.hid hwx
         replace tx := Lib.hid tx
         replace bx := Lib.hid bx
         replace px := Lib.hid px
         replace rSx := Lib.hid rSx
         replace rVx := Lib.hid rVx
         clear pv tv bv rV)
      | (rw [← hwx.out]
         refine wpList_loadR rfl 31 (.tmp 6) rfl (w.heap.size + 1) 0 (by rfl) _ (by exact px.out.load) ?_)
      | (refine wpList_store31 rfl (.tmp 4) (.tmp 66) rfl w.heap.size 0 (by rfl) S' s.n cS' V s.n cV ⟨(s.own.pr s.n).set, s.own.cid + 1, s.own.rev + 1, s.vid.e, s.vid, (s.own.pr s.n).vec⟩ (by rfl) tx.out ?_
         intro w9 hw9)
      | fail)
    obtain ⟨p9, b9, rS9, rV9⟩ := hend.out wx w9 S' cS' V cV ⟨(s.own.pr s.n).set, s.own.cid + 1, s.own.rev + 1, s.vid.e, s.vid, (s.own.pr s.n).vec⟩ bx.out tx.out (by omega) rSx.out rVx.out hw9
    exact bodyPost_ret (res_cell_tmp (p := 4) (u := 5) (ty := 31) rfl rfl p9.load) rfl ⟨S', cS', V, cV, by rw [hans.out]; rfl, rS9, rV9, b9⟩
end Go.Proofs.Ytfbeggdbjpmppaa
/- The document's counts. -/
namespace Go.Proofs.Ytfbeggdbjpmppaa
open Go.RowKit
set_option maxRecDepth 100000 in
set_option maxHeartbeats 1000000 in
theorem counts_any (A : Option Addr) (cA N : Nat) (l : List Int) (n : Nat) (w : World) (hN : N ≤ w.heap.size) (hA : RowAt w N 1 eInt A l) (hl : l.length ≤ 9223372036854775807) (hn : n ≤ 16) :
    Calls Try.prog 69 #[.slice A l.length cA, .int .i64 n] w fun x w' => x = .returned (.bool (packB l n)) ∧ Below w.heap.size w w' := by
  by_cases he : l.length = n
  · have e1 : ((l.length : Int) != (n : Int)) = false := by simp [he]
    replace he := Lib.hid he
    go_enter Try.func69, Try.ntmps69
    go_wp2
    go_loopw [5] (fun k wr => ∃ q : Nat, k = .int .i64 q ∧ q ≤ n ∧ upto (fun v => okB v = true) l q ∧ Below w.heap.size w wr) (fun k _ => n - (intOf k).toNat)
    case atStart => exact ⟨0, rfl, by omega, upto_zero _ _, Below.refl _ _⟩
    case round =>
      obtain ⟨q, rfl, hq, hup, hb⟩ := hrel
      have hsz := hb.size
      replace hup := Lib.hid hup
      by_cases hlt : q < n
      · have hlt' : q < l.length := by rw [he.out]; exact hlt
        obtain ⟨g, o, x, hAe, hg, hx, c0⟩ := (hA.below hb hN).int hlt'
        have hno : okB x = false → packB l n = false := fun e => by
          unfold packB
          rw [Bool.and_eq_false_iff]; right
          rw [List.all_eq_false]; exact ⟨x, List.mem_of_getElem? hx.out, by rw [e]; decide⟩
        replace hno := Lib.hid hno
        by_cases h0 : x < 0
        · have hf := Lib.hid (hno.out (decide_eq_false (by omega)))
          rw [hAe]
          go_wp2
          go_ret
          exact ⟨ret_bool hf.out.symm, hb⟩
        · by_cases h1 : 4611686018427387904 < x
          · have hf := Lib.hid (hno.out (decide_eq_false (by omega)))
            rw [hAe]
            go_wp2
            go_ret
            exact ⟨ret_bool hf.out.symm, hb⟩
          · have hup' := Lib.hid (upto_succ hup.out (fun z hz => by rw [hx.out] at hz; cases hz; exact decide_eq_true (by omega)))
            rw [hAe]
            go_wp2
            go_roundw
            case rel => go_light; exact ⟨q + 1, by go_num, by omega, hup'.out, hb⟩
            case measure => go_light; simp [intOf]; omega
      · have hyes := Lib.hid (show packB l n = true by
          unfold packB
          rw [Bool.and_eq_true]
          exact ⟨decide_eq_true he.out, List.all_eq_true.2 (upto_all hup.out (by rw [he.out]; omega))⟩)
        go_wp2
        go_ret
        exact ⟨ret_bool hyes.out.symm, hb⟩
  · have e1 : ((l.length : Int) != (n : Int)) = true := by simp; omega
    have hno := Lib.hid (show packB l n = false by unfold packB; rw [decide_eq_false he]; rfl)
    replace he := Lib.hid he
    go_enter Try.func69, Try.ntmps69
    go_wp2
    go_ret
    exact ⟨ret_bool hno.out.symm, Below.refl _ _⟩
end Go.Proofs.Ytfbeggdbjpmppaa
