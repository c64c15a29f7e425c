/- PlC SzS BkE, joined. -/
import Derived.Test.YtoilipfgimcoiaaGreatOz16
import Derived.Test.YtoilipfgimcoiaaGreatOz22
import Derived.Test.YtoilipfgimcoiaaGreatOz23
import Derived.Test.YtoilipfgimcoiaaGreatOz24
import Derived.Test.YtoilipfgimcoiaaGreatOz25
set_option linter.unusedVariables false
set_option linter.unusedSimpArgs false
namespace Go.Proofs.YtoilipfgimcoiaaGreat
open Go Go.RowKit
structure OpX where
 who : Int
 kind : Int
 n : Int
 m : Int
 v : Vd
 ms : List Mbr
 mA : Option Addr
 mc : Nat
 bd : List Int
 bA : Option Addr
 bc : Nat
 it : Itm
 iA : Option Addr
 ic : Nat
 st : Stb
abbrev opA (x : OpX) : Array Value := #[.int .i64 x.who, .int .i64 x.kind, .int .i64 x.n, .int .i64 x.m, .int .i64 x.v.e, .int .i64 x.v.l, .int .i64 x.v.i, .int .i64 x.v.c, .slice x.mA x.ms.length x.mc, .slice x.bA x.bd.length x.bc, .int .i64 x.it.kd, .int .i64 x.it.s, .int .i64 x.it.q, .int .i64 x.it.st, .slice x.iA x.it.b.length x.ic, .int .i64 x.it.pos, .int .i64 x.it.sb, .int .i64 x.it.ss, .int .i64 x.it.sq, .int .i64 x.st.v.e, .int .i64 x.st.v.l, .int .i64 x.st.v.i, .int .i64 x.st.v.c, .int .i64 x.st.d, .int .i64 x.st.p]
structure OpAt (w : World) (K : Nat → Nat) (x : OpX) : Prop where
 ms : RowK w K 3 eMbr x.mA x.ms
 bd : RowK w K 1 eByte x.bA x.bd
 it : RowK w K 1 eByte x.iA x.it.b
 l1 : x.ms.length ≤ 1000000
 l2 : x.bd.length ≤ 100000000
 l3 : x.it.b.length ≤ 100000000
 p1 : -9223372036854775808 ≤ x.it.pos
 p2 : x.it.pos ≤ 9223372036854775807
def rP (i : Nat) : Nat := 100 + 10 * i
def rD (i : Nat) : Nat := 200 + 10 * i
def OrO (T : Nat) (w : World) (K : Nat → Nat) (i : Nat) (Y : PyX) : Prop := (Y.pb i = none ∧ Y.db i = none) ∨ ∃ p d o X, Y.pb i = some p ∧ Y.db i = some d ∧ OrdAt w K (rP i) p o X ∧ RO T w K (rD i) d o
structure PlayAt (T : Nat) (w : World) (K : Nat → Nat) (b : Nat) (Y : PyX) : Prop where
 py : PyB w K b Y
 os : ∀ i, i < 3 → OrO T w K i Y
section
variable {K K' : Nat → Nat} {w w' : World} {b T T' i : Nat} {Y Y' : PyX} {Q : Nat → Prop} {x : OpX}
theorem OpAt.ro (h : OpAt w K x) (r : Ro Q K K' w w') (h0 : ¬ Q 0) : OpAt w' K' x := ⟨h.ms.ro r h0, h.bd.ro r h0, h.it.ro r h0, h.l1, h.l2, h.l3, h.p1, h.p2⟩
theorem RO.more {r d : Nat} {o : Os} (h : RO T w K r d o) (ht : T ≤ T') : RO T' w K r d o := by
 obtain ⟨f, X, h1, h2, h3, h4⟩ := h
 exact ⟨f, X, h1, h2, h3.more ht, h4⟩
theorem OrO.ro (h : OrO T w K i Y) (r : Ro Q K K' w w') (kz : ∀ y, w'.heap.size ≤ y → K' y = 0) (hp : Y'.pb i = Y.pb i) (hd : Y'.db i = Y.db i) (ht : T ≤ T') (hQ : ∀ z, Q z → z ≠ 0 ∧ ¬ (rP i ≤ z ∧ z < rP i + 10) ∧ ¬ (rD i ≤ z ∧ z < rD i + 10)) : OrO T' w' K' i Y' := by
 rcases h with ⟨h1, h2⟩ | ⟨p, d, o, X, h1, h2, h3, h4⟩
 · exact .inl ⟨hp.trans h1, hd.trans h2⟩
 · exact .inr ⟨p, d, o, X, hp.trans h1, hd.trans h2, h3.ro r kz (fun e => (hQ 0 e).1 rfl) fun z hz hq => (hQ z hq).2.1 ⟨hz.1, by have := hz.2; omega⟩, (h4.ro r kz fun z hz hq => (hQ z hq).2.2 ⟨hz.1, by have := hz.2; omega⟩).more ht⟩
theorem PlayAt.ro (h : PlayAt T w K b Y) (r : Ro Q K K' w w') (kz : ∀ y, w'.heap.size ≤ y → K' y = 0) (hQ : ∀ z, Q z → shR Y.sh.length ≤ z) : PlayAt T w' K' b Y := by
 have hs : 100000 ≤ shR Y.sh.length := by unfold shR; omega
 exact ⟨h.py.ro r kz fun z hz => .inr (hQ z hz), fun i hi => (h.os i hi).ro r kz rfl rfl (Nat.le_refl _) fun z hz => by have := hQ z hz; unfold rP rD; omega⟩
theorem PlayAt.below (h : PlayAt T w K b Y) (hb : Below w.heap.size w w') : PlayAt T w' K b Y :=
 h.ro (Q := fun _ => False) (.below hb) (fun y hy => h.py.bk.kz y (Nat.le_trans hb.size hy)) fun _ e => e.elim
theorem PlayAt.kept (h : PlayAt T w K b Y) {t : Bool} {n : Nat} (py : PyB w' K' b Y') (hp : Y'.pb = Y.pb) (hd : Y'.db = Y.db) (r : Ro (kpQ t n) K K' w w') : PlayAt T w' K' b Y' :=
 ⟨py, fun i hi => (h.os i hi).ro r py.bk.kz (by rw [hp]) (by rw [hd]) (Nat.le_refl _) fun z hz => by unfold kpQ at hz; unfold rP rD; omega⟩
theorem apart2 {A H : Option Addr} (h : Apart [A, H]) {g : Nat} (h1 : blk A = some g) (h2 : blk H = some g) : False := by
 unfold Apart at h
 simp [List.filterMap_cons, h1, h2] at h
def asR (A : Option Addr) (bs : List (Option Addr)) (ρ n : Nat) (K : Nat → Nat) (z : Nat) : Nat := if blk A = some z then ρ else match bs.findIdx? (fun a => decide (blk a = some z)) with
 | some j => bR n j
 | none => K z
theorem asR_A {A : Option Addr} {bs : List (Option Addr)} {ρ n : Nat} {K : Nat → Nat} {z : Nat} (h : blk A = some z) : asR A bs ρ n K z = ρ := if_pos h
theorem asR_o {A : Option Addr} {bs : List (Option Addr)} {ρ n : Nat} {K : Nat → Nat} {z : Nat} (h : ∀ a ∈ A :: bs, blk a ≠ some z) : asR A bs ρ n K z = K z := by
 unfold asR
 rw [if_neg (h A List.mem_cons_self), List.findIdx?_eq_none_iff.2 fun a ha => decide_eq_false (h a (List.mem_cons_of_mem _ ha))]
theorem asR_b {A : Option Addr} {bs : List (Option Addr)} {ρ n : Nat} {K : Nat → Nat} {z j : Nat} {a : Option Addr} (ap : Apart (A :: bs)) (hj : bs[j]? = some a) (h : blk a = some z) : asR A bs ρ n K z = bR n j := by
 unfold Apart at ap
 rw [List.nodup_iff_pairwise_ne, List.pairwise_filterMap, List.pairwise_cons] at ap
 obtain ⟨h1, h2⟩ := ap
 obtain ⟨hl, rfl⟩ := List.getElem?_eq_some_iff.1 hj
 unfold asR
 rw [if_neg fun e => h1 _ (List.getElem_mem hl) z e z h rfl]
 have : bs.findIdx? (fun a => decide (blk a = some z)) = some j := List.findIdx?_eq_some_iff_getElem.2 ⟨hl, decide_eq_true h, fun i hi => by
   have := (List.pairwise_iff_getElem.1 h2) i j (by omega) hl hi
   simp only [decide_eq_true_eq]
   exact fun e => this z e z h rfl⟩
 rw [this]
theorem load26 {w : World} {b j : Nat} {A : Option Addr} (h : w.cell? ⟨b, j, none⟩ = some (.pointer A)) : (loadVar 26 ⟨b, j, none⟩).run Tryz.prog w = .ok (.pointer A) w := by go_simp
theorem load28 {w : World} {b j : Nat} {A : Option Addr} (h : w.cell? ⟨b, j, none⟩ = some (.pointer A)) : (loadVar 28 ⟨b, j, none⟩).run Tryz.prog w = .ok (.pointer A) w := by go_simp
theorem PyB.cp (h : PyB w K b Y) (hi : i < 3) : w.cell? ⟨b, 0 + i, none⟩ = some (ptr (Y.pb i)) := h.rg i _ (by
 match i, hi with
 | 0, _ => rfl
 | 1, _ => rfl
 | 2, _ => rfl)
theorem PyB.cd (h : PyB w K b Y) (hi : i < 3) : w.cell? ⟨b, 3 + i, none⟩ = some (ptr (Y.db i)) := by
 have := h.rg (3 + i) (ptr (Y.db i)) (by
   match i, hi with
   | 0, _ => rfl
   | 1, _ => rfl
   | 2, _ => rfl)
 rwa [Nat.zero_add] at this
theorem PyB.l_p {l : List Nat} (h : PyB w K b Y) (hl : b ∈ l) (hi : i < 3) : Ld Tryz.prog 26 b (addO 0 0 + mulO i 1) (Sm l w) (ptr (Y.pb i)) := ⟨fun W hW => load26 (by rw [mulO_eq, Nat.mul_one]; exact (World.cell?_of_block (a := ⟨b, 0 + i, none⟩) (hW b hl)).trans (h.cp hi))⟩
theorem PyB.l_d {l : List Nat} (h : PyB w K b Y) (hl : b ∈ l) (hi : i < 3) : Ld Tryz.prog 28 b (addO 0 3 + mulO i 1) (Sm l w) (ptr (Y.db i)) := ⟨fun W hW => load28 (by rw [mulO_eq, Nat.mul_one]; exact (World.cell?_of_block (a := ⟨b, 3 + i, none⟩) (hW b hl)).trans (h.cd hi))⟩
theorem run_eql_st (W : World) (o : Os) : (binOp .eql 50 (.agg (stA o)) (.agg (stA o))).run Tryz.prog W = .ok (.bool true) W := by unfold stA; go_simp
def ls0 : LsX := ⟨none, 0, 0, none, 0, 0, none, 0, 0⟩
theorem build62f (W : World) (A : Option Addr) (n c : Nat) (H : Option Addr) (m k : Nat) : (Instr.build 62 #[(3, .slice A n c), (0, .slice H m k)]).run Tryz.prog W = .ok (.agg (shA ⟨⟨H, m, k, none, 0, 0, none, 0, 0⟩, ⟨A, n, c, none, 0, 0, none, 0, 0⟩, ls0, ls0, ls0, 0, false⟩)) W := by kernel_rfl
theorem build62i (W : World) (A : Option Addr) (n c : Nat) : (Instr.build 62 #[(6, .slice A n c)]).run Tryz.prog W = .ok (.agg (shA ⟨ls0, ls0, ⟨A, n, c, none, 0, 0, none, 0, 0⟩, ls0, ls0, 0, false⟩)) W := by kernel_rfl
theorem build62m (W : World) (A : Option Addr) (n c : Nat) : (Instr.build 62 #[(9, .slice A n c)]).run Tryz.prog W = .ok (.agg (shA ⟨ls0, ls0, ls0, ⟨A, n, c, none, 0, 0, none, 0, 0⟩, ls0, 0, false⟩)) W := by kernel_rfl
theorem build62d (W : World) (A : Option Addr) (n c : Nat) : (Instr.build 62 #[(12, .slice A n c)]).run Tryz.prog W = .ok (.agg (shA ⟨ls0, ls0, ls0, ls0, ⟨A, n, c, none, 0, 0, none, 0, 0⟩, 0, false⟩)) W := by kernel_rfl
def StP (T : Nat) (w : World) (K : Nat → Nat) (b : Nat) (w' : World) : Prop := ∃ Y' K', PlayAt T w' K' b Y' ∧ Ro (fun z => z ≠ 0) K K' w w'
theorem kpQ_ne {t : Bool} {n z : Nat} (h : kpQ t n z) : z ≠ 0 := by unfold kpQ at h; omega
set_option maxRecDepth 100000 in
set_option maxHeartbeats 16000000 in
theorem asks_any (H : PlayAt T w K b Y) (hT : T ≤ 100000) (hi : i < 3) {p d : Nat} {o : Os} {X : OsX} (hp : Y.pb i = some p) (hd : Y.db i = some d) (A : OrdAt w K (rP i) p o X) (R : RO T w K (rD i) d o) (hw : x.who = i) (O : OpAt w K x) :
   Calls Tryz.prog 17 #[.pointer (some ⟨b, 0, none⟩), .agg (opA x)] w fun e w' => e = .returned (.bool true) ∧ StP T w K b w' := by
 refine calls_vc tab_ok Tryz.func17 rfl ?_
 obtain ⟨f, Xf, AF, hpo, S, F⟩ := R
 have W := S.wf hT
 have hq : ∀ y, Below w.heap.size w y → StP T w K b y := fun y hy => ⟨Y, K, H.below hy, .below hy⟩
 conv => whnf
 refine .mk fun w1 hw1 => ?_
 obtain ⟨bo, hbo⟩ : ∃ bo, bo = w.heap.size := ⟨_, rfl⟩
 rw [← hbo]
 have b1 : Below w.heap.size w w1 := by rw [hw1.out]; exact below_box1 _ _ _
 have z1 : w1.heap.size = w.heap.size + 1 := by rw [hw1.out]; simp
 have r1 : w1.rangeAt bo 0 (opA x).toList := by rw [hw1.out, hbo]; exact range_new w _ 52
 clear hw1
 have B1 := H.py.below b1
 have hbo1 : bo < w1.heap.size := by omega
 have LP := B1.l_p (l := [b, bo]) (by simp) hi
 have LD := B1.l_d (l := [b, bo]) (by simp) hi
 rw [hp] at LP
 rw [hd] at LD
 have LW : Ld Tryz.prog 3 bo 0 (Sm [b, bo] w1) (.int .i64 i) := ⟨fun W' hW => load3 (by rw [← hw]; exact cell_sm (r1 0 _ rfl) (by simp) hW)⟩
 have s1 : Sm [b, bo] w1 w1.drew := fun _ _ => rfl
 have s2 : Sm [b, bo] w1 w1.drew.drew := fun _ _ => rfl
 repeat ((conv => whnf); first | refine Xt ?_ | refine Xq ?_ | refine Xn ?_ | refine Xj ?_ | refine Xo ?_); try (conv => whnf)
 refine VDraw.pl 1000 (.stop [0, 1, 2, 3, 4, 5, 6, 7]) (Sm [b, bo] w1) (by kernel_rfl) (s1) ?_
 repeat ((conv => whnf); first | refine Xl LP ?_ | refine Xl LW ?_ | refine Xt ?_ | refine Xq ?_ | refine Xn ?_ | refine Xj ?_ | refine Xo ?_); try (conv => whnf)
 refine VDraw.pl 1000 (.stop [0, 1, 2, 3, 4, 5, 6, 7]) (Sm [b, bo] w1) (by kernel_rfl) (s2) ?_
 repeat ((conv => whnf); first | refine Xl LD ?_ | refine Xl LW ?_ | refine Xt ?_ | refine Xq ?_ | refine Xn ?_ | refine Xj ?_ | refine Xo ?_); try (conv => whnf)
 have bd0 : Below w.heap.size w w1.drew.drew := b1.drew.drew
 have rd0 : w1.drew.drew.rangeAt bo 0 (opA x).toList := range_same r1 rfl
 have hbo2 : bo < w1.drew.drew.heap.size := hbo1
 clear LP LD LW s1 s2 B1
 generalize w1.drew.drew = W1 at bd0 rd0 hbo2 ⊢
 clear r1 z1 b1 hbo1
 clear w1
 have LK : Ld Tryz.prog 3 bo 1 (Eq W1) (.int .i64 x.kind) := .of (load3 (rd0 1 _ rfl))
 have AW : ∀ {y}, Below W1.heap.size W1 y → OrdAt y K (rP i) p o X := fun hy => A.below (bd0.trans (hy.mono bd0.size))
 have FW : ∀ {y}, Below W1.heap.size W1 y → RefAt y K (rD i) d f Xf := fun hy => AF.below (bd0.trans (hy.mono bd0.size))
 have LN : ∀ {y}, Below W1.heap.size W1 y → Ld Tryz.prog 3 bo 2 (Eq y) (.int .i64 x.n) := fun hy => .of (load3 ((World.cell?_of_block (a := ⟨bo, 2, none⟩) (hy.block bo hbo2)).trans (rd0 2 _ rfl)))
 have qW : ∀ {y}, Below W1.heap.size W1 y → StP T w K b y := fun hy => hq _ (bd0.trans (hy.mono bd0.size))
 have b0 := Below.refl W1.heap.size W1
 repeat ((conv => whnf); first | refine Xl LK ?_ | refine Xt ?_ | refine Xq ?_ | refine Xn ?_ | refine Xj ?_ | refine Xo ?_); try (conv => whnf)
 by_cases k3 : x.kind = 3
 · have tk := W.tk o.self
   have gn := W.gn o.self
   repeat ((conv => whnf); first | refine Xt ?_ | refine Xq ?_ | refine Xn ?_ | refine Xj ?_ | refine Xo ?_); try (conv => whnf)
   refine VCall.mk _ (free_any (AW b0) W.self (by omega) (by omega) W.win) ?_
   rintro _ y1 ⟨rfl, c1⟩
   refine ⟨_, rfl, ?_⟩
   repeat ((conv => whnf); first | refine Xt ?_ | refine Xq ?_ | refine Xn ?_ | refine Xj ?_ | refine Xo ?_); try (conv => whnf)
   refine VCall.mk _ (rfree_any (FW c1) hpo S hT) ?_
   rintro _ y2 ⟨rfl, c2⟩
   refine ⟨_, rfl, ?_⟩
   repeat ((conv => whnf); first | refine Xt ?_ | refine Xq ?_ | refine Xn ?_ | refine Xj ?_ | refine Xo ?_); try (conv => whnf)
   exact .mk ⟨rfl, qW (c1.trans (c2.mono c1.size))⟩
 by_cases k7 : x.kind = 7
 · repeat ((conv => whnf); first | refine Xt ?_ | refine Xq ?_ | refine Xn ?_ | refine Xj ?_ | refine Xo ?_); try (conv => whnf)
   refine VCall.mk _ (done_any (AW b0)) ?_
   rintro _ y1 ⟨rfl, e1⟩
   subst e1
   refine ⟨_, rfl, ?_⟩
   repeat ((conv => whnf); first | refine Xt ?_ | refine Xq ?_ | refine Xn ?_ | refine Xj ?_ | refine Xo ?_); try (conv => whnf)
   refine VCall.mk _ (rdone_any (FW b0) S) ?_
   rintro _ y1 ⟨rfl, e1⟩
   subst e1
   refine ⟨_, rfl, ?_⟩
   repeat ((conv => whnf); first | refine Xt ?_ | refine Xq ?_ | refine Xn ?_ | refine Xj ?_ | refine Xo ?_); try (conv => whnf)
   exact .mk ⟨rfl, qW b0⟩
 by_cases k8 : x.kind = 8
 · repeat ((conv => whnf); first | refine Xt ?_ | refine Xq ?_ | refine Xn ?_ | refine Xj ?_ | refine Xo ?_); try (conv => whnf)
   refine VCall.mk _ (own_any (AW b0) W.self) ?_
   rintro _ y1 ⟨rfl, c1⟩
   refine ⟨_, rfl, ?_⟩
   repeat ((conv => whnf); first | refine Xt ?_ | refine Xq ?_ | refine Xn ?_ | refine Xj ?_ | refine Xo ?_); try (conv => whnf)
   refine VCall.mk _ (rown_any (FW c1) S hT) ?_
   rintro _ y2 ⟨rfl, c2⟩
   refine ⟨_, rfl, ?_⟩
   repeat ((conv => whnf); first | refine Xt ?_ | refine Xq ?_ | refine Xn ?_ | refine Xj ?_ | refine Xo ?_); try (conv => whnf)
   exact .mk ⟨rfl, qW (c1.trans (c2.mono c1.size))⟩
 by_cases k10 : x.kind = 10
 · repeat ((conv => whnf); first | refine Xt ?_ | refine Xq ?_ | refine Xn ?_ | refine Xj ?_ | refine Xo ?_); try (conv => whnf)
   refine VCall.mk _ (told_any (AW b0)) ?_
   rintro _ y1 ⟨rfl, c1⟩
   refine ⟨_, rfl, ?_⟩
   repeat ((conv => whnf); first | refine Xt ?_ | refine Xq ?_ | refine Xn ?_ | refine Xj ?_ | refine Xo ?_); try (conv => whnf)
   refine VCall.mk _ (rtold_any (FW c1) S) ?_
   rintro _ y2 ⟨rfl, c2⟩
   refine ⟨_, rfl, ?_⟩
   repeat ((conv => whnf); first | refine Xt ?_ | refine Xq ?_ | refine Xn ?_ | refine Xj ?_ | refine Xo ?_); try (conv => whnf)
   refine VBin.mk _ (Bn.of fun W' => run_eql_st W' o) ?_
   repeat ((conv => whnf); first | refine Xt ?_ | refine Xq ?_ | refine Xn ?_ | refine Xj ?_ | refine Xo ?_); try (conv => whnf)
   exact .mk ⟨rfl, qW (c1.trans (c2.mono c1.size))⟩
 by_cases k11 : x.kind = 11
 · repeat ((conv => whnf); first | refine Xt ?_ | refine Xq ?_ | refine Xn ?_ | refine Xj ?_ | refine Xo ?_); try (conv => whnf)
   refine VCall.mk _ (prefix_any (AW b0)) ?_
   rintro _ y1 ⟨rfl, e1⟩
   subst e1
   refine ⟨_, rfl, ?_⟩
   repeat ((conv => whnf); first | refine Xt ?_ | refine Xq ?_ | refine Xn ?_ | refine Xj ?_ | refine Xo ?_); try (conv => whnf)
   refine VCall.mk _ (rprefix_any (FW b0) S) ?_
   rintro _ y1 ⟨rfl, e1⟩
   subst e1
   refine ⟨_, rfl, ?_⟩
   repeat ((conv => whnf); first | refine Xt ?_ | refine Xq ?_ | refine Xn ?_ | refine Xj ?_ | refine Xo ?_); try (conv => whnf)
   exact .mk ⟨rfl, qW b0⟩
 by_cases k15 : x.kind = 15
 · repeat ((conv => whnf); first | refine Xt ?_ | refine Xq ?_ | refine Xn ?_ | refine Xj ?_ | refine Xo ?_); try (conv => whnf)
   refine VCall.mk _ (held_any (AW b0)) ?_
   rintro _ y1 ⟨rfl, e1⟩
   subst e1
   refine ⟨_, rfl, ?_⟩
   repeat ((conv => whnf); first | refine Xt ?_ | refine Xq ?_ | refine Xn ?_ | refine Xj ?_ | refine Xo ?_); try (conv => whnf)
   refine VCall.mk _ (rheldAll_any (FW b0) hpo S hT) ?_
   rintro _ y1 ⟨rfl, c1⟩
   refine ⟨_, rfl, ?_⟩
   repeat ((conv => whnf); first | refine Xt ?_ | refine Xq ?_ | refine Xn ?_ | refine Xj ?_ | refine Xo ?_); try (conv => whnf)
   exact .mk ⟨rfl, qW c1⟩
 by_cases k17 : x.kind = 17
 · repeat ((conv => whnf); first | refine Xt ?_ | refine Xq ?_ | refine Xn ?_ | refine Xj ?_ | refine Xo ?_); try (conv => whnf)
   refine VCall.mk _ (frozen_any (AW b0)) ?_
   rintro _ y1 ⟨rfl, e1⟩
   subst e1
   refine ⟨_, rfl, ?_⟩
   repeat ((conv => whnf); first | refine Xt ?_ | refine Xq ?_ | refine Xn ?_ | refine Xj ?_ | refine Xo ?_); try (conv => whnf)
   refine VCall.mk _ (rfrozen_any (FW b0) S) ?_
   rintro _ y1 ⟨rfl, e1⟩
   subst e1
   refine ⟨_, rfl, ?_⟩
   cases o.frz with
   | true =>
     repeat ((conv => whnf); first | refine Xt ?_ | refine Xq ?_ | refine Xn ?_ | refine Xj ?_ | refine Xo ?_); try (conv => whnf)
     exact .mk ⟨rfl, qW b0⟩
   | false =>
     repeat ((conv => whnf); first | refine Xt ?_ | refine Xq ?_ | refine Xn ?_ | refine Xj ?_ | refine Xo ?_); try (conv => whnf)
     exact .mk ⟨rfl, qW b0⟩
 by_cases k12 : x.kind = 12
 · have sd : Sm [b, bo] W1 W1.drew := fun _ _ => rfl
   have LN' : Ld Tryz.prog 3 bo 2 (Sm [b, bo] W1) (.int .i64 x.n) := ⟨fun W' hW => load3 (cell_sm (rd0 2 _ rfl) (by simp) hW)⟩
   have bd1 : Below W1.heap.size W1 W1.drew := b0.drew
   repeat ((conv => whnf); first | refine Xt ?_ | refine Xq ?_ | refine Xn ?_ | refine Xj ?_ | refine Xo ?_); try (conv => whnf)
   refine VDraw.pl 1000 (.one [0, 1, 2, 4, 5, 6] 3 (.one [] 7 (.stop [8, 9]))) (Sm [b, bo] W1) (by kernel_rfl) (sd) ?_
   repeat ((conv => whnf); first | refine Xl LN' ?_ | refine Xt ?_ | refine Xq ?_ | refine Xn ?_ | refine Xj ?_ | refine Xo ?_); try (conv => whnf)
   refine VCall.mk _ (seen_any (AW bd1) x.n) ?_
   rintro _ y1 ⟨rfl, e1⟩
   subst e1
   refine ⟨_, rfl, ?_⟩
   repeat ((conv => whnf); first | (refine VS.mk sd ?_) | refine Xt ?_ | refine Xq ?_ | refine Xn ?_ | refine Xj ?_ | refine Xo ?_); try (conv => whnf)
   refine VCall.mk _ (rseen_any (FW bd1) S x.n) ?_
   rintro _ y1 ⟨rfl, e1⟩
   subst e1
   refine ⟨_, rfl, ?_⟩
   cases o.seenB x.n with
   | true =>
     repeat ((conv => whnf); first | (refine VS.mk sd ?_) | refine Xt ?_ | refine Xq ?_ | refine Xn ?_ | refine Xj ?_ | refine Xo ?_); try (conv => whnf)
     exact .mk ⟨rfl, qW bd1⟩
   | false =>
     repeat ((conv => whnf); first | (refine VS.mk sd ?_) | refine Xt ?_ | refine Xq ?_ | refine Xn ?_ | refine Xj ?_ | refine Xo ?_); try (conv => whnf)
     exact .mk ⟨rfl, qW bd1⟩
 by_cases k13 : x.kind = 13
 · skip
   have hsl : o.slots.length ≤ 1000000000 := by have := W.kn; unfold Os.known at this; omega
   obtain ⟨N, hN⟩ : ∃ N, N = clampN x.n := ⟨_, rfl⟩
   have hN16 : N ≤ 16 := by rw [hN]; exact clampN_le _
   repeat ((conv => whnf); first | refine Xl (LN b0) ?_ | refine Xt ?_ | refine Xq ?_ | refine Xn ?_ | refine Xj ?_ | refine Xo ?_); try (conv => whnf)
   refine VCall.mk _ (content_any (AW b0) hsl x.n) ?_
   rintro _ y1 ⟨A1, c1, H1, rfl, nA1, nH1, ap1, e1⟩
   refine ⟨_, rfl, ?_⟩
   rw [← hN] at nH1 ⊢
   repeat ((conv => whnf); first | refine Xt ?_ | refine Xq ?_ | refine Xn ?_ | refine Xj ?_ | refine Xo ?_); try (conv => whnf)
   refine .mk _ run_zero51 ?_
   conv => whnf
   refine .mk fun u hu => ?_
   repeat ((conv => whnf); first | refine Xt ?_ | refine Xq ?_ | refine Xn ?_ | refine Xj ?_ | refine Xo ?_); try (conv => whnf)
   obtain ⟨g1, hg1⟩ : ∃ g1, g1 = y1.heap.size := ⟨_, rfl⟩
   refine VStore.new (c' := flA o A1 c1 H1 N) hu (by kernel_rfl) rfl (one_flA _ _ _ _ _) fun y2 hy2 => ?_
   rw [← hg1]
   have e2 : Below y1.heap.size y1 y2 := by rw [hy2.out]; exact (Below.refl _ _).alloc (Nat.le_refl _) _
   have zz2 : y2.heap.size = y1.heap.size + 1 := by rw [hy2.out]; exact World.size_alloc _ _
   have rg1 : y2.rangeAt g1 0 (flA o A1 c1 H1 N).toList := by rw [hy2.out, hg1]; exact range_new y1 _ 65
   clear hy2 hu
   clear u
   have f2 : Below W1.heap.size W1 y2 := e1.trans (e2.mono e1.size)
   repeat ((conv => whnf); first | refine Xl (LN f2) ?_ | refine Xt ?_ | refine Xq ?_ | refine Xn ?_ | refine Xj ?_ | refine Xo ?_); try (conv => whnf)
   refine .wr ?_
   repeat ((conv => whnf); first | refine Xt ?_ | refine Xq ?_ | refine Xn ?_ | refine Xj ?_ | refine Xo ?_); try (conv => whnf)
   refine VCall.mk _ (content_any (AW f2) hsl _) ?_
   rintro _ y3 ⟨A9, c9, H9, rfl, -, -, -, e3⟩
   refine ⟨_, rfl, ?_⟩
   have f3 : Below W1.heap.size W1 y3 := f2.trans (e3.mono f2.size)
   repeat ((conv => whnf); first | refine Xl (LN f3) ?_ | refine Xt ?_ | refine Xq ?_ | refine Xn ?_ | refine Xj ?_ | refine Xo ?_); try (conv => whnf)
   refine VCall.mk _ (content_any (AW f3) hsl x.n) ?_
   rintro _ y4 ⟨A2, c2, H2, rfl, nA2, nH2, ap2, e4⟩
   refine ⟨_, rfl, ?_⟩
   rw [← hN] at nH2 ⊢
   have f4 : Below W1.heap.size W1 y4 := f3.trans (e4.mono f3.size)
   repeat ((conv => whnf); first | refine Xt ?_ | refine Xq ?_ | refine Xn ?_ | refine Xj ?_ | refine Xo ?_); try (conv => whnf)
   refine .mk _ run_zero51 ?_
   conv => whnf
   refine .mk fun u hu => ?_
   repeat ((conv => whnf); first | refine Xt ?_ | refine Xq ?_ | refine Xn ?_ | refine Xj ?_ | refine Xo ?_); try (conv => whnf)
   obtain ⟨g2, hg2⟩ : ∃ g2, g2 = y4.heap.size := ⟨_, rfl⟩
   refine VStore.new (c' := flA o A2 c2 H2 N) hu (by kernel_rfl) rfl (one_flA _ _ _ _ _) fun y5 hy5 => ?_
   rw [← hg2]
   have e5 : Below y4.heap.size y4 y5 := by rw [hy5.out]; exact (Below.refl _ _).alloc (Nat.le_refl _) _
   have zz5 : y5.heap.size = y4.heap.size + 1 := by rw [hy5.out]; exact World.size_alloc _ _
   have rg2 : y5.rangeAt g2 0 (flA o A2 c2 H2 N).toList := by rw [hy5.out, hg2]; exact range_new y4 _ 65
   clear hy5 hu
   clear u
   have f5 : Below W1.heap.size W1 y5 := f4.trans (e5.mono f4.size)
   repeat ((conv => whnf); first | refine Xl (LN f5) ?_ | refine Xt ?_ | refine Xq ?_ | refine Xn ?_ | refine Xj ?_ | refine Xo ?_); try (conv => whnf)
   refine VCall.mk _ (rcontent_any (FW f5) S hT x.n) ?_
   rintro _ y6 ⟨A3, c3, H3, h3, rfl, rA3, rH3, e6⟩
   refine ⟨_, rfl, ?_⟩
   rw [← hN] at rH3 ⊢
   repeat ((conv => whnf); first | refine Xt ?_ | refine Xq ?_ | refine Xn ?_ | refine Xj ?_ | refine Xo ?_); try (conv => whnf)
   refine .mk _ run_zero51 ?_
   conv => whnf
   refine .mk fun u hu => ?_
   repeat ((conv => whnf); first | refine Xt ?_ | refine Xq ?_ | refine Xn ?_ | refine Xj ?_ | refine Xo ?_); try (conv => whnf)
   obtain ⟨g3, hg3⟩ : ∃ g3, g3 = y6.heap.size := ⟨_, rfl⟩
   refine VStore.new (c' := flB o A3 o.slots.length c3 H3 N h3) hu (by kernel_rfl) rfl (one_flB _ _ _ _ _ _ _) fun y7 hy7 => ?_
   rw [← hg3]
   have e7 : Below y6.heap.size y6 y7 := by rw [hy7.out]; exact (Below.refl _ _).alloc (Nat.le_refl _) _
   have zz7 : y7.heap.size = y6.heap.size + 1 := by rw [hy7.out]; exact World.size_alloc _ _
   have rg3 : y7.rangeAt g3 0 (flB o A3 o.slots.length c3 H3 N h3).toList := by rw [hy7.out, hg3]; exact range_new y6 _ 65
   clear hy7 hu
   clear u
   have s1 := e1.size
   have s2 := e2.size
   have s3 := e3.size
   have s4 := e4.size
   have s5 := e5.size
   have s6 := e6.size
   have s7 := e7.size
   have w57 : Below y5.heap.size y5 y7 := e6.trans (e7.mono e6.size)
   have w47 : Below y4.heap.size y4 y7 := e5.trans (w57.mono e5.size)
   have w27 : Below y2.heap.size y2 y7 := (e3.trans (e4.mono e3.size)).trans (w47.mono (by omega))
   have w17 : Below y1.heap.size y1 y7 := e2.trans (w27.mono e2.size)
   have rg1' := range_same rg1 (w27.block g1 (by omega))
   have rg2' := range_same rg2 (w57.block g2 (by omega))
   have mA1 := nA1.below w17
   have mH1 := nH1.below w17
   have mA2 := nA2.below w47
   have mH2 := nH2.below w47
   have rA3' : RowAt y7 y7.heap.size 2 eSl A3 o.slots := (rA3.below e7 (Nat.le_refl _)).more s7
   have rH3' : RowAt y7 y7.heap.size 1 eNat H3 ((List.range N).map o.taken) := (rH3.below e7 (Nat.le_refl _)).more s7
   obtain ⟨fl, hfl⟩ : ∃ fl : FlO, fl = ⟨o.id, o.pre, o.slots, (List.range N).map o.taken⟩ := ⟨_, rfl⟩
   have LG1 : Ld Tryz.prog 65 g1 0 (Eq y7) (.agg (flA o A1 c1 H1 N)) := .of (load_agg (by kernel_rfl) (by kernel_rfl) rg1')
   have LG3 : Ld Tryz.prog 65 g3 0 (Eq y7) (.agg (flB o A3 o.slots.length c3 H3 N h3)) := .of (load_agg (by kernel_rfl) (by kernel_rfl) rg3)
   repeat ((conv => whnf); first | refine Xl LG1 ?_ | refine Xl LG3 ?_ | refine Xt ?_ | refine Xq ?_ | refine Xn ?_ | refine Xj ?_ | refine Xo ?_); try (conv => whnf)
   refine VCall.mk _ (sameFlush_any ⟨o.id, o.pre, o.slots, (List.range N).map o.taken⟩ ⟨o.id, o.pre, o.slots, (List.range N).map o.taken⟩ A1 A3 H1 H3 c1 c3 N h3 o.slots.length o.slots.length N N y7 rfl rfl (by simp) (by simp) mA1.row rA3' mH1.row rH3' hsl (by omega)) ?_
   rintro _ y8 ⟨rfl, e8⟩
   refine ⟨_, rfl, ?_⟩
   rw [decide_eq_true rfl]
   have s8 := e8.size
   have LG2 : Ld Tryz.prog 65 g2 0 (Eq y8) (.agg (flA o A2 c2 H2 N)) := .of (load_agg (by kernel_rfl) (by kernel_rfl) (range_same rg2' (e8.block g2 (by omega))))
   have LG3' : Ld Tryz.prog 65 g3 0 (Eq y8) (.agg (flB o A3 o.slots.length c3 H3 N h3)) := .of (load_agg (by kernel_rfl) (by kernel_rfl) (range_same rg3 (e8.block g3 (by omega))))
   repeat ((conv => whnf); first | refine Xl LG2 ?_ | refine Xl LG3' ?_ | refine Xt ?_ | refine Xq ?_ | refine Xn ?_ | refine Xj ?_ | refine Xo ?_); try (conv => whnf)
   refine VCall.mk _ (sameFlush_any ⟨o.id, o.pre, o.slots, (List.range N).map o.taken⟩ ⟨o.id, o.pre, o.slots, (List.range N).map o.taken⟩ A2 A3 H2 H3 c2 c3 N h3 o.slots.length o.slots.length N N y8 rfl rfl (by simp) (by simp) (mA2.below e8).row ((rA3'.below e8 (Nat.le_refl _)).more s8) (mH2.below e8).row ((rH3'.below e8 (Nat.le_refl _)).more s8) hsl (by omega)) ?_
   rintro _ y9 ⟨rfl, e9⟩
   refine ⟨_, rfl, ?_⟩
   rw [decide_eq_true rfl]
   have s9 := e9.size
   have w79 : Below y7.heap.size y7 y9 := e8.trans (e9.mono e8.size)
   have w9 : Below w.heap.size w y9 := bd0.trans (((f5.trans (w57.mono f5.size)).trans (w79.mono (f5.trans (w57.mono f5.size)).size)).mono bd0.size)
   have vA1 := mA1.below w79
   have vH1 := mH1.below w79
   have vA2 := mA2.below w79
   have vH2 := mH2.below w79
   have sW1 := bd0.size
   obtain ⟨k, hk⟩ : ∃ k, k = Y.sh.length := ⟨_, rfl⟩
   obtain ⟨K1, hK1⟩ : ∃ K1 : Nat → Nat, K1 = fun z => if blk H1 = some z then shR k else if blk A1 = some z then shR k + 1 else if blk H2 = some z then shR (k + 1) else if blk A2 = some z then shR (k + 1) + 1 else K z := ⟨_, rfl⟩
   have lH1 := nH1.lo'
   have lA1 := nA1.lo'
   have lH2 := nH2.lo'
   have lA2 := nA2.lo'
   have dH1 : ∀ z, blk H1 = some z → K1 z = shR k := fun z hz => by rw [hK1]; exact if_pos hz
   have dA1 : ∀ z, blk A1 = some z → K1 z = shR k + 1 := fun z hz => by
     rw [hK1]
     show (if blk H1 = some z then _ else _) = _
     rw [if_neg (fun e => apart2 ap1 hz e), if_pos hz]
   have dH2 : ∀ z, blk H2 = some z → K1 z = shR (k + 1) := fun z hz => by
     rw [hK1]
     show (if blk H1 = some z then _ else _) = _
     rw [if_neg (fun e => by have := lH1 z e; have := lH2 z hz; omega), if_neg (fun e => by have := lA1 z e; have := lH2 z hz; omega), if_pos hz]
   have dA2 : ∀ z, blk A2 = some z → K1 z = shR (k + 1) + 1 := fun z hz => by
     rw [hK1]
     show (if blk H1 = some z then _ else _) = _
     rw [if_neg (fun e => by have := lH1 z e; have := lA2 z hz; omega), if_neg (fun e => by have := lA1 z e; have := lA2 z hz; omega), if_neg (fun e => apart2 ap2 hz e), if_pos hz]
   have dO : ∀ z, (blk H1 ≠ some z ∧ blk A1 ≠ some z ∧ blk H2 ≠ some z ∧ blk A2 ≠ some z) → K1 z = K z := fun z ⟨h1, h2, h3, h4⟩ => by
     rw [hK1]
     show (if blk H1 = some z then _ else _) = _
     rw [if_neg h1, if_neg h2, if_neg h3, if_neg h4]
   have dold : ∀ z, z < W1.heap.size → K1 z = K z := fun z hz => dO z ⟨fun e => by have := lH1 z e; omega, fun e => by have := lA1 z e; omega, fun e => by have := lH2 z e; omega, fun e => by have := lA2 z e; omega⟩
   have kz9 : ∀ z, y9.heap.size ≤ z → K1 z = 0 := fun z hz => (dO z ⟨fun e => by have := lH1 z e; omega, fun e => by have := lA1 z e; omega, fun e => by have := lH2 z e; omega, fun e => by have := lA2 z e; omega⟩).trans (H.py.bk.kz z (by omega))
   have r9 : Ro (fun _ => False) K K1 w y9 := (Ro.below w9).role fun z hz => dold z (by omega)
   have H9 : PlayAt T y9 K1 b Y := H.ro r9 kz9 fun _ e => e.elim
   have kg1 : K1 g1 = 0 := (dO g1 ⟨fun e => by have := lH1 g1 e; omega, fun e => by have := lA1 g1 e; omega, fun e => by have := lH2 g1 e; omega, fun e => by have := lA2 g1 e; omega⟩).trans (H.py.bk.kz g1 (by omega))
   have kg2 : K1 g2 = 0 := (dO g2 ⟨fun e => by have := lH1 g2 e; omega, fun e => by have := lA1 g2 e; omega, fun e => by have := lH2 g2 e; omega, fun e => by have := lA2 g2 e; omega⟩).trans (H.py.bk.kz g2 (by omega))
   have t1 := range_same rg1' (w79.block g1 (by omega))
   have t2 := range_same rg2' (w79.block g2 (by omega))
   have C1 : Ld Tryz.prog 57 g1 5 (Eq y9) (.slice A1 o.slots.length c1) := .of (load48 (t1 5 _ rfl))
   have C2 : Ld Tryz.prog 56 g1 6 (Eq y9) (.slice H1 N N) := .of (load49 (t1 6 _ rfl))
   repeat ((conv => whnf); first | refine Xl C1 ?_ | refine Xl C2 ?_ | refine Xt ?_ | refine Xq ?_ | refine Xn ?_ | refine Xj ?_ | refine Xo ?_); try (conv => whnf)
   refine VBuild.mk _ (fun W' => build62f W' A1 o.slots.length c1 H1 N N) ?_
   repeat ((conv => whnf); first | refine Xt ?_ | refine Xq ?_ | refine Xn ?_ | refine Xj ?_ | refine Xo ?_); try (conv => whnf)
   have lN : ((List.range N).map o.taken).length = N := by simp
   have hs6 : o.slots.length ≤ 1000000 := by
     have := S.sl
     have := S.T2
     rw [S.sl, List.length_drop]; omega
   refine VCall.mk _ (keep_any' H9.py false _ rfl ⟨rfl, rfl, rfl⟩ ⟨rfl, rfl, rfl⟩ ⟨rfl, rfl, rfl⟩ ⟨rfl, rfl, rfl⟩ ⟨rfl, rfl, rfl⟩ ((List.range N).map o.taken) o.slots [] [] [] lN.symm rfl rfl rfl rfl (by omega) hs6 (Nat.zero_le _) (Nat.zero_le _) (Nat.zero_le _) (fun _ => by rw [← hk]; exact vH1.own dH1) (fun _ => by rw [← hk]; exact vA1.own dA1) (fun _ => OwnO.nil _ _ _ _ _) (fun _ => OwnO.nil _ _ _ _ _) (fun _ => OwnO.nil _ _ _ _ _) (fun _ j y hy => by simp at hy) (fun _ j y hy => by simp at hy)) ?_
   rintro _ v1 ⟨rfl, Y2, K2, P2, ep2, ed2, q2, hl2, hf2⟩
   refine ⟨_, rfl, ?_⟩
   have n0 : ¬ kpQ false Y.bk.ps.length 0 := fun e => kpQ_ne e rfl
   have nS : ∀ z, 100000 ≤ z → ¬ kpQ false Y.bk.ps.length z := fun z hz e => by unfold kpQ at e; simp at e; omega
   have H10 := H9.kept P2 ep2 ed2 q2
   have g2v : v1.heap[g2]? = y9.heap[g2]? := q2.same g2 (by omega) (by rw [kg2]; exact n0)
   have t3 := range_same t2 g2v
   have C3 : Ld Tryz.prog 57 g2 5 (Eq v1) (.slice A2 o.slots.length c2) := .of (load48 (t3 5 _ rfl))
   have C4 : Ld Tryz.prog 56 g2 6 (Eq v1) (.slice H2 N N) := .of (load49 (t3 6 _ rfl))
   have hY2 : Y2.sh.length < 36 → Y2.sh.length = k + 1 := fun h => by
     rcases Nat.lt_or_ge Y.sh.length 36 with h2 | h2
     · have := (hl2 h2).1; omega
     · rw [hf2 h2] at h; omega
   repeat ((conv => whnf); first | refine Xl C3 ?_ | refine Xl C4 ?_ | refine Xt ?_ | refine Xq ?_ | refine Xn ?_ | refine Xj ?_ | refine Xo ?_); try (conv => whnf)
   refine VBuild.mk _ (fun W' => build62f W' A2 o.slots.length c2 H2 N N) ?_
   repeat ((conv => whnf); first | refine Xt ?_ | refine Xq ?_ | refine Xn ?_ | refine Xj ?_ | refine Xo ?_); try (conv => whnf)
   refine VCall.mk _ (keep_any' P2 true _ rfl ⟨rfl, rfl, rfl⟩ ⟨rfl, rfl, rfl⟩ ⟨rfl, rfl, rfl⟩ ⟨rfl, rfl, rfl⟩ ⟨rfl, rfl, rfl⟩ ((List.range N).map o.taken) o.slots [] [] [] lN.symm rfl rfl rfl rfl (by omega) hs6 (Nat.zero_le _) (Nat.zero_le _) (Nat.zero_le _) (fun h => by rw [hY2 h]; exact (vH2.own dH2).ro q2 (nS _ (by unfold shR; omega))) (fun h => by rw [hY2 h]; exact (vA2.own dA2).ro q2 (nS _ (by unfold shR; omega))) (fun _ => OwnO.nil _ _ _ _ _) (fun _ => OwnO.nil _ _ _ _ _) (fun _ => OwnO.nil _ _ _ _ _) (fun _ j y hy => by simp at hy) (fun _ j y hy => by simp at hy)) ?_
   rintro _ v2 ⟨rfl, Y3, K3, P3, ep3, ed3, q3, -, -⟩
   refine ⟨_, rfl, ?_⟩
   repeat ((conv => whnf); first | refine Xt ?_ | refine Xq ?_ | refine Xn ?_ | refine Xj ?_ | refine Xo ?_); try (conv => whnf)
   exact .mk ⟨rfl, Y3, K3, H10.kept P3 ep3 ed3 q3, ((r9.more fun _ e => e.elim).trans (q2.more fun _ e => kpQ_ne e)).trans (q3.more fun _ e => kpQ_ne e)⟩
 by_cases k14 : x.kind = 14
 · skip
   have hbl : ∀ d ∈ o.held, d.b.length ≤ 256 := fun d hd => by rw [S.hd] at hd; exact S.bl d (List.mem_filter.1 hd).1
   have hhl : o.held.length ≤ 100000 := by
     have h1 : o.held.length ≤ f.came.length := by rw [S.hd]; exact List.length_filter_le _ _
     have := S.T1; omega
   repeat ((conv => whnf); first | refine Xt ?_ | refine Xq ?_ | refine Xn ?_ | refine Xj ?_ | refine Xo ?_); try (conv => whnf)
   refine VCall.mk _ (messages_any (AW b0) W (fun d hd => by have := hbl d hd; omega) (by omega)) ?_
   rintro _ y1 ⟨A1, c1, xs1, rfl, nA1, nB1, ap1, mo1, e1⟩
   refine ⟨_, rfl, ?_⟩
   have s1 := e1.size
   repeat ((conv => whnf); first | refine Xt ?_ | refine Xq ?_ | refine Xn ?_ | refine Xj ?_ | refine Xo ?_); try (conv => whnf)
   refine VCall.mk _ (messages_any (AW e1) W (fun d hd => by have := hbl d hd; omega) (by omega)) ?_
   rintro _ y2 ⟨A2, c2, xs2, rfl, nA2, nB2, ap2, mo2, e2⟩
   refine ⟨_, rfl, ?_⟩
   have s2 := e2.size
   have f2 : Below W1.heap.size W1 y2 := e1.trans (e2.mono e1.size)
   repeat ((conv => whnf); first | refine Xt ?_ | refine Xq ?_ | refine Xn ?_ | refine Xj ?_ | refine Xo ?_); try (conv => whnf)
   refine VCall.mk _ (rmessages_any (FW f2) hpo S hT) ?_
   rintro _ y3 ⟨A3, c3, xs3, rfl, rA3, rB3, mo3, e3⟩
   refine ⟨_, rfl, ?_⟩
   have s3 := e3.size
   have w13 : Below y1.heap.size y1 y3 := e2.trans (e3.mono e2.size)
   have ln : ∀ {xs : List DtX}, MsgOf o.held (xs.map (·.d)) → xs.length ≤ 100000 ∧ ∀ x ∈ xs, x.d.b.length ≤ 256 := fun {xs} mo => by
     have h1 := mo.perm.length_eq
     rw [List.length_map] at h1
     exact ⟨by omega, fun x hx => hbl x.d (mo.perm.mem_iff.1 (List.mem_map.2 ⟨x, hx, rfl⟩))⟩
   obtain ⟨l1, lb1⟩ := ln mo1
   obtain ⟨l2, lb2⟩ := ln mo2
   repeat ((conv => whnf); first | refine Xt ?_ | refine Xq ?_ | refine Xn ?_ | refine Xj ?_ | refine Xo ?_); try (conv => whnf)
   refine VCall.mk _ (sameDatas_any A1 A3 c1 c3 _ _ y3.heap.size xs1 xs3 y3 rfl rfl (Nat.le_refl _) (nA1.below w13).row rA3 (fun z hz => ((nB1 z hz).below w13).row) rB3 (fun z hz => by have := lb1 z hz; omega) (by omega)) ?_
   rintro _ y4 ⟨rfl, e4⟩
   refine ⟨_, rfl, ?_⟩
   rw [decide_eq_true (mo1.uniq mo3)]
   have s4 := e4.size
   repeat ((conv => whnf); first | refine Xt ?_ | refine Xq ?_ | refine Xn ?_ | refine Xj ?_ | refine Xo ?_); try (conv => whnf)
   refine VCall.mk _ (sameDatas_any A2 A3 c2 c3 _ _ y3.heap.size xs2 xs3 y4 rfl rfl s4 (((nA2.below e3).row).below e4 (Nat.le_refl _)) (rA3.below e4 (Nat.le_refl _)) (fun z hz => ((nB2 z hz).below e3).row.below e4 (Nat.le_refl _)) (fun z hz => (rB3 z hz).below e4 (Nat.le_refl _)) (fun z hz => by have := lb2 z hz; omega) (by omega)) ?_
   rintro _ y5 ⟨rfl, e5⟩
   refine ⟨_, rfl, ?_⟩
   rw [decide_eq_true (mo2.uniq mo3)]
   have s5 := e5.size
   have w35 : Below y3.heap.size y3 y5 := e4.trans (e5.mono e4.size)
   have w25 : Below y2.heap.size y2 y5 := e3.trans (w35.mono e3.size)
   have w15 : Below y1.heap.size y1 y5 := e2.trans (w25.mono e2.size)
   have w05 : Below W1.heap.size W1 y5 := e1.trans (w15.mono e1.size)
   have w9 : Below w.heap.size w y5 := bd0.trans (w05.mono bd0.size)
   have sW1 := bd0.size
   obtain ⟨k, hk⟩ : ∃ k, k = Y.sh.length := ⟨_, rfl⟩
   obtain ⟨n, hn⟩ : ∃ n, n = Y.bk.ps.length := ⟨_, rfl⟩
   obtain ⟨K0, hK0⟩ : ∃ K0, K0 = asR A2 (xs2.map (·.A)) (shR (k + 1) + 4) (n + xs1.length) K := ⟨_, rfl⟩
   obtain ⟨K1, hK1⟩ : ∃ K1, K1 = asR A1 (xs1.map (·.A)) (shR k + 4) n K0 := ⟨_, rfl⟩
   have lA1 : ∀ a ∈ A1 :: xs1.map (·.A), ∀ z, blk a = some z → W1.heap.size ≤ z ∧ z < y1.heap.size := fun a ha z hz => by
     rcases List.mem_cons.1 ha with rfl | ha
     · exact nA1.lo' z hz
     · obtain ⟨u, hu, rfl⟩ := List.mem_map.1 ha
       exact (nB1 u hu).lo' z hz
   have lA2 : ∀ a ∈ A2 :: xs2.map (·.A), ∀ z, blk a = some z → y1.heap.size ≤ z ∧ z < y2.heap.size := fun a ha z hz => by
     rcases List.mem_cons.1 ha with rfl | ha
     · exact nA2.lo' z hz
     · obtain ⟨u, hu, rfl⟩ := List.mem_map.1 ha
       exact (nB2 u hu).lo' z hz
   have no1 : ∀ z, y1.heap.size ≤ z → K1 z = K0 z := fun z hz => by rw [hK1]; exact asR_o fun a ha e => by have := lA1 a ha z e; omega
   have dA1 : ∀ z, blk A1 = some z → K1 z = shR k + 4 := fun z hz => by rw [hK1]; exact asR_A hz
   have dA2 : ∀ z, blk A2 = some z → K1 z = shR (k + 1) + 4 := fun z hz => (no1 z (lA2 A2 List.mem_cons_self z hz).1).trans (by rw [hK0]; exact asR_A hz)
   have dB1 : ∀ (j : Nat) (u : DtX), xs1[j]? = some u → ∀ z, blk u.A = some z → K1 z = bR n j := fun j u hu z hz => by rw [hK1]; exact asR_b ap1 (by rw [List.getElem?_map, hu]; rfl) hz
   have dB2 : ∀ (j : Nat) (u : DtX), xs2[j]? = some u → ∀ z, blk u.A = some z → K1 z = bR (n + xs1.length) j := fun j u hu z hz => (no1 z (lA2 u.A (List.mem_cons_of_mem _ (List.mem_map.2 ⟨u, List.mem_of_getElem? hu, rfl⟩)) z hz).1).trans (by rw [hK0]; exact asR_b ap2 (by rw [List.getElem?_map, hu]; rfl) hz)
   have dold : ∀ z, z < W1.heap.size ∨ y2.heap.size ≤ z → K1 z = K z := fun z hz => by
     rw [hK1, asR_o fun a ha e => by have := lA1 a ha z e; omega, hK0]
     exact asR_o fun a ha e => by have := lA2 a ha z e; omega
   have kz9 : ∀ z, y5.heap.size ≤ z → K1 z = 0 := fun z hz => (dold z (.inr (by omega))).trans (H.py.bk.kz z (by omega))
   have r9 : Ro (fun _ => False) K K1 w y5 := (Ro.below w9).role fun z hz => dold z (.inl (by omega))
   have H9 : PlayAt T y5 K1 b Y := H.ro r9 kz9 fun _ e => e.elim
   repeat ((conv => whnf); first | refine Xt ?_ | refine Xq ?_ | refine Xn ?_ | refine Xj ?_ | refine Xo ?_); try (conv => whnf)
   refine VBuild.mk _ (fun W' => build62d W' A1 xs1.length c1) ?_
   repeat ((conv => whnf); first | refine Xt ?_ | refine Xq ?_ | refine Xn ?_ | refine Xj ?_ | refine Xo ?_); try (conv => whnf)
   refine VCall.mk _ (keep_any' H9.py false _ rfl ⟨rfl, rfl, rfl⟩ ⟨rfl, rfl, rfl⟩ ⟨rfl, rfl, rfl⟩ ⟨rfl, rfl, rfl⟩ ⟨rfl, rfl, rfl⟩ [] [] [] [] xs1 rfl rfl rfl rfl rfl (Nat.zero_le _) (Nat.zero_le _) (Nat.zero_le _) (Nat.zero_le _) (by omega) (fun _ => OwnO.nil _ _ _ _ _) (fun _ => OwnO.nil _ _ _ _ _) (fun _ => OwnO.nil _ _ _ _ _) (fun _ => OwnO.nil _ _ _ _ _) (fun _ => by rw [← hk]; exact (nA1.below w15).own dA1) (fun _ j y hy => by simp at hy) (fun _ j u hu => ⟨by have := lb1 u (List.mem_of_getElem? hu); omega, by rw [← hn]; exact ((nB1 u (List.mem_of_getElem? hu)).below w15).own (dB1 j u hu)⟩)) ?_
   rintro _ v1 ⟨rfl, Y2, K2, P2, ep2, ed2, q2, hl2, hf2⟩
   refine ⟨_, rfl, ?_⟩
   have nS : ∀ z, z = 0 ∨ 1000 ≤ z → ¬ kpQ false Y.bk.ps.length z := fun z hz e => by unfold kpQ at e; simp at e; omega
   have H10 := H9.kept P2 ep2 ed2 q2
   have hY2 : Y2.sh.length < 36 → Y2.sh.length = k + 1 ∧ Y2.bk.ps.length = min 96 (n + xs1.length) := fun h => by
     rcases Nat.lt_or_ge Y.sh.length 36 with h2 | h2
     · obtain ⟨h3, h4⟩ := hl2 h2
       simp only [List.length_nil, Nat.add_zero] at h4
       rw [hk, hn]; exact ⟨h3, h4⟩
     · rw [hf2 h2] at h; omega
   repeat ((conv => whnf); first | refine Xt ?_ | refine Xq ?_ | refine Xn ?_ | refine Xj ?_ | refine Xo ?_); try (conv => whnf)
   refine VBuild.mk _ (fun W' => build62d W' A2 xs2.length c2) ?_
   repeat ((conv => whnf); first | refine Xt ?_ | refine Xq ?_ | refine Xn ?_ | refine Xj ?_ | refine Xo ?_); try (conv => whnf)
   refine VCall.mk _ (keep_any' P2 true _ rfl ⟨rfl, rfl, rfl⟩ ⟨rfl, rfl, rfl⟩ ⟨rfl, rfl, rfl⟩ ⟨rfl, rfl, rfl⟩ ⟨rfl, rfl, rfl⟩ [] [] [] [] xs2 rfl rfl rfl rfl rfl (Nat.zero_le _) (Nat.zero_le _) (Nat.zero_le _) (Nat.zero_le _) (by omega) (fun _ => OwnO.nil _ _ _ _ _) (fun _ => OwnO.nil _ _ _ _ _) (fun _ => OwnO.nil _ _ _ _ _) (fun _ => OwnO.nil _ _ _ _ _) (fun h => by rw [(hY2 h).1]; exact ((nA2.below w25).own dA2).ro q2 (nS _ (by unfold shR; omega))) (fun _ j y hy => by simp at hy) (fun h j u hu => ⟨by have := lb2 u (List.mem_of_getElem? hu); omega, by
     have e : bR (Y2.bk.ps.length + ([] : List MgX).length) j = bR (n + xs1.length) j := by
       rw [(hY2 h).2, List.length_nil, Nat.add_zero]
       unfold bR
       split <;> split <;> omega
     rw [e]
     exact (((nB2 u (List.mem_of_getElem? hu)).below w25).own (dB2 j u hu)).ro q2 (nS _ (by unfold bR; split <;> omega))⟩)) ?_
   rintro _ v2 ⟨rfl, Y3, K3, P3, ep3, ed3, q3, -, -⟩
   refine ⟨_, rfl, ?_⟩
   repeat ((conv => whnf); first | refine Xt ?_ | refine Xq ?_ | refine Xn ?_ | refine Xj ?_ | refine Xo ?_); try (conv => whnf)
   exact .mk ⟨rfl, Y3, K3, H10.kept P3 ep3 ed3 q3, ((r9.more fun _ e => e.elim).trans (q2.more fun _ e => kpQ_ne e)).trans (q3.more fun _ e => kpQ_ne e)⟩
 repeat ((conv => whnf); first | refine Xt ?_ | refine Xq ?_ | refine Xn ?_ | refine Xj ?_ | refine Xo ?_); try (conv => whnf)
 exact .mk ⟨rfl, qW b0⟩
end
end Go.Proofs.YtoilipfgimcoiaaGreat
namespace Go.Proofs.YtoilipfgimcoiaaGreat
open Go Go.RowKit
section
variable {K K' : Nat → Nat} {w w' : World} {r b T : Nat} {f : Rf} {X : RfX} {o : Os}
set_option maxRecDepth 100000 in
set_option maxHeartbeats 8000000 in
theorem rplace_any (A : RefAt w K r b f X) (hp : PosOk f X) (h : Sim T o f) (F : FrO o) (hT : T + 1 ≤ 100000) (frm : Int) (it : Itm) {B : Option Addr} {cB nB : Nat} (hnB : it.b.length = nB) (hB : RowK w K 1 eByte B it.b) (p1 : -9223372036854775808 ≤ it.pos) (p2 : it.pos ≤ 9223372036854775807) :
   Calls Tryz.prog 47 #[.pointer (some ⟨b, 0, none⟩), .int .i64 frm, .agg (itA it B cB nB)] w fun e w' => e = .returned (.int .i64 (o.place frm it).1) ∧ OPF (T + 1) w K r b (o.place frm it).2 w' := by
 refine calls_vc tab_ok Tryz.func47 rfl ?_
 have hbz := A.hb
 have r0 := A.r0
 have m16 := h.m16
 conv => whnf
 refine .mk fun wA hwA => ?_
 obtain ⟨ba, hba⟩ : ∃ ba, ba = w.heap.size := ⟨_, rfl⟩
 rw [← hba]
 have bA : Below w.heap.size w wA := by rw [hwA.out]; exact below_box1 _ _ _
 have zA : wA.heap.size = w.heap.size + 1 := by rw [hwA.out]; simp
 have oA : wA.rangeAt ba 0 (itA it B cB nB).toList := by rw [hwA.out, hba]; exact range_new w _ 48
 clear hwA
 have AA := A.below bA
 have hba1 : ba < wA.heap.size := by omega
 have L1 := AA.l_self (l := [b]) (by simp)
 have L2 := AA.l_stop (l := [b]) (by simp)
 rw [← h.frz] at L2
 have s0 := Sm.refl [b] wA
 have LI : Ld Tryz.prog 48 ba 0 (Below wA.heap.size wA) (.agg (itA it B cB nB)) := ⟨fun W' hW => load_agg (by kernel_rfl) (by kernel_rfl) (range_same oA (hW.block _ hba1))⟩
 have LD : Ld Tryz.prog 44 ba 1 (Below wA.heap.size wA) (.agg #[.int .i64 it.s, .int .i64 it.q, .int .i64 it.st, .slice B nB cB]) := ⟨fun W' hW => load_agg (cs := [.int .i64 it.s, .int .i64 it.q, .int .i64 it.st, .slice B nB cB]) (by kernel_rfl) (by kernel_rfl) (range_sub (n := 4) (range_same oA (hW.block _ hba1)) 1 rfl)⟩
 have LK : Ld Tryz.prog 3 ba 0 (Below wA.heap.size wA) (.int .i64 it.kd) := ⟨fun W' hW => load3 ((World.cell?_of_block (a := ⟨ba, 0, none⟩) (hW.block _ hba1)).trans (oA 0 _ rfl))⟩
 have opA : ∀ y, Below wA.heap.size wA y → OPF (T + 1) w K r b o y := fun y hy => (AA.below hy).opf hp (h.more (by omega)) F (.below (bA.trans (hy.mono bA.size)))
 have hsm : ∀ W', Below wA.heap.size wA W' → Sm [b] wA W' := fun W' hW => .below hW fun y hy => by rw [List.mem_singleton.1 hy]; omega
 repeat ((conv => whnf); first | refine Xt ?_ | refine Xq ?_ | refine Xn ?_ | refine Xj ?_ | refine Xo ?_); try (conv => whnf)
 refine VCall.mk _ (ridx_any AA frm (by omega)) ?_
 rintro _ _ ⟨rfl, rfl⟩
 refine ⟨_, rfl, ?_⟩
 rename_i wA
 rcases idxI_cases f.mem frm with ⟨i1, i2⟩ | ⟨ix, fr, i1, hix, i3, i2⟩
 · rw [i1]
   have hp1 : o.place frm it = (72, o) := by unfold Os.place; rw [if_pos (.inl (by rw [h.mem]; exact i2))]
   rw [hp1]
   repeat ((conv => whnf); first | refine Xt ?_ | refine Xq ?_ | refine Xn ?_ | refine Xj ?_ | refine Xo ?_); try (conv => whnf)
   exact .mk ⟨rfl, opA _ (Below.refl _ _)⟩
 rw [i1]
 subst i3
 have hfm := List.mem_of_getElem? hix
 by_cases h2 : fr = f.self
 · have hp1 : o.place fr it = (72, o) := by unfold Os.place; rw [if_pos (.inr (by rw [h2, h.self]))]
   rw [hp1]
   repeat ((conv => whnf); first | refine Xl (L1.at s0) ?_ | refine Xt ?_ | refine Xq ?_ | refine Xn ?_ | refine Xj ?_ | refine Xo ?_); try (conv => whnf)
   exact .mk ⟨rfl, opA _ (Below.refl _ _)⟩
 have h2' : ¬ ((fr : Int) = (o.self : Int)) := by rw [h.self]; omega
 repeat ((conv => whnf); first | refine Xl (L1.at s0) ?_ | refine Xl (LI.at (Below.refl _ _)) ?_ | refine Xt ?_ | refine Xq ?_ | refine Xn ?_ | refine Xj ?_ | refine Xo ?_); try (conv => whnf)
 refine VCall.mk _ (goodItem_any it B cB nB wA hnB p1 p2) ?_
 rintro _ w2 ⟨rfl, b2⟩
 refine ⟨_, rfl, ?_⟩
 have hpre : o.place fr it = if it.ok = false then (1, o) else if o.frz = true then (70, o) else if it.kd = 1 then o.placeD fr ⟨it.s.toNat, it.q.toNat, it.st.toNat, it.b⟩ else o.placeS fr it.pos.toNat it.sb.toNat ⟨it.ss.toNat, it.sq.toNat⟩ := by
   unfold Os.place; rw [if_neg (by rw [h.mem, i2]; simp; exact h2'), Int.toNat_natCast]
 rw [hpre]
 clear hpre
 cases hok : it.ok with
 | false =>
   rw [if_pos rfl]
   repeat ((conv => whnf); first | refine Xt ?_ | refine Xq ?_ | refine Xn ?_ | refine Xj ?_ | refine Xo ?_); try (conv => whnf)
   exact .mk ⟨rfl, opA _ b2⟩
 | true =>
 rw [if_neg (by simp)]
 have hor : it.isD ∨ it.isS := of_decide_eq_true hok
 cases h4 : o.frz with
 | true =>
   rw [h4] at L2
   rw [if_pos rfl]
   repeat ((conv => whnf); first | refine Xl (L2.at (hsm _ b2)) ?_ | refine Xt ?_ | refine Xq ?_ | refine Xn ?_ | refine Xj ?_ | refine Xo ?_); try (conv => whnf)
   exact .mk ⟨rfl, opA _ b2⟩
 | false =>
 rw [h4] at L2
 rw [if_neg (by simp)]
 have bw2 : Below w.heap.size w w2 := bA.trans (b2.mono bA.size)
 have A2 := A.below bw2
 by_cases h5 : it.kd = 1
 · have hD : it.isD := by
     rcases hor with h | h
     · exact h
     · unfold Itm.isS at h; omega
   unfold Itm.isD at hD
   rw [if_pos h5]
   have e1 : ((it.s.toNat : Nat) : Int) = it.s := by omega
   have e2 : ((it.q.toNat : Nat) : Int) = it.q := by omega
   have e3 : ((it.st.toNat : Nat) : Int) = it.st := by omega
   rw [← e1, ← e2, ← e3] at LD
   repeat ((conv => whnf); first | refine Xl (L2.at (hsm _ b2)) ?_ | refine Xl (LK.at b2) ?_ | refine Xl (LD.at b2) ?_ | refine Xt ?_ | refine Xq ?_ | refine Xn ?_ | refine Xj ?_ | refine Xo ?_); try (conv => whnf)
   refine VCall.mk _ (rplaceD_any A2 hp h F hT fr hfm h2 ⟨it.s.toNat, it.q.toNat, it.st.toNat, it.b⟩ (by show it.b.length ≤ 256; omega) (B := B) (cB := cB) hnB (hB.ro (Ro.below (R := fun _ => False) bw2) id)) ?_
   rintro _ w3 ⟨rfl, p3⟩
   refine ⟨_, rfl, ?_⟩
   repeat ((conv => whnf); first | refine Xt ?_ | refine Xq ?_ | refine Xn ?_ | refine Xj ?_ | refine Xo ?_); try (conv => whnf)
   exact .mk ⟨rfl, p3.trans (.below bw2)⟩
 · have hS : it.isS := by
     rcases hor with h | h
     · unfold Itm.isD at h; omega
     · exact h
   unfold Itm.isS at hS
   rw [if_neg h5]
   repeat ((conv => whnf); first | refine Xl (L2.at (hsm _ b2)) ?_ | refine Xl (LK.at b2) ?_ | refine Xl (LI.at b2) ?_ | refine Xt ?_ | refine Xq ?_ | refine Xn ?_ | refine Xj ?_ | refine Xo ?_); try (conv => whnf)
   refine VCall.mk _ (rplaceS_any A2 hp h F hT fr hfm h2 it it.pos.toNat it.sb.toNat ⟨it.ss.toNat, it.sq.toNat⟩ (by omega) (by omega) (by show it.ss = (it.ss.toNat : Int); omega) (by show it.sq = (it.sq.toNat : Int); omega) (B := B) (cB := cB) (nB := nB)) ?_
   rintro _ w3 ⟨rfl, p3⟩
   refine ⟨_, rfl, ?_⟩
   repeat ((conv => whnf); first | refine Xt ?_ | refine Xq ?_ | refine Xn ?_ | refine Xj ?_ | refine Xo ?_); try (conv => whnf)
   exact .mk ⟨rfl, p3.trans (.below bw2)⟩
end
end Go.Proofs.YtoilipfgimcoiaaGreat
namespace Go.Proofs.YtoilipfgimcoiaaGreat
open Go Go.RowKit
section
variable {K K' : Nat → Nat} {w w' : World}
set_option maxRecDepth 100000 in
set_option maxHeartbeats 8000000 in
theorem loose_any (l : List Int) {A : Option Addr} {c n : Nat} (w : World) (hn : l.length = n) (hA : RowAt w w.heap.size 1 eByte A l) (hl : n ≤ 100000000) :
   Calls Tryz.prog 40 #[.slice A n c] w fun e w' => ∃ A' c', e = .returned (.slice A' (n + 64) c') ∧ NewO w' w.heap.size 1 eByte A' c' (l ++ pats 7000000 64) ∧ Below w.heap.size w w' := by
 subst hn
 refine calls_vc tab_ok Tryz.func40 rfl ?_
 conv => whnf
 repeat ((conv => whnf); first | refine Xt ?_ | refine Xq ?_ | refine Xn ?_ | refine Xj ?_ | refine Xo ?_); try (conv => whnf)
 refine VBs.mk _ _ (bs27 w) ?_
 have b2 : Below w.heap.size w (w.alloc (.cells #[] 5)) := (Below.refl _ _).alloc (Nat.le_refl _) _
 have z2 : (w.alloc (.cells #[] 5)).heap.size = w.heap.size + 1 := World.size_alloc _ _
 generalize w.alloc (.cells #[] 5) = w2 at b2 z2 ⊢
 repeat ((conv => whnf); first | refine Xt ?_ | refine Xq ?_ | refine Xn ?_ | refine Xj ?_ | refine Xo ?_); try (conv => whnf)
 refine VApp.copyO w.heap.size 1 1 _ Tryz.underlying42 info5 rfl (by decide) eByte (fun _ => rfl) one_eByte l rfl (hA.below b2 (Nat.le_refl _)) (by omega) (by omega) (by omega) (fun ga hga => by injection hga with hga; exact ⟨w.heap.size, 0, hga.symm, by omega, by omega⟩) fun A0 c0 w3 n3 b3 => ?_
 have b03 : Below w.heap.size w w3 := b2.trans (b3.mono b2.size)
 obtain ⟨κ0, hκ0⟩ : ∃ κ0 : Nat → Nat, κ0 = fun y => if blk A0 = some y then 1 else 0 := ⟨_, rfl⟩
 have k0n : ∀ y, blk A0 ≠ some y → κ0 y = 0 := fun y hy => by rw [hκ0]; exact if_neg hy
 have I0 : TlI w A0 c0 (l ++ pats 7000000 0) κ0 w3 := ⟨b03, by rw [show pats 7000000 0 = [] from rfl, List.append_nil]; exact n3.own fun g hg => by rw [hκ0]; exact if_pos hg, fun y hy => k0n y fun e => by have := n3.lo' y e; omega, fun y hy => k0n y fun e => by have := n3.lo' y e; omega⟩
 repeat ((conv => whnf); first | refine Xt ?_ | refine Xq ?_ | refine Xn ?_ | refine Xj ?_ | refine Xo ?_); try (conv => whnf)
 refine VLoop.mk (Option Addr × Nat × Nat) (fun u => [(3, .slice u.1 (l.length + u.2.2) u.2.1), (4, .int .i64 u.2.2)]) (fun u W => ∃ κ, u.2.2 ≤ 64 ∧ TlI w u.1 u.2.1 (l ++ pats 7000000 u.2.2) κ W) (fun u => 64 - u.2.2) (A0, c0, 0) ⟨rfl, rfl, trivial⟩ ⟨κ0, by show 0 ≤ 64; omega, I0⟩ ?_
 clear I0
 rintro ⟨A1, c1, i⟩ W ⟨κ, hi64, I0⟩
 have hi64 : i ≤ 64 := hi64
 have I : TlI w A1 c1 (l ++ pats 7000000 i) κ W := I0
 clear I0
 dsimp only
 have hlen : (l ++ pats 7000000 i).length = l.length + i := by rw [List.length_append, pats_len]
 by_cases hin : i < 64
 case neg =>
   obtain rfl : i = 64 := by omega
   repeat ((conv => whnf); first | refine Xt ?_ | refine Xq ?_ | refine Xn ?_ | refine Xj ?_ | refine Xo ?_); try (conv => whnf)
   exact .mk ⟨A1, c1, rfl, .of I.ow fun g hg => by
     have := (I.ow.rl g hg).2
     rcases Nat.lt_or_ge g w.heap.size with h | h
     · rw [I.old g h] at this; omega
     · exact h, I.be⟩
 repeat ((conv => whnf); first | refine Xt ?_ | refine Xq ?_ | refine Xn ?_ | refine Xj ?_ | refine Xo ?_); try (conv => whnf)
 refine VCall.mk _ (pat_any 7000000 i (by omega) (by omega) W) ?_
 rintro _ _ ⟨rfl, rfl⟩
 refine ⟨_, rfl, ?_⟩
 rename_i W
 repeat ((conv => whnf); first | refine Xt ?_ | refine Xq ?_ | refine Xn ?_ | refine Xj ?_ | refine Xo ?_); try (conv => whnf)
 refine VBs.mk _ _ (bs42 W (patB 7000000 i)) ?_
 have c6 : Below W.heap.size W (W.alloc (.cells #[.int .u8 (patB 7000000 i)] 5)) := (Below.refl _ _).alloc (Nat.le_refl _) _
 have hnc : ∀ j u, (eByte (patB 7000000 i))[j]? = some u → (W.alloc (.cells #[.int .u8 (patB 7000000 i)] 5)).cell? ⟨W.heap.size, j, none⟩ = some u := fun j u hu => by
   have := range_new W #[.int .u8 (patB 7000000 i)] 5 j u hu
   rwa [Nat.zero_add] at this
 generalize W.alloc (.cells #[.int .u8 (patB 7000000 i)] 5) = w6 at c6 hnc ⊢
 have I6 := I.step c6
 repeat ((conv => whnf); first | refine Xt ?_ | refine Xq ?_ | refine Xn ?_ | refine Xj ?_ | refine Xo ?_); try (conv => whnf)
 refine VApp.off 1 1 _ Tryz.underlying42 info5 rfl (by decide) eByte (fun _ => rfl) one_eByte (l ++ pats 7000000 i) (patB 7000000 i) hlen I6.ow hnc I6.kz (by omega) (by omega) fun A8 c8 κ8 w8 oA8 q8 kz8 => ?_
 have b8 : Below w.heap.size w w8 := q8.toBelow I6.be I6.be.size fun z hz => by rw [I.old z hz]; omega
 repeat ((conv => whnf); first | refine Xt ?_ | refine Xq ?_ | refine Xn ?_ | refine Xj ?_ | refine Xo ?_); try (conv => whnf)
 exact .mk (A8, c8, i + 1) ⟨rfl, rfl, trivial⟩ ⟨κ8, hin, b8, by show OwnO w8 κ8 1 1 eByte A8 c8 (l ++ pats 7000000 (i + 1)); rw [pats_succ, ← List.append_assoc]; exact oA8, fun z hz => (q8.kk z (Nat.lt_of_lt_of_le hz I6.be.size)).trans (I.old z hz), kz8⟩ (by show 64 - (i + 1) < 64 - i; omega)
set_option maxRecDepth 100000 in
set_option maxHeartbeats 8000000 in
theorem unspoilt_any (l : List Int) {A B : Option Addr} {c d n : Nat} (w : World) (hn : l.length = n) (hA : RowAt w w.heap.size 1 eByte A (l ++ pats 7000000 64)) (hB : RowAt w w.heap.size 1 eByte B l) (hl : n ≤ 100000000) :
   Calls Tryz.prog 43 #[.slice A (n + 64) c, .slice B n d] w fun e w' => e = .returned (.bool true) ∧ Below w.heap.size w w' := by
 subst hn
 refine calls_vc tab_ok Tryz.func43 rfl ?_
 obtain ⟨gA, oA, eA, gA1, gA5⟩ := hA (by rw [List.length_append, pats_len]; omega)
 subst eA
 conv => whnf
 repeat ((conv => whnf); first | refine Xt ?_ | refine Xq ?_ | refine Xn ?_ | refine Xj ?_ | refine Xo ?_); try (conv => whnf)
 refine VLoop.mk Nat (fun i => [(0, .slice (some ⟨gA, oA, none⟩) (l.length + 64) c), (1, .slice B l.length d), (5, .int .i64 i)]) (fun i W => i ≤ l.length ∧ Below w.heap.size w W) (fun i => l.length - i) 0 ⟨rfl, rfl, rfl, trivial⟩ ⟨Nat.zero_le _, Below.refl _ _⟩ ?_
 rintro i W ⟨hi, bW⟩
 by_cases hin : i < l.length
 case pos =>
   obtain ⟨gB, oB, eB, gB1, gB5⟩ := hB (by omega)
   subst eB
   obtain ⟨v, hv⟩ : ∃ v, l[i]? = some v := ⟨_, List.getElem?_eq_getElem hin⟩
   have hv2 : (l ++ pats 7000000 64)[i]? = some v := by rw [List.getElem?_append_left hin]; exact hv
   have NA : Ld Tryz.prog 5 gA (oA + i) (Sm [gA, gB] W) (.int .u8 v) := ⟨fun W' hW => load5 (cell_sm ((World.cell?_of_block (a := ⟨gA, oA + i, none⟩) (bW.block gA gA1)).trans (by have := gA5 i v hv2 0 _ rfl; rwa [Nat.mul_one] at this)) (by simp) hW)⟩
   have NB : Ld Tryz.prog 5 gB (oB + i) (Sm [gA, gB] W) (.int .u8 v) := ⟨fun W' hW => load5 (cell_sm ((World.cell?_of_block (a := ⟨gB, oB + i, none⟩) (bW.block gB gB1)).trans (by have := gB5 i v hv 0 _ rfl; rwa [Nat.mul_one] at this)) (by simp) hW)⟩
   have sW : Sm [gA, gB] W W.drew := fun _ _ => rfl
   repeat ((conv => whnf); first | refine Xt ?_ | refine Xq ?_ | refine Xn ?_ | refine Xj ?_ | refine Xo ?_); try (conv => whnf)
   refine VDraw.pl 1000 (.stop [0, 1, 2, 3, 4, 5, 6, 7, 8]) (Sm [gA, gB] W) (by kernel_rfl) (sW) ?_
   repeat ((conv => whnf); first | refine Xl NA ?_ | refine Xl NB ?_ | refine Xt ?_ | refine Xq ?_ | refine Xn ?_ | refine Xj ?_ | refine Xo ?_); try (conv => whnf)
   exact .mk (i + 1) ⟨rfl, rfl, rfl, trivial⟩ ⟨hin, bW.drew⟩ (by show l.length - (i + 1) < l.length - i; omega)
 repeat ((conv => whnf); first | refine Xt ?_ | refine Xq ?_ | refine Xn ?_ | refine Xj ?_ | refine Xo ?_); try (conv => whnf)
 refine VLoop.mk Nat (fun i => [(0, .slice (some ⟨gA, oA, none⟩) (l.length + 64) c), (1, .slice B l.length d), (6, .int .i64 i)]) (fun i W => i ≤ 64 ∧ Below w.heap.size w W) (fun i => 64 - i) 0 ⟨rfl, rfl, rfl, trivial⟩ ⟨Nat.zero_le _, bW⟩ ?_
 clear bW hi hin
 clear i W
 rintro i W ⟨hi, bW⟩
 by_cases hin : i < 64
 case neg =>
   repeat ((conv => whnf); first | refine Xt ?_ | refine Xq ?_ | refine Xn ?_ | refine Xj ?_ | refine Xo ?_); try (conv => whnf)
   exact .mk ⟨rfl, bW⟩
 have hv2 : (l ++ pats 7000000 64)[l.length + i]? = some (patB 7000000 i) := by rw [List.getElem?_append_right (by omega), show l.length + i - l.length = i by omega]; exact pats_get hin
 have NA : Ld Tryz.prog 5 gA (oA + (l.length + i)) (Sm [gA] W) (.int .u8 (patB 7000000 i)) := ⟨fun W' hW => load5 (cell_sm ((World.cell?_of_block (a := ⟨gA, oA + (l.length + i), none⟩) (bW.block gA gA1)).trans (by have := gA5 (l.length + i) _ hv2 0 _ rfl; rwa [Nat.mul_one] at this)) (by simp) hW)⟩
 have sW : Sm [gA] W W.drew := fun _ _ => rfl
 repeat ((conv => whnf); first | refine Xt ?_ | refine Xq ?_ | refine Xn ?_ | refine Xj ?_ | refine Xo ?_); try (conv => whnf)
 refine VDraw.pl 1000 (.one [0, 1, 2, 3, 4, 5, 6, 7] 8 (.stop [9])) (Sm [gA] W) (by kernel_rfl) (sW) ?_
 repeat ((conv => whnf); first | (refine VIdx.mk (l.length + i) (by simp) (by omega) ?_) | refine Xl NA ?_ | refine Xt ?_ | refine Xq ?_ | refine Xn ?_ | refine Xj ?_ | refine Xo ?_); try (conv => whnf)
 refine VCall.mk _ (pat_any 7000000 i (by omega) (by omega) W.drew) ?_
 rintro _ _ ⟨rfl, rfl⟩
 refine ⟨_, rfl, ?_⟩
 repeat ((conv => whnf); first | (refine VS.mk sW ?_) | refine Xt ?_ | refine Xq ?_ | refine Xn ?_ | refine Xj ?_ | refine Xo ?_); try (conv => whnf)
 exact .mk (i + 1) ⟨rfl, rfl, rfl, trivial⟩ ⟨hin, bW.drew⟩ (by show 64 - (i + 1) < 64 - i; omega)
end
end Go.Proofs.YtoilipfgimcoiaaGreat
