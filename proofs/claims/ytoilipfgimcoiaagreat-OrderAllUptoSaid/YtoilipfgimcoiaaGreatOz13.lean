/- SzD SzE, joined. -/
import Derived.Test.YtoilipfgimcoiaaGreatOz12
set_option linter.unusedVariables false
set_option linter.unusedSimpArgs false
namespace Go.Proofs.YtoilipfgimcoiaaGreat
open Go Go.RowKit
def idxI (l : List Nat) (q : Int) : Int := match l.findIdx? (fun x : Nat => decide ((x : Int) = q)) with
 | some i => i
 | none => -1
theorem idxI_at {l : List Nat} {q : Int} {i x : Nat} (hx : l[i]? = some x) (hq : (x : Int) = q) (hn : ∀ (j y : Nat), j < i → l[j]? = some y → (y : Int) ≠ q) : idxI l q = i := by
 unfold idxI
 obtain ⟨hi, rfl⟩ := List.getElem?_eq_some_iff.1 hx
 have : l.findIdx? (fun x : Nat => decide ((x : Int) = q)) = some i := List.findIdx?_eq_some_iff_getElem.2 ⟨hi, decide_eq_true hq, fun j hj => by
   have := hn j _ hj (List.getElem?_eq_getElem (by omega))
   simpa using this⟩
 rw [this]
theorem idxI_no {l : List Nat} {q : Int} (hn : ∀ (j y : Nat), l[j]? = some y → (y : Int) ≠ q) : idxI l q = -1 := by
 unfold idxI
 have : l.findIdx? (fun x : Nat => decide ((x : Int) = q)) = none := List.findIdx?_eq_none_iff.2 fun x hx => by
   obtain ⟨j, hj⟩ := List.mem_iff_getElem?.1 hx
   exact decide_eq_false (hn j x hj)
 rw [this]
theorem idxI_cases (l : List Nat) (q : Int) : (idxI l q = -1 ∧ hasB l q = false) ∨ ∃ i x, idxI l q = ((i : Nat) : Int) ∧ l[i]? = some x ∧ (x : Int) = q ∧ hasB l q = true := by
 unfold idxI
 cases h : l.findIdx? (fun x : Nat => decide ((x : Int) = q)) with
 | none =>
   left
   refine ⟨rfl, decide_eq_false fun ⟨x, hx, e⟩ => ?_⟩
   have := List.findIdx?_eq_none_iff.1 h x hx
   exact of_decide_eq_false this e
 | some i =>
   right
   obtain ⟨hi, h1, -⟩ := List.findIdx?_eq_some_iff_getElem.1 h
   exact ⟨i, l[i], rfl, List.getElem?_eq_getElem hi, of_decide_eq_true h1, decide_eq_true ⟨_, List.getElem_mem hi, of_decide_eq_true h1⟩⟩
def tkI (l : List Dt) (q : Int) : Nat := l.countP fun d => decide ((d.s : Int) = q)
theorem tkI_take {l : List Dt} {q : Int} {k : Nat} {d : Dt} (hd : l[k]? = some d) : tkI (l.take (k + 1)) q = tkI (l.take k) q + if (d.s : Int) = q then 1 else 0 := by
 unfold tkI
 rw [take_one hd, List.countP_append]
 by_cases h : (d.s : Int) = q <;> simp [h]
theorem tkI_nat (f : Rf) (s : Nat) : tkI f.came (s : Int) = cnt s f.C := by
 unfold tkI cnt Rf.C
 rw [List.countP_map]
 congr 1
 funext d
 show decide ((d.s : Int) = s) = decide (d.s = s)
 by_cases h : d.s = s
 · rw [decide_eq_true h, decide_eq_true (by omega)]
 · rw [decide_eq_false h, decide_eq_false (by omega)]
section
variable {K K' : Nat → Nat} {w w' : World} {r b T : Nat} {f : Rf} {X : RfX} {o : Os}
set_option maxRecDepth 100000 in
theorem ridx_any (A : RefAt w K r b f X) (q : Int) (hm : f.mem.length ≤ 1000) : Calls Tryz.prog 77 #[.pointer (some ⟨b, 0, none⟩), .int .i64 q] w fun e w' => e = .returned (.int .i64 (idxI f.mem q)) ∧ w' = w := by
 refine calls_vc tab_ok Tryz.func77 rfl ?_
 have L0 := A.l_mem (l := [b]) (by simp)
 have s0 := Sm.refl [b] w
 conv => whnf
 repeat ((conv => whnf); first | refine Xt ?_ | refine Xq ?_ | refine Xn ?_ | refine Xj ?_ | refine Xo ?_); try (conv => whnf)
 refine VLoop.mk Nat (fun i => [(0, .pointer (some ⟨b, 0, none⟩)), (1, .int .i64 q), (5, .int .i64 i)]) (fun i W => i ≤ f.mem.length ∧ W = w ∧ ∀ j y, j < i → f.mem[j]? = some y → (y : Int) ≠ q) (fun i => f.mem.length - i) 0 ⟨rfl, rfl, rfl, trivial⟩ ⟨Nat.zero_le _, rfl, fun j y hj => absurd hj (by omega)⟩ ?_
 rintro i W ⟨hi, rfl, hn⟩
 by_cases hin : i < f.mem.length
 case neg =>
   repeat ((conv => whnf); first | refine Xl (L0.at s0) ?_ | refine Xt ?_ | refine Xq ?_ | refine Xn ?_ | refine Xj ?_ | refine Xo ?_); try (conv => whnf)
   exact .mk ⟨by rw [idxI_no fun j y hy => hn j y (by have := (List.getElem?_eq_some_iff.1 hy).1; omega) hy]; rfl, rfl⟩
 obtain ⟨g, off, eA, g1, -, -, -, g5⟩ := A.pr.get (by omega)
 obtain ⟨x, hx⟩ : ∃ x, f.mem[i]? = some x := ⟨_, List.getElem?_eq_getElem hin⟩
 rw [eA] at L0
 have L1 : Ld Tryz.prog 3 g (off + i) (Eq W) (.int .i64 x) := .of (load3 (by have := g5 i x hx 0 _ rfl; rwa [Nat.mul_one] at this))
 by_cases he : (x : Int) = q
 · repeat ((conv => whnf); first | refine Xl (L0.at s0) ?_ | refine Xl L1 ?_ | refine Xt ?_ | refine Xq ?_ | refine Xn ?_ | refine Xj ?_ | refine Xo ?_); try (conv => whnf)
   exact .mk ⟨by rw [idxI_at hx he hn]; rfl, rfl⟩
 · repeat ((conv => whnf); first | refine Xl (L0.at s0) ?_ | refine Xl L1 ?_ | refine Xt ?_ | refine Xq ?_ | refine Xn ?_ | refine Xj ?_ | refine Xo ?_); try (conv => whnf)
   exact .mk (i + 1) ⟨rfl, rfl, rfl, trivial⟩ ⟨hin, rfl, fun j y hj hy => by
     by_cases e : j = i
     · subst e; rw [hx] at hy; injection hy with hy; rw [← hy]; exact he
     · exact hn j y (by omega) hy⟩ (by show f.mem.length - (i + 1) < f.mem.length - i; omega)
set_option maxRecDepth 100000 in
theorem rtaken_any (A : RefAt w K r b f X) (q : Int) (hm : f.came.length ≤ 1000000) : Calls Tryz.prog 78 #[.pointer (some ⟨b, 0, none⟩), .int .i64 q] w fun e w' => e = .returned (.int .i64 (tkI f.came q : Nat)) ∧ w' = w := by
 refine calls_vc tab_ok Tryz.func78 rfl ?_
 have L0 := A.l_came (l := [b]) (by simp)
 have s0 := Sm.refl [b] w
 have hcl := A.clen
 conv => whnf
 repeat ((conv => whnf); first | refine Xt ?_ | refine Xq ?_ | refine Xn ?_ | refine Xj ?_ | refine Xo ?_); try (conv => whnf)
 refine VLoop.mk Nat (fun i => [(0, .pointer (some ⟨b, 0, none⟩)), (1, .int .i64 q), (5, .int .i64 (tkI (f.came.take i) q : Nat)), (6, .int .i64 i)]) (fun i W => i ≤ f.came.length ∧ W = w) (fun i => f.came.length - i) 0 ⟨rfl, rfl, rfl, rfl, trivial⟩ ⟨Nat.zero_le _, rfl⟩ ?_
 rintro i W ⟨hi, rfl⟩
 have hle : tkI (f.came.take i) q ≤ i := Nat.le_trans List.countP_le_length (by rw [List.length_take]; omega)
 by_cases hin : i < f.came.length
 case neg =>
   obtain rfl : i = f.came.length := by omega
   rw [List.take_length]
   repeat ((conv => whnf); first | refine Xl (L0.at s0) ?_ | refine Xt ?_ | refine Xq ?_ | refine Xn ?_ | refine Xj ?_ | refine Xo ?_); try (conv => whnf)
   exact .mk ⟨rfl, rfl⟩
 obtain ⟨g, off, eA, g1, -, -, -, g5⟩ := A.cr.get (by omega)
 obtain ⟨x, hx⟩ : ∃ x, X.cl[i]? = some x := ⟨_, List.getElem?_eq_getElem (by omega)⟩
 have hd : f.came[i]? = some x.d := by rw [← A.cv, List.getElem?_map, hx]; rfl
 rw [eA] at L0
 have L1 : Ld Tryz.prog 3 g (addO (addO (off + mulO i 5) 0) 0) (Eq W) (.int .i64 x.d.s) := .of (load3 (by rw [show addO (addO (off + mulO i 5) 0) 0 = off + i * 5 + 0 by rw [mulO_eq]; rfl]; exact g5 i x hx 0 _ rfl))
 have ht := tkI_take (q := q) hd
 by_cases he : (x.d.s : Int) = q
 · rw [if_pos he] at ht
   repeat ((conv => whnf); first | refine Xl (L0.at s0) ?_ | refine Xl L1 ?_ | refine Xt ?_ | refine Xq ?_ | refine Xn ?_ | refine Xj ?_ | refine Xo ?_); try (conv => whnf)
   exact .mk (i + 1) ⟨rfl, rfl, congrArg (fun z : Nat => some (Value.int .i64 (z : Int))) ht.symm, rfl, trivial⟩ ⟨hin, rfl⟩ (by show f.came.length - (i + 1) < f.came.length - i; omega)
 · rw [if_neg he, Nat.add_zero] at ht
   repeat ((conv => whnf); first | refine Xl (L0.at s0) ?_ | refine Xl L1 ?_ | refine Xt ?_ | refine Xq ?_ | refine Xn ?_ | refine Xj ?_ | refine Xo ?_); try (conv => whnf)
   exact .mk (i + 1) ⟨rfl, rfl, congrArg (fun z : Nat => some (Value.int .i64 (z : Int))) ht.symm, rfl, trivial⟩ ⟨hin, rfl⟩ (by show f.came.length - (i + 1) < f.came.length - i; omega)
set_option maxRecDepth 100000 in
theorem rheld_any (A : RefAt w K r b f X) (x : CmX) : Calls Tryz.prog 83 #[.pointer (some ⟨b, 0, none⟩), .agg #[.int .i64 x.d.s, .int .i64 x.d.q, .int .i64 x.d.st, .slice x.A x.d.b.length x.c, .int .i64 x.p]] w fun e w' => e = .returned (.bool (decide (x.p = 0 ∨ f.known < x.p))) ∧ Below w.heap.size w w' := by
 refine calls_vc tab_ok Tryz.func83 rfl ?_
 have hbz := A.hb
 conv => whnf
 refine .mk fun wA hwA => ?_
 have bA : Below w.heap.size w wA := by rw [hwA.out]; exact below_box1 _ _ _
 have zA : wA.heap.size = w.heap.size + 1 := by rw [hwA.out]; simp
 have oA : wA.rangeAt w.heap.size 0 (eCm x) := by rw [hwA.out]; exact range_new w _ 125
 clear hwA
 have AA := A.below bA
 have LK := AA.l_known (l := [b, w.heap.size]) (by simp)
 have LP : Ld Tryz.prog 3 w.heap.size 4 (Sm [b, w.heap.size] wA) (.int .i64 x.p) := ⟨fun W hW => load3 (cell_sm (oA 4 _ rfl) (by simp) hW)⟩
 have sd : Sm [b, w.heap.size] wA wA.drew := fun _ _ => rfl
 by_cases h0 : x.p = 0
 · repeat ((conv => whnf); first | refine Xt ?_ | refine Xq ?_ | refine Xn ?_ | refine Xj ?_ | refine Xo ?_); try (conv => whnf)
   refine VDraw.pl 1000 (.stop [0, 1, 2, 3, 4, 5, 6, 7, 8, 9, 10, 11, 12]) (Sm [b, w.heap.size] wA) (by kernel_rfl) (sd) ?_
   repeat ((conv => whnf); first | refine Xl LP ?_ | refine Xl LK ?_ | refine Xt ?_ | refine Xq ?_ | refine Xn ?_ | refine Xj ?_ | refine Xo ?_); try (conv => whnf)
   exact .mk ⟨by rw [decide_eq_true (Or.inl h0)]; rfl, bA.drew⟩
 · by_cases h1 : f.known < x.p
   · repeat ((conv => whnf); first | refine Xt ?_ | refine Xq ?_ | refine Xn ?_ | refine Xj ?_ | refine Xo ?_); try (conv => whnf)
     refine VDraw.pl 1000 (.stop [0, 1, 2, 3, 4, 5, 6, 7, 8, 9, 10, 11, 12]) (Sm [b, w.heap.size] wA) (by kernel_rfl) (sd) ?_
     repeat ((conv => whnf); first | refine Xl LP ?_ | refine Xl LK ?_ | refine Xt ?_ | refine Xq ?_ | refine Xn ?_ | refine Xj ?_ | refine Xo ?_); try (conv => whnf)
     exact .mk ⟨by rw [decide_eq_true (Or.inr h1)]; rfl, bA.drew⟩
   · repeat ((conv => whnf); first | refine Xt ?_ | refine Xq ?_ | refine Xn ?_ | refine Xj ?_ | refine Xo ?_); try (conv => whnf)
     refine VDraw.pl 1000 (.stop [0, 1, 2, 3, 4, 5, 6, 7, 8, 9, 10, 11, 12]) (Sm [b, w.heap.size] wA) (by kernel_rfl) (sd) ?_
     repeat ((conv => whnf); first | refine Xl LP ?_ | refine Xl LK ?_ | refine Xt ?_ | refine Xq ?_ | refine Xn ?_ | refine Xj ?_ | refine Xo ?_); try (conv => whnf)
     exact .mk ⟨by rw [decide_eq_false (show ¬ (x.p = 0 ∨ f.known < x.p) by omega)]; rfl, bA.drew⟩
def hdI (f : Rf) (q : Int) (l : List Dt) : Nat := l.countP fun d => decide ((d.s : Int) = q) && f.keeps d
theorem hdI_take {f : Rf} {l : List Dt} {q : Int} {k : Nat} {d : Dt} (hd : l[k]? = some d) : hdI f q (l.take (k + 1)) = hdI f q (l.take k) + if ((d.s : Int) = q ∧ f.keeps d = true) then 1 else 0 := by
 unfold hdI
 rw [take_one hd, List.countP_append]
 by_cases h : (d.s : Int) = q <;> cases hk : f.keeps d <;> simp [h, hk]
theorem hdI_nat (f : Rf) (s : Nat) : hdI f (s : Int) f.came = f.heldOf s := by
 unfold hdI Rf.heldOf
 congr 1
 funext d
 congr 1
 by_cases h : d.s = s
 · rw [decide_eq_true h, decide_eq_true (by omega)]
 · rw [decide_eq_false h, decide_eq_false (by omega)]
theorem PosOk.keeps (hp : PosOk f X) (hsq : SeqQ f.slots) {x : CmX} (hx : x ∈ X.cl) : decide (x.p = 0 ∨ f.known < x.p) = f.keeps x.d := by
 unfold Rf.keeps
 rw [hp x hx]
 have := psn_take hsq (x := x.d.sl) (k := f.known)
 by_cases h : x.d.sl ∉ f.slots.take f.known
 · rw [decide_eq_true h, decide_eq_true (this.2 h)]
 · rw [decide_eq_false h, decide_eq_false (fun e => h (this.1 e))]
set_option maxRecDepth 100000 in
theorem heldOf_any (A : RefAt w K r b f X) (hp : PosOk f X) (hsq : SeqQ f.slots) (q : Int) (hm : f.came.length ≤ 1000000) : Calls Tryz.prog 113 #[.pointer (some ⟨b, 0, none⟩), .int .i64 q] w fun e w' => e = .returned (.int .i64 (hdI f q f.came : Nat)) ∧ Below w.heap.size w w' := by
 refine calls_vc tab_ok Tryz.func113 rfl ?_
 have hbz := A.hb
 have hcl := A.clen
 conv => whnf
 repeat ((conv => whnf); first | refine Xt ?_ | refine Xq ?_ | refine Xn ?_ | refine Xj ?_ | refine Xo ?_); try (conv => whnf)
 refine VLoop.mk Nat (fun i => [(0, .pointer (some ⟨b, 0, none⟩)), (1, .int .i64 q), (5, .int .i64 (hdI f q (f.came.take i) : Nat)), (6, .int .i64 i)]) (fun i W => i ≤ f.came.length ∧ Below w.heap.size w W) (fun i => f.came.length - i) 0 ⟨rfl, rfl, rfl, rfl, trivial⟩ ⟨Nat.zero_le _, Below.refl _ _⟩ ?_
 rintro i W ⟨hi, bW⟩
 have AW := A.below bW
 have L0 := AW.l_came (l := [b]) (by simp)
 have s0 := Sm.refl [b] W
 have hle : hdI f q (f.came.take i) ≤ i := Nat.le_trans List.countP_le_length (by rw [List.length_take]; omega)
 by_cases hin : i < f.came.length
 case neg =>
   obtain rfl : i = f.came.length := by omega
   rw [List.take_length]
   repeat ((conv => whnf); first | refine Xl (L0.at s0) ?_ | refine Xt ?_ | refine Xq ?_ | refine Xn ?_ | refine Xj ?_ | refine Xo ?_); try (conv => whnf)
   exact .mk ⟨rfl, bW⟩
 obtain ⟨g, off, eA, g1, -, -, -, g5⟩ := AW.cr.get (by omega)
 obtain ⟨x, hx⟩ : ∃ x, X.cl[i]? = some x := ⟨_, List.getElem?_eq_getElem (by omega)⟩
 have hd : f.came[i]? = some x.d := by rw [← A.cv, List.getElem?_map, hx]; rfl
 have hk := hp.keeps hsq (List.mem_of_getElem? hx)
 rw [eA] at L0
 have L1 : Ld Tryz.prog 3 g (addO (addO (off + mulO i 5) 0) 0) (Eq W) (.int .i64 x.d.s) := .of (load3 (by rw [show addO (addO (off + mulO i 5) 0) 0 = off + i * 5 + 0 by rw [mulO_eq]; rfl]; exact g5 i x hx 0 _ rfl))
 have L2 : Ld Tryz.prog 125 g (off + mulO i 5) (Eq W) (.agg #[.int .i64 x.d.s, .int .i64 x.d.q, .int .i64 x.d.st, .slice x.A x.d.b.length x.c, .int .i64 x.p]) := .of (load_agg (cs := eCm x) (by kernel_rfl) (by kernel_rfl) fun j u hu => by rw [mulO_eq]; exact g5 i x hx j u hu)
 have ht := hdI_take (f := f) (q := q) hd
 by_cases he : (x.d.s : Int) = q
 case neg =>
   rw [if_neg (fun h => he h.1), Nat.add_zero] at ht
   repeat ((conv => whnf); first | refine Xl (L0.at s0) ?_ | refine Xl L1 ?_ | refine Xt ?_ | refine Xq ?_ | refine Xn ?_ | refine Xj ?_ | refine Xo ?_); try (conv => whnf)
   exact .mk (i + 1) ⟨rfl, rfl, congrArg (fun z : Nat => some (Value.int .i64 (z : Int))) ht.symm, rfl, trivial⟩ ⟨hin, bW⟩ (by show f.came.length - (i + 1) < f.came.length - i; omega)
 repeat ((conv => whnf); first | refine Xl (L0.at s0) ?_ | refine Xl L1 ?_ | refine Xl L2 ?_ | refine Xt ?_ | refine Xq ?_ | refine Xn ?_ | refine Xj ?_ | refine Xo ?_); try (conv => whnf)
 refine VCall.mk _ (rheld_any AW x) ?_
 rintro _ W2 ⟨rfl, b2⟩
 refine ⟨_, rfl, ?_⟩
 rw [hk]
 have bW2 := bW.trans (b2.mono bW.size)
 cases hkk : f.keeps x.d with
 | true =>
   rw [if_pos ⟨he, hkk⟩] at ht
   repeat ((conv => whnf); first | refine Xt ?_ | refine Xq ?_ | refine Xn ?_ | refine Xj ?_ | refine Xo ?_); try (conv => whnf)
   exact .mk (i + 1) ⟨rfl, rfl, congrArg (fun z : Nat => some (Value.int .i64 (z : Int))) ht.symm, rfl, trivial⟩ ⟨hin, bW2⟩ (by show f.came.length - (i + 1) < f.came.length - i; omega)
 | false =>
   rw [if_neg (fun h => by rw [hkk] at h; cases h.2), Nat.add_zero] at ht
   repeat ((conv => whnf); first | refine Xt ?_ | refine Xq ?_ | refine Xn ?_ | refine Xj ?_ | refine Xo ?_); try (conv => whnf)
   exact .mk (i + 1) ⟨rfl, rfl, congrArg (fun z : Nat => some (Value.int .i64 (z : Int))) ht.symm, rfl, trivial⟩ ⟨hin, bW2⟩ (by show f.came.length - (i + 1) < f.came.length - i; omega)
theorem psn_first {L : List Sl} {x : Sl} {i : Nat} (hx : L[i]? = some x) (hn : ∀ (j : Nat) (y : Sl), j < i → L[j]? = some y → y ≠ x) : psn L x = i + 1 := by
 unfold psn
 obtain ⟨hi, rfl⟩ := List.getElem?_eq_some_iff.1 hx
 have : L.findIdx? (fun y => decide (y = L[i])) = some i := List.findIdx?_eq_some_iff_getElem.2 ⟨hi, decide_eq_true rfl, fun j hj => by
   have := hn j _ hj (List.getElem?_eq_getElem (by omega))
   simpa using this⟩
 rw [this]
set_option maxRecDepth 100000 in
theorem position_any (A : RefAt w K r b f X) (x : Sl) (hm : f.slots.length ≤ 1000000) : Calls Tryz.prog 124 #[.pointer (some ⟨b, 0, none⟩), .agg #[.int .i64 x.s, .int .i64 x.q]] w fun e w' => e = .returned (.int .i64 (psn f.slots x : Nat)) ∧ Below w.heap.size w w' := by
 refine calls_vc tab_ok Tryz.func124 rfl ?_
 have hbz := A.hb
 conv => whnf
 refine .mk fun wA hwA => ?_
 obtain ⟨bt, hbt⟩ : ∃ bt, bt = w.heap.size := ⟨_, rfl⟩
 rw [← hbt]
 have bA : Below w.heap.size w wA := by rw [hwA.out]; exact below_box1 _ _ _
 have zA : wA.heap.size = w.heap.size + 1 := by rw [hwA.out]; simp
 have oA : wA.rangeAt bt 0 (eSl x) := by rw [hwA.out, hbt]; exact range_new w _ 46
 clear hwA
 have AA := A.below bA
 repeat ((conv => whnf); first | refine Xt ?_ | refine Xq ?_ | refine Xn ?_ | refine Xj ?_ | refine Xo ?_); try (conv => whnf)
 refine VLoop.mk Nat (fun i => [(0, .pointer (some ⟨b, 0, none⟩)), (3, .pointer (some ⟨bt, 0, none⟩)), (5, .int .i64 i)]) (fun i W => i ≤ f.slots.length ∧ Below wA.heap.size wA W ∧ ∀ (j : Nat) (y : Sl), j < i → f.slots[j]? = some y → y ≠ x) (fun i => f.slots.length - i) 0 ⟨rfl, rfl, rfl, trivial⟩ ⟨Nat.zero_le _, Below.refl _ _, fun j y hj => absurd hj (by omega)⟩ ?_
 rintro i W ⟨hi, bW, hn⟩
 have AW := AA.below bW
 have L0 := AW.l_slots (l := [b]) (by simp)
 have s0 := Sm.refl [b] W
 by_cases hin : i < f.slots.length
 case neg =>
   repeat ((conv => whnf); first | refine Xl (L0.at s0) ?_ | refine Xt ?_ | refine Xq ?_ | refine Xn ?_ | refine Xj ?_ | refine Xo ?_); try (conv => whnf)
   refine .mk ⟨?_, by rw [hbt]; exact bA.trans (bW.mono bA.size)⟩
   rw [psn_zero.2 fun hm => ?_]
   · rfl
   · obtain ⟨j, hj⟩ := List.mem_iff_getElem?.1 hm
     exact hn j x (by have := (List.getElem?_eq_some_iff.1 hj).1; omega) hj rfl
 obtain ⟨g, off, eA, g1, -, -, -, g5⟩ := AW.sr.get (by omega)
 obtain ⟨y, hy⟩ : ∃ y, f.slots[i]? = some y := ⟨_, List.getElem?_eq_getElem hin⟩
 have L0' := AW.l_slots (l := [b, bt, g]) (by simp)
 rw [eA] at L0 L0'
 have LY : Ld Tryz.prog 46 g (off + mulO i 2) (Sm [b, bt, g] W) (.agg #[.int .i64 y.s, .int .i64 y.q]) := ⟨fun W' hW => load_agg (cs := eSl y) (by kernel_rfl) (by kernel_rfl) fun j u hu => cell_sm (by rw [mulO_eq]; exact g5 i y hy j u hu) (by simp) hW⟩
 have LX : Ld Tryz.prog 46 bt 0 (Sm [b, bt, g] W) (.agg #[.int .i64 x.s, .int .i64 x.q]) := ⟨fun W' hW => load_agg (cs := eSl x) (by kernel_rfl) (by kernel_rfl) (range_same (range_same oA (bW.block bt (by omega))) (hW bt (by simp)))⟩
 have sd : Sm [b, bt, g] W W.drew := fun _ _ => rfl
 repeat ((conv => whnf); first | refine Xl (L0.at s0) ?_ | refine Xt ?_ | refine Xq ?_ | refine Xn ?_ | refine Xj ?_ | refine Xo ?_); try (conv => whnf)
 refine VDraw.pl 1000 (.stop [0, 1, 2, 3, 4, 5, 6, 7, 8]) (Sm [b, bt, g] W) (by kernel_rfl) (sd) ?_
 repeat ((conv => whnf); first | refine Xl L0' ?_ | refine Xl LY ?_ | refine Xl LX ?_ | refine Xt ?_ | refine Xq ?_ | refine Xn ?_ | refine Xj ?_ | refine Xo ?_); try (conv => whnf)
 refine VBin.slot (fun e1 e2 => ?_) (fun hne => ?_)
 · repeat ((conv => whnf); first | refine Xt ?_ | refine Xq ?_ | refine Xn ?_ | refine Xj ?_ | refine Xo ?_); try (conv => whnf)
   have exy : y = x := by
     obtain ⟨a, c⟩ := x
     obtain ⟨a', c'⟩ := y
     simp only [Int.ofNat_inj] at e1 e2
     rw [e1, e2]
   subst exy
   exact .mk ⟨by rw [psn_first hy hn]; rfl, by rw [hbt]; exact bA.trans ((bW.mono bA.size).drew)⟩
 · repeat ((conv => whnf); first | refine Xt ?_ | refine Xq ?_ | refine Xn ?_ | refine Xj ?_ | refine Xo ?_); try (conv => whnf)
   exact .mk (i + 1) ⟨rfl, rfl, rfl, trivial⟩ ⟨hin, bW.drew, fun j z hj hz => by
     by_cases e : j = i
     · subst e; rw [hy] at hz; injection hz with hz; subst hz; exact fun e => hne ⟨by rw [e], by rw [e]⟩
     · exact hn j z (by omega) hz⟩ (by show f.slots.length - (i + 1) < f.slots.length - i; omega)
def atI (f : Rf) (p : Int) : Int := match f.came.findIdx? (fun d => decide ((psn f.slots d.sl : Int) = p)) with
 | some i => i
 | none => -1
set_option maxRecDepth 100000 in
theorem rat_any (A : RefAt w K r b f X) (hp : PosOk f X) (p : Int) (hm : f.came.length ≤ 1000000) : Calls Tryz.prog 109 #[.pointer (some ⟨b, 0, none⟩), .int .i64 p] w fun e w' => e = .returned (.int .i64 (atI f p)) ∧ w' = w := by
 refine calls_vc tab_ok Tryz.func109 rfl ?_
 have L0 := A.l_came (l := [b]) (by simp)
 have s0 := Sm.refl [b] w
 have hcl := A.clen
 conv => whnf
 repeat ((conv => whnf); first | refine Xt ?_ | refine Xq ?_ | refine Xn ?_ | refine Xj ?_ | refine Xo ?_); try (conv => whnf)
 refine VLoop.mk Nat (fun i => [(0, .pointer (some ⟨b, 0, none⟩)), (1, .int .i64 p), (5, .int .i64 i)]) (fun i W => i ≤ f.came.length ∧ W = w ∧ ∀ (j : Nat) (d : Dt), j < i → f.came[j]? = some d → (psn f.slots d.sl : Int) ≠ p) (fun i => f.came.length - i) 0 ⟨rfl, rfl, rfl, trivial⟩ ⟨Nat.zero_le _, rfl, fun j d hj => absurd hj (by omega)⟩ ?_
 rintro i W ⟨hi, rfl, hn⟩
 by_cases hin : i < f.came.length
 case neg =>
   have : f.came.findIdx? (fun d => decide ((psn f.slots d.sl : Int) = p)) = none := List.findIdx?_eq_none_iff.2 fun d hd => by
     obtain ⟨j, hj⟩ := List.mem_iff_getElem?.1 hd
     exact decide_eq_false (hn j d (by have := (List.getElem?_eq_some_iff.1 hj).1; omega) hj)
   repeat ((conv => whnf); first | refine Xl (L0.at s0) ?_ | refine Xt ?_ | refine Xq ?_ | refine Xn ?_ | refine Xj ?_ | refine Xo ?_); try (conv => whnf)
   exact .mk ⟨by unfold atI; rw [this]; rfl, rfl⟩
 obtain ⟨g, off, eA, g1, -, -, -, g5⟩ := A.cr.get (by omega)
 obtain ⟨x, hx⟩ : ∃ x, X.cl[i]? = some x := ⟨_, List.getElem?_eq_getElem (by omega)⟩
 have hd : f.came[i]? = some x.d := by rw [← A.cv, List.getElem?_map, hx]; rfl
 have hpx := hp x (List.mem_of_getElem? hx)
 rw [eA] at L0
 have L1 : Ld Tryz.prog 3 g (addO (off + mulO i 5) 4) (Eq W) (.int .i64 x.p) := .of (load3 (by rw [show addO (off + mulO i 5) 4 = off + i * 5 + 4 by rw [mulO_eq]; rfl]; exact g5 i x hx 4 _ rfl))
 rw [hpx] at L1
 by_cases he : (psn f.slots x.d.sl : Int) = p
 · have : f.came.findIdx? (fun d => decide ((psn f.slots d.sl : Int) = p)) = some i := by
     obtain ⟨h1, h2⟩ := List.getElem?_eq_some_iff.1 hd
     refine List.findIdx?_eq_some_iff_getElem.2 ⟨h1, decide_eq_true (by rw [h2]; exact he), fun j hj => ?_⟩
     have := hn j _ hj (List.getElem?_eq_getElem (by omega))
     simpa using this
   repeat ((conv => whnf); first | refine Xl (L0.at s0) ?_ | refine Xl L1 ?_ | refine Xt ?_ | refine Xq ?_ | refine Xn ?_ | refine Xj ?_ | refine Xo ?_); try (conv => whnf)
   exact .mk ⟨by unfold atI; rw [this]; rfl, rfl⟩
 · repeat ((conv => whnf); first | refine Xl (L0.at s0) ?_ | refine Xl L1 ?_ | refine Xt ?_ | refine Xq ?_ | refine Xn ?_ | refine Xj ?_ | refine Xo ?_); try (conv => whnf)
   exact .mk (i + 1) ⟨rfl, rfl, rfl, trivial⟩ ⟨hin, rfl, fun j y hj hy => by
     by_cases e : j = i
     · subst e; rw [hd] at hy; injection hy with hy; rw [← hy]; exact he
     · exact hn j y (by omega) hy⟩ (by show f.came.length - (i + 1) < f.came.length - i; omega)
theorem leastTo_snoc (o : Os) (q : Nat) : ∀ (l : List Nat) (n : Nat), leastTo o (l ++ [q]) n = if q = o.self then leastTo o l n else min (leastTo o l n) (o.told q)
 | [], n => by simp [leastTo]
 | a :: l, n => by rw [List.cons_append, leastTo, leastTo, leastTo_snoc o q l]
set_option maxRecDepth 100000 in
theorem rleast_any (A : RefAt w K r b f X) (h : Sim T o f) : Calls Tryz.prog 110 #[.pointer (some ⟨b, 0, none⟩)] w fun e w' => e = .returned (.int .i64 (o.least : Nat)) ∧ Below w.heap.size w w' := by
 refine calls_vc tab_ok Tryz.func110 rfl ?_
 have hbz := A.hb
 have m16 := h.m16
 have hle : o.least = leastTo o f.mem f.upto := by unfold Os.least; rw [h.mem, h.done]
 have L9 := A.l_upto (l := [b]) (by simp)
 have s9 := Sm.refl [b] w
 conv => whnf
 repeat ((conv => whnf); first | refine Xl (L9.at s9) ?_ | refine Xt ?_ | refine Xq ?_ | refine Xn ?_ | refine Xj ?_ | refine Xo ?_); try (conv => whnf)
 refine VLoop.mk Nat (fun i => [(0, .pointer (some ⟨b, 0, none⟩)), (3, .int .i64 (leastTo o (f.mem.take i) f.upto : Nat)), (4, .int .i64 i)]) (fun i W => i ≤ f.mem.length ∧ Below w.heap.size w W) (fun i => f.mem.length - i) 0 ⟨rfl, rfl, rfl, trivial⟩ ⟨Nat.zero_le _, Below.refl _ _⟩ ?_
 rintro i W ⟨hi, bW⟩
 have AW := A.below bW
 have L0 := AW.l_mem (l := [b]) (by simp)
 have s0 := Sm.refl [b] W
 by_cases hin : i < f.mem.length
 case neg =>
   obtain rfl : i = f.mem.length := by omega
   rw [List.take_length]
   repeat ((conv => whnf); first | refine Xl (L0.at s0) ?_ | refine Xt ?_ | refine Xq ?_ | refine Xn ?_ | refine Xj ?_ | refine Xo ?_); try (conv => whnf)
   exact .mk ⟨by rw [hle]; rfl, bW⟩
 obtain ⟨g, off, eA, g1, -, -, -, g5⟩ := AW.pr.get (by omega)
 obtain ⟨q, hq⟩ : ∃ q, f.mem[i]? = some q := ⟨_, List.getElem?_eq_getElem hin⟩
 obtain ⟨g', off', eB, g1', -, -, -, g5'⟩ := AW.tr.get (by rw [h.tl]; omega)
 have M0 := AW.l_mem (l := [b, g, g']) (by simp)
 have M1 := AW.l_self (l := [b, g, g']) (by simp)
 have M2 := AW.l_told (l := [b, g, g']) (by simp)
 rw [eA] at M0 L0
 rw [eB, h.tl] at M2
 have MQ : Ld Tryz.prog 3 g (off + i) (Sm [b, g, g'] W) (.int .i64 q) := ⟨fun W' hW => load3 (cell_sm (by have := g5 i q hq 0 _ rfl; rwa [Nat.mul_one] at this) (by simp) hW)⟩
 have sd : Sm [b, g, g'] W W.drew := fun _ _ => rfl
 have hsn := leastTo_snoc o q (f.mem.take i) f.upto
 rw [← take_one hq, h.self] at hsn
 by_cases he : q = f.self
 · rw [if_pos he] at hsn
   repeat ((conv => whnf); first | refine Xl (L0.at s0) ?_ | refine Xt ?_ | refine Xq ?_ | refine Xn ?_ | refine Xj ?_ | refine Xo ?_); try (conv => whnf)
   refine VDraw.pl 1000 (.stop [0, 1, 2, 3, 4, 5, 6, 7, 8, 9, 10, 11, 12, 13, 14, 15, 16, 17, 18, 19, 20, 21, 22]) (Sm [b, g, g'] W) (by kernel_rfl) (sd) ?_
   repeat ((conv => whnf); first | refine Xl M0 ?_ | refine Xl M1 ?_ | refine Xl M2 ?_ | refine Xl MQ ?_ | refine Xt ?_ | refine Xq ?_ | refine Xn ?_ | refine Xj ?_ | refine Xo ?_); try (conv => whnf)
   exact .mk (i + 1) ⟨rfl, congrArg (fun z : Nat => some (Value.int .i64 (z : Int))) hsn.symm, rfl, trivial⟩ ⟨hin, bW.drew⟩ (by show f.mem.length - (i + 1) < f.mem.length - i; omega)
 rw [if_neg he] at hsn
 have ht := h.tt i q hq he
 have MT : Ld Tryz.prog 3 g' (off' + i) (Sm [b, g, g'] W) (.int .i64 (o.told q)) := ⟨fun W' hW => load3 (cell_sm (by have := g5' i _ ht 0 _ rfl; rwa [Nat.mul_one] at this) (by simp) hW)⟩
 by_cases hlt : o.told q < leastTo o (f.mem.take i) f.upto
 · rw [show min (leastTo o (f.mem.take i) f.upto) (o.told q) = o.told q by omega] at hsn
   repeat ((conv => whnf); first | refine Xl (L0.at s0) ?_ | refine Xt ?_ | refine Xq ?_ | refine Xn ?_ | refine Xj ?_ | refine Xo ?_); try (conv => whnf)
   refine VDraw.pl 1000 (.stop [0, 1, 2, 3, 4, 5, 6, 7, 8, 9, 10, 11, 12, 13, 14, 15, 16, 17, 18, 19, 20, 21, 22]) (Sm [b, g, g'] W) (by kernel_rfl) (sd) ?_
   repeat ((conv => whnf); first | refine Xl M0 ?_ | refine Xl M1 ?_ | refine Xl M2 ?_ | refine Xl MQ ?_ | refine Xl MT ?_ | refine Xl (M2.at sd) ?_ | refine Xl (MT.at sd) ?_ | refine Xt ?_ | refine Xq ?_ | refine Xn ?_ | refine Xj ?_ | refine Xo ?_); try (conv => whnf)
   exact .mk (i + 1) ⟨rfl, congrArg (fun z : Nat => some (Value.int .i64 (z : Int))) hsn.symm, rfl, trivial⟩ ⟨hin, bW.drew⟩ (by show f.mem.length - (i + 1) < f.mem.length - i; omega)
 · rw [show min (leastTo o (f.mem.take i) f.upto) (o.told q) = leastTo o (f.mem.take i) f.upto by omega] at hsn
   repeat ((conv => whnf); first | refine Xl (L0.at s0) ?_ | refine Xt ?_ | refine Xq ?_ | refine Xn ?_ | refine Xj ?_ | refine Xo ?_); try (conv => whnf)
   refine VDraw.pl 1000 (.stop [0, 1, 2, 3, 4, 5, 6, 7, 8, 9, 10, 11, 12, 13, 14, 15, 16, 17, 18, 19, 20, 21, 22]) (Sm [b, g, g'] W) (by kernel_rfl) (sd) ?_
   repeat ((conv => whnf); first | refine Xl M0 ?_ | refine Xl M1 ?_ | refine Xl M2 ?_ | refine Xl MQ ?_ | refine Xl MT ?_ | refine Xt ?_ | refine Xq ?_ | refine Xn ?_ | refine Xj ?_ | refine Xo ?_); try (conv => whnf)
   exact .mk (i + 1) ⟨rfl, congrArg (fun z : Nat => some (Value.int .i64 (z : Int))) hsn.symm, rfl, trivial⟩ ⟨hin, bW.drew⟩ (by show f.mem.length - (i + 1) < f.mem.length - i; omega)
set_option maxRecDepth 100000 in
theorem rrise_any (A : RefAt w K r b f X) (n : Nat) : Calls Tryz.prog 111 #[.pointer (some ⟨b, 0, none⟩), .int .i64 n] w fun e w' => e = .returned (.tuple #[]) ∧ RefAt w' K r b (f.rise n) X ∧ Ro (· = r) K K w w' := by
 refine calls_vc tab_ok Tryz.func111 rfl ?_
 have L0 := A.l_known (l := [b]) (by simp)
 have s0 := Sm.refl [b] w
 conv => whnf
 by_cases h : f.known < n
 · repeat ((conv => whnf); first | refine Xl (L0.at s0) ?_ | refine Xt ?_ | refine Xq ?_ | refine Xn ?_ | refine Xj ?_ | refine Xo ?_); try (conv => whnf)
   have ht := A.th 10 (by omega)
   refine VStore.cell (by kernel_rfl) (by have := ht.1; rwa [Nat.zero_add] at this) (by have := ht.2; rwa [Nat.zero_add] at this) rfl rfl fun w2 hw2 => ?_
   obtain ⟨A2, q2⟩ := A.putc (j := 10) (v := .int .i64 n) (f.rise n) hw2.out (by omega) (by unfold cellsR Rf.rise; rw [show max f.known n = n by omega]; rfl) rfl rfl rfl rfl rfl
   repeat ((conv => whnf); first | refine Xt ?_ | refine Xq ?_ | refine Xn ?_ | refine Xj ?_ | refine Xo ?_); try (conv => whnf)
   exact .mk ⟨rfl, A2, q2⟩
 · repeat ((conv => whnf); first | refine Xl (L0.at s0) ?_ | refine Xt ?_ | refine Xq ?_ | refine Xn ?_ | refine Xj ?_ | refine Xo ?_); try (conv => whnf)
   have e : f.rise n = f := by unfold Rf.rise; rw [show max f.known n = f.known by omega]
   exact .mk ⟨rfl, by rw [e]; exact A, Ro.refl _ _ _⟩
set_option maxRecDepth 100000 in
theorem rfree_any (A : RefAt w K r b f X) (hp : PosOk f X) (h : Sim T o f) (hT : T ≤ 100000) : Calls Tryz.prog 57 #[.pointer (some ⟨b, 0, none⟩)] w fun e w' => e = .returned (.int .i64 o.free) ∧ Below w.heap.size w w' := by
 refine calls_vc tab_ok Tryz.func57 rfl ?_
 have hbz := A.hb
 have h8 := h.w8
 have t1 := h.T1
 have hf := h.free
 have L0 := A.l_stop (l := [b]) (by simp)
 have L1 := A.l_win (l := [b]) (by simp)
 have L2 := A.l_self (l := [b]) (by simp)
 have s0 := Sm.refl [b] w
 have sd : Sm [b] w w.drew := s0
 conv => whnf
 cases hs : f.stop with
 | true =>
   rw [hs] at L0 hf
   repeat ((conv => whnf); first | refine Xl (L0.at s0) ?_ | refine Xt ?_ | refine Xq ?_ | refine Xn ?_ | refine Xj ?_ | refine Xo ?_); try (conv => whnf)
   exact .mk ⟨by rw [hf]; rfl, Below.refl _ _⟩
 | false =>
   rw [hs] at L0 hf
   have hle : f.heldOf f.self ≤ f.came.length := List.countP_le_length
   repeat ((conv => whnf); first | refine Xl (L0.at s0) ?_ | refine Xt ?_ | refine Xq ?_ | refine Xn ?_ | refine Xj ?_ | refine Xo ?_); try (conv => whnf)
   refine VDraw.pl 1000 (.one [0, 1, 2, 3, 4, 5, 6, 7, 8] 9 (.stop [10, 11])) (Sm [b] w) (by kernel_rfl) (sd) ?_
   repeat ((conv => whnf); first | refine Xl L1 ?_ | refine Xl L2 ?_ | refine Xt ?_ | refine Xq ?_ | refine Xn ?_ | refine Xj ?_ | refine Xo ?_); try (conv => whnf)
   refine VCall.mk _ (heldOf_any (A.below (Below.refl _ w).drew) hp h.sq f.self (by omega)) ?_
   rintro _ w2 ⟨rfl, b2⟩
   refine ⟨_, rfl, ?_⟩
   rw [hdI_nat]
   have b02 : Below w.heap.size w w2 := (Below.refl _ w).drew.trans b2
   have s2 : Sm [b] w w2 := .below b02 fun g hg => by rw [List.mem_singleton.1 hg]; exact hbz
   repeat ((conv => whnf); first | (refine VS.mk s2 ?_) | refine Xl L1 ?_ | refine Xt ?_ | refine Xq ?_ | refine Xn ?_ | refine Xj ?_ | refine Xo ?_); try (conv => whnf)
   exact .mk ⟨by rw [hf]; rfl, b02⟩
end
end Go.Proofs.YtoilipfgimcoiaaGreat
namespace Go.Proofs.YtoilipfgimcoiaaGreat
open Go Go.RowKit
theorem within_any (v a b : Int) (w : World) : Calls Tryz.prog 126 #[.int .i64 v, .int .i64 a, .int .i64 b] w fun e w' => e = .returned (.bool (decide (a ≤ v ∧ v ≤ b))) ∧ w' = w := by
 refine calls_vc tab_ok Tryz.func126 rfl ?_
 conv => whnf
 by_cases h1 : a ≤ v
 · by_cases h2 : v ≤ b
   · repeat ((conv => whnf); first | refine Xt ?_ | refine Xq ?_ | refine Xn ?_ | refine Xj ?_ | refine Xo ?_); try (conv => whnf)
     exact .mk ⟨by rw [decide_eq_true (show a ≤ v ∧ v ≤ b from ⟨h1, h2⟩)]; rfl, rfl⟩
   · repeat ((conv => whnf); first | refine Xt ?_ | refine Xq ?_ | refine Xn ?_ | refine Xj ?_ | refine Xo ?_); try (conv => whnf)
     exact .mk ⟨by rw [decide_eq_false (fun h : a ≤ v ∧ v ≤ b => h2 h.2)]; rfl, rfl⟩
 · repeat ((conv => whnf); first | refine Xt ?_ | refine Xq ?_ | refine Xn ?_ | refine Xj ?_ | refine Xo ?_); try (conv => whnf)
   exact .mk ⟨by rw [decide_eq_false (fun h : a ≤ v ∧ v ≤ b => h1 h.1)]; rfl, rfl⟩
theorem VCall.within {v a b : Int} {w : World} {K : Value → World → Prop} (h1 : a ≤ v → v ≤ b → K (.bool true) w) (h2 : ¬ (a ≤ v ∧ v ≤ b) → K (.bool false) w) : VCall Tryz.prog 126 #[.int .i64 v, .int .i64 a, .int .i64 b] w K := by
 refine VCall.mk _ (within_any v a b w) ?_
 rintro _ _ ⟨rfl, rfl⟩
 refine ⟨_, rfl, ?_⟩
 by_cases h : a ≤ v ∧ v ≤ b
 · rw [decide_eq_true h]; exact h1 h.1 h.2
 · rw [decide_eq_false h]; exact h2 h
def gdP (s q st : Int) (n : Nat) : Prop := 0 ≤ s ∧ s ≤ 15 ∧ 1 ≤ q ∧ q ≤ 4611686018427387904 ∧ 0 ≤ st ∧ st ≤ 4611686018427387904 ∧ (n : Int) ≤ 256
instance (s q st : Int) (n : Nat) : Decidable (gdP s q st n) := by unfold gdP; exact inferInstance
def gsP (s q : Int) : Prop := 0 ≤ s ∧ s ≤ 15 ∧ 1 ≤ q ∧ q ≤ 4611686018427387904
instance (s q : Int) : Decidable (gsP s q) := by unfold gsP; exact inferInstance
set_option maxRecDepth 100000 in
theorem goodData_any (s q st : Int) (B : Option Addr) (cB nB : Nat) (w : World) : Calls Tryz.prog 125 #[.agg #[.int .i64 s, .int .i64 q, .int .i64 st, .slice B nB cB]] w fun e w' => e = .returned (.bool (decide (gdP s q st nB))) ∧ Below w.heap.size w w' := by
 refine calls_vc tab_ok Tryz.func125 rfl ?_
 conv => whnf
 refine .mk fun wA hwA => ?_
 have bA : Below w.heap.size w wA := by rw [hwA.out]; exact below_box1 _ _ _
 have oA : wA.rangeAt w.heap.size 0 [.int .i64 s, .int .i64 q, .int .i64 st, .slice B nB cB] := by rw [hwA.out]; exact range_new w _ 44
 clear hwA
 have D0 : Ld Tryz.prog 3 w.heap.size 0 (Eq wA) (.int .i64 s) := .of (load3 (oA 0 _ rfl))
 have D1 : Ld Tryz.prog 3 w.heap.size 1 (Eq wA) (.int .i64 q) := .of (load3 (oA 1 _ rfl))
 have D2 : Ld Tryz.prog 3 w.heap.size 2 (Eq wA) (.int .i64 st) := .of (load3 (oA 2 _ rfl))
 have D3 : Ld Tryz.prog 42 w.heap.size 3 (Eq wA) (.slice B nB cB) := .of (load27 (oA 3 _ rfl))
 repeat' (conv => whnf
          first
          | (refine VLoad.mk _ D0 ?_)
          | (refine VLoad.mk _ D1 ?_)
          | (refine VLoad.mk _ D2 ?_)
          | (refine VLoad.mk _ D3 ?_)
          | (refine VCall.within (fun _ _ => ?_) (fun _ => ?_))
          | refine Xt ?_
          | refine Xq ?_
          | refine Xn ?_
          | refine Xj ?_
          | refine Xo ?_
          | (refine VCmp.split (fun _ => ?_) (fun _ => ?_)))
 all_goals try (conv => whnf)
 all_goals first
   | exact .mk ⟨by rw [decide_eq_true (show gdP s q st nB by unfold gdP; omega)]; rfl, bA⟩
   | exact .mk ⟨by rw [decide_eq_false (show ¬ gdP s q st nB by unfold gdP; omega)]; rfl, bA⟩
set_option maxRecDepth 100000 in
theorem goodSlot_any (s q : Int) (w : World) : Calls Tryz.prog 127 #[.agg #[.int .i64 s, .int .i64 q]] w fun e w' => e = .returned (.bool (decide (gsP s q))) ∧ Below w.heap.size w w' := by
 refine calls_vc tab_ok Tryz.func127 rfl ?_
 conv => whnf
 refine .mk fun wA hwA => ?_
 have bA : Below w.heap.size w wA := by rw [hwA.out]; exact below_box1 _ _ _
 have oA : wA.rangeAt w.heap.size 0 [.int .i64 s, .int .i64 q] := by rw [hwA.out]; exact range_new w _ 46
 clear hwA
 have D0 : Ld Tryz.prog 3 w.heap.size 0 (Eq wA) (.int .i64 s) := .of (load3 (oA 0 _ rfl))
 have D1 : Ld Tryz.prog 3 w.heap.size 1 (Eq wA) (.int .i64 q) := .of (load3 (oA 1 _ rfl))
 repeat' (conv => whnf
          first
          | (refine VLoad.mk _ D0 ?_)
          | (refine VLoad.mk _ D1 ?_)
          | (refine VCall.within (fun _ _ => ?_) (fun _ => ?_))
          | refine Xt ?_
          | refine Xq ?_
          | refine Xn ?_
          | refine Xj ?_
          | refine Xo ?_
          | (refine VCmp.split (fun _ => ?_) (fun _ => ?_)))
 all_goals try (conv => whnf)
 all_goals first
   | exact .mk ⟨by rw [decide_eq_true (show gsP s q by unfold gsP; omega)]; rfl, bA⟩
   | exact .mk ⟨by rw [decide_eq_false (show ¬ gsP s q by unfold gsP; omega)]; rfl, bA⟩
theorem VCall.gslot {s q : Int} {w : World} {K : Value → World → Prop} (h1 : gsP s q → ∀ w', Below w.heap.size w w' → K (.bool true) w') (h2 : ¬ gsP s q → ∀ w', Below w.heap.size w w' → K (.bool false) w') : VCall Tryz.prog 127 #[.agg #[.int .i64 s, .int .i64 q]] w K := by
 refine VCall.mk _ (goodSlot_any s q w) ?_
 rintro _ w' ⟨rfl, hb⟩
 refine ⟨_, rfl, ?_⟩
 by_cases h : gsP s q
 · rw [decide_eq_true h]; exact h1 h _ hb
 · rw [decide_eq_false h]; exact h2 h _ hb
set_option maxRecDepth 100000 in
set_option maxHeartbeats 8000000 in
theorem goodItem_any (i : Itm) (B : Option Addr) (cB nB : Nat) (w : World) (hnB : i.b.length = nB) (hr : -9223372036854775808 ≤ i.pos) (hpos : i.pos ≤ 9223372036854775807) : Calls Tryz.prog 103 #[.agg (itA i B cB nB)] w fun e w' => e = .returned (.bool i.ok) ∧ Below w.heap.size w w' := by
 refine calls_vc tab_ok Tryz.func103 rfl ?_
 conv => whnf
 refine .mk fun wA hwA => ?_
 have bA : Below w.heap.size w wA := by rw [hwA.out]; exact below_box1 _ _ _
 have zA : wA.heap.size = w.heap.size + 1 := by rw [hwA.out]; simp
 have oA : wA.rangeAt w.heap.size 0 (itA i B cB nB).toList := by rw [hwA.out]; exact range_new w _ 48
 clear hwA
 have K0 : Ld Tryz.prog 3 w.heap.size 0 (Sm [w.heap.size] wA) (.int .i64 i.kd) := ⟨fun W hW => load3 (cell_sm (oA 0 _ rfl) (by simp) hW)⟩
 have K1 : Ld Tryz.prog 3 w.heap.size 5 (Sm [w.heap.size] wA) (.int .i64 i.pos) := ⟨fun W hW => load3 (cell_sm (oA 5 _ rfl) (by simp) hW)⟩
 have K2 : Ld Tryz.prog 3 w.heap.size 6 (Sm [w.heap.size] wA) (.int .i64 i.sb) := ⟨fun W hW => load3 (cell_sm (oA 6 _ rfl) (by simp) hW)⟩
 have K3 : Ld Tryz.prog 3 w.heap.size 7 (Sm [w.heap.size] wA) (.int .i64 i.ss) := ⟨fun W hW => load3 (cell_sm (oA 7 _ rfl) (by simp) hW)⟩
 have K4 : Ld Tryz.prog 3 w.heap.size 8 (Sm [w.heap.size] wA) (.int .i64 i.sq) := ⟨fun W hW => load3 (cell_sm (oA 8 _ rfl) (by simp) hW)⟩
 have LD : Ld Tryz.prog 44 w.heap.size 1 (Sm [w.heap.size] wA) (.agg #[.int .i64 i.s, .int .i64 i.q, .int .i64 i.st, .slice B nB cB]) := ⟨fun W hW => load_agg (by kernel_rfl) (by kernel_rfl) (range_sub (n := 4) (range_same oA (hW _ (by simp))) 1 rfl)⟩
 have LS : Ld Tryz.prog 46 w.heap.size 7 (Sm [w.heap.size] wA) (.agg #[.int .i64 i.ss, .int .i64 i.sq]) := ⟨fun W hW => load_agg (by kernel_rfl) (by kernel_rfl) (range_sub (n := 2) (range_same oA (hW _ (by simp))) 7 rfl)⟩
 have s0 := Sm.refl [w.heap.size] wA
 by_cases k1 : i.kd = 1
 · repeat ((conv => whnf); first | refine Xl (K0.at s0) ?_ | refine Xl (LD.at s0) ?_ | refine Xt ?_ | refine Xq ?_ | refine Xn ?_ | refine Xj ?_ | refine Xo ?_); try (conv => whnf)
   refine VCall.mk _ (goodData_any i.s i.q i.st B cB nB wA) ?_
   rintro _ w1 ⟨rfl, b1⟩
   refine ⟨_, rfl, ?_⟩
   have s1 : Sm [w.heap.size] wA w1 := .below b1 fun g hg => by rw [List.mem_singleton.1 hg]; omega
   have bw1 := bA.trans (b1.mono bA.size)
   by_cases hP : gdP i.s i.q i.st nB
   · rw [decide_eq_true hP]
     unfold gdP at hP
     repeat' (conv => whnf
              first
              | (refine VLoad.mk _ (K1.at s1) ?_)
              | (refine VLoad.mk _ (K2.at s1) ?_)
              | (refine VLoad.mk _ (K3.at s1) ?_)
              | (refine VLoad.mk _ (K4.at s1) ?_)
              | refine Xt ?_
              | refine Xq ?_
              | refine Xn ?_
              | refine Xj ?_
              | refine Xo ?_
              | (refine VCmp.split (fun _ => ?_) (fun _ => ?_)))
     all_goals try (conv => whnf)
     all_goals first
       | exact .mk ⟨by rw [Itm.ok_t (by unfold Itm.isD Itm.isS; omega)]; rfl, bw1⟩
       | exact .mk ⟨by rw [Itm.ok_f (by unfold Itm.isD Itm.isS; omega)]; rfl, bw1⟩
   · rw [decide_eq_false hP]
     unfold gdP at hP
     repeat ((conv => whnf); first | refine Xt ?_ | refine Xq ?_ | refine Xn ?_ | refine Xj ?_ | refine Xo ?_); try (conv => whnf)
     exact .mk ⟨by rw [Itm.ok_f (by unfold Itm.isD Itm.isS; omega)]; rfl, bw1⟩
 repeat ((conv => whnf); first | refine Xl (K0.at s0) ?_ | refine Xl (LD.at s0) ?_ | refine Xt ?_ | refine Xq ?_ | refine Xn ?_ | refine Xj ?_ | refine Xo ?_); try (conv => whnf)
 refine .mk _ run_zero71 ?_
 conv => whnf
 refine .mk fun u3 hu3 => ?_
 repeat ((conv => whnf); first | refine Xt ?_ | refine Xq ?_ | refine Xn ?_ | refine Xj ?_ | refine Xo ?_); try (conv => whnf)
 obtain ⟨bt, hbt⟩ : ∃ bt, bt = wA.heap.size := ⟨_, rfl⟩
 refine VStore.new (c' := #[.int .i64 i.s, .int .i64 i.q, .int .i64 i.st, .slice B nB cB]) hu3 (by kernel_rfl) rfl (one_dtI _ _ _ _ _ _) fun w3 hw3 => ?_
 have b3 : Below wA.heap.size wA w3 := by rw [hw3.out]; exact (Below.refl _ _).alloc (Nat.le_refl _) _
 have r3 : w3.rangeAt bt 0 [.int .i64 i.s, .int .i64 i.q, .int .i64 i.st, .slice B nB cB] := by rw [hw3.out, hbt]; exact range_new wA _ 44
 rw [← hbt]
 clear hu3 hw3
 clear u3
 have D0 : Ld Tryz.prog 3 bt 0 (Eq w3) (.int .i64 i.s) := .of (load3 (r3 0 _ rfl))
 have D1 : Ld Tryz.prog 3 bt 1 (Eq w3) (.int .i64 i.q) := .of (load3 (r3 1 _ rfl))
 have D2 : Ld Tryz.prog 3 bt 2 (Eq w3) (.int .i64 i.st) := .of (load3 (r3 2 _ rfl))
 have D3 : Ld Tryz.prog 42 bt 3 (Eq w3) (.slice B nB cB) := .of (load27 (r3 3 _ rfl))
 have s3 : Sm [w.heap.size] wA w3 := .below b3 fun g hg => by rw [List.mem_singleton.1 hg]; omega
 have bw3 := bA.trans (b3.mono bA.size)
 have bwx : ∀ {W}, Below w3.heap.size w3 W → Below w.heap.size w W := fun {W} h => bw3.trans (h.mono bw3.size)
 repeat' (conv => whnf
          first
          | (refine VLoad.mk _ D0 ?_)
          | (refine VLoad.mk _ D1 ?_)
          | (refine VLoad.mk _ D2 ?_)
          | (refine VLoad.mk _ D3 ?_)
          | (refine VLoad.mk _ (K0.at s3) ?_)
          | (refine VLoad.mk _ (K1.at s3) ?_)
          | (refine VLoad.mk _ (K2.at s3) ?_)
          | (refine VLoad.mk _ (LS.at s3) ?_)
          | (refine VCall.within (fun _ _ => ?_) (fun _ => ?_))
          | (refine VCall.gslot (fun hP W bW => ?_) (fun hP W bW => ?_))
          | refine Xt ?_
          | refine Xq ?_
          | refine Xn ?_
          | refine Xj ?_
          | refine Xo ?_
          | (refine VCmp.split (fun _ => ?_) (fun _ => ?_)))
 all_goals try (conv => whnf)
 all_goals first
   | exact .mk ⟨by rw [Itm.ok_f (by unfold Itm.isD Itm.isS; omega)]; rfl, bw3⟩
   | exact .mk ⟨by rw [Itm.ok_t (by unfold gsP at hP; unfold Itm.isD Itm.isS; omega)]; rfl, bwx bW⟩
   | exact .mk ⟨by rw [Itm.ok_f (by unfold gsP at hP; unfold Itm.isD Itm.isS; omega)]; rfl, bwx bW⟩
set_option maxRecDepth 100000 in
theorem rwhole_any (v : Vd) (w : World) : Calls Tryz.prog 123 #[.agg #[.int .i64 v.e, .int .i64 v.l, .int .i64 v.i, .int .i64 v.c]] w fun e w' => e = .returned (.bool (decide v.ok)) ∧ Below w.heap.size w w' := by
 refine calls_vc tab_ok Tryz.func123 rfl ?_
 conv => whnf
 refine .mk fun wA hwA => ?_
 have bA : Below w.heap.size w wA := by rw [hwA.out]; exact below_box1 _ _ _
 have oA : wA.rangeAt w.heap.size 0 [.int .i64 v.e, .int .i64 v.l, .int .i64 v.i, .int .i64 v.c] := by rw [hwA.out]; exact range_new w _ 38
 clear hwA
 have D0 : Ld Tryz.prog 3 w.heap.size 0 (Eq wA) (.int .i64 v.e) := .of (load3 (oA 0 _ rfl))
 have D1 : Ld Tryz.prog 3 w.heap.size 1 (Eq wA) (.int .i64 v.l) := .of (load3 (oA 1 _ rfl))
 have D2 : Ld Tryz.prog 3 w.heap.size 2 (Eq wA) (.int .i64 v.i) := .of (load3 (oA 2 _ rfl))
 have D3 : Ld Tryz.prog 3 w.heap.size 3 (Eq wA) (.int .i64 v.c) := .of (load3 (oA 3 _ rfl))
 repeat' (conv => whnf
          first
          | (refine VLoad.mk _ D0 ?_)
          | (refine VLoad.mk _ D1 ?_)
          | (refine VLoad.mk _ D2 ?_)
          | (refine VLoad.mk _ D3 ?_)
          | (refine VCall.within (fun _ _ => ?_) (fun _ => ?_))
          | refine Xt ?_
          | refine Xq ?_
          | refine Xn ?_
          | refine Xj ?_
          | refine Xo ?_
          | (refine VCmp.split (fun _ => ?_) (fun _ => ?_)))
 all_goals try (conv => whnf)
 all_goals first
   | exact .mk ⟨by rw [decide_eq_true (show v.ok by unfold Vd.ok; omega)]; rfl, bA⟩
   | exact .mk ⟨by rw [decide_eq_false (show ¬ v.ok by unfold Vd.ok; omega)]; rfl, bA⟩
end Go.Proofs.YtoilipfgimcoiaaGreat
