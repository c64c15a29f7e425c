/- PlB, joined. -/
import Derived.Test.YtoilipfgimcoiaaGreatOz21
set_option linter.unusedVariables false
set_option linter.unusedSimpArgs false
namespace Go.Proofs.YtoilipfgimcoiaaGreat
open Go Go.RowKit
def zero62 : Value := .agg #[.slice none 0 0, .slice none 0 0, .slice none 0 0, .slice none 0 0, .slice none 0 0, .slice none 0 0, .slice none 0 0, .slice none 0 0, .slice none 0 0, .slice none 0 0, .slice none 0 0, .slice none 0 0, .slice none 0 0, .slice none 0 0, .slice none 0 0, .int .i64 0, .bool false]
theorem info62 : (Tryz.prog.info? 62).map (fun i => (i.zero, i.size, i.bytes)) = some (some zero62, 17, 376) := by kernel_rfl
theorem bs34 (W : World) (x : ShX) : (Instr.buildSlice 34 1 #[(0, .agg (shA x))]).run Tryz.prog W = .ok (.slice (some ⟨W.heap.size, 0, none⟩) 1 1) (W.alloc (.cells (shA x) 62)) := by kernel_rfl
def bR (n j : Nat) : Nat := if n + j < 96 then 1000 + (n + j) else 0
def wQ (t : Bool) (n p z : Nat) : Prop := z = 1 ∨ z = 2 ∨ (t = true ∧ 1000 + n ≤ z ∧ z < 1000 + p)
section
variable {K K' : Nat → Nat} {w w' : World} {b : Nat} {Y Y' : PyX} {Q : Nat → Prop}
theorem bk_of (rg : w.rangeAt b 0 (ePy Y)) : w.rangeAt b 6 (eBk Y.bk) := fun i u hu => by
 have hi := (List.getElem?_eq_some_iff.1 hu).1
 have hi : i < 3 := hi
 have := rg (6 + i) u (by
   match i, hi with
   | 0, _ => exact hu
   | 1, _ => exact hu
   | 2, _ => exact hu)
 rwa [Nat.zero_add] at this
theorem PyB.put {j : Nat} {v : Value} (hb : b < w.heap.size) (kb : K b = 1) (rg : w.rangeAt b 0 (ePy Y)) (th : w.there b 0 10) (bk : BookAt w K 1 b 6 Y.bk) (nx : Y.bk.next = Y.bk.ps.length) (hw : w' = w.setCell ⟨b, j, none⟩ v) (hj : j < 10) (he : ePy Y' = (ePy Y).set j v) (hbk : Y'.bk = Y.bk) (hrow : OwnO w K 3 17 eSh Y'.A Y'.c Y'.sh) (hsl : Y'.sh.length ≤ 36) (hsh : ∀ (k : Nat) (x : ShX), Y'.sh[k]? = some x → ShAt w K (shR k) Y.bk.ps.length x) : PyB w' K b Y' ∧ Ro (· = 1) K K w w' := by
 have q : Ro (· = 1) K K w w' := by rw [hw]; exact Ro.cell kb _ _
 obtain ⟨r1, t1⟩ := rng_cell rg th rfl hj hw he
 have r6 : w'.rangeAt b 6 (eBk Y.bk) := by rw [← hbk]; exact bk_of r1
 have t6 : w'.there b 6 3 := fun i hi => by
   have := t1 (6 + i) (by omega)
   rwa [Nat.zero_add] at this
 have hbl := bk.len
 refine ⟨⟨Nat.lt_of_lt_of_le hb q.size, kb, r1, t1, ?_, hrow.ro q (by omega), hsl, fun k x hx => ?_, by rw [hbk]; exact nx⟩, q⟩
 · rw [hbk]
   exact ⟨Nat.lt_of_lt_of_le hb q.size, kb, r6, t6, bk.row.ro q (by omega), fun p x hx => (bk.pg p x hx).ro q (by omega) (by omega), bk.ok, bk.len, fun y hy => bk.kz y (Nat.le_trans q.size hy)⟩
 · rw [hbk]
   exact (hsh k x hx).ro q (fun z h1 _ => by unfold shR at h1; omega) (by omega) (fun σ h1 _ => by omega) (Nat.le_refl _)
structure BdI (b : Nat) (Y : PyX) (t : Bool) (n : Nat) (K0 : Nat → Nat) (w2 : World) (v : Nat) (X : BkX) (Ki : Nat → Nat) (W : World) : Prop where
 py : PyB W Ki b { Y with bk := X }
 ro : Ro (wQ t n X.ps.length) K0 Ki w2 W
 ln : X.ps.length = min 96 v
theorem BdI.step {t : Bool} {n v : Nat} {K0 Ki : Nat → Nat} {w2 W : World} {X : BkX} (I : BdI b Y t n K0 w2 v X Ki W) (hv : n ≤ v) {X' : BkX} (h : PyB w' K' b { Y with bk := X' }) (r : Ro (bdQ t X.ps.length) Ki K' W w') (hl : X'.ps.length = (if X.ps.length < 96 then X.ps.length + 1 else X.ps.length)) (hn : n ≤ 96) : BdI b Y t n K0 w2 (v + 1) X' K' w' := by
 have ln := I.ln
 have hle : X.ps.length ≤ X'.ps.length := by rw [hl]; split <;> omega
 refine ⟨h, (I.ro.more fun z e => ?_).trans (r.more fun z e => ?_), ?_⟩
 · unfold wQ at e ⊢
   rcases e with e | e | ⟨e1, e2, e3⟩
   · exact .inl e
   · exact .inr (.inl e)
   · exact .inr (.inr ⟨e1, e2, by omega⟩)
 · unfold bdQ at e
   unfold wQ
   rcases e with e | e | ⟨e1, e2, e3⟩
   · exact .inl e
   · exact .inr (.inl e)
   · rw [if_pos e2] at hl
     exact .inr (.inr ⟨e1, by omega, by omega⟩)
 · rw [hl]; split <;> omega
theorem wQ_not {t : Bool} {n p z : Nat} (h : z = 0 ∨ z = 3 ∨ 2000 ≤ z) (hp : p ≤ 96) : ¬ wQ t n p z := fun e => by unfold wQ at e; omega
set_option maxRecDepth 100000 in
set_option maxHeartbeats 16000000 in
theorem keep_any' (B : PyB w K b Y) (touch : Bool) (x : ShX) (hd : x.done = false)
   (z0 : x.h.W = none ∧ x.h.m = 0 ∧ x.h.d = 0) (z1 : x.s.W = none ∧ x.s.m = 0 ∧ x.s.d = 0) (z2 : x.i.W = none ∧ x.i.m = 0 ∧ x.i.d = 0) (z3 : x.m.W = none ∧ x.m.m = 0 ∧ x.m.d = 0) (z4 : x.d.W = none ∧ x.d.m = 0 ∧ x.d.d = 0)
   (h : List Nat) (s : List Sl) (i : List ISl) (m : List MgX) (d : List DtX)
   (n0 : x.h.n = h.length) (n1 : x.s.n = s.length) (n2 : x.i.n = i.length) (n3 : x.m.n = m.length) (n4 : x.d.n = d.length)
   (l0 : h.length ≤ 1000000) (l1 : s.length ≤ 1000000) (l2 : i.length ≤ 1000000) (l3 : m.length ≤ 1000000) (l4 : d.length ≤ 1000000)
   (o0 : Y.sh.length < 36 → OwnO w K (shR Y.sh.length + 0) 1 eNat x.h.A x.h.c h) (o1 : Y.sh.length < 36 → OwnO w K (shR Y.sh.length + 1) 2 eSl x.s.A x.s.c s) (o2 : Y.sh.length < 36 → OwnO w K (shR Y.sh.length + 2) 9 eIS x.i.A x.i.c i) (o3 : Y.sh.length < 36 → OwnO w K (shR Y.sh.length + 3) 4 eMg x.m.A x.m.c m) (o4 : Y.sh.length < 36 → OwnO w K (shR Y.sh.length + 4) 4 eDx x.d.A x.d.c d)
   (bm : Y.sh.length < 36 → ∀ (j : Nat) (y : MgX), m[j]? = some y → y.m.b.length ≤ 1000000 ∧ OwnO w K (bR Y.bk.ps.length j) 1 eByte y.A y.c y.m.b)
   (bd : Y.sh.length < 36 → ∀ (j : Nat) (y : DtX), d[j]? = some y → y.d.b.length ≤ 1000000 ∧ OwnO w K (bR (Y.bk.ps.length + m.length) j) 1 eByte y.A y.c y.d.b) :
   Calls Tryz.prog 50 #[.pointer (some ⟨b, 0, none⟩), .agg (shA x), .bool touch] w fun e w' => e = .returned (.tuple #[]) ∧ ∃ Y' K', PyB w' K' b Y' ∧ Y'.pb = Y.pb ∧ Y'.db = Y.db ∧ Ro (kpQ touch Y.bk.ps.length) K K' w w' ∧ (Y.sh.length < 36 → Y'.sh.length = Y.sh.length + 1 ∧ Y'.bk.ps.length = min 96 (Y.bk.ps.length + m.length + d.length + i.length)) ∧ (36 ≤ Y.sh.length → Y' = Y) := by
 refine calls_vc tab_ok Tryz.func50 rfl ?_
 have hsl := B.sl
 have hpl := B.bk.len
 obtain ⟨n, hn⟩ : ∃ n, n = Y.bk.ps.length := ⟨_, rfl⟩
 obtain ⟨k, hk⟩ : ∃ k, k = Y.sh.length := ⟨_, rfl⟩
 rw [← hn]
 conv => whnf
 refine .mk fun w1 hw1 => ?_
 obtain ⟨bs, hbs⟩ : ∃ bs, bs = w.heap.size := ⟨_, rfl⟩
 rw [← hbs]
 have b1 : Below w.heap.size w w1 := by rw [hw1.out]; exact below_box1 _ _ _
 have z1' : w1.heap.size = w.heap.size + 1 := by rw [hw1.out]; simp
 have r1 : w1.rangeAt bs 0 (eSh x) := by rw [hw1.out, hbs]; exact range_new w _ 62
 have t1 : w1.there bs 0 17 := by rw [hw1.out, hbs]; exact there_new w _ _
 clear hw1
 have B1 := B.below b1
 have LS := B1.l_sheets (l := [b]) (by simp)
 have s1 := Sm.refl [b] w1
 by_cases hfull : 36 ≤ Y.sh.length
 · repeat ((conv => whnf); first | refine Xl (LS.at s1) ?_ | refine Xt ?_ | refine Xq ?_ | refine Xn ?_ | refine Xj ?_ | refine Xo ?_); try (conv => whnf)
   exact .mk ⟨rfl, Y, K, B1, rfl, rfl, .below b1, fun e => absurd e (by omega), fun _ => rfl⟩
 have hl36 : Y.sh.length < 36 := by omega
 have o0 := o0 hl36
 have o1 := o1 hl36
 have o2 := o2 hl36
 have o3 := o3 hl36
 have o4 := o4 hl36
 have bm := bm hl36
 have bd := bd hl36
 rw [← hn] at bm bd
 rw [← hk] at o0 o1 o2 o3 o4
 -- the sheet's box has a role of its own
 obtain ⟨p0, hp0⟩ := hiRole K w.heap.size B.bk.kz
 obtain ⟨τ, hτ⟩ : ∃ τ, τ = p0 + 200000 := ⟨_, rfl⟩
 have hτK : ∀ y, K y ≠ τ := fun y => by have := hp0 y; omega
 obtain ⟨K0, hK0⟩ : ∃ K0 : Nat → Nat, K0 = fun y => if y = bs then τ else K y := ⟨_, rfl⟩
 have k0b : K0 bs = τ := by rw [hK0]; exact if_pos rfl
 have k0o : ∀ y, y ≠ bs → K0 y = K y := fun y hy => by rw [hK0]; exact if_neg hy
 have q1 : Ro (fun _ => False) K K0 w w1 := (Ro.below b1).role fun y hy => k0o y (by omega)
 have kz1 : ∀ y, w1.heap.size ≤ y → K0 y = 0 := fun y hy => (k0o y (by omega)).trans (B.bk.kz y (by omega))
 have B1 := B.ro q1 kz1 fun _ e => e.elim
 repeat ((conv => whnf); first | refine Xl (LS.at s1) ?_ | refine Xt ?_ | refine Xq ?_ | refine Xn ?_ | refine Xj ?_ | refine Xo ?_); try (conv => whnf)
 refine VStore.cell (by kernel_rfl) (by rw [addO_eq]; exact (t1 15 (by omega)).1) (by rw [addO_eq]; exact (t1 15 (by omega)).2) rfl rfl fun w2 hw2 => ?_
 have hw2' : w2 = w1.setCell ⟨bs, 0 + 15, none⟩ (.int .i64 ((1000 * (k + 7) : Nat) : Int)) := by
   rw [hw2.out, addO_eq]
   congr 2
   omega
 clear hw2
 obtain ⟨r2, t2⟩ := rng_put (j := 15) r1 t1 rfl (by omega) hw2'
 have q2 : Ro (· = τ) K0 K0 w1 w2 := by rw [hw2']; exact Ro.cell k0b _ _
 clear hw2'
 have zz2 := q2.size
 have hshR : shR k = 100000 + 8 * k := rfl
 have B2 := B1.ro q2 (fun y hy => kz1 y (Nat.le_trans q2.size hy)) fun z e => .inr (by unfold shR; omega)
 have q02 : Ro (· = τ) K K0 w w2 := (q1.more fun _ e => e.elim).trans q2
 have p0 := o0.ro q02 (by omega)
 have p1 := o1.ro q02 (by omega)
 have p2 := o2.ro q02 (by omega)
 have p3 := o3.ro q02 (by omega)
 have p4 := o4.ro q02 (by omega)
 have pm : ∀ (j : Nat) (y : MgX), m[j]? = some y → y.m.b.length ≤ 1000000 ∧ OwnO w2 K0 (bR n j) 1 eByte y.A y.c y.m.b := fun j y hy => ⟨(bm j y hy).1, (bm j y hy).2.ro q02 (by unfold bR; split <;> omega)⟩
 have pd : ∀ (j : Nat) (y : DtX), d[j]? = some y → y.d.b.length ≤ 1000000 ∧ OwnO w2 K0 (bR (n + m.length) j) 1 eByte y.A y.c y.d.b := fun j y hy => ⟨(bd j y hy).1, (bd j y hy).2.ro q02 (by unfold bR; split <;> omega)⟩
 have I0 : BdI b Y touch n K0 w2 n Y.bk K0 w2 := ⟨B2, Ro.refl _ _ _, by omega⟩
 have hbs2 : bs < w2.heap.size := by omega
 have nτ : ∀ p, p ≤ 96 → ¬ wQ touch n p τ := fun p hp => wQ_not (by omega) hp
 have hn96 : n ≤ 96 := by omega
 repeat ((conv => whnf); first | refine Xt ?_ | refine Xq ?_ | refine Xn ?_ | refine Xj ?_ | refine Xo ?_); try (conv => whnf)
 refine VLoop.mk Nat (fun i => [(0, .pointer (some ⟨b, 0, none⟩)), (2, .bool touch), (4, .pointer (some ⟨bs, 0, none⟩)), (6, .int .i64 i)]) (fun i W => i ≤ m.length ∧ ∃ Xi Ki, BdI b Y touch n K0 w2 (n + i) Xi Ki W) (fun i => m.length - i) 0 ⟨rfl, rfl, rfl, rfl, trivial⟩ ⟨Nat.zero_le _, Y.bk, K0, I0⟩ ?_
 rintro jm Wm ⟨hjm, Xm, Km, Im⟩
 have hXm : Xm.ps.length ≤ 96 := Im.py.bk.len
 have hmb : Wm.heap[bs]? = w2.heap[bs]? := Im.ro.same bs hbs2 (by rw [k0b]; exact nτ _ hXm)
 have Lm : Ld Tryz.prog 59 bs 9 (Eq Wm) (.slice x.m.A m.length x.m.c) := .of (loadM ((World.cell?_of_block (a := ⟨bs, 9, none⟩) hmb).trans (by rw [← n3]; exact r2 9 _ rfl)))
 by_cases him : jm < m.length
 case pos =>
   obtain ⟨y, hy⟩ : ∃ y, m[jm]? = some y := ⟨_, List.getElem?_eq_getElem him⟩
   obtain ⟨ga, oa, eA, ga1, -, -, -, ga5⟩ := (p3.ro Im.ro (wQ_not (by omega) hXm)).get (by omega)
   rw [eA] at Lm
   have LB : Ld Tryz.prog 42 ga (addO (oa + mulO jm 4) 3) (Eq Wm) (.slice y.A y.m.b.length y.c) := .of (load27 (by rw [addO_eq, mulO_eq]; exact ga5 jm y hy 3 _ rfl))
   obtain ⟨hyl, hyo⟩ := pm jm y hy
   have ln := Im.ln
   repeat ((conv => whnf); first | refine Xl Lm ?_ | refine Xl LB ?_ | refine Xt ?_ | refine Xq ?_ | refine Xn ?_ | refine Xj ?_ | refine Xo ?_); try (conv => whnf)
   refine VCall.mk _ (body_any Im.py touch y.m.b rfl (fun hlt => by
     have hlt : Xm.ps.length < 96 := hlt
     have e : bR n jm = 1000 + Xm.ps.length := by unfold bR; rw [if_pos (by omega)]; omega
     have := hyo.ro Im.ro (by rw [e]; unfold wQ; omega)
     rw [e] at this
     exact this) (by omega)) ?_
   rintro _ w9 ⟨rfl, X9, K9, h9, r9, l9⟩
   refine ⟨_, rfl, ?_⟩
   repeat ((conv => whnf); first | refine Xt ?_ | refine Xq ?_ | refine Xn ?_ | refine Xj ?_ | refine Xo ?_); try (conv => whnf)
   exact .mk (jm + 1) ⟨rfl, rfl, rfl, rfl, trivial⟩ ⟨him, X9, K9, Im.step (by omega) h9 r9 l9 hn96⟩ (by show m.length - (jm + 1) < m.length - jm; omega)
 obtain rfl : jm = m.length := by omega
 repeat ((conv => whnf); first | refine Xl Lm ?_ | refine Xt ?_ | refine Xq ?_ | refine Xn ?_ | refine Xj ?_ | refine Xo ?_); try (conv => whnf)
 refine VLoop.mk Nat (fun i => [(0, .pointer (some ⟨b, 0, none⟩)), (2, .bool touch), (4, .pointer (some ⟨bs, 0, none⟩)), (7, .int .i64 i)]) (fun i W => i ≤ d.length ∧ ∃ Xi Ki, BdI b Y touch n K0 w2 ((n + m.length) + i) Xi Ki W) (fun i => d.length - i) 0 ⟨rfl, rfl, rfl, rfl, trivial⟩ ⟨Nat.zero_le _, Xm, Km, Im⟩ ?_
 rintro jd Wd ⟨hjd, Xd, Kd, Id⟩
 have hXd : Xd.ps.length ≤ 96 := Id.py.bk.len
 have hdb : Wd.heap[bs]? = w2.heap[bs]? := Id.ro.same bs hbs2 (by rw [k0b]; exact nτ _ hXd)
 have ZLd : Ld Tryz.prog 60 bs 12 (Eq Wd) (.slice x.d.A d.length x.d.c) := .of (loadD ((World.cell?_of_block (a := ⟨bs, 12, none⟩) hdb).trans (by rw [← n4]; exact r2 12 _ rfl)))
 by_cases hid : jd < d.length
 case pos =>
   obtain ⟨y, hy⟩ : ∃ y, d[jd]? = some y := ⟨_, List.getElem?_eq_getElem hid⟩
   obtain ⟨ga, oa, eA, ga1, -, -, -, ga5⟩ := (p4.ro Id.ro (wQ_not (by omega) hXd)).get (by omega)
   rw [eA] at ZLd
   have LB : Ld Tryz.prog 42 ga (addO (oa + mulO jd 4) 3) (Eq Wd) (.slice y.A y.d.b.length y.c) := .of (load27 (by rw [addO_eq, mulO_eq]; exact ga5 jd y hy 3 _ rfl))
   obtain ⟨hyl, hyo⟩ := pd jd y hy
   have ln := Id.ln
   repeat ((conv => whnf); first | refine Xl ZLd ?_ | refine Xl LB ?_ | refine Xt ?_ | refine Xq ?_ | refine Xn ?_ | refine Xj ?_ | refine Xo ?_); try (conv => whnf)
   refine VCall.mk _ (body_any Id.py touch y.d.b rfl (fun hlt => by
     have hlt : Xd.ps.length < 96 := hlt
     have e : bR (n + m.length) jd = 1000 + Xd.ps.length := by unfold bR; rw [if_pos (by omega)]; omega
     have := hyo.ro Id.ro (by rw [e]; unfold wQ; omega)
     rw [e] at this
     exact this) (by omega)) ?_
   rintro _ w9 ⟨rfl, X9, K9, h9, r9, l9⟩
   refine ⟨_, rfl, ?_⟩
   repeat ((conv => whnf); first | refine Xt ?_ | refine Xq ?_ | refine Xn ?_ | refine Xj ?_ | refine Xo ?_); try (conv => whnf)
   exact .mk (jd + 1) ⟨rfl, rfl, rfl, rfl, trivial⟩ ⟨hid, X9, K9, Id.step (by omega) h9 r9 l9 hn96⟩ (by show d.length - (jd + 1) < d.length - jd; omega)
 obtain rfl : jd = d.length := by omega
 repeat ((conv => whnf); first | refine Xl ZLd ?_ | refine Xt ?_ | refine Xq ?_ | refine Xn ?_ | refine Xj ?_ | refine Xo ?_); try (conv => whnf)
 refine VLoop.mk Nat (fun i => [(0, .pointer (some ⟨b, 0, none⟩)), (2, .bool touch), (4, .pointer (some ⟨bs, 0, none⟩)), (8, .int .i64 i)]) (fun j W => j ≤ i.length ∧ ∃ Xi Ki, BdI b Y touch n K0 w2 (n + m.length + d.length + j) Xi Ki W) (fun j => i.length - j) 0 ⟨rfl, rfl, rfl, rfl, trivial⟩ ⟨Nat.zero_le _, Xd, Kd, Id⟩ ?_
 rintro ji w3 ⟨hji, Xc, Kc, I⟩
 have hXc : Xc.ps.length ≤ 96 := I.py.bk.len
 have hb3 : w3.heap[bs]? = w2.heap[bs]? := I.ro.same bs hbs2 (by rw [k0b]; exact nτ _ hXc)
 have Li : Ld Tryz.prog 58 bs 6 (Eq w3) (.slice x.i.A i.length x.i.c) := .of (loadT ((World.cell?_of_block (a := ⟨bs, 6, none⟩) hb3).trans (by rw [← n2]; exact r2 6 _ rfl)))
 by_cases hii : ji < i.length
 case pos =>
   obtain ⟨y, hy⟩ : ∃ y, i[ji]? = some y := ⟨_, List.getElem?_eq_getElem hii⟩
   obtain ⟨ga, oa, eA, ga1, -, -, -, ga5⟩ := (p2.ro I.ro (wQ_not (by omega) hXc)).get (by omega)
   rw [eA] at Li
   have LB : Ld Tryz.prog 42 ga (addO (addO (oa + mulO ji 9) 1) 3) (Eq w3) (.slice none 0 0) := .of (load27 (by rw [addO_eq, addO_eq, mulO_eq]; exact ga5 ji y hy 4 _ rfl))
   repeat ((conv => whnf); first | refine Xl Li ?_ | refine Xl LB ?_ | refine Xt ?_ | refine Xq ?_ | refine Xn ?_ | refine Xj ?_ | refine Xo ?_); try (conv => whnf)
   refine VCall.mk _ (body_any I.py touch [] rfl (fun _ => OwnO.nil _ _ _ _ _) (by omega)) ?_
   rintro _ w9 ⟨rfl, X9, K9, h9, r9, l9⟩
   refine ⟨_, rfl, ?_⟩
   repeat ((conv => whnf); first | refine Xt ?_ | refine Xq ?_ | refine Xn ?_ | refine Xj ?_ | refine Xo ?_); try (conv => whnf)
   exact .mk (ji + 1) ⟨rfl, rfl, rfl, rfl, trivial⟩ ⟨hii, X9, K9, I.step (by omega) h9 r9 l9 hn96⟩ (by show i.length - (ji + 1) < i.length - ji; omega)
 obtain rfl : ji = i.length := by omega
 have ln := I.ln
 have kcb : Kc bs = τ := (I.ro.kk bs hbs2).trans k0b
 have rc0 : w3.rangeAt bs 0 (eSh { x with mark := 1000 * (k + 7) }) := range_same r2 hb3
 have tc0 : w3.there bs 0 17 := there_sameO t2 hb3
 have zz3 := I.ro.size
 have kz3 := I.py.bk.kz
 have p0 := p0.ro I.ro (wQ_not (by omega) hXc)
 have p1 := p1.ro I.ro (wQ_not (by omega) hXc)
 have p2 := p2.ro I.ro (wQ_not (by omega) hXc)
 have p3 := p3.ro I.ro (wQ_not (by omega) hXc)
 have p4 := p4.ro I.ro (wQ_not (by omega) hXc)
 have qc0 : Ro (· = τ) Kc Kc w3 w3 := Ro.refl _ _ _
 repeat ((conv => whnf); first | refine Xl Li ?_ | refine Xt ?_ | refine Xq ?_ | refine Xn ?_ | refine Xj ?_ | refine Xo ?_); try (conv => whnf)
 have LA0 : Ld Tryz.prog 56 bs 0 (Eq w3) (.slice x.h.A h.length x.h.c) := .of (loadI (by rw [← n0]; exact rc0 0 _ rfl))
 have LW0 : Ld Tryz.prog 56 bs 2 (Eq w3) (.slice none 0 0) := .of (loadI (by have := rc0 2 _ rfl; rw [show ({ x with mark := 1000 * (k + 7) } : ShX).h.W = none from z0.1, show ({ x with mark := 1000 * (k + 7) } : ShX).h.m = 0 from z0.2.1, show ({ x with mark := 1000 * (k + 7) } : ShX).h.d = 0 from z0.2.2] at this; exact this))
 repeat ((conv => whnf); first | refine Xl LA0 ?_ | refine Xl LW0 ?_ | refine Xt ?_ | refine Xq ?_ | refine Xn ?_ | refine Xj ?_ | refine Xo ?_); try (conv => whnf)
 have qs0 := qc0.size
 refine VApp.copyO w3.heap.size 1 8 _ Tryz.underlying56 info3 rfl (by decide) eNat (fun _ => rfl) one_eNat h rfl (p0.ro qc0 (by omega)).row (by omega) (by omega) (Nat.le_refl _) (fun ga hga => by cases hga) fun WA0 wc0 u0 nW bW => ?_
 have ub := range_same rc0 (bW.block bs (by omega))
 have ut := there_same tc0 (bW.block bs (by omega))
 repeat ((conv => whnf); first | refine Xt ?_ | refine Xq ?_ | refine Xn ?_ | refine Xj ?_ | refine Xo ?_); try (conv => whnf)
 refine VStore.cell (by kernel_rfl) (by rw [addO_eq]; exact (ut 2 (by omega)).1) (by rw [addO_eq]; exact (ut 2 (by omega)).2) rfl rfl fun V1 hV => ?_
 have hV' : V1 = u0.setCell ⟨bs, 0 + 2, none⟩ (.slice WA0 h.length wc0) := by rw [hV.out, addO_eq]
 clear hV
 obtain ⟨rg', tc1⟩ := rng_put (j := 2) ub ut rfl (by omega) hV'
 have rc1 : V1.rangeAt bs 0 (eSh { x with mark := 1000 * (k + 7), h := { x.h with W := WA0, m := h.length, d := wc0 } }) := rg'
 have qv : Ro (· = τ) Kc Kc u0 V1 := by rw [hV']; exact Ro.cell kcb _ _
 clear hV' ub ut rg'
 have RW0 : RowB V1 Kc 0 1 eNat WA0 h := (RowB.at_ nW.row fun y hy => kz3 y (by have := nW.lo' y hy; omega)).ro qv (by omega)
 have qc1 : Ro (· = τ) Kc Kc w3 V1 := (qc0.trans (.below bW)).trans qv
 clear nW bW qv LA0 LW0
 have LA1 : Ld Tryz.prog 57 bs 3 (Eq V1) (.slice x.s.A s.length x.s.c) := .of (loadS (by rw [← n1]; exact rc1 3 _ rfl))
 have LW1 : Ld Tryz.prog 57 bs 5 (Eq V1) (.slice none 0 0) := .of (loadS (by have := rc1 5 _ rfl; rw [show ({ x with mark := 1000 * (k + 7), h := { x.h with W := WA0, m := h.length, d := wc0 } } : ShX).s.W = none from z1.1, show ({ x with mark := 1000 * (k + 7), h := { x.h with W := WA0, m := h.length, d := wc0 } } : ShX).s.m = 0 from z1.2.1, show ({ x with mark := 1000 * (k + 7), h := { x.h with W := WA0, m := h.length, d := wc0 } } : ShX).s.d = 0 from z1.2.2] at this; exact this))
 repeat ((conv => whnf); first | refine Xl LA1 ?_ | refine Xl LW1 ?_ | refine Xt ?_ | refine Xq ?_ | refine Xn ?_ | refine Xj ?_ | refine Xo ?_); try (conv => whnf)
 have qs1 := qc1.size
 refine VApp.copyO V1.heap.size 2 16 _ Tryz.underlying57 info78 rfl (by decide) eSl (fun _ => rfl) one_eSl s rfl (p1.ro qc1 (by omega)).row (by omega) (by omega) (Nat.le_refl _) (fun ga hga => by cases hga) fun WA1 wc1 u1 nW bW => ?_
 have ub := range_same rc1 (bW.block bs (by omega))
 have ut := there_same tc1 (bW.block bs (by omega))
 repeat ((conv => whnf); first | refine Xt ?_ | refine Xq ?_ | refine Xn ?_ | refine Xj ?_ | refine Xo ?_); try (conv => whnf)
 refine VStore.cell (by kernel_rfl) (by rw [addO_eq]; exact (ut 5 (by omega)).1) (by rw [addO_eq]; exact (ut 5 (by omega)).2) rfl rfl fun V2 hV => ?_
 have hV' : V2 = u1.setCell ⟨bs, 0 + 5, none⟩ (.slice WA1 s.length wc1) := by rw [hV.out, addO_eq]
 clear hV
 obtain ⟨rg', tc2⟩ := rng_put (j := 5) ub ut rfl (by omega) hV'
 have rc2 : V2.rangeAt bs 0 (eSh { x with mark := 1000 * (k + 7), h := { x.h with W := WA0, m := h.length, d := wc0 }, s := { x.s with W := WA1, m := s.length, d := wc1 } }) := rg'
 have qv : Ro (· = τ) Kc Kc u1 V2 := by rw [hV']; exact Ro.cell kcb _ _
 clear hV' ub ut rg'
 have RW1 : RowB V2 Kc 0 2 eSl WA1 s := (RowB.at_ nW.row fun y hy => kz3 y (by have := nW.lo' y hy; omega)).ro qv (by omega)
 have qc2 : Ro (· = τ) Kc Kc w3 V2 := (qc1.trans (.below bW)).trans qv
 have RW0 := (RW0.ro (Ro.below (R := fun _ => False) bW) id).ro qv (by omega)
 clear nW bW qv LA1 LW1
 have LA2 : Ld Tryz.prog 58 bs 6 (Eq V2) (.slice x.i.A i.length x.i.c) := .of (loadT (by rw [← n2]; exact rc2 6 _ rfl))
 have LW2 : Ld Tryz.prog 58 bs 8 (Eq V2) (.slice none 0 0) := .of (loadT (by have := rc2 8 _ rfl; rw [show ({ x with mark := 1000 * (k + 7), h := { x.h with W := WA0, m := h.length, d := wc0 }, s := { x.s with W := WA1, m := s.length, d := wc1 } } : ShX).i.W = none from z2.1, show ({ x with mark := 1000 * (k + 7), h := { x.h with W := WA0, m := h.length, d := wc0 }, s := { x.s with W := WA1, m := s.length, d := wc1 } } : ShX).i.m = 0 from z2.2.1, show ({ x with mark := 1000 * (k + 7), h := { x.h with W := WA0, m := h.length, d := wc0 }, s := { x.s with W := WA1, m := s.length, d := wc1 } } : ShX).i.d = 0 from z2.2.2] at this; exact this))
 repeat ((conv => whnf); first | refine Xl LA2 ?_ | refine Xl LW2 ?_ | refine Xt ?_ | refine Xq ?_ | refine Xn ?_ | refine Xj ?_ | refine Xo ?_); try (conv => whnf)
 have qs2 := qc2.size
 refine VApp.copyO V2.heap.size 9 88 _ Tryz.underlying58 info80 rfl (by decide) eIS (fun _ => rfl) one_eIS i rfl (p2.ro qc2 (by omega)).row (by omega) (by omega) (Nat.le_refl _) (fun ga hga => by cases hga) fun WA2 wc2 u2 nW bW => ?_
 have ub := range_same rc2 (bW.block bs (by omega))
 have ut := there_same tc2 (bW.block bs (by omega))
 repeat ((conv => whnf); first | refine Xt ?_ | refine Xq ?_ | refine Xn ?_ | refine Xj ?_ | refine Xo ?_); try (conv => whnf)
 refine VStore.cell (by kernel_rfl) (by rw [addO_eq]; exact (ut 8 (by omega)).1) (by rw [addO_eq]; exact (ut 8 (by omega)).2) rfl rfl fun V3 hV => ?_
 have hV' : V3 = u2.setCell ⟨bs, 0 + 8, none⟩ (.slice WA2 i.length wc2) := by rw [hV.out, addO_eq]
 clear hV
 obtain ⟨rg', tc3⟩ := rng_put (j := 8) ub ut rfl (by omega) hV'
 have rc3 : V3.rangeAt bs 0 (eSh { x with mark := 1000 * (k + 7), h := { x.h with W := WA0, m := h.length, d := wc0 }, s := { x.s with W := WA1, m := s.length, d := wc1 }, i := { x.i with W := WA2, m := i.length, d := wc2 } }) := rg'
 have qv : Ro (· = τ) Kc Kc u2 V3 := by rw [hV']; exact Ro.cell kcb _ _
 clear hV' ub ut rg'
 have RW2 : RowB V3 Kc 0 9 eIS WA2 i := (RowB.at_ nW.row fun y hy => kz3 y (by have := nW.lo' y hy; omega)).ro qv (by omega)
 have qc3 : Ro (· = τ) Kc Kc w3 V3 := (qc2.trans (.below bW)).trans qv
 have RW0 := (RW0.ro (Ro.below (R := fun _ => False) bW) id).ro qv (by omega)
 have RW1 := (RW1.ro (Ro.below (R := fun _ => False) bW) id).ro qv (by omega)
 clear nW bW qv LA2 LW2
 have LA3 : Ld Tryz.prog 59 bs 9 (Eq V3) (.slice x.m.A m.length x.m.c) := .of (loadM (by rw [← n3]; exact rc3 9 _ rfl))
 have LW3 : Ld Tryz.prog 59 bs 11 (Eq V3) (.slice none 0 0) := .of (loadM (by have := rc3 11 _ rfl; rw [show ({ x with mark := 1000 * (k + 7), h := { x.h with W := WA0, m := h.length, d := wc0 }, s := { x.s with W := WA1, m := s.length, d := wc1 }, i := { x.i with W := WA2, m := i.length, d := wc2 } } : ShX).m.W = none from z3.1, show ({ x with mark := 1000 * (k + 7), h := { x.h with W := WA0, m := h.length, d := wc0 }, s := { x.s with W := WA1, m := s.length, d := wc1 }, i := { x.i with W := WA2, m := i.length, d := wc2 } } : ShX).m.m = 0 from z3.2.1, show ({ x with mark := 1000 * (k + 7), h := { x.h with W := WA0, m := h.length, d := wc0 }, s := { x.s with W := WA1, m := s.length, d := wc1 }, i := { x.i with W := WA2, m := i.length, d := wc2 } } : ShX).m.d = 0 from z3.2.2] at this; exact this))
 repeat ((conv => whnf); first | refine Xl LA3 ?_ | refine Xl LW3 ?_ | refine Xt ?_ | refine Xq ?_ | refine Xn ?_ | refine Xj ?_ | refine Xo ?_); try (conv => whnf)
 have qs3 := qc3.size
 refine VApp.copyO V3.heap.size 4 48 _ Tryz.underlying59 info83 rfl (by decide) eMg (fun _ => rfl) one_eMg m rfl (p3.ro qc3 (by omega)).row (by omega) (by omega) (Nat.le_refl _) (fun ga hga => by cases hga) fun WA3 wc3 u3 nW bW => ?_
 have ub := range_same rc3 (bW.block bs (by omega))
 have ut := there_same tc3 (bW.block bs (by omega))
 repeat ((conv => whnf); first | refine Xt ?_ | refine Xq ?_ | refine Xn ?_ | refine Xj ?_ | refine Xo ?_); try (conv => whnf)
 refine VStore.cell (by kernel_rfl) (by rw [addO_eq]; exact (ut 11 (by omega)).1) (by rw [addO_eq]; exact (ut 11 (by omega)).2) rfl rfl fun V4 hV => ?_
 have hV' : V4 = u3.setCell ⟨bs, 0 + 11, none⟩ (.slice WA3 m.length wc3) := by rw [hV.out, addO_eq]
 clear hV
 obtain ⟨rg', tc4⟩ := rng_put (j := 11) ub ut rfl (by omega) hV'
 have rc4 : V4.rangeAt bs 0 (eSh { x with mark := 1000 * (k + 7), h := { x.h with W := WA0, m := h.length, d := wc0 }, s := { x.s with W := WA1, m := s.length, d := wc1 }, i := { x.i with W := WA2, m := i.length, d := wc2 }, m := { x.m with W := WA3, m := m.length, d := wc3 } }) := rg'
 have qv : Ro (· = τ) Kc Kc u3 V4 := by rw [hV']; exact Ro.cell kcb _ _
 clear hV' ub ut rg'
 have RW3 : RowB V4 Kc 0 4 eMg WA3 m := (RowB.at_ nW.row fun y hy => kz3 y (by have := nW.lo' y hy; omega)).ro qv (by omega)
 have qc4 : Ro (· = τ) Kc Kc w3 V4 := (qc3.trans (.below bW)).trans qv
 have RW0 := (RW0.ro (Ro.below (R := fun _ => False) bW) id).ro qv (by omega)
 have RW1 := (RW1.ro (Ro.below (R := fun _ => False) bW) id).ro qv (by omega)
 have RW2 := (RW2.ro (Ro.below (R := fun _ => False) bW) id).ro qv (by omega)
 clear nW bW qv LA3 LW3
 have LA4 : Ld Tryz.prog 60 bs 12 (Eq V4) (.slice x.d.A d.length x.d.c) := .of (loadD (by rw [← n4]; exact rc4 12 _ rfl))
 have LW4 : Ld Tryz.prog 60 bs 14 (Eq V4) (.slice none 0 0) := .of (loadD (by have := rc4 14 _ rfl; rw [show ({ x with mark := 1000 * (k + 7), h := { x.h with W := WA0, m := h.length, d := wc0 }, s := { x.s with W := WA1, m := s.length, d := wc1 }, i := { x.i with W := WA2, m := i.length, d := wc2 }, m := { x.m with W := WA3, m := m.length, d := wc3 } } : ShX).d.W = none from z4.1, show ({ x with mark := 1000 * (k + 7), h := { x.h with W := WA0, m := h.length, d := wc0 }, s := { x.s with W := WA1, m := s.length, d := wc1 }, i := { x.i with W := WA2, m := i.length, d := wc2 }, m := { x.m with W := WA3, m := m.length, d := wc3 } } : ShX).d.m = 0 from z4.2.1, show ({ x with mark := 1000 * (k + 7), h := { x.h with W := WA0, m := h.length, d := wc0 }, s := { x.s with W := WA1, m := s.length, d := wc1 }, i := { x.i with W := WA2, m := i.length, d := wc2 }, m := { x.m with W := WA3, m := m.length, d := wc3 } } : ShX).d.d = 0 from z4.2.2] at this; exact this))
 repeat ((conv => whnf); first | refine Xl LA4 ?_ | refine Xl LW4 ?_ | refine Xt ?_ | refine Xq ?_ | refine Xn ?_ | refine Xj ?_ | refine Xo ?_); try (conv => whnf)
 have qs4 := qc4.size
 refine VApp.copyO V4.heap.size 4 48 _ Tryz.underlying60 info71 rfl (by decide) eDx (fun _ => rfl) one_eDx d rfl (p4.ro qc4 (by omega)).row (by omega) (by omega) (Nat.le_refl _) (fun ga hga => by cases hga) fun WA4 wc4 u4 nW bW => ?_
 have ub := range_same rc4 (bW.block bs (by omega))
 have ut := there_same tc4 (bW.block bs (by omega))
 repeat ((conv => whnf); first | refine Xt ?_ | refine Xq ?_ | refine Xn ?_ | refine Xj ?_ | refine Xo ?_); try (conv => whnf)
 refine VStore.cell (by kernel_rfl) (by rw [addO_eq]; exact (ut 14 (by omega)).1) (by rw [addO_eq]; exact (ut 14 (by omega)).2) rfl rfl fun V5 hV => ?_
 have hV' : V5 = u4.setCell ⟨bs, 0 + 14, none⟩ (.slice WA4 d.length wc4) := by rw [hV.out, addO_eq]
 clear hV
 obtain ⟨rg', tc5⟩ := rng_put (j := 14) ub ut rfl (by omega) hV'
 have rc5 : V5.rangeAt bs 0 (eSh { x with mark := 1000 * (k + 7), h := { x.h with W := WA0, m := h.length, d := wc0 }, s := { x.s with W := WA1, m := s.length, d := wc1 }, i := { x.i with W := WA2, m := i.length, d := wc2 }, m := { x.m with W := WA3, m := m.length, d := wc3 }, d := { x.d with W := WA4, m := d.length, d := wc4 } }) := rg'
 have qv : Ro (· = τ) Kc Kc u4 V5 := by rw [hV']; exact Ro.cell kcb _ _
 clear hV' ub ut rg'
 have RW4 : RowB V5 Kc 0 4 eDx WA4 d := (RowB.at_ nW.row fun y hy => kz3 y (by have := nW.lo' y hy; omega)).ro qv (by omega)
 have qc5 : Ro (· = τ) Kc Kc w3 V5 := (qc4.trans (.below bW)).trans qv
 have RW0 := (RW0.ro (Ro.below (R := fun _ => False) bW) id).ro qv (by omega)
 have RW1 := (RW1.ro (Ro.below (R := fun _ => False) bW) id).ro qv (by omega)
 have RW2 := (RW2.ro (Ro.below (R := fun _ => False) bW) id).ro qv (by omega)
 have RW3 := (RW3.ro (Ro.below (R := fun _ => False) bW) id).ro qv (by omega)
 clear nW bW qv LA4 LW4
 have qs5 := qc5.size
 have P5 := I.py.ro qc5 (fun y hy => kz3 y (by omega)) fun z e => .inr (by show shR Y.sh.length ≤ z; unfold shR; omega)
 have kz5 := P5.bk.kz
 obtain ⟨x7, hx7⟩ : ∃ x7 : ShX, x7 = { x with mark := 1000 * (k + 7), h := { x.h with W := WA0, m := h.length, d := wc0 }, s := { x.s with W := WA1, m := s.length, d := wc1 }, i := { x.i with W := WA2, m := i.length, d := wc2 }, m := { x.m with W := WA3, m := m.length, d := wc3 }, d := { x.d with W := WA4, m := d.length, d := wc4 } } := ⟨_, rfl⟩
 rw [← hx7] at rc5
 have x7d : x7.done = false := by rw [hx7]; exact hd
 have x7m : x7.mark = 1000 * (k + 7) := by rw [hx7]
 have a0 : x7.h.A = x.h.A := by rw [hx7]
 have c0 : x7.h.c = x.h.c := by rw [hx7]
 have m0 : x7.h.n = h.length := by rw [hx7]; exact n0
 have W0 : x7.h.W = WA0 := by rw [hx7]
 have mm0 : x7.h.m = h.length := by rw [hx7]
 have p0 := p0.ro qc5 (by omega)
 rw [← a0, ← c0] at p0
 rw [← W0] at RW0
 have a1 : x7.s.A = x.s.A := by rw [hx7]
 have c1 : x7.s.c = x.s.c := by rw [hx7]
 have m1 : x7.s.n = s.length := by rw [hx7]; exact n1
 have W1 : x7.s.W = WA1 := by rw [hx7]
 have mm1 : x7.s.m = s.length := by rw [hx7]
 have p1 := p1.ro qc5 (by omega)
 rw [← a1, ← c1] at p1
 rw [← W1] at RW1
 have a2 : x7.i.A = x.i.A := by rw [hx7]
 have c2 : x7.i.c = x.i.c := by rw [hx7]
 have m2 : x7.i.n = i.length := by rw [hx7]; exact n2
 have W2 : x7.i.W = WA2 := by rw [hx7]
 have mm2 : x7.i.m = i.length := by rw [hx7]
 have p2 := p2.ro qc5 (by omega)
 rw [← a2, ← c2] at p2
 rw [← W2] at RW2
 have a3 : x7.m.A = x.m.A := by rw [hx7]
 have c3 : x7.m.c = x.m.c := by rw [hx7]
 have m3 : x7.m.n = m.length := by rw [hx7]; exact n3
 have W3 : x7.m.W = WA3 := by rw [hx7]
 have mm3 : x7.m.m = m.length := by rw [hx7]
 have p3 := p3.ro qc5 (by omega)
 rw [← a3, ← c3] at p3
 rw [← W3] at RW3
 have a4 : x7.d.A = x.d.A := by rw [hx7]
 have c4 : x7.d.c = x.d.c := by rw [hx7]
 have m4 : x7.d.n = d.length := by rw [hx7]; exact n4
 have W4 : x7.d.W = WA4 := by rw [hx7]
 have mm4 : x7.d.m = d.length := by rw [hx7]
 have p4 := p4.ro qc5 (by omega)
 rw [← a4, ← c4] at p4
 rw [← W4] at RW4
 have hbs5 : bs < V5.heap.size := by omega
 have qtot : Ro (fun z => kpQ touch n z ∨ z = τ) K Kc w V5 := ((q02.more fun z e => .inr e).trans (I.ro.more fun z e => .inl (by unfold wQ at e; unfold kpQ; rcases e with e | e | ⟨e1, e2, _⟩; exact .inl e; exact .inr (.inl e); exact .inr (.inr (.inr ⟨e1, e2⟩))))).trans (qc5.more fun z e => .inr e)
 cases touch with
 | false =>
   have SA : ShAt V5 Kc (shR k) Xc.ps.length x7 := by
     refine ⟨by omega, .inl ⟨x7d, h, s, i, m, d, ⟨⟨m0, mm0, l0, p0, RW0⟩, ⟨m1, mm1, l1, p1, RW1⟩, ⟨m2, mm2, l2, p2, RW2⟩, ⟨m3, mm3, l3, p3, RW3⟩, ⟨m4, mm4, l4, p4, RW4⟩, fun y hy => ?_, fun y hy => ?_⟩⟩⟩
     · obtain ⟨j, hj⟩ := List.mem_iff_getElem?.1 hy
       have hjl := (List.getElem?_eq_some_iff.1 hj).1
       obtain ⟨h1, h2⟩ := pm j y hj
       have e : bR n j = 0 ∨ (1000 ≤ bR n j ∧ bR n j < 1000 + Xc.ps.length) := by unfold bR; split <;> omega
       refine ⟨h1, bR n j, e, ((h2.ro I.ro ?_).ro qc5 (by omega)).rowB⟩
       unfold wQ; simp; omega
     · obtain ⟨j, hj⟩ := List.mem_iff_getElem?.1 hy
       have hjl := (List.getElem?_eq_some_iff.1 hj).1
       obtain ⟨h1, h2⟩ := pd j y hj
       have e : bR (n + m.length) j = 0 ∨ (1000 ≤ bR (n + m.length) j ∧ bR (n + m.length) j < 1000 + Xc.ps.length) := by unfold bR; split <;> omega
       refine ⟨h1, bR (n + m.length) j, e, ((h2.ro I.ro ?_).ro qc5 (by omega)).rowB⟩
       unfold wQ; simp; omega
   repeat ((conv => whnf); first | refine Xt ?_ | refine Xq ?_ | refine Xn ?_ | refine Xj ?_ | refine Xo ?_); try (conv => whnf)
   generalize hxf : x7 = xf at rc5 SA
   generalize hVf : V5 = Vf at rc5 SA P5 qtot hbs5 kz5 ⊢
   generalize hKf : Kc = Kf at SA P5 qtot kz5 kcb
   have E0 := P5.l_sheets (l := [b, bs]) (by simp)
   have E1 : Ld Tryz.prog 62 bs 0 (Sm [b, bs] Vf) (.agg (shA xf)) := ⟨fun W' hW => load_agg (cs := eSh xf) (by kernel_rfl) (by kernel_rfl) (range_same rc5 (hW bs (by simp)))⟩
   have sE : Sm [b, bs] Vf Vf.drew := fun _ _ => rfl
   have hlE : ∀ y ∈ [b, bs], y < Vf.heap.size ∧ Kf y ≠ 3 := fun y hy => by
     simp only [List.mem_cons, List.not_mem_nil, or_false] at hy
     rcases hy with rfl | rfl
     · exact ⟨P5.hb, by rw [P5.kb]; omega⟩
     · exact ⟨hbs5, by rw [kcb]; omega⟩
   repeat ((conv => whnf); first | refine Xt ?_ | refine Xq ?_ | refine Xn ?_ | refine Xj ?_ | refine Xo ?_); try (conv => whnf)
   refine VDraw.pl 10 (.one [0, 1, 2, 3, 4, 5] 6 (.one [] 7 (.one [8, 9] 10 (.stop [])))) (Sm [b, bs] Vf) (by kernel_rfl) (sE) ?_
   repeat ((conv => whnf); first | refine Xl E0 ?_ | refine Xl E1 ?_ | refine Xt ?_ | refine Xq ?_ | refine Xn ?_ | refine Xj ?_ | refine Xo ?_); try (conv => whnf)
   refine VBs.mk _ _ (bs34 Vf.drew xf) ?_
   have c8 : Below Vf.heap.size Vf (Vf.drew.alloc (.cells (shA xf) 62)) := (Below.refl _ Vf).drew.trans ((Below.refl Vf.drew.heap.size Vf.drew).alloc (Nat.le_refl _) _)
   have nc8 : ∀ j u, (eSh xf)[j]? = some u → (Vf.drew.alloc (.cells (shA xf) 62)).cell? ⟨Vf.drew.heap.size, j, none⟩ = some u := fun j u hu => by
     have := range_new Vf.drew (shA xf) 62 j u hu
     rwa [Nat.zero_add] at this
   generalize Vf.drew.alloc (.cells (shA xf) 62) = V8 at c8 nc8 ⊢
   have P8 := P5.below c8
   have S8 := SA.ro (P' := Xc.ps.length) (Ro.below (R := fun _ => False) c8) (fun _ _ _ => id) id (fun _ _ _ => id) (Nat.le_refl _)
   have z8 := c8.size
   have sm8 : Sm [b, bs] Vf V8 := .below c8 fun y hy => (hlE y hy).1
   repeat ((conv => whnf); first | (refine VS.mk sm8 ?_) | refine Xt ?_ | refine Xq ?_ | refine Xn ?_ | refine Xj ?_ | refine Xo ?_); try (conv => whnf)
   refine VApp.off 17 376 _ Tryz.underlying34 info62 rfl (by decide) eSh eSh_len one_eSh Y.sh xf rfl P8.row nc8 P8.bk.kz (show Y.sh.length + 1 ≤ 9223372036854775807 by omega) (show (Y.sh.length + 1) * 376 ≤ 140737488355328 by omega) fun A9 c9 K9 V9 oA9 q9 kz9 => ?_
   have n3 : ¬ (Kf b = 3) := by rw [P5.kb]; omega
   have sm9 : Sm [b, bs] Vf V9 := sm8.trans fun y hy => q9.same y (by have := (hlE y hy).1; omega) (hlE y hy).2
   have t9 := there_roF P8.th P8.hb q9 n3
   repeat ((conv => whnf); first | (refine VS.mk sm9 ?_) | refine Xt ?_ | refine Xq ?_ | refine Xn ?_ | refine Xj ?_ | refine Xo ?_); try (conv => whnf)
   refine VStore.cell (by kernel_rfl) (by have := (t9 9 (by omega)).1; rwa [Nat.zero_add] at this) (by have := (t9 9 (by omega)).2; rwa [Nat.zero_add] at this) rfl rfl fun V10 hV10 => ?_
   have z9 := q9.size
   have P8bk : BookAt V8 Kf 1 b 6 Xc := P8.bk
   have bk9 : BookAt V9 K9 1 b 6 Xc := P8bk.ro q9 kz9 (by omega) (by omega) (by omega) fun p hp => by omega
   obtain ⟨PF, q10⟩ := PyB.put (Y := { Y with bk := Xc }) (Y' := { Y with bk := Xc, A := A9, c := c9, sh := Y.sh ++ [xf] }) (j := 9) (by have := P8.hb; omega) ((q9.kk b P8.hb).trans P8.kb) (range_roF P8.rg P8.hb q9 n3) t9 bk9 P8.nx hV10.out (by omega) (by show _ = _; unfold ePy; rw [List.length_append]; rfl) rfl oA9 (by show (Y.sh ++ [xf]).length ≤ 36; rw [List.length_append]; simp; omega) (fun kk y hy => by
     by_cases hkk : kk < Y.sh.length
     · have hy : (Y.sh ++ [xf])[kk]? = some y := hy
       rw [List.getElem?_append_left hkk] at hy
       exact (P8.sh kk y hy).ro q9 (fun z h1 _ => by unfold shR at h1; omega) (by omega) (fun σ h1 _ => by omega) (Nat.le_refl _)
     · have hy : (Y.sh ++ [xf])[kk]? = some y := hy
       have hk2 := (List.getElem?_eq_some_iff.1 hy).1
       rw [List.length_append, List.length_singleton] at hk2
       obtain rfl : kk = Y.sh.length := by omega
       rw [List.getElem?_append_right (Nat.le_refl _), Nat.sub_self] at hy
       injection hy with hy
       subst hy
       rw [hk] at S8
       exact S8.ro q9 (fun z h1 _ => by unfold shR at h1; omega) (by omega) (fun σ h1 _ => by omega) (Nat.le_refl _))
   repeat ((conv => whnf); first | (refine VS.last rfl ?_) | refine Xt ?_ | refine Xq ?_ | refine Xn ?_ | refine Xj ?_ | refine Xo ?_); try (conv => whnf)
   have qF := ((qtot.trans (.below c8)).trans (q9.more fun z e => .inl (.inr (.inr (.inl e))))).trans (q10.more fun z e => .inl (.inl e))
   exact .mk ⟨rfl, _, K9, PF, rfl, rfl, qF.less fun y _ hn e => e.elim hn (hτK y), fun _ => ⟨by show (Y.sh ++ [xf]).length = _; rw [List.length_append]; rfl, ln⟩, fun e => absurd e (by omega)⟩
 | true =>
   repeat ((conv => whnf); first | refine Xt ?_ | refine Xq ?_ | refine Xn ?_ | refine Xj ?_ | refine Xo ?_); try (conv => whnf)
   refine VCall.mk _ (swrite_any (q := τ) (ρ := shR k) rc5 tc5 hbs5 kcb (by omega) (by omega) (p0.room m0.symm) (by omega) (p1.room m1.symm) (by omega) (p2.room m2.symm) (by omega) (p3.room m3.symm) (by omega) (p4.room m4.symm) (by omega)) ?_
   rintro _ V6 ⟨rfl, rc6, tc6, D0, D1, D2, D3, D4, q6, -⟩
   refine ⟨_, rfl, ?_⟩
   have z6 := q6.size
   repeat ((conv => whnf); first | refine Xt ?_ | refine Xq ?_ | refine Xn ?_ | refine Xj ?_ | refine Xo ?_); try (conv => whnf)
   refine VCall.mk _ (sgrow_any (q := τ) (ρ := shR k) (x := { x7 with done := true }) rc6 tc6 (by omega) kcb (by omega) (by show x7.mark ≤ _; omega) (fun y hy => kz5 y (by omega)) D0 (by show x7.h.n ≤ _; omega) D1 (by show x7.s.n ≤ _; omega) D2 (by show x7.i.n ≤ _; omega) D3 (by show x7.m.n ≤ _; omega) D4 (by show x7.d.n ≤ _; omega)) ?_
   rintro _ V7 ⟨rfl, y7, K7, G⟩
   refine ⟨_, rfl, ?_⟩
   have q57 : Ro (shQ (shR k) τ) Kc K7 V5 V7 := q6.trans G.ro
   have z7 := q57.size
   have P7 := P5.ro q57 G.kz fun z e => .inr (by show shR Y.sh.length ≤ z; unfold shQ at e; unfold shR at *; omega)
   have SA : ShAt V7 K7 (shR k) Xc.ps.length y7 := by
     refine ⟨by rw [G.me]; show x7.mark ≤ _; omega, .inr ⟨by rw [G.dn], ⟨?_, ?_, ?_, ?_, ?_⟩⟩⟩
     · have g := G.G0
       have en : y7.h.n = x7.h.n := g.en
       exact ⟨by rw [en]; omega, by rw [g.n2, en], by rw [G.me, g.eA, en, g.ec]; exact g.two.1, by rw [G.me, en]; exact g.two.2.1.rowB⟩
     · have g := G.G1
       have en : y7.s.n = x7.s.n := g.en
       exact ⟨by rw [en]; omega, by rw [g.n2, en], by rw [G.me, g.eA, en, g.ec]; exact g.two.1, by rw [G.me, en]; exact g.two.2.1.rowB⟩
     · have g := G.G2
       have en : y7.i.n = x7.i.n := g.en
       exact ⟨by rw [en]; omega, by rw [g.n2, en], by rw [G.me, g.eA, en, g.ec]; exact g.two.1, by rw [G.me, en]; exact g.two.2.1.rowB⟩
     · have g := G.G3
       have en : y7.m.n = x7.m.n := g.en
       exact ⟨by rw [en]; omega, by rw [g.n2, en], by rw [G.me, g.eA, en, g.ec]; exact g.two.1, by rw [G.me, en]; exact g.two.2.1.rowB⟩
     · have g := G.G4
       have en : y7.d.n = x7.d.n := g.en
       exact ⟨by rw [en]; omega, by rw [g.n2, en], by rw [G.me, g.eA, en, g.ec]; exact g.two.1, by rw [G.me, en]; exact g.two.2.1.rowB⟩
   have qtot7 : Ro (fun z => kpQ true n z ∨ z = τ) K K7 w V7 := qtot.trans (q57.more fun z e => by unfold shQ at e; unfold kpQ; rcases e with e | e; exact .inl (.inr (.inr (.inr ⟨rfl, by omega⟩))); exact .inr e)
   have rc7 := G.P
   repeat ((conv => whnf); first | refine Xt ?_ | refine Xq ?_ | refine Xn ?_ | refine Xj ?_ | refine Xo ?_); try (conv => whnf)
   generalize hxf : y7 = xf at rc7 SA
   generalize hVf : V7 = Vf at rc7 SA P7 qtot7 ⊢
   generalize hKf : K7 = Kf at SA P7 qtot7
   have kcb7 : Kf bs = τ := by rw [← hKf]; exact G.kg
   have hbs7 : bs < Vf.heap.size := by rw [← hVf]; exact G.hg
   clear rc5 P5 qtot hbs5 kz5 kcb
   have rc5 := rc7
   have P5 := P7
   have qtot := qtot7
   have kz5 := P5.bk.kz
   have hbs5 := hbs7
   have kcb := kcb7
   have E0 := P5.l_sheets (l := [b, bs]) (by simp)
   have E1 : Ld Tryz.prog 62 bs 0 (Sm [b, bs] Vf) (.agg (shA xf)) := ⟨fun W' hW => load_agg (cs := eSh xf) (by kernel_rfl) (by kernel_rfl) (range_same rc5 (hW bs (by simp)))⟩
   have sE : Sm [b, bs] Vf Vf.drew := fun _ _ => rfl
   have hlE : ∀ y ∈ [b, bs], y < Vf.heap.size ∧ Kf y ≠ 3 := fun y hy => by
     simp only [List.mem_cons, List.not_mem_nil, or_false] at hy
     rcases hy with rfl | rfl
     · exact ⟨P5.hb, by rw [P5.kb]; omega⟩
     · exact ⟨hbs5, by rw [kcb]; omega⟩
   repeat ((conv => whnf); first | refine Xt ?_ | refine Xq ?_ | refine Xn ?_ | refine Xj ?_ | refine Xo ?_); try (conv => whnf)
   refine VDraw.pl 10 (.one [0, 1, 2, 3, 4, 5] 6 (.one [] 7 (.one [8, 9] 10 (.stop [])))) (Sm [b, bs] Vf) (by kernel_rfl) (sE) ?_
   repeat ((conv => whnf); first | refine Xl E0 ?_ | refine Xl E1 ?_ | refine Xt ?_ | refine Xq ?_ | refine Xn ?_ | refine Xj ?_ | refine Xo ?_); try (conv => whnf)
   refine VBs.mk _ _ (bs34 Vf.drew xf) ?_
   have c8 : Below Vf.heap.size Vf (Vf.drew.alloc (.cells (shA xf) 62)) := (Below.refl _ Vf).drew.trans ((Below.refl Vf.drew.heap.size Vf.drew).alloc (Nat.le_refl _) _)
   have nc8 : ∀ j u, (eSh xf)[j]? = some u → (Vf.drew.alloc (.cells (shA xf) 62)).cell? ⟨Vf.drew.heap.size, j, none⟩ = some u := fun j u hu => by
     have := range_new Vf.drew (shA xf) 62 j u hu
     rwa [Nat.zero_add] at this
   generalize Vf.drew.alloc (.cells (shA xf) 62) = V8 at c8 nc8 ⊢
   have P8 := P5.below c8
   have S8 := SA.ro (P' := Xc.ps.length) (Ro.below (R := fun _ => False) c8) (fun _ _ _ => id) id (fun _ _ _ => id) (Nat.le_refl _)
   have z8 := c8.size
   have sm8 : Sm [b, bs] Vf V8 := .below c8 fun y hy => (hlE y hy).1
   repeat ((conv => whnf); first | (refine VS.mk sm8 ?_) | refine Xt ?_ | refine Xq ?_ | refine Xn ?_ | refine Xj ?_ | refine Xo ?_); try (conv => whnf)
   refine VApp.off 17 376 _ Tryz.underlying34 info62 rfl (by decide) eSh eSh_len one_eSh Y.sh xf rfl P8.row nc8 P8.bk.kz (show Y.sh.length + 1 ≤ 9223372036854775807 by omega) (show (Y.sh.length + 1) * 376 ≤ 140737488355328 by omega) fun A9 c9 K9 V9 oA9 q9 kz9 => ?_
   have n3 : ¬ (Kf b = 3) := by rw [P5.kb]; omega
   have sm9 : Sm [b, bs] Vf V9 := sm8.trans fun y hy => q9.same y (by have := (hlE y hy).1; omega) (hlE y hy).2
   have t9 := there_roF P8.th P8.hb q9 n3
   repeat ((conv => whnf); first | (refine VS.mk sm9 ?_) | refine Xt ?_ | refine Xq ?_ | refine Xn ?_ | refine Xj ?_ | refine Xo ?_); try (conv => whnf)
   refine VStore.cell (by kernel_rfl) (by have := (t9 9 (by omega)).1; rwa [Nat.zero_add] at this) (by have := (t9 9 (by omega)).2; rwa [Nat.zero_add] at this) rfl rfl fun V10 hV10 => ?_
   have z9 := q9.size
   have P8bk : BookAt V8 Kf 1 b 6 Xc := P8.bk
   have bk9 : BookAt V9 K9 1 b 6 Xc := P8bk.ro q9 kz9 (by omega) (by omega) (by omega) fun p hp => by omega
   obtain ⟨PF, q10⟩ := PyB.put (Y := { Y with bk := Xc }) (Y' := { Y with bk := Xc, A := A9, c := c9, sh := Y.sh ++ [xf] }) (j := 9) (by have := P8.hb; omega) ((q9.kk b P8.hb).trans P8.kb) (range_roF P8.rg P8.hb q9 n3) t9 bk9 P8.nx hV10.out (by omega) (by show _ = _; unfold ePy; rw [List.length_append]; rfl) rfl oA9 (by show (Y.sh ++ [xf]).length ≤ 36; rw [List.length_append]; simp; omega) (fun kk y hy => by
     by_cases hkk : kk < Y.sh.length
     · have hy : (Y.sh ++ [xf])[kk]? = some y := hy
       rw [List.getElem?_append_left hkk] at hy
       exact (P8.sh kk y hy).ro q9 (fun z h1 _ => by unfold shR at h1; omega) (by omega) (fun σ h1 _ => by omega) (Nat.le_refl _)
     · have hy : (Y.sh ++ [xf])[kk]? = some y := hy
       have hk2 := (List.getElem?_eq_some_iff.1 hy).1
       rw [List.length_append, List.length_singleton] at hk2
       obtain rfl : kk = Y.sh.length := by omega
       rw [List.getElem?_append_right (Nat.le_refl _), Nat.sub_self] at hy
       injection hy with hy
       subst hy
       rw [hk] at S8
       exact S8.ro q9 (fun z h1 _ => by unfold shR at h1; omega) (by omega) (fun σ h1 _ => by omega) (Nat.le_refl _))
   repeat ((conv => whnf); first | (refine VS.last rfl ?_) | refine Xt ?_ | refine Xq ?_ | refine Xn ?_ | refine Xj ?_ | refine Xo ?_); try (conv => whnf)
   have qF := ((qtot.trans (.below c8)).trans (q9.more fun z e => .inl (.inr (.inr (.inl e))))).trans (q10.more fun z e => .inl (.inl e))
   exact .mk ⟨rfl, _, K9, PF, rfl, rfl, qF.less fun y _ hn e => e.elim hn (hτK y), fun _ => ⟨by show (Y.sh ++ [xf]).length = _; rw [List.length_append]; rfl, ln⟩, fun e => absurd e (by omega)⟩
end
end Go.Proofs.YtoilipfgimcoiaaGreat
