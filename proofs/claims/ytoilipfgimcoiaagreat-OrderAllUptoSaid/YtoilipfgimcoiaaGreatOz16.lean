/- BkC BkD, joined. -/
import Derived.Test.YtoilipfgimcoiaaGreatOz11
import Derived.Test.YtoilipfgimcoiaaGreatOz15
set_option linter.unusedVariables false
set_option linter.unusedSimpArgs false
namespace Go.Proofs.YtoilipfgimcoiaaGreat
open Go Go.RowKit
structure PgX where
 B : Option Addr
 c : Nat
 l : List Int
 G : Option Addr
 gc : Nat
 gl : List Int
 W : Option Addr
 wc : Nat
 wl : List Int
 id : Nat
 done : Bool
abbrev pgA (x : PgX) : Array Value := #[.slice x.B x.l.length x.c, .slice x.G x.gl.length x.gc, .slice x.W x.wl.length x.wc, .int .i64 x.id, .bool x.done]
def ePg (x : PgX) : List Value := (pgA x).toList
theorem ePg_len (x : PgX) : (ePg x).length = 5 := rfl
theorem one_ePg (x : PgX) : ∀ u ∈ ePg x, u.oneCell' = true := by
 intro u hu
 simp [ePg] at hu
 rcases hu with rfl | rfl | rfl | rfl | rfl <;> rfl
theorem one_pgA (x : PgX) : (pgA x).all (·.oneCell') = true := all_oneCell_toArray (one_ePg x)
def pats (id n : Nat) : List Int := (List.range n).map (patB id)
theorem pats_len (id n : Nat) : (pats id n).length = n := by unfold pats; rw [List.length_map, List.length_range]
theorem pats_succ (id n : Nat) : pats id (n + 1) = pats id n ++ [patB id n] := by unfold pats; rw [List.range_succ, List.map_append]; rfl
theorem pats_get {id n i : Nat} (h : i < n) : (pats id n)[i]? = some (patB id i) := by unfold pats; rw [List.getElem?_map, List.getElem?_range h]; rfl
structure PgAt (w : World) (K : Nat → Nat) (ρ : Nat) (x : PgX) : Prop where
 b : OwnO w K ρ 1 eByte x.B x.c x.l
 g : RowB w K ρ 1 eByte x.G x.gl
 w : RowB w K 0 1 eByte x.W x.wl
structure PgOk (x : PgX) : Prop where
 il : x.id ≤ 100000
 ll : x.l.length ≤ 200000000
 ok : (x.done = false ∧ x.wl = x.l) ∨ (x.done = true ∧ x.l = pats x.id x.l.length ∧ x.gl = pats x.id x.l.length ++ pats (x.id + 100000) 64)
theorem bs42 (W : World) (a : Int) : (Instr.buildSlice 42 1 #[(0, .int .u8 a)]).run Tryz.prog W = .ok (.slice (some ⟨W.heap.size, 0, none⟩) 1 1) (W.alloc (.cells #[.int .u8 a] 5)) := by kernel_rfl
section
variable {K K' : Nat → Nat} {w w' : World} {ρ q g off : Nat} {x : PgX} {Q : Nat → Prop}
theorem PgAt.ro (h : PgAt w K ρ x) (r : Ro Q K K' w w') (h1 : ¬ Q ρ) (h0 : ¬ Q 0) : PgAt w' K' ρ x := ⟨h.b.ro r h1, h.g.ro r h1, h.w.ro r h0⟩
theorem rng_put {n j : Nat} {l : List Value} {v : Value} (h : w.rangeAt g off l) (ht : w.there g off n) (hl : l.length = n) (hj : j < n) (hw : w' = w.setCell ⟨g, off + j, none⟩ v) : w'.rangeAt g off (l.set j v) ∧ w'.there g off n := by
 refine ⟨fun i u hu => ?_, by rw [hw]; exact there_set ht _ _⟩
 have hi := (List.getElem?_eq_some_iff.1 hu).1
 rw [List.length_set] at hi
 by_cases e : i = j
 · subst e
   rw [List.getElem?_set_self (by omega)] at hu
   injection hu with hu
   subst hu
   rw [hw]
   exact World.cell?_setCell_same' _ _ _ (ht i hj).1
 · rw [List.getElem?_set_ne (fun e2 => e e2.symm)] at hu
   rw [hw]
   exact cell_out (vs := [v]) (h i u hu) (by show off + i < off + j ∨ off + j + 1 ≤ off + i; omega)
structure Oth (g off n : Nat) (w w' : World) : Prop where
 cell : ∀ o u, (o < off ∨ off + n ≤ o) → w.cell? ⟨g, o, none⟩ = some u → w'.cell? ⟨g, o, none⟩ = some u
 there : ∀ o m, w.there g o m → w'.there g o m
theorem Oth.same {n : Nat} (h : w'.heap[g]? = w.heap[g]?) : Oth g off n w w' := ⟨fun o u _ hu => (World.cell?_of_block (a := ⟨g, o, none⟩) h).trans hu, fun o m ht => there_sameO ht h⟩
theorem Oth.trans {n : Nat} {w2 : World} (h : Oth g off n w w') (h2 : Oth g off n w' w2) : Oth g off n w w2 := ⟨fun o u ho hu => h2.cell o u ho (h.cell o u ho hu), fun o m ht => h2.there o m (h.there o m ht)⟩
theorem Oth.set {n j : Nat} {v : Value} (hw : w' = w.setCell ⟨g, off + j, none⟩ v) (hj : j < n) : Oth g off n w w' := ⟨fun o u ho hu => by rw [hw]; exact cell_out (vs := [v]) hu (by show o < off + j ∨ off + j + 1 ≤ o; omega), fun o m ht => by rw [hw]; exact there_set ht _ _⟩
theorem OwnO.setOth {α : Type} {r sz c i : Nat} {enc : α → List Value} {l : List α} (h : OwnO w K r sz enc (some ⟨g, off, none⟩) c l) (henc : ∀ x, (enc x).length = sz) (hi : i < l.length) {y : α} (hr : w'.rangeAt g (off + i * sz) (enc y)) (ho : Oth g (off + i * sz) sz w w') (hs : w.heap.size ≤ w'.heap.size) (hk : K' g = K g) : OwnO w' K' r sz enc (some ⟨g, off, none⟩) c (l.set i y) := by
 rcases h with ⟨e, -, -⟩ | ⟨g', off', e, h1, h2, h3, h4, h5⟩
 · cases e
 injection e with e
 injection e with e1 e2 _
 subst e1 e2
 refine .inr ⟨g, off, rfl, Nat.lt_of_lt_of_le h1 hs, hk.trans h2, by rw [List.length_set]; exact h3, ho.there _ _ h4, fun k x hx j u hu => ?_⟩
 have hj := (List.getElem?_eq_some_iff.1 hu).1
 by_cases e : k = i
 · subst e
   rw [List.getElem?_set_self hi] at hx
   injection hx with hx
   subst hx
   exact hr j u hu
 · rw [List.getElem?_set_ne (fun e2 => e e2.symm)] at hx
   refine ho.cell _ _ ?_ (h5 k x hx j u hu)
   rw [henc] at hj
   rcases Nat.lt_or_gt_of_ne e with h | h
   · left
     have : (k + 1) * sz ≤ i * sz := Nat.mul_le_mul_right _ h
     rw [Nat.add_mul, Nat.one_mul] at this
     omega
   · right
     have : (i + 1) * sz ≤ k * sz := Nat.mul_le_mul_right _ h
     rw [Nat.add_mul, Nat.one_mul] at this
     omega
set_option maxRecDepth 100000 in
set_option maxHeartbeats 8000000 in
theorem fill_any (P : w.rangeAt g off (ePg x)) (Th : w.there g off 5) (hg : g < w.heap.size) (kg : K g = q) (hq : q ≠ ρ) (A : OwnO w K ρ 1 eByte x.B x.c x.l) (hi : x.id ≤ 100000) (hl : x.l.length ≤ 200000000) :
   Calls Tryz.prog 71 #[.pointer (some ⟨g, off, none⟩)] w fun e w' => e = .returned (.tuple #[]) ∧ w'.rangeAt g off (ePg { x with l := pats x.id x.l.length, done := true }) ∧ w'.there g off 5 ∧ OwnO w' K ρ 1 eByte x.B x.c (pats x.id x.l.length) ∧ Ro (fun z => z = ρ ∨ z = q) K K w w' ∧ Oth g off 5 w w' := by
 refine calls_vc tab_ok Tryz.func71 rfl ?_
 conv => whnf
 repeat ((conv => whnf); first | refine Xt ?_ | refine Xq ?_ | refine Xn ?_ | refine Xj ?_ | refine Xo ?_); try (conv => whnf)
 refine VLoop.mk Nat (fun i => [(0, .pointer (some ⟨g, off, none⟩)), (2, .int .i64 i)]) (fun i W => i ≤ x.l.length ∧ OwnO W K ρ 1 eByte x.B x.c (pats x.id i) ∧ Ro (· = ρ) K K w W) (fun i => x.l.length - i) 0 ⟨rfl, rfl, trivial⟩ ⟨Nat.zero_le _, A.none_ eByte, Ro.refl _ _ _⟩ ?_
 rintro i W ⟨hil, AW, qW⟩
 have PW := range_same P (qW.same g hg (by rw [kg]; exact hq))
 have TW := there_same Th (qW.same g hg (by rw [kg]; exact hq))
 have zW := qW.size
 have L0 : Ld Tryz.prog 42 g (addO off 0) (Eq W) (.slice x.B x.l.length x.c) := .of (load27 (PW 0 _ rfl))
 by_cases hin : i < x.l.length
 case neg =>
   obtain rfl : i = x.l.length := by omega
   repeat ((conv => whnf); first | refine Xl L0 ?_ | refine Xt ?_ | refine Xq ?_ | refine Xn ?_ | refine Xj ?_ | refine Xo ?_); try (conv => whnf)
   refine VStore.cell (by kernel_rfl) (TW 4 (by omega)).1 (TW 4 (by omega)).2 rfl rfl fun w9 hw9 => ?_
   obtain ⟨r9, t9⟩ := rng_put (j := 4) PW TW rfl (by omega) hw9.out
   have q9 : Ro (· = q) K K W w9 := by rw [hw9.out]; exact Ro.cell kg _ _
   have oth : Oth g off 5 w w9 := (Oth.same (qW.same g hg (by rw [kg]; exact hq))).trans (Oth.set hw9.out (by omega))
   clear hw9
   repeat ((conv => whnf); first | refine Xt ?_ | refine Xq ?_ | refine Xn ?_ | refine Xj ?_ | refine Xo ?_); try (conv => whnf)
   refine .mk ⟨rfl, ?_, t9, AW.ro q9 (fun e => hq e.symm), (qW.more fun z e => .inl e).trans (q9.more fun z e => .inr e), oth⟩
   have : (ePg x).set 4 (.bool true) = ePg { x with l := pats x.id x.l.length, done := true } := by
     unfold ePg pgA; rw [pats_len]; rfl
   rw [← this]; exact r9
 have hlen := pats_len x.id i
 obtain ⟨gB, oB, eB, hgB, kB, hcB, tB⟩ : ∃ gB oB, x.B = some ⟨gB, oB, none⟩ ∧ gB < w.heap.size ∧ K gB = ρ ∧ x.l.length ≤ x.c ∧ True := by
   obtain ⟨gB, oB, e, h1, h2, h3, -⟩ := A.get (by omega)
   exact ⟨gB, oB, e, h1, h2, h3, trivial⟩
 have AW' := AW
 rw [eB] at AW' L0
 have thB : W.there gB oB (x.c * 1) := by
   rcases AW' with ⟨e, -⟩ | ⟨g', o', e, -, -, -, h4, -⟩
   · cases e
   · injection e with e
     injection e with e1 e2 _
     subst e1 e2
     exact h4
 have N0 : Ld Tryz.prog 42 g (addO off 0) (Sm [g] W) (.slice (some ⟨gB, oB, none⟩) x.l.length x.c) := ⟨fun W' hW => load27 (by rw [← eB]; exact cell_sm (PW 0 _ rfl) (by simp) hW)⟩
 have N3 : Ld Tryz.prog 3 g (addO off 3) (Sm [g] W) (.int .i64 x.id) := ⟨fun W' hW => load3 (cell_sm (PW 3 _ rfl) (by simp) hW)⟩
 have sW : Sm [g] W W.drew := fun _ _ => rfl
 repeat ((conv => whnf); first | refine Xl L0 ?_ | refine Xt ?_ | refine Xq ?_ | refine Xn ?_ | refine Xj ?_ | refine Xo ?_); try (conv => whnf)
 refine VDraw.pl 12 (.one [0, 1, 2, 3, 4, 5, 6, 7, 8, 9] 10 (.one [11] 12 (.stop []))) (Sm [g] W) (by kernel_rfl) (sW) ?_
 repeat ((conv => whnf); first | refine Xl N0 ?_ | refine Xl N3 ?_ | refine Xt ?_ | refine Xq ?_ | refine Xn ?_ | refine Xj ?_ | refine Xo ?_); try (conv => whnf)
 refine VCall.mk _ (pat_any x.id i (by omega) (by omega) W.drew) ?_
 rintro _ _ ⟨rfl, rfl⟩
 refine ⟨_, rfl, ?_⟩
 repeat ((conv => whnf); first | (refine VS.mk sW ?_) | refine Xt ?_ | refine Xq ?_ | refine Xn ?_ | refine Xj ?_ | refine Xo ?_); try (conv => whnf)
 have tBi := thB i (by omega)
 refine VStore.cell (by kernel_rfl) (by rw [show oB + mulO i 1 = oB + i from rfl]; exact tBi.1) (by rw [show oB + mulO i 1 = oB + i from rfl]; exact tBi.2) rfl rfl fun w9 hw9 => ?_
 have Ad : OwnO W.drew K ρ 1 eByte (some ⟨gB, oB, none⟩) x.c (pats x.id i) := AW'.ro (Ro.below (R := fun _ => False) (Below.refl _ W).drew) id
 obtain ⟨A9, q9⟩ := Ad.push (w' := w9) (fun _ => rfl) (by rw [hlen]; omega) (patB x.id i) (by rw [hw9.out, hlen, Nat.mul_one]; rfl)
 repeat ((conv => whnf); first | (refine VS.last rfl ?_) | refine Xt ?_ | refine Xq ?_ | refine Xn ?_ | refine Xj ?_ | refine Xo ?_); try (conv => whnf)
 exact .mk (i + 1) ⟨rfl, rfl, trivial⟩ ⟨hin, by rw [pats_succ, eB]; exact A9, (qW.drew).trans q9⟩ (by show x.l.length - (i + 1) < x.l.length - i; omega)
structure TlI (w : World) (A : Option Addr) (c : Nat) (l : List Int) (κ : Nat → Nat) (W : World) : Prop where
 be : Below w.heap.size w W
 ow : OwnO W κ 1 1 eByte A c l
 old : ∀ y, y < w.heap.size → κ y = 0
 kz : ∀ y, W.heap.size ≤ y → κ y = 0
theorem TlI.step {A : Option Addr} {c : Nat} {l : List Int} {κ : Nat → Nat} {W W' : World} (I : TlI w A c l κ W) (h : Below W.heap.size W W') : TlI w A c l κ W' :=
 ⟨I.be.trans (h.mono I.be.size), I.ow.ro (Ro.below (R := fun _ => False) h) id, I.old, fun y hy => I.kz y (Nat.le_trans h.size hy)⟩
set_option maxRecDepth 100000 in
set_option maxHeartbeats 8000000 in
theorem pgrow_any (P : w.rangeAt g off (ePg x)) (Th : w.there g off 5) (hg : g < w.heap.size) (kg : K g = q) (hq : q ≠ ρ) (kz : ∀ y, w.heap.size ≤ y → K y = 0) (A : OwnO w K ρ 1 eByte x.B x.c x.l) (hi : x.id ≤ 100000) (hl : x.l.length ≤ 200000000) :
   Calls Tryz.prog 73 #[.pointer (some ⟨g, off, none⟩)] w fun e w' => e = .returned (.tuple #[]) ∧ ∃ G gc K', w'.rangeAt g off (ePg { x with G := G, gc := gc, gl := x.l ++ pats (x.id + 100000) 64 }) ∧ w'.there g off 5 ∧ OwnO w' K' ρ 1 eByte x.B x.c x.l ∧ RowB w' K' ρ 1 eByte G (x.l ++ pats (x.id + 100000) 64) ∧ Ro (fun z => z = ρ ∨ z = q) K K' w w' ∧ (∀ y, w'.heap.size ≤ y → K' y = 0) ∧ Oth g off 5 w w' := by
 refine calls_vc tab_ok Tryz.func73 rfl ?_
 conv => whnf
 repeat ((conv => whnf); first | refine Xt ?_ | refine Xq ?_ | refine Xn ?_ | refine Xj ?_ | refine Xo ?_); try (conv => whnf)
 refine VLoop.mk (Option Addr × Nat × Nat) (fun u => [(0, .pointer (some ⟨g, off, none⟩)), (2, .slice u.1 u.2.2 u.2.1), (3, .int .i64 u.2.2)]) (fun u W => ∃ κ, u.2.2 ≤ 64 ∧ TlI w u.1 u.2.1 (pats (x.id + 100000) u.2.2) κ W) (fun u => 64 - u.2.2) (none, 0, 0) ⟨rfl, rfl, rfl, trivial⟩ ⟨fun _ => 0, by show 0 ≤ 64; omega, Below.refl _ _, OwnO.nil _ _ _ _ _, fun _ _ => rfl, fun _ _ => rfl⟩ ?_
 rintro ⟨A1, c1, i⟩ W ⟨κ, hi64, I0⟩
 have hi64 : i ≤ 64 := hi64
 have I : TlI w A1 c1 (pats (x.id + 100000) i) κ W := I0
 clear I0
 dsimp only
 have PW := range_same P (I.be.block g hg)
 have TW := there_same Th (I.be.block g hg)
 have zW := I.be.size
 have hlen := pats_len (x.id + 100000) i
 by_cases hin : i < 64
 case pos =>
   have L3 : Ld Tryz.prog 3 g (addO off 3) (Eq W) (.int .i64 x.id) := .of (load3 (PW 3 _ rfl))
   repeat ((conv => whnf); first | refine Xl L3 ?_ | refine Xt ?_ | refine Xq ?_ | refine Xn ?_ | refine Xj ?_ | refine Xo ?_); try (conv => whnf)
   refine VCall.mk _ (pat_any (x.id + 100000) i (by omega) (by omega) W) ?_
   rintro _ _ ⟨rfl, rfl⟩
   refine ⟨_, rfl, ?_⟩
   rename_i W
   repeat ((conv => whnf); first | refine Xt ?_ | refine Xq ?_ | refine Xn ?_ | refine Xj ?_ | refine Xo ?_); try (conv => whnf)
   refine VBs.mk _ _ (bs42 W (patB (x.id + 100000) i)) ?_
   have c6 : Below W.heap.size W (W.alloc (.cells #[.int .u8 (patB (x.id + 100000) i)] 5)) := (Below.refl _ _).alloc (Nat.le_refl _) _
   have hnc : ∀ j u, (eByte (patB (x.id + 100000) i))[j]? = some u → (W.alloc (.cells #[.int .u8 (patB (x.id + 100000) i)] 5)).cell? ⟨W.heap.size, j, none⟩ = some u := fun j u hu => by
     have := range_new W #[.int .u8 (patB (x.id + 100000) i)] 5 j u hu
     rwa [Nat.zero_add] at this
   generalize W.alloc (.cells #[.int .u8 (patB (x.id + 100000) i)] 5) = w6 at c6 hnc ⊢
   have I6 := I.step c6
   repeat ((conv => whnf); first | refine Xt ?_ | refine Xq ?_ | refine Xn ?_ | refine Xj ?_ | refine Xo ?_); try (conv => whnf)
   refine VApp.off 1 1 _ Tryz.underlying42 info5 rfl (by decide) eByte (fun _ => rfl) one_eByte (pats (x.id + 100000) i) (patB (x.id + 100000) i) hlen I6.ow hnc I6.kz (by omega) (by omega) fun A8 c8 κ8 w8 oA8 q8 kz8 => ?_
   have b8 : Below w.heap.size w w8 := q8.toBelow I6.be I6.be.size fun z hz => by rw [I.old z hz]; omega
   repeat ((conv => whnf); first | refine Xt ?_ | refine Xq ?_ | refine Xn ?_ | refine Xj ?_ | refine Xo ?_); try (conv => whnf)
   exact .mk (A8, c8, i + 1) ⟨rfl, rfl, rfl, trivial⟩ ⟨κ8, hin, b8, by show OwnO w8 κ8 1 1 eByte A8 c8 (pats (x.id + 100000) (i + 1)); rw [pats_succ]; exact oA8, fun z hz => (q8.kk z (Nat.lt_of_lt_of_le hz I6.be.size)).trans (I.old z hz), kz8⟩ (by show 64 - (i + 1) < 64 - i; omega)
 obtain rfl : i = 64 := by omega
 have L0 : Ld Tryz.prog 42 g (addO off 0) (Eq W) (.slice x.B x.l.length x.c) := .of (load27 (PW 0 _ rfl))
 obtain ⟨gT, oT, eT, gT1, -, -, -, gT5⟩ := I.ow.get (by rw [hlen]; omega)
 subst eT
 have AW : OwnO W K ρ 1 eByte x.B x.c x.l := A.ro (Ro.below (R := fun _ => False) I.be) id
 have kzW : ∀ y, W.heap.size ≤ y → K y = 0 := fun y hy => kz y (by omega)
 repeat ((conv => whnf); first | refine Xl L0 ?_ | refine Xt ?_ | refine Xq ?_ | refine Xn ?_ | refine Xj ?_ | refine Xo ?_); try (conv => whnf)
 refine VApp.offN 1 1 _ Tryz.underlying42 info5 rfl (by decide) eByte (fun _ => rfl) one_eByte x.l (pats (x.id + 100000) 64) rfl hlen (by omega) AW (fun k y hy j u hu => by rw [Nat.mul_one]; have := gT5 k y hy j u hu; rwa [Nat.mul_one] at this) kzW (by omega) (by omega) fun A8 c8 K8 w8 oA8 q8 kz8 hwh => ?_
 have kgW : K g = q := kg
 have P8 := range_same PW (q8.same g (by omega) (by rw [kg]; exact hq))
 have T8 := there_same TW (q8.same g (by omega) (by rw [kg]; exact hq))
 have kg8 : K8 g = q := (q8.kk g (by omega)).trans kg
 have B8 : OwnO w8 K8 ρ 1 eByte x.B x.c x.l := by
   rcases hwh with ⟨e1, e2, -, -⟩ | ⟨-, hgr⟩
   · rw [e1, e2] at oA8; exact oA8.pre
   · exact AW.keepG hgr (fun _ _ e => by cases e) fun y hy => q8.kk y (AW.rl y hy).1
 repeat ((conv => whnf); first | refine Xt ?_ | refine Xq ?_ | refine Xn ?_ | refine Xj ?_ | refine Xo ?_); try (conv => whnf)
 refine VStore.cell (by kernel_rfl) (T8 1 (by omega)).1 (T8 1 (by omega)).2 rfl rfl fun w9 hw9 => ?_
 obtain ⟨r9, t9⟩ := rng_put (j := 1) P8 T8 rfl (by omega) hw9.out
 have q9 : Ro (· = q) K8 K8 w8 w9 := by rw [hw9.out]; exact Ro.cell kg8 _ _
 have oth : Oth g off 5 w w9 := ((Oth.same (I.be.block g hg)).trans (Oth.same (q8.same g (by omega) (by rw [kg]; exact hq)))).trans (Oth.set hw9.out (by omega))
 clear hw9
 repeat ((conv => whnf); first | refine Xt ?_ | refine Xq ?_ | refine Xn ?_ | refine Xj ?_ | refine Xo ?_); try (conv => whnf)
 refine .mk ⟨rfl, A8, c8, K8, ?_, t9, B8.ro q9 (fun e => hq e.symm), (oA8.ro q9 (fun e => hq e.symm)).rowB, ((Ro.below I.be).trans (q8.more fun z e => .inl e)).trans (q9.more fun z e => .inr e), fun y hy => kz8 y (Nat.le_trans q9.size hy), oth⟩
 have : (ePg x).set 1 (.slice A8 (x.l.length + 64) c8) = ePg { x with G := A8, gc := c8, gl := x.l ++ pats (x.id + 100000) 64 } := by
   unfold ePg pgA; rw [List.length_append, hlen]; rfl
 rw [← this]; exact r9
set_option maxRecDepth 100000 in
set_option maxHeartbeats 8000000 in
theorem pshows_any (A : PgAt w K ρ x) (O : PgOk x) : Calls Tryz.prog 116 #[.agg (pgA x)] w fun e w' => e = .returned (.bool true) ∧ Below w.heap.size w w' := by
 refine calls_vc tab_ok Tryz.func116 rfl ?_
 conv => whnf
 refine .mk fun wA hwA => ?_
 obtain ⟨ba, hba⟩ : ∃ ba, ba = w.heap.size := ⟨_, rfl⟩
 rw [← hba]
 have bA : Below w.heap.size w wA := by rw [hwA.out]; exact below_box1 _ _ _
 have zA : wA.heap.size = w.heap.size + 1 := by rw [hwA.out]; simp
 have oA : wA.rangeAt ba 0 (ePg x) := by rw [hwA.out, hba]; exact range_new w _ 105
 clear hwA
 have hba1 : ba < wA.heap.size := by omega
 have hl := O.ll
 have hil := O.il
 have L : ∀ {ty : TypeId} {j : Nat} {v : Value} {W : World}, Below wA.heap.size wA W → (ePg x)[j]? = some v → (∀ {W' : World}, W'.cell? ⟨ba, j, none⟩ = some v → (loadVar ty ⟨ba, j, none⟩).run Tryz.prog W' = .ok v W') → ∀ {l : List Nat}, ba ∈ l → Ld Tryz.prog ty ba j (Sm l W) v := fun {ty j v W} hb hv hr {l} hm => ⟨fun W' hW => hr (cell_sm (by have := (range_same oA (hb.block ba hba1)) j v hv; rwa [Nat.zero_add] at this) hm hW)⟩
 have bb := Below.refl wA.heap.size wA
 have s0 := Sm.refl [ba] wA
 have L0 : Ld Tryz.prog 42 ba 0 (Sm [ba] wA) (.slice x.B x.l.length x.c) := L bb rfl load27 (by simp)
 have L1 : Ld Tryz.prog 42 ba 1 (Sm [ba] wA) (.slice x.G x.gl.length x.gc) := L bb rfl load27 (by simp)
 have L2 : Ld Tryz.prog 42 ba 2 (Sm [ba] wA) (.slice x.W x.wl.length x.wc) := L bb rfl load27 (by simp)
 have L4 : Ld Tryz.prog 4 ba 4 (Sm [ba] wA) (.bool x.done) := L bb rfl load4 (by simp)
 rcases O.ok with ⟨hd, hwl⟩ | ⟨hd, hpl, hgl⟩
 · rw [hd] at L4
   rw [hwl] at L2
   repeat ((conv => whnf); first | refine Xl (L0.at s0) ?_ | refine Xl (L4.at s0) ?_ | refine Xl (L2.at s0) ?_ | refine Xt ?_ | refine Xq ?_ | refine Xn ?_ | refine Xj ?_ | refine Xo ?_); try (conv => whnf)
   refine VLoop.mk Nat (fun i => [(1, .pointer (some ⟨ba, 0, none⟩)), (3, .int .i64 x.l.length), (4, .int .i64 i)]) (fun i W => i ≤ x.l.length ∧ Below wA.heap.size wA W) (fun i => x.l.length - i) 0 ⟨rfl, rfl, rfl, trivial⟩ ⟨Nat.zero_le _, Below.refl _ _⟩ ?_
   rintro i W ⟨hi, bW⟩
   by_cases hin : i < x.l.length
   case neg =>
     repeat ((conv => whnf); first | refine Xt ?_ | refine Xq ?_ | refine Xn ?_ | refine Xj ?_ | refine Xo ?_); try (conv => whnf)
     exact .mk ⟨rfl, by rw [hba]; exact bA.trans (bW.mono bA.size)⟩
   obtain ⟨gB, oB, eB, gB1, -, -, -, gB5⟩ := A.b.get (by omega)
   obtain ⟨gW, oW, eW, gW1, -, gW5⟩ := A.w.get (by rw [hwl]; omega)
   obtain ⟨v, hv⟩ : ∃ v, x.l[i]? = some v := ⟨_, List.getElem?_eq_getElem hin⟩
   have hv2 : x.wl[i]? = some v := by rw [hwl]; exact hv
   have bwW : Below w.heap.size w W := bA.trans (bW.mono bA.size)
   have N0 : Ld Tryz.prog 42 ba 0 (Sm [ba, gB, gW] W) (.slice x.B x.l.length x.c) := L bW rfl load27 (by simp)
   have N2 : Ld Tryz.prog 42 ba 2 (Sm [ba, gB, gW] W) (.slice x.W x.wl.length x.wc) := L bW rfl load27 (by simp)
   rw [eB] at N0
   rw [eW, hwl] at N2
   have NB : Ld Tryz.prog 5 gB (oB + i) (Sm [ba, gB, gW] W) (.int .u8 v) := ⟨fun W' hW => load5 (cell_sm ((World.cell?_of_block (a := ⟨gB, oB + i, none⟩) (bwW.block gB gB1)).trans (by have := gB5 i v hv 0 _ rfl; rwa [Nat.mul_one] at this)) (by simp) hW)⟩
   have NW : Ld Tryz.prog 5 gW (oW + i) (Sm [ba, gB, gW] W) (.int .u8 v) := ⟨fun W' hW => load5 (cell_sm ((World.cell?_of_block (a := ⟨gW, oW + i, none⟩) (bwW.block gW gW1)).trans (by have := gW5 i v hv2 0 _ rfl; rwa [Nat.mul_one] at this)) (by simp) hW)⟩
   have sW : Sm [ba, gB, gW] W W.drew := fun _ _ => rfl
   repeat ((conv => whnf); first | refine Xt ?_ | refine Xq ?_ | refine Xn ?_ | refine Xj ?_ | refine Xo ?_); try (conv => whnf)
   refine VDraw.pl 1000 (.stop [0, 1, 2, 3, 4, 5, 6, 7, 8, 9, 10]) (Sm [ba, gB, gW] W) (by kernel_rfl) (sW) ?_
   repeat ((conv => whnf); first | refine Xl N0 ?_ | refine Xl N2 ?_ | refine Xl NB ?_ | refine Xl NW ?_ | refine Xt ?_ | refine Xq ?_ | refine Xn ?_ | refine Xj ?_ | refine Xo ?_); try (conv => whnf)
   exact .mk (i + 1) ⟨rfl, rfl, rfl, trivial⟩ ⟨hin, bW.drew⟩ (by show x.l.length - (i + 1) < x.l.length - i; omega)
 · have hgn : x.gl.length = x.l.length + 64 := by rw [hgl, List.length_append, pats_len, pats_len]
   rw [hd] at L4
   rw [hgn] at L1
   obtain ⟨n, hn⟩ : ∃ n, n = x.l.length := ⟨_, rfl⟩
   rw [← hn] at L0 L1 hl hpl hgl hgn
   repeat ((conv => whnf); first | refine Xl (L0.at s0) ?_ | refine Xl (L4.at s0) ?_ | refine Xl (L1.at s0) ?_ | refine Xt ?_ | refine Xq ?_ | refine Xn ?_ | refine Xj ?_ | refine Xo ?_); try (conv => whnf)
   obtain ⟨gG, oG, eG, gG1, -, gG5⟩ := A.g.get (by omega)
   refine VLoop.mk Nat (fun i => [(1, .pointer (some ⟨ba, 0, none⟩)), (3, .int .i64 n), (5, .int .i64 i)]) (fun i W => i ≤ n ∧ Below wA.heap.size wA W) (fun i => n - i) 0 ⟨rfl, rfl, rfl, trivial⟩ ⟨Nat.zero_le _, Below.refl _ _⟩ ?_
   rintro i W ⟨hi, bW⟩
   have bwW : Below w.heap.size w W := bA.trans (bW.mono bA.size)
   by_cases hin : i < n
   case pos =>
     obtain ⟨gB, oB, eB, gB1, -, -, -, gB5⟩ := A.b.get (by omega)
     have hv : x.l[i]? = some (patB x.id i) := by rw [hpl]; exact pats_get hin
     have hv2 : x.gl[i]? = some (patB x.id i) := by rw [hgl, List.getElem?_append_left (by rw [pats_len]; exact hin)]; exact pats_get hin
     have N0 : Ld Tryz.prog 42 ba 0 (Sm [ba, gB, gG] W) (.slice x.B x.l.length x.c) := L bW rfl load27 (by simp)
     have N1 : Ld Tryz.prog 42 ba 1 (Sm [ba, gB, gG] W) (.slice x.G x.gl.length x.gc) := L bW rfl load27 (by simp)
     have N3 : Ld Tryz.prog 3 ba 3 (Sm [ba, gB, gG] W) (.int .i64 x.id) := L bW rfl load3 (by simp)
     rw [eB, ← hn] at N0
     rw [eG, hgn] at N1
     have NB : Ld Tryz.prog 5 gB (oB + i) (Sm [ba, gB, gG] W) (.int .u8 (patB x.id i)) := ⟨fun W' hW => load5 (cell_sm ((World.cell?_of_block (a := ⟨gB, oB + i, none⟩) (bwW.block gB gB1)).trans (by have := gB5 i _ hv 0 _ rfl; rwa [Nat.mul_one] at this)) (by simp) hW)⟩
     have NW : Ld Tryz.prog 5 gG (oG + i) (Sm [ba, gB, gG] W) (.int .u8 (patB x.id i)) := ⟨fun W' hW => load5 (cell_sm ((World.cell?_of_block (a := ⟨gG, oG + i, none⟩) (bwW.block gG gG1)).trans (by have := gG5 i _ hv2 0 _ rfl; rwa [Nat.mul_one] at this)) (by simp) hW)⟩
     have sW : Sm [ba, gB, gG] W W.drew := fun _ _ => rfl
     repeat ((conv => whnf); first | refine Xt ?_ | refine Xq ?_ | refine Xn ?_ | refine Xj ?_ | refine Xo ?_); try (conv => whnf)
     refine VDraw.pl 1000 (.one [0, 1, 2, 3, 4, 5, 6, 7] 8 (.one [9, 10, 11, 12, 13, 14, 15, 16, 17, 18] 19 (.stop [20, 21]))) (Sm [ba, gB, gG] W) (by kernel_rfl) (sW) ?_
     repeat ((conv => whnf); first | refine Xl N0 ?_ | refine Xl N1 ?_ | refine Xl N3 ?_ | refine Xl NB ?_ | refine Xl NW ?_ | refine Xt ?_ | refine Xq ?_ | refine Xn ?_ | refine Xj ?_ | refine Xo ?_); try (conv => whnf)
     refine VCall.mk _ (pat_any x.id i (by omega) (by omega) W.drew) ?_
     rintro _ _ ⟨rfl, rfl⟩
     refine ⟨_, rfl, ?_⟩
     repeat ((conv => whnf); first | (refine VS.mk sW ?_) | refine Xl N0 ?_ | refine Xl N1 ?_ | refine Xl N3 ?_ | refine Xl NB ?_ | refine Xl NW ?_ | refine Xt ?_ | refine Xq ?_ | refine Xn ?_ | refine Xj ?_ | refine Xo ?_); try (conv => whnf)
     refine VCall.mk _ (pat_any x.id i (by omega) (by omega) W.drew) ?_
     rintro _ _ ⟨rfl, rfl⟩
     refine ⟨_, rfl, ?_⟩
     repeat ((conv => whnf); first | (refine VS.mk sW ?_) | refine Xt ?_ | refine Xq ?_ | refine Xn ?_ | refine Xj ?_ | refine Xo ?_); try (conv => whnf)
     exact .mk (i + 1) ⟨rfl, rfl, rfl, trivial⟩ ⟨hin, bW.drew⟩ (by show n - (i + 1) < n - i; omega)
   repeat ((conv => whnf); first | refine Xt ?_ | refine Xq ?_ | refine Xn ?_ | refine Xj ?_ | refine Xo ?_); try (conv => whnf)
   refine VLoop.mk Nat (fun i => [(1, .pointer (some ⟨ba, 0, none⟩)), (3, .int .i64 n), (6, .int .i64 i)]) (fun i W => i ≤ 64 ∧ Below wA.heap.size wA W) (fun i => 64 - i) 0 ⟨rfl, rfl, rfl, trivial⟩ ⟨Nat.zero_le _, bW⟩ ?_
   clear bW bwW hi hin
   clear i W
   rintro i W ⟨hi, bW⟩
   have bwW : Below w.heap.size w W := bA.trans (bW.mono bA.size)
   by_cases hin : i < 64
   case neg =>
     repeat ((conv => whnf); first | refine Xt ?_ | refine Xq ?_ | refine Xn ?_ | refine Xj ?_ | refine Xo ?_); try (conv => whnf)
     exact .mk ⟨rfl, by rw [hba]; exact bwW⟩
   have hv2 : x.gl[n + i]? = some (patB (x.id + 100000) i) := by rw [hgl, List.getElem?_append_right (by rw [pats_len]; omega), pats_len, show n + i - n = i by omega]; exact pats_get hin
   have N1 : Ld Tryz.prog 42 ba 1 (Sm [ba, gG] W) (.slice x.G x.gl.length x.gc) := L bW rfl load27 (by simp)
   have N3 : Ld Tryz.prog 3 ba 3 (Sm [ba, gG] W) (.int .i64 x.id) := L bW rfl load3 (by simp)
   rw [eG, hgn] at N1
   have NW : Ld Tryz.prog 5 gG (oG + (n + i)) (Sm [ba, gG] W) (.int .u8 (patB (x.id + 100000) i)) := ⟨fun W' hW => load5 (cell_sm ((World.cell?_of_block (a := ⟨gG, oG + (n + i), none⟩) (bwW.block gG gG1)).trans (by have := gG5 (n + i) _ hv2 0 _ rfl; rwa [Nat.mul_one] at this)) (by simp) hW)⟩
   have sW : Sm [ba, gG] W W.drew := fun _ _ => rfl
   repeat ((conv => whnf); first | refine Xt ?_ | refine Xq ?_ | refine Xn ?_ | refine Xj ?_ | refine Xo ?_); try (conv => whnf)
   refine VDraw.pl 1000 (.one [0, 1, 2, 3, 4, 5, 6, 7, 8, 9, 10] 11 (.stop [12])) (Sm [ba, gG] W) (by kernel_rfl) (sW) ?_
   repeat ((conv => whnf); first | refine Xl N1 ?_ | refine Xl N3 ?_ | (refine VIdx.mk (n + i) (by simp) (by omega) ?_) | refine Xl NW ?_ | refine Xt ?_ | refine Xq ?_ | refine Xn ?_ | refine Xj ?_ | refine Xo ?_); try (conv => whnf)
   refine VCall.mk _ (pat_any (x.id + 100000) i (by omega) (by omega) W.drew) ?_
   rintro _ _ ⟨rfl, rfl⟩
   refine ⟨_, rfl, ?_⟩
   repeat ((conv => whnf); first | (refine VS.mk sW ?_) | refine Xt ?_ | refine Xq ?_ | refine Xn ?_ | refine Xj ?_ | refine Xo ?_); try (conv => whnf)
   exact .mk (i + 1) ⟨rfl, rfl, rfl, trivial⟩ ⟨hin, bW.drew⟩ (by show 64 - (i + 1) < 64 - i; omega)
end
end Go.Proofs.YtoilipfgimcoiaaGreat
namespace Go.Proofs.YtoilipfgimcoiaaGreat
open Go Go.RowKit
structure BkX where
 A : Option Addr
 c : Nat
 ps : List PgX
 next : Nat
def eBk (X : BkX) : List Value := [.slice X.A X.ps.length X.c, .slice none 0 0, .int .i64 X.next]
structure BookAt (w : World) (K : Nat → Nat) (q g off : Nat) (X : BkX) : Prop where
 hg : g < w.heap.size
 kg : K g = q
 rg : w.rangeAt g off (eBk X)
 th : w.there g off 3
 row : OwnO w K 2 5 ePg X.A X.c X.ps
 pg : ∀ (p : Nat) (x : PgX), X.ps[p]? = some x → PgAt w K (1000 + p) x
 ok : ∀ x ∈ X.ps, PgOk x
 len : X.ps.length ≤ 96
 kz : ∀ y, w.heap.size ≤ y → K y = 0
theorem load30 {w : World} {b j n c : Nat} {A : Option Addr} (h : w.cell? ⟨b, j, none⟩ = some (.slice A n c)) : (loadVar 30 ⟨b, j, none⟩).run Tryz.prog w = .ok (.slice A n c) w := by go_simp
theorem load31 {w : World} {b j n c : Nat} {A : Option Addr} (h : w.cell? ⟨b, j, none⟩ = some (.slice A n c)) : (loadVar 31 ⟨b, j, none⟩).run Tryz.prog w = .ok (.slice A n c) w := by go_simp
def zero105 : Value := .agg #[.slice none 0 0, .slice none 0 0, .slice none 0 0, .int .i64 0, .bool false]
theorem run_zero105 (W : World) : (zeroValue 105).run Tryz.prog W = .ok zero105 W := by kernel_rfl
theorem info105 : (Tryz.prog.info? 105).map (fun i => (i.zero, i.size, i.bytes)) = some (some zero105, 5, 88) := by kernel_rfl
theorem build105k (W : World) (A : Option Addr) (n c : Nat) (B : Option Addr) (m d : Nat) (i : Int) : (Instr.build 105 #[(0, .slice A n c), (2, .slice B m d), (3, .int .i64 i)]).run Tryz.prog W = .ok (.agg #[.slice A n c, .slice none 0 0, .slice B m d, .int .i64 i, .bool false]) W := by kernel_rfl
theorem build105w (W : World) (A : Option Addr) (n c : Nat) (i : Int) : (Instr.build 105 #[(0, .slice A n c), (3, .int .i64 i)]).run Tryz.prog W = .ok (.agg #[.slice A n c, .slice none 0 0, .slice none 0 0, .int .i64 i, .bool false]) W := by kernel_rfl
theorem bs30 (W : World) (x : PgX) : (Instr.buildSlice 30 1 #[(0, .agg (pgA x))]).run Tryz.prog W = .ok (.slice (some ⟨W.heap.size, 0, none⟩) 1 1) (W.alloc (.cells (pgA x) 105)) := by kernel_rfl
section
variable {K K' : Nat → Nat} {w w' : World} {ρ q g off : Nat} {X : BkX} {Q : Nat → Prop}
theorem BookAt.ro (h : BookAt w K q g off X) (r : Ro Q K K' w w') (kz : ∀ y, w'.heap.size ≤ y → K' y = 0) (h1 : ¬ Q q) (h2 : ¬ Q 2) (h0 : ¬ Q 0) (hp : ∀ p, p < X.ps.length → ¬ Q (1000 + p)) : BookAt w' K' q g off X := by
 have n0 : ¬ Q (K g) := by rw [h.kg]; exact h1
 exact ⟨Nat.lt_of_lt_of_le h.hg r.size, (r.kk g h.hg).trans h.kg, range_roF h.rg h.hg r n0, there_roF h.th h.hg r n0, h.row.ro r h2, fun p x hx => (h.pg p x hx).ro r (hp p (List.getElem?_eq_some_iff.1 hx).1) h0, h.ok, h.len, kz⟩
theorem BookAt.below (h : BookAt w K q g off X) (hb : Below w.heap.size w w') : BookAt w' K q g off X :=
 h.ro (Q := fun _ => False) (.below hb) (fun y hy => h.kz y (Nat.le_trans hb.size hy)) id id id fun _ _ => id
theorem BookAt.c {j : Nat} {v : Value} {l : List Nat} (h : BookAt w K q g off X) (hj : (eBk X)[j]? = some v) (hl : g ∈ l) {W : World} (hW : Sm l w W) : W.cell? ⟨g, addO off j, none⟩ = some v := by
 rw [addO_eq]; exact cell_sm (h.rg j v hj) hl hW
theorem BookAt.l_pages {l : List Nat} (h : BookAt w K q g off X) (hl : g ∈ l) : Ld Tryz.prog 30 g (addO off 0) (Sm l w) (.slice X.A X.ps.length X.c) := ⟨fun _ hW => load30 (h.c rfl hl hW)⟩
theorem BookAt.l_ints {l : List Nat} (h : BookAt w K q g off X) (hl : g ∈ l) : Ld Tryz.prog 31 g (addO off 1) (Sm l w) (.slice none 0 0) := ⟨fun _ hW => load31 (h.c rfl hl hW)⟩
theorem BookAt.l_next {l : List Nat} (h : BookAt w K q g off X) (hl : g ∈ l) : Ld Tryz.prog 3 g (addO off 2) (Sm l w) (.int .i64 X.next) := ⟨fun _ hW => load3 (h.c rfl hl hW)⟩
set_option maxRecDepth 100000 in
set_option maxHeartbeats 8000000 in
theorem bintact_any (B : BookAt w K q g off X) : Calls Tryz.prog 70 #[.pointer (some ⟨g, off, none⟩)] w fun e w' => e = .returned (.bool true) ∧ Below w.heap.size w w' := by
 refine calls_vc tab_ok Tryz.func70 rfl ?_
 have hlen := B.len
 conv => whnf
 repeat ((conv => whnf); first | refine Xt ?_ | refine Xq ?_ | refine Xn ?_ | refine Xj ?_ | refine Xo ?_); try (conv => whnf)
 refine VLoop.mk Nat (fun i => [(0, .pointer (some ⟨g, off, none⟩)), (3, .int .i64 i)]) (fun i W => i ≤ X.ps.length ∧ Below w.heap.size w W) (fun i => X.ps.length - i) 0 ⟨rfl, rfl, trivial⟩ ⟨Nat.zero_le _, Below.refl _ _⟩ ?_
 rintro i W ⟨hi, bW⟩
 have BW := B.below bW
 have L0 := BW.l_pages (l := [g]) (by simp)
 have s0 := Sm.refl [g] W
 by_cases hin : i < X.ps.length
 case pos =>
   obtain ⟨gP, oP, eP, gP1, -, -, -, gP5⟩ := BW.row.get (by omega)
   obtain ⟨x, hx⟩ : ∃ x, X.ps[i]? = some x := ⟨_, List.getElem?_eq_getElem hin⟩
   rw [eP] at L0
   have L1 : Ld Tryz.prog 105 gP (oP + mulO i 5) (Eq W) (.agg (pgA x)) := .of (load_agg (cs := ePg x) (by kernel_rfl) (by kernel_rfl) fun j u hu => by rw [mulO_eq]; exact gP5 i x hx j u hu)
   repeat ((conv => whnf); first | refine Xl (L0.at s0) ?_ | refine Xl L1 ?_ | refine Xt ?_ | refine Xq ?_ | refine Xn ?_ | refine Xj ?_ | refine Xo ?_); try (conv => whnf)
   refine VCall.mk _ (pshows_any (BW.pg i x hx) (BW.ok x (List.mem_of_getElem? hx))) ?_
   rintro _ W2 ⟨rfl, b2⟩
   refine ⟨_, rfl, ?_⟩
   repeat ((conv => whnf); first | refine Xt ?_ | refine Xq ?_ | refine Xn ?_ | refine Xj ?_ | refine Xo ?_); try (conv => whnf)
   exact .mk (i + 1) ⟨rfl, rfl, trivial⟩ ⟨hin, bW.trans (b2.mono bW.size)⟩ (by show X.ps.length - (i + 1) < X.ps.length - i; omega)
 repeat ((conv => whnf); first | refine Xl (L0.at s0) ?_ | refine Xt ?_ | refine Xq ?_ | refine Xn ?_ | refine Xj ?_ | refine Xo ?_); try (conv => whnf)
 refine VLoop.mk Unit (fun _ => [(0, .pointer (some ⟨g, off, none⟩)), (4, .int .i64 0)]) (fun _ V => V = W) (fun _ => 0) () ⟨rfl, rfl, trivial⟩ rfl ?_
 rintro _ V rfl
 have L9 := BW.l_ints (l := [g]) (by simp)
 repeat ((conv => whnf); first | refine Xl (L9.at s0) ?_ | refine Xt ?_ | refine Xq ?_ | refine Xn ?_ | refine Xj ?_ | refine Xo ?_); try (conv => whnf)
 exact .mk ⟨rfl, bW⟩
def BkP (w : World) (K : Nat → Nat) (q g off : Nat) (X : BkX) (w' : World) : Prop := ∃ X' K', BookAt w' K' q g off X' ∧ Ro (fun z => z = q ∨ z = 2 ∨ (X.ps.length < 96 ∧ z = 1000 + X.ps.length)) K K' w w' ∧ (X.ps.length < 96 → X'.ps.length = X.ps.length + 1) ∧ (96 ≤ X.ps.length → X'.ps.length = X.ps.length) ∧ X'.next + X.ps.length = X.next + X'.ps.length ∧ Oth g off 3 w w'
theorem BookAt.add (B : BookAt w K q g off X) (hq : q ≠ 2) (hq0 : q ≠ 0) (hq1 : ∀ p, q ≠ 1000 + p) (hlt : X.ps.length < 96) {x : PgX} {A8 : Option Addr} {c8 : Nat} {w9 : World} (oA : OwnO w' K' 2 5 ePg A8 c8 (X.ps ++ [x])) (q8 : Ro (· = 2) K K' w w') (kz8 : ∀ y, w'.heap.size ≤ y → K' y = 0) (hw : w9 = w'.setCell ⟨g, off + 0, none⟩ (.slice A8 (X.ps.length + 1) c8)) (P : PgAt w K (1000 + X.ps.length) x) (O : PgOk x) :
   BookAt w9 K' q g off { X with A := A8, c := c8, ps := X.ps ++ [x] } ∧ Ro (fun z => z = q ∨ z = 2) K K' w w9 ∧ Oth g off 3 w w9 := by
 have kg : K' g = q := (q8.kk g B.hg).trans B.kg
 have q9 : Ro (· = q) K' K' w' w9 := by rw [hw]; exact Ro.cell kg _ _
 have n2 : ¬ (K g = 2) := by rw [B.kg]; exact hq
 obtain ⟨r9, t9⟩ := rng_put (j := 0) (range_roF B.rg B.hg q8 n2) (there_roF B.th B.hg q8 n2) rfl (by omega) hw
 have pp : ∀ p (y : PgX), PgAt w K (1000 + p) y → PgAt w9 K' (1000 + p) y := fun p y h => (h.ro q8 (by omega) (by omega)).ro q9 (fun e => hq1 p e.symm) (fun e => hq0 e.symm)
 refine ⟨⟨Nat.lt_of_lt_of_le B.hg (Nat.le_trans q8.size q9.size), kg, ?_, t9, oA.ro q9 (fun e => hq e.symm), fun p y hy => ?_, fun y hy => ?_, by show (X.ps ++ [x]).length ≤ 96; rw [List.length_append]; exact hlt, fun y hy => kz8 y (Nat.le_trans q9.size hy)⟩, (q8.more fun z e => .inr e).trans (q9.more fun z e => .inl e), (Oth.same (q8.same g B.hg n2)).trans (Oth.set hw (by omega))⟩
 · have : (eBk X).set 0 (.slice A8 (X.ps.length + 1) c8) = eBk { X with A := A8, c := c8, ps := X.ps ++ [x] } := by unfold eBk; rw [List.length_append]; rfl
   rw [← this]; exact r9
 · by_cases hp : p < X.ps.length
   · rw [List.getElem?_append_left hp] at hy
     exact pp p y (B.pg p y hy)
   · have hp2 := (List.getElem?_eq_some_iff.1 hy).1
     rw [List.length_append, List.length_singleton] at hp2
     obtain rfl : p = X.ps.length := by omega
     rw [List.getElem?_append_right (Nat.le_refl _), Nat.sub_self] at hy
     injection hy with hy
     subst hy
     exact pp _ _ P
 · rcases List.mem_append.1 hy with hy | hy
   · exact B.ok y hy
   · rw [List.mem_singleton.1 hy]; exact O
set_option maxRecDepth 100000 in
set_option maxHeartbeats 8000000 in
theorem bkeep_any (B : BookAt w K q g off X) (hq : q ≠ 2) (hq0 : q ≠ 0) (hq1 : ∀ p, q ≠ 1000 + p) (l : List Int) {A : Option Addr} {c n : Nat} (hn : l.length = n) (hA : X.ps.length < 96 → OwnO w K (1000 + X.ps.length) 1 eByte A c l) (hl : n ≤ 200000000) (hx : X.next < 100000) :
   Calls Tryz.prog 98 #[.pointer (some ⟨g, off, none⟩), .slice A n c] w fun e w' => e = .returned (.tuple #[]) ∧ BkP w K q g off X w' := by
 subst hn
 refine calls_vc tab_ok Tryz.func98 rfl ?_
 have hlen := B.len
 conv => whnf
 have L0 := B.l_pages (l := [g]) (by simp)
 have L2 := B.l_next (l := [g]) (by simp)
 have s0 := Sm.refl [g] w
 by_cases hlt : X.ps.length < 96
 case neg =>
   repeat ((conv => whnf); first | refine Xl (L0.at s0) ?_ | refine Xt ?_ | refine Xq ?_ | refine Xn ?_ | refine Xj ?_ | refine Xo ?_); try (conv => whnf)
   exact .mk ⟨rfl, X, K, B, Ro.refl _ _ _, fun e => absurd e hlt, fun _ => rfl, rfl, Oth.same rfl⟩
 have hA := hA hlt
 repeat ((conv => whnf); first | refine Xl (L0.at s0) ?_ | refine Xl (L2.at s0) ?_ | refine Xt ?_ | refine Xq ?_ | refine Xn ?_ | refine Xj ?_ | refine Xo ?_); try (conv => whnf)
 refine VStore.cell (by kernel_rfl) (by rw [addO_eq]; exact (B.th 2 (by omega)).1) (by rw [addO_eq]; exact (B.th 2 (by omega)).2) rfl rfl fun w1 hw1 => ?_
 have hw1' : w1 = w.setCell ⟨g, off + 2, none⟩ (.int .i64 ((X.next + 1 : Nat) : Int)) := by rw [hw1.out, addO_eq]; rfl
 clear hw1
 obtain ⟨r1, t1⟩ := rng_put (j := 2) B.rg B.th rfl (by omega) hw1'
 have q1 : Ro (· = q) K K w w1 := by rw [hw1']; exact Ro.cell B.kg _ _
 have oth1 : Oth g off 3 w w1 := Oth.set hw1' (by omega)
 clear hw1'
 have r1' : w1.rangeAt g off (eBk { X with next := X.next + 1 }) := r1
 have B1 : BookAt w1 K q g off { X with next := X.next + 1 } := ⟨Nat.lt_of_lt_of_le B.hg q1.size, B.kg, r1', t1, B.row.ro q1 (fun e => hq e.symm), fun p x hx => (B.pg p x hx).ro q1 (fun e => hq1 p e.symm) (fun e => hq0 e.symm), B.ok, B.len, fun y hy => B.kz y (Nat.le_trans q1.size hy)⟩
 have A1 := hA.ro q1 (fun e => hq1 _ e.symm)
 have N0 := B1.l_pages (l := [g]) (by simp)
 have N2 := B1.l_next (l := [g]) (by simp)
 rw [show ({ X with next := X.next + 1 } : BkX).ps.length = X.ps.length from rfl] at N0
 have s1 : Sm [g] w1 w1.drew := fun _ _ => rfl
 have hl1 : ∀ y ∈ [g], y < w1.heap.size := fun y hy => by rw [List.mem_singleton.1 hy]; exact B1.hg
 repeat ((conv => whnf); first | refine Xt ?_ | refine Xq ?_ | refine Xn ?_ | refine Xj ?_ | refine Xo ?_); try (conv => whnf)
 refine VDraw.pl 18 (.one [0, 1, 2, 3, 4, 5, 7, 9, 10, 11, 12] 6 (.one [] 8 (.one [13] 14 (.one [] 15 (.one [16, 17] 18 (.stop [])))))) (Sm [g] w1) (by kernel_rfl) (s1) ?_
 repeat ((conv => whnf); first | refine Xl N0 ?_ | refine Xl N2 ?_ | refine Xt ?_ | refine Xq ?_ | refine Xn ?_ | refine Xj ?_ | refine Xo ?_); try (conv => whnf)
 refine VBs.mk _ _ (bs27 w1.drew) ?_
 have b2 : Below w1.heap.size w1 (w1.drew.alloc (.cells #[] 5)) := (Below.refl _ w1).drew.trans ((Below.refl w1.drew.heap.size w1.drew).alloc (Nat.le_refl _) _)
 have z2 : (w1.drew.alloc (.cells #[] 5)).heap.size = w1.heap.size + 1 := World.size_alloc _ _
 generalize w1.drew.alloc (.cells #[] 5) = w2 at b2 z2 ⊢
 have hz : w1.drew.heap.size = w1.heap.size := rfl
 repeat ((conv => whnf); first | (refine VS.mk (Sm.below b2 hl1) ?_) | refine Xt ?_ | refine Xq ?_ | refine Xn ?_ | refine Xj ?_ | refine Xo ?_); try (conv => whnf)
 refine VApp.copyO w1.heap.size 1 1 _ Tryz.underlying42 info5 rfl (by decide) eByte (fun _ => rfl) one_eByte l rfl (A1.row.below b2 (Nat.le_refl _)) (by omega) (by omega) (by omega) (fun ga hga => by injection hga with hga; exact ⟨w1.drew.heap.size, 0, hga.symm, by omega, by omega⟩) fun WA wc w3 nW b3 => ?_
 have b13 : Below w1.heap.size w1 w3 := b2.trans (b3.mono b2.size)
 repeat ((conv => whnf); first | (refine VS.mk (Sm.below b13 hl1) ?_) | refine Xt ?_ | refine Xq ?_ | refine Xn ?_ | refine Xj ?_ | refine Xo ?_); try (conv => whnf)
 obtain ⟨x, hxx⟩ : ∃ x : PgX, x = ⟨A, c, l, none, 0, [], WA, wc, l, X.next + 1, false⟩ := ⟨_, rfl⟩
 refine VBuild.mk (.agg (pgA x)) (fun W' => by rw [hxx]; exact build105k W' A l.length c WA l.length wc ((X.next + 1 : Nat) : Int)) ?_
 repeat ((conv => whnf); first | refine Xt ?_ | refine Xq ?_ | refine Xn ?_ | refine Xj ?_ | refine Xo ?_); try (conv => whnf)
 refine VBs.mk _ _ (bs30 w3 x) ?_
 have c4 : Below w3.heap.size w3 (w3.alloc (.cells (pgA x) 105)) := (Below.refl _ _).alloc (Nat.le_refl _) _
 have hnc : ∀ j u, (ePg x)[j]? = some u → (w3.alloc (.cells (pgA x) 105)).cell? ⟨w3.heap.size, j, none⟩ = some u := fun j u hu => by
   have := range_new w3 (pgA x) 105 j u hu
   rwa [Nat.zero_add] at this
 generalize w3.alloc (.cells (pgA x) 105) = w4 at c4 hnc ⊢
 have b14 : Below w1.heap.size w1 w4 := b13.trans (c4.mono b13.size)
 have B4 := B1.below b14
 repeat ((conv => whnf); first | (refine VS.mk (Sm.below b14 hl1) ?_) | refine Xt ?_ | refine Xq ?_ | refine Xn ?_ | refine Xj ?_ | refine Xo ?_); try (conv => whnf)
 refine VApp.off 5 88 _ Tryz.underlying30 info105 rfl (by decide) ePg ePg_len one_ePg X.ps x rfl B4.row hnc B4.kz (by omega) (by omega) fun A8 c8 K8 w8 oA8 q8 kz8 => ?_
 have n2 : ¬ (K g = 2) := by rw [B.kg]; exact hq
 have s8 : Sm [g] w1 w8 := (Sm.below b14 hl1).trans fun y hy => q8.same y (by have := hl1 y hy; have := b14.size; omega) (by rw [List.mem_singleton.1 hy]; exact n2)
 have t8 := there_roF B4.th B4.hg q8 n2
 have P4 : PgAt w4 K (1000 + X.ps.length) x := by
   rw [hxx]
   refine ⟨A1.ro (Ro.below (R := fun _ => False) b14) id, RowB.nil _ _ _ _ _ _, ?_⟩
   refine RowB.at_ (nW.below c4).row fun y hy => B1.kz y ?_
   have := nW.lo' y hy; omega
 have O4 : PgOk x := by rw [hxx]; exact ⟨by show X.next + 1 ≤ 100000; omega, hl, .inl ⟨rfl, rfl⟩⟩
 repeat ((conv => whnf); first | (refine VS.mk s8 ?_) | refine Xt ?_ | refine Xq ?_ | refine Xn ?_ | refine Xj ?_ | refine Xo ?_); try (conv => whnf)
 refine VStore.cell (by kernel_rfl) (by rw [addO_eq]; exact (t8 0 (by omega)).1) (by rw [addO_eq]; exact (t8 0 (by omega)).2) rfl rfl fun w9 hw9 => ?_
 obtain ⟨B9, q9, oth9⟩ := B4.add hq hq0 hq1 hlt oA8 q8 kz8 (w9 := w9) (by rw [hw9.out, addO_eq]) P4 O4
 repeat ((conv => whnf); first | (refine VS.last rfl ?_) | refine Xt ?_ | refine Xq ?_ | refine Xn ?_ | refine Xj ?_ | refine Xo ?_); try (conv => whnf)
 exact .mk ⟨rfl, _, K8, B9, ((q1.more fun z e => .inl e).trans (.below b14)).trans (q9.more fun z e => e.elim .inl fun e => .inr (.inl e)), fun _ => by show (X.ps ++ [x]).length = _; rw [List.length_append]; rfl, fun e => absurd hlt (by omega), by show X.next + 1 + X.ps.length = X.next + (X.ps ++ [x]).length; rw [List.length_append]; simp; omega, (oth1.trans (Oth.same (b14.block g B1.hg))).trans oth9⟩
set_option maxRecDepth 100000 in
set_option maxHeartbeats 8000000 in
theorem bwrite_any (B : BookAt w K q g off X) (hq : q ≠ 2) (hq0 : q ≠ 0) (hq1 : ∀ p, q ≠ 1000 + p) (l : List Int) {A : Option Addr} {c n : Nat} (hn : l.length = n) (hA : X.ps.length < 96 → OwnO w K (1000 + X.ps.length) 1 eByte A c l) (hl : n ≤ 200000000) (hx : X.next < 100000) :
   Calls Tryz.prog 44 #[.pointer (some ⟨g, off, none⟩), .slice A n c] w fun e w' => e = .returned (.tuple #[]) ∧ BkP w K q g off X w' := by
 subst hn
 refine calls_vc tab_ok Tryz.func44 rfl ?_
 have hlen := B.len
 conv => whnf
 have L0 := B.l_pages (l := [g]) (by simp)
 have L2 := B.l_next (l := [g]) (by simp)
 have s0 := Sm.refl [g] w
 by_cases hlt : X.ps.length < 96
 case neg =>
   repeat ((conv => whnf); first | refine Xl (L0.at s0) ?_ | refine Xt ?_ | refine Xq ?_ | refine Xn ?_ | refine Xj ?_ | refine Xo ?_); try (conv => whnf)
   exact .mk ⟨rfl, X, K, B, Ro.refl _ _ _, fun e => absurd e hlt, fun _ => rfl, rfl, Oth.same rfl⟩
 have hA := hA hlt
 repeat ((conv => whnf); first | refine Xl (L0.at s0) ?_ | refine Xl (L2.at s0) ?_ | refine Xt ?_ | refine Xq ?_ | refine Xn ?_ | refine Xj ?_ | refine Xo ?_); try (conv => whnf)
 refine VStore.cell (by kernel_rfl) (by rw [addO_eq]; exact (B.th 2 (by omega)).1) (by rw [addO_eq]; exact (B.th 2 (by omega)).2) rfl rfl fun w1 hw1 => ?_
 have hw1' : w1 = w.setCell ⟨g, off + 2, none⟩ (.int .i64 ((X.next + 1 : Nat) : Int)) := by rw [hw1.out, addO_eq]; rfl
 clear hw1
 obtain ⟨r1, t1⟩ := rng_put (j := 2) B.rg B.th rfl (by omega) hw1'
 have q1 : Ro (· = q) K K w w1 := by rw [hw1']; exact Ro.cell B.kg _ _
 have oth1 : Oth g off 3 w w1 := Oth.set hw1' (by omega)
 clear hw1'
 have r1' : w1.rangeAt g off (eBk { X with next := X.next + 1 }) := r1
 have B1 : BookAt w1 K q g off { X with next := X.next + 1 } := ⟨Nat.lt_of_lt_of_le B.hg q1.size, B.kg, r1', t1, B.row.ro q1 (fun e => hq e.symm), fun p x hx => (B.pg p x hx).ro q1 (fun e => hq1 p e.symm) (fun e => hq0 e.symm), B.ok, B.len, fun y hy => B.kz y (Nat.le_trans q1.size hy)⟩
 have A1 := hA.ro q1 (fun e => hq1 _ e.symm)
 have N2 := B1.l_next (l := [g]) (by simp)
 repeat ((conv => whnf); first | refine Xl (N2.at (Sm.refl _ _)) ?_ | refine Xt ?_ | refine Xq ?_ | refine Xn ?_ | refine Xj ?_ | refine Xo ?_); try (conv => whnf)
 obtain ⟨x, hxx⟩ : ∃ x : PgX, x = ⟨A, c, l, none, 0, [], none, 0, [], X.next + 1, false⟩ := ⟨_, rfl⟩
 refine VBuild.mk (.agg (pgA x)) (fun W' => by rw [hxx]; exact build105w W' A l.length c ((X.next + 1 : Nat) : Int)) ?_
 repeat ((conv => whnf); first | refine Xt ?_ | refine Xq ?_ | refine Xn ?_ | refine Xj ?_ | refine Xo ?_); try (conv => whnf)
 refine .mk _ run_zero105 ?_
 conv => whnf
 refine .mk fun u3 hu3 => ?_
 repeat ((conv => whnf); first | refine Xt ?_ | refine Xq ?_ | refine Xn ?_ | refine Xj ?_ | refine Xo ?_); try (conv => whnf)
 obtain ⟨bp, hbp⟩ : ∃ bp, bp = w1.heap.size := ⟨_, rfl⟩
 refine VStore.new (c' := pgA x) hu3 (by kernel_rfl) rfl (one_pgA x) fun w3 hw3 => ?_
 rw [← hbp]
 have b3 : Below w1.heap.size w1 w3 := by rw [hw3.out]; exact (Below.refl _ _).alloc (Nat.le_refl _) _
 have z3 : w3.heap.size = w1.heap.size + 1 := by rw [hw3.out]; exact World.size_alloc _ _
 have r3 : w3.rangeAt bp 0 (ePg x) := by rw [hw3.out, hbp]; exact range_new w1 _ 105
 have t3 : w3.there bp 0 5 := by rw [hw3.out, hbp]; exact there_new w1 _ _
 clear hw3 hu3
 clear u3
 -- the local page has a role of its own
 obtain ⟨p0, hp0⟩ := hiRole K w1.heap.size B1.kz
 obtain ⟨τ, hτ⟩ : ∃ τ, τ = p0 + q + 2000 := ⟨_, rfl⟩
 have hτK : ∀ y, K y ≠ τ := fun y => by have := hp0 y; omega
 obtain ⟨K1, hK1⟩ : ∃ K1 : Nat → Nat, K1 = fun y => if y = bp then τ else K y := ⟨_, rfl⟩
 have k1b : K1 bp = τ := by rw [hK1]; exact if_pos rfl
 have k1o : ∀ y, y ≠ bp → K1 y = K y := fun y hy => by rw [hK1]; exact if_neg hy
 have q3 : Ro (fun _ => False) K K1 w1 w3 := (Ro.below b3).role fun y hy => k1o y (by omega)
 have kz3 : ∀ y, w3.heap.size ≤ y → K1 y = 0 := fun y hy => (k1o y (by omega)).trans (B1.kz y (by omega))
 have B3 := B1.ro q3 kz3 id id id fun _ _ => id
 have A3 := A1.ro q3 id
 have hxl : x.l = l := by rw [hxx]
 have hxB : x.B = A := by rw [hxx]
 have hxc : x.c = c := by rw [hxx]
 have hxi : x.id = X.next + 1 := by rw [hxx]
 have A3x : OwnO w3 K1 (1000 + X.ps.length) 1 eByte x.B x.c x.l := by rw [hxl, hxB, hxc]; exact A3
 repeat ((conv => whnf); first | refine Xt ?_ | refine Xq ?_ | refine Xn ?_ | refine Xj ?_ | refine Xo ?_); try (conv => whnf)
 refine VCall.mk _ (fill_any (ρ := 1000 + X.ps.length) (q := τ) r3 t3 (by omega) k1b (by omega) A3x (by rw [hxi]; omega) (by rw [hxl]; exact hl)) ?_
 rintro _ w4 ⟨rfl, r4, t4, A4, q4, -⟩
 refine ⟨_, rfl, ?_⟩
 obtain ⟨x4, hx4⟩ : ∃ x4 : PgX, x4 = { x with l := pats x.id x.l.length, done := true } := ⟨_, rfl⟩
 rw [← hx4] at r4
 have z4 := q4.size
 have e4l : x4.l = pats x.id x.l.length := by rw [hx4]
 have e4n : x4.l.length = x.l.length := by rw [e4l, pats_len]
 have A4x : OwnO w4 K1 (1000 + X.ps.length) 1 eByte x4.B x4.c x4.l := by rw [hx4]; exact A4
 repeat ((conv => whnf); first | refine Xt ?_ | refine Xq ?_ | refine Xn ?_ | refine Xj ?_ | refine Xo ?_); try (conv => whnf)
 refine VCall.mk _ (pgrow_any (ρ := 1000 + X.ps.length) (q := τ) r4 t4 (by omega) k1b (by omega) (fun y hy => kz3 y (by omega)) A4x (by rw [hx4]; show x.id ≤ _; rw [hxi]; omega) (by rw [e4n, hxl]; exact hl)) ?_
 rintro _ w5 ⟨rfl, G, gc, K5, r5, t5, A5, G5, q5, kz5, -⟩
 refine ⟨_, rfl, ?_⟩
 obtain ⟨x5, hx5⟩ : ∃ x5 : PgX, x5 = { x4 with G := G, gc := gc, gl := x4.l ++ pats (x4.id + 100000) 64 } := ⟨_, rfl⟩
 rw [← hx5] at r5
 have z5 := q5.size
 have q35 : Ro (fun z => z = 1000 + X.ps.length ∨ z = τ) K1 K5 w3 w5 := q4.trans q5
 have hqτ : ¬ (q = 1000 + X.ps.length ∨ q = τ) := fun e => e.elim (hq1 _) (by omega)
 have B5 := B3.ro q35 kz5 hqτ (by omega) (by omega) (fun p hp => by have hp : p < X.ps.length := hp; omega)
 have k5b : K5 bp = τ := (q35.kk bp (by omega)).trans k1b
 have N0 := B5.l_pages (l := [g, bp]) (by simp)
 rw [show ({ X with next := X.next + 1 } : BkX).ps.length = X.ps.length from rfl] at N0
 have N4 : Ld Tryz.prog 105 bp 0 (Sm [g, bp] w5) (.agg (pgA x5)) := ⟨fun W' hW => load_agg (cs := ePg x5) (by kernel_rfl) (by kernel_rfl) (range_same r5 (hW bp (by simp)))⟩
 have s5 : Sm [g, bp] w5 w5.drew := fun _ _ => rfl
 have hl5 : ∀ y ∈ [g, bp], y < w5.heap.size ∧ K5 y ≠ 2 := fun y hy => by
   simp only [List.mem_cons, List.not_mem_nil, or_false] at hy
   rcases hy with rfl | rfl
   · exact ⟨B5.hg, by rw [B5.kg]; exact hq⟩
   · exact ⟨by omega, by rw [k5b]; omega⟩
 repeat ((conv => whnf); first | refine Xt ?_ | refine Xq ?_ | refine Xn ?_ | refine Xj ?_ | refine Xo ?_); try (conv => whnf)
 refine VDraw.pl 10 (.one [0, 1, 2, 3, 4, 5] 6 (.one [] 7 (.one [8, 9] 10 (.stop [])))) (Sm [g, bp] w5) (by kernel_rfl) (s5) ?_
 repeat ((conv => whnf); first | refine Xl N0 ?_ | refine Xl N4 ?_ | refine Xt ?_ | refine Xq ?_ | refine Xn ?_ | refine Xj ?_ | refine Xo ?_); try (conv => whnf)
 refine VBs.mk _ _ (bs30 w5.drew x5) ?_
 have c6 : Below w5.heap.size w5 (w5.drew.alloc (.cells (pgA x5) 105)) := (Below.refl _ w5).drew.trans ((Below.refl w5.drew.heap.size w5.drew).alloc (Nat.le_refl _) _)
 have hnc : ∀ j u, (ePg x5)[j]? = some u → (w5.drew.alloc (.cells (pgA x5) 105)).cell? ⟨w5.drew.heap.size, j, none⟩ = some u := fun j u hu => by
   have := range_new w5.drew (pgA x5) 105 j u hu
   rwa [Nat.zero_add] at this
 generalize w5.drew.alloc (.cells (pgA x5) 105) = w6 at c6 hnc ⊢
 have B6 := B5.below c6
 have s6 : Sm [g, bp] w5 w6 := .below c6 fun y hy => (hl5 y hy).1
 repeat ((conv => whnf); first | (refine VS.mk s6 ?_) | refine Xt ?_ | refine Xq ?_ | refine Xn ?_ | refine Xj ?_ | refine Xo ?_); try (conv => whnf)
 refine VApp.off 5 88 _ Tryz.underlying30 info105 rfl (by decide) ePg ePg_len one_ePg X.ps x5 rfl B6.row hnc B6.kz (by omega) (by omega) fun A8 c8 K8 w8 oA8 q8 kz8 => ?_
 have s8 : Sm [g, bp] w5 w8 := s6.trans fun y hy => q8.same y (by have := (hl5 y hy).1; have := c6.size; omega) (hl5 y hy).2
 have n2 : ¬ (K5 g = 2) := by rw [B5.kg]; exact hq
 have t8 := there_roF B6.th B6.hg q8 n2
 have P6 : PgAt w6 K5 (1000 + X.ps.length) x5 := by
   have e1 : x5.B = x4.B := by rw [hx5]
   have e2 : x5.c = x4.c := by rw [hx5]
   have e3 : x5.l = x4.l := by rw [hx5]
   have e4 : x5.G = G := by rw [hx5]
   have e5 : x5.gl = x4.l ++ pats (x4.id + 100000) 64 := by rw [hx5]
   have e6 : x5.wl = [] := by rw [hx5, hx4, hxx]
   refine ⟨by rw [e1, e2, e3]; exact A5.ro (Ro.below (R := fun _ => False) c6) id, by rw [e4, e5]; exact G5.ro (Ro.below (R := fun _ => False) c6) id, by rw [e6]; exact RowB.nil _ _ _ _ _ _⟩
 have O6 : PgOk x5 := by
   have e3 : x5.l = pats x.id x.l.length := by rw [hx5]; exact e4l
   have e7 : x5.id = x.id := by rw [hx5, hx4]
   refine ⟨by rw [e7, hxi]; omega, by rw [e3, pats_len, hxl]; exact hl, .inr ⟨by rw [hx5, hx4], by rw [e3, e7, pats_len], ?_⟩⟩
   rw [e3, e7, pats_len, hx5]
   show x4.l ++ pats (x4.id + 100000) 64 = _
   rw [e4l, hx4]
 repeat ((conv => whnf); first | (refine VS.mk s8 ?_) | refine Xt ?_ | refine Xq ?_ | refine Xn ?_ | refine Xj ?_ | refine Xo ?_); try (conv => whnf)
 refine VStore.cell (by kernel_rfl) (by rw [addO_eq]; exact (t8 0 (by omega)).1) (by rw [addO_eq]; exact (t8 0 (by omega)).2) rfl rfl fun w9 hw9 => ?_
 obtain ⟨B9, q9, oth9⟩ := B6.add hq hq0 hq1 hlt oA8 q8 kz8 (w9 := w9) (by rw [hw9.out, addO_eq]) P6 O6
 repeat ((conv => whnf); first | (refine VS.last rfl ?_) | refine Xt ?_ | refine Xq ?_ | refine Xn ?_ | refine Xj ?_ | refine Xo ?_); try (conv => whnf)
 have q15 : Ro (fun z => z = 1000 + X.ps.length) K K5 w1 w5 := by
   have q' : Ro (fun z => z = 1000 + X.ps.length ∨ z = τ) K K5 w1 w5 := (q3.more fun _ e => e.elim).trans q35
   exact q'.less fun y _ hn e => e.elim hn (hτK y)
 exact .mk ⟨rfl, _, K8, B9, (((q1.more fun z e => .inl e).trans (q15.more fun z e => .inr (.inr ⟨hlt, e⟩))).trans (.below c6)).trans (q9.more fun z e => e.elim .inl fun e => .inr (.inl e)), fun _ => by show (X.ps ++ [x5]).length = _; rw [List.length_append]; rfl, fun e => absurd hlt (by omega), by show X.next + 1 + X.ps.length = X.next + (X.ps ++ [x5]).length; rw [List.length_append]; simp; omega, (((oth1.trans (Oth.same (b3.block g B1.hg))).trans (Oth.same (q35.same g B3.hg (by rw [B3.kg]; exact hqτ)))).trans (Oth.same (c6.block g B5.hg))).trans oth9⟩
set_option maxRecDepth 100000 in
theorem bhand_any (B : BookAt w K q g off X) (hq : q ≠ 2) (hq0 : q ≠ 0) (hq1 : ∀ p, q ≠ 1000 + p) (l : List Int) {A : Option Addr} {c n : Nat} (hn : l.length = n) (hA : X.ps.length < 96 → OwnO w K (1000 + X.ps.length) 1 eByte A c l) (hl : n ≤ 200000000) (hx : X.next < 100000) :
   Calls Tryz.prog 45 #[.pointer (some ⟨g, off, none⟩), .slice A n c] w fun e w' => e = .returned (.tuple #[]) ∧ BkP w K q g off X w' := by
 refine calls_vc tab_ok Tryz.func45 rfl ?_
 conv => whnf
 have L2 := B.l_next (l := [g]) (by simp)
 have s0 := Sm.refl [g] w
 repeat ((conv => whnf); first | refine Xl (L2.at s0) ?_ | refine Xt ?_ | refine Xq ?_ | refine Xn ?_ | refine Xj ?_ | refine Xo ?_); try (conv => whnf)
 refine VQ.bin rfl rfl rfl (fun _ => rfl) (fun W => rem_nat W X.next 2 (by omega) (by omega)) ?_
 by_cases hm : X.next % 2 = 0
 · rw [hm]
   repeat ((conv => whnf); first | refine Xt ?_ | refine Xq ?_ | refine Xn ?_ | refine Xj ?_ | refine Xo ?_); try (conv => whnf)
   refine VCall.mk _ (bkeep_any B hq hq0 hq1 l hn hA hl hx) ?_
   rintro _ w2 ⟨rfl, h2⟩
   refine ⟨_, rfl, ?_⟩
   repeat ((conv => whnf); first | refine Xt ?_ | refine Xq ?_ | refine Xn ?_ | refine Xj ?_ | refine Xo ?_); try (conv => whnf)
   exact .mk ⟨rfl, h2⟩
 · rw [show X.next % 2 = 1 by omega]
   repeat ((conv => whnf); first | refine Xt ?_ | refine Xq ?_ | refine Xn ?_ | refine Xj ?_ | refine Xo ?_); try (conv => whnf)
   refine VCall.mk _ (bwrite_any B hq hq0 hq1 l hn hA hl hx) ?_
   rintro _ w2 ⟨rfl, h2⟩
   refine ⟨_, rfl, ?_⟩
   repeat ((conv => whnf); first | refine Xt ?_ | refine Xq ?_ | refine Xn ?_ | refine Xj ?_ | refine Xo ?_); try (conv => whnf)
   exact .mk ⟨rfl, h2⟩
end
end Go.Proofs.YtoilipfgimcoiaaGreat
