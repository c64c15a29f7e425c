/- PlA, joined. -/
import Derived.Test.YtoilipfgimcoiaaGreatOz20
set_option linter.unusedVariables false
set_option linter.unusedSimpArgs false
namespace Go.Proofs.YtoilipfgimcoiaaGreat
open Go Go.RowKit
structure PyX where
 pb : Nat → Option Nat
 db : Nat → Option Nat
 bk : BkX
 A : Option Addr
 c : Nat
 sh : List ShX
def ptr (b : Option Nat) : Value := .pointer (b.map fun b => ⟨b, 0, none⟩)
def ePy (Y : PyX) : List Value := [ptr (Y.pb 0), ptr (Y.pb 1), ptr (Y.pb 2), ptr (Y.db 0), ptr (Y.db 1), ptr (Y.db 2), .slice Y.bk.A Y.bk.ps.length Y.bk.c, .slice none 0 0, .int .i64 Y.bk.next, .slice Y.A Y.sh.length Y.c]
def shR (k : Nat) : Nat := 100000 + 8 * k
structure PyB (w : World) (K : Nat → Nat) (b : Nat) (Y : PyX) : Prop where
 hb : b < w.heap.size
 kb : K b = 1
 rg : w.rangeAt b 0 (ePy Y)
 th : w.there b 0 10
 bk : BookAt w K 1 b 6 Y.bk
 row : OwnO w K 3 17 eSh Y.A Y.c Y.sh
 sl : Y.sh.length ≤ 36
 sh : ∀ (k : Nat) (x : ShX), Y.sh[k]? = some x → ShAt w K (shR k) Y.bk.ps.length x
 nx : Y.bk.next = Y.bk.ps.length
theorem load34 {w : World} {b j n c : Nat} {A : Option Addr} (h : w.cell? ⟨b, j, none⟩ = some (.slice A n c)) : (loadVar 34 ⟨b, j, none⟩).run Tryz.prog w = .ok (.slice A n c) w := by go_simp
section
variable {K K' : Nat → Nat} {w w' : World} {b : Nat} {Y : PyX} {Q : Nat → Prop}
theorem PyB.ro (h : PyB w K b Y) (r : Ro Q K K' w w') (kz : ∀ y, w'.heap.size ≤ y → K' y = 0) (hQ : ∀ z, Q z → (100 ≤ z ∧ z < 300) ∨ shR Y.sh.length ≤ z) : PyB w' K' b Y := by
 have n : ∀ {z}, ¬ ((100 ≤ z ∧ z < 300) ∨ shR Y.sh.length ≤ z) → ¬ Q z := fun hz hq => hz (hQ _ hq)
 have hsr : 100000 ≤ shR Y.sh.length := by unfold shR; omega
 have n1 : ¬ Q (K b) := by rw [h.kb]; exact n (by omega)
 have hl := h.sl
 have hp := h.bk.len
 exact ⟨Nat.lt_of_lt_of_le h.hb r.size, (r.kk b h.hb).trans h.kb, range_roF h.rg h.hb r n1, there_roF h.th h.hb r n1, h.bk.ro r kz (n (by omega)) (n (by omega)) (n (by omega)) fun p hp => n (by omega), h.row.ro r (n (by omega)), h.sl, fun k x hx => (h.sh k x hx).ro r (fun z h1 h2 => n (by have := (List.getElem?_eq_some_iff.1 hx).1; unfold shR at *; omega)) (n (by omega)) (fun σ h1 h2 => n (by omega)) (Nat.le_refl _), h.nx⟩
theorem PyB.below (h : PyB w K b Y) (hb : Below w.heap.size w w') : PyB w' K b Y :=
 h.ro (Q := fun _ => False) (.below hb) (fun y hy => h.bk.kz y (Nat.le_trans hb.size hy)) fun _ e => e.elim
theorem PyB.l_sheets {l : List Nat} (h : PyB w K b Y) (hl : b ∈ l) : Ld Tryz.prog 34 b 9 (Sm l w) (.slice Y.A Y.sh.length Y.c) := ⟨fun _ hW => load34 (cell_sm (h.rg 9 _ rfl) hl hW)⟩
set_option maxRecDepth 100000 in
set_option maxHeartbeats 8000000 in
theorem intact_any (B : PyB w K b Y) : Calls Tryz.prog 18 #[.pointer (some ⟨b, 0, none⟩)] w fun e w' => e = .returned (.bool true) ∧ Below w.heap.size w w' := by
 refine calls_vc tab_ok Tryz.func18 rfl ?_
 have hlen := B.sl
 conv => whnf
 repeat ((conv => whnf); first | refine Xt ?_ | refine Xq ?_ | refine Xn ?_ | refine Xj ?_ | refine Xo ?_); try (conv => whnf)
 refine VLoop.mk Nat (fun i => [(0, .pointer (some ⟨b, 0, none⟩)), (3, .int .i64 i)]) (fun i W => i ≤ Y.sh.length ∧ Below w.heap.size w W) (fun i => Y.sh.length - i) 0 ⟨rfl, rfl, trivial⟩ ⟨Nat.zero_le _, Below.refl _ _⟩ ?_
 rintro i W ⟨hi, bW⟩
 have BW := B.below bW
 have L0 := BW.l_sheets (l := [b]) (by simp)
 have s0 := Sm.refl [b] W
 by_cases hin : i < Y.sh.length
 case pos =>
   obtain ⟨gP, oP, eP, gP1, -, -, -, gP5⟩ := BW.row.get (by omega)
   obtain ⟨x, hx⟩ : ∃ x, Y.sh[i]? = some x := ⟨_, List.getElem?_eq_getElem hin⟩
   rw [eP] at L0
   have L1 : Ld Tryz.prog 62 gP (oP + mulO i 17) (Eq W) (.agg (shA x)) := .of (load_agg (cs := eSh x) (by kernel_rfl) (by kernel_rfl) fun j u hu => by rw [mulO_eq]; exact gP5 i x hx j u hu)
   repeat ((conv => whnf); first | refine Xl (L0.at s0) ?_ | refine Xl L1 ?_ | refine Xt ?_ | refine Xq ?_ | refine Xn ?_ | refine Xj ?_ | refine Xo ?_); try (conv => whnf)
   refine VCall.mk _ (sshows_any (BW.sh i x hx)) ?_
   rintro _ W2 ⟨rfl, b2⟩
   refine ⟨_, rfl, ?_⟩
   repeat ((conv => whnf); first | refine Xt ?_ | refine Xq ?_ | refine Xn ?_ | refine Xj ?_ | refine Xo ?_); try (conv => whnf)
   exact .mk (i + 1) ⟨rfl, rfl, trivial⟩ ⟨hin, bW.trans (b2.mono bW.size)⟩ (by show Y.sh.length - (i + 1) < Y.sh.length - i; omega)
 repeat ((conv => whnf); first | refine Xl (L0.at s0) ?_ | refine Xt ?_ | refine Xq ?_ | refine Xn ?_ | refine Xj ?_ | refine Xo ?_); try (conv => whnf)
 refine VCall.mk _ (bintact_any BW.bk) ?_
 rintro _ W2 ⟨rfl, b2⟩
 refine ⟨_, rfl, ?_⟩
 repeat ((conv => whnf); first | refine Xt ?_ | refine Xq ?_ | refine Xn ?_ | refine Xj ?_ | refine Xo ?_); try (conv => whnf)
 exact .mk ⟨rfl, bW.trans (b2.mono bW.size)⟩
end
def BkK (w : World) (K : Nat → Nat) (q g off : Nat) (X : BkX) (w' : World) : Prop := ∃ X' K', BookAt w' K' q g off X' ∧ Ro (fun z => z = q ∨ z = 2) K K' w w' ∧ (X.ps.length < 96 → X'.ps.length = X.ps.length + 1) ∧ (96 ≤ X.ps.length → X'.ps.length = X.ps.length) ∧ X'.next + X.ps.length = X.next + X'.ps.length ∧ Oth g off 3 w w'
section
variable {K K' : Nat → Nat} {w w' : World} {q g off : Nat} {X : BkX}
set_option maxRecDepth 100000 in
set_option maxHeartbeats 8000000 in
theorem bkeepK_any (B : BookAt w K q g off X) (hq : q ≠ 2) (hq0 : q ≠ 0) (hq1 : ∀ p, q ≠ 1000 + p) (l : List Int) {A : Option Addr} {c n : Nat} (hn : l.length = n) (hA : X.ps.length < 96 → OwnO w K (1000 + X.ps.length) 1 eByte A c l) (hl : n ≤ 200000000) (hx : X.next < 100000) :
   Calls Tryz.prog 98 #[.pointer (some ⟨g, off, none⟩), .slice A n c] w fun e w' => e = .returned (.tuple #[]) ∧ BkK w K q g off X w' := by
 subst hn
 refine calls_vc tab_ok Tryz.func98 rfl ?_
 have hlen := B.len
 conv => whnf
 have L0 := B.l_pages (l := [g]) (by simp)
 have L2 := B.l_next (l := [g]) (by simp)
 have s0 := Sm.refl [g] w
 by_cases hlt : X.ps.length < 96
 case neg =>
   repeat ((conv => whnf); first | refine Xl (L0.at s0) ?_ | refine Xt ?_ | refine Xq ?_ | refine Xn ?_ | refine Xj ?_ | refine Xo ?_); try (conv => whnf)
   exact .mk ⟨rfl, X, K, B, Ro.refl _ _ _, fun e => absurd e hlt, fun _ => rfl, rfl, Oth.same rfl⟩
 have hA := hA hlt
 repeat ((conv => whnf); first | refine Xl (L0.at s0) ?_ | refine Xl (L2.at s0) ?_ | refine Xt ?_ | refine Xq ?_ | refine Xn ?_ | refine Xj ?_ | refine Xo ?_); try (conv => whnf)
 refine VStore.cell (by kernel_rfl) (by rw [addO_eq]; exact (B.th 2 (by omega)).1) (by rw [addO_eq]; exact (B.th 2 (by omega)).2) rfl rfl fun w1 hw1 => ?_
 have hw1' : w1 = w.setCell ⟨g, off + 2, none⟩ (.int .i64 ((X.next + 1 : Nat) : Int)) := by rw [hw1.out, addO_eq]; rfl
 clear hw1
 obtain ⟨r1, t1⟩ := rng_put (j := 2) B.rg B.th rfl (by omega) hw1'
 have q1 : Ro (· = q) K K w w1 := by rw [hw1']; exact Ro.cell B.kg _ _
 have oth1 : Oth g off 3 w w1 := Oth.set hw1' (by omega)
 clear hw1'
 have r1' : w1.rangeAt g off (eBk { X with next := X.next + 1 }) := r1
 have B1 : BookAt w1 K q g off { X with next := X.next + 1 } := ⟨Nat.lt_of_lt_of_le B.hg q1.size, B.kg, r1', t1, B.row.ro q1 (fun e => hq e.symm), fun p x hx => (B.pg p x hx).ro q1 (fun e => hq1 p e.symm) (fun e => hq0 e.symm), B.ok, B.len, fun y hy => B.kz y (Nat.le_trans q1.size hy)⟩
 have A1 := hA.ro q1 (fun e => hq1 _ e.symm)
 have N0 := B1.l_pages (l := [g]) (by simp)
 have N2 := B1.l_next (l := [g]) (by simp)
 rw [show ({ X with next := X.next + 1 } : BkX).ps.length = X.ps.length from rfl] at N0
 have s1 : Sm [g] w1 w1.drew := fun _ _ => rfl
 have hl1 : ∀ y ∈ [g], y < w1.heap.size := fun y hy => by rw [List.mem_singleton.1 hy]; exact B1.hg
 repeat ((conv => whnf); first | refine Xt ?_ | refine Xq ?_ | refine Xn ?_ | refine Xj ?_ | refine Xo ?_); try (conv => whnf)
 refine VDraw.pl 18 (.one [0, 1, 2, 3, 4, 5, 7, 9, 10, 11, 12] 6 (.one [] 8 (.one [13] 14 (.one [] 15 (.one [16, 17] 18 (.stop [])))))) (Sm [g] w1) (by kernel_rfl) (s1) ?_
 repeat ((conv => whnf); first | refine Xl N0 ?_ | refine Xl N2 ?_ | refine Xt ?_ | refine Xq ?_ | refine Xn ?_ | refine Xj ?_ | refine Xo ?_); try (conv => whnf)
 refine VBs.mk _ _ (bs27 w1.drew) ?_
 have b2 : Below w1.heap.size w1 (w1.drew.alloc (.cells #[] 5)) := (Below.refl _ w1).drew.trans ((Below.refl w1.drew.heap.size w1.drew).alloc (Nat.le_refl _) _)
 have z2 : (w1.drew.alloc (.cells #[] 5)).heap.size = w1.heap.size + 1 := World.size_alloc _ _
 generalize w1.drew.alloc (.cells #[] 5) = w2 at b2 z2 ⊢
 have hz : w1.drew.heap.size = w1.heap.size := rfl
 repeat ((conv => whnf); first | (refine VS.mk (Sm.below b2 hl1) ?_) | refine Xt ?_ | refine Xq ?_ | refine Xn ?_ | refine Xj ?_ | refine Xo ?_); try (conv => whnf)
 refine VApp.copyO w1.heap.size 1 1 _ Tryz.underlying42 info5 rfl (by decide) eByte (fun _ => rfl) one_eByte l rfl (A1.row.below b2 (Nat.le_refl _)) (by omega) (by omega) (by omega) (fun ga hga => by injection hga with hga; exact ⟨w1.drew.heap.size, 0, hga.symm, by omega, by omega⟩) fun WA wc w3 nW b3 => ?_
 have b13 : Below w1.heap.size w1 w3 := b2.trans (b3.mono b2.size)
 repeat ((conv => whnf); first | (refine VS.mk (Sm.below b13 hl1) ?_) | refine Xt ?_ | refine Xq ?_ | refine Xn ?_ | refine Xj ?_ | refine Xo ?_); try (conv => whnf)
 obtain ⟨x, hxx⟩ : ∃ x : PgX, x = ⟨A, c, l, none, 0, [], WA, wc, l, X.next + 1, false⟩ := ⟨_, rfl⟩
 refine VBuild.mk (.agg (pgA x)) (fun W' => by rw [hxx]; exact build105k W' A l.length c WA l.length wc ((X.next + 1 : Nat) : Int)) ?_
 repeat ((conv => whnf); first | refine Xt ?_ | refine Xq ?_ | refine Xn ?_ | refine Xj ?_ | refine Xo ?_); try (conv => whnf)
 refine VBs.mk _ _ (bs30 w3 x) ?_
 have c4 : Below w3.heap.size w3 (w3.alloc (.cells (pgA x) 105)) := (Below.refl _ _).alloc (Nat.le_refl _) _
 have hnc : ∀ j u, (ePg x)[j]? = some u → (w3.alloc (.cells (pgA x) 105)).cell? ⟨w3.heap.size, j, none⟩ = some u := fun j u hu => by
   have := range_new w3 (pgA x) 105 j u hu
   rwa [Nat.zero_add] at this
 generalize w3.alloc (.cells (pgA x) 105) = w4 at c4 hnc ⊢
 have b14 : Below w1.heap.size w1 w4 := b13.trans (c4.mono b13.size)
 have B4 := B1.below b14
 repeat ((conv => whnf); first | (refine VS.mk (Sm.below b14 hl1) ?_) | refine Xt ?_ | refine Xq ?_ | refine Xn ?_ | refine Xj ?_ | refine Xo ?_); try (conv => whnf)
 refine VApp.off 5 88 _ Tryz.underlying30 info105 rfl (by decide) ePg ePg_len one_ePg X.ps x rfl B4.row hnc B4.kz (by omega) (by omega) fun A8 c8 K8 w8 oA8 q8 kz8 => ?_
 have n2 : ¬ (K g = 2) := by rw [B.kg]; exact hq
 have s8 : Sm [g] w1 w8 := (Sm.below b14 hl1).trans fun y hy => q8.same y (by have := hl1 y hy; have := b14.size; omega) (by rw [List.mem_singleton.1 hy]; exact n2)
 have t8 := there_roF B4.th B4.hg q8 n2
 have P4 : PgAt w4 K (1000 + X.ps.length) x := by
   rw [hxx]
   refine ⟨A1.ro (Ro.below (R := fun _ => False) b14) id, RowB.nil _ _ _ _ _ _, ?_⟩
   refine RowB.at_ (nW.below c4).row fun y hy => B1.kz y ?_
   have := nW.lo' y hy; omega
 have O4 : PgOk x := by rw [hxx]; exact ⟨by show X.next + 1 ≤ 100000; omega, hl, .inl ⟨rfl, rfl⟩⟩
 repeat ((conv => whnf); first | (refine VS.mk s8 ?_) | refine Xt ?_ | refine Xq ?_ | refine Xn ?_ | refine Xj ?_ | refine Xo ?_); try (conv => whnf)
 refine VStore.cell (by kernel_rfl) (by rw [addO_eq]; exact (t8 0 (by omega)).1) (by rw [addO_eq]; exact (t8 0 (by omega)).2) rfl rfl fun w9 hw9 => ?_
 obtain ⟨B9, q9, oth9⟩ := B4.add hq hq0 hq1 hlt oA8 q8 kz8 (w9 := w9) (by rw [hw9.out, addO_eq]) P4 O4
 repeat ((conv => whnf); first | (refine VS.last rfl ?_) | refine Xt ?_ | refine Xq ?_ | refine Xn ?_ | refine Xj ?_ | refine Xo ?_); try (conv => whnf)
 exact .mk ⟨rfl, _, K8, B9, ((q1.more fun z e => .inl e).trans (.below b14)).trans q9, fun _ => by show (X.ps ++ [x]).length = _; rw [List.length_append]; rfl, fun e => absurd hlt (by omega), by show X.next + 1 + X.ps.length = X.next + (X.ps ++ [x]).length; rw [List.length_append]; simp; omega, (oth1.trans (Oth.same (b14.block g B1.hg))).trans oth9⟩
end
section
variable {K K' : Nat → Nat} {w w' : World} {b : Nat} {Y : PyX} {Q : Nat → Prop}
def kpQ (t : Bool) (n z : Nat) : Prop := z = 1 ∨ z = 2 ∨ z = 3 ∨ (t = true ∧ 1000 + n ≤ z)
def bdQ (t : Bool) (n z : Nat) : Prop := z = 1 ∨ z = 2 ∨ (t = true ∧ n < 96 ∧ z = 1000 + n)
theorem PyB.book (B : PyB w K b Y) {X' : BkX} (h : BookAt w' K' 1 b 6 X') (r : Ro (fun z => z = 1 ∨ z = 2 ∨ (Y.bk.ps.length < 96 ∧ z = 1000 + Y.bk.ps.length)) K K' w w') (hle : Y.bk.ps.length ≤ X'.ps.length) (hnx : X'.next + Y.bk.ps.length = Y.bk.next + X'.ps.length) (ho : Oth b 6 3 w w') : PyB w' K' b { Y with bk := X' } := by
 have hl := B.sl
 have hnx0 := B.nx
 refine ⟨Nat.lt_of_lt_of_le B.hb r.size, (r.kk b B.hb).trans B.kb, fun j u hu => ?_, ho.there _ _ B.th, h, B.row.ro r (by omega), B.sl, fun k x hx => ?_, by show X'.next = X'.ps.length; omega⟩
 · have hj : j < 10 := (List.getElem?_eq_some_iff.1 hu).1
   by_cases h6 : 6 ≤ j ∧ j < 9
   · obtain ⟨i, rfl⟩ : ∃ i, j = 6 + i := ⟨j - 6, by omega⟩
     have := h.rg i u (by
       have hi : i < 3 := by omega
       match i, hi with
       | 0, _ => exact hu
       | 1, _ => exact hu
       | 2, _ => exact hu)
     rw [Nat.zero_add]
     exact this
   · refine ho.cell _ _ (by omega) (B.rg j u ?_)
     rw [← hu]
     match j, hj with
     | 0, _ => rfl
     | 1, _ => rfl
     | 2, _ => rfl
     | 3, _ => rfl
     | 4, _ => rfl
     | 5, _ => rfl
     | 6, _ => exact absurd ⟨by omega, by omega⟩ h6
     | 7, _ => exact absurd ⟨by omega, by omega⟩ h6
     | 8, _ => exact absurd ⟨by omega, by omega⟩ h6
     | 9, _ => rfl
 · have hk := (List.getElem?_eq_some_iff.1 hx).1
   exact (B.sh k x hx).ro r (fun z h1 h2 => by unfold shR at h1; have := B.bk.len; omega) (by omega) (fun σ h1 h2 => by omega) hle
set_option maxRecDepth 100000 in
theorem body_any (B : PyB w K b Y) (touch : Bool) (l : List Int) {A : Option Addr} {c n : Nat} (hn : l.length = n) (hA : Y.bk.ps.length < 96 → OwnO w K (1000 + Y.bk.ps.length) 1 eByte A c l) (hl : n ≤ 200000000) :
   Calls Tryz.prog 108 #[.pointer (some ⟨b, 0, none⟩), .slice A n c, .bool touch] w fun e w' => e = .returned (.tuple #[]) ∧ ∃ X' K', PyB w' K' b { Y with bk := X' } ∧ Ro (bdQ touch Y.bk.ps.length) K K' w w' ∧ X'.ps.length = (if Y.bk.ps.length < 96 then Y.bk.ps.length + 1 else Y.bk.ps.length) := by
 refine calls_vc tab_ok Tryz.func108 rfl ?_
 have hnx := B.nx
 have hpl := B.bk.len
 conv => whnf
 cases touch with
 | true =>
   repeat ((conv => whnf); first | refine Xt ?_ | refine Xq ?_ | refine Xn ?_ | refine Xj ?_ | refine Xo ?_); try (conv => whnf)
   refine VCall.mk _ (bwrite_any B.bk (by omega) (by omega) (fun p => by omega) l hn hA hl (by omega)) ?_
   rintro _ w2 ⟨rfl, h2⟩
   refine ⟨_, rfl, ?_⟩
   repeat ((conv => whnf); first | refine Xt ?_ | refine Xq ?_ | refine Xn ?_ | refine Xj ?_ | refine Xo ?_); try (conv => whnf)
   obtain ⟨X', K', h1, h2, h3, h4, h5, h6⟩ := h2
   refine .mk ⟨rfl, X', K', B.book h1 h2 (by rcases Nat.lt_or_ge Y.bk.ps.length 96 with h | h; have := h3 h; omega; have := h4 h; omega) h5 h6, h2.more fun z e => ?_, ?_⟩
   · unfold bdQ
     rcases e with e | e | ⟨e1, e⟩
     · exact .inl e
     · exact .inr (.inl e)
     · exact .inr (.inr ⟨rfl, e1, e⟩)
   · split
     · rename_i h; exact h3 h
     · rename_i h; exact h4 (by omega)
 | false =>
   repeat ((conv => whnf); first | refine Xt ?_ | refine Xq ?_ | refine Xn ?_ | refine Xj ?_ | refine Xo ?_); try (conv => whnf)
   refine VCall.mk _ (bkeepK_any B.bk (by omega) (by omega) (fun p => by omega) l hn hA hl (by omega)) ?_
   rintro _ w2 ⟨rfl, h2⟩
   refine ⟨_, rfl, ?_⟩
   repeat ((conv => whnf); first | refine Xt ?_ | refine Xq ?_ | refine Xn ?_ | refine Xj ?_ | refine Xo ?_); try (conv => whnf)
   obtain ⟨X', K', h1, h2, h3, h4, h5, h6⟩ := h2
   refine .mk ⟨rfl, X', K', B.book h1 (h2.more fun z e => e.elim .inl fun e => .inr (.inl e)) (by rcases Nat.lt_or_ge Y.bk.ps.length 96 with h | h; have := h3 h; omega; have := h4 h; omega) h5 h6, h2.more fun z e => ?_, ?_⟩
   · unfold bdQ
     exact e.elim .inl fun e => .inr (.inl e)
   · split
     · rename_i h; exact h3 h
     · rename_i h; exact h4 (by omega)
end
end Go.Proofs.YtoilipfgimcoiaaGreat
