/- ShD, joined. -/
import Derived.Test.YtoilipfgimcoiaaGreatOz19
set_option linter.unusedVariables false
set_option linter.unusedSimpArgs false
namespace Go.Proofs.YtoilipfgimcoiaaGreat
open Go Go.RowKit
def BodB (w : World) (K : Nat → Nat) (P : Nat) (A : Option Addr) (b : List Int) : Prop := b.length ≤ 1000000 ∧ ∃ σ, (σ = 0 ∨ (1000 ≤ σ ∧ σ < 1000 + P)) ∧ RowB w K σ 1 eByte A b
structure LsK {α : Type} (w : World) (K : Nat → Nat) (r sz : Nat) (enc : α → List Value) (x : LsX) (l : List α) : Prop where
 n : x.n = l.length
 m : x.m = l.length
 le : l.length ≤ 1000000
 o : OwnO w K r sz enc x.A x.c l
 w : RowB w K 0 sz enc x.W l
structure LsD (w : World) (K : Nat → Nat) (r sz : Nat) (mk : Int → List Value) (mark : Nat) (x : LsX) : Prop where
 le : x.n ≤ 1000000
 n2 : x.n2 = x.n + 64
 o : OwnO w K r sz mk x.A x.c (marks mark x.n)
 g : RowB w K r sz mk x.A2 (marks mark x.n ++ negs mark 64)
structure ShK (w : World) (K : Nat → Nat) (ρ P : Nat) (x : ShX) (h : List Nat) (s : List Sl) (i : List ISl) (m : List MgX) (d : List DtX) : Prop where
 fh : LsK w K (ρ + 0) 1 eNat x.h h
 fs : LsK w K (ρ + 1) 2 eSl x.s s
 fi : LsK w K (ρ + 2) 9 eIS x.i i
 fm : LsK w K (ρ + 3) 4 eMg x.m m
 fd : LsK w K (ρ + 4) 4 eDx x.d d
 mb : ∀ y ∈ m, BodB w K P y.A y.m.b
 db : ∀ y ∈ d, BodB w K P y.A y.d.b
structure ShD (w : World) (K : Nat → Nat) (ρ : Nat) (x : ShX) : Prop where
 h : LsD w K (ρ + 0) 1 mkI x.mark x.h
 s : LsD w K (ρ + 1) 2 mkS x.mark x.s
 i : LsD w K (ρ + 2) 9 mkT x.mark x.i
 m : LsD w K (ρ + 3) 4 mkM x.mark x.m
 d : LsD w K (ρ + 4) 4 mkD x.mark x.d
def ShAt (w : World) (K : Nat → Nat) (ρ P : Nat) (x : ShX) : Prop := x.mark ≤ 1000000 ∧ ((x.done = false ∧ ∃ h s i m d, ShK w K ρ P x h s i m d) ∨ (x.done = true ∧ ShD w K ρ x))
section
variable {K K' : Nat → Nat} {w w' : World} {ρ q g off P P' : Nat} {x : ShX} {Q : Nat → Prop}
theorem BodB.ro {A : Option Addr} {b : List Int} (h : BodB w K P A b) (r : Ro Q K K' w w') (h0 : ¬ Q 0) (hb : ∀ σ, 1000 ≤ σ → σ < 1000 + P → ¬ Q σ) (hP : P ≤ P') : BodB w' K' P' A b := by
 obtain ⟨h1, σ, h2, h3⟩ := h
 refine ⟨h1, σ, h2.elim .inl fun e => .inr ⟨e.1, by omega⟩, h3.ro r ?_⟩
 rcases h2 with e | ⟨e1, e2⟩
 · rw [e]; exact h0
 · exact hb σ e1 e2
theorem LsK.ro {α : Type} {r sz : Nat} {enc : α → List Value} {x : LsX} {l : List α} (h : LsK w K r sz enc x l) (q : Ro Q K K' w w') (hr : ¬ Q r) (h0 : ¬ Q 0) : LsK w' K' r sz enc x l := ⟨h.n, h.m, h.le, h.o.ro q hr, h.w.ro q h0⟩
theorem LsD.ro {r sz mark : Nat} {mk : Int → List Value} {x : LsX} (h : LsD w K r sz mk mark x) (q : Ro Q K K' w w') (hr : ¬ Q r) : LsD w' K' r sz mk mark x := ⟨h.le, h.n2, h.o.ro q hr, h.g.ro q hr⟩
theorem ShD.ro (h : ShD w K ρ x) (r : Ro Q K K' w w') (hr : ∀ z, ρ ≤ z → z < ρ + 5 → ¬ Q z) : ShD w' K' ρ x := ⟨h.h.ro r (hr _ (by omega) (by omega)), h.s.ro r (hr _ (by omega) (by omega)), h.i.ro r (hr _ (by omega) (by omega)), h.m.ro r (hr _ (by omega) (by omega)), h.d.ro r (hr _ (by omega) (by omega))⟩
theorem ShK.ro {h : List Nat} {s : List Sl} {i : List ISl} {m : List MgX} {d : List DtX} (H : ShK w K ρ P x h s i m d) (r : Ro Q K K' w w') (hr : ∀ z, ρ ≤ z → z < ρ + 5 → ¬ Q z) (h0 : ¬ Q 0) (hb : ∀ σ, 1000 ≤ σ → σ < 1000 + P → ¬ Q σ) (hP : P ≤ P') : ShK w' K' ρ P' x h s i m d := ⟨H.fh.ro r (hr _ (by omega) (by omega)) h0, H.fs.ro r (hr _ (by omega) (by omega)) h0, H.fi.ro r (hr _ (by omega) (by omega)) h0, H.fm.ro r (hr _ (by omega) (by omega)) h0, H.fd.ro r (hr _ (by omega) (by omega)) h0, fun y hy => (H.mb y hy).ro r h0 hb hP, fun y hy => (H.db y hy).ro r h0 hb hP⟩
theorem ShAt.ro (h : ShAt w K ρ P x) (r : Ro Q K K' w w') (hr : ∀ z, ρ ≤ z → z < ρ + 5 → ¬ Q z) (h0 : ¬ Q 0) (hb : ∀ σ, 1000 ≤ σ → σ < 1000 + P → ¬ Q σ) (hP : P ≤ P') : ShAt w' K' ρ P' x := by
 obtain ⟨hm, ⟨hd, a, s, i, m, d, H⟩ | ⟨hd, H⟩⟩ := h
 · exact ⟨hm, .inl ⟨hd, a, s, i, m, d, H.ro r hr h0 hb hP⟩⟩
 · exact ⟨hm, .inr ⟨hd, H.ro r hr⟩⟩
set_option maxRecDepth 100000 in
set_option maxHeartbeats 8000000 in
theorem was_any {h : List Nat} {s : List Sl} {i : List ISl} {m : List MgX} {d : List DtX} (H : ShK w K ρ P x h s i m d) : Calls Tryz.prog 114 #[.agg (shA x)] w fun e w' => e = .returned (.bool true) ∧ Below w.heap.size w w' := by
 refine calls_vc tab_ok Tryz.func114 rfl ?_
 conv => whnf
 refine .mk fun wA hwA => ?_
 obtain ⟨ba, hba⟩ : ∃ ba, ba = w.heap.size := ⟨_, rfl⟩
 rw [← hba]
 have bA : Below w.heap.size w wA := by rw [hwA.out]; exact below_box1 _ _ _
 have zA : wA.heap.size = w.heap.size + 1 := by rw [hwA.out]; simp
 have oA : wA.rangeAt ba 0 (eSh x) := by rw [hwA.out, hba]; exact range_new w _ 62
 clear hwA
 have hba1 : ba < wA.heap.size := by omega
 have L : ∀ {ty : TypeId} {j : Nat} {v : Value} {W : World}, Below wA.heap.size wA W → (eSh x)[j]? = some v → (∀ {W' : World}, W'.cell? ⟨ba, j, none⟩ = some v → (loadVar ty ⟨ba, j, none⟩).run Tryz.prog W' = .ok v W') → ∀ {l : List Nat}, ba ∈ l → Ld Tryz.prog ty ba j (Sm l W) v := fun {ty j v W} hb hv hr {l} hm => ⟨fun W' hW => hr (cell_sm (by have := (range_same oA (hb.block ba hba1)) j v hv; rwa [Nat.zero_add] at this) hm hW)⟩
 have hs1 := H.fs.n
 have hs2 := H.fs.m
 have hsl := H.fs.le
 repeat ((conv => whnf); first | refine Xt ?_ | refine Xq ?_ | refine Xn ?_ | refine Xj ?_ | refine Xo ?_); try (conv => whnf)
 refine VLoop.mk Nat (fun k => [(1, .pointer (some ⟨ba, 0, none⟩)), (3, .int .i64 k)]) (fun k W => k ≤ s.length ∧ Below wA.heap.size wA W) (fun k => s.length - k) 0 ⟨rfl, rfl, trivial⟩ ⟨Nat.zero_le _, Below.refl _ _⟩ ?_
 rintro k W ⟨hk, bW⟩
 have bwW : Below w.heap.size w W := bA.trans (bW.mono bA.size)
 have N0 : Ld Tryz.prog 57 ba 3 (Sm [ba] W) (.slice x.s.A s.length x.s.c) := by rw [← hs1]; exact L bW rfl load48 (by simp)
 have sW := Sm.refl [ba] W
 by_cases hin : k < s.length
 case pos =>
   obtain ⟨g1, o1, e1, h1, -, -, -, c1⟩ := H.fs.o.get (by omega)
   obtain ⟨g2, o2, e2, h2, -, c2⟩ := H.fs.w.get (by omega)
   obtain ⟨y, hy⟩ : ∃ y, s[k]? = some y := ⟨_, List.getElem?_eq_getElem hin⟩
   have M0 : Ld Tryz.prog 57 ba 3 (Sm [ba, g1, g2] W) (.slice x.s.A s.length x.s.c) := by rw [← hs1]; exact L bW rfl load48 (by simp)
   have M1 : Ld Tryz.prog 57 ba 5 (Sm [ba, g1, g2] W) (.slice x.s.W s.length x.s.d) := by rw [← hs2]; exact L bW rfl load48 (by simp)
   rw [e1] at M0
   rw [e2] at M1
   have Y1 : Ld Tryz.prog 46 g1 (o1 + mulO k 2) (Sm [ba, g1, g2] W) (.agg #[.int .i64 y.s, .int .i64 y.q]) := ⟨fun W' hW => load_agg (cs := eSl y) (by kernel_rfl) (by kernel_rfl) fun j u hu => cell_sm ((World.cell?_of_block (a := ⟨g1, _, none⟩) (bwW.block g1 h1)).trans (by rw [mulO_eq]; exact c1 k y hy j u hu)) (by simp) hW⟩
   have Y2 : Ld Tryz.prog 46 g2 (o2 + mulO k 2) (Sm [ba, g1, g2] W) (.agg #[.int .i64 y.s, .int .i64 y.q]) := ⟨fun W' hW => load_agg (cs := eSl y) (by kernel_rfl) (by kernel_rfl) fun j u hu => cell_sm ((World.cell?_of_block (a := ⟨g2, _, none⟩) (bwW.block g2 h2)).trans (by rw [mulO_eq]; exact c2 k y hy j u hu)) (by simp) hW⟩
   have sd : Sm [ba, g1, g2] W W.drew := fun _ _ => rfl
   repeat ((conv => whnf); first | refine Xl (N0.at sW) ?_ | refine Xt ?_ | refine Xq ?_ | refine Xn ?_ | refine Xj ?_ | refine Xo ?_); try (conv => whnf)
   refine VDraw.pl 1000 (.stop [0, 1, 2, 3, 4, 5, 6, 7, 8, 9, 10]) (Sm [ba, g1, g2] W) (by kernel_rfl) (sd) ?_
   repeat ((conv => whnf); first | refine Xl M0 ?_ | refine Xl M1 ?_ | refine Xl Y1 ?_ | refine Xl Y2 ?_ | (refine VBin.slotE ?_) | refine Xt ?_ | refine Xq ?_ | refine Xn ?_ | refine Xj ?_ | refine Xo ?_); try (conv => whnf)
   exact .mk (k + 1) ⟨rfl, rfl, trivial⟩ ⟨hin, bW.drew⟩ (by show s.length - (k + 1) < s.length - k; omega)
 have N1 : Ld Tryz.prog 56 ba 0 (Eq W) (.slice x.h.A h.length x.h.c) := by rw [← H.fh.n]; exact (L bW rfl load49 (l := [ba]) (by simp)).at sW
 have N2 : Ld Tryz.prog 56 ba 2 (Eq W) (.slice x.h.W h.length x.h.d) := by rw [← H.fh.m]; exact (L bW rfl load49 (l := [ba]) (by simp)).at sW
 have rr : ∀ {α : Type} {sz : Nat} {enc : α → List Value} {A : Option Addr} {l : List α} {V : World}, Below w.heap.size w V → RowAt w w.heap.size sz enc A l → RowAt V w.heap.size sz enc A l := fun {α sz enc A l V} hV hr => hr.below hV (Nat.le_refl _)
 repeat ((conv => whnf); first | refine Xl (N0.at sW) ?_ | refine Xl N1 ?_ | refine Xl N2 ?_ | refine Xt ?_ | refine Xq ?_ | refine Xn ?_ | refine Xj ?_ | refine Xo ?_); try (conv => whnf)
 refine VCall.mk _ (sameInts_any x.h.A x.h.W _ _ _ _ w.heap.size h h W rfl rfl (by have := bwW.size; omega) (rr bwW H.fh.o.row) (rr bwW H.fh.w.row) (by have := H.fh.le; omega)) ?_
 rintro _ W2 ⟨rfl, b2⟩
 refine ⟨_, rfl, ?_⟩
 rw [decide_eq_true rfl]
 have bV2 : Below wA.heap.size wA W2 := bW.trans (b2.mono bW.size)
 have bw2 : Below w.heap.size w W2 := bwW.trans (b2.mono bwW.size)
 have s2 := Sm.refl [ba] W2
 have N3 : Ld Tryz.prog 58 ba 6 (Eq W2) (.slice x.i.A i.length x.i.c) := by rw [← H.fi.n]; exact (L bV2 rfl loadT (l := [ba]) (by simp)).at s2
 have N4 : Ld Tryz.prog 58 ba 8 (Eq W2) (.slice x.i.W i.length x.i.d) := by rw [← H.fi.m]; exact (L bV2 rfl loadT (l := [ba]) (by simp)).at s2
 repeat ((conv => whnf); first | refine Xl N3 ?_ | refine Xl N4 ?_ | refine Xt ?_ | refine Xq ?_ | refine Xn ?_ | refine Xj ?_ | refine Xo ?_); try (conv => whnf)
 refine VCall.mk _ (sameItems_any x.i.A x.i.W _ _ _ w.heap.size i W2 rfl (by have := bw2.size; omega) (rr bw2 H.fi.o.row) (rr bw2 H.fi.w.row) (by have := H.fi.le; omega)) ?_
 rintro _ W3 ⟨rfl, b3⟩
 refine ⟨_, rfl, ?_⟩
 have bV3 : Below wA.heap.size wA W3 := bV2.trans (b3.mono bV2.size)
 have bw3 : Below w.heap.size w W3 := bw2.trans (b3.mono bw2.size)
 have s3 := Sm.refl [ba] W3
 have N5 : Ld Tryz.prog 59 ba 9 (Eq W3) (.slice x.m.A m.length x.m.c) := by rw [← H.fm.n]; exact (L bV3 rfl loadM (l := [ba]) (by simp)).at s3
 have N6 : Ld Tryz.prog 59 ba 11 (Eq W3) (.slice x.m.W m.length x.m.d) := by rw [← H.fm.m]; exact (L bV3 rfl loadM (l := [ba]) (by simp)).at s3
 have mb : ∀ y ∈ m, RowAt W3 w.heap.size 1 eByte y.A y.m.b := fun y hy => by obtain ⟨-, σ, -, hr⟩ := H.mb y hy; exact rr bw3 hr.row
 repeat ((conv => whnf); first | refine Xl N5 ?_ | refine Xl N6 ?_ | refine Xt ?_ | refine Xq ?_ | refine Xn ?_ | refine Xj ?_ | refine Xo ?_); try (conv => whnf)
 refine VCall.mk _ (sameMsgs_any x.m.A x.m.W _ _ _ w.heap.size m m W3 rfl rfl (by have := bw3.size; omega) (rr bw3 H.fm.o.row) (rr bw3 H.fm.w.row) mb mb (fun y hy => by have := (H.mb y hy).1; omega) (by have := H.fm.le; omega)) ?_
 rintro _ W4 ⟨rfl, b4⟩
 refine ⟨_, rfl, ?_⟩
 have bV4 : Below wA.heap.size wA W4 := bV3.trans (b4.mono bV3.size)
 have bw4 : Below w.heap.size w W4 := bw3.trans (b4.mono bw3.size)
 have s4 := Sm.refl [ba] W4
 have N7 : Ld Tryz.prog 60 ba 12 (Eq W4) (.slice x.d.A d.length x.d.c) := by rw [← H.fd.n]; exact (L bV4 rfl loadD (l := [ba]) (by simp)).at s4
 have N8 : Ld Tryz.prog 60 ba 14 (Eq W4) (.slice x.d.W d.length x.d.d) := by rw [← H.fd.m]; exact (L bV4 rfl loadD (l := [ba]) (by simp)).at s4
 have db : ∀ y ∈ d, RowAt W4 w.heap.size 1 eByte y.A y.d.b := fun y hy => by obtain ⟨-, σ, -, hr⟩ := H.db y hy; exact rr bw4 hr.row
 repeat ((conv => whnf); first | refine Xl N7 ?_ | refine Xl N8 ?_ | refine Xt ?_ | refine Xq ?_ | refine Xn ?_ | refine Xj ?_ | refine Xo ?_); try (conv => whnf)
 refine VCall.mk _ (sameDatas_any x.d.A x.d.W _ _ _ _ w.heap.size d d W4 rfl rfl (by have := bw4.size; omega) (rr bw4 H.fd.o.row) (rr bw4 H.fd.w.row) db db (fun y hy => by have := (H.db y hy).1; omega) (by have := H.fd.le; omega)) ?_
 rintro _ W5 ⟨rfl, b5⟩
 refine ⟨_, rfl, ?_⟩
 rw [decide_eq_true rfl]
 repeat ((conv => whnf); first | refine Xt ?_ | refine Xq ?_ | refine Xn ?_ | refine Xj ?_ | refine Xo ?_); try (conv => whnf)
 exact .mk ⟨rfl, by rw [hba]; exact bw4.trans (b5.mono bw4.size)⟩
set_option maxRecDepth 100000 in
set_option maxHeartbeats 16000000 in
theorem sshows_any (H : ShAt w K ρ P x) : Calls Tryz.prog 69 #[.agg (shA x)] w fun e w' => e = .returned (.bool true) ∧ Below w.heap.size w w' := by
 refine calls_vc tab_ok Tryz.func69 rfl ?_
 conv => whnf
 refine .mk fun wA hwA => ?_
 obtain ⟨ba, hba⟩ : ∃ ba, ba = w.heap.size := ⟨_, rfl⟩
 rw [← hba]
 have bA : Below w.heap.size w wA := by rw [hwA.out]; exact below_box1 _ _ _
 have zA : wA.heap.size = w.heap.size + 1 := by rw [hwA.out]; simp
 have oA : wA.rangeAt ba 0 (eSh x) := by rw [hwA.out, hba]; exact range_new w _ 62
 clear hwA
 have hba1 : ba < wA.heap.size := by omega
 have L : ∀ {ty : TypeId} {j : Nat} {v : Value} {W : World}, Below wA.heap.size wA W → (eSh x)[j]? = some v → (∀ {W' : World}, W'.cell? ⟨ba, j, none⟩ = some v → (loadVar ty ⟨ba, j, none⟩).run Tryz.prog W' = .ok v W') → ∀ {l : List Nat}, ba ∈ l → Ld Tryz.prog ty ba j (Sm l W) v := fun {ty j v W} hb hv hr {l} hm => ⟨fun W' hW => hr (cell_sm (by have := (range_same oA (hb.block ba hba1)) j v hv; rwa [Nat.zero_add] at this) hm hW)⟩
 have LA : ∀ {W : World}, Below wA.heap.size wA W → ∀ {l : List Nat}, ba ∈ l → Ld Tryz.prog 62 ba 0 (Sm l W) (.agg (shA x)) := fun {W} hb {l} hm => ⟨fun W' hW => load_agg (cs := eSh x) (by kernel_rfl) (by kernel_rfl) (range_same oA ((hW ba hm).trans (hb.block ba hba1)))⟩
 have bb := Below.refl wA.heap.size wA
 have s0 := Sm.refl [ba] wA
 have L16 : Ld Tryz.prog 4 ba 16 (Sm [ba] wA) (.bool x.done) := L bb rfl load4 (by simp)
 obtain ⟨hm, ⟨hd, a, s, i, m, d, H⟩ | ⟨hd, H⟩⟩ := H
 · rw [hd] at L16
   have L62 := LA bb (l := [ba]) (by simp)
   repeat ((conv => whnf); first | refine Xl (L16.at s0) ?_ | refine Xl (L62.at s0) ?_ | refine Xt ?_ | refine Xq ?_ | refine Xn ?_ | refine Xj ?_ | refine Xo ?_); try (conv => whnf)
   refine VCall.mk _ (was_any (H.ro (P' := P) (Ro.below (R := fun _ => False) bA) (fun _ _ _ => id) id (fun _ _ _ => id) (Nat.le_refl _))) ?_
   rintro _ w2 ⟨rfl, b2⟩
   refine ⟨_, rfl, ?_⟩
   repeat ((conv => whnf); first | refine Xt ?_ | refine Xq ?_ | refine Xn ?_ | refine Xj ?_ | refine Xo ?_); try (conv => whnf)
   exact .mk ⟨rfl, by rw [hba]; exact bA.trans (b2.mono bA.size)⟩
 rw [hd] at L16
 repeat ((conv => whnf); first | refine Xl (L16.at s0) ?_ | refine Xt ?_ | refine Xq ?_ | refine Xn ?_ | refine Xj ?_ | refine Xo ?_); try (conv => whnf)
 have n20 := H.h.n2
 have le0 := H.h.le
 obtain ⟨g0, o0, e0, hh0, -, cc0⟩ := H.h.g.get (by rw [List.length_append, marks_len, negs_len]; omega)
 refine VLoop.mk Nat (fun k => [(1, .pointer (some ⟨ba, 0, none⟩)), (3, .int .i64 k)]) (fun k W => k ≤ x.h.n + 64 ∧ Below wA.heap.size wA W) (fun k => x.h.n + 64 - k) 0 ⟨rfl, rfl, trivial⟩ ⟨Nat.zero_le _, bb⟩ ?_
 rintro k W ⟨hk0, bb0⟩
 have bw0 : Below w.heap.size w W := bA.trans (bb0.mono bA.size)
 have N0 : Ld Tryz.prog 56 ba 1 (Sm [ba] W) (.slice x.h.A2 (x.h.n + 64) x.h.c2) := by rw [← n20]; exact L bb0 rfl loadI (by simp)
 have sW0 := Sm.refl [ba] W
 by_cases hin0 : k < x.h.n + 64
 case pos =>
   have hget := both_get (k := x.mark) hin0
   have sd : Sm [ba, g0] W W.drew := fun _ _ => rfl
   have Y1 : Ld Tryz.prog 56 ba 1 (Sm [ba, g0] W) (.slice (some ⟨g0, o0, none⟩) (x.h.n + 64) x.h.c2) := by rw [← e0, ← n20]; exact L bb0 rfl loadI (by simp)
   have Y0 : Ld Tryz.prog 56 ba 0 (Sm [ba, g0] W) (.slice x.h.A x.h.n x.h.c) := L bb0 rfl loadI (by simp)
   have YA := LA bb0 (l := [ba, g0]) (by simp)
   have YV : Ld Tryz.prog 3 g0 (o0 + k) (Sm [ba, g0] W) (.int .i64 (atV x.mark k x.h.n)) := ⟨fun W' hW => load3 (cell_sm ((World.cell?_of_block (a := ⟨g0, _, none⟩) (bw0.block g0 hh0)).trans (by have := cc0 k _ hget 0 _ rfl; rwa [Nat.mul_one] at this)) (by simp) hW)⟩
   by_cases hkn : k < x.h.n
   case neg =>
     repeat ((conv => whnf); first | refine Xl (N0.at sW0) ?_ | refine Xt ?_ | refine Xq ?_ | refine Xn ?_ | refine Xj ?_ | refine Xo ?_); try (conv => whnf)
     refine VDraw.pl 1000 (.one [0, 1, 2, 3, 4, 5, 6, 7, 8, 9] 10 (.stop [11, 12, 13, 14, 15, 16, 17, 18, 19, 20, 21, 22, 23, 24, 25, 26, 27, 28, 29, 30])) (Sm [ba, g0] W) (by kernel_rfl) (sd) ?_
     repeat ((conv => whnf); first | refine Xl Y1 ?_ | refine Xl Y0 ?_ | refine Xl YA ?_ | refine Xl YV ?_ | refine Xt ?_ | refine Xq ?_ | refine Xn ?_ | refine Xj ?_ | refine Xo ?_); try (conv => whnf)
     refine VCall.mk _ (at_any x k x.h.n hm (by omega) (by omega) W.drew) ?_
     rintro _ w2 ⟨rfl, b2⟩
     refine ⟨_, rfl, ?_⟩
     have b2' : Below W.heap.size W w2 := (Below.refl _ W).drew.trans b2
     have s2 : Sm [ba, g0] W w2 := .below b2' fun y hy => by
       have := bb0.size
       simp only [List.mem_cons, List.not_mem_nil, or_false] at hy
       rcases hy with rfl | rfl <;> omega
     repeat ((conv => whnf); first | (refine VS.mk s2 ?_) | refine Xl Y1 ?_ | refine Xl Y0 ?_ | refine Xl YA ?_ | refine Xl YV ?_ | refine Xt ?_ | refine Xq ?_ | refine Xn ?_ | refine Xj ?_ | refine Xo ?_); try (conv => whnf)
     exact .mk (k + 1) ⟨rfl, rfl, trivial⟩ ⟨hin0, bb0.trans (b2'.mono bb0.size)⟩ (by show x.h.n + 64 - (k + 1) < x.h.n + 64 - k; omega)
   obtain ⟨f0, p0, ef, hf, -, -, -, cf⟩ := H.h.o.get (by rw [marks_len]; omega)
   have hatv : atV x.mark k x.h.n = (x.mark : Int) + k := by unfold atV; rw [if_pos hkn]
   have hmg := marks_get (k := x.mark) hkn
   have sd2 : Sm [ba, g0, f0] W W.drew := fun _ _ => rfl
   have Z1 : Ld Tryz.prog 56 ba 1 (Sm [ba, g0, f0] W) (.slice (some ⟨g0, o0, none⟩) (x.h.n + 64) x.h.c2) := Y1.mono fun W' h y hy => h y (by simp only [List.mem_cons, List.not_mem_nil, or_false] at hy ⊢; rcases hy with h | h <;> simp [h])
   have Z0 : Ld Tryz.prog 56 ba 0 (Sm [ba, g0, f0] W) (.slice (some ⟨f0, p0, none⟩) x.h.n x.h.c) := by rw [← ef]; exact L bb0 rfl loadI (by simp)
   have ZA := LA bb0 (l := [ba, g0, f0]) (by simp)
   have ZV := YV.mono (S' := Sm [ba, g0, f0] W) fun W' h y hy => h y (by simp only [List.mem_cons, List.not_mem_nil, or_false] at hy ⊢; rcases hy with h | h <;> simp [h])
   have ZM : Ld Tryz.prog 3 ba 15 (Sm [ba, g0, f0] W) (.int .i64 x.mark) := L bb0 rfl load3 (by simp)
   have ZF : Ld Tryz.prog 3 f0 (p0 + k) (Sm [ba, g0, f0] W) (.int .i64 ((x.mark : Int) + k)) := ⟨fun W' hW => load3 (cell_sm ((World.cell?_of_block (a := ⟨f0, _, none⟩) (bw0.block f0 hf)).trans (by have := cf k _ hmg 0 _ rfl; rwa [Nat.mul_one] at this)) (by simp) hW)⟩
   rw [hatv] at ZV
   repeat ((conv => whnf); first | refine Xl (N0.at sW0) ?_ | refine Xt ?_ | refine Xq ?_ | refine Xn ?_ | refine Xj ?_ | refine Xo ?_); try (conv => whnf)
   refine VDraw.pl 1000 (.one [0, 1, 2, 3, 4, 5, 6, 7, 8, 9] 10 (.stop [11, 12, 13, 14, 15, 16, 17, 18, 19, 20, 21, 22, 23, 24, 25, 26, 27, 28, 29, 30])) (Sm [ba, g0, f0] W) (by kernel_rfl) (sd2) ?_
   repeat ((conv => whnf); first | refine Xl Z1 ?_ | refine Xl Z0 ?_ | refine Xl ZA ?_ | refine Xl ZV ?_ | refine Xl ZM ?_ | refine Xl ZF ?_ | refine Xt ?_ | refine Xq ?_ | refine Xn ?_ | refine Xj ?_ | refine Xo ?_); try (conv => whnf)
   refine VCall.mk _ (at_any x k x.h.n hm (by omega) (by omega) W.drew) ?_
   rintro _ w2 ⟨rfl, b2⟩
   refine ⟨_, rfl, ?_⟩
   rw [hatv]
   have b2' : Below W.heap.size W w2 := (Below.refl _ W).drew.trans b2
   have s2 : Sm [ba, g0, f0] W w2 := .below b2' fun y hy => by
     have := bb0.size
     simp only [List.mem_cons, List.not_mem_nil, or_false] at hy
     rcases hy with rfl | rfl | rfl <;> omega
   repeat ((conv => whnf); first | (refine VS.mk s2 ?_) | refine Xl Z1 ?_ | refine Xl Z0 ?_ | refine Xl ZA ?_ | refine Xl ZV ?_ | refine Xl ZM ?_ | refine Xl ZF ?_ | refine Xt ?_ | refine Xq ?_ | refine Xn ?_ | refine Xj ?_ | refine Xo ?_); try (conv => whnf)
   exact .mk (k + 1) ⟨rfl, rfl, trivial⟩ ⟨hin0, bb0.trans (b2'.mono bb0.size)⟩ (by show x.h.n + 64 - (k + 1) < x.h.n + 64 - k; omega)
 repeat ((conv => whnf); first | refine Xl (N0.at sW0) ?_ | refine Xt ?_ | refine Xq ?_ | refine Xn ?_ | refine Xj ?_ | refine Xo ?_); try (conv => whnf)
 have n21 := H.s.n2
 have le1 := H.s.le
 obtain ⟨g1, o1, e1, hh1, -, cc1⟩ := H.s.g.get (by rw [List.length_append, marks_len, negs_len]; omega)
 refine VLoop.mk Nat (fun k => [(1, .pointer (some ⟨ba, 0, none⟩)), (4, .int .i64 k)]) (fun k W => k ≤ x.s.n + 64 ∧ Below wA.heap.size wA W) (fun k => x.s.n + 64 - k) 0 ⟨rfl, rfl, trivial⟩ ⟨Nat.zero_le _, bb0⟩ ?_
 rintro k W ⟨hk1, bb1⟩
 have bw1 : Below w.heap.size w W := bA.trans (bb1.mono bA.size)
 have N1 : Ld Tryz.prog 57 ba 4 (Sm [ba] W) (.slice x.s.A2 (x.s.n + 64) x.s.c2) := by rw [← n21]; exact L bb1 rfl loadS (by simp)
 have sW1 := Sm.refl [ba] W
 by_cases hin1 : k < x.s.n + 64
 case pos =>
   have hget := both_get (k := x.mark) hin1
   have sd : Sm [ba, g1] W W.drew := fun _ _ => rfl
   have Y1 : Ld Tryz.prog 57 ba 4 (Sm [ba, g1] W) (.slice (some ⟨g1, o1, none⟩) (x.s.n + 64) x.s.c2) := by rw [← e1, ← n21]; exact L bb1 rfl loadS (by simp)
   have Y0 : Ld Tryz.prog 57 ba 3 (Sm [ba, g1] W) (.slice x.s.A x.s.n x.s.c) := L bb1 rfl loadS (by simp)
   have YA := LA bb1 (l := [ba, g1]) (by simp)
   have YV : Ld Tryz.prog 46 g1 (o1 + mulO k 2) (Sm [ba, g1] W) (.agg #[.int .i64 (atV x.mark k x.s.n), .int .i64 0]) := ⟨fun W' hW => load_agg (cs := mkS (atV x.mark k x.s.n)) (by kernel_rfl) (by kernel_rfl) fun j u hu => cell_sm ((World.cell?_of_block (a := ⟨g1, _, none⟩) (bw1.block g1 hh1)).trans (by rw [mulO_eq]; exact cc1 k _ hget j u hu)) (by simp) hW⟩
   by_cases hkn : k < x.s.n
   case neg =>
     repeat ((conv => whnf); first | refine Xl (N1.at sW1) ?_ | refine Xt ?_ | refine Xq ?_ | refine Xn ?_ | refine Xj ?_ | refine Xo ?_); try (conv => whnf)
     refine VDraw.pl 1000 (.one [0, 1, 2, 3, 4, 5, 6, 7, 8, 9] 10 (.stop [11, 12, 13, 14, 15, 16, 17, 18, 19, 20, 21, 22, 23, 24, 25, 26, 27, 28, 29, 30, 31, 32])) (Sm [ba, g1] W) (by kernel_rfl) (sd) ?_
     repeat ((conv => whnf); first | refine Xl Y1 ?_ | refine Xl Y0 ?_ | refine Xl YA ?_ | refine Xl YV ?_ | refine Xt ?_ | refine Xq ?_ | refine Xn ?_ | refine Xj ?_ | refine Xo ?_); try (conv => whnf)
     refine VCall.mk _ (at_any x k x.s.n hm (by omega) (by omega) W.drew) ?_
     rintro _ w2 ⟨rfl, b2⟩
     refine ⟨_, rfl, ?_⟩
     have b2' : Below W.heap.size W w2 := (Below.refl _ W).drew.trans b2
     have s2 : Sm [ba, g1] W w2 := .below b2' fun y hy => by
       have := bb1.size
       simp only [List.mem_cons, List.not_mem_nil, or_false] at hy
       rcases hy with rfl | rfl <;> omega
     repeat ((conv => whnf); first | (refine VS.mk s2 ?_) | refine Xt ?_ | refine Xq ?_ | refine Xn ?_ | refine Xj ?_ | refine Xo ?_); try (conv => whnf)
     refine VBuild.mk (.agg (mkS (atV x.mark k x.s.n)).toArray) (fun W' => buildS W' (atV x.mark k x.s.n)) ?_
     repeat ((conv => whnf); first | (refine VBin.slotE ?_) | refine Xl Y1 ?_ | refine Xl Y0 ?_ | refine Xl YA ?_ | refine Xl YV ?_ | refine Xt ?_ | refine Xq ?_ | refine Xn ?_ | refine Xj ?_ | refine Xo ?_); try (conv => whnf)
     exact .mk (k + 1) ⟨rfl, rfl, trivial⟩ ⟨hin1, bb1.trans (b2'.mono bb1.size)⟩ (by show x.s.n + 64 - (k + 1) < x.s.n + 64 - k; omega)
   obtain ⟨f1, p1, ef, hf, -, -, -, cf⟩ := H.s.o.get (by rw [marks_len]; omega)
   have hatv : atV x.mark k x.s.n = (x.mark : Int) + k := by unfold atV; rw [if_pos hkn]
   have hmg := marks_get (k := x.mark) hkn
   have sd2 : Sm [ba, g1, f1] W W.drew := fun _ _ => rfl
   have Z1 : Ld Tryz.prog 57 ba 4 (Sm [ba, g1, f1] W) (.slice (some ⟨g1, o1, none⟩) (x.s.n + 64) x.s.c2) := Y1.mono fun W' h y hy => h y (by simp only [List.mem_cons, List.not_mem_nil, or_false] at hy ⊢; rcases hy with h | h <;> simp [h])
   have Z0 : Ld Tryz.prog 57 ba 3 (Sm [ba, g1, f1] W) (.slice (some ⟨f1, p1, none⟩) x.s.n x.s.c) := by rw [← ef]; exact L bb1 rfl loadS (by simp)
   have ZA := LA bb1 (l := [ba, g1, f1]) (by simp)
   have ZV := YV.mono (S' := Sm [ba, g1, f1] W) fun W' h y hy => h y (by simp only [List.mem_cons, List.not_mem_nil, or_false] at hy ⊢; rcases hy with h | h <;> simp [h])
   have ZM : Ld Tryz.prog 3 ba 15 (Sm [ba, g1, f1] W) (.int .i64 x.mark) := L bb1 rfl load3 (by simp)
   have ZF : Ld Tryz.prog 3 f1 (addO (p1 + mulO k 2) 0) (Sm [ba, g1, f1] W) (.int .i64 ((x.mark : Int) + k)) := ⟨fun W' hW => load3 (cell_sm ((World.cell?_of_block (a := ⟨f1, _, none⟩) (bw1.block f1 hf)).trans (by rw [addO_eq, mulO_eq]; exact cf k _ hmg 0 _ rfl)) (by simp) hW)⟩
   rw [hatv] at ZV
   repeat ((conv => whnf); first | refine Xl (N1.at sW1) ?_ | refine Xt ?_ | refine Xq ?_ | refine Xn ?_ | refine Xj ?_ | refine Xo ?_); try (conv => whnf)
   refine VDraw.pl 1000 (.one [0, 1, 2, 3, 4, 5, 6, 7, 8, 9] 10 (.stop [11, 12, 13, 14, 15, 16, 17, 18, 19, 20, 21, 22, 23, 24, 25, 26, 27, 28, 29, 30, 31, 32])) (Sm [ba, g1, f1] W) (by kernel_rfl) (sd2) ?_
   repeat ((conv => whnf); first | refine Xl Z1 ?_ | refine Xl Z0 ?_ | refine Xl ZA ?_ | refine Xl ZV ?_ | refine Xl ZM ?_ | refine Xl ZF ?_ | refine Xt ?_ | refine Xq ?_ | refine Xn ?_ | refine Xj ?_ | refine Xo ?_); try (conv => whnf)
   refine VCall.mk _ (at_any x k x.s.n hm (by omega) (by omega) W.drew) ?_
   rintro _ w2 ⟨rfl, b2⟩
   refine ⟨_, rfl, ?_⟩
   rw [hatv]
   have b2' : Below W.heap.size W w2 := (Below.refl _ W).drew.trans b2
   have s2 : Sm [ba, g1, f1] W w2 := .below b2' fun y hy => by
     have := bb1.size
     simp only [List.mem_cons, List.not_mem_nil, or_false] at hy
     rcases hy with rfl | rfl | rfl <;> omega
   repeat ((conv => whnf); first | (refine VS.mk s2 ?_) | refine Xt ?_ | refine Xq ?_ | refine Xn ?_ | refine Xj ?_ | refine Xo ?_); try (conv => whnf)
   refine VBuild.mk (.agg (mkS ((x.mark : Int) + k)).toArray) (fun W' => buildS W' ((x.mark : Int) + k)) ?_
   repeat ((conv => whnf); first | (refine VBin.slotE ?_) | refine Xl Z1 ?_ | refine Xl Z0 ?_ | refine Xl ZA ?_ | refine Xl ZV ?_ | refine Xl ZM ?_ | refine Xl ZF ?_ | refine Xt ?_ | refine Xq ?_ | refine Xn ?_ | refine Xj ?_ | refine Xo ?_); try (conv => whnf)
   exact .mk (k + 1) ⟨rfl, rfl, trivial⟩ ⟨hin1, bb1.trans (b2'.mono bb1.size)⟩ (by show x.s.n + 64 - (k + 1) < x.s.n + 64 - k; omega)
 repeat ((conv => whnf); first | refine Xl (N1.at sW1) ?_ | refine Xt ?_ | refine Xq ?_ | refine Xn ?_ | refine Xj ?_ | refine Xo ?_); try (conv => whnf)
 have n22 := H.i.n2
 have le2 := H.i.le
 obtain ⟨g2, o2, e2, hh2, -, cc2⟩ := H.i.g.get (by rw [List.length_append, marks_len, negs_len]; omega)
 refine VLoop.mk Nat (fun k => [(1, .pointer (some ⟨ba, 0, none⟩)), (5, .int .i64 k)]) (fun k W => k ≤ x.i.n + 64 ∧ Below wA.heap.size wA W) (fun k => x.i.n + 64 - k) 0 ⟨rfl, rfl, trivial⟩ ⟨Nat.zero_le _, bb1⟩ ?_
 rintro k W ⟨hk2, bb2⟩
 have bw2 : Below w.heap.size w W := bA.trans (bb2.mono bA.size)
 have N2 : Ld Tryz.prog 58 ba 7 (Sm [ba] W) (.slice x.i.A2 (x.i.n + 64) x.i.c2) := by rw [← n22]; exact L bb2 rfl loadT (by simp)
 have sW2 := Sm.refl [ba] W
 by_cases hin2 : k < x.i.n + 64
 case pos =>
   have hget := both_get (k := x.mark) hin2
   have sd : Sm [ba, g2] W W.drew := fun _ _ => rfl
   have Y1 : Ld Tryz.prog 58 ba 7 (Sm [ba, g2] W) (.slice (some ⟨g2, o2, none⟩) (x.i.n + 64) x.i.c2) := by rw [← e2, ← n22]; exact L bb2 rfl loadT (by simp)
   have Y0 : Ld Tryz.prog 58 ba 6 (Sm [ba, g2] W) (.slice x.i.A x.i.n x.i.c) := L bb2 rfl loadT (by simp)
   have YA := LA bb2 (l := [ba, g2]) (by simp)
   have YV : Ld Tryz.prog 3 g2 (addO (o2 + mulO k 9) 0) (Sm [ba, g2] W) (.int .i64 (atV x.mark k x.i.n)) := ⟨fun W' hW => load3 (cell_sm ((World.cell?_of_block (a := ⟨g2, _, none⟩) (bw2.block g2 hh2)).trans (by rw [addO_eq, mulO_eq]; exact cc2 k _ hget 0 _ rfl)) (by simp) hW)⟩
   have YZ : Ld Tryz.prog 3 g2 (addO (o2 + mulO k 9) 5) (Sm [ba, g2] W) (.int .i64 0) := ⟨fun W' hW => load3 (cell_sm ((World.cell?_of_block (a := ⟨g2, _, none⟩) (bw2.block g2 hh2)).trans (by rw [addO_eq, mulO_eq]; exact cc2 k _ hget 5 _ rfl)) (by simp) hW)⟩
   by_cases hkn : k < x.i.n
   case neg =>
     repeat ((conv => whnf); first | refine Xl (N2.at sW2) ?_ | refine Xt ?_ | refine Xq ?_ | refine Xn ?_ | refine Xj ?_ | refine Xo ?_); try (conv => whnf)
     refine VDraw.pl 1000 (.one [0, 1, 2, 3, 4, 5, 6, 7, 8, 9, 10] 11 (.stop [12, 13, 14, 15, 16, 17, 18, 19, 20, 21, 22, 23, 24, 25, 26, 27, 28, 29, 30, 31, 32, 33, 34, 35, 36, 37, 38, 39, 40, 41])) (Sm [ba, g2] W) (by kernel_rfl) (sd) ?_
     repeat ((conv => whnf); first | refine Xl Y1 ?_ | refine Xl Y0 ?_ | refine Xl YA ?_ | refine Xl YV ?_ | refine Xl YZ ?_ | refine Xt ?_ | refine Xq ?_ | refine Xn ?_ | refine Xj ?_ | refine Xo ?_); try (conv => whnf)
     refine VCall.mk _ (at_any x k x.i.n hm (by omega) (by omega) W.drew) ?_
     rintro _ w2 ⟨rfl, b2⟩
     refine ⟨_, rfl, ?_⟩
     have b2' : Below W.heap.size W w2 := (Below.refl _ W).drew.trans b2
     have s2 : Sm [ba, g2] W w2 := .below b2' fun y hy => by
       have := bb2.size
       simp only [List.mem_cons, List.not_mem_nil, or_false] at hy
       rcases hy with rfl | rfl <;> omega
     repeat ((conv => whnf); first | (refine VS.mk s2 ?_) | refine Xl Y1 ?_ | refine Xl Y0 ?_ | refine Xl YA ?_ | refine Xl YV ?_ | refine Xl YZ ?_ | refine Xt ?_ | refine Xq ?_ | refine Xn ?_ | refine Xj ?_ | refine Xo ?_); try (conv => whnf)
     exact .mk (k + 1) ⟨rfl, rfl, trivial⟩ ⟨hin2, bb2.trans (b2'.mono bb2.size)⟩ (by show x.i.n + 64 - (k + 1) < x.i.n + 64 - k; omega)
   obtain ⟨f2, p2, ef, hf, -, -, -, cf⟩ := H.i.o.get (by rw [marks_len]; omega)
   have hatv : atV x.mark k x.i.n = (x.mark : Int) + k := by unfold atV; rw [if_pos hkn]
   have hmg := marks_get (k := x.mark) hkn
   have sd2 : Sm [ba, g2, f2] W W.drew := fun _ _ => rfl
   have Z1 : Ld Tryz.prog 58 ba 7 (Sm [ba, g2, f2] W) (.slice (some ⟨g2, o2, none⟩) (x.i.n + 64) x.i.c2) := Y1.mono fun W' h y hy => h y (by simp only [List.mem_cons, List.not_mem_nil, or_false] at hy ⊢; rcases hy with h | h <;> simp [h])
   have Z0 : Ld Tryz.prog 58 ba 6 (Sm [ba, g2, f2] W) (.slice (some ⟨f2, p2, none⟩) x.i.n x.i.c) := by rw [← ef]; exact L bb2 rfl loadT (by simp)
   have ZA := LA bb2 (l := [ba, g2, f2]) (by simp)
   have ZV := YV.mono (S' := Sm [ba, g2, f2] W) fun W' h y hy => h y (by simp only [List.mem_cons, List.not_mem_nil, or_false] at hy ⊢; rcases hy with h | h <;> simp [h])
   have ZM : Ld Tryz.prog 3 ba 15 (Sm [ba, g2, f2] W) (.int .i64 x.mark) := L bb2 rfl load3 (by simp)
   have ZF : Ld Tryz.prog 3 f2 (addO (p2 + mulO k 9) 0) (Sm [ba, g2, f2] W) (.int .i64 ((x.mark : Int) + k)) := ⟨fun W' hW => load3 (cell_sm ((World.cell?_of_block (a := ⟨f2, _, none⟩) (bw2.block f2 hf)).trans (by rw [addO_eq, mulO_eq]; exact cf k _ hmg 0 _ rfl)) (by simp) hW)⟩
   have ZZ := YZ.mono (S' := Sm [ba, g2, f2] W) fun W' h y hy => h y (by simp only [List.mem_cons, List.not_mem_nil, or_false] at hy ⊢; rcases hy with h | h <;> simp [h])
   rw [hatv] at ZV
   repeat ((conv => whnf); first | refine Xl (N2.at sW2) ?_ | refine Xt ?_ | refine Xq ?_ | refine Xn ?_ | refine Xj ?_ | refine Xo ?_); try (conv => whnf)
   refine VDraw.pl 1000 (.one [0, 1, 2, 3, 4, 5, 6, 7, 8, 9, 10] 11 (.stop [12, 13, 14, 15, 16, 17, 18, 19, 20, 21, 22, 23, 24, 25, 26, 27, 28, 29, 30, 31, 32, 33, 34, 35, 36, 37, 38, 39, 40, 41])) (Sm [ba, g2, f2] W) (by kernel_rfl) (sd2) ?_
   repeat ((conv => whnf); first | refine Xl Z1 ?_ | refine Xl Z0 ?_ | refine Xl ZA ?_ | refine Xl ZV ?_ | refine Xl ZM ?_ | refine Xl ZF ?_ | refine Xl ZZ ?_ | refine Xt ?_ | refine Xq ?_ | refine Xn ?_ | refine Xj ?_ | refine Xo ?_); try (conv => whnf)
   refine VCall.mk _ (at_any x k x.i.n hm (by omega) (by omega) W.drew) ?_
   rintro _ w2 ⟨rfl, b2⟩
   refine ⟨_, rfl, ?_⟩
   rw [hatv]
   have b2' : Below W.heap.size W w2 := (Below.refl _ W).drew.trans b2
   have s2 : Sm [ba, g2, f2] W w2 := .below b2' fun y hy => by
     have := bb2.size
     simp only [List.mem_cons, List.not_mem_nil, or_false] at hy
     rcases hy with rfl | rfl | rfl <;> omega
   repeat ((conv => whnf); first | (refine VS.mk s2 ?_) | refine Xl Z1 ?_ | refine Xl Z0 ?_ | refine Xl ZA ?_ | refine Xl ZV ?_ | refine Xl ZM ?_ | refine Xl ZF ?_ | refine Xl ZZ ?_ | refine Xt ?_ | refine Xq ?_ | refine Xn ?_ | refine Xj ?_ | refine Xo ?_); try (conv => whnf)
   exact .mk (k + 1) ⟨rfl, rfl, trivial⟩ ⟨hin2, bb2.trans (b2'.mono bb2.size)⟩ (by show x.i.n + 64 - (k + 1) < x.i.n + 64 - k; omega)
 repeat ((conv => whnf); first | refine Xl (N2.at sW2) ?_ | refine Xt ?_ | refine Xq ?_ | refine Xn ?_ | refine Xj ?_ | refine Xo ?_); try (conv => whnf)
 have n23 := H.m.n2
 have le3 := H.m.le
 obtain ⟨g3, o3, e3, hh3, -, cc3⟩ := H.m.g.get (by rw [List.length_append, marks_len, negs_len]; omega)
 refine VLoop.mk Nat (fun k => [(1, .pointer (some ⟨ba, 0, none⟩)), (6, .int .i64 k)]) (fun k W => k ≤ x.m.n + 64 ∧ Below wA.heap.size wA W) (fun k => x.m.n + 64 - k) 0 ⟨rfl, rfl, trivial⟩ ⟨Nat.zero_le _, bb2⟩ ?_
 rintro k W ⟨hk3, bb3⟩
 have bw3 : Below w.heap.size w W := bA.trans (bb3.mono bA.size)
 have N3 : Ld Tryz.prog 59 ba 10 (Sm [ba] W) (.slice x.m.A2 (x.m.n + 64) x.m.c2) := by rw [← n23]; exact L bb3 rfl loadM (by simp)
 have sW3 := Sm.refl [ba] W
 by_cases hin3 : k < x.m.n + 64
 case pos =>
   have hget := both_get (k := x.mark) hin3
   have sd : Sm [ba, g3] W W.drew := fun _ _ => rfl
   have Y1 : Ld Tryz.prog 59 ba 10 (Sm [ba, g3] W) (.slice (some ⟨g3, o3, none⟩) (x.m.n + 64) x.m.c2) := by rw [← e3, ← n23]; exact L bb3 rfl loadM (by simp)
   have Y0 : Ld Tryz.prog 59 ba 9 (Sm [ba, g3] W) (.slice x.m.A x.m.n x.m.c) := L bb3 rfl loadM (by simp)
   have YA := LA bb3 (l := [ba, g3]) (by simp)
   have YV : Ld Tryz.prog 3 g3 (addO (o3 + mulO k 4) 0) (Sm [ba, g3] W) (.int .i64 (atV x.mark k x.m.n)) := ⟨fun W' hW => load3 (cell_sm ((World.cell?_of_block (a := ⟨g3, _, none⟩) (bw3.block g3 hh3)).trans (by rw [addO_eq, mulO_eq]; exact cc3 k _ hget 0 _ rfl)) (by simp) hW)⟩
   have YZ : Ld Tryz.prog 3 g3 (addO (o3 + mulO k 4) 2) (Sm [ba, g3] W) (.int .i64 0) := ⟨fun W' hW => load3 (cell_sm ((World.cell?_of_block (a := ⟨g3, _, none⟩) (bw3.block g3 hh3)).trans (by rw [addO_eq, mulO_eq]; exact cc3 k _ hget 2 _ rfl)) (by simp) hW)⟩
   by_cases hkn : k < x.m.n
   case neg =>
     repeat ((conv => whnf); first | refine Xl (N3.at sW3) ?_ | refine Xt ?_ | refine Xq ?_ | refine Xn ?_ | refine Xj ?_ | refine Xo ?_); try (conv => whnf)
     refine VDraw.pl 1000 (.one [0, 1, 2, 3, 4, 5, 6, 7, 8, 9, 10] 11 (.stop [12, 13, 14, 15, 16, 17, 18, 19, 20, 21, 22, 23, 24, 25, 26, 27, 28, 29, 30, 31, 32, 33, 34, 35, 36, 37, 38, 39, 40, 41])) (Sm [ba, g3] W) (by kernel_rfl) (sd) ?_
     repeat ((conv => whnf); first | refine Xl Y1 ?_ | refine Xl Y0 ?_ | refine Xl YA ?_ | refine Xl YV ?_ | refine Xl YZ ?_ | refine Xt ?_ | refine Xq ?_ | refine Xn ?_ | refine Xj ?_ | refine Xo ?_); try (conv => whnf)
     refine VCall.mk _ (at_any x k x.m.n hm (by omega) (by omega) W.drew) ?_
     rintro _ w2 ⟨rfl, b2⟩
     refine ⟨_, rfl, ?_⟩
     have b2' : Below W.heap.size W w2 := (Below.refl _ W).drew.trans b2
     have s2 : Sm [ba, g3] W w2 := .below b2' fun y hy => by
       have := bb3.size
       simp only [List.mem_cons, List.not_mem_nil, or_false] at hy
       rcases hy with rfl | rfl <;> omega
     repeat ((conv => whnf); first | (refine VS.mk s2 ?_) | refine Xl Y1 ?_ | refine Xl Y0 ?_ | refine Xl YA ?_ | refine Xl YV ?_ | refine Xl YZ ?_ | refine Xt ?_ | refine Xq ?_ | refine Xn ?_ | refine Xj ?_ | refine Xo ?_); try (conv => whnf)
     exact .mk (k + 1) ⟨rfl, rfl, trivial⟩ ⟨hin3, bb3.trans (b2'.mono bb3.size)⟩ (by show x.m.n + 64 - (k + 1) < x.m.n + 64 - k; omega)
   obtain ⟨f3, p3, ef, hf, -, -, -, cf⟩ := H.m.o.get (by rw [marks_len]; omega)
   have hatv : atV x.mark k x.m.n = (x.mark : Int) + k := by unfold atV; rw [if_pos hkn]
   have hmg := marks_get (k := x.mark) hkn
   have sd2 : Sm [ba, g3, f3] W W.drew := fun _ _ => rfl
   have Z1 : Ld Tryz.prog 59 ba 10 (Sm [ba, g3, f3] W) (.slice (some ⟨g3, o3, none⟩) (x.m.n + 64) x.m.c2) := Y1.mono fun W' h y hy => h y (by simp only [List.mem_cons, List.not_mem_nil, or_false] at hy ⊢; rcases hy with h | h <;> simp [h])
   have Z0 : Ld Tryz.prog 59 ba 9 (Sm [ba, g3, f3] W) (.slice (some ⟨f3, p3, none⟩) x.m.n x.m.c) := by rw [← ef]; exact L bb3 rfl loadM (by simp)
   have ZA := LA bb3 (l := [ba, g3, f3]) (by simp)
   have ZV := YV.mono (S' := Sm [ba, g3, f3] W) fun W' h y hy => h y (by simp only [List.mem_cons, List.not_mem_nil, or_false] at hy ⊢; rcases hy with h | h <;> simp [h])
   have ZM : Ld Tryz.prog 3 ba 15 (Sm [ba, g3, f3] W) (.int .i64 x.mark) := L bb3 rfl load3 (by simp)
   have ZF : Ld Tryz.prog 3 f3 (addO (p3 + mulO k 4) 0) (Sm [ba, g3, f3] W) (.int .i64 ((x.mark : Int) + k)) := ⟨fun W' hW => load3 (cell_sm ((World.cell?_of_block (a := ⟨f3, _, none⟩) (bw3.block f3 hf)).trans (by rw [addO_eq, mulO_eq]; exact cf k _ hmg 0 _ rfl)) (by simp) hW)⟩
   have ZZ := YZ.mono (S' := Sm [ba, g3, f3] W) fun W' h y hy => h y (by simp only [List.mem_cons, List.not_mem_nil, or_false] at hy ⊢; rcases hy with h | h <;> simp [h])
   rw [hatv] at ZV
   repeat ((conv => whnf); first | refine Xl (N3.at sW3) ?_ | refine Xt ?_ | refine Xq ?_ | refine Xn ?_ | refine Xj ?_ | refine Xo ?_); try (conv => whnf)
   refine VDraw.pl 1000 (.one [0, 1, 2, 3, 4, 5, 6, 7, 8, 9, 10] 11 (.stop [12, 13, 14, 15, 16, 17, 18, 19, 20, 21, 22, 23, 24, 25, 26, 27, 28, 29, 30, 31, 32, 33, 34, 35, 36, 37, 38, 39, 40, 41])) (Sm [ba, g3, f3] W) (by kernel_rfl) (sd2) ?_
   repeat ((conv => whnf); first | refine Xl Z1 ?_ | refine Xl Z0 ?_ | refine Xl ZA ?_ | refine Xl ZV ?_ | refine Xl ZM ?_ | refine Xl ZF ?_ | refine Xl ZZ ?_ | refine Xt ?_ | refine Xq ?_ | refine Xn ?_ | refine Xj ?_ | refine Xo ?_); try (conv => whnf)
   refine VCall.mk _ (at_any x k x.m.n hm (by omega) (by omega) W.drew) ?_
   rintro _ w2 ⟨rfl, b2⟩
   refine ⟨_, rfl, ?_⟩
   rw [hatv]
   have b2' : Below W.heap.size W w2 := (Below.refl _ W).drew.trans b2
   have s2 : Sm [ba, g3, f3] W w2 := .below b2' fun y hy => by
     have := bb3.size
     simp only [List.mem_cons, List.not_mem_nil, or_false] at hy
     rcases hy with rfl | rfl | rfl <;> omega
   repeat ((conv => whnf); first | (refine VS.mk s2 ?_) | refine Xl Z1 ?_ | refine Xl Z0 ?_ | refine Xl ZA ?_ | refine Xl ZV ?_ | refine Xl ZM ?_ | refine Xl ZF ?_ | refine Xl ZZ ?_ | refine Xt ?_ | refine Xq ?_ | refine Xn ?_ | refine Xj ?_ | refine Xo ?_); try (conv => whnf)
   exact .mk (k + 1) ⟨rfl, rfl, trivial⟩ ⟨hin3, bb3.trans (b2'.mono bb3.size)⟩ (by show x.m.n + 64 - (k + 1) < x.m.n + 64 - k; omega)
 repeat ((conv => whnf); first | refine Xl (N3.at sW3) ?_ | refine Xt ?_ | refine Xq ?_ | refine Xn ?_ | refine Xj ?_ | refine Xo ?_); try (conv => whnf)
 have n24 := H.d.n2
 have le4 := H.d.le
 obtain ⟨g4, o4, e4, hh4, -, cc4⟩ := H.d.g.get (by rw [List.length_append, marks_len, negs_len]; omega)
 refine VLoop.mk Nat (fun k => [(1, .pointer (some ⟨ba, 0, none⟩)), (7, .int .i64 k)]) (fun k W => k ≤ x.d.n + 64 ∧ Below wA.heap.size wA W) (fun k => x.d.n + 64 - k) 0 ⟨rfl, rfl, trivial⟩ ⟨Nat.zero_le _, bb3⟩ ?_
 rintro k W ⟨hk4, bb4⟩
 have bw4 : Below w.heap.size w W := bA.trans (bb4.mono bA.size)
 have N4 : Ld Tryz.prog 60 ba 13 (Sm [ba] W) (.slice x.d.A2 (x.d.n + 64) x.d.c2) := by rw [← n24]; exact L bb4 rfl loadD (by simp)
 have sW4 := Sm.refl [ba] W
 by_cases hin4 : k < x.d.n + 64
 case pos =>
   have hget := both_get (k := x.mark) hin4
   have sd : Sm [ba, g4] W W.drew := fun _ _ => rfl
   have Y1 : Ld Tryz.prog 60 ba 13 (Sm [ba, g4] W) (.slice (some ⟨g4, o4, none⟩) (x.d.n + 64) x.d.c2) := by rw [← e4, ← n24]; exact L bb4 rfl loadD (by simp)
   have Y0 : Ld Tryz.prog 60 ba 12 (Sm [ba, g4] W) (.slice x.d.A x.d.n x.d.c) := L bb4 rfl loadD (by simp)
   have YA := LA bb4 (l := [ba, g4]) (by simp)
   have YV : Ld Tryz.prog 3 g4 (addO (o4 + mulO k 4) 1) (Sm [ba, g4] W) (.int .i64 (atV x.mark k x.d.n)) := ⟨fun W' hW => load3 (cell_sm ((World.cell?_of_block (a := ⟨g4, _, none⟩) (bw4.block g4 hh4)).trans (by rw [addO_eq, mulO_eq]; exact cc4 k _ hget 1 _ rfl)) (by simp) hW)⟩
   have YZ : Ld Tryz.prog 3 g4 (addO (o4 + mulO k 4) 2) (Sm [ba, g4] W) (.int .i64 0) := ⟨fun W' hW => load3 (cell_sm ((World.cell?_of_block (a := ⟨g4, _, none⟩) (bw4.block g4 hh4)).trans (by rw [addO_eq, mulO_eq]; exact cc4 k _ hget 2 _ rfl)) (by simp) hW)⟩
   by_cases hkn : k < x.d.n
   case neg =>
     repeat ((conv => whnf); first | refine Xl (N4.at sW4) ?_ | refine Xt ?_ | refine Xq ?_ | refine Xn ?_ | refine Xj ?_ | refine Xo ?_); try (conv => whnf)
     refine VDraw.pl 1000 (.one [0, 1, 2, 3, 4, 5, 6, 7, 8, 9, 10] 11 (.stop [12, 13, 14, 15, 16, 17, 18, 19, 20, 21, 22, 23, 24, 25, 26, 27, 28, 29, 30, 31, 32, 33, 34, 35, 36, 37, 38, 39, 40, 41])) (Sm [ba, g4] W) (by kernel_rfl) (sd) ?_
     repeat ((conv => whnf); first | refine Xl Y1 ?_ | refine Xl Y0 ?_ | refine Xl YA ?_ | refine Xl YV ?_ | refine Xl YZ ?_ | refine Xt ?_ | refine Xq ?_ | refine Xn ?_ | refine Xj ?_ | refine Xo ?_); try (conv => whnf)
     refine VCall.mk _ (at_any x k x.d.n hm (by omega) (by omega) W.drew) ?_
     rintro _ w2 ⟨rfl, b2⟩
     refine ⟨_, rfl, ?_⟩
     have b2' : Below W.heap.size W w2 := (Below.refl _ W).drew.trans b2
     have s2 : Sm [ba, g4] W w2 := .below b2' fun y hy => by
       have := bb4.size
       simp only [List.mem_cons, List.not_mem_nil, or_false] at hy
       rcases hy with rfl | rfl <;> omega
     repeat ((conv => whnf); first | (refine VS.mk s2 ?_) | refine Xl Y1 ?_ | refine Xl Y0 ?_ | refine Xl YA ?_ | refine Xl YV ?_ | refine Xl YZ ?_ | refine Xt ?_ | refine Xq ?_ | refine Xn ?_ | refine Xj ?_ | refine Xo ?_); try (conv => whnf)
     exact .mk (k + 1) ⟨rfl, rfl, trivial⟩ ⟨hin4, bb4.trans (b2'.mono bb4.size)⟩ (by show x.d.n + 64 - (k + 1) < x.d.n + 64 - k; omega)
   obtain ⟨f4, p4, ef, hf, -, -, -, cf⟩ := H.d.o.get (by rw [marks_len]; omega)
   have hatv : atV x.mark k x.d.n = (x.mark : Int) + k := by unfold atV; rw [if_pos hkn]
   have hmg := marks_get (k := x.mark) hkn
   have sd2 : Sm [ba, g4, f4] W W.drew := fun _ _ => rfl
   have Z1 : Ld Tryz.prog 60 ba 13 (Sm [ba, g4, f4] W) (.slice (some ⟨g4, o4, none⟩) (x.d.n + 64) x.d.c2) := Y1.mono fun W' h y hy => h y (by simp only [List.mem_cons, List.not_mem_nil, or_false] at hy ⊢; rcases hy with h | h <;> simp [h])
   have Z0 : Ld Tryz.prog 60 ba 12 (Sm [ba, g4, f4] W) (.slice (some ⟨f4, p4, none⟩) x.d.n x.d.c) := by rw [← ef]; exact L bb4 rfl loadD (by simp)
   have ZA := LA bb4 (l := [ba, g4, f4]) (by simp)
   have ZV := YV.mono (S' := Sm [ba, g4, f4] W) fun W' h y hy => h y (by simp only [List.mem_cons, List.not_mem_nil, or_false] at hy ⊢; rcases hy with h | h <;> simp [h])
   have ZM : Ld Tryz.prog 3 ba 15 (Sm [ba, g4, f4] W) (.int .i64 x.mark) := L bb4 rfl load3 (by simp)
   have ZF : Ld Tryz.prog 3 f4 (addO (p4 + mulO k 4) 1) (Sm [ba, g4, f4] W) (.int .i64 ((x.mark : Int) + k)) := ⟨fun W' hW => load3 (cell_sm ((World.cell?_of_block (a := ⟨f4, _, none⟩) (bw4.block f4 hf)).trans (by rw [addO_eq, mulO_eq]; exact cf k _ hmg 1 _ rfl)) (by simp) hW)⟩
   have ZZ := YZ.mono (S' := Sm [ba, g4, f4] W) fun W' h y hy => h y (by simp only [List.mem_cons, List.not_mem_nil, or_false] at hy ⊢; rcases hy with h | h <;> simp [h])
   rw [hatv] at ZV
   repeat ((conv => whnf); first | refine Xl (N4.at sW4) ?_ | refine Xt ?_ | refine Xq ?_ | refine Xn ?_ | refine Xj ?_ | refine Xo ?_); try (conv => whnf)
   refine VDraw.pl 1000 (.one [0, 1, 2, 3, 4, 5, 6, 7, 8, 9, 10] 11 (.stop [12, 13, 14, 15, 16, 17, 18, 19, 20, 21, 22, 23, 24, 25, 26, 27, 28, 29, 30, 31, 32, 33, 34, 35, 36, 37, 38, 39, 40, 41])) (Sm [ba, g4, f4] W) (by kernel_rfl) (sd2) ?_
   repeat ((conv => whnf); first | refine Xl Z1 ?_ | refine Xl Z0 ?_ | refine Xl ZA ?_ | refine Xl ZV ?_ | refine Xl ZM ?_ | refine Xl ZF ?_ | refine Xl ZZ ?_ | refine Xt ?_ | refine Xq ?_ | refine Xn ?_ | refine Xj ?_ | refine Xo ?_); try (conv => whnf)
   refine VCall.mk _ (at_any x k x.d.n hm (by omega) (by omega) W.drew) ?_
   rintro _ w2 ⟨rfl, b2⟩
   refine ⟨_, rfl, ?_⟩
   rw [hatv]
   have b2' : Below W.heap.size W w2 := (Below.refl _ W).drew.trans b2
   have s2 : Sm [ba, g4, f4] W w2 := .below b2' fun y hy => by
     have := bb4.size
     simp only [List.mem_cons, List.not_mem_nil, or_false] at hy
     rcases hy with rfl | rfl | rfl <;> omega
   repeat ((conv => whnf); first | (refine VS.mk s2 ?_) | refine Xl Z1 ?_ | refine Xl Z0 ?_ | refine Xl ZA ?_ | refine Xl ZV ?_ | refine Xl ZM ?_ | refine Xl ZF ?_ | refine Xl ZZ ?_ | refine Xt ?_ | refine Xq ?_ | refine Xn ?_ | refine Xj ?_ | refine Xo ?_); try (conv => whnf)
   exact .mk (k + 1) ⟨rfl, rfl, trivial⟩ ⟨hin4, bb4.trans (b2'.mono bb4.size)⟩ (by show x.d.n + 64 - (k + 1) < x.d.n + 64 - k; omega)
 repeat ((conv => whnf); first | refine Xl (N4.at sW4) ?_ | refine Xt ?_ | refine Xq ?_ | refine Xn ?_ | refine Xj ?_ | refine Xo ?_); try (conv => whnf)
 exact .mk ⟨rfl, by rw [hba]; exact bw4⟩
end
end Go.Proofs.YtoilipfgimcoiaaGreat
