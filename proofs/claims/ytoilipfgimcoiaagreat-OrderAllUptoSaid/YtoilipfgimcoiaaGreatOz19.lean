/- ShB ShC, joined. -/
import Derived.Test.YtoilipfgimcoiaaGreatOz18
set_option linter.unusedVariables false
set_option linter.unusedSimpArgs false
namespace Go.Proofs.YtoilipfgimcoiaaGreat
open Go Go.RowKit
theorem bsI (W : World) (v : Int) : (Instr.buildSlice 56 1 #[(0, .int .i64 v)]).run Tryz.prog W = .ok (.slice (some ⟨W.heap.size, 0, none⟩) 1 1) (W.alloc (.cells (mkI v).toArray 3)) := by kernel_rfl
theorem bsS (W : World) (v : Int) : (Instr.buildSlice 57 1 #[(0, .agg (mkS v).toArray)]).run Tryz.prog W = .ok (.slice (some ⟨W.heap.size, 0, none⟩) 1 1) (W.alloc (.cells (mkS v).toArray 46)) := by kernel_rfl
theorem bsT (W : World) (v : Int) : (Instr.buildSlice 58 1 #[(0, .agg (mkT v).toArray)]).run Tryz.prog W = .ok (.slice (some ⟨W.heap.size, 0, none⟩) 1 1) (W.alloc (.cells (mkT v).toArray 48)) := by kernel_rfl
theorem bsM (W : World) (v : Int) : (Instr.buildSlice 59 1 #[(0, .agg (mkM v).toArray)]).run Tryz.prog W = .ok (.slice (some ⟨W.heap.size, 0, none⟩) 1 1) (W.alloc (.cells (mkM v).toArray 82)) := by kernel_rfl
theorem bsD (W : World) (v : Int) : (Instr.buildSlice 60 1 #[(0, .agg (mkD v).toArray)]).run Tryz.prog W = .ok (.slice (some ⟨W.heap.size, 0, none⟩) 1 1) (W.alloc (.cells (mkD v).toArray 44)) := by kernel_rfl
def TwoO {α : Type} (w : World) (K : Nat → Nat) (r sz : Nat) (enc : α → List Value) (A : Option Addr) (c : Nat) (l : List α) (A2 : Option Addr) (c2 : Nat) (l2 : List α) : Prop := OwnO w K r sz enc A c l ∧ OwnO w K r sz enc A2 c2 l2 ∧ ((A2 = A ∧ c2 = c ∧ ∃ m, l2 = l ++ m) ∨ ∀ g, blk A = some g → blk A2 ≠ some g)
section
variable {α : Type} {K K' : Nat → Nat} {w w' : World} {r sz c c2 c' : Nat} {enc : α → List Value} {A A2 A' : Option Addr} {l l2 : List α} {Q : Nat → Prop}
theorem TwoO.ro (h : TwoO w K r sz enc A c l A2 c2 l2) (q : Ro Q K K' w w') (hr : ¬ Q r) : TwoO w' K' r sz enc A c l A2 c2 l2 := ⟨h.1.ro q hr, h.2.1.ro q hr, h.2.2⟩
theorem TwoO.step (h : TwoO w K r sz enc A c l A2 c2 l2) {y : α} (o : OwnO w' K' r sz enc A' c' (l2 ++ [y])) (q : Ro (· = r) K K' w w') (hw : (A' = A2 ∧ c' = c2 ∧ A2 ≠ none ∧ w.grownBy w' (blk A2)) ∨ ((∀ g, blk A' = some g → w.heap.size ≤ g) ∧ w.grownBy w' none)) : TwoO w' K' r sz enc A c l A' c' (l2 ++ [y]) := by
 obtain ⟨h1, h2, h3⟩ := h
 have kk : ∀ g, blk A = some g → K' g = K g := fun g hg => q.kk g (h1.rl g hg).1
 rcases hw with ⟨e1, e2, -, hg⟩ | ⟨hn, hg⟩
 · rcases h3 with ⟨e3, e4, m, e5⟩ | h3
   · subst e1 e2 e3 e4 e5
     rw [List.append_assoc] at o ⊢
     exact ⟨o.pre, o, .inl ⟨rfl, rfl, _, rfl⟩⟩
   · exact ⟨h1.keepG hg h3 kk, o, .inr (by rw [e1]; exact h3)⟩
 · exact ⟨h1.keepG hg (fun _ _ e => by cases e) kk, o, .inr fun g hg2 e => by
     have := hn g e
     have := (h1.rl g hg2).1
     omega⟩
end
structure Gr1 (w : World) (K : Nat → Nat) (r sz : Nat) (mk : Int → List Value) (mark : Nat) (x y : LsX) (k : Nat) : Prop where
 eA : y.A = x.A
 en : y.n = x.n
 ec : y.c = x.c
 eW : y.W = x.W
 em : y.m = x.m
 ed : y.d = x.d
 n2 : y.n2 = x.n + k
 two : TwoO w K r sz mk x.A x.c (marks mark x.n) y.A2 y.c2 (marks mark x.n ++ negs mark k)
theorem Gr1.ro {w w' : World} {K K' : Nat → Nat} {Q : Nat → Prop} {r sz : Nat} {mk : Int → List Value} {mark : Nat} {x y : LsX} {k : Nat} (h : Gr1 w K r sz mk mark x y k) (q : Ro Q K K' w w') (hr : ¬ Q r) : Gr1 w' K' r sz mk mark x y k := ⟨h.eA, h.en, h.ec, h.eW, h.em, h.ed, h.n2, h.two.ro q hr⟩
structure GrS (w : World) (K : Nat → Nat) (x : ShX) (g off q ρ : Nat) (k0 k1 k2 k3 k4 : Nat) (y : ShX) (Kk : Nat → Nat) (W : World) : Prop where
 P : W.rangeAt g off (eSh y)
 T : W.there g off 17
 hg : g < W.heap.size
 kg : Kk g = q
 hq : ¬ (ρ ≤ q ∧ q < ρ + 5)
 me : y.mark = x.mark
 dn : y.done = x.done
 G0 : Gr1 W Kk (ρ + 0) 1 mkI x.mark x.h y.h k0
 G1 : Gr1 W Kk (ρ + 1) 2 mkS x.mark x.s y.s k1
 G2 : Gr1 W Kk (ρ + 2) 9 mkT x.mark x.i y.i k2
 G3 : Gr1 W Kk (ρ + 3) 4 mkM x.mark x.m y.m k3
 G4 : Gr1 W Kk (ρ + 4) 4 mkD x.mark x.d y.d k4
 ro : Ro (shQ ρ q) K Kk w W
 kz : ∀ y, W.heap.size ≤ y → Kk y = 0
 oth : Oth g off 17 w W
section
variable {K Kk K8 : Nat → Nat} {w W w8 w9 : World} {ρ q g off k0 k1 k2 k3 k4 : Nat} {x y : ShX}
theorem GrS.below (S : GrS w K x g off q ρ k0 k1 k2 k3 k4 y Kk W) {W' : World} (h : Below W.heap.size W W') : GrS w K x g off q ρ k0 k1 k2 k3 k4 y Kk W' := by
 have r : Ro (fun _ => False) Kk Kk W W' := .below h
 exact ⟨range_same S.P (h.block g S.hg), there_same S.T (h.block g S.hg), Nat.lt_of_lt_of_le S.hg h.size, S.kg, S.hq, S.me, S.dn, S.G0.ro r id, S.G1.ro r id, S.G2.ro r id, S.G3.ro r id, S.G4.ro r id, S.ro.trans (.below h), fun y hy => S.kz y (Nat.le_trans h.size hy), S.oth.trans (Oth.same (h.block g S.hg))⟩
theorem GrS.step0 (S : GrS w K x g off q ρ k0 k1 k2 k3 k4 y Kk W) {A8 : Option Addr} {c8 : Nat} (oA : OwnO w8 K8 (ρ + 0) 1 mkI A8 c8 ((marks x.mark x.h.n ++ negs x.mark k0) ++ [0 - (x.mark : Int) - k0])) (q8 : Ro (· = ρ + 0) Kk K8 W w8) (kz8 : ∀ y, w8.heap.size ≤ y → K8 y = 0)
   (hwh : (A8 = y.h.A2 ∧ c8 = y.h.c2 ∧ y.h.A2 ≠ none ∧ W.grownBy w8 (blk y.h.A2)) ∨ ((∀ g, blk A8 = some g → W.heap.size ≤ g) ∧ W.grownBy w8 none)) (hw : w9 = w8.setCell ⟨g, off + 1, none⟩ (.slice A8 (y.h.n2 + 1) c8)) :
   GrS w K x g off q ρ (k0 + 1) k1 k2 k3 k4 { y with h := { y.h with A2 := A8, n2 := y.h.n2 + 1, c2 := c8 } } K8 w9 := by
 have hq := S.hq
 have n1 : ¬ (Kk g = ρ + 0) := by rw [S.kg]; omega
 have b8 := q8.same g S.hg n1
 have kg8 : K8 g = q := (q8.kk g S.hg).trans S.kg
 have q9 : Ro (· = q) K8 K8 w8 w9 := by rw [hw]; exact Ro.cell kg8 _ _
 obtain ⟨r9, t9⟩ := rng_put (j := 1) (range_same S.P b8) (there_same S.T b8) rfl (by omega) hw
 have two := (S.G0.two.step oA q8 hwh).ro q9 (by omega)
 rw [List.append_assoc, ← negs_succ] at two
 exact ⟨r9, t9, Nat.lt_of_lt_of_le S.hg (Nat.le_trans q8.size q9.size), kg8, hq, S.me, S.dn, ⟨S.G0.eA, S.G0.en, S.G0.ec, S.G0.eW, S.G0.em, S.G0.ed, by show y.h.n2 + 1 = _; rw [S.G0.n2]; rfl, two⟩, (S.G1.ro q8 (by omega)).ro q9 (by omega), (S.G2.ro q8 (by omega)).ro q9 (by omega), (S.G3.ro q8 (by omega)).ro q9 (by omega), (S.G4.ro q8 (by omega)).ro q9 (by omega), (S.ro.trans (q8.more fun z e => .inl (by omega))).trans (q9.more fun z e => .inr e), fun z hz => kz8 z (Nat.le_trans q9.size hz), (S.oth.trans (Oth.same b8)).trans (Oth.set hw (by omega))⟩
theorem GrS.step1 (S : GrS w K x g off q ρ k0 k1 k2 k3 k4 y Kk W) {A8 : Option Addr} {c8 : Nat} (oA : OwnO w8 K8 (ρ + 1) 2 mkS A8 c8 ((marks x.mark x.s.n ++ negs x.mark k1) ++ [0 - (x.mark : Int) - k1])) (q8 : Ro (· = ρ + 1) Kk K8 W w8) (kz8 : ∀ y, w8.heap.size ≤ y → K8 y = 0)
   (hwh : (A8 = y.s.A2 ∧ c8 = y.s.c2 ∧ y.s.A2 ≠ none ∧ W.grownBy w8 (blk y.s.A2)) ∨ ((∀ g, blk A8 = some g → W.heap.size ≤ g) ∧ W.grownBy w8 none)) (hw : w9 = w8.setCell ⟨g, off + 4, none⟩ (.slice A8 (y.s.n2 + 1) c8)) :
   GrS w K x g off q ρ k0 (k1 + 1) k2 k3 k4 { y with s := { y.s with A2 := A8, n2 := y.s.n2 + 1, c2 := c8 } } K8 w9 := by
 have hq := S.hq
 have n1 : ¬ (Kk g = ρ + 1) := by rw [S.kg]; omega
 have b8 := q8.same g S.hg n1
 have kg8 : K8 g = q := (q8.kk g S.hg).trans S.kg
 have q9 : Ro (· = q) K8 K8 w8 w9 := by rw [hw]; exact Ro.cell kg8 _ _
 obtain ⟨r9, t9⟩ := rng_put (j := 4) (range_same S.P b8) (there_same S.T b8) rfl (by omega) hw
 have two := (S.G1.two.step oA q8 hwh).ro q9 (by omega)
 rw [List.append_assoc, ← negs_succ] at two
 exact ⟨r9, t9, Nat.lt_of_lt_of_le S.hg (Nat.le_trans q8.size q9.size), kg8, hq, S.me, S.dn, (S.G0.ro q8 (by omega)).ro q9 (by omega), ⟨S.G1.eA, S.G1.en, S.G1.ec, S.G1.eW, S.G1.em, S.G1.ed, by show y.s.n2 + 1 = _; rw [S.G1.n2]; rfl, two⟩, (S.G2.ro q8 (by omega)).ro q9 (by omega), (S.G3.ro q8 (by omega)).ro q9 (by omega), (S.G4.ro q8 (by omega)).ro q9 (by omega), (S.ro.trans (q8.more fun z e => .inl (by omega))).trans (q9.more fun z e => .inr e), fun z hz => kz8 z (Nat.le_trans q9.size hz), (S.oth.trans (Oth.same b8)).trans (Oth.set hw (by omega))⟩
theorem GrS.step2 (S : GrS w K x g off q ρ k0 k1 k2 k3 k4 y Kk W) {A8 : Option Addr} {c8 : Nat} (oA : OwnO w8 K8 (ρ + 2) 9 mkT A8 c8 ((marks x.mark x.i.n ++ negs x.mark k2) ++ [0 - (x.mark : Int) - k2])) (q8 : Ro (· = ρ + 2) Kk K8 W w8) (kz8 : ∀ y, w8.heap.size ≤ y → K8 y = 0)
   (hwh : (A8 = y.i.A2 ∧ c8 = y.i.c2 ∧ y.i.A2 ≠ none ∧ W.grownBy w8 (blk y.i.A2)) ∨ ((∀ g, blk A8 = some g → W.heap.size ≤ g) ∧ W.grownBy w8 none)) (hw : w9 = w8.setCell ⟨g, off + 7, none⟩ (.slice A8 (y.i.n2 + 1) c8)) :
   GrS w K x g off q ρ k0 k1 (k2 + 1) k3 k4 { y with i := { y.i with A2 := A8, n2 := y.i.n2 + 1, c2 := c8 } } K8 w9 := by
 have hq := S.hq
 have n1 : ¬ (Kk g = ρ + 2) := by rw [S.kg]; omega
 have b8 := q8.same g S.hg n1
 have kg8 : K8 g = q := (q8.kk g S.hg).trans S.kg
 have q9 : Ro (· = q) K8 K8 w8 w9 := by rw [hw]; exact Ro.cell kg8 _ _
 obtain ⟨r9, t9⟩ := rng_put (j := 7) (range_same S.P b8) (there_same S.T b8) rfl (by omega) hw
 have two := (S.G2.two.step oA q8 hwh).ro q9 (by omega)
 rw [List.append_assoc, ← negs_succ] at two
 exact ⟨r9, t9, Nat.lt_of_lt_of_le S.hg (Nat.le_trans q8.size q9.size), kg8, hq, S.me, S.dn, (S.G0.ro q8 (by omega)).ro q9 (by omega), (S.G1.ro q8 (by omega)).ro q9 (by omega), ⟨S.G2.eA, S.G2.en, S.G2.ec, S.G2.eW, S.G2.em, S.G2.ed, by show y.i.n2 + 1 = _; rw [S.G2.n2]; rfl, two⟩, (S.G3.ro q8 (by omega)).ro q9 (by omega), (S.G4.ro q8 (by omega)).ro q9 (by omega), (S.ro.trans (q8.more fun z e => .inl (by omega))).trans (q9.more fun z e => .inr e), fun z hz => kz8 z (Nat.le_trans q9.size hz), (S.oth.trans (Oth.same b8)).trans (Oth.set hw (by omega))⟩
theorem GrS.step3 (S : GrS w K x g off q ρ k0 k1 k2 k3 k4 y Kk W) {A8 : Option Addr} {c8 : Nat} (oA : OwnO w8 K8 (ρ + 3) 4 mkM A8 c8 ((marks x.mark x.m.n ++ negs x.mark k3) ++ [0 - (x.mark : Int) - k3])) (q8 : Ro (· = ρ + 3) Kk K8 W w8) (kz8 : ∀ y, w8.heap.size ≤ y → K8 y = 0)
   (hwh : (A8 = y.m.A2 ∧ c8 = y.m.c2 ∧ y.m.A2 ≠ none ∧ W.grownBy w8 (blk y.m.A2)) ∨ ((∀ g, blk A8 = some g → W.heap.size ≤ g) ∧ W.grownBy w8 none)) (hw : w9 = w8.setCell ⟨g, off + 10, none⟩ (.slice A8 (y.m.n2 + 1) c8)) :
   GrS w K x g off q ρ k0 k1 k2 (k3 + 1) k4 { y with m := { y.m with A2 := A8, n2 := y.m.n2 + 1, c2 := c8 } } K8 w9 := by
 have hq := S.hq
 have n1 : ¬ (Kk g = ρ + 3) := by rw [S.kg]; omega
 have b8 := q8.same g S.hg n1
 have kg8 : K8 g = q := (q8.kk g S.hg).trans S.kg
 have q9 : Ro (· = q) K8 K8 w8 w9 := by rw [hw]; exact Ro.cell kg8 _ _
 obtain ⟨r9, t9⟩ := rng_put (j := 10) (range_same S.P b8) (there_same S.T b8) rfl (by omega) hw
 have two := (S.G3.two.step oA q8 hwh).ro q9 (by omega)
 rw [List.append_assoc, ← negs_succ] at two
 exact ⟨r9, t9, Nat.lt_of_lt_of_le S.hg (Nat.le_trans q8.size q9.size), kg8, hq, S.me, S.dn, (S.G0.ro q8 (by omega)).ro q9 (by omega), (S.G1.ro q8 (by omega)).ro q9 (by omega), (S.G2.ro q8 (by omega)).ro q9 (by omega), ⟨S.G3.eA, S.G3.en, S.G3.ec, S.G3.eW, S.G3.em, S.G3.ed, by show y.m.n2 + 1 = _; rw [S.G3.n2]; rfl, two⟩, (S.G4.ro q8 (by omega)).ro q9 (by omega), (S.ro.trans (q8.more fun z e => .inl (by omega))).trans (q9.more fun z e => .inr e), fun z hz => kz8 z (Nat.le_trans q9.size hz), (S.oth.trans (Oth.same b8)).trans (Oth.set hw (by omega))⟩
theorem GrS.step4 (S : GrS w K x g off q ρ k0 k1 k2 k3 k4 y Kk W) {A8 : Option Addr} {c8 : Nat} (oA : OwnO w8 K8 (ρ + 4) 4 mkD A8 c8 ((marks x.mark x.d.n ++ negs x.mark k4) ++ [0 - (x.mark : Int) - k4])) (q8 : Ro (· = ρ + 4) Kk K8 W w8) (kz8 : ∀ y, w8.heap.size ≤ y → K8 y = 0)
   (hwh : (A8 = y.d.A2 ∧ c8 = y.d.c2 ∧ y.d.A2 ≠ none ∧ W.grownBy w8 (blk y.d.A2)) ∨ ((∀ g, blk A8 = some g → W.heap.size ≤ g) ∧ W.grownBy w8 none)) (hw : w9 = w8.setCell ⟨g, off + 13, none⟩ (.slice A8 (y.d.n2 + 1) c8)) :
   GrS w K x g off q ρ k0 k1 k2 k3 (k4 + 1) { y with d := { y.d with A2 := A8, n2 := y.d.n2 + 1, c2 := c8 } } K8 w9 := by
 have hq := S.hq
 have n1 : ¬ (Kk g = ρ + 4) := by rw [S.kg]; omega
 have b8 := q8.same g S.hg n1
 have kg8 : K8 g = q := (q8.kk g S.hg).trans S.kg
 have q9 : Ro (· = q) K8 K8 w8 w9 := by rw [hw]; exact Ro.cell kg8 _ _
 obtain ⟨r9, t9⟩ := rng_put (j := 13) (range_same S.P b8) (there_same S.T b8) rfl (by omega) hw
 have two := (S.G4.two.step oA q8 hwh).ro q9 (by omega)
 rw [List.append_assoc, ← negs_succ] at two
 exact ⟨r9, t9, Nat.lt_of_lt_of_le S.hg (Nat.le_trans q8.size q9.size), kg8, hq, S.me, S.dn, (S.G0.ro q8 (by omega)).ro q9 (by omega), (S.G1.ro q8 (by omega)).ro q9 (by omega), (S.G2.ro q8 (by omega)).ro q9 (by omega), (S.G3.ro q8 (by omega)).ro q9 (by omega), ⟨S.G4.eA, S.G4.en, S.G4.ec, S.G4.eW, S.G4.em, S.G4.ed, by show y.d.n2 + 1 = _; rw [S.G4.n2]; rfl, two⟩, (S.ro.trans (q8.more fun z e => .inl (by omega))).trans (q9.more fun z e => .inr e), fun z hz => kz8 z (Nat.le_trans q9.size hz), (S.oth.trans (Oth.same b8)).trans (Oth.set hw (by omega))⟩
set_option maxRecDepth 100000 in
set_option maxHeartbeats 16000000 in
theorem sgrow_any (P : w.rangeAt g off (eSh x)) (Th : w.there g off 17) (hg : g < w.heap.size) (kg : K g = q) (hq : ¬ (ρ ≤ q ∧ q < ρ + 5)) (hm : x.mark ≤ 1000000) (kz : ∀ y, w.heap.size ≤ y → K y = 0)
   (D0 : OwnO w K (ρ + 0) 1 mkI x.h.A x.h.c (marks x.mark x.h.n)) (l0 : x.h.n ≤ 1000000)
   (D1 : OwnO w K (ρ + 1) 2 mkS x.s.A x.s.c (marks x.mark x.s.n)) (l1 : x.s.n ≤ 1000000)
   (D2 : OwnO w K (ρ + 2) 9 mkT x.i.A x.i.c (marks x.mark x.i.n)) (l2 : x.i.n ≤ 1000000)
   (D3 : OwnO w K (ρ + 3) 4 mkM x.m.A x.m.c (marks x.mark x.m.n)) (l3 : x.m.n ≤ 1000000)
   (D4 : OwnO w K (ρ + 4) 4 mkD x.d.A x.d.c (marks x.mark x.d.n)) (l4 : x.d.n ≤ 1000000)
   : Calls Tryz.prog 20 #[.pointer (some ⟨g, off, none⟩)] w fun e w' => e = .returned (.tuple #[]) ∧ ∃ y K', GrS w K x g off q ρ 64 64 64 64 64 y K' w' := by
 refine calls_vc tab_ok Tryz.func20 rfl ?_
 conv => whnf
 have LL0 : Ld Tryz.prog 56 g (addO off 0) (Eq w) (.slice x.h.A x.h.n x.h.c) := .of (loadI (by rw [addO_eq]; exact P 0 _ rfl))
 repeat ((conv => whnf); first | refine Xl LL0 ?_ | refine Xt ?_ | refine Xq ?_ | refine Xn ?_ | refine Xj ?_ | refine Xo ?_); try (conv => whnf)
 refine VStore.cell (by kernel_rfl) (by rw [addO_eq]; exact (Th 1 (by omega)).1) (by rw [addO_eq]; exact (Th 1 (by omega)).2) rfl rfl fun U0 hU0 => ?_
 have hU0' : U0 = w.setCell ⟨g, off + 1, none⟩ (.slice x.h.A x.h.n x.h.c) := by rw [hU0.out, addO_eq]
 clear hU0
 obtain ⟨PU0, TU0⟩ := rng_put (j := 1) P Th rfl (by omega) hU0'
 have qU0 : Ro (· = q) K K w U0 := by rw [hU0']; exact Ro.cell kg _ _
 have oU0 : Oth g off 17 w U0 := Oth.set hU0' (by omega)
 clear hU0'
 have LL1 : Ld Tryz.prog 57 g (addO off 3) (Eq U0) (.slice x.s.A x.s.n x.s.c) := .of (loadS (by rw [addO_eq]; exact PU0 3 _ rfl))
 repeat ((conv => whnf); first | refine Xl LL1 ?_ | refine Xt ?_ | refine Xq ?_ | refine Xn ?_ | refine Xj ?_ | refine Xo ?_); try (conv => whnf)
 refine VStore.cell (by kernel_rfl) (by rw [addO_eq]; exact (TU0 4 (by omega)).1) (by rw [addO_eq]; exact (TU0 4 (by omega)).2) rfl rfl fun U1 hU1 => ?_
 have hU1' : U1 = U0.setCell ⟨g, off + 4, none⟩ (.slice x.s.A x.s.n x.s.c) := by rw [hU1.out, addO_eq]
 clear hU1
 obtain ⟨PU1, TU1⟩ := rng_put (j := 4) PU0 TU0 rfl (by omega) hU1'
 have qU1 : Ro (· = q) K K U0 U1 := by rw [hU1']; exact Ro.cell kg _ _
 have oU1 : Oth g off 17 U0 U1 := Oth.set hU1' (by omega)
 clear hU1'
 have LL2 : Ld Tryz.prog 58 g (addO off 6) (Eq U1) (.slice x.i.A x.i.n x.i.c) := .of (loadT (by rw [addO_eq]; exact PU1 6 _ rfl))
 repeat ((conv => whnf); first | refine Xl LL2 ?_ | refine Xt ?_ | refine Xq ?_ | refine Xn ?_ | refine Xj ?_ | refine Xo ?_); try (conv => whnf)
 refine VStore.cell (by kernel_rfl) (by rw [addO_eq]; exact (TU1 7 (by omega)).1) (by rw [addO_eq]; exact (TU1 7 (by omega)).2) rfl rfl fun U2 hU2 => ?_
 have hU2' : U2 = U1.setCell ⟨g, off + 7, none⟩ (.slice x.i.A x.i.n x.i.c) := by rw [hU2.out, addO_eq]
 clear hU2
 obtain ⟨PU2, TU2⟩ := rng_put (j := 7) PU1 TU1 rfl (by omega) hU2'
 have qU2 : Ro (· = q) K K U1 U2 := by rw [hU2']; exact Ro.cell kg _ _
 have oU2 : Oth g off 17 U1 U2 := Oth.set hU2' (by omega)
 clear hU2'
 have LL3 : Ld Tryz.prog 59 g (addO off 9) (Eq U2) (.slice x.m.A x.m.n x.m.c) := .of (loadM (by rw [addO_eq]; exact PU2 9 _ rfl))
 repeat ((conv => whnf); first | refine Xl LL3 ?_ | refine Xt ?_ | refine Xq ?_ | refine Xn ?_ | refine Xj ?_ | refine Xo ?_); try (conv => whnf)
 refine VStore.cell (by kernel_rfl) (by rw [addO_eq]; exact (TU2 10 (by omega)).1) (by rw [addO_eq]; exact (TU2 10 (by omega)).2) rfl rfl fun U3 hU3 => ?_
 have hU3' : U3 = U2.setCell ⟨g, off + 10, none⟩ (.slice x.m.A x.m.n x.m.c) := by rw [hU3.out, addO_eq]
 clear hU3
 obtain ⟨PU3, TU3⟩ := rng_put (j := 10) PU2 TU2 rfl (by omega) hU3'
 have qU3 : Ro (· = q) K K U2 U3 := by rw [hU3']; exact Ro.cell kg _ _
 have oU3 : Oth g off 17 U2 U3 := Oth.set hU3' (by omega)
 clear hU3'
 have LL4 : Ld Tryz.prog 60 g (addO off 12) (Eq U3) (.slice x.d.A x.d.n x.d.c) := .of (loadD (by rw [addO_eq]; exact PU3 12 _ rfl))
 repeat ((conv => whnf); first | refine Xl LL4 ?_ | refine Xt ?_ | refine Xq ?_ | refine Xn ?_ | refine Xj ?_ | refine Xo ?_); try (conv => whnf)
 refine VStore.cell (by kernel_rfl) (by rw [addO_eq]; exact (TU3 13 (by omega)).1) (by rw [addO_eq]; exact (TU3 13 (by omega)).2) rfl rfl fun U4 hU4 => ?_
 have hU4' : U4 = U3.setCell ⟨g, off + 13, none⟩ (.slice x.d.A x.d.n x.d.c) := by rw [hU4.out, addO_eq]
 clear hU4
 obtain ⟨PU4, TU4⟩ := rng_put (j := 13) PU3 TU3 rfl (by omega) hU4'
 have qU4 : Ro (· = q) K K U3 U4 := by rw [hU4']; exact Ro.cell kg _ _
 have oU4 : Oth g off 17 U3 U4 := Oth.set hU4' (by omega)
 clear hU4'
 have qU : Ro (· = q) K K w U4 := (((qU0.trans qU1).trans qU2).trans qU3).trans qU4
 have oU : Oth g off 17 w U4 := (((oU0.trans oU1).trans oU2).trans oU3).trans oU4
 obtain ⟨y0, hy0⟩ : ∃ y0 : ShX, y0 = { x with h := { x.h with A2 := x.h.A, n2 := x.h.n, c2 := x.h.c }, s := { x.s with A2 := x.s.A, n2 := x.s.n, c2 := x.s.c }, i := { x.i with A2 := x.i.A, n2 := x.i.n, c2 := x.i.c }, m := { x.m with A2 := x.m.A, n2 := x.m.n, c2 := x.m.c }, d := { x.d with A2 := x.d.A, n2 := x.d.n, c2 := x.d.c } } := ⟨_, rfl⟩
 have PE : U4.rangeAt g off (eSh y0) := by rw [hy0]; exact PU4
 have S0 : GrS w K x g off q ρ 0 0 0 0 0 y0 K U4 := by
   rw [hy0]
   have tw : ∀ {r sz c n : Nat} {mk : Int → List Value} {A : Option Addr}, OwnO w K r sz mk A c (marks x.mark n) → ¬ (r = q) → TwoO U4 K r sz mk A c (marks x.mark n) A c (marks x.mark n ++ negs x.mark 0) := fun {r sz c n mk A} h hr => by
     rw [show negs x.mark 0 = [] from rfl, List.append_nil]
     exact ⟨h.ro qU hr, h.ro qU hr, .inl ⟨rfl, rfl, [], by simp⟩⟩
   exact ⟨by rw [hy0] at PE; exact PE, TU4, Nat.lt_of_lt_of_le hg qU.size, kg, hq, rfl, rfl, ⟨rfl, rfl, rfl, rfl, rfl, rfl, rfl, tw D0 (by omega)⟩, ⟨rfl, rfl, rfl, rfl, rfl, rfl, rfl, tw D1 (by omega)⟩, ⟨rfl, rfl, rfl, rfl, rfl, rfl, rfl, tw D2 (by omega)⟩, ⟨rfl, rfl, rfl, rfl, rfl, rfl, rfl, tw D3 (by omega)⟩, ⟨rfl, rfl, rfl, rfl, rfl, rfl, rfl, tw D4 (by omega)⟩, qU.more fun z e => .inr e, fun z hz => kz z (Nat.le_trans qU.size hz), oU⟩
 clear PE PU0 PU1 PU2 PU3 PU4 TU0 TU1 TU2 TU3 TU4 qU0 qU1 qU2 qU3 qU4 oU0 oU1 oU2 oU3 oU4 LL0 LL1 LL2 LL3 LL4
 repeat ((conv => whnf); first | refine Xt ?_ | refine Xq ?_ | refine Xn ?_ | refine Xj ?_ | refine Xo ?_); try (conv => whnf)
 refine VLoop.mk Nat (fun i => [(0, .pointer (some ⟨g, off, none⟩)), (2, .int .i64 i)]) (fun i W => i ≤ 64 ∧ ∃ y Kk, GrS w K x g off q ρ i i i i i y Kk W) (fun i => 64 - i) 0 ⟨rfl, rfl, trivial⟩ ⟨by omega, y0, K, S0⟩ ?_
 clear S0 qU oU
 rintro i W0 ⟨hi, y, Kk, S⟩
 by_cases hin : i < 64
 case neg =>
   obtain rfl : i = 64 := by omega
   repeat ((conv => whnf); first | refine Xt ?_ | refine Xq ?_ | refine Xn ?_ | refine Xj ?_ | refine Xo ?_); try (conv => whnf)
   exact .mk ⟨rfl, y, Kk, S⟩
 have hmk := S.me
 have NA0 : Ld Tryz.prog 56 g (addO off 1) (Sm [g] W0) (.slice y.h.A2 y.h.n2 y.h.c2) := ⟨fun W' hW => loadI (by rw [addO_eq]; exact cell_sm (S.P 1 _ rfl) (by simp) hW)⟩
 have NM0 : Ld Tryz.prog 3 g (addO off 15) (Sm [g] W0) (.int .i64 x.mark) := ⟨fun W' hW => load3 (by rw [addO_eq, ← S.me]; exact cell_sm (S.P 15 _ rfl) (by simp) hW)⟩
 have sd0 : Sm [g] W0 W0.drew := fun _ _ => rfl
 have hl0 : ∀ z ∈ [g], z < W0.heap.size ∧ Kk z ≠ ρ + 0 := fun z hz => by rw [List.mem_singleton.1 hz]; exact ⟨S.hg, by rw [S.kg]; omega⟩
 repeat ((conv => whnf); first | refine Xt ?_ | refine Xq ?_ | refine Xn ?_ | refine Xj ?_ | refine Xo ?_); try (conv => whnf)
 refine VDraw.pl 16 (.one [0, 1, 2, 3, 4, 5, 6, 7, 8, 9, 10, 11] 12 (.one [] 13 (.one [14, 15] 16 (.stop [])))) (Sm [g] W0) (by kernel_rfl) (sd0) ?_
 repeat ((conv => whnf); first | refine Xl NA0 ?_ | refine Xl NM0 ?_ | refine Xt ?_ | refine Xq ?_ | refine Xn ?_ | refine Xj ?_ | refine Xo ?_); try (conv => whnf)
 refine VBs.mk _ _ (bsI W0.drew (0 - (x.mark : Int) - i)) ?_
 have c0 : Below W0.heap.size W0 (W0.drew.alloc (.cells (mkI (0 - (x.mark : Int) - i)).toArray 3)) := (Below.refl _ W0).drew.trans ((Below.refl W0.drew.heap.size W0.drew).alloc (Nat.le_refl _) _)
 have nc0 : ∀ j u, (mkI (0 - (x.mark : Int) - i))[j]? = some u → (W0.drew.alloc (.cells (mkI (0 - (x.mark : Int) - i)).toArray 3)).cell? ⟨W0.drew.heap.size, j, none⟩ = some u := fun j u hu => by
   have := range_new W0.drew (mkI (0 - (x.mark : Int) - i)).toArray 3 j u hu
   rwa [Nat.zero_add] at this
 generalize W0.drew.alloc (.cells (mkI (0 - (x.mark : Int) - i)).toArray 3) = A0 at c0 nc0 ⊢
 have B0 := S.below c0
 have sm0 : Sm [g] W0 A0 := .below c0 fun z hz => (hl0 z hz).1
 have n20 := B0.G0.n2
 repeat ((conv => whnf); first | (refine VS.mk sm0 ?_) | refine Xt ?_ | refine Xq ?_ | refine Xn ?_ | refine Xj ?_ | refine Xo ?_); try (conv => whnf)
 refine VApp.offG 1 8 _ Tryz.underlying56 info3 rfl (by decide) mkI (fun _ => rfl) one_mkI _ (0 - (x.mark : Int) - i) (by rw [List.length_append, marks_len, negs_len, n20]) B0.G0.two.2.1 nc0 B0.kz (by omega) (by omega) fun A8 c8 K1 w8 oA8 q8 kz8 hwh => ?_
 have sn0 : Sm [g] W0 w8 := sm0.trans fun z hz => q8.same z (by have := (hl0 z hz).1; have := c0.size; omega) (hl0 z hz).2
 have t8 := there_same B0.T (q8.same g B0.hg (by rw [B0.kg]; omega))
 repeat ((conv => whnf); first | (refine VS.mk sn0 ?_) | refine Xt ?_ | refine Xq ?_ | refine Xn ?_ | refine Xj ?_ | refine Xo ?_); try (conv => whnf)
 refine VStore.cell (by kernel_rfl) (by rw [addO_eq]; exact (t8 1 (by omega)).1) (by rw [addO_eq]; exact (t8 1 (by omega)).2) rfl rfl fun W1 hw9 => ?_
 have S1 := B0.step0 oA8 q8 kz8 hwh (w9 := W1) (by rw [hw9.out, addO_eq])
 clear hw9 t8 sn0 q8 oA8 kz8 hwh B0 sm0 nc0 c0 S n20 NA0 NM0 sd0 hl0
 clear w8 A0
 repeat ((conv => whnf); first | (refine VS.last rfl ?_) | refine Xt ?_ | refine Xq ?_ | refine Xn ?_ | refine Xj ?_ | refine Xo ?_); try (conv => whnf)
 generalize hy0 : ({ y with h := { y.h with A2 := A8, n2 := y.h.n2 + 1, c2 := c8 } } : ShX) = y1 at S1
 clear hy0
 have NA1 : Ld Tryz.prog 57 g (addO off 4) (Sm [g] W1) (.slice y1.s.A2 y1.s.n2 y1.s.c2) := ⟨fun W' hW => loadS (by rw [addO_eq]; exact cell_sm (S1.P 4 _ rfl) (by simp) hW)⟩
 have NM1 : Ld Tryz.prog 3 g (addO off 15) (Sm [g] W1) (.int .i64 x.mark) := ⟨fun W' hW => load3 (by rw [addO_eq, ← S1.me]; exact cell_sm (S1.P 15 _ rfl) (by simp) hW)⟩
 have sd1 : Sm [g] W1 W1.drew := fun _ _ => rfl
 have hl1 : ∀ z ∈ [g], z < W1.heap.size ∧ K1 z ≠ ρ + 1 := fun z hz => by rw [List.mem_singleton.1 hz]; exact ⟨S1.hg, by rw [S1.kg]; omega⟩
 repeat ((conv => whnf); first | refine Xt ?_ | refine Xq ?_ | refine Xn ?_ | refine Xj ?_ | refine Xo ?_); try (conv => whnf)
 refine VDraw.pl 17 (.one [0, 1, 2, 3, 4, 5, 6, 7, 8, 9, 10, 11, 12] 13 (.one [] 14 (.one [15, 16] 17 (.stop [])))) (Sm [g] W1) (by kernel_rfl) (sd1) ?_
 repeat ((conv => whnf); first | refine Xl NA1 ?_ | refine Xl NM1 ?_ | refine Xt ?_ | refine Xq ?_ | refine Xn ?_ | refine Xj ?_ | refine Xo ?_); try (conv => whnf)
 refine VBuild.mk (.agg (mkS (0 - (x.mark : Int) - i)).toArray) (fun W' => buildS W' (0 - (x.mark : Int) - i)) ?_
 repeat ((conv => whnf); first | refine Xt ?_ | refine Xq ?_ | refine Xn ?_ | refine Xj ?_ | refine Xo ?_); try (conv => whnf)
 refine VBs.mk _ _ (bsS W1.drew (0 - (x.mark : Int) - i)) ?_
 have c1 : Below W1.heap.size W1 (W1.drew.alloc (.cells (mkS (0 - (x.mark : Int) - i)).toArray 46)) := (Below.refl _ W1).drew.trans ((Below.refl W1.drew.heap.size W1.drew).alloc (Nat.le_refl _) _)
 have nc1 : ∀ j u, (mkS (0 - (x.mark : Int) - i))[j]? = some u → (W1.drew.alloc (.cells (mkS (0 - (x.mark : Int) - i)).toArray 46)).cell? ⟨W1.drew.heap.size, j, none⟩ = some u := fun j u hu => by
   have := range_new W1.drew (mkS (0 - (x.mark : Int) - i)).toArray 46 j u hu
   rwa [Nat.zero_add] at this
 generalize W1.drew.alloc (.cells (mkS (0 - (x.mark : Int) - i)).toArray 46) = A1 at c1 nc1 ⊢
 have B1 := S1.below c1
 have sm1 : Sm [g] W1 A1 := .below c1 fun z hz => (hl1 z hz).1
 have n21 := B1.G1.n2
 repeat ((conv => whnf); first | (refine VS.mk sm1 ?_) | refine Xt ?_ | refine Xq ?_ | refine Xn ?_ | refine Xj ?_ | refine Xo ?_); try (conv => whnf)
 refine VApp.offG 2 16 _ Tryz.underlying57 info78 rfl (by decide) mkS (fun _ => rfl) one_mkS _ (0 - (x.mark : Int) - i) (by rw [List.length_append, marks_len, negs_len, n21]) B1.G1.two.2.1 nc1 B1.kz (by omega) (by omega) fun A8 c8 K2 w8 oA8 q8 kz8 hwh => ?_
 have sn1 : Sm [g] W1 w8 := sm1.trans fun z hz => q8.same z (by have := (hl1 z hz).1; have := c1.size; omega) (hl1 z hz).2
 have t8 := there_same B1.T (q8.same g B1.hg (by rw [B1.kg]; omega))
 repeat ((conv => whnf); first | (refine VS.mk sn1 ?_) | refine Xt ?_ | refine Xq ?_ | refine Xn ?_ | refine Xj ?_ | refine Xo ?_); try (conv => whnf)
 refine VStore.cell (by kernel_rfl) (by rw [addO_eq]; exact (t8 4 (by omega)).1) (by rw [addO_eq]; exact (t8 4 (by omega)).2) rfl rfl fun W2 hw9 => ?_
 have S2 := B1.step1 oA8 q8 kz8 hwh (w9 := W2) (by rw [hw9.out, addO_eq])
 clear hw9 t8 sn1 q8 oA8 kz8 hwh B1 sm1 nc1 c1 S1 n21 NA1 NM1 sd1 hl1
 clear w8 A1
 repeat ((conv => whnf); first | (refine VS.last rfl ?_) | refine Xt ?_ | refine Xq ?_ | refine Xn ?_ | refine Xj ?_ | refine Xo ?_); try (conv => whnf)
 generalize hy1 : ({ y1 with s := { y1.s with A2 := A8, n2 := y1.s.n2 + 1, c2 := c8 } } : ShX) = y2 at S2
 clear hy1
 have NA2 : Ld Tryz.prog 58 g (addO off 7) (Sm [g] W2) (.slice y2.i.A2 y2.i.n2 y2.i.c2) := ⟨fun W' hW => loadT (by rw [addO_eq]; exact cell_sm (S2.P 7 _ rfl) (by simp) hW)⟩
 have NM2 : Ld Tryz.prog 3 g (addO off 15) (Sm [g] W2) (.int .i64 x.mark) := ⟨fun W' hW => load3 (by rw [addO_eq, ← S2.me]; exact cell_sm (S2.P 15 _ rfl) (by simp) hW)⟩
 have sd2 : Sm [g] W2 W2.drew := fun _ _ => rfl
 have hl2 : ∀ z ∈ [g], z < W2.heap.size ∧ K2 z ≠ ρ + 2 := fun z hz => by rw [List.mem_singleton.1 hz]; exact ⟨S2.hg, by rw [S2.kg]; omega⟩
 repeat ((conv => whnf); first | refine Xt ?_ | refine Xq ?_ | refine Xn ?_ | refine Xj ?_ | refine Xo ?_); try (conv => whnf)
 refine VDraw.pl 17 (.one [0, 1, 2, 3, 4, 5, 6, 7, 8, 9, 10, 11, 12] 13 (.one [] 14 (.one [15, 16] 17 (.stop [])))) (Sm [g] W2) (by kernel_rfl) (sd2) ?_
 repeat ((conv => whnf); first | refine Xl NA2 ?_ | refine Xl NM2 ?_ | refine Xt ?_ | refine Xq ?_ | refine Xn ?_ | refine Xj ?_ | refine Xo ?_); try (conv => whnf)
 refine VBuild.mk (.agg (mkT (0 - (x.mark : Int) - i)).toArray) (fun W' => buildT W' (0 - (x.mark : Int) - i)) ?_
 repeat ((conv => whnf); first | refine Xt ?_ | refine Xq ?_ | refine Xn ?_ | refine Xj ?_ | refine Xo ?_); try (conv => whnf)
 refine VBs.mk _ _ (bsT W2.drew (0 - (x.mark : Int) - i)) ?_
 have c2 : Below W2.heap.size W2 (W2.drew.alloc (.cells (mkT (0 - (x.mark : Int) - i)).toArray 48)) := (Below.refl _ W2).drew.trans ((Below.refl W2.drew.heap.size W2.drew).alloc (Nat.le_refl _) _)
 have nc2 : ∀ j u, (mkT (0 - (x.mark : Int) - i))[j]? = some u → (W2.drew.alloc (.cells (mkT (0 - (x.mark : Int) - i)).toArray 48)).cell? ⟨W2.drew.heap.size, j, none⟩ = some u := fun j u hu => by
   have := range_new W2.drew (mkT (0 - (x.mark : Int) - i)).toArray 48 j u hu
   rwa [Nat.zero_add] at this
 generalize W2.drew.alloc (.cells (mkT (0 - (x.mark : Int) - i)).toArray 48) = A2 at c2 nc2 ⊢
 have B2 := S2.below c2
 have sm2 : Sm [g] W2 A2 := .below c2 fun z hz => (hl2 z hz).1
 have n22 := B2.G2.n2
 repeat ((conv => whnf); first | (refine VS.mk sm2 ?_) | refine Xt ?_ | refine Xq ?_ | refine Xn ?_ | refine Xj ?_ | refine Xo ?_); try (conv => whnf)
 refine VApp.offG 9 88 _ Tryz.underlying58 info80 rfl (by decide) mkT (fun _ => rfl) one_mkT _ (0 - (x.mark : Int) - i) (by rw [List.length_append, marks_len, negs_len, n22]) B2.G2.two.2.1 nc2 B2.kz (by omega) (by omega) fun A8 c8 K3 w8 oA8 q8 kz8 hwh => ?_
 have sn2 : Sm [g] W2 w8 := sm2.trans fun z hz => q8.same z (by have := (hl2 z hz).1; have := c2.size; omega) (hl2 z hz).2
 have t8 := there_same B2.T (q8.same g B2.hg (by rw [B2.kg]; omega))
 repeat ((conv => whnf); first | (refine VS.mk sn2 ?_) | refine Xt ?_ | refine Xq ?_ | refine Xn ?_ | refine Xj ?_ | refine Xo ?_); try (conv => whnf)
 refine VStore.cell (by kernel_rfl) (by rw [addO_eq]; exact (t8 7 (by omega)).1) (by rw [addO_eq]; exact (t8 7 (by omega)).2) rfl rfl fun W3 hw9 => ?_
 have S3 := B2.step2 oA8 q8 kz8 hwh (w9 := W3) (by rw [hw9.out, addO_eq])
 clear hw9 t8 sn2 q8 oA8 kz8 hwh B2 sm2 nc2 c2 S2 n22 NA2 NM2 sd2 hl2
 clear w8 A2
 repeat ((conv => whnf); first | (refine VS.last rfl ?_) | refine Xt ?_ | refine Xq ?_ | refine Xn ?_ | refine Xj ?_ | refine Xo ?_); try (conv => whnf)
 generalize hy2 : ({ y2 with i := { y2.i with A2 := A8, n2 := y2.i.n2 + 1, c2 := c8 } } : ShX) = y3 at S3
 clear hy2
 have NA3 : Ld Tryz.prog 59 g (addO off 10) (Sm [g] W3) (.slice y3.m.A2 y3.m.n2 y3.m.c2) := ⟨fun W' hW => loadM (by rw [addO_eq]; exact cell_sm (S3.P 10 _ rfl) (by simp) hW)⟩
 have NM3 : Ld Tryz.prog 3 g (addO off 15) (Sm [g] W3) (.int .i64 x.mark) := ⟨fun W' hW => load3 (by rw [addO_eq, ← S3.me]; exact cell_sm (S3.P 15 _ rfl) (by simp) hW)⟩
 have sd3 : Sm [g] W3 W3.drew := fun _ _ => rfl
 have hl3 : ∀ z ∈ [g], z < W3.heap.size ∧ K3 z ≠ ρ + 3 := fun z hz => by rw [List.mem_singleton.1 hz]; exact ⟨S3.hg, by rw [S3.kg]; omega⟩
 repeat ((conv => whnf); first | refine Xt ?_ | refine Xq ?_ | refine Xn ?_ | refine Xj ?_ | refine Xo ?_); try (conv => whnf)
 refine VDraw.pl 17 (.one [0, 1, 2, 3, 4, 5, 6, 7, 8, 9, 10, 11, 12] 13 (.one [] 14 (.one [15, 16] 17 (.stop [])))) (Sm [g] W3) (by kernel_rfl) (sd3) ?_
 repeat ((conv => whnf); first | refine Xl NA3 ?_ | refine Xl NM3 ?_ | refine Xt ?_ | refine Xq ?_ | refine Xn ?_ | refine Xj ?_ | refine Xo ?_); try (conv => whnf)
 refine VBuild.mk (.agg (mkM (0 - (x.mark : Int) - i)).toArray) (fun W' => buildM W' (0 - (x.mark : Int) - i)) ?_
 repeat ((conv => whnf); first | refine Xt ?_ | refine Xq ?_ | refine Xn ?_ | refine Xj ?_ | refine Xo ?_); try (conv => whnf)
 refine VBs.mk _ _ (bsM W3.drew (0 - (x.mark : Int) - i)) ?_
 have c3 : Below W3.heap.size W3 (W3.drew.alloc (.cells (mkM (0 - (x.mark : Int) - i)).toArray 82)) := (Below.refl _ W3).drew.trans ((Below.refl W3.drew.heap.size W3.drew).alloc (Nat.le_refl _) _)
 have nc3 : ∀ j u, (mkM (0 - (x.mark : Int) - i))[j]? = some u → (W3.drew.alloc (.cells (mkM (0 - (x.mark : Int) - i)).toArray 82)).cell? ⟨W3.drew.heap.size, j, none⟩ = some u := fun j u hu => by
   have := range_new W3.drew (mkM (0 - (x.mark : Int) - i)).toArray 82 j u hu
   rwa [Nat.zero_add] at this
 generalize W3.drew.alloc (.cells (mkM (0 - (x.mark : Int) - i)).toArray 82) = A3 at c3 nc3 ⊢
 have B3 := S3.below c3
 have sm3 : Sm [g] W3 A3 := .below c3 fun z hz => (hl3 z hz).1
 have n23 := B3.G3.n2
 repeat ((conv => whnf); first | (refine VS.mk sm3 ?_) | refine Xt ?_ | refine Xq ?_ | refine Xn ?_ | refine Xj ?_ | refine Xo ?_); try (conv => whnf)
 refine VApp.offG 4 48 _ Tryz.underlying59 info83 rfl (by decide) mkM (fun _ => rfl) one_mkM _ (0 - (x.mark : Int) - i) (by rw [List.length_append, marks_len, negs_len, n23]) B3.G3.two.2.1 nc3 B3.kz (by omega) (by omega) fun A8 c8 K4 w8 oA8 q8 kz8 hwh => ?_
 have sn3 : Sm [g] W3 w8 := sm3.trans fun z hz => q8.same z (by have := (hl3 z hz).1; have := c3.size; omega) (hl3 z hz).2
 have t8 := there_same B3.T (q8.same g B3.hg (by rw [B3.kg]; omega))
 repeat ((conv => whnf); first | (refine VS.mk sn3 ?_) | refine Xt ?_ | refine Xq ?_ | refine Xn ?_ | refine Xj ?_ | refine Xo ?_); try (conv => whnf)
 refine VStore.cell (by kernel_rfl) (by rw [addO_eq]; exact (t8 10 (by omega)).1) (by rw [addO_eq]; exact (t8 10 (by omega)).2) rfl rfl fun W4 hw9 => ?_
 have S4 := B3.step3 oA8 q8 kz8 hwh (w9 := W4) (by rw [hw9.out, addO_eq])
 clear hw9 t8 sn3 q8 oA8 kz8 hwh B3 sm3 nc3 c3 S3 n23 NA3 NM3 sd3 hl3
 clear w8 A3
 repeat ((conv => whnf); first | (refine VS.last rfl ?_) | refine Xt ?_ | refine Xq ?_ | refine Xn ?_ | refine Xj ?_ | refine Xo ?_); try (conv => whnf)
 generalize hy3 : ({ y3 with m := { y3.m with A2 := A8, n2 := y3.m.n2 + 1, c2 := c8 } } : ShX) = y4 at S4
 clear hy3
 have NA4 : Ld Tryz.prog 60 g (addO off 13) (Sm [g] W4) (.slice y4.d.A2 y4.d.n2 y4.d.c2) := ⟨fun W' hW => loadD (by rw [addO_eq]; exact cell_sm (S4.P 13 _ rfl) (by simp) hW)⟩
 have NM4 : Ld Tryz.prog 3 g (addO off 15) (Sm [g] W4) (.int .i64 x.mark) := ⟨fun W' hW => load3 (by rw [addO_eq, ← S4.me]; exact cell_sm (S4.P 15 _ rfl) (by simp) hW)⟩
 have sd4 : Sm [g] W4 W4.drew := fun _ _ => rfl
 have hl4 : ∀ z ∈ [g], z < W4.heap.size ∧ K4 z ≠ ρ + 4 := fun z hz => by rw [List.mem_singleton.1 hz]; exact ⟨S4.hg, by rw [S4.kg]; omega⟩
 repeat ((conv => whnf); first | refine Xt ?_ | refine Xq ?_ | refine Xn ?_ | refine Xj ?_ | refine Xo ?_); try (conv => whnf)
 refine VDraw.pl 17 (.one [0, 1, 2, 3, 4, 5, 6, 7, 8, 9, 10, 11, 12] 13 (.one [] 14 (.one [15, 16] 17 (.stop [])))) (Sm [g] W4) (by kernel_rfl) (sd4) ?_
 repeat ((conv => whnf); first | refine Xl NA4 ?_ | refine Xl NM4 ?_ | refine Xt ?_ | refine Xq ?_ | refine Xn ?_ | refine Xj ?_ | refine Xo ?_); try (conv => whnf)
 refine VBuild.mk (.agg (mkD (0 - (x.mark : Int) - i)).toArray) (fun W' => buildD W' (0 - (x.mark : Int) - i)) ?_
 repeat ((conv => whnf); first | refine Xt ?_ | refine Xq ?_ | refine Xn ?_ | refine Xj ?_ | refine Xo ?_); try (conv => whnf)
 refine VBs.mk _ _ (bsD W4.drew (0 - (x.mark : Int) - i)) ?_
 have c4 : Below W4.heap.size W4 (W4.drew.alloc (.cells (mkD (0 - (x.mark : Int) - i)).toArray 44)) := (Below.refl _ W4).drew.trans ((Below.refl W4.drew.heap.size W4.drew).alloc (Nat.le_refl _) _)
 have nc4 : ∀ j u, (mkD (0 - (x.mark : Int) - i))[j]? = some u → (W4.drew.alloc (.cells (mkD (0 - (x.mark : Int) - i)).toArray 44)).cell? ⟨W4.drew.heap.size, j, none⟩ = some u := fun j u hu => by
   have := range_new W4.drew (mkD (0 - (x.mark : Int) - i)).toArray 44 j u hu
   rwa [Nat.zero_add] at this
 generalize W4.drew.alloc (.cells (mkD (0 - (x.mark : Int) - i)).toArray 44) = A4 at c4 nc4 ⊢
 have B4 := S4.below c4
 have sm4 : Sm [g] W4 A4 := .below c4 fun z hz => (hl4 z hz).1
 have n24 := B4.G4.n2
 repeat ((conv => whnf); first | (refine VS.mk sm4 ?_) | refine Xt ?_ | refine Xq ?_ | refine Xn ?_ | refine Xj ?_ | refine Xo ?_); try (conv => whnf)
 refine VApp.offG 4 48 _ Tryz.underlying60 info71 rfl (by decide) mkD (fun _ => rfl) one_mkD _ (0 - (x.mark : Int) - i) (by rw [List.length_append, marks_len, negs_len, n24]) B4.G4.two.2.1 nc4 B4.kz (by omega) (by omega) fun A8 c8 K5 w8 oA8 q8 kz8 hwh => ?_
 have sn4 : Sm [g] W4 w8 := sm4.trans fun z hz => q8.same z (by have := (hl4 z hz).1; have := c4.size; omega) (hl4 z hz).2
 have t8 := there_same B4.T (q8.same g B4.hg (by rw [B4.kg]; omega))
 repeat ((conv => whnf); first | (refine VS.mk sn4 ?_) | refine Xt ?_ | refine Xq ?_ | refine Xn ?_ | refine Xj ?_ | refine Xo ?_); try (conv => whnf)
 refine VStore.cell (by kernel_rfl) (by rw [addO_eq]; exact (t8 13 (by omega)).1) (by rw [addO_eq]; exact (t8 13 (by omega)).2) rfl rfl fun W5 hw9 => ?_
 have S5 := B4.step4 oA8 q8 kz8 hwh (w9 := W5) (by rw [hw9.out, addO_eq])
 clear hw9 t8 sn4 q8 oA8 kz8 hwh B4 sm4 nc4 c4 S4 n24 NA4 NM4 sd4 hl4
 clear w8 A4
 repeat ((conv => whnf); first | (refine VS.last rfl ?_) | refine Xt ?_ | refine Xq ?_ | refine Xn ?_ | refine Xj ?_ | refine Xo ?_); try (conv => whnf)
 generalize hy4 : ({ y4 with d := { y4.d with A2 := A8, n2 := y4.d.n2 + 1, c2 := c8 } } : ShX) = y5 at S5
 clear hy4
 exact .mk (i + 1) ⟨rfl, rfl, trivial⟩ ⟨hin, y5, K5, S5⟩ (by omega)
end
end Go.Proofs.YtoilipfgimcoiaaGreat
namespace Go.Proofs.YtoilipfgimcoiaaGreat
open Go Go.RowKit
theorem VBin.slotE {a b : Int} {S : World → Prop} {K : Value → Prop} (hk : K (.bool false)) : VBin Tryz.prog .neq 46 (.agg #[.int .i64 a, .int .i64 b]) (.agg #[.int .i64 a, .int .i64 b]) S K := by
 refine VBin.mk _ (Bn.of fun W => run_neq_slot W a b a b) ?_
 rw [decide_eq_true ⟨rfl, rfl⟩]; exact hk
def atV (k i n : Nat) : Int := if i < n then (k : Int) + i else 0 - (k : Int) - ((i - n : Nat) : Int)
theorem both_get {k i n : Nat} (h : i < n + 64) : (marks k n ++ negs k 64)[i]? = some (atV k i n) := by
 unfold atV
 by_cases hi : i < n
 · rw [if_pos hi, List.getElem?_append_left (by rw [marks_len]; exact hi)]; exact marks_get hi
 · rw [if_neg hi, List.getElem?_append_right (by rw [marks_len]; omega), marks_len]; exact negs_get (by omega)
section
variable {K K' : Nat → Nat} {w w' : World} {ρ q g off P : Nat} {x : ShX} {Q : Nat → Prop}
set_option maxRecDepth 100000 in
theorem at_any (x : ShX) (i n : Nat) (hm : x.mark ≤ 1000000) (hi : i ≤ 10000000) (hn : n ≤ 10000000) (w : World) : Calls Tryz.prog 115 #[.agg (shA x), .int .i64 i, .int .i64 n] w fun e w' => e = .returned (.int .i64 (atV x.mark i n)) ∧ Below w.heap.size w w' := by
 refine calls_vc tab_ok Tryz.func115 rfl ?_
 conv => whnf
 refine .mk fun wA hwA => ?_
 obtain ⟨ba, hba⟩ : ∃ ba, ba = w.heap.size := ⟨_, rfl⟩
 rw [← hba]
 have bA : Below w.heap.size w wA := by rw [hwA.out]; exact below_box1 _ _ _
 have oA : wA.rangeAt ba 0 (eSh x) := by rw [hwA.out, hba]; exact range_new w _ 62
 clear hwA
 have L : Ld Tryz.prog 3 ba 15 (Eq wA) (.int .i64 x.mark) := .of (load3 (oA 15 _ rfl))
 by_cases h : i < n
 · repeat ((conv => whnf); first | refine Xl L ?_ | refine Xt ?_ | refine Xq ?_ | refine Xn ?_ | refine Xj ?_ | refine Xo ?_); try (conv => whnf)
   exact .mk ⟨by unfold atV; rw [if_pos h]; rfl, by rw [hba]; exact bA⟩
 · repeat ((conv => whnf); first | refine Xl L ?_ | refine Xt ?_ | refine Xq ?_ | refine Xn ?_ | refine Xj ?_ | refine Xo ?_); try (conv => whnf)
   refine .mk ⟨?_, by rw [hba]; exact bA⟩
   unfold atV
   rw [if_neg h, show ((i - n : Nat) : Int) = (i : Int) - n by omega]
   rfl
set_option maxRecDepth 100000 in
set_option maxHeartbeats 8000000 in
theorem sameItem_any (y : ISl) (w : World) : Calls Tryz.prog 107 #[.agg (isA y), .agg (isA y)] w fun e w' => e = .returned (.bool true) ∧ Below w.heap.size w w' := by
 refine calls_vc tab_ok Tryz.func107 rfl ?_
 conv => whnf
 refine .mk fun w1 hw1 => ?_
 have b1 : Below w.heap.size w w1 := by rw [hw1.out]; exact below_box1 _ _ _
 have z1 : w1.heap.size = w.heap.size + 1 := by rw [hw1.out]; exact World.size_alloc _ _
 have r1 : w1.rangeAt w.heap.size 0 (eIS y) := by rw [hw1.out]; exact range_new w _ 48
 clear hw1
 conv => whnf
 refine .mk fun w2 hw2 => ?_
 have b2 : Below w1.heap.size w1 w2 := by rw [hw2.out]; exact below_box1 _ _ _
 have r2 : w2.rangeAt w1.heap.size 0 (eIS y) := by rw [hw2.out]; exact range_new w1 _ 48
 have zz2 : w2.heap.size = w1.heap.size + 1 := by rw [hw2.out]; exact World.size_alloc _ _
 clear hw2
 have b02 : Below w.heap.size w w2 := b1.trans (b2.mono (by omega))
 have r12 := range_same r1 (b2.block w.heap.size (by omega))
 have hp2 : w1.heap.size < w2.heap.size ∨ True := .inr trivial
 obtain ⟨p1, hp1⟩ : ∃ p1, p1 = w.heap.size := ⟨_, rfl⟩
 obtain ⟨p2, hp2⟩ : ∃ p2, p2 = w1.heap.size := ⟨_, rfl⟩
 rw [← hp1] at r12 ⊢
 rw [← hp2] at r2 ⊢
 have z2 := b2.size
 have A0 : Ld Tryz.prog 3 p1 0 (Eq w2) (.int .i64 2) := .of (load3 (r12 0 _ rfl))
 have B0 : Ld Tryz.prog 3 p2 0 (Eq w2) (.int .i64 2) := .of (load3 (r2 0 _ rfl))
 have A1 : Ld Tryz.prog 44 p1 1 (Eq w2) (.agg (dtA dt0 none 0 0)) := .of (load_agg (cs := (dtA dt0 none 0 0).toList) (by kernel_rfl) (by kernel_rfl) (range_sub (n := 4) r12 1 rfl))
 have B1 : Ld Tryz.prog 44 p2 1 (Eq w2) (.agg (dtA dt0 none 0 0)) := .of (load_agg (cs := (dtA dt0 none 0 0).toList) (by kernel_rfl) (by kernel_rfl) (range_sub (n := 4) r2 1 rfl))
 repeat ((conv => whnf); first | refine Xl A0 ?_ | refine Xl B0 ?_ | refine Xl A1 ?_ | refine Xl B1 ?_ | refine Xt ?_ | refine Xq ?_ | refine Xn ?_ | refine Xj ?_ | refine Xo ?_); try (conv => whnf)
 refine VCall.mk _ (sameData_any dt0 dt0 none none 0 0 0 0 w2 rfl rfl (fun h => absurd h (by simp [dt0])) (fun h => absurd h (by simp [dt0])) (by omega)) ?_
 rintro _ w3 ⟨rfl, b3⟩
 refine ⟨_, rfl, ?_⟩
 rw [sameD_eq.2 (rfl : dt0 = dt0)]
 have r13 := range_same r12 (b3.block p1 (by omega))
 have r23 := range_same r2 (b3.block p2 (by omega))
 have A5 : Ld Tryz.prog 3 p1 5 (Eq w3) (.int .i64 y.pos) := .of (load3 (r13 5 _ rfl))
 have B5 : Ld Tryz.prog 3 p2 5 (Eq w3) (.int .i64 y.pos) := .of (load3 (r23 5 _ rfl))
 have A6 : Ld Tryz.prog 3 p1 6 (Eq w3) (.int .i64 y.sb) := .of (load3 (r13 6 _ rfl))
 have B6 : Ld Tryz.prog 3 p2 6 (Eq w3) (.int .i64 y.sb) := .of (load3 (r23 6 _ rfl))
 have A7 : Ld Tryz.prog 46 p1 7 (Eq w3) (.agg #[.int .i64 y.x.s, .int .i64 y.x.q]) := .of (load_agg (cs := eSl y.x) (by kernel_rfl) (by kernel_rfl) (range_sub (n := 2) r13 7 rfl))
 have B7 : Ld Tryz.prog 46 p2 7 (Eq w3) (.agg #[.int .i64 y.x.s, .int .i64 y.x.q]) := .of (load_agg (cs := eSl y.x) (by kernel_rfl) (by kernel_rfl) (range_sub (n := 2) r23 7 rfl))
 repeat ((conv => whnf); first | refine Xl A5 ?_ | refine Xl B5 ?_ | refine Xl A6 ?_ | refine Xl B6 ?_ | refine Xl A7 ?_ | refine Xl B7 ?_ | refine Xt ?_ | refine Xq ?_ | refine Xn ?_ | refine Xj ?_ | refine Xo ?_); try (conv => whnf)
 refine VBin.slot (fun _ _ => ?_) (fun h => absurd ⟨rfl, rfl⟩ h)
 repeat ((conv => whnf); first | refine Xt ?_ | refine Xq ?_ | refine Xn ?_ | refine Xj ?_ | refine Xo ?_); try (conv => whnf)
 exact .mk ⟨rfl, by rw [hp1]; exact b02.trans (b3.mono b02.size)⟩
set_option maxRecDepth 100000 in
set_option maxHeartbeats 8000000 in
theorem sameItems_any (A B : Option Addr) (c d n N : Nat) (la : List ISl) (w : World) (hn : la.length = n) (hN : N ≤ w.heap.size) (hA : RowAt w N 9 eIS A la) (hB : RowAt w N 9 eIS B la) (h1 : n ≤ 1000000000) :
   Calls Tryz.prog 49 #[.slice A n c, .slice B n d] w fun e w' => e = .returned (.bool true) ∧ Below w.heap.size w w' := by
 refine calls_vc tab_ok Tryz.func49 rfl ?_
 conv => whnf
 repeat ((conv => whnf); first | refine Xt ?_ | refine Xq ?_ | refine Xn ?_ | refine Xj ?_ | refine Xo ?_); try (conv => whnf)
 refine VLoop.mk Nat (fun k => [(0, .slice A n c), (1, .slice B n d), (5, .int .i64 k)]) (fun k W => k ≤ n ∧ Below w.heap.size w W) (fun k => n - k) 0 ⟨rfl, rfl, rfl, trivial⟩ ⟨Nat.zero_le _, Below.refl _ _⟩ ?_
 rintro k W ⟨hk, hW⟩
 by_cases hkn : k < n
 case neg =>
   repeat ((conv => whnf); first | refine Xt ?_ | refine Xq ?_ | refine Xn ?_ | refine Xj ?_ | refine Xo ?_); try (conv => whnf)
   exact .mk ⟨rfl, hW⟩
 obtain ⟨ga, oa, rfl, ha, ca⟩ := hA (by omega)
 obtain ⟨gb, ob, rfl, hb, cb⟩ := hB (by omega)
 obtain ⟨x, hx⟩ : ∃ x, la[k]? = some x := ⟨_, List.getElem?_eq_getElem (by omega)⟩
 have L1 : Ld Tryz.prog 48 ga (oa + mulO k 9) (Sm [ga, gb] W) (.agg (isA x)) := ⟨fun W' hW' => load_agg (cs := eIS x) (by kernel_rfl) (by kernel_rfl) fun j u hu => (World.cell?_of_block (a := ⟨ga, _, none⟩) ((hW' ga (by simp)).trans (hW.block ga (by omega)))).trans (by rw [mulO_eq]; exact ca k x hx j u hu)⟩
 have L2 : Ld Tryz.prog 48 gb (ob + mulO k 9) (Sm [ga, gb] W) (.agg (isA x)) := ⟨fun W' hW' => load_agg (cs := eIS x) (by kernel_rfl) (by kernel_rfl) fun j u hu => (World.cell?_of_block (a := ⟨gb, _, none⟩) ((hW' gb (by simp)).trans (hW.block gb (by omega)))).trans (by rw [mulO_eq]; exact cb k x hx j u hu)⟩
 have hs : Sm [ga, gb] W W.drew := fun _ _ => rfl
 have hz := hW.size
 repeat ((conv => whnf); first | refine Xt ?_ | refine Xq ?_ | refine Xn ?_ | refine Xj ?_ | refine Xo ?_); try (conv => whnf)
 refine VDraw.pl 1000 (.one [0, 1, 2, 3, 4, 5, 6, 7] 8 (.stop [9])) (Sm [ga, gb] W) (by kernel_rfl) (hs) ?_
 repeat ((conv => whnf); first | refine Xl L1 ?_ | refine Xl L2 ?_ | refine Xt ?_ | refine Xq ?_ | refine Xn ?_ | refine Xj ?_ | refine Xo ?_); try (conv => whnf)
 refine VCall.mk _ (sameItem_any x W.drew) ?_
 rintro _ w2 ⟨rfl, b2⟩
 refine ⟨_, rfl, ?_⟩
 have b2' : Below W.heap.size W w2 := (Below.refl _ W).drew.trans b2
 have hs2 : Sm [ga, gb] W w2 := .below b2' fun k hk => by
   simp only [List.mem_cons, List.not_mem_nil, or_false] at hk
   rcases hk with rfl | rfl <;> omega
 repeat ((conv => whnf); first | (refine VS.mk hs2 ?_) | refine Xt ?_ | refine Xq ?_ | refine Xn ?_ | refine Xj ?_ | refine Xo ?_); try (conv => whnf)
 exact .mk (k + 1) ⟨rfl, rfl, rfl, trivial⟩ ⟨hkn, hW.trans (b2'.mono hz)⟩ (by show n - (k + 1) < n - k; omega)
set_option maxRecDepth 100000 in
set_option maxHeartbeats 8000000 in
theorem sameMsgs_any (A B : Option Addr) (c d n N : Nat) (la lb : List MgX) (w : World) (hn : la.length = n) (hm : la.map (·.m) = lb.map (·.m)) (hN : N ≤ w.heap.size) (hA : RowAt w N 4 eMg A la) (hB : RowAt w N 4 eMg B lb)
   (bA : ∀ x ∈ la, RowAt w N 1 eByte x.A x.m.b) (bB : ∀ x ∈ lb, RowAt w N 1 eByte x.A x.m.b) (hl : ∀ x ∈ la, x.m.b.length ≤ 1000000000) (h1 : n ≤ 1000000000) :
   Calls Tryz.prog 52 #[.slice A n c, .slice B n d] w fun e w' => e = .returned (.bool true) ∧ Below w.heap.size w w' := by
 refine calls_vc tab_ok Tryz.func52 rfl ?_
 have hn2 : lb.length = n := by have := congrArg List.length hm; simp at this; omega
 conv => whnf
 repeat ((conv => whnf); first | refine Xt ?_ | refine Xq ?_ | refine Xn ?_ | refine Xj ?_ | refine Xo ?_); try (conv => whnf)
 refine VLoop.mk Nat (fun k => [(0, .slice A n c), (1, .slice B n d), (5, .int .i64 k)]) (fun k W => k ≤ n ∧ Below w.heap.size w W) (fun k => n - k) 0 ⟨rfl, rfl, rfl, trivial⟩ ⟨Nat.zero_le _, Below.refl _ _⟩ ?_
 rintro k W ⟨hk, hW⟩
 by_cases hkn : k < n
 case neg =>
   repeat ((conv => whnf); first | refine Xt ?_ | refine Xq ?_ | refine Xn ?_ | refine Xj ?_ | refine Xo ?_); try (conv => whnf)
   exact .mk ⟨rfl, hW⟩
 obtain ⟨ga, oa, rfl, ha, ca⟩ := hA (by omega)
 obtain ⟨gb, ob, rfl, hb, cb⟩ := hB (by omega)
 obtain ⟨x, hx⟩ : ∃ x, la[k]? = some x := ⟨_, List.getElem?_eq_getElem (by omega)⟩
 obtain ⟨y, hy⟩ : ∃ y, lb[k]? = some y := ⟨_, List.getElem?_eq_getElem (by omega)⟩
 have hxm := List.mem_of_getElem? hx
 have hym := List.mem_of_getElem? hy
 have hxy : x.m = y.m := by
   have g1 : (la.map (·.m))[k]? = some x.m := by rw [List.getElem?_map, hx]; rfl
   have g2 : (lb.map (·.m))[k]? = some y.m := by rw [List.getElem?_map, hy]; rfl
   rw [hm, g2] at g1
   injection g1 with g1
   exact g1.symm
 have hz := hW.size
 have La : ∀ {ty : TypeId} {j : Nat} {v : Value}, (eMg x)[j]? = some v → (∀ {W' : World} {o : Nat}, W'.cell? ⟨ga, o, none⟩ = some v → (loadVar ty ⟨ga, o, none⟩).run Tryz.prog W' = .ok v W') → Ld Tryz.prog ty ga (addO (oa + mulO k 4) j) (Sm [ga, gb] W) v := fun {ty j v} hv hr => ⟨fun W' hW' => hr (by rw [addO_eq, mulO_eq]; exact (World.cell?_of_block (a := ⟨ga, _, none⟩) ((hW' ga (by simp)).trans (hW.block ga (by omega)))).trans (ca k x hx j v hv))⟩
 have Lb : ∀ {ty : TypeId} {j : Nat} {v : Value}, (eMg y)[j]? = some v → (∀ {W' : World} {o : Nat}, W'.cell? ⟨gb, o, none⟩ = some v → (loadVar ty ⟨gb, o, none⟩).run Tryz.prog W' = .ok v W') → Ld Tryz.prog ty gb (addO (ob + mulO k 4) j) (Sm [ga, gb] W) v := fun {ty j v} hv hr => ⟨fun W' hW' => hr (by rw [addO_eq, mulO_eq]; exact (World.cell?_of_block (a := ⟨gb, _, none⟩) ((hW' gb (by simp)).trans (hW.block gb (by omega)))).trans (cb k y hy j v hv))⟩
 have A0 : Ld Tryz.prog 3 ga (addO (oa + mulO k 4) 0) (Sm [ga, gb] W) (.int .i64 x.m.p) := La rfl load3
 have A1 : Ld Tryz.prog 3 ga (addO (oa + mulO k 4) 1) (Sm [ga, gb] W) (.int .i64 x.m.s) := La rfl load3
 have A2 : Ld Tryz.prog 3 ga (addO (oa + mulO k 4) 2) (Sm [ga, gb] W) (.int .i64 x.m.q) := La rfl load3
 have A3 : Ld Tryz.prog 42 ga (addO (oa + mulO k 4) 3) (Sm [ga, gb] W) (.slice x.A x.m.b.length x.c) := La rfl load27
 have B0 : Ld Tryz.prog 3 gb (addO (ob + mulO k 4) 0) (Sm [ga, gb] W) (.int .i64 x.m.p) := by rw [hxy]; exact Lb rfl load3
 have B1 : Ld Tryz.prog 3 gb (addO (ob + mulO k 4) 1) (Sm [ga, gb] W) (.int .i64 x.m.s) := by rw [hxy]; exact Lb rfl load3
 have B2 : Ld Tryz.prog 3 gb (addO (ob + mulO k 4) 2) (Sm [ga, gb] W) (.int .i64 x.m.q) := by rw [hxy]; exact Lb rfl load3
 have B3 : Ld Tryz.prog 42 gb (addO (ob + mulO k 4) 3) (Sm [ga, gb] W) (.slice y.A y.m.b.length y.c) := Lb rfl load27
 have hs : Sm [ga, gb] W W.drew := fun _ _ => rfl
 have hWd : Below w.heap.size w W.drew := hW.trans ((Below.refl _ W).drew.mono hz)
 have toAt : ∀ {A : Option Addr} {l : List Int}, RowAt w N 1 eByte A l → RowAt W.drew N 1 eByte A l := fun {A l} h => h.below hWd hN
 have hzN : N ≤ W.drew.heap.size := by show N ≤ W.heap.size; omega
 repeat ((conv => whnf); first | refine Xt ?_ | refine Xq ?_ | refine Xn ?_ | refine Xj ?_ | refine Xo ?_); try (conv => whnf)
 refine VDraw.pl 1000 (.one [0, 1, 2, 3, 4, 5, 6, 7, 8, 9, 10, 11, 12, 13, 14, 15, 16, 17, 18, 19, 20, 21, 22, 23, 24, 25, 26, 27, 28, 29, 30, 31, 32, 33, 34, 35, 36, 37, 38, 39, 40, 41, 42, 43, 44, 45, 46, 47] 48 (.stop [49, 50])) (Sm [ga, gb] W) (by kernel_rfl) (hs) ?_
 repeat ((conv => whnf); first | refine Xl A0 ?_ | refine Xl A1 ?_ | refine Xl A2 ?_ | refine Xl A3 ?_ | refine Xl B0 ?_ | refine Xl B1 ?_ | refine Xl B2 ?_ | refine Xl B3 ?_ | refine Xt ?_ | refine Xq ?_ | refine Xn ?_ | refine Xj ?_ | refine Xo ?_); try (conv => whnf)
 refine VCall.mk _ (sameBytes_any x.A y.A x.c y.c _ _ N x.m.b y.m.b W.drew rfl rfl hzN (toAt (bA x hxm)) (toAt (bB y hym)) (hl x hxm)) ?_
 rintro _ w2 ⟨rfl, b2⟩
 refine ⟨_, rfl, ?_⟩
 rw [decide_eq_true (by rw [hxy] : x.m.b = y.m.b)]
 have b2' : Below W.heap.size W w2 := (Below.refl _ W).drew.trans b2
 have hs2 : Sm [ga, gb] W w2 := .below b2' fun k hk => by
   simp only [List.mem_cons, List.not_mem_nil, or_false] at hk
   rcases hk with rfl | rfl <;> omega
 repeat ((conv => whnf); first | (refine VS.mk hs2 ?_) | refine Xt ?_ | refine Xq ?_ | refine Xn ?_ | refine Xj ?_ | refine Xo ?_); try (conv => whnf)
 exact .mk (k + 1) ⟨rfl, rfl, rfl, trivial⟩ ⟨hkn, hW.trans (b2'.mono hz)⟩ (by show n - (k + 1) < n - k; omega)
end
end Go.Proofs.YtoilipfgimcoiaaGreat
