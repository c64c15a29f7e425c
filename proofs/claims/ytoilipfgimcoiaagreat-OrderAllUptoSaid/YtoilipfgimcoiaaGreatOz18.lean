/- ShA, joined. -/
import Derived.Test.YtoilipfgimcoiaaGreatOz17
set_option linter.unusedVariables false
set_option linter.unusedSimpArgs false
namespace Go.Proofs.YtoilipfgimcoiaaGreat
open Go Go.RowKit
structure LsX where
 A : Option Addr
 n : Nat
 c : Nat
 A2 : Option Addr
 n2 : Nat
 c2 : Nat
 W : Option Addr
 m : Nat
 d : Nat
structure ShX where
 h : LsX
 s : LsX
 i : LsX
 m : LsX
 d : LsX
 mark : Nat
 done : Bool
abbrev shA (x : ShX) : Array Value := #[.slice x.h.A x.h.n x.h.c, .slice x.h.A2 x.h.n2 x.h.c2, .slice x.h.W x.h.m x.h.d, .slice x.s.A x.s.n x.s.c, .slice x.s.A2 x.s.n2 x.s.c2, .slice x.s.W x.s.m x.s.d, .slice x.i.A x.i.n x.i.c, .slice x.i.A2 x.i.n2 x.i.c2, .slice x.i.W x.i.m x.i.d, .slice x.m.A x.m.n x.m.c, .slice x.m.A2 x.m.n2 x.m.c2, .slice x.m.W x.m.m x.m.d, .slice x.d.A x.d.n x.d.c, .slice x.d.A2 x.d.n2 x.d.c2, .slice x.d.W x.d.m x.d.d, .int .i64 x.mark, .bool x.done]
def eSh (x : ShX) : List Value := (shA x).toList
theorem eSh_len (x : ShX) : (eSh x).length = 17 := rfl
theorem one_eSh (x : ShX) : ∀ u ∈ eSh x, u.oneCell' = true := by
 intro u hu
 simp [eSh] at hu
 rcases hu with rfl | rfl | rfl | rfl | rfl | rfl | rfl | rfl | rfl | rfl | rfl | rfl | rfl | rfl | rfl | rfl | rfl <;> rfl
def mkI (v : Int) : List Value := [.int .i64 v]
def mkS (v : Int) : List Value := [.int .i64 v, .int .i64 0]
def mkT (v : Int) : List Value := [.int .i64 v, .int .i64 0, .int .i64 0, .int .i64 0, .slice none 0 0, .int .i64 0, .int .i64 0, .int .i64 0, .int .i64 0]
def mkM (v : Int) : List Value := [.int .i64 v, .int .i64 0, .int .i64 0, .slice none 0 0]
def mkD (v : Int) : List Value := [.int .i64 0, .int .i64 v, .int .i64 0, .slice none 0 0]
theorem one_mkI (v : Int) : ∀ u ∈ mkI v, u.oneCell' = true := by
 intro u hu
 simp [mkI] at hu
 rcases hu with rfl <;> rfl
theorem one_mkS (v : Int) : ∀ u ∈ mkS v, u.oneCell' = true := by
 intro u hu
 simp [mkS] at hu
 rcases hu with rfl | rfl <;> rfl
theorem one_mkT (v : Int) : ∀ u ∈ mkT v, u.oneCell' = true := by
 intro u hu
 simp [mkT] at hu
 rcases hu with rfl | rfl | rfl | rfl <;> rfl
theorem one_mkM (v : Int) : ∀ u ∈ mkM v, u.oneCell' = true := by
 intro u hu
 simp [mkM] at hu
 rcases hu with rfl | rfl | rfl <;> rfl
theorem one_mkD (v : Int) : ∀ u ∈ mkD v, u.oneCell' = true := by
 intro u hu
 simp [mkD] at hu
 rcases hu with rfl | rfl | rfl | rfl <;> rfl
theorem buildS (W : World) (v : Int) : (Instr.build 46 #[(0, .int .i64 v)]).run Tryz.prog W = .ok (.agg (mkS v).toArray) W := by kernel_rfl
theorem buildT (W : World) (v : Int) : (Instr.build 48 #[(0, .int .i64 v)]).run Tryz.prog W = .ok (.agg (mkT v).toArray) W := by kernel_rfl
theorem buildM (W : World) (v : Int) : (Instr.build 82 #[(0, .int .i64 v)]).run Tryz.prog W = .ok (.agg (mkM v).toArray) W := by kernel_rfl
theorem buildD (W : World) (v : Int) : (Instr.build 44 #[(1, .int .i64 v)]).run Tryz.prog W = .ok (.agg (mkD v).toArray) W := by kernel_rfl
theorem loadI {w : World} {b j n c : Nat} {A : Option Addr} (h : w.cell? ⟨b, j, none⟩ = some (.slice A n c)) : (loadVar 56 ⟨b, j, none⟩).run Tryz.prog w = .ok (.slice A n c) w := load49 h
theorem loadS {w : World} {b j n c : Nat} {A : Option Addr} (h : w.cell? ⟨b, j, none⟩ = some (.slice A n c)) : (loadVar 57 ⟨b, j, none⟩).run Tryz.prog w = .ok (.slice A n c) w := load48 h
theorem loadT {w : World} {b j n c : Nat} {A : Option Addr} (h : w.cell? ⟨b, j, none⟩ = some (.slice A n c)) : (loadVar 58 ⟨b, j, none⟩).run Tryz.prog w = .ok (.slice A n c) w := by go_simp
theorem loadM {w : World} {b j n c : Nat} {A : Option Addr} (h : w.cell? ⟨b, j, none⟩ = some (.slice A n c)) : (loadVar 59 ⟨b, j, none⟩).run Tryz.prog w = .ok (.slice A n c) w := by go_simp
theorem loadD {w : World} {b j n c : Nat} {A : Option Addr} (h : w.cell? ⟨b, j, none⟩ = some (.slice A n c)) : (loadVar 60 ⟨b, j, none⟩).run Tryz.prog w = .ok (.slice A n c) w := by go_simp
def marks (k n : Nat) : List Int := (List.range n).map fun i : Nat => (k : Int) + i
def negs (k n : Nat) : List Int := (List.range n).map fun i : Nat => 0 - (k : Int) - i
theorem marks_len (k n : Nat) : (marks k n).length = n := by unfold marks; rw [List.length_map, List.length_range]
theorem negs_len (k n : Nat) : (negs k n).length = n := by unfold negs; rw [List.length_map, List.length_range]
theorem marks_succ (k n : Nat) : marks k (n + 1) = marks k n ++ [(k : Int) + n] := by unfold marks; rw [List.range_succ, List.map_append]; rfl
theorem negs_succ (k n : Nat) : negs k (n + 1) = negs k n ++ [0 - (k : Int) - n] := by unfold negs; rw [List.range_succ, List.map_append]; rfl
theorem marks_get {k n i : Nat} (h : i < n) : (marks k n)[i]? = some ((k : Int) + i) := by unfold marks; rw [List.getElem?_map, List.getElem?_range h]; rfl
theorem negs_get {k n i : Nat} (h : i < n) : (negs k n)[i]? = some (0 - (k : Int) - i) := by unfold negs; rw [List.getElem?_map, List.getElem?_range h]; rfl
def Room (w : World) (K : Nat → Nat) (r sz : Nat) (A : Option Addr) (c n : Nat) : Prop := (A = none ∧ n = 0 ∧ c = 0) ∨ ∃ g off, A = some ⟨g, off, none⟩ ∧ g < w.heap.size ∧ K g = r ∧ n ≤ c ∧ w.there g off (c * sz)
section
variable {K K' : Nat → Nat} {w w' : World} {ρ q g off : Nat} {x : ShX} {Q : Nat → Prop}
theorem OwnO.room {α : Type} {r sz c n : Nat} {enc : α → List Value} {A : Option Addr} {l : List α} (h : OwnO w K r sz enc A c l) (hn : l.length = n) : Room w K r sz A c n := by
 rcases h with ⟨e1, e2, e3⟩ | ⟨g, off, e, h1, h2, h3, h4, -⟩
 · exact .inl ⟨e1, by rw [← hn, e2]; rfl, e3⟩
 · exact .inr ⟨g, off, e, h1, h2, by rw [← hn]; exact h3, h4⟩
theorem Room.own {α : Type} {r sz c n : Nat} {A : Option Addr} (h : Room w K r sz A c n) (enc : α → List Value) : OwnO w K r sz enc A c [] := by
 rcases h with ⟨e1, e2, e3⟩ | ⟨g, off, e, h1, h2, h3, h4⟩
 · exact .inl ⟨e1, rfl, e3⟩
 · exact .inr ⟨g, off, e, h1, h2, Nat.zero_le _, h4, fun k x hx => by simp at hx⟩
theorem Room.ro {r sz c n : Nat} {A : Option Addr} (h : Room w K r sz A c n) (q : Ro Q K K' w w') (hr : ¬ Q r) : Room w' K' r sz A c n := by
 rcases h with h | ⟨g, off, e, h1, h2, h3, h4⟩
 · exact .inl h
 · exact .inr ⟨g, off, e, Nat.lt_of_lt_of_le h1 q.size, (q.kk g h1).trans h2, h3, there_sameO h4 (q.same g h1 (by rw [h2]; exact hr))⟩
def shQ (ρ q z : Nat) : Prop := (ρ ≤ z ∧ z < ρ + 5) ∨ z = q
set_option maxRecDepth 100000 in
set_option maxHeartbeats 16000000 in
theorem swrite_any (P : w.rangeAt g off (eSh x)) (Th : w.there g off 17) (hg : g < w.heap.size) (kg : K g = q) (hq : ¬ (ρ ≤ q ∧ q < ρ + 5)) (hm : x.mark ≤ 1000000)
   (R0 : Room w K (ρ + 0) 1 x.h.A x.h.c x.h.n) (l0 : x.h.n ≤ 1000000)
   (R1 : Room w K (ρ + 1) 2 x.s.A x.s.c x.s.n) (l1 : x.s.n ≤ 1000000)
   (R2 : Room w K (ρ + 2) 9 x.i.A x.i.c x.i.n) (l2 : x.i.n ≤ 1000000)
   (R3 : Room w K (ρ + 3) 4 x.m.A x.m.c x.m.n) (l3 : x.m.n ≤ 1000000)
   (R4 : Room w K (ρ + 4) 4 x.d.A x.d.c x.d.n) (l4 : x.d.n ≤ 1000000)
   : Calls Tryz.prog 19 #[.pointer (some ⟨g, off, none⟩)] w fun e w' => e = .returned (.tuple #[]) ∧ w'.rangeAt g off (eSh { x with done := true }) ∧ w'.there g off 17 ∧ OwnO w' K (ρ + 0) 1 mkI x.h.A x.h.c (marks x.mark x.h.n) ∧ OwnO w' K (ρ + 1) 2 mkS x.s.A x.s.c (marks x.mark x.s.n) ∧ OwnO w' K (ρ + 2) 9 mkT x.i.A x.i.c (marks x.mark x.i.n) ∧ OwnO w' K (ρ + 3) 4 mkM x.m.A x.m.c (marks x.mark x.m.n) ∧ OwnO w' K (ρ + 4) 4 mkD x.d.A x.d.c (marks x.mark x.d.n) ∧ Ro (shQ ρ q) K K w w' ∧ Oth g off 17 w w' := by
 refine calls_vc tab_ok Tryz.func19 rfl ?_
 conv => whnf
 repeat ((conv => whnf); first | refine Xt ?_ | refine Xq ?_ | refine Xn ?_ | refine Xj ?_ | refine Xo ?_); try (conv => whnf)
 refine VStore.cell (by kernel_rfl) (by rw [addO_eq]; exact (Th 16 (by omega)).1) (by rw [addO_eq]; exact (Th 16 (by omega)).2) rfl rfl fun V0 hV0 => ?_
 have hV0' : V0 = w.setCell ⟨g, off + 16, none⟩ (.bool true) := by rw [hV0.out, addO_eq]
 clear hV0
 obtain ⟨P0, T0⟩ := rng_put (j := 16) P Th rfl (by omega) hV0'
 have ro0' : Ro (· = q) K K w V0 := by rw [hV0']; exact Ro.cell kg _ _
 have ro0 : Ro (shQ ρ q) K K w V0 := ro0'.more fun z e => .inr e
 have oth0 : Oth g off 17 w V0 := Oth.set hV0' (by omega)
 clear hV0'
 have R0 := R0.ro ro0' (by omega)
 have R1 := R1.ro ro0' (by omega)
 have R2 := R2.ro ro0' (by omega)
 have R3 := R3.ro ro0' (by omega)
 have R4 := R4.ro ro0' (by omega)
 obtain ⟨y, hy⟩ : ∃ y : ShX, y = { x with done := true } := ⟨_, rfl⟩
 have P0 : V0.rangeAt g off (eSh y) := by rw [hy]; exact P0
 rw [← hy]
 have hmk : y.mark = x.mark := by rw [hy]
 have e0 : y.h = x.h := by rw [hy]
 have e1 : y.s = x.s := by rw [hy]
 have e2 : y.i = x.i := by rw [hy]
 have e3 : y.m = x.m := by rw [hy]
 have e4 : y.d = x.d := by rw [hy]
 have hg0 : g < V0.heap.size := Nat.lt_of_lt_of_le hg ro0.size
 clear ro0' P Th hg hy
 repeat ((conv => whnf); first | refine Xt ?_ | refine Xq ?_ | refine Xn ?_ | refine Xj ?_ | refine Xo ?_); try (conv => whnf)
 refine VLoop.mk Nat (fun i => [(0, .pointer (some ⟨g, off, none⟩)), (2, .int .i64 i)]) (fun i W => i ≤ x.h.n ∧ OwnO W K (ρ + 0) 1 mkI x.h.A x.h.c (marks x.mark i) ∧ Ro (· = ρ + 0) K K V0 W) (fun i => x.h.n - i) 0 ⟨rfl, rfl, trivial⟩ ⟨Nat.zero_le _, R0.own mkI, Ro.refl _ _ _⟩ ?_
 rintro i V1 ⟨hi, D1, rr1⟩
 have gs1 : V1.heap[g]? = V0.heap[g]? := rr1.same g hg0 (by rw [kg]; omega)
 have P1 := range_same P0 gs1
 have T1 := there_same T0 gs1
 have hg1 : g < V1.heap.size := Nat.lt_of_lt_of_le hg0 rr1.size
 have N1 : Ld Tryz.prog 56 g (addO off 0) (Sm [g] V1) (.slice x.h.A x.h.n x.h.c) := ⟨fun W' hW => loadI (by rw [addO_eq, ← e0]; exact cell_sm (P1 0 _ rfl) (by simp) hW)⟩
 have MM1 : Ld Tryz.prog 3 g (addO off 15) (Sm [g] V1) (.int .i64 x.mark) := ⟨fun W' hW => load3 (by rw [addO_eq, ← hmk]; exact cell_sm (P1 15 _ rfl) (by simp) hW)⟩
 have sr1 := Sm.refl [g] V1
 by_cases hin1 : i < x.h.n
 case pos =>
   obtain ⟨gB, oB, eB, gB1, kB, hcB, tB⟩ : ∃ gB oB, x.h.A = some ⟨gB, oB, none⟩ ∧ gB < V0.heap.size ∧ K gB = ρ + 0 ∧ x.h.n ≤ x.h.c ∧ V0.there gB oB (x.h.c * 1) := by
     rcases R0 with ⟨-, e2, -⟩ | ⟨gB, oB, e, h1, h2, h3, h4⟩
     · omega
     · exact ⟨gB, oB, e, h1, h2, h3, h4⟩
   have tB' : V1.there gB oB (x.h.c * 1) := by
     rcases D1 with ⟨e, -⟩ | ⟨g', o', e, -, -, -, h4, -⟩
     · rw [eB] at e; cases e
     · rw [eB] at e
       injection e with e
       injection e with e1 e2 _
       subst e1 e2
       exact h4
   have ti := there_mid tB' hin1 hcB
   rw [eB] at N1 D1
   have sd : Sm [g] V1 V1.drew := fun _ _ => rfl
   have hlen := marks_len x.mark i
   have Ad := D1.ro (Ro.below (R := fun _ => False) (Below.refl _ V1).drew) id
   repeat ((conv => whnf); first | refine Xl (N1.at sr1) ?_ | refine Xt ?_ | refine Xq ?_ | refine Xn ?_ | refine Xj ?_ | refine Xo ?_); try (conv => whnf)
   refine VDraw.pl 12 (.one [0, 1, 2, 3, 4, 5, 6, 7, 8, 9, 10, 11] 12 (.stop [])) (Sm [g] V1) (by kernel_rfl) (sd) ?_
   repeat ((conv => whnf); first | refine Xl N1 ?_ | refine Xl MM1 ?_ | refine Xt ?_ | refine Xq ?_ | refine Xn ?_ | refine Xj ?_ | refine Xo ?_); try (conv => whnf)
   have t0 := ti 0 (by omega)
   refine VStore.cell (by kernel_rfl) (by rw [mulO_eq]; exact t0.1) (by rw [mulO_eq]; exact t0.2) rfl rfl fun w9 hw9 => ?_
   obtain ⟨D9, q9⟩ := Ad.push (w' := w9) (fun _ => rfl) (by rw [hlen]; omega) ((x.mark : Int) + i) (by rw [hw9.out, hlen, mulO_eq]; rfl)
   repeat ((conv => whnf); first | (refine VS.last rfl ?_) | refine Xt ?_ | refine Xq ?_ | refine Xn ?_ | refine Xj ?_ | refine Xo ?_); try (conv => whnf)
   exact .mk (i + 1) ⟨rfl, rfl, trivial⟩ ⟨hin1, by rw [marks_succ, eB]; exact D9, (rr1.drew).trans q9⟩ (by show x.h.n - (i + 1) < x.h.n - i; omega)
 obtain rfl : i = x.h.n := by omega
 have R1 := R1.ro rr1 (by omega)
 have R2 := R2.ro rr1 (by omega)
 have R3 := R3.ro rr1 (by omega)
 have R4 := R4.ro rr1 (by omega)
 have ro1 : Ro (shQ ρ q) K K w V1 := ro0.trans (rr1.more fun z e => .inl (by omega))
 have oth1 : Oth g off 17 w V1 := oth0.trans (Oth.same gs1)
 repeat ((conv => whnf); first | refine Xl (N1.at sr1) ?_ | refine Xt ?_ | refine Xq ?_ | refine Xn ?_ | refine Xj ?_ | refine Xo ?_); try (conv => whnf)
 repeat ((conv => whnf); first | refine Xt ?_ | refine Xq ?_ | refine Xn ?_ | refine Xj ?_ | refine Xo ?_); try (conv => whnf)
 refine VLoop.mk Nat (fun i => [(0, .pointer (some ⟨g, off, none⟩)), (3, .int .i64 i)]) (fun i W => i ≤ x.s.n ∧ OwnO W K (ρ + 1) 2 mkS x.s.A x.s.c (marks x.mark i) ∧ Ro (· = ρ + 1) K K V1 W) (fun i => x.s.n - i) 0 ⟨rfl, rfl, trivial⟩ ⟨Nat.zero_le _, R1.own mkS, Ro.refl _ _ _⟩ ?_
 rintro i V2 ⟨hi, D2, rr2⟩
 have gs2 : V2.heap[g]? = V1.heap[g]? := rr2.same g hg1 (by rw [kg]; omega)
 have P2 := range_same P1 gs2
 have T2 := there_same T1 gs2
 have hg2 : g < V2.heap.size := Nat.lt_of_lt_of_le hg1 rr2.size
 have N2 : Ld Tryz.prog 57 g (addO off 3) (Sm [g] V2) (.slice x.s.A x.s.n x.s.c) := ⟨fun W' hW => loadS (by rw [addO_eq, ← e1]; exact cell_sm (P2 3 _ rfl) (by simp) hW)⟩
 have MM2 : Ld Tryz.prog 3 g (addO off 15) (Sm [g] V2) (.int .i64 x.mark) := ⟨fun W' hW => load3 (by rw [addO_eq, ← hmk]; exact cell_sm (P2 15 _ rfl) (by simp) hW)⟩
 have sr2 := Sm.refl [g] V2
 by_cases hin2 : i < x.s.n
 case pos =>
   obtain ⟨gB, oB, eB, gB1, kB, hcB, tB⟩ : ∃ gB oB, x.s.A = some ⟨gB, oB, none⟩ ∧ gB < V1.heap.size ∧ K gB = ρ + 1 ∧ x.s.n ≤ x.s.c ∧ V1.there gB oB (x.s.c * 2) := by
     rcases R1 with ⟨-, e2, -⟩ | ⟨gB, oB, e, h1, h2, h3, h4⟩
     · omega
     · exact ⟨gB, oB, e, h1, h2, h3, h4⟩
   have tB' : V2.there gB oB (x.s.c * 2) := by
     rcases D2 with ⟨e, -⟩ | ⟨g', o', e, -, -, -, h4, -⟩
     · rw [eB] at e; cases e
     · rw [eB] at e
       injection e with e
       injection e with e1 e2 _
       subst e1 e2
       exact h4
   have ti := there_mid tB' hin2 hcB
   rw [eB] at N2 D2
   have sd : Sm [g] V2 V2.drew := fun _ _ => rfl
   have hlen := marks_len x.mark i
   have Ad := D2.ro (Ro.below (R := fun _ => False) (Below.refl _ V2).drew) id
   repeat ((conv => whnf); first | refine Xl (N2.at sr2) ?_ | refine Xt ?_ | refine Xq ?_ | refine Xn ?_ | refine Xj ?_ | refine Xo ?_); try (conv => whnf)
   refine VDraw.pl 13 (.one [0, 1, 2, 3, 4, 5, 6, 7, 8, 9, 10, 11, 12] 13 (.stop [])) (Sm [g] V2) (by kernel_rfl) (sd) ?_
   repeat ((conv => whnf); first | refine Xl N2 ?_ | refine Xl MM2 ?_ | refine Xt ?_ | refine Xq ?_ | refine Xn ?_ | refine Xj ?_ | refine Xo ?_); try (conv => whnf)
   refine VBuild.mk (.agg (mkS ((x.mark : Int) + i)).toArray) (fun W' => buildS W' ((x.mark : Int) + i)) ?_
   repeat ((conv => whnf); first | refine Xt ?_ | refine Xq ?_ | refine Xn ?_ | refine Xj ?_ | refine Xo ?_); try (conv => whnf)
   refine VStore.mid (c := (mkS ((x.mark : Int) + i)).toArray) (by rw [mulO_eq]; exact ti) (by kernel_rfl) (all_oneCell_toArray (one_mkS _)) fun w9 hw9 => ?_
   obtain ⟨D9, q9⟩ := Ad.push (w' := w9) (fun _ => rfl) (by rw [hlen]; omega) ((x.mark : Int) + i) (by rw [hw9.out, hlen, mulO_eq])
   repeat ((conv => whnf); first | (refine VS.last rfl ?_) | refine Xt ?_ | refine Xq ?_ | refine Xn ?_ | refine Xj ?_ | refine Xo ?_); try (conv => whnf)
   exact .mk (i + 1) ⟨rfl, rfl, trivial⟩ ⟨hin2, by rw [marks_succ, eB]; exact D9, (rr2.drew).trans q9⟩ (by show x.s.n - (i + 1) < x.s.n - i; omega)
 obtain rfl : i = x.s.n := by omega
 have D1 := D1.ro rr2 (by omega)
 have R2 := R2.ro rr2 (by omega)
 have R3 := R3.ro rr2 (by omega)
 have R4 := R4.ro rr2 (by omega)
 have ro2 : Ro (shQ ρ q) K K w V2 := ro1.trans (rr2.more fun z e => .inl (by omega))
 have oth2 : Oth g off 17 w V2 := oth1.trans (Oth.same gs2)
 repeat ((conv => whnf); first | refine Xl (N2.at sr2) ?_ | refine Xt ?_ | refine Xq ?_ | refine Xn ?_ | refine Xj ?_ | refine Xo ?_); try (conv => whnf)
 repeat ((conv => whnf); first | refine Xt ?_ | refine Xq ?_ | refine Xn ?_ | refine Xj ?_ | refine Xo ?_); try (conv => whnf)
 refine VLoop.mk Nat (fun i => [(0, .pointer (some ⟨g, off, none⟩)), (4, .int .i64 i)]) (fun i W => i ≤ x.i.n ∧ OwnO W K (ρ + 2) 9 mkT x.i.A x.i.c (marks x.mark i) ∧ Ro (· = ρ + 2) K K V2 W) (fun i => x.i.n - i) 0 ⟨rfl, rfl, trivial⟩ ⟨Nat.zero_le _, R2.own mkT, Ro.refl _ _ _⟩ ?_
 rintro i V3 ⟨hi, D3, rr3⟩
 have gs3 : V3.heap[g]? = V2.heap[g]? := rr3.same g hg2 (by rw [kg]; omega)
 have P3 := range_same P2 gs3
 have T3 := there_same T2 gs3
 have hg3 : g < V3.heap.size := Nat.lt_of_lt_of_le hg2 rr3.size
 have N3 : Ld Tryz.prog 58 g (addO off 6) (Sm [g] V3) (.slice x.i.A x.i.n x.i.c) := ⟨fun W' hW => loadT (by rw [addO_eq, ← e2]; exact cell_sm (P3 6 _ rfl) (by simp) hW)⟩
 have MM3 : Ld Tryz.prog 3 g (addO off 15) (Sm [g] V3) (.int .i64 x.mark) := ⟨fun W' hW => load3 (by rw [addO_eq, ← hmk]; exact cell_sm (P3 15 _ rfl) (by simp) hW)⟩
 have sr3 := Sm.refl [g] V3
 by_cases hin3 : i < x.i.n
 case pos =>
   obtain ⟨gB, oB, eB, gB1, kB, hcB, tB⟩ : ∃ gB oB, x.i.A = some ⟨gB, oB, none⟩ ∧ gB < V2.heap.size ∧ K gB = ρ + 2 ∧ x.i.n ≤ x.i.c ∧ V2.there gB oB (x.i.c * 9) := by
     rcases R2 with ⟨-, e2, -⟩ | ⟨gB, oB, e, h1, h2, h3, h4⟩
     · omega
     · exact ⟨gB, oB, e, h1, h2, h3, h4⟩
   have tB' : V3.there gB oB (x.i.c * 9) := by
     rcases D3 with ⟨e, -⟩ | ⟨g', o', e, -, -, -, h4, -⟩
     · rw [eB] at e; cases e
     · rw [eB] at e
       injection e with e
       injection e with e1 e2 _
       subst e1 e2
       exact h4
   have ti := there_mid tB' hin3 hcB
   rw [eB] at N3 D3
   have sd : Sm [g] V3 V3.drew := fun _ _ => rfl
   have hlen := marks_len x.mark i
   have Ad := D3.ro (Ro.below (R := fun _ => False) (Below.refl _ V3).drew) id
   repeat ((conv => whnf); first | refine Xl (N3.at sr3) ?_ | refine Xt ?_ | refine Xq ?_ | refine Xn ?_ | refine Xj ?_ | refine Xo ?_); try (conv => whnf)
   refine VDraw.pl 13 (.one [0, 1, 2, 3, 4, 5, 6, 7, 8, 9, 10, 11, 12] 13 (.stop [])) (Sm [g] V3) (by kernel_rfl) (sd) ?_
   repeat ((conv => whnf); first | refine Xl N3 ?_ | refine Xl MM3 ?_ | refine Xt ?_ | refine Xq ?_ | refine Xn ?_ | refine Xj ?_ | refine Xo ?_); try (conv => whnf)
   refine VBuild.mk (.agg (mkT ((x.mark : Int) + i)).toArray) (fun W' => buildT W' ((x.mark : Int) + i)) ?_
   repeat ((conv => whnf); first | refine Xt ?_ | refine Xq ?_ | refine Xn ?_ | refine Xj ?_ | refine Xo ?_); try (conv => whnf)
   refine VStore.mid (c := (mkT ((x.mark : Int) + i)).toArray) (by rw [mulO_eq]; exact ti) (by kernel_rfl) (all_oneCell_toArray (one_mkT _)) fun w9 hw9 => ?_
   obtain ⟨D9, q9⟩ := Ad.push (w' := w9) (fun _ => rfl) (by rw [hlen]; omega) ((x.mark : Int) + i) (by rw [hw9.out, hlen, mulO_eq])
   repeat ((conv => whnf); first | (refine VS.last rfl ?_) | refine Xt ?_ | refine Xq ?_ | refine Xn ?_ | refine Xj ?_ | refine Xo ?_); try (conv => whnf)
   exact .mk (i + 1) ⟨rfl, rfl, trivial⟩ ⟨hin3, by rw [marks_succ, eB]; exact D9, (rr3.drew).trans q9⟩ (by show x.i.n - (i + 1) < x.i.n - i; omega)
 obtain rfl : i = x.i.n := by omega
 have D1 := D1.ro rr3 (by omega)
 have D2 := D2.ro rr3 (by omega)
 have R3 := R3.ro rr3 (by omega)
 have R4 := R4.ro rr3 (by omega)
 have ro3 : Ro (shQ ρ q) K K w V3 := ro2.trans (rr3.more fun z e => .inl (by omega))
 have oth3 : Oth g off 17 w V3 := oth2.trans (Oth.same gs3)
 repeat ((conv => whnf); first | refine Xl (N3.at sr3) ?_ | refine Xt ?_ | refine Xq ?_ | refine Xn ?_ | refine Xj ?_ | refine Xo ?_); try (conv => whnf)
 repeat ((conv => whnf); first | refine Xt ?_ | refine Xq ?_ | refine Xn ?_ | refine Xj ?_ | refine Xo ?_); try (conv => whnf)
 refine VLoop.mk Nat (fun i => [(0, .pointer (some ⟨g, off, none⟩)), (5, .int .i64 i)]) (fun i W => i ≤ x.m.n ∧ OwnO W K (ρ + 3) 4 mkM x.m.A x.m.c (marks x.mark i) ∧ Ro (· = ρ + 3) K K V3 W) (fun i => x.m.n - i) 0 ⟨rfl, rfl, trivial⟩ ⟨Nat.zero_le _, R3.own mkM, Ro.refl _ _ _⟩ ?_
 rintro i V4 ⟨hi, D4, rr4⟩
 have gs4 : V4.heap[g]? = V3.heap[g]? := rr4.same g hg3 (by rw [kg]; omega)
 have P4 := range_same P3 gs4
 have T4 := there_same T3 gs4
 have hg4 : g < V4.heap.size := Nat.lt_of_lt_of_le hg3 rr4.size
 have N4 : Ld Tryz.prog 59 g (addO off 9) (Sm [g] V4) (.slice x.m.A x.m.n x.m.c) := ⟨fun W' hW => loadM (by rw [addO_eq, ← e3]; exact cell_sm (P4 9 _ rfl) (by simp) hW)⟩
 have MM4 : Ld Tryz.prog 3 g (addO off 15) (Sm [g] V4) (.int .i64 x.mark) := ⟨fun W' hW => load3 (by rw [addO_eq, ← hmk]; exact cell_sm (P4 15 _ rfl) (by simp) hW)⟩
 have sr4 := Sm.refl [g] V4
 by_cases hin4 : i < x.m.n
 case pos =>
   obtain ⟨gB, oB, eB, gB1, kB, hcB, tB⟩ : ∃ gB oB, x.m.A = some ⟨gB, oB, none⟩ ∧ gB < V3.heap.size ∧ K gB = ρ + 3 ∧ x.m.n ≤ x.m.c ∧ V3.there gB oB (x.m.c * 4) := by
     rcases R3 with ⟨-, e2, -⟩ | ⟨gB, oB, e, h1, h2, h3, h4⟩
     · omega
     · exact ⟨gB, oB, e, h1, h2, h3, h4⟩
   have tB' : V4.there gB oB (x.m.c * 4) := by
     rcases D4 with ⟨e, -⟩ | ⟨g', o', e, -, -, -, h4, -⟩
     · rw [eB] at e; cases e
     · rw [eB] at e
       injection e with e
       injection e with e1 e2 _
       subst e1 e2
       exact h4
   have ti := there_mid tB' hin4 hcB
   rw [eB] at N4 D4
   have sd : Sm [g] V4 V4.drew := fun _ _ => rfl
   have hlen := marks_len x.mark i
   have Ad := D4.ro (Ro.below (R := fun _ => False) (Below.refl _ V4).drew) id
   repeat ((conv => whnf); first | refine Xl (N4.at sr4) ?_ | refine Xt ?_ | refine Xq ?_ | refine Xn ?_ | refine Xj ?_ | refine Xo ?_); try (conv => whnf)
   refine VDraw.pl 13 (.one [0, 1, 2, 3, 4, 5, 6, 7, 8, 9, 10, 11, 12] 13 (.stop [])) (Sm [g] V4) (by kernel_rfl) (sd) ?_
   repeat ((conv => whnf); first | refine Xl N4 ?_ | refine Xl MM4 ?_ | refine Xt ?_ | refine Xq ?_ | refine Xn ?_ | refine Xj ?_ | refine Xo ?_); try (conv => whnf)
   refine VBuild.mk (.agg (mkM ((x.mark : Int) + i)).toArray) (fun W' => buildM W' ((x.mark : Int) + i)) ?_
   repeat ((conv => whnf); first | refine Xt ?_ | refine Xq ?_ | refine Xn ?_ | refine Xj ?_ | refine Xo ?_); try (conv => whnf)
   refine VStore.mid (c := (mkM ((x.mark : Int) + i)).toArray) (by rw [mulO_eq]; exact ti) (by kernel_rfl) (all_oneCell_toArray (one_mkM _)) fun w9 hw9 => ?_
   obtain ⟨D9, q9⟩ := Ad.push (w' := w9) (fun _ => rfl) (by rw [hlen]; omega) ((x.mark : Int) + i) (by rw [hw9.out, hlen, mulO_eq])
   repeat ((conv => whnf); first | (refine VS.last rfl ?_) | refine Xt ?_ | refine Xq ?_ | refine Xn ?_ | refine Xj ?_ | refine Xo ?_); try (conv => whnf)
   exact .mk (i + 1) ⟨rfl, rfl, trivial⟩ ⟨hin4, by rw [marks_succ, eB]; exact D9, (rr4.drew).trans q9⟩ (by show x.m.n - (i + 1) < x.m.n - i; omega)
 obtain rfl : i = x.m.n := by omega
 have D1 := D1.ro rr4 (by omega)
 have D2 := D2.ro rr4 (by omega)
 have D3 := D3.ro rr4 (by omega)
 have R4 := R4.ro rr4 (by omega)
 have ro4 : Ro (shQ ρ q) K K w V4 := ro3.trans (rr4.more fun z e => .inl (by omega))
 have oth4 : Oth g off 17 w V4 := oth3.trans (Oth.same gs4)
 repeat ((conv => whnf); first | refine Xl (N4.at sr4) ?_ | refine Xt ?_ | refine Xq ?_ | refine Xn ?_ | refine Xj ?_ | refine Xo ?_); try (conv => whnf)
 repeat ((conv => whnf); first | refine Xt ?_ | refine Xq ?_ | refine Xn ?_ | refine Xj ?_ | refine Xo ?_); try (conv => whnf)
 refine VLoop.mk Nat (fun i => [(0, .pointer (some ⟨g, off, none⟩)), (6, .int .i64 i)]) (fun i W => i ≤ x.d.n ∧ OwnO W K (ρ + 4) 4 mkD x.d.A x.d.c (marks x.mark i) ∧ Ro (· = ρ + 4) K K V4 W) (fun i => x.d.n - i) 0 ⟨rfl, rfl, trivial⟩ ⟨Nat.zero_le _, R4.own mkD, Ro.refl _ _ _⟩ ?_
 rintro i V5 ⟨hi, D5, rr5⟩
 have gs5 : V5.heap[g]? = V4.heap[g]? := rr5.same g hg4 (by rw [kg]; omega)
 have P5 := range_same P4 gs5
 have T5 := there_same T4 gs5
 have hg5 : g < V5.heap.size := Nat.lt_of_lt_of_le hg4 rr5.size
 have N5 : Ld Tryz.prog 60 g (addO off 12) (Sm [g] V5) (.slice x.d.A x.d.n x.d.c) := ⟨fun W' hW => loadD (by rw [addO_eq, ← e4]; exact cell_sm (P5 12 _ rfl) (by simp) hW)⟩
 have MM5 : Ld Tryz.prog 3 g (addO off 15) (Sm [g] V5) (.int .i64 x.mark) := ⟨fun W' hW => load3 (by rw [addO_eq, ← hmk]; exact cell_sm (P5 15 _ rfl) (by simp) hW)⟩
 have sr5 := Sm.refl [g] V5
 by_cases hin5 : i < x.d.n
 case pos =>
   obtain ⟨gB, oB, eB, gB1, kB, hcB, tB⟩ : ∃ gB oB, x.d.A = some ⟨gB, oB, none⟩ ∧ gB < V4.heap.size ∧ K gB = ρ + 4 ∧ x.d.n ≤ x.d.c ∧ V4.there gB oB (x.d.c * 4) := by
     rcases R4 with ⟨-, e2, -⟩ | ⟨gB, oB, e, h1, h2, h3, h4⟩
     · omega
     · exact ⟨gB, oB, e, h1, h2, h3, h4⟩
   have tB' : V5.there gB oB (x.d.c * 4) := by
     rcases D5 with ⟨e, -⟩ | ⟨g', o', e, -, -, -, h4, -⟩
     · rw [eB] at e; cases e
     · rw [eB] at e
       injection e with e
       injection e with e1 e2 _
       subst e1 e2
       exact h4
   have ti := there_mid tB' hin5 hcB
   rw [eB] at N5 D5
   have sd : Sm [g] V5 V5.drew := fun _ _ => rfl
   have hlen := marks_len x.mark i
   have Ad := D5.ro (Ro.below (R := fun _ => False) (Below.refl _ V5).drew) id
   repeat ((conv => whnf); first | refine Xl (N5.at sr5) ?_ | refine Xt ?_ | refine Xq ?_ | refine Xn ?_ | refine Xj ?_ | refine Xo ?_); try (conv => whnf)
   refine VDraw.pl 13 (.one [0, 1, 2, 3, 4, 5, 6, 7, 8, 9, 10, 11, 12] 13 (.stop [])) (Sm [g] V5) (by kernel_rfl) (sd) ?_
   repeat ((conv => whnf); first | refine Xl N5 ?_ | refine Xl MM5 ?_ | refine Xt ?_ | refine Xq ?_ | refine Xn ?_ | refine Xj ?_ | refine Xo ?_); try (conv => whnf)
   refine VBuild.mk (.agg (mkD ((x.mark : Int) + i)).toArray) (fun W' => buildD W' ((x.mark : Int) + i)) ?_
   repeat ((conv => whnf); first | refine Xt ?_ | refine Xq ?_ | refine Xn ?_ | refine Xj ?_ | refine Xo ?_); try (conv => whnf)
   refine VStore.mid (c := (mkD ((x.mark : Int) + i)).toArray) (by rw [mulO_eq]; exact ti) (by kernel_rfl) (all_oneCell_toArray (one_mkD _)) fun w9 hw9 => ?_
   obtain ⟨D9, q9⟩ := Ad.push (w' := w9) (fun _ => rfl) (by rw [hlen]; omega) ((x.mark : Int) + i) (by rw [hw9.out, hlen, mulO_eq])
   repeat ((conv => whnf); first | (refine VS.last rfl ?_) | refine Xt ?_ | refine Xq ?_ | refine Xn ?_ | refine Xj ?_ | refine Xo ?_); try (conv => whnf)
   exact .mk (i + 1) ⟨rfl, rfl, trivial⟩ ⟨hin5, by rw [marks_succ, eB]; exact D9, (rr5.drew).trans q9⟩ (by show x.d.n - (i + 1) < x.d.n - i; omega)
 obtain rfl : i = x.d.n := by omega
 have D1 := D1.ro rr5 (by omega)
 have D2 := D2.ro rr5 (by omega)
 have D3 := D3.ro rr5 (by omega)
 have D4 := D4.ro rr5 (by omega)
 have ro5 : Ro (shQ ρ q) K K w V5 := ro4.trans (rr5.more fun z e => .inl (by omega))
 have oth5 : Oth g off 17 w V5 := oth4.trans (Oth.same gs5)
 repeat ((conv => whnf); first | refine Xl (N5.at sr5) ?_ | refine Xt ?_ | refine Xq ?_ | refine Xn ?_ | refine Xj ?_ | refine Xo ?_); try (conv => whnf)
 exact .mk ⟨rfl, P5, T5, D1, D2, D3, D4, D5, ro5, oth5⟩
end
end Go.Proofs.YtoilipfgimcoiaaGreat
