/- Tab SKit Ref1 Same Mid Rtog Whole MidStill Data One TwL Rows2, joined. -/
import Derived.Test.YtcffhfcjfjfokaaProg
import Derived.Deep.MidRow
import Derived.StillTailTactics
import Derived.RegionTactic
import Derived.Lib.Hide
import Derived.Laws.BytesArg
import Derived.Test.YtcffhfcjfjfokaaSu1
import Derived.Test.YtcffhfcjfjfokaaSu2
import Derived.Test.YtcffhfcjfjfokaaSu3
set_option linter.unusedVariables false
set_option linter.unusedSimpArgs false
namespace Go.Proofs.Ytcffhfcjfjfokaa
open Go
def tab : Tab where
  fd := [(7, [(0, 1, false), (1, 1, false), (2, 1, false), (3, 1, false)]), (8, [(0, 1, false), (1, 1, false), (2, 1, false), (3, 1, false)]), (13, [(0, 1, false), (1, 1, false)]), (14, [(0, 1, false), (1, 1, false)]), (18, [(0, 1, false)]), (19, [(0, 1, false)]), (34, [(0, 1, false), (1, 1, false), (2, 1, false), (3, 1, false)]), (35, [(0, 1, false), (1, 1, false), (2, 1, false), (3, 1, false)]), (38, [(0, 4, true), (4, 1, false), (5, 1, false), (6, 1, false)]), (39, [(0, 4, true), (4, 1, false), (5, 1, false), (6, 1, false)]), (41, [(0, 1, false), (1, 7, true), (8, 1, false), (9, 1, false), (10, 1, false), (11, 1, false), (12, 1, false)]), (42, [(0, 1, false), (1, 7, true), (8, 1, false), (9, 1, false), (10, 1, false), (11, 1, false), (12, 1, false)]), (53, [(0, 1, false), (1, 1, false), (2, 1, false), (3, 1, false)]), (54, [(0, 1, false), (1, 1, false), (2, 1, false), (3, 1, false)]), (56, [(0, 7, true), (7, 1, false), (8, 1, false)]), (57, [(0, 7, true), (7, 1, false), (8, 1, false)]), (65, [(0, 1, false), (1, 1, false)]), (66, [(0, 1, false), (1, 1, false)]), (67, [(0, 1, false), (1, 1, false), (2, 1, false), (3, 1, false), (4, 1, false), (5, 1, false)]), (68, [(0, 1, false), (1, 1, false), (2, 1, false), (3, 1, false), (4, 1, false), (5, 1, false)]), (84, [(0, 1, false), (1, 1, false)]), (85, [(0, 1, false), (1, 1, false)]), (94, [(0, 1, false), (1, 1, false), (2, 1, false), (3, 7, true), (10, 4, true), (14, 1, false), (15, 1, false)]), (95, [(0, 1, false), (1, 1, false), (2, 1, false), (3, 7, true), (10, 4, true), (14, 1, false), (15, 1, false)]), (104, [(0, 1, false), (1, 1, false), (2, 1, false), (3, 1, false), (4, 1, false), (5, 1, false), (6, 1, false), (7, 1, false), (8, 1, false), (9, 1, false), (10, 1, false), (11, 1, false), (12, 1, false), (13, 1, false), (14, 1, false), (15, 1, false)]), (105, [(0, 1, false), (1, 1, false), (2, 1, false), (3, 1, false), (4, 1, false), (5, 1, false), (6, 1, false), (7, 1, false), (8, 1, false), (9, 1, false), (10, 1, false), (11, 1, false), (12, 1, false), (13, 1, false), (14, 1, false), (15, 1, false)]), (112, [(0, 1, false), (1, 1, false), (2, 1, false), (3, 1, false)]), (113, [(0, 1, false), (1, 1, false), (2, 1, false), (3, 1, false)]), (118, [(0, 1, false), (1, 1, false), (2, 1, false)]), (119, [(0, 1, false), (1, 1, false), (2, 1, false)]), (136, [(0, 1, false), (1, 4, true), (5, 1, false), (6, 1, false)]), (137, [(0, 1, false), (1, 4, true), (5, 1, false), (6, 1, false)]), (139, [(0, 1, false), (1, 1, false), (2, 4, true), (6, 1, false)]), (140, [(0, 1, false), (1, 1, false), (2, 4, true), (6, 1, false)]), (146, [(0, 1, false), (1, 1, false), (2, 1, false), (3, 1, false)]), (147, [(0, 1, false), (1, 1, false), (2, 1, false), (3, 1, false)]), (156, [(0, 4, true), (4, 1, false)]), (157, [(0, 4, true), (4, 1, false)]), (167, [(0, 1, false), (1, 1, false), (2, 1, false)]), (168, [(0, 1, false), (1, 1, false), (2, 1, false)]), (170, [(0, 1, false), (1, 7, true)]), (171, [(0, 1, false), (1, 7, true)]), (172, [(0, 1, false), (1, 7, true)]), (173, [(0, 1, false), (1, 7, true)]), (181, [(0, 1, false), (1, 1, false), (2, 1, false), (3, 1, false)]), (182, [(0, 1, false), (1, 1, false), (2, 1, false), (3, 1, false)]), (184, [(0, 0, true)]), (185, [(0, 0, true)]), (194, [(0, 1, false), (1, 1, false), (2, 1, false), (3, 1, false), (4, 1, false), (5, 1, false), (6, 1, false), (7, 1, false), (8, 1, false), (9, 1, false), (10, 1, false)]), (195, [(0, 1, false), (1, 1, false), (2, 1, false), (3, 1, false), (4, 1, false), (5, 1, false), (6, 1, false), (7, 1, false), (8, 1, false), (9, 1, false), (10, 1, false)])]
  es := [(22, 7), (23, 9), (36, 2), (37, 1), (40, 4), (44, 4), (51, 1), (52, 1), (83, 16), (93, 3), (99, 1), (100, 1), (101, 1), (102, 1), (103, 1), (135, 8), (138, 8), (145, 1)]
  ar := [(131, 16, 1), (183, 0, 1)]
  ik := [(2, .i64), (3, .i64), (5, .u8), (6, .u8), (12, .u64), (21, .i32), (26, .i64), (187, .u32), (188, .u8), (189, .u8), (192, .i32), (193, .i32)]
  kd := [(4, 1), (15, 2), (16, 2), (17, 2), (22, 3), (23, 3), (36, 3), (37, 3), (40, 3), (44, 3), (51, 3), (52, 3), (83, 3), (86, 2), (89, 2), (93, 3), (98, 2), (99, 3), (100, 3), (101, 3), (102, 3), (103, 3), (114, 2), (135, 3), (138, 3), (144, 2), (145, 3), (179, 2), (191, 2)]
  eg := [7, 8, 13, 14, 18, 19, 34, 35, 38, 39, 41, 42, 53, 54, 56, 57, 65, 66, 67, 68, 84, 85, 94, 95, 104, 105, 112, 113, 118, 119, 131, 136, 137, 139, 140, 146, 147, 156, 157, 167, 168, 170, 171, 172, 173, 181, 182, 183, 184, 185, 194, 195]
  bad := [0, 1, 121, 122, 123, 124, 125, 126, 127, 128, 129, 130, 131, 132, 133, 134, 135, 136, 137]
set_option maxRecDepth 100000 in
theorem tab_ok : tabB Try.prog tab = true := by kernel_rfl
end Go.Proofs.Ytcffhfcjfjfokaa
namespace Go.Proofs.Ytcffhfcjfjfokaa
open Go.RowKit
theorem grown_cell (w : World) (g k : Nat) (v : Value) : w.grownBy (w.setCell ⟨g, k, none⟩ v) (some g) :=
  ⟨rfl, rfl, rfl, by rw [World.size_setCell]; exact Nat.le_refl _, fun i _ hne => Below.heap_setCell _ _ _ _ (fun e => hne (by rw [e]))⟩
theorem grown_sets (g : Nat) : ∀ (vs : List Value) (o : Nat) (w : World), w.grownBy (w.setCells g o vs) (some g)
  | [], o, w => World.grownBy.refl w _
  | v :: vs, o, w => (grown_cell w g o v).trans (grown_sets g vs (o + 1) _)
theorem range_other {w : World} {b o : Nat} {cs : List Value} (h : w.rangeAt b o cs) (p : Addr) (v : Value) (hp : p.block ≠ b) : (w.setCell p v).rangeAt b o cs := fun j u hu => by
  rw [World.cell?_setCell_other _ _ _ _ (fun e => hp (by rw [e]))]
  exact h j u hu
theorem there_set {w : World} {b o n : Nat} (h : w.there b o n) (p : Addr) (v : Value) : (w.setCell p v).there b o n := fun j hj => by
  rw [World.frozen?_setCell]
  obtain ⟨u, hu⟩ := Option.isSome_iff_exists.1 (h j hj).1
  obtain ⟨v', hv'⟩ := RowKit.cell?_setCell_some (p := p) (x := v) hu
  exact ⟨by rw [hv']; rfl, (h j hj).2⟩
theorem range_new (w : World) (cs : Array Value) (t : TypeId) : (w.alloc (.cells cs t)).rangeAt w.heap.size 0 cs.toList := fun j u hu => by
  rw [Nat.zero_add, World.cell?_alloc_at _ _ _ _ rfl]; simpa using hu
theorem there_new (w : World) (cs : Array Value) (t : TypeId) : (w.alloc (.cells cs t)).there w.heap.size 0 cs.size := fun j hj => by
  rw [Nat.zero_add, World.cell?_alloc_at _ _ _ _ rfl, World.frozen?_alloc_at _ _ _ _ rfl]
  exact ⟨by rw [Array.getElem?_eq_getElem hj]; rfl, rfl⟩
theorem there_below {w w' : World} {b o n N : Nat} (h : w.there b o n) (hb : Below N w w') (hN : b < N) : w'.there b o n := fun j hj => by
  rw [hb.cell (p := ⟨b, o + j, none⟩) hN, hb.frozen (p := ⟨b, o + j, none⟩) hN]; exact h j hj
theorem size_sets (g : Nat) : ∀ (vs : List Value) (o : Nat) (w : World), (w.setCells g o vs).heap.size = w.heap.size
  | [], _, _ => rfl
  | v :: vs, o, w => by rw [World.setCells, size_sets g vs (o + 1), World.size_setCell]
theorem below_sets {N g : Nat} {a w : World} (h : Below N a w) (hN : N ≤ g) (o : Nat) (vs : List Value) (hs : N ≤ w.heap.size) : Below N a (w.setCells g o vs) :=
  h.grown (grown_sets g vs o w) hs (by intro k hk; injection hk with hk; omega)
theorem cell_out {w : World} {b o j : Nat} {vs : List Value} {v : Value} (h : w.cell? ⟨b, j, none⟩ = some v) (hap : j < o ∨ o + vs.length ≤ j) : (w.setCells b o vs).cell? ⟨b, j, none⟩ = some v := by
  rw [World.cell?_setCells_out b vs o w ⟨b, j, none⟩ (fun _ _ => hap)]; exact h
theorem cell_in {w : World} {b o n i : Nat} {vs : List Value} {v : Value} (h : w.there b 0 n) (hn : o + vs.length ≤ n) (hv : vs[i]? = some v) : (w.setCells b o vs).cell? ⟨b, o + i, none⟩ = some v := by
  have hi := (List.getElem?_eq_some_iff.1 hv).1
  rw [World.cell?_setCells_in b vs o w (fun i hi => by have := (h (o + i) (by omega)).1; rwa [Nat.zero_add] at this) i hi, ← hv, List.getElem?_eq_getElem hi]
theorem rng_out {w : World} {b o j : Nat} {vs cs : List Value} (h : w.rangeAt b j cs) (hap : j + cs.length ≤ o ∨ o + vs.length ≤ j) : (w.setCells b o vs).rangeAt b j cs := World.rangeAt_setCells_apart h b o vs (.inr hap)
theorem rng_in {w : World} {b o n : Nat} {vs : List Value} (h : w.there b 0 n) (hn : o + vs.length ≤ n) : (w.setCells b o vs).rangeAt b o vs := World.rangeAt_setCells_same w b o vs (fun j hj => by have := h (o + j) (by omega); rwa [Nat.zero_add] at this)
theorem World.there.at {w : World} {b n : Nat} (h : w.there b 0 n) {o m : Nat} (ho : o + m ≤ n) : w.there b o m := fun j hj => by have := h (o + j) (by omega); rwa [Nat.zero_add] at this
theorem there_frozen {w : World} {b n k : Nat} (h : w.there b 0 n) (hk : k < n) : w.frozen? ⟨b, k, none⟩ = false := by
  have := (h k hk).2; rwa [Nat.zero_add] at this
theorem grown_below {w w' : World} (h : Below w.heap.size w w') : w.grownBy w' none := ⟨h.os, h.tape, h.output, h.size, fun k hk _ => h.block k hk⟩
theorem range_same {w w' : World} {b o : Nat} {l : List Value} (h : w.rangeAt b o l) (hb : w'.heap[b]? = w.heap[b]?) : w'.rangeAt b o l := fun j u hu => (World.cell?_of_block (a := ⟨b, o + j, none⟩) hb).trans (h j u hu)
theorem there_same {w w' : World} {b o n : Nat} (h : w.there b o n) (hb : w'.heap[b]? = w.heap[b]?) : w'.there b o n := fun j hj => by
  rw [World.cell?_of_block (a := ⟨b, o + j, none⟩) hb, World.frozen?_of_block (a := ⟨b, o + j, none⟩) hb]; exact h j hj
def RowF {α : Type} (w : World) (F : List Nat) (sz : Nat) (enc : α → List Value) (A : Option Addr) (l : List α) : Prop :=
  0 < l.length → ∃ b off, A = some ⟨b, off, none⟩ ∧ b < w.heap.size ∧ b ∉ F ∧ ∀ k x, l[k]? = some x → ∀ j u, (enc x)[j]? = some u → w.cell? ⟨b, off + k * sz + j, none⟩ = some u
section
variable {α : Type} {w w' : World} {F F' : List Nat} {sz b : Nat} {enc : α → List Value} {A : Option Addr} {l : List α}
theorem RowF.row (h : RowF w F sz enc A l) : RowAt w w.heap.size sz enc A l := fun h0 => by
  obtain ⟨g, off, e, h1, _, h3⟩ := h h0
  exact ⟨g, off, e, h1, h3⟩
theorem RowF.keep (h : RowF w F sz enc A l) (hs : w.heap.size ≤ w'.heap.size) (hk : ∀ k, k < w.heap.size → k ∉ F → w'.heap[k]? = w.heap[k]?) : RowF w' F sz enc A l := fun h0 => by
  obtain ⟨g, off, e, h1, h2, h3⟩ := h h0
  exact ⟨g, off, e, by omega, h2, fun k x hx j u hu => (World.cell?_of_block (hk g h1 h2)).trans (h3 k x hx j u hu)⟩
theorem RowF.below (h : RowF w F sz enc A l) (hb : Below w.heap.size w w') : RowF w' F sz enc A l := h.keep hb.size fun k hk _ => hb.block k hk
theorem RowF.more (h : RowF w F sz enc A l) (hF : ∀ x ∈ F', x ∈ F ∨ w.heap.size ≤ x) : RowF w F' sz enc A l := fun h0 => by
  obtain ⟨g, off, e, h1, h2, h3⟩ := h h0
  exact ⟨g, off, e, h1, fun hg => (hF g hg).elim h2 (by omega), h3⟩
theorem RowF.sets (h : RowF w F sz enc A l) (hb : b ∈ F) (off : Nat) (vs : List Value) : RowF (w.setCells b off vs) F sz enc A l :=
  h.keep (by rw [size_sets]; exact Nat.le_refl _) fun k hk hF => (grown_sets b vs off w).block k hk (fun e => hF (by injection e with e; exact e ▸ hb))
theorem RowF.ofOwns {base : Nat} {e : TypeId} {c : Nat} (h : Owns w base e sz enc A c l) (hsz : ∀ x, (enc x).length = sz) (hF : ∀ x ∈ F, x < base) : RowF w F sz enc A l := fun h0 => by
  obtain ⟨g, off, e1, h1, h3⟩ := h.row hsz h0
  have := (h.lo g (by rw [e1]; rfl)).1
  exact ⟨g, off, e1, h1, fun hg => by have := hF g hg; omega, h3⟩
theorem rowF_nil : RowF w F sz enc A [] := fun h => by simp at h
end
section
variable {α : Type} {w w' : World} {lo sz : Nat} {enc : α → List Value} {A : Option Addr} {l : List α}
end
theorem rng_put {w : World} {b n o : Nat} {l vs : List Value} (h : w.rangeAt b 0 l) (ht : w.there b 0 n) (hl : l.length = n) (ho : o + vs.length ≤ n) : (w.setCells b o vs).rangeAt b 0 (l.take o ++ vs ++ l.drop (o + vs.length)) := fun j u hu => by
  rw [Nat.zero_add]
  by_cases h1 : j < o
  · rw [List.getElem?_append_left (by rw [List.length_append, List.length_take_of_le (by omega)]; omega), List.getElem?_append_left (by rw [List.length_take_of_le (by omega)]; exact h1), List.getElem?_take_of_lt h1] at hu
    exact cell_out (by have := h j u hu; rwa [Nat.zero_add] at this) (.inl h1)
  · by_cases h2 : j < o + vs.length
    · rw [List.getElem?_append_left (by rw [List.length_append, List.length_take_of_le (by omega)]; omega), List.getElem?_append_right (by rw [List.length_take_of_le (by omega)]; omega), List.length_take_of_le (by omega)] at hu
      have := cell_in (i := j - o) ht ho hu
      rwa [show o + (j - o) = j by omega] at this
    · rw [List.getElem?_append_right (by rw [List.length_append, List.length_take_of_le (by omega)]; omega), List.length_append, List.length_take_of_le (by omega), List.getElem?_drop, show o + vs.length + (j - (o + vs.length)) = j by omega] at hu
      exact cell_out (by have := h j u hu; rwa [Nat.zero_add] at this) (.inr (by omega))
theorem range_mid {w : World} {b o : Nat} {l1 m l3 : List Value} (h : w.rangeAt b 0 (l1 ++ (m ++ l3))) (ho : l1.length = o) : w.rangeAt b o m := fun j v hv => by
  have hj := (List.getElem?_eq_some_iff.1 hv).1
  have := h (o + j) v (by rw [List.getElem?_append_right (by omega), ho, show o + j - o = j by omega, List.getElem?_append_left hj]; exact hv)
  rwa [Nat.zero_add] at this
section
variable {P : Program} {ops : Array Oper} {rest : List Oper} {op : Oper} {a : Act} {w : World} {Q : Exit → Act → World → Prop}
theorem wpList_loadR (hgd : op.guard = none) (ty : TypeId) (x : Operand) (ho : op.op = .load ty x) (b off : Nat) (hx : a.eval x = .pointer (some ⟨b, off, none⟩)) (v : Value) (hr : (loadVar ty ⟨b, off, none⟩).run P w = .ok v w)
    (h : wpList P ops Q rest (a.put op.dst v) w) : wpList P ops Q (op :: rest) a w := by
  refine wpList_plain hgd fun _ hK => ?_
  unfold Oper.wp execOp
  simp only [ho, hx, Instr.loadAt, Instr.sureAddr, Sem.run_bind, Sem.run_pure, Result.andThen_ok, hr]
  exact hK _ _ h
end
section
variable {ops : Array Oper} {C : World → Prop} {Q : Act → Prop} {a : Act} {o : Oper} {rest : List Oper}
theorem wpQuiet_loadC (hw : Region.wanted o (yielded ops a.tmps) = true) (ty : TypeId) (x : Operand) (ho : o.op = .load ty x) (b off : Nat)
    (hx : a.eval x = .pointer (some ⟨b, off, none⟩)) (v : Value) (hc : ∀ w', C w' → (loadVar ty ⟨b, off, none⟩).run Try.prog w' = .ok v w')
    (h : wpQuiet Try.prog ops C Q rest (a.put o.dst v)) : wpQuiet Try.prog ops C Q (o :: rest) a := by
  refine wpQuiet_step fun K hK => ?_
  rw [if_pos hw]
  refine ⟨v, ?_, hK _ h⟩
  intro w' hw'
  unfold Oper.quietAt execOp
  simp only [ho, hx, Instr.loadAt, Instr.sureAddr, Sem.run_bind, Sem.run_pure, Result.andThen_ok, hc w' hw']
  exact ⟨rfl, rfl⟩
end
theorem load3 {w : World} {b o : Nat} {v : Int} (h : w.cell? ⟨b, o, none⟩ = some (.int .i64 v)) : (loadVar 3 ⟨b, o, none⟩).run Try.prog w = .ok (.int .i64 v) w := by
  go_simp
theorem load36 {w : World} {b o n c : Nat} {A : Option Addr} (h : w.cell? ⟨b, o, none⟩ = some (.slice A n c)) : (loadVar 36 ⟨b, o, none⟩).run Try.prog w = .ok (.slice A n c) w := by go_simp
theorem load37 {w : World} {b o n c : Nat} {A : Option Addr} (h : w.cell? ⟨b, o, none⟩ = some (.slice A n c)) : (loadVar 37 ⟨b, o, none⟩).run Try.prog w = .ok (.slice A n c) w := by go_simp
theorem load40 {w : World} {b o n c : Nat} {A : Option Addr} (h : w.cell? ⟨b, o, none⟩ = some (.slice A n c)) : (loadVar 40 ⟨b, o, none⟩).run Try.prog w = .ok (.slice A n c) w := by go_simp
theorem load135 {w : World} {b o n c : Nat} {A : Option Addr} (h : w.cell? ⟨b, o, none⟩ = some (.slice A n c)) : (loadVar 135 ⟨b, o, none⟩).run Try.prog w = .ok (.slice A n c) w := by go_simp
theorem load138 {w : World} {b o n c : Nat} {A : Option Addr} (h : w.cell? ⟨b, o, none⟩ = some (.slice A n c)) : (loadVar 138 ⟨b, o, none⟩).run Try.prog w = .ok (.slice A n c) w := by go_simp
end Go.Proofs.Ytcffhfcjfjfokaa
namespace Go.Proofs.Ytcffhfcjfjfokaa
open Go.RowKit
set_option maxHeartbeats 2000000 in
theorem rsound_no (f : Fl) (A B : Option Addr) (cA cB : Nat) (w : World)
    (hl1 : f.slots.length ≤ 9223372036854775807) (hl2 : f.have_.length ≤ 9223372036854775807) (hd : ¬ SoundHead f) :
    Calls Try.prog 65 #[.agg (flc f.e f.l f.i f.c f.base A f.slots.length cA B f.have_.length cB)] w fun x w' => x = .returned (.bool (soundB f)) ∧ Below w.heap.size w w' := by
  replace hd := Lib.hid hd
  go_enter Try.func65, Try.ntmps65
  go_wp2_with (first | (go_at_call 99; refine (rwhole_any _ _ _ _ _).mono ?_; rintro e w' ⟨rfl, hbw⟩; rw [World.size_alloc] at hbw; obtain ⟨hb0, hc, -, hsz⟩ := box1_facts hbw))
  all_goals first | (go_ret; go_light; exact ⟨ret_bool (sound_head hd.out), hb0⟩) | (exfalso; exact hd.out ⟨by assumption, by assumption, by assumption, by omega, by assumption, by omega⟩)
set_option maxHeartbeats 4000000 in
theorem rsound_yes (f : Fl) (A B : Option Addr) (cA cB N : Nat) (w : World) (hN : N ≤ w.heap.size)
    (hA : RowAt w N 2 eSlot A f.slots) (hB : RowAt w N 1 eInt B f.have_) (hd : SoundHead f) :
    Calls Try.prog 65 #[.agg (flc f.e f.l f.i f.c f.base A f.slots.length cA B f.have_.length cB)] w fun x w' => x = .returned (.bool (soundB f)) ∧ Below w.heap.size w w' := by
  have hd' := Lib.hid hd
  obtain ⟨h1, h2, h3, h4, h5, h6⟩ := hd
  have heq := run_eql_slot
  go_enter Try.func65, Try.ntmps65
  go_wp2_with (first | (go_at_call 99; refine (rwhole_any _ _ _ _ _).mono ?_; rintro e w' ⟨rfl, hbw⟩; rw [World.size_alloc] at hbw; obtain ⟨hb0, hc, -, hsz⟩ := box1_facts hbw))
  clear hb0 hc hsz
  go_loopw [3] (fun k wr => ∃ q : Nat, k = .int .i64 q ∧ q ≤ f.have_.length ∧ upto (fun x => 0 ≤ x ∧ x ≤ 4611686018427387904) f.have_ q ∧ Below (w.heap.size + 1) (box1 w (flc f.e f.l f.i f.c f.base A f.slots.length cA B f.have_.length cB) 39) wr) (fun k _ => f.have_.length - (intOf k).toNat)
  case atStart => exact ⟨0, rfl, by omega, upto_zero _ _, hbw⟩
  case round =>
    obtain ⟨q, rfl, hq, hup, hb⟩ := hrel
    obtain ⟨hb0, hc, -, hsz⟩ := box1_facts hb
    by_cases hlt : q < f.have_.length
    · obtain ⟨g, o, x, rfl, hg, hx, hk⟩ := (hB.below hb0 hN).int hlt
      clear hA hB
      by_cases hbad : x < 0 ∨ 4611686018427387904 < x
      · have HB := Lib.hid hbad
        clear hbad
        go_wp2
        all_goals first | (go_ret; go_light; exact ⟨ret_bool (unsound_have hx.out HB.out), hb0⟩) | (exfalso; have := HB.out; omega)
      · have hb1 : 0 ≤ x := by omega
        have hb2 : x ≤ 4611686018427387904 := by omega
        clear hbad
        go_wp2
        go_roundw
        case rel => go_light; exact ⟨q + 1, by go_num, by omega, upto_succ hup (fun z hz => by rw [hx.out] at hz; cases hz; exact ⟨hb1, hb2⟩), hb⟩
        case measure => go_light; simp [intOf]; omega
    · go_wp2
      have Hq : Hid (q = f.have_.length) := by show q = _; omega
      clear hlt hq hb0 hc hsz
      go_loopw [4] (fun k wr => ∃ p : Nat, k = .int .i64 p ∧ p ≤ f.slots.length ∧ upto (slotIn f.have_.length) f.slots p ∧ apartTo f.slots p ∧ Below (w.heap.size + 1) (box1 w (flc f.e f.l f.i f.c f.base A f.slots.length cA B f.have_.length cB) 39) wr) (fun k _ => f.slots.length - (intOf k).toNat)
      case atStart => exact ⟨0, rfl, by omega, upto_zero _ _, apartTo_zero _, hb⟩
      case round =>
        obtain ⟨p, rfl, hp, hup2, hap, hb⟩ := hrel
        obtain ⟨hb0, hc, -, hsz⟩ := box1_facts hb
        by_cases hlt : p < f.slots.length
        · obtain ⟨g, o, x, y, rfl, hg, hx, hk, hk2⟩ := (hA.below hb0 hN).slot hlt
          have hgw : g < wr.heap.size := by omega
          by_cases hbad : slotIn f.have_.length (x, y)
          · have HB := Lib.hid hbad
            obtain ⟨i1, i2, i3, i4⟩ := hbad
            simp only at i1 i2 i3 i4
            have hcy : cntB y = true := by simp [cntB]; exact ⟨i3, i4⟩
            go_wp2_with (first | (go_at_call 100; refine (count_any _ _).mono ?_; rintro e w' ⟨rfl, rfl⟩))
            clear hcy
            obtain ⟨wo, rfl⟩ : ∃ wo : World, wo = wr := ⟨_, rfl⟩
            go_loopw [6] (fun k wx => ∃ j : Nat, k = .int .i64 j ∧ j ≤ p ∧ upto (fun z => f.slots[p]? ≠ some z) f.slots j ∧ Below (wo.heap.size + 1) (box1 wo #[.int .i64 x, .int .i64 y] 66) wx) (fun k _ => p - (intOf k).toNat)
            case atStart => exact ⟨0, rfl, by omega, upto_zero _ _, Below.refl _ _⟩
            case round =>
              obtain ⟨j, rfl, hj, hup3, hbx⟩ := hrel
              obtain ⟨hbx0, hcx, -, hszx⟩ := box1_facts hbx
              have hb' := hb.trans (hbx0.mono hsz)
              obtain ⟨hb0', hc', -, hsz'⟩ := box1_facts hb'
              by_cases hjp : j < p
              · obtain ⟨g', o', x', y', hgo, hg', hx', hk', hk2'⟩ := (hA.below hb0' hN).slot (k := j) (by omega)
                obtain ⟨rfl, rfl⟩ : g = g' ∧ o = o' := by simpa using hgo
                clear hgo
                have hgw' : g < wr.heap.size := by have := hbx0.size; omega
                have hjl : j < f.slots.length := by omega
                clear hA hB hc hsz hb0 hk hk2
                go_wp2
                go_quiet (fail)
                go_wp2
                · go_ret
                  go_light
                  exact ⟨ret_bool (unsound_twice hx.out hx'.out hjp (by assumption)), below_drewN hb0' _⟩
                · go_roundw
                  case rel => go_light; exact ⟨j + 1, by go_num, by omega, upto_succ hup3 (fun z hz => by rw [hx'.out] at hz; cases hz; rw [hx.out]; intro he; cases he; rename_i hno; simp [slotEq] at hno), below_drewN hbx _⟩
                  case measure => go_light; simp [intOf]; omega
              · clear hA hB hc hsz hb0 hk hk2
                go_wp2
                go_roundw
                case rel => go_light; exact ⟨p + 1, by go_num, by omega, upto_succ hup2 (fun z hz => by rw [hx.out] at hz; cases hz; exact HB.out), apartTo_succ hap (fun i z hi hz => hup3 i z (by omega) hz), hb'⟩
                case measure => go_light; simp [intOf]; omega
          · have HB := Lib.hid hbad
            clear hbad
            have hno : ∀ h : 0 ≤ x, x < (f.have_.length : Int) → (!cntB y) = false → False := by
              intro a b c; apply HB.out; simp [cntB] at c; exact ⟨a, b, c.1, c.2⟩
            have HN := Lib.hid hno
            clear hno
            go_wp2_with (first | (go_at_call 100; refine (count_any _ _).mono ?_; rintro e w' ⟨rfl, rfl⟩))
            all_goals first | (go_ret; go_light; exact ⟨ret_bool (unsound_slot hx.out HB.out), (hb0.alloc (by omega) _)⟩) | (exfalso; rename_i hlast; exact HN.out hlast.1.1 hlast.1.2 hlast.2)
        · go_wp2
          go_ret
          go_light
          exact ⟨ret_bool (sound_all hd'.out (by have := Hq.out; omega) (by omega) hup hup2 hap), hb0⟩
end Go.Proofs.Ytcffhfcjfjfokaa
namespace Go.Proofs.Ytcffhfcjfjfokaa
open Go.RowKit
theorem same_ne1 {s s' : List (Int × Int)} {h h' : List Int} {q : Nat} {x y x' y' : Int} (h1 : s[q]? = some (x, y)) (h2 : s'[q]? = some (x', y')) (hn : (!slotEq x y x' y') = true) : false = decide (s = s' ∧ h = h') := by
  symm; rw [decide_eq_false_iff_not]; rintro ⟨rfl, _⟩
  rw [h1] at h2; cases h2
  simp [slotEq] at hn
theorem same_ne2 {s s' : List (Int × Int)} {h h' : List Int} {q : Nat} {x x' : Int} (h1 : h[q]? = some x) (h2 : h'[q]? = some x') (hn : (x != x') = true) : false = decide (s = s' ∧ h = h') := by
  symm; rw [decide_eq_false_iff_not]; rintro ⟨_, rfl⟩
  rw [h1] at h2; cases h2
  simp at hn
set_option maxHeartbeats 2000000 in
theorem same_yes (e l i c b : Int) (s s' : List (Int × Int)) (h h' : List Int) (A A' B B' : Option Addr) (cA cA' cB cB' n m N : Nat) (w : World) (hN : N ≤ w.heap.size)
    (hA : RowAt w N 2 eSlot A s) (hA' : RowAt w N 2 eSlot A' s') (hB : RowAt w N 1 eInt B h) (hB' : RowAt w N 1 eInt B' h') (hl1 : n ≤ 9223372036854775807) (hl2 : m ≤ 9223372036854775807)
    (hn : s.length = n) (hn' : s'.length = n) (hm : h.length = m) (hm' : h'.length = m) :
  Calls Try.prog 64 #[.agg (flc e l i c b A n cA B m cB), .agg (flc e l i c b A' n cA' B' m cB')] w
    fun e w' => e = .returned (.bool (decide (s = s' ∧ h = h'))) ∧ Below w.heap.size w w' := by
  have hne := run_neq_slot
  have hnv := run_neq_vid
  have hve : vidEq e l i c e l i c = true := by simp [vidEq]
  replace hn := Lib.hid hn
  replace hn' := Lib.hid hn'
  replace hm := Lib.hid hm
  replace hm' := Lib.hid hm'
  go_enter Try.func64, Try.ntmps64
  go_wp2
  clear hve
  go_loopw [5] (fun k wr => ∃ q : Nat, k = .int .i64 q ∧ q ≤ n ∧ agree s s' q ∧ Below (w.heap.size + 2) (box2 w (flc e l i c b A n cA B m cB) 39 (flc e l i c b A' n cA' B' m cB') 39) wr) (fun k _ => n - (intOf k).toNat)
  case atStart => exact ⟨0, rfl, by omega, agree_zero _ _, Below.refl _ _⟩
  case round =>
    obtain ⟨q, rfl, hq, hag, hb⟩ := hrel
    obtain ⟨hbw, hc, hc', -, -, hsz⟩ := box2_facts hb
    by_cases hlt : q < n
    · obtain ⟨g1, o1, x, y, rfl, hg1, hx1, k1, k2⟩ := (hA.below hbw hN).slot (k := q) (by rw [hn.out]; exact hlt)
      obtain ⟨g2, o2, x', y', rfl, hg2, hx2, k3, k4⟩ := (hA'.below hbw hN).slot (k := q) (by rw [hn'.out]; exact hlt)
      clear hA hA' hB hB'
      go_wp2
      go_quiet (fail)
      go_wp2
      · go_ret
        go_light
        exact ⟨ret_bool (same_ne1 hx1.out hx2.out (by assumption)), below_drewN hbw _⟩
      · go_roundw
        case rel => go_light; exact ⟨q + 1, by go_num, by omega, agree_succ hag (by rw [hx1.out, hx2.out]; have := slotEq_iff (s := (x, y)) (t := (x', y')); simp_all), below_drewN hb _⟩
        case measure => go_light; simp [intOf]; omega
    · go_wp2
      have Hq : Hid (q = n) := by show q = n; omega
      clear hlt hq hbw hc hc' hsz
      go_loopw [6] (fun k wr => ∃ q : Nat, k = .int .i64 q ∧ q ≤ m ∧ agree h h' q ∧ Below (w.heap.size + 2) (box2 w (flc e l i c b A n cA B m cB) 39 (flc e l i c b A' n cA' B' m cB') 39) wr) (fun k _ => m - (intOf k).toNat)
      case atStart => exact ⟨0, rfl, by omega, agree_zero _ _, hb⟩
      case round =>
        obtain ⟨q', rfl, hq', hag', hb⟩ := hrel
        obtain ⟨hbw, hc, hc', -, -, hsz⟩ := box2_facts hb
        by_cases hlt : q' < m
        · obtain ⟨g1, o1, x, rfl, hg1, hx1, k1⟩ := (hB.below hbw hN).int (k := q') (by rw [hm.out]; exact hlt)
          obtain ⟨g2, o2, x', rfl, hg2, hx2, k2⟩ := (hB'.below hbw hN).int (k := q') (by rw [hm'.out]; exact hlt)
          clear hA hA' hB hB'
          go_wp2
          go_quiet (fail)
          go_wp2
          · go_ret
            go_light
            exact ⟨ret_bool (same_ne2 hx1.out hx2.out (by assumption)), below_drewN hbw _⟩
          · go_roundw
            case rel => go_light; exact ⟨q' + 1, by go_num, by omega, agree_succ hag' (by rw [hx1.out, hx2.out]; simp_all), below_drewN hb _⟩
            case measure => go_light; simp [intOf]; omega
        · go_wp2
          go_ret
          go_light
          exact ⟨ret_bool (by symm; rw [decide_eq_true_eq]; exact ⟨agree_all hag (by rw [hn.out, Hq.out]) (by rw [hn'.out, Hq.out]), agree_all hag' (by rw [hm.out]; omega) (by rw [hm'.out]; omega)⟩), hbw⟩
end Go.Proofs.Ytcffhfcjfjfokaa
namespace Go.Proofs.Ytcffhfcjfjfokaa
open Go.RowKit
theorem rsound_any (f : Fl) (A B : Option Addr) (cA cB N : Nat) (w : World) (hN : N ≤ w.heap.size) (hr : FlRows w N f A cA B cB) :
    Calls Try.prog 65 #[.agg (flc f.e f.l f.i f.c f.base A f.slots.length cA B f.have_.length cB)] w fun x w' => x = .returned (.bool (soundB f)) ∧ Below w.heap.size w w' := by
  have h1 := hr.lenS; have h2 := hr.capS; have h3 := hr.lenH; have h4 := hr.capH
  by_cases hd : SoundHead f
  · exact rsound_yes f A B cA cB N w hN hr.slots hr.have_ hd
  · exact rsound_no f A B cA cB w (by omega) (by omega) hd
def sameB (f g : Fl) : Bool := decide (f.e = g.e ∧ f.l = g.l ∧ f.i = g.i ∧ f.c = g.c ∧ f.base = g.base ∧ f.slots = g.slots ∧ f.have_ = g.have_)
def SameHead (f g : Fl) : Prop := vidEq f.e f.l f.i f.c g.e g.l g.i g.c = true ∧ f.base = g.base ∧ (f.slots.length : Int) = g.slots.length ∧ (f.have_.length : Int) = g.have_.length
theorem same_head {f g : Fl} (h : ¬ SameHead f g) : false = sameB f g := by
  symm; unfold sameB; rw [decide_eq_false_iff_not]; rintro ⟨a, b, c, d, e, s, k⟩
  exact h ⟨by simp [vidEq, a, b, c, d], e, by rw [s], by rw [k]⟩
set_option maxHeartbeats 2000000 in
theorem same_no (f g : Fl) (A A' B B' : Option Addr) (cA cA' cB cB' : Nat) (w : World)
    (hl1 : f.slots.length ≤ 9223372036854775807) (hl2 : f.have_.length ≤ 9223372036854775807) (hl3 : g.slots.length ≤ 9223372036854775807) (hl4 : g.have_.length ≤ 9223372036854775807) (hd : ¬ SameHead f g) :
    Calls Try.prog 64 #[.agg (flc f.e f.l f.i f.c f.base A f.slots.length cA B f.have_.length cB), .agg (flc g.e g.l g.i g.c g.base A' g.slots.length cA' B' g.have_.length cB')] w
      fun x w' => x = .returned (.bool (sameB f g)) ∧ Below w.heap.size w w' := by
  have hnv := run_neq_vid
  replace hd := Lib.hid hd
  go_enter Try.func64, Try.ntmps64
  go_wp2
  all_goals first | (go_ret; go_light; exact ⟨ret_bool (same_head hd.out), below_box2 _ _ _ _ _⟩) | (exfalso; apply hd.out; refine ⟨by assumption, by assumption, by assumption, ?_⟩; have hlast := ‹((f.have_.length : Int) != (g.have_.length : Int)) = false›; simpa using hlast)
theorem same_any (f g : Fl) (A A' B B' : Option Addr) (cA cA' cB cB' N : Nat) (w : World) (hN : N ≤ w.heap.size) (hr : FlRows w N f A cA B cB) (hr' : FlRows w N g A' cA' B' cB') :
    Calls Try.prog 64 #[.agg (flc f.e f.l f.i f.c f.base A f.slots.length cA B f.have_.length cB), .agg (flc g.e g.l g.i g.c g.base A' g.slots.length cA' B' g.have_.length cB')] w
      fun x w' => x = .returned (.bool (sameB f g)) ∧ Below w.heap.size w w' := by
  obtain ⟨h1, h2, h3, h4, h5, h6⟩ := hr
  obtain ⟨k1, k2, k3, k4, k5, k6⟩ := hr'
  by_cases hd : SameHead f g
  · obtain ⟨e, l, i, c, b, s, h⟩ := f
    obtain ⟨e', l', i', c', b', s', h'⟩ := g
    obtain ⟨d1, d2, d3, d4⟩ := hd
    simp only [vidEq, decide_eq_true_eq] at d1 d2 d3 d4
    obtain ⟨rfl, rfl, rfl, rfl⟩ := d1
    subst d2
    have hs : s'.length = s.length := by omega
    have hh : h'.length = h.length := by omega
    dsimp only at *
    rw [hs, hh]
    refine (same_yes e l i c b s s' h h' A A' B B' cA cA' cB cB' _ _ N w hN h1 k1 h2 k2 (by omega) (by omega) rfl hs rfl hh).mono fun x w' ⟨hx, hb⟩ => ⟨?_, hb⟩
    rw [hx]; exact ret_bool (by simp [sameB])
  · exact same_no f g A A' B B' cA cA' cB cB' w (by omega) (by omega) (by omega) (by omega) hd
end Go.Proofs.Ytcffhfcjfjfokaa
namespace Go.Proofs.Ytcffhfcjfjfokaa
open Go.RowKit
theorem RowAt.drew {α : Type} {w : World} {N sz : Nat} {enc : α → List Value} {A : Option Addr} {l : List α} (h : RowAt w N sz enc A l) : RowAt w.drew N sz enc A l := h
end Go.Proofs.Ytcffhfcjfjfokaa
namespace Go.Proofs.Ytcffhfcjfjfokaa
open Go Go.RowKit
section
variable {P : Program} {ops : Array Oper} {md : Region.Mode} {w : World}
structure WS (P : Program) (ops : Array Oper) (w : World) (Q : Act → Prop) (l : List Oper) (a : Act) : Prop where
  out : wpStill P ops w Q l a
theorem WS.nil {Q : Act → Prop} {a : Act} (h : Q a) : WS P ops w Q [] a := ⟨h⟩
theorem WS.step {Q : Act → Prop} {a : Act} {o : Oper} {rest : List Oper}
    (h : ∀ K : Act → Prop, Hid (∀ a, WS P ops w Q rest a → K a) → if Region.wanted o (yielded ops a.tmps) then o.still P a w K else K (a.put o.dst undef)) : WS P ops w Q (o :: rest) a :=
  ⟨wpStill_step fun K hK => h K (Lib.hid fun a h => hK a h.out)⟩
def laterB (md : Region.Mode) (ops : Array Oper) (n : Nat) : Bool :=
  (List.range ops.size).all fun t => decide (t ≤ n) || (List.range t).any fun j => decide (n ≤ j) && Region.waitsFor md ops t j
theorem none_later {n : Nat} {listed : Array Bool} (hs : Region.sinkB md ops n = true) (hc : laterB md ops n = true) (hn : n < ops.size) (inv : HeadInv md ops n listed) :
    ∀ (d i : Nat), n - i ≤ d → i < n → listed.getD i true = false → ∀ t, n ≤ t → t ∉ Region.ready md ops listed := by
  intro d
  induction d with
  | zero => intro i hd hi; omega
  | succ d ih =>
    intro i hd hi hun t ht hr
    obtain ⟨_, ot, hot, hall⟩ := mem_ready.1 hr
    have htlt : t < ops.size := (Array.getElem?_eq_some_iff.1 hot).1
    -- an operation that t waits for and that has not come up
    have key : ∃ j, Region.waitsFor md ops t j = true ∧ listed.getD j true = false := by
      by_cases htn : t = n
      · subst htn
        obtain ⟨j, hj, hj2⟩ := List.any_eq_true.1 (List.all_eq_true.1 hs i (List.mem_range.2 hi))
        simp only [Bool.and_eq_true, decide_eq_true_eq] at hj2
        have hjle := List.mem_range.1 hj
        by_cases hjt : j = t
        · subst hjt; exact ⟨i, hj2.2, hun⟩
        · exfalso
          obtain ⟨oj, hoj, e, he, hb, hon⟩ := Region.waitsFor_spec hj2.2
          cases hl : listed.getD j false with
          | true => have h2 := inv.closed j oj hoj hl e he hb; rw [hon, getD_both hun] at h2; cases h2
          | false => exact ih j (by omega) (by omega) (getD_in (by rw [inv.size]; omega) hl) t (Nat.le_refl _) hr
      · have h1 := List.all_eq_true.1 hc t (List.mem_range.2 htlt)
        simp only [Bool.or_eq_true, decide_eq_true_eq, List.any_eq_true, Bool.and_eq_true, List.mem_range] at h1
        rcases h1 with h1 | ⟨j, hj, hnj, hw⟩
        · omega
        · exact ⟨j, hw, inv.tail j hnj (by omega)⟩
    obtain ⟨j, hw, hlj⟩ := key
    obtain ⟨o', ho', e, he, hb, hon⟩ := Region.waitsFor_spec hw
    obtain rfl : o' = ot := Option.some.inj (ho'.symm.trans hot)
    have h2 := hall e he hb
    rw [hon, getD_both hlj] at h2; cases h2
def Later (md : Region.Mode) (ops : Array Oper) (n : Nat) : Prop := ∀ listed : Array Bool, HeadInv md ops n listed → ∀ i, i < n → listed.getD i true = false → ∀ t, n ≤ t → t ∉ Region.ready md ops listed
theorem head_first {n i : Nat} {oi : Oper} {v : Value} {L : Array Bool → Act → Prop} (hT : Later md ops n) (hsel : Region.noSelect ops = true) (hi : ops[i]? = some oi) (hin : i < n)
    (hdone : ∀ listed a, L listed a → ∀ j ∈ Region.ready md ops listed, n ≤ j) :
    ∀ (f : Nat) (listed : Array Bool) (a : Act), HeadInv md ops n listed →
      (∀ j oj, ops[j]? = some oj → j ≠ i → listed.getD j true = false → (∀ e ∈ oj.after, Region.binds md e = true → e.on ≠ i) → oi.apart ops oj = true) →
      i ∈ Region.ready md ops listed → YieldsAt P ops w oi v a → wpAnyL P md ops w n L f (listed.setIfInBounds i true) (a.put oi.dst v) → wpAnyL P md ops w n L (f + 1) listed a := by
  intro f
  induction f with
  | zero =>
    intro listed a inv _ hr hy H
    refine ⟨List.ne_nil_of_mem hr, fun j hj => ?_⟩
    have hjn : j < n := Nat.lt_of_not_le fun h => hT listed inv i hin (mem_ready.1 hr).1 j h hj
    by_cases hji : j = i
    · subst hji; exact ⟨hjn, hy.stOp hi H⟩
    · exact absurd (hdone _ _ H j (ready_mono hj hji)) (by omega)
  | succ f ih =>
    intro listed a inv hfree hr hy H
    have hun := (mem_ready.1 hr).1
    refine ⟨List.ne_nil_of_mem hr, fun j hj => ?_⟩
    have hjn : j < n := Nat.lt_of_not_le fun h => hT listed inv i hin hun j h hj
    refine ⟨hjn, ?_⟩
    by_cases hji : j = i
    · subst hji; exact hy.stOp hi H
    · obtain ⟨hjun, oj, hoj, hall⟩ := mem_ready.1 hj
      have hnot : ∀ e ∈ oj.after, Region.binds md e = true → e.on ≠ i := fun e he hb heq => by
        have h1 := hall e he hb
        rw [heq, getD_both hun] at h1; cases h1
      have hs := Region.noSelect_spec hsel
      refine stOp_mono (fun a' h3 => ih (listed.setIfInBounds j true) a' (inv.set hj hjn) (fun k ok hk hki hkun hno => hfree k ok hk hki ?_ hno) (ready_mono hr (Ne.symm hji)) h3.1 ?_)
        (stOp_put hoj (hfree j oj hoj hji hjun hnot) (fun cs b => hs i oi cs b hi) (fun cs b => hs j oj cs b hoj) hy (H.2 j (ready_mono hj hji)).2)
      · by_cases hjk : j = k
        · subst hjk; exact hjun
        · rwa [getD_set_ne true hjk] at hkun
      · rw [Array.setIfInBounds_comm _ _ hji]; exact h3.2
def midFrom (md : Region.Mode) (ops : Array Oper) (n : Nat) : Nat → Nat → Array Bool → Bool
  | 0, _, listed => decide (Region.ready md ops listed = [n]) && Region.lexFrom md ops (ops.size - (n + 1)) (n + 1) (listed.setIfInBounds n true)
  | f + 1, k, listed => (Region.ready md ops listed).contains k && Region.free md ops listed k && midFrom md ops n f (k + 1) (listed.setIfInBounds k true)
def midB (md : Region.Mode) (ops : Array Oper) (n : Nat) : Bool :=
  Region.noSelect ops && decide (n < ops.size) && Region.sinkB md ops n && laterB md ops n && midFrom md ops n n 0 (Array.replicate ops.size false)
theorem head_lex {n : Nat} {Lq : Act → Prop} (hT : Later md ops n) (hsel : Region.noSelect ops = true) :
    ∀ (l : List Oper) (k : Nat) (listed : Array Bool) (a : Act), (∀ j, j < l.length → l[j]? = ops[k + j]?) → k + l.length = n → HeadInv md ops n listed →
    midFrom md ops n l.length k listed = true → wpStill P ops w Lq l a → wpAnyL P md ops w n (fun listed' a' => midFrom md ops n 0 n listed' = true ∧ Lq a') l.length listed a
  | [], k, listed, a, _, hk, _, hB, h => ⟨hB, h⟩
  | o :: l, k, listed, a, hl, hk, inv, hB, h => by
    have h0 : ops[k]? = some o := by simpa using (hl 0 (by simp)).symm
    simp only [List.length_cons, midFrom, Bool.and_eq_true] at hB
    obtain ⟨⟨hr, hf⟩, hB'⟩ := hB
    have hkn : k < n := by simp only [List.length_cons] at hk; omega
    have hr' : k ∈ Region.ready md ops listed := by simpa using hr
    obtain ⟨v, hy, hK⟩ := yieldsAt_of_stOp h0 (by unfold stOp; simp only [h0]; exact h)
    refine head_first hT hsel h0 hkn (fun listed' a' hL j hj => ?_) l.length listed a inv (Region.free_spec h0 hf) hr' hy
      (head_lex hT hsel l (k + 1) _ _ (fun j hj => by have := hl (j + 1) (by simp; omega); simpa [Nat.add_assoc, Nat.add_comm 1 j] using this) (by simp only [List.length_cons] at hk; omega) (inv.set hr' hkn) hB' hK)
    have h1 := hL.1
    simp only [midFrom, Bool.and_eq_true, decide_eq_true_eq] at h1
    rw [h1.1] at hj
    have : j = n := by simpa using hj
    omega
theorem wp_region_mid {id : Nat} {Q : Exit → Act → World → Prop} {a : Act} {w : World} {l : List Oper} {o : Oper} (n : Nat) (hm : P.follows .mixedOrders = true) (ho : l[n]? = some o) (hB : midB .any l.toArray n = true)
    (h : WS P l.toArray w.drew (fun a' => ∀ K : Act → World → Prop, Hid (∀ a2 w2, WS P l.toArray w2 (fun a3 => Q .normal a3 w2) (l.drop (n + 1)) a2 → K a2 w2) → if Region.wanted o (yielded l.toArray a'.tmps) = true then o.wp P a' w.drew K Q else K (a'.put o.dst undef) w.drew) (l.take n) a) :
    (Code.region id l.toArray true).wp P Q a w := by
  simp only [midB, Bool.and_eq_true, decide_eq_true_eq] at hB
  obtain ⟨⟨⟨⟨hsel, hn⟩, hs⟩, hc⟩, hlex⟩ := hB
  have hn' : n < l.length := by simpa using hn
  have htl : (l.take n).length = n := by simp; omega
  have inv0 : HeadInv .any l.toArray n (Array.replicate l.toArray.size false) :=
    ⟨by simp, fun j oj _ hl => (by rw [getD_replicate_false] at hl; cases hl), fun t _ ht => getD_in (by simpa using ht) (getD_replicate_false _ _)⟩
  have H := head_lex (md := .any) (ops := l.toArray) (n := n) (fun listed inv i hi hun => none_later hs hc hn inv n i (by omega) hi hun) hsel (l.take n) 0 _ a (fun j hj => by
    have hj' : j < n := by rw [htl] at hj; exact hj
    simp [hj']) (by simpa using htl) inv0 (by rw [htl]; exact hlex) h.out
  refine wp_region_any hm ?_
  have := wpAny_of_head (Q' := Q) (g := l.toArray.size - (n + 1) + 1) (fun listed a' hL => by
    obtain ⟨h1, h2⟩ := hL
    simp only [midFrom, Bool.and_eq_true, decide_eq_true_eq] at h1
    refine ⟨fun h0 => (by rw [h1.1] at h0; cases h0), fun i hi => ?_⟩
    rw [h1.1] at hi
    obtain rfl : i = n := by simpa using hi
    refine wpOp_step (o := o) (by simpa using ho) fun K' hK' => ?_
    refine h2 K' (Lib.hid fun a2 w2 hst => hK' _ _ ?_)
    refine wpAny_of_still (Q := fun a3 => Q .normal a3 w2) (fun _ h => h) _ _ _ ?_
    have hdl : (l.drop (i + 1)).length = l.toArray.size - (i + 1) := by simp
    have := wpAnyS_lex (P := P) (w := w2) (md := .any) (Q := fun a3 => Q .normal a3 w2) hsel (l.drop (i + 1)) (i + 1) (listed.setIfInBounds i true) a2 (fun j => by simp [List.getElem?_drop]) (by rw [hdl]; exact h1.2) hst.out
    rwa [hdl] at this) _ _ _ H
  rw [htl, show n + (l.toArray.size - (n + 1) + 1) = l.toArray.size by have : l.toArray.size = l.length := by simp
                                                                       omega] at this
  exact this
end
end Go.Proofs.Ytcffhfcjfjfokaa
namespace Go.Proofs.Ytcffhfcjfjfokaa
open Go.RowKit
structure Dt where
  s : Int
  q : Int
  b : Int
  body : List Int
structure Dr where
  d : Dt
  B : Option Addr
  c : Nat
def eByte (n : Int) : List Value := [.int .u8 n]
def eDr (r : Dr) : List Value := [.int .i64 r.d.s, .int .i64 r.d.q, .int .i64 r.d.b, .slice r.B r.d.body.length r.c]
theorem len_eByte (x : Int) : (eByte x).length = 1 := rfl
theorem one_eByte (x : Int) : ∀ u ∈ eByte x, u.oneCell' = true := by intro u hu; simp [eByte] at hu; subst hu; rfl
theorem len_eDr (x : Dr) : (eDr x).length = 4 := rfl
theorem one_eDr (x : Dr) : ∀ u ∈ eDr x, u.oneCell' = true := by intro u hu; simp [eDr] at hu; rcases hu with rfl | rfl | rfl | rfl <;> rfl
structure BodyAt (w : World) (N : Nat) (B : Option Addr) (c : Nat) (body : List Int) : Prop where
  row : RowAt w N 1 eByte B body
  len : body.length ≤ c
  cap : c ≤ 9223372036854775807
theorem BodyAt.below {w w' : World} {N N' : Nat} {B : Option Addr} {c : Nat} {body : List Int} (h : BodyAt w N B c body) (hb : Below N' w w') (hN : N ≤ N') : BodyAt w' N B c body := ⟨h.row.below hb hN, h.len, h.cap⟩
theorem BodyAt.more {w : World} {N N' : Nat} {B : Option Addr} {c : Nat} {body : List Int} (h : BodyAt w N B c body) (hN : N ≤ N') : BodyAt w N' B c body := ⟨h.row.more hN, h.len, h.cap⟩
structure Drs (w : World) (N : Nat) (A : Option Addr) (rs : List Dr) : Prop where
  row : RowAt w N 4 eDr A rs
  each : ∀ r ∈ rs, BodyAt w N r.B r.c r.d.body
def Dts (w : World) (N : Nat) (A : Option Addr) (ds : List Dt) : Prop := ∃ rs : List Dr, rs.map Dr.d = ds ∧ Drs w N A rs
theorem Dts.below {w w' : World} {N N' : Nat} {A : Option Addr} {ds : List Dt} (h : Dts w N A ds) (hb : Below N' w w') (hN : N ≤ N') : Dts w' N A ds := by
  obtain ⟨rs, e, h1, h2⟩ := h
  exact ⟨rs, e, h1.below hb hN, fun r hr => (h2 r hr).below hb hN⟩
theorem Dts.more {w : World} {N N' : Nat} {A : Option Addr} {ds : List Dt} (h : Dts w N A ds) (hN : N ≤ N') : Dts w N' A ds := by
  obtain ⟨rs, e, h1, h2⟩ := h
  exact ⟨rs, e, h1.more hN, fun r hr => (h2 r hr).more hN⟩
theorem Dts.at_ {w : World} {N : Nat} {A : Option Addr} {ds : List Dt} (h : Dts w N A ds) {k : Nat} (hk : k < ds.length) :
    ∃ g o d B c, A = some ⟨g, o, none⟩ ∧ g < N ∧ Hid (ds[k]? = some d) ∧ w.cell? ⟨g, o + k * 4, none⟩ = some (.int .i64 d.s) ∧ w.cell? ⟨g, o + k * 4 + 1, none⟩ = some (.int .i64 d.q) ∧ w.cell? ⟨g, o + k * 4 + 2, none⟩ = some (.int .i64 d.b) ∧
      w.cell? ⟨g, o + k * 4 + 3, none⟩ = some (.slice B d.body.length c) ∧ BodyAt w N B c d.body := by
  obtain ⟨rs, rfl, h1, h2⟩ := h
  rw [List.length_map] at hk
  obtain ⟨g, o, e, hg, hc⟩ := h1 (by omega)
  have hr := List.getElem?_eq_getElem hk
  refine ⟨g, o, rs[k].d, rs[k].B, rs[k].c, e, hg, ?_, hc k _ hr 0 _ rfl, hc k _ hr 1 _ rfl, hc k _ hr 2 _ rfl, hc k _ hr 3 _ rfl, h2 _ (List.getElem_mem hk)⟩
  show (rs.map Dr.d)[k]? = _
  rw [List.getElem?_map, hr]; rfl
theorem run_body {w : World} {N : Nat} {B : Option Addr} {c : Nat} {body : List Int} (h : RowAt w N 1 eByte B body) : (convert 52 9 (.slice B body.length c)).run Try.prog w = .ok (.string (strOfNums body)) w := by
  by_cases h0 : 0 < body.length
  · obtain ⟨b, off, rfl, hb, hc⟩ := h h0
    exact run_convert_bytes_arg (P := Try.prog) w 52 5 Try.underlying52 Try.underlying5 b off body.length c body rfl (fun i hi => by
      have := hc i body[i] (List.getElem?_eq_getElem hi) 0 _ rfl
      simpa [List.getD, List.getElem?_eq_getElem hi] using this) 9 Try.underlying9
  · obtain rfl : body = [] := List.eq_nil_of_length_eq_zero (by omega)
    cases B with
    | none => exact run_convert_bytes_nil (P := Try.prog) w 52 5 Try.underlying52 Try.underlying5 0 c 9 Try.underlying9
    | some a =>
      rw [run_convert_bytes_string w 52 9 5 _ _ c Try.underlying52 Try.underlying5 Try.underlying9]
      exact run_bytesToString (P := Try.prog) w a 0 c [] (by simp [loadCells, loadCellsFrom])
set_option maxHeartbeats 2000000 in
theorem sameData_yes (d : Dt) (B B' : Option Addr) (c c' N : Nat) (w : World) (hN : N ≤ w.heap.size) (h : RowAt w N 1 eByte B d.body) (h' : RowAt w N 1 eByte B' d.body) :
    Calls Try.prog 58 #[.agg #[.int .i64 d.s, .int .i64 d.q, .int .i64 d.b, .slice B d.body.length c], .agg #[.int .i64 d.s, .int .i64 d.q, .int .i64 d.b, .slice B' d.body.length c']] w fun x w' => x = .returned (.bool true) ∧ Below w.heap.size w w' := by
  have hbx := below_box2 w #[.int .i64 d.s, .int .i64 d.q, .int .i64 d.b, .slice B d.body.length c] 113 #[.int .i64 d.s, .int .i64 d.q, .int .i64 d.b, .slice B' d.body.length c'] 113
  have e1 := run_body (c := c) (h.below hbx hN)
  have e2 := run_body (c := c') (h'.below hbx hN)
  replace hbx := Lib.hid hbx
  go_enter Try.func58, Try.ntmps58
  go_wp2
  go_ret
  exact ⟨rfl, hbx.out⟩
set_option maxRecDepth 100000 in
set_option maxHeartbeats 4000000 in
theorem sameDatas_yes (A B : Option Addr) (cA cB N : Nat) (ds : List Dt) (w : World) (hN : N ≤ w.heap.size) (hA : Dts w N A ds) (hB : Dts w N B ds) (hl : ds.length ≤ 9223372036854775807) :
    Calls Try.prog 22 #[.slice A ds.length cA, .slice B ds.length cB] w fun x w' => x = .returned (.bool true) ∧ Below w.heap.size w w' := by
  go_enter Try.func22, Try.ntmps22
  go_wp2
  go_loopw [5] (fun k wr => ∃ q : Nat, k = .int .i64 q ∧ q ≤ ds.length ∧ Below w.heap.size w wr) (fun k _ => ds.length - (intOf k).toNat)
  case atStart => exact ⟨0, rfl, by omega, Below.refl _ _⟩
  case round =>
    obtain ⟨q, rfl, hq, hb⟩ := hrel
    have hsz := hb.size
    by_cases hlt : q < ds.length
    · obtain ⟨g, o, d, X, c, hAe, hg, hd, c0, c1, c2, c3, hX⟩ := (hA.below hb hN).at_ hlt
      obtain ⟨g', o', d', X', c', hBe, hg', hd', k0, k1, k2, k3, hX'⟩ := (hB.below hb hN).at_ hlt
      obtain rfl : d = d' := by have := hd'.out; rw [hd.out] at this; injection this
      subst hAe hBe
      have h58 := Lib.hid (sameData_yes d X X' c c' N wr.drew (by show N ≤ wr.heap.size; omega) hX.row hX'.row)
      clear hX hX' hA hB
      go_wp2
      refine wp_region_mid 8 (by kernel_rfl) rfl (by kernel_rfl) ?_
      simp only [List.take_succ_cons, List.take_zero]
      repeat (refine WS.step (fun K hK => ?_); go_simp; refine hK.out _ ?_; clear hK K)
      refine WS.nil ?_
      intro K hK
      go_simp
      go_at_call 58
      refine h58.out.mono ?_
      rintro e w2 ⟨rfl, hbw2⟩
      go_wp2_with fail
      refine hK.out _ _ ?_
      clear hK K
      have hb2 := (Below.drew hb).trans (hbw2.mono (by show _ ≤ wr.heap.size; omega))
      simp only [List.drop_succ_cons, List.drop_zero]
      repeat (refine WS.step (fun K hK => ?_); go_simp; refine hK.out _ ?_; clear hK K)
      refine WS.nil ?_
      go_wp2
      go_roundw
      case rel => go_light; exact ⟨q + 1, by go_num, by omega, hb2⟩
      case measure => go_light; simp [intOf]; omega
    · go_wp2
      go_ret
      exact ⟨rfl, hb⟩
def FindIs (ds : List Dt) (s q r : Int) : Prop := (r = -1 ∧ ∀ d ∈ ds, ¬ (d.s = s ∧ d.q = q)) ∨ (∃ (i : Nat) (d : Dt), ds[i]? = some d ∧ d.s = s ∧ d.q = q ∧ r = i ∧ upto (fun d => ¬ (d.s = s ∧ d.q = q)) ds i)
set_option maxRecDepth 100000 in
set_option maxHeartbeats 4000000 in
theorem find_any (A : Option Addr) (cA N : Nat) (ds : List Dt) (s q : Int) (w : World) (hN : N ≤ w.heap.size) (hA : Dts w N A ds) (hl : ds.length ≤ 9223372036854775807) :
    Calls Try.prog 56 #[.slice A ds.length cA, .agg #[.int .i64 s, .int .i64 q]] w fun x w' => (∃ r, x = .returned (.int .i64 r) ∧ FindIs ds s q r) ∧ Below w.heap.size w w' := by
  go_enter Try.func56, Try.ntmps56
  go_wp2
  go_loopw [5] (fun k wr => ∃ i : Nat, k = .int .i64 i ∧ i ≤ ds.length ∧ upto (fun d => ¬ (d.s = s ∧ d.q = q)) ds i ∧ Below (w.heap.size + 1) (box1 w #[.int .i64 s, .int .i64 q] 66) wr) (fun k _ => ds.length - (intOf k).toNat)
  case atStart => exact ⟨0, rfl, by omega, upto_zero _ _, Below.refl _ _⟩
  case round =>
    obtain ⟨i, rfl, hi, hup, hb⟩ := hrel
    replace hup := Lib.hid hup
    obtain ⟨hb0, hc, -, hsz⟩ := box1_facts hb
    have e0 := hc 0
    have e1 := hc 1
    simp at e0 e1
    clear hc
    by_cases hlt : i < ds.length
    · obtain ⟨g, o, d, X, c, hAe, hg, hd, c0, c1, c2, c3, hX⟩ := (hA.below hb0 hN).at_ hlt
      subst hAe
      clear hA hX
      by_cases h1 : d.s = s
      · by_cases h2 : d.q = q
        · have hF := Lib.hid (show FindIs ds s q i from .inr ⟨i, d, hd.out, h1, h2, rfl, hup.out⟩)
          have t1 : (d.s == s) = true := by simpa using h1
          have t2 : (d.q == q) = true := by simpa using h2
          clear h1 h2
          go_wp2
          go_quiet (fail)
          go_wp2
          go_ret
          exact ⟨⟨i, rfl, hF.out⟩, below_drewN hb0 _⟩
        · have hne := Lib.hid (show ¬ (d.s = s ∧ d.q = q) from fun h => h2 h.2)
          have t1 : (d.s == s) = true := by simpa using h1
          have t2 : (d.q == q) = false := by simpa using h2
          clear h1 h2
          go_wp2
          go_quiet (fail)
          go_wp2
          go_roundw
          case rel => go_light; exact ⟨i + 1, by go_num, by omega, upto_succ hup.out (fun z hz => by rw [hd.out] at hz; cases hz; exact hne.out), below_drewN hb _⟩
          case measure => go_light; simp [intOf]; omega
      · have hne := Lib.hid (show ¬ (d.s = s ∧ d.q = q) from fun h => h1 h.1)
        have t1 : (d.s == s) = false := by simpa using h1
        clear h1
        go_wp2
        go_quiet (fail)
        go_wp2
        go_roundw
        case rel => go_light; exact ⟨i + 1, by go_num, by omega, upto_succ hup.out (fun z hz => by rw [hd.out] at hz; cases hz; exact hne.out), below_drewN hb _⟩
        case measure => go_light; simp [intOf]; omega
    · have hF := Lib.hid (show FindIs ds s q (-1) from .inl ⟨rfl, upto_all hup.out (by omega)⟩)
      go_wp2
      go_ret
      exact ⟨⟨-1, rfl, hF.out⟩, hb0⟩
end Go.Proofs.Ytcffhfcjfjfokaa
namespace Go.Proofs.Ytcffhfcjfjfokaa
open Go.RowKit
def celOf (W : World) (a : Addr) : Value := (W.cell? a).getD undef
theorem celOf_some {W : World} {a : Addr} (h : (W.cell? a).isSome = true) : W.cell? a = some (celOf W a) := by
  unfold celOf
  obtain ⟨u, hu⟩ := Option.isSome_iff_exists.1 h
  rw [hu]; rfl
structure OneT (w : World) (F : Array Value) (W : World) : Prop where
  bel : Below (w.heap.size + 1) (box1 w F 39) W
  there : ∀ j, j < 7 → (W.cell? ⟨w.heap.size + 1, j, none⟩).isSome = true ∧ W.frozen? ⟨w.heap.size + 1, j, none⟩ = false
  size : w.heap.size + 2 ≤ W.heap.size
theorem OneT.drew {w W : World} {F : Array Value} (h : OneT w F W) : OneT w F W.drew := ⟨Below.drew h.bel, h.there, h.size⟩
theorem OneT.below {w W W' : World} {F : Array Value} (h : OneT w F W) (hb : Below W.heap.size W W') : OneT w F W' := by
  have hs := h.size
  refine ⟨h.bel.trans (hb.mono (by omega)), fun j hj => ?_, Nat.le_trans hs hb.size⟩
  rw [hb.cell (p := ⟨w.heap.size + 1, j, none⟩) (by show w.heap.size + 1 < _; omega), hb.frozen (p := ⟨w.heap.size + 1, j, none⟩) (by show w.heap.size + 1 < _; omega)]
  exact h.there j hj
theorem OneT.alloc {w W : World} {F : Array Value} (h : OneT w F W) (o : Obj) : OneT w F (W.alloc o) := h.below ((Below.refl _ _).alloc (Nat.le_refl _) _)
theorem OneT.undrew {w W : World} {F : Array Value} (h : OneT w F W.drew) : OneT w F W := ⟨⟨h.bel.os, h.bel.tape, h.bel.output, h.bel.size, h.bel.block⟩, h.there, h.size⟩
theorem OneT.allocD {w W : World} {F : Array Value} (h : OneT w F W.drew) (o : Obj) : OneT w F (W.alloc o).drew := (h.undrew.alloc o).drew
theorem OneT.set {w W : World} {F : Array Value} (h : OneT w F W) (k : Nat) (v : Value) : OneT w F (W.setCell ⟨w.heap.size + 1, k, none⟩ v) := by
  refine ⟨h.bel.setCell (by show w.heap.size + 1 ≤ w.heap.size + 1; omega) _, fun j hj => ?_, by rw [World.size_setCell]; exact h.size⟩
  rw [World.frozen?_setCell]
  refine ⟨?_, (h.there j hj).2⟩
  obtain ⟨u, hu⟩ := Option.isSome_iff_exists.1 (h.there j hj).1
  obtain ⟨v', hv'⟩ := RowKit.cell?_setCell_some (p := ⟨w.heap.size + 1, k, none⟩) (x := v) hu
  rw [hv']; rfl
theorem OneT.set_true {w W : World} {F : Array Value} (k : Nat) (v : Value) (h : OneT w F W) : OneT w F (W.setCell ⟨w.heap.size + 1, k, none⟩ v) = True := eq_true (h.set k v)
theorem OneT.set7 {w W : World} {F : Array Value} (h : OneT w F W) (v0 v1 v2 v3 v4 v5 v6 : Value) : OneT w F ((((((((W.setCell ⟨w.heap.size + 1, 0, none⟩ v0).setCell ⟨w.heap.size + 1, 1, none⟩ v1).setCell ⟨w.heap.size + 1, 2, none⟩ v2).setCell ⟨w.heap.size + 1, 3, none⟩ v3).setCell ⟨w.heap.size + 1, 4, none⟩ v4).setCell ⟨w.heap.size + 1, 5, none⟩ v5).setCell ⟨w.heap.size + 1, 6, none⟩ v6)) :=
  ((((((h.set 0 v0).set 1 v1).set 2 v2).set 3 v3).set 4 v4).set 5 v5).set 6 v6
theorem OneT.read {w W : World} {F : Array Value} (h : OneT w F W) (v0 v1 v2 v3 v4 v5 v6 : Value) :
    ((((((((W.setCell ⟨w.heap.size + 1, 0, none⟩ v0).setCell ⟨w.heap.size + 1, 1, none⟩ v1).setCell ⟨w.heap.size + 1, 2, none⟩ v2).setCell ⟨w.heap.size + 1, 3, none⟩ v3).setCell ⟨w.heap.size + 1, 4, none⟩ v4).setCell ⟨w.heap.size + 1, 5, none⟩ v5).setCell ⟨w.heap.size + 1, 6, none⟩ v6)).cell? ⟨w.heap.size + 1, 0, none⟩ = some v0 ∧ ((((((((W.setCell ⟨w.heap.size + 1, 0, none⟩ v0).setCell ⟨w.heap.size + 1, 1, none⟩ v1).setCell ⟨w.heap.size + 1, 2, none⟩ v2).setCell ⟨w.heap.size + 1, 3, none⟩ v3).setCell ⟨w.heap.size + 1, 4, none⟩ v4).setCell ⟨w.heap.size + 1, 5, none⟩ v5).setCell ⟨w.heap.size + 1, 6, none⟩ v6)).cell? ⟨w.heap.size + 1, 1, none⟩ = some v1 ∧ ((((((((W.setCell ⟨w.heap.size + 1, 0, none⟩ v0).setCell ⟨w.heap.size + 1, 1, none⟩ v1).setCell ⟨w.heap.size + 1, 2, none⟩ v2).setCell ⟨w.heap.size + 1, 3, none⟩ v3).setCell ⟨w.heap.size + 1, 4, none⟩ v4).setCell ⟨w.heap.size + 1, 5, none⟩ v5).setCell ⟨w.heap.size + 1, 6, none⟩ v6)).cell? ⟨w.heap.size + 1, 2, none⟩ = some v2 ∧ ((((((((W.setCell ⟨w.heap.size + 1, 0, none⟩ v0).setCell ⟨w.heap.size + 1, 1, none⟩ v1).setCell ⟨w.heap.size + 1, 2, none⟩ v2).setCell ⟨w.heap.size + 1, 3, none⟩ v3).setCell ⟨w.heap.size + 1, 4, none⟩ v4).setCell ⟨w.heap.size + 1, 5, none⟩ v5).setCell ⟨w.heap.size + 1, 6, none⟩ v6)).cell? ⟨w.heap.size + 1, 3, none⟩ = some v3 ∧ ((((((((W.setCell ⟨w.heap.size + 1, 0, none⟩ v0).setCell ⟨w.heap.size + 1, 1, none⟩ v1).setCell ⟨w.heap.size + 1, 2, none⟩ v2).setCell ⟨w.heap.size + 1, 3, none⟩ v3).setCell ⟨w.heap.size + 1, 4, none⟩ v4).setCell ⟨w.heap.size + 1, 5, none⟩ v5).setCell ⟨w.heap.size + 1, 6, none⟩ v6)).cell? ⟨w.heap.size + 1, 4, none⟩ = some v4 ∧ ((((((((W.setCell ⟨w.heap.size + 1, 0, none⟩ v0).setCell ⟨w.heap.size + 1, 1, none⟩ v1).setCell ⟨w.heap.size + 1, 2, none⟩ v2).setCell ⟨w.heap.size + 1, 3, none⟩ v3).setCell ⟨w.heap.size + 1, 4, none⟩ v4).setCell ⟨w.heap.size + 1, 5, none⟩ v5).setCell ⟨w.heap.size + 1, 6, none⟩ v6)).cell? ⟨w.heap.size + 1, 5, none⟩ = some v5 ∧ ((((((((W.setCell ⟨w.heap.size + 1, 0, none⟩ v0).setCell ⟨w.heap.size + 1, 1, none⟩ v1).setCell ⟨w.heap.size + 1, 2, none⟩ v2).setCell ⟨w.heap.size + 1, 3, none⟩ v3).setCell ⟨w.heap.size + 1, 4, none⟩ v4).setCell ⟨w.heap.size + 1, 5, none⟩ v5).setCell ⟨w.heap.size + 1, 6, none⟩ v6)).cell? ⟨w.heap.size + 1, 6, none⟩ = some v6 := by
  have d0 := celOf_some (h.there 0 (by omega)).1
  have d1 := celOf_some (h.there 1 (by omega)).1
  have d2 := celOf_some (h.there 2 (by omega)).1
  have d3 := celOf_some (h.there 3 (by omega)).1
  have d4 := celOf_some (h.there 4 (by omega)).1
  have d5 := celOf_some (h.there 5 (by omega)).1
  have d6 := celOf_some (h.there 6 (by omega)).1
  refine ⟨?_, ?_, ?_, ?_, ?_, ?_, ?_⟩ <;> simp [go_sem, d0, d1, d2, d3, d4, d5, d6]
abbrev onez : Array Value := #[.int .i64 0, .int .i64 0, .int .i64 0, .int .i64 0, .int .i64 0, .slice none 0 0, .slice none 0 0]
end Go.Proofs.Ytcffhfcjfjfokaa
namespace Go.Proofs.Ytcffhfcjfjfokaa
open Go.RowKit
theorem info39 : (Try.prog.info? 39).map (fun i => (i.zero, i.size, i.bytes)) = some (some (.agg #[.int .i64 0, .int .i64 0, .int .i64 0, .int .i64 0, .int .i64 0, .slice none 0 0, .slice none 0 0]), 7, 88) := by kernel_rfl
theorem TwOwn.keep {w w' : World} {base B : Nat} {t : Tw} (h : TwOwn w base t) (hb : Below B w w') (h2 : t.g2 < B) (h4 : t.g4 < B) : TwOwn w' base t :=
  ⟨h.s.keep hb (by intro k hk; simp [blk] at hk; omega), h.h.keep hb (by intro k hk; simp [blk] at hk; omega)⟩
theorem TwOwn.lt {w : World} {base : Nat} {t : Tw} (h : TwOwn w base t) : t.g2 < w.heap.size ∧ t.g4 < w.heap.size :=
  ⟨(h.s.lo t.g2 rfl).2, (h.h.lo t.g4 rfl).2⟩
theorem TwOwn.alloc {w : World} {base : Nat} {t : Tw} (h : TwOwn w base t) (o : Obj) : TwOwn (w.alloc o) base t := ⟨h.s.alloc o, h.h.alloc o⟩
theorem TwOwn.kept {w w' : World} {base : Nat} {t : Tw} {row : Option Nat} (h : TwOwn w base t) (hg : w.grownBy w' row) (h2 : some t.g2 ≠ row) (h4 : some t.g4 ≠ row) : TwOwn w' base t :=
  ⟨h.s.kept hg (.inr h2), h.h.kept hg (.inr h4)⟩
theorem TwOwn.lower {w : World} {base base' : Nat} {t : Tw} (h : TwOwn w base t) (hb : base' ≤ base) : TwOwn w base' t := ⟨h.s.lower hb, h.h.lower hb⟩
theorem TwOwn.beside {w w' : World} {base base' e sz : Nat} {α : Type} {enc : α → List Value} {T : Option Addr} {c : Nat} {l : List α} {t : Tw} (h : TwOwn w base t) (ho : Owns w base' e sz enc T c l) (hg : w.grownBy w' (blk T)) (h1 : 66 ≠ e) (h2 : 3 ≠ e) : TwOwn w' base t :=
  ⟨h.s.kept hg (h.s.ne ho h1), h.h.kept hg (h.h.ne ho h2)⟩
def Small (fs : List Fl) : Prop := fs.length ≤ 1048576 ∧ ∀ f ∈ fs, f.slots.length ≤ 1048576 ∧ f.have_.length ≤ 1048576
end Go.Proofs.Ytcffhfcjfjfokaa
namespace Go.Proofs.Ytcffhfcjfjfokaa
open Go.RowKit
structure Rw where
  f : Fl
  X : Option Addr
  cX : Nat
  Y : Option Addr
  cY : Nat
def eRw (r : Rw) : List Value := [.int .i64 r.f.e, .int .i64 r.f.l, .int .i64 r.f.i, .int .i64 r.f.c, .int .i64 r.f.base, .slice r.X r.f.slots.length r.cX, .slice r.Y r.f.have_.length r.cY]
theorem len_eRw (x : Rw) : (eRw x).length = 7 := rfl
theorem one_eRw (x : Rw) : ∀ u ∈ eRw x, u.oneCell' = true := by intro u hu; simp [eRw] at hu; rcases hu with rfl | rfl | rfl | rfl | rfl | rfl | rfl <;> rfl
structure Rws (w : World) (N : Nat) (A : Option Addr) (rs : List Rw) : Prop where
  row : RowAt w N 7 eRw A rs
  each : ∀ r ∈ rs, FlRows w N r.f r.X r.cX r.Y r.cY
theorem rows_fls {w : World} {N : Nat} {A : Option Addr} {rs : List Rw} (h : Rws w N A rs) : Fls w N A (rs.map Rw.f) := fun h0 => by
  obtain ⟨b, off, hA, hb, hc⟩ := h.row (by simpa using h0)
  refine ⟨b, off, hA, hb, fun k f hf => ?_⟩
  rw [List.getElem?_map] at hf
  cases hr : rs[k]? with
  | none => rw [hr] at hf; cases hf
  | some r =>
    rw [hr] at hf; cases hf
    refine ⟨r.X, r.cX, r.Y, r.cY, ⟨?_, ?_, ?_, ?_, ?_, ?_, ?_⟩, h.each r (List.mem_of_getElem? hr)⟩
    · exact hc k r hr 0 _ rfl
    · exact hc k r hr 1 _ rfl
    · exact hc k r hr 2 _ rfl
    · exact hc k r hr 3 _ rfl
    · exact hc k r hr 4 _ rfl
    · exact hc k r hr 5 _ rfl
    · exact hc k r hr 6 _ rfl
end Go.Proofs.Ytcffhfcjfjfokaa
