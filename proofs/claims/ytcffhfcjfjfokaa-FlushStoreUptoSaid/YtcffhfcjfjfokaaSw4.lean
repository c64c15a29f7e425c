/- SKit StoMem Here, joined. -/
import Derived.Deep.MidRow
import Derived.StillTailTactics
import Derived.Test.YtcffhfcjfjfokaaSw1
import Derived.Test.YtcffhfcjfjfokaaSw3
set_option linter.unusedVariables false
set_option linter.unusedSimpArgs false
/- Small words for the stores' proofs: rows elsewhere than some blocks, rows that are new, cells of variables. -/
namespace Go.Proofs.Ytcffhfcjfjfokaa
open Go.RowKit
theorem grown_cell (w : World) (g k : Nat) (v : Value) : w.grownBy (w.setCell ⟨g, k, none⟩ v) (some g) :=
  ⟨rfl, rfl, rfl, by rw [World.size_setCell]; exact Nat.le_refl _, fun i _ hne => Below.heap_setCell _ _ _ _ (fun e => hne (by rw [e]))⟩
theorem grown_sets (g : Nat) : ∀ (vs : List Value) (o : Nat) (w : World), w.grownBy (w.setCells g o vs) (some g)
  | [], o, w => World.grownBy.refl w _
  | v :: vs, o, w => (grown_cell w g o v).trans (grown_sets g vs (o + 1) _)
theorem range_other {w : World} {b o : Nat} {cs : List Value} (h : w.rangeAt b o cs) (p : Addr) (v : Value) (hp : p.block ≠ b) : (w.setCell p v).rangeAt b o cs := fun j u hu => by
  rw [World.cell?_setCell_other _ _ _ _ (fun e => hp (by rw [e]))]
  exact h j u hu
theorem there_set {w : World} {b o n : Nat} (h : w.there b o n) (p : Addr) (v : Value) : (w.setCell p v).there b o n := fun j hj => by
  rw [World.frozen?_setCell]
  obtain ⟨u, hu⟩ := Option.isSome_iff_exists.1 (h j hj).1
  obtain ⟨v', hv'⟩ := RowKit.cell?_setCell_some (p := p) (x := v) hu
  exact ⟨by rw [hv']; rfl, (h j hj).2⟩
/-- A new row's world. -/
theorem range_new (w : World) (cs : Array Value) (t : TypeId) : (w.alloc (.cells cs t)).rangeAt w.heap.size 0 cs.toList := fun j u hu => by
  rw [Nat.zero_add, World.cell?_alloc_at _ _ _ _ rfl]; simpa using hu
theorem there_new (w : World) (cs : Array Value) (t : TypeId) : (w.alloc (.cells cs t)).there w.heap.size 0 cs.size := fun j hj => by
  rw [Nat.zero_add, World.cell?_alloc_at _ _ _ _ rfl, World.frozen?_alloc_at _ _ _ _ rfl]
  exact ⟨by rw [Array.getElem?_eq_getElem hj]; rfl, rfl⟩
theorem range_below {w w' : World} {b o N : Nat} {cs : List Value} (h : w.rangeAt b o cs) (hb : Below N w w') (hN : b < N) : w'.rangeAt b o cs := fun j u hu => (hb.cell (p := ⟨b, o + j, none⟩) hN).trans (h j u hu)
theorem there_below {w w' : World} {b o n N : Nat} (h : w.there b o n) (hb : Below N w w') (hN : b < N) : w'.there b o n := fun j hj => by
  rw [hb.cell (p := ⟨b, o + j, none⟩) hN, hb.frozen (p := ⟨b, o + j, none⟩) hN]; exact h j hj
theorem size_sets (g : Nat) : ∀ (vs : List Value) (o : Nat) (w : World), (w.setCells g o vs).heap.size = w.heap.size
  | [], _, _ => rfl
  | v :: vs, o, w => by rw [World.setCells, size_sets g vs (o + 1), World.size_setCell]
theorem below_sets {N g : Nat} {a w : World} (h : Below N a w) (hN : N ≤ g) (o : Nat) (vs : List Value) (hs : N ≤ w.heap.size) : Below N a (w.setCells g o vs) :=
  h.grown (grown_sets g vs o w) hs (by intro k hk; injection hk with hk; omega)
theorem cell_out {w : World} {b o j : Nat} {vs : List Value} {v : Value} (h : w.cell? ⟨b, j, none⟩ = some v) (hap : j < o ∨ o + vs.length ≤ j) : (w.setCells b o vs).cell? ⟨b, j, none⟩ = some v := by
  rw [World.cell?_setCells_out b vs o w ⟨b, j, none⟩ (fun _ _ => hap)]; exact h
theorem cell_in {w : World} {b o n i : Nat} {vs : List Value} {v : Value} (h : w.there b 0 n) (hn : o + vs.length ≤ n) (hv : vs[i]? = some v) : (w.setCells b o vs).cell? ⟨b, o + i, none⟩ = some v := by
  have hi := (List.getElem?_eq_some_iff.1 hv).1
  rw [World.cell?_setCells_in b vs o w (fun i hi => by have := (h (o + i) (by omega)).1; rwa [Nat.zero_add] at this) i hi, ← hv, List.getElem?_eq_getElem hi]
theorem rng_out {w : World} {b o j : Nat} {vs cs : List Value} (h : w.rangeAt b j cs) (hap : j + cs.length ≤ o ∨ o + vs.length ≤ j) : (w.setCells b o vs).rangeAt b j cs := World.rangeAt_setCells_apart h b o vs (.inr hap)
theorem rng_in {w : World} {b o n : Nat} {vs : List Value} (h : w.there b 0 n) (hn : o + vs.length ≤ n) : (w.setCells b o vs).rangeAt b o vs := World.rangeAt_setCells_same w b o vs (fun j hj => by have := h (o + j) (by omega); rwa [Nat.zero_add] at this)
theorem World.there.at {w : World} {b n : Nat} (h : w.there b 0 n) {o m : Nat} (ho : o + m ≤ n) : w.there b o m := fun j hj => by have := h (o + j) (by omega); rwa [Nat.zero_add] at this
theorem there_frozen {w : World} {b n k : Nat} (h : w.there b 0 n) (hk : k < n) : w.frozen? ⟨b, k, none⟩ = false := by
  have := (h k hk).2; rwa [Nat.zero_add] at this
theorem grown_below {w w' : World} (h : Below w.heap.size w w') : w.grownBy w' none := ⟨h.os, h.tape, h.output, h.size, fun k hk _ => h.block k hk⟩
theorem range_same {w w' : World} {b o : Nat} {l : List Value} (h : w.rangeAt b o l) (hb : w'.heap[b]? = w.heap[b]?) : w'.rangeAt b o l := fun j u hu => (World.cell?_of_block (a := ⟨b, o + j, none⟩) hb).trans (h j u hu)
theorem there_same {w w' : World} {b o n : Nat} (h : w.there b o n) (hb : w'.heap[b]? = w.heap[b]?) : w'.there b o n := fun j hj => by
  rw [World.cell?_of_block (a := ⟨b, o + j, none⟩) hb, World.frozen?_of_block (a := ⟨b, o + j, none⟩) hb]; exact h j hj
/-- A row elsewhere than the blocks of F. -/
def RowF {α : Type} (w : World) (F : List Nat) (sz : Nat) (enc : α → List Value) (A : Option Addr) (l : List α) : Prop :=
  0 < l.length → ∃ b off, A = some ⟨b, off, none⟩ ∧ b < w.heap.size ∧ b ∉ F ∧ ∀ k x, l[k]? = some x → ∀ j u, (enc x)[j]? = some u → w.cell? ⟨b, off + k * sz + j, none⟩ = some u
section
variable {α : Type} {w w' : World} {F F' : List Nat} {sz b : Nat} {enc : α → List Value} {A : Option Addr} {l : List α}
theorem RowF.row (h : RowF w F sz enc A l) : RowAt w w.heap.size sz enc A l := fun h0 => by
  obtain ⟨g, off, e, h1, _, h3⟩ := h h0
  exact ⟨g, off, e, h1, h3⟩
theorem RowF.keep (h : RowF w F sz enc A l) (hs : w.heap.size ≤ w'.heap.size) (hk : ∀ k, k < w.heap.size → k ∉ F → w'.heap[k]? = w.heap[k]?) : RowF w' F sz enc A l := fun h0 => by
  obtain ⟨g, off, e, h1, h2, h3⟩ := h h0
  exact ⟨g, off, e, by omega, h2, fun k x hx j u hu => (World.cell?_of_block (hk g h1 h2)).trans (h3 k x hx j u hu)⟩
theorem RowF.below (h : RowF w F sz enc A l) (hb : Below w.heap.size w w') : RowF w' F sz enc A l := h.keep hb.size fun k hk _ => hb.block k hk
theorem RowF.more (h : RowF w F sz enc A l) (hF : ∀ x ∈ F', x ∈ F ∨ w.heap.size ≤ x) : RowF w F' sz enc A l := fun h0 => by
  obtain ⟨g, off, e, h1, h2, h3⟩ := h h0
  exact ⟨g, off, e, h1, fun hg => (hF g hg).elim h2 (by omega), h3⟩
theorem RowF.sets (h : RowF w F sz enc A l) (hb : b ∈ F) (off : Nat) (vs : List Value) : RowF (w.setCells b off vs) F sz enc A l :=
  h.keep (by rw [size_sets]; exact Nat.le_refl _) fun k hk hF => (grown_sets b vs off w).block k hk (fun e => hF (by injection e with e; exact e ▸ hb))
/-- A new row. -/
theorem RowF.ofOwns {base : Nat} {e : TypeId} {c : Nat} (h : Owns w base e sz enc A c l) (hsz : ∀ x, (enc x).length = sz) (hF : ∀ x ∈ F, x < base) : RowF w F sz enc A l := fun h0 => by
  obtain ⟨g, off, e1, h1, h3⟩ := h.row hsz h0
  have := (h.lo g (by rw [e1]; rfl)).1
  exact ⟨g, off, e1, h1, fun hg => by have := hF g hg; omega, h3⟩
theorem rowF_nil : RowF w F sz enc A [] := fun h => by simp at h
end
/-- A new row, from block lo on. -/
def RowN {α : Type} (w : World) (lo sz : Nat) (enc : α → List Value) (A : Option Addr) (l : List α) : Prop :=
  0 < l.length → ∃ b off, A = some ⟨b, off, none⟩ ∧ lo ≤ b ∧ b < w.heap.size ∧ ∀ k x, l[k]? = some x → ∀ j u, (enc x)[j]? = some u → w.cell? ⟨b, off + k * sz + j, none⟩ = some u
section
variable {α : Type} {w w' : World} {lo sz : Nat} {enc : α → List Value} {A : Option Addr} {l : List α}
theorem RowN.row (h : RowN w lo sz enc A l) : RowAt w w.heap.size sz enc A l := fun h0 => by
  obtain ⟨g, off, e, _, h1, h3⟩ := h h0
  exact ⟨g, off, e, h1, h3⟩
theorem RowN.below (h : RowN w lo sz enc A l) (hb : Below w.heap.size w w') : RowN w' lo sz enc A l := fun h0 => by
  obtain ⟨g, off, e, h1, h2, h3⟩ := h h0
  exact ⟨g, off, e, h1, Nat.lt_of_lt_of_le h2 hb.size, fun k x hx j u hu => (hb.cell (p := ⟨g, _, none⟩) h2).trans (h3 k x hx j u hu)⟩
theorem RowN.low {lo' : Nat} (h : RowN w lo sz enc A l) (hl : lo' ≤ lo) : RowN w lo' sz enc A l := fun h0 => by
  obtain ⟨g, off, e, h1, h2, h3⟩ := h h0
  exact ⟨g, off, e, by omega, h2, h3⟩
theorem RowN.away {F : List Nat} (h : RowN w lo sz enc A l) (hF : ∀ x ∈ F, x < lo) : RowF w F sz enc A l := fun h0 => by
  obtain ⟨g, off, e, h1, h2, h3⟩ := h h0
  exact ⟨g, off, e, h2, fun hg => by have := hF g hg; omega, h3⟩
theorem Owns.rowN {base c : Nat} {e : TypeId} (h : Owns w base e sz enc A c l) (hsz : ∀ x, (enc x).length = sz) : RowN w base sz enc A l := fun h0 => by
  obtain ⟨g, off, e1, h1, h3⟩ := h.row hsz h0
  exact ⟨g, off, e1, (h.lo g (by rw [e1]; rfl)).1, h1, h3⟩
end
theorem grown_there {w w' : World} {a b o n : Nat} (hg : w.grownBy w' (some b)) (ha : a < w.heap.size ∧ a ≠ b) (h : w.there a o n) : w'.there a o n := fun j hj => by
  have hk := hg.block a ha.1 (by intro e; injection e with e; exact ha.2 e)
  rw [World.cell?_of_block (a := ⟨a, o + j, none⟩) hk, World.frozen?_of_block (a := ⟨a, o + j, none⟩) hk]; exact h j hj
theorem RowN.grown {α : Type} {w w' : World} {lo sz b : Nat} {enc : α → List Value} {A : Option Addr} {l : List α} (h : RowN w lo sz enc A l) (hg : w.grownBy w' (some b)) (hb : b < lo) : RowN w' lo sz enc A l := fun h0 => by
  obtain ⟨g, off, e, h1, h2, h3⟩ := h h0
  exact ⟨g, off, e, h1, Nat.lt_of_lt_of_le h2 hg.size, fun k x hx j u hu => (World.cell?_of_block (hg.block g h2 (by intro e; injection e with e; omega))).trans (h3 k x hx j u hu)⟩
theorem RowN.past {α : Type} {w w2 w3 : World} {lo sz u : Nat} {enc : α → List Value} {A : Option Addr} {l : List α} (h : RowN w lo sz enc A l) (hb : Below w.heap.size w w2) (hg : w2.grownBy w3 (some u)) (hu : w.heap.size ≤ u) : RowN w3 lo sz enc A l := fun h0 => by
  obtain ⟨g, off, e, h1, h2, h3⟩ := h h0
  have z := hb.size
  have z2 := hg.size
  exact ⟨g, off, e, h1, by omega, fun k x hx j v hv => ((World.cell?_of_block (a := ⟨g, _, none⟩) (hg.block g (by omega) (by intro e; injection e with e; omega))).trans (hb.cell (p := ⟨g, _, none⟩) h2)).trans (h3 k x hx j v hv)⟩
theorem rng_put {w : World} {b n o : Nat} {l vs : List Value} (h : w.rangeAt b 0 l) (ht : w.there b 0 n) (hl : l.length = n) (ho : o + vs.length ≤ n) : (w.setCells b o vs).rangeAt b 0 (l.take o ++ vs ++ l.drop (o + vs.length)) := fun j u hu => by
  rw [Nat.zero_add]
  by_cases h1 : j < o
  · rw [List.getElem?_append_left (by rw [List.length_append, List.length_take_of_le (by omega)]; omega), List.getElem?_append_left (by rw [List.length_take_of_le (by omega)]; exact h1), List.getElem?_take_of_lt h1] at hu
    exact cell_out (by have := h j u hu; rwa [Nat.zero_add] at this) (.inl h1)
  · by_cases h2 : j < o + vs.length
    · rw [List.getElem?_append_left (by rw [List.length_append, List.length_take_of_le (by omega)]; omega), List.getElem?_append_right (by rw [List.length_take_of_le (by omega)]; omega), List.length_take_of_le (by omega)] at hu
      have := cell_in (i := j - o) ht ho hu
      rwa [show o + (j - o) = j by omega] at this
    · rw [List.getElem?_append_right (by rw [List.length_append, List.length_take_of_le (by omega)]; omega), List.length_append, List.length_take_of_le (by omega), List.getElem?_drop, show o + vs.length + (j - (o + vs.length)) = j by omega] at hu
      exact cell_out (by have := h j u hu; rwa [Nat.zero_add] at this) (.inr (by omega))
theorem range_mid {w : World} {b o : Nat} {l1 m l3 : List Value} (h : w.rangeAt b 0 (l1 ++ (m ++ l3))) (ho : l1.length = o) : w.rangeAt b o m := fun j v hv => by
  have hj := (List.getElem?_eq_some_iff.1 hv).1
  have := h (o + j) v (by rw [List.getElem?_append_right (by omega), ho, show o + j - o = j by omega, List.getElem?_append_left hj]; exact hv)
  rwa [Nat.zero_add] at this
section
variable {P : Program} {ops : Array Oper} {rest : List Oper} {op : Oper} {a : Act} {w : World} {Q : Exit → Act → World → Prop}
theorem wpList_loadR (hgd : op.guard = none) (ty : TypeId) (x : Operand) (ho : op.op = .load ty x) (b off : Nat) (hx : a.eval x = .pointer (some ⟨b, off, none⟩)) (v : Value) (hr : (loadVar ty ⟨b, off, none⟩).run P w = .ok v w)
    (h : wpList P ops Q rest (a.put op.dst v) w) : wpList P ops Q (op :: rest) a w := by
  refine wpList_plain hgd fun _ hK => ?_
  unfold Oper.wp execOp
  simp only [ho, hx, Instr.loadAt, Instr.sureAddr, Sem.run_bind, Sem.run_pure, Result.andThen_ok, hr]
  exact hK _ _ h
end
section
variable {ops : Array Oper} {C : World → Prop} {Q : Act → Prop} {a : Act} {o : Oper} {rest : List Oper}
/-- Any load, in a class of worlds. -/
theorem wpQuiet_loadC (hw : Region.wanted o (yielded ops a.tmps) = true) (ty : TypeId) (x : Operand) (ho : o.op = .load ty x) (b off : Nat)
    (hx : a.eval x = .pointer (some ⟨b, off, none⟩)) (v : Value) (hc : ∀ w', C w' → (loadVar ty ⟨b, off, none⟩).run Try.prog w' = .ok v w')
    (h : wpQuiet Try.prog ops C Q rest (a.put o.dst v)) : wpQuiet Try.prog ops C Q (o :: rest) a := by
  refine wpQuiet_step fun K hK => ?_
  rw [if_pos hw]
  refine ⟨v, ?_, hK _ h⟩
  intro w' hw'
  unfold Oper.quietAt execOp
  simp only [ho, hx, Instr.loadAt, Instr.sureAddr, Sem.run_bind, Sem.run_pure, Result.andThen_ok, hc w' hw']
  exact ⟨rfl, rfl⟩
end

theorem load3 {w : World} {b o : Nat} {v : Int} (h : w.cell? ⟨b, o, none⟩ = some (.int .i64 v)) : (loadVar 3 ⟨b, o, none⟩).run Try.prog w = .ok (.int .i64 v) w := by
  go_simp
theorem load36 {w : World} {b o n c : Nat} {A : Option Addr} (h : w.cell? ⟨b, o, none⟩ = some (.slice A n c)) : (loadVar 36 ⟨b, o, none⟩).run Try.prog w = .ok (.slice A n c) w := by go_simp
theorem load37 {w : World} {b o n c : Nat} {A : Option Addr} (h : w.cell? ⟨b, o, none⟩ = some (.slice A n c)) : (loadVar 37 ⟨b, o, none⟩).run Try.prog w = .ok (.slice A n c) w := by go_simp
theorem load40 {w : World} {b o n c : Nat} {A : Option Addr} (h : w.cell? ⟨b, o, none⟩ = some (.slice A n c)) : (loadVar 40 ⟨b, o, none⟩).run Try.prog w = .ok (.slice A n c) w := by go_simp
theorem load135 {w : World} {b o n c : Nat} {A : Option Addr} (h : w.cell? ⟨b, o, none⟩ = some (.slice A n c)) : (loadVar 135 ⟨b, o, none⟩).run Try.prog w = .ok (.slice A n c) w := by go_simp
theorem load138 {w : World} {b o n c : Nat} {A : Option Addr} (h : w.cell? ⟨b, o, none⟩ = some (.slice A n c)) : (loadVar 138 ⟨b, o, none⟩).run Try.prog w = .ok (.slice A n c) w := by go_simp
end Go.Proofs.Ytcffhfcjfjfokaa
/- The two stores as they lie in memory. -/
namespace Go.Proofs.Ytcffhfcjfjfokaa
open Go.RowKit
/-- What is kept of a node, with where its lists lie. -/
structure KpX where
  k : Kp
  A : Option Addr
  cA : Nat
  B : Option Addr
  cB : Nat
abbrev kpA (x : KpX) : Array Value := #[.int .i64 x.k.inc, .int .i64 x.k.f.e, .int .i64 x.k.f.l, .int .i64 x.k.f.i, .int .i64 x.k.f.c, .int .i64 x.k.f.base, .slice x.A x.k.f.slots.length x.cA, .slice x.B x.k.f.have_.length x.cB]
def eKp (x : KpX) : List Value := (kpA x).toList
theorem len_eKp (x : KpX) : (eKp x).length = 8 := rfl
theorem one_kpA (x : KpX) : (kpA x).all (·.oneCell') = true := by
  refine all_oneCell_toArray (cs := [.int .i64 x.k.inc, .int .i64 x.k.f.e, .int .i64 x.k.f.l, .int .i64 x.k.f.i, .int .i64 x.k.f.c, .int .i64 x.k.f.base, .slice x.A x.k.f.slots.length x.cA, .slice x.B x.k.f.have_.length x.cB]) fun y hy => ?_
  simp only [List.mem_cons, List.not_mem_nil, or_false] at hy
  rcases hy with rfl | rfl | rfl | rfl | rfl | rfl | rfl | rfl <;> rfl
/-- Its lists lie in no block of F. -/
structure FarK (w : World) (F : List Nat) (x : KpX) : Prop where
  s : RowF w F 2 eSlot x.A x.k.f.slots
  h : RowF w F 1 eInt x.B x.k.f.have_
  lS : x.k.f.slots.length ≤ x.cA
  cS : x.cA ≤ 9223372036854775807
  lH : x.k.f.have_.length ≤ x.cB
  cH : x.cB ≤ 9223372036854775807
/-- A message whose bytes lie in no block of F. -/
structure FarB (w : World) (F : List Nat) (r : Dr) : Prop where
  row : RowF w F 1 eByte r.B r.d.body
  len : r.d.body.length ≤ r.c
  cap : r.c ≤ 9223372036854775807
section
variable {w w' : World} {F F' : List Nat} {x : KpX} {r : Dr}
theorem FarK.keep (h : FarK w F x) (hs : w.heap.size ≤ w'.heap.size) (hk : ∀ k, k < w.heap.size → k ∉ F → w'.heap[k]? = w.heap[k]?) : FarK w' F x := ⟨h.s.keep hs hk, h.h.keep hs hk, h.lS, h.cS, h.lH, h.cH⟩
theorem FarK.below (h : FarK w F x) (hb : Below w.heap.size w w') : FarK w' F x := h.keep hb.size fun k hk _ => hb.block k hk
theorem FarK.more (h : FarK w F x) (hF : ∀ y ∈ F', y ∈ F ∨ w.heap.size ≤ y) : FarK w F' x := ⟨h.s.more hF, h.h.more hF, h.lS, h.cS, h.lH, h.cH⟩
theorem FarK.rows (h : FarK w F x) : FlRows w w.heap.size x.k.f x.A x.cA x.B x.cB := ⟨h.s.row, h.h.row, h.lS, h.cS, h.lH, h.cH⟩
theorem FarB.keep (h : FarB w F r) (hs : w.heap.size ≤ w'.heap.size) (hk : ∀ k, k < w.heap.size → k ∉ F → w'.heap[k]? = w.heap[k]?) : FarB w' F r := ⟨h.row.keep hs hk, h.len, h.cap⟩
theorem FarB.below (h : FarB w F r) (hb : Below w.heap.size w w') : FarB w' F r := h.keep hb.size fun k hk _ => hb.block k hk
theorem FarB.more (h : FarB w F r) (hF : ∀ y ∈ F', y ∈ F ∨ w.heap.size ≤ y) : FarB w F' r := ⟨h.row.more hF, h.len, h.cap⟩
end
/-- A store at block b: the kept row at block g (its slice in cell oK), the view from cell oV on, the messages in cell 6. -/
structure StV (w : World) (F : List Nat) (b g oK oV : Nat) (s : Sto) (ks : List KpX) (Mp : Option Addr) (cM : Nat) (ms : List Dr) : Prop where
  ck : w.cell? ⟨b, oK, none⟩ = some (.slice (some ⟨g, 0, none⟩) s.n s.n)
  ce : w.cell? ⟨b, oV, none⟩ = some (.int .i64 s.ve)
  cl : w.cell? ⟨b, oV + 1, none⟩ = some (.int .i64 s.vl)
  ci : w.cell? ⟨b, oV + 2, none⟩ = some (.int .i64 s.vi)
  cc : w.cell? ⟨b, oV + 3, none⟩ = some (.int .i64 s.vc)
  cm : w.cell? ⟨b, 6, none⟩ = some (.slice Mp ms.length cM)
  there : w.there b 0 7
  krow : ∀ q x, ks[q]? = some x → w.rangeAt g (q * 8) (eKp x)
  kthere : w.there g 0 (s.n * 8)
  kk : ks.map (·.k) = s.kept
  kS : ∀ x ∈ ks, FarK w F x
  mm : ms.map Dr.d = s.msgs
  mrow : RowF w F 4 eDr Mp ms
  mS : ∀ r ∈ ms, FarB w F r
  mc : ms.length ≤ cM ∧ cM ≤ 9223372036854775807
  bF : b ∈ F
  gF : g ∈ F
  bg : b ≠ g
  hi : ∀ x ∈ F, x < w.heap.size
  inv : SInv s
section
variable {w w' : World} {F F' : List Nat} {b g oK oV : Nat} {s : Sto} {ks : List KpX} {Mp : Option Addr} {cM : Nat} {ms : List Dr}
/-- What is not in F, and the two blocks themselves, are as they were. -/
theorem StV.keep (h : StV w F b g oK oV s ks Mp cM ms) (hs : w.heap.size ≤ w'.heap.size) (hk : ∀ k, k < w.heap.size → k ∉ F ∨ k = b ∨ k = g → w'.heap[k]? = w.heap[k]?) : StV w' F b g oK oV s ks Mp cM ms := by
  have hb := hk b (h.hi b h.bF) (.inr (.inl rfl))
  have hg := hk g (h.hi g h.gF) (.inr (.inr rfl))
  have hc : ∀ o, w'.cell? ⟨b, o, none⟩ = w.cell? ⟨b, o, none⟩ := fun o => World.cell?_of_block hb
  have hk' : ∀ k, k < w.heap.size → k ∉ F → w'.heap[k]? = w.heap[k]? := fun k h1 h2 => hk k h1 (.inl h2)
  exact ⟨(hc _).trans h.ck, (hc _).trans h.ce, (hc _).trans h.cl, (hc _).trans h.ci, (hc _).trans h.cc, (hc _).trans h.cm, there_same h.there hb, fun q x hx => range_same (h.krow q x hx) hg, there_same h.kthere hg, h.kk, fun x hx => (h.kS x hx).keep hs hk', h.mm, h.mrow.keep hs hk', fun r hr => (h.mS r hr).keep hs hk', h.mc, h.bF, h.gF, h.bg, fun x hx => Nat.lt_of_lt_of_le (h.hi x hx) hs, h.inv⟩
theorem StV.below (h : StV w F b g oK oV s ks Mp cM ms) (hb : Below w.heap.size w w') : StV w' F b g oK oV s ks Mp cM ms := h.keep hb.size fun k hk _ => hb.block k hk
/-- Another block of F is written. -/
theorem StV.spoil (h : StV w F b g oK oV s ks Mp cM ms) {x : Nat} (hx : x ∈ F) (h1 : x ≠ b) (h2 : x ≠ g) (hg : w.grownBy w' (some x)) : StV w' F b g oK oV s ks Mp cM ms :=
  h.keep hg.size fun k hk hc => hg.block k hk (by
    intro e; injection e with e; subst e
    rcases hc with e | e | e
    · exact e hx
    · exact h1 e
    · exact h2 e)
theorem StV.more (h : StV w F b g oK oV s ks Mp cM ms) (hF : ∀ y ∈ F', y ∈ F ∨ w.heap.size ≤ y) (hb : b ∈ F') (hg : g ∈ F') (hi : ∀ y ∈ F', y < w.heap.size) : StV w F' b g oK oV s ks Mp cM ms :=
  ⟨h.ck, h.ce, h.cl, h.ci, h.cc, h.cm, h.there, h.krow, h.kthere, h.kk, fun x hx => (h.kS x hx).more hF, h.mm, h.mrow.more hF, fun r hr => (h.mS r hr).more hF, h.mc, hb, hg, h.bg, hi, h.inv⟩
theorem StV.lenK (h : StV w F b g oK oV s ks Mp cM ms) : ks.length = s.n := by rw [← h.inv.len, ← h.kk, List.length_map]
theorem StV.lenM (h : StV w F b g oK oV s ks Mp cM ms) : ms.length ≤ 128 := by have := h.inv.lenM; rw [← h.mm, List.length_map] at this; exact this
/-- What is kept of node q. -/
theorem StV.kp (h : StV w F b g oK oV s ks Mp cM ms) {q : Nat} (hq : q < s.n) : ∃ x, ks[q]? = some x ∧ x.k = s.kp q ∧ w.rangeAt g (q * 8) (eKp x) ∧ FarK w F x := by
  have hl := h.lenK
  have hx : ks[q]? = some ks[q] := List.getElem?_eq_getElem (by omega)
  refine ⟨ks[q], hx, ?_, h.krow q _ hx, h.kS _ (List.getElem_mem _)⟩
  unfold Sto.kp
  rw [← h.kk, List.getElem?_map, hx]; rfl
/-- A content is kept. -/
theorem StV.put (h : StV w F b g oK oV s ks Mp cM ms) {q : Nat} {x : KpX} (hq : q < s.n) (hx : FarK w F x) (hi : SInv { s with kept := s.kept.set q x.k }) :
    StV (w.setCells g (q * 8) (eKp x)) F b g oK oV { s with kept := s.kept.set q x.k } (ks.set q x) Mp cM ms := by
  have hg := grown_sets g (eKp x) (q * 8) w
  have hs := hg.size
  have hl := h.lenK
  have hb := hg.block b (h.hi b h.bF) (by intro e; injection e with e; exact h.bg e)
  have hc : ∀ o, (w.setCells g (q * 8) (eKp x)).cell? ⟨b, o, none⟩ = w.cell? ⟨b, o, none⟩ := fun o => World.cell?_of_block hb
  have hk' : ∀ k, k < w.heap.size → k ∉ F → (w.setCells g (q * 8) (eKp x)).heap[k]? = w.heap[k]? := fun k h1 h2 => hg.block k h1 (by intro e; injection e with e; subst e; exact h2 h.gF)
  refine ⟨(hc _).trans h.ck, (hc _).trans h.ce, (hc _).trans h.cl, (hc _).trans h.ci, (hc _).trans h.cc, (hc _).trans h.cm, there_same h.there hb, fun p y hy => ?_, World.there_setCells h.kthere _ _ _, by rw [List.map_set, h.kk], fun y hy => ?_, h.mm, h.mrow.keep hs hk', fun r hr => (h.mS r hr).keep hs hk', h.mc, h.bF, h.gF, h.bg, fun y hy => Nat.lt_of_lt_of_le (h.hi y hy) hs, hi⟩
  · by_cases e : p = q
    · subst e
      rw [List.getElem?_set_self (by omega)] at hy
      injection hy with hy; subst hy
      exact rng_in h.kthere (by rw [len_eKp]; omega)
    · rw [List.getElem?_set_ne (fun e2 => e e2.symm)] at hy
      have := len_eKp x
      exact rng_out (h.krow p y hy) (by rw [len_eKp, len_eKp]; omega)
  · rcases List.mem_or_eq_of_mem_set hy with e | e
    · exact (h.kS y e).keep hs hk'
    · subst e; exact hx.keep hs hk'
end
end Go.Proofs.Ytcffhfcjfjfokaa
/- here: is a member's content of a view kept? The program's and the document's. -/
namespace Go.Proofs.Ytcffhfcjfjfokaa
open Go.RowKit
theorem size171 : (Try.prog.info? 171).map (·.size) = some 8 := by kernel_rfl
theorem size173 : (Try.prog.info? 173).map (·.size) = some 8 := by kernel_rfl
abbrev kpZ : Array Value := #[.int .i64 0, .int .i64 0, .int .i64 0, .int .i64 0, .int .i64 0, .int .i64 0, .slice none 0 0, .slice none 0 0]
theorem load171 {w : World} {b o : Nat} {x : KpX} (h : w.rangeAt b o (eKp x)) : (loadVar 171 ⟨b, o, none⟩).run Try.prog w = .ok (.agg (kpA x)) w :=
  run_loadVar_mid w b o 171 (kpA x).toList _ h Try.underlying171 rfl (by rw [size171]; rfl)
theorem load173 {w : World} {b o : Nat} {x : KpX} (h : w.rangeAt b o (eKp x)) : (loadVar 173 ⟨b, o, none⟩).run Try.prog w = .ok (.agg (kpA x)) w :=
  run_loadVar_mid w b o 173 (kpA x).toList _ h Try.underlying173 rfl (by rw [size173]; rfl)
theorem wp_store171 {o : Oper} {a : Act} {w : World} {K : Act → World → Prop} {Q : Exit → Act → World → Prop} (x y : Operand) (ho : o.op = .store 171 x y) (hd : o.dst = none) (b off : Nat) (hx : a.eval x = .pointer (some ⟨b, off, none⟩)) (z : KpX) (hy : a.eval y = .agg (kpA z))
    (ht : w.there b off 8) (h : ∀ w', Hid (w' = w.setCells b off (eKp z)) → K a w') : o.wp Try.prog a w K Q :=
  wp_store_mid 171 x y ho b off (kpA z) hx hy ht (by rw [size171]; rfl) (one_kpA z) (by rw [hd]; exact h _ (Lib.hid rfl))
theorem wp_store173 {o : Oper} {a : Act} {w : World} {K : Act → World → Prop} {Q : Exit → Act → World → Prop} (x y : Operand) (ho : o.op = .store 173 x y) (hd : o.dst = none) (b off : Nat) (hx : a.eval x = .pointer (some ⟨b, off, none⟩)) (z : KpX) (hy : a.eval y = .agg (kpA z))
    (ht : w.there b off 8) (h : ∀ w', Hid (w' = w.setCells b off (eKp z)) → K a w') : o.wp Try.prog a w K Q :=
  wp_store_mid 173 x y ho b off (kpA z) hx hy ht (by rw [size173]; rfl) (one_kpA z) (by rw [hd]; exact h _ (Lib.hid rfl))
set_option maxRecDepth 100000 in
set_option maxHeartbeats 600000 in
theorem here_any {w : World} {F : List Nat} {b g : Nat} {s : Sto} {ks : List KpX} {Mp : Option Addr} {cM : Nat} {ms : List Dr} (h : StV w F b g 0 1 s ks Mp cM ms) (e l i c : Int) (m : Mm) :
    Calls Try.prog 103 #[.pointer (some ⟨b, 0, none⟩), .agg #[.int .i64 e, .int .i64 l, .int .i64 i, .int .i64 c], .agg #[.int .i64 m.p, .int .i64 m.i, .int .i64 m.c]] w fun x w' => x = .returned (.bool (s.hereB e l i c m)) ∧ Below w.heap.size w w' := by
  obtain ⟨wA, hwA⟩ : ∃ wA, wA = (w.alloc (.cells #[.int .i64 e, .int .i64 l, .int .i64 i, .int .i64 c] 35)).alloc (.cells #[.int .i64 m.p, .int .i64 m.i, .int .i64 m.c] 168) := ⟨_, rfl⟩
  have hbA : Below w.heap.size w wA := by rw [hwA]; exact below_box2 _ _ _ _ _
  have zA : wA.heap.size = w.heap.size + 2 := by rw [hwA]; simp
  have oA : wA.rangeAt w.heap.size 0 [.int .i64 e, .int .i64 l, .int .i64 i, .int .i64 c] := by rw [hwA]; exact range_same (range_new w #[.int .i64 e, .int .i64 l, .int .i64 i, .int .i64 c] 35) (heap_alloc_old _ _ (by simp))
  have oB : wA.rangeAt (w.heap.size + 1) 0 [.int .i64 m.p, .int .i64 m.i, .int .i64 m.c] := by
    have := range_new (w.alloc (.cells #[.int .i64 e, .int .i64 l, .int .i64 i, .int .i64 c] 35)) #[.int .i64 m.p, .int .i64 m.i, .int .i64 m.c] 168
    rw [hwA]; rw [World.size_alloc] at this; exact this
  have hbz := h.hi b h.bF
  have hgz := h.hi g h.gF
  have hA := h.below hbA
  have L8 : ∀ W, Below wA.heap.size wA W → (loadVar 3 ⟨w.heap.size + 1, 0, none⟩).run Try.prog W = .ok (.int .i64 m.p) W := fun W hW => load3 ((hW.cell (p := ⟨w.heap.size + 1, 0, none⟩) (by show w.heap.size + 1 < _; omega)).trans (oB 0 _ rfl))
  have L23 : ∀ W, Below wA.heap.size wA W → (loadVar 135 ⟨b, 0, none⟩).run Try.prog W = .ok (.slice (some ⟨g, 0, none⟩) s.n s.n) W := fun W hW => load135 (hA.below hW).ck
  
  have hC : ∀ x' : Prop, (∀ W, Below wA.heap.size wA W → x') ↔ x' := fun x' => ⟨fun f => f _ (Below.refl _ _), fun f _ _ => f⟩
  have bd : Below wA.heap.size wA wA.drew := Below.drew (Below.refl _ _)
  have hve := run_eql_vid
  replace bd := Lib.hid bd
  replace L8 := Lib.hid L8
  replace L23 := Lib.hid L23
  
  replace oA := Lib.hid oA
  replace oB := Lib.hid oB
  replace hA := Lib.hid hA
  replace hbA := Lib.hid hbA
  replace hwA := Lib.hid hwA
  replace zA := Lib.hid zA
  replace h := Lib.hid h
  by_cases hp0 : m.p < 0
  · have he : s.hereB e l i c m = false := by unfold Sto.hereB; rw [decide_eq_false (by omega)]; rfl
    replace he := Lib.hid he
    go_enter Try.func103, Try.ntmps103
    go_wp2_with fail
    rw [← hwA.out]
    refine wp_region_ord [] [0, 1, 2, 3, 4, 5, 6, 7, 8, 9, 10, 11, 12] (fun W => Below wA.heap.size wA W) rfl (by kernel_rfl) rfl bd.out ?_
    refine WO.end_ ?_
    simp only [picks, pick, List.cons_append, List.nil_append, List.append_nil]
    repeat (first
      | go_big_quiet_skip
      | (refine wpQuiet_loadC (by rfl) 3 (.tmp 8) rfl (w.heap.size + 1) 0 (by rfl) _ L8.out ?_; simp only [Act.put, List.setIfInBounds_toArray, List.set_cons_zero, List.set_cons_succ])
      | (refine wpQuiet_loadC (by rfl) 3 (.tmp 12) rfl (w.heap.size + 1) 0 (by rfl) _ L8.out ?_; simp only [Act.put, List.setIfInBounds_toArray, List.set_cons_zero, List.set_cons_succ])
      | (refine wpQuiet_loadC (by rfl) 135 (.tmp 16) rfl b 0 (by rfl) _ L23.out ?_; simp only [Act.put, List.setIfInBounds_toArray, List.set_cons_zero, List.set_cons_succ])
      | go_big_quiet_step (fail))
    refine wpQuiet_nil ?_
    go_wp2
    go_ret
    exact ⟨ret_bool he.out.symm, hbA.out.trans (bd.out.mono (by have := zA.out; omega))⟩
  · by_cases hp1 : m.p < s.n
    · obtain ⟨q, hq⟩ := Int.eq_ofNat_of_zero_le (show 0 ≤ m.p by omega)
      have hqn : q < s.n := by omega
      obtain ⟨x, hx, hxk, hxr, hxf⟩ := hA.out.kp hqn
      have he : s.hereB e l i c m = (decide (x.k.inc ≠ 0) && decide (x.k.inc = m.i) && vidEq x.k.f.e x.k.f.l x.k.f.i x.k.f.c e l i c) := by
        unfold Sto.hereB
        rw [decide_eq_true (by omega), Bool.true_and, show m.p.toNat = q by omega, ← hxk]
      have L28 : ∀ W, Below wA.heap.size wA W → (loadVar 171 ⟨g, q * 8, none⟩).run Try.prog W = .ok (.agg (kpA x)) W := fun W hW => load171 (range_same hxr (hW.block g (by have := zA.out; omega)))
      have hq0 : (0 : Int) ≤ (q : Int) := by omega
      have hq1 : (q : Int) < (s.n : Int) := by omega
      have hn0 : decide ((q : Int) < 0) = false := decide_eq_false (by omega)
      have hn1 : decide ((s.n : Int) ≤ (q : Int)) = false := decide_eq_false (by omega)
      rw [hq] at L8
      replace he := Lib.hid he
      replace L28 := Lib.hid L28
      replace hq := Lib.hid hq
      replace hx := Lib.hid hx
      replace hxk := Lib.hid hxk
      replace hxr := Lib.hid hxr
      replace hxf := Lib.hid hxf
      clear hp0 hp1
      go_enter Try.func103, Try.ntmps103
      go_wp2_with fail
      rw [← hwA.out]
      refine wp_region_ord [] [0, 1, 2, 3, 4, 5, 6, 7, 8, 9, 10, 11, 12] (fun W => Below wA.heap.size wA W) rfl (by kernel_rfl) rfl bd.out ?_
      refine WO.end_ ?_
      simp only [picks, pick, List.cons_append, List.nil_append, List.append_nil]
      repeat (first
      | go_big_quiet_skip
      | (refine wpQuiet_loadC (by rfl) 3 (.tmp 8) rfl (w.heap.size + 1) 0 (by rfl) _ L8.out ?_; simp only [Act.put, List.setIfInBounds_toArray, List.set_cons_zero, List.set_cons_succ])
      | (refine wpQuiet_loadC (by rfl) 3 (.tmp 12) rfl (w.heap.size + 1) 0 (by rfl) _ L8.out ?_; simp only [Act.put, List.setIfInBounds_toArray, List.set_cons_zero, List.set_cons_succ])
      | (refine wpQuiet_loadC (by rfl) 135 (.tmp 16) rfl b 0 (by rfl) _ L23.out ?_; simp only [Act.put, List.setIfInBounds_toArray, List.set_cons_zero, List.set_cons_succ])
      | go_big_quiet_step (fail))
      refine wpQuiet_nil ?_
      go_wp2_with fail
      have bd2 := Lib.hid (bd.out.drew)
      refine wp_region_ord [([0, 1, 2, 3, 4, 5, 6, 7], 8), ([], 9)] [] (fun W => Below wA.heap.size wA W) rfl (by kernel_rfl) rfl bd2.out ?_
      refine WO.seg rfl ?_ bd2.out
      simp only [picks, pick, List.cons_append, List.nil_append, List.append_nil]
      repeat (first
      | go_big_quiet_skip
      | (refine wpQuiet_loadC (by rfl) 135 (.tmp 23) rfl b 0 (by rfl) _ L23.out ?_; simp only [Act.put, List.setIfInBounds_toArray, List.set_cons_zero, List.set_cons_succ])
      | (refine wpQuiet_loadC (by rfl) 3 (.tmp 25) rfl (w.heap.size + 1) 0 (by rfl) _ L8.out ?_; simp only [Act.put, List.setIfInBounds_toArray, List.set_cons_zero, List.set_cons_succ])
      | (refine wpQuiet_loadC (by rfl) 171 (.tmp 27) rfl g (q * 8) (by rfl) _ L28.out ?_; simp only [Act.put, List.setIfInBounds_toArray, List.set_cons_zero, List.set_cons_succ])
      | go_big_quiet_step (fail))
      refine wpQuiet_nil ?_
      intro K hK
      go_simp
      obtain ⟨w5, hw5⟩ : ∃ w5, w5 = (wA.alloc (.cells kpZ 171)).drew.drew := ⟨_, rfl⟩
      have t5 : w5.there wA.heap.size 0 8 := by rw [hw5]; exact there_same (there_new wA kpZ 171) rfl
      have b5 : Below wA.heap.size wA w5 := by rw [hw5]; exact ((below_box1 wA kpZ 171).drew).drew
      have z5 : w5.heap.size = wA.heap.size + 1 := by rw [hw5]; exact World.size_alloc _ _
      rw [← hw5]
      replace hw5 := Lib.hid hw5
      replace t5 := Lib.hid t5
      replace b5 := Lib.hid b5
      refine hK.out _ _ b5.out ?_
      clear hK K
      refine WO.seg rfl ?_ b5.out
      simp only [picks]
      refine wpQuiet_nil ?_
      intro K hK
      rw [if_pos (by rfl)]
      refine wp_store171 (.tmp 7) (.tmp 28) rfl rfl wA.heap.size 0 (by rfl) x (by rfl) t5.out ?_
      intro w6 hw6
      have r6 : w6.rangeAt wA.heap.size 0 (eKp x) := by rw [hw6.out]; exact rng_in t5.out (by rw [len_eKp]; omega)
      have b6 : Below wA.heap.size wA w6 := by rw [hw6.out]; exact below_sets b5.out (Nat.le_refl _) _ _ (by omega)
      refine hK.out _ _ b6 ?_
      clear hK K
      refine WO.end_ ?_
      simp only [picks]
      refine wpQuiet_nil ?_
      have a0 : w6.cell? ⟨wA.heap.size, 0, none⟩ = some (.int .i64 x.k.inc) := r6 0 _ rfl
      have a1 : w6.cell? ⟨wA.heap.size, 1, none⟩ = some (.int .i64 x.k.f.e) := r6 1 _ rfl
      have a2 : w6.cell? ⟨wA.heap.size, 2, none⟩ = some (.int .i64 x.k.f.l) := r6 2 _ rfl
      have a3 : w6.cell? ⟨wA.heap.size, 3, none⟩ = some (.int .i64 x.k.f.i) := r6 3 _ rfl
      have a4 : w6.cell? ⟨wA.heap.size, 4, none⟩ = some (.int .i64 x.k.f.c) := r6 4 _ rfl
      have q1 : w6.cell? ⟨w.heap.size + 1, 1, none⟩ = some (.int .i64 m.i) := (b6.cell (p := ⟨w.heap.size + 1, 1, none⟩) (by show w.heap.size + 1 < _; have := zA.out; omega)).trans (oB.out 1 _ rfl)
      have oA6 := range_same oA.out (b6.block w.heap.size (by have := zA.out; omega))
      have v0 : w6.cell? ⟨w.heap.size, 0, none⟩ = some (.int .i64 e) := oA6 0 _ rfl
      have v1 : w6.cell? ⟨w.heap.size, 1, none⟩ = some (.int .i64 l) := oA6 1 _ rfl
      have v2 : w6.cell? ⟨w.heap.size, 2, none⟩ = some (.int .i64 i) := oA6 2 _ rfl
      have v3 : w6.cell? ⟨w.heap.size, 3, none⟩ = some (.int .i64 c) := oA6 3 _ rfl
      have hend := hbA.out.trans (b6.mono (by have := zA.out; omega))
      replace hend := Lib.hid hend
      clear r6 b6 oA6 hw6 hC
      by_cases e0 : x.k.inc = 0
      · have n0 : (x.k.inc != 0) = false := by simp [e0]
        have he2 : s.hereB e l i c m = false := by rw [he.out, decide_eq_false (by simp [e0])]; rfl
        replace e0 := Lib.hid e0
        replace he2 := Lib.hid he2
        go_wp2
        go_ret
        exact ⟨ret_bool he2.out.symm, hend.out⟩
      · have n0 : (x.k.inc != 0) = true := by simp [e0]
        by_cases e1 : x.k.inc = m.i
        · have n1 : (x.k.inc == m.i) = true := by simp [e1]
          have he2 : s.hereB e l i c m = vidEq x.k.f.e x.k.f.l x.k.f.i x.k.f.c e l i c := by rw [he.out, decide_eq_true e0, decide_eq_true e1]; rfl
          replace e0 := Lib.hid e0
          replace e1 := Lib.hid e1
          replace he2 := Lib.hid he2
          go_wp2
          go_ret
          exact ⟨ret_bool he2.out.symm, hend.out⟩
        · have n1 : (x.k.inc == m.i) = false := by simp [e1]
          have he2 : s.hereB e l i c m = false := by rw [he.out, decide_eq_false e1]; simp
          replace e0 := Lib.hid e0
          replace e1 := Lib.hid e1
          replace he2 := Lib.hid he2
          go_wp2
          go_ret
          exact ⟨ret_bool he2.out.symm, hend.out⟩
    · have he : s.hereB e l i c m = false := by unfold Sto.hereB; rw [decide_eq_false (by omega)]; rfl
      replace he := Lib.hid he
      have hn0 : decide (m.p < 0) = false := decide_eq_false hp0
      have hn1 : (s.n : Int) ≤ m.p := by omega
      clear hp0 hp1
      go_enter Try.func103, Try.ntmps103
      go_wp2_with fail
      rw [← hwA.out]
      refine wp_region_ord [] [0, 1, 2, 3, 4, 5, 6, 7, 8, 9, 10, 11, 12] (fun W => Below wA.heap.size wA W) rfl (by kernel_rfl) rfl bd.out ?_
      refine WO.end_ ?_
      simp only [picks, pick, List.cons_append, List.nil_append, List.append_nil]
      repeat (first
      | go_big_quiet_skip
      | (refine wpQuiet_loadC (by rfl) 3 (.tmp 8) rfl (w.heap.size + 1) 0 (by rfl) _ L8.out ?_; simp only [Act.put, List.setIfInBounds_toArray, List.set_cons_zero, List.set_cons_succ])
      | (refine wpQuiet_loadC (by rfl) 3 (.tmp 12) rfl (w.heap.size + 1) 0 (by rfl) _ L8.out ?_; simp only [Act.put, List.setIfInBounds_toArray, List.set_cons_zero, List.set_cons_succ])
      | (refine wpQuiet_loadC (by rfl) 135 (.tmp 16) rfl b 0 (by rfl) _ L23.out ?_; simp only [Act.put, List.setIfInBounds_toArray, List.set_cons_zero, List.set_cons_succ])
      | go_big_quiet_step (fail))
      refine wpQuiet_nil ?_
      go_wp2
      go_ret
      exact ⟨ret_bool he.out.symm, hbA.out.trans (bd.out.mono (by have := zA.out; omega))⟩
set_option maxRecDepth 100000 in
set_option maxHeartbeats 600000 in
theorem rhere_any {w : World} {F : List Nat} {b g : Nat} {s : Sto} {ks : List KpX} {Mp : Option Addr} {cM : Nat} {ms : List Dr} (h : StV w F b g 1 2 s ks Mp cM ms) (hn : w.cell? ⟨b, 0, none⟩ = some (.int .i64 s.n)) (e l i c : Int) (m : Mm) :
    Calls Try.prog 104 #[.pointer (some ⟨b, 0, none⟩), .agg #[.int .i64 e, .int .i64 l, .int .i64 i, .int .i64 c], .agg #[.int .i64 m.p, .int .i64 m.i, .int .i64 m.c]] w fun x w' => x = .returned (.bool (s.hereB e l i c m)) ∧ Below w.heap.size w w' := by
  obtain ⟨wA, hwA⟩ : ∃ wA, wA = (w.alloc (.cells #[.int .i64 e, .int .i64 l, .int .i64 i, .int .i64 c] 35)).alloc (.cells #[.int .i64 m.p, .int .i64 m.i, .int .i64 m.c] 168) := ⟨_, rfl⟩
  have hbA : Below w.heap.size w wA := by rw [hwA]; exact below_box2 _ _ _ _ _
  have zA : wA.heap.size = w.heap.size + 2 := by rw [hwA]; simp
  have oA : wA.rangeAt w.heap.size 0 [.int .i64 e, .int .i64 l, .int .i64 i, .int .i64 c] := by rw [hwA]; exact range_same (range_new w #[.int .i64 e, .int .i64 l, .int .i64 i, .int .i64 c] 35) (heap_alloc_old _ _ (by simp))
  have oB : wA.rangeAt (w.heap.size + 1) 0 [.int .i64 m.p, .int .i64 m.i, .int .i64 m.c] := by
    have := range_new (w.alloc (.cells #[.int .i64 e, .int .i64 l, .int .i64 i, .int .i64 c] 35)) #[.int .i64 m.p, .int .i64 m.i, .int .i64 m.c] 168
    rw [hwA]; rw [World.size_alloc] at this; exact this
  have hbz := h.hi b h.bF
  have hgz := h.hi g h.gF
  have hA := h.below hbA
  have L8 : ∀ W, Below wA.heap.size wA W → (loadVar 3 ⟨w.heap.size + 1, 0, none⟩).run Try.prog W = .ok (.int .i64 m.p) W := fun W hW => load3 ((hW.cell (p := ⟨w.heap.size + 1, 0, none⟩) (by show w.heap.size + 1 < _; omega)).trans (oB 0 _ rfl))
  have L23 : ∀ W, Below wA.heap.size wA W → (loadVar 138 ⟨b, 1, none⟩).run Try.prog W = .ok (.slice (some ⟨g, 0, none⟩) s.n s.n) W := fun W hW => load138 (hA.below hW).ck
  have L16 : ∀ W, Below wA.heap.size wA W → (loadVar 3 ⟨b, 0, none⟩).run Try.prog W = .ok (.int .i64 (s.n : Int)) W := fun W hW => load3 ((hW.cell (p := ⟨b, 0, none⟩) (by show b < _; omega)).trans ((hbA.cell (p := ⟨b, 0, none⟩) hbz).trans hn))
  have hC : ∀ x' : Prop, (∀ W, Below wA.heap.size wA W → x') ↔ x' := fun x' => ⟨fun f => f _ (Below.refl _ _), fun f _ _ => f⟩
  have bd : Below wA.heap.size wA wA.drew := Below.drew (Below.refl _ _)
  have hve := run_eql_vid
  replace bd := Lib.hid bd
  replace L8 := Lib.hid L8
  replace L23 := Lib.hid L23
  replace L16 := Lib.hid L16
  replace oA := Lib.hid oA
  replace oB := Lib.hid oB
  replace hA := Lib.hid hA
  replace hbA := Lib.hid hbA
  replace hwA := Lib.hid hwA
  replace zA := Lib.hid zA
  replace h := Lib.hid h
  by_cases hp0 : m.p < 0
  · have he : s.hereB e l i c m = false := by unfold Sto.hereB; rw [decide_eq_false (by omega)]; rfl
    replace he := Lib.hid he
    go_enter Try.func104, Try.ntmps104
    go_wp2_with fail
    rw [← hwA.out]
    refine wp_region_ord [] [0, 1, 2, 3, 4, 5, 6, 7, 8, 9, 10, 11] (fun W => Below wA.heap.size wA W) rfl (by kernel_rfl) rfl bd.out ?_
    refine WO.end_ ?_
    simp only [picks, pick, List.cons_append, List.nil_append, List.append_nil]
    repeat (first
      | go_big_quiet_skip
      | (refine wpQuiet_loadC (by rfl) 3 (.tmp 8) rfl (w.heap.size + 1) 0 (by rfl) _ L8.out ?_; simp only [Act.put, List.setIfInBounds_toArray, List.set_cons_zero, List.set_cons_succ])
      | (refine wpQuiet_loadC (by rfl) 3 (.tmp 12) rfl (w.heap.size + 1) 0 (by rfl) _ L8.out ?_; simp only [Act.put, List.setIfInBounds_toArray, List.set_cons_zero, List.set_cons_succ])
      | (refine wpQuiet_loadC (by rfl) 3 (.tmp 16) rfl b 0 (by rfl) _ L16.out ?_; simp only [Act.put, List.setIfInBounds_toArray, List.set_cons_zero, List.set_cons_succ])
      | go_big_quiet_step (fail))
    refine wpQuiet_nil ?_
    go_wp2
    go_ret
    exact ⟨ret_bool he.out.symm, hbA.out.trans (bd.out.mono (by have := zA.out; omega))⟩
  · by_cases hp1 : m.p < s.n
    · obtain ⟨q, hq⟩ := Int.eq_ofNat_of_zero_le (show 0 ≤ m.p by omega)
      have hqn : q < s.n := by omega
      obtain ⟨x, hx, hxk, hxr, hxf⟩ := hA.out.kp hqn
      have he : s.hereB e l i c m = (decide (x.k.inc ≠ 0) && decide (x.k.inc = m.i) && vidEq x.k.f.e x.k.f.l x.k.f.i x.k.f.c e l i c) := by
        unfold Sto.hereB
        rw [decide_eq_true (by omega), Bool.true_and, show m.p.toNat = q by omega, ← hxk]
      have L28 : ∀ W, Below wA.heap.size wA W → (loadVar 173 ⟨g, q * 8, none⟩).run Try.prog W = .ok (.agg (kpA x)) W := fun W hW => load173 (range_same hxr (hW.block g (by have := zA.out; omega)))
      have hq0 : (0 : Int) ≤ (q : Int) := by omega
      have hq1 : (q : Int) < (s.n : Int) := by omega
      have hn0 : decide ((q : Int) < 0) = false := decide_eq_false (by omega)
      have hn1 : decide ((s.n : Int) ≤ (q : Int)) = false := decide_eq_false (by omega)
      rw [hq] at L8
      replace he := Lib.hid he
      replace L28 := Lib.hid L28
      replace hq := Lib.hid hq
      replace hx := Lib.hid hx
      replace hxk := Lib.hid hxk
      replace hxr := Lib.hid hxr
      replace hxf := Lib.hid hxf
      clear hp0 hp1
      go_enter Try.func104, Try.ntmps104
      go_wp2_with fail
      rw [← hwA.out]
      refine wp_region_ord [] [0, 1, 2, 3, 4, 5, 6, 7, 8, 9, 10, 11] (fun W => Below wA.heap.size wA W) rfl (by kernel_rfl) rfl bd.out ?_
      refine WO.end_ ?_
      simp only [picks, pick, List.cons_append, List.nil_append, List.append_nil]
      repeat (first
      | go_big_quiet_skip
      | (refine wpQuiet_loadC (by rfl) 3 (.tmp 8) rfl (w.heap.size + 1) 0 (by rfl) _ L8.out ?_; simp only [Act.put, List.setIfInBounds_toArray, List.set_cons_zero, List.set_cons_succ])
      | (refine wpQuiet_loadC (by rfl) 3 (.tmp 12) rfl (w.heap.size + 1) 0 (by rfl) _ L8.out ?_; simp only [Act.put, List.setIfInBounds_toArray, List.set_cons_zero, List.set_cons_succ])
      | (refine wpQuiet_loadC (by rfl) 3 (.tmp 16) rfl b 0 (by rfl) _ L16.out ?_; simp only [Act.put, List.setIfInBounds_toArray, List.set_cons_zero, List.set_cons_succ])
      | go_big_quiet_step (fail))
      refine wpQuiet_nil ?_
      go_wp2_with fail
      have bd2 := Lib.hid (bd.out.drew)
      refine wp_region_ord [([0, 1, 2, 3, 4, 5, 6, 7], 8), ([], 9)] [] (fun W => Below wA.heap.size wA W) rfl (by kernel_rfl) rfl bd2.out ?_
      refine WO.seg rfl ?_ bd2.out
      simp only [picks, pick, List.cons_append, List.nil_append, List.append_nil]
      repeat (first
      | go_big_quiet_skip
      | (refine wpQuiet_loadC (by rfl) 138 (.tmp 22) rfl b 1 (by rfl) _ L23.out ?_; simp only [Act.put, List.setIfInBounds_toArray, List.set_cons_zero, List.set_cons_succ])
      | (refine wpQuiet_loadC (by rfl) 3 (.tmp 24) rfl (w.heap.size + 1) 0 (by rfl) _ L8.out ?_; simp only [Act.put, List.setIfInBounds_toArray, List.set_cons_zero, List.set_cons_succ])
      | (refine wpQuiet_loadC (by rfl) 173 (.tmp 26) rfl g (q * 8) (by rfl) _ L28.out ?_; simp only [Act.put, List.setIfInBounds_toArray, List.set_cons_zero, List.set_cons_succ])
      | go_big_quiet_step (fail))
      refine wpQuiet_nil ?_
      intro K hK
      go_simp
      obtain ⟨w5, hw5⟩ : ∃ w5, w5 = (wA.alloc (.cells kpZ 173)).drew.drew := ⟨_, rfl⟩
      have t5 : w5.there wA.heap.size 0 8 := by rw [hw5]; exact there_same (there_new wA kpZ 173) rfl
      have b5 : Below wA.heap.size wA w5 := by rw [hw5]; exact ((below_box1 wA kpZ 173).drew).drew
      have z5 : w5.heap.size = wA.heap.size + 1 := by rw [hw5]; exact World.size_alloc _ _
      rw [← hw5]
      replace hw5 := Lib.hid hw5
      replace t5 := Lib.hid t5
      replace b5 := Lib.hid b5
      refine hK.out _ _ b5.out ?_
      clear hK K
      refine WO.seg rfl ?_ b5.out
      simp only [picks]
      refine wpQuiet_nil ?_
      intro K hK
      rw [if_pos (by rfl)]
      refine wp_store173 (.tmp 7) (.tmp 27) rfl rfl wA.heap.size 0 (by rfl) x (by rfl) t5.out ?_
      intro w6 hw6
      have r6 : w6.rangeAt wA.heap.size 0 (eKp x) := by rw [hw6.out]; exact rng_in t5.out (by rw [len_eKp]; omega)
      have b6 : Below wA.heap.size wA w6 := by rw [hw6.out]; exact below_sets b5.out (Nat.le_refl _) _ _ (by omega)
      refine hK.out _ _ b6 ?_
      clear hK K
      refine WO.end_ ?_
      simp only [picks]
      refine wpQuiet_nil ?_
      have a0 : w6.cell? ⟨wA.heap.size, 0, none⟩ = some (.int .i64 x.k.inc) := r6 0 _ rfl
      have a1 : w6.cell? ⟨wA.heap.size, 1, none⟩ = some (.int .i64 x.k.f.e) := r6 1 _ rfl
      have a2 : w6.cell? ⟨wA.heap.size, 2, none⟩ = some (.int .i64 x.k.f.l) := r6 2 _ rfl
      have a3 : w6.cell? ⟨wA.heap.size, 3, none⟩ = some (.int .i64 x.k.f.i) := r6 3 _ rfl
      have a4 : w6.cell? ⟨wA.heap.size, 4, none⟩ = some (.int .i64 x.k.f.c) := r6 4 _ rfl
      have q1 : w6.cell? ⟨w.heap.size + 1, 1, none⟩ = some (.int .i64 m.i) := (b6.cell (p := ⟨w.heap.size + 1, 1, none⟩) (by show w.heap.size + 1 < _; have := zA.out; omega)).trans (oB.out 1 _ rfl)
      have oA6 := range_same oA.out (b6.block w.heap.size (by have := zA.out; omega))
      have v0 : w6.cell? ⟨w.heap.size, 0, none⟩ = some (.int .i64 e) := oA6 0 _ rfl
      have v1 : w6.cell? ⟨w.heap.size, 1, none⟩ = some (.int .i64 l) := oA6 1 _ rfl
      have v2 : w6.cell? ⟨w.heap.size, 2, none⟩ = some (.int .i64 i) := oA6 2 _ rfl
      have v3 : w6.cell? ⟨w.heap.size, 3, none⟩ = some (.int .i64 c) := oA6 3 _ rfl
      have hend := hbA.out.trans (b6.mono (by have := zA.out; omega))
      replace hend := Lib.hid hend
      clear r6 b6 oA6 hw6 hC
      by_cases e0 : x.k.inc = 0
      · have n0 : (x.k.inc != 0) = false := by simp [e0]
        have he2 : s.hereB e l i c m = false := by rw [he.out, decide_eq_false (by simp [e0])]; rfl
        replace e0 := Lib.hid e0
        replace he2 := Lib.hid he2
        go_wp2
        go_ret
        exact ⟨ret_bool he2.out.symm, hend.out⟩
      · have n0 : (x.k.inc != 0) = true := by simp [e0]
        by_cases e1 : x.k.inc = m.i
        · have n1 : (x.k.inc == m.i) = true := by simp [e1]
          have he2 : s.hereB e l i c m = vidEq x.k.f.e x.k.f.l x.k.f.i x.k.f.c e l i c := by rw [he.out, decide_eq_true e0, decide_eq_true e1]; rfl
          replace e0 := Lib.hid e0
          replace e1 := Lib.hid e1
          replace he2 := Lib.hid he2
          go_wp2
          go_ret
          exact ⟨ret_bool he2.out.symm, hend.out⟩
        · have n1 : (x.k.inc == m.i) = false := by simp [e1]
          have he2 : s.hereB e l i c m = false := by rw [he.out, decide_eq_false e1]; simp
          replace e0 := Lib.hid e0
          replace e1 := Lib.hid e1
          replace he2 := Lib.hid he2
          go_wp2
          go_ret
          exact ⟨ret_bool he2.out.symm, hend.out⟩
    · have he : s.hereB e l i c m = false := by unfold Sto.hereB; rw [decide_eq_false (by omega)]; rfl
      replace he := Lib.hid he
      have hn0 : decide (m.p < 0) = false := decide_eq_false hp0
      have hn1 : (s.n : Int) ≤ m.p := by omega
      clear hp0 hp1
      go_enter Try.func104, Try.ntmps104
      go_wp2_with fail
      rw [← hwA.out]
      refine wp_region_ord [] [0, 1, 2, 3, 4, 5, 6, 7, 8, 9, 10, 11] (fun W => Below wA.heap.size wA W) rfl (by kernel_rfl) rfl bd.out ?_
      refine WO.end_ ?_
      simp only [picks, pick, List.cons_append, List.nil_append, List.append_nil]
      repeat (first
      | go_big_quiet_skip
      | (refine wpQuiet_loadC (by rfl) 3 (.tmp 8) rfl (w.heap.size + 1) 0 (by rfl) _ L8.out ?_; simp only [Act.put, List.setIfInBounds_toArray, List.set_cons_zero, List.set_cons_succ])
      | (refine wpQuiet_loadC (by rfl) 3 (.tmp 12) rfl (w.heap.size + 1) 0 (by rfl) _ L8.out ?_; simp only [Act.put, List.setIfInBounds_toArray, List.set_cons_zero, List.set_cons_succ])
      | (refine wpQuiet_loadC (by rfl) 3 (.tmp 16) rfl b 0 (by rfl) _ L16.out ?_; simp only [Act.put, List.setIfInBounds_toArray, List.set_cons_zero, List.set_cons_succ])
      | go_big_quiet_step (fail))
      refine wpQuiet_nil ?_
      go_wp2
      go_ret
      exact ⟨ret_bool he.out.symm, hbA.out.trans (bd.out.mono (by have := zA.out; omega))⟩
end Go.Proofs.Ytcffhfcjfjfokaa
