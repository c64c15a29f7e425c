/- Many Datas Gen Kd Wk Bk Book Book2 ByteOf BoWr WrK, joined. -/
import Derived.Test.YtcffhfcjfjfokaaSu3
import Derived.Test.YtcffhfcjfjfokaaSu4
set_option linter.unusedVariables false
set_option linter.unusedSimpArgs false
namespace Go.Proofs.Ytcffhfcjfjfokaa
open Go.RowKit
def FarRow {α : Type} (w : World) (B : Option Addr) (sz : Nat) (enc : α → List Value) (A : Option Addr) (l : List α) : Prop :=
  0 < l.length → ∃ b off, A = some ⟨b, off, none⟩ ∧ some b ≠ blk B ∧ b < w.heap.size ∧ ∀ k x, l[k]? = some x → ∀ j u, (enc x)[j]? = some u → w.cell? ⟨b, off + k * sz + j, none⟩ = some u
section
variable {α : Type} {w w' : World} {lo sz : Nat} {enc : α → List Value} {A B B' : Option Addr} {l : List α}
theorem FarRow.row (h : FarRow w B sz enc A l) : RowAt w w.heap.size sz enc A l := fun h0 => by
  obtain ⟨b, off, e, _, hb, hc⟩ := h h0
  exact ⟨b, off, e, hb, hc⟩
theorem FarRow.of_row (h : FRow w lo sz enc A l) (hB : ∀ k, blk B = some k → k < lo) : FarRow w B sz enc A l := fun h0 => by
  obtain ⟨b, off, e, h1, h2, hc⟩ := h h0
  exact ⟨b, off, e, fun e2 => by have := hB b e2.symm; omega, h2, hc⟩
theorem FarRow.below (h : FarRow w B sz enc A l) (hb : Below w.heap.size w w') : FarRow w' B sz enc A l := fun h0 => by
  obtain ⟨b, off, e, h1, h2, hc⟩ := h h0
  exact ⟨b, off, e, h1, Nat.lt_of_lt_of_le h2 hb.size, fun k x hk j u hu => (hb.cell (p := ⟨b, _, none⟩) h2).trans (hc k x hk j u hu)⟩
theorem FarRow.grown (h : FarRow w B sz enc A l) (hg : w.grownBy w' (blk B)) (hk : blk B' = blk B ∨ blk B' = some w.heap.size) : FarRow w' B' sz enc A l := fun h0 => by
  obtain ⟨b, off, e, h1, h2, hc⟩ := h h0
  refine ⟨b, off, e, fun e2 => ?_, Nat.lt_of_lt_of_le h2 hg.size, fun k x hk j u hu => (hg.cell_far ⟨b, _, none⟩ h2 h1).trans (hc k x hk j u hu)⟩
  rcases hk with hk | hk
  · exact h1 (e2.trans hk)
  · rw [hk] at e2; injection e2 with e2; omega
end
end Go.Proofs.Ytcffhfcjfjfokaa
namespace Go.Proofs.Ytcffhfcjfjfokaa
open Go.RowKit
theorem info5 : (Try.prog.info? 5).map (fun i => (i.zero, i.size, i.bytes)) = some (some (.int .u8 0), 1, 1) := by kernel_rfl
theorem info113 : (Try.prog.info? 113).map (fun i => (i.zero, i.size, i.bytes)) = some (some (.agg #[.int .i64 0, .int .i64 0, .int .i64 0, .slice none 0 0]), 4, 48) := by kernel_rfl
def SmallD (ds : List Dt) : Prop := ds.length ≤ 1048576 ∧ ∀ d ∈ ds, d.body.length ≤ 1048576
def FarDr (w : World) (B : Option Addr) (r : Dr) : Prop := (r.d.body.length ≤ r.c ∧ r.c ≤ 9223372036854775807) ∧ FarRow w B 1 eByte r.B r.d.body
theorem FarDr.below {w w' : World} {B : Option Addr} {r : Dr} (h : FarDr w B r) (hb : Below w.heap.size w w') : FarDr w' B r := ⟨h.1, h.2.below hb⟩
theorem FarDr.grown {w w' : World} {B B' : Option Addr} {r : Dr} (h : FarDr w B r) (hg : w.grownBy w' (blk B)) (hk : blk B' = blk B ∨ blk B' = some w.heap.size) : FarDr w' B' r := ⟨h.1, h.2.grown hg hk⟩
end Go.Proofs.Ytcffhfcjfjfokaa
namespace Go.Proofs.Ytcffhfcjfjfokaa
open Go Go.RowKit
abbrev drA (r : Dr) : Array Value := #[.int .i64 r.d.s, .int .i64 r.d.q, .int .i64 r.d.b, .slice r.B r.d.body.length r.c]
theorem size39s : (Try.prog.info? 39).map (·.size) = some 7 := by kernel_rfl
theorem one_flc (e l i c b : Int) (A : Option Addr) (n cA : Nat) (B : Option Addr) (m cB : Nat) : (flc e l i c b A n cA B m cB).all (·.oneCell') = true := by
  refine all_oneCell_toArray (cs := [.int .i64 e, .int .i64 l, .int .i64 i, .int .i64 c, .int .i64 b, .slice A n cA, .slice B m cB]) fun y hy => ?_
  simp only [List.mem_cons, List.not_mem_nil, or_false] at hy
  rcases hy with rfl | rfl | rfl | rfl | rfl | rfl | rfl <;> rfl
theorem load39 {w : World} {b o : Nat} {e l i c u : Int} {A : Option Addr} {n cA : Nat} {B : Option Addr} {m cB : Nat} (h : w.rangeAt b o (flc e l i c u A n cA B m cB).toList) : (loadVar 39 ⟨b, o, none⟩).run Try.prog w = .ok (.agg (flc e l i c u A n cA B m cB)) w :=
  run_loadVar_mid w b o 39 (flc e l i c u A n cA B m cB).toList _ h Try.underlying39 rfl (by rw [size39s]; rfl)
theorem Owns.base {α : Type} {w : World} {base base' sz c : Nat} {e : TypeId} {enc : α → List Value} {A : Option Addr} {l : List α} (h : Owns w base e sz enc A c l) (hb : base' ≤ base) : Owns w base' e sz enc A c l := by
  refine ⟨h.1, ?_⟩
  rcases h.2 with h2 | ⟨g, cap, cur, hv, hbase, hr⟩
  · exact .inl h2
  · exact .inr ⟨g, cap, cur, hv, by omega, hr⟩
theorem Owns.same {α : Type} {w w' : World} {base sz c : Nat} {e : TypeId} {enc : α → List Value} {A : Option Addr} {l : List α} (h : Owns w base e sz enc A c l) (hb : ∀ g, blk A = some g → w'.heap[g]? = w.heap[g]?) : Owns w' base e sz enc A c l := by
  refine ⟨h.1, ?_⟩
  rcases h.2 with h2 | ⟨g, cap, cur, hv, h3, h4, h5⟩
  · exact .inl h2
  · injection hv with e1 e2 e3
    subst e1; subst e3
    exact .inr ⟨g, c, cur, rfl, h3, (hb g rfl).trans h4, h5⟩
theorem size113 : (Try.prog.info? 113).map (·.size) = some 4 := by kernel_rfl
theorem load113 {w : World} {b o : Nat} {r : Dr} (h : w.rangeAt b o (eDr r)) : (loadVar 113 ⟨b, o, none⟩).run Try.prog w = .ok (.agg (drA r)) w :=
  run_loadVar_mid w b o 113 (drA r).toList _ h Try.underlying113 rfl (by rw [size113]; rfl)
theorem load52 {w : World} {b o n c : Nat} {A : Option Addr} (h : w.cell? ⟨b, o, none⟩ = some (.slice A n c)) : (loadVar 52 ⟨b, o, none⟩).run Try.prog w = .ok (.slice A n c) w := by go_simp
def zero113 : Value := .agg #[.int .i64 0, .int .i64 0, .int .i64 0, .slice none 0 0]
theorem run_zero113 (W : World) : (zeroValue 113).run Try.prog W = .ok zero113 W := by kernel_rfl
theorem one_drA (r : Dr) : (drA r).all (·.oneCell') = true := all_oneCell_toArray (cs := eDr r) (one_eDr r)
theorem range_sub {w : World} {b o n : Nat} {l m : List Value} (h : w.rangeAt b o l) (k : Nat) (hk : (l.drop k).take n = m) : w.rangeAt b (o + k) m := fun j u hu => by
  rw [Nat.add_assoc]
  refine h (k + j) u ?_
  rw [← hk, List.getElem?_take, List.getElem?_drop] at hu
  split at hu
  · exact hu
  · cases hu
theorem bs40 (W : World) (r : Dr) : (Instr.buildSlice 40 1 #[(0, .agg (drA r))]).run Try.prog W = .ok (.slice (some ⟨W.heap.size, 0, none⟩) 1 1) (W.alloc (.cells (drA r) 113)) := by kernel_rfl
theorem bs40z (W : World) : (Instr.buildSlice 40 0 #[]).run Try.prog W = .ok (.slice (some ⟨W.heap.size, 0, none⟩) 0 0) (W.alloc (.cells #[] 113)) := by kernel_rfl
theorem bs52z (W : World) : (Instr.buildSlice 52 0 #[]).run Try.prog W = .ok (.slice (some ⟨W.heap.size, 0, none⟩) 0 0) (W.alloc (.cells #[] 5)) := by kernel_rfl
structure DS where
  k : Nat
  A : Option Addr
  c : Nat
  al : List Dr
theorem flatk_take {α : Type} {enc : α → List Value} {sz : Nat} (hsz : ∀ x, (enc x).length = sz) : ∀ (l : List α) (k : Nat), (l.flatMap enc).take (k * sz) = (l.take k).flatMap enc
  | [], k => by simp
  | x :: l, 0 => by simp
  | x :: l, k + 1 => by
    rw [List.flatMap_cons, List.take_succ_cons, List.flatMap_cons, ← flatk_take hsz l k, List.take_append, hsz, show (k + 1) * sz - sz = k * sz by rw [Nat.add_mul]; omega, List.take_of_length_le (by rw [hsz, Nat.add_mul]; omega)]
theorem flatk_drop {α : Type} {enc : α → List Value} {sz : Nat} (hsz : ∀ x, (enc x).length = sz) : ∀ (l : List α) (k : Nat), (l.flatMap enc).drop (k * sz) = (l.drop k).flatMap enc
  | [], k => by simp
  | x :: l, 0 => by simp
  | x :: l, k + 1 => by
    rw [List.flatMap_cons, List.drop_succ_cons, ← flatk_drop hsz l k, List.drop_append, hsz, show (k + 1) * sz - sz = k * sz by rw [Nat.add_mul]; omega, List.drop_eq_nil_of_le (by rw [hsz, Nat.add_mul]; omega)]; rfl
theorem stored_sets {base g n c sz : Nat} {e : TypeId} : ∀ (vs xs : List Value) (o : Nat) (w : World), w.ownsRow base e sz (.slice (some ⟨g, 0, none⟩) n c) n xs → o + vs.length ≤ xs.length → (w.setCells g o vs).ownsRow base e sz (.slice (some ⟨g, 0, none⟩) n c) n (xs.take o ++ vs ++ xs.drop (o + vs.length))
  | [], xs, o, w, h, _ => by simpa [World.setCells] using h
  | v :: vs, xs, o, w, h, hl => by
    rw [List.length_cons] at hl
    have h1 := (World.ownsRow.stored h o v).1
    have := stored_sets vs (xs.set o v) (o + 1) (w.setCell ⟨g, o, none⟩ v) h1 (by rw [List.length_set]; omega)
    have e : xs.take o ++ v :: vs ++ xs.drop (o + (v :: vs).length) = (xs.set o v).take (o + 1) ++ vs ++ (xs.set o v).drop (o + 1 + vs.length) := by
      rw [List.length_cons, List.take_add_one, List.getElem?_set_self (by omega), List.take_set_of_le (Nat.le_refl _), List.drop_set_of_lt (by omega)]
      simp [Nat.add_assoc, Nat.add_comm 1]
    rw [World.setCells, e]
    exact this
theorem Owns.sets {α : Type} {w : World} {base g c k sz : Nat} {e : TypeId} {enc : α → List Value} {l : List α} (h : Owns w base e sz enc (some ⟨g, 0, none⟩) c l) (hsz : ∀ x, (enc x).length = sz) (hk : k < l.length) (x : α) : Owns (w.setCells g (k * sz) (enc x)) base e sz enc (some ⟨g, 0, none⟩) c (l.set k x) := by
  have hl := length_flat hsz l
  have hm : (k + 1) * sz ≤ l.length * sz := Nat.mul_le_mul_right _ hk
  have := stored_sets (enc x) (l.flatMap enc) (k * sz) w h (by rw [hl, hsz, ← Nat.succ_mul]; exact hm)
  have e : (l.set k x).flatMap enc = (l.flatMap enc).take (k * sz) ++ enc x ++ (l.flatMap enc).drop (k * sz + (enc x).length) := by
    rw [hsz, ← Nat.succ_mul, flatk_take hsz, flatk_drop hsz]
    have e2 : (l.set k x).flatMap enc = ((l.set k x).take k ++ (l.set k x).drop k).flatMap enc := by rw [List.take_append_drop]
    rw [e2, List.flatMap_append, List.take_set_of_le (Nat.le_refl _), List.drop_eq_getElem_cons (by rw [List.length_set]; exact hk), List.flatMap_cons, List.getElem_set_self, List.drop_set_of_lt (by omega), List.append_assoc]
  unfold Owns
  rw [List.length_set, e]
  exact this
theorem Owns.cell {α : Type} {w : World} {base c sz : Nat} {e : TypeId} {enc : α → List Value} {A : Option Addr} {l : List α} (h : Owns w base e sz enc A c l) (hsz : ∀ x, (enc x).length = sz) {k : Nat} {x : α} (hx : l[k]? = some x) : ∃ g, A = some ⟨g, 0, none⟩ ∧ w.rangeAt g (k * sz) (enc x) := by
  have hl : 0 < l.length := by have := (List.getElem?_eq_some_iff.1 hx).1; omega
  obtain ⟨g, cap, hv, _, _⟩ := World.ownsRow.form h hl
  have hA : A = some ⟨g, 0, none⟩ := by injection hv
  subst hA
  refine ⟨g, rfl, fun j u hu => ?_⟩
  have hu' := flatMap_at hsz l k j x u hx hu
  rw [World.ownsRow.cellAt h (k * sz + j) (by rw [← length_flat hsz l]; exact (List.getElem?_eq_some_iff.1 hu').1), ← hu']
theorem Owns.there {α : Type} {w : World} {base c sz g : Nat} {e : TypeId} {enc : α → List Value} {l : List α} (h : Owns w base e sz enc (some ⟨g, 0, none⟩) c l) (hsz : ∀ x, (enc x).length = sz) : w.there g 0 (l.length * sz) := fun j hj => by
  rw [Nat.zero_add]
  refine ⟨?_, World.ownsRow.frozenAt h j⟩
  rw [World.ownsRow.cellAt h j hj, List.getElem?_eq_getElem (by rw [length_flat hsz]; exact hj)]; rfl
end Go.Proofs.Ytcffhfcjfjfokaa
namespace Go.Proofs.Ytcffhfcjfjfokaa
open Go.RowKit
structure RowX (α : Type) where
  A : Option Addr
  c : Nat
  l : List α
structure Kd {α : Type} (W : World) (base : Nat) (e : TypeId) (sz : Nat) (enc : α → List Value) (zs : Nat → List α) (P : List (RowX α)) (Q : List (Option Addr × Nat)) : Prop where
  o : ∀ x ∈ P, Owns W base e sz enc x.A x.c x.l
  d : ∀ (k : Nat) (x : RowX α) (y : Option Addr × Nat), P[k]? = some x → Q[k]? = some y → Owns W base e sz enc y.1 y.2 (x.l ++ zs k)
  s : ∀ (k j : Nat) (x : RowX α) (y : Option Addr × Nat), k ≠ j → P[j]? = some x → Q[k]? = some y → ∀ q, blk y.1 = some q → blk x.A ≠ some q
  dis : ∀ (k j : Nat) (x y : RowX α), k ≠ j → P[k]? = some x → P[j]? = some y → ∀ q, blk x.A = some q → blk y.A ≠ some q
  len : Q.length ≤ P.length
section
variable {α : Type} {W W' : World} {base sz : Nat} {e : TypeId} {enc : α → List Value} {zs : Nat → List α} {P : List (RowX α)} {Q : List (Option Addr × Nat)}
theorem Kd.keep (h : Kd W base e sz enc zs P Q) (hk : ∀ k, base ≤ k → k < W.heap.size → (∀ x ∈ P, blk x.A = some k → W'.heap[k]? = W.heap[k]?) ∧ (∀ y ∈ Q, blk y.1 = some k → W'.heap[k]? = W.heap[k]?)) : Kd W' base e sz enc zs P Q :=
  ⟨fun x hx => (h.o x hx).same fun g hg => (hk g ((h.o x hx).lo g hg).1 ((h.o x hx).lo g hg).2).1 x hx hg, fun k x y hx hy => by
    have ho := h.d k x y hx hy
    exact ho.same fun g hg => (hk g (ho.lo g hg).1 (ho.lo g hg).2).2 y (List.mem_of_getElem? hy) hg, h.s, h.dis, h.len⟩
theorem Kd.below (h : Kd W base e sz enc zs P Q) (hb : Below W.heap.size W W') : Kd W' base e sz enc zs P Q := h.keep fun k _ hk => ⟨fun _ _ _ => hb.block k hk, fun _ _ _ => hb.block k hk⟩
theorem Kd.all (h : Kd W base e sz enc zs P Q) {k : Nat} {y : Option Addr × Nat} (hy : Q[k]? = some y) : ∃ x, P[k]? = some x ∧ Owns W base e sz enc y.1 y.2 (x.l ++ zs k) := by
  have hk : k < P.length := Nat.lt_of_lt_of_le (List.getElem?_eq_some_iff.1 hy).1 h.len
  exact ⟨P[k], List.getElem?_eq_getElem hk, h.d k _ y (List.getElem?_eq_getElem hk) hy⟩
theorem Kd.other {β : Type} {base' sz' c' : Nat} {e' : TypeId} {enc' : β → List Value} {A' : Option Addr} {l' : List β} (h : Kd W base e sz enc zs P Q) (ho : Owns W base' e' sz' enc' A' c' l') (he : e ≠ e') (hg : W.grownBy W' (blk A')) : Kd W' base e sz enc zs P Q :=
  h.keep fun k _ hk => ⟨fun x hx e1 => hg.block k hk (by
    rcases (h.o x hx).ne ho he with e2 | e2
    · rw [e2] at e1; cases e1
    · intro e3; exact e2 (e1.trans e3)), fun y hy e1 => by
    obtain ⟨j, hj⟩ := List.mem_iff_getElem?.1 hy
    obtain ⟨x, _, hx⟩ := h.all hj
    refine hg.block k hk ?_
    rcases hx.ne ho he with e2 | e2
    · rw [e2] at e1; cases e1
    · intro e3; exact e2 (e1.trans e3)⟩
theorem Kd.write (h : Kd W base e sz enc zs P Q) (hsz : ∀ x, (enc x).length = sz) {i j g : Nat} {x : RowX α} (hi : P[i]? = some x) (hQ : Q.length ≤ i) (hg : x.A = some ⟨g, 0, none⟩) (hj : j < x.l.length) (v : α) :
    Kd (W.setCells g (j * sz) (enc v)) base e sz enc zs (P.set i ⟨x.A, x.c, x.l.set j v⟩) Q := by
  have hil := (List.getElem?_eq_some_iff.1 hi).1
  have hgr := grown_sets g (enc v) (j * sz) W
  have hbx : blk x.A = some g := by rw [hg]; rfl
  have hget : ∀ k, (P.set i ⟨x.A, x.c, x.l.set j v⟩)[k]? = if k = i then some ⟨x.A, x.c, x.l.set j v⟩ else P[k]? := fun k => by
    by_cases e1 : k = i
    · subst e1; rw [List.getElem?_set_self hil, if_pos rfl]
    · rw [List.getElem?_set_ne (fun e2 => e1 e2.symm), if_neg e1]
  have hblk : ∀ (k : Nat) (y : RowX α), (P.set i ⟨x.A, x.c, x.l.set j v⟩)[k]? = some y → ∃ z : RowX α, P[k]? = some z ∧ z.A = y.A := fun k y hy => by
    rw [hget] at hy
    split at hy
    · rename_i e1; subst e1; injection hy with hy; exact ⟨x, hi, by rw [← hy]⟩
    · exact ⟨y, hy, rfl⟩
  refine ⟨fun y hy => ?_, fun k y z hy hz => ?_, fun k j' y z hne hy hz => ?_, fun k j' y z hne hy hz => ?_, by rw [List.length_set]; exact h.len⟩
  · obtain ⟨k, hk⟩ := List.mem_iff_getElem?.1 hy
    rw [hget] at hk
    split at hk
    · injection hk with hk; subst hk
      have := h.o x (List.mem_of_getElem? hi)
      dsimp only
      rw [hg] at this ⊢
      exact this.sets hsz hj v
    · rename_i hne
      refine (h.o y (List.mem_of_getElem? hk)).same fun q hq => hgr.block q ((h.o y (List.mem_of_getElem? hk)).lo q hq).2 (fun e1 => ?_)
      injection e1 with e1; subst e1
      exact h.dis k i y x hne hk hi q hq hbx
  · have hkl := (List.getElem?_eq_some_iff.1 hz).1
    rw [hget, if_neg (by omega)] at hy
    have := h.d k y z hy hz
    exact this.same fun q hq => hgr.block q (this.lo q hq).2 (fun e1 => by
      injection e1 with e1; subst e1
      exact h.s k i x z (by omega) hi hz q hq hbx)
  · obtain ⟨y', h1, h2⟩ := hblk j' y hy
    rw [← h2]; exact h.s k j' y' z hne h1 hz
  · obtain ⟨y', h1, h2⟩ := hblk k y hy
    obtain ⟨z', h3, h4⟩ := hblk j' z hz
    rw [← h2, ← h4]; exact h.dis k j' y' z' hne h1 h3
theorem Kd.push (h : Kd W base e sz enc zs P Q) {x : RowX α} {A' : Option Addr} {c' : Nat} (hi : P[Q.length]? = some x) (ho' : Owns W' base e sz enc A' c' (x.l ++ zs Q.length)) (ho : Owns W' base e sz enc x.A x.c x.l) (hg : W.grownBy W' (blk x.A)) (hk : blk A' = blk x.A ∨ blk A' = some W.heap.size) : Kd W' base e sz enc zs P (Q ++ [(A', c')]) := by
  have hil := (List.getElem?_eq_some_iff.1 hi).1
  have hget : ∀ k y, (Q ++ [(A', c')])[k]? = some y → (k < Q.length ∧ Q[k]? = some y) ∨ (k = Q.length ∧ y = (A', c')) := fun k y hy => by
    have hkl := (List.getElem?_eq_some_iff.1 hy).1
    rw [List.length_append] at hkl
    by_cases e1 : k < Q.length
    · rw [List.getElem?_append_left e1] at hy; exact .inl ⟨e1, hy⟩
    · have : k = Q.length := by simp at hkl; omega
      subst this
      rw [List.getElem?_append_right (Nat.le_refl _), Nat.sub_self] at hy
      injection hy with hy; exact .inr ⟨rfl, hy.symm⟩
  refine ⟨fun y hy => ?_, fun k y z hy hz => ?_, fun k j' y z hne hy hz q hq e2 => ?_, h.dis, by rw [List.length_append]; simp; omega⟩
  · obtain ⟨k, hk'⟩ := List.mem_iff_getElem?.1 hy
    by_cases e1 : k = Q.length
    · subst e1; rw [hi] at hk'; injection hk' with hk'; subst hk'; exact ho
    · exact (h.o y hy).same fun q hq => hg.block q ((h.o y hy).lo q hq).2 (fun e2 => h.dis k Q.length y x e1 hk' hi q hq e2.symm)
  · rcases hget k z hz with ⟨e1, hz'⟩ | ⟨e1, rfl⟩
    · have := h.d k y z hy hz'
      exact this.same fun q hq => hg.block q (this.lo q hq).2 (fun e2 => h.s k Q.length x z (by omega) hi hz' q hq e2.symm)
    · subst e1; rw [hi] at hy; injection hy with hy; subst hy; exact ho'
  · rcases hget k z hz with ⟨e1, hz'⟩ | ⟨e1, rfl⟩
    · exact h.s k j' y z hne hy hz' q hq e2
    · rcases hk with hk | hk
      · exact h.dis k j' x y hne (by rw [e1]; exact hi) hy q (by rw [← hk]; exact hq) e2
      · have := ((h.o y (List.mem_of_getElem? hy)).lo q e2).2
        have hq' : blk A' = some q := hq
        rw [hk] at hq'; injection hq' with hq'; omega
end
end Go.Proofs.Ytcffhfcjfjfokaa
namespace Go.Proofs.Ytcffhfcjfjfokaa
open Go Go.RowKit
def bw (A : Option Addr) (c : Nat) : Option Nat := if c = 0 then none else blk A
theorem bw_blk {A : Option Addr} {c k : Nat} (h : bw A c = some k) : blk A = some k ∧ 0 < c := by
  unfold bw at h
  split at h
  · cases h
  · exact ⟨h, by omega⟩
structure OwnW {α : Type} (w : World) (base : Nat) (e : TypeId) (sz : Nat) (enc : α → List Value) (A : Option Addr) (c : Nat) (l : List α) : Prop where
  len : l.length ≤ c
  own : 0 < c → Owns w base e sz enc A c l
structure Fx (S : List Nat) (w w' : World) : Prop where
  os : w'.os = w.os
  tape : w'.tape = w.tape
  output : w'.output = w.output
  size : w.heap.size ≤ w'.heap.size
  block : ∀ k, k < w.heap.size → k ∉ S → w'.heap[k]? = w.heap[k]?
section
variable {S S' : List Nat} {w w' w'' : World}
theorem Fx.refl (S : List Nat) (w : World) : Fx S w w := ⟨rfl, rfl, rfl, Nat.le_refl _, fun _ _ _ => rfl⟩
theorem Fx.trans (h : Fx S w w') (h' : Fx S' w' w'') (hs : ∀ k ∈ S', k ∈ S ∨ w.heap.size ≤ k) : Fx S w w'' :=
  ⟨h'.os.trans h.os, h'.tape.trans h.tape, h'.output.trans h.output, Nat.le_trans h.size h'.size, fun k hk hn => (h'.block k (Nat.lt_of_lt_of_le hk h.size) (fun hm => by
    rcases hs k hm with e | e
    · exact hn e
    · omega)).trans (h.block k hk hn)⟩
theorem Fx.below (hb : Below w.heap.size w w') : Fx S w w' := ⟨hb.os, hb.tape, hb.output, hb.size, fun k hk _ => hb.block k hk⟩
theorem Fx.grown {row : Option Nat} (hg : w.grownBy w' row) (hr : ∀ k, row = some k → k ∈ S) : Fx S w w' := ⟨hg.os, hg.tape, hg.output, hg.size, fun k hk hn => hg.block k hk (fun e => hn (hr k e.symm))⟩
theorem Fx.to {N : Nat} (h : Fx S w w') (hS : ∀ k ∈ S, N ≤ k) (hN : N ≤ w.heap.size) : Below N w w' := ⟨h.os, h.tape, h.output, h.size, fun k hk => h.block k (by omega) (fun hm => by have := hS k hm; omega)⟩
theorem Fx.drew (h : Fx S w w') : Fx S w w'.drew := ⟨h.os, h.tape, h.output, h.size, h.block⟩
theorem Fx.undrew (h : Fx S w.drew w') : Fx S w w' := ⟨h.os, h.tape, h.output, h.size, h.block⟩
theorem Fx.more (h : Fx S w w') (hs : ∀ k ∈ S, k ∈ S') : Fx S' w w' := ⟨h.os, h.tape, h.output, h.size, fun k hk hn => h.block k hk (fun hm => hn (hs k hm))⟩
theorem Fx.cell (h : Fx S w w') {b o : Nat} (hb : b < w.heap.size) (hn : b ∉ S) : w'.cell? ⟨b, o, none⟩ = w.cell? ⟨b, o, none⟩ := World.cell?_of_block (a := ⟨b, o, none⟩) (h.block b hb hn)
end
section
variable {α : Type} {S : List Nat} {w w' : World} {base base' sz c : Nat} {e : TypeId} {enc : α → List Value} {A : Option Addr} {l : List α}
theorem Owns.fx (h : Owns w base e sz enc A c l) (hf : Fx S w w') (hA : ∀ k, blk A = some k → k ∉ S) : Owns w' base e sz enc A c l := h.same fun g hg => hf.block g (h.lo g hg).2 (hA g hg)
theorem Owns.short (h : Owns w base e sz enc A c l) : Owns w base e sz enc A c [] := by
  refine ⟨by simp, ?_⟩
  rcases h.2 with ⟨hv, _⟩ | ⟨g, cap, cur, hv, h1, h2, h3, h4, h5, _⟩
  · injection hv with e1 _ e2
    subst e1; subst e2; exact .inl ⟨rfl, rfl⟩
  · injection hv with e1 _ e2
    subst e1; subst e2
    exact .inr ⟨g, c, cur, rfl, h1, h2, Nat.zero_le _, h4, h5, by simp⟩
theorem OwnW.of (h : Owns w base e sz enc A c l) : OwnW w base e sz enc A c l := ⟨h.len.1, fun _ => h⟩
theorem OwnW.row (h : OwnW w base e sz enc A c l) (hsz : ∀ x, (enc x).length = sz) : RowAt w w.heap.size sz enc A l := fun h0 => (h.own (by have := h.len; omega)).row hsz h0
theorem OwnW.lo (h : OwnW w base e sz enc A c l) : ∀ k, bw A c = some k → base ≤ k ∧ k < w.heap.size := fun k hk => (h.own (bw_blk hk).2).lo k (bw_blk hk).1
theorem OwnW.cap (h : OwnW w base e sz enc A c l) : c ≤ 9223372036854775807 := by
  by_cases h0 : 0 < c
  · exact (h.own h0).len.2
  · omega
theorem OwnW.fx (h : OwnW w base e sz enc A c l) (hf : Fx S w w') (hA : ∀ k, bw A c = some k → k ∉ S) : OwnW w' base e sz enc A c l :=
  ⟨h.len, fun h0 => (h.own h0).fx hf fun k hk => hA k (by unfold bw; rw [if_neg (by omega)]; exact hk)⟩
theorem OwnW.lower (h : OwnW w base e sz enc A c l) (hb : base' ≤ base) : OwnW w base' e sz enc A c l := ⟨h.len, fun h0 => (h.own h0).base hb⟩
theorem OwnW.below (h : OwnW w base e sz enc A c l) (hb : Below w.heap.size w w') : OwnW w' base e sz enc A c l := h.fx (S := []) (.below hb) fun _ _ => by simp
theorem OwnW.ne {β : Type} {w : World} {base base' sz sz' c c' : Nat} {e e' : TypeId} {enc : α → List Value} {enc' : β → List Value} {A A' : Option Addr} {l : List α} {l' : List β} (h : OwnW w base e sz enc A c l) (h' : OwnW w base' e' sz' enc' A' c' l') (he : e ≠ e') : ∀ k, bw A c = some k → bw A' c' ≠ some k := fun k h1 h2 => by
  rcases (h.own (bw_blk h1).2).ne (h'.own (bw_blk h2).2) he with e | e
  · rw [(bw_blk h1).1] at e; cases e
  · exact e ((bw_blk h1).1.trans (bw_blk h2).1.symm)
theorem OwnW.setCell {g : Nat} (h : OwnW w base e sz enc A c l) (hg : g < base) (o : Nat) (v : Value) : OwnW (w.setCell ⟨g, o, none⟩ v) base e sz enc A c l :=
  h.fx (S := [g]) (.grown (grown_cell w g o v) fun k hk => by injection hk with hk; subst hk; exact List.mem_singleton.2 rfl) fun k hk hm => by
    have := (h.lo k hk).1
    have := List.mem_singleton.1 hm
    omega
end
section
variable {P : Program}
theorem VApp.rowsW {α : Type} {w : World} {ty0 : TypeId} {t e : TypeId} {K : Value → World → Prop}
    (base : Nat) (sz bytes : Nat) (z : Value) (ht : P.underlying t = some (.slice e)) (hinfo : (P.info? e).map (fun i => (i.zero, i.size, i.bytes)) = some (some z, sz, bytes))
    (hzs : z.cells.size = sz) (hsz : 0 < sz) (enc : α → List Value) (henc : ∀ x, (enc x).length = sz) (hone : ∀ x, ∀ u ∈ enc x, u.oneCell' = true)
    {A : Option Addr} {c : Nat} (xs : List α) {B : Option Addr} {cB N m : Nat} (l : List α) (hm : l.length = m)
    (hown : OwnW w base e sz enc A c xs) (hr : RowAt w N sz enc B l)
    (h63 : m ≤ 9223372036854775807) (hbytes : m * bytes ≤ 140737488355328) (hbase : base ≤ w.heap.size)
    (h : ∀ A' c' w', OwnW w' base e sz enc A' c' l → w.grownBy w' (bw A c) → (∀ k, bw A' c' = some k → bw A c = some k ∨ k = w.heap.size) → K (.slice A' m c') w') : VApp P #[t, t] ty0 [.slice A 0 c, .slice B m cB] w K := by
  by_cases h0 : 0 < c
  · have hbw : bw A c = blk A := by unfold bw; rw [if_neg (by omega)]
    refine VApp.rows base sz bytes z ht hinfo hzs hsz enc henc hone [] l rfl hm (hown.own h0).short hr (by omega) (by rw [Nat.zero_add]; exact hbytes) hbase fun A' c' w' ho hg hk => ?_
    rw [Nat.zero_add]
    rw [List.nil_append] at ho
    refine h A' c' w' (.of ho) (by rw [hbw]; exact hg) fun k hk' => ?_
    rw [hbw]
    rcases hk with e1 | e1
    · left; rw [← e1]; exact (bw_blk hk').1
    · right; rw [(bw_blk hk').1] at e1; injection e1
  · have hc : c = 0 := by omega
    subst hc
    have hbw : bw A 0 = none := rfl
    subst hm
    obtain ⟨i, hi, hz, hsize, hby⟩ := info_parts hinfo
    by_cases h1 : 0 < l.length
    · have key : VApp P #[t, t] ty0 [.slice none 0 0, .slice B l.length cB] w K := by
        refine VApp.rows base sz bytes z ht hinfo hzs hsz enc henc hone [] l rfl rfl (owns_nil _ _ _ _ _) hr (by omega) (by rw [Nat.zero_add]; exact hbytes) hbase fun A' c' w' ho hg hk => ?_
        rw [Nat.zero_add]
        rw [List.nil_append] at ho
        refine h A' c' w' (.of ho) (by rw [hbw]; exact hg) fun k hk' => ?_
        rcases hk with e1 | e1
        · rw [(bw_blk hk').1] at e1; cases e1
        · right; rw [(bw_blk hk').1] at e1; injection e1
      cases A with
      | none => exact key
      | some ga =>
        obtain ⟨v, w', hrun, hk⟩ := key
        exact .mk v w' (by
          have := run_append_zero w t ty0 e i ht hi ga B l.length cB h1 (by rw [hby]; exact hbytes)
          exact this.trans hrun) hk
    · have hl : l = [] := List.eq_nil_of_length_eq_zero (by omega)
      subst hl
      exact .mk _ _ (run_append_none w t ty0 e i ht hi A B cB) (h A 0 w ⟨Nat.le_refl _, fun h2 => absurd h2 (by omega)⟩ (World.grownBy.refl w _) fun k hk => by cases hk)
end
end Go.Proofs.Ytcffhfcjfjfokaa
namespace Go.Proofs.Ytcffhfcjfjfokaa
open Go Go.RowKit
def eTr (t : Option Addr × Nat × Nat) : List Value := [.slice t.1 t.2.1 t.2.2]
theorem len_eTr (t : Option Addr × Nat × Nat) : (eTr t).length = 1 := rfl
theorem one_eTr (t : Option Addr × Nat × Nat) : ∀ u ∈ eTr t, u.oneCell' = true := by intro u hu; simp [eTr] at hu; subst hu; rfl
def rowT {α : Type} (x : RowX α) : Option Addr × Nat × Nat := (x.A, x.l.length, x.c)
theorem Owns.unique {α β : Type} {W : World} {base base' sz c c' q : Nat} {e e' : TypeId} {enc : α → List Value} {enc' : β → List Value} {A A' : Option Addr} {l : List α} {l' : List β} (hs : 0 < sz) (h : Owns W base e sz enc A c l) (h' : Owns W base' e' sz enc' A' c' l') (hA : blk A = some q) (hA' : blk A' = some q) : A = A' ∧ c = c' := by
  rcases h.2 with ⟨hv, _⟩ | ⟨g, cap, cur, hv, _, hh, _, _, hz, _⟩
  · injection hv with e1; rw [e1] at hA; cases hA
  · rcases h'.2 with ⟨hv', _⟩ | ⟨g', cap', cur', hv', _, hh', _, _, hz', _⟩
    · injection hv' with e1; rw [e1] at hA'; cases hA'
    · injection hv with e1 _ e2
      injection hv' with e3 _ e4
      subst e1; subst e2; subst e3; subst e4
      have e5 : g = q := by injection hA
      have e6 : g' = q := by injection hA'
      subst e5; subst e6
      rw [hh] at hh'
      injection hh' with hh'; injection hh' with hc
      subst hc
      exact ⟨rfl, Nat.eq_of_mul_eq_mul_right hs (hz.symm.trans hz')⟩
section
variable {α : Type} {W W' W'' : World} {base sz : Nat} {e : TypeId} {enc : α → List Value} {zs : Nat → List α} {P : List (RowX α)} {Q : List (Option Addr × Nat)}
structure Gr (W : World) (base : Nat) (e : TypeId) (sz : Nat) (enc : α → List Value) (r : RowX α) (A : Option Addr) (c : Nat) (m : List α) (W' : World) : Prop where
  x : Owns W' base e sz enc r.A r.c r.l
  y : Owns W' base e sz enc A c (r.l ++ m)
  g : W.grownBy W' (blk r.A)
  k : blk A = blk r.A ∨ ∀ q, blk A = some q → W.heap.size ≤ q
  lt : ∀ q, blk r.A = some q → q < W.heap.size
theorem Gr.start {x : RowX α} (h : Owns W base e sz enc x.A x.c x.l) : Gr W base e sz enc x x.A x.c [] W := ⟨h, by rw [List.append_nil]; exact h, World.grownBy.refl W _, .inl rfl, fun q hq => (h.lo q hq).2⟩
theorem Gr.next (hsz : ∀ x, (enc x).length = sz) (hs : 0 < sz) {x : RowX α} {A A' : Option Addr} {c c' : Nat} {m : List α} {v : α} (h : Gr W base e sz enc x A c m W') (hy : Owns W'' base e sz enc A' c' (x.l ++ m ++ [v])) (ho : Owns W'' base e sz enc A c (x.l ++ m)) (hg : W'.grownBy W'' (blk A)) (hk : blk A' = blk A ∨ blk A' = some W'.heap.size) : Gr W base e sz enc x A' c' (m ++ [v]) W'' := by
  have hz := h.g.size
  refine ⟨?_, by rw [← List.append_assoc]; exact hy, ⟨hg.os.trans h.g.os, hg.tape.trans h.g.tape, hg.output.trans h.g.output, Nat.le_trans hz hg.size, fun k hk' hne => (hg.block k (by omega) (fun e1 => ?_)).trans (h.g.block k hk' hne)⟩, ?_, h.lt⟩
  · cases hx : blk x.A with
    | none => exact h.x.same fun q hq => by rw [hx] at hq; cases hq
    | some q =>
      rcases h.k with e1 | hn
      · obtain ⟨e2, e3⟩ := Owns.unique hs h.y h.x (e1.trans hx) hx
        rw [e2, e3] at ho
        exact own_prefix hsz ho (fun e4 => by rw [e4] at hx; cases hx)
      · exact h.x.kept hg (.inr fun e1 => by
          have := hn q (by rw [← e1]; exact hx)
          have := h.lt q hx
          omega)
  · rcases h.k with e2 | hn
    · exact hne (e1.trans e2)
    · have := hn k e1.symm; omega
  · rcases hk with e1 | e1
    · rcases h.k with e2 | hn
      · exact .inl (e1.trans e2)
      · exact .inr fun q hq => hn q (by rw [← e1]; exact hq)
    · right; intro q hq; rw [e1] at hq; injection hq with hq; omega
theorem Kd.grow (h : Kd W base e sz enc zs P Q) {x : RowX α} {A' : Option Addr} {c' : Nat} (hi : P[Q.length]? = some x) (G : Gr W base e sz enc x A' c' (zs Q.length) W') : Kd W' base e sz enc zs P (Q ++ [(A', c')]) := by
  have hg := G.g
  have hil := (List.getElem?_eq_some_iff.1 hi).1
  have hget : ∀ k y, (Q ++ [(A', c')])[k]? = some y → (k < Q.length ∧ Q[k]? = some y) ∨ (k = Q.length ∧ y = (A', c')) := fun k y hy => by
    have hkl := (List.getElem?_eq_some_iff.1 hy).1
    rw [List.length_append] at hkl
    by_cases e1 : k < Q.length
    · rw [List.getElem?_append_left e1] at hy; exact .inl ⟨e1, hy⟩
    · have : k = Q.length := by simp at hkl; omega
      subst this
      rw [List.getElem?_append_right (Nat.le_refl _), Nat.sub_self] at hy
      injection hy with hy; exact .inr ⟨rfl, hy.symm⟩
  refine ⟨fun y hy => ?_, fun k y z hy hz => ?_, fun k j' y z hne hy hz q hq e2 => ?_, h.dis, by rw [List.length_append]; simp; omega⟩
  · obtain ⟨k, hk'⟩ := List.mem_iff_getElem?.1 hy
    by_cases e1 : k = Q.length
    · subst e1; rw [hi] at hk'; injection hk' with hk'; subst hk'; exact G.x
    · exact (h.o y hy).same fun q hq => hg.block q ((h.o y hy).lo q hq).2 (fun e2 => h.dis k Q.length y x e1 hk' hi q hq e2.symm)
  · rcases hget k z hz with ⟨e1, hz'⟩ | ⟨e1, rfl⟩
    · have := h.d k y z hy hz'
      exact this.same fun q hq => hg.block q (this.lo q hq).2 (fun e2 => h.s k Q.length x z (by omega) hi hz' q hq e2.symm)
    · subst e1; rw [hi] at hy; injection hy with hy; subst hy; exact G.y
  · rcases hget k z hz with ⟨e1, hz'⟩ | ⟨e1, rfl⟩
    · exact h.s k j' y z hne hy hz' q hq e2
    · rcases G.k with hk | hk
      · exact h.dis k j' x y hne (by rw [e1]; exact hi) hy q (by rw [← hk]; exact hq) e2
      · have := ((h.o y (List.mem_of_getElem? hy)).lo q e2).2
        have := hk q hq
        omega
theorem Kd.add (h : Kd W base e sz enc zs P []) {x : RowX α} (hb : Below W.heap.size W W') (ho : Owns W' base e sz enc x.A x.c x.l) (hn : ∀ q, blk x.A = some q → W.heap.size ≤ q) : Kd W' base e sz enc zs (P ++ [x]) [] := by
  have h' := h.below hb
  have hget : ∀ k y, (P ++ [x])[k]? = some y → (k < P.length ∧ P[k]? = some y) ∨ (k = P.length ∧ y = x) := fun k y hy => by
    have hkl := (List.getElem?_eq_some_iff.1 hy).1
    rw [List.length_append] at hkl
    by_cases e1 : k < P.length
    · rw [List.getElem?_append_left e1] at hy; exact .inl ⟨e1, hy⟩
    · have : k = P.length := by simp at hkl; omega
      subst this
      rw [List.getElem?_append_right (Nat.le_refl _), Nat.sub_self] at hy
      injection hy with hy; exact .inr ⟨rfl, hy.symm⟩
  refine ⟨fun y hy => ?_, fun k y z _ hz => by simp at hz, fun k j y z _ _ hz => by simp at hz, fun k j y z hne hy hz q h1 h2 => ?_, Nat.zero_le _⟩
  · rcases List.mem_append.1 hy with hy | hy
    · exact h'.o y hy
    · obtain rfl := List.mem_singleton.1 hy; exact ho
  · rcases hget k y hy with ⟨e1, e2⟩ | ⟨e1, rfl⟩ <;> rcases hget j z hz with ⟨e3, e4⟩ | ⟨e3, rfl⟩
    · exact h.dis k j y z hne e2 e4 q h1 h2
    · have := ((h.o y (List.mem_of_getElem? e2)).lo q h1).2; have := hn q h2; omega
    · have := ((h.o z (List.mem_of_getElem? e4)).lo q h2).2; have := hn q h1; omega
    · omega
end
end Go.Proofs.Ytcffhfcjfjfokaa
namespace Go.Proofs.Ytcffhfcjfjfokaa
open Go Go.RowKit
structure KX (α : Type) where
  L : Option Addr
  cL : Nat
  P : List (RowX α)
  M : Option Addr
  cM : Nat
  Q : List (Option Addr × Nat)
def moreT {α : Type} (P : List (RowX α)) (Q : List (Option Addr × Nat)) : List (Option Addr × Nat × Nat) := (P.zip Q).map fun z => (z.2.1, z.1.l.length + 64, z.2.2)
theorem moreT_len {α : Type} {P : List (RowX α)} {Q : List (Option Addr × Nat)} (h : Q.length ≤ P.length) : (moreT P Q).length = Q.length := by
  unfold moreT; rw [List.length_map, List.length_zip]; omega
theorem moreT_at {α : Type} {P : List (RowX α)} {Q : List (Option Addr × Nat)} {k : Nat} {x : RowX α} {y : Option Addr × Nat} (hx : P[k]? = some x) (hy : Q[k]? = some y) : (moreT P Q)[k]? = some (y.1, x.l.length + 64, y.2) := by
  unfold moreT
  rw [List.getElem?_map, (List.getElem?_zip_eq_some (z := (x, y))).2 ⟨hx, hy⟩]; rfl
structure Kb {α : Type} (W : World) (base : Nat) (tl e : TypeId) (sz : Nat) (enc : α → List Value) (zs : Nat → List α) (x : KX α) : Prop where
  k : Kd W base e sz enc zs x.P x.Q
  l : Owns W base tl 1 eTr x.L x.cL (x.P.map rowT)
  m : Owns W base tl 1 eTr x.M x.cM (moreT x.P x.Q)
  lm : ∀ q, blk x.L = some q → blk x.M ≠ some q
section
variable {α : Type} {W W' : World} {base sz : Nat} {tl e : TypeId} {enc : α → List Value} {zs : Nat → List α} {x : KX α}
theorem Kb.below (h : Kb W base tl e sz enc zs x) (hb : Below W.heap.size W W') : Kb W' base tl e sz enc zs x :=
  ⟨h.k.below hb, h.l.keep hb fun k hk => (h.l.lo k hk).2, h.m.keep hb fun k hk => (h.m.lo k hk).2, h.lm⟩
theorem Kb.other {β : Type} {base' sz' c' : Nat} {e' : TypeId} {enc' : β → List Value} {A' : Option Addr} {l' : List β} (h : Kb W base tl e sz enc zs x) (ho : Owns W base' e' sz' enc' A' c' l') (he : e ≠ e') (ht : tl ≠ e') (hg : W.grownBy W' (blk A')) : Kb W' base tl e sz enc zs x :=
  ⟨h.k.other ho he hg, h.l.kept hg (h.l.ne ho ht), h.m.kept hg (h.m.ne ho ht), h.lm⟩
end
end Go.Proofs.Ytcffhfcjfjfokaa
namespace Go.Proofs.Ytcffhfcjfjfokaa
open Go Go.RowKit
section
variable {α : Type} {W W' : World} {base sz : Nat} {tl e : TypeId} {enc : α → List Value} {zs : Nat → List α} {x : KX α}
theorem rowT_set {P : List (RowX α)} {i j : Nat} {r : RowX α} (hi : P[i]? = some r) (v : α) : (P.set i ⟨r.A, r.c, r.l.set j v⟩).map rowT = P.map rowT := by
  rw [List.map_set]
  have e1 : rowT (⟨r.A, r.c, r.l.set j v⟩ : RowX α) = rowT r := by unfold rowT; simp
  rw [e1]
  apply List.ext_getElem?
  intro k
  by_cases h : k = i
  · subst h
    have hk := (List.getElem?_eq_some_iff.1 hi).1
    rw [List.getElem?_set_self (by rw [List.length_map]; exact hk), List.getElem?_map, hi]; rfl
  · rw [List.getElem?_set_ne (fun e2 => h e2.symm)]
theorem Kb.write (h : Kb W base tl e sz enc zs x) (hsz : ∀ x, (enc x).length = sz) (ht : tl ≠ e) (hQ : x.Q = []) {i j g : Nat} {r : RowX α} (hi : x.P[i]? = some r) (hg : r.A = some ⟨g, 0, none⟩) (hj : j < r.l.length) (v : α) :
    Kb (W.setCells g (j * sz) (enc v)) base tl e sz enc zs { x with P := x.P.set i ⟨r.A, r.c, r.l.set j v⟩ } := by
  have ho := h.k.o r (List.mem_of_getElem? hi)
  have hgr : W.grownBy (W.setCells g (j * sz) (enc v)) (blk r.A) := by rw [hg]; exact grown_sets _ _ _ _
  refine ⟨h.k.write hsz hi (by rw [hQ]; exact Nat.zero_le _) hg hj v, ?_, ?_, h.lm⟩
  · dsimp only
    rw [rowT_set hi v]
    exact h.l.kept hgr (h.l.ne ho ht)
  · have hm := h.m
    dsimp only
    rw [hQ] at hm ⊢
    unfold moreT at hm ⊢
    rw [List.zip_nil_right] at hm ⊢
    exact hm.kept hgr (hm.ne ho ht)
end
structure BX where
  y : KX Int
  i : KX Int
  s : KX (Int × Int)
  f : KX Rw
  d : KX Dr
  m : KX Dr
def byM (k : Nat) : Int := 1 + ((k % 250 : Nat) : Int)
def inM (k : Nat) : Int := -1000 - (k : Int)
def slM (k : Nat) : Int × Int := (0, -1000 - (k : Int))
def flM (k : Nat) : Rw := ⟨⟨0, 0, 0, 0, -1000 - (k : Int), [], []⟩, none, 0, none, 0⟩
def daM (k : Nat) : Dr := ⟨⟨0, -1000 - (k : Int), 0, []⟩, none, 0⟩
def msM (k : Nat) : Dr := ⟨⟨0, 0, -1000 - (k : Int), []⟩, none, 0⟩
def z64 {α : Type} (m : Nat → α) (k : Nat) : List α := List.replicate 64 (m k)
def kxC {α : Type} (x : KX α) : List Value := [.slice x.L x.P.length x.cL, .slice x.M x.Q.length x.cM]
structure Bo (W : World) (base hb : Nat) (x : BX) (o : List Value) : Prop where
  y : Kb W base 52 5 1 eByte (z64 byM) x.y
  i : Kb W base 37 3 1 eInt (z64 inM) x.i
  s : Kb W base 36 66 2 eSlot (z64 slM) x.s
  f : Kb W base 22 39 7 eRw (z64 flM) x.f
  d : Kb W base 40 113 4 eDr (z64 daM) x.d
  m : Kb W base 44 54 4 eDr (z64 msM) x.m
  r : W.rangeAt hb 0 (kxC x.y ++ kxC x.i ++ kxC x.s ++ kxC x.f ++ kxC x.d ++ kxC x.m ++ o)
  t : W.there hb 0 16
  hz : hb < base
  z : base ≤ W.heap.size
section
variable {W W' : World} {base hb : Nat} {x : BX} {o : List Value}
theorem Bo.below (h : Bo W base hb x o) (hw : Below W.heap.size W W') : Bo W' base hb x o :=
  ⟨h.y.below hw, h.i.below hw, h.s.below hw, h.f.below hw, h.d.below hw, h.m.below hw, range_same h.r (hw.block hb (by have := h.hz; have := h.z; omega)), there_same h.t (hw.block hb (by have := h.hz; have := h.z; omega)), h.hz, Nat.le_trans h.z hw.size⟩
end
end Go.Proofs.Ytcffhfcjfjfokaa
namespace Go.Proofs.Ytcffhfcjfjfokaa
open Go Go.RowKit
theorem rem250 (k : Nat) (W : World) : (binOp .rem 3 (.int .i64 k) (.int .i64 250)).run Try.prog W = .ok (.int .i64 ((k % 250 : Nat) : Int)) W := by
  have e1 : (k : Int).tmod 250 = ((k % 250 : Nat) : Int) := by rw [Int.tmod_eq_emod_of_nonneg (by omega)]; omega
  have e2 : IntKind.i64.wrap ((k % 250 : Nat) : Int) = ((k % 250 : Nat) : Int) := IntWalk.i64_in _ (by omega)
  simp [binOp, go_sem, e1, e2]
theorem u8_in (n : Int) (h0 : 0 ≤ n) (h1 : n < 256) : IntKind.u8.wrap n = n := by
  simp [IntKind.wrap, IntKind.bits, IntKind.signed]
  omega
set_option maxRecDepth 100000 in
theorem byteOf_any (k : Nat) (w : World) : Calls Try.prog 113 #[.int .i64 k] w fun e w' => e = .returned (.int .u8 (byM k)) ∧ w = w' := by
  have c5 := u8_in (1 + ((k % 250 : Nat) : Int)) (by omega) (by omega)
  refine calls_vc tab_ok Try.func113 rfl ?_
  repeat ((conv => whnf); first | (refine VCmp.tt (by omega) ?_) | (refine VCmp.ff (by omega) ?_) | (refine VIn.mk (IntWalk.i64_in _ (by omega)) ?_) | (refine VIdx.mk _ rfl (by omega) ?_) | (refine VIdx.mk 0 rfl (by omega) ?_))
  try (conv => whnf)
  refine VQ.mk (.int .i64 ((k % 250 : Nat) : Int)) (fun a ha W _ => ?_) ?_
  · have h3 := ha (.tmp 3) _ rfl
    have h4 := ha (.const (.int .i64 250)) _ rfl
    have := rem250 k W
    have hg : Sem.run Try.prog (eqGuard .rem 3 (.tmp 3) (.const (.int .i64 250)) (.int .i64 k) (.int .i64 250)) W = .ok () W := rfl
    simp only [execOp, h3, h4, Sem.run_bind, hg, this, Result.andThen_ok, Sem.run_pure]
  repeat ((conv => whnf); first | (refine VIn.mk c5 ?_) | (refine VCmp.tt (by omega) ?_) | (refine VCmp.ff (by omega) ?_) | (refine VIn.mk (IntWalk.i64_in _ (by omega)) ?_) | (refine VIdx.mk _ rfl (by omega) ?_) | (refine VIdx.mk 0 rfl (by omega) ?_))
  try (conv => whnf)
  exact .mk ⟨rfl, rfl⟩
end Go.Proofs.Ytcffhfcjfjfokaa
namespace Go.Proofs.Ytcffhfcjfjfokaa
open Go Go.RowKit
section
variable {W : World} {base hb : Nat} {x : BX} {o : List Value}
theorem Bo.wry (h : Bo W base hb x o) (hQ : x.y.Q = []) {i j g : Nat} {r : RowX Int} (hi : x.y.P[i]? = some r) (hg : r.A = some ⟨g, 0, none⟩) (hj : j < r.l.length) (v : Int) :
    Bo (W.setCells g (j * 1) (eByte v)) base hb { x with y := { x.y with P := x.y.P.set i ⟨r.A, r.c, r.l.set j v⟩ } } o := by
  have ho := h.y.k.o r (List.mem_of_getElem? hi)
  have hgr : W.grownBy (W.setCells g (j * 1) (eByte v)) (blk r.A) := by rw [hg]; exact grown_sets _ _ _ _
  have hbg : (W.setCells g (j * 1) (eByte v)).heap[hb]? = W.heap[hb]? := hgr.block hb (by have := h.hz; have := h.z; omega) (fun e => by
    have := (ho.lo hb e.symm).1
    have := h.hz
    omega)
  have hk := h.y.write len_eByte (by decide) hQ hi hg hj v
  refine ⟨hk, h.i.other ho (by decide) (by decide) hgr, h.s.other ho (by decide) (by decide) hgr, h.f.other ho (by decide) (by decide) hgr, h.d.other ho (by decide) (by decide) hgr, h.m.other ho (by decide) (by decide) hgr, ?_, there_same h.t hbg, h.hz, Nat.le_trans h.z hgr.size⟩
  have hr := range_same h.r hbg
  unfold kxC at hr ⊢
  dsimp only
  rw [List.length_set]
  exact hr
theorem Bo.wri (h : Bo W base hb x o) (hQ : x.i.Q = []) {i j g : Nat} {r : RowX Int} (hi : x.i.P[i]? = some r) (hg : r.A = some ⟨g, 0, none⟩) (hj : j < r.l.length) (v : Int) :
    Bo (W.setCells g (j * 1) (eInt v)) base hb { x with i := { x.i with P := x.i.P.set i ⟨r.A, r.c, r.l.set j v⟩ } } o := by
  have ho := h.i.k.o r (List.mem_of_getElem? hi)
  have hgr : W.grownBy (W.setCells g (j * 1) (eInt v)) (blk r.A) := by rw [hg]; exact grown_sets _ _ _ _
  have hbg : (W.setCells g (j * 1) (eInt v)).heap[hb]? = W.heap[hb]? := hgr.block hb (by have := h.hz; have := h.z; omega) (fun e => by
    have := (ho.lo hb e.symm).1
    have := h.hz
    omega)
  have hk := h.i.write len_eInt (by decide) hQ hi hg hj v
  refine ⟨h.y.other ho (by decide) (by decide) hgr, hk, h.s.other ho (by decide) (by decide) hgr, h.f.other ho (by decide) (by decide) hgr, h.d.other ho (by decide) (by decide) hgr, h.m.other ho (by decide) (by decide) hgr, ?_, there_same h.t hbg, h.hz, Nat.le_trans h.z hgr.size⟩
  have hr := range_same h.r hbg
  unfold kxC at hr ⊢
  dsimp only
  rw [List.length_set]
  exact hr
theorem Bo.wrs (h : Bo W base hb x o) (hQ : x.s.Q = []) {i j g : Nat} {r : RowX (Int × Int)} (hi : x.s.P[i]? = some r) (hg : r.A = some ⟨g, 0, none⟩) (hj : j < r.l.length) (v : (Int × Int)) :
    Bo (W.setCells g (j * 2) (eSlot v)) base hb { x with s := { x.s with P := x.s.P.set i ⟨r.A, r.c, r.l.set j v⟩ } } o := by
  have ho := h.s.k.o r (List.mem_of_getElem? hi)
  have hgr : W.grownBy (W.setCells g (j * 2) (eSlot v)) (blk r.A) := by rw [hg]; exact grown_sets _ _ _ _
  have hbg : (W.setCells g (j * 2) (eSlot v)).heap[hb]? = W.heap[hb]? := hgr.block hb (by have := h.hz; have := h.z; omega) (fun e => by
    have := (ho.lo hb e.symm).1
    have := h.hz
    omega)
  have hk := h.s.write len_eSlot (by decide) hQ hi hg hj v
  refine ⟨h.y.other ho (by decide) (by decide) hgr, h.i.other ho (by decide) (by decide) hgr, hk, h.f.other ho (by decide) (by decide) hgr, h.d.other ho (by decide) (by decide) hgr, h.m.other ho (by decide) (by decide) hgr, ?_, there_same h.t hbg, h.hz, Nat.le_trans h.z hgr.size⟩
  have hr := range_same h.r hbg
  unfold kxC at hr ⊢
  dsimp only
  rw [List.length_set]
  exact hr
theorem Bo.wrf (h : Bo W base hb x o) (hQ : x.f.Q = []) {i j g : Nat} {r : RowX Rw} (hi : x.f.P[i]? = some r) (hg : r.A = some ⟨g, 0, none⟩) (hj : j < r.l.length) (v : Rw) :
    Bo (W.setCells g (j * 7) (eRw v)) base hb { x with f := { x.f with P := x.f.P.set i ⟨r.A, r.c, r.l.set j v⟩ } } o := by
  have ho := h.f.k.o r (List.mem_of_getElem? hi)
  have hgr : W.grownBy (W.setCells g (j * 7) (eRw v)) (blk r.A) := by rw [hg]; exact grown_sets _ _ _ _
  have hbg : (W.setCells g (j * 7) (eRw v)).heap[hb]? = W.heap[hb]? := hgr.block hb (by have := h.hz; have := h.z; omega) (fun e => by
    have := (ho.lo hb e.symm).1
    have := h.hz
    omega)
  have hk := h.f.write len_eRw (by decide) hQ hi hg hj v
  refine ⟨h.y.other ho (by decide) (by decide) hgr, h.i.other ho (by decide) (by decide) hgr, h.s.other ho (by decide) (by decide) hgr, hk, h.d.other ho (by decide) (by decide) hgr, h.m.other ho (by decide) (by decide) hgr, ?_, there_same h.t hbg, h.hz, Nat.le_trans h.z hgr.size⟩
  have hr := range_same h.r hbg
  unfold kxC at hr ⊢
  dsimp only
  rw [List.length_set]
  exact hr
theorem Bo.wrd (h : Bo W base hb x o) (hQ : x.d.Q = []) {i j g : Nat} {r : RowX Dr} (hi : x.d.P[i]? = some r) (hg : r.A = some ⟨g, 0, none⟩) (hj : j < r.l.length) (v : Dr) :
    Bo (W.setCells g (j * 4) (eDr v)) base hb { x with d := { x.d with P := x.d.P.set i ⟨r.A, r.c, r.l.set j v⟩ } } o := by
  have ho := h.d.k.o r (List.mem_of_getElem? hi)
  have hgr : W.grownBy (W.setCells g (j * 4) (eDr v)) (blk r.A) := by rw [hg]; exact grown_sets _ _ _ _
  have hbg : (W.setCells g (j * 4) (eDr v)).heap[hb]? = W.heap[hb]? := hgr.block hb (by have := h.hz; have := h.z; omega) (fun e => by
    have := (ho.lo hb e.symm).1
    have := h.hz
    omega)
  have hk := h.d.write len_eDr (by decide) hQ hi hg hj v
  refine ⟨h.y.other ho (by decide) (by decide) hgr, h.i.other ho (by decide) (by decide) hgr, h.s.other ho (by decide) (by decide) hgr, h.f.other ho (by decide) (by decide) hgr, hk, h.m.other ho (by decide) (by decide) hgr, ?_, there_same h.t hbg, h.hz, Nat.le_trans h.z hgr.size⟩
  have hr := range_same h.r hbg
  unfold kxC at hr ⊢
  dsimp only
  rw [List.length_set]
  exact hr
theorem Bo.wrm (h : Bo W base hb x o) (hQ : x.m.Q = []) {i j g : Nat} {r : RowX Dr} (hi : x.m.P[i]? = some r) (hg : r.A = some ⟨g, 0, none⟩) (hj : j < r.l.length) (v : Dr) :
    Bo (W.setCells g (j * 4) (eDr v)) base hb { x with m := { x.m with P := x.m.P.set i ⟨r.A, r.c, r.l.set j v⟩ } } o := by
  have ho := h.m.k.o r (List.mem_of_getElem? hi)
  have hgr : W.grownBy (W.setCells g (j * 4) (eDr v)) (blk r.A) := by rw [hg]; exact grown_sets _ _ _ _
  have hbg : (W.setCells g (j * 4) (eDr v)).heap[hb]? = W.heap[hb]? := hgr.block hb (by have := h.hz; have := h.z; omega) (fun e => by
    have := (ho.lo hb e.symm).1
    have := h.hz
    omega)
  have hk := h.m.write len_eDr (by decide) hQ hi hg hj v
  refine ⟨h.y.other ho (by decide) (by decide) hgr, h.i.other ho (by decide) (by decide) hgr, h.s.other ho (by decide) (by decide) hgr, h.f.other ho (by decide) (by decide) hgr, h.d.other ho (by decide) (by decide) hgr, hk, ?_, there_same h.t hbg, h.hz, Nat.le_trans h.z hgr.size⟩
  have hr := range_same h.r hbg
  unfold kxC at hr ⊢
  dsimp only
  rw [List.length_set]
  exact hr
end
end Go.Proofs.Ytcffhfcjfjfokaa
namespace Go.Proofs.Ytcffhfcjfjfokaa
open Go Go.RowKit
structure Shw {α : Type} (S : List (RowX α)) (R : List (RowX α)) (i : Nat) (m : Nat → α) : Prop where
  len : S.length = R.length
  same : ∀ (k : Nat) (x r : RowX α), S[k]? = some x → R[k]? = some r → x.A = r.A ∧ x.c = r.c ∧ x.l.length = r.l.length
  full : ∀ (k : Nat) (x : RowX α), k < i → S[k]? = some x → x.l = List.replicate x.l.length (m k)
section
variable {α : Type} {S R : List (RowX α)} {i j : Nat} {m : Nat → α} {x : RowX α}
theorem Shw.start (R : List (RowX α)) (m : Nat → α) : Shw R R 0 m := ⟨rfl, fun k x r hx hr => by rw [hx] at hr; injection hr with hr; subst hr; exact ⟨rfl, rfl, rfl⟩, fun k x hk _ => by omega⟩
theorem Shw.write (h : Shw S R i m) (hx : S[i]? = some x) (v : α) : Shw (S.set i ⟨x.A, x.c, x.l.set j v⟩) R i m := by
  have hi := (List.getElem?_eq_some_iff.1 hx).1
  refine ⟨by rw [List.length_set]; exact h.len, fun k y r hy hr => ?_, fun k y hk hy => ?_⟩
  · by_cases e : k = i
    · subst e
      rw [List.getElem?_set_self hi] at hy; injection hy with hy; subst hy
      have := h.same k x r hx hr
      exact ⟨this.1, this.2.1, by rw [List.length_set]; exact this.2.2⟩
    · rw [List.getElem?_set_ne (fun e2 => e e2.symm)] at hy; exact h.same k y r hy hr
  · rw [List.getElem?_set_ne (by omega)] at hy; exact h.full k y hk hy
theorem Shw.next (h : Shw S R i m) (hx : S[i]? = some x) (hf : ∀ t, t < x.l.length → x.l[t]? = some (m i)) : Shw S R (i + 1) m :=
  ⟨h.len, h.same, fun k y hk hy => by
    by_cases e : k = i
    · subst e; rw [hx] at hy; injection hy with hy; subst hy
      apply List.ext_getElem?
      intro t
      by_cases ht : t < x.l.length
      · rw [hf t ht, List.getElem?_replicate, if_pos ht]
      · rw [List.getElem?_eq_none (by omega), List.getElem?_eq_none (by rw [List.length_replicate]; omega)]
    · exact h.full k y (by omega) hy⟩
theorem Kb.row {α : Type} {W : World} {base sz : Nat} {tl e : TypeId} {enc : α → List Value} {zs : Nat → List α} {x : KX α} (h : Kb W base tl e sz enc zs x) {i : Nat} {r : RowX α} (hi : x.P[i]? = some r) : ∃ g, x.L = some ⟨g, 0, none⟩ ∧ W.cell? ⟨g, i, none⟩ = some (.slice r.A r.l.length r.c) := by
  obtain ⟨g, e, hc⟩ := h.l.cell len_eTr (k := i) (x := rowT r) (by rw [List.getElem?_map, hi]; rfl)
  refine ⟨g, e, ?_⟩
  have := hc 0 _ rfl
  rw [Nat.mul_one, Nat.add_zero] at this
  exact this
end
end Go.Proofs.Ytcffhfcjfjfokaa
