/- Small words on memory for this seat's proofs: rows of elements, contents of views, what stays when new blocks are made. No program in sight. -/
import Derived.WalkKit
import Derived.WalkLawsBesides
import Derived.WalkSpells
import Derived.Deep.Draws
import Derived.Deep.QuietTactic
import Derived.BigQuiet
import Derived.Lib.Hide
import Derived.Deep.Light
import Derived.Maps.AppendAt
import Derived.Deep.AppendLies
namespace Go.Proofs.Ytcffhfcjfjfokaa
open Go.RowKit

/-- A row of elements of sz cells each: element k lies at off + k * sz; the row lies below block N. -/
def RowAt {α : Type} (w : World) (N sz : Nat) (enc : α → List Value) (A : Option Addr) (l : List α) : Prop :=
  0 < l.length → ∃ b off, A = some ⟨b, off, none⟩ ∧ b < N ∧ ∀ k x, l[k]? = some x → ∀ j u, (enc x)[j]? = some u → w.cell? ⟨b, off + k * sz + j, none⟩ = some u

section
variable {α : Type} {w w' : World} {N N' sz : Nat} {enc : α → List Value} {A : Option Addr} {l : List α}
theorem RowAt.more (h : RowAt w N sz enc A l) (hN : N ≤ N') : RowAt w N' sz enc A l := fun h0 => by
  obtain ⟨b, off, e, hb, hc⟩ := h h0
  exact ⟨b, off, e, by omega, hc⟩
theorem RowAt.keep (h : RowAt w N sz enc A l) (hk : ∀ b o, b < N → w'.cell? ⟨b, o, none⟩ = w.cell? ⟨b, o, none⟩) : RowAt w' N sz enc A l := fun h0 => by
  obtain ⟨b, off, e, hb, hc⟩ := h h0
  exact ⟨b, off, e, hb, fun k x hx j u hu => (hk _ _ hb).trans (hc k x hx j u hu)⟩
theorem RowAt.below (h : RowAt w N sz enc A l) (hb : Below N' w w') (hN : N ≤ N') : RowAt w' N sz enc A l :=
  h.keep fun b o hlt => hb.cell (p := ⟨b, o, none⟩) (by show b < N'; omega)
end

def eInt (n : Int) : List Value := [.int .i64 n]
def eSlot (s : Int × Int) : List Value := [.int .i64 s.1, .int .i64 s.2]

section
variable {w w' : World} {N N' : Nat} {A : Option Addr}
theorem RowAt.int {l : List Int} (h : RowAt w N 1 eInt A l) {k : Nat} (hk : k < l.length) :
    ∃ b off x, A = some ⟨b, off, none⟩ ∧ b < N ∧ Hid (l[k]? = some x) ∧ w.cell? ⟨b, off + k, none⟩ = some (.int .i64 x) := by
  obtain ⟨b, off, e, hb, hc⟩ := h (by omega)
  exact ⟨b, off, l[k], e, hb, List.getElem?_eq_getElem hk, by simpa using hc k l[k] (List.getElem?_eq_getElem hk) 0 _ rfl⟩
theorem RowAt.slot {l : List (Int × Int)} (h : RowAt w N 2 eSlot A l) {k : Nat} (hk : k < l.length) :
    ∃ b off x y, A = some ⟨b, off, none⟩ ∧ b < N ∧ Hid (l[k]? = some (x, y)) ∧ w.cell? ⟨b, off + k * 2, none⟩ = some (.int .i64 x) ∧ w.cell? ⟨b, off + k * 2 + 1, none⟩ = some (.int .i64 y) := by
  obtain ⟨b, off, e, hb, hc⟩ := h (by omega)
  have h0 := hc k l[k] (List.getElem?_eq_getElem hk) 0 _ rfl
  have h1 := hc k l[k] (List.getElem?_eq_getElem hk) 1 _ rfl
  exact ⟨b, off, l[k].1, l[k].2, e, hb, List.getElem?_eq_getElem hk, by simpa using h0, by simpa using h1⟩
end

theorem bcell {B : Nat} {W w1 : World} (hb : Below B W w1) : (∀ b o, b < B → w1.cell? ⟨b, o, none⟩ = W.cell? ⟨b, o, none⟩) ∧ (∀ b o, b < B → w1.frozen? ⟨b, o, none⟩ = W.frozen? ⟨b, o, none⟩) :=
  ⟨fun b o h => hb.cell (p := ⟨b, o, none⟩) h, fun b o h => hb.frozen (p := ⟨b, o, none⟩) h⟩
theorem below_drewN {B : Nat} {a w : World} (h : Below B a w) (n : Nat) : Below B a (w.drewN n) := ⟨h.os, h.tape, h.output, h.size, h.block⟩
theorem size_drewN (w : World) (n : Nat) : (w.drewN n).heap.size = w.heap.size := rfl

/-! ### the boxes of the parameters -/
abbrev box1 (w : World) (x : Array Value) (t : TypeId) : World := w.alloc (.cells x t)
abbrev box2 (w : World) (x : Array Value) (t : TypeId) (y : Array Value) (u : TypeId) : World := (w.alloc (.cells x t)).alloc (.cells y u)
abbrev box3 (w : World) (x : Array Value) (t : TypeId) (y : Array Value) (u : TypeId) (z : Array Value) (v : TypeId) : World := ((w.alloc (.cells x t)).alloc (.cells y u)).alloc (.cells z v)

theorem below_box1 (w : World) (x : Array Value) (t : TypeId) : Below w.heap.size w (box1 w x t) := (Below.refl _ _).alloc (Nat.le_refl _) _
theorem below_box2 (w : World) (x : Array Value) (t : TypeId) (y : Array Value) (u : TypeId) : Below w.heap.size w (box2 w x t y u) := ((Below.refl _ _).alloc (Nat.le_refl _) _).alloc (by simp) _
theorem below_box3 (w : World) (x : Array Value) (t : TypeId) (y : Array Value) (u : TypeId) (z : Array Value) (v : TypeId) : Below w.heap.size w (box3 w x t y u z v) := (((Below.refl _ _).alloc (Nat.le_refl _) _).alloc (by simp) _).alloc (by simp; omega) _

theorem box1_facts {w wr : World} {x : Array Value} {t : TypeId} (hb : Below (w.heap.size + 1) (box1 w x t) wr) :
    Below w.heap.size w wr ∧ (∀ i, wr.cell? ⟨w.heap.size, i, none⟩ = x[i]?) ∧ (∀ i, wr.frozen? ⟨w.heap.size, i, none⟩ = false) ∧ w.heap.size < wr.heap.size := by
  refine ⟨(below_box1 w x t).trans (hb.mono (by omega)), fun i => ?_, fun i => ?_, by have := hb.size; simp at this; omega⟩
  · rw [hb.cell (p := ⟨w.heap.size, i, none⟩) (by show w.heap.size < _; omega)]
    exact World.cell?_alloc_at _ _ _ _ rfl
  · rw [hb.frozen (p := ⟨w.heap.size, i, none⟩) (by show w.heap.size < _; omega)]
    exact World.frozen?_alloc_at _ _ _ _ rfl
theorem box2_facts {w wr : World} {x y : Array Value} {t u : TypeId} (hb : Below (w.heap.size + 2) (box2 w x t y u) wr) :
    Below w.heap.size w wr ∧ (∀ i, wr.cell? ⟨w.heap.size, i, none⟩ = x[i]?) ∧ (∀ i, wr.cell? ⟨w.heap.size + 1, i, none⟩ = y[i]?) ∧
      (∀ i, wr.frozen? ⟨w.heap.size, i, none⟩ = false) ∧ (∀ i, wr.frozen? ⟨w.heap.size + 1, i, none⟩ = false) ∧ w.heap.size < wr.heap.size ∧ w.heap.size + 1 < wr.heap.size := by
  refine ⟨(below_box2 w x t y u).trans (hb.mono (by omega)), fun i => ?_, fun i => ?_, fun i => ?_, fun i => ?_, by have := hb.size; simp at this; omega, by have := hb.size; simp at this; omega⟩
  · rw [hb.cell (p := ⟨w.heap.size, i, none⟩) (by show w.heap.size < _; omega)]
    rw [World.cell?_alloc_past _ _ _ (by simp)]
    exact World.cell?_alloc_at _ _ _ _ rfl
  · rw [hb.cell (p := ⟨w.heap.size + 1, i, none⟩) (by show w.heap.size + 1 < _; omega)]
    exact World.cell?_alloc_at _ _ _ _ (by simp)
  · rw [hb.frozen (p := ⟨w.heap.size, i, none⟩) (by show w.heap.size < _; omega)]
    rw [World.frozen?_alloc_past _ _ _ (by simp)]
    exact World.frozen?_alloc_at _ _ _ _ rfl
  · rw [hb.frozen (p := ⟨w.heap.size + 1, i, none⟩) (by show w.heap.size + 1 < _; omega)]
    exact World.frozen?_alloc_at _ _ _ _ (by simp)

theorem ret_bool {a b : Bool} (h : a = b) : Ending.returned (.bool a) = .returned (.bool b) := by rw [h]
theorem ret_int {k : IntKind} {a b : Int} (h : a = b) : Ending.returned (.int k a) = .returned (.int k b) := by rw [h]

/-- The first k places of two lists are alike. -/
def agree {α : Type} (l m : List α) (k : Nat) : Prop := ∀ j, j < k → l[j]? = m[j]?
theorem agree_zero {α : Type} (l m : List α) : agree l m 0 := by intro j hj; omega
theorem agree_succ {α : Type} {l m : List α} {k : Nat} (h : agree l m k) (e : l[k]? = m[k]?) : agree l m (k + 1) := by
  intro j hj
  by_cases hk : j = k
  · rw [hk]; exact e
  · exact h j (by omega)
theorem agree_all {α : Type} {l m : List α} {n : Nat} (h : agree l m n) (hl : l.length = n) (hm : m.length = n) : l = m := by
  apply List.ext_getElem?
  intro j
  by_cases hj : j < n
  · exact h j hj
  · rw [List.getElem?_eq_none (by omega), List.getElem?_eq_none (by omega)]

/-- A content of a view: the view's ID, the base, the slots, who has how many. -/
structure Fl where
  e : Int
  l : Int
  i : Int
  c : Int
  base : Int
  slots : List (Int × Int)
  have_ : List Int

/-- A content lies at (b, o): its seven cells, and its two lists below block N. -/
def FlAt (w : World) (N b o : Nat) (f : Fl) (X : Option Addr) (cX : Nat) (Y : Option Addr) (cY : Nat) : Prop :=
  w.cell? ⟨b, o, none⟩ = some (.int .i64 f.e) ∧ w.cell? ⟨b, o + 1, none⟩ = some (.int .i64 f.l) ∧ w.cell? ⟨b, o + 2, none⟩ = some (.int .i64 f.i) ∧ w.cell? ⟨b, o + 3, none⟩ = some (.int .i64 f.c) ∧
  w.cell? ⟨b, o + 4, none⟩ = some (.int .i64 f.base) ∧ w.cell? ⟨b, o + 5, none⟩ = some (.slice X f.slots.length cX) ∧ w.cell? ⟨b, o + 6, none⟩ = some (.slice Y f.have_.length cY)

/-- What the two lists of a content need: where they lie, and that they are not longer than a list can be. -/
structure FlRows (w : World) (N : Nat) (f : Fl) (X : Option Addr) (cX : Nat) (Y : Option Addr) (cY : Nat) : Prop where
  slots : RowAt w N 2 eSlot X f.slots
  have_ : RowAt w N 1 eInt Y f.have_
  lenS : f.slots.length ≤ cX
  capS : cX ≤ 9223372036854775807
  lenH : f.have_.length ≤ cY
  capH : cY ≤ 9223372036854775807

theorem FlRows.below {w w' : World} {N N' : Nat} {f : Fl} {X Y : Option Addr} {cX cY : Nat} (h : FlRows w N f X cX Y cY) (hb : Below N' w w') (hN : N ≤ N') : FlRows w' N f X cX Y cY :=
  ⟨h.slots.below hb hN, h.have_.below hb hN, h.lenS, h.capS, h.lenH, h.capH⟩
theorem FlRows.more {w : World} {N N' : Nat} {f : Fl} {X Y : Option Addr} {cX cY : Nat} (h : FlRows w N f X cX Y cY) (hN : N ≤ N') : FlRows w N' f X cX Y cY :=
  ⟨h.slots.more hN, h.have_.more hN, h.lenS, h.capS, h.lenH, h.capH⟩

/-- A list of contents. -/
def Fls (w : World) (N : Nat) (A : Option Addr) (fs : List Fl) : Prop :=
  0 < fs.length → ∃ b off, A = some ⟨b, off, none⟩ ∧ b < N ∧ ∀ k f, fs[k]? = some f → ∃ X cX Y cY, FlAt w N b (off + k * 7) f X cX Y cY ∧ FlRows w N f X cX Y cY

theorem FlAt.below {w w' : World} {N N' b o : Nat} {f : Fl} {X Y : Option Addr} {cX cY : Nat} (h : FlAt w N b o f X cX Y cY) (hb : Below N' w w') (hN : b < N') : FlAt w' N b o f X cX Y cY := by
  have hc := fun o => hb.cell (p := ⟨b, o, none⟩) hN
  unfold FlAt at h ⊢
  simp only [hc]
  exact h
theorem Fls.below {w w' : World} {N N' : Nat} {A : Option Addr} {fs : List Fl} (h : Fls w N A fs) (hb : Below N' w w') (hN : N ≤ N') : Fls w' N A fs := fun h0 => by
  obtain ⟨b, off, e, hlt, hc⟩ := h h0
  refine ⟨b, off, e, hlt, fun k f hk => ?_⟩
  obtain ⟨X, cX, Y, cY, h1, h2⟩ := hc k f hk
  exact ⟨X, cX, Y, cY, h1.below hb (by omega), h2.below hb hN⟩
theorem Fls.more {w : World} {N N' : Nat} {A : Option Addr} {fs : List Fl} (h : Fls w N A fs) (hN : N ≤ N') : Fls w N' A fs := fun h0 => by
  obtain ⟨b, off, e, hlt, hc⟩ := h h0
  refine ⟨b, off, e, by omega, fun k f hk => ?_⟩
  obtain ⟨X, cX, Y, cY, h1, h2⟩ := hc k f hk
  exact ⟨X, cX, Y, cY, h1, h2.more hN⟩
theorem Fls.at_ {w : World} {N : Nat} {A : Option Addr} {fs : List Fl} (h : Fls w N A fs) {k : Nat} (hk : k < fs.length) :
    ∃ b off f X cX Y cY, A = some ⟨b, off, none⟩ ∧ b < N ∧ Hid (fs[k]? = some f) ∧ FlAt w N b (off + k * 7) f X cX Y cY ∧ FlRows w N f X cX Y cY := by
  obtain ⟨b, off, e, hlt, hc⟩ := h (by omega)
  obtain ⟨X, cX, Y, cY, h1, h2⟩ := hc k fs[k] (List.getElem?_eq_getElem hk)
  exact ⟨b, off, fs[k], X, cX, Y, cY, e, hlt, List.getElem?_eq_getElem hk, h1, h2⟩

/-! ### rows that the call itself has made -/
def blk (A : Option Addr) : Option Nat := A.map (·.block)
/-- The call owns the row of a slice: nobody else's memory, from block base on. -/
def Owns {α : Type} (w : World) (base : Nat) (e : TypeId) (sz : Nat) (enc : α → List Value) (A : Option Addr) (c : Nat) (l : List α) : Prop :=
  w.ownsRow base e sz (.slice A l.length c) l.length (l.flatMap enc)

theorem flatMap_at {α : Type} {enc : α → List Value} {sz : Nat} (hsz : ∀ x, (enc x).length = sz) : ∀ (l : List α) (k r : Nat) (x : α) (u : Value), l[k]? = some x → (enc x)[r]? = some u → (l.flatMap enc)[k * sz + r]? = some u
  | [], k, r, x, u, h, _ => by simp at h
  | y :: l, 0, r, x, u, h, hu => by
    simp at h; subst h
    have hr : r < (enc y).length := (List.getElem?_eq_some_iff.1 hu).1
    rw [List.flatMap_cons, List.getElem?_append_left (by omega)]
    simpa using hu
  | y :: l, k + 1, r, x, u, h, hu => by
    rw [List.flatMap_cons, List.getElem?_append_right (by rw [hsz, Nat.add_mul]; omega)]
    have := flatMap_at hsz l k r x u (by simpa using h) hu
    rw [hsz]
    rw [show (k + 1) * sz + r - sz = k * sz + r by rw [Nat.add_mul]; omega]
    exact this
theorem flatMap_of {α : Type} {enc : α → List Value} {sz : Nat} (hsz : ∀ x, (enc x).length = sz) : ∀ (l : List α) (j : Nat) (u : Value), (l.flatMap enc)[j]? = some u → ∃ k r x, l[k]? = some x ∧ (enc x)[r]? = some u ∧ j = k * sz + r
  | [], j, u, h => by simp at h
  | y :: l, j, u, h => by
    rw [List.flatMap_cons] at h
    by_cases hj : j < (enc y).length
    · rw [List.getElem?_append_left hj] at h
      exact ⟨0, j, y, by simp, h, by simp⟩
    · rw [List.getElem?_append_right (by omega)] at h
      obtain ⟨k, r, x, hk, hr, e⟩ := flatMap_of hsz l _ u h
      refine ⟨k + 1, r, x, by simpa using hk, hr, ?_⟩
      rw [hsz] at e hj
      rw [Nat.add_mul]; omega
theorem length_flat {α : Type} {enc : α → List Value} {sz : Nat} (hsz : ∀ x, (enc x).length = sz) : ∀ (l : List α), (l.flatMap enc).length = l.length * sz
  | [] => by simp
  | y :: l => by rw [List.flatMap_cons, List.length_append, length_flat hsz l, hsz, List.length_cons, Nat.add_mul]; omega

section
variable {α : Type} {w w' : World} {base N sz : Nat} {e : TypeId} {enc : α → List Value} {A : Option Addr} {c : Nat} {l : List α}
theorem Owns.row (h : Owns w base e sz enc A c l) (hsz : ∀ x, (enc x).length = sz) : RowAt w w.heap.size sz enc A l := fun h0 => by
  obtain ⟨g, cap, hv, _, hg⟩ := World.ownsRow.form h h0
  have hA : A = some ⟨g, 0, none⟩ := by injection hv
  refine ⟨g, 0, hA, hg, fun k x hk j u hu => ?_⟩
  have := World.ownsRow.cells h (g := g) (by rw [hA]; rfl) (k * sz + j) u (flatMap_at hsz l k j x u hk hu)
  rw [Addr.add_lit, ← Nat.add_assoc] at this; exact this
theorem Owns.len (h : Owns w base e sz enc A c l) : l.length ≤ c ∧ c ≤ 9223372036854775807 := by
  rcases h.2 with ⟨hv, h0⟩ | ⟨g, cap, cur, hv, _, _, h1, h2, _⟩
  · injection hv with _ _ hc; omega
  · injection hv with _ _ hc; unfold maxLen at h2; omega
theorem Owns.lo (h : Owns w base e sz enc A c l) : ∀ k, blk A = some k → base ≤ k ∧ k < w.heap.size := fun k hk => by
  refine World.ownsRow.lt h k ?_
  cases A with
  | none => cases hk
  | some a => exact hk
theorem own_blk (A : Option Addr) (n c : Nat) : (Value.slice A n c).ownBlock = blk A := by cases A <;> rfl
theorem Owns.kept {row : Option Nat} (h : Owns w base e sz enc A c l) (hg : w.grownBy w' row) (hne : blk A = none ∨ blk A ≠ row) : Owns w' base e sz enc A c l :=
  World.ownsRow.kept h hg (by rw [own_blk]; exact hne)
theorem Owns.alloc (h : Owns w base e sz enc A c l) (o : Obj) : Owns (w.alloc o) base e sz enc A c l := World.ownsRow.alloc h o
theorem Owns.keep {B : Nat} (h : Owns w base e sz enc A c l) (hb : Below B w w') (hB : ∀ k, blk A = some k → k < B) : Owns w' base e sz enc A c l := by
  refine ⟨h.1, ?_⟩
  rcases h.2 with h2 | ⟨g, cap, cur, hv, hbase, hh, hr⟩
  · exact .inl h2
  · refine .inr ⟨g, cap, cur, hv, hbase, ?_, hr⟩
    have hA : A = some ⟨g, 0, none⟩ := by injection hv
    rw [hb.block g (hB g (by rw [hA]; rfl))]; exact hh
theorem owns_nil (w : World) (base : Nat) (e : TypeId) (sz : Nat) (enc : α → List Value) : Owns w base e sz enc none 0 [] := World.ownsRow_nil w base e sz
theorem owns_empty (w : World) (base : Nat) (e : TypeId) (sz : Nat) (enc : α → List Value) (hb : base ≤ w.heap.size) : Owns (w.alloc (.cells #[] e)) base e sz enc (some ⟨w.heap.size, 0, none⟩) 0 [] :=
  World.ownsRow_made w #[] 0 hb (Nat.zero_le _) (by simp)
theorem Owns.ne {e' : TypeId} {α' : Type} {sz' base' c' : Nat} {enc' : α' → List Value} {A' : Option Addr} {l' : List α'} (h : Owns w base e sz enc A c l) (h' : Owns w base' e' sz' enc' A' c' l') (he : e ≠ e') : blk A = none ∨ blk A ≠ blk A' := by
  rcases h.2 with ⟨hv, _⟩ | ⟨g, cap, cur, hv, _, hh, _⟩
  · left; injection hv with hA; rw [hA]; rfl
  · rcases h'.2 with ⟨hv', _⟩ | ⟨g', cap', cur', hv', _, hh', _⟩
    · right; injection hv with hA; injection hv' with hA'; rw [hA, hA']; simp [blk]
    · right; injection hv with hA; injection hv' with hA'
      intro hb
      rw [hA, hA'] at hb
      have hgg : g = g' := by simpa [blk] using hb
      subst hgg
      rw [hh] at hh'; injection hh' with hh'; injection hh' with _ he'; exact he he'
theorem row_new (w : World) (e : TypeId) (sz : Nat) (enc : α → List Value) (x : α) (cs : Array Value) (hcs : cs.toList = enc x) : RowAt (w.alloc (.cells cs e)) (w.heap.size + 1) sz enc (some ⟨w.heap.size, 0, none⟩) [x] := fun _ => by
  refine ⟨w.heap.size, 0, rfl, by omega, fun k y hk j u hu => ?_⟩
  cases k with
  | succ k => simp at hk
  | zero =>
    simp at hk; subst hk
    rw [World.cell?_alloc_at _ _ _ _ rfl, ← hcs] at *
    simpa using hu
end

section
variable {P : Program} (w : World)
/-- append onto a row of the call's own; the source any row, nil or empty too. -/
theorem wpList_append_rows {α : Type} {ops : Array Oper} {rest : List Oper} {o : Oper} {a : Act} {Q : Exit → Act → World → Prop} (hgd : o.guard = none) (s x : Operand) (t : TypeId)
    (ho : o.op = .call { callee := .builtin .append, args := #[s, x], argTypes := #[t, t] })
    (base : Nat) (e : TypeId) (sz bytes : Nat) (z : Value) (ht : P.underlying t = some (.slice e)) (hinfo : (P.info? e).map (fun i => (i.zero, i.size, i.bytes)) = some (some z, sz, bytes))
    (hzs : z.cells.size = sz) (hsz : 0 < sz) (enc : α → List Value) (henc : ∀ x, (enc x).length = sz) (hone : ∀ x, ∀ u ∈ enc x, u.oneCell' = true)
    (A : Option Addr) (c : Nat) (xs : List α) (B : Option Addr) (cB N n m : Nat) (l : List α) (hs : a.eval s = .slice A n c) (hx : a.eval x = .slice B m cB)
    (hn : xs.length = n) (hm : l.length = m)
    (hown : Owns w base e sz enc A c xs) (hr : RowAt w N sz enc B l)
    (h63 : n + m ≤ 9223372036854775807) (hbytes : (n + m) * bytes ≤ 140737488355328) (hbase : base ≤ w.heap.size)
    (h : ∀ A' c' w', Owns w' base e sz enc A' c' (xs ++ l) → w.grownBy w' (blk A) → (blk A' = blk A ∨ blk A' = some w.heap.size) → wpList P ops Q rest (a.put o.dst (.slice A' (n + m) c')) w') : wpList P ops Q (o :: rest) a w := by
  subst hn hm
  obtain ⟨i, hi, hz, hsize, hby⟩ := info_parts hinfo
  have key : ∃ v' w', (Builtin.append_ #[t, t] o.type #[.slice A xs.length c, .slice B l.length cB]).run P w = .ok v' w' ∧ w'.ownsRow base e sz v' (xs.length + l.length) ((xs ++ l).flatMap enc) ∧ w.grownBy w' (blk A) ∧ (v'.ownBlock = blk A ∨ v'.ownBlock = some w.heap.size) := by
    by_cases h0 : 0 < l.length
    · obtain ⟨b, off, rfl, hb, hc⟩ := hr h0
      obtain ⟨v', w', h1, h2, h3, _, h5⟩ := run_append_own_at (P := P) w base t o.type e i z sz bytes ht hi hz hsize hby hzs hsz (.slice A xs.length c) xs.length _ hown ⟨b, off, none⟩ l.length cB (l.flatMap enc)
        (length_flat henc l) (fun j u hu => by
          obtain ⟨k, r, x, hk, hr', rfl⟩ := flatMap_of henc l j u hu
          have := hc k x hk r u hr'
          by_cases hz0 : k * sz + r = 0
          · rw [hz0]; simp only [Addr.add, if_true]
            have e0 : off + k * sz + r = off := by omega
            rw [e0] at this; exact this
          · simp only [Addr.add, if_neg hz0]
            rw [← Nat.add_assoc]; exact this)
        (fun u hu => by obtain ⟨x, _, hux⟩ := List.mem_flatMap.1 hu; exact hone x u hux) h63 hbytes hbase
      rw [own_blk] at h3 h5
      exact ⟨v', w', h1, by rw [List.flatMap_append]; exact h2, h3, h5⟩
    · have hl : l = [] := List.eq_nil_of_length_eq_zero (by omega)
      subst hl
      cases B with
      | none =>
        refine ⟨.slice A xs.length c, w, ?_, by simp only [List.length_nil, Nat.add_zero, List.append_nil]; exact hown, World.grownBy.refl w _, .inl (own_blk _ _ _)⟩
        rcases hown.2 with ⟨hv, _⟩ | ⟨g, cap, cur, hv, _, _, hnc, _⟩
        · rw [hv]; simp [Builtin.append_, run_underlying ht, sizeOf, typeInfo, hi, Builtin.lenOf, Builtin.firstCells]
        · rw [hv]; simp [Builtin.append_, run_underlying ht, sizeOf, typeInfo, hi, Builtin.lenOf, Builtin.firstCells, hnc, storeCells]
      | some ad =>
        obtain ⟨v', w', h1, h2, h3, _, h5⟩ := run_append_own_at (P := P) w base t o.type e i z sz bytes ht hi hz hsize hby hzs hsz (.slice A xs.length c) xs.length _ hown ad 0 cB []
          (by simp) (fun j u hu => by simp at hu) (fun u hu => by simp at hu) h63 hbytes hbase
        rw [own_blk] at h3 h5
        exact ⟨v', w', h1, by simpa using h2, h3, h5⟩
  obtain ⟨v', w', hrun, h2, h3, h4⟩ := key
  have hv : ∃ A' c', v' = .slice A' (xs.length + l.length) c' := by
    rcases h2.2 with ⟨hv, h0⟩ | ⟨g, cap, cur, hv, _⟩
    · exact ⟨none, 0, by rw [hv, h0]⟩
    · exact ⟨_, _, hv⟩
  obtain ⟨A', c', rfl⟩ := hv
  rw [own_blk] at h4
  refine wpList_plain hgd fun K hK => ?_
  unfold Oper.wp execOp
  simp only [ho, resolve, invoke, builtin, Sem.run_bind, Sem.run_pure, Result.andThen_ok, List.map_toArray, List.map_cons, List.map_nil, hs, hx, hrun]
  exact hK _ _ (h A' c' w' (by unfold Owns; rw [List.length_append]; exact h2) h3 h4)
end

theorem below_grown {B : Nat} {a w w' : World} {row : Option Nat} (h : Below B a w) (hg : w.grownBy w' row) (hB : B ≤ w.heap.size) (hr : ∀ k, row = some k → B ≤ k) : Below B a w' := h.grown hg hB hr

end Go.Proofs.Ytcffhfcjfjfokaa
