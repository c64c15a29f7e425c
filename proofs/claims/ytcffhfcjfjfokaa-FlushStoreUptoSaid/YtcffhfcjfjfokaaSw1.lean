/- Lib Spec Base Small Ref1 Same, joined. -/
import Derived.WalkKit
import Derived.WalkLawsBesides
import Derived.WalkSpells
import Derived.Deep.Draws
import Derived.Deep.QuietTactic
import Derived.BigQuiet
import Derived.Lib.Hide
import Derived.Deep.Light
import Derived.Maps.AppendAt
import Derived.Deep.AppendLies
import Derived.Test.YtcffhfcjfjfokaaProg
set_option linter.unusedVariables false
set_option linter.unusedSimpArgs false
/- Small words on memory for this seat's proofs: rows of elements, contents of views, what stays when new blocks are made. No program in sight. -/
namespace Go.Proofs.Ytcffhfcjfjfokaa
open Go.RowKit

/-- A row of elements of sz cells each: element k lies at off + k * sz; the row lies below block N. -/
def RowAt {α : Type} (w : World) (N sz : Nat) (enc : α → List Value) (A : Option Addr) (l : List α) : Prop :=
  0 < l.length → ∃ b off, A = some ⟨b, off, none⟩ ∧ b < N ∧ ∀ k x, l[k]? = some x → ∀ j u, (enc x)[j]? = some u → w.cell? ⟨b, off + k * sz + j, none⟩ = some u

section
variable {α : Type} {w w' : World} {N N' sz : Nat} {enc : α → List Value} {A : Option Addr} {l : List α}
theorem RowAt.more (h : RowAt w N sz enc A l) (hN : N ≤ N') : RowAt w N' sz enc A l := fun h0 => by
  obtain ⟨b, off, e, hb, hc⟩ := h h0
  exact ⟨b, off, e, by omega, hc⟩
theorem RowAt.keep (h : RowAt w N sz enc A l) (hk : ∀ b o, b < N → w'.cell? ⟨b, o, none⟩ = w.cell? ⟨b, o, none⟩) : RowAt w' N sz enc A l := fun h0 => by
  obtain ⟨b, off, e, hb, hc⟩ := h h0
  exact ⟨b, off, e, hb, fun k x hx j u hu => (hk _ _ hb).trans (hc k x hx j u hu)⟩
theorem RowAt.below (h : RowAt w N sz enc A l) (hb : Below N' w w') (hN : N ≤ N') : RowAt w' N sz enc A l :=
  h.keep fun b o hlt => hb.cell (p := ⟨b, o, none⟩) (by show b < N'; omega)
end

def eInt (n : Int) : List Value := [.int .i64 n]
def eSlot (s : Int × Int) : List Value := [.int .i64 s.1, .int .i64 s.2]

section
variable {w w' : World} {N N' : Nat} {A : Option Addr}
theorem RowAt.int {l : List Int} (h : RowAt w N 1 eInt A l) {k : Nat} (hk : k < l.length) :
    ∃ b off x, A = some ⟨b, off, none⟩ ∧ b < N ∧ Hid (l[k]? = some x) ∧ w.cell? ⟨b, off + k, none⟩ = some (.int .i64 x) := by
  obtain ⟨b, off, e, hb, hc⟩ := h (by omega)
  exact ⟨b, off, l[k], e, hb, List.getElem?_eq_getElem hk, by simpa using hc k l[k] (List.getElem?_eq_getElem hk) 0 _ rfl⟩
theorem RowAt.slot {l : List (Int × Int)} (h : RowAt w N 2 eSlot A l) {k : Nat} (hk : k < l.length) :
    ∃ b off x y, A = some ⟨b, off, none⟩ ∧ b < N ∧ Hid (l[k]? = some (x, y)) ∧ w.cell? ⟨b, off + k * 2, none⟩ = some (.int .i64 x) ∧ w.cell? ⟨b, off + k * 2 + 1, none⟩ = some (.int .i64 y) := by
  obtain ⟨b, off, e, hb, hc⟩ := h (by omega)
  have h0 := hc k l[k] (List.getElem?_eq_getElem hk) 0 _ rfl
  have h1 := hc k l[k] (List.getElem?_eq_getElem hk) 1 _ rfl
  exact ⟨b, off, l[k].1, l[k].2, e, hb, List.getElem?_eq_getElem hk, by simpa using h0, by simpa using h1⟩
end

theorem bcell {B : Nat} {W w1 : World} (hb : Below B W w1) : (∀ b o, b < B → w1.cell? ⟨b, o, none⟩ = W.cell? ⟨b, o, none⟩) ∧ (∀ b o, b < B → w1.frozen? ⟨b, o, none⟩ = W.frozen? ⟨b, o, none⟩) :=
  ⟨fun b o h => hb.cell (p := ⟨b, o, none⟩) h, fun b o h => hb.frozen (p := ⟨b, o, none⟩) h⟩
theorem below_drewN {B : Nat} {a w : World} (h : Below B a w) (n : Nat) : Below B a (w.drewN n) := ⟨h.os, h.tape, h.output, h.size, h.block⟩
theorem size_drewN (w : World) (n : Nat) : (w.drewN n).heap.size = w.heap.size := rfl

/-! ### the boxes of the parameters -/
abbrev box1 (w : World) (x : Array Value) (t : TypeId) : World := w.alloc (.cells x t)
abbrev box2 (w : World) (x : Array Value) (t : TypeId) (y : Array Value) (u : TypeId) : World := (w.alloc (.cells x t)).alloc (.cells y u)
abbrev box3 (w : World) (x : Array Value) (t : TypeId) (y : Array Value) (u : TypeId) (z : Array Value) (v : TypeId) : World := ((w.alloc (.cells x t)).alloc (.cells y u)).alloc (.cells z v)

theorem below_box1 (w : World) (x : Array Value) (t : TypeId) : Below w.heap.size w (box1 w x t) := (Below.refl _ _).alloc (Nat.le_refl _) _
theorem below_box2 (w : World) (x : Array Value) (t : TypeId) (y : Array Value) (u : TypeId) : Below w.heap.size w (box2 w x t y u) := ((Below.refl _ _).alloc (Nat.le_refl _) _).alloc (by simp) _
theorem below_box3 (w : World) (x : Array Value) (t : TypeId) (y : Array Value) (u : TypeId) (z : Array Value) (v : TypeId) : Below w.heap.size w (box3 w x t y u z v) := (((Below.refl _ _).alloc (Nat.le_refl _) _).alloc (by simp) _).alloc (by simp; omega) _

theorem box1_facts {w wr : World} {x : Array Value} {t : TypeId} (hb : Below (w.heap.size + 1) (box1 w x t) wr) :
    Below w.heap.size w wr ∧ (∀ i, wr.cell? ⟨w.heap.size, i, none⟩ = x[i]?) ∧ (∀ i, wr.frozen? ⟨w.heap.size, i, none⟩ = false) ∧ w.heap.size < wr.heap.size := by
  refine ⟨(below_box1 w x t).trans (hb.mono (by omega)), fun i => ?_, fun i => ?_, by have := hb.size; simp at this; omega⟩
  · rw [hb.cell (p := ⟨w.heap.size, i, none⟩) (by show w.heap.size < _; omega)]
    exact World.cell?_alloc_at _ _ _ _ rfl
  · rw [hb.frozen (p := ⟨w.heap.size, i, none⟩) (by show w.heap.size < _; omega)]
    exact World.frozen?_alloc_at _ _ _ _ rfl
theorem box2_facts {w wr : World} {x y : Array Value} {t u : TypeId} (hb : Below (w.heap.size + 2) (box2 w x t y u) wr) :
    Below w.heap.size w wr ∧ (∀ i, wr.cell? ⟨w.heap.size, i, none⟩ = x[i]?) ∧ (∀ i, wr.cell? ⟨w.heap.size + 1, i, none⟩ = y[i]?) ∧
      (∀ i, wr.frozen? ⟨w.heap.size, i, none⟩ = false) ∧ (∀ i, wr.frozen? ⟨w.heap.size + 1, i, none⟩ = false) ∧ w.heap.size < wr.heap.size ∧ w.heap.size + 1 < wr.heap.size := by
  refine ⟨(below_box2 w x t y u).trans (hb.mono (by omega)), fun i => ?_, fun i => ?_, fun i => ?_, fun i => ?_, by have := hb.size; simp at this; omega, by have := hb.size; simp at this; omega⟩
  · rw [hb.cell (p := ⟨w.heap.size, i, none⟩) (by show w.heap.size < _; omega)]
    rw [World.cell?_alloc_past _ _ _ (by simp)]
    exact World.cell?_alloc_at _ _ _ _ rfl
  · rw [hb.cell (p := ⟨w.heap.size + 1, i, none⟩) (by show w.heap.size + 1 < _; omega)]
    exact World.cell?_alloc_at _ _ _ _ (by simp)
  · rw [hb.frozen (p := ⟨w.heap.size, i, none⟩) (by show w.heap.size < _; omega)]
    rw [World.frozen?_alloc_past _ _ _ (by simp)]
    exact World.frozen?_alloc_at _ _ _ _ rfl
  · rw [hb.frozen (p := ⟨w.heap.size + 1, i, none⟩) (by show w.heap.size + 1 < _; omega)]
    exact World.frozen?_alloc_at _ _ _ _ (by simp)

theorem ret_bool {a b : Bool} (h : a = b) : Ending.returned (.bool a) = .returned (.bool b) := by rw [h]
theorem ret_int {k : IntKind} {a b : Int} (h : a = b) : Ending.returned (.int k a) = .returned (.int k b) := by rw [h]

/-- The first k places of two lists are alike. -/
def agree {α : Type} (l m : List α) (k : Nat) : Prop := ∀ j, j < k → l[j]? = m[j]?
theorem agree_zero {α : Type} (l m : List α) : agree l m 0 := by intro j hj; omega
theorem agree_succ {α : Type} {l m : List α} {k : Nat} (h : agree l m k) (e : l[k]? = m[k]?) : agree l m (k + 1) := by
  intro j hj
  by_cases hk : j = k
  · rw [hk]; exact e
  · exact h j (by omega)
theorem agree_all {α : Type} {l m : List α} {n : Nat} (h : agree l m n) (hl : l.length = n) (hm : m.length = n) : l = m := by
  apply List.ext_getElem?
  intro j
  by_cases hj : j < n
  · exact h j hj
  · rw [List.getElem?_eq_none (by omega), List.getElem?_eq_none (by omega)]

/-- A content of a view: the view's ID, the base, the slots, who has how many. -/
structure Fl where
  e : Int
  l : Int
  i : Int
  c : Int
  base : Int
  slots : List (Int × Int)
  have_ : List Int

/-- A content lies at (b, o): its seven cells, and its two lists below block N. -/
def FlAt (w : World) (N b o : Nat) (f : Fl) (X : Option Addr) (cX : Nat) (Y : Option Addr) (cY : Nat) : Prop :=
  w.cell? ⟨b, o, none⟩ = some (.int .i64 f.e) ∧ w.cell? ⟨b, o + 1, none⟩ = some (.int .i64 f.l) ∧ w.cell? ⟨b, o + 2, none⟩ = some (.int .i64 f.i) ∧ w.cell? ⟨b, o + 3, none⟩ = some (.int .i64 f.c) ∧
  w.cell? ⟨b, o + 4, none⟩ = some (.int .i64 f.base) ∧ w.cell? ⟨b, o + 5, none⟩ = some (.slice X f.slots.length cX) ∧ w.cell? ⟨b, o + 6, none⟩ = some (.slice Y f.have_.length cY)

/-- What the two lists of a content need: where they lie, and that they are not longer than a list can be. -/
structure FlRows (w : World) (N : Nat) (f : Fl) (X : Option Addr) (cX : Nat) (Y : Option Addr) (cY : Nat) : Prop where
  slots : RowAt w N 2 eSlot X f.slots
  have_ : RowAt w N 1 eInt Y f.have_
  lenS : f.slots.length ≤ cX
  capS : cX ≤ 9223372036854775807
  lenH : f.have_.length ≤ cY
  capH : cY ≤ 9223372036854775807

theorem FlRows.below {w w' : World} {N N' : Nat} {f : Fl} {X Y : Option Addr} {cX cY : Nat} (h : FlRows w N f X cX Y cY) (hb : Below N' w w') (hN : N ≤ N') : FlRows w' N f X cX Y cY :=
  ⟨h.slots.below hb hN, h.have_.below hb hN, h.lenS, h.capS, h.lenH, h.capH⟩
theorem FlRows.more {w : World} {N N' : Nat} {f : Fl} {X Y : Option Addr} {cX cY : Nat} (h : FlRows w N f X cX Y cY) (hN : N ≤ N') : FlRows w N' f X cX Y cY :=
  ⟨h.slots.more hN, h.have_.more hN, h.lenS, h.capS, h.lenH, h.capH⟩

/-- A list of contents. -/
def Fls (w : World) (N : Nat) (A : Option Addr) (fs : List Fl) : Prop :=
  0 < fs.length → ∃ b off, A = some ⟨b, off, none⟩ ∧ b < N ∧ ∀ k f, fs[k]? = some f → ∃ X cX Y cY, FlAt w N b (off + k * 7) f X cX Y cY ∧ FlRows w N f X cX Y cY

theorem FlAt.below {w w' : World} {N N' b o : Nat} {f : Fl} {X Y : Option Addr} {cX cY : Nat} (h : FlAt w N b o f X cX Y cY) (hb : Below N' w w') (hN : b < N') : FlAt w' N b o f X cX Y cY := by
  have hc := fun o => hb.cell (p := ⟨b, o, none⟩) hN
  unfold FlAt at h ⊢
  simp only [hc]
  exact h
theorem Fls.below {w w' : World} {N N' : Nat} {A : Option Addr} {fs : List Fl} (h : Fls w N A fs) (hb : Below N' w w') (hN : N ≤ N') : Fls w' N A fs := fun h0 => by
  obtain ⟨b, off, e, hlt, hc⟩ := h h0
  refine ⟨b, off, e, hlt, fun k f hk => ?_⟩
  obtain ⟨X, cX, Y, cY, h1, h2⟩ := hc k f hk
  exact ⟨X, cX, Y, cY, h1.below hb (by omega), h2.below hb hN⟩
theorem Fls.more {w : World} {N N' : Nat} {A : Option Addr} {fs : List Fl} (h : Fls w N A fs) (hN : N ≤ N') : Fls w N' A fs := fun h0 => by
  obtain ⟨b, off, e, hlt, hc⟩ := h h0
  refine ⟨b, off, e, by omega, fun k f hk => ?_⟩
  obtain ⟨X, cX, Y, cY, h1, h2⟩ := hc k f hk
  exact ⟨X, cX, Y, cY, h1, h2.more hN⟩
theorem Fls.at_ {w : World} {N : Nat} {A : Option Addr} {fs : List Fl} (h : Fls w N A fs) {k : Nat} (hk : k < fs.length) :
    ∃ b off f X cX Y cY, A = some ⟨b, off, none⟩ ∧ b < N ∧ Hid (fs[k]? = some f) ∧ FlAt w N b (off + k * 7) f X cX Y cY ∧ FlRows w N f X cX Y cY := by
  obtain ⟨b, off, e, hlt, hc⟩ := h (by omega)
  obtain ⟨X, cX, Y, cY, h1, h2⟩ := hc k fs[k] (List.getElem?_eq_getElem hk)
  exact ⟨b, off, fs[k], X, cX, Y, cY, e, hlt, List.getElem?_eq_getElem hk, h1, h2⟩

/-! ### rows that the call itself has made -/
def blk (A : Option Addr) : Option Nat := A.map (·.block)
/-- The call owns the row of a slice: nobody else's memory, from block base on. -/
def Owns {α : Type} (w : World) (base : Nat) (e : TypeId) (sz : Nat) (enc : α → List Value) (A : Option Addr) (c : Nat) (l : List α) : Prop :=
  w.ownsRow base e sz (.slice A l.length c) l.length (l.flatMap enc)

theorem flatMap_at {α : Type} {enc : α → List Value} {sz : Nat} (hsz : ∀ x, (enc x).length = sz) : ∀ (l : List α) (k r : Nat) (x : α) (u : Value), l[k]? = some x → (enc x)[r]? = some u → (l.flatMap enc)[k * sz + r]? = some u
  | [], k, r, x, u, h, _ => by simp at h
  | y :: l, 0, r, x, u, h, hu => by
    simp at h; subst h
    have hr : r < (enc y).length := (List.getElem?_eq_some_iff.1 hu).1
    rw [List.flatMap_cons, List.getElem?_append_left (by omega)]
    simpa using hu
  | y :: l, k + 1, r, x, u, h, hu => by
    rw [List.flatMap_cons, List.getElem?_append_right (by rw [hsz, Nat.add_mul]; omega)]
    have := flatMap_at hsz l k r x u (by simpa using h) hu
    rw [hsz]
    rw [show (k + 1) * sz + r - sz = k * sz + r by rw [Nat.add_mul]; omega]
    exact this
theorem flatMap_of {α : Type} {enc : α → List Value} {sz : Nat} (hsz : ∀ x, (enc x).length = sz) : ∀ (l : List α) (j : Nat) (u : Value), (l.flatMap enc)[j]? = some u → ∃ k r x, l[k]? = some x ∧ (enc x)[r]? = some u ∧ j = k * sz + r
  | [], j, u, h => by simp at h
  | y :: l, j, u, h => by
    rw [List.flatMap_cons] at h
    by_cases hj : j < (enc y).length
    · rw [List.getElem?_append_left hj] at h
      exact ⟨0, j, y, by simp, h, by simp⟩
    · rw [List.getElem?_append_right (by omega)] at h
      obtain ⟨k, r, x, hk, hr, e⟩ := flatMap_of hsz l _ u h
      refine ⟨k + 1, r, x, by simpa using hk, hr, ?_⟩
      rw [hsz] at e hj
      rw [Nat.add_mul]; omega
theorem length_flat {α : Type} {enc : α → List Value} {sz : Nat} (hsz : ∀ x, (enc x).length = sz) : ∀ (l : List α), (l.flatMap enc).length = l.length * sz
  | [] => by simp
  | y :: l => by rw [List.flatMap_cons, List.length_append, length_flat hsz l, hsz, List.length_cons, Nat.add_mul]; omega

section
variable {α : Type} {w w' : World} {base N sz : Nat} {e : TypeId} {enc : α → List Value} {A : Option Addr} {c : Nat} {l : List α}
theorem Owns.row (h : Owns w base e sz enc A c l) (hsz : ∀ x, (enc x).length = sz) : RowAt w w.heap.size sz enc A l := fun h0 => by
  obtain ⟨g, cap, hv, _, hg⟩ := World.ownsRow.form h h0
  have hA : A = some ⟨g, 0, none⟩ := by injection hv
  refine ⟨g, 0, hA, hg, fun k x hk j u hu => ?_⟩
  have := World.ownsRow.cells h (g := g) (by rw [hA]; rfl) (k * sz + j) u (flatMap_at hsz l k j x u hk hu)
  rw [Addr.add_lit, ← Nat.add_assoc] at this; exact this
theorem Owns.len (h : Owns w base e sz enc A c l) : l.length ≤ c ∧ c ≤ 9223372036854775807 := by
  rcases h.2 with ⟨hv, h0⟩ | ⟨g, cap, cur, hv, _, _, h1, h2, _⟩
  · injection hv with _ _ hc; omega
  · injection hv with _ _ hc; unfold maxLen at h2; omega
theorem Owns.lo (h : Owns w base e sz enc A c l) : ∀ k, blk A = some k → base ≤ k ∧ k < w.heap.size := fun k hk => by
  refine World.ownsRow.lt h k ?_
  cases A with
  | none => cases hk
  | some a => exact hk
theorem own_blk (A : Option Addr) (n c : Nat) : (Value.slice A n c).ownBlock = blk A := by cases A <;> rfl
theorem Owns.kept {row : Option Nat} (h : Owns w base e sz enc A c l) (hg : w.grownBy w' row) (hne : blk A = none ∨ blk A ≠ row) : Owns w' base e sz enc A c l :=
  World.ownsRow.kept h hg (by rw [own_blk]; exact hne)
theorem Owns.alloc (h : Owns w base e sz enc A c l) (o : Obj) : Owns (w.alloc o) base e sz enc A c l := World.ownsRow.alloc h o
theorem Owns.keep {B : Nat} (h : Owns w base e sz enc A c l) (hb : Below B w w') (hB : ∀ k, blk A = some k → k < B) : Owns w' base e sz enc A c l := by
  refine ⟨h.1, ?_⟩
  rcases h.2 with h2 | ⟨g, cap, cur, hv, hbase, hh, hr⟩
  · exact .inl h2
  · refine .inr ⟨g, cap, cur, hv, hbase, ?_, hr⟩
    have hA : A = some ⟨g, 0, none⟩ := by injection hv
    rw [hb.block g (hB g (by rw [hA]; rfl))]; exact hh
theorem owns_nil (w : World) (base : Nat) (e : TypeId) (sz : Nat) (enc : α → List Value) : Owns w base e sz enc none 0 [] := World.ownsRow_nil w base e sz
theorem owns_empty (w : World) (base : Nat) (e : TypeId) (sz : Nat) (enc : α → List Value) (hb : base ≤ w.heap.size) : Owns (w.alloc (.cells #[] e)) base e sz enc (some ⟨w.heap.size, 0, none⟩) 0 [] :=
  World.ownsRow_made w #[] 0 hb (Nat.zero_le _) (by simp)
theorem Owns.ne {e' : TypeId} {α' : Type} {sz' base' c' : Nat} {enc' : α' → List Value} {A' : Option Addr} {l' : List α'} (h : Owns w base e sz enc A c l) (h' : Owns w base' e' sz' enc' A' c' l') (he : e ≠ e') : blk A = none ∨ blk A ≠ blk A' := by
  rcases h.2 with ⟨hv, _⟩ | ⟨g, cap, cur, hv, _, hh, _⟩
  · left; injection hv with hA; rw [hA]; rfl
  · rcases h'.2 with ⟨hv', _⟩ | ⟨g', cap', cur', hv', _, hh', _⟩
    · right; injection hv with hA; injection hv' with hA'; rw [hA, hA']; simp [blk]
    · right; injection hv with hA; injection hv' with hA'
      intro hb
      rw [hA, hA'] at hb
      have hgg : g = g' := by simpa [blk] using hb
      subst hgg
      rw [hh] at hh'; injection hh' with hh'; injection hh' with _ he'; exact he he'
theorem row_new (w : World) (e : TypeId) (sz : Nat) (enc : α → List Value) (x : α) (cs : Array Value) (hcs : cs.toList = enc x) : RowAt (w.alloc (.cells cs e)) (w.heap.size + 1) sz enc (some ⟨w.heap.size, 0, none⟩) [x] := fun _ => by
  refine ⟨w.heap.size, 0, rfl, by omega, fun k y hk j u hu => ?_⟩
  cases k with
  | succ k => simp at hk
  | zero =>
    simp at hk; subst hk
    rw [World.cell?_alloc_at _ _ _ _ rfl, ← hcs] at *
    simpa using hu
end

section
variable {P : Program} (w : World)
/-- append onto a row of the call's own; the source any row, nil or empty too. -/
theorem wpList_append_rows {α : Type} {ops : Array Oper} {rest : List Oper} {o : Oper} {a : Act} {Q : Exit → Act → World → Prop} (hgd : o.guard = none) (s x : Operand) (t : TypeId)
    (ho : o.op = .call { callee := .builtin .append, args := #[s, x], argTypes := #[t, t] })
    (base : Nat) (e : TypeId) (sz bytes : Nat) (z : Value) (ht : P.underlying t = some (.slice e)) (hinfo : (P.info? e).map (fun i => (i.zero, i.size, i.bytes)) = some (some z, sz, bytes))
    (hzs : z.cells.size = sz) (hsz : 0 < sz) (enc : α → List Value) (henc : ∀ x, (enc x).length = sz) (hone : ∀ x, ∀ u ∈ enc x, u.oneCell' = true)
    (A : Option Addr) (c : Nat) (xs : List α) (B : Option Addr) (cB N n m : Nat) (l : List α) (hs : a.eval s = .slice A n c) (hx : a.eval x = .slice B m cB)
    (hn : xs.length = n) (hm : l.length = m)
    (hown : Owns w base e sz enc A c xs) (hr : RowAt w N sz enc B l)
    (h63 : n + m ≤ 9223372036854775807) (hbytes : (n + m) * bytes ≤ 140737488355328) (hbase : base ≤ w.heap.size)
    (h : ∀ A' c' w', Owns w' base e sz enc A' c' (xs ++ l) → w.grownBy w' (blk A) → (blk A' = blk A ∨ blk A' = some w.heap.size) → wpList P ops Q rest (a.put o.dst (.slice A' (n + m) c')) w') : wpList P ops Q (o :: rest) a w := by
  subst hn hm
  obtain ⟨i, hi, hz, hsize, hby⟩ := info_parts hinfo
  have key : ∃ v' w', (Builtin.append_ #[t, t] o.type #[.slice A xs.length c, .slice B l.length cB]).run P w = .ok v' w' ∧ w'.ownsRow base e sz v' (xs.length + l.length) ((xs ++ l).flatMap enc) ∧ w.grownBy w' (blk A) ∧ (v'.ownBlock = blk A ∨ v'.ownBlock = some w.heap.size) := by
    by_cases h0 : 0 < l.length
    · obtain ⟨b, off, rfl, hb, hc⟩ := hr h0
      obtain ⟨v', w', h1, h2, h3, _, h5⟩ := run_append_own_at (P := P) w base t o.type e i z sz bytes ht hi hz hsize hby hzs hsz (.slice A xs.length c) xs.length _ hown ⟨b, off, none⟩ l.length cB (l.flatMap enc)
        (length_flat henc l) (fun j u hu => by
          obtain ⟨k, r, x, hk, hr', rfl⟩ := flatMap_of henc l j u hu
          have := hc k x hk r u hr'
          by_cases hz0 : k * sz + r = 0
          · rw [hz0]; simp only [Addr.add, if_true]
            have e0 : off + k * sz + r = off := by omega
            rw [e0] at this; exact this
          · simp only [Addr.add, if_neg hz0]
            rw [← Nat.add_assoc]; exact this)
        (fun u hu => by obtain ⟨x, _, hux⟩ := List.mem_flatMap.1 hu; exact hone x u hux) h63 hbytes hbase
      rw [own_blk] at h3 h5
      exact ⟨v', w', h1, by rw [List.flatMap_append]; exact h2, h3, h5⟩
    · have hl : l = [] := List.eq_nil_of_length_eq_zero (by omega)
      subst hl
      cases B with
      | none =>
        refine ⟨.slice A xs.length c, w, ?_, by simp only [List.length_nil, Nat.add_zero, List.append_nil]; exact hown, World.grownBy.refl w _, .inl (own_blk _ _ _)⟩
        rcases hown.2 with ⟨hv, _⟩ | ⟨g, cap, cur, hv, _, _, hnc, _⟩
        · rw [hv]; simp [Builtin.append_, run_underlying ht, sizeOf, typeInfo, hi, Builtin.lenOf, Builtin.firstCells]
        · rw [hv]; simp [Builtin.append_, run_underlying ht, sizeOf, typeInfo, hi, Builtin.lenOf, Builtin.firstCells, hnc, storeCells]
      | some ad =>
        obtain ⟨v', w', h1, h2, h3, _, h5⟩ := run_append_own_at (P := P) w base t o.type e i z sz bytes ht hi hz hsize hby hzs hsz (.slice A xs.length c) xs.length _ hown ad 0 cB []
          (by simp) (fun j u hu => by simp at hu) (fun u hu => by simp at hu) h63 hbytes hbase
        rw [own_blk] at h3 h5
        exact ⟨v', w', h1, by simpa using h2, h3, h5⟩
  obtain ⟨v', w', hrun, h2, h3, h4⟩ := key
  have hv : ∃ A' c', v' = .slice A' (xs.length + l.length) c' := by
    rcases h2.2 with ⟨hv, h0⟩ | ⟨g, cap, cur, hv, _⟩
    · exact ⟨none, 0, by rw [hv, h0]⟩
    · exact ⟨_, _, hv⟩
  obtain ⟨A', c', rfl⟩ := hv
  rw [own_blk] at h4
  refine wpList_plain hgd fun K hK => ?_
  unfold Oper.wp execOp
  simp only [ho, resolve, invoke, builtin, Sem.run_bind, Sem.run_pure, Result.andThen_ok, List.map_toArray, List.map_cons, List.map_nil, hs, hx, hrun]
  exact hK _ _ (h A' c' w' (by unfold Owns; rw [List.length_append]; exact h2) h3 h4)
end

theorem below_grown {B : Nat} {a w w' : World} {row : Option Nat} (h : Below B a w) (hg : w.grownBy w' row) (hB : B ≤ w.heap.size) (hr : ∀ k, row = some k → B ≤ k) : Below B a w' := h.grown hg hB hr

end Go.Proofs.Ytcffhfcjfjfokaa
/- What the functions of layer 8 compute, as plain functions on lists and numbers. No program in sight. -/
namespace Go.Proofs.Ytcffhfcjfjfokaa

def slotEq (a b c d : Int) : Bool := decide (a = c ∧ b = d)
def vidEq (a b c d a' b' c' d' : Int) : Bool := decide (a = a' ∧ b = b' ∧ c = c' ∧ d = d')
theorem slotEq_iff {s t : Int × Int} : slotEq s.1 s.2 t.1 t.2 = true ↔ s = t := by
  obtain ⟨a, b⟩ := s; obtain ⟨c, d⟩ := t; simp [slotEq]
theorem slotEq_no {s t : Int × Int} : slotEq s.1 s.2 t.1 t.2 = false ↔ s ≠ t := by
  rw [← Bool.not_eq_true, slotEq_iff]
/-- Is v from 1 to MaxCount? -/
def cntB (v : Int) : Bool := decide (1 ≤ v ∧ v ≤ 4611686018427387904)
/-- Is it a view's ID? -/
def wholeB (e l i c : Int) : Bool := decide (1 ≤ e ∧ e ≤ 4611686018427387904 ∧ 1 ≤ i ∧ i ≤ 4611686018427387904 ∧ 1 ≤ c ∧ c ≤ 4611686018427387904 ∧ 0 ≤ l ∧ l < 16)
/-- Does a list of counts cover the slot? -/
def havB (h : List Int) (s q : Int) : Bool := decide (q ≤ h[s.toNat]?.getD 0)
/-- The same with the sender held against the list's length. -/
def rhasB (h : List Int) (s q : Int) : Bool := decide (0 ≤ s ∧ s < h.length ∧ q ≤ h[s.toNat]?.getD 0)

structure Sound (f : Fl) : Prop where
  whole : wholeB f.e f.l f.i f.c = true
  low : 1 ≤ f.have_.length
  high : f.have_.length ≤ 16
  held : f.slots.length ≤ 128
  base0 : 0 ≤ f.base
  base : f.base ≤ 4611686018427387904 - f.slots.length
  have0 : ∀ h ∈ f.have_, 0 ≤ h ∧ h ≤ 4611686018427387904
  slot : ∀ s ∈ f.slots, 0 ≤ s.1 ∧ s.1 < f.have_.length ∧ 1 ≤ s.2 ∧ s.2 ≤ 4611686018427387904
  nodup : f.slots.Nodup

/-- The first k places of a list meet p. -/
def upto {α : Type} (p : α → Prop) (l : List α) (k : Nat) : Prop := ∀ j x, j < k → l[j]? = some x → p x
theorem upto_zero {α : Type} (p : α → Prop) (l : List α) : upto p l 0 := by intro j x hj; omega
theorem upto_succ {α : Type} {p : α → Prop} {l : List α} {k : Nat} (h : upto p l k) (e : ∀ x, l[k]? = some x → p x) : upto p l (k + 1) := by
  intro j x hj hx
  by_cases hk : j = k
  · subst hk; exact e x hx
  · exact h j x (by omega) hx
theorem upto_all {α : Type} {p : α → Prop} {l : List α} {k : Nat} (h : upto p l k) (hk : l.length ≤ k) : ∀ x ∈ l, p x := by
  intro x hx
  obtain ⟨j, hj, rfl⟩ := List.getElem_of_mem hx
  exact h j _ (by omega) (List.getElem?_eq_getElem hj)
theorem getD_mem {α : Type} {l : List α} {k : Nat} {d : α} (hk : k < l.length) : l[k]?.getD d ∈ l := by
  rw [List.getElem?_eq_getElem hk]; exact List.getElem_mem hk
theorem getD_some {α : Type} {l : List α} {k : Nat} {d x : α} (h : l[k]? = some x) : l[k]?.getD d = x := by rw [h]; rfl
/-- No two of the first k places are alike. -/
def apartTo {α : Type} (l : List α) (k : Nat) : Prop := ∀ i j x y, i < j → j < k → l[i]? = some x → l[j]? = some y → x ≠ y
theorem apartTo_zero {α : Type} (l : List α) : apartTo l 0 := by intro i j x y _ hj; omega
theorem apartTo_succ {α : Type} {l : List α} {k : Nat} (h : apartTo l k) (e : upto (fun x => l[k]? ≠ some x) l k) : apartTo l (k + 1) := by
  intro i j x y hij hj hx hy
  by_cases hk : j = k
  · subst hk; intro he; subst he; exact e i x hij hx hy
  · exact h i j x y hij (by omega) hx hy
theorem nodup_of_apart {α : Type} {l : List α} {k : Nat} (h : apartTo l k) (hk : l.length ≤ k) : l.Nodup := by
  rw [List.nodup_iff_pairwise_ne, List.pairwise_iff_getElem]
  intro i j hi hj hij
  exact h i j _ _ hij (by omega) (List.getElem?_eq_getElem hi) (List.getElem?_eq_getElem hj)
theorem apart_of_nodup {α : Type} {l : List α} (h : l.Nodup) {i j : Nat} {x : α} (hij : i ≠ j) (hx : l[i]? = some x) : l[j]? ≠ some x := by
  intro hy
  obtain ⟨hi, rfl⟩ := List.getElem?_eq_some_iff.1 hx
  obtain ⟨hj, e⟩ := List.getElem?_eq_some_iff.1 hy
  exact hij ((List.getElem_inj h).1 e.symm)

open Classical in
noncomputable def soundB (f : Fl) : Bool := decide (Sound f)
theorem soundB_iff {f : Fl} : soundB f = true ↔ Sound f := by simp [soundB]
theorem soundB_no {f : Fl} : soundB f = false ↔ ¬ Sound f := by simp [soundB]

/-- The head of Sound: what is asked ahead of the lists. -/
def SoundHead (f : Fl) : Prop := wholeB f.e f.l f.i f.c = true ∧ (1 : Int) ≤ f.have_.length ∧ (f.have_.length : Int) ≤ 16 ∧ (f.slots.length : Int) ≤ 128 ∧ 0 ≤ f.base ∧ f.base ≤ 4611686018427387904 - (f.slots.length : Int)
theorem sound_head {f : Fl} (h : ¬ SoundHead f) : false = soundB f := by
  symm; rw [soundB_no]; intro s
  exact h ⟨s.whole, by have := s.low; omega, by have := s.high; omega, by have := s.held; omega, s.base0, s.base⟩
def slotIn (n : Nat) (s : Int × Int) : Prop := 0 ≤ s.1 ∧ s.1 < n ∧ 1 ≤ s.2 ∧ s.2 ≤ 4611686018427387904
theorem unsound_have {f : Fl} {q : Nat} {x : Int} (hx : f.have_[q]? = some x) (h : x < 0 ∨ 4611686018427387904 < x) : false = soundB f := by
  symm; rw [soundB_no]; intro s
  have := s.have0 x (List.mem_of_getElem? hx); omega
theorem unsound_slot {f : Fl} {q : Nat} {x : Int × Int} (hx : f.slots[q]? = some x) (h : ¬ slotIn f.have_.length x) : false = soundB f := by
  symm; rw [soundB_no]; intro s
  exact h (s.slot x (List.mem_of_getElem? hx))
theorem unsound_twice {f : Fl} {p q : Nat} {x y : Int × Int} (hx : f.slots[q]? = some x) (hy : f.slots[p]? = some y) (hpq : p < q) (h : slotEq y.1 y.2 x.1 x.2 = true) : false = soundB f := by
  symm; rw [soundB_no]; intro s
  rw [slotEq_iff] at h; subst h
  exact apart_of_nodup s.nodup (by omega : p ≠ q) hy hx
theorem sound_all {f : Fl} (h : SoundHead f) {q p : Nat} (hq : f.have_.length ≤ q) (hp : f.slots.length ≤ p) (h1 : upto (fun x => 0 ≤ x ∧ x ≤ 4611686018427387904) f.have_ q) (h2 : upto (slotIn f.have_.length) f.slots p) (h3 : apartTo f.slots p) : true = soundB f := by
  symm; rw [soundB_iff]
  obtain ⟨a, b, c, d, e, g⟩ := h
  exact ⟨a, by omega, by omega, by omega, e, g, upto_all h1 hq, upto_all h2 hp, nodup_of_apart h3 hp⟩

/-- Two contents contradict one another: one position with two slots, or one slot at two positions. -/
def Clash (f g : Fl) : Prop := ∃ (i j : Nat) (s t : Int × Int), f.slots[i]? = some s ∧ g.slots[j]? = some t ∧ ¬ (f.base + i = g.base + j ↔ s = t)
noncomputable def forkB (f g : Fl) : Bool := @decide (Clash f g) (Classical.propDecidable _)
theorem forkB_yes {f g : Fl} {i j : Nat} {s t : Int × Int} (hs : f.slots[i]? = some s) (ht : g.slots[j]? = some t) (h : (!((f.base + i == g.base + j) == slotEq s.1 s.2 t.1 t.2)) = true) : true = forkB f g := by
  symm; unfold forkB; refine @decide_eq_true _ (Classical.propDecidable _) ?_
  refine ⟨i, j, s, t, hs, ht, fun e => ?_⟩
  by_cases hst : s = t
  · rw [beq_iff_eq.2 (e.2 hst), slotEq_iff.2 hst] at h; cases h
  · rw [beq_eq_false_iff_ne.2 (fun h => hst (e.1 h)), slotEq_no.2 hst] at h; cases h
/-- No clash of the i-th slot of f with the first k of g. -/
def calmAt (f g : Fl) (i k : Nat) : Prop := ∀ j s t, j < k → f.slots[i]? = some s → g.slots[j]? = some t → (f.base + i = g.base + j ↔ s = t)
theorem calmAt_succ {f g : Fl} {i j : Nat} {s t : Int × Int} (h : calmAt f g i j) (hs : f.slots[i]? = some s) (ht : g.slots[j]? = some t) (e : (!((f.base + i == g.base + j) == slotEq s.1 s.2 t.1 t.2)) = false) : calmAt f g i (j + 1) := by
  intro k s' t' hk hs' ht'
  by_cases hkj : k = j
  · subst hkj
    rw [hs] at hs'; cases hs'; rw [ht] at ht'; cases ht'
    have e2 : (f.base + i == g.base + k) = slotEq s.1 s.2 t.1 t.2 := by
      rcases h1 : (f.base + i == g.base + k) <;> rcases h2 : slotEq s.1 s.2 t.1 t.2 <;> simp_all
    constructor
    · intro h1; rw [← slotEq_iff, ← e2]; exact beq_iff_eq.2 h1
    · intro h1; rw [← slotEq_iff, ← e2] at h1; exact beq_iff_eq.1 h1
  · exact h k s' t' (by omega) hs' ht'
theorem forkB_no {f g : Fl} {n : Nat} (h : ∀ i, i < n → calmAt f g i g.slots.length) (hn : f.slots.length ≤ n) : false = forkB f g := by
  symm; unfold forkB; refine @decide_eq_false _ (Classical.propDecidable _) ?_
  rintro ⟨i, j, s, t, hs, ht, hne⟩
  have hi := (List.getElem?_eq_some_iff.1 hs).1
  have hj := (List.getElem?_eq_some_iff.1 ht).1
  exact hne (h i (by omega) j s t hj hs ht)

/-- The greatest base of the first k, and of all. -/
def baseTo (fs : List Fl) (k : Nat) : Int := (fs.take k).foldl (fun b f => if b < f.base then f.base else b) 0
def baseOf (fs : List Fl) : Int := fs.foldl (fun b f => if b < f.base then f.base else b) 0
theorem baseTo_succ {fs : List Fl} {k : Nat} {f : Fl} (h : fs[k]? = some f) : baseTo fs (k + 1) = if baseTo fs k < f.base then f.base else baseTo fs k := by
  unfold baseTo
  rw [List.take_add_one, h, Option.toList_some, List.foldl_append]; rfl
theorem baseTo_all (fs : List Fl) {k : Nat} (h : fs.length ≤ k) : baseTo fs k = baseOf fs := by
  unfold baseTo baseOf; rw [List.take_of_length_le h]

/-- The slot at a position: the first content that knows it says. (0, 0): none. -/
def atF (pos : Int) (f : Fl) : Option (Int × Int) := if 0 ≤ pos - f.base - 1 then f.slots[(pos - f.base - 1).toNat]? else none
def atOf (fs : List Fl) (pos : Int) : Int × Int := ((fs.findSome? (atF pos)).getD (0, 0))
theorem atOf_here {fs : List Fl} {k : Nat} {f : Fl} {s : Int × Int} {pos : Int} (h : upto (fun f => atF pos f = none) fs k) (hf : fs[k]? = some f) (hs : atF pos f = some s) : atOf fs pos = s := by
  unfold atOf
  have : fs.findSome? (atF pos) = some s := by
    induction fs generalizing k with
    | nil => simp at hf
    | cons g r ih =>
      cases k with
      | zero => simp at hf; subst hf; simp [List.findSome?, hs]
      | succ k =>
        have hg : atF pos g = none := h 0 g (by omega) rfl
        simp only [List.findSome?, hg]
        exact ih (k := k) (fun j x hj hx => h (j + 1) x (by omega) (by simpa using hx)) (by simpa using hf)
  rw [this]; rfl
theorem atOf_none {fs : List Fl} {k : Nat} {pos : Int} (h : upto (fun f => atF pos f = none) fs k) (hk : fs.length ≤ k) : atOf fs pos = (0, 0) := by
  unfold atOf
  rw [List.findSome?_eq_none_iff.2 (upto_all h hk)]; rfl

end Go.Proofs.Ytcffhfcjfjfokaa
/- Facts on the comparison of structs of numbers in the loaded program; the cells of a content. -/
namespace Go.Proofs.Ytcffhfcjfjfokaa
open Go.RowKit
theorem run_eql_slot (w : World) (a b c d : Int) : (binOp .eql 66 (.agg #[.int .i64 a, .int .i64 b]) (.agg #[.int .i64 c, .int .i64 d])).run Try.prog w = .ok (.bool (slotEq a b c d)) w := by
  go_simp
  by_cases h1 : a = c <;> by_cases h2 : b = d <;> simp [slotEq, h1, h2]
theorem run_neq_slot (w : World) (a b c d : Int) : (binOp .neq 66 (.agg #[.int .i64 a, .int .i64 b]) (.agg #[.int .i64 c, .int .i64 d])).run Try.prog w = .ok (.bool (!slotEq a b c d)) w := by
  go_simp
  by_cases h1 : a = c <;> by_cases h2 : b = d <;> simp [slotEq, h1, h2]
theorem run_eql_vid (w : World) (a b c d a' b' c' d' : Int) : (binOp .eql 35 (.agg #[.int .i64 a, .int .i64 b, .int .i64 c, .int .i64 d]) (.agg #[.int .i64 a', .int .i64 b', .int .i64 c', .int .i64 d'])).run Try.prog w = .ok (.bool (vidEq a b c d a' b' c' d')) w := by
  go_simp
  by_cases h1 : a = a' <;> by_cases h2 : b = b' <;> by_cases h3 : c = c' <;> by_cases h4 : d = d' <;> simp [vidEq, h1, h2, h3, h4]
theorem run_neq_vid (w : World) (a b c d a' b' c' d' : Int) : (binOp .neq 35 (.agg #[.int .i64 a, .int .i64 b, .int .i64 c, .int .i64 d]) (.agg #[.int .i64 a', .int .i64 b', .int .i64 c', .int .i64 d'])).run Try.prog w = .ok (.bool (!vidEq a b c d a' b' c' d')) w := by
  go_simp
  by_cases h1 : a = a' <;> by_cases h2 : b = b' <;> by_cases h3 : c = c' <;> by_cases h4 : d = d' <;> simp [vidEq, h1, h2, h3, h4]

/-- The cells of a content of a view. -/
abbrev flc (e l i c b : Int) (A : Option Addr) (n cA : Nat) (B : Option Addr) (m cB : Nat) : Array Value := #[.int .i64 e, .int .i64 l, .int .i64 i, .int .i64 c, .int .i64 b, .slice A n cA, .slice B m cB]
end Go.Proofs.Ytcffhfcjfjfokaa
/- What the small functions of layer 8 answer: whether an ID names a view, whether a node has a message. For every argument. -/
namespace Go.Proofs.Ytcffhfcjfjfokaa
open Go.RowKit
theorem rhas_of {h : List Int} {k : Nat} {x q : Int} (hx : h[k]? = some x) (hlt : k < h.length) : rhasB h k q = decide (q ≤ x) := by
  unfold rhasB; rw [Int.toNat_natCast, hx, Option.getD_some]; exact decide_eq_decide.2 ⟨fun h => h.2.2, fun h => ⟨by omega, by omega, h⟩⟩
theorem hav_of {h : List Int} {k : Nat} {x q : Int} (hx : h[k]? = some x) : havB h k q = decide (q ≤ x) := by
  unfold havB; rw [Int.toNat_natCast, hx, Option.getD_some]
theorem whole1_any (n : Int) (w : World) : Calls Try.prog 120 #[.int .i64 n] w fun e w' => e = .returned (.bool (cntB n)) ∧ w = w' := by
  go_enter Try.func120, Try.ntmps120
  go_wp2
  all_goals (go_ret; go_light; exact ⟨ret_bool (by unfold cntB; simp; omega), rfl⟩)
theorem count_any (n : Int) (w : World) : Calls Try.prog 100 #[.int .i64 n] w fun e w' => e = .returned (.bool (cntB n)) ∧ w = w' := by
  go_enter Try.func100, Try.ntmps100
  go_wp2
  all_goals (go_ret; go_light; exact ⟨ret_bool (by unfold cntB; simp; omega), rfl⟩)
set_option maxHeartbeats 1000000 in
theorem whole_any (e l i c : Int) (w : World) : Calls Try.prog 118 #[.agg #[.int .i64 e, .int .i64 l, .int .i64 i, .int .i64 c]] w fun x w' => x = .returned (.bool (wholeB e l i c)) ∧ Below w.heap.size w w' := by
  have hbx := below_box1 w #[.int .i64 e, .int .i64 l, .int .i64 i, .int .i64 c] 35
  go_enter Try.func118, Try.ntmps118
  go_wp2_with (go_at_call 120; refine (whole1_any _ _).mono ?_; rintro e w' ⟨rfl, rfl⟩)
  all_goals (go_ret; go_light; refine ⟨ret_bool ?_, hbx⟩; clear hbx; simp_all [wholeB, cntB]; try omega)
set_option maxHeartbeats 1000000 in
theorem rwhole_any (e l i c : Int) (w : World) : Calls Try.prog 99 #[.agg #[.int .i64 e, .int .i64 l, .int .i64 i, .int .i64 c]] w fun x w' => x = .returned (.bool (wholeB e l i c)) ∧ Below w.heap.size w w' := by
  have hbx := below_box1 w #[.int .i64 e, .int .i64 l, .int .i64 i, .int .i64 c] 35
  go_enter Try.func99, Try.ntmps99
  go_wp2_with (go_at_call 100; refine (count_any _ _).mono ?_; rintro e w' ⟨rfl, rfl⟩)
  all_goals (go_ret; go_light; refine ⟨ret_bool ?_, hbx⟩; clear hbx; simp_all [wholeB, cntB]; try omega)
set_option maxHeartbeats 1000000 in
theorem rhas_any (f0 f1 f2 f3 f4 : Int) (sl : Value) (B : Option Addr) (c N : Nat) (h : List Int) (s q : Int) (w : World)
  (hl : h.length ≤ 9223372036854775807) (hN : N ≤ w.heap.size) (hB : RowAt w N 1 eInt B h) :
  Calls Try.prog 62 #[.agg #[.int .i64 f0, .int .i64 f1, .int .i64 f2, .int .i64 f3, .int .i64 f4, sl, .slice B h.length c], .agg #[.int .i64 s, .int .i64 q]] w
    fun e w' => e = .returned (.bool (rhasB h s q)) ∧ Below w.heap.size w w' := by
  have hbx := below_box2 w #[.int .i64 f0, .int .i64 f1, .int .i64 f2, .int .i64 f3, .int .i64 f4, sl, .slice B h.length c] 39 #[.int .i64 s, .int .i64 q] 66
  by_cases h0 : 0 ≤ s
  · by_cases h1 : s < h.length
    · obtain ⟨k, rfl⟩ : ∃ k : Nat, s = k := ⟨s.toNat, by omega⟩
      obtain ⟨g, o, x, rfl, hg, hx, hc⟩ := hB.int (k := k) (by omega)
      have hgw : g < w.heap.size := by omega
      have hgw' : g < w.heap.size + 1 := by omega
      have hlt : k < h.length := by omega
      clear hB
      go_enter Try.func62, Try.ntmps62
      go_wp2
      go_quiet (fail)
      go_wp2
      go_ret
      exact ⟨ret_bool (rhas_of hx.out hlt).symm, below_drewN hbx _⟩
    · have hd : decide (s < (h.length : Int)) = false := by simpa using h1
      go_enter Try.func62, Try.ntmps62
      go_wp2
      go_quiet (fail)
      go_wp2
      go_ret
      exact ⟨ret_bool (by unfold rhasB; rw [eq_comm, decide_eq_false_iff_not]; omega), below_drewN hbx _⟩
  · have hd : decide (0 ≤ s) = false := by simpa using h0
    go_enter Try.func62, Try.ntmps62
    go_wp2
    go_quiet (fail)
    go_wp2
    go_ret
    exact ⟨ret_bool (by unfold rhasB; rw [eq_comm, decide_eq_false_iff_not]; omega), below_drewN hbx _⟩
set_option maxHeartbeats 1000000 in
theorem has_any (f0 f1 f2 f3 f4 : Int) (sl : Value) (B : Option Addr) (c N : Nat) (h : List Int) (s q : Int) (w : World)
  (hs : 0 ≤ s) (hn : s < h.length) (hN : N ≤ w.heap.size) (hB : RowAt w N 1 eInt B h) :
  Calls Try.prog 61 #[.agg #[.int .i64 f0, .int .i64 f1, .int .i64 f2, .int .i64 f3, .int .i64 f4, sl, .slice B h.length c], .agg #[.int .i64 s, .int .i64 q]] w
    fun e w' => e = .returned (.bool (havB h s q)) ∧ Below w.heap.size w w' := by
  obtain ⟨k, rfl⟩ : ∃ k : Nat, s = k := ⟨s.toNat, by omega⟩
  obtain ⟨g, o, x, rfl, hg, hx, hc⟩ := hB.int (k := k) (by omega)
  have hgw : g < w.heap.size := by omega
  have hgw' : g < w.heap.size + 1 := by omega
  have hbx := below_box2 w #[.int .i64 f0, .int .i64 f1, .int .i64 f2, .int .i64 f3, .int .i64 f4, sl, .slice (some ⟨g, o, none⟩) h.length c] 39 #[.int .i64 k, .int .i64 q] 66
  clear hB
  go_enter Try.func61, Try.ntmps61
  go_wp2
  go_quiet (fail)
  go_wp2
  go_ret
  exact ⟨ret_bool (hav_of hx.out).symm, below_drewN hbx _⟩
end Go.Proofs.Ytcffhfcjfjfokaa
/- What the document's Sound and fork answer, for every content. -/
namespace Go.Proofs.Ytcffhfcjfjfokaa
open Go.RowKit

set_option maxHeartbeats 2000000 in
theorem rsound_no (f : Fl) (A B : Option Addr) (cA cB : Nat) (w : World)
    (hl1 : f.slots.length ≤ 9223372036854775807) (hl2 : f.have_.length ≤ 9223372036854775807) (hd : ¬ SoundHead f) :
    Calls Try.prog 65 #[.agg (flc f.e f.l f.i f.c f.base A f.slots.length cA B f.have_.length cB)] w fun x w' => x = .returned (.bool (soundB f)) ∧ Below w.heap.size w w' := by
  replace hd := Lib.hid hd
  go_enter Try.func65, Try.ntmps65
  go_wp2_with (first | (go_at_call 99; refine (rwhole_any _ _ _ _ _).mono ?_; rintro e w' ⟨rfl, hbw⟩; rw [World.size_alloc] at hbw; obtain ⟨hb0, hc, -, hsz⟩ := box1_facts hbw))
  all_goals first | (go_ret; go_light; exact ⟨ret_bool (sound_head hd.out), hb0⟩) | (exfalso; exact hd.out ⟨by assumption, by assumption, by assumption, by omega, by assumption, by omega⟩)
set_option maxHeartbeats 4000000 in
theorem rsound_yes (f : Fl) (A B : Option Addr) (cA cB N : Nat) (w : World) (hN : N ≤ w.heap.size)
    (hA : RowAt w N 2 eSlot A f.slots) (hB : RowAt w N 1 eInt B f.have_) (hd : SoundHead f) :
    Calls Try.prog 65 #[.agg (flc f.e f.l f.i f.c f.base A f.slots.length cA B f.have_.length cB)] w fun x w' => x = .returned (.bool (soundB f)) ∧ Below w.heap.size w w' := by
  have hd' := Lib.hid hd
  obtain ⟨h1, h2, h3, h4, h5, h6⟩ := hd
  have heq := run_eql_slot
  go_enter Try.func65, Try.ntmps65
  go_wp2_with (first | (go_at_call 99; refine (rwhole_any _ _ _ _ _).mono ?_; rintro e w' ⟨rfl, hbw⟩; rw [World.size_alloc] at hbw; obtain ⟨hb0, hc, -, hsz⟩ := box1_facts hbw))
  clear hb0 hc hsz
  go_loopw [3] (fun k wr => ∃ q : Nat, k = .int .i64 q ∧ q ≤ f.have_.length ∧ upto (fun x => 0 ≤ x ∧ x ≤ 4611686018427387904) f.have_ q ∧ Below (w.heap.size + 1) (box1 w (flc f.e f.l f.i f.c f.base A f.slots.length cA B f.have_.length cB) 39) wr) (fun k _ => f.have_.length - (intOf k).toNat)
  case atStart => exact ⟨0, rfl, by omega, upto_zero _ _, hbw⟩
  case round =>
    obtain ⟨q, rfl, hq, hup, hb⟩ := hrel
    obtain ⟨hb0, hc, -, hsz⟩ := box1_facts hb
    by_cases hlt : q < f.have_.length
    · obtain ⟨g, o, x, rfl, hg, hx, hk⟩ := (hB.below hb0 hN).int hlt
      clear hA hB
      by_cases hbad : x < 0 ∨ 4611686018427387904 < x
      · have HB := Lib.hid hbad
        clear hbad
        go_wp2
        all_goals first | (go_ret; go_light; exact ⟨ret_bool (unsound_have hx.out HB.out), hb0⟩) | (exfalso; have := HB.out; omega)
      · have hb1 : 0 ≤ x := by omega
        have hb2 : x ≤ 4611686018427387904 := by omega
        clear hbad
        go_wp2
        go_roundw
        case rel => go_light; exact ⟨q + 1, by go_num, by omega, upto_succ hup (fun z hz => by rw [hx.out] at hz; cases hz; exact ⟨hb1, hb2⟩), hb⟩
        case measure => go_light; simp [intOf]; omega
    · go_wp2
      have Hq : Hid (q = f.have_.length) := by show q = _; omega
      clear hlt hq hb0 hc hsz
      go_loopw [4] (fun k wr => ∃ p : Nat, k = .int .i64 p ∧ p ≤ f.slots.length ∧ upto (slotIn f.have_.length) f.slots p ∧ apartTo f.slots p ∧ Below (w.heap.size + 1) (box1 w (flc f.e f.l f.i f.c f.base A f.slots.length cA B f.have_.length cB) 39) wr) (fun k _ => f.slots.length - (intOf k).toNat)
      case atStart => exact ⟨0, rfl, by omega, upto_zero _ _, apartTo_zero _, hb⟩
      case round =>
        obtain ⟨p, rfl, hp, hup2, hap, hb⟩ := hrel
        obtain ⟨hb0, hc, -, hsz⟩ := box1_facts hb
        by_cases hlt : p < f.slots.length
        · obtain ⟨g, o, x, y, rfl, hg, hx, hk, hk2⟩ := (hA.below hb0 hN).slot hlt
          have hgw : g < wr.heap.size := by omega
          by_cases hbad : slotIn f.have_.length (x, y)
          · have HB := Lib.hid hbad
            obtain ⟨i1, i2, i3, i4⟩ := hbad
            simp only at i1 i2 i3 i4
            have hcy : cntB y = true := by simp [cntB]; exact ⟨i3, i4⟩
            go_wp2_with (first | (go_at_call 100; refine (count_any _ _).mono ?_; rintro e w' ⟨rfl, rfl⟩))
            clear hcy
            obtain ⟨wo, rfl⟩ : ∃ wo : World, wo = wr := ⟨_, rfl⟩
            go_loopw [6] (fun k wx => ∃ j : Nat, k = .int .i64 j ∧ j ≤ p ∧ upto (fun z => f.slots[p]? ≠ some z) f.slots j ∧ Below (wo.heap.size + 1) (box1 wo #[.int .i64 x, .int .i64 y] 66) wx) (fun k _ => p - (intOf k).toNat)
            case atStart => exact ⟨0, rfl, by omega, upto_zero _ _, Below.refl _ _⟩
            case round =>
              obtain ⟨j, rfl, hj, hup3, hbx⟩ := hrel
              obtain ⟨hbx0, hcx, -, hszx⟩ := box1_facts hbx
              have hb' := hb.trans (hbx0.mono hsz)
              obtain ⟨hb0', hc', -, hsz'⟩ := box1_facts hb'
              by_cases hjp : j < p
              · obtain ⟨g', o', x', y', hgo, hg', hx', hk', hk2'⟩ := (hA.below hb0' hN).slot (k := j) (by omega)
                obtain ⟨rfl, rfl⟩ : g = g' ∧ o = o' := by simpa using hgo
                clear hgo
                have hgw' : g < wr.heap.size := by have := hbx0.size; omega
                have hjl : j < f.slots.length := by omega
                clear hA hB hc hsz hb0 hk hk2
                go_wp2
                go_quiet (fail)
                go_wp2
                · go_ret
                  go_light
                  exact ⟨ret_bool (unsound_twice hx.out hx'.out hjp (by assumption)), below_drewN hb0' _⟩
                · go_roundw
                  case rel => go_light; exact ⟨j + 1, by go_num, by omega, upto_succ hup3 (fun z hz => by rw [hx'.out] at hz; cases hz; rw [hx.out]; intro he; cases he; rename_i hno; simp [slotEq] at hno), below_drewN hbx _⟩
                  case measure => go_light; simp [intOf]; omega
              · clear hA hB hc hsz hb0 hk hk2
                go_wp2
                go_roundw
                case rel => go_light; exact ⟨p + 1, by go_num, by omega, upto_succ hup2 (fun z hz => by rw [hx.out] at hz; cases hz; exact HB.out), apartTo_succ hap (fun i z hi hz => hup3 i z (by omega) hz), hb'⟩
                case measure => go_light; simp [intOf]; omega
          · have HB := Lib.hid hbad
            clear hbad
            have hno : ∀ h : 0 ≤ x, x < (f.have_.length : Int) → (!cntB y) = false → False := by
              intro a b c; apply HB.out; simp [cntB] at c; exact ⟨a, b, c.1, c.2⟩
            have HN := Lib.hid hno
            clear hno
            go_wp2_with (first | (go_at_call 100; refine (count_any _ _).mono ?_; rintro e w' ⟨rfl, rfl⟩))
            all_goals first | (go_ret; go_light; exact ⟨ret_bool (unsound_slot hx.out HB.out), (hb0.alloc (by omega) _)⟩) | (exfalso; rename_i hlast; exact HN.out hlast.1.1 hlast.1.2 hlast.2)
        · go_wp2
          go_ret
          go_light
          exact ⟨ret_bool (sound_all hd'.out (by have := Hq.out; omega) (by omega) hup hup2 hap), hb0⟩

set_option maxHeartbeats 2000000 in
theorem fork_any (f g : Fl) (A A' B B' : Option Addr) (cA cA' cB cB' N : Nat) (w : World) (hN : N ≤ w.heap.size)
    (hA : RowAt w N 2 eSlot A f.slots) (hA' : RowAt w N 2 eSlot A' g.slots)
    (hf0 : 0 ≤ f.base) (hf1 : f.base ≤ 4611686018427387904) (hg0 : 0 ≤ g.base) (hg1 : g.base ≤ 4611686018427387904) (hfl : f.slots.length ≤ 128) (hgl : g.slots.length ≤ 128) :
    Calls Try.prog 66 #[.agg (flc f.e f.l f.i f.c f.base A f.slots.length cA B f.have_.length cB), .agg (flc g.e g.l g.i g.c g.base A' g.slots.length cA' B' g.have_.length cB')] w
      fun x w' => x = .returned (.bool (forkB f g)) ∧ Below w.heap.size w w' := by
  have heq := run_eql_slot
  go_enter Try.func66, Try.ntmps66
  go_wp2
  go_loopw [5] (fun k wr => ∃ q : Nat, k = .int .i64 q ∧ q ≤ f.slots.length ∧ (∀ i, i < q → calmAt f g i g.slots.length) ∧ Below (w.heap.size + 2) (box2 w (flc f.e f.l f.i f.c f.base A f.slots.length cA B f.have_.length cB) 39 (flc g.e g.l g.i g.c g.base A' g.slots.length cA' B' g.have_.length cB') 39) wr) (fun k _ => f.slots.length - (intOf k).toNat)
  case atStart => exact ⟨0, rfl, by omega, by intro i hi; omega, Below.refl _ _⟩
  case round =>
    obtain ⟨q, rfl, hq, hcalm, hb⟩ := hrel
    obtain ⟨hbw, hc, hc', -, -, hsz, hsz2⟩ := box2_facts hb
    by_cases hlt : q < f.slots.length
    · go_wp2
      clear hbw hc hc' hsz hsz2
      go_loopw [6] (fun k wr => ∃ p : Nat, k = .int .i64 p ∧ p ≤ g.slots.length ∧ calmAt f g q p ∧ Below (w.heap.size + 2) (box2 w (flc f.e f.l f.i f.c f.base A f.slots.length cA B f.have_.length cB) 39 (flc g.e g.l g.i g.c g.base A' g.slots.length cA' B' g.have_.length cB') 39) wr) (fun k _ => g.slots.length - (intOf k).toNat)
      case atStart => exact ⟨0, rfl, by omega, by intro j s t hj; omega, hb⟩
      case round =>
        obtain ⟨p, rfl, hp, hcp, hb⟩ := hrel
        obtain ⟨hbw, hc, hc', -, -, hsz, hsz2⟩ := box2_facts hb
        by_cases hltp : p < g.slots.length
        · obtain ⟨g1, o1, x, y, rfl, hg1, hx1, k1, k2⟩ := (hA.below hbw hN).slot hlt
          obtain ⟨g2, o2, x', y', rfl, hg2, hx2, k3, k4⟩ := (hA'.below hbw hN).slot hltp
          have hw1 : g1 < wr.heap.size := by omega
          have hw2 : g2 < wr.heap.size := by omega
          have HC := Lib.hid hcalm
          clear hA hA' hcalm
          go_wp2
          go_quiet (fail)
          go_wp2
          · go_ret
            go_light
            exact ⟨ret_bool (forkB_yes hx1.out hx2.out (by assumption)), below_drewN hbw _⟩
          · go_roundw
            case rel => go_light; exact ⟨p + 1, by go_num, by omega, calmAt_succ hcp hx1.out hx2.out (by assumption), below_drewN hb _⟩
            case measure => go_light; simp [intOf]; omega
        · go_wp2
          go_roundw
          case rel =>
            go_light
            refine ⟨q + 1, by go_num, by omega, fun i hi => ?_, hb⟩
            by_cases hiq : i = q
            · subst hiq
              have hpe : p = g.slots.length := by omega
              rw [← hpe]; exact hcp
            · exact hcalm i (by omega)
          case measure => go_light; simp [intOf]; omega
    · go_wp2
      go_ret
      go_light
      exact ⟨ret_bool (forkB_no hcalm (by omega)), hbw⟩
end Go.Proofs.Ytcffhfcjfjfokaa
/- Whether two contents are alike, and the greatest base: what the law's and the document's small loops answer. -/
namespace Go.Proofs.Ytcffhfcjfjfokaa
open Go.RowKit

theorem same_ne1 {s s' : List (Int × Int)} {h h' : List Int} {q : Nat} {x y x' y' : Int} (h1 : s[q]? = some (x, y)) (h2 : s'[q]? = some (x', y')) (hn : (!slotEq x y x' y') = true) : false = decide (s = s' ∧ h = h') := by
  symm; rw [decide_eq_false_iff_not]; rintro ⟨rfl, _⟩
  rw [h1] at h2; cases h2
  simp [slotEq] at hn
theorem same_ne2 {s s' : List (Int × Int)} {h h' : List Int} {q : Nat} {x x' : Int} (h1 : h[q]? = some x) (h2 : h'[q]? = some x') (hn : (x != x') = true) : false = decide (s = s' ∧ h = h') := by
  symm; rw [decide_eq_false_iff_not]; rintro ⟨_, rfl⟩
  rw [h1] at h2; cases h2
  simp at hn
set_option maxHeartbeats 2000000 in
theorem same_yes (e l i c b : Int) (s s' : List (Int × Int)) (h h' : List Int) (A A' B B' : Option Addr) (cA cA' cB cB' n m N : Nat) (w : World) (hN : N ≤ w.heap.size)
    (hA : RowAt w N 2 eSlot A s) (hA' : RowAt w N 2 eSlot A' s') (hB : RowAt w N 1 eInt B h) (hB' : RowAt w N 1 eInt B' h') (hl1 : n ≤ 9223372036854775807) (hl2 : m ≤ 9223372036854775807)
    (hn : s.length = n) (hn' : s'.length = n) (hm : h.length = m) (hm' : h'.length = m) :
  Calls Try.prog 64 #[.agg (flc e l i c b A n cA B m cB), .agg (flc e l i c b A' n cA' B' m cB')] w
    fun e w' => e = .returned (.bool (decide (s = s' ∧ h = h'))) ∧ Below w.heap.size w w' := by
  have hne := run_neq_slot
  have hnv := run_neq_vid
  have hve : vidEq e l i c e l i c = true := by simp [vidEq]
  replace hn := Lib.hid hn
  replace hn' := Lib.hid hn'
  replace hm := Lib.hid hm
  replace hm' := Lib.hid hm'
  go_enter Try.func64, Try.ntmps64
  go_wp2
  clear hve
  go_loopw [5] (fun k wr => ∃ q : Nat, k = .int .i64 q ∧ q ≤ n ∧ agree s s' q ∧ Below (w.heap.size + 2) (box2 w (flc e l i c b A n cA B m cB) 39 (flc e l i c b A' n cA' B' m cB') 39) wr) (fun k _ => n - (intOf k).toNat)
  case atStart => exact ⟨0, rfl, by omega, agree_zero _ _, Below.refl _ _⟩
  case round =>
    obtain ⟨q, rfl, hq, hag, hb⟩ := hrel
    obtain ⟨hbw, hc, hc', -, -, hsz⟩ := box2_facts hb
    by_cases hlt : q < n
    · obtain ⟨g1, o1, x, y, rfl, hg1, hx1, k1, k2⟩ := (hA.below hbw hN).slot (k := q) (by rw [hn.out]; exact hlt)
      obtain ⟨g2, o2, x', y', rfl, hg2, hx2, k3, k4⟩ := (hA'.below hbw hN).slot (k := q) (by rw [hn'.out]; exact hlt)
      clear hA hA' hB hB'
      go_wp2
      go_quiet (fail)
      go_wp2
      · go_ret
        go_light
        exact ⟨ret_bool (same_ne1 hx1.out hx2.out (by assumption)), below_drewN hbw _⟩
      · go_roundw
        case rel => go_light; exact ⟨q + 1, by go_num, by omega, agree_succ hag (by rw [hx1.out, hx2.out]; have := slotEq_iff (s := (x, y)) (t := (x', y')); simp_all), below_drewN hb _⟩
        case measure => go_light; simp [intOf]; omega
    · go_wp2
      have Hq : Hid (q = n) := by show q = n; omega
      clear hlt hq hbw hc hc' hsz
      go_loopw [6] (fun k wr => ∃ q : Nat, k = .int .i64 q ∧ q ≤ m ∧ agree h h' q ∧ Below (w.heap.size + 2) (box2 w (flc e l i c b A n cA B m cB) 39 (flc e l i c b A' n cA' B' m cB') 39) wr) (fun k _ => m - (intOf k).toNat)
      case atStart => exact ⟨0, rfl, by omega, agree_zero _ _, hb⟩
      case round =>
        obtain ⟨q', rfl, hq', hag', hb⟩ := hrel
        obtain ⟨hbw, hc, hc', -, -, hsz⟩ := box2_facts hb
        by_cases hlt : q' < m
        · obtain ⟨g1, o1, x, rfl, hg1, hx1, k1⟩ := (hB.below hbw hN).int (k := q') (by rw [hm.out]; exact hlt)
          obtain ⟨g2, o2, x', rfl, hg2, hx2, k2⟩ := (hB'.below hbw hN).int (k := q') (by rw [hm'.out]; exact hlt)
          clear hA hA' hB hB'
          go_wp2
          go_quiet (fail)
          go_wp2
          · go_ret
            go_light
            exact ⟨ret_bool (same_ne2 hx1.out hx2.out (by assumption)), below_drewN hbw _⟩
          · go_roundw
            case rel => go_light; exact ⟨q' + 1, by go_num, by omega, agree_succ hag' (by rw [hx1.out, hx2.out]; simp_all), below_drewN hb _⟩
            case measure => go_light; simp [intOf]; omega
        · go_wp2
          go_ret
          go_light
          exact ⟨ret_bool (by symm; rw [decide_eq_true_eq]; exact ⟨agree_all hag (by rw [hn.out, Hq.out]) (by rw [hn'.out, Hq.out]), agree_all hag' (by rw [hm.out]; omega) (by rw [hm'.out]; omega)⟩), hbw⟩

set_option maxHeartbeats 2000000 in
theorem base_any (A : Option Addr) (cA N : Nat) (fs : List Fl) (w : World) (hA : Fls w N A fs) (hl : fs.length ≤ 9223372036854775807) :
    Calls Try.prog 30 #[.slice A fs.length cA] w fun x w' => x = .returned (.int .i64 (baseOf fs)) ∧ w = w' := by
  go_enter Try.func30, Try.ntmps30
  go_wp2
  go_loop [3, 4] (fun b k => ∃ q : Nat, k = .int .i64 q ∧ q ≤ fs.length ∧ b = .int .i64 (baseTo fs q)) (fun _ k => fs.length - (intOf k).toNat)
  case atStart => exact ⟨0, rfl, by omega, by simp [baseTo]⟩
  case round =>
    obtain ⟨q, rfl, hq, rfl⟩ := hrel
    by_cases hlt : q < fs.length
    · obtain ⟨g, o, f, X, cX, Y, cY, rfl, hg, hf, ⟨c0, c1, c2, c3, c4, c5, c6⟩, -⟩ := hA.at_ hlt
      clear hA
      go_wp2
      all_goals
        go_round
        case rel => go_light; exact ⟨q + 1, by go_num, by omega, by rw [baseTo_succ hf.out]; first | rw [if_pos (by assumption)] | rw [if_neg (by omega)]⟩
        case measure => go_light; simp [intOf]; omega
    · go_wp2
      go_ret
      go_light
      exact ⟨ret_int (by rw [baseTo_all fs (by omega)]), rfl⟩
end Go.Proofs.Ytcffhfcjfjfokaa
