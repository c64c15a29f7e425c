/- Lib Spec Base Small Twin Fresh StepApp KeepApp EngA, joined. -/
import Derived.WalkKit
import Derived.WalkLawsBesides
import Derived.WalkSpells
import Derived.Deep.Draws
import Derived.Deep.QuietTactic
import Derived.BigQuiet
import Derived.Lib.Hide
import Derived.Deep.Light
import Derived.Maps.AppendAt
import Derived.Deep.AppendLies
import Derived.Test.YtcffhfcjfjfokaaProg
import Derived.StillTailTactics
import Derived.Deep.RegionHeld3
import Derived.Deep.MidRow
import Derived.RegionTactic
import Derived.Deep.WholeRow
import Derived.Test.YtcffhfcjfjfokaaSu2
set_option linter.unusedVariables false
set_option linter.unusedSimpArgs false
namespace Go.Proofs.Ytcffhfcjfjfokaa
open Go.RowKit
def RowAt {α : Type} (w : World) (N sz : Nat) (enc : α → List Value) (A : Option Addr) (l : List α) : Prop :=
  0 < l.length → ∃ b off, A = some ⟨b, off, none⟩ ∧ b < N ∧ ∀ k x, l[k]? = some x → ∀ j u, (enc x)[j]? = some u → w.cell? ⟨b, off + k * sz + j, none⟩ = some u
section
variable {α : Type} {w w' : World} {N N' sz : Nat} {enc : α → List Value} {A : Option Addr} {l : List α}
theorem RowAt.more (h : RowAt w N sz enc A l) (hN : N ≤ N') : RowAt w N' sz enc A l := fun h0 => by
  obtain ⟨b, off, e, hb, hc⟩ := h h0
  exact ⟨b, off, e, by omega, hc⟩
theorem RowAt.keep (h : RowAt w N sz enc A l) (hk : ∀ b o, b < N → w'.cell? ⟨b, o, none⟩ = w.cell? ⟨b, o, none⟩) : RowAt w' N sz enc A l := fun h0 => by
  obtain ⟨b, off, e, hb, hc⟩ := h h0
  exact ⟨b, off, e, hb, fun k x hx j u hu => (hk _ _ hb).trans (hc k x hx j u hu)⟩
theorem RowAt.below (h : RowAt w N sz enc A l) (hb : Below N' w w') (hN : N ≤ N') : RowAt w' N sz enc A l :=
  h.keep fun b o hlt => hb.cell (p := ⟨b, o, none⟩) (by show b < N'; omega)
end
def eInt (n : Int) : List Value := [.int .i64 n]
def eSlot (s : Int × Int) : List Value := [.int .i64 s.1, .int .i64 s.2]
section
variable {w w' : World} {N N' : Nat} {A : Option Addr}
theorem RowAt.int {l : List Int} (h : RowAt w N 1 eInt A l) {k : Nat} (hk : k < l.length) :
    ∃ b off x, A = some ⟨b, off, none⟩ ∧ b < N ∧ Hid (l[k]? = some x) ∧ w.cell? ⟨b, off + k, none⟩ = some (.int .i64 x) := by
  obtain ⟨b, off, e, hb, hc⟩ := h (by omega)
  exact ⟨b, off, l[k], e, hb, List.getElem?_eq_getElem hk, by simpa using hc k l[k] (List.getElem?_eq_getElem hk) 0 _ rfl⟩
theorem RowAt.slot {l : List (Int × Int)} (h : RowAt w N 2 eSlot A l) {k : Nat} (hk : k < l.length) :
    ∃ b off x y, A = some ⟨b, off, none⟩ ∧ b < N ∧ Hid (l[k]? = some (x, y)) ∧ w.cell? ⟨b, off + k * 2, none⟩ = some (.int .i64 x) ∧ w.cell? ⟨b, off + k * 2 + 1, none⟩ = some (.int .i64 y) := by
  obtain ⟨b, off, e, hb, hc⟩ := h (by omega)
  have h0 := hc k l[k] (List.getElem?_eq_getElem hk) 0 _ rfl
  have h1 := hc k l[k] (List.getElem?_eq_getElem hk) 1 _ rfl
  exact ⟨b, off, l[k].1, l[k].2, e, hb, List.getElem?_eq_getElem hk, by simpa using h0, by simpa using h1⟩
end
theorem bcell {B : Nat} {W w1 : World} (hb : Below B W w1) : (∀ b o, b < B → w1.cell? ⟨b, o, none⟩ = W.cell? ⟨b, o, none⟩) ∧ (∀ b o, b < B → w1.frozen? ⟨b, o, none⟩ = W.frozen? ⟨b, o, none⟩) :=
  ⟨fun b o h => hb.cell (p := ⟨b, o, none⟩) h, fun b o h => hb.frozen (p := ⟨b, o, none⟩) h⟩
theorem below_drewN {B : Nat} {a w : World} (h : Below B a w) (n : Nat) : Below B a (w.drewN n) := ⟨h.os, h.tape, h.output, h.size, h.block⟩
abbrev box1 (w : World) (x : Array Value) (t : TypeId) : World := w.alloc (.cells x t)
abbrev box2 (w : World) (x : Array Value) (t : TypeId) (y : Array Value) (u : TypeId) : World := (w.alloc (.cells x t)).alloc (.cells y u)
theorem below_box1 (w : World) (x : Array Value) (t : TypeId) : Below w.heap.size w (box1 w x t) := (Below.refl _ _).alloc (Nat.le_refl _) _
theorem below_box2 (w : World) (x : Array Value) (t : TypeId) (y : Array Value) (u : TypeId) : Below w.heap.size w (box2 w x t y u) := ((Below.refl _ _).alloc (Nat.le_refl _) _).alloc (by simp) _
theorem box1_facts {w wr : World} {x : Array Value} {t : TypeId} (hb : Below (w.heap.size + 1) (box1 w x t) wr) :
    Below w.heap.size w wr ∧ (∀ i, wr.cell? ⟨w.heap.size, i, none⟩ = x[i]?) ∧ (∀ i, wr.frozen? ⟨w.heap.size, i, none⟩ = false) ∧ w.heap.size < wr.heap.size := by
  refine ⟨(below_box1 w x t).trans (hb.mono (by omega)), fun i => ?_, fun i => ?_, by have := hb.size; simp at this; omega⟩
  · rw [hb.cell (p := ⟨w.heap.size, i, none⟩) (by show w.heap.size < _; omega)]
    exact World.cell?_alloc_at _ _ _ _ rfl
  · rw [hb.frozen (p := ⟨w.heap.size, i, none⟩) (by show w.heap.size < _; omega)]
    exact World.frozen?_alloc_at _ _ _ _ rfl
theorem box2_facts {w wr : World} {x y : Array Value} {t u : TypeId} (hb : Below (w.heap.size + 2) (box2 w x t y u) wr) :
    Below w.heap.size w wr ∧ (∀ i, wr.cell? ⟨w.heap.size, i, none⟩ = x[i]?) ∧ (∀ i, wr.cell? ⟨w.heap.size + 1, i, none⟩ = y[i]?) ∧
      (∀ i, wr.frozen? ⟨w.heap.size, i, none⟩ = false) ∧ (∀ i, wr.frozen? ⟨w.heap.size + 1, i, none⟩ = false) ∧ w.heap.size < wr.heap.size ∧ w.heap.size + 1 < wr.heap.size := by
  refine ⟨(below_box2 w x t y u).trans (hb.mono (by omega)), fun i => ?_, fun i => ?_, fun i => ?_, fun i => ?_, by have := hb.size; simp at this; omega, by have := hb.size; simp at this; omega⟩
  · rw [hb.cell (p := ⟨w.heap.size, i, none⟩) (by show w.heap.size < _; omega)]
    rw [World.cell?_alloc_past _ _ _ (by simp)]
    exact World.cell?_alloc_at _ _ _ _ rfl
  · rw [hb.cell (p := ⟨w.heap.size + 1, i, none⟩) (by show w.heap.size + 1 < _; omega)]
    exact World.cell?_alloc_at _ _ _ _ (by simp)
  · rw [hb.frozen (p := ⟨w.heap.size, i, none⟩) (by show w.heap.size < _; omega)]
    rw [World.frozen?_alloc_past _ _ _ (by simp)]
    exact World.frozen?_alloc_at _ _ _ _ rfl
  · rw [hb.frozen (p := ⟨w.heap.size + 1, i, none⟩) (by show w.heap.size + 1 < _; omega)]
    exact World.frozen?_alloc_at _ _ _ _ (by simp)
theorem ret_bool {a b : Bool} (h : a = b) : Ending.returned (.bool a) = .returned (.bool b) := by rw [h]
def agree {α : Type} (l m : List α) (k : Nat) : Prop := ∀ j, j < k → l[j]? = m[j]?
theorem agree_zero {α : Type} (l m : List α) : agree l m 0 := by intro j hj; omega
theorem agree_succ {α : Type} {l m : List α} {k : Nat} (h : agree l m k) (e : l[k]? = m[k]?) : agree l m (k + 1) := by
  intro j hj
  by_cases hk : j = k
  · rw [hk]; exact e
  · exact h j (by omega)
theorem agree_all {α : Type} {l m : List α} {n : Nat} (h : agree l m n) (hl : l.length = n) (hm : m.length = n) : l = m := by
  apply List.ext_getElem?
  intro j
  by_cases hj : j < n
  · exact h j hj
  · rw [List.getElem?_eq_none (by omega), List.getElem?_eq_none (by omega)]
structure Fl where
  e : Int
  l : Int
  i : Int
  c : Int
  base : Int
  slots : List (Int × Int)
  have_ : List Int
def FlAt (w : World) (N b o : Nat) (f : Fl) (X : Option Addr) (cX : Nat) (Y : Option Addr) (cY : Nat) : Prop :=
  w.cell? ⟨b, o, none⟩ = some (.int .i64 f.e) ∧ w.cell? ⟨b, o + 1, none⟩ = some (.int .i64 f.l) ∧ w.cell? ⟨b, o + 2, none⟩ = some (.int .i64 f.i) ∧ w.cell? ⟨b, o + 3, none⟩ = some (.int .i64 f.c) ∧
  w.cell? ⟨b, o + 4, none⟩ = some (.int .i64 f.base) ∧ w.cell? ⟨b, o + 5, none⟩ = some (.slice X f.slots.length cX) ∧ w.cell? ⟨b, o + 6, none⟩ = some (.slice Y f.have_.length cY)
structure FlRows (w : World) (N : Nat) (f : Fl) (X : Option Addr) (cX : Nat) (Y : Option Addr) (cY : Nat) : Prop where
  slots : RowAt w N 2 eSlot X f.slots
  have_ : RowAt w N 1 eInt Y f.have_
  lenS : f.slots.length ≤ cX
  capS : cX ≤ 9223372036854775807
  lenH : f.have_.length ≤ cY
  capH : cY ≤ 9223372036854775807
theorem FlRows.below {w w' : World} {N N' : Nat} {f : Fl} {X Y : Option Addr} {cX cY : Nat} (h : FlRows w N f X cX Y cY) (hb : Below N' w w') (hN : N ≤ N') : FlRows w' N f X cX Y cY :=
  ⟨h.slots.below hb hN, h.have_.below hb hN, h.lenS, h.capS, h.lenH, h.capH⟩
theorem FlRows.more {w : World} {N N' : Nat} {f : Fl} {X Y : Option Addr} {cX cY : Nat} (h : FlRows w N f X cX Y cY) (hN : N ≤ N') : FlRows w N' f X cX Y cY :=
  ⟨h.slots.more hN, h.have_.more hN, h.lenS, h.capS, h.lenH, h.capH⟩
def Fls (w : World) (N : Nat) (A : Option Addr) (fs : List Fl) : Prop :=
  0 < fs.length → ∃ b off, A = some ⟨b, off, none⟩ ∧ b < N ∧ ∀ k f, fs[k]? = some f → ∃ X cX Y cY, FlAt w N b (off + k * 7) f X cX Y cY ∧ FlRows w N f X cX Y cY
theorem FlAt.below {w w' : World} {N N' b o : Nat} {f : Fl} {X Y : Option Addr} {cX cY : Nat} (h : FlAt w N b o f X cX Y cY) (hb : Below N' w w') (hN : b < N') : FlAt w' N b o f X cX Y cY := by
  have hc := fun o => hb.cell (p := ⟨b, o, none⟩) hN
  unfold FlAt at h ⊢
  simp only [hc]
  exact h
theorem Fls.below {w w' : World} {N N' : Nat} {A : Option Addr} {fs : List Fl} (h : Fls w N A fs) (hb : Below N' w w') (hN : N ≤ N') : Fls w' N A fs := fun h0 => by
  obtain ⟨b, off, e, hlt, hc⟩ := h h0
  refine ⟨b, off, e, hlt, fun k f hk => ?_⟩
  obtain ⟨X, cX, Y, cY, h1, h2⟩ := hc k f hk
  exact ⟨X, cX, Y, cY, h1.below hb (by omega), h2.below hb hN⟩
theorem Fls.more {w : World} {N N' : Nat} {A : Option Addr} {fs : List Fl} (h : Fls w N A fs) (hN : N ≤ N') : Fls w N' A fs := fun h0 => by
  obtain ⟨b, off, e, hlt, hc⟩ := h h0
  refine ⟨b, off, e, by omega, fun k f hk => ?_⟩
  obtain ⟨X, cX, Y, cY, h1, h2⟩ := hc k f hk
  exact ⟨X, cX, Y, cY, h1, h2.more hN⟩
theorem Fls.at_ {w : World} {N : Nat} {A : Option Addr} {fs : List Fl} (h : Fls w N A fs) {k : Nat} (hk : k < fs.length) :
    ∃ b off f X cX Y cY, A = some ⟨b, off, none⟩ ∧ b < N ∧ Hid (fs[k]? = some f) ∧ FlAt w N b (off + k * 7) f X cX Y cY ∧ FlRows w N f X cX Y cY := by
  obtain ⟨b, off, e, hlt, hc⟩ := h (by omega)
  obtain ⟨X, cX, Y, cY, h1, h2⟩ := hc k fs[k] (List.getElem?_eq_getElem hk)
  exact ⟨b, off, fs[k], X, cX, Y, cY, e, hlt, List.getElem?_eq_getElem hk, h1, h2⟩
def blk (A : Option Addr) : Option Nat := A.map (·.block)
def Owns {α : Type} (w : World) (base : Nat) (e : TypeId) (sz : Nat) (enc : α → List Value) (A : Option Addr) (c : Nat) (l : List α) : Prop :=
  w.ownsRow base e sz (.slice A l.length c) l.length (l.flatMap enc)
theorem flatMap_at {α : Type} {enc : α → List Value} {sz : Nat} (hsz : ∀ x, (enc x).length = sz) : ∀ (l : List α) (k r : Nat) (x : α) (u : Value), l[k]? = some x → (enc x)[r]? = some u → (l.flatMap enc)[k * sz + r]? = some u
  | [], k, r, x, u, h, _ => by simp at h
  | y :: l, 0, r, x, u, h, hu => by
    simp at h; subst h
    have hr : r < (enc y).length := (List.getElem?_eq_some_iff.1 hu).1
    rw [List.flatMap_cons, List.getElem?_append_left (by omega)]
    simpa using hu
  | y :: l, k + 1, r, x, u, h, hu => by
    rw [List.flatMap_cons, List.getElem?_append_right (by rw [hsz, Nat.add_mul]; omega)]
    have := flatMap_at hsz l k r x u (by simpa using h) hu
    rw [hsz]
    rw [show (k + 1) * sz + r - sz = k * sz + r by rw [Nat.add_mul]; omega]
    exact this
theorem flatMap_of {α : Type} {enc : α → List Value} {sz : Nat} (hsz : ∀ x, (enc x).length = sz) : ∀ (l : List α) (j : Nat) (u : Value), (l.flatMap enc)[j]? = some u → ∃ k r x, l[k]? = some x ∧ (enc x)[r]? = some u ∧ j = k * sz + r
  | [], j, u, h => by simp at h
  | y :: l, j, u, h => by
    rw [List.flatMap_cons] at h
    by_cases hj : j < (enc y).length
    · rw [List.getElem?_append_left hj] at h
      exact ⟨0, j, y, by simp, h, by simp⟩
    · rw [List.getElem?_append_right (by omega)] at h
      obtain ⟨k, r, x, hk, hr, e⟩ := flatMap_of hsz l _ u h
      refine ⟨k + 1, r, x, by simpa using hk, hr, ?_⟩
      rw [hsz] at e hj
      rw [Nat.add_mul]; omega
theorem length_flat {α : Type} {enc : α → List Value} {sz : Nat} (hsz : ∀ x, (enc x).length = sz) : ∀ (l : List α), (l.flatMap enc).length = l.length * sz
  | [] => by simp
  | y :: l => by rw [List.flatMap_cons, List.length_append, length_flat hsz l, hsz, List.length_cons, Nat.add_mul]; omega
section
variable {α : Type} {w w' : World} {base N sz : Nat} {e : TypeId} {enc : α → List Value} {A : Option Addr} {c : Nat} {l : List α}
theorem Owns.row (h : Owns w base e sz enc A c l) (hsz : ∀ x, (enc x).length = sz) : RowAt w w.heap.size sz enc A l := fun h0 => by
  obtain ⟨g, cap, hv, _, hg⟩ := World.ownsRow.form h h0
  have hA : A = some ⟨g, 0, none⟩ := by injection hv
  refine ⟨g, 0, hA, hg, fun k x hk j u hu => ?_⟩
  have := World.ownsRow.cells h (g := g) (by rw [hA]; rfl) (k * sz + j) u (flatMap_at hsz l k j x u hk hu)
  rw [Addr.add_lit, ← Nat.add_assoc] at this; exact this
theorem Owns.len (h : Owns w base e sz enc A c l) : l.length ≤ c ∧ c ≤ 9223372036854775807 := by
  rcases h.2 with ⟨hv, h0⟩ | ⟨g, cap, cur, hv, _, _, h1, h2, _⟩
  · injection hv with _ _ hc; omega
  · injection hv with _ _ hc; unfold maxLen at h2; omega
theorem Owns.lo (h : Owns w base e sz enc A c l) : ∀ k, blk A = some k → base ≤ k ∧ k < w.heap.size := fun k hk => by
  refine World.ownsRow.lt h k ?_
  cases A with
  | none => cases hk
  | some a => exact hk
theorem own_blk (A : Option Addr) (n c : Nat) : (Value.slice A n c).ownBlock = blk A := by cases A <;> rfl
theorem Owns.kept {row : Option Nat} (h : Owns w base e sz enc A c l) (hg : w.grownBy w' row) (hne : blk A = none ∨ blk A ≠ row) : Owns w' base e sz enc A c l :=
  World.ownsRow.kept h hg (by rw [own_blk]; exact hne)
theorem Owns.alloc (h : Owns w base e sz enc A c l) (o : Obj) : Owns (w.alloc o) base e sz enc A c l := World.ownsRow.alloc h o
theorem Owns.keep {B : Nat} (h : Owns w base e sz enc A c l) (hb : Below B w w') (hB : ∀ k, blk A = some k → k < B) : Owns w' base e sz enc A c l := by
  refine ⟨h.1, ?_⟩
  rcases h.2 with h2 | ⟨g, cap, cur, hv, hbase, hh, hr⟩
  · exact .inl h2
  · refine .inr ⟨g, cap, cur, hv, hbase, ?_, hr⟩
    have hA : A = some ⟨g, 0, none⟩ := by injection hv
    rw [hb.block g (hB g (by rw [hA]; rfl))]; exact hh
theorem owns_nil (w : World) (base : Nat) (e : TypeId) (sz : Nat) (enc : α → List Value) : Owns w base e sz enc none 0 [] := World.ownsRow_nil w base e sz
theorem owns_empty (w : World) (base : Nat) (e : TypeId) (sz : Nat) (enc : α → List Value) (hb : base ≤ w.heap.size) : Owns (w.alloc (.cells #[] e)) base e sz enc (some ⟨w.heap.size, 0, none⟩) 0 [] :=
  World.ownsRow_made w #[] 0 hb (Nat.zero_le _) (by simp)
theorem Owns.ne {e' : TypeId} {α' : Type} {sz' base' c' : Nat} {enc' : α' → List Value} {A' : Option Addr} {l' : List α'} (h : Owns w base e sz enc A c l) (h' : Owns w base' e' sz' enc' A' c' l') (he : e ≠ e') : blk A = none ∨ blk A ≠ blk A' := by
  rcases h.2 with ⟨hv, _⟩ | ⟨g, cap, cur, hv, _, hh, _⟩
  · left; injection hv with hA; rw [hA]; rfl
  · rcases h'.2 with ⟨hv', _⟩ | ⟨g', cap', cur', hv', _, hh', _⟩
    · right; injection hv with hA; injection hv' with hA'; rw [hA, hA']; simp [blk]
    · right; injection hv with hA; injection hv' with hA'
      intro hb
      rw [hA, hA'] at hb
      have hgg : g = g' := by simpa [blk] using hb
      subst hgg
      rw [hh] at hh'; injection hh' with hh'; injection hh' with _ he'; exact he he'
theorem row_new (w : World) (e : TypeId) (sz : Nat) (enc : α → List Value) (x : α) (cs : Array Value) (hcs : cs.toList = enc x) : RowAt (w.alloc (.cells cs e)) (w.heap.size + 1) sz enc (some ⟨w.heap.size, 0, none⟩) [x] := fun _ => by
  refine ⟨w.heap.size, 0, rfl, by omega, fun k y hk j u hu => ?_⟩
  cases k with
  | succ k => simp at hk
  | zero =>
    simp at hk; subst hk
    rw [World.cell?_alloc_at _ _ _ _ rfl, ← hcs] at *
    simpa using hu
end
section
variable {P : Program} (w : World)
theorem wpList_append_rows {α : Type} {ops : Array Oper} {rest : List Oper} {o : Oper} {a : Act} {Q : Exit → Act → World → Prop} (hgd : o.guard = none) (s x : Operand) (t : TypeId)
    (ho : o.op = .call { callee := .builtin .append, args := #[s, x], argTypes := #[t, t] })
    (base : Nat) (e : TypeId) (sz bytes : Nat) (z : Value) (ht : P.underlying t = some (.slice e)) (hinfo : (P.info? e).map (fun i => (i.zero, i.size, i.bytes)) = some (some z, sz, bytes))
    (hzs : z.cells.size = sz) (hsz : 0 < sz) (enc : α → List Value) (henc : ∀ x, (enc x).length = sz) (hone : ∀ x, ∀ u ∈ enc x, u.oneCell' = true)
    (A : Option Addr) (c : Nat) (xs : List α) (B : Option Addr) (cB N n m : Nat) (l : List α) (hs : a.eval s = .slice A n c) (hx : a.eval x = .slice B m cB)
    (hn : xs.length = n) (hm : l.length = m)
    (hown : Owns w base e sz enc A c xs) (hr : RowAt w N sz enc B l)
    (h63 : n + m ≤ 9223372036854775807) (hbytes : (n + m) * bytes ≤ 140737488355328) (hbase : base ≤ w.heap.size)
    (h : ∀ A' c' w', Owns w' base e sz enc A' c' (xs ++ l) → w.grownBy w' (blk A) → (blk A' = blk A ∨ blk A' = some w.heap.size) → wpList P ops Q rest (a.put o.dst (.slice A' (n + m) c')) w') : wpList P ops Q (o :: rest) a w := by
  subst hn hm
  obtain ⟨i, hi, hz, hsize, hby⟩ := info_parts hinfo
  have key : ∃ v' w', (Builtin.append_ #[t, t] o.type #[.slice A xs.length c, .slice B l.length cB]).run P w = .ok v' w' ∧ w'.ownsRow base e sz v' (xs.length + l.length) ((xs ++ l).flatMap enc) ∧ w.grownBy w' (blk A) ∧ (v'.ownBlock = blk A ∨ v'.ownBlock = some w.heap.size) := by
    by_cases h0 : 0 < l.length
    · obtain ⟨b, off, rfl, hb, hc⟩ := hr h0
      obtain ⟨v', w', h1, h2, h3, _, h5⟩ := run_append_own_at (P := P) w base t o.type e i z sz bytes ht hi hz hsize hby hzs hsz (.slice A xs.length c) xs.length _ hown ⟨b, off, none⟩ l.length cB (l.flatMap enc)
        (length_flat henc l) (fun j u hu => by
          obtain ⟨k, r, x, hk, hr', rfl⟩ := flatMap_of henc l j u hu
          have := hc k x hk r u hr'
          by_cases hz0 : k * sz + r = 0
          · rw [hz0]; simp only [Addr.add, if_true]
            have e0 : off + k * sz + r = off := by omega
            rw [e0] at this; exact this
          · simp only [Addr.add, if_neg hz0]
            rw [← Nat.add_assoc]; exact this)
        (fun u hu => by obtain ⟨x, _, hux⟩ := List.mem_flatMap.1 hu; exact hone x u hux) h63 hbytes hbase
      rw [own_blk] at h3 h5
      exact ⟨v', w', h1, by rw [List.flatMap_append]; exact h2, h3, h5⟩
    · have hl : l = [] := List.eq_nil_of_length_eq_zero (by omega)
      subst hl
      cases B with
      | none =>
        refine ⟨.slice A xs.length c, w, ?_, by simp only [List.length_nil, Nat.add_zero, List.append_nil]; exact hown, World.grownBy.refl w _, .inl (own_blk _ _ _)⟩
        rcases hown.2 with ⟨hv, _⟩ | ⟨g, cap, cur, hv, _, _, hnc, _⟩
        · rw [hv]; simp [Builtin.append_, run_underlying ht, sizeOf, typeInfo, hi, Builtin.lenOf, Builtin.firstCells]
        · rw [hv]; simp [Builtin.append_, run_underlying ht, sizeOf, typeInfo, hi, Builtin.lenOf, Builtin.firstCells, hnc, storeCells]
      | some ad =>
        obtain ⟨v', w', h1, h2, h3, _, h5⟩ := run_append_own_at (P := P) w base t o.type e i z sz bytes ht hi hz hsize hby hzs hsz (.slice A xs.length c) xs.length _ hown ad 0 cB []
          (by simp) (fun j u hu => by simp at hu) (fun u hu => by simp at hu) h63 hbytes hbase
        rw [own_blk] at h3 h5
        exact ⟨v', w', h1, by simpa using h2, h3, h5⟩
  obtain ⟨v', w', hrun, h2, h3, h4⟩ := key
  have hv : ∃ A' c', v' = .slice A' (xs.length + l.length) c' := by
    rcases h2.2 with ⟨hv, h0⟩ | ⟨g, cap, cur, hv, _⟩
    · exact ⟨none, 0, by rw [hv, h0]⟩
    · exact ⟨_, _, hv⟩
  obtain ⟨A', c', rfl⟩ := hv
  rw [own_blk] at h4
  refine wpList_plain hgd fun K hK => ?_
  unfold Oper.wp execOp
  simp only [ho, resolve, invoke, builtin, Sem.run_bind, Sem.run_pure, Result.andThen_ok, List.map_toArray, List.map_cons, List.map_nil, hs, hx, hrun]
  exact hK _ _ (h A' c' w' (by unfold Owns; rw [List.length_append]; exact h2) h3 h4)
end
end Go.Proofs.Ytcffhfcjfjfokaa
namespace Go.Proofs.Ytcffhfcjfjfokaa
def slotEq (a b c d : Int) : Bool := decide (a = c ∧ b = d)
def vidEq (a b c d a' b' c' d' : Int) : Bool := decide (a = a' ∧ b = b' ∧ c = c' ∧ d = d')
theorem slotEq_iff {s t : Int × Int} : slotEq s.1 s.2 t.1 t.2 = true ↔ s = t := by
  obtain ⟨a, b⟩ := s; obtain ⟨c, d⟩ := t; simp [slotEq]
def cntB (v : Int) : Bool := decide (1 ≤ v ∧ v ≤ 4611686018427387904)
def wholeB (e l i c : Int) : Bool := decide (1 ≤ e ∧ e ≤ 4611686018427387904 ∧ 1 ≤ i ∧ i ≤ 4611686018427387904 ∧ 1 ≤ c ∧ c ≤ 4611686018427387904 ∧ 0 ≤ l ∧ l < 16)
structure Sound (f : Fl) : Prop where
  whole : wholeB f.e f.l f.i f.c = true
  low : 1 ≤ f.have_.length
  high : f.have_.length ≤ 16
  held : f.slots.length ≤ 128
  base0 : 0 ≤ f.base
  base : f.base ≤ 4611686018427387904 - f.slots.length
  have0 : ∀ h ∈ f.have_, 0 ≤ h ∧ h ≤ 4611686018427387904
  slot : ∀ s ∈ f.slots, 0 ≤ s.1 ∧ s.1 < f.have_.length ∧ 1 ≤ s.2 ∧ s.2 ≤ 4611686018427387904
  nodup : f.slots.Nodup
def upto {α : Type} (p : α → Prop) (l : List α) (k : Nat) : Prop := ∀ j x, j < k → l[j]? = some x → p x
theorem upto_zero {α : Type} (p : α → Prop) (l : List α) : upto p l 0 := by intro j x hj; omega
theorem upto_succ {α : Type} {p : α → Prop} {l : List α} {k : Nat} (h : upto p l k) (e : ∀ x, l[k]? = some x → p x) : upto p l (k + 1) := by
  intro j x hj hx
  by_cases hk : j = k
  · subst hk; exact e x hx
  · exact h j x (by omega) hx
theorem upto_all {α : Type} {p : α → Prop} {l : List α} {k : Nat} (h : upto p l k) (hk : l.length ≤ k) : ∀ x ∈ l, p x := by
  intro x hx
  obtain ⟨j, hj, rfl⟩ := List.getElem_of_mem hx
  exact h j _ (by omega) (List.getElem?_eq_getElem hj)
theorem getD_some {α : Type} {l : List α} {k : Nat} {d x : α} (h : l[k]? = some x) : l[k]?.getD d = x := by rw [h]; rfl
def apartTo {α : Type} (l : List α) (k : Nat) : Prop := ∀ i j x y, i < j → j < k → l[i]? = some x → l[j]? = some y → x ≠ y
theorem apartTo_zero {α : Type} (l : List α) : apartTo l 0 := by intro i j x y _ hj; omega
theorem apartTo_succ {α : Type} {l : List α} {k : Nat} (h : apartTo l k) (e : upto (fun x => l[k]? ≠ some x) l k) : apartTo l (k + 1) := by
  intro i j x y hij hj hx hy
  by_cases hk : j = k
  · subst hk; intro he; subst he; exact e i x hij hx hy
  · exact h i j x y hij (by omega) hx hy
theorem nodup_of_apart {α : Type} {l : List α} {k : Nat} (h : apartTo l k) (hk : l.length ≤ k) : l.Nodup := by
  rw [List.nodup_iff_pairwise_ne, List.pairwise_iff_getElem]
  intro i j hi hj hij
  exact h i j _ _ hij (by omega) (List.getElem?_eq_getElem hi) (List.getElem?_eq_getElem hj)
theorem apart_of_nodup {α : Type} {l : List α} (h : l.Nodup) {i j : Nat} {x : α} (hij : i ≠ j) (hx : l[i]? = some x) : l[j]? ≠ some x := by
  intro hy
  obtain ⟨hi, rfl⟩ := List.getElem?_eq_some_iff.1 hx
  obtain ⟨hj, e⟩ := List.getElem?_eq_some_iff.1 hy
  exact hij ((List.getElem_inj h).1 e.symm)
open Classical in
noncomputable def soundB (f : Fl) : Bool := decide (Sound f)
theorem soundB_iff {f : Fl} : soundB f = true ↔ Sound f := by simp [soundB]
theorem soundB_no {f : Fl} : soundB f = false ↔ ¬ Sound f := by simp [soundB]
def SoundHead (f : Fl) : Prop := wholeB f.e f.l f.i f.c = true ∧ (1 : Int) ≤ f.have_.length ∧ (f.have_.length : Int) ≤ 16 ∧ (f.slots.length : Int) ≤ 128 ∧ 0 ≤ f.base ∧ f.base ≤ 4611686018427387904 - (f.slots.length : Int)
theorem sound_head {f : Fl} (h : ¬ SoundHead f) : false = soundB f := by
  symm; rw [soundB_no]; intro s
  exact h ⟨s.whole, by have := s.low; omega, by have := s.high; omega, by have := s.held; omega, s.base0, s.base⟩
def slotIn (n : Nat) (s : Int × Int) : Prop := 0 ≤ s.1 ∧ s.1 < n ∧ 1 ≤ s.2 ∧ s.2 ≤ 4611686018427387904
theorem unsound_have {f : Fl} {q : Nat} {x : Int} (hx : f.have_[q]? = some x) (h : x < 0 ∨ 4611686018427387904 < x) : false = soundB f := by
  symm; rw [soundB_no]; intro s
  have := s.have0 x (List.mem_of_getElem? hx); omega
theorem unsound_slot {f : Fl} {q : Nat} {x : Int × Int} (hx : f.slots[q]? = some x) (h : ¬ slotIn f.have_.length x) : false = soundB f := by
  symm; rw [soundB_no]; intro s
  exact h (s.slot x (List.mem_of_getElem? hx))
theorem unsound_twice {f : Fl} {p q : Nat} {x y : Int × Int} (hx : f.slots[q]? = some x) (hy : f.slots[p]? = some y) (hpq : p < q) (h : slotEq y.1 y.2 x.1 x.2 = true) : false = soundB f := by
  symm; rw [soundB_no]; intro s
  rw [slotEq_iff] at h; subst h
  exact apart_of_nodup s.nodup (by omega : p ≠ q) hy hx
theorem sound_all {f : Fl} (h : SoundHead f) {q p : Nat} (hq : f.have_.length ≤ q) (hp : f.slots.length ≤ p) (h1 : upto (fun x => 0 ≤ x ∧ x ≤ 4611686018427387904) f.have_ q) (h2 : upto (slotIn f.have_.length) f.slots p) (h3 : apartTo f.slots p) : true = soundB f := by
  symm; rw [soundB_iff]
  obtain ⟨a, b, c, d, e, g⟩ := h
  exact ⟨a, by omega, by omega, by omega, e, g, upto_all h1 hq, upto_all h2 hp, nodup_of_apart h3 hp⟩
end Go.Proofs.Ytcffhfcjfjfokaa
namespace Go.Proofs.Ytcffhfcjfjfokaa
open Go.RowKit
theorem run_eql_slot (w : World) (a b c d : Int) : (binOp .eql 66 (.agg #[.int .i64 a, .int .i64 b]) (.agg #[.int .i64 c, .int .i64 d])).run Try.prog w = .ok (.bool (slotEq a b c d)) w := by
  go_simp
  by_cases h1 : a = c <;> by_cases h2 : b = d <;> simp [slotEq, h1, h2]
theorem run_neq_slot (w : World) (a b c d : Int) : (binOp .neq 66 (.agg #[.int .i64 a, .int .i64 b]) (.agg #[.int .i64 c, .int .i64 d])).run Try.prog w = .ok (.bool (!slotEq a b c d)) w := by
  go_simp
  by_cases h1 : a = c <;> by_cases h2 : b = d <;> simp [slotEq, h1, h2]
theorem run_eql_vid (w : World) (a b c d a' b' c' d' : Int) : (binOp .eql 35 (.agg #[.int .i64 a, .int .i64 b, .int .i64 c, .int .i64 d]) (.agg #[.int .i64 a', .int .i64 b', .int .i64 c', .int .i64 d'])).run Try.prog w = .ok (.bool (vidEq a b c d a' b' c' d')) w := by
  go_simp
  by_cases h1 : a = a' <;> by_cases h2 : b = b' <;> by_cases h3 : c = c' <;> by_cases h4 : d = d' <;> simp [vidEq, h1, h2, h3, h4]
theorem run_neq_vid (w : World) (a b c d a' b' c' d' : Int) : (binOp .neq 35 (.agg #[.int .i64 a, .int .i64 b, .int .i64 c, .int .i64 d]) (.agg #[.int .i64 a', .int .i64 b', .int .i64 c', .int .i64 d'])).run Try.prog w = .ok (.bool (!vidEq a b c d a' b' c' d')) w := by
  go_simp
  by_cases h1 : a = a' <;> by_cases h2 : b = b' <;> by_cases h3 : c = c' <;> by_cases h4 : d = d' <;> simp [vidEq, h1, h2, h3, h4]
abbrev flc (e l i c b : Int) (A : Option Addr) (n cA : Nat) (B : Option Addr) (m cB : Nat) : Array Value := #[.int .i64 e, .int .i64 l, .int .i64 i, .int .i64 c, .int .i64 b, .slice A n cA, .slice B m cB]
end Go.Proofs.Ytcffhfcjfjfokaa
namespace Go.Proofs.Ytcffhfcjfjfokaa
open Go.RowKit
theorem whole1_any (n : Int) (w : World) : Calls Try.prog 120 #[.int .i64 n] w fun e w' => e = .returned (.bool (cntB n)) ∧ w = w' := by
  go_enter Try.func120, Try.ntmps120
  go_wp2
  all_goals (go_ret; go_light; exact ⟨ret_bool (by unfold cntB; simp; omega), rfl⟩)
theorem count_any (n : Int) (w : World) : Calls Try.prog 100 #[.int .i64 n] w fun e w' => e = .returned (.bool (cntB n)) ∧ w = w' := by
  go_enter Try.func100, Try.ntmps100
  go_wp2
  all_goals (go_ret; go_light; exact ⟨ret_bool (by unfold cntB; simp; omega), rfl⟩)
set_option maxHeartbeats 1000000 in
theorem whole_any (e l i c : Int) (w : World) : Calls Try.prog 118 #[.agg #[.int .i64 e, .int .i64 l, .int .i64 i, .int .i64 c]] w fun x w' => x = .returned (.bool (wholeB e l i c)) ∧ Below w.heap.size w w' := by
  have hbx := below_box1 w #[.int .i64 e, .int .i64 l, .int .i64 i, .int .i64 c] 35
  go_enter Try.func118, Try.ntmps118
  go_wp2_with (go_at_call 120; refine (whole1_any _ _).mono ?_; rintro e w' ⟨rfl, rfl⟩)
  all_goals (go_ret; go_light; refine ⟨ret_bool ?_, hbx⟩; clear hbx; simp_all [wholeB, cntB]; try omega)
set_option maxHeartbeats 1000000 in
theorem rwhole_any (e l i c : Int) (w : World) : Calls Try.prog 99 #[.agg #[.int .i64 e, .int .i64 l, .int .i64 i, .int .i64 c]] w fun x w' => x = .returned (.bool (wholeB e l i c)) ∧ Below w.heap.size w w' := by
  have hbx := below_box1 w #[.int .i64 e, .int .i64 l, .int .i64 i, .int .i64 c] 35
  go_enter Try.func99, Try.ntmps99
  go_wp2_with (go_at_call 100; refine (count_any _ _).mono ?_; rintro e w' ⟨rfl, rfl⟩)
  all_goals (go_ret; go_light; refine ⟨ret_bool ?_, hbx⟩; clear hbx; simp_all [wholeB, cntB]; try omega)
end Go.Proofs.Ytcffhfcjfjfokaa
namespace Go.Proofs.Ytcffhfcjfjfokaa
open Go.RowKit
theorem info66 : (Try.prog.info? 66).map (fun i => (i.zero, i.size, i.bytes)) = some (some (.agg #[.int .i64 0, .int .i64 0]), 2, 16) := by kernel_rfl
theorem info3 : (Try.prog.info? 3).map (fun i => (i.zero, i.size, i.bytes)) = some (some (.int .i64 0), 1, 8) := by kernel_rfl
theorem len_eSlot (x : Int × Int) : (eSlot x).length = 2 := rfl
theorem len_eInt (x : Int) : (eInt x).length = 1 := rfl
theorem one_eSlot (x : Int × Int) : ∀ u ∈ eSlot x, u.oneCell' = true := by intro u hu; simp [eSlot] at hu; rcases hu with rfl | rfl <;> rfl
theorem one_eInt (x : Int) : ∀ u ∈ eInt x, u.oneCell' = true := by intro u hu; simp [eInt] at hu; subst hu; rfl
theorem owns_empty_at {α : Type} (w : World) (base : Nat) (e : TypeId) (sz : Nat) (enc : α → List Value) {g : Nat} (hg : g = w.heap.size) (hb : base ≤ g) : Owns (w.alloc (.cells #[] e)) base e sz enc (some ⟨g, 0, none⟩) 0 [] := by
  subst hg; exact owns_empty w base e sz enc hb
theorem heap_set9 (w : World) (g : Nat) (v0 v1 v2 v3 v4 v5 v6 v7 v8 : Value) {b : Nat} (h : b ≠ g) : ((((((((((w.setCell ⟨g, 0, none⟩ v0).setCell ⟨g, 1, none⟩ v1).setCell ⟨g, 2, none⟩ v2).setCell ⟨g, 3, none⟩ v3).setCell ⟨g, 4, none⟩ v4).setCell ⟨g, 5, none⟩ v5).setCell ⟨g, 6, none⟩ v6).setCell ⟨g, 7, none⟩ v7).setCell ⟨g, 8, none⟩ v8)).drew.heap[b]? = w.heap[b]? := by
  rw [heap_drew]
  iterate 9 rw [Below.heap_setCell _ _ _ _ h]
theorem RowAt.blocks {α : Type} {w w' : World} {N sz : Nat} {enc : α → List Value} {A : Option Addr} {l : List α} (h : RowAt w N sz enc A l) (hb : ∀ k, blk A = some k → w'.heap[k]? = w.heap[k]?) : RowAt w' N sz enc A l := fun h0 => by
  obtain ⟨b, off, rfl, hlt, hc⟩ := h h0
  exact ⟨b, off, rfl, hlt, fun k x hk j v hv => (World.cell?_of_block (hb b rfl)).trans (hc k x hk j v hv)⟩
theorem below_set9 {B : Nat} {a w : World} {g : Nat} {v0 v1 v2 v3 v4 v5 v6 v7 v8 : Value} (h : Below B a w) (hg : B ≤ g) : Below B a ((((((((((w.setCell ⟨g, 0, none⟩ v0).setCell ⟨g, 1, none⟩ v1).setCell ⟨g, 2, none⟩ v2).setCell ⟨g, 3, none⟩ v3).setCell ⟨g, 4, none⟩ v4).setCell ⟨g, 5, none⟩ v5).setCell ⟨g, 6, none⟩ v6).setCell ⟨g, 7, none⟩ v7).setCell ⟨g, 8, none⟩ v8)).drew :=
  Below.drew (Below.setCell (Below.setCell (Below.setCell (Below.setCell (Below.setCell (Below.setCell (Below.setCell (Below.setCell (Below.setCell h hg _) hg _) hg _) hg _) hg _) hg _) hg _) hg _) hg _)
theorem Owns.blocks {α : Type} {w w' : World} {base : Nat} {e : TypeId} {sz : Nat} {enc : α → List Value} {A : Option Addr} {c : Nat} {l : List α} (h : Owns w base e sz enc A c l) (hb : ∀ k, blk A = some k → w'.heap[k]? = w.heap[k]?) : Owns w' base e sz enc A c l := by
  refine ⟨h.1, ?_⟩
  rcases h.2 with h2 | ⟨g, cap, cur, hv, hbase, hh, hr⟩
  · exact .inl h2
  · refine .inr ⟨g, cap, cur, hv, hbase, ?_, hr⟩
    have hA : A = some ⟨g, 0, none⟩ := by injection hv
    rw [hb g (by rw [hA]; rfl)]; exact hh
theorem Owns.lower {α : Type} {w : World} {base base' : Nat} {e : TypeId} {sz : Nat} {enc : α → List Value} {A : Option Addr} {c : Nat} {l : List α} (h : Owns w base e sz enc A c l) (hb : base' ≤ base) : Owns w base' e sz enc A c l := by
  refine ⟨h.1, ?_⟩
  rcases h.2 with h2 | ⟨g, cap, cur, hv, hbase, hr⟩
  · exact .inl h2
  · exact .inr ⟨g, cap, cur, hv, by omega, hr⟩
structure Tw where
  f : Fl
  g2 : Nat
  c2 : Nat
  g4 : Nat
  c4 : Nat
structure TwOwn (w : World) (base : Nat) (t : Tw) : Prop where
  s : Owns w base 66 2 eSlot (some ⟨t.g2, 0, none⟩) t.c2 (t.f.slots ++ [(71, 71)])
  h : Owns w base 3 1 eInt (some ⟨t.g4, 0, none⟩) t.c4 (t.f.have_ ++ [72])
def flTw (t : Tw) : List Value := [.int .i64 t.f.e, .int .i64 t.f.l, .int .i64 t.f.i, .int .i64 t.f.c, .int .i64 t.f.base, .slice (some ⟨t.g2, 0, none⟩) t.f.slots.length t.c2, .slice (some ⟨t.g4, 0, none⟩) t.f.have_.length t.c4]
def eTw (t : Tw) : List Value := [.int .i64 t.f.e, .int .i64 t.f.l, .int .i64 t.f.i, .int .i64 t.f.c, .int .i64 t.f.base, .slice (some ⟨t.g2, 0, none⟩) t.f.slots.length t.c2, .slice (some ⟨t.g4, 0, none⟩) t.f.have_.length t.c4, .slice (some ⟨t.g2, 0, none⟩) (t.f.slots.length + 1) t.c2, .slice (some ⟨t.g4, 0, none⟩) (t.f.have_.length + 1) t.c4]
def TwinPost (f : Fl) (w : World) (e : Ending) (w' : World) : Prop := ∃ t : Tw, t.f = f ∧ e = .returned (.agg (eTw t).toArray) ∧ TwOwn w' w.heap.size t ∧ Below w.heap.size w w'
abbrev twz : Array Value := #[.int .i64 0, .int .i64 0, .int .i64 0, .int .i64 0, .int .i64 0, .slice none 0 0, .slice none 0 0, .slice none 0 0, .slice none 0 0]
set_option maxRecDepth 100000 in
set_option maxHeartbeats 4000000 in
theorem twin_any (f : Fl) (A B : Option Addr) (cA cB N : Nat) (w : World) (hN : N ≤ w.heap.size) (hr : FlRows w N f A cA B cB)
    (hbS : f.slots.length * 16 ≤ 140737488351232) (hbH : f.have_.length * 8 ≤ 140737488351232) :
    Calls Try.prog 23 #[.agg (flc f.e f.l f.i f.c f.base A f.slots.length cA B f.have_.length cB)] w
      (TwinPost f w) := by
  obtain ⟨hrS, hrH, hlS, hcS, hlH, hcH⟩ := hr
  have hbx := below_box2 w (flc f.e f.l f.i f.c f.base A f.slots.length cA B f.have_.length cB) 39 twz 57
  go_enter Try.func23, Try.ntmps23
  go_wp2_with (at_builtin; refine wpList_append_rows _ rfl (.tmp 5) (.tmp 7) 36 rfl (w.heap.size + 2) 66 2 16 _ Try.underlying36 info66 rfl (by decide) eSlot len_eSlot one_eSlot (some ⟨w.heap.size + 2, 0, none⟩) 0 [] A cA N 0 f.slots.length f.slots rfl rfl rfl rfl ?_ ?_ ?_ ?_ ?_ ?_)
  · exact owns_empty_at _ _ _ _ _ (by simp only [World.size_alloc]) (Nat.le_refl _)
  · exact hrS.below (hbx.alloc (by simp only [World.size_alloc]; omega) _) hN
  · omega
  · omega
  · simp only [World.size_alloc]; omega
  · intro A1 c1 w1 ho1 hg1 hk1
    have hB1 := ((Below.refl (w.heap.size + 2) (box2 w (flc f.e f.l f.i f.c f.base A f.slots.length cA B f.have_.length cB) 39 twz 57)).alloc (by simp only [World.size_alloc]; omega) (.cells #[] 66)).grown hg1 (by simp only [World.size_alloc]; omega) (by intro k hk; simp [blk] at hk; omega)
    have hlo1 := ho1.lo
    obtain ⟨hbw, hcf, -, -, -, hs, hs'⟩ := box2_facts hB1
    clear hg1 hk1 hbx
    go_wp2_with (at_builtin; refine wpList_append_rows _ rfl (.tmp 8) (.tmp 10) 36 rfl (w.heap.size + 2) 66 2 16 _ Try.underlying36 info66 rfl (by decide) eSlot len_eSlot one_eSlot A1 c1 f.slots (some ⟨w1.heap.size, 0, none⟩) 1 (w1.heap.size + 1) f.slots.length 1 [(71, 71)] rfl rfl rfl rfl ?_ ?_ ?_ ?_ ?_ ?_)
    · exact ho1.alloc _
    · exact row_new _ _ _ _ _ _ rfl
    · omega
    · omega
    · simp only [World.size_alloc]; omega
    · intro A2 c2 w2 ho2 hg2 hk2
      have hB2 := (hB1.alloc (by omega) (.cells #[.int .i64 71, .int .i64 71] 66)).grown hg2 (by simp only [World.size_alloc]; omega) (fun k hk => (hlo1 k hk).1)
      have hlo2 := ho2.lo
      obtain ⟨g2, cc2, hv2, hgl2, hgh2⟩ := World.ownsRow.form ho2 (by simp)
      obtain ⟨rfl, rfl⟩ : A2 = some ⟨g2, 0, none⟩ ∧ c2 = cc2 := by injection hv2 with h1 _ h2; exact ⟨h1, h2⟩
      clear hv2 ho1 hB1 hlo1 hbw hcf hs hs' hg2 hk2
      obtain ⟨hbw, hcf, -, -, -, hs, hs'⟩ := box2_facts hB2
      go_wp2_with (at_builtin; refine wpList_append_rows _ rfl (.tmp 12) (.tmp 14) 37 rfl (w.heap.size + 2) 3 1 8 _ Try.underlying37 info3 rfl (by decide) eInt len_eInt one_eInt (some ⟨w2.heap.size, 0, none⟩) 0 [] B cB N 0 f.have_.length f.have_ rfl rfl rfl rfl ?_ ?_ ?_ ?_ ?_ ?_)
      · exact owns_empty_at _ _ _ _ _ rfl (by omega)
      · exact hrH.below (hbw.alloc (by omega) _) hN
      · omega
      · omega
      · simp only [World.size_alloc]; omega
      · intro A3 c3 w3 ho3 hg3 hk3
        have hB3 := (hB2.alloc (by omega) (.cells #[] 3)).grown hg3 (by simp only [World.size_alloc]; omega) (by intro k hk; simp [blk] at hk; omega)
        have hlo3 := ho3.lo
        have ho2' := (ho2.alloc (.cells #[] 3)).kept hg3 (by right; simp [blk]; omega)
        clear ho2 hB2 hbw hcf hs hs' hg3 hk3
        obtain ⟨hbw, hcf, -, -, -, hs, hs'⟩ := box2_facts hB3
        go_wp2_with (at_builtin; refine wpList_append_rows _ rfl (.tmp 15) (.tmp 16) 37 rfl (w.heap.size + 2) 3 1 8 _ Try.underlying37 info3 rfl (by decide) eInt len_eInt one_eInt A3 c3 f.have_ (some ⟨w3.heap.size, 0, none⟩) 1 (w3.heap.size + 1) f.have_.length 1 [72] rfl rfl rfl rfl ?_ ?_ ?_ ?_ ?_ ?_)
        · exact ho3.alloc _
        · exact row_new _ _ _ _ _ _ rfl
        · omega
        · omega
        · simp only [World.size_alloc]; omega
        · intro A4 c4 w4 ho4 hg4 hk4
          have hB4 := (hB3.alloc (by omega) (.cells #[.int .i64 72] 3)).grown hg4 (by simp only [World.size_alloc]; omega) (fun k hk => (hlo3 k hk).1)
          have ho24 := (ho2'.alloc (.cells #[.int .i64 72] 3)).kept hg4 (ho2'.ne ho3 (by decide))
          obtain ⟨g4, cc4, hv4, hgl4, hgh4⟩ := World.ownsRow.form ho4 (by simp)
          obtain ⟨rfl, rfl⟩ : A4 = some ⟨g4, 0, none⟩ ∧ c4 = cc4 := by injection hv4 with h1 _ h2; exact ⟨h1, h2⟩
          have hl2 := ho24.len
          have hl4 := ho4.len
          simp only [List.length_append, List.length_cons, List.length_nil] at hl2 hl4
          clear hv4 ho2' hB3 hlo3 hbw hcf hs hs' hg4 hk4 ho3
          obtain ⟨hbw, hcf, hct, -, hft, hs, hs'⟩ := box2_facts hB4
          have e2 : f.slots.length ≤ c2 := by omega
          have e4 : f.have_.length ≤ c4 := by omega
          have z2 : ¬ c2 = 0 := by omega
          have z4 : ¬ c4 = 0 := by omega
          go_wp2_with fail
          go_still_tail 18, (by kernel_rfl)
          change wpList _ _ _ _ _ w4.drew
          go_wp2
          refine bodyPost_ret (v := .agg #[.int .i64 f.e, .int .i64 f.l, .int .i64 f.i, .int .i64 f.c, .int .i64 f.base, .slice (some ⟨g2, 0, none⟩) f.slots.length c2, .slice (some ⟨g4, 0, none⟩) f.have_.length c4, .slice (some ⟨g2, 0, none⟩) (f.slots.length + 1) c2, .slice (some ⟨g4, 0, none⟩) (f.have_.length + 1) c4]) (by simp [results, Try.results23, go_sem, hct]) rfl ?_
          go_light
          refine ⟨⟨f, g2, c2, g4, c4⟩, rfl, rfl, ⟨?_, ?_⟩, below_set9 hbw (by omega)⟩
          · exact (ho24.lower (by omega)).blocks (fun k hk => heap_set9 _ _ _ _ _ _ _ _ _ _ _ (by simp [blk] at hk; omega))
          · exact (ho4.lower (by omega)).blocks (fun k hk => heap_set9 _ _ _ _ _ _ _ _ _ _ _ (by simp [blk] at hk; omega))
end Go.Proofs.Ytcffhfcjfjfokaa
namespace Go.Proofs.Ytcffhfcjfjfokaa
open Go.RowKit
def FRow {α : Type} (w : World) (lo sz : Nat) (enc : α → List Value) (A : Option Addr) (l : List α) : Prop :=
  0 < l.length → ∃ b off, A = some ⟨b, off, none⟩ ∧ lo ≤ b ∧ b < w.heap.size ∧ ∀ k x, l[k]? = some x → ∀ j u, (enc x)[j]? = some u → w.cell? ⟨b, off + k * sz + j, none⟩ = some u
section
variable {α : Type} {w w' : World} {lo sz : Nat} {enc : α → List Value} {A : Option Addr} {l : List α}
theorem FRow.row (h : FRow w lo sz enc A l) : RowAt w w.heap.size sz enc A l := fun h0 => by
  obtain ⟨b, off, e, _, hb, hc⟩ := h h0
  exact ⟨b, off, e, hb, hc⟩
theorem FRow.below (h : FRow w lo sz enc A l) (hb : Below w.heap.size w w') : FRow w' lo sz enc A l := fun h0 => by
  obtain ⟨b, off, e, h1, h2, hc⟩ := h h0
  exact ⟨b, off, e, h1, Nat.lt_of_lt_of_le h2 hb.size, fun k x hk j u hu => (hb.cell (p := ⟨b, _, none⟩) h2).trans (hc k x hk j u hu)⟩
theorem FRow.setCell (h : FRow w lo sz enc A l) {p : Addr} (hp : p.block < lo) (v : Value) : FRow (w.setCell p v) lo sz enc A l := fun h0 => by
  obtain ⟨b, off, e, h1, h2, hc⟩ := h h0
  refine ⟨b, off, e, h1, by rw [World.size_setCell]; exact h2, fun k x hk j u hu => ?_⟩
  have hne : ∀ o, p ≠ ⟨b, o, none⟩ := fun o e2 => by rw [e2] at hp; exact absurd h1 (Nat.not_le.2 hp)
  rw [World.cell?_setCell_other _ _ _ _ (hne _)]
  exact hc k x hk j u hu
theorem FRow.lower {lo' : Nat} (h : FRow w lo sz enc A l) (hl : lo' ≤ lo) : FRow w lo' sz enc A l := fun h0 => by
  obtain ⟨b, off, e, h1, h2, hc⟩ := h h0
  exact ⟨b, off, e, by omega, h2, hc⟩
theorem FRow.of_owns {base c : Nat} {e : TypeId} (h : Owns w base e sz enc A c l) (hsz : ∀ x, (enc x).length = sz) : FRow w base sz enc A l := fun h0 => by
  obtain ⟨b, off, e, hb, hc⟩ := h.row hsz h0
  exact ⟨b, off, e, (h.lo b (by rw [e]; rfl)).1, hb, hc⟩
end
section
variable {P : Program}
theorem run_append_zero (w : World) (t ty e : TypeId) (i : TypeInfo) (ht : P.underlying t = some (.slice e)) (hi : P.info? e = some i) (g : Addr) (B : Option Addr) (m c : Nat) (hm : 0 < m) (hb : m * i.bytes ≤ 140737488355328) :
    (Builtin.append_ #[t, t] ty #[.slice (some g) 0 0, .slice B m c]).run P w = (Builtin.append_ #[t, t] ty #[.slice none 0 0, .slice B m c]).run P w := by
  have h1 : ¬ m ≤ 0 := by omega
  have h2 := growslice_fits (need := m) (old := 0) (bytes := i.bytes) hm hb
  have h3 : ¬ m = 0 := by omega
  have h4 : ¬ 281474976710656 < Builtin.nextslicecap m 0 * i.bytes := by omega
  simp [Builtin.append_, run_underlying ht, sizeOf, typeInfo, hi, Builtin.lenOf, Builtin.firstCells, loadCells, loadCellsFrom, h1, h3, h4]
theorem run_append_none (w : World) (t ty e : TypeId) (i : TypeInfo) (ht : P.underlying t = some (.slice e)) (hi : P.info? e = some i) (A B : Option Addr) (c : Nat) :
    (Builtin.append_ #[t, t] ty #[.slice A 0 0, .slice B 0 c]).run P w = .ok (.slice A 0 0) w := by
  cases A <;> cases B <;> simp [Builtin.append_, run_underlying ht, sizeOf, typeInfo, hi, Builtin.lenOf, Builtin.firstCells, loadCells, loadCellsFrom, storeCells]
end
end Go.Proofs.Ytcffhfcjfjfokaa
namespace Go.Proofs.Ytcffhfcjfjfokaa
open Go.RowKit
theorem step_append_rows {P : Program} {α : Type} {ops : Array Oper} {o : Oper} {a : Act} {w : World} {K : Act → World → Prop} {Q : Exit → Act → World → Prop} (hgd : o.guard = none) (s x : Operand) (t : TypeId)
    (ho : o.op = .call { callee := .builtin .append, args := #[s, x], argTypes := #[t, t] })
    (base : Nat) (e : TypeId) (sz bytes : Nat) (z : Value) (ht : P.underlying t = some (.slice e)) (hinfo : (P.info? e).map (fun i => (i.zero, i.size, i.bytes)) = some (some z, sz, bytes))
    (hzs : z.cells.size = sz) (hsz : 0 < sz) (enc : α → List Value) (henc : ∀ x, (enc x).length = sz) (hone : ∀ x, ∀ u ∈ enc x, u.oneCell' = true)
    (A : Option Addr) (c : Nat) (xs : List α) (B : Option Addr) (cB N n m : Nat) (l : List α) (hs : a.eval s = .slice A n c) (hx : a.eval x = .slice B m cB)
    (hn : xs.length = n) (hm : l.length = m)
    (hown : Owns w base e sz enc A c xs) (hr : RowAt w N sz enc B l)
    (h63 : n + m ≤ 9223372036854775807) (hbytes : (n + m) * bytes ≤ 140737488355328) (hbase : base ≤ w.heap.size)
    (h : ∀ A' c' w', Owns w' base e sz enc A' c' (xs ++ l) → w.grownBy w' (blk A) → (blk A' = blk A ∨ blk A' = some w.heap.size) → K (a.put o.dst (.slice A' (n + m) c')) w') :
    if Region.wanted o (yielded ops a.tmps) = true then o.wp P a w K Q else K (a.put o.dst undef) w := by
  subst hn hm
  obtain ⟨i, hi, hz, hsize, hby⟩ := info_parts hinfo
  have key : ∃ v' w', (Builtin.append_ #[t, t] o.type #[.slice A xs.length c, .slice B l.length cB]).run P w = .ok v' w' ∧ w'.ownsRow base e sz v' (xs.length + l.length) ((xs ++ l).flatMap enc) ∧ w.grownBy w' (blk A) ∧ (v'.ownBlock = blk A ∨ v'.ownBlock = some w.heap.size) := by
    by_cases h0 : 0 < l.length
    · obtain ⟨b, off, rfl, hb, hc⟩ := hr h0
      obtain ⟨v', w', h1, h2, h3, _, h5⟩ := run_append_own_at (P := P) w base t o.type e i z sz bytes ht hi hz hsize hby hzs hsz (.slice A xs.length c) xs.length _ hown ⟨b, off, none⟩ l.length cB (l.flatMap enc)
        (length_flat henc l) (fun j u hu => by
          obtain ⟨k, r, x, hk, hr', rfl⟩ := flatMap_of henc l j u hu
          have := hc k x hk r u hr'
          by_cases hz0 : k * sz + r = 0
          · rw [hz0]; simp only [Addr.add, if_true]
            have e0 : off + k * sz + r = off := by omega
            rw [e0] at this; exact this
          · simp only [Addr.add, if_neg hz0]
            rw [← Nat.add_assoc]; exact this)
        (fun u hu => by obtain ⟨x, _, hux⟩ := List.mem_flatMap.1 hu; exact hone x u hux) h63 hbytes hbase
      rw [own_blk] at h3 h5
      exact ⟨v', w', h1, by rw [List.flatMap_append]; exact h2, h3, h5⟩
    · have hl : l = [] := List.eq_nil_of_length_eq_zero (by omega)
      subst hl
      cases B with
      | none =>
        refine ⟨.slice A xs.length c, w, ?_, by simp only [List.length_nil, Nat.add_zero, List.append_nil]; exact hown, World.grownBy.refl w _, .inl (own_blk _ _ _)⟩
        rcases hown.2 with ⟨hv, _⟩ | ⟨g, cap, cur, hv, _, _, hnc, _⟩
        · rw [hv]; simp [Builtin.append_, run_underlying ht, sizeOf, typeInfo, hi, Builtin.lenOf, Builtin.firstCells]
        · rw [hv]; simp [Builtin.append_, run_underlying ht, sizeOf, typeInfo, hi, Builtin.lenOf, Builtin.firstCells, hnc, storeCells]
      | some ad =>
        obtain ⟨v', w', h1, h2, h3, _, h5⟩ := run_append_own_at (P := P) w base t o.type e i z sz bytes ht hi hz hsize hby hzs hsz (.slice A xs.length c) xs.length _ hown ad 0 cB []
          (by simp) (fun j u hu => by simp at hu) (fun u hu => by simp at hu) h63 hbytes hbase
        rw [own_blk] at h3 h5
        exact ⟨v', w', h1, by simpa using h2, h3, h5⟩
  obtain ⟨v', w', hrun, h2, h3, h4⟩ := key
  have hv : ∃ A' c', v' = .slice A' (xs.length + l.length) c' := by
    rcases h2.2 with ⟨hv, h0⟩ | ⟨g, cap, cur, hv, _⟩
    · exact ⟨none, 0, by rw [hv, h0]⟩
    · exact ⟨_, _, hv⟩
  obtain ⟨A', c', rfl⟩ := hv
  rw [own_blk] at h4
  have hw : Region.wanted o (yielded ops a.tmps) = true := by simp [Region.wanted, hgd]
  rw [if_pos hw]
  unfold Oper.wp execOp
  simp only [ho, resolve, invoke, builtin, Sem.run_bind, Sem.run_pure, Result.andThen_ok, List.map_toArray, List.map_cons, List.map_nil, hs, hx, hrun]
  exact h A' c' w' (by unfold Owns; rw [List.length_append]; exact h2) h3 h4
end Go.Proofs.Ytcffhfcjfjfokaa
namespace Go.Proofs.Ytcffhfcjfjfokaa
open Go.RowKit
theorem own_prefix {α : Type} {w : World} {base sz c : Nat} {e : TypeId} {enc : α → List Value} {A : Option Addr} {xs ys : List α} (henc : ∀ x, (enc x).length = sz) (h : Owns w base e sz enc A c (xs ++ ys)) (hA : A ≠ none) : Owns w base e sz enc A c xs := by
  have hl := length_flat henc xs
  rcases h.2 with ⟨hv, h0⟩ | ⟨g, cap, cur, hv, hb, hh, h1, h2, h3, h4⟩
  · injection hv with h1; exact absurd h1 hA
  · injection hv with e1 _ e3
    subst e1 e3
    refine ⟨by rw [hl], .inr ⟨g, c, cur, rfl, hb, hh, by rw [List.length_append] at h1; omega, h2, h3, ?_⟩⟩
    rw [List.flatMap_append] at h4
    have : cur.toList.take (xs.length * sz) = (cur.toList.take ((xs ++ ys).length * sz)).take (xs.length * sz) := by
      rw [List.take_take, Nat.min_eq_left]
      rw [List.length_append]; exact Nat.mul_le_mul_right _ (by omega)
    rw [this, h4, ← hl]
    exact List.take_left
section
variable {P : Program} (w : World)
end
end Go.Proofs.Ytcffhfcjfjfokaa
namespace Go.Proofs.Ytcffhfcjfjfokaa
open Go Go.RowKit
section
variable {P : Program} {ty t : TypeId} {b off : Nat} {w : World} {v : Value}
theorem load_cell (hg : aggB P ty = some false) (h : w.cell? ⟨b, off, none⟩ = some v) : (loadVar ty ⟨b, off, none⟩).run P w = .ok v w := by
  unfold loadVar
  rw [Sem.run_bind, run_agg hg]
  simp only [Result.andThen_ok, Bool.false_eq_true, if_false]
  go_simp
theorem load_agg {cs : List Value} (hg : aggB P ty = some true) (hs : sizeB P ty = some cs.length) (h : w.rangeAt b off cs) : (loadVar ty ⟨b, off, none⟩).run P w = .ok (.agg cs.toArray) w := by
  unfold aggB at hg
  cases hu : P.underlying ty with
  | none => rw [hu] at hg; simp at hg
  | some d =>
    rw [hu] at hg
    refine run_loadVar_mid w b off ty cs d h hu ?_ hs
    cases d <;> simp at hg ⊢
theorem VStore.new {x : World} {K : World → Prop} {c c' : Array Value} (hx : Hid (x = w.alloc (.cells c t))) (hi : sizeB P t = some c'.size) (ho : c.size = c'.size) (h1 : c'.all (·.oneCell') = true) (hk : ∀ x', Hid (x' = w.alloc (.cells c' t)) → K x') : VStore P t w.heap.size 0 (.agg c') x K := by
  rw [hx.out]
  exact .mk _ (run_storeVar_new w t c c' hi ho h1) (hk _ (Lib.hid rfl))
theorem VStore.mid {K : World → Prop} {c : Array Value} (ht : w.there b off c.size) (hi : sizeB P ty = some c.size) (h1 : c.all (·.oneCell') = true) (hk : ∀ w', Hid (w' = w.setCells b off c.toList) → K w') : VStore P ty b off (.agg c) w K :=
  .mk _ (run_storeVar_mid w b off ty c ht hi h1) (hk _ (Lib.hid rfl))
theorem run_store1 (hi : sizeB P ty = some 1) (hc : (w.cell? ⟨b, off, none⟩).isSome = true) (hf : w.frozen? ⟨b, off, none⟩ = false) (hv : v.cells = #[v]) (h1 : v.oneCell' = true) : (storeVar ty ⟨b, off, none⟩ v).run P w = .ok () (w.setCell ⟨b, off, none⟩ v) := by
  have := run_storeCells_cells (P := P) b off [v] 0 w (fun j hj => by
    have : j = 0 := (by simpa using hj)
    subst this
    simpa using hc) (fun j hj => by
    have : j = 0 := (by simpa using hj)
    subst this
    simpa using hf) (fun u hu => by simp at hu; subst hu; exact h1)
  simp only [Nat.add_zero] at this
  unfold storeVar
  rw [Sem.run_bind, run_size hi, hv]
  simpa [World.setCells] using this
theorem VStore.cell {K : World → Prop} (hi : sizeB P ty = some 1) (hc : (w.cell? ⟨b, off, none⟩).isSome = true) (hf : w.frozen? ⟨b, off, none⟩ = false) (hv : v.cells = #[v]) (h1 : v.oneCell' = true) (hk : ∀ w', Hid (w' = w.setCell ⟨b, off, none⟩ v) → K w') : VStore P ty b off v w K :=
  .mk _ (run_store1 hi hc hf hv h1) (hk _ (Lib.hid rfl))
theorem VApp.rows {α : Type} {ty0 : TypeId} {t e : TypeId} {K : Value → World → Prop}
    (base : Nat) (sz bytes : Nat) (z : Value) (ht : P.underlying t = some (.slice e)) (hinfo : (P.info? e).map (fun i => (i.zero, i.size, i.bytes)) = some (some z, sz, bytes))
    (hzs : z.cells.size = sz) (hsz : 0 < sz) (enc : α → List Value) (henc : ∀ x, (enc x).length = sz) (hone : ∀ x, ∀ u ∈ enc x, u.oneCell' = true)
    {A : Option Addr} {c : Nat} (xs : List α) {B : Option Addr} {cB N n m : Nat} (l : List α)
    (hn : xs.length = n) (hm : l.length = m)
    (hown : Owns w base e sz enc A c xs) (hr : RowAt w N sz enc B l)
    (h63 : n + m ≤ 9223372036854775807) (hbytes : (n + m) * bytes ≤ 140737488355328) (hbase : base ≤ w.heap.size)
    (h : ∀ A' c' w', Owns w' base e sz enc A' c' (xs ++ l) → w.grownBy w' (blk A) → (blk A' = blk A ∨ blk A' = some w.heap.size) → K (.slice A' (n + m) c') w') : VApp P #[t, t] ty0 [.slice A n c, .slice B m cB] w K := by
  subst hn hm
  obtain ⟨i, hi, hz, hsize, hby⟩ := info_parts hinfo
  have key : ∃ v' w', (Builtin.append_ #[t, t] ty0 #[.slice A xs.length c, .slice B l.length cB]).run P w = .ok v' w' ∧ w'.ownsRow base e sz v' (xs.length + l.length) ((xs ++ l).flatMap enc) ∧ w.grownBy w' (blk A) ∧ (v'.ownBlock = blk A ∨ v'.ownBlock = some w.heap.size) := by
    by_cases h0 : 0 < l.length
    · obtain ⟨b, off, rfl, hb, hc⟩ := hr h0
      obtain ⟨v', w', h1, h2, h3, _, h5⟩ := run_append_own_at (P := P) w base t ty0 e i z sz bytes ht hi hz hsize hby hzs hsz (.slice A xs.length c) xs.length _ hown ⟨b, off, none⟩ l.length cB (l.flatMap enc)
        (length_flat henc l) (fun j u hu => by
          obtain ⟨k, r, x, hk, hr', rfl⟩ := flatMap_of henc l j u hu
          have := hc k x hk r u hr'
          by_cases hz0 : k * sz + r = 0
          · rw [hz0]; simp only [Addr.add, if_true]
            have e0 : off + k * sz + r = off := by omega
            rw [e0] at this; exact this
          · simp only [Addr.add, if_neg hz0]
            rw [← Nat.add_assoc]; exact this)
        (fun u hu => by obtain ⟨x, _, hux⟩ := List.mem_flatMap.1 hu; exact hone x u hux) h63 hbytes hbase
      rw [own_blk] at h3 h5
      exact ⟨v', w', h1, by rw [List.flatMap_append]; exact h2, h3, h5⟩
    · have hl : l = [] := List.eq_nil_of_length_eq_zero (by omega)
      subst hl
      cases B with
      | none =>
        refine ⟨.slice A xs.length c, w, ?_, by simp only [List.length_nil, Nat.add_zero, List.append_nil]; exact hown, World.grownBy.refl w _, .inl (own_blk _ _ _)⟩
        rcases hown.2 with ⟨hv, _⟩ | ⟨g, cap, cur, hv, _, _, hnc, _⟩
        · rw [hv]; simp [Builtin.append_, run_underlying ht, sizeOf, typeInfo, hi, Builtin.lenOf, Builtin.firstCells]
        · rw [hv]; simp [Builtin.append_, run_underlying ht, sizeOf, typeInfo, hi, Builtin.lenOf, Builtin.firstCells, hnc, storeCells]
      | some ad =>
        obtain ⟨v', w', h1, h2, h3, _, h5⟩ := run_append_own_at (P := P) w base t ty0 e i z sz bytes ht hi hz hsize hby hzs hsz (.slice A xs.length c) xs.length _ hown ad 0 cB []
          (by simp) (fun j u hu => by simp at hu) (fun u hu => by simp at hu) h63 hbytes hbase
        rw [own_blk] at h3 h5
        exact ⟨v', w', h1, by simpa using h2, h3, h5⟩
  obtain ⟨v', w', hrun, h2, h3, h4⟩ := key
  have hv : ∃ A' c', v' = .slice A' (xs.length + l.length) c' := by
    rcases h2.2 with ⟨hv, h0⟩ | ⟨g, cap, cur, hv, _⟩
    · exact ⟨none, 0, by rw [hv, h0]⟩
    · exact ⟨_, _, hv⟩
  obtain ⟨A', c', rfl⟩ := hv
  rw [own_blk] at h4
  exact .mk _ _ hrun (h A' c' w' (by unfold Owns; rw [List.length_append]; exact h2) h3 h4)
theorem VApp.fresh {α : Type} {ty0 : TypeId} {t e : TypeId} {K : Value → World → Prop}
    (sz bytes : Nat) (z : Value) (ht : P.underlying t = some (.slice e)) (hinfo : (P.info? e).map (fun i => (i.zero, i.size, i.bytes)) = some (some z, sz, bytes))
    (hzs : z.cells.size = sz) (hsz : 0 < sz) (enc : α → List Value) (henc : ∀ x, (enc x).length = sz) (hone : ∀ x, ∀ u ∈ enc x, u.oneCell' = true)
    {A B : Option Addr} {cB N m : Nat} (l : List α) (hm : l.length = m) (hr : RowAt w N sz enc B l) (hbytes : m * bytes ≤ 140737488351232) (h63 : m ≤ 9223372036854775807)
    (h : ∀ A' c' w', FRow w' w.heap.size sz enc A' l → m ≤ c' → c' ≤ 9223372036854775807 → Below w.heap.size w w' → K (.slice A' m c') w') : VApp P #[t, t] ty0 [.slice A 0 0, .slice B m cB] w K := by
  subst hm
  obtain ⟨i, hi, hz, hsize, hby⟩ := info_parts hinfo
  have key : ∃ A' c' w', (Builtin.append_ #[t, t] ty0 #[.slice A 0 0, .slice B l.length cB]).run P w = .ok (.slice A' l.length c') w' ∧ FRow w' w.heap.size sz enc A' l ∧ l.length ≤ c' ∧ c' ≤ 9223372036854775807 ∧ Below w.heap.size w w' := by
    by_cases h0 : 0 < l.length
    · obtain ⟨b, off, rfl, hb, hc⟩ := hr h0
      obtain ⟨v', w', h1, h2, h3, _, h5⟩ := run_append_own_at (P := P) w w.heap.size t ty0 e i z sz bytes ht hi hz hsize hby hzs hsz (.slice none 0 0) 0 _ (owns_nil (α := α) w w.heap.size e sz enc) ⟨b, off, none⟩ l.length cB (l.flatMap enc)
        (length_flat henc l) (fun j u hu => by
          obtain ⟨k, r, x, hk, hr', rfl⟩ := flatMap_of henc l j u hu
          have := hc k x hk r u hr'
          by_cases hz0 : k * sz + r = 0
          · rw [hz0]; simp only [Addr.add, if_true]
            have e0 : off + k * sz + r = off := by omega
            rw [e0] at this; exact this
          · simp only [Addr.add, if_neg hz0]
            rw [← Nat.add_assoc]; exact this)
        (fun u hu => by obtain ⟨x, _, hux⟩ := List.mem_flatMap.1 hu; exact hone x u hux) (by simp only [maxLen]; omega) (by rw [Nat.zero_add]; omega) (Nat.le_refl _)
      rw [Nat.zero_add, List.flatMap_nil, List.nil_append] at h2
      obtain ⟨g, cap, rfl, hg1, hg2⟩ := World.ownsRow.form h2 h0
      have hO : Owns w' w.heap.size e sz enc (some ⟨g, 0, none⟩) cap l := h2
      refine ⟨some ⟨g, 0, none⟩, cap, w', ?_, FRow.of_owns hO henc, hO.len.1, hO.len.2, (Below.refl w.heap.size w).grown h3 (Nat.le_refl _) (by intro k hk; cases hk)⟩
      cases A with
      | none => exact h1
      | some ga => rw [run_append_zero w t ty0 e i ht hi ga _ _ _ h0 (by rw [hby]; omega)]; exact h1
    · have hl : l = [] := List.eq_nil_of_length_eq_zero (by omega)
      subst hl
      exact ⟨A, 0, w, run_append_none w t ty0 e i ht hi A B cB, fun h => absurd h (by simp), by simp, by omega, Below.refl _ _⟩
  obtain ⟨A', c', w', hrun, h2, h3, h4, h5⟩ := key
  exact .mk _ _ hrun (h A' c' w' h2 h3 h4 h5)
theorem VApp.keep {α : Type} {ty0 : TypeId} {t e : TypeId} {K : Value → World → Prop}
    (base : Nat) (sz bytes : Nat) (z : Value) (ht : P.underlying t = some (.slice e)) (hinfo : (P.info? e).map (fun i => (i.zero, i.size, i.bytes)) = some (some z, sz, bytes))
    (hzs : z.cells.size = sz) (hsz : 0 < sz) (enc : α → List Value) (henc : ∀ x, (enc x).length = sz) (hone : ∀ x, ∀ u ∈ enc x, u.oneCell' = true)
    {A : Option Addr} {c : Nat} (xs : List α) {gB cB n : Nat} (y : α)
    (hn : xs.length = n) (hown : Owns w base e sz enc A c xs) (hr : ∀ j u, (enc y)[j]? = some u → w.cell? ⟨gB, j, none⟩ = some u)
    (h63 : n + 1 ≤ 9223372036854775807) (hbytes : (n + 1) * bytes ≤ 140737488355328) (hbase : base ≤ w.heap.size)
    (h : ∀ A' c' w', Owns w' base e sz enc A' c' (xs ++ [y]) → Owns w' base e sz enc A c xs → w.grownBy w' (blk A) → (blk A' = blk A ∨ blk A' = some w.heap.size) → K (.slice A' (n + 1) c') w') : VApp P #[t, t] ty0 [.slice A n c, .slice (some ⟨gB, 0, none⟩) 1 cB] w K := by
  subst hn
  obtain ⟨i, hi, hz, hsize, hby⟩ := info_parts hinfo
  have hnews : ∀ j u, (enc y)[j]? = some u → w.cell? ((⟨gB, 0, none⟩ : Addr).add j) = some u := fun j u hu => by
    rw [Addr.add_lit]; simpa using hr j u hu
  have hfm : ([y] : List α).flatMap enc = enc y := by simp
  obtain ⟨v', w', hrun, h2, h3, h5, h4⟩ := run_append_own_at (P := P) w base t ty0 e i z sz bytes ht hi hz hsize hby hzs hsz (.slice A xs.length c) xs.length _ hown ⟨gB, 0, none⟩ 1 cB (enc y)
    (by rw [henc, Nat.one_mul]) hnews (hone y) h63 hbytes hbase
  obtain ⟨g', cap', rfl, hg1, hg2⟩ := World.ownsRow.form h2 (by omega)
  simp only [own_blk] at h3 h4
  have hO : Owns w' base e sz enc (some ⟨g', 0, none⟩) cap' (xs ++ [y]) := by unfold Owns; rw [List.flatMap_append, hfm, List.length_append]; exact h2
  have hold : Owns w' base e sz enc A c xs := by
    rcases hown.2 with ⟨hv, h0⟩ | ⟨g, cap, cur, hv, hb, hh, k1, k2, k3, k4⟩
    · injection hv with e1 _ e3
      subst e1 e3
      obtain rfl : xs = [] := List.eq_nil_of_length_eq_zero h0
      exact owns_nil _ _ _ _ _
    · injection hv with e1 _ e3
      subst e1 e3
      by_cases hroom : xs.length + 1 ≤ c
      · have hr' := run_append_room (P := P) w t ty0 e i ht hi g xs.length c cur hh ⟨gB, 0, none⟩ 1 cB (enc y) (by rw [henc, hsize, Nat.one_mul]) hnews (hone y) hroom (by rw [henc, k3, hsize]; have := Nat.mul_le_mul_right sz hroom; rw [Nat.add_mul, Nat.one_mul] at this; exact this)
        rw [hrun] at hr'
        injection hr' with e1 e2
        injection e1 with e3 _ e4
        injection e3 with e3; injection e3 with e3
        subst e3 e4
        exact own_prefix henc hO (by simp)
      · have hr' := run_append_grow (P := P) w t ty0 e i z ht hi hz ⟨g, 0, none⟩ xs.length c (xs.flatMap enc) (by rw [hsize, length_flat henc]) (hown.cells (g := g) rfl) ⟨gB, 0, none⟩ 1 cB (enc y) (by rw [henc, hsize, Nat.one_mul]) hnews (by omega) (by omega) (growslice_fits (by omega) (by rw [hby]; exact hbytes))
        rw [hrun] at hr'
        injection hr' with _ e2
        rw [e2]
        exact (show Owns w.drew base e sz enc (some ⟨g, 0, none⟩) c xs from hown).alloc _
  exact .mk _ _ hrun (h _ _ w' hO hold h3 h4)
end
end Go.Proofs.Ytcffhfcjfjfokaa
