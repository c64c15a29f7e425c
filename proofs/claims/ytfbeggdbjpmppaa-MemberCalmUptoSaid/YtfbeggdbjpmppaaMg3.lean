/- Lib Fresh StepApp KeepApp EngA Tab Arr Mach Inv, joined. -/
import Derived.WalkKit
import Derived.WalkLawsBesides
import Derived.WalkSpells
import Derived.Deep.Draws
import Derived.Deep.QuietTactic
import Derived.BigQuiet
import Derived.Lib.Hide
import Derived.Deep.Light
import Derived.Maps.AppendAt
import Derived.Deep.AppendLies
import Derived.Deep.RegionHeld3
import Derived.Deep.MidRow
import Derived.RegionTactic
import Derived.Deep.WholeRow
import Derived.Test.YtfbeggdbjpmppaaProg
import Derived.Laws.StructEq
import Derived.Test.YtfbeggdbjpmppaaMg2
set_option linter.unusedVariables false
set_option linter.unusedSimpArgs false
namespace Go.Proofs.Ytfbeggdbjpmppaa
open Go.RowKit
def RowAt {α : Type} (w : World) (N sz : Nat) (enc : α → List Value) (A : Option Addr) (l : List α) : Prop :=
  0 < l.length → ∃ b off, A = some ⟨b, off, none⟩ ∧ b < N ∧ ∀ k x, l[k]? = some x → ∀ j u, (enc x)[j]? = some u → w.cell? ⟨b, off + k * sz + j, none⟩ = some u
section
variable {α : Type} {w w' : World} {N N' sz : Nat} {enc : α → List Value} {A : Option Addr} {l : List α}
theorem RowAt.more (h : RowAt w N sz enc A l) (hN : N ≤ N') : RowAt w N' sz enc A l := fun h0 => by
  obtain ⟨b, off, e, hb, hc⟩ := h h0
  exact ⟨b, off, e, by omega, hc⟩
theorem RowAt.keep (h : RowAt w N sz enc A l) (hk : ∀ b o, b < N → w'.cell? ⟨b, o, none⟩ = w.cell? ⟨b, o, none⟩) : RowAt w' N sz enc A l := fun h0 => by
  obtain ⟨b, off, e, hb, hc⟩ := h h0
  exact ⟨b, off, e, hb, fun k x hx j u hu => (hk _ _ hb).trans (hc k x hx j u hu)⟩
theorem RowAt.below (h : RowAt w N sz enc A l) (hb : Below N' w w') (hN : N ≤ N') : RowAt w' N sz enc A l :=
  h.keep fun b o hlt => hb.cell (p := ⟨b, o, none⟩) (by show b < N'; omega)
end
def eInt (n : Int) : List Value := [.int .i64 n]
section
variable {w w' : World} {N N' : Nat} {A : Option Addr}
theorem RowAt.int {l : List Int} (h : RowAt w N 1 eInt A l) {k : Nat} (hk : k < l.length) :
    ∃ b off x, A = some ⟨b, off, none⟩ ∧ b < N ∧ Hid (l[k]? = some x) ∧ w.cell? ⟨b, off + k, none⟩ = some (.int .i64 x) := by
  obtain ⟨b, off, e, hb, hc⟩ := h (by omega)
  exact ⟨b, off, l[k], e, hb, List.getElem?_eq_getElem hk, by simpa using hc k l[k] (List.getElem?_eq_getElem hk) 0 _ rfl⟩
end
theorem below_drewN {B : Nat} {a w : World} (h : Below B a w) (n : Nat) : Below B a (w.drewN n) := ⟨h.os, h.tape, h.output, h.size, h.block⟩
abbrev box1 (w : World) (x : Array Value) (t : TypeId) : World := w.alloc (.cells x t)
abbrev box2 (w : World) (x : Array Value) (t : TypeId) (y : Array Value) (u : TypeId) : World := (w.alloc (.cells x t)).alloc (.cells y u)
theorem below_box1 (w : World) (x : Array Value) (t : TypeId) : Below w.heap.size w (box1 w x t) := (Below.refl _ _).alloc (Nat.le_refl _) _
theorem below_box2 (w : World) (x : Array Value) (t : TypeId) (y : Array Value) (u : TypeId) : Below w.heap.size w (box2 w x t y u) := ((Below.refl _ _).alloc (Nat.le_refl _) _).alloc (by simp) _
theorem box1_facts {w wr : World} {x : Array Value} {t : TypeId} (hb : Below (w.heap.size + 1) (box1 w x t) wr) :
    Below w.heap.size w wr ∧ (∀ i, wr.cell? ⟨w.heap.size, i, none⟩ = x[i]?) ∧ (∀ i, wr.frozen? ⟨w.heap.size, i, none⟩ = false) ∧ w.heap.size < wr.heap.size := by
  refine ⟨(below_box1 w x t).trans (hb.mono (by omega)), fun i => ?_, fun i => ?_, by have := hb.size; simp at this; omega⟩
  · rw [hb.cell (p := ⟨w.heap.size, i, none⟩) (by show w.heap.size < _; omega)]
    exact World.cell?_alloc_at _ _ _ _ rfl
  · rw [hb.frozen (p := ⟨w.heap.size, i, none⟩) (by show w.heap.size < _; omega)]
    exact World.frozen?_alloc_at _ _ _ _ rfl
theorem ret_bool {a b : Bool} (h : a = b) : Ending.returned (.bool a) = .returned (.bool b) := by rw [h]
def agree {α : Type} (l m : List α) (k : Nat) : Prop := ∀ j, j < k → l[j]? = m[j]?
theorem agree_zero {α : Type} (l m : List α) : agree l m 0 := by intro j hj; omega
theorem agree_succ {α : Type} {l m : List α} {k : Nat} (h : agree l m k) (e : l[k]? = m[k]?) : agree l m (k + 1) := by
  intro j hj
  by_cases hk : j = k
  · rw [hk]; exact e
  · exact h j (by omega)
theorem agree_all {α : Type} {l m : List α} {n : Nat} (h : agree l m n) (hl : l.length = n) (hm : m.length = n) : l = m := by
  apply List.ext_getElem?
  intro j
  by_cases hj : j < n
  · exact h j hj
  · rw [List.getElem?_eq_none (by omega), List.getElem?_eq_none (by omega)]
def blk (A : Option Addr) : Option Nat := A.map (·.block)
def Owns {α : Type} (w : World) (base : Nat) (e : TypeId) (sz : Nat) (enc : α → List Value) (A : Option Addr) (c : Nat) (l : List α) : Prop :=
  w.ownsRow base e sz (.slice A l.length c) l.length (l.flatMap enc)
theorem flatMap_at {α : Type} {enc : α → List Value} {sz : Nat} (hsz : ∀ x, (enc x).length = sz) : ∀ (l : List α) (k r : Nat) (x : α) (u : Value), l[k]? = some x → (enc x)[r]? = some u → (l.flatMap enc)[k * sz + r]? = some u
  | [], k, r, x, u, h, _ => by simp at h
  | y :: l, 0, r, x, u, h, hu => by
    simp at h; subst h
    have hr : r < (enc y).length := (List.getElem?_eq_some_iff.1 hu).1
    rw [List.flatMap_cons, List.getElem?_append_left (by omega)]
    simpa using hu
  | y :: l, k + 1, r, x, u, h, hu => by
    rw [List.flatMap_cons, List.getElem?_append_right (by rw [hsz, Nat.add_mul]; omega)]
    have := flatMap_at hsz l k r x u (by simpa using h) hu
    rw [hsz]
    rw [show (k + 1) * sz + r - sz = k * sz + r by rw [Nat.add_mul]; omega]
    exact this
theorem flatMap_of {α : Type} {enc : α → List Value} {sz : Nat} (hsz : ∀ x, (enc x).length = sz) : ∀ (l : List α) (j : Nat) (u : Value), (l.flatMap enc)[j]? = some u → ∃ k r x, l[k]? = some x ∧ (enc x)[r]? = some u ∧ j = k * sz + r
  | [], j, u, h => by simp at h
  | y :: l, j, u, h => by
    rw [List.flatMap_cons] at h
    by_cases hj : j < (enc y).length
    · rw [List.getElem?_append_left hj] at h
      exact ⟨0, j, y, by simp, h, by simp⟩
    · rw [List.getElem?_append_right (by omega)] at h
      obtain ⟨k, r, x, hk, hr, e⟩ := flatMap_of hsz l _ u h
      refine ⟨k + 1, r, x, by simpa using hk, hr, ?_⟩
      rw [hsz] at e hj
      rw [Nat.add_mul]; omega
theorem length_flat {α : Type} {enc : α → List Value} {sz : Nat} (hsz : ∀ x, (enc x).length = sz) : ∀ (l : List α), (l.flatMap enc).length = l.length * sz
  | [] => by simp
  | y :: l => by rw [List.flatMap_cons, List.length_append, length_flat hsz l, hsz, List.length_cons, Nat.add_mul]; omega
section
variable {α : Type} {w w' : World} {base N sz : Nat} {e : TypeId} {enc : α → List Value} {A : Option Addr} {c : Nat} {l : List α}
theorem Owns.row (h : Owns w base e sz enc A c l) (hsz : ∀ x, (enc x).length = sz) : RowAt w w.heap.size sz enc A l := fun h0 => by
  obtain ⟨g, cap, hv, _, hg⟩ := World.ownsRow.form h h0
  have hA : A = some ⟨g, 0, none⟩ := by injection hv
  refine ⟨g, 0, hA, hg, fun k x hk j u hu => ?_⟩
  have := World.ownsRow.cells h (g := g) (by rw [hA]; rfl) (k * sz + j) u (flatMap_at hsz l k j x u hk hu)
  rw [Addr.add_lit, ← Nat.add_assoc] at this; exact this
theorem Owns.len (h : Owns w base e sz enc A c l) : l.length ≤ c ∧ c ≤ 9223372036854775807 := by
  rcases h.2 with ⟨hv, h0⟩ | ⟨g, cap, cur, hv, _, _, h1, h2, _⟩
  · injection hv with _ _ hc; omega
  · injection hv with _ _ hc; unfold maxLen at h2; omega
theorem Owns.lo (h : Owns w base e sz enc A c l) : ∀ k, blk A = some k → base ≤ k ∧ k < w.heap.size := fun k hk => by
  refine World.ownsRow.lt h k ?_
  cases A with
  | none => cases hk
  | some a => exact hk
theorem own_blk (A : Option Addr) (n c : Nat) : (Value.slice A n c).ownBlock = blk A := by cases A <;> rfl
theorem Owns.kept {row : Option Nat} (h : Owns w base e sz enc A c l) (hg : w.grownBy w' row) (hne : blk A = none ∨ blk A ≠ row) : Owns w' base e sz enc A c l :=
  World.ownsRow.kept h hg (by rw [own_blk]; exact hne)
theorem Owns.alloc (h : Owns w base e sz enc A c l) (o : Obj) : Owns (w.alloc o) base e sz enc A c l := World.ownsRow.alloc h o
theorem Owns.keep {B : Nat} (h : Owns w base e sz enc A c l) (hb : Below B w w') (hB : ∀ k, blk A = some k → k < B) : Owns w' base e sz enc A c l := by
  refine ⟨h.1, ?_⟩
  rcases h.2 with h2 | ⟨g, cap, cur, hv, hbase, hh, hr⟩
  · exact .inl h2
  · refine .inr ⟨g, cap, cur, hv, hbase, ?_, hr⟩
    have hA : A = some ⟨g, 0, none⟩ := by injection hv
    rw [hb.block g (hB g (by rw [hA]; rfl))]; exact hh
theorem owns_nil (w : World) (base : Nat) (e : TypeId) (sz : Nat) (enc : α → List Value) : Owns w base e sz enc none 0 [] := World.ownsRow_nil w base e sz
theorem Owns.ne {e' : TypeId} {α' : Type} {sz' base' c' : Nat} {enc' : α' → List Value} {A' : Option Addr} {l' : List α'} (h : Owns w base e sz enc A c l) (h' : Owns w base' e' sz' enc' A' c' l') (he : e ≠ e') : blk A = none ∨ blk A ≠ blk A' := by
  rcases h.2 with ⟨hv, _⟩ | ⟨g, cap, cur, hv, _, hh, _⟩
  · left; injection hv with hA; rw [hA]; rfl
  · rcases h'.2 with ⟨hv', _⟩ | ⟨g', cap', cur', hv', _, hh', _⟩
    · right; injection hv with hA; injection hv' with hA'; rw [hA, hA']; simp [blk]
    · right; injection hv with hA; injection hv' with hA'
      intro hb
      rw [hA, hA'] at hb
      have hgg : g = g' := by simpa [blk] using hb
      subst hgg
      rw [hh] at hh'; injection hh' with hh'; injection hh' with _ he'; exact he he'
theorem row_new (w : World) (e : TypeId) (sz : Nat) (enc : α → List Value) (x : α) (cs : Array Value) (hcs : cs.toList = enc x) : RowAt (w.alloc (.cells cs e)) (w.heap.size + 1) sz enc (some ⟨w.heap.size, 0, none⟩) [x] := fun _ => by
  refine ⟨w.heap.size, 0, rfl, by omega, fun k y hk j u hu => ?_⟩
  cases k with
  | succ k => simp at hk
  | zero =>
    simp at hk; subst hk
    rw [World.cell?_alloc_at _ _ _ _ rfl, ← hcs] at *
    simpa using hu
end
section
variable {P : Program} (w : World)
theorem wpList_append_rows {α : Type} {ops : Array Oper} {rest : List Oper} {o : Oper} {a : Act} {Q : Exit → Act → World → Prop} (hgd : o.guard = none) (s x : Operand) (t : TypeId)
    (ho : o.op = .call { callee := .builtin .append, args := #[s, x], argTypes := #[t, t] })
    (base : Nat) (e : TypeId) (sz bytes : Nat) (z : Value) (ht : P.underlying t = some (.slice e)) (hinfo : (P.info? e).map (fun i => (i.zero, i.size, i.bytes)) = some (some z, sz, bytes))
    (hzs : z.cells.size = sz) (hsz : 0 < sz) (enc : α → List Value) (henc : ∀ x, (enc x).length = sz) (hone : ∀ x, ∀ u ∈ enc x, u.oneCell' = true)
    (A : Option Addr) (c : Nat) (xs : List α) (B : Option Addr) (cB N n m : Nat) (l : List α) (hs : a.eval s = .slice A n c) (hx : a.eval x = .slice B m cB)
    (hn : xs.length = n) (hm : l.length = m)
    (hown : Owns w base e sz enc A c xs) (hr : RowAt w N sz enc B l)
    (h63 : n + m ≤ 9223372036854775807) (hbytes : (n + m) * bytes ≤ 140737488355328) (hbase : base ≤ w.heap.size)
    (h : ∀ A' c' w', Owns w' base e sz enc A' c' (xs ++ l) → w.grownBy w' (blk A) → (blk A' = blk A ∨ blk A' = some w.heap.size) → wpList P ops Q rest (a.put o.dst (.slice A' (n + m) c')) w') : wpList P ops Q (o :: rest) a w := by
  subst hn hm
  obtain ⟨i, hi, hz, hsize, hby⟩ := info_parts hinfo
  have key : ∃ v' w', (Builtin.append_ #[t, t] o.type #[.slice A xs.length c, .slice B l.length cB]).run P w = .ok v' w' ∧ w'.ownsRow base e sz v' (xs.length + l.length) ((xs ++ l).flatMap enc) ∧ w.grownBy w' (blk A) ∧ (v'.ownBlock = blk A ∨ v'.ownBlock = some w.heap.size) := by
    by_cases h0 : 0 < l.length
    · obtain ⟨b, off, rfl, hb, hc⟩ := hr h0
      obtain ⟨v', w', h1, h2, h3, _, h5⟩ := run_append_own_at (P := P) w base t o.type e i z sz bytes ht hi hz hsize hby hzs hsz (.slice A xs.length c) xs.length _ hown ⟨b, off, none⟩ l.length cB (l.flatMap enc)
        (length_flat henc l) (fun j u hu => by
          obtain ⟨k, r, x, hk, hr', rfl⟩ := flatMap_of henc l j u hu
          have := hc k x hk r u hr'
          by_cases hz0 : k * sz + r = 0
          · rw [hz0]; simp only [Addr.add, if_true]
            have e0 : off + k * sz + r = off := by omega
            rw [e0] at this; exact this
          · simp only [Addr.add, if_neg hz0]
            rw [← Nat.add_assoc]; exact this)
        (fun u hu => by obtain ⟨x, _, hux⟩ := List.mem_flatMap.1 hu; exact hone x u hux) h63 hbytes hbase
      rw [own_blk] at h3 h5
      exact ⟨v', w', h1, by rw [List.flatMap_append]; exact h2, h3, h5⟩
    · have hl : l = [] := List.eq_nil_of_length_eq_zero (by omega)
      subst hl
      cases B with
      | none =>
        refine ⟨.slice A xs.length c, w, ?_, by simp only [List.length_nil, Nat.add_zero, List.append_nil]; exact hown, World.grownBy.refl w _, .inl (own_blk _ _ _)⟩
        rcases hown.2 with ⟨hv, _⟩ | ⟨g, cap, cur, hv, _, _, hnc, _⟩
        · rw [hv]; simp [Builtin.append_, run_underlying ht, sizeOf, typeInfo, hi, Builtin.lenOf, Builtin.firstCells]
        · rw [hv]; simp [Builtin.append_, run_underlying ht, sizeOf, typeInfo, hi, Builtin.lenOf, Builtin.firstCells, hnc, storeCells]
      | some ad =>
        obtain ⟨v', w', h1, h2, h3, _, h5⟩ := run_append_own_at (P := P) w base t o.type e i z sz bytes ht hi hz hsize hby hzs hsz (.slice A xs.length c) xs.length _ hown ad 0 cB []
          (by simp) (fun j u hu => by simp at hu) (fun u hu => by simp at hu) h63 hbytes hbase
        rw [own_blk] at h3 h5
        exact ⟨v', w', h1, by simpa using h2, h3, h5⟩
  obtain ⟨v', w', hrun, h2, h3, h4⟩ := key
  have hv : ∃ A' c', v' = .slice A' (xs.length + l.length) c' := by
    rcases h2.2 with ⟨hv, h0⟩ | ⟨g, cap, cur, hv, _⟩
    · exact ⟨none, 0, by rw [hv, h0]⟩
    · exact ⟨_, _, hv⟩
  obtain ⟨A', c', rfl⟩ := hv
  rw [own_blk] at h4
  refine wpList_plain hgd fun K hK => ?_
  unfold Oper.wp execOp
  simp only [ho, resolve, invoke, builtin, Sem.run_bind, Sem.run_pure, Result.andThen_ok, List.map_toArray, List.map_cons, List.map_nil, hs, hx, hrun]
  exact hK _ _ (h A' c' w' (by unfold Owns; rw [List.length_append]; exact h2) h3 h4)
end
end Go.Proofs.Ytfbeggdbjpmppaa
namespace Go.Proofs.Ytfbeggdbjpmppaa
open Go.RowKit
def FRow {α : Type} (w : World) (lo sz : Nat) (enc : α → List Value) (A : Option Addr) (l : List α) : Prop :=
  0 < l.length → ∃ b off, A = some ⟨b, off, none⟩ ∧ lo ≤ b ∧ b < w.heap.size ∧ ∀ k x, l[k]? = some x → ∀ j u, (enc x)[j]? = some u → w.cell? ⟨b, off + k * sz + j, none⟩ = some u
section
variable {α : Type} {w w' : World} {lo sz : Nat} {enc : α → List Value} {A : Option Addr} {l : List α}
theorem FRow.row (h : FRow w lo sz enc A l) : RowAt w w.heap.size sz enc A l := fun h0 => by
  obtain ⟨b, off, e, _, hb, hc⟩ := h h0
  exact ⟨b, off, e, hb, hc⟩
theorem FRow.below (h : FRow w lo sz enc A l) (hb : Below w.heap.size w w') : FRow w' lo sz enc A l := fun h0 => by
  obtain ⟨b, off, e, h1, h2, hc⟩ := h h0
  exact ⟨b, off, e, h1, Nat.lt_of_lt_of_le h2 hb.size, fun k x hk j u hu => (hb.cell (p := ⟨b, _, none⟩) h2).trans (hc k x hk j u hu)⟩
theorem FRow.setCell (h : FRow w lo sz enc A l) {p : Addr} (hp : p.block < lo) (v : Value) : FRow (w.setCell p v) lo sz enc A l := fun h0 => by
  obtain ⟨b, off, e, h1, h2, hc⟩ := h h0
  refine ⟨b, off, e, h1, by rw [World.size_setCell]; exact h2, fun k x hk j u hu => ?_⟩
  have hne : ∀ o, p ≠ ⟨b, o, none⟩ := fun o e2 => by rw [e2] at hp; exact absurd h1 (Nat.not_le.2 hp)
  rw [World.cell?_setCell_other _ _ _ _ (hne _)]
  exact hc k x hk j u hu
theorem FRow.of_owns {base c : Nat} {e : TypeId} (h : Owns w base e sz enc A c l) (hsz : ∀ x, (enc x).length = sz) : FRow w base sz enc A l := fun h0 => by
  obtain ⟨b, off, e, hb, hc⟩ := h.row hsz h0
  exact ⟨b, off, e, (h.lo b (by rw [e]; rfl)).1, hb, hc⟩
end
section
variable {P : Program}
theorem run_append_zero (w : World) (t ty e : TypeId) (i : TypeInfo) (ht : P.underlying t = some (.slice e)) (hi : P.info? e = some i) (g : Addr) (B : Option Addr) (m c : Nat) (hm : 0 < m) (hb : m * i.bytes ≤ 140737488355328) :
    (Builtin.append_ #[t, t] ty #[.slice (some g) 0 0, .slice B m c]).run P w = (Builtin.append_ #[t, t] ty #[.slice none 0 0, .slice B m c]).run P w := by
  have h1 : ¬ m ≤ 0 := by omega
  have h2 := growslice_fits (need := m) (old := 0) (bytes := i.bytes) hm hb
  have h3 : ¬ m = 0 := by omega
  have h4 : ¬ 281474976710656 < Builtin.nextslicecap m 0 * i.bytes := by omega
  simp [Builtin.append_, run_underlying ht, sizeOf, typeInfo, hi, Builtin.lenOf, Builtin.firstCells, loadCells, loadCellsFrom, h1, h3, h4]
theorem run_append_none (w : World) (t ty e : TypeId) (i : TypeInfo) (ht : P.underlying t = some (.slice e)) (hi : P.info? e = some i) (A B : Option Addr) (c : Nat) :
    (Builtin.append_ #[t, t] ty #[.slice A 0 0, .slice B 0 c]).run P w = .ok (.slice A 0 0) w := by
  cases A <;> cases B <;> simp [Builtin.append_, run_underlying ht, sizeOf, typeInfo, hi, Builtin.lenOf, Builtin.firstCells, loadCells, loadCellsFrom, storeCells]
end
end Go.Proofs.Ytfbeggdbjpmppaa
namespace Go.Proofs.Ytfbeggdbjpmppaa
open Go.RowKit
theorem own_prefix {α : Type} {w : World} {base sz c : Nat} {e : TypeId} {enc : α → List Value} {A : Option Addr} {xs ys : List α} (henc : ∀ x, (enc x).length = sz) (h : Owns w base e sz enc A c (xs ++ ys)) (hA : A ≠ none) : Owns w base e sz enc A c xs := by
  have hl := length_flat henc xs
  rcases h.2 with ⟨hv, h0⟩ | ⟨g, cap, cur, hv, hb, hh, h1, h2, h3, h4⟩
  · injection hv with h1; exact absurd h1 hA
  · injection hv with e1 _ e3
    subst e1 e3
    refine ⟨by rw [hl], .inr ⟨g, c, cur, rfl, hb, hh, by rw [List.length_append] at h1; omega, h2, h3, ?_⟩⟩
    rw [List.flatMap_append] at h4
    have : cur.toList.take (xs.length * sz) = (cur.toList.take ((xs ++ ys).length * sz)).take (xs.length * sz) := by
      rw [List.take_take, Nat.min_eq_left]
      rw [List.length_append]; exact Nat.mul_le_mul_right _ (by omega)
    rw [this, h4, ← hl]
    exact List.take_left
section
variable {P : Program} (w : World)
end
end Go.Proofs.Ytfbeggdbjpmppaa
namespace Go.Proofs.Ytfbeggdbjpmppaa
open Go Go.RowKit
section
variable {P : Program} {ty t : TypeId} {b off : Nat} {w : World} {v : Value}
theorem load_agg {cs : List Value} (hg : aggB P ty = some true) (hs : sizeB P ty = some cs.length) (h : w.rangeAt b off cs) : (loadVar ty ⟨b, off, none⟩).run P w = .ok (.agg cs.toArray) w := by
  unfold aggB at hg
  cases hu : P.underlying ty with
  | none => rw [hu] at hg; simp at hg
  | some d =>
    rw [hu] at hg
    refine run_loadVar_mid w b off ty cs d h hu ?_ hs
    cases d <;> simp at hg ⊢
theorem VStore.new {x : World} {K : World → Prop} {c c' : Array Value} (hx : Hid (x = w.alloc (.cells c t))) (hi : sizeB P t = some c'.size) (ho : c.size = c'.size) (h1 : c'.all (·.oneCell') = true) (hk : ∀ x', Hid (x' = w.alloc (.cells c' t)) → K x') : VStore P t w.heap.size 0 (.agg c') x K := by
  rw [hx.out]
  exact .mk _ (run_storeVar_new w t c c' hi ho h1) (hk _ (Lib.hid rfl))
theorem VStore.mid {K : World → Prop} {c : Array Value} (ht : w.there b off c.size) (hi : sizeB P ty = some c.size) (h1 : c.all (·.oneCell') = true) (hk : ∀ w', Hid (w' = w.setCells b off c.toList) → K w') : VStore P ty b off (.agg c) w K :=
  .mk _ (run_storeVar_mid w b off ty c ht hi h1) (hk _ (Lib.hid rfl))
theorem run_store1 (hi : sizeB P ty = some 1) (hc : (w.cell? ⟨b, off, none⟩).isSome = true) (hf : w.frozen? ⟨b, off, none⟩ = false) (hv : v.cells = #[v]) (h1 : v.oneCell' = true) : (storeVar ty ⟨b, off, none⟩ v).run P w = .ok () (w.setCell ⟨b, off, none⟩ v) := by
  have := run_storeCells_cells (P := P) b off [v] 0 w (fun j hj => by
    have : j = 0 := (by simpa using hj)
    subst this
    simpa using hc) (fun j hj => by
    have : j = 0 := (by simpa using hj)
    subst this
    simpa using hf) (fun u hu => by simp at hu; subst hu; exact h1)
  simp only [Nat.add_zero] at this
  unfold storeVar
  rw [Sem.run_bind, run_size hi, hv]
  simpa [World.setCells] using this
theorem VStore.cell {K : World → Prop} (hi : sizeB P ty = some 1) (hc : (w.cell? ⟨b, off, none⟩).isSome = true) (hf : w.frozen? ⟨b, off, none⟩ = false) (hv : v.cells = #[v]) (h1 : v.oneCell' = true) (hk : ∀ w', Hid (w' = w.setCell ⟨b, off, none⟩ v) → K w') : VStore P ty b off v w K :=
  .mk _ (run_store1 hi hc hf hv h1) (hk _ (Lib.hid rfl))
theorem VApp.rows {α : Type} {ty0 : TypeId} {t e : TypeId} {K : Value → World → Prop}
    (base : Nat) (sz bytes : Nat) (z : Value) (ht : P.underlying t = some (.slice e)) (hinfo : (P.info? e).map (fun i => (i.zero, i.size, i.bytes)) = some (some z, sz, bytes))
    (hzs : z.cells.size = sz) (hsz : 0 < sz) (enc : α → List Value) (henc : ∀ x, (enc x).length = sz) (hone : ∀ x, ∀ u ∈ enc x, u.oneCell' = true)
    {A : Option Addr} {c : Nat} (xs : List α) {B : Option Addr} {cB N n m : Nat} (l : List α)
    (hn : xs.length = n) (hm : l.length = m)
    (hown : Owns w base e sz enc A c xs) (hr : RowAt w N sz enc B l)
    (h63 : n + m ≤ 9223372036854775807) (hbytes : (n + m) * bytes ≤ 140737488355328) (hbase : base ≤ w.heap.size)
    (h : ∀ A' c' w', Owns w' base e sz enc A' c' (xs ++ l) → w.grownBy w' (blk A) → (blk A' = blk A ∨ blk A' = some w.heap.size) → K (.slice A' (n + m) c') w') : VApp P #[t, t] ty0 [.slice A n c, .slice B m cB] w K := by
  subst hn hm
  obtain ⟨i, hi, hz, hsize, hby⟩ := info_parts hinfo
  have key : ∃ v' w', (Builtin.append_ #[t, t] ty0 #[.slice A xs.length c, .slice B l.length cB]).run P w = .ok v' w' ∧ w'.ownsRow base e sz v' (xs.length + l.length) ((xs ++ l).flatMap enc) ∧ w.grownBy w' (blk A) ∧ (v'.ownBlock = blk A ∨ v'.ownBlock = some w.heap.size) := by
    by_cases h0 : 0 < l.length
    · obtain ⟨b, off, rfl, hb, hc⟩ := hr h0
      obtain ⟨v', w', h1, h2, h3, _, h5⟩ := run_append_own_at (P := P) w base t ty0 e i z sz bytes ht hi hz hsize hby hzs hsz (.slice A xs.length c) xs.length _ hown ⟨b, off, none⟩ l.length cB (l.flatMap enc)
        (length_flat henc l) (fun j u hu => by
          obtain ⟨k, r, x, hk, hr', rfl⟩ := flatMap_of henc l j u hu
          have := hc k x hk r u hr'
          by_cases hz0 : k * sz + r = 0
          · rw [hz0]; simp only [Addr.add, if_true]
            have e0 : off + k * sz + r = off := by omega
            rw [e0] at this; exact this
          · simp only [Addr.add, if_neg hz0]
            rw [← Nat.add_assoc]; exact this)
        (fun u hu => by obtain ⟨x, _, hux⟩ := List.mem_flatMap.1 hu; exact hone x u hux) h63 hbytes hbase
      rw [own_blk] at h3 h5
      exact ⟨v', w', h1, by rw [List.flatMap_append]; exact h2, h3, h5⟩
    · have hl : l = [] := List.eq_nil_of_length_eq_zero (by omega)
      subst hl
      cases B with
      | none =>
        refine ⟨.slice A xs.length c, w, ?_, by simp only [List.length_nil, Nat.add_zero, List.append_nil]; exact hown, World.grownBy.refl w _, .inl (own_blk _ _ _)⟩
        rcases hown.2 with ⟨hv, _⟩ | ⟨g, cap, cur, hv, _, _, hnc, _⟩
        · rw [hv]; simp [Builtin.append_, run_underlying ht, sizeOf, typeInfo, hi, Builtin.lenOf, Builtin.firstCells]
        · rw [hv]; simp [Builtin.append_, run_underlying ht, sizeOf, typeInfo, hi, Builtin.lenOf, Builtin.firstCells, hnc, storeCells]
      | some ad =>
        obtain ⟨v', w', h1, h2, h3, _, h5⟩ := run_append_own_at (P := P) w base t ty0 e i z sz bytes ht hi hz hsize hby hzs hsz (.slice A xs.length c) xs.length _ hown ad 0 cB []
          (by simp) (fun j u hu => by simp at hu) (fun u hu => by simp at hu) h63 hbytes hbase
        rw [own_blk] at h3 h5
        exact ⟨v', w', h1, by simpa using h2, h3, h5⟩
  obtain ⟨v', w', hrun, h2, h3, h4⟩ := key
  have hv : ∃ A' c', v' = .slice A' (xs.length + l.length) c' := by
    rcases h2.2 with ⟨hv, h0⟩ | ⟨g, cap, cur, hv, _⟩
    · exact ⟨none, 0, by rw [hv, h0]⟩
    · exact ⟨_, _, hv⟩
  obtain ⟨A', c', rfl⟩ := hv
  rw [own_blk] at h4
  exact .mk _ _ hrun (h A' c' w' (by unfold Owns; rw [List.length_append]; exact h2) h3 h4)
theorem VApp.fresh {α : Type} {ty0 : TypeId} {t e : TypeId} {K : Value → World → Prop}
    (sz bytes : Nat) (z : Value) (ht : P.underlying t = some (.slice e)) (hinfo : (P.info? e).map (fun i => (i.zero, i.size, i.bytes)) = some (some z, sz, bytes))
    (hzs : z.cells.size = sz) (hsz : 0 < sz) (enc : α → List Value) (henc : ∀ x, (enc x).length = sz) (hone : ∀ x, ∀ u ∈ enc x, u.oneCell' = true)
    {A B : Option Addr} {cB N m : Nat} (l : List α) (hm : l.length = m) (hr : RowAt w N sz enc B l) (hbytes : m * bytes ≤ 140737488351232) (h63 : m ≤ 9223372036854775807)
    (h : ∀ A' c' w', FRow w' w.heap.size sz enc A' l → m ≤ c' → c' ≤ 9223372036854775807 → Below w.heap.size w w' → K (.slice A' m c') w') : VApp P #[t, t] ty0 [.slice A 0 0, .slice B m cB] w K := by
  subst hm
  obtain ⟨i, hi, hz, hsize, hby⟩ := info_parts hinfo
  have key : ∃ A' c' w', (Builtin.append_ #[t, t] ty0 #[.slice A 0 0, .slice B l.length cB]).run P w = .ok (.slice A' l.length c') w' ∧ FRow w' w.heap.size sz enc A' l ∧ l.length ≤ c' ∧ c' ≤ 9223372036854775807 ∧ Below w.heap.size w w' := by
    by_cases h0 : 0 < l.length
    · obtain ⟨b, off, rfl, hb, hc⟩ := hr h0
      obtain ⟨v', w', h1, h2, h3, _, h5⟩ := run_append_own_at (P := P) w w.heap.size t ty0 e i z sz bytes ht hi hz hsize hby hzs hsz (.slice none 0 0) 0 _ (owns_nil (α := α) w w.heap.size e sz enc) ⟨b, off, none⟩ l.length cB (l.flatMap enc)
        (length_flat henc l) (fun j u hu => by
          obtain ⟨k, r, x, hk, hr', rfl⟩ := flatMap_of henc l j u hu
          have := hc k x hk r u hr'
          by_cases hz0 : k * sz + r = 0
          · rw [hz0]; simp only [Addr.add, if_true]
            have e0 : off + k * sz + r = off := by omega
            rw [e0] at this; exact this
          · simp only [Addr.add, if_neg hz0]
            rw [← Nat.add_assoc]; exact this)
        (fun u hu => by obtain ⟨x, _, hux⟩ := List.mem_flatMap.1 hu; exact hone x u hux) (by simp only [maxLen]; omega) (by rw [Nat.zero_add]; omega) (Nat.le_refl _)
      rw [Nat.zero_add, List.flatMap_nil, List.nil_append] at h2
      obtain ⟨g, cap, rfl, hg1, hg2⟩ := World.ownsRow.form h2 h0
      have hO : Owns w' w.heap.size e sz enc (some ⟨g, 0, none⟩) cap l := h2
      refine ⟨some ⟨g, 0, none⟩, cap, w', ?_, FRow.of_owns hO henc, hO.len.1, hO.len.2, (Below.refl w.heap.size w).grown h3 (Nat.le_refl _) (by intro k hk; cases hk)⟩
      cases A with
      | none => exact h1
      | some ga => rw [run_append_zero w t ty0 e i ht hi ga _ _ _ h0 (by rw [hby]; omega)]; exact h1
    · have hl : l = [] := List.eq_nil_of_length_eq_zero (by omega)
      subst hl
      exact ⟨A, 0, w, run_append_none w t ty0 e i ht hi A B cB, fun h => absurd h (by simp), by simp, by omega, Below.refl _ _⟩
  obtain ⟨A', c', w', hrun, h2, h3, h4, h5⟩ := key
  exact .mk _ _ hrun (h A' c' w' h2 h3 h4 h5)
theorem VApp.keep {α : Type} {ty0 : TypeId} {t e : TypeId} {K : Value → World → Prop}
    (base : Nat) (sz bytes : Nat) (z : Value) (ht : P.underlying t = some (.slice e)) (hinfo : (P.info? e).map (fun i => (i.zero, i.size, i.bytes)) = some (some z, sz, bytes))
    (hzs : z.cells.size = sz) (hsz : 0 < sz) (enc : α → List Value) (henc : ∀ x, (enc x).length = sz) (hone : ∀ x, ∀ u ∈ enc x, u.oneCell' = true)
    {A : Option Addr} {c : Nat} (xs : List α) {gB cB n : Nat} (y : α)
    (hn : xs.length = n) (hown : Owns w base e sz enc A c xs) (hr : ∀ j u, (enc y)[j]? = some u → w.cell? ⟨gB, j, none⟩ = some u)
    (h63 : n + 1 ≤ 9223372036854775807) (hbytes : (n + 1) * bytes ≤ 140737488355328) (hbase : base ≤ w.heap.size)
    (h : ∀ A' c' w', Owns w' base e sz enc A' c' (xs ++ [y]) → Owns w' base e sz enc A c xs → w.grownBy w' (blk A) → (blk A' = blk A ∨ blk A' = some w.heap.size) → K (.slice A' (n + 1) c') w') : VApp P #[t, t] ty0 [.slice A n c, .slice (some ⟨gB, 0, none⟩) 1 cB] w K := by
  subst hn
  obtain ⟨i, hi, hz, hsize, hby⟩ := info_parts hinfo
  have hnews : ∀ j u, (enc y)[j]? = some u → w.cell? ((⟨gB, 0, none⟩ : Addr).add j) = some u := fun j u hu => by
    rw [Addr.add_lit]; simpa using hr j u hu
  have hfm : ([y] : List α).flatMap enc = enc y := by simp
  obtain ⟨v', w', hrun, h2, h3, h5, h4⟩ := run_append_own_at (P := P) w base t ty0 e i z sz bytes ht hi hz hsize hby hzs hsz (.slice A xs.length c) xs.length _ hown ⟨gB, 0, none⟩ 1 cB (enc y)
    (by rw [henc, Nat.one_mul]) hnews (hone y) h63 hbytes hbase
  obtain ⟨g', cap', rfl, hg1, hg2⟩ := World.ownsRow.form h2 (by omega)
  simp only [own_blk] at h3 h4
  have hO : Owns w' base e sz enc (some ⟨g', 0, none⟩) cap' (xs ++ [y]) := by unfold Owns; rw [List.flatMap_append, hfm, List.length_append]; exact h2
  have hold : Owns w' base e sz enc A c xs := by
    rcases hown.2 with ⟨hv, h0⟩ | ⟨g, cap, cur, hv, hb, hh, k1, k2, k3, k4⟩
    · injection hv with e1 _ e3
      subst e1 e3
      obtain rfl : xs = [] := List.eq_nil_of_length_eq_zero h0
      exact owns_nil _ _ _ _ _
    · injection hv with e1 _ e3
      subst e1 e3
      by_cases hroom : xs.length + 1 ≤ c
      · have hr' := run_append_room (P := P) w t ty0 e i ht hi g xs.length c cur hh ⟨gB, 0, none⟩ 1 cB (enc y) (by rw [henc, hsize, Nat.one_mul]) hnews (hone y) hroom (by rw [henc, k3, hsize]; have := Nat.mul_le_mul_right sz hroom; rw [Nat.add_mul, Nat.one_mul] at this; exact this)
        rw [hrun] at hr'
        injection hr' with e1 e2
        injection e1 with e3 _ e4
        injection e3 with e3; injection e3 with e3
        subst e3 e4
        exact own_prefix henc hO (by simp)
      · have hr' := run_append_grow (P := P) w t ty0 e i z ht hi hz ⟨g, 0, none⟩ xs.length c (xs.flatMap enc) (by rw [hsize, length_flat henc]) (hown.cells (g := g) rfl) ⟨gB, 0, none⟩ 1 cB (enc y) (by rw [henc, hsize, Nat.one_mul]) hnews (by omega) (by omega) (growslice_fits (by omega) (by rw [hby]; exact hbytes))
        rw [hrun] at hr'
        injection hr' with _ e2
        rw [e2]
        exact (show Owns w.drew base e sz enc (some ⟨g, 0, none⟩) c xs from hown).alloc _
  exact .mk _ _ hrun (h _ _ w' hO hold h3 h4)
end
end Go.Proofs.Ytfbeggdbjpmppaa
namespace Go.Proofs.Ytfbeggdbjpmppaa
open Go
def tab : Tab where
  fd := [(7, [(0, 1, false), (1, 1, false), (2, 1, false), (3, 1, false)]), (8, [(0, 1, false), (1, 1, false), (2, 1, false), (3, 1, false)]), (13, [(0, 1, false), (1, 1, false)]), (14, [(0, 1, false), (1, 1, false)]), (18, [(0, 1, false)]), (19, [(0, 1, false)]), (28, [(0, 1, false), (1, 1, false), (2, 1, false), (3, 1, false)]), (29, [(0, 1, false), (1, 1, false), (2, 1, false), (3, 1, false)]), (30, [(0, 1, false), (1, 1, false), (2, 1, false), (3, 1, false), (4, 4, true), (8, 1, false)]), (31, [(0, 1, false), (1, 1, false), (2, 1, false), (3, 1, false), (4, 4, true), (8, 1, false)]), (32, [(0, 1, false), (1, 9, true)]), (33, [(0, 1, false), (1, 9, true)]), (38, [(0, 1, false), (1, 1, false), (2, 1, false), (3, 1, false), (4, 1, false), (5, 1, false), (6, 1, false)]), (39, [(0, 1, false), (1, 1, false), (2, 1, false), (3, 1, false), (4, 1, false), (5, 1, false), (6, 1, false)]), (42, [(0, 1, false), (1, 1, false), (2, 1, false)]), (43, [(0, 1, false), (1, 1, false), (2, 1, false)]), (45, [(0, 4, true), (4, 1, false)]), (46, [(0, 4, true), (4, 1, false)]), (51, [(0, 1, false), (1, 1, false), (2, 4, true), (6, 5, true), (11, 1, false)]), (52, [(0, 1, false), (1, 1, false), (2, 4, true), (6, 5, true), (11, 1, false)]), (54, [(0, 1, false), (1, 1, false), (2, 1, false), (3, 1, false), (4, 1, false)]), (55, [(0, 1, false), (1, 1, false), (2, 1, false), (3, 1, false), (4, 1, false)]), (58, [(0, 1, false), (1, 1, false), (2, 1, false), (3, 1, false), (4, 1, false)]), (59, [(0, 1, false), (1, 1, false), (2, 1, false), (3, 1, false), (4, 1, false)]), (70, [(0, 1, false), (1, 1, false), (2, 1, false), (3, 1, false), (4, 9, true)]), (71, [(0, 1, false), (1, 1, false), (2, 1, false), (3, 1, false), (4, 9, true)]), (75, [(0, 9, true), (9, 5, true), (14, 5, true), (19, 1, false), (20, 1, false), (21, 1, false)]), (76, [(0, 9, true), (9, 5, true), (14, 5, true), (19, 1, false), (20, 1, false), (21, 1, false)]), (84, [(0, 1, false), (1, 1, false), (2, 9, true)]), (85, [(0, 1, false), (1, 1, false), (2, 9, true)]), (95, [(0, 16, true), (16, 16, true), (32, 1, false), (33, 1, false), (34, 1, false), (35, 4, true)]), (96, [(0, 16, true), (16, 16, true), (32, 1, false), (33, 1, false), (34, 1, false), (35, 4, true)]), (97, [(0, 1, false), (1, 39, true)]), (98, [(0, 1, false), (1, 39, true)]), (100, [(0, 1, false), (1, 1, false), (2, 1, false), (3, 1, false), (4, 39, true), (43, 640, true), (683, 5, true)]), (101, [(0, 1, false), (1, 1, false), (2, 1, false), (3, 1, false), (4, 39, true), (43, 640, true), (683, 5, true)]), (122, [(0, 1, false), (1, 1, false), (2, 1, false), (3, 5, true), (8, 1, false), (9, 9, true), (18, 1, false)]), (123, [(0, 1, false), (1, 1, false), (2, 1, false), (3, 5, true), (8, 1, false), (9, 9, true), (18, 1, false)]), (130, [(0, 1, false), (1, 1, false), (2, 9, true)]), (135, [(0, 1, false), (1, 1, false), (2, 1, false), (3, 1, false)]), (136, [(0, 1, false), (1, 1, false), (2, 1, false), (3, 1, false)]), (138, [(0, 0, true)]), (139, [(0, 0, true)]), (148, [(0, 1, false), (1, 1, false), (2, 1, false), (3, 1, false), (4, 1, false), (5, 1, false), (6, 1, false), (7, 1, false), (8, 1, false), (9, 1, false), (10, 1, false)]), (149, [(0, 1, false), (1, 1, false), (2, 1, false), (3, 1, false), (4, 1, false), (5, 1, false), (6, 1, false), (7, 1, false), (8, 1, false), (9, 1, false), (10, 1, false)])]
  es := [(22, 5), (27, 1), (34, 10), (35, 1), (36, 1), (37, 12), (44, 3), (57, 13), (82, 11), (121, 11)]
  ar := [(83, 16, 1), (93, 16, 1), (94, 16, 1), (99, 16, 40), (137, 0, 1)]
  ik := [(2, .i64), (3, .i64), (5, .u8), (6, .u8), (12, .u64), (21, .i32), (64, .i64), (141, .u32), (142, .u8), (143, .u8), (146, .i32), (147, .i32)]
  kd := [(4, 1), (15, 2), (16, 2), (17, 2), (22, 3), (24, 2), (27, 3), (34, 3), (35, 3), (36, 3), (37, 3), (44, 3), (48, 2), (57, 3), (82, 3), (104, 2), (111, 2), (121, 3), (126, 2), (145, 2)]
  eg := [7, 8, 13, 14, 18, 19, 28, 29, 30, 31, 32, 33, 38, 39, 42, 43, 45, 46, 51, 52, 54, 55, 58, 59, 70, 71, 75, 76, 83, 84, 85, 93, 94, 95, 96, 97, 98, 99, 100, 101, 122, 123, 130, 135, 136, 137, 138, 139, 148, 149]
  bad := [0, 1, 84, 85, 86, 87, 88, 89, 90, 91, 92, 93, 94, 95, 96, 97, 98, 99, 100, 101]
set_option maxRecDepth 100000 in
theorem tab_ok : tabB Try.prog tab = true := by kernel_rfl
end Go.Proofs.Ytfbeggdbjpmppaa
namespace Go.Proofs.Ytfbeggdbjpmppaa
open Go.RowKit
def ints (l : List Int) : List Value := l.map fun v => .int .i64 v
def arr (l : List Int) : Array Value := (ints l).toArray
theorem len_ints (l : List Int) : (ints l).length = l.length := List.length_map _
theorem size_arr (l : List Int) : (arr l).size = l.length := by unfold arr; rw [List.size_toArray, len_ints]
theorem ints_at {l : List Int} {j : Nat} {v : Int} (h : l[j]? = some v) : (ints l)[j]? = some (.int .i64 v) := by unfold ints; rw [List.getElem?_map, h]; rfl
theorem one_ints (l : List Int) : ∀ u ∈ ints l, u.oneCell' = true := by
  intro u hu; unfold ints at hu; obtain ⟨v, -, rfl⟩ := List.mem_map.1 hu; rfl
theorem all_range_eqI : ∀ (xs ys : List Int), xs.length = ys.length → ((List.range xs.length).all fun i => xs.getD i 0 == ys.getD i 0) = (xs == ys)
  | [], [], _ => rfl
  | x :: xs, y :: ys, h => by
    have ih := all_range_eqI xs ys (by simpa using h)
    rw [List.length_cons, List.range_succ_eq_map, List.all_cons, List.all_map]
    simp only [List.getD_cons_zero, Function.comp_def, List.getD_cons_succ, ih]
    simp [List.cons_beq_cons]
  | [], _ :: _, h => by simp at h
  | _ :: _, [], h => by simp at h
section
variable {P : Program} (w : World)
theorem run_equalIn_ints (d : Nat) (t e : TypeId) (n : Nat) (ht : P.underlying t = some (.array n e)) (he : P.underlying e = some (.int .i64)) (hsz : ∀ w, (sizeOf e).run P w = .ok 1 w)
    (xs ys : List Int) (hx : xs.length = n) (hy : ys.length = n) :
    (Op.equalIn (d + 2) t (.agg (arr xs)) (.agg (arr ys))).run P w = .ok (xs == ys) w := by
  unfold arr ints
  rw [← all_range_eqI xs ys (hx.trans hy.symm), hx, List.range_eq_range', Op.equalIn]
  simp only [Sem.run_bind, run_underlying ht, Result.andThen_ok, hsz, Std.Legacy.Range.forIn_eq_forIn_range', Std.Legacy.Range.size, Nat.sub_zero, Nat.add_sub_cancel, Nat.div_one]
  have hl : ∀ i ∈ List.range' 0 n 1, i < n := fun i hi => by simpa using (List.mem_range'_1.1 hi).2
  generalize List.range' 0 n 1 = l at hl ⊢
  induction l with
  | nil => simp
  | cons i l ih =>
    have hi : i < n := hl i (by simp)
    have px : (part e (xs.map fun v => Value.int .i64 v).toArray (i * 1)).run P w = .ok (.int .i64 (xs.getD i 0)) w := by
      simp [part, isAgg, run_underlying he, List.getD, List.getElem?_eq_getElem (show i < xs.length by omega)]
    have py : (part e (ys.map fun v => Value.int .i64 v).toArray (i * 1)).run P w = .ok (.int .i64 (ys.getD i 0)) w := by
      simp [part, isAgg, run_underlying he, List.getD, List.getElem?_eq_getElem (show i < ys.length by omega)]
    have pe : (Op.equalIn (d + 1) e (.int .i64 (xs.getD i 0)) (.int .i64 (ys.getD i 0))).run P w = .ok (xs.getD i 0 == ys.getD i 0) w := run_equalIn_int w d e .i64 .i64 _ _ he
    simp only [List.forIn_cons, Sem.run_bind, px, py, pe, Result.andThen_ok, List.all_cons]
    cases hb : (xs.getD i 0 == ys.getD i 0)
    · simp
    · simp only [Bool.not_true, Bool.false_eq_true, if_false, Sem.run_pure, Result.andThen_ok, Bool.true_and]
      exact ih fun j hj => hl j (by simp [hj])
theorem run_eql_ints (t e : TypeId) (n : Nat) (ht : P.underlying t = some (.array n e)) (he : P.underlying e = some (.int .i64)) (hsz : ∀ w, (sizeOf e).run P w = .ok 1 w) (xs ys : List Int) (hx : xs.length = n) (hy : ys.length = n) :
    (binOp .eql t (.agg (arr xs)) (.agg (arr ys))).run P w = .ok (.bool (xs == ys)) w := by
  rw [run_eql_struct, run_equalIn_ints w 9998 t e n ht he hsz xs ys hx hy]; rfl
theorem run_neq_ints (t e : TypeId) (n : Nat) (ht : P.underlying t = some (.array n e)) (he : P.underlying e = some (.int .i64)) (hsz : ∀ w, (sizeOf e).run P w = .ok 1 w) (xs ys : List Int) (hx : xs.length = n) (hy : ys.length = n) :
    (binOp .neq t (.agg (arr xs)) (.agg (arr ys))).run P w = .ok (.bool (!(xs == ys))) w := by
  rw [run_neq_struct, run_equalIn_ints w 9998 t e n ht he hsz xs ys hx hy]; rfl
end
section
variable {P : Program} {ops : Array Oper} {rest : List Oper} {op : Oper} {a : Act} {w : World} {Q : Exit → Act → World → Prop}
theorem wpList_load_arr (hgd : op.guard = none) (ty : TypeId) (x : Operand) (ho : op.op = .load ty x) (b o : Nat) (hx : a.eval x = .pointer (some ⟨b, o, none⟩)) (l : List Int) (n : Nat) (e : TypeId) (hc : w.rangeAt b o (ints l))
    (hu : P.underlying ty = some (.array n e)) (hi : (P.info? ty).map (·.size) = some n) (hl : l.length = n) (h : wpList P ops Q rest (a.put op.dst (.agg (arr l))) w) : wpList P ops Q (op :: rest) a w :=
  wpList_load_mid hgd ty x ho b o hx (ints l) _ hc hu rfl (by rw [hi, len_ints, hl]) h
theorem wpList_store_arr (hgd : op.guard = none) (ty : TypeId) (x y : Operand) (ho : op.op = .store ty x y) (b o : Nat) (hx : a.eval x = .pointer (some ⟨b, o, none⟩)) (l : List Int) (hy : a.eval y = .agg (arr l)) (n : Nat)
    (ht : w.there b o n) (hi : (P.info? ty).map (·.size) = some n) (hl : l.length = n) (h : wpList P ops Q rest (a.put op.dst undef) (w.setCells b o (ints l))) : wpList P ops Q (op :: rest) a w := by
  refine wpList_store_mid hgd ty x y ho b o (arr l) hx hy (by rw [size_arr, hl]; exact ht) (by rw [hi, size_arr, hl]) (all_oneCell_toArray (one_ints l)) ?_
  simpa [arr] using h
theorem wpList_alloc_zero (hgd : op.guard = none) (ty : TypeId) (ho : op.op = .alloc ty) (z : Value) (hz : (P.info? ty).map (·.zero) = some (some z)) (h : wpList P ops Q rest (a.put op.dst (.pointer (some ⟨w.heap.size, 0, none⟩))) (w.alloc (.cells z.cells ty))) : wpList P ops Q (op :: rest) a w := by
  refine wpList_plain hgd fun _ hK => ?_
  cases hq : P.info? ty with
  | none => rw [hq] at hz; cases hz
  | some i =>
    have hz' : i.zero = some z := by rw [hq] at hz; simpa using hz
    unfold Oper.wp execOp
    simp only [ho]
    simp [Instr.alloc, zeroValue, typeInfo, hq, hz', newVar, Sem.run_bind]
    exact hK _ _ h
end
section
variable {w : World}
theorem rangeAt_cell {b o j : Nat} {l : List Int} {v : Int} (h : w.rangeAt b o (ints l)) (hv : l[j]? = some v) : w.cell? ⟨b, o + j, none⟩ = some (.int .i64 v) := h j _ (ints_at hv)
theorem grown_cell (w : World) (g k : Nat) (v : Value) : w.grownBy (w.setCell ⟨g, k, none⟩ v) (some g) :=
  ⟨rfl, rfl, rfl, by rw [World.size_setCell]; exact Nat.le_refl _, fun i _ hne => Below.heap_setCell _ _ _ _ (fun e => hne (by rw [e]))⟩
theorem grown_sets (g : Nat) : ∀ (vs : List Value) (o : Nat) (w : World), w.grownBy (w.setCells g o vs) (some g)
  | [], o, w => World.grownBy.refl w _
  | v :: vs, o, w => (grown_cell w g o v).trans (grown_sets g vs (o + 1) _)
end
end Go.Proofs.Ytfbeggdbjpmppaa
namespace Go.Proofs.Ytfbeggdbjpmppaa
structure Vid where
  e : Int
  l : Int
  i : Int
  c : Int
deriving DecidableEq
abbrev Vid.zero : Vid := ⟨0, 0, 0, 0⟩
structure Wish where
  set : List Int
  vec : List Int
  cid : Int
  rev : Int
  top : Int
  prev : Vid
structure Lt where
  inc : Int
  w : Wish
structure Mb where
  p : Int
  i : Int
  c : Int
structure St where
  n : Nat
  self : Nat
  inc : Int
  opn : Bool
  own : Wish
  oth : List Lt
  vid : Vid
  mem : List Mb
def zeros : List Int := List.replicate 16 0
def Wish.zero : Wish := ⟨zeros, zeros, 0, 0, 0, Vid.zero⟩
def Lt.zero : Lt := ⟨0, Wish.zero⟩
def St.lt (s : St) (q : Nat) : Lt := s.oth[q]?.getD Lt.zero
def nth (l : List Int) (k : Nat) : Int := l[k]?.getD 0
def pad (l : List Int) : List Int := l ++ List.replicate (16 - l.length) 0
def okB (v : Int) : Bool := decide (0 ≤ v ∧ v ≤ 4611686018427387904)
def packB (l : List Int) (n : Nat) : Bool := decide (l.length = n) && l.all okB
def St.matB (s : St) (q : Nat) : Bool := decide ((s.lt q).inc ≠ 0 ∧ (s.lt q).inc = nth s.own.set q ∧ (s.lt q).w.set = s.own.set)
def St.vecAt (s : St) (q : Nat) : Int := if q = s.self then s.own.cid else if q < s.n ∧ s.matB q = true then (s.lt q).w.cid else 0
def St.heard (s : St) : List Int := (List.range 16).map s.vecAt
def St.heardTo (s : St) (k : Nat) : List Int := (List.range 16).map fun q => if q = s.self then s.own.cid else if q < k ∧ s.matB q = true then (s.lt q).w.cid else 0
theorem heardTo_all (s : St) : s.heardTo s.n = s.heard := rfl
def St.spent (s : St) : Bool := decide (s.own.cid = 4611686018427387904 ∨ s.own.rev = 4611686018427387904 ∨ s.vid.e = 4611686018427387904)
def St.beg1 (s : St) (x : List Int) : St :=
  { s with own := { s.own with cid := s.own.cid + 1, rev := s.own.rev + 1, set := x, top := if s.vid = Vid.zero then s.own.top else s.vid.e, prev := if s.vid = Vid.zero then s.own.prev else s.vid } }
def St.begin_ (s : St) (x : List Int) : St := { s.beg1 x with own := { (s.beg1 x).own with vec := (s.beg1 x).heard }, opn := true }
def St.estimate (s : St) (l : List Int) : Bool × Int × St :=
  if packB l s.n = false ∨ nth (pad l) s.self ≠ s.inc then (false, 60, s)
  else if pad l = s.own.set then (false, 0, s)
  else if s.spent then (false, 3, s)
  else (true, 0, s.begin_ (pad l))
def cntB (v : Int) : Bool := decide (1 ≤ v ∧ v ≤ 4611686018427387904)
def validB (id : Vid) (n : Nat) : Bool := decide (id = Vid.zero) || (cntB id.e && cntB id.i && cntB id.c && decide (0 ≤ id.l ∧ id.l < n))
structure Pr where
  set : List Int
  cid : Int
  rev : Int
  top : Int
  prev : Vid
  vec : List Int
def Pr.wish (p : Pr) : Wish := ⟨pad p.set, pad p.vec, p.cid, p.rev, p.top, p.prev⟩
def Pr.numB (p : Pr) : Bool := decide (1 ≤ p.cid ∧ p.cid ≤ 4611686018427387904 ∧ 1 ≤ p.rev ∧ p.rev ≤ 4611686018427387904 ∧ 0 ≤ p.top ∧ p.top < 4611686018427387904)
def Pr.vecB (p : Pr) : Bool := (List.range 16).all fun i => !(decide (nth (pad p.set) i = 0) && decide (nth (pad p.vec) i ≠ 0))
def Pr.goodB (p : Pr) (q : Nat) (inc : Int) (n : Nat) : Bool :=
  packB p.set n && packB p.vec n && p.numB && p.vecB && decide (nth (pad p.set) q = inc) && decide (nth (pad p.vec) q = p.cid) && validB p.prev n
def leavesB (ms : List Mb) (q inc cid : Int) : Bool :=
  match ms.find? fun m => decide (m.p = q) with
  | some m => decide (m.i = inc ∧ m.c < cid)
  | none => false
def St.put (s : St) (q : Nat) (inc : Int) (w : Wish) : St := { s with oth := s.oth.set q ⟨inc, w⟩ }
def St.take (s : St) (q inc : Int) (p : Pr) : Bool × Int × St :=
  if q < 0 ∨ (s.n : Int) ≤ q ∨ q = s.self ∨ inc < 1 ∨ 4611686018427387904 < inc then (false, 1, s)
  else if p.goodB q.toNat inc s.n = false then (false, 60, s)
  else if inc < (s.lt q.toNat).inc then (false, 50, s)
  else if (s.lt q.toNat).inc = inc ∧ p.rev ≤ (s.lt q.toNat).w.rev then (false, 51, s)
  else
    let t := s.put q.toNat inc p.wish
    if s.opn then
      if t.heard = t.own.vec then (false, 0, t)
      else if t.own.rev < 4611686018427387904 then (false, 0, { t with own := { t.own with vec := t.heard, rev := t.own.rev + 1 } })
      else (false, 3, s)
    else if leavesB t.mem q inc p.cid = false then (false, 0, t)
    else if t.spent then (false, 3, s)
    else (true, 0, t.begin_ t.own.set)
def St.wishOf (s : St) (q : Nat) : Wish := if q = s.self then s.own else (s.lt q).w
structure Ag where
  top : Int
  mem : List Mb
  trans : List Int
def St.agStep (s : St) (a : Ag) (q : Nat) : Option Ag :=
  if nth s.own.set q = 0 then some a
  else if nth s.own.vec q = 0 ∨ (s.wishOf q).vec ≠ s.own.vec then none
  else some ⟨max a.top (s.wishOf q).top, a.mem ++ [⟨q, nth s.own.set q, nth s.own.vec q⟩],
    if q = s.self ∨ ((s.wishOf q).prev ≠ Vid.zero ∧ (s.wishOf q).prev = s.own.prev) then a.trans ++ [(q : Int)] else a.trans⟩
def St.agTo (s : St) : Nat → Option Ag
  | 0 => some ⟨s.own.top, [], []⟩
  | k + 1 => (s.agTo k).bind fun a => s.agStep a k
def Ag.vid (a : Ag) : Vid := match a.mem with
  | m :: _ => ⟨a.top + 1, m.p, m.i, m.c⟩
  | [] => Vid.zero
def St.agreed (s : St) : Option Ag := if s.opn then s.agTo s.n else none
def St.install (s : St) : St := match s.agreed with
  | some a => { s with vid := a.vid, mem := a.mem, opn := false }
  | none => s
def newB (n self inc floor : Int) : Bool := decide (1 ≤ n ∧ n ≤ 16 ∧ 0 ≤ self ∧ self < n ∧ 1 ≤ inc ∧ inc ≤ 4611686018427387904 ∧ 0 ≤ floor ∧ floor ≤ 4611686018427387904)
def newSt (n self : Nat) (inc floor : Int) : St :=
  ⟨n, self, inc, true, ⟨zeros.set self inc, zeros.set self (floor + 1), floor + 1, 1, floor, Vid.zero⟩, List.replicate 16 Lt.zero, Vid.zero, []⟩
end Go.Proofs.Ytfbeggdbjpmppaa
namespace Go.Proofs.Ytfbeggdbjpmppaa
theorem len_pad {l : List Int} (h : l.length ≤ 16) : (pad l).length = 16 := by unfold pad; rw [List.length_append, List.length_replicate]; omega
theorem len_zeros : zeros.length = 16 := by simp [zeros]
theorem len_heard (s : St) : s.heard.length = 16 := by simp [St.heard]
theorem packB_len {l : List Int} {n : Nat} (h : packB l n = true) : l.length = n := by unfold packB at h; simp at h; exact h.1
structure WOk (w : Wish) : Prop where
  set : w.set.length = 16
  vec : w.vec.length = 16
  setv : ∀ v ∈ w.set, 0 ≤ v ∧ v ≤ 4611686018427387904
  vecv : ∀ v ∈ w.vec, 0 ≤ v ∧ v ≤ 4611686018427387904
  cid : 0 ≤ w.cid ∧ w.cid ≤ 4611686018427387904
  rev : 0 ≤ w.rev ∧ w.rev ≤ 4611686018427387904
  top : 0 ≤ w.top ∧ w.top < 4611686018427387904
structure Inv (s : St) : Prop where
  n1 : 1 ≤ s.n
  n2 : s.n ≤ 16
  self : s.self < s.n
  inc1 : 1 ≤ s.inc
  inc2 : s.inc ≤ 4611686018427387904
  own : WOk s.own
  me : nth s.own.set s.self = s.inc
  oth : s.oth.length = 16
  each : ∀ t ∈ s.oth, WOk t.w
  vid : 0 ≤ s.vid.e ∧ s.vid.e ≤ 4611686018427387904
theorem zeros_ok : ∀ v ∈ zeros, 0 ≤ v ∧ v ≤ (4611686018427387904 : Int) := fun v hv => by
  have := List.eq_of_mem_replicate hv; omega
theorem wok_zero : WOk Wish.zero := ⟨len_zeros, len_zeros, zeros_ok, zeros_ok, by decide, by decide, by decide⟩
theorem Inv.lt {s : St} (h : Inv s) (q : Nat) : WOk (s.lt q).w := by
  unfold St.lt
  cases hq : s.oth[q]? with
  | none => exact wok_zero
  | some t => exact h.each t (List.mem_of_getElem? hq)
theorem Inv.lt_some {s : St} (h : Inv s) {q : Nat} (hq : q < 16) : s.oth[q]? = some (s.lt q) := by
  unfold St.lt
  rw [List.getElem?_eq_getElem (by rw [h.oth]; exact hq)]; rfl
theorem vecAt_ok {s : St} (h : Inv s) (q : Nat) : 0 ≤ s.vecAt q ∧ s.vecAt q ≤ 4611686018427387904 := by
  unfold St.vecAt
  split
  · exact h.own.cid
  · split
    · exact (h.lt q).cid
    · omega
theorem heard_ok {s : St} (h : Inv s) : ∀ v ∈ s.heard, 0 ≤ v ∧ v ≤ 4611686018427387904 := fun v hv => by
  unfold St.heard at hv
  obtain ⟨q, -, rfl⟩ := List.mem_map.1 hv
  exact vecAt_ok h q
theorem beg1_inv {s : St} {x : List Int} (h : Inv s) (hs : s.spent = false) (hl : x.length = 16) (hx : ∀ v ∈ x, 0 ≤ v ∧ v ≤ 4611686018427387904) (hm : nth x s.self = s.inc) : Inv (s.beg1 x) := by
  unfold St.spent at hs
  simp only [decide_eq_false_iff_not, not_or] at hs
  obtain ⟨h1, h2, h3⟩ := hs
  have c := h.own.cid
  have r := h.own.rev
  have t := h.own.top
  have v := h.vid
  refine ⟨h.n1, h.n2, h.self, h.inc1, h.inc2, ⟨hl, h.own.vec, hx, h.own.vecv, ?_, ?_, ?_⟩, hm, h.oth, h.each, h.vid⟩
  · show 0 ≤ s.own.cid + 1 ∧ s.own.cid + 1 ≤ _; omega
  · show 0 ≤ s.own.rev + 1 ∧ s.own.rev + 1 ≤ _; omega
  · show 0 ≤ (if s.vid = Vid.zero then s.own.top else s.vid.e) ∧ (if s.vid = Vid.zero then s.own.top else s.vid.e) < _
    split <;> omega
theorem begin_inv {s : St} {x : List Int} (h : Inv s) (hs : s.spent = false) (hl : x.length = 16) (hx : ∀ v ∈ x, 0 ≤ v ∧ v ≤ 4611686018427387904) (hm : nth x s.self = s.inc) : Inv (s.begin_ x) := by
  have b := beg1_inv h hs hl hx hm
  exact ⟨b.n1, b.n2, b.self, b.inc1, b.inc2, ⟨b.own.set, len_heard _, b.own.setv, heard_ok b, b.own.cid, b.own.rev, b.own.top⟩, b.me, b.oth, b.each, b.vid⟩
theorem pack_ok {l : List Int} {n : Nat} (h : packB l n = true) : ∀ v ∈ pad l, 0 ≤ v ∧ v ≤ 4611686018427387904 := fun v hv => by
  unfold packB at h
  simp only [Bool.and_eq_true, decide_eq_true_eq, List.all_eq_true] at h
  unfold pad at hv
  rcases List.mem_append.1 hv with hv | hv
  · have := h.2 v hv; unfold okB at this; simpa using this
  · have := List.eq_of_mem_replicate hv; omega
theorem estimate_inv {s : St} (h : Inv s) (l : List Int) : Inv (s.estimate l).2.2 := by
  unfold St.estimate
  split
  · exact h
  · rename_i h1
    split
    · exact h
    · split
      · exact h
      · rename_i h3
        simp only [not_or, Bool.not_eq_false] at h1
        exact begin_inv h (by simpa using h3) (len_pad (by rw [packB_len h1.1]; exact h.n2)) (pack_ok h1.1) (by have := h1.2; exact Classical.not_not.1 this)
theorem good_wish {p : Pr} {q : Nat} {inc : Int} {n : Nat} (hn : n ≤ 16) (h : p.goodB q inc n = true) : WOk p.wish := by
  unfold Pr.goodB at h
  simp only [Bool.and_eq_true] at h
  obtain ⟨⟨⟨⟨⟨⟨h1, h2⟩, h3⟩, h4⟩, h5⟩, h6⟩, h7⟩ := h
  unfold Pr.numB at h3
  simp only [decide_eq_true_eq] at h3
  exact ⟨len_pad (by rw [packB_len h1]; exact hn), len_pad (by rw [packB_len h2]; exact hn), pack_ok h1, pack_ok h2, by show 0 ≤ p.cid ∧ p.cid ≤ _; omega, by show 0 ≤ p.rev ∧ p.rev ≤ _; omega, by show 0 ≤ p.top ∧ p.top < _; omega⟩
theorem put_inv {s : St} (h : Inv s) {q : Nat} {inc : Int} {w : Wish} (hw : WOk w) : Inv (s.put q inc w) := by
  refine ⟨h.n1, h.n2, h.self, h.inc1, h.inc2, h.own, h.me, by show (s.oth.set q _).length = 16; rw [List.length_set]; exact h.oth, fun t ht => ?_, h.vid⟩
  rcases List.mem_or_eq_of_mem_set ht with ht | rfl
  · exact h.each t ht
  · exact hw
theorem take_inv {s : St} (h : Inv s) (q inc : Int) (p : Pr) : Inv (s.take q inc p).2.2 := by
  unfold St.take
  split
  · exact h
  · split
    · exact h
    · rename_i hg
      have hw := good_wish h.n2 (by simpa using hg)
      split
      · exact h
      · split
        · exact h
        · have ht := put_inv h (q := q.toNat) (inc := inc) hw
          dsimp only
          split
          · split
            · exact ht
            · split
              · rename_i hr
                exact ⟨ht.n1, ht.n2, ht.self, ht.inc1, ht.inc2, ⟨ht.own.set, len_heard _, ht.own.setv, heard_ok ht, ht.own.cid, by have := ht.own.rev; show 0 ≤ _ + 1 ∧ _ + 1 ≤ _; omega, ht.own.top⟩, ht.me, ht.oth, ht.each, ht.vid⟩
              · exact h
          · split
            · exact ht
            · split
              · exact h
              · rename_i hs
                exact begin_inv ht (by simpa using hs) ht.own.set ht.own.setv ht.me
theorem agTo_top {s : St} (h : Inv s) : ∀ {k : Nat} {a : Ag}, s.agTo k = some a → 0 ≤ a.top ∧ a.top < 4611686018427387904
  | 0, a, e => by cases e; exact h.own.top
  | k + 1, a, e => by
    rw [St.agTo] at e
    obtain ⟨b, hb, hs⟩ := Option.bind_eq_some_iff.1 e
    have ih := agTo_top h hb
    unfold St.agStep at hs
    split at hs
    · cases hs; exact ih
    · split at hs
      · cases hs
      · cases hs
        have hw : 0 ≤ (s.wishOf k).top ∧ (s.wishOf k).top < 4611686018427387904 := by
          unfold St.wishOf; split
          · exact h.own.top
          · exact (h.lt k).top
        show 0 ≤ max _ _ ∧ max _ _ < _
        omega
theorem agTo_len {s : St} : ∀ {k : Nat} {a : Ag}, s.agTo k = some a → a.mem.length ≤ k ∧ a.trans.length ≤ k
  | 0, a, e => by cases e; exact ⟨Nat.le_refl _, Nat.le_refl _⟩
  | k + 1, a, e => by
    rw [St.agTo] at e
    obtain ⟨b, hb, hs⟩ := Option.bind_eq_some_iff.1 e
    have ih := agTo_len hb
    unfold St.agStep at hs
    split at hs
    · cases hs; omega
    · split at hs
      · cases hs
      · cases hs
        refine ⟨by rw [List.length_append]; simp; omega, ?_⟩
        dsimp only
        split
        · rw [List.length_append]; simp; omega
        · omega
theorem agTo_me {s : St} (h : Inv s) : ∀ {k : Nat} {a : Ag}, s.self < k → s.agTo k = some a → a.mem ≠ []
  | 0, a, hk, e => by omega
  | k + 1, a, hk, e => by
    rw [St.agTo] at e
    obtain ⟨b, hb, hs⟩ := Option.bind_eq_some_iff.1 e
    unfold St.agStep at hs
    by_cases e2 : s.self = k
    · subst e2
      rw [if_neg (by rw [h.me]; have := h.inc1; omega)] at hs
      split at hs
      · cases hs
      · cases hs; simp
    · have ih := agTo_me h (by omega) hb
      split at hs
      · cases hs; exact ih
      · split at hs
        · cases hs
        · cases hs; simp
theorem install_inv {s : St} (h : Inv s) : Inv s.install := by
  unfold St.install
  cases ha : s.agreed with
  | none => exact h
  | some a =>
    unfold St.agreed at ha
    split at ha
    · have ht := agTo_top h ha
      refine ⟨h.n1, h.n2, h.self, h.inc1, h.inc2, h.own, h.me, h.oth, h.each, ?_⟩
      show 0 ≤ a.vid.e ∧ a.vid.e ≤ _
      unfold Ag.vid
      split
      · show 0 ≤ a.top + 1 ∧ a.top + 1 ≤ _; omega
      · decide
    · cases ha
theorem new_inv {n self : Nat} {inc floor : Int} (h : newB n self inc floor = true) (hf : floor ≠ 4611686018427387904) : Inv (newSt n self inc floor) := by
  unfold newB at h
  simp only [decide_eq_true_eq] at h
  have hset : ∀ v ∈ zeros.set self inc, 0 ≤ v ∧ v ≤ 4611686018427387904 := fun v hv => by
    rcases List.mem_or_eq_of_mem_set hv with hv | rfl
    · exact zeros_ok v hv
    · omega
  have hvec : ∀ v ∈ zeros.set self (floor + 1), 0 ≤ v ∧ v ≤ 4611686018427387904 := fun v hv => by
    rcases List.mem_or_eq_of_mem_set hv with hv | rfl
    · exact zeros_ok v hv
    · omega
  refine ⟨by show 1 ≤ n; omega, by show n ≤ 16; omega, by show self < n; omega, by show 1 ≤ inc; omega, by show inc ≤ _; omega, ⟨by simp [newSt, zeros], by simp [newSt, zeros], hset, hvec, by show 0 ≤ floor + 1 ∧ floor + 1 ≤ _; omega, by show (0 : Int) ≤ 1 ∧ (1 : Int) ≤ 4611686018427387904; decide, by show 0 ≤ floor ∧ floor < _; omega⟩, ?_, by simp [newSt], fun t ht => ?_, by show (0 : Int) ≤ 0 ∧ (0 : Int) ≤ 4611686018427387904; decide⟩
  · show nth (zeros.set self inc) self = inc
    unfold nth
    rw [List.getElem?_set_self (by rw [len_zeros]; omega)]; rfl
  · have : t = Lt.zero := List.eq_of_mem_replicate (show t ∈ List.replicate 16 Lt.zero from ht)
    rw [this]; exact wok_zero
end Go.Proofs.Ytfbeggdbjpmppaa
