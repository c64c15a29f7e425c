/- Fresh StepApp KeepApp EngA Tab SKit, joined. -/
import Derived.Deep.RegionHeld3
import Derived.Deep.MidRow
import Derived.RegionTactic
import Derived.Deep.WholeRow
import Derived.Test.YtcffhfcjfjfokaaProg
import Derived.StillTailTactics
import Derived.Test.YtcffhfcjfjfokaaSh1
import Derived.Test.YtcffhfcjfjfokaaSh2
import Derived.Test.YtcffhfcjfjfokaaSh3
set_option linter.unusedVariables false
set_option linter.unusedSimpArgs false
/- append onto an empty slice, at a step of a region that draws its order: a row of its own. -/
namespace Go.Proofs.Ytcffhfcjfjfokaa
open Go.RowKit
/-- A row in blocks from lo on. -/
def FRow {α : Type} (w : World) (lo sz : Nat) (enc : α → List Value) (A : Option Addr) (l : List α) : Prop :=
  0 < l.length → ∃ b off, A = some ⟨b, off, none⟩ ∧ lo ≤ b ∧ b < w.heap.size ∧ ∀ k x, l[k]? = some x → ∀ j u, (enc x)[j]? = some u → w.cell? ⟨b, off + k * sz + j, none⟩ = some u
section
variable {α : Type} {w w' : World} {lo sz : Nat} {enc : α → List Value} {A : Option Addr} {l : List α}
theorem FRow.row (h : FRow w lo sz enc A l) : RowAt w w.heap.size sz enc A l := fun h0 => by
  obtain ⟨b, off, e, _, hb, hc⟩ := h h0
  exact ⟨b, off, e, hb, hc⟩
theorem FRow.below (h : FRow w lo sz enc A l) (hb : Below w.heap.size w w') : FRow w' lo sz enc A l := fun h0 => by
  obtain ⟨b, off, e, h1, h2, hc⟩ := h h0
  exact ⟨b, off, e, h1, Nat.lt_of_lt_of_le h2 hb.size, fun k x hk j u hu => (hb.cell (p := ⟨b, _, none⟩) h2).trans (hc k x hk j u hu)⟩
theorem FRow.setCell (h : FRow w lo sz enc A l) {p : Addr} (hp : p.block < lo) (v : Value) : FRow (w.setCell p v) lo sz enc A l := fun h0 => by
  obtain ⟨b, off, e, h1, h2, hc⟩ := h h0
  refine ⟨b, off, e, h1, by rw [World.size_setCell]; exact h2, fun k x hk j u hu => ?_⟩
  have hne : ∀ o, p ≠ ⟨b, o, none⟩ := fun o e2 => by rw [e2] at hp; exact absurd h1 (Nat.not_le.2 hp)
  rw [World.cell?_setCell_other _ _ _ _ (hne _)]
  exact hc k x hk j u hu
theorem FRow.lower {lo' : Nat} (h : FRow w lo sz enc A l) (hl : lo' ≤ lo) : FRow w lo' sz enc A l := fun h0 => by
  obtain ⟨b, off, e, h1, h2, hc⟩ := h h0
  exact ⟨b, off, e, by omega, h2, hc⟩
theorem FRow.of_owns {base c : Nat} {e : TypeId} (h : Owns w base e sz enc A c l) (hsz : ∀ x, (enc x).length = sz) : FRow w base sz enc A l := fun h0 => by
  obtain ⟨b, off, e, hb, hc⟩ := h.row hsz h0
  exact ⟨b, off, e, (h.lo b (by rw [e]; rfl)).1, hb, hc⟩
end
section
variable {P : Program}
theorem run_append_zero (w : World) (t ty e : TypeId) (i : TypeInfo) (ht : P.underlying t = some (.slice e)) (hi : P.info? e = some i) (g : Addr) (B : Option Addr) (m c : Nat) (hm : 0 < m) (hb : m * i.bytes ≤ 140737488355328) :
    (Builtin.append_ #[t, t] ty #[.slice (some g) 0 0, .slice B m c]).run P w = (Builtin.append_ #[t, t] ty #[.slice none 0 0, .slice B m c]).run P w := by
  have h1 : ¬ m ≤ 0 := by omega
  have h2 := growslice_fits (need := m) (old := 0) (bytes := i.bytes) hm hb
  have h3 : ¬ m = 0 := by omega
  have h4 : ¬ 281474976710656 < Builtin.nextslicecap m 0 * i.bytes := by omega
  simp [Builtin.append_, run_underlying ht, sizeOf, typeInfo, hi, Builtin.lenOf, Builtin.firstCells, loadCells, loadCellsFrom, h1, h3, h4]
theorem run_append_none (w : World) (t ty e : TypeId) (i : TypeInfo) (ht : P.underlying t = some (.slice e)) (hi : P.info? e = some i) (A B : Option Addr) (c : Nat) :
    (Builtin.append_ #[t, t] ty #[.slice A 0 0, .slice B 0 c]).run P w = .ok (.slice A 0 0) w := by
  cases A <;> cases B <;> simp [Builtin.append_, run_underlying ht, sizeOf, typeInfo, hi, Builtin.lenOf, Builtin.firstCells, loadCells, loadCellsFrom, storeCells]
/-- append onto an empty slice literal, at a step of a region that draws its order: a row of its own; no block that was there has turned. -/
theorem step_append_fresh {α : Type} {ops : Array Oper} {o : Oper} {a : Act} {w : World} {K : Act → World → Prop} {Q : Exit → Act → World → Prop} (hgd : o.guard = none) (s x : Operand) (t : TypeId)
    (ho : o.op = .call { callee := .builtin .append, args := #[s, x], argTypes := #[t, t] })
    (e : TypeId) (sz bytes : Nat) (z : Value) (ht : P.underlying t = some (.slice e)) (hinfo : (P.info? e).map (fun i => (i.zero, i.size, i.bytes)) = some (some z, sz, bytes))
    (hzs : z.cells.size = sz) (hsz : 0 < sz) (enc : α → List Value) (henc : ∀ x, (enc x).length = sz) (hone : ∀ x, ∀ u ∈ enc x, u.oneCell' = true)
    (A B : Option Addr) (cB N m : Nat) (l : List α) (hs : a.eval s = .slice A 0 0) (hx : a.eval x = .slice B m cB) (hm : l.length = m) (hr : RowAt w N sz enc B l) (hbytes : m * bytes ≤ 140737488351232) (h63 : m ≤ 9223372036854775807)
    (h : ∀ A' c' w', FRow w' w.heap.size sz enc A' l → m ≤ c' → c' ≤ 9223372036854775807 → Below w.heap.size w w' → K (a.put o.dst (.slice A' m c')) w') :
    if Region.wanted o (yielded ops a.tmps) = true then o.wp P a w K Q else K (a.put o.dst undef) w := by
  subst hm
  obtain ⟨i, hi, hz, hsize, hby⟩ := info_parts hinfo
  have hw : Region.wanted o (yielded ops a.tmps) = true := by simp [Region.wanted, hgd]
  rw [if_pos hw]
  have key : ∃ A' c' w', (Builtin.append_ #[t, t] o.type #[.slice A 0 0, .slice B l.length cB]).run P w = .ok (.slice A' l.length c') w' ∧ FRow w' w.heap.size sz enc A' l ∧ l.length ≤ c' ∧ c' ≤ 9223372036854775807 ∧ Below w.heap.size w w' := by
    by_cases h0 : 0 < l.length
    · obtain ⟨b, off, rfl, hb, hc⟩ := hr h0
      obtain ⟨v', w', h1, h2, h3, _, h5⟩ := run_append_own_at (P := P) w w.heap.size t o.type e i z sz bytes ht hi hz hsize hby hzs hsz (.slice none 0 0) 0 _ (owns_nil (α := α) w w.heap.size e sz enc) ⟨b, off, none⟩ l.length cB (l.flatMap enc)
        (length_flat henc l) (fun j u hu => by
          obtain ⟨k, r, x, hk, hr', rfl⟩ := flatMap_of henc l j u hu
          have := hc k x hk r u hr'
          by_cases hz0 : k * sz + r = 0
          · rw [hz0]; simp only [Addr.add, if_true]
            have e0 : off + k * sz + r = off := by omega
            rw [e0] at this; exact this
          · simp only [Addr.add, if_neg hz0]
            rw [← Nat.add_assoc]; exact this)
        (fun u hu => by obtain ⟨x, _, hux⟩ := List.mem_flatMap.1 hu; exact hone x u hux) (by simp only [maxLen]; omega) (by rw [Nat.zero_add]; omega) (Nat.le_refl _)
      rw [Nat.zero_add, List.flatMap_nil, List.nil_append] at h2
      obtain ⟨g, cap, rfl, hg1, hg2⟩ := World.ownsRow.form h2 h0
      have hO : Owns w' w.heap.size e sz enc (some ⟨g, 0, none⟩) cap l := h2
      refine ⟨some ⟨g, 0, none⟩, cap, w', ?_, FRow.of_owns hO henc, hO.len.1, hO.len.2, (Below.refl w.heap.size w).grown h3 (Nat.le_refl _) (by intro k hk; cases hk)⟩
      cases A with
      | none => exact h1
      | some ga => rw [run_append_zero w t o.type e i ht hi ga _ _ _ h0 (by rw [hby]; omega)]; exact h1
    · have hl : l = [] := List.eq_nil_of_length_eq_zero (by omega)
      subst hl
      exact ⟨A, 0, w, run_append_none w t o.type e i ht hi A B cB, fun h => absurd h (by simp), by simp, by omega, Below.refl _ _⟩
  obtain ⟨A', c', w', hrun, h2, h3, h4, h5⟩ := key
  unfold Oper.wp execOp
  simp only [ho, resolve, invoke, builtin, Sem.run_bind, Sem.run_pure, Result.andThen_ok, List.map_toArray, List.map_cons, List.map_nil, hs, hx, hrun]
  exact h A' c' w' h2 h3 h4 h5
end
end Go.Proofs.Ytcffhfcjfjfokaa
/- append at a step of a region that draws its order. -/
namespace Go.Proofs.Ytcffhfcjfjfokaa
open Go.RowKit
/-- append onto a row of the call's own; the source any row, nil or empty too. -/
theorem step_append_rows {P : Program} {α : Type} {ops : Array Oper} {o : Oper} {a : Act} {w : World} {K : Act → World → Prop} {Q : Exit → Act → World → Prop} (hgd : o.guard = none) (s x : Operand) (t : TypeId)
    (ho : o.op = .call { callee := .builtin .append, args := #[s, x], argTypes := #[t, t] })
    (base : Nat) (e : TypeId) (sz bytes : Nat) (z : Value) (ht : P.underlying t = some (.slice e)) (hinfo : (P.info? e).map (fun i => (i.zero, i.size, i.bytes)) = some (some z, sz, bytes))
    (hzs : z.cells.size = sz) (hsz : 0 < sz) (enc : α → List Value) (henc : ∀ x, (enc x).length = sz) (hone : ∀ x, ∀ u ∈ enc x, u.oneCell' = true)
    (A : Option Addr) (c : Nat) (xs : List α) (B : Option Addr) (cB N n m : Nat) (l : List α) (hs : a.eval s = .slice A n c) (hx : a.eval x = .slice B m cB)
    (hn : xs.length = n) (hm : l.length = m)
    (hown : Owns w base e sz enc A c xs) (hr : RowAt w N sz enc B l)
    (h63 : n + m ≤ 9223372036854775807) (hbytes : (n + m) * bytes ≤ 140737488355328) (hbase : base ≤ w.heap.size)
    (h : ∀ A' c' w', Owns w' base e sz enc A' c' (xs ++ l) → w.grownBy w' (blk A) → (blk A' = blk A ∨ blk A' = some w.heap.size) → K (a.put o.dst (.slice A' (n + m) c')) w') :
    if Region.wanted o (yielded ops a.tmps) = true then o.wp P a w K Q else K (a.put o.dst undef) w := by
  subst hn hm
  obtain ⟨i, hi, hz, hsize, hby⟩ := info_parts hinfo
  have key : ∃ v' w', (Builtin.append_ #[t, t] o.type #[.slice A xs.length c, .slice B l.length cB]).run P w = .ok v' w' ∧ w'.ownsRow base e sz v' (xs.length + l.length) ((xs ++ l).flatMap enc) ∧ w.grownBy w' (blk A) ∧ (v'.ownBlock = blk A ∨ v'.ownBlock = some w.heap.size) := by
    by_cases h0 : 0 < l.length
    · obtain ⟨b, off, rfl, hb, hc⟩ := hr h0
      obtain ⟨v', w', h1, h2, h3, _, h5⟩ := run_append_own_at (P := P) w base t o.type e i z sz bytes ht hi hz hsize hby hzs hsz (.slice A xs.length c) xs.length _ hown ⟨b, off, none⟩ l.length cB (l.flatMap enc)
        (length_flat henc l) (fun j u hu => by
          obtain ⟨k, r, x, hk, hr', rfl⟩ := flatMap_of henc l j u hu
          have := hc k x hk r u hr'
          by_cases hz0 : k * sz + r = 0
          · rw [hz0]; simp only [Addr.add, if_true]
            have e0 : off + k * sz + r = off := by omega
            rw [e0] at this; exact this
          · simp only [Addr.add, if_neg hz0]
            rw [← Nat.add_assoc]; exact this)
        (fun u hu => by obtain ⟨x, _, hux⟩ := List.mem_flatMap.1 hu; exact hone x u hux) h63 hbytes hbase
      rw [own_blk] at h3 h5
      exact ⟨v', w', h1, by rw [List.flatMap_append]; exact h2, h3, h5⟩
    · have hl : l = [] := List.eq_nil_of_length_eq_zero (by omega)
      subst hl
      cases B with
      | none =>
        refine ⟨.slice A xs.length c, w, ?_, by simp only [List.length_nil, Nat.add_zero, List.append_nil]; exact hown, World.grownBy.refl w _, .inl (own_blk _ _ _)⟩
        rcases hown.2 with ⟨hv, _⟩ | ⟨g, cap, cur, hv, _, _, hnc, _⟩
        · rw [hv]; simp [Builtin.append_, run_underlying ht, sizeOf, typeInfo, hi, Builtin.lenOf, Builtin.firstCells]
        · rw [hv]; simp [Builtin.append_, run_underlying ht, sizeOf, typeInfo, hi, Builtin.lenOf, Builtin.firstCells, hnc, storeCells]
      | some ad =>
        obtain ⟨v', w', h1, h2, h3, _, h5⟩ := run_append_own_at (P := P) w base t o.type e i z sz bytes ht hi hz hsize hby hzs hsz (.slice A xs.length c) xs.length _ hown ad 0 cB []
          (by simp) (fun j u hu => by simp at hu) (fun u hu => by simp at hu) h63 hbytes hbase
        rw [own_blk] at h3 h5
        exact ⟨v', w', h1, by simpa using h2, h3, h5⟩
  obtain ⟨v', w', hrun, h2, h3, h4⟩ := key
  have hv : ∃ A' c', v' = .slice A' (xs.length + l.length) c' := by
    rcases h2.2 with ⟨hv, h0⟩ | ⟨g, cap, cur, hv, _⟩
    · exact ⟨none, 0, by rw [hv, h0]⟩
    · exact ⟨_, _, hv⟩
  obtain ⟨A', c', rfl⟩ := hv
  rw [own_blk] at h4
  have hw : Region.wanted o (yielded ops a.tmps) = true := by simp [Region.wanted, hgd]
  rw [if_pos hw]
  unfold Oper.wp execOp
  simp only [ho, resolve, invoke, builtin, Sem.run_bind, Sem.run_pure, Result.andThen_ok, List.map_toArray, List.map_cons, List.map_nil, hs, hx, hrun]
  exact h A' c' w' (by unfold Owns; rw [List.length_append]; exact h2) h3 h4
end Go.Proofs.Ytcffhfcjfjfokaa
/- append of one element onto a row of the call's own: the shorter row stays, too. -/
namespace Go.Proofs.Ytcffhfcjfjfokaa
open Go.RowKit
theorem own_prefix {α : Type} {w : World} {base sz c : Nat} {e : TypeId} {enc : α → List Value} {A : Option Addr} {xs ys : List α} (henc : ∀ x, (enc x).length = sz) (h : Owns w base e sz enc A c (xs ++ ys)) (hA : A ≠ none) : Owns w base e sz enc A c xs := by
  have hl := length_flat henc xs
  rcases h.2 with ⟨hv, h0⟩ | ⟨g, cap, cur, hv, hb, hh, h1, h2, h3, h4⟩
  · injection hv with h1; exact absurd h1 hA
  · injection hv with e1 _ e3
    subst e1 e3
    refine ⟨by rw [hl], .inr ⟨g, c, cur, rfl, hb, hh, by rw [List.length_append] at h1; omega, h2, h3, ?_⟩⟩
    rw [List.flatMap_append] at h4
    have : cur.toList.take (xs.length * sz) = (cur.toList.take ((xs ++ ys).length * sz)).take (xs.length * sz) := by
      rw [List.take_take, Nat.min_eq_left]
      rw [List.length_append]; exact Nat.mul_le_mul_right _ (by omega)
    rw [this, h4, ← hl]
    exact List.take_left
section
variable {P : Program} (w : World)
theorem wpList_append_keep {α : Type} {ops : Array Oper} {rest : List Oper} {o : Oper} {a : Act} {Q : Exit → Act → World → Prop} (hgd : o.guard = none) (s x : Operand) (t : TypeId)
    (ho : o.op = .call { callee := .builtin .append, args := #[s, x], argTypes := #[t, t] })
    (base : Nat) (e : TypeId) (sz bytes : Nat) (z : Value) (ht : P.underlying t = some (.slice e)) (hinfo : (P.info? e).map (fun i => (i.zero, i.size, i.bytes)) = some (some z, sz, bytes))
    (hzs : z.cells.size = sz) (hsz : 0 < sz) (enc : α → List Value) (henc : ∀ x, (enc x).length = sz) (hone : ∀ x, ∀ u ∈ enc x, u.oneCell' = true)
    (A : Option Addr) (c : Nat) (xs : List α) (gB cB n : Nat) (y : α) (hs : a.eval s = .slice A n c) (hx : a.eval x = .slice (some ⟨gB, 0, none⟩) 1 cB)
    (hn : xs.length = n) (hown : Owns w base e sz enc A c xs) (hr : ∀ j u, (enc y)[j]? = some u → w.cell? ⟨gB, j, none⟩ = some u)
    (h63 : n + 1 ≤ 9223372036854775807) (hbytes : (n + 1) * bytes ≤ 140737488355328) (hbase : base ≤ w.heap.size)
    (h : ∀ A' c' w', Owns w' base e sz enc A' c' (xs ++ [y]) → Owns w' base e sz enc A c xs → w.grownBy w' (blk A) → (blk A' = blk A ∨ blk A' = some w.heap.size) → wpList P ops Q rest (a.put o.dst (.slice A' (n + 1) c')) w') : wpList P ops Q (o :: rest) a w := by
  subst hn
  obtain ⟨i, hi, hz, hsize, hby⟩ := info_parts hinfo
  have hnews : ∀ j u, (enc y)[j]? = some u → w.cell? ((⟨gB, 0, none⟩ : Addr).add j) = some u := fun j u hu => by
    rw [Addr.add_lit]; simpa using hr j u hu
  have hfm : ([y] : List α).flatMap enc = enc y := by simp
  obtain ⟨v', w', hrun, h2, h3, h5, h4⟩ := run_append_own_at (P := P) w base t o.type e i z sz bytes ht hi hz hsize hby hzs hsz (.slice A xs.length c) xs.length _ hown ⟨gB, 0, none⟩ 1 cB (enc y)
    (by rw [henc, Nat.one_mul]) hnews (hone y) h63 hbytes hbase
  obtain ⟨g', cap', rfl, hg1, hg2⟩ := World.ownsRow.form h2 (by omega)
  simp only [own_blk] at h3 h4
  have hO : Owns w' base e sz enc (some ⟨g', 0, none⟩) cap' (xs ++ [y]) := by unfold Owns; rw [List.flatMap_append, hfm, List.length_append]; exact h2
  have hold : Owns w' base e sz enc A c xs := by
    rcases hown.2 with ⟨hv, h0⟩ | ⟨g, cap, cur, hv, hb, hh, k1, k2, k3, k4⟩
    · injection hv with e1 _ e3
      subst e1 e3
      obtain rfl : xs = [] := List.eq_nil_of_length_eq_zero h0
      exact owns_nil _ _ _ _ _
    · injection hv with e1 _ e3
      subst e1 e3
      by_cases hroom : xs.length + 1 ≤ c
      · have hr' := run_append_room (P := P) w t o.type e i ht hi g xs.length c cur hh ⟨gB, 0, none⟩ 1 cB (enc y) (by rw [henc, hsize, Nat.one_mul]) hnews (hone y) hroom (by rw [henc, k3, hsize]; have := Nat.mul_le_mul_right sz hroom; rw [Nat.add_mul, Nat.one_mul] at this; exact this)
        rw [hrun] at hr'
        injection hr' with e1 e2
        injection e1 with e3 _ e4
        injection e3 with e3; injection e3 with e3
        subst e3 e4
        exact own_prefix henc hO (by simp)
      · have hr' := run_append_grow (P := P) w t o.type e i z ht hi hz ⟨g, 0, none⟩ xs.length c (xs.flatMap enc) (by rw [hsize, length_flat henc]) (hown.cells (g := g) rfl) ⟨gB, 0, none⟩ 1 cB (enc y) (by rw [henc, hsize, Nat.one_mul]) hnews (by omega) (by omega) (growslice_fits (by omega) (by rw [hby]; exact hbytes))
        rw [hrun] at hr'
        injection hr' with _ e2
        rw [e2]
        exact (show Owns w.drew base e sz enc (some ⟨g, 0, none⟩) c xs from hown).alloc _
  refine wpList_plain hgd fun K hK => ?_
  unfold Oper.wp execOp
  simp only [ho, resolve, invoke, builtin, Sem.run_bind, Sem.run_pure, Result.andThen_ok, List.map_toArray, List.map_cons, List.map_nil, hs, hx, hrun]
  exact hK _ _ (h _ _ w' hO hold h3 h4)
end
end Go.Proofs.Ytcffhfcjfjfokaa
/- Aid for the reckoning: loads and stores as they come up most. -/
namespace Go.Proofs.Ytcffhfcjfjfokaa
open Go Go.RowKit
section
variable {P : Program} {ty t : TypeId} {b off : Nat} {w : World} {v : Value}
theorem load_cell (hg : aggB P ty = some false) (h : w.cell? ⟨b, off, none⟩ = some v) : (loadVar ty ⟨b, off, none⟩).run P w = .ok v w := by
  unfold loadVar
  rw [Sem.run_bind, run_agg hg]
  simp only [Result.andThen_ok, Bool.false_eq_true, if_false]
  go_simp
theorem load_agg {cs : List Value} (hg : aggB P ty = some true) (hs : sizeB P ty = some cs.length) (h : w.rangeAt b off cs) : (loadVar ty ⟨b, off, none⟩).run P w = .ok (.agg cs.toArray) w := by
  unfold aggB at hg
  cases hu : P.underlying ty with
  | none => rw [hu] at hg; simp at hg
  | some d =>
    rw [hu] at hg
    refine run_loadVar_mid w b off ty cs d h hu ?_ hs
    cases d <;> simp at hg ⊢
theorem VStore.new {x : World} {K : World → Prop} {c c' : Array Value} (hx : Hid (x = w.alloc (.cells c t))) (hi : sizeB P t = some c'.size) (ho : c.size = c'.size) (h1 : c'.all (·.oneCell') = true) (hk : ∀ x', Hid (x' = w.alloc (.cells c' t)) → K x') : VStore P t w.heap.size 0 (.agg c') x K := by
  rw [hx.out]
  exact .mk _ (run_storeVar_new w t c c' hi ho h1) (hk _ (Lib.hid rfl))
theorem VStore.mid {K : World → Prop} {c : Array Value} (ht : w.there b off c.size) (hi : sizeB P ty = some c.size) (h1 : c.all (·.oneCell') = true) (hk : ∀ w', Hid (w' = w.setCells b off c.toList) → K w') : VStore P ty b off (.agg c) w K :=
  .mk _ (run_storeVar_mid w b off ty c ht hi h1) (hk _ (Lib.hid rfl))
theorem run_store1 (hi : sizeB P ty = some 1) (hc : (w.cell? ⟨b, off, none⟩).isSome = true) (hf : w.frozen? ⟨b, off, none⟩ = false) (hv : v.cells = #[v]) (h1 : v.oneCell' = true) : (storeVar ty ⟨b, off, none⟩ v).run P w = .ok () (w.setCell ⟨b, off, none⟩ v) := by
  have := run_storeCells_cells (P := P) b off [v] 0 w (fun j hj => by
    have : j = 0 := (by simpa using hj)
    subst this
    simpa using hc) (fun j hj => by
    have : j = 0 := (by simpa using hj)
    subst this
    simpa using hf) (fun u hu => by simp at hu; subst hu; exact h1)
  simp only [Nat.add_zero] at this
  unfold storeVar
  rw [Sem.run_bind, run_size hi, hv]
  simpa [World.setCells] using this
theorem VStore.cell {K : World → Prop} (hi : sizeB P ty = some 1) (hc : (w.cell? ⟨b, off, none⟩).isSome = true) (hf : w.frozen? ⟨b, off, none⟩ = false) (hv : v.cells = #[v]) (h1 : v.oneCell' = true) (hk : ∀ w', Hid (w' = w.setCell ⟨b, off, none⟩ v) → K w') : VStore P ty b off v w K :=
  .mk _ (run_store1 hi hc hf hv h1) (hk _ (Lib.hid rfl))
theorem VApp.rows {α : Type} {ty0 : TypeId} {t e : TypeId} {K : Value → World → Prop}
    (base : Nat) (sz bytes : Nat) (z : Value) (ht : P.underlying t = some (.slice e)) (hinfo : (P.info? e).map (fun i => (i.zero, i.size, i.bytes)) = some (some z, sz, bytes))
    (hzs : z.cells.size = sz) (hsz : 0 < sz) (enc : α → List Value) (henc : ∀ x, (enc x).length = sz) (hone : ∀ x, ∀ u ∈ enc x, u.oneCell' = true)
    {A : Option Addr} {c : Nat} (xs : List α) {B : Option Addr} {cB N n m : Nat} (l : List α)
    (hn : xs.length = n) (hm : l.length = m)
    (hown : Owns w base e sz enc A c xs) (hr : RowAt w N sz enc B l)
    (h63 : n + m ≤ 9223372036854775807) (hbytes : (n + m) * bytes ≤ 140737488355328) (hbase : base ≤ w.heap.size)
    (h : ∀ A' c' w', Owns w' base e sz enc A' c' (xs ++ l) → w.grownBy w' (blk A) → (blk A' = blk A ∨ blk A' = some w.heap.size) → K (.slice A' (n + m) c') w') : VApp P #[t, t] ty0 [.slice A n c, .slice B m cB] w K := by
  subst hn hm
  obtain ⟨i, hi, hz, hsize, hby⟩ := info_parts hinfo
  have key : ∃ v' w', (Builtin.append_ #[t, t] ty0 #[.slice A xs.length c, .slice B l.length cB]).run P w = .ok v' w' ∧ w'.ownsRow base e sz v' (xs.length + l.length) ((xs ++ l).flatMap enc) ∧ w.grownBy w' (blk A) ∧ (v'.ownBlock = blk A ∨ v'.ownBlock = some w.heap.size) := by
    by_cases h0 : 0 < l.length
    · obtain ⟨b, off, rfl, hb, hc⟩ := hr h0
      obtain ⟨v', w', h1, h2, h3, _, h5⟩ := run_append_own_at (P := P) w base t ty0 e i z sz bytes ht hi hz hsize hby hzs hsz (.slice A xs.length c) xs.length _ hown ⟨b, off, none⟩ l.length cB (l.flatMap enc)
        (length_flat henc l) (fun j u hu => by
          obtain ⟨k, r, x, hk, hr', rfl⟩ := flatMap_of henc l j u hu
          have := hc k x hk r u hr'
          by_cases hz0 : k * sz + r = 0
          · rw [hz0]; simp only [Addr.add, if_true]
            have e0 : off + k * sz + r = off := by omega
            rw [e0] at this; exact this
          · simp only [Addr.add, if_neg hz0]
            rw [← Nat.add_assoc]; exact this)
        (fun u hu => by obtain ⟨x, _, hux⟩ := List.mem_flatMap.1 hu; exact hone x u hux) h63 hbytes hbase
      rw [own_blk] at h3 h5
      exact ⟨v', w', h1, by rw [List.flatMap_append]; exact h2, h3, h5⟩
    · have hl : l = [] := List.eq_nil_of_length_eq_zero (by omega)
      subst hl
      cases B with
      | none =>
        refine ⟨.slice A xs.length c, w, ?_, by simp only [List.length_nil, Nat.add_zero, List.append_nil]; exact hown, World.grownBy.refl w _, .inl (own_blk _ _ _)⟩
        rcases hown.2 with ⟨hv, _⟩ | ⟨g, cap, cur, hv, _, _, hnc, _⟩
        · rw [hv]; simp [Builtin.append_, run_underlying ht, sizeOf, typeInfo, hi, Builtin.lenOf, Builtin.firstCells]
        · rw [hv]; simp [Builtin.append_, run_underlying ht, sizeOf, typeInfo, hi, Builtin.lenOf, Builtin.firstCells, hnc, storeCells]
      | some ad =>
        obtain ⟨v', w', h1, h2, h3, _, h5⟩ := run_append_own_at (P := P) w base t ty0 e i z sz bytes ht hi hz hsize hby hzs hsz (.slice A xs.length c) xs.length _ hown ad 0 cB []
          (by simp) (fun j u hu => by simp at hu) (fun u hu => by simp at hu) h63 hbytes hbase
        rw [own_blk] at h3 h5
        exact ⟨v', w', h1, by simpa using h2, h3, h5⟩
  obtain ⟨v', w', hrun, h2, h3, h4⟩ := key
  have hv : ∃ A' c', v' = .slice A' (xs.length + l.length) c' := by
    rcases h2.2 with ⟨hv, h0⟩ | ⟨g, cap, cur, hv, _⟩
    · exact ⟨none, 0, by rw [hv, h0]⟩
    · exact ⟨_, _, hv⟩
  obtain ⟨A', c', rfl⟩ := hv
  rw [own_blk] at h4
  exact .mk _ _ hrun (h A' c' w' (by unfold Owns; rw [List.length_append]; exact h2) h3 h4)
theorem VApp.fresh {α : Type} {ty0 : TypeId} {t e : TypeId} {K : Value → World → Prop}
    (sz bytes : Nat) (z : Value) (ht : P.underlying t = some (.slice e)) (hinfo : (P.info? e).map (fun i => (i.zero, i.size, i.bytes)) = some (some z, sz, bytes))
    (hzs : z.cells.size = sz) (hsz : 0 < sz) (enc : α → List Value) (henc : ∀ x, (enc x).length = sz) (hone : ∀ x, ∀ u ∈ enc x, u.oneCell' = true)
    {A B : Option Addr} {cB N m : Nat} (l : List α) (hm : l.length = m) (hr : RowAt w N sz enc B l) (hbytes : m * bytes ≤ 140737488351232) (h63 : m ≤ 9223372036854775807)
    (h : ∀ A' c' w', FRow w' w.heap.size sz enc A' l → m ≤ c' → c' ≤ 9223372036854775807 → Below w.heap.size w w' → K (.slice A' m c') w') : VApp P #[t, t] ty0 [.slice A 0 0, .slice B m cB] w K := by
  subst hm
  obtain ⟨i, hi, hz, hsize, hby⟩ := info_parts hinfo
  have key : ∃ A' c' w', (Builtin.append_ #[t, t] ty0 #[.slice A 0 0, .slice B l.length cB]).run P w = .ok (.slice A' l.length c') w' ∧ FRow w' w.heap.size sz enc A' l ∧ l.length ≤ c' ∧ c' ≤ 9223372036854775807 ∧ Below w.heap.size w w' := by
    by_cases h0 : 0 < l.length
    · obtain ⟨b, off, rfl, hb, hc⟩ := hr h0
      obtain ⟨v', w', h1, h2, h3, _, h5⟩ := run_append_own_at (P := P) w w.heap.size t ty0 e i z sz bytes ht hi hz hsize hby hzs hsz (.slice none 0 0) 0 _ (owns_nil (α := α) w w.heap.size e sz enc) ⟨b, off, none⟩ l.length cB (l.flatMap enc)
        (length_flat henc l) (fun j u hu => by
          obtain ⟨k, r, x, hk, hr', rfl⟩ := flatMap_of henc l j u hu
          have := hc k x hk r u hr'
          by_cases hz0 : k * sz + r = 0
          · rw [hz0]; simp only [Addr.add, if_true]
            have e0 : off + k * sz + r = off := by omega
            rw [e0] at this; exact this
          · simp only [Addr.add, if_neg hz0]
            rw [← Nat.add_assoc]; exact this)
        (fun u hu => by obtain ⟨x, _, hux⟩ := List.mem_flatMap.1 hu; exact hone x u hux) (by simp only [maxLen]; omega) (by rw [Nat.zero_add]; omega) (Nat.le_refl _)
      rw [Nat.zero_add, List.flatMap_nil, List.nil_append] at h2
      obtain ⟨g, cap, rfl, hg1, hg2⟩ := World.ownsRow.form h2 h0
      have hO : Owns w' w.heap.size e sz enc (some ⟨g, 0, none⟩) cap l := h2
      refine ⟨some ⟨g, 0, none⟩, cap, w', ?_, FRow.of_owns hO henc, hO.len.1, hO.len.2, (Below.refl w.heap.size w).grown h3 (Nat.le_refl _) (by intro k hk; cases hk)⟩
      cases A with
      | none => exact h1
      | some ga => rw [run_append_zero w t ty0 e i ht hi ga _ _ _ h0 (by rw [hby]; omega)]; exact h1
    · have hl : l = [] := List.eq_nil_of_length_eq_zero (by omega)
      subst hl
      exact ⟨A, 0, w, run_append_none w t ty0 e i ht hi A B cB, fun h => absurd h (by simp), by simp, by omega, Below.refl _ _⟩
  obtain ⟨A', c', w', hrun, h2, h3, h4, h5⟩ := key
  exact .mk _ _ hrun (h A' c' w' h2 h3 h4 h5)
theorem VApp.keep {α : Type} {ty0 : TypeId} {t e : TypeId} {K : Value → World → Prop}
    (base : Nat) (sz bytes : Nat) (z : Value) (ht : P.underlying t = some (.slice e)) (hinfo : (P.info? e).map (fun i => (i.zero, i.size, i.bytes)) = some (some z, sz, bytes))
    (hzs : z.cells.size = sz) (hsz : 0 < sz) (enc : α → List Value) (henc : ∀ x, (enc x).length = sz) (hone : ∀ x, ∀ u ∈ enc x, u.oneCell' = true)
    {A : Option Addr} {c : Nat} (xs : List α) {gB cB n : Nat} (y : α)
    (hn : xs.length = n) (hown : Owns w base e sz enc A c xs) (hr : ∀ j u, (enc y)[j]? = some u → w.cell? ⟨gB, j, none⟩ = some u)
    (h63 : n + 1 ≤ 9223372036854775807) (hbytes : (n + 1) * bytes ≤ 140737488355328) (hbase : base ≤ w.heap.size)
    (h : ∀ A' c' w', Owns w' base e sz enc A' c' (xs ++ [y]) → Owns w' base e sz enc A c xs → w.grownBy w' (blk A) → (blk A' = blk A ∨ blk A' = some w.heap.size) → K (.slice A' (n + 1) c') w') : VApp P #[t, t] ty0 [.slice A n c, .slice (some ⟨gB, 0, none⟩) 1 cB] w K := by
  subst hn
  obtain ⟨i, hi, hz, hsize, hby⟩ := info_parts hinfo
  have hnews : ∀ j u, (enc y)[j]? = some u → w.cell? ((⟨gB, 0, none⟩ : Addr).add j) = some u := fun j u hu => by
    rw [Addr.add_lit]; simpa using hr j u hu
  have hfm : ([y] : List α).flatMap enc = enc y := by simp
  obtain ⟨v', w', hrun, h2, h3, h5, h4⟩ := run_append_own_at (P := P) w base t ty0 e i z sz bytes ht hi hz hsize hby hzs hsz (.slice A xs.length c) xs.length _ hown ⟨gB, 0, none⟩ 1 cB (enc y)
    (by rw [henc, Nat.one_mul]) hnews (hone y) h63 hbytes hbase
  obtain ⟨g', cap', rfl, hg1, hg2⟩ := World.ownsRow.form h2 (by omega)
  simp only [own_blk] at h3 h4
  have hO : Owns w' base e sz enc (some ⟨g', 0, none⟩) cap' (xs ++ [y]) := by unfold Owns; rw [List.flatMap_append, hfm, List.length_append]; exact h2
  have hold : Owns w' base e sz enc A c xs := by
    rcases hown.2 with ⟨hv, h0⟩ | ⟨g, cap, cur, hv, hb, hh, k1, k2, k3, k4⟩
    · injection hv with e1 _ e3
      subst e1 e3
      obtain rfl : xs = [] := List.eq_nil_of_length_eq_zero h0
      exact owns_nil _ _ _ _ _
    · injection hv with e1 _ e3
      subst e1 e3
      by_cases hroom : xs.length + 1 ≤ c
      · have hr' := run_append_room (P := P) w t ty0 e i ht hi g xs.length c cur hh ⟨gB, 0, none⟩ 1 cB (enc y) (by rw [henc, hsize, Nat.one_mul]) hnews (hone y) hroom (by rw [henc, k3, hsize]; have := Nat.mul_le_mul_right sz hroom; rw [Nat.add_mul, Nat.one_mul] at this; exact this)
        rw [hrun] at hr'
        injection hr' with e1 e2
        injection e1 with e3 _ e4
        injection e3 with e3; injection e3 with e3
        subst e3 e4
        exact own_prefix henc hO (by simp)
      · have hr' := run_append_grow (P := P) w t ty0 e i z ht hi hz ⟨g, 0, none⟩ xs.length c (xs.flatMap enc) (by rw [hsize, length_flat henc]) (hown.cells (g := g) rfl) ⟨gB, 0, none⟩ 1 cB (enc y) (by rw [henc, hsize, Nat.one_mul]) hnews (by omega) (by omega) (growslice_fits (by omega) (by rw [hby]; exact hbytes))
        rw [hrun] at hr'
        injection hr' with _ e2
        rw [e2]
        exact (show Owns w.drew base e sz enc (some ⟨g, 0, none⟩) c xs from hown).alloc _
  exact .mk _ _ hrun (h _ _ w' hO hold h3 h4)
end
end Go.Proofs.Ytcffhfcjfjfokaa
/- What the table of types tells of this program, as the reckoning asks it. -/
namespace Go.Proofs.Ytcffhfcjfjfokaa
open Go
def tab : Tab where
  fd := [(7, [(0, 1, false), (1, 1, false), (2, 1, false), (3, 1, false)]), (8, [(0, 1, false), (1, 1, false), (2, 1, false), (3, 1, false)]), (13, [(0, 1, false), (1, 1, false)]), (14, [(0, 1, false), (1, 1, false)]), (18, [(0, 1, false)]), (19, [(0, 1, false)]), (34, [(0, 1, false), (1, 1, false), (2, 1, false), (3, 1, false)]), (35, [(0, 1, false), (1, 1, false), (2, 1, false), (3, 1, false)]), (38, [(0, 4, true), (4, 1, false), (5, 1, false), (6, 1, false)]), (39, [(0, 4, true), (4, 1, false), (5, 1, false), (6, 1, false)]), (41, [(0, 1, false), (1, 7, true), (8, 1, false), (9, 1, false), (10, 1, false), (11, 1, false), (12, 1, false)]), (42, [(0, 1, false), (1, 7, true), (8, 1, false), (9, 1, false), (10, 1, false), (11, 1, false), (12, 1, false)]), (53, [(0, 1, false), (1, 1, false), (2, 1, false), (3, 1, false)]), (54, [(0, 1, false), (1, 1, false), (2, 1, false), (3, 1, false)]), (56, [(0, 7, true), (7, 1, false), (8, 1, false)]), (57, [(0, 7, true), (7, 1, false), (8, 1, false)]), (65, [(0, 1, false), (1, 1, false)]), (66, [(0, 1, false), (1, 1, false)]), (67, [(0, 1, false), (1, 1, false), (2, 1, false), (3, 1, false), (4, 1, false), (5, 1, false)]), (68, [(0, 1, false), (1, 1, false), (2, 1, false), (3, 1, false), (4, 1, false), (5, 1, false)]), (84, [(0, 1, false), (1, 1, false)]), (85, [(0, 1, false), (1, 1, false)]), (94, [(0, 1, false), (1, 1, false), (2, 1, false), (3, 7, true), (10, 4, true), (14, 1, false), (15, 1, false)]), (95, [(0, 1, false), (1, 1, false), (2, 1, false), (3, 7, true), (10, 4, true), (14, 1, false), (15, 1, false)]), (104, [(0, 1, false), (1, 1, false), (2, 1, false), (3, 1, false), (4, 1, false), (5, 1, false), (6, 1, false), (7, 1, false), (8, 1, false), (9, 1, false), (10, 1, false), (11, 1, false), (12, 1, false), (13, 1, false), (14, 1, false), (15, 1, false)]), (105, [(0, 1, false), (1, 1, false), (2, 1, false), (3, 1, false), (4, 1, false), (5, 1, false), (6, 1, false), (7, 1, false), (8, 1, false), (9, 1, false), (10, 1, false), (11, 1, false), (12, 1, false), (13, 1, false), (14, 1, false), (15, 1, false)]), (112, [(0, 1, false), (1, 1, false), (2, 1, false), (3, 1, false)]), (113, [(0, 1, false), (1, 1, false), (2, 1, false), (3, 1, false)]), (118, [(0, 1, false), (1, 1, false), (2, 1, false)]), (119, [(0, 1, false), (1, 1, false), (2, 1, false)]), (136, [(0, 1, false), (1, 4, true), (5, 1, false), (6, 1, false)]), (137, [(0, 1, false), (1, 4, true), (5, 1, false), (6, 1, false)]), (139, [(0, 1, false), (1, 1, false), (2, 4, true), (6, 1, false)]), (140, [(0, 1, false), (1, 1, false), (2, 4, true), (6, 1, false)]), (146, [(0, 1, false), (1, 1, false), (2, 1, false), (3, 1, false)]), (147, [(0, 1, false), (1, 1, false), (2, 1, false), (3, 1, false)]), (156, [(0, 4, true), (4, 1, false)]), (157, [(0, 4, true), (4, 1, false)]), (167, [(0, 1, false), (1, 1, false), (2, 1, false)]), (168, [(0, 1, false), (1, 1, false), (2, 1, false)]), (170, [(0, 1, false), (1, 7, true)]), (171, [(0, 1, false), (1, 7, true)]), (172, [(0, 1, false), (1, 7, true)]), (173, [(0, 1, false), (1, 7, true)]), (181, [(0, 1, false), (1, 1, false), (2, 1, false), (3, 1, false)]), (182, [(0, 1, false), (1, 1, false), (2, 1, false), (3, 1, false)]), (184, [(0, 0, true)]), (185, [(0, 0, true)]), (194, [(0, 1, false), (1, 1, false), (2, 1, false), (3, 1, false), (4, 1, false), (5, 1, false), (6, 1, false), (7, 1, false), (8, 1, false), (9, 1, false), (10, 1, false)]), (195, [(0, 1, false), (1, 1, false), (2, 1, false), (3, 1, false), (4, 1, false), (5, 1, false), (6, 1, false), (7, 1, false), (8, 1, false), (9, 1, false), (10, 1, false)])]
  es := [(22, 7), (23, 9), (36, 2), (37, 1), (40, 4), (44, 4), (51, 1), (52, 1), (83, 16), (93, 3), (99, 1), (100, 1), (101, 1), (102, 1), (103, 1), (135, 8), (138, 8), (145, 1)]
  ar := [(131, 16, 1), (183, 0, 1)]
  ik := [(2, .i64), (3, .i64), (5, .u8), (6, .u8), (12, .u64), (21, .i32), (26, .i64), (187, .u32), (188, .u8), (189, .u8), (192, .i32), (193, .i32)]
  kd := [(4, 1), (15, 2), (16, 2), (17, 2), (22, 3), (23, 3), (36, 3), (37, 3), (40, 3), (44, 3), (51, 3), (52, 3), (83, 3), (86, 2), (89, 2), (93, 3), (98, 2), (99, 3), (100, 3), (101, 3), (102, 3), (103, 3), (114, 2), (135, 3), (138, 3), (144, 2), (145, 3), (179, 2), (191, 2)]
  eg := [7, 8, 13, 14, 18, 19, 34, 35, 38, 39, 41, 42, 53, 54, 56, 57, 65, 66, 67, 68, 84, 85, 94, 95, 104, 105, 112, 113, 118, 119, 131, 136, 137, 139, 140, 146, 147, 156, 157, 167, 168, 170, 171, 172, 173, 181, 182, 183, 184, 185, 194, 195]
  bad := [0, 1, 121, 122, 123, 124, 125, 126, 127, 128, 129, 130, 131, 132, 133, 134, 135, 136, 137]
set_option maxRecDepth 100000 in
theorem tab_ok : tabB Try.prog tab = true := by kernel_rfl
end Go.Proofs.Ytcffhfcjfjfokaa
/- Small words for the stores' proofs: rows elsewhere than some blocks, rows that are new, cells of variables. -/
namespace Go.Proofs.Ytcffhfcjfjfokaa
open Go.RowKit
theorem grown_cell (w : World) (g k : Nat) (v : Value) : w.grownBy (w.setCell ⟨g, k, none⟩ v) (some g) :=
  ⟨rfl, rfl, rfl, by rw [World.size_setCell]; exact Nat.le_refl _, fun i _ hne => Below.heap_setCell _ _ _ _ (fun e => hne (by rw [e]))⟩
theorem grown_sets (g : Nat) : ∀ (vs : List Value) (o : Nat) (w : World), w.grownBy (w.setCells g o vs) (some g)
  | [], o, w => World.grownBy.refl w _
  | v :: vs, o, w => (grown_cell w g o v).trans (grown_sets g vs (o + 1) _)
theorem range_other {w : World} {b o : Nat} {cs : List Value} (h : w.rangeAt b o cs) (p : Addr) (v : Value) (hp : p.block ≠ b) : (w.setCell p v).rangeAt b o cs := fun j u hu => by
  rw [World.cell?_setCell_other _ _ _ _ (fun e => hp (by rw [e]))]
  exact h j u hu
theorem there_set {w : World} {b o n : Nat} (h : w.there b o n) (p : Addr) (v : Value) : (w.setCell p v).there b o n := fun j hj => by
  rw [World.frozen?_setCell]
  obtain ⟨u, hu⟩ := Option.isSome_iff_exists.1 (h j hj).1
  obtain ⟨v', hv'⟩ := RowKit.cell?_setCell_some (p := p) (x := v) hu
  exact ⟨by rw [hv']; rfl, (h j hj).2⟩
/-- A new row's world. -/
theorem range_new (w : World) (cs : Array Value) (t : TypeId) : (w.alloc (.cells cs t)).rangeAt w.heap.size 0 cs.toList := fun j u hu => by
  rw [Nat.zero_add, World.cell?_alloc_at _ _ _ _ rfl]; simpa using hu
theorem there_new (w : World) (cs : Array Value) (t : TypeId) : (w.alloc (.cells cs t)).there w.heap.size 0 cs.size := fun j hj => by
  rw [Nat.zero_add, World.cell?_alloc_at _ _ _ _ rfl, World.frozen?_alloc_at _ _ _ _ rfl]
  exact ⟨by rw [Array.getElem?_eq_getElem hj]; rfl, rfl⟩
theorem range_below {w w' : World} {b o N : Nat} {cs : List Value} (h : w.rangeAt b o cs) (hb : Below N w w') (hN : b < N) : w'.rangeAt b o cs := fun j u hu => (hb.cell (p := ⟨b, o + j, none⟩) hN).trans (h j u hu)
theorem there_below {w w' : World} {b o n N : Nat} (h : w.there b o n) (hb : Below N w w') (hN : b < N) : w'.there b o n := fun j hj => by
  rw [hb.cell (p := ⟨b, o + j, none⟩) hN, hb.frozen (p := ⟨b, o + j, none⟩) hN]; exact h j hj
theorem size_sets (g : Nat) : ∀ (vs : List Value) (o : Nat) (w : World), (w.setCells g o vs).heap.size = w.heap.size
  | [], _, _ => rfl
  | v :: vs, o, w => by rw [World.setCells, size_sets g vs (o + 1), World.size_setCell]
theorem below_sets {N g : Nat} {a w : World} (h : Below N a w) (hN : N ≤ g) (o : Nat) (vs : List Value) (hs : N ≤ w.heap.size) : Below N a (w.setCells g o vs) :=
  h.grown (grown_sets g vs o w) hs (by intro k hk; injection hk with hk; omega)
theorem cell_out {w : World} {b o j : Nat} {vs : List Value} {v : Value} (h : w.cell? ⟨b, j, none⟩ = some v) (hap : j < o ∨ o + vs.length ≤ j) : (w.setCells b o vs).cell? ⟨b, j, none⟩ = some v := by
  rw [World.cell?_setCells_out b vs o w ⟨b, j, none⟩ (fun _ _ => hap)]; exact h
theorem cell_in {w : World} {b o n i : Nat} {vs : List Value} {v : Value} (h : w.there b 0 n) (hn : o + vs.length ≤ n) (hv : vs[i]? = some v) : (w.setCells b o vs).cell? ⟨b, o + i, none⟩ = some v := by
  have hi := (List.getElem?_eq_some_iff.1 hv).1
  rw [World.cell?_setCells_in b vs o w (fun i hi => by have := (h (o + i) (by omega)).1; rwa [Nat.zero_add] at this) i hi, ← hv, List.getElem?_eq_getElem hi]
theorem rng_out {w : World} {b o j : Nat} {vs cs : List Value} (h : w.rangeAt b j cs) (hap : j + cs.length ≤ o ∨ o + vs.length ≤ j) : (w.setCells b o vs).rangeAt b j cs := World.rangeAt_setCells_apart h b o vs (.inr hap)
theorem rng_in {w : World} {b o n : Nat} {vs : List Value} (h : w.there b 0 n) (hn : o + vs.length ≤ n) : (w.setCells b o vs).rangeAt b o vs := World.rangeAt_setCells_same w b o vs (fun j hj => by have := h (o + j) (by omega); rwa [Nat.zero_add] at this)
theorem World.there.at {w : World} {b n : Nat} (h : w.there b 0 n) {o m : Nat} (ho : o + m ≤ n) : w.there b o m := fun j hj => by have := h (o + j) (by omega); rwa [Nat.zero_add] at this
theorem there_frozen {w : World} {b n k : Nat} (h : w.there b 0 n) (hk : k < n) : w.frozen? ⟨b, k, none⟩ = false := by
  have := (h k hk).2; rwa [Nat.zero_add] at this
theorem grown_below {w w' : World} (h : Below w.heap.size w w') : w.grownBy w' none := ⟨h.os, h.tape, h.output, h.size, fun k hk _ => h.block k hk⟩
theorem range_same {w w' : World} {b o : Nat} {l : List Value} (h : w.rangeAt b o l) (hb : w'.heap[b]? = w.heap[b]?) : w'.rangeAt b o l := fun j u hu => (World.cell?_of_block (a := ⟨b, o + j, none⟩) hb).trans (h j u hu)
theorem there_same {w w' : World} {b o n : Nat} (h : w.there b o n) (hb : w'.heap[b]? = w.heap[b]?) : w'.there b o n := fun j hj => by
  rw [World.cell?_of_block (a := ⟨b, o + j, none⟩) hb, World.frozen?_of_block (a := ⟨b, o + j, none⟩) hb]; exact h j hj
/-- A row elsewhere than the blocks of F. -/
def RowF {α : Type} (w : World) (F : List Nat) (sz : Nat) (enc : α → List Value) (A : Option Addr) (l : List α) : Prop :=
  0 < l.length → ∃ b off, A = some ⟨b, off, none⟩ ∧ b < w.heap.size ∧ b ∉ F ∧ ∀ k x, l[k]? = some x → ∀ j u, (enc x)[j]? = some u → w.cell? ⟨b, off + k * sz + j, none⟩ = some u
section
variable {α : Type} {w w' : World} {F F' : List Nat} {sz b : Nat} {enc : α → List Value} {A : Option Addr} {l : List α}
theorem RowF.row (h : RowF w F sz enc A l) : RowAt w w.heap.size sz enc A l := fun h0 => by
  obtain ⟨g, off, e, h1, _, h3⟩ := h h0
  exact ⟨g, off, e, h1, h3⟩
theorem RowF.keep (h : RowF w F sz enc A l) (hs : w.heap.size ≤ w'.heap.size) (hk : ∀ k, k < w.heap.size → k ∉ F → w'.heap[k]? = w.heap[k]?) : RowF w' F sz enc A l := fun h0 => by
  obtain ⟨g, off, e, h1, h2, h3⟩ := h h0
  exact ⟨g, off, e, by omega, h2, fun k x hx j u hu => (World.cell?_of_block (hk g h1 h2)).trans (h3 k x hx j u hu)⟩
theorem RowF.below (h : RowF w F sz enc A l) (hb : Below w.heap.size w w') : RowF w' F sz enc A l := h.keep hb.size fun k hk _ => hb.block k hk
theorem RowF.more (h : RowF w F sz enc A l) (hF : ∀ x ∈ F', x ∈ F ∨ w.heap.size ≤ x) : RowF w F' sz enc A l := fun h0 => by
  obtain ⟨g, off, e, h1, h2, h3⟩ := h h0
  exact ⟨g, off, e, h1, fun hg => (hF g hg).elim h2 (by omega), h3⟩
theorem RowF.sets (h : RowF w F sz enc A l) (hb : b ∈ F) (off : Nat) (vs : List Value) : RowF (w.setCells b off vs) F sz enc A l :=
  h.keep (by rw [size_sets]; exact Nat.le_refl _) fun k hk hF => (grown_sets b vs off w).block k hk (fun e => hF (by injection e with e; exact e ▸ hb))
/-- A new row. -/
theorem RowF.ofOwns {base : Nat} {e : TypeId} {c : Nat} (h : Owns w base e sz enc A c l) (hsz : ∀ x, (enc x).length = sz) (hF : ∀ x ∈ F, x < base) : RowF w F sz enc A l := fun h0 => by
  obtain ⟨g, off, e1, h1, h3⟩ := h.row hsz h0
  have := (h.lo g (by rw [e1]; rfl)).1
  exact ⟨g, off, e1, h1, fun hg => by have := hF g hg; omega, h3⟩
theorem rowF_nil : RowF w F sz enc A [] := fun h => by simp at h
end
/-- A new row, from block lo on. -/
def RowN {α : Type} (w : World) (lo sz : Nat) (enc : α → List Value) (A : Option Addr) (l : List α) : Prop :=
  0 < l.length → ∃ b off, A = some ⟨b, off, none⟩ ∧ lo ≤ b ∧ b < w.heap.size ∧ ∀ k x, l[k]? = some x → ∀ j u, (enc x)[j]? = some u → w.cell? ⟨b, off + k * sz + j, none⟩ = some u
section
variable {α : Type} {w w' : World} {lo sz : Nat} {enc : α → List Value} {A : Option Addr} {l : List α}
theorem RowN.row (h : RowN w lo sz enc A l) : RowAt w w.heap.size sz enc A l := fun h0 => by
  obtain ⟨g, off, e, _, h1, h3⟩ := h h0
  exact ⟨g, off, e, h1, h3⟩
theorem RowN.below (h : RowN w lo sz enc A l) (hb : Below w.heap.size w w') : RowN w' lo sz enc A l := fun h0 => by
  obtain ⟨g, off, e, h1, h2, h3⟩ := h h0
  exact ⟨g, off, e, h1, Nat.lt_of_lt_of_le h2 hb.size, fun k x hx j u hu => (hb.cell (p := ⟨g, _, none⟩) h2).trans (h3 k x hx j u hu)⟩
theorem RowN.low {lo' : Nat} (h : RowN w lo sz enc A l) (hl : lo' ≤ lo) : RowN w lo' sz enc A l := fun h0 => by
  obtain ⟨g, off, e, h1, h2, h3⟩ := h h0
  exact ⟨g, off, e, by omega, h2, h3⟩
theorem RowN.away {F : List Nat} (h : RowN w lo sz enc A l) (hF : ∀ x ∈ F, x < lo) : RowF w F sz enc A l := fun h0 => by
  obtain ⟨g, off, e, h1, h2, h3⟩ := h h0
  exact ⟨g, off, e, h2, fun hg => by have := hF g hg; omega, h3⟩
theorem Owns.rowN {base c : Nat} {e : TypeId} (h : Owns w base e sz enc A c l) (hsz : ∀ x, (enc x).length = sz) : RowN w base sz enc A l := fun h0 => by
  obtain ⟨g, off, e1, h1, h3⟩ := h.row hsz h0
  exact ⟨g, off, e1, (h.lo g (by rw [e1]; rfl)).1, h1, h3⟩
end
theorem grown_there {w w' : World} {a b o n : Nat} (hg : w.grownBy w' (some b)) (ha : a < w.heap.size ∧ a ≠ b) (h : w.there a o n) : w'.there a o n := fun j hj => by
  have hk := hg.block a ha.1 (by intro e; injection e with e; exact ha.2 e)
  rw [World.cell?_of_block (a := ⟨a, o + j, none⟩) hk, World.frozen?_of_block (a := ⟨a, o + j, none⟩) hk]; exact h j hj
theorem RowN.grown {α : Type} {w w' : World} {lo sz b : Nat} {enc : α → List Value} {A : Option Addr} {l : List α} (h : RowN w lo sz enc A l) (hg : w.grownBy w' (some b)) (hb : b < lo) : RowN w' lo sz enc A l := fun h0 => by
  obtain ⟨g, off, e, h1, h2, h3⟩ := h h0
  exact ⟨g, off, e, h1, Nat.lt_of_lt_of_le h2 hg.size, fun k x hx j u hu => (World.cell?_of_block (hg.block g h2 (by intro e; injection e with e; omega))).trans (h3 k x hx j u hu)⟩
theorem RowN.past {α : Type} {w w2 w3 : World} {lo sz u : Nat} {enc : α → List Value} {A : Option Addr} {l : List α} (h : RowN w lo sz enc A l) (hb : Below w.heap.size w w2) (hg : w2.grownBy w3 (some u)) (hu : w.heap.size ≤ u) : RowN w3 lo sz enc A l := fun h0 => by
  obtain ⟨g, off, e, h1, h2, h3⟩ := h h0
  have z := hb.size
  have z2 := hg.size
  exact ⟨g, off, e, h1, by omega, fun k x hx j v hv => ((World.cell?_of_block (a := ⟨g, _, none⟩) (hg.block g (by omega) (by intro e; injection e with e; omega))).trans (hb.cell (p := ⟨g, _, none⟩) h2)).trans (h3 k x hx j v hv)⟩
theorem rng_put {w : World} {b n o : Nat} {l vs : List Value} (h : w.rangeAt b 0 l) (ht : w.there b 0 n) (hl : l.length = n) (ho : o + vs.length ≤ n) : (w.setCells b o vs).rangeAt b 0 (l.take o ++ vs ++ l.drop (o + vs.length)) := fun j u hu => by
  rw [Nat.zero_add]
  by_cases h1 : j < o
  · rw [List.getElem?_append_left (by rw [List.length_append, List.length_take_of_le (by omega)]; omega), List.getElem?_append_left (by rw [List.length_take_of_le (by omega)]; exact h1), List.getElem?_take_of_lt h1] at hu
    exact cell_out (by have := h j u hu; rwa [Nat.zero_add] at this) (.inl h1)
  · by_cases h2 : j < o + vs.length
    · rw [List.getElem?_append_left (by rw [List.length_append, List.length_take_of_le (by omega)]; omega), List.getElem?_append_right (by rw [List.length_take_of_le (by omega)]; omega), List.length_take_of_le (by omega)] at hu
      have := cell_in (i := j - o) ht ho hu
      rwa [show o + (j - o) = j by omega] at this
    · rw [List.getElem?_append_right (by rw [List.length_append, List.length_take_of_le (by omega)]; omega), List.length_append, List.length_take_of_le (by omega), List.getElem?_drop, show o + vs.length + (j - (o + vs.length)) = j by omega] at hu
      exact cell_out (by have := h j u hu; rwa [Nat.zero_add] at this) (.inr (by omega))
theorem range_mid {w : World} {b o : Nat} {l1 m l3 : List Value} (h : w.rangeAt b 0 (l1 ++ (m ++ l3))) (ho : l1.length = o) : w.rangeAt b o m := fun j v hv => by
  have hj := (List.getElem?_eq_some_iff.1 hv).1
  have := h (o + j) v (by rw [List.getElem?_append_right (by omega), ho, show o + j - o = j by omega, List.getElem?_append_left hj]; exact hv)
  rwa [Nat.zero_add] at this
section
variable {P : Program} {ops : Array Oper} {rest : List Oper} {op : Oper} {a : Act} {w : World} {Q : Exit → Act → World → Prop}
theorem wpList_loadR (hgd : op.guard = none) (ty : TypeId) (x : Operand) (ho : op.op = .load ty x) (b off : Nat) (hx : a.eval x = .pointer (some ⟨b, off, none⟩)) (v : Value) (hr : (loadVar ty ⟨b, off, none⟩).run P w = .ok v w)
    (h : wpList P ops Q rest (a.put op.dst v) w) : wpList P ops Q (op :: rest) a w := by
  refine wpList_plain hgd fun _ hK => ?_
  unfold Oper.wp execOp
  simp only [ho, hx, Instr.loadAt, Instr.sureAddr, Sem.run_bind, Sem.run_pure, Result.andThen_ok, hr]
  exact hK _ _ h
end
section
variable {ops : Array Oper} {C : World → Prop} {Q : Act → Prop} {a : Act} {o : Oper} {rest : List Oper}
/-- Any load, in a class of worlds. -/
theorem wpQuiet_loadC (hw : Region.wanted o (yielded ops a.tmps) = true) (ty : TypeId) (x : Operand) (ho : o.op = .load ty x) (b off : Nat)
    (hx : a.eval x = .pointer (some ⟨b, off, none⟩)) (v : Value) (hc : ∀ w', C w' → (loadVar ty ⟨b, off, none⟩).run Try.prog w' = .ok v w')
    (h : wpQuiet Try.prog ops C Q rest (a.put o.dst v)) : wpQuiet Try.prog ops C Q (o :: rest) a := by
  refine wpQuiet_step fun K hK => ?_
  rw [if_pos hw]
  refine ⟨v, ?_, hK _ h⟩
  intro w' hw'
  unfold Oper.quietAt execOp
  simp only [ho, hx, Instr.loadAt, Instr.sureAddr, Sem.run_bind, Sem.run_pure, Result.andThen_ok, hc w' hw']
  exact ⟨rfl, rfl⟩
end

theorem load3 {w : World} {b o : Nat} {v : Int} (h : w.cell? ⟨b, o, none⟩ = some (.int .i64 v)) : (loadVar 3 ⟨b, o, none⟩).run Try.prog w = .ok (.int .i64 v) w := by
  go_simp
theorem load36 {w : World} {b o n c : Nat} {A : Option Addr} (h : w.cell? ⟨b, o, none⟩ = some (.slice A n c)) : (loadVar 36 ⟨b, o, none⟩).run Try.prog w = .ok (.slice A n c) w := by go_simp
theorem load37 {w : World} {b o n c : Nat} {A : Option Addr} (h : w.cell? ⟨b, o, none⟩ = some (.slice A n c)) : (loadVar 37 ⟨b, o, none⟩).run Try.prog w = .ok (.slice A n c) w := by go_simp
theorem load40 {w : World} {b o n c : Nat} {A : Option Addr} (h : w.cell? ⟨b, o, none⟩ = some (.slice A n c)) : (loadVar 40 ⟨b, o, none⟩).run Try.prog w = .ok (.slice A n c) w := by go_simp
theorem load135 {w : World} {b o n c : Nat} {A : Option Addr} (h : w.cell? ⟨b, o, none⟩ = some (.slice A n c)) : (loadVar 135 ⟨b, o, none⟩).run Try.prog w = .ok (.slice A n c) w := by go_simp
theorem load138 {w : World} {b o n c : Nat} {A : Option Addr} (h : w.cell? ⟨b, o, none⟩ = some (.slice A n c)) : (loadVar 138 ⟨b, o, none⟩).run Try.prog w = .ok (.slice A n c) w := by go_simp
end Go.Proofs.Ytcffhfcjfjfokaa
