/- append onto an empty slice, at a step of a region that draws its order: a row of its own. -/
import Derived.Test.YtcffhfcjfjfokaaTwin
import Derived.Deep.RegionHeld3
import Derived.Deep.MidRow
namespace Go.Proofs.Ytcffhfcjfjfokaa
open Go.RowKit
/-- A row in blocks from lo on. -/
def FRow {α : Type} (w : World) (lo sz : Nat) (enc : α → List Value) (A : Option Addr) (l : List α) : Prop :=
  0 < l.length → ∃ b off, A = some ⟨b, off, none⟩ ∧ lo ≤ b ∧ b < w.heap.size ∧ ∀ k x, l[k]? = some x → ∀ j u, (enc x)[j]? = some u → w.cell? ⟨b, off + k * sz + j, none⟩ = some u
section
variable {α : Type} {w w' : World} {lo sz : Nat} {enc : α → List Value} {A : Option Addr} {l : List α}
theorem FRow.row (h : FRow w lo sz enc A l) : RowAt w w.heap.size sz enc A l := fun h0 => by
  obtain ⟨b, off, e, _, hb, hc⟩ := h h0
  exact ⟨b, off, e, hb, hc⟩
theorem FRow.below (h : FRow w lo sz enc A l) (hb : Below w.heap.size w w') : FRow w' lo sz enc A l := fun h0 => by
  obtain ⟨b, off, e, h1, h2, hc⟩ := h h0
  exact ⟨b, off, e, h1, Nat.lt_of_lt_of_le h2 hb.size, fun k x hk j u hu => (hb.cell (p := ⟨b, _, none⟩) h2).trans (hc k x hk j u hu)⟩
theorem FRow.setCell (h : FRow w lo sz enc A l) {p : Addr} (hp : p.block < lo) (v : Value) : FRow (w.setCell p v) lo sz enc A l := fun h0 => by
  obtain ⟨b, off, e, h1, h2, hc⟩ := h h0
  refine ⟨b, off, e, h1, by rw [World.size_setCell]; exact h2, fun k x hk j u hu => ?_⟩
  have hne : ∀ o, p ≠ ⟨b, o, none⟩ := fun o e2 => by rw [e2] at hp; exact absurd h1 (Nat.not_le.2 hp)
  rw [World.cell?_setCell_other _ _ _ _ (hne _)]
  exact hc k x hk j u hu
theorem FRow.lower {lo' : Nat} (h : FRow w lo sz enc A l) (hl : lo' ≤ lo) : FRow w lo' sz enc A l := fun h0 => by
  obtain ⟨b, off, e, h1, h2, hc⟩ := h h0
  exact ⟨b, off, e, by omega, h2, hc⟩
theorem FRow.of_owns {base c : Nat} {e : TypeId} (h : Owns w base e sz enc A c l) (hsz : ∀ x, (enc x).length = sz) : FRow w base sz enc A l := fun h0 => by
  obtain ⟨b, off, e, hb, hc⟩ := h.row hsz h0
  exact ⟨b, off, e, (h.lo b (by rw [e]; rfl)).1, hb, hc⟩
end
section
variable {P : Program}
theorem run_append_zero (w : World) (t ty e : TypeId) (i : TypeInfo) (ht : P.underlying t = some (.slice e)) (hi : P.info? e = some i) (g : Addr) (B : Option Addr) (m c : Nat) (hm : 0 < m) (hb : m * i.bytes ≤ 140737488355328) :
    (Builtin.append_ #[t, t] ty #[.slice (some g) 0 0, .slice B m c]).run P w = (Builtin.append_ #[t, t] ty #[.slice none 0 0, .slice B m c]).run P w := by
  have h1 : ¬ m ≤ 0 := by omega
  have h2 := growslice_fits (need := m) (old := 0) (bytes := i.bytes) hm hb
  have h3 : ¬ m = 0 := by omega
  have h4 : ¬ 281474976710656 < Builtin.nextslicecap m 0 * i.bytes := by omega
  simp [Builtin.append_, run_underlying ht, sizeOf, typeInfo, hi, Builtin.lenOf, Builtin.firstCells, loadCells, loadCellsFrom, h1, h3, h4]
theorem run_append_none (w : World) (t ty e : TypeId) (i : TypeInfo) (ht : P.underlying t = some (.slice e)) (hi : P.info? e = some i) (A B : Option Addr) (c : Nat) :
    (Builtin.append_ #[t, t] ty #[.slice A 0 0, .slice B 0 c]).run P w = .ok (.slice A 0 0) w := by
  cases A <;> cases B <;> simp [Builtin.append_, run_underlying ht, sizeOf, typeInfo, hi, Builtin.lenOf, Builtin.firstCells, loadCells, loadCellsFrom, storeCells]
/-- append onto an empty slice literal, at a step of a region that draws its order: a row of its own; no block that was there has turned. -/
theorem step_append_fresh {α : Type} {ops : Array Oper} {o : Oper} {a : Act} {w : World} {K : Act → World → Prop} {Q : Exit → Act → World → Prop} (hgd : o.guard = none) (s x : Operand) (t : TypeId)
    (ho : o.op = .call { callee := .builtin .append, args := #[s, x], argTypes := #[t, t] })
    (e : TypeId) (sz bytes : Nat) (z : Value) (ht : P.underlying t = some (.slice e)) (hinfo : (P.info? e).map (fun i => (i.zero, i.size, i.bytes)) = some (some z, sz, bytes))
    (hzs : z.cells.size = sz) (hsz : 0 < sz) (enc : α → List Value) (henc : ∀ x, (enc x).length = sz) (hone : ∀ x, ∀ u ∈ enc x, u.oneCell' = true)
    (A B : Option Addr) (cB N m : Nat) (l : List α) (hs : a.eval s = .slice A 0 0) (hx : a.eval x = .slice B m cB) (hm : l.length = m) (hr : RowAt w N sz enc B l) (hbytes : m * bytes ≤ 140737488351232) (h63 : m ≤ 9223372036854775807)
    (h : ∀ A' c' w', FRow w' w.heap.size sz enc A' l → m ≤ c' → c' ≤ 9223372036854775807 → Below w.heap.size w w' → K (a.put o.dst (.slice A' m c')) w') :
    if Region.wanted o (yielded ops a.tmps) = true then o.wp P a w K Q else K (a.put o.dst undef) w := by
  subst hm
  obtain ⟨i, hi, hz, hsize, hby⟩ := info_parts hinfo
  have hw : Region.wanted o (yielded ops a.tmps) = true := by simp [Region.wanted, hgd]
  rw [if_pos hw]
  have key : ∃ A' c' w', (Builtin.append_ #[t, t] o.type #[.slice A 0 0, .slice B l.length cB]).run P w = .ok (.slice A' l.length c') w' ∧ FRow w' w.heap.size sz enc A' l ∧ l.length ≤ c' ∧ c' ≤ 9223372036854775807 ∧ Below w.heap.size w w' := by
    by_cases h0 : 0 < l.length
    · obtain ⟨b, off, rfl, hb, hc⟩ := hr h0
      obtain ⟨v', w', h1, h2, h3, _, h5⟩ := run_append_own_at (P := P) w w.heap.size t o.type e i z sz bytes ht hi hz hsize hby hzs hsz (.slice none 0 0) 0 _ (owns_nil (α := α) w w.heap.size e sz enc) ⟨b, off, none⟩ l.length cB (l.flatMap enc)
        (length_flat henc l) (fun j u hu => by
          obtain ⟨k, r, x, hk, hr', rfl⟩ := flatMap_of henc l j u hu
          have := hc k x hk r u hr'
          by_cases hz0 : k * sz + r = 0
          · rw [hz0]; simp only [Addr.add, if_true]
            have e0 : off + k * sz + r = off := by omega
            rw [e0] at this; exact this
          · simp only [Addr.add, if_neg hz0]
            rw [← Nat.add_assoc]; exact this)
        (fun u hu => by obtain ⟨x, _, hux⟩ := List.mem_flatMap.1 hu; exact hone x u hux) (by simp only [maxLen]; omega) (by rw [Nat.zero_add]; omega) (Nat.le_refl _)
      rw [Nat.zero_add, List.flatMap_nil, List.nil_append] at h2
      obtain ⟨g, cap, rfl, hg1, hg2⟩ := World.ownsRow.form h2 h0
      have hO : Owns w' w.heap.size e sz enc (some ⟨g, 0, none⟩) cap l := h2
      refine ⟨some ⟨g, 0, none⟩, cap, w', ?_, FRow.of_owns hO henc, hO.len.1, hO.len.2, (Below.refl w.heap.size w).grown h3 (Nat.le_refl _) (by intro k hk; cases hk)⟩
      cases A with
      | none => exact h1
      | some ga => rw [run_append_zero w t o.type e i ht hi ga _ _ _ h0 (by rw [hby]; omega)]; exact h1
    · have hl : l = [] := List.eq_nil_of_length_eq_zero (by omega)
      subst hl
      exact ⟨A, 0, w, run_append_none w t o.type e i ht hi A B cB, fun h => absurd h (by simp), by simp, by omega, Below.refl _ _⟩
  obtain ⟨A', c', w', hrun, h2, h3, h4, h5⟩ := key
  unfold Oper.wp execOp
  simp only [ho, resolve, invoke, builtin, Sem.run_bind, Sem.run_pure, Result.andThen_ok, List.map_toArray, List.map_cons, List.map_nil, hs, hx, hrun]
  exact h A' c' w' h2 h3 h4 h5
end
end Go.Proofs.Ytcffhfcjfjfokaa
