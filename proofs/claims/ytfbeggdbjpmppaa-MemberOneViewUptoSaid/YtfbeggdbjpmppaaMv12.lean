/- Fresh StepApp EngA Tab Holds RisLaw RisStep OrdLaw GenT Team, joined. -/
import Derived.Deep.RegionHeld3
import Derived.Deep.MidRow
import Derived.RegionTactic
import Derived.Deep.WholeRow
import Derived.Test.YtfbeggdbjpmppaaProg
import Derived.Test.YtfbeggdbjpmppaaMv1
import Derived.Test.YtfbeggdbjpmppaaMv4
import Derived.Test.YtfbeggdbjpmppaaMv6
import Derived.Test.YtfbeggdbjpmppaaMv7
import Derived.Test.YtfbeggdbjpmppaaMv9
import Derived.Test.YtfbeggdbjpmppaaMv11
set_option linter.unusedVariables false
set_option linter.unusedSimpArgs false
namespace Go.Proofs.Ytfbeggdbjpmppaa
open Go.RowKit
def FRow {α : Type} (w : World) (lo sz : Nat) (enc : α → List Value) (A : Option Addr) (l : List α) : Prop :=
  0 < l.length → ∃ b off, A = some ⟨b, off, none⟩ ∧ lo ≤ b ∧ b < w.heap.size ∧ ∀ k x, l[k]? = some x → ∀ j u, (enc x)[j]? = some u → w.cell? ⟨b, off + k * sz + j, none⟩ = some u
section
variable {α : Type} {w w' : World} {lo sz : Nat} {enc : α → List Value} {A : Option Addr} {l : List α}
theorem FRow.row (h : FRow w lo sz enc A l) : RowAt w w.heap.size sz enc A l := fun h0 => by
  obtain ⟨b, off, e, _, hb, hc⟩ := h h0
  exact ⟨b, off, e, hb, hc⟩
theorem FRow.below (h : FRow w lo sz enc A l) (hb : Below w.heap.size w w') : FRow w' lo sz enc A l := fun h0 => by
  obtain ⟨b, off, e, h1, h2, hc⟩ := h h0
  exact ⟨b, off, e, h1, Nat.lt_of_lt_of_le h2 hb.size, fun k x hk j u hu => (hb.cell (p := ⟨b, _, none⟩) h2).trans (hc k x hk j u hu)⟩
theorem FRow.setCell (h : FRow w lo sz enc A l) {p : Addr} (hp : p.block < lo) (v : Value) : FRow (w.setCell p v) lo sz enc A l := fun h0 => by
  obtain ⟨b, off, e, h1, h2, hc⟩ := h h0
  refine ⟨b, off, e, h1, by rw [World.size_setCell]; exact h2, fun k x hk j u hu => ?_⟩
  have hne : ∀ o, p ≠ ⟨b, o, none⟩ := fun o e2 => by rw [e2] at hp; exact absurd h1 (Nat.not_le.2 hp)
  rw [World.cell?_setCell_other _ _ _ _ (hne _)]
  exact hc k x hk j u hu
theorem FRow.of_owns {base c : Nat} {e : TypeId} (h : Owns w base e sz enc A c l) (hsz : ∀ x, (enc x).length = sz) : FRow w base sz enc A l := fun h0 => by
  obtain ⟨b, off, e, hb, hc⟩ := h.row hsz h0
  exact ⟨b, off, e, (h.lo b (by rw [e]; rfl)).1, hb, hc⟩
end
section
variable {P : Program}
theorem run_append_zero (w : World) (t ty e : TypeId) (i : TypeInfo) (ht : P.underlying t = some (.slice e)) (hi : P.info? e = some i) (g : Addr) (B : Option Addr) (m c : Nat) (hm : 0 < m) (hb : m * i.bytes ≤ 140737488355328) :
    (Builtin.append_ #[t, t] ty #[.slice (some g) 0 0, .slice B m c]).run P w = (Builtin.append_ #[t, t] ty #[.slice none 0 0, .slice B m c]).run P w := by
  have h1 : ¬ m ≤ 0 := by omega
  have h2 := growslice_fits (need := m) (old := 0) (bytes := i.bytes) hm hb
  have h3 : ¬ m = 0 := by omega
  have h4 : ¬ 281474976710656 < Builtin.nextslicecap m 0 * i.bytes := by omega
  simp [Builtin.append_, run_underlying ht, sizeOf, typeInfo, hi, Builtin.lenOf, Builtin.firstCells, loadCells, loadCellsFrom, h1, h3, h4]
theorem run_append_none (w : World) (t ty e : TypeId) (i : TypeInfo) (ht : P.underlying t = some (.slice e)) (hi : P.info? e = some i) (A B : Option Addr) (c : Nat) :
    (Builtin.append_ #[t, t] ty #[.slice A 0 0, .slice B 0 c]).run P w = .ok (.slice A 0 0) w := by
  cases A <;> cases B <;> simp [Builtin.append_, run_underlying ht, sizeOf, typeInfo, hi, Builtin.lenOf, Builtin.firstCells, loadCells, loadCellsFrom, storeCells]
end
end Go.Proofs.Ytfbeggdbjpmppaa
namespace Go.Proofs.Ytfbeggdbjpmppaa
open Go Go.RowKit
section
variable {P : Program} {ty t : TypeId} {b off : Nat} {w : World} {v : Value}
theorem load_agg {cs : List Value} (hg : aggB P ty = some true) (hs : sizeB P ty = some cs.length) (h : w.rangeAt b off cs) : (loadVar ty ⟨b, off, none⟩).run P w = .ok (.agg cs.toArray) w := by
  unfold aggB at hg
  cases hu : P.underlying ty with
  | none => rw [hu] at hg; simp at hg
  | some d =>
    rw [hu] at hg
    refine run_loadVar_mid w b off ty cs d h hu ?_ hs
    cases d <;> simp at hg ⊢
theorem VStore.new {x : World} {K : World → Prop} {c c' : Array Value} (hx : Hid (x = w.alloc (.cells c t))) (hi : sizeB P t = some c'.size) (ho : c.size = c'.size) (h1 : c'.all (·.oneCell') = true) (hk : ∀ x', Hid (x' = w.alloc (.cells c' t)) → K x') : VStore P t w.heap.size 0 (.agg c') x K := by
  rw [hx.out]
  exact .mk _ (run_storeVar_new w t c c' hi ho h1) (hk _ (Lib.hid rfl))
theorem run_store1 (hi : sizeB P ty = some 1) (hc : (w.cell? ⟨b, off, none⟩).isSome = true) (hf : w.frozen? ⟨b, off, none⟩ = false) (hv : v.cells = #[v]) (h1 : v.oneCell' = true) : (storeVar ty ⟨b, off, none⟩ v).run P w = .ok () (w.setCell ⟨b, off, none⟩ v) := by
  have := run_storeCells_cells (P := P) b off [v] 0 w (fun j hj => by
    have : j = 0 := (by simpa using hj)
    subst this
    simpa using hc) (fun j hj => by
    have : j = 0 := (by simpa using hj)
    subst this
    simpa using hf) (fun u hu => by simp at hu; subst hu; exact h1)
  simp only [Nat.add_zero] at this
  unfold storeVar
  rw [Sem.run_bind, run_size hi, hv]
  simpa [World.setCells] using this
theorem VStore.cell {K : World → Prop} (hi : sizeB P ty = some 1) (hc : (w.cell? ⟨b, off, none⟩).isSome = true) (hf : w.frozen? ⟨b, off, none⟩ = false) (hv : v.cells = #[v]) (h1 : v.oneCell' = true) (hk : ∀ w', Hid (w' = w.setCell ⟨b, off, none⟩ v) → K w') : VStore P ty b off v w K :=
  .mk _ (run_store1 hi hc hf hv h1) (hk _ (Lib.hid rfl))
theorem VApp.rows {α : Type} {ty0 : TypeId} {t e : TypeId} {K : Value → World → Prop}
    (base : Nat) (sz bytes : Nat) (z : Value) (ht : P.underlying t = some (.slice e)) (hinfo : (P.info? e).map (fun i => (i.zero, i.size, i.bytes)) = some (some z, sz, bytes))
    (hzs : z.cells.size = sz) (hsz : 0 < sz) (enc : α → List Value) (henc : ∀ x, (enc x).length = sz) (hone : ∀ x, ∀ u ∈ enc x, u.oneCell' = true)
    {A : Option Addr} {c : Nat} (xs : List α) {B : Option Addr} {cB N n m : Nat} (l : List α)
    (hn : xs.length = n) (hm : l.length = m)
    (hown : Owns w base e sz enc A c xs) (hr : RowAt w N sz enc B l)
    (h63 : n + m ≤ 9223372036854775807) (hbytes : (n + m) * bytes ≤ 140737488355328) (hbase : base ≤ w.heap.size)
    (h : ∀ A' c' w', Owns w' base e sz enc A' c' (xs ++ l) → w.grownBy w' (blk A) → (blk A' = blk A ∨ blk A' = some w.heap.size) → K (.slice A' (n + m) c') w') : VApp P #[t, t] ty0 [.slice A n c, .slice B m cB] w K := by
  subst hn hm
  obtain ⟨i, hi, hz, hsize, hby⟩ := info_parts hinfo
  have key : ∃ v' w', (Builtin.append_ #[t, t] ty0 #[.slice A xs.length c, .slice B l.length cB]).run P w = .ok v' w' ∧ w'.ownsRow base e sz v' (xs.length + l.length) ((xs ++ l).flatMap enc) ∧ w.grownBy w' (blk A) ∧ (v'.ownBlock = blk A ∨ v'.ownBlock = some w.heap.size) := by
    by_cases h0 : 0 < l.length
    · obtain ⟨b, off, rfl, hb, hc⟩ := hr h0
      obtain ⟨v', w', h1, h2, h3, _, h5⟩ := run_append_own_at (P := P) w base t ty0 e i z sz bytes ht hi hz hsize hby hzs hsz (.slice A xs.length c) xs.length _ hown ⟨b, off, none⟩ l.length cB (l.flatMap enc)
        (length_flat henc l) (fun j u hu => by
          obtain ⟨k, r, x, hk, hr', rfl⟩ := flatMap_of henc l j u hu
          have := hc k x hk r u hr'
          by_cases hz0 : k * sz + r = 0
          · rw [hz0]; simp only [Addr.add, if_true]
            have e0 : off + k * sz + r = off := by omega
            rw [e0] at this; exact this
          · simp only [Addr.add, if_neg hz0]
            rw [← Nat.add_assoc]; exact this)
        (fun u hu => by obtain ⟨x, _, hux⟩ := List.mem_flatMap.1 hu; exact hone x u hux) h63 hbytes hbase
      rw [own_blk] at h3 h5
      exact ⟨v', w', h1, by rw [List.flatMap_append]; exact h2, h3, h5⟩
    · have hl : l = [] := List.eq_nil_of_length_eq_zero (by omega)
      subst hl
      cases B with
      | none =>
        refine ⟨.slice A xs.length c, w, ?_, by simp only [List.length_nil, Nat.add_zero, List.append_nil]; exact hown, World.grownBy.refl w _, .inl (own_blk _ _ _)⟩
        rcases hown.2 with ⟨hv, _⟩ | ⟨g, cap, cur, hv, _, _, hnc, _⟩
        · rw [hv]; simp [Builtin.append_, run_underlying ht, sizeOf, typeInfo, hi, Builtin.lenOf, Builtin.firstCells]
        · rw [hv]; simp [Builtin.append_, run_underlying ht, sizeOf, typeInfo, hi, Builtin.lenOf, Builtin.firstCells, hnc, storeCells]
      | some ad =>
        obtain ⟨v', w', h1, h2, h3, _, h5⟩ := run_append_own_at (P := P) w base t ty0 e i z sz bytes ht hi hz hsize hby hzs hsz (.slice A xs.length c) xs.length _ hown ad 0 cB []
          (by simp) (fun j u hu => by simp at hu) (fun u hu => by simp at hu) h63 hbytes hbase
        rw [own_blk] at h3 h5
        exact ⟨v', w', h1, by simpa using h2, h3, h5⟩
  obtain ⟨v', w', hrun, h2, h3, h4⟩ := key
  have hv : ∃ A' c', v' = .slice A' (xs.length + l.length) c' := by
    rcases h2.2 with ⟨hv, h0⟩ | ⟨g, cap, cur, hv, _⟩
    · exact ⟨none, 0, by rw [hv, h0]⟩
    · exact ⟨_, _, hv⟩
  obtain ⟨A', c', rfl⟩ := hv
  rw [own_blk] at h4
  exact .mk _ _ hrun (h A' c' w' (by unfold Owns; rw [List.length_append]; exact h2) h3 h4)
theorem VApp.fresh {α : Type} {ty0 : TypeId} {t e : TypeId} {K : Value → World → Prop}
    (sz bytes : Nat) (z : Value) (ht : P.underlying t = some (.slice e)) (hinfo : (P.info? e).map (fun i => (i.zero, i.size, i.bytes)) = some (some z, sz, bytes))
    (hzs : z.cells.size = sz) (hsz : 0 < sz) (enc : α → List Value) (henc : ∀ x, (enc x).length = sz) (hone : ∀ x, ∀ u ∈ enc x, u.oneCell' = true)
    {A B : Option Addr} {cB N m : Nat} (l : List α) (hm : l.length = m) (hr : RowAt w N sz enc B l) (hbytes : m * bytes ≤ 140737488351232) (h63 : m ≤ 9223372036854775807)
    (h : ∀ A' c' w', FRow w' w.heap.size sz enc A' l → m ≤ c' → c' ≤ 9223372036854775807 → Below w.heap.size w w' → K (.slice A' m c') w') : VApp P #[t, t] ty0 [.slice A 0 0, .slice B m cB] w K := by
  subst hm
  obtain ⟨i, hi, hz, hsize, hby⟩ := info_parts hinfo
  have key : ∃ A' c' w', (Builtin.append_ #[t, t] ty0 #[.slice A 0 0, .slice B l.length cB]).run P w = .ok (.slice A' l.length c') w' ∧ FRow w' w.heap.size sz enc A' l ∧ l.length ≤ c' ∧ c' ≤ 9223372036854775807 ∧ Below w.heap.size w w' := by
    by_cases h0 : 0 < l.length
    · obtain ⟨b, off, rfl, hb, hc⟩ := hr h0
      obtain ⟨v', w', h1, h2, h3, _, h5⟩ := run_append_own_at (P := P) w w.heap.size t ty0 e i z sz bytes ht hi hz hsize hby hzs hsz (.slice none 0 0) 0 _ (owns_nil (α := α) w w.heap.size e sz enc) ⟨b, off, none⟩ l.length cB (l.flatMap enc)
        (length_flat henc l) (fun j u hu => by
          obtain ⟨k, r, x, hk, hr', rfl⟩ := flatMap_of henc l j u hu
          have := hc k x hk r u hr'
          by_cases hz0 : k * sz + r = 0
          · rw [hz0]; simp only [Addr.add, if_true]
            have e0 : off + k * sz + r = off := by omega
            rw [e0] at this; exact this
          · simp only [Addr.add, if_neg hz0]
            rw [← Nat.add_assoc]; exact this)
        (fun u hu => by obtain ⟨x, _, hux⟩ := List.mem_flatMap.1 hu; exact hone x u hux) (by simp only [maxLen]; omega) (by rw [Nat.zero_add]; omega) (Nat.le_refl _)
      rw [Nat.zero_add, List.flatMap_nil, List.nil_append] at h2
      obtain ⟨g, cap, rfl, hg1, hg2⟩ := World.ownsRow.form h2 h0
      have hO : Owns w' w.heap.size e sz enc (some ⟨g, 0, none⟩) cap l := h2
      refine ⟨some ⟨g, 0, none⟩, cap, w', ?_, FRow.of_owns hO henc, hO.len.1, hO.len.2, (Below.refl w.heap.size w).grown h3 (Nat.le_refl _) (by intro k hk; cases hk)⟩
      cases A with
      | none => exact h1
      | some ga => rw [run_append_zero w t ty0 e i ht hi ga _ _ _ h0 (by rw [hby]; omega)]; exact h1
    · have hl : l = [] := List.eq_nil_of_length_eq_zero (by omega)
      subst hl
      exact ⟨A, 0, w, run_append_none w t ty0 e i ht hi A B cB, fun h => absurd h (by simp), by simp, by omega, Below.refl _ _⟩
  obtain ⟨A', c', w', hrun, h2, h3, h4, h5⟩ := key
  exact .mk _ _ hrun (h A' c' w' h2 h3 h4 h5)
theorem VApp.keep {α : Type} {ty0 : TypeId} {t e : TypeId} {K : Value → World → Prop}
    (base : Nat) (sz bytes : Nat) (z : Value) (ht : P.underlying t = some (.slice e)) (hinfo : (P.info? e).map (fun i => (i.zero, i.size, i.bytes)) = some (some z, sz, bytes))
    (hzs : z.cells.size = sz) (hsz : 0 < sz) (enc : α → List Value) (henc : ∀ x, (enc x).length = sz) (hone : ∀ x, ∀ u ∈ enc x, u.oneCell' = true)
    {A : Option Addr} {c : Nat} (xs : List α) {gB cB n : Nat} (y : α)
    (hn : xs.length = n) (hown : Owns w base e sz enc A c xs) (hr : ∀ j u, (enc y)[j]? = some u → w.cell? ⟨gB, j, none⟩ = some u)
    (h63 : n + 1 ≤ 9223372036854775807) (hbytes : (n + 1) * bytes ≤ 140737488355328) (hbase : base ≤ w.heap.size)
    (h : ∀ A' c' w', Owns w' base e sz enc A' c' (xs ++ [y]) → Owns w' base e sz enc A c xs → w.grownBy w' (blk A) → (blk A' = blk A ∨ blk A' = some w.heap.size) → K (.slice A' (n + 1) c') w') : VApp P #[t, t] ty0 [.slice A n c, .slice (some ⟨gB, 0, none⟩) 1 cB] w K := by
  subst hn
  obtain ⟨i, hi, hz, hsize, hby⟩ := info_parts hinfo
  have hnews : ∀ j u, (enc y)[j]? = some u → w.cell? ((⟨gB, 0, none⟩ : Addr).add j) = some u := fun j u hu => by
    rw [Addr.add_lit]; simpa using hr j u hu
  have hfm : ([y] : List α).flatMap enc = enc y := by simp
  obtain ⟨v', w', hrun, h2, h3, h5, h4⟩ := run_append_own_at (P := P) w base t ty0 e i z sz bytes ht hi hz hsize hby hzs hsz (.slice A xs.length c) xs.length _ hown ⟨gB, 0, none⟩ 1 cB (enc y)
    (by rw [henc, Nat.one_mul]) hnews (hone y) h63 hbytes hbase
  obtain ⟨g', cap', rfl, hg1, hg2⟩ := World.ownsRow.form h2 (by omega)
  simp only [own_blk] at h3 h4
  have hO : Owns w' base e sz enc (some ⟨g', 0, none⟩) cap' (xs ++ [y]) := by unfold Owns; rw [List.flatMap_append, hfm, List.length_append]; exact h2
  have hold : Owns w' base e sz enc A c xs := by
    rcases hown.2 with ⟨hv, h0⟩ | ⟨g, cap, cur, hv, hb, hh, k1, k2, k3, k4⟩
    · injection hv with e1 _ e3
      subst e1 e3
      obtain rfl : xs = [] := List.eq_nil_of_length_eq_zero h0
      exact owns_nil _ _ _ _ _
    · injection hv with e1 _ e3
      subst e1 e3
      by_cases hroom : xs.length + 1 ≤ c
      · have hr' := run_append_room (P := P) w t ty0 e i ht hi g xs.length c cur hh ⟨gB, 0, none⟩ 1 cB (enc y) (by rw [henc, hsize, Nat.one_mul]) hnews (hone y) hroom (by rw [henc, k3, hsize]; have := Nat.mul_le_mul_right sz hroom; rw [Nat.add_mul, Nat.one_mul] at this; exact this)
        rw [hrun] at hr'
        injection hr' with e1 e2
        injection e1 with e3 _ e4
        injection e3 with e3; injection e3 with e3
        subst e3 e4
        exact own_prefix henc hO (by simp)
      · have hr' := run_append_grow (P := P) w t ty0 e i z ht hi hz ⟨g, 0, none⟩ xs.length c (xs.flatMap enc) (by rw [hsize, length_flat henc]) (hown.cells (g := g) rfl) ⟨gB, 0, none⟩ 1 cB (enc y) (by rw [henc, hsize, Nat.one_mul]) hnews (by omega) (by omega) (growslice_fits (by omega) (by rw [hby]; exact hbytes))
        rw [hrun] at hr'
        injection hr' with _ e2
        rw [e2]
        exact (show Owns w.drew base e sz enc (some ⟨g, 0, none⟩) c xs from hown).alloc _
  exact .mk _ _ hrun (h _ _ w' hO hold h3 h4)
end
end Go.Proofs.Ytfbeggdbjpmppaa
namespace Go.Proofs.Ytfbeggdbjpmppaa
open Go
def tab : Tab where
  fd := [(7, [(0, 1, false), (1, 1, false), (2, 1, false), (3, 1, false)]), (8, [(0, 1, false), (1, 1, false), (2, 1, false), (3, 1, false)]), (13, [(0, 1, false), (1, 1, false)]), (14, [(0, 1, false), (1, 1, false)]), (18, [(0, 1, false)]), (19, [(0, 1, false)]), (28, [(0, 1, false), (1, 1, false), (2, 1, false), (3, 1, false)]), (29, [(0, 1, false), (1, 1, false), (2, 1, false), (3, 1, false)]), (30, [(0, 1, false), (1, 1, false), (2, 1, false), (3, 1, false), (4, 4, true), (8, 1, false)]), (31, [(0, 1, false), (1, 1, false), (2, 1, false), (3, 1, false), (4, 4, true), (8, 1, false)]), (32, [(0, 1, false), (1, 9, true)]), (33, [(0, 1, false), (1, 9, true)]), (38, [(0, 1, false), (1, 1, false), (2, 1, false), (3, 1, false), (4, 1, false), (5, 1, false), (6, 1, false)]), (39, [(0, 1, false), (1, 1, false), (2, 1, false), (3, 1, false), (4, 1, false), (5, 1, false), (6, 1, false)]), (42, [(0, 1, false), (1, 1, false), (2, 1, false)]), (43, [(0, 1, false), (1, 1, false), (2, 1, false)]), (45, [(0, 4, true), (4, 1, false)]), (46, [(0, 4, true), (4, 1, false)]), (51, [(0, 1, false), (1, 1, false), (2, 4, true), (6, 5, true), (11, 1, false)]), (52, [(0, 1, false), (1, 1, false), (2, 4, true), (6, 5, true), (11, 1, false)]), (54, [(0, 1, false), (1, 1, false), (2, 1, false), (3, 1, false), (4, 1, false)]), (55, [(0, 1, false), (1, 1, false), (2, 1, false), (3, 1, false), (4, 1, false)]), (58, [(0, 1, false), (1, 1, false), (2, 1, false), (3, 1, false), (4, 1, false)]), (59, [(0, 1, false), (1, 1, false), (2, 1, false), (3, 1, false), (4, 1, false)]), (70, [(0, 1, false), (1, 1, false), (2, 1, false), (3, 1, false), (4, 9, true)]), (71, [(0, 1, false), (1, 1, false), (2, 1, false), (3, 1, false), (4, 9, true)]), (75, [(0, 9, true), (9, 5, true), (14, 5, true), (19, 1, false), (20, 1, false), (21, 1, false)]), (76, [(0, 9, true), (9, 5, true), (14, 5, true), (19, 1, false), (20, 1, false), (21, 1, false)]), (84, [(0, 1, false), (1, 1, false), (2, 9, true)]), (85, [(0, 1, false), (1, 1, false), (2, 9, true)]), (95, [(0, 16, true), (16, 16, true), (32, 1, false), (33, 1, false), (34, 1, false), (35, 4, true)]), (96, [(0, 16, true), (16, 16, true), (32, 1, false), (33, 1, false), (34, 1, false), (35, 4, true)]), (97, [(0, 1, false), (1, 39, true)]), (98, [(0, 1, false), (1, 39, true)]), (100, [(0, 1, false), (1, 1, false), (2, 1, false), (3, 1, false), (4, 39, true), (43, 640, true), (683, 5, true)]), (101, [(0, 1, false), (1, 1, false), (2, 1, false), (3, 1, false), (4, 39, true), (43, 640, true), (683, 5, true)]), (122, [(0, 1, false), (1, 1, false), (2, 1, false), (3, 5, true), (8, 1, false), (9, 9, true), (18, 1, false)]), (123, [(0, 1, false), (1, 1, false), (2, 1, false), (3, 5, true), (8, 1, false), (9, 9, true), (18, 1, false)]), (130, [(0, 1, false), (1, 1, false), (2, 9, true)]), (135, [(0, 1, false), (1, 1, false), (2, 1, false), (3, 1, false)]), (136, [(0, 1, false), (1, 1, false), (2, 1, false), (3, 1, false)]), (138, [(0, 0, true)]), (139, [(0, 0, true)]), (148, [(0, 1, false), (1, 1, false), (2, 1, false), (3, 1, false), (4, 1, false), (5, 1, false), (6, 1, false), (7, 1, false), (8, 1, false), (9, 1, false), (10, 1, false)]), (149, [(0, 1, false), (1, 1, false), (2, 1, false), (3, 1, false), (4, 1, false), (5, 1, false), (6, 1, false), (7, 1, false), (8, 1, false), (9, 1, false), (10, 1, false)])]
  es := [(22, 5), (27, 1), (34, 10), (35, 1), (36, 1), (37, 12), (44, 3), (57, 13), (82, 11), (121, 11)]
  ar := [(83, 16, 1), (93, 16, 1), (94, 16, 1), (99, 16, 40), (137, 0, 1)]
  ik := [(2, .i64), (3, .i64), (5, .u8), (6, .u8), (12, .u64), (21, .i32), (64, .i64), (141, .u32), (142, .u8), (143, .u8), (146, .i32), (147, .i32)]
  kd := [(4, 1), (15, 2), (16, 2), (17, 2), (22, 3), (24, 2), (27, 3), (34, 3), (35, 3), (36, 3), (37, 3), (44, 3), (48, 2), (57, 3), (82, 3), (104, 2), (111, 2), (121, 3), (126, 2), (145, 2)]
  eg := [7, 8, 13, 14, 18, 19, 28, 29, 30, 31, 32, 33, 38, 39, 42, 43, 45, 46, 51, 52, 54, 55, 58, 59, 70, 71, 75, 76, 83, 84, 85, 93, 94, 95, 96, 97, 98, 99, 100, 101, 122, 123, 130, 135, 136, 137, 138, 139, 148, 149]
  bad := [0, 1, 84, 85, 86, 87, 88, 89, 90, 91, 92, 93, 94, 95, 96, 97, 98, 99, 100, 101]
set_option maxRecDepth 100000 in
theorem tab_ok : tabB Try.prog tab = true := by kernel_rfl
end Go.Proofs.Ytfbeggdbjpmppaa
namespace Go.Proofs.Ytfbeggdbjpmppaa
open Go.RowKit
def holdsI (ms : List Mb) (p i : Int) : Int := match ms.find? (fun m => decide (m.p = p ∧ m.i = i)) with
  | some m => m.c
  | none => 0
theorem holds_hit {ms : List Mb} {p i : Int} {k : Nat} {m : Mb} (h : upto (fun y => decide (y.p = p ∧ y.i = i) = false) ms k) (hm : ms[k]? = some m) (hp : m.p = p) (hi : m.i = i) : holdsI ms p i = m.c := by
  unfold holdsI; rw [find_here h hm (decide_eq_true ⟨hp, hi⟩)]
theorem holds_none {ms : List Mb} {p i : Int} {k : Nat} (h : upto (fun y => decide (y.p = p ∧ y.i = i) = false) ms k) (hk : ms.length ≤ k) : holdsI ms p i = 0 := by
  unfold holdsI
  rw [List.find?_eq_none.2 (fun x hx => by rw [upto_all h hk x hx]; decide)]
set_option maxRecDepth 100000 in
set_option maxHeartbeats 4000000 in
theorem holds_any (v : Vid) (A : Option Addr) (c N n : Nat) (ms : List Mb) (p i : Int) (w : World) (hn : ms.length = n) (hN : N ≤ w.heap.size) (hA : RowAt w N 3 eMb A ms) (l1 : n ≤ 9223372036854775807) :
    Calls Try.prog 28 #[.agg (viewA v A n c), .int .i64 p, .int .i64 i] w fun x w' => x = .returned (.int .i64 (holdsI ms p i)) ∧ Below w.heap.size w w' := by
  obtain ⟨w2, hw2⟩ : ∃ w2, w2 = w.alloc (.cells (viewA v A n c) 46) := ⟨_, rfl⟩
  have hb2 : Below w.heap.size w w2 := by rw [hw2]; exact below_box1 _ _ _
  have z2 : w2.heap.size = w.heap.size + 1 := by rw [hw2]; simp
  have v2 : ViAt w2 w.heap.size v A n c := by rw [hw2]; exact ViAt.new w v A n c 46
  obtain ⟨g0, hg0⟩ : ∃ g0, g0 = w.heap.size := ⟨_, rfl⟩
  rw [← hg0] at v2
  have k0 := v2.cm
  replace v2 := Lib.hid v2
  replace hb2 := Lib.hid hb2
  replace hw2 := Lib.hid hw2
  replace hn := Lib.hid hn
  replace hg0 := Lib.hid hg0
  go_enter Try.func28, Try.ntmps28
  go_wp2_with fail
  rw [← hw2.out, ← hg0.out]
  go_wp2_with fail
  go_loopw [7] (fun k wr => ∃ q : Nat, k = .int .i64 (q : Int) ∧ q ≤ n ∧ upto (fun y => decide (y.p = p ∧ y.i = i) = false) ms q ∧ Below w2.heap.size w2 wr) (fun k _ => n - (intOf k).toNat)
  case atStart => exact ⟨0, rfl, by omega, upto_zero _ _, Below.refl _ _⟩
  case round =>
    obtain ⟨q, rfl, hq, hup, hb⟩ := hrel
    have hzr := hb.size
    have vr := v2.out.same (hb.block _ (by have := hg0.out; omega))
    have br := Lib.hid (hb2.out.trans (hb.mono (by omega)))
    have c4 := vr.cm
    clear k0
    replace hup := Lib.hid hup
    replace vr := Lib.hid vr
    replace hb := Lib.hid hb
    by_cases hlt : q < n
    · obtain ⟨g, o, m, hAe, hg, hm, x0, x1, x2⟩ := (hA.below br.out hN).mb (show q < ms.length by rw [hn.out]; exact hlt)
      rw [hAe] at c4
      by_cases hp : m.p = p
      · have e1 : (m.p == p) = true := by simp [hp]
        by_cases hi : m.i = i
        · have e2 : (m.i == i) = true := by simp [hi]
          have hL := Lib.hid (holds_hit hup.out hm.out hp hi)
          replace hp := Lib.hid hp
          replace hi := Lib.hid hi
          go_wp2
          go_ret
          exact ⟨by rw [hL.out]; rfl, br.out⟩
        · have e2 : (m.i == i) = false := by simp [hi]
          have hup' := Lib.hid (upto_succ hup.out (fun z hz => by rw [hm.out] at hz; cases hz; exact decide_eq_false (fun e => hi e.2)))
          replace hp := Lib.hid hp
          replace hi := Lib.hid hi
          go_wp2
          go_roundw
          case rel => go_light; exact ⟨q + 1, by go_num, by omega, hup'.out, hb.out⟩
          case measure => go_light; simp [intOf]; omega
      · have e1 : (m.p == p) = false := by simp [hp]
        have hup' := Lib.hid (upto_succ hup.out (fun z hz => by rw [hm.out] at hz; cases hz; exact decide_eq_false (fun e => hp e.1)))
        replace hp := Lib.hid hp
        go_wp2
        go_roundw
        case rel => go_light; exact ⟨q + 1, by go_num, by omega, hup'.out, hb.out⟩
        case measure => go_light; simp [intOf]; omega
    · have hL := Lib.hid (holds_none hup.out (by have := hn.out; omega))
      go_wp2
      go_ret
      exact ⟨by rw [hL.out]; rfl, br.out⟩
end Go.Proofs.Ytfbeggdbjpmppaa
namespace Go.Proofs.Ytfbeggdbjpmppaa
theorem holds_of {ms : List Mb} {m : Mb} (hr : ∀ (i j : Nat) (x y : Mb), ms[i]? = some x → ms[j]? = some y → x.p = y.p → i = j) (hm : m ∈ ms) : holdsI ms m.p m.i = m.c := by
  obtain ⟨k, hk⟩ := List.mem_iff_getElem?.1 hm
  unfold holdsI
  have hf : ms.find? (fun x => decide (x.p = m.p ∧ x.i = m.i)) = some m := by
    refine find_here (k := k) (fun j y hj hy => ?_) hk (decide_eq_true ⟨rfl, rfl⟩)
    refine decide_eq_false fun e => ?_
    have := hr j k y m hy hk e.1; omega
  rw [hf]
structure Ris (s : St) : Prop where
  inv : Inv s
  rinv : RInv s
  me : nth s.own.vec s.self = s.own.cid
  cid1 : 1 ≤ s.own.cid
  has : holdsI s.mem s.self s.inc ≤ s.own.cid
  opn : s.opn = true → holdsI s.mem s.self s.inc < s.own.cid ∧ s.vid.e ≤ s.own.top
structure Up (s t : St) : Prop where
  n : t.n = s.n
  self : t.self = s.self
  inc : t.inc = s.inc
  vid : t.vid = s.vid
  mem : t.mem = s.mem
  own : t.own = s.own ∨ (s.own.cid ≤ t.own.cid ∧ t.own.rev = s.own.rev + 1 ∧ (t.own.cid ≠ s.own.cid ∨ t.own.vec ≠ s.own.vec))
theorem Up.refl (s : St) : Up s s := ⟨rfl, rfl, rfl, rfl, rfl, .inl rfl⟩
theorem heard_me {s : St} (h : Inv s) : nth s.heard s.self = s.own.cid := by
  rw [nth_heard (by have := h.self; have := h.n2; omega)]
  unfold St.vecAt; rw [if_pos rfl]
theorem begin_up (s : St) (x : List Int) : Up s (s.begin_ x) := ⟨rfl, rfl, rfl, rfl, rfl, .inr ⟨by show _ ≤ s.own.cid + 1; omega, rfl, .inl (by show s.own.cid + 1 ≠ _; omega)⟩⟩
theorem begin_ris {s : St} {x : List Int} (h : Ris s) (hs : s.spent = false) (hi : Inv (s.begin_ x)) (hr : RInv (s.begin_ x)) : Ris (s.begin_ x) := by
  have hb : nth (s.begin_ x).own.vec (s.begin_ x).self = (s.begin_ x).own.cid := by
    show nth (s.beg1 x).heard (s.beg1 x).self = (s.beg1 x).own.cid
    rw [nth_heard (by have := h.inv.self; have := h.inv.n2; show s.self < 16; omega)]
    unfold St.vecAt; rw [if_pos rfl]
  have hc := h.cid1
  have hh := h.has
  refine ⟨hi, hr, hb, by show 1 ≤ s.own.cid + 1; omega, by show holdsI s.mem s.self s.inc ≤ s.own.cid + 1; omega, fun _ => ⟨by show holdsI s.mem s.self s.inc < s.own.cid + 1; omega, ?_⟩⟩
  show s.vid.e ≤ if s.vid = Vid.zero then s.own.top else s.vid.e
  split
  · rename_i e; rw [e]; have := h.inv.own.top; show (0 : Int) ≤ _; omega
  · exact Int.le_refl _
theorem estimate_ris {s : St} (h : Ris s) (l : List Int) : Ris (s.estimate l).2.2 ∧ Up s (s.estimate l).2.2 := by
  have hi := estimate_inv h.inv l
  have hr := estimate_rinv h.rinv h.inv l
  unfold St.estimate at hi hr ⊢
  split
  · exact ⟨h, Up.refl s⟩
  · rename_i h1
    rw [if_neg h1] at hi hr
    split
    · exact ⟨h, Up.refl s⟩
    · rename_i h2
      rw [if_neg h2] at hi hr
      split
      · exact ⟨h, Up.refl s⟩
      · rename_i h3
        rw [if_neg h3] at hi hr
        exact ⟨begin_ris h (by simpa using h3) hi hr, begin_up s _⟩
theorem put_ris {s : St} (h : Ris s) {q : Nat} {inc : Int} {w : Wish} (hi : Inv (s.put q inc w)) (hr : RInv (s.put q inc w)) : Ris (s.put q inc w) := ⟨hi, hr, h.me, h.cid1, h.has, h.opn⟩
theorem put_up (s : St) (q : Nat) (inc : Int) (w : Wish) : Up s (s.put q inc w) := ⟨rfl, rfl, rfl, rfl, rfl, .inl rfl⟩
theorem take_ris {s : St} (h : Ris s) (q inc : Int) (p : Pr) : Ris (s.take q inc p).2.2 ∧ Up s (s.take q inc p).2.2 := by
  have hi := take_inv h.inv q inc p
  have hr := take_rinv h.rinv h.inv q inc p
  unfold St.take at hi hr ⊢
  split
  · exact ⟨h, Up.refl s⟩
  · rename_i h1
    rw [if_neg h1] at hi hr
    split
    · exact ⟨h, Up.refl s⟩
    · rename_i h2
      rw [if_neg h2] at hi hr
      split
      · exact ⟨h, Up.refl s⟩
      · rename_i h3
        rw [if_neg h3] at hi hr
        split
        · exact ⟨h, Up.refl s⟩
        · rename_i h4
          rw [if_neg h4] at hi hr
          have hp : Inv (s.put q.toNat inc p.wish) := put_inv h.inv (good_wish h.inv.n2 (by simpa using h2))
          have hpr : RInv (s.put q.toNat inc p.wish) := put_rinv h.rinv h.inv.oth (by have := h.inv.n2; omega) (by omega)
          have hP := put_ris h hp hpr
          dsimp only at hi hr ⊢
          split
          · rename_i h5
            rw [if_pos h5] at hi hr
            split
            · exact ⟨hP, put_up s _ _ _⟩
            · rename_i h6
              rw [if_neg h6] at hi hr
              split
              · rename_i h7
                rw [if_pos h7] at hi hr
                exact ⟨⟨hi, hr, heard_me hp, h.cid1, h.has, h.opn⟩, ⟨rfl, rfl, rfl, rfl, rfl, .inr ⟨Int.le_refl _, rfl, .inr h6⟩⟩⟩
              · exact ⟨h, Up.refl s⟩
          · rename_i h5
            rw [if_neg h5] at hi hr
            split
            · exact ⟨hP, put_up s _ _ _⟩
            · rename_i h6
              rw [if_neg h6] at hi hr
              split
              · exact ⟨h, Up.refl s⟩
              · rename_i h7
                rw [if_neg h7] at hi hr
                exact ⟨begin_ris hP (by simpa using h7) hi hr, ⟨rfl, rfl, rfl, rfl, rfl, .inr ⟨by show s.own.cid ≤ s.own.cid + 1; omega, rfl, .inl (by show s.own.cid + 1 ≠ s.own.cid; omega)⟩⟩⟩
theorem agTo_self {s : St} (h : Inv s) : ∀ {k : Nat} {a : Ag}, s.self < k → s.agTo k = some a → (⟨s.self, s.inc, nth s.own.vec s.self⟩ : Mb) ∈ a.mem ∧ (s.self : Int) ∈ a.trans
  | 0, a, hk, e => by omega
  | k + 1, a, hk, e => by
    rw [St.agTo] at e
    obtain ⟨b, hb, hs⟩ := Option.bind_eq_some_iff.1 e
    unfold St.agStep at hs
    by_cases e2 : s.self = k
    · subst e2
      rw [if_neg (by rw [h.me]; have := h.inc1; omega)] at hs
      split at hs
      · cases hs
      · cases hs
        refine ⟨List.mem_append_right _ (by rw [h.me]; exact List.mem_singleton.2 rfl), ?_⟩
        dsimp only
        rw [if_pos (.inl rfl)]
        exact List.mem_append_right _ (List.mem_singleton.2 rfl)
    · have ih := agTo_self h (by omega) hb
      split at hs
      · cases hs; exact ih
      · split at hs
        · cases hs
        · cases hs
          refine ⟨List.mem_append_left _ ih.1, ?_⟩
          dsimp only
          split
          · exact List.mem_append_left _ ih.2
          · exact ih.2
theorem vid_e {a : Ag} (h : a.mem ≠ []) : a.vid.e = a.top + 1 := by
  unfold Ag.vid
  split
  · rfl
  · rename_i e; exact absurd e h
theorem install_ris {s : St} (h : Ris s) {a : Ag} (ha : s.agreed = some a) :
    Ris s.install ∧ s.vid.e < a.vid.e ∧ holdsI a.mem s.self s.inc = s.own.cid ∧ holdsI s.mem s.self s.inc < s.own.cid ∧ 0 < a.trans.length ∧ s.install.vid = a.vid ∧ s.install.mem = a.mem ∧ s.install.own = s.own ∧ s.install.opn = false ∧ s.install.n = s.n ∧ s.install.self = s.self ∧ s.install.inc = s.inc := by
  have hin : s.install = { s with vid := a.vid, mem := a.mem, opn := false } := by unfold St.install; rw [ha]
  have hi := install_inv h.inv
  have hr := install_rinv h.rinv h.inv
  have hop : s.opn = true := by
    unfold St.agreed at ha
    split at ha
    · assumption
    · cases ha
  have hag : s.agTo s.n = some a := by
    unfold St.agreed at ha
    rw [if_pos hop] at ha; exact ha
  obtain ⟨m1, m2⟩ := agTo_self h.inv h.inv.self hag
  have hrise := (agTo_rise hag).2
  have hhold : holdsI a.mem s.self s.inc = s.own.cid := by
    have := holds_of hrise m1
    rw [h.me] at this; exact this
  obtain ⟨o1, o2⟩ := h.opn hop
  have hge := agTo_ge hag
  have hne : a.mem ≠ [] := List.ne_nil_of_mem m1
  have hE := vid_e hne
  rw [hin] at hi hr ⊢
  refine ⟨⟨hi, hr, h.me, h.cid1, ?_, fun e => by cases e⟩, by omega, hhold, o1, List.length_pos_of_mem m2, rfl, rfl, rfl, rfl, rfl, rfl, rfl⟩
  show holdsI a.mem s.self s.inc ≤ s.own.cid
  rw [hhold]; exact Int.le_refl _
theorem nth_set_self {l : List Int} {i : Nat} {v : Int} (h : i < l.length) : nth (l.set i v) i = v := by unfold nth; rw [List.getElem?_set_self h]; rfl
theorem new_ris {n self : Nat} {inc floor : Int} (h : newB n self inc floor = true) (hf : floor ≠ 4611686018427387904) : Ris (newSt n self inc floor) := by
  have hi := new_inv h hf
  have hr := new_rinv h hf
  unfold newB at h
  simp only [decide_eq_true_eq] at h
  exact ⟨hi, hr, nth_set_self (by rw [len_zeros]; omega), by show 1 ≤ floor + 1; omega, by show (0 : Int) ≤ floor + 1; omega, fun _ => ⟨by show (0 : Int) < floor + 1; omega, by show (0 : Int) ≤ floor; omega⟩⟩
end Go.Proofs.Ytfbeggdbjpmppaa
namespace Go.Proofs.Ytfbeggdbjpmppaa
def St.out (s : St) : Pr := ⟨s.own.set.take s.n, s.own.cid, s.own.rev, s.own.top, s.own.prev, s.own.vec.take s.n⟩
end Go.Proofs.Ytfbeggdbjpmppaa
namespace Go.Proofs.Ytfbeggdbjpmppaa
def Hrd (s : St) : Prop := s.opn = true → s.own.vec = s.heard
theorem begin_hrd (s : St) (x : List Int) : Hrd (s.begin_ x) := fun _ => rfl
theorem take_hrd {s : St} (h : Hrd s) (q inc : Int) (p : Pr) : Hrd (s.take q inc p).2.2 := by
  unfold St.take
  split
  · exact h
  · split
    · exact h
    · split
      · exact h
      · split
        · exact h
        · dsimp only
          split
          · split
            · rename_i h6
              exact fun _ => h6.symm
            · split
              · exact fun _ => rfl
              · exact h
          · rename_i h5
            split
            · exact fun e => absurd e h5
            · split
              · exact h
              · exact begin_hrd _ _
theorem install_hrd {s : St} (h : Hrd s) : Hrd s.install := by
  unfold St.install
  split
  · exact fun e => by cases e
  · exact h
theorem new_hrd {n self : Nat} {inc floor : Int} (h : newB n self inc floor = true) : Hrd (newSt n self inc floor) := fun _ => by
  unfold newB at h
  simp only [decide_eq_true_eq] at h
  show zeros.set self (floor + 1) = (newSt n self inc floor).heard
  unfold St.heard
  apply List.ext_getElem?
  intro j
  by_cases hj : j < 16
  · rw [List.getElem?_map, List.getElem?_range hj]
    have hlt : (newSt n self inc floor).lt j = Lt.zero := by
      show (List.replicate 16 Lt.zero)[j]?.getD Lt.zero = _
      rw [List.getElem?_replicate]; split <;> rfl
    by_cases e : self = j
    · subst e
      rw [List.getElem?_set_self (by rw [len_zeros]; exact hj)]
      show _ = some ((newSt n self inc floor).vecAt self)
      unfold St.vecAt
      rw [if_pos (show self = (newSt n self inc floor).self from rfl)]; rfl
    · rw [List.getElem?_set_ne e]
      show zeros[j]? = some ((newSt n self inc floor).vecAt j)
      unfold St.vecAt
      rw [if_neg (fun e2 => e e2.symm), if_neg (by rintro ⟨_, h2⟩; unfold St.matB at h2; rw [hlt] at h2; simp [Lt.zero] at h2)]
      unfold zeros
      rw [List.getElem?_replicate, if_pos hj]
  · rw [List.getElem?_eq_none (by rw [List.length_set, len_zeros]; omega), List.getElem?_eq_none (by simp; omega)]
end Go.Proofs.Ytfbeggdbjpmppaa
namespace Go.Proofs.Ytfbeggdbjpmppaa
open Go Go.RowKit
theorem range_sub {w : World} {b o n : Nat} {l m : List Value} (h : w.rangeAt b o l) (k : Nat) (hk : (l.drop k).take n = m) : w.rangeAt b (o + k) m := fun j u hu => by
  rw [Nat.add_assoc]
  refine h (k + j) u ?_
  rw [← hk, List.getElem?_take, List.getElem?_drop] at hu
  split at hu
  · exact hu
  · cases hu
theorem flatk_take {α : Type} {enc : α → List Value} {sz : Nat} (hsz : ∀ x, (enc x).length = sz) : ∀ (l : List α) (k : Nat), (l.flatMap enc).take (k * sz) = (l.take k).flatMap enc
  | [], k => by simp
  | x :: l, 0 => by simp
  | x :: l, k + 1 => by
    rw [List.flatMap_cons, List.take_succ_cons, List.flatMap_cons, ← flatk_take hsz l k, List.take_append, hsz, show (k + 1) * sz - sz = k * sz by rw [Nat.add_mul]; omega, List.take_of_length_le (by rw [hsz, Nat.add_mul]; omega)]
theorem flatk_drop {α : Type} {enc : α → List Value} {sz : Nat} (hsz : ∀ x, (enc x).length = sz) : ∀ (l : List α) (k : Nat), (l.flatMap enc).drop (k * sz) = (l.drop k).flatMap enc
  | [], k => by simp
  | x :: l, 0 => by simp
  | x :: l, k + 1 => by
    rw [List.flatMap_cons, List.drop_succ_cons, ← flatk_drop hsz l k, List.drop_append, hsz, show (k + 1) * sz - sz = k * sz by rw [Nat.add_mul]; omega, List.drop_eq_nil_of_le (by rw [hsz, Nat.add_mul]; omega)]; rfl
theorem stored_sets {base g n c sz : Nat} {e : TypeId} : ∀ (vs xs : List Value) (o : Nat) (w : World), w.ownsRow base e sz (.slice (some ⟨g, 0, none⟩) n c) n xs → o + vs.length ≤ xs.length → (w.setCells g o vs).ownsRow base e sz (.slice (some ⟨g, 0, none⟩) n c) n (xs.take o ++ vs ++ xs.drop (o + vs.length))
  | [], xs, o, w, h, _ => by simpa [World.setCells] using h
  | v :: vs, xs, o, w, h, hl => by
    rw [List.length_cons] at hl
    have h1 := (World.ownsRow.stored h o v).1
    have := stored_sets vs (xs.set o v) (o + 1) (w.setCell ⟨g, o, none⟩ v) h1 (by rw [List.length_set]; omega)
    have e : xs.take o ++ v :: vs ++ xs.drop (o + (v :: vs).length) = (xs.set o v).take (o + 1) ++ vs ++ (xs.set o v).drop (o + 1 + vs.length) := by
      rw [List.length_cons, List.take_add_one, List.getElem?_set_self (by omega), List.take_set_of_le (Nat.le_refl _), List.drop_set_of_lt (by omega)]
      simp [Nat.add_assoc, Nat.add_comm 1]
    rw [World.setCells, e]
    exact this
theorem Owns.same {α : Type} {w w' : World} {base sz c : Nat} {e : TypeId} {enc : α → List Value} {A : Option Addr} {l : List α} (h : Owns w base e sz enc A c l) (hb : ∀ g, blk A = some g → w'.heap[g]? = w.heap[g]?) : Owns w' base e sz enc A c l := by
  refine ⟨h.1, ?_⟩
  rcases h.2 with h2 | ⟨g, cap, cur, hv, h3, h4, h5⟩
  · exact .inl h2
  · injection hv with e1 e2 e3
    subst e1; subst e3
    exact .inr ⟨g, c, cur, rfl, h3, (hb g rfl).trans h4, h5⟩
theorem Owns.sets {α : Type} {w : World} {base g c k sz : Nat} {e : TypeId} {enc : α → List Value} {l : List α} (h : Owns w base e sz enc (some ⟨g, 0, none⟩) c l) (hsz : ∀ x, (enc x).length = sz) (hk : k < l.length) (x : α) : Owns (w.setCells g (k * sz) (enc x)) base e sz enc (some ⟨g, 0, none⟩) c (l.set k x) := by
  have hl := length_flat hsz l
  have hm : (k + 1) * sz ≤ l.length * sz := Nat.mul_le_mul_right _ hk
  have := stored_sets (enc x) (l.flatMap enc) (k * sz) w h (by rw [hl, hsz, ← Nat.succ_mul]; exact hm)
  have e : (l.set k x).flatMap enc = (l.flatMap enc).take (k * sz) ++ enc x ++ (l.flatMap enc).drop (k * sz + (enc x).length) := by
    rw [hsz, ← Nat.succ_mul, flatk_take hsz, flatk_drop hsz]
    have e2 : (l.set k x).flatMap enc = ((l.set k x).take k ++ (l.set k x).drop k).flatMap enc := by rw [List.take_append_drop]
    rw [e2, List.flatMap_append, List.take_set_of_le (Nat.le_refl _), List.drop_eq_getElem_cons (by rw [List.length_set]; exact hk), List.flatMap_cons, List.getElem_set_self, List.drop_set_of_lt (by omega), List.append_assoc]
  unfold Owns
  rw [List.length_set, e]
  exact this
theorem Owns.cell {α : Type} {w : World} {base c sz : Nat} {e : TypeId} {enc : α → List Value} {A : Option Addr} {l : List α} (h : Owns w base e sz enc A c l) (hsz : ∀ x, (enc x).length = sz) {k : Nat} {x : α} (hx : l[k]? = some x) : ∃ g, A = some ⟨g, 0, none⟩ ∧ w.rangeAt g (k * sz) (enc x) := by
  have hl : 0 < l.length := by have := (List.getElem?_eq_some_iff.1 hx).1; omega
  obtain ⟨g, cap, hv, _, _⟩ := World.ownsRow.form h hl
  have hA : A = some ⟨g, 0, none⟩ := by injection hv
  subst hA
  refine ⟨g, rfl, fun j u hu => ?_⟩
  have hu' := flatMap_at hsz l k j x u hx hu
  rw [World.ownsRow.cellAt h (k * sz + j) (by rw [← length_flat hsz l]; exact (List.getElem?_eq_some_iff.1 hu').1), ← hu']
section
variable {α : Type} {w : World} {base sz c : Nat} {e : TypeId} {enc : α → List Value} {A : Option Addr} {l : List α}
end
end Go.Proofs.Ytfbeggdbjpmppaa
namespace Go.Proofs.Ytfbeggdbjpmppaa
def Bef (a b : Lt) : Prop := a.inc = b.inc → a.w.rev < b.w.rev ∧ a.w.cid ≤ b.w.cid ∧ (a.w.cid = b.w.cid → a.w.set = b.w.set ∧ a.w.top = b.w.top ∧ a.w.prev = b.w.prev ∧ ∀ q, nth a.w.vec q ≠ 0 → nth b.w.vec q ≠ 0 → nth a.w.vec q ≤ nth b.w.vec q)
theorem pw_two {α : Type} {R : α → α → Prop} : ∀ {l : List α}, l.Pairwise R → ∀ {a b : α}, a ∈ l → b ∈ l → a = b ∨ R a b ∨ R b a
  | [], _, a, b, ha, _ => absurd ha (by simp)
  | x :: l, h, a, b, ha, hb => by
    obtain ⟨h1, h2⟩ := List.pairwise_cons.1 h
    rcases List.mem_cons.1 ha with ea | ha
    · rcases List.mem_cons.1 hb with eb | hb
      · exact .inl (ea.trans eb.symm)
      · exact .inr (.inl (ea ▸ h1 b hb))
    · rcases List.mem_cons.1 hb with eb | hb
      · exact .inr (.inr (eb ▸ h1 a ha))
      · exact pw_two h2 ha hb
structure EI (n i : Nat) (e : Lt) : Prop where
  inc1 : 1 ≤ e.inc
  cid1 : 1 ≤ e.w.cid
  rev1 : 1 ≤ e.w.rev
  me : nth e.w.set i = e.inc
  mev : nth e.w.vec i = e.w.cid
  ok : WOk e.w
  pset : e.w.set = pad (e.w.set.take n)
  pvec : e.w.vec = pad (e.w.vec.take n)
  pval : validB e.w.prev n = true
structure NI (E : Nat → List Lt) (n : Nat) (fl : Int) (i : Nat) (s : St) : Prop where
  self : s.self = i
  last : (E i).getLast? = some ⟨s.inc, s.own⟩
  each : ∀ e ∈ E i, EI n i e ∧ e.inc ≤ s.inc
  pw : (E i).Pairwise Bef
  src : ∀ e ∈ E i, ∀ q, nth e.w.vec q ≠ 0 → ∃ x ∈ E q, x.inc = nth e.w.set q ∧ x.w.set = e.w.set ∧ x.w.cid = nth e.w.vec q
  kn : ∀ q, (s.lt q).inc ≠ 0 → s.lt q ∈ E q
  low : ∀ e ∈ E i, e.inc = s.inc → ∀ q, q ≠ i → nth e.w.vec q ≠ 0 → nth e.w.set q < (s.lt q).inc ∨ (nth e.w.set q = (s.lt q).inc ∧ nth e.w.vec q ≤ (s.lt q).w.cid)
  pv : s.vid = Vid.zero ∨ s.opn = true → s.own.prev = s.vid
  vz : s.vid = Vid.zero ∨ fl < s.vid.e
  ft : fl ≤ s.own.top
  vval : validB s.vid n = true
def addE (E : Nat → List Lt) (i : Nat) (y : Lt) : Nat → List Lt := fun k => if k = i then E i ++ [y] else E k
theorem addE_same (E : Nat → List Lt) (i : Nat) (y : Lt) : addE E i y i = E i ++ [y] := if_pos rfl
theorem addE_ne (E : Nat → List Lt) {i k : Nat} (y : Lt) (h : k ≠ i) : addE E i y k = E k := if_neg h
theorem addE_mono {E : Nat → List Lt} {i : Nat} {y x : Lt} {k : Nat} (h : x ∈ E k) : x ∈ addE E i y k := by
  unfold addE; split
  · rename_i e; subst e; exact List.mem_append_left _ h
  · exact h
theorem addE_new (E : Nat → List Lt) (i : Nat) (y : Lt) : y ∈ addE E i y i := by rw [addE_same]; exact List.mem_append_right _ (List.mem_singleton.2 rfl)
structure EG (E : Nat → List Lt) : Prop where
  pw : ∀ k, (E k).Pairwise Bef
  inc1 : ∀ k, ∀ x ∈ E k, 1 ≤ x.inc
section
variable {E : Nat → List Lt} {n : Nat} {fl : Int} {i j : Nat} {s : St}
theorem NI.other (h : NI E n fl j s) (y : Lt) (hij : j ≠ i) : NI (addE E i y) n fl j s := by
  have e := addE_ne E y hij
  refine ⟨h.self, by rw [e]; exact h.last, by rw [e]; exact h.each, by rw [e]; exact h.pw, ?_, fun q hq => addE_mono (h.kn q hq), by rw [e]; exact h.low, h.pv, h.vz, h.ft, h.vval⟩
  rw [e]
  intro x hx q hq
  obtain ⟨z, hz, r⟩ := h.src x hx q hq
  exact ⟨z, addE_mono hz, r⟩
theorem pw_last {l : List Lt} {y : Lt} (h : l.getLast? = some y) (hp : l.Pairwise Bef) {a : Lt} (ha : a ∈ l) : a = y ∨ Bef a y := by
  obtain ⟨l', rfl⟩ := List.getLast?_eq_some_iff.1 h
  rcases List.mem_append.1 ha with ha | ha
  · exact .inr ((List.pairwise_append.1 hp).2.2 a ha y (List.mem_singleton.2 rfl))
  · exact .inl (List.mem_singleton.1 ha)
theorem NI.here (h : NI E n fl i s) : (⟨s.inc, s.own⟩ : Lt) ∈ E i := List.mem_of_getLast? h.last
theorem NI.upto (h : NI E n fl i s) {e : Lt} (he : e ∈ E i) (hi : e.inc = s.inc) : e.w.rev ≤ s.own.rev ∧ e.w.cid ≤ s.own.cid ∧ (e.w.rev = s.own.rev → e = ⟨s.inc, s.own⟩) := by
  rcases pw_last h.last h.pw he with rfl | hb
  · exact ⟨Int.le_refl _, Int.le_refl _, fun _ => rfl⟩
  · have := hb hi
    exact ⟨by have := this.1; simp only at this; omega, this.2.1, fun e2 => by have := this.1; simp only at this; omega⟩
theorem NI.put (h : NI E n fl i s) (g : EG E) (hs : s.oth.length = 16) {q : Nat} (hq : q < 16) {x : Lt} (hx : x ∈ E q) (h1 : ¬ x.inc < (s.lt q).inc) (h2 : ¬ ((s.lt q).inc = x.inc ∧ x.w.rev ≤ (s.lt q).w.rev)) : NI E n fl i (s.put q x.inc x.w) := by
  have hlt : ∀ r, (s.put q x.inc x.w).lt r = if r = q then x else s.lt r := fun r => lt_put (by omega)
  refine ⟨h.self, h.last, h.each, h.pw, h.src, fun r hr => ?_, fun e he hi r hr hv => ?_, h.pv, h.vz, h.ft, h.vval⟩
  · rw [hlt] at hr ⊢
    split at hr
    · rename_i e; subst e; rw [if_pos rfl]; exact hx
    · rename_i e; rw [if_neg e]; exact h.kn r hr
  · rw [hlt]
    split
    · rename_i e2; subst e2
      rcases h.low e he hi r hr hv with h3 | ⟨h3, h4⟩
      · left; omega
      · by_cases h5 : (s.lt r).inc = x.inc
        · right
          refine ⟨h3.trans h5, ?_⟩
          obtain ⟨z, hz, z1, -⟩ := h.src e he r hv
          have hpos : (s.lt r).inc ≠ 0 := by have := g.inc1 r z hz; omega
          have hold := h.kn r hpos
          rcases pw_two (g.pw r) hold hx with e3 | hb | hb
          · exact absurd ⟨h5, by rw [e3]; exact Int.le_refl _⟩ h2
          · exact Int.le_trans h4 (hb h5).2.1
          · exact absurd ⟨h5, Int.le_of_lt (hb h5.symm).1⟩ h2
        · left; omega
    · exact h.low e he hi r hr hv
theorem NI.push (h : NI E n fl i s) {s' : St} (hself : s'.self = s.self) (hinc : s'.inc = s.inc) (hei : EI n i ⟨s'.inc, s'.own⟩)
    (hrev : s.own.rev < s'.own.rev) (hcid : s.own.cid ≤ s'.own.cid)
    (hsame : s'.own.cid = s.own.cid → s.own.set = s'.own.set ∧ s.own.top = s'.own.top ∧ s.own.prev = s'.own.prev)
    (hlt : ∀ q, s'.lt q = s.lt q) (hvec : ∀ q, q ≠ i → nth s'.own.vec q ≠ 0 → (s.lt q).inc ≠ 0 ∧ (s.lt q).inc = nth s'.own.set q ∧ (s.lt q).w.set = s'.own.set ∧ (s.lt q).w.cid = nth s'.own.vec q)
    (hpv : s'.vid = Vid.zero ∨ s'.opn = true → s'.own.prev = s'.vid) (hvz : s'.vid = Vid.zero ∨ fl < s'.vid.e) (hft : fl ≤ s'.own.top) (hvv : validB s'.vid n = true) : NI (addE E i ⟨s'.inc, s'.own⟩) n fl i s' := by
  have e := addE_same E i ⟨s'.inc, s'.own⟩
  refine ⟨hself.trans h.self, by rw [e]; simp, fun a ha => ?_, ?_, fun a ha q hq => ?_, fun q hq => by rw [hlt] at hq ⊢; exact addE_mono (h.kn q hq), fun a ha hi q hq hv => ?_, hpv, hvz, hft, hvv⟩
  · rw [e] at ha
    rcases List.mem_append.1 ha with ha | ha
    · rw [hinc]; exact h.each a ha
    · rw [List.mem_singleton.1 ha]; exact ⟨hei, Int.le_refl _⟩
  · rw [e]
    refine List.pairwise_append.2 ⟨h.pw, List.pairwise_singleton _ _, fun a ha b hb => ?_⟩
    rw [List.mem_singleton.1 hb]
    intro hi
    have hi' : a.inc = s.inc := hi.trans hinc
    obtain ⟨u1, u2, -⟩ := h.upto ha hi'
    refine ⟨by show a.w.rev < s'.own.rev; omega, by show a.w.cid ≤ s'.own.cid; omega, fun hc => ?_⟩
    have hc' : a.w.cid = s'.own.cid := hc
    obtain ⟨p1, p2, p3⟩ := hsame (by omega)
    have hold : a.w.set = s.own.set ∧ a.w.top = s.own.top ∧ a.w.prev = s.own.prev := by
      rcases pw_last h.last h.pw ha with rfl | hb2
      · exact ⟨rfl, rfl, rfl⟩
      · have := (hb2 hi').2.2 (by show a.w.cid = s.own.cid; omega)
        exact ⟨this.1, this.2.1, this.2.2.1⟩
    refine ⟨hold.1.trans p1, hold.2.1.trans p2, hold.2.2.trans p3, fun q hq1 hq2 => ?_⟩
    by_cases hqi : q = i
    · have m1 := (h.each a ha).1.mev
      have m2 := hei.mev
      rw [hqi, m1]
      show _ ≤ nth s'.own.vec i
      have m2' : nth s'.own.vec i = s'.own.cid := m2
      omega
    · obtain ⟨v0, v1, v2, v3⟩ := hvec q hqi hq2
      have hse : a.w.set = s'.own.set := hold.1.trans p1
      rcases h.low a ha hi' q hqi hq1 with l1 | ⟨l1, l2⟩
      · rw [hse] at l1; omega
      · show _ ≤ nth s'.own.vec q
        omega
  · rw [e] at ha
    rcases List.mem_append.1 ha with ha | ha
    · obtain ⟨z, hz, r⟩ := h.src a ha q hq
      exact ⟨z, addE_mono hz, r⟩
    · rw [List.mem_singleton.1 ha] at hq ⊢
      by_cases hqi : q = i
      · subst hqi
        exact ⟨_, addE_new E q ⟨s'.inc, s'.own⟩, hei.me.symm, rfl, hei.mev.symm⟩
      · obtain ⟨v0, v1, v2, v3⟩ := hvec q hqi hq
        exact ⟨s.lt q, addE_mono (h.kn q v0), v1, v2, v3⟩
  · rw [e] at ha
    rw [hlt]
    rcases List.mem_append.1 ha with ha | ha
    · exact h.low a ha (hi.trans hinc) q hq hv
    · rw [List.mem_singleton.1 ha] at hv ⊢
      obtain ⟨v0, v1, v2, v3⟩ := hvec q hq hv
      exact .inr ⟨v1.symm, by show nth s'.own.vec q ≤ _; omega⟩
theorem heard_src {t : St} {q : Nat} (hq : q ≠ t.self) (h : nth t.heard q ≠ 0) : (t.lt q).inc ≠ 0 ∧ (t.lt q).inc = nth t.own.set q ∧ (t.lt q).w.set = t.own.set ∧ (t.lt q).w.cid = nth t.heard q := by
  by_cases h16 : q < 16
  · rw [nth_heard h16] at h ⊢
    unfold St.vecAt at h ⊢
    rw [if_neg hq] at h ⊢
    split at h
    · rename_i e
      rw [if_pos e]
      have := e.2; unfold St.matB at this; simp only [decide_eq_true_eq] at this
      exact ⟨this.1, this.2.1, this.2.2, rfl⟩
    · exact absurd rfl h
  · exact absurd (nth_over (by rw [len_heard]; omega)) h
theorem EI.of {t : St} (h : Ris t) (hn : t.n = n) (hs : t.self = i) (hv : validB t.own.prev n = true) (hr : 1 ≤ t.own.rev) : EI n i ⟨t.inc, t.own⟩ := by
  subst hn; subst hs
  exact ⟨h.inv.inc1, h.cid1, hr, h.inv.me, h.me, h.inv.own, h.rinv.set, h.rinv.vec, hv⟩
theorem NI.begin_ (h : NI E n fl i s) (hn : s.n = n) {x : List Int} (hr : Ris (s.begin_ x)) : NI (addE E i ⟨(s.begin_ x).inc, (s.begin_ x).own⟩) n fl i (s.begin_ x) := by
  have hprev : (s.begin_ x).own.prev = s.vid := by
    show (if s.vid = Vid.zero then s.own.prev else s.vid) = s.vid
    split
    · rename_i e; exact h.pv (.inl e)
    · rfl
  refine h.push rfl rfl (EI.of hr hn h.self (by rw [hprev]; exact h.vval) (by have : 1 ≤ s.own.rev := (h.each _ h.here).1.rev1; show 1 ≤ s.own.rev + 1; omega)) (by show s.own.rev < s.own.rev + 1; omega) (by show s.own.cid ≤ s.own.cid + 1; omega) (fun e => by have e' : s.own.cid + 1 = s.own.cid := e; omega) (fun _ => rfl) (fun q hq hv => ?_) (fun _ => hprev) h.vz ?_ h.vval
  · exact heard_src (t := s.beg1 x) (by show q ≠ s.self; rw [h.self]; exact hq) hv
  · show fl ≤ if s.vid = Vid.zero then s.own.top else s.vid.e
    split
    · exact h.ft
    · rename_i e; rcases h.vz with e2 | e2
      · exact absurd e2 e
      · omega
theorem NI.vec (h : NI E n fl i s) (hn : s.n = n) (ho : s.opn = true) {t : St} (ht : t = { s with own := { s.own with vec := s.heard, rev := s.own.rev + 1 } }) (hr : Ris t) : NI (addE E i ⟨t.inc, t.own⟩) n fl i t := by
  subst ht
  refine h.push rfl rfl (EI.of hr hn h.self (h.each _ h.here).1.pval (by have : 1 ≤ s.own.rev := (h.each _ h.here).1.rev1; show 1 ≤ s.own.rev + 1; omega)) (by show s.own.rev < s.own.rev + 1; omega) (Int.le_refl _) (fun _ => ⟨rfl, rfl, rfl⟩) (fun _ => rfl) (fun q hq hv => ?_) (fun _ => h.pv (.inr ho)) h.vz h.ft h.vval
  exact heard_src (t := s) (by rw [h.self]; exact hq) hv
end
end Go.Proofs.Ytfbeggdbjpmppaa
