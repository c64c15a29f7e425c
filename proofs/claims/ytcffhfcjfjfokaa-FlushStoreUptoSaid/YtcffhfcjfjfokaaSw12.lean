/- Tab KeepApp EngA RTake, joined. -/
import Derived.Test.YtcffhfcjfjfokaaProg
import Derived.Deep.MidRow
import Derived.Deep.WholeRow
import Derived.IntWalk
import Derived.Test.YtcffhfcjfjfokaaSw1
import Derived.Test.YtcffhfcjfjfokaaSw5
import Derived.Test.YtcffhfcjfjfokaaSw6
import Derived.Test.YtcffhfcjfjfokaaSw10
import Derived.Test.YtcffhfcjfjfokaaSw11
set_option linter.unusedVariables false
set_option linter.unusedSimpArgs false
/- What the table of types tells of this program, as the reckoning asks it. -/
namespace Go.Proofs.Ytcffhfcjfjfokaa
open Go
def tab : Tab where
  fd := [(7, [(0, 1, false), (1, 1, false), (2, 1, false), (3, 1, false)]), (8, [(0, 1, false), (1, 1, false), (2, 1, false), (3, 1, false)]), (13, [(0, 1, false), (1, 1, false)]), (14, [(0, 1, false), (1, 1, false)]), (18, [(0, 1, false)]), (19, [(0, 1, false)]), (34, [(0, 1, false), (1, 1, false), (2, 1, false), (3, 1, false)]), (35, [(0, 1, false), (1, 1, false), (2, 1, false), (3, 1, false)]), (38, [(0, 4, true), (4, 1, false), (5, 1, false), (6, 1, false)]), (39, [(0, 4, true), (4, 1, false), (5, 1, false), (6, 1, false)]), (41, [(0, 1, false), (1, 7, true), (8, 1, false), (9, 1, false), (10, 1, false), (11, 1, false), (12, 1, false)]), (42, [(0, 1, false), (1, 7, true), (8, 1, false), (9, 1, false), (10, 1, false), (11, 1, false), (12, 1, false)]), (53, [(0, 1, false), (1, 1, false), (2, 1, false), (3, 1, false)]), (54, [(0, 1, false), (1, 1, false), (2, 1, false), (3, 1, false)]), (56, [(0, 7, true), (7, 1, false), (8, 1, false)]), (57, [(0, 7, true), (7, 1, false), (8, 1, false)]), (65, [(0, 1, false), (1, 1, false)]), (66, [(0, 1, false), (1, 1, false)]), (67, [(0, 1, false), (1, 1, false), (2, 1, false), (3, 1, false), (4, 1, false), (5, 1, false)]), (68, [(0, 1, false), (1, 1, false), (2, 1, false), (3, 1, false), (4, 1, false), (5, 1, false)]), (84, [(0, 1, false), (1, 1, false)]), (85, [(0, 1, false), (1, 1, false)]), (94, [(0, 1, false), (1, 1, false), (2, 1, false), (3, 7, true), (10, 4, true), (14, 1, false), (15, 1, false)]), (95, [(0, 1, false), (1, 1, false), (2, 1, false), (3, 7, true), (10, 4, true), (14, 1, false), (15, 1, false)]), (104, [(0, 1, false), (1, 1, false), (2, 1, false), (3, 1, false), (4, 1, false), (5, 1, false), (6, 1, false), (7, 1, false), (8, 1, false), (9, 1, false), (10, 1, false), (11, 1, false), (12, 1, false), (13, 1, false), (14, 1, false), (15, 1, false)]), (105, [(0, 1, false), (1, 1, false), (2, 1, false), (3, 1, false), (4, 1, false), (5, 1, false), (6, 1, false), (7, 1, false), (8, 1, false), (9, 1, false), (10, 1, false), (11, 1, false), (12, 1, false), (13, 1, false), (14, 1, false), (15, 1, false)]), (112, [(0, 1, false), (1, 1, false), (2, 1, false), (3, 1, false)]), (113, [(0, 1, false), (1, 1, false), (2, 1, false), (3, 1, false)]), (118, [(0, 1, false), (1, 1, false), (2, 1, false)]), (119, [(0, 1, false), (1, 1, false), (2, 1, false)]), (136, [(0, 1, false), (1, 4, true), (5, 1, false), (6, 1, false)]), (137, [(0, 1, false), (1, 4, true), (5, 1, false), (6, 1, false)]), (139, [(0, 1, false), (1, 1, false), (2, 4, true), (6, 1, false)]), (140, [(0, 1, false), (1, 1, false), (2, 4, true), (6, 1, false)]), (146, [(0, 1, false), (1, 1, false), (2, 1, false), (3, 1, false)]), (147, [(0, 1, false), (1, 1, false), (2, 1, false), (3, 1, false)]), (156, [(0, 4, true), (4, 1, false)]), (157, [(0, 4, true), (4, 1, false)]), (167, [(0, 1, false), (1, 1, false), (2, 1, false)]), (168, [(0, 1, false), (1, 1, false), (2, 1, false)]), (170, [(0, 1, false), (1, 7, true)]), (171, [(0, 1, false), (1, 7, true)]), (172, [(0, 1, false), (1, 7, true)]), (173, [(0, 1, false), (1, 7, true)]), (181, [(0, 1, false), (1, 1, false), (2, 1, false), (3, 1, false)]), (182, [(0, 1, false), (1, 1, false), (2, 1, false), (3, 1, false)]), (184, [(0, 0, true)]), (185, [(0, 0, true)]), (194, [(0, 1, false), (1, 1, false), (2, 1, false), (3, 1, false), (4, 1, false), (5, 1, false), (6, 1, false), (7, 1, false), (8, 1, false), (9, 1, false), (10, 1, false)]), (195, [(0, 1, false), (1, 1, false), (2, 1, false), (3, 1, false), (4, 1, false), (5, 1, false), (6, 1, false), (7, 1, false), (8, 1, false), (9, 1, false), (10, 1, false)])]
  es := [(22, 7), (23, 9), (36, 2), (37, 1), (40, 4), (44, 4), (51, 1), (52, 1), (83, 16), (93, 3), (99, 1), (100, 1), (101, 1), (102, 1), (103, 1), (135, 8), (138, 8), (145, 1)]
  ar := [(131, 16, 1), (183, 0, 1)]
  ik := [(2, .i64), (3, .i64), (5, .u8), (6, .u8), (12, .u64), (21, .i32), (26, .i64), (187, .u32), (188, .u8), (189, .u8), (192, .i32), (193, .i32)]
  kd := [(4, 1), (15, 2), (16, 2), (17, 2), (22, 3), (23, 3), (36, 3), (37, 3), (40, 3), (44, 3), (51, 3), (52, 3), (83, 3), (86, 2), (89, 2), (93, 3), (98, 2), (99, 3), (100, 3), (101, 3), (102, 3), (103, 3), (114, 2), (135, 3), (138, 3), (144, 2), (145, 3), (179, 2), (191, 2)]
  eg := [7, 8, 13, 14, 18, 19, 34, 35, 38, 39, 41, 42, 53, 54, 56, 57, 65, 66, 67, 68, 84, 85, 94, 95, 104, 105, 112, 113, 118, 119, 131, 136, 137, 139, 140, 146, 147, 156, 157, 167, 168, 170, 171, 172, 173, 181, 182, 183, 184, 185, 194, 195]
  bad := [0, 1, 121, 122, 123, 124, 125, 126, 127, 128, 129, 130, 131, 132, 133, 134, 135, 136, 137]
set_option maxRecDepth 100000 in
theorem tab_ok : tabB Try.prog tab = true := by kernel_rfl
end Go.Proofs.Ytcffhfcjfjfokaa
/- append of one element onto a row of the call's own: the shorter row stays, too. -/
namespace Go.Proofs.Ytcffhfcjfjfokaa
open Go.RowKit
theorem own_prefix {α : Type} {w : World} {base sz c : Nat} {e : TypeId} {enc : α → List Value} {A : Option Addr} {xs ys : List α} (henc : ∀ x, (enc x).length = sz) (h : Owns w base e sz enc A c (xs ++ ys)) (hA : A ≠ none) : Owns w base e sz enc A c xs := by
  have hl := length_flat henc xs
  rcases h.2 with ⟨hv, h0⟩ | ⟨g, cap, cur, hv, hb, hh, h1, h2, h3, h4⟩
  · injection hv with h1; exact absurd h1 hA
  · injection hv with e1 _ e3
    subst e1 e3
    refine ⟨by rw [hl], .inr ⟨g, c, cur, rfl, hb, hh, by rw [List.length_append] at h1; omega, h2, h3, ?_⟩⟩
    rw [List.flatMap_append] at h4
    have : cur.toList.take (xs.length * sz) = (cur.toList.take ((xs ++ ys).length * sz)).take (xs.length * sz) := by
      rw [List.take_take, Nat.min_eq_left]
      rw [List.length_append]; exact Nat.mul_le_mul_right _ (by omega)
    rw [this, h4, ← hl]
    exact List.take_left
section
variable {P : Program} (w : World)
theorem wpList_append_keep {α : Type} {ops : Array Oper} {rest : List Oper} {o : Oper} {a : Act} {Q : Exit → Act → World → Prop} (hgd : o.guard = none) (s x : Operand) (t : TypeId)
    (ho : o.op = .call { callee := .builtin .append, args := #[s, x], argTypes := #[t, t] })
    (base : Nat) (e : TypeId) (sz bytes : Nat) (z : Value) (ht : P.underlying t = some (.slice e)) (hinfo : (P.info? e).map (fun i => (i.zero, i.size, i.bytes)) = some (some z, sz, bytes))
    (hzs : z.cells.size = sz) (hsz : 0 < sz) (enc : α → List Value) (henc : ∀ x, (enc x).length = sz) (hone : ∀ x, ∀ u ∈ enc x, u.oneCell' = true)
    (A : Option Addr) (c : Nat) (xs : List α) (gB cB n : Nat) (y : α) (hs : a.eval s = .slice A n c) (hx : a.eval x = .slice (some ⟨gB, 0, none⟩) 1 cB)
    (hn : xs.length = n) (hown : Owns w base e sz enc A c xs) (hr : ∀ j u, (enc y)[j]? = some u → w.cell? ⟨gB, j, none⟩ = some u)
    (h63 : n + 1 ≤ 9223372036854775807) (hbytes : (n + 1) * bytes ≤ 140737488355328) (hbase : base ≤ w.heap.size)
    (h : ∀ A' c' w', Owns w' base e sz enc A' c' (xs ++ [y]) → Owns w' base e sz enc A c xs → w.grownBy w' (blk A) → (blk A' = blk A ∨ blk A' = some w.heap.size) → wpList P ops Q rest (a.put o.dst (.slice A' (n + 1) c')) w') : wpList P ops Q (o :: rest) a w := by
  subst hn
  obtain ⟨i, hi, hz, hsize, hby⟩ := info_parts hinfo
  have hnews : ∀ j u, (enc y)[j]? = some u → w.cell? ((⟨gB, 0, none⟩ : Addr).add j) = some u := fun j u hu => by
    rw [Addr.add_lit]; simpa using hr j u hu
  have hfm : ([y] : List α).flatMap enc = enc y := by simp
  obtain ⟨v', w', hrun, h2, h3, h5, h4⟩ := run_append_own_at (P := P) w base t o.type e i z sz bytes ht hi hz hsize hby hzs hsz (.slice A xs.length c) xs.length _ hown ⟨gB, 0, none⟩ 1 cB (enc y)
    (by rw [henc, Nat.one_mul]) hnews (hone y) h63 hbytes hbase
  obtain ⟨g', cap', rfl, hg1, hg2⟩ := World.ownsRow.form h2 (by omega)
  simp only [own_blk] at h3 h4
  have hO : Owns w' base e sz enc (some ⟨g', 0, none⟩) cap' (xs ++ [y]) := by unfold Owns; rw [List.flatMap_append, hfm, List.length_append]; exact h2
  have hold : Owns w' base e sz enc A c xs := by
    rcases hown.2 with ⟨hv, h0⟩ | ⟨g, cap, cur, hv, hb, hh, k1, k2, k3, k4⟩
    · injection hv with e1 _ e3
      subst e1 e3
      obtain rfl : xs = [] := List.eq_nil_of_length_eq_zero h0
      exact owns_nil _ _ _ _ _
    · injection hv with e1 _ e3
      subst e1 e3
      by_cases hroom : xs.length + 1 ≤ c
      · have hr' := run_append_room (P := P) w t o.type e i ht hi g xs.length c cur hh ⟨gB, 0, none⟩ 1 cB (enc y) (by rw [henc, hsize, Nat.one_mul]) hnews (hone y) hroom (by rw [henc, k3, hsize]; have := Nat.mul_le_mul_right sz hroom; rw [Nat.add_mul, Nat.one_mul] at this; exact this)
        rw [hrun] at hr'
        injection hr' with e1 e2
        injection e1 with e3 _ e4
        injection e3 with e3; injection e3 with e3
        subst e3 e4
        exact own_prefix henc hO (by simp)
      · have hr' := run_append_grow (P := P) w t o.type e i z ht hi hz ⟨g, 0, none⟩ xs.length c (xs.flatMap enc) (by rw [hsize, length_flat henc]) (hown.cells (g := g) rfl) ⟨gB, 0, none⟩ 1 cB (enc y) (by rw [henc, hsize, Nat.one_mul]) hnews (by omega) (by omega) (growslice_fits (by omega) (by rw [hby]; exact hbytes))
        rw [hrun] at hr'
        injection hr' with _ e2
        rw [e2]
        exact (show Owns w.drew base e sz enc (some ⟨g, 0, none⟩) c xs from hown).alloc _
  refine wpList_plain hgd fun K hK => ?_
  unfold Oper.wp execOp
  simp only [ho, resolve, invoke, builtin, Sem.run_bind, Sem.run_pure, Result.andThen_ok, List.map_toArray, List.map_cons, List.map_nil, hs, hx, hrun]
  exact hK _ _ (h _ _ w' hO hold h3 h4)
end
end Go.Proofs.Ytcffhfcjfjfokaa
/- Aid for the reckoning: loads and stores as they come up most. -/
namespace Go.Proofs.Ytcffhfcjfjfokaa
open Go Go.RowKit
section
variable {P : Program} {ty t : TypeId} {b off : Nat} {w : World} {v : Value}
theorem load_cell (hg : aggB P ty = some false) (h : w.cell? ⟨b, off, none⟩ = some v) : (loadVar ty ⟨b, off, none⟩).run P w = .ok v w := by
  unfold loadVar
  rw [Sem.run_bind, run_agg hg]
  simp only [Result.andThen_ok, Bool.false_eq_true, if_false]
  go_simp
theorem load_agg {cs : List Value} (hg : aggB P ty = some true) (hs : sizeB P ty = some cs.length) (h : w.rangeAt b off cs) : (loadVar ty ⟨b, off, none⟩).run P w = .ok (.agg cs.toArray) w := by
  unfold aggB at hg
  cases hu : P.underlying ty with
  | none => rw [hu] at hg; simp at hg
  | some d =>
    rw [hu] at hg
    refine run_loadVar_mid w b off ty cs d h hu ?_ hs
    cases d <;> simp at hg ⊢
theorem VStore.new {x : World} {K : World → Prop} {c c' : Array Value} (hx : Hid (x = w.alloc (.cells c t))) (hi : sizeB P t = some c'.size) (ho : c.size = c'.size) (h1 : c'.all (·.oneCell') = true) (hk : ∀ x', Hid (x' = w.alloc (.cells c' t)) → K x') : VStore P t w.heap.size 0 (.agg c') x K := by
  rw [hx.out]
  exact .mk _ (run_storeVar_new w t c c' hi ho h1) (hk _ (Lib.hid rfl))
theorem VStore.mid {K : World → Prop} {c : Array Value} (ht : w.there b off c.size) (hi : sizeB P ty = some c.size) (h1 : c.all (·.oneCell') = true) (hk : ∀ w', Hid (w' = w.setCells b off c.toList) → K w') : VStore P ty b off (.agg c) w K :=
  .mk _ (run_storeVar_mid w b off ty c ht hi h1) (hk _ (Lib.hid rfl))
theorem run_store1 (hi : sizeB P ty = some 1) (hc : (w.cell? ⟨b, off, none⟩).isSome = true) (hf : w.frozen? ⟨b, off, none⟩ = false) (hv : v.cells = #[v]) (h1 : v.oneCell' = true) : (storeVar ty ⟨b, off, none⟩ v).run P w = .ok () (w.setCell ⟨b, off, none⟩ v) := by
  have := run_storeCells_cells (P := P) b off [v] 0 w (fun j hj => by
    have : j = 0 := (by simpa using hj)
    subst this
    simpa using hc) (fun j hj => by
    have : j = 0 := (by simpa using hj)
    subst this
    simpa using hf) (fun u hu => by simp at hu; subst hu; exact h1)
  simp only [Nat.add_zero] at this
  unfold storeVar
  rw [Sem.run_bind, run_size hi, hv]
  simpa [World.setCells] using this
theorem VStore.cell {K : World → Prop} (hi : sizeB P ty = some 1) (hc : (w.cell? ⟨b, off, none⟩).isSome = true) (hf : w.frozen? ⟨b, off, none⟩ = false) (hv : v.cells = #[v]) (h1 : v.oneCell' = true) (hk : ∀ w', Hid (w' = w.setCell ⟨b, off, none⟩ v) → K w') : VStore P ty b off v w K :=
  .mk _ (run_store1 hi hc hf hv h1) (hk _ (Lib.hid rfl))
theorem VApp.rows {α : Type} {ty0 : TypeId} {t e : TypeId} {K : Value → World → Prop}
    (base : Nat) (sz bytes : Nat) (z : Value) (ht : P.underlying t = some (.slice e)) (hinfo : (P.info? e).map (fun i => (i.zero, i.size, i.bytes)) = some (some z, sz, bytes))
    (hzs : z.cells.size = sz) (hsz : 0 < sz) (enc : α → List Value) (henc : ∀ x, (enc x).length = sz) (hone : ∀ x, ∀ u ∈ enc x, u.oneCell' = true)
    {A : Option Addr} {c : Nat} (xs : List α) {B : Option Addr} {cB N n m : Nat} (l : List α)
    (hn : xs.length = n) (hm : l.length = m)
    (hown : Owns w base e sz enc A c xs) (hr : RowAt w N sz enc B l)
    (h63 : n + m ≤ 9223372036854775807) (hbytes : (n + m) * bytes ≤ 140737488355328) (hbase : base ≤ w.heap.size)
    (h : ∀ A' c' w', Owns w' base e sz enc A' c' (xs ++ l) → w.grownBy w' (blk A) → (blk A' = blk A ∨ blk A' = some w.heap.size) → K (.slice A' (n + m) c') w') : VApp P #[t, t] ty0 [.slice A n c, .slice B m cB] w K := by
  subst hn hm
  obtain ⟨i, hi, hz, hsize, hby⟩ := info_parts hinfo
  have key : ∃ v' w', (Builtin.append_ #[t, t] ty0 #[.slice A xs.length c, .slice B l.length cB]).run P w = .ok v' w' ∧ w'.ownsRow base e sz v' (xs.length + l.length) ((xs ++ l).flatMap enc) ∧ w.grownBy w' (blk A) ∧ (v'.ownBlock = blk A ∨ v'.ownBlock = some w.heap.size) := by
    by_cases h0 : 0 < l.length
    · obtain ⟨b, off, rfl, hb, hc⟩ := hr h0
      obtain ⟨v', w', h1, h2, h3, _, h5⟩ := run_append_own_at (P := P) w base t ty0 e i z sz bytes ht hi hz hsize hby hzs hsz (.slice A xs.length c) xs.length _ hown ⟨b, off, none⟩ l.length cB (l.flatMap enc)
        (length_flat henc l) (fun j u hu => by
          obtain ⟨k, r, x, hk, hr', rfl⟩ := flatMap_of henc l j u hu
          have := hc k x hk r u hr'
          by_cases hz0 : k * sz + r = 0
          · rw [hz0]; simp only [Addr.add, if_true]
            have e0 : off + k * sz + r = off := by omega
            rw [e0] at this; exact this
          · simp only [Addr.add, if_neg hz0]
            rw [← Nat.add_assoc]; exact this)
        (fun u hu => by obtain ⟨x, _, hux⟩ := List.mem_flatMap.1 hu; exact hone x u hux) h63 hbytes hbase
      rw [own_blk] at h3 h5
      exact ⟨v', w', h1, by rw [List.flatMap_append]; exact h2, h3, h5⟩
    · have hl : l = [] := List.eq_nil_of_length_eq_zero (by omega)
      subst hl
      cases B with
      | none =>
        refine ⟨.slice A xs.length c, w, ?_, by simp only [List.length_nil, Nat.add_zero, List.append_nil]; exact hown, World.grownBy.refl w _, .inl (own_blk _ _ _)⟩
        rcases hown.2 with ⟨hv, _⟩ | ⟨g, cap, cur, hv, _, _, hnc, _⟩
        · rw [hv]; simp [Builtin.append_, run_underlying ht, sizeOf, typeInfo, hi, Builtin.lenOf, Builtin.firstCells]
        · rw [hv]; simp [Builtin.append_, run_underlying ht, sizeOf, typeInfo, hi, Builtin.lenOf, Builtin.firstCells, hnc, storeCells]
      | some ad =>
        obtain ⟨v', w', h1, h2, h3, _, h5⟩ := run_append_own_at (P := P) w base t ty0 e i z sz bytes ht hi hz hsize hby hzs hsz (.slice A xs.length c) xs.length _ hown ad 0 cB []
          (by simp) (fun j u hu => by simp at hu) (fun u hu => by simp at hu) h63 hbytes hbase
        rw [own_blk] at h3 h5
        exact ⟨v', w', h1, by simpa using h2, h3, h5⟩
  obtain ⟨v', w', hrun, h2, h3, h4⟩ := key
  have hv : ∃ A' c', v' = .slice A' (xs.length + l.length) c' := by
    rcases h2.2 with ⟨hv, h0⟩ | ⟨g, cap, cur, hv, _⟩
    · exact ⟨none, 0, by rw [hv, h0]⟩
    · exact ⟨_, _, hv⟩
  obtain ⟨A', c', rfl⟩ := hv
  rw [own_blk] at h4
  exact .mk _ _ hrun (h A' c' w' (by unfold Owns; rw [List.length_append]; exact h2) h3 h4)
theorem VApp.fresh {α : Type} {ty0 : TypeId} {t e : TypeId} {K : Value → World → Prop}
    (sz bytes : Nat) (z : Value) (ht : P.underlying t = some (.slice e)) (hinfo : (P.info? e).map (fun i => (i.zero, i.size, i.bytes)) = some (some z, sz, bytes))
    (hzs : z.cells.size = sz) (hsz : 0 < sz) (enc : α → List Value) (henc : ∀ x, (enc x).length = sz) (hone : ∀ x, ∀ u ∈ enc x, u.oneCell' = true)
    {A B : Option Addr} {cB N m : Nat} (l : List α) (hm : l.length = m) (hr : RowAt w N sz enc B l) (hbytes : m * bytes ≤ 140737488351232) (h63 : m ≤ 9223372036854775807)
    (h : ∀ A' c' w', FRow w' w.heap.size sz enc A' l → m ≤ c' → c' ≤ 9223372036854775807 → Below w.heap.size w w' → K (.slice A' m c') w') : VApp P #[t, t] ty0 [.slice A 0 0, .slice B m cB] w K := by
  subst hm
  obtain ⟨i, hi, hz, hsize, hby⟩ := info_parts hinfo
  have key : ∃ A' c' w', (Builtin.append_ #[t, t] ty0 #[.slice A 0 0, .slice B l.length cB]).run P w = .ok (.slice A' l.length c') w' ∧ FRow w' w.heap.size sz enc A' l ∧ l.length ≤ c' ∧ c' ≤ 9223372036854775807 ∧ Below w.heap.size w w' := by
    by_cases h0 : 0 < l.length
    · obtain ⟨b, off, rfl, hb, hc⟩ := hr h0
      obtain ⟨v', w', h1, h2, h3, _, h5⟩ := run_append_own_at (P := P) w w.heap.size t ty0 e i z sz bytes ht hi hz hsize hby hzs hsz (.slice none 0 0) 0 _ (owns_nil (α := α) w w.heap.size e sz enc) ⟨b, off, none⟩ l.length cB (l.flatMap enc)
        (length_flat henc l) (fun j u hu => by
          obtain ⟨k, r, x, hk, hr', rfl⟩ := flatMap_of henc l j u hu
          have := hc k x hk r u hr'
          by_cases hz0 : k * sz + r = 0
          · rw [hz0]; simp only [Addr.add, if_true]
            have e0 : off + k * sz + r = off := by omega
            rw [e0] at this; exact this
          · simp only [Addr.add, if_neg hz0]
            rw [← Nat.add_assoc]; exact this)
        (fun u hu => by obtain ⟨x, _, hux⟩ := List.mem_flatMap.1 hu; exact hone x u hux) (by simp only [maxLen]; omega) (by rw [Nat.zero_add]; omega) (Nat.le_refl _)
      rw [Nat.zero_add, List.flatMap_nil, List.nil_append] at h2
      obtain ⟨g, cap, rfl, hg1, hg2⟩ := World.ownsRow.form h2 h0
      have hO : Owns w' w.heap.size e sz enc (some ⟨g, 0, none⟩) cap l := h2
      refine ⟨some ⟨g, 0, none⟩, cap, w', ?_, FRow.of_owns hO henc, hO.len.1, hO.len.2, (Below.refl w.heap.size w).grown h3 (Nat.le_refl _) (by intro k hk; cases hk)⟩
      cases A with
      | none => exact h1
      | some ga => rw [run_append_zero w t ty0 e i ht hi ga _ _ _ h0 (by rw [hby]; omega)]; exact h1
    · have hl : l = [] := List.eq_nil_of_length_eq_zero (by omega)
      subst hl
      exact ⟨A, 0, w, run_append_none w t ty0 e i ht hi A B cB, fun h => absurd h (by simp), by simp, by omega, Below.refl _ _⟩
  obtain ⟨A', c', w', hrun, h2, h3, h4, h5⟩ := key
  exact .mk _ _ hrun (h A' c' w' h2 h3 h4 h5)
theorem VApp.keep {α : Type} {ty0 : TypeId} {t e : TypeId} {K : Value → World → Prop}
    (base : Nat) (sz bytes : Nat) (z : Value) (ht : P.underlying t = some (.slice e)) (hinfo : (P.info? e).map (fun i => (i.zero, i.size, i.bytes)) = some (some z, sz, bytes))
    (hzs : z.cells.size = sz) (hsz : 0 < sz) (enc : α → List Value) (henc : ∀ x, (enc x).length = sz) (hone : ∀ x, ∀ u ∈ enc x, u.oneCell' = true)
    {A : Option Addr} {c : Nat} (xs : List α) {gB cB n : Nat} (y : α)
    (hn : xs.length = n) (hown : Owns w base e sz enc A c xs) (hr : ∀ j u, (enc y)[j]? = some u → w.cell? ⟨gB, j, none⟩ = some u)
    (h63 : n + 1 ≤ 9223372036854775807) (hbytes : (n + 1) * bytes ≤ 140737488355328) (hbase : base ≤ w.heap.size)
    (h : ∀ A' c' w', Owns w' base e sz enc A' c' (xs ++ [y]) → Owns w' base e sz enc A c xs → w.grownBy w' (blk A) → (blk A' = blk A ∨ blk A' = some w.heap.size) → K (.slice A' (n + 1) c') w') : VApp P #[t, t] ty0 [.slice A n c, .slice (some ⟨gB, 0, none⟩) 1 cB] w K := by
  subst hn
  obtain ⟨i, hi, hz, hsize, hby⟩ := info_parts hinfo
  have hnews : ∀ j u, (enc y)[j]? = some u → w.cell? ((⟨gB, 0, none⟩ : Addr).add j) = some u := fun j u hu => by
    rw [Addr.add_lit]; simpa using hr j u hu
  have hfm : ([y] : List α).flatMap enc = enc y := by simp
  obtain ⟨v', w', hrun, h2, h3, h5, h4⟩ := run_append_own_at (P := P) w base t ty0 e i z sz bytes ht hi hz hsize hby hzs hsz (.slice A xs.length c) xs.length _ hown ⟨gB, 0, none⟩ 1 cB (enc y)
    (by rw [henc, Nat.one_mul]) hnews (hone y) h63 hbytes hbase
  obtain ⟨g', cap', rfl, hg1, hg2⟩ := World.ownsRow.form h2 (by omega)
  simp only [own_blk] at h3 h4
  have hO : Owns w' base e sz enc (some ⟨g', 0, none⟩) cap' (xs ++ [y]) := by unfold Owns; rw [List.flatMap_append, hfm, List.length_append]; exact h2
  have hold : Owns w' base e sz enc A c xs := by
    rcases hown.2 with ⟨hv, h0⟩ | ⟨g, cap, cur, hv, hb, hh, k1, k2, k3, k4⟩
    · injection hv with e1 _ e3
      subst e1 e3
      obtain rfl : xs = [] := List.eq_nil_of_length_eq_zero h0
      exact owns_nil _ _ _ _ _
    · injection hv with e1 _ e3
      subst e1 e3
      by_cases hroom : xs.length + 1 ≤ c
      · have hr' := run_append_room (P := P) w t ty0 e i ht hi g xs.length c cur hh ⟨gB, 0, none⟩ 1 cB (enc y) (by rw [henc, hsize, Nat.one_mul]) hnews (hone y) hroom (by rw [henc, k3, hsize]; have := Nat.mul_le_mul_right sz hroom; rw [Nat.add_mul, Nat.one_mul] at this; exact this)
        rw [hrun] at hr'
        injection hr' with e1 e2
        injection e1 with e3 _ e4
        injection e3 with e3; injection e3 with e3
        subst e3 e4
        exact own_prefix henc hO (by simp)
      · have hr' := run_append_grow (P := P) w t ty0 e i z ht hi hz ⟨g, 0, none⟩ xs.length c (xs.flatMap enc) (by rw [hsize, length_flat henc]) (hown.cells (g := g) rfl) ⟨gB, 0, none⟩ 1 cB (enc y) (by rw [henc, hsize, Nat.one_mul]) hnews (by omega) (by omega) (growslice_fits (by omega) (by rw [hby]; exact hbytes))
        rw [hrun] at hr'
        injection hr' with _ e2
        rw [e2]
        exact (show Owns w.drew base e sz enc (some ⟨g, 0, none⟩) c xs from hown).alloc _
  exact .mk _ _ hrun (h _ _ w' hO hold h3 h4)
end
end Go.Proofs.Ytcffhfcjfjfokaa
/- Take: the document's. -/
namespace Go.Proofs.Ytcffhfcjfjfokaa
open Go.RowKit
def BxS (b u : Nat) (v : Value) (l : List Value) (W : World) : Prop := W.cell? ⟨b, 1, none⟩ = some v ∧ W.rangeAt u 0 l
theorem take_cnt {s : Sto} {q inc : Int} {f : Fl} (h : cntB inc = false) : s.take q inc f = (1, s) := take_bad (by unfold cntB at h; simp at h; omega)
theorem cnt_yes {n : Int} (h : cntB n = true) : 1 ≤ n ∧ n ≤ 4611686018427387904 := by unfold cntB at h; simpa using h
theorem sameB_t {f g : Fl} (h : sameB f g = true) : g = f := by
  unfold sameB at h
  cases f; cases g; simp at h ⊢
  obtain ⟨a, b, c, d, e, k, l⟩ := h
  exact ⟨a.symm, b.symm, c.symm, d.symm, e.symm, k.symm, l.symm⟩
theorem sameB_f {f g : Fl} (h : sameB f g = false) : ¬ g = f := by
  rintro rfl; unfold sameB at h; simp at h
theorem build173 (W : World) (k e l i c u : Int) (A : Option Addr) (n cA : Nat) (B : Option Addr) (m cB : Nat) : (Instr.build 173 #[(0, .int .i64 k), (1, .agg (flc e l i c u A n cA B m cB))]).run Try.prog W = .ok (.agg #[.int .i64 k, .int .i64 e, .int .i64 l, .int .i64 i, .int .i64 c, .int .i64 u, .slice A n cA, .slice B m cB]) W := by kernel_rfl
def zero173 : Value := .agg #[.int .i64 0, .int .i64 0, .int .i64 0, .int .i64 0, .int .i64 0, .int .i64 0, .slice none 0 0, .slice none 0 0]
theorem run_zero173 (W : World) : (zeroValue 173).run Try.prog W = .ok zero173 W := by kernel_rfl
set_option maxRecDepth 100000 in
theorem rtake_any {w : World} {F : List Nat} {b g : Nat} {s : Sto} {ks : List KpX} {Mp : Option Addr} {cM : Nat} {ms : List Dr} (h : StV w F b g 1 2 s ks Mp cM ms) (hn : w.cell? ⟨b, 0, none⟩ = some (.int .i64 s.n)) (q inc : Int) (f : Fl) (A : Option Addr) (cA : Nat) (B : Option Addr) (cB N : Nat) (hN : N ≤ w.heap.size) (hr : FlRows w N f A cA B cB) (l1 : f.slots.length ≤ 1048576) (l2 : f.have_.length ≤ 1048576) :
    Calls Try.prog 102 #[.pointer (some ⟨b, 0, none⟩), .int .i64 q, .int .i64 inc, .agg (flc f.e f.l f.i f.c f.base A f.slots.length cA B f.have_.length cB)] w (TkPost w F b g 1 2 Mp cM ms (s.take q inc f)) := by
  have hbz := h.hi b h.bF
  have hgz := h.hi g h.gF
  refine calls_vc tab_ok Try.func102 rfl ?_
  conv => whnf
  refine .mk fun wA hwA => ?_
  have hbA : Below w.heap.size w wA := by rw [hwA.out]; exact below_box1 _ _ _
  have zA : wA.heap.size = w.heap.size + 1 := by rw [hwA.out]; simp
  have oA : wA.rangeAt w.heap.size 0 (flc f.e f.l f.i f.c f.base A f.slots.length cA B f.have_.length cB).toList := by rw [hwA.out]; exact range_new w (flc f.e f.l f.i f.c f.base A f.slots.length cA B f.have_.length cB) 39
  have hx : ∀ W, Below wA.heap.size wA W → FlRows W N f A cA B cB ∧ StV W F b g 1 2 s ks Mp cM ms ∧ W.rangeAt w.heap.size 0 (flc f.e f.l f.i f.c f.base A f.slots.length cA B f.have_.length cB).toList ∧ Below w.heap.size w W ∧ W.cell? ⟨b, 0, none⟩ = some (.int .i64 s.n) := fun W hW =>
    ⟨(hr.below hbA hN).below hW (by omega), (h.below hbA).below hW, range_same oA (hW.block w.heap.size (by omega)), hbA.trans (hW.mono (by omega)), (hW.cell (p := ⟨b, 0, none⟩) (by show b < _; omega)).trans ((hbA.cell (p := ⟨b, 0, none⟩) hbz).trans hn)⟩
  have bd : Below wA.heap.size wA wA.drew := Below.drew (Below.refl _ _)
  have L138 : Ld Try.prog 138 (b) 1 (fun W => Below wA.heap.size wA W) (.slice (some ⟨g, 0, none⟩) s.n s.n) := ⟨fun W hW => load138 (hx W hW).2.1.ck⟩
  have Ln : Ld Try.prog 3 (b) 0 (fun W => Below wA.heap.size wA W) (.int .i64 s.n) := ⟨fun W hW => load3 (hx W hW).2.2.2.2⟩
  have Lf : Ld Try.prog 39 (w.heap.size) 0 (fun W => Below wA.heap.size wA W) (.agg (flc f.e f.l f.i f.c f.base A f.slots.length cA B f.have_.length cB)) := ⟨fun W hW => load39 (hx W hW).2.2.1⟩
  have Lh : Ld Try.prog 37 (w.heap.size) 6 (fun W => Below wA.heap.size wA W) (.slice B f.have_.length cB) := ⟨fun W hW => load37 ((hx W hW).2.2.1 6 _ rfl)⟩
  have Le : Ld Try.prog 3 (w.heap.size) 0 (fun W => Below wA.heap.size wA W) (.int .i64 f.e) := ⟨fun W hW => load3 ((hx W hW).2.2.1 0 _ rfl)⟩
  have bad : ∀ W, Below wA.heap.size wA W → ∀ n, s.take q inc f = (n, s) → TkPost w F b g 1 2 Mp cM ms (s.take q inc f) (.returned (.int .i64 n)) W := fun W hW n e => TkPost.bad h e (hx W hW).2.2.2.1
  have M138 : Ld Try.prog 138 b 1 (fun W => BxS b w.heap.size (.slice (some ⟨g, 0, none⟩) s.n s.n) (flc f.e f.l f.i f.c f.base A f.slots.length cA B f.have_.length cB).toList W) (.slice (some ⟨g, 0, none⟩) s.n s.n) := ⟨fun W hW => load138 hW.1⟩
  have Mf : Ld Try.prog 39 w.heap.size 0 (fun W => BxS b w.heap.size (.slice (some ⟨g, 0, none⟩) s.n s.n) (flc f.e f.l f.i f.c f.base A f.slots.length cA B f.have_.length cB).toList W) (.agg (flc f.e f.l f.i f.c f.base A f.slots.length cA B f.have_.length cB)) := ⟨fun W hW => load39 hW.2⟩
  conv => whnf
  refine VDraw.mk 1000 [([0, 1, 2, 3, 4, 5, 6, 7, 8, 9, 10, 11], 12), ([13, 14, 15, 16], 17)] [18, 19, 20, 21, 22, 23, 24, 25, 26, 27, 28, 29] (fun W => Below wA.heap.size wA W) (by kernel_rfl) (by kernel_rfl) (bd) ?_
  by_cases hq0 : q < 0
  · repeat (conv => whnf
            first
            | (refine VLoad.mk _ L138 ?_)
            | (refine VLoad.mk _ Ln ?_)
            | (refine VLoad.mk _ Lf ?_)
            | (refine VLoad.mk _ Lh ?_)
            | (refine VLoad.mk _ Le ?_)
            | (refine VS.mk bd ?_)
            | (refine VCmp.tt (by omega) ?_)
            | (refine VCmp.ff (by omega) ?_)
            | (refine VIn.mk (IntWalk.i64_in _ (by omega)) ?_)
            | (refine VIdx.mk _ rfl (by omega) ?_)
            | (refine VIdx.mk 0 rfl (by omega) ?_))
    try (conv => whnf)
    exact .mk (bad _ bd 1 (take_bad (.inl hq0)))
  by_cases hq1 : (s.n : Int) ≤ q
  · repeat (conv => whnf
            first
            | (refine VLoad.mk _ L138 ?_)
            | (refine VLoad.mk _ Ln ?_)
            | (refine VLoad.mk _ Lf ?_)
            | (refine VLoad.mk _ Lh ?_)
            | (refine VLoad.mk _ Le ?_)
            | (refine VS.mk bd ?_)
            | (refine VCmp.tt (by omega) ?_)
            | (refine VCmp.ff (by omega) ?_)
            | (refine VIn.mk (IntWalk.i64_in _ (by omega)) ?_)
            | (refine VIdx.mk _ rfl (by omega) ?_)
            | (refine VIdx.mk 0 rfl (by omega) ?_))
    try (conv => whnf)
    exact .mk (bad _ bd 1 (take_bad (.inr (.inl hq1))))
  obtain ⟨p, rfl⟩ := Int.eq_ofNat_of_zero_le (show 0 ≤ q by omega)
  have hpn : p < s.n := by omega
  repeat (conv => whnf
          first
          | (refine VLoad.mk _ L138 ?_)
          | (refine VLoad.mk _ Ln ?_)
          | (refine VLoad.mk _ Lf ?_)
          | (refine VLoad.mk _ Lh ?_)
          | (refine VLoad.mk _ Le ?_)
          | (refine VS.mk bd ?_)
          | (refine VCmp.tt (by omega) ?_)
          | (refine VCmp.ff (by omega) ?_)
          | (refine VIn.mk (IntWalk.i64_in _ (by omega)) ?_)
          | (refine VIdx.mk _ rfl (by omega) ?_)
          | (refine VIdx.mk 0 rfl (by omega) ?_))
  try (conv => whnf)
  refine VCall.mk _ (count_any inc wA.drew) ?_
  rintro e' x1 ⟨rfl, rfl⟩
  refine ⟨_, rfl, ?_⟩
  cases hcn : cntB inc with
  | false =>
    repeat (conv => whnf
            first
            | (refine VLoad.mk _ L138 ?_)
            | (refine VLoad.mk _ Ln ?_)
            | (refine VLoad.mk _ Lf ?_)
            | (refine VLoad.mk _ Lh ?_)
            | (refine VLoad.mk _ Le ?_)
            | (refine VS.mk bd ?_)
            | (refine VCmp.tt (by omega) ?_)
            | (refine VCmp.ff (by omega) ?_)
            | (refine VIn.mk (IntWalk.i64_in _ (by omega)) ?_)
            | (refine VIdx.mk _ rfl (by omega) ?_)
            | (refine VIdx.mk 0 rfl (by omega) ?_))
    try (conv => whnf)
    exact .mk (bad _ bd 1 (take_cnt hcn))
  | true =>
  obtain ⟨hi0, hi1⟩ := cnt_yes hcn
  repeat (conv => whnf
          first
          | (refine VLoad.mk _ L138 ?_)
          | (refine VLoad.mk _ Ln ?_)
          | (refine VLoad.mk _ Lf ?_)
          | (refine VLoad.mk _ Lh ?_)
          | (refine VLoad.mk _ Le ?_)
          | (refine VS.mk bd ?_)
          | (refine VCmp.tt (by omega) ?_)
          | (refine VCmp.ff (by omega) ?_)
          | (refine VIn.mk (IntWalk.i64_in _ (by omega)) ?_)
          | (refine VIdx.mk _ rfl (by omega) ?_)
          | (refine VIdx.mk 0 rfl (by omega) ?_))
  try (conv => whnf)
  refine VCall.mk _ (rsound_any f A B cA cB N wA.drew (by show N ≤ wA.heap.size; omega) (hx _ bd).1) ?_
  rintro e' x2 ⟨rfl, hb2⟩
  refine ⟨_, rfl, ?_⟩
  have b2 : Below wA.heap.size wA x2 := bd.trans hb2
  cases hsb : soundB f with
  | false =>
    repeat (conv => whnf
            first
            | (refine VS.mk b2 ?_)
            | (refine VLoad.mk _ L138 ?_)
            | (refine VLoad.mk _ Ln ?_)
            | (refine VLoad.mk _ Lf ?_)
            | (refine VLoad.mk _ Lh ?_)
            | (refine VLoad.mk _ Le ?_)
            | (refine VS.mk bd ?_)
            | (refine VCmp.tt (by omega) ?_)
            | (refine VCmp.ff (by omega) ?_)
            | (refine VIn.mk (IntWalk.i64_in _ (by omega)) ?_)
            | (refine VIdx.mk _ rfl (by omega) ?_)
            | (refine VIdx.mk 0 rfl (by omega) ?_))
    try (conv => whnf)
    exact .mk (bad _ b2 1 (take_bad (.inr (.inr (.inr (.inr (.inl hsb)))))))
  | true =>
  by_cases hl : f.have_.length = s.n
  case neg =>
    repeat (conv => whnf
            first
            | (refine VS.mk b2 ?_)
            | (refine VLoad.mk _ L138 ?_)
            | (refine VLoad.mk _ Ln ?_)
            | (refine VLoad.mk _ Lf ?_)
            | (refine VLoad.mk _ Lh ?_)
            | (refine VLoad.mk _ Le ?_)
            | (refine VS.mk bd ?_)
            | (refine VCmp.tt (by omega) ?_)
            | (refine VCmp.ff (by omega) ?_)
            | (refine VIn.mk (IntWalk.i64_in _ (by omega)) ?_)
            | (refine VIdx.mk _ rfl (by omega) ?_)
            | (refine VIdx.mk 0 rfl (by omega) ?_))
    try (conv => whnf)
    exact .mk (bad _ b2 1 (take_bad (.inr (.inr (.inr (.inr (.inr hl)))))))
  obtain ⟨kx, hkx, hkk, -, -⟩ := h.kp hpn
  have htk := take_good hpn hi0 hi1 hsb hl
  rw [← hkk] at htk
  have hk8 : x2.rangeAt g (0 + p * 8) (eKp kx) := by rw [Nat.zero_add]; exact (hx _ b2).2.1.krow p kx hkx
  have h173 := Ld.of (load173 hk8)
  repeat (conv => whnf
          first
          | (refine VLoad.mk _ (L138.at b2) ?_)
          | (refine VLoad.mk _ h173 ?_)
          | (refine VS.mk b2 ?_)
          | (refine VLoad.mk _ L138 ?_)
          | (refine VLoad.mk _ Ln ?_)
          | (refine VLoad.mk _ Lf ?_)
          | (refine VLoad.mk _ Lh ?_)
          | (refine VLoad.mk _ Le ?_)
          | (refine VS.mk bd ?_)
          | (refine VCmp.tt (by omega) ?_)
          | (refine VCmp.ff (by omega) ?_)
          | (refine VIn.mk (IntWalk.i64_in _ (by omega)) ?_)
          | (refine VIdx.mk _ rfl (by omega) ?_)
          | (refine VIdx.mk 0 rfl (by omega) ?_))
  try (conv => whnf)
  refine .mk _ run_zero173 ?_
  conv => whnf
  refine .mk fun x3 hx3 => ?_
  repeat (conv => whnf
          first
          | (refine VLoad.mk _ (L138.at b2) ?_)
          | (refine VLoad.mk _ h173 ?_)
          | (refine VS.mk b2 ?_)
          | (refine VLoad.mk _ L138 ?_)
          | (refine VLoad.mk _ Ln ?_)
          | (refine VLoad.mk _ Lf ?_)
          | (refine VLoad.mk _ Lh ?_)
          | (refine VLoad.mk _ Le ?_)
          | (refine VS.mk bd ?_)
          | (refine VCmp.tt (by omega) ?_)
          | (refine VCmp.ff (by omega) ?_)
          | (refine VIn.mk (IntWalk.i64_in _ (by omega)) ?_)
          | (refine VIdx.mk _ rfl (by omega) ?_)
          | (refine VIdx.mk 0 rfl (by omega) ?_))
  try (conv => whnf)
  refine VStore.new hx3 (by kernel_rfl) rfl (one_kpA kx) fun x4 hx4 => ?_
  have b4 : Below wA.heap.size wA x4 := by rw [hx4.out]; exact b2.alloc b2.size _
  have r4 : x4.rangeAt x2.heap.size 0 (eKp kx) := by rw [hx4.out]; exact range_new x2 (kpA kx) 173
  have e4 := (hx _ b4).2.2.1
  have r5 : x4.rangeAt x2.heap.size (0 + 1) (flc kx.k.f.e kx.k.f.l kx.k.f.i kx.k.f.c kx.k.f.base kx.A kx.k.f.slots.length kx.cA kx.B kx.k.f.have_.length kx.cB).toList := fun j u hu => by
    have h9 := r4 (j + 1) u hu
    rw [Nat.zero_add] at h9
    rw [Nat.zero_add, Nat.add_comm 1 j]; exact h9
  have a0 := Ld.of (load3 (r4 0 _ rfl))
  have a1 := Ld.of (load3 (r4 1 _ rfl))
  have e0 := Ld.of (load3 (e4 0 _ rfl))
  have a5 := Ld.of (load39 r5)
  rcases Int.lt_trichotomy inc kx.k.inc with hd0 | hd0 | hd0
  · repeat (conv => whnf
            first
            | (refine VLoad.mk _ a0 ?_)
            | (refine VLoad.mk _ a1 ?_)
            | (refine VLoad.mk _ e0 ?_)
            | (refine VLoad.mk _ a5 ?_)
            | (refine VLoad.mk _ (Lf.at b4) ?_)
            | (refine VCmp.tt (by omega) ?_)
            | (refine VCmp.ff (by omega) ?_)
            | (refine VIn.mk (IntWalk.i64_in _ (by omega)) ?_)
            | (refine VIdx.mk _ rfl (by omega) ?_)
            | (refine VIdx.mk 0 rfl (by omega) ?_))
    try (conv => whnf)
    exact .mk (bad _ b4 50 (by rw [htk, if_pos hd0]))
  · rcases Int.lt_trichotomy f.e kx.k.f.e with hd | hd | hd
    · repeat (conv => whnf
              first
              | (refine VLoad.mk _ a0 ?_)
              | (refine VLoad.mk _ a1 ?_)
              | (refine VLoad.mk _ e0 ?_)
              | (refine VLoad.mk _ a5 ?_)
              | (refine VLoad.mk _ (Lf.at b4) ?_)
              | (refine VCmp.tt (by omega) ?_)
              | (refine VCmp.ff (by omega) ?_)
              | (refine VIn.mk (IntWalk.i64_in _ (by omega)) ?_)
              | (refine VIdx.mk _ rfl (by omega) ?_)
              | (refine VIdx.mk 0 rfl (by omega) ?_))
      try (conv => whnf)
      exact .mk (bad _ b4 51 (by rw [htk, if_neg (by omega), if_pos ⟨by omega, hd⟩]))
    · have h4 := (hx _ b4).2.1
      have hkr := (h4.kS kx (List.mem_of_getElem? hkx)).rows
      have hfr := (hx _ b4).1.more (show N ≤ x4.heap.size by have := b4.size; omega)
      repeat (conv => whnf
              first
              | (refine VLoad.mk _ a0 ?_)
              | (refine VLoad.mk _ a1 ?_)
              | (refine VLoad.mk _ e0 ?_)
              | (refine VLoad.mk _ a5 ?_)
              | (refine VLoad.mk _ (Lf.at b4) ?_)
              | (refine VCmp.tt (by omega) ?_)
              | (refine VCmp.ff (by omega) ?_)
              | (refine VIn.mk (IntWalk.i64_in _ (by omega)) ?_)
              | (refine VIdx.mk _ rfl (by omega) ?_)
              | (refine VIdx.mk 0 rfl (by omega) ?_))
      try (conv => whnf)
      refine VCall.mk _ (same_any kx.k.f f kx.A A kx.B B kx.cA cA kx.cB cB x4.heap.size x4 (Nat.le_refl _) hkr hfr) ?_
      rintro e' x5 ⟨rfl, hb5⟩
      refine ⟨_, rfl, ?_⟩
      have b5 := b4.trans (hb5.mono b4.size)
      cases hfb : sameB kx.k.f f with
      | false =>
        repeat (conv => whnf
                first
                | (refine VCmp.tt (by omega) ?_)
                | (refine VCmp.ff (by omega) ?_)
                | (refine VIn.mk (IntWalk.i64_in _ (by omega)) ?_)
                | (refine VIdx.mk _ rfl (by omega) ?_)
                | (refine VIdx.mk 0 rfl (by omega) ?_))
        try (conv => whnf)
        exact .mk (bad _ b5 82 (by rw [htk, if_neg (by omega), if_neg (by omega), if_pos ⟨by omega, hd⟩, if_neg (sameB_f hfb)]))
      | true =>
        repeat (conv => whnf
                first
                | (refine VCmp.tt (by omega) ?_)
                | (refine VCmp.ff (by omega) ?_)
                | (refine VIn.mk (IntWalk.i64_in _ (by omega)) ?_)
                | (refine VIdx.mk _ rfl (by omega) ?_)
                | (refine VIdx.mk 0 rfl (by omega) ?_))
        try (conv => whnf)
        exact .mk (bad _ b5 0 (by rw [htk, if_neg (by omega), if_neg (by omega), if_pos ⟨by omega, hd⟩, if_pos (sameB_t hfb)]))
    · have he : s.take p inc f = (0, { s with kept := s.kept.set p ⟨inc, f⟩ }) := by rw [htk, if_neg (by omega), if_neg (by omega), if_neg (by omega)]
      repeat (conv => whnf
              first
              | (refine VLoad.mk _ a0 ?_)
              | (refine VLoad.mk _ a1 ?_)
              | (refine VLoad.mk _ e0 ?_)
              | (refine VLoad.mk _ a5 ?_)
              | (refine VLoad.mk _ (Lf.at b4) ?_)
              | (refine VCmp.tt (by omega) ?_)
              | (refine VCmp.ff (by omega) ?_)
              | (refine VIn.mk (IntWalk.i64_in _ (by omega)) ?_)
              | (refine VIdx.mk _ rfl (by omega) ?_)
              | (refine VIdx.mk 0 rfl (by omega) ?_))
      try (conv => whnf)
      have hiv2 := take_sinv h.inv p inc f
      rw [he] at hiv2
      have b4d : Below wA.heap.size wA x4.drew := b4.drew
      obtain ⟨f4, h4, r6, -, -⟩ := hx _ b4d
      have z4 := b4d.size
      refine VDraw.mk 10 [([0, 1, 2, 3, 4, 5, 6], 7), ([8, 9], 10)] [] (fun W => BxS b w.heap.size (.slice (some ⟨g, 0, none⟩) s.n s.n) (flc f.e f.l f.i f.c f.base A f.slots.length cA B f.have_.length cB).toList W) (by kernel_rfl) (by kernel_rfl) (⟨h4.ck, r6⟩) ?_
      repeat (conv => whnf
              first
              | (refine VLoad.mk _ M138 ?_)
              | (refine VLoad.mk _ Mf ?_)
              | (refine VCmp.tt (by omega) ?_)
              | (refine VCmp.ff (by omega) ?_)
              | (refine VIn.mk (IntWalk.i64_in _ (by omega)) ?_)
              | (refine VIdx.mk _ rfl (by omega) ?_)
              | (refine VIdx.mk 0 rfl (by omega) ?_))
      try (conv => whnf)
      refine VCall.mk _ (copyOf_any f A cA B cB N x4.drew (by omega) f4.slots f4.have_ l1 l2) ?_
      rintro e' x5 ⟨A2, c2, B2, d2, rfl, hs2, hh2, hb2⟩
      refine ⟨_, rfl, ?_⟩
      have b5 : Below wA.heap.size wA x5 := b4d.trans (hb2.mono z4)
      have h5 := h4.below hb2
      have t5 : x5.there g (p * 8) 8 := World.there.at h5.kthere (by omega)
      have hfk : FarK x5 F ⟨⟨inc, f⟩, A2, c2, B2, d2⟩ := ⟨RowF.ofOwns hs2 len_eSlot h4.hi, RowF.ofOwns hh2 len_eInt h4.hi, hs2.len.1, hs2.len.2, hh2.len.1, hh2.len.2⟩
      conv => whnf
      refine VS.mk ⟨h5.ck, (hx _ b5).2.2.1⟩ ?_
      repeat (conv => whnf
              first
              | (refine VCmp.tt (by omega) ?_)
              | (refine VCmp.ff (by omega) ?_)
              | (refine VIn.mk (IntWalk.i64_in _ (by omega)) ?_)
              | (refine VIdx.mk _ rfl (by omega) ?_)
              | (refine VIdx.mk 0 rfl (by omega) ?_))
      try (conv => whnf)
      refine VBuild.mk _ (fun W => build173 W inc f.e f.l f.i f.c f.base A2 f.slots.length c2 B2 f.have_.length d2) ?_
      repeat (conv => whnf
              first
              | (refine VCmp.tt (by omega) ?_)
              | (refine VCmp.ff (by omega) ?_)
              | (refine VIn.mk (IntWalk.i64_in _ (by omega)) ?_)
              | (refine VIdx.mk _ rfl (by omega) ?_)
              | (refine VIdx.mk 0 rfl (by omega) ?_))
      try (conv => whnf)
      refine VStore.mid (c := kpA ⟨⟨inc, f⟩, A2, c2, B2, d2⟩) (by rw [Nat.zero_add]; exact t5) (by kernel_rfl) (one_kpA ⟨⟨inc, f⟩, A2, c2, B2, d2⟩) fun x6 hx6 => ?_
      have hx6' : x6 = x5.setCells g (p * 8) (eKp ⟨⟨inc, f⟩, A2, c2, B2, d2⟩) := by rw [hx6.out, Nat.zero_add]; rfl
      have g6 : x5.grownBy x6 (some g) := by rw [hx6']; exact grown_sets _ _ _ _
      have h6 : StV x6 F b g 1 2 { s with kept := s.kept.set p ⟨inc, f⟩ } (ks.set p ⟨⟨inc, f⟩, A2, c2, B2, d2⟩) Mp cM ms := by rw [hx6']; exact h5.put hpn hfk hiv2
      conv => whnf
      refine VS.last rfl ?_
      repeat (conv => whnf
              first
              | (refine VCmp.tt (by omega) ?_)
              | (refine VCmp.ff (by omega) ?_)
              | (refine VIn.mk (IntWalk.i64_in _ (by omega)) ?_)
              | (refine VIdx.mk _ rfl (by omega) ?_)
              | (refine VIdx.mk 0 rfl (by omega) ?_))
      try (conv => whnf)
      exact .mk ⟨by rw [he]; rfl, ⟨_, by rw [he]; exact h6⟩, (World.grownBy.but (grown_below (hx _ b5).2.2.2.1) (some g)).trans g6⟩
  · have he : s.take p inc f = (0, { s with kept := s.kept.set p ⟨inc, f⟩ }) := by rw [htk, if_neg (by omega), if_neg (by omega), if_neg (by omega)]
    repeat (conv => whnf
            first
            | (refine VLoad.mk _ a0 ?_)
            | (refine VLoad.mk _ a1 ?_)
            | (refine VLoad.mk _ e0 ?_)
            | (refine VLoad.mk _ a5 ?_)
            | (refine VLoad.mk _ (Lf.at b4) ?_)
            | (refine VCmp.tt (by omega) ?_)
            | (refine VCmp.ff (by omega) ?_)
            | (refine VIn.mk (IntWalk.i64_in _ (by omega)) ?_)
            | (refine VIdx.mk _ rfl (by omega) ?_)
            | (refine VIdx.mk 0 rfl (by omega) ?_))
    try (conv => whnf)
    have hiv2 := take_sinv h.inv p inc f
    rw [he] at hiv2
    have b4d : Below wA.heap.size wA x4.drew := b4.drew
    obtain ⟨f4, h4, r6, -, -⟩ := hx _ b4d
    have z4 := b4d.size
    refine VDraw.mk 10 [([0, 1, 2, 3, 4, 5, 6], 7), ([8, 9], 10)] [] (fun W => BxS b w.heap.size (.slice (some ⟨g, 0, none⟩) s.n s.n) (flc f.e f.l f.i f.c f.base A f.slots.length cA B f.have_.length cB).toList W) (by kernel_rfl) (by kernel_rfl) (⟨h4.ck, r6⟩) ?_
    repeat (conv => whnf
            first
            | (refine VLoad.mk _ M138 ?_)
            | (refine VLoad.mk _ Mf ?_)
            | (refine VCmp.tt (by omega) ?_)
            | (refine VCmp.ff (by omega) ?_)
            | (refine VIn.mk (IntWalk.i64_in _ (by omega)) ?_)
            | (refine VIdx.mk _ rfl (by omega) ?_)
            | (refine VIdx.mk 0 rfl (by omega) ?_))
    try (conv => whnf)
    refine VCall.mk _ (copyOf_any f A cA B cB N x4.drew (by omega) f4.slots f4.have_ l1 l2) ?_
    rintro e' x5 ⟨A2, c2, B2, d2, rfl, hs2, hh2, hb2⟩
    refine ⟨_, rfl, ?_⟩
    have b5 : Below wA.heap.size wA x5 := b4d.trans (hb2.mono z4)
    have h5 := h4.below hb2
    have t5 : x5.there g (p * 8) 8 := World.there.at h5.kthere (by omega)
    have hfk : FarK x5 F ⟨⟨inc, f⟩, A2, c2, B2, d2⟩ := ⟨RowF.ofOwns hs2 len_eSlot h4.hi, RowF.ofOwns hh2 len_eInt h4.hi, hs2.len.1, hs2.len.2, hh2.len.1, hh2.len.2⟩
    conv => whnf
    refine VS.mk ⟨h5.ck, (hx _ b5).2.2.1⟩ ?_
    repeat (conv => whnf
            first
            | (refine VCmp.tt (by omega) ?_)
            | (refine VCmp.ff (by omega) ?_)
            | (refine VIn.mk (IntWalk.i64_in _ (by omega)) ?_)
            | (refine VIdx.mk _ rfl (by omega) ?_)
            | (refine VIdx.mk 0 rfl (by omega) ?_))
    try (conv => whnf)
    refine VBuild.mk _ (fun W => build173 W inc f.e f.l f.i f.c f.base A2 f.slots.length c2 B2 f.have_.length d2) ?_
    repeat (conv => whnf
            first
            | (refine VCmp.tt (by omega) ?_)
            | (refine VCmp.ff (by omega) ?_)
            | (refine VIn.mk (IntWalk.i64_in _ (by omega)) ?_)
            | (refine VIdx.mk _ rfl (by omega) ?_)
            | (refine VIdx.mk 0 rfl (by omega) ?_))
    try (conv => whnf)
    refine VStore.mid (c := kpA ⟨⟨inc, f⟩, A2, c2, B2, d2⟩) (by rw [Nat.zero_add]; exact t5) (by kernel_rfl) (one_kpA ⟨⟨inc, f⟩, A2, c2, B2, d2⟩) fun x6 hx6 => ?_
    have hx6' : x6 = x5.setCells g (p * 8) (eKp ⟨⟨inc, f⟩, A2, c2, B2, d2⟩) := by rw [hx6.out, Nat.zero_add]; rfl
    have g6 : x5.grownBy x6 (some g) := by rw [hx6']; exact grown_sets _ _ _ _
    have h6 : StV x6 F b g 1 2 { s with kept := s.kept.set p ⟨inc, f⟩ } (ks.set p ⟨⟨inc, f⟩, A2, c2, B2, d2⟩) Mp cM ms := by rw [hx6']; exact h5.put hpn hfk hiv2
    conv => whnf
    refine VS.last rfl ?_
    repeat (conv => whnf
            first
            | (refine VCmp.tt (by omega) ?_)
            | (refine VCmp.ff (by omega) ?_)
            | (refine VIn.mk (IntWalk.i64_in _ (by omega)) ?_)
            | (refine VIdx.mk _ rfl (by omega) ?_)
            | (refine VIdx.mk 0 rfl (by omega) ?_))
    try (conv => whnf)
    exact .mk ⟨by rw [he]; rfl, ⟨_, by rw [he]; exact h6⟩, (World.grownBy.but (grown_below (hx _ b5).2.2.2.1) (some g)).trans g6⟩
end Go.Proofs.Ytcffhfcjfjfokaa
