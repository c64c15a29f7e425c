/- append of one element onto a row of the call's own: the shorter row stays, too. -/
import Derived.Test.YtcffhfcjfjfokaaLib
namespace Go.Proofs.Ytcffhfcjfjfokaa
open Go.RowKit
theorem own_prefix {α : Type} {w : World} {base sz c : Nat} {e : TypeId} {enc : α → List Value} {A : Option Addr} {xs ys : List α} (henc : ∀ x, (enc x).length = sz) (h : Owns w base e sz enc A c (xs ++ ys)) (hA : A ≠ none) : Owns w base e sz enc A c xs := by
  have hl := length_flat henc xs
  rcases h.2 with ⟨hv, h0⟩ | ⟨g, cap, cur, hv, hb, hh, h1, h2, h3, h4⟩
  · injection hv with h1; exact absurd h1 hA
  · injection hv with e1 _ e3
    subst e1 e3
    refine ⟨by rw [hl], .inr ⟨g, c, cur, rfl, hb, hh, by rw [List.length_append] at h1; omega, h2, h3, ?_⟩⟩
    rw [List.flatMap_append] at h4
    have : cur.toList.take (xs.length * sz) = (cur.toList.take ((xs ++ ys).length * sz)).take (xs.length * sz) := by
      rw [List.take_take, Nat.min_eq_left]
      rw [List.length_append]; exact Nat.mul_le_mul_right _ (by omega)
    rw [this, h4, ← hl]
    exact List.take_left
section
variable {P : Program} (w : World)
theorem wpList_append_keep {α : Type} {ops : Array Oper} {rest : List Oper} {o : Oper} {a : Act} {Q : Exit → Act → World → Prop} (hgd : o.guard = none) (s x : Operand) (t : TypeId)
    (ho : o.op = .call { callee := .builtin .append, args := #[s, x], argTypes := #[t, t] })
    (base : Nat) (e : TypeId) (sz bytes : Nat) (z : Value) (ht : P.underlying t = some (.slice e)) (hinfo : (P.info? e).map (fun i => (i.zero, i.size, i.bytes)) = some (some z, sz, bytes))
    (hzs : z.cells.size = sz) (hsz : 0 < sz) (enc : α → List Value) (henc : ∀ x, (enc x).length = sz) (hone : ∀ x, ∀ u ∈ enc x, u.oneCell' = true)
    (A : Option Addr) (c : Nat) (xs : List α) (gB cB n : Nat) (y : α) (hs : a.eval s = .slice A n c) (hx : a.eval x = .slice (some ⟨gB, 0, none⟩) 1 cB)
    (hn : xs.length = n) (hown : Owns w base e sz enc A c xs) (hr : ∀ j u, (enc y)[j]? = some u → w.cell? ⟨gB, j, none⟩ = some u)
    (h63 : n + 1 ≤ 9223372036854775807) (hbytes : (n + 1) * bytes ≤ 140737488355328) (hbase : base ≤ w.heap.size)
    (h : ∀ A' c' w', Owns w' base e sz enc A' c' (xs ++ [y]) → Owns w' base e sz enc A c xs → w.grownBy w' (blk A) → (blk A' = blk A ∨ blk A' = some w.heap.size) → wpList P ops Q rest (a.put o.dst (.slice A' (n + 1) c')) w') : wpList P ops Q (o :: rest) a w := by
  subst hn
  obtain ⟨i, hi, hz, hsize, hby⟩ := info_parts hinfo
  have hnews : ∀ j u, (enc y)[j]? = some u → w.cell? ((⟨gB, 0, none⟩ : Addr).add j) = some u := fun j u hu => by
    rw [Addr.add_lit]; simpa using hr j u hu
  have hfm : ([y] : List α).flatMap enc = enc y := by simp
  obtain ⟨v', w', hrun, h2, h3, h5, h4⟩ := run_append_own_at (P := P) w base t o.type e i z sz bytes ht hi hz hsize hby hzs hsz (.slice A xs.length c) xs.length _ hown ⟨gB, 0, none⟩ 1 cB (enc y)
    (by rw [henc, Nat.one_mul]) hnews (hone y) h63 hbytes hbase
  obtain ⟨g', cap', rfl, hg1, hg2⟩ := World.ownsRow.form h2 (by omega)
  simp only [own_blk] at h3 h4
  have hO : Owns w' base e sz enc (some ⟨g', 0, none⟩) cap' (xs ++ [y]) := by unfold Owns; rw [List.flatMap_append, hfm, List.length_append]; exact h2
  have hold : Owns w' base e sz enc A c xs := by
    rcases hown.2 with ⟨hv, h0⟩ | ⟨g, cap, cur, hv, hb, hh, k1, k2, k3, k4⟩
    · injection hv with e1 _ e3
      subst e1 e3
      obtain rfl : xs = [] := List.eq_nil_of_length_eq_zero h0
      exact owns_nil _ _ _ _ _
    · injection hv with e1 _ e3
      subst e1 e3
      by_cases hroom : xs.length + 1 ≤ c
      · have hr' := run_append_room (P := P) w t o.type e i ht hi g xs.length c cur hh ⟨gB, 0, none⟩ 1 cB (enc y) (by rw [henc, hsize, Nat.one_mul]) hnews (hone y) hroom (by rw [henc, k3, hsize]; have := Nat.mul_le_mul_right sz hroom; rw [Nat.add_mul, Nat.one_mul] at this; exact this)
        rw [hrun] at hr'
        injection hr' with e1 e2
        injection e1 with e3 _ e4
        injection e3 with e3; injection e3 with e3
        subst e3 e4
        exact own_prefix henc hO (by simp)
      · have hr' := run_append_grow (P := P) w t o.type e i z ht hi hz ⟨g, 0, none⟩ xs.length c (xs.flatMap enc) (by rw [hsize, length_flat henc]) (hown.cells (g := g) rfl) ⟨gB, 0, none⟩ 1 cB (enc y) (by rw [henc, hsize, Nat.one_mul]) hnews (by omega) (by omega) (growslice_fits (by omega) (by rw [hby]; exact hbytes))
        rw [hrun] at hr'
        injection hr' with _ e2
        rw [e2]
        exact (show Owns w.drew base e sz enc (some ⟨g, 0, none⟩) c xs from hown).alloc _
  refine wpList_plain hgd fun K hK => ?_
  unfold Oper.wp execOp
  simp only [ho, resolve, invoke, builtin, Sem.run_bind, Sem.run_pure, Result.andThen_ok, List.map_toArray, List.map_cons, List.map_nil, hs, hx, hrun]
  exact hK _ _ (h _ _ w' hO hold h3 h4)
end
end Go.Proofs.Ytcffhfcjfjfokaa
