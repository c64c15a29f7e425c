/- TmK2 TmL, joined. -/
import Derived.Test.YtfbeggdbjpmppaaMg12
set_option linter.unusedVariables false
set_option linter.unusedSimpArgs false
namespace Go.Proofs.Ytfbeggdbjpmppaa
open Go Go.RowKit
theorem rngPut {w : World} {b n o : Nat} {l vs : List Value} (h : w.rangeAt b 0 l) (ht : w.there b 0 n) (hl : l.length = n) (ho : o + vs.length ≤ n) : (w.setCells b o vs).rangeAt b 0 (l.take o ++ vs ++ l.drop (o + vs.length)) := fun j u hu => by
  rw [Nat.zero_add]
  by_cases h1 : j < o
  · rw [List.getElem?_append_left (by rw [List.length_append, List.length_take_of_le (by omega)]; omega), List.getElem?_append_left (by rw [List.length_take_of_le (by omega)]; exact h1), List.getElem?_take_of_lt h1] at hu
    exact cell_out (by have := h j u hu; rwa [Nat.zero_add] at this) (.inl h1)
  · by_cases h2 : j < o + vs.length
    · rw [List.getElem?_append_left (by rw [List.length_append, List.length_take_of_le (by omega)]; omega), List.getElem?_append_right (by rw [List.length_take_of_le (by omega)]; omega), List.length_take_of_le (by omega)] at hu
      have := cell_in (i := j - o) ht ho hu
      rwa [show o + (j - o) = j by omega] at this
    · rw [List.getElem?_append_right (by rw [List.length_append, List.length_take_of_le (by omega)]; omega), List.length_append, List.length_take_of_le (by omega), List.getElem?_drop, show o + vs.length + (j - (o + vs.length)) = j by omega] at hu
      exact cell_out (by have := h j u hu; rwa [Nat.zero_add] at this) (.inr (by omega))
section
variable {R : Nat → Prop} {K K' : Nat → Nat} {w w1 w2 w' : World} {h z m i : Nat} {t : Tm} {X : TX}
theorem Owns.blk_of {α : Type} {w : World} {base sz c : Nat} {e : TypeId} {enc : α → List Value} {A : Option Addr} {l : List α} (h : Owns w base e sz enc A c l) (h0 : 0 < l.length) : ∃ g, A = some ⟨g, 0, none⟩ ∧ g < w.heap.size := by
  obtain ⟨g, cap, hv, _, hg⟩ := World.ownsRow.form h h0
  exact ⟨g, by injection hv, hg⟩
def roleN (K : Nat → Nat) (A' : Option Addr) (r : Nat) : Nat → Nat := fun b => if blk A' = some b then r else K b
theorem roleN_old {A A' : Option Addr} {r : Nat} (hA : blk A' = blk A ∨ blk A' = some w.heap.size) (hr : ∀ b, blk A = some b → K b = r) : ∀ b, b < w.heap.size → roleN K A' r b = K b := fun b hb => by
  unfold roleN
  split
  · rename_i e
    rcases hA with h1 | h1
    · exact (hr b (h1 ▸ e)).symm
    · rw [h1] at e; injection e with e; omega
  · rfl
theorem Ro.app {A A' : Option Addr} {r : Nat} (hg : w.grownBy w' (blk A)) (hA : blk A' = blk A ∨ blk A' = some w.heap.size) (hr : ∀ b, blk A = some b → K b = r) : Ro (· = r) K (roleN K A' r) w w' :=
  (Ro.grown hg fun b hb => hr b hb).role (roleN_old hA hr)
theorem roleN_zero {α : Type} {A' : Option Addr} {r sz c : Nat} {e : TypeId} {enc : α → List Value} {l : List α} (hO : Owns w' 0 e sz enc A' c l) (kz : ∀ b, w.heap.size ≤ b → K b = 0) (hs : w.heap.size ≤ w'.heap.size) : ∀ b, w'.heap.size ≤ b → roleN K A' r b = 0 := fun b hb => by
  unfold roleN
  split
  · rename_i e; have := (hO.lo b e).2; omega
  · exact kz b (by omega)
theorem OwnR.moved {α : Type} {A' : Option Addr} {r sz c : Nat} {e : TypeId} {enc : α → List Value} {l : List α} (hO : Owns w' 0 e sz enc A' c l) : OwnR w' (roleN K A' r) r e sz enc A' c l := ⟨hO, fun b hb => by unfold roleN; rw [if_pos hb]⟩
theorem len_eSl (v : EvX) : (eSl v).length = 1 := rfl
theorem len_eSa (n : Nat) (y : SaX) : (eSa n y).length = 10 := rfl
theorem len_eDn (y : DnX) : (eDn y).length = 12 := rfl
theorem len_ePtr (o : Option Nat) : (ePtr o).length = 1 := rfl
theorem TmM.evpush (T : TmM w K h z m t X) (hi : i < z) {A' : Option Addr} {c' eb o : Nat} {y : SaX} (hO : Owns w1 0 33 10 (eSa t.n) A' c' ((X.ev i).l ++ [y])) (hg : w.grownBy w1 (blk (X.ev i).A)) (hA : blk A' = blk (X.ev i).A ∨ blk A' = some w.heap.size)
    (hS : RowK w K 1 eInt y.S (y.x.w.set.take t.n)) (hV : RowK w K 1 eInt y.V (y.x.w.vec.take t.n)) (heb : X.eA = some ⟨eb, 0, none⟩) (ho : o = i) (hw2 : w2 = w1.setCell ⟨eb, o, none⟩ (.slice A' ((X.ev i).l.length + 1) c')) :
    TmM w2 (roleN K A' (11 + 2 * i)) h z m { t with E := addE t.E i y.x } { X with ev := fun k => if k = i then ⟨A', c', (X.ev i).l ++ [y]⟩ else X.ev k } ∧ Ro (fun r => r = 11 + 2 * i ∨ r = 4) K (roleN K A' (11 + 2 * i)) w w2 := by
  subst ho
  have ev := T.ev o hi
  have q1 : Ro (· = 11 + 2 * o) K (roleN K A' (11 + 2 * o)) w w1 := Ro.app hg hA ev.own.rl
  have a4 := T.a4.ro q1 (by omega)
  have k4 : roleN K A' (11 + 2 * o) eb = 4 := a4.rl eb (by rw [heb]; rfl)
  have q2 : Ro (· = 4) (roleN K A' (11 + 2 * o)) (roleN K A' (11 + 2 * o)) w1 w2 := by rw [hw2]; exact Ro.cell k4 _ _
  have q : Ro (fun r => r = 11 + 2 * o ∨ r = 4) K (roleN K A' (11 + 2 * o)) w w2 := (q1.more fun r e => .inl e).trans (q2.more fun r e => .inr e)
  have hb := q.same h T.hs (by rw [T.hk]; omega)
  have hO2 : OwnR w2 (roleN K A' (11 + 2 * o)) (11 + 2 * o) 33 10 (eSa t.n) A' c' ((X.ev o).l ++ [y]) := (OwnR.moved hO).ro q2 (by omega)
  refine ⟨⟨fun b hb => roleN_zero hO T.kz q1.size b (Nat.le_trans q2.size hb), Nat.lt_of_lt_of_le T.hs q.size, (q.kk h T.hs).trans T.hk, range_same T.hr hb, there_same T.ht hb, T.a2.ro q (by omega), T.a3.ro q (by omega), ?_, T.a5.ro q (by omega), T.dm, fun y hy => ⟨(T.dr y hy).1.ro q (by omega), (T.dr y hy).2.ro q (by omega)⟩, fun j hj => (T.ag j hj).ro q (by omega) (by omega), T.de, fun j hj => ?_⟩, q⟩
  · have hAx := heb
    have h4 := a4.own
    rw [hAx] at h4
    have := h4.sets (k := o) len_eSl (by simpa using hi) ⟨A', c', (X.ev o).l ++ [y]⟩
    rw [map_set] at this
    refine ⟨?_, ?_⟩
    · show Owns w2 0 34 1 eSl X.eA X.ec _
      rw [hAx, hw2]
      rw [Nat.mul_one] at this
      have e : (eSl ⟨A', c', (X.ev o).l ++ [y]⟩ : List Value) = [.slice A' ((X.ev o).l.length + 1) c'] := by simp [eSl]
      rw [e] at this
      exact this
    · intro b hb2
      have hb3 : blk X.eA = some b := hb2
      rw [hAx] at hb3
      injection hb3 with hb3
      rw [← hb3]; exact k4
  · by_cases e : j = o
    · subst e
      show EvK w2 _ t.n j (if j = j then _ else X.ev j) (addE t.E j y.x j)
      rw [if_pos rfl, addE_same]
      refine ⟨hO2, by show ((X.ev j).l ++ [y]).map (·.x) = _; rw [List.map_append, ev.mp]; rfl, fun u hu => ?_⟩
      rcases List.mem_append.1 hu with hu | hu
      · exact ⟨(ev.rows u hu).1.ro q (by omega), (ev.rows u hu).2.ro q (by omega)⟩
      · rw [List.mem_singleton.1 hu]; exact ⟨hS.ro q (by omega), hV.ro q (by omega)⟩
    · show EvK w2 _ t.n j (if j = o then _ else X.ev j) (addE t.E o y.x j)
      rw [if_neg e, addE_ne _ _ e]
      exact (T.ev j hj).ro q (by omega) (by omega)
theorem TmM.dnpush (T : TmM w K h z m t X) {A' : Option Addr} {c' o : Nat} {y : DnX} (hO : Owns w1 0 52 12 eDn A' c' (X.dl ++ [y])) (hg : w.grownBy w1 (blk X.dA)) (hA : blk A' = blk X.dA ∨ blk A' = some w.heap.size)
    (hM : RowK w K 3 eMb y.M y.d.mem) (hT : RowK w K 1 eInt y.T y.d.tr) (ho : o = 5) (hw2 : w2 = w1.setCell ⟨h, o, none⟩ (.slice A' (X.dl.length + 1) c')) :
    TmM w2 (roleN K A' 5) h z m { t with D := t.D ++ [y.d] } { X with dA := A', dc := c', dl := X.dl ++ [y] } ∧ Ro (fun r => r = 5 ∨ r = 1) K (roleN K A' 5) w w2 := by
  subst ho
  have q1 : Ro (· = 5) K (roleN K A' 5) w w1 := Ro.app hg hA T.a5.rl
  have k1 : roleN K A' 5 h = 1 := (q1.kk h T.hs).trans T.hk
  have q2 : Ro (· = 1) (roleN K A' 5) (roleN K A' 5) w1 w2 := by rw [hw2]; exact Ro.cell k1 _ _
  have q : Ro (fun r => r = 5 ∨ r = 1) K (roleN K A' 5) w w2 := (q1.more fun r e => .inl e).trans (q2.more fun r e => .inr e)
  have hb1 := q1.same h T.hs (by rw [T.hk]; omega)
  have hr1 : w1.rangeAt h 0 (tmL t z X) := range_same T.hr hb1
  have ht1 : w1.there h 0 7 := there_same T.ht hb1
  refine ⟨⟨fun b hb => roleN_zero hO T.kz q1.size b (Nat.le_trans q2.size hb), Nat.lt_of_lt_of_le T.hs q.size, k1, ?_, by rw [hw2]; exact there_set ht1 _ _, T.a2.ro q (by omega), T.a3.ro q (by omega), T.a4.ro q (by omega), (OwnR.moved hO).ro q2 (by omega), by show (X.dl ++ [y]).map (·.d) = t.D ++ [y.d]; rw [List.map_append, T.dm]; rfl, fun u hu => ?_, fun j hj => (T.ag j hj).ro q (by omega) (by omega), T.de, fun j hj => (T.ev j hj).ro q (by omega) (by omega)⟩, q⟩
  · have := rngPut (o := 5) (vs := [.slice A' (X.dl.length + 1) c']) hr1 ht1 rfl (by simp)
    show w2.rangeAt h 0 [.int .i64 t.n, .int .i64 t.fl, .slice X.tA z X.tc, .slice X.iA z X.ic, .slice X.eA z X.ec, .slice A' (X.dl ++ [y]).length c', .bool t.sp]
    rw [hw2, List.length_append]
    exact this
  · rcases List.mem_append.1 hu with hu | hu
    · exact ⟨(T.dr u hu).1.ro q (by omega), (T.dr u hu).2.ro q (by omega)⟩
    · rw [List.mem_singleton.1 hu]; exact ⟨hM.ro q (by omega), hT.ro q (by omega)⟩
theorem TmM.spset (T : TmM w K h z m t X) {o : Nat} (ho : o = 6) (b : Bool) (hw2 : w2 = w.setCell ⟨h, o, none⟩ (.bool b)) : TmM w2 K h z m { t with sp := b } X ∧ Ro (· = 1) K K w w2 := by
  subst ho
  have q : Ro (· = 1) K K w w2 := by rw [hw2]; exact Ro.cell T.hk _ _
  refine ⟨⟨fun b hb => T.kz b (Nat.le_trans q.size hb), Nat.lt_of_lt_of_le T.hs q.size, T.hk, ?_, by rw [hw2]; exact there_set T.ht _ _, T.a2.ro q (by omega), T.a3.ro q (by omega), T.a4.ro q (by omega), T.a5.ro q (by omega), T.dm, fun u hu => ⟨(T.dr u hu).1.ro q (by omega), (T.dr u hu).2.ro q (by omega)⟩, fun j hj => (T.ag j hj).ro q (by omega) (by omega), T.de, fun j hj => (T.ev j hj).ro q (by omega) (by omega)⟩, q⟩
  have := rngPut (o := 6) (vs := [.bool b]) T.hr T.ht rfl (by simp)
  rw [hw2]; exact this
theorem TmM.bootm (T : TmM w K h z m t X) (hi : i < z) (him : i ≤ m) {g tb ib o o' : Nat} {s : St} (hw1 : Below w.heap.size w w1) (hg1 : w.heap.size ≤ g) (hg2 : g < w1.heap.size) (ha : AgAt w1 g s none 0) (hmem : s.mem = []) (hinc : s.inc = (t.S i).inc + 1)
    (htb : X.tA = some ⟨tb, 0, none⟩) (hib : X.iA = some ⟨ib, 0, none⟩) (ho : o = i) (ho' : o' = i) (hw2 : w2 = w1.setCell ⟨tb, o, none⟩ (.pointer (some ⟨g, 0, none⟩))) (hw' : w' = w2.setCell ⟨ib, o', none⟩ (.int .i64 s.inc)) :
    ∃ K', TmM w' K' h z (max m (i + 1)) { t with S := upS t.S i s } { X with ag := fun k => if k = i then g else X.ag k, M := fun k => if k = i then none else X.M k, cM := fun k => if k = i then 0 else X.cM k } ∧ Ro (fun r => r = 2 ∨ r = 3) K K' w w' := by
  subst ho; subst ho'
  have T1 := T.below hw1
  have hz := hw1.size
  obtain ⟨K', hK'⟩ : ∃ K' : Nat → Nat, K' = fun b => if b = g then 10 + 2 * o' else K b := ⟨_, rfl⟩
  have hk : ∀ b, b ≠ g → K' b = K b := fun b hb => by rw [hK']; exact if_neg hb
  have hkg : K' g = 10 + 2 * o' := by rw [hK']; exact if_pos rfl
  have kold : ∀ b, b < w.heap.size → K' b = K b := fun b hb => hk b (by omega)
  have q0 : Ro (fun r => r = 2 ∨ r = 3) K K' w w1 := (Ro.below hw1).role kold
  have ktb : K' tb = 2 := by
    have h1 := T.a2.rl tb (by rw [htb]; rfl)
    rw [kold tb (T.a2.own.lo tb (by rw [htb]; rfl)).2]; exact h1
  have kib : K' ib = 3 := by
    have h1 := T.a3.rl ib (by rw [hib]; rfl)
    rw [kold ib (T.a3.own.lo ib (by rw [hib]; rfl)).2]; exact h1
  have q1 : Ro (fun r => r = 2 ∨ r = 3) K' K' w1 w2 := by rw [hw2]; exact Ro.cell (.inl ktb) _ _
  have q2 : Ro (fun r => r = 2 ∨ r = 3) K' K' w2 w' := by rw [hw']; exact Ro.cell (.inr kib) _ _
  have q : Ro (fun r => r = 2 ∨ r = 3) K K' w w' := (q0.trans q1).trans q2
  have q1a : Ro (· = 2) K' K' w1 w2 := by rw [hw2]; exact Ro.cell ktb _ _
  have q2a : Ro (· = 3) K' K' w2 w' := by rw [hw']; exact Ro.cell kib _ _
  have q12 : Ro (fun r => r = 2 ∨ r = 3) K' K' w1 w' := q1.trans q2
  have hb := q.same h T.hs (by rw [T.hk]; omega)
  have q01 : Ro (fun _ => False) K K' w w1 := (Ro.below hw1).role kold
  refine ⟨K', ⟨fun b hb => ?_, Nat.lt_of_lt_of_le T.hs q.size, (q.kk h T.hs).trans T.hk, range_same T.hr hb, there_same T.ht hb, ?_, ?_, T.a4.ro q (by omega), T.a5.ro q (by omega), T.dm, fun y hy => ⟨(T.dr y hy).1.ro q (by omega), (T.dr y hy).2.ro q (by omega)⟩, fun j hj => ?_, fun j hj => ?_, fun j hj => (T.ev j hj).ro q (by omega) (by omega)⟩, q⟩
  · have := q12.size
    rw [hk b (by omega)]; exact T.kz b (by omega)
  · have h2 := (T.a2.ro q01 id).own
    rw [htb] at h2
    have h3 := h2.sets (k := o') len_ePtr (by simpa [ptrs] using hi) (some g)
    unfold ptrs at h3
    rw [map_set, Nat.mul_one] at h3
    have h4 : OwnR w2 K' 2 48 1 ePtr (some ⟨tb, 0, none⟩) X.tc ((List.range z).map fun k => if k = o' then some g else if k < m then some (X.ag k) else none) := by
      rw [hw2]; exact ⟨h3, fun b hb2 => by injection hb2 with hb2; rw [← hb2]; exact ktb⟩
    have h5 := h4.ro q2a (by omega)
    show OwnR w' K' 2 48 1 ePtr X.tA X.tc (ptrs z (max m (o' + 1)) fun k => if k = o' then g else X.ag k)
    rw [htb]
    have e : ptrs z (max m (o' + 1)) (fun k => if k = o' then g else X.ag k) = (List.range z).map fun k => if k = o' then some g else if k < m then some (X.ag k) else none := by
      unfold ptrs
      refine List.map_congr_left fun k _ => ?_
      by_cases e : k = o'
      · rw [if_pos (by omega)]; dsimp only; rw [if_pos e, if_pos e]
      · dsimp only
        rw [if_neg e, if_neg e]
        by_cases e2 : k < m
        · rw [if_pos (by omega), if_pos e2]
        · rw [if_neg (by omega), if_neg e2]
    rw [e]; exact h5
  · have h2 := ((T.a3.ro q01 id).ro q1a (by omega)).own
    rw [hib] at h2
    have h3 := h2.sets (k := o') (enc := eInt) (sz := 1) (fun _ => rfl) (by simpa [incs] using hi) s.inc
    unfold incs at h3
    rw [map_set, Nat.mul_one] at h3
    show OwnR w' K' 3 3 1 eInt X.iA X.ic (incs z (upS t.S o' s))
    rw [hib]
    have e : incs z (upS t.S o' s) = (List.range z).map fun k => if k = o' then s.inc else (t.S k).inc := by
      unfold incs
      refine List.map_congr_left fun k _ => ?_
      unfold upS
      split <;> rfl
    rw [e, hw']
    exact ⟨h3, fun b hb2 => by injection hb2 with hb2; rw [← hb2]; exact kib⟩
  · by_cases e : j = o'
    · subst e
      show AgK w' K' j (if j = j then g else X.ag j) (upS t.S j s j) (if j = j then none else X.M j) (if j = j then 0 else X.cM j)
      rw [if_pos rfl, if_pos rfl, if_pos rfl, upS_same]
      exact ⟨ha.same (q12.same g hg2 (by rw [hkg]; omega)), Nat.lt_of_lt_of_le hg2 q12.size, hkg, fun h0 => by rw [hmem] at h0; exact absurd h0 (by simp)⟩
    · show AgK w' K' j (if j = o' then g else X.ag j) (upS t.S o' s j) (if j = o' then none else X.M j) (if j = o' then 0 else X.cM j)
      rw [if_neg e, if_neg e, if_neg e, upS_ne _ _ e]
      exact (T.ag j (by omega)).ro q (by omega) (by omega)
  · show (upS t.S o' s j).inc = 0
    rw [upS_ne _ _ (by omega)]; exact T.de j (by omega)
end
end Go.Proofs.Ytfbeggdbjpmppaa
namespace Go.Proofs.Ytfbeggdbjpmppaa
open Go Go.RowKit
def Sm (l : List Nat) (w W : World) : Prop := ∀ b ∈ l, W.heap[b]? = w.heap[b]?
theorem Sm.refl (l : List Nat) (w : World) : Sm l w w := fun _ _ => rfl
theorem Sm.drew {l : List Nat} {w W : World} (h : Sm l w W) : Sm l w W.drew := h
theorem Sm.below {l : List Nat} {w W : World} (hb : Below w.heap.size w W) (hl : ∀ b ∈ l, b < w.heap.size) : Sm l w W := fun b h => hb.block b (hl b h)
theorem Sm.trans {l : List Nat} {w W V : World} (h : Sm l w W) (h' : Sm l W V) : Sm l w V := fun b hb => (h' b hb).trans (h b hb)
theorem Sm.grown {l : List Nat} {w W : World} {row : Option Nat} (hg : w.grownBy W row) (hl : ∀ b ∈ l, b < w.heap.size ∧ some b ≠ row) : Sm l w W := fun b h => hg.block b (hl b h).1 (hl b h).2
theorem load34 {w : World} {b o n c : Nat} {A : Option Addr} (h : w.cell? ⟨b, o, none⟩ = some (.slice A n c)) : (loadVar 34 ⟨b, o, none⟩).run Try.prog w = .ok (.slice A n c) w := by go_simp
theorem load35 {w : World} {b o n c : Nat} {A : Option Addr} (h : w.cell? ⟨b, o, none⟩ = some (.slice A n c)) : (loadVar 35 ⟨b, o, none⟩).run Try.prog w = .ok (.slice A n c) w := by go_simp
theorem load36 {w : World} {b o n c : Nat} {A : Option Addr} (h : w.cell? ⟨b, o, none⟩ = some (.slice A n c)) : (loadVar 36 ⟨b, o, none⟩).run Try.prog w = .ok (.slice A n c) w := by go_simp
theorem load37 {w : World} {b o n c : Nat} {A : Option Addr} (h : w.cell? ⟨b, o, none⟩ = some (.slice A n c)) : (loadVar 37 ⟨b, o, none⟩).run Try.prog w = .ok (.slice A n c) w := by go_simp
theorem load48 {w : World} {b o : Nat} {A : Option Addr} (h : w.cell? ⟨b, o, none⟩ = some (.pointer A)) : (loadVar 48 ⟨b, o, none⟩).run Try.prog w = .ok (.pointer A) w := by go_simp
theorem load4 {w : World} {b o : Nat} {v : Bool} (h : w.cell? ⟨b, o, none⟩ = some (.bool v)) : (loadVar 4 ⟨b, o, none⟩).run Try.prog w = .ok (.bool v) w := by go_simp
abbrev saA (n : Nat) (x : Lt) (S : Option Addr) (cS : Nat) (V : Option Addr) (cV : Nat) : Array Value := #[.int .i64 x.inc, .slice S n cS, .int .i64 x.w.cid, .int .i64 x.w.rev, .int .i64 x.w.top, .int .i64 x.w.prev.e, .int .i64 x.w.prev.l, .int .i64 x.w.prev.i, .int .i64 x.w.prev.c, .slice V n cV]
abbrev dnA (d : Dn) (M : Option Addr) (cM : Nat) (T : Option Addr) (cT : Nat) : Array Value := #[.int .i64 d.pid, .int .i64 d.inc, .int .i64 d.frm.e, .int .i64 d.frm.l, .int .i64 d.frm.i, .int .i64 d.frm.c, .int .i64 d.v.e, .int .i64 d.v.l, .int .i64 d.v.i, .int .i64 d.v.c, .slice M d.mem.length cM, .slice T d.tr.length cT]
theorem one_eSa (n : Nat) (y : SaX) : ∀ u ∈ eSa n y, u.oneCell' = true := by
  intro u hu
  simp only [eSa, List.mem_cons, List.not_mem_nil, or_false] at hu
  rcases hu with rfl | rfl | rfl | rfl | rfl | rfl | rfl | rfl | rfl | rfl <;> rfl
theorem one_eDn (y : DnX) : ∀ u ∈ eDn y, u.oneCell' = true := by
  intro u hu
  simp only [eDn, List.mem_cons, List.not_mem_nil, or_false] at hu
  rcases hu with rfl | rfl | rfl | rfl | rfl | rfl | rfl | rfl | rfl | rfl | rfl | rfl <;> rfl
theorem one_ePtr (o : Option Nat) : ∀ u ∈ ePtr o, u.oneCell' = true := by intro u hu; rw [List.mem_singleton.1 hu]; rfl
theorem one_eSl (v : EvX) : ∀ u ∈ eSl v, u.oneCell' = true := by intro u hu; rw [List.mem_singleton.1 hu]; rfl
theorem info33 : (Try.prog.info? 33).map (fun i => (i.zero, i.size, i.bytes)) = some (some (.agg #[.int .i64 0, .slice none 0 0, .int .i64 0, .int .i64 0, .int .i64 0, .int .i64 0, .int .i64 0, .int .i64 0, .int .i64 0, .slice none 0 0]), 10, 112) := by kernel_rfl
theorem info34 : (Try.prog.info? 34).map (fun i => (i.zero, i.size, i.bytes)) = some (some (.slice none 0 0), 1, 24) := by kernel_rfl
theorem info48 : (Try.prog.info? 48).map (fun i => (i.zero, i.size, i.bytes)) = some (some (.pointer none), 1, 8) := by kernel_rfl
theorem info52 : (Try.prog.info? 52).map (fun i => (i.zero, i.size, i.bytes)) = some (some (.agg #[.int .i64 0, .int .i64 0, .int .i64 0, .int .i64 0, .int .i64 0, .int .i64 0, .int .i64 0, .int .i64 0, .int .i64 0, .int .i64 0, .slice none 0 0, .slice none 0 0]), 12, 128) := by kernel_rfl
def zero31 : Value := .agg #[.slice none 0 0, .int .i64 0, .int .i64 0, .int .i64 0, .int .i64 0, .int .i64 0, .int .i64 0, .int .i64 0, .slice none 0 0]
theorem run_zero31 (W : World) : (zeroValue 31).run Try.prog W = .ok zero31 W := by kernel_rfl
theorem build33 (W : World) (n : Nat) (inc : Int) (o : Wish) (S : Option Addr) (cS : Nat) (V : Option Addr) (cV : Nat) : (Instr.build 33 #[(0, .int .i64 inc), (1, .agg (propA o S cS V cV n))]).run Try.prog W = .ok (.agg (saA n ⟨inc, o⟩ S cS V cV)) W := by kernel_rfl
theorem bs34 (W : World) (n : Nat) (x : Lt) (S : Option Addr) (cS : Nat) (V : Option Addr) (cV : Nat) : (Instr.buildSlice 34 1 #[(0, .agg (saA n x S cS V cV))]).run Try.prog W = .ok (.slice (some ⟨W.heap.size, 0, none⟩) 1 1) (W.alloc (.cells (saA n x S cS V cV) 33)) := by kernel_rfl
theorem Owns.thereN {α : Type} {w : World} {base c sz g : Nat} {e : TypeId} {enc : α → List Value} {l : List α} (h : Owns w base e sz enc (some ⟨g, 0, none⟩) c l) (hsz : ∀ x, (enc x).length = sz) : w.there g 0 (l.length * sz) := fun j hj => by
  rw [Nat.zero_add]
  refine ⟨?_, World.ownsRow.frozenAt h j⟩
  rw [World.ownsRow.cellAt h j hj, List.getElem?_eq_getElem (by rw [length_flat hsz]; exact hj)]; rfl
section
variable {K : Nat → Nat} {w : World} {h z m i : Nat} {t : Tm} {X : TX} {l : List Nat}
theorem cell_sm {b o : Nat} {v : Value} {W : World} (hc : w.cell? ⟨b, o, none⟩ = some v) (hl : b ∈ l) (hW : Sm l w W) : W.cell? ⟨b, o, none⟩ = some v := (World.cell?_of_block (a := ⟨b, o, none⟩) (hW b hl)).trans hc
theorem TmM.l_n (T : TmM w K h z m t X) (hl : h ∈ l) : Ld Try.prog 3 h 0 (Sm l w) (.int .i64 t.n) := ⟨fun _ hW => load3 (cell_sm (T.hr 0 _ rfl) hl hW)⟩
theorem TmM.l_fl (T : TmM w K h z m t X) (hl : h ∈ l) : Ld Try.prog 3 h 1 (Sm l w) (.int .i64 t.fl) := ⟨fun _ hW => load3 (cell_sm (T.hr 1 _ rfl) hl hW)⟩
theorem TmM.l_al (T : TmM w K h z m t X) (hl : h ∈ l) : Ld Try.prog 37 h 5 (Sm l w) (.slice X.dA X.dl.length X.dc) := ⟨fun _ hW => load37 (cell_sm (T.hr 5 _ rfl) hl hW)⟩
theorem TmM.l_sp (T : TmM w K h z m t X) (hl : h ∈ l) : Ld Try.prog 4 h 6 (Sm l w) (.bool t.sp) := ⟨fun _ hW => load4 (cell_sm (T.hr 6 _ rfl) hl hW)⟩
structure Bks (w : World) (X : TX) (tb ib eb : Nat) : Prop where
  t : X.tA = some ⟨tb, 0, none⟩
  i : X.iA = some ⟨ib, 0, none⟩
  e : X.eA = some ⟨eb, 0, none⟩
  tz : tb < w.heap.size
  iz : ib < w.heap.size
  ez : eb < w.heap.size
theorem TmM.bks (T : TmM w K h z m t X) (hz : 0 < z) : ∃ tb ib eb, Bks w X tb ib eb ∧ K tb = 2 ∧ K ib = 3 ∧ K eb = 4 := by
  obtain ⟨tb, h1, h2⟩ := T.a2.own.blk_of (by simpa [ptrs] using hz)
  obtain ⟨ib, h3, h4⟩ := T.a3.own.blk_of (by simpa [incs] using hz)
  obtain ⟨eb, h5, h6⟩ := T.a4.own.blk_of (by simpa using hz)
  exact ⟨tb, ib, eb, ⟨h1, h3, h5, h2, h4, h6⟩, T.a2.rl tb (by rw [h1]; rfl), T.a3.rl ib (by rw [h3]; rfl), T.a4.rl eb (by rw [h5]; rfl)⟩
theorem own_cell {α : Type} {w : World} {r : Nat} {K : Nat → Nat} {e : TypeId} {sz c g : Nat} {enc : α → List Value} {xs : List α} (o : OwnR w K r e sz enc (some ⟨g, 0, none⟩) c xs) (hsz : ∀ x, (enc x).length = sz) {k : Nat} {x : α} (hx : xs[k]? = some x) : w.rangeAt g (0 + k * sz) (enc x) := by
  obtain ⟨g', e1, h⟩ := o.own.cell hsz hx
  injection e1 with e1; injection e1 with e1
  rw [Nat.zero_add, e1]; exact h
theorem map_range {β : Type} (f : Nat → β) {z i : Nat} (hi : i < z) : ((List.range z).map f)[i]? = some (f i) := by rw [List.getElem?_map, List.getElem?_range hi]; rfl
variable {tb ib eb : Nat}
theorem TmM.l_at (T : TmM w K h z m t X) (B : Bks w X tb ib eb) (hl : h ∈ l) : Ld Try.prog 35 h 2 (Sm l w) (.slice (some ⟨tb, 0, none⟩) z X.tc) := ⟨fun _ hW => load35 (cell_sm (by rw [← B.t]; exact T.hr 2 _ rfl) hl hW)⟩
theorem TmM.l_inc (T : TmM w K h z m t X) (B : Bks w X tb ib eb) (hl : h ∈ l) : Ld Try.prog 27 h 3 (Sm l w) (.slice (some ⟨ib, 0, none⟩) z X.ic) := ⟨fun _ hW => load27 (cell_sm (by rw [← B.i]; exact T.hr 3 _ rfl) hl hW)⟩
theorem TmM.l_ev (T : TmM w K h z m t X) (B : Bks w X tb ib eb) (hl : h ∈ l) : Ld Try.prog 36 h 4 (Sm l w) (.slice (some ⟨eb, 0, none⟩) z X.ec) := ⟨fun _ hW => load36 (cell_sm (by rw [← B.e]; exact T.hr 4 _ rfl) hl hW)⟩
theorem TmM.l_ptr (T : TmM w K h z m t X) (B : Bks w X tb ib eb) (hl : tb ∈ l) (hi : i < m) (hz : i < z) : Ld Try.prog 48 tb (0 + i) (Sm l w) (.pointer (some ⟨X.ag i, 0, none⟩)) := by
  have h2 := T.a2
  rw [B.t] at h2
  have := own_cell h2 len_ePtr (x := some (X.ag i)) (k := i) (by unfold ptrs; rw [map_range _ hz, if_pos hi]) 0 _ rfl
  rw [Nat.mul_one] at this
  exact ⟨fun _ hW => load48 (cell_sm this hl hW)⟩
theorem TmM.l_iv (T : TmM w K h z m t X) (B : Bks w X tb ib eb) (hl : ib ∈ l) (hz : i < z) : Ld Try.prog 3 ib (0 + i) (Sm l w) (.int .i64 (t.S i).inc) := by
  have h2 := T.a3
  rw [B.i] at h2
  have := own_cell h2 (fun _ => rfl) (k := i) (map_range _ hz) 0 _ rfl
  rw [Nat.mul_one] at this
  exact ⟨fun _ hW => load3 (cell_sm this hl hW)⟩
theorem TmM.l_es (T : TmM w K h z m t X) (B : Bks w X tb ib eb) (hl : eb ∈ l) (hz : i < z) : Ld Try.prog 34 eb (0 + i) (Sm l w) (.slice (X.ev i).A (X.ev i).l.length (X.ev i).c) := by
  have h2 := T.a4
  rw [B.e] at h2
  have := own_cell h2 len_eSl (k := i) (map_range _ hz) 0 _ rfl
  rw [Nat.mul_one] at this
  exact ⟨fun _ hW => load34 (cell_sm this hl hW)⟩
theorem EvK.cells {n : Nat} {v : EvX} {E : List Lt} (o : EvK w K n i v E) {g k : Nat} {y : SaX} (hg : v.A = some ⟨g, 0, none⟩) (hy : v.l[k]? = some y) : w.rangeAt g (0 + k * 10) (eSa n y) := by
  have h2 := o.own
  rw [hg] at h2
  exact own_cell h2 (len_eSa n) hy
theorem l_sa {n g o : Nat} {y : SaX} (hr : w.rangeAt g o (eSa n y)) (hl : g ∈ l) : Ld Try.prog 33 g o (Sm l w) (.agg (saA n y.x y.S y.cS y.V y.cV)) := ⟨fun _ hW => load_agg (by kernel_rfl) (by kernel_rfl) (range_same hr (hW g hl))⟩
theorem l_si {n g o : Nat} {y : SaX} (hr : w.rangeAt g o (eSa n y)) (hl : g ∈ l) : Ld Try.prog 3 g o (Sm l w) (.int .i64 y.x.inc) := ⟨fun _ hW => load3 (cell_sm (hr 0 _ rfl) hl hW)⟩
theorem l_sw {n g o : Nat} {y : SaX} (hr : w.rangeAt g o (eSa n y)) (hl : g ∈ l) : Ld Try.prog 31 g (o + 1) (Sm l w) (.agg (propA y.x.w y.S y.cS y.V y.cV n)) := ⟨fun _ hW => load_agg (by kernel_rfl) (by kernel_rfl) (range_sub (n := 9) (range_same hr (hW g hl)) 1 rfl)⟩
end
end Go.Proofs.Ytfbeggdbjpmppaa
