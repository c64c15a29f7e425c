/- Ord Aid Leaving Late, joined. -/
import Derived.Deep.RegionHeld3
import Derived.Test.YtfbeggdbjpmppaaMw1
import Derived.Test.YtfbeggdbjpmppaaMw2
import Derived.Test.YtfbeggdbjpmppaaMw3
set_option linter.unusedVariables false
set_option linter.unusedSimpArgs false
/- A region that draws its order, walked along one way that the prover names: runs of plain operations that may be taken first, and between them single operations that alone may come up. -/
namespace Go.Proofs.Ytfbeggdbjpmppaa
open Go Go.RowKit
section
variable {P : Program} {ops : Array Oper} {md : Region.Mode} {S : World → Prop} {Q : Exit → Act → World → Prop}
/-- Whatever order is picked from here on, and S holds behind every operation other than number z. -/
def wpAnyZ (P : Program) (md : Region.Mode) (ops : Array Oper) (Q : Exit → Act → World → Prop) (S : World → Prop) (z : Nat) : Nat → Array Bool → Act → World → Prop
  | 0, listed, a, w => Region.ready md ops listed = [] ∧ Q .normal a w
  | fuel + 1, listed, a, w =>
    (Region.ready md ops listed = [] → Q .normal a w) ∧
    ∀ i ∈ Region.ready md ops listed, wpOp P ops Q i (fun a' w' => (i = z ∨ S w') ∧ wpAnyZ P md ops Q S z fuel (listed.setIfInBounds i true) a' w') a w
theorem wpAny_of_z {z : Nat} : ∀ (fuel : Nat) (listed : Array Bool) (a : Act) (w : World), wpAnyZ P md ops Q S z fuel listed a w → wpAny P md ops Q fuel listed a w
  | 0, _, _, _, h => h
  | fuel + 1, _, _, _, h => ⟨h.1, fun i hi => wpOp_mono (fun a' w' h' => wpAny_of_z fuel _ a' w' h'.2) (h.2 i hi)⟩
theorem wpAnyZ_first {i z : Nat} {oi : Oper} {v : Value} (hi : ops[i]? = some oi) (hz : ops.size ≤ z ∨ Region.waitsFor md ops z i = true) (hsel : ∀ (j : Nat) (o : Oper) cs b, ops[j]? = some o → o.op ≠ .select cs b)
    (hQ : ∀ c a w, Q (.panic c) (a.put oi.dst v) w → Q (.panic c) a w) :
    ∀ (fuel : Nat) (listed : Array Bool) (a : Act) (w : World),
      (∀ j oj, ops[j]? = some oj → j ≠ i → listed.getD j true = false → (∀ e ∈ oj.after, Region.binds md e = true → e.on ≠ i) → oi.apart ops oj = true) →
      i ∈ Region.ready md ops listed → YieldsIf P ops S oi v a → S w →
      wpAnyZ P md ops Q S z fuel (listed.setIfInBounds i true) (a.put oi.dst v) w → wpAnyZ P md ops Q S z (fuel + 1) listed a w := by
  intro fuel
  induction fuel with
  | zero =>
    intro listed a w _ hr hy hS H
    refine ⟨fun h => (by rw [h] at hr; cases hr), fun j hj => ?_⟩
    by_cases hji : j = i
    · subst hji; exact hy.wpOp hi hS ⟨.inr hS, H⟩
    · have := ready_mono hj hji
      rw [H.1] at this
      cases this
  | succ fuel ih =>
    intro listed a w hfree hr hy hS H
    refine ⟨fun h => (by rw [h] at hr; cases hr), fun j hj => ?_⟩
    by_cases hji : j = i
    · subst hji; exact hy.wpOp hi hS ⟨.inr hS, H⟩
    · have h1 := H.2 j (ready_mono hj hji)
      obtain ⟨hjun, oj, hoj, hall⟩ := mem_ready.1 hj
      have hnot : ∀ e ∈ oj.after, Region.binds md e = true → e.on ≠ i := fun e he hb heq => by
        have h1 := hall e he hb
        have h0 := (mem_ready.1 hr).1
        rw [heq] at h1
        rcases Nat.lt_or_ge i listed.size with h' | h'
        · simp [h'] at h0 h1; rw [h0] at h1; cases h1
        · simp [Array.getElem?_eq_none h'] at h1
      have hjz : j ≠ z := fun e => by
        subst e
        rcases hz with hz | hz
        · have := (Array.getElem?_eq_some_iff.1 hoj).1; omega
        · obtain ⟨o', ho', e, he, hb, hon⟩ := Region.waitsFor_spec hz
          obtain rfl : o' = oj := Option.some.inj (ho'.symm.trans hoj)
          exact hnot e he hb hon
      have h2 := wpOp_putIf hoj (hfree j oj hoj hji hjun hnot) (fun cs b => hsel i oi cs b hi) (fun cs b => hsel j oj cs b hoj) hQ hy h1
      have hfree' : ∀ k ok, ops[k]? = some ok → k ≠ i → (listed.setIfInBounds j true).getD k true = false →
          (∀ e ∈ ok.after, Region.binds md e = true → e.on ≠ i) → oi.apart ops ok = true := fun k ok hk hki hun hno => by
        refine hfree k ok hk hki ?_ hno
        by_cases hjk : j = k
        · subst hjk; exact hjun
        · rw [getD_set_ne true hjk] at hun; exact hun
      refine wpOp_mono (fun a' w' h3 => ⟨h3.2.1, ih (listed.setIfInBounds j true) a' w' hfree' (ready_mono hr (Ne.symm hji)) h3.1 (h3.2.1.resolve_left hjz) ?_⟩) h2
      rw [Array.setIfInBounds_comm _ _ hji]
      exact h3.2.2
/-- One operation of a list. -/
def pick : List Oper → Nat → List Oper
  | [], _ => []
  | o :: _, 0 => [o]
  | _ :: r, i + 1 => pick r i
def picks (l : List Oper) : List Nat → List Oper
  | [] => []
  | i :: r => pick l i ++ picks l r
theorem pick_of : ∀ {l : List Oper} {i : Nat} {o : Oper}, l[i]? = some o → pick l i = [o]
  | [], i, o, h => by simp at h
  | x :: r, 0, o, h => by simp at h; rw [pick, h]
  | x :: r, i + 1, o, h => by rw [pick]; exact pick_of (by simpa using h)
/-- Plain ones that may come up, and so may be taken first. -/
def runB (md : Region.Mode) (ops : Array Oper) (z : Nat) : Array Bool → List Nat → Option (Array Bool)
  | L, [] => some L
  | L, i :: r => if Region.free md ops L i && (Region.ready md ops L).contains i && decide (i < ops.size) && (ops[i]?.map plainB == some true) && (decide (ops.size ≤ z) || Region.waitsFor md ops z i) then runB md ops z (L.setIfInBounds i true) r else none
def segB (md : Region.Mode) (ops : Array Oper) (z : Nat) (last : List Nat) : Array Bool → List (List Nat × Nat) → Bool
  | L, [] => match runB md ops z L last with
    | some L' => decide (Region.ready md ops L' = [])
    | none => false
  | L, (is, i) :: r => match runB md ops z L is with
    | some L' => decide (Region.ready md ops L' = [i]) && decide (i < ops.size) && (decide (i = z → r = [] ∧ last = [])) && segB md ops z last (L'.setIfInBounds i true) r
    | none => false
def ordB (md : Region.Mode) (ops : Array Oper) (z : Nat) (segs : List (List Nat × Nat)) (last : List Nat) : Bool := Region.noSelect ops && segB md ops z last (Array.replicate ops.size false) segs
/-- What is to be shown along the way. -/
def woD (P : Program) (l : List Oper) (z : Nat) (S : World → Prop) (Q : Exit → Act → World → Prop) (last : List Nat) : List (List Nat × Nat) → Act → World → Prop
  | [], a, w => wpQuiet P l.toArray S (fun a' => Q .normal a' w) (picks l last) a
  | (is, i) :: r, a, w => wpQuiet P l.toArray S (fun a' => ∀ o, pick l i = [o] → if Region.wanted o (yielded l.toArray a'.tmps) = true then o.wp P a' w (fun a2 w2 => (i = z ∨ S w2) ∧ woD P l z S Q last r a2 w2) Q else woD P l z S Q last r (a'.put o.dst undef) w) (picks l is) a
structure WO (P : Program) (l : List Oper) (z : Nat) (S : World → Prop) (Q : Exit → Act → World → Prop) (last : List Nat) (segs : List (List Nat × Nat)) (a : Act) (w : World) : Prop where
  out : woD P l z S Q last segs a w
variable {l : List Oper} {z : Nat} {last : List Nat} {w : World} {a : Act}
theorem quiet_mono {K K' : Act → Prop} (h : ∀ a, K a → K' a) : ∀ {m : List Oper} {a : Act}, wpQuiet P ops S K m a → wpQuiet P ops S K' m a
  | [], a, hk => h a hk
  | o :: m, a, hk => by
    unfold wpQuiet at hk ⊢
    split
    · rename_i hw
      rw [if_pos hw] at hk
      obtain ⟨v, h1, h2⟩ := hk
      exact ⟨v, h1, quiet_mono h h2⟩
    · rename_i hw
      rw [if_neg hw] at hk
      exact quiet_mono h hk
theorem WO.seg {is : List Nat} {i : Nat} {o : Oper} {r : List (List Nat × Nat)} (ho : pick l i = [o])
    (h : wpQuiet P l.toArray S (fun a' => ∀ K : Act → World → Prop, Hid (∀ a2 w2, S w2 → WO P l z S Q last r a2 w2 → K a2 w2) → if Region.wanted o (yielded l.toArray a'.tmps) = true then o.wp P a' w K Q else K (a'.put o.dst undef) w) (picks l is) a) (hS : S w) :
    WO P l z S Q last ((is, i) :: r) a w := by
  refine ⟨?_⟩
  unfold woD
  refine quiet_mono (fun a' h' o' ho' => ?_) h
  obtain rfl : o' = o := by rw [ho] at ho'; simpa using ho'.symm
  have := h' (fun a2 w2 => S w2 ∧ woD P l z S Q last r a2 w2) (Lib.hid fun a2 w2 h1 h2 => ⟨h1, h2.out⟩)
  split
  · rename_i hw; rw [if_pos hw] at this; exact Oper.wp_mono (fun a3 w3 h3 => ⟨.inr h3.1, h3.2⟩) this
  · rename_i hw; rw [if_neg hw] at this; exact this.2
/-- The last operation of all: S need not hold behind it. -/
theorem WO.segz {is : List Nat} {o : Oper} (ho : pick l z = [o])
    (h : wpQuiet P l.toArray S (fun a' => ∀ K : Act → World → Prop, Hid (∀ a2 w2, Q .normal a2 w2 → K a2 w2) → if Region.wanted o (yielded l.toArray a'.tmps) = true then o.wp P a' w K (NoPanic Q) else K (a'.put o.dst undef) w) (picks l is) a) :
    WO P l z S (NoPanic Q) [] [(is, z)] a w := by
  refine ⟨?_⟩
  unfold woD
  refine quiet_mono (fun a' h' o' ho' => ?_) h
  obtain rfl : o' = o := by rw [ho] at ho'; simpa using ho'.symm
  have := h' (fun a2 w2 => Q .normal a2 w2) (Lib.hid fun a2 w2 h1 => h1)
  split
  · rename_i hw; rw [if_pos hw] at this; exact Oper.wp_mono (fun a3 w3 h3 => ⟨.inl rfl, h3⟩) this
  · rename_i hw; rw [if_neg hw] at this; exact this
theorem run_ok (hsel : Region.noSelect l.toArray = true) (hQ : ∀ c a d v w, Q (.panic c) (Act.put a d v) w → Q (.panic c) a w) {K : Act → Prop} {fuel : Nat} :
    ∀ (is : List Nat) (L L' : Array Bool) (a : Act), (S w ∨ is = []) → runB md l.toArray z L is = some L' → (∀ a', K a' → wpAnyZ P md l.toArray Q S z fuel L' a' w) → wpQuiet P l.toArray S K (picks l is) a → wpAnyZ P md l.toArray Q S z (is.length + fuel) L a w
  | [], L, L', a, _, hb, hK, h => by
    cases hb
    simpa using hK a h
  | i :: r, L, L', a, hS', hb, hK, h => by
    have hS : S w := hS'.resolve_right (by simp)
    unfold runB at hb
    split at hb
    · rename_i hc
      simp only [Bool.and_eq_true, decide_eq_true_eq, beq_iff_eq] at hc
      obtain ⟨⟨⟨⟨h1, h2⟩, h3⟩, h4⟩, h5⟩ := hc
      have h5' : l.toArray.size ≤ z ∨ Region.waitsFor md l.toArray z i = true := by simpa using h5
      have ho : l.toArray[i]? = some l.toArray[i] := Array.getElem?_eq_getElem h3
      generalize l.toArray[i] = o at ho
      have hol : l[i]? = some o := by simpa using ho
      rw [picks, pick_of hol, List.singleton_append] at h
      rw [ho] at h4
      have h4' : plainB o = true := by simpa using h4
      have key : ∃ v, YieldsIf P l.toArray S o v a ∧ wpQuiet P l.toArray S K (picks l r) (a.put o.dst v) := by
        unfold wpQuiet at h
        by_cases hw : Region.wanted o (yielded l.toArray a.tmps) = true
        · rw [if_pos hw] at h
          obtain ⟨v, e1, e2⟩ := h
          exact ⟨v, yields_of_quiet h4' hw e1, e2⟩
        · rw [if_neg hw] at h
          exact ⟨undef, .inr ⟨by simpa using hw, rfl⟩, h⟩
      obtain ⟨v, hy, hr⟩ := key
      have := wpAnyZ_first (z := z) ho h5' (Region.noSelect_spec hsel) (fun c a w => hQ c a _ _ w) (r.length + fuel) L a w (Region.free_spec ho h1) (by simpa using h2) hy hS (run_ok hsel hQ r _ L' _ (.inl hS) hb hK hr)
      rw [show (i :: r).length + fuel = r.length + fuel + 1 by simp; omega]
      exact this
    · cases hb
def segLen : List (List Nat × Nat) → Nat
  | [] => 0
  | (is, _) :: r => is.length + 1 + segLen r
theorem seg_ok (hsel : Region.noSelect l.toArray = true) (hQ : ∀ c a d v w, Q (.panic c) (Act.put a d v) w → Q (.panic c) a w) :
    ∀ (segs : List (List Nat × Nat)) (L : Array Bool) (a : Act) (w : World), segB md l.toArray z last L segs = true → (S w ∨ (segs = [] ∧ last = [])) → woD P l z S Q last segs a w → wpAnyZ P md l.toArray Q S z (segLen segs + last.length) L a w
  | [], L, a, w, hb, hS, h => by
    unfold segB at hb
    cases hr : runB md l.toArray z L last with
    | none => rw [hr] at hb; simp at hb
    | some L' =>
      rw [hr] at hb
      have hb' : Region.ready md l.toArray L' = [] := by simpa using hb
      have := run_ok (fuel := 0) hsel hQ last L L' a (hS.imp id (·.2)) hr (K := fun a' => Q .normal a' w) (fun a' h' => ⟨hb', h'⟩) h
      rwa [segLen, Nat.zero_add]
  | (is, i) :: r, L, a, w, hb, hS', h => by
    have hS : S w := hS'.resolve_right (by simp)
    unfold segB at hb
    cases hr : runB md l.toArray z L is with
    | none => rw [hr] at hb; simp at hb
    | some L' =>
      rw [hr] at hb
      simp only [Bool.and_eq_true, decide_eq_true_eq] at hb
      obtain ⟨⟨⟨b1, b2⟩, b4⟩, b3⟩ := hb
      have b4' : i = z → r = [] ∧ last = [] := by simpa using b4
      have ho : l.toArray[i]? = some l.toArray[i] := Array.getElem?_eq_getElem b2
      generalize l.toArray[i] = o at ho
      have hol : l[i]? = some o := by simpa using ho
      have ih := fun a' w' => seg_ok hsel hQ r (L'.setIfInBounds i true) a' w' b3
      have := run_ok (fuel := segLen r + last.length + 1) hsel hQ is L L' a (.inl hS) hr (fun a' h' => (by
        have h2 := h' o (pick_of hol)
        refine ⟨fun h0 => (by rw [b1] at h0; cases h0), fun j hj => ?_⟩
        rw [b1] at hj
        obtain rfl : j = i := by simpa using hj
        unfold wpOp
        simp only [ho]
        split
        · rename_i hw
          rw [if_pos hw] at h2
          exact .inl (Oper.wp_mono (fun a3 w3 h3 => ⟨h3.1, ih a3 w3 (h3.1.elim (fun e => .inr (b4' e)) .inl) h3.2⟩) h2)
        · rename_i hw
          rw [if_neg hw] at h2
          exact ⟨.inr hS, ih _ _ (.inl hS) h2⟩)) h
      rw [show segLen ((is, i) :: r) + last.length = is.length + (segLen r + last.length + 1) by rw [segLen]; omega]
      exact this
theorem WO.end_ (h : wpQuiet P l.toArray S (fun a' => Q .normal a' w) (picks l last) a) : WO P l z S (NoPanic Q) last [] a w := ⟨h⟩
/-- z: the number of an operation that all others go ahead of; or any number past the last: then S holds behind all. -/
theorem wp_region_ordz {id : Nat} (z : Nat) (segs : List (List Nat × Nat)) (last : List Nat) (S : World → Prop) (hm : P.follows .mixedOrders = true) (hB : ordB .any l.toArray z segs last = true) (hn : segLen segs + last.length = l.length)
    (hS : S w.drew) (h : WO P l z S (NoPanic Q) last segs a w.drew) : (Code.region id l.toArray true).wp P Q a w := by
  unfold ordB at hB
  simp only [Bool.and_eq_true] at hB
  refine wp_region_noPanic (wp_region_any hm (wpAny_of_z (S := S) (z := z) _ _ _ _ ?_))
  have := seg_ok (Q := NoPanic Q) hB.1 (fun _ _ _ _ _ h => h) segs _ a _ hB.2 (.inl hS) h.out
  rw [hn] at this
  simpa using this
theorem wp_region_ord {id : Nat} (segs : List (List Nat × Nat)) (last : List Nat) (S : World → Prop) (hm : P.follows .mixedOrders = true) (hB : ordB .any l.toArray 1000 segs last = true) (hn : segLen segs + last.length = l.length)
    (hS : S w.drew) (h : WO P l 1000 S (NoPanic Q) last segs a w.drew) : (Code.region id l.toArray true).wp P Q a w :=
  wp_region_ordz 1000 segs last S hm hB hn hS h
end
end Go.Proofs.Ytfbeggdbjpmppaa
/- Aids for regions that draw their order: loads in a class of worlds, the store of a row of numbers, an element of a row of numbers. -/
namespace Go.Proofs.Ytfbeggdbjpmppaa
open Go.RowKit
theorem load3 {w : World} {b o : Nat} {v : Int} (h : w.cell? ⟨b, o, none⟩ = some (.int .i64 v)) : (loadVar 3 ⟨b, o, none⟩).run Try.prog w = .ok (.int .i64 v) w := by go_simp
theorem load27 {w : World} {b o n c : Nat} {A : Option Addr} (h : w.cell? ⟨b, o, none⟩ = some (.slice A n c)) : (loadVar 27 ⟨b, o, none⟩).run Try.prog w = .ok (.slice A n c) w := by go_simp
theorem load29 {w : World} {b o : Nat} {v : Vid} (h0 : w.cell? ⟨b, o, none⟩ = some (.int .i64 v.e)) (h1 : w.cell? ⟨b, o + 1, none⟩ = some (.int .i64 v.l)) (h2 : w.cell? ⟨b, o + 2, none⟩ = some (.int .i64 v.i)) (h3 : w.cell? ⟨b, o + 3, none⟩ = some (.int .i64 v.c)) :
    (loadVar 29 ⟨b, o, none⟩).run Try.prog w = .ok (.agg (vidC v)) w := by go_simp
section
variable {ops : Array Oper} {C : World → Prop} {Q : Act → Prop} {a : Act} {o : Oper} {rest : List Oper}
/-- Any load, in a class of worlds. -/
theorem wpQuiet_loadC (hw : Region.wanted o (yielded ops a.tmps) = true) (ty : TypeId) (x : Operand) (ho : o.op = .load ty x) (b off : Nat)
    (hx : a.eval x = .pointer (some ⟨b, off, none⟩)) (v : Value) (hc : ∀ w', C w' → (loadVar ty ⟨b, off, none⟩).run Try.prog w' = .ok v w')
    (h : wpQuiet Try.prog ops C Q rest (a.put o.dst v)) : wpQuiet Try.prog ops C Q (o :: rest) a := by
  refine wpQuiet_step fun K hK => ?_
  rw [if_pos hw]
  refine ⟨v, ?_, hK _ h⟩
  intro w' hw'
  unfold Oper.quietAt execOp
  simp only [ho, hx, Instr.loadAt, Instr.sureAddr, Sem.run_bind, Sem.run_pure, Result.andThen_ok, hc w' hw']
  exact ⟨rfl, rfl⟩
end
theorem wp_store94 {o : Oper} {a : Act} {w : World} {K : Act → World → Prop} {Q : Exit → Act → World → Prop} (x y : Operand) (ho : o.op = .store 94 x y) (hd : o.dst = none) (b off : Nat) (hx : a.eval x = .pointer (some ⟨b, off, none⟩)) (l : List Int) (hy : a.eval y = .agg (arr l))
    (ht : w.there b off 16) (hl : l.length = 16) (h : ∀ w', Hid (w' = w.setCells b off (ints l)) → K a w') : o.wp Try.prog a w K Q :=
  wp_store_mid 94 x y ho b off (arr l) hx hy (by rw [size_arr, hl]; exact ht) (by rw [size94, size_arr, hl]) (all_oneCell_toArray (one_ints l)) (by rw [hd]; exact h _ (Lib.hid (by rw [arr_list])))
theorem wp_store96 {o : Oper} {a : Act} {w : World} {K : Act → World → Prop} {Q : Exit → Act → World → Prop} (x y : Operand) (ho : o.op = .store 96 x y) (hd : o.dst = none) (b off : Nat) (hx : a.eval x = .pointer (some ⟨b, off, none⟩)) (t : Wish) (hy : a.eval y = .agg (wishA t))
    (ht : w.there b off 39) (hl : WLen t) (h : ∀ w', Hid (w' = w.setCells b off (wishL t)) → K a w') : o.wp Try.prog a w K Q := by
  have hs : (wishA t).size = 39 := by unfold wishA; rw [List.size_toArray, len_wishL hl.l1 hl.l2]
  exact wp_store_mid 96 x y ho b off (wishA t) hx hy (by rw [hs]; exact ht) (by rw [size96, hs]) (all_oneCell_toArray (one_wishL t)) (by rw [hd]; exact h _ (Lib.hid rfl))
theorem run_index94 (W : World) {l : List Int} {p : Nat} {v : Int} (hp : p < 16) (hv : l[p]? = some v) : (Instr.index 94 (.agg (arr l)) (.int .i64 p)).run Try.prog W = .ok (.int .i64 v) W := by
  have h1 := ints_at hv
  have h2 : (Sem.run Try.prog (isAgg 3) W) = .ok false W := by
    unfold isAgg
    simp [run_underlying Try.underlying3, TypeDesc.isRow, go_sem]
  have hi0 : (Try.prog.info? 3).map (·.size) = some 1 := by kernel_rfl
  obtain ⟨ti, hi, hs⟩ := Option.map_eq_some_iff.1 hi0
  unfold arr
  simp [Instr.index, run_underlying Try.underlying94, asIntOf, hp, sizeOf, typeInfo, hi, hs, part, h1, h2, go_sem]
end Go.Proofs.Ytfbeggdbjpmppaa
/- The program's leaving, valid: small questions. -/
namespace Go.Proofs.Ytfbeggdbjpmppaa
open Go.RowKit
/-- The first k places of a list meet p. -/
def upto {α : Type} (p : α → Prop) (l : List α) (k : Nat) : Prop := ∀ j x, j < k → l[j]? = some x → p x
theorem upto_zero {α : Type} (p : α → Prop) (l : List α) : upto p l 0 := by intro j x hj; omega
theorem upto_succ {α : Type} {p : α → Prop} {l : List α} {k : Nat} (h : upto p l k) (e : ∀ x, l[k]? = some x → p x) : upto p l (k + 1) := by
  intro j x hj hx
  by_cases hk : j = k
  · subst hk; exact e x hx
  · exact h j x (by omega) hx
theorem upto_all {α : Type} {p : α → Prop} {l : List α} {k : Nat} (h : upto p l k) (hk : l.length ≤ k) : ∀ x ∈ l, p x := by
  intro x hx
  obtain ⟨j, hj, rfl⟩ := List.getElem_of_mem hx
  exact h j _ (by omega) (List.getElem?_eq_getElem hj)
theorem find_here {α : Type} {p : α → Bool} : ∀ {l : List α} {k : Nat} {x : α}, upto (fun y => p y = false) l k → l[k]? = some x → p x = true → l.find? p = some x
  | [], k, x, _, h, _ => by simp at h
  | y :: l, 0, x, _, h, hp => by simp at h; subst h; simp [List.find?, hp]
  | y :: l, k + 1, x, hu, h, hp => by
    have hy : p y = false := hu 0 y (by omega) rfl
    rw [List.find?, hy]
    exact find_here (k := k) (fun j z hj hz => hu (j + 1) z (by omega) (by simpa using hz)) (by simpa using h) hp
def eMb (m : Mb) : List Value := [.int .i64 m.p, .int .i64 m.i, .int .i64 m.c]
theorem len_eMb (x : Mb) : (eMb x).length = 3 := rfl
theorem one_eMb (x : Mb) : ∀ u ∈ eMb x, u.oneCell' = true := by intro u hu; simp [eMb] at hu; rcases hu with rfl | rfl | rfl <;> rfl
theorem RowAt.mb {w : World} {N : Nat} {A : Option Addr} {l : List Mb} (h : RowAt w N 3 eMb A l) {k : Nat} (hk : k < l.length) :
    ∃ b off m, A = some ⟨b, off, none⟩ ∧ b < N ∧ Hid (l[k]? = some m) ∧ w.cell? ⟨b, off + k * 3, none⟩ = some (.int .i64 m.p) ∧ w.cell? ⟨b, off + k * 3 + 1, none⟩ = some (.int .i64 m.i) ∧ w.cell? ⟨b, off + k * 3 + 2, none⟩ = some (.int .i64 m.c) := by
  obtain ⟨b, off, e, hb, hc⟩ := h (by omega)
  have hx := List.getElem?_eq_getElem hk
  exact ⟨b, off, l[k], e, hb, hx, hc k _ hx 0 _ rfl, hc k _ hx 1 _ rfl, hc k _ hx 2 _ rfl⟩
theorem leaves_hit {ms : List Mb} {q inc cid : Int} {k : Nat} {m : Mb} (h : upto (fun y => decide (y.p = q) = false) ms k) (hm : ms[k]? = some m) (hp : m.p = q) : leavesB ms q inc cid = decide (m.i = inc ∧ m.c < cid) := by
  unfold leavesB; rw [find_here h hm (decide_eq_true hp)]
theorem leaves_none {ms : List Mb} {q inc cid : Int} {k : Nat} (h : upto (fun y => decide (y.p = q) = false) ms k) (hk : ms.length ≤ k) : leavesB ms q inc cid = false := by
  unfold leavesB
  rw [List.find?_eq_none.2 (fun x hx => by rw [upto_all h hk x hx]; decide)]
set_option maxRecDepth 100000 in
set_option maxHeartbeats 4000000 in
theorem leaving_any (b : Nat) (s : St) (M : Option Addr) (cM N : Nat) (q inc cid : Int) (w : World) (h : AgAt w b s M cM) (hb : b < w.heap.size) (hN : N ≤ w.heap.size) (hM : RowAt w N 3 eMb M s.mem) (hl : s.mem.length ≤ 9223372036854775807) :
    Calls Try.prog 54 #[.pointer (some ⟨b, 0, none⟩), .int .i64 q, .int .i64 inc, .int .i64 cid] w fun x w' => x = .returned (.bool (leavesB s.mem q inc cid)) ∧ Below w.heap.size w w' := by
  have q0 := h.mem
  go_enter Try.func54, Try.ntmps54
  go_wp2
  go_loopw [17] (fun k wr => ∃ i : Nat, k = .int .i64 i ∧ i ≤ s.mem.length ∧ upto (fun y => decide (y.p = q) = false) s.mem i ∧ Below w.heap.size w wr) (fun k _ => s.mem.length - (intOf k).toNat)
  case atStart => exact ⟨0, rfl, by omega, upto_zero _ _, Below.refl _ _⟩
  case round =>
    obtain ⟨i, rfl, hi, hup, hbr⟩ := hrel
    replace hup := Lib.hid hup
    have hsr := hbr.size
    by_cases hlt : i < s.mem.length
    · obtain ⟨g, o, m, hMe, hg, hm, c0, c1, c2⟩ := (hM.below hbr hN).mb hlt
      have hgw : g < wr.heap.size := by omega
      have hba := hbr.alloc hsr (.cells #[.int .i64 m.p, .int .i64 m.i, .int .i64 m.c] 43)
      replace hba := Lib.hid hba
      by_cases he : m.p = q
      · have e1 : (m.p == q) = true := by simp [he]
        have hL := Lib.hid (leaves_hit (inc := inc) (cid := cid) hup.out hm.out he)
        replace he := Lib.hid he
        by_cases hi2 : m.i = inc
        · have e2 : (m.i == inc) = true := by simp [hi2]
          have hL2 : leavesB s.mem q inc cid = decide (m.c < cid) := by rw [hL.out]; simp [hi2]
          replace hL2 := Lib.hid hL2
          replace hi2 := Lib.hid hi2
          clear q0 hbr
          rw [hMe]
          go_wp2
          go_ret
          exact ⟨ret_bool hL2.out.symm, hba.out⟩
        · have e2 : (m.i == inc) = false := by simp [hi2]
          have hL2 : leavesB s.mem q inc cid = false := by rw [hL.out]; simp [hi2]
          replace hL2 := Lib.hid hL2
          replace hi2 := Lib.hid hi2
          clear q0 hbr
          rw [hMe]
          go_wp2
          go_ret
          exact ⟨ret_bool hL2.out.symm, hba.out⟩
      · have e1 : (m.p == q) = false := by simp [he]
        have hup' := Lib.hid (upto_succ hup.out (fun z hz => by rw [hm.out] at hz; cases hz; exact decide_eq_false he))
        replace he := Lib.hid he
        clear q0 hbr
        rw [hMe]
        go_wp2
        go_roundw
        case rel => go_light; exact ⟨i + 1, by go_num, by omega, hup'.out, hba.out⟩
        case measure => go_light; simp [intOf]; omega
    · have hL := Lib.hid (leaves_none (inc := inc) (cid := cid) hup.out (by omega))
      go_wp2
      go_ret
      exact ⟨ret_bool hL.out.symm, hbr⟩
end Go.Proofs.Ytfbeggdbjpmppaa
/- Layer 6: the document's list of all that was heard, against the machine's last proposals. No program in sight. -/
namespace Go.Proofs.Ytfbeggdbjpmppaa
/-- A proposal that was taken, and from whom. -/
structure Hd where
  q : Int
  inc : Int
  p : Pr
def beats (x y : Hd) : Bool := decide (y.inc < x.inc ∨ (x.inc = y.inc ∧ y.p.rev < x.p.rev))
/-- The place of q's latest proposal among the first k. -/
def lateTo (h : List Hd) (q : Int) : Nat → Option Nat
  | 0 => none
  | k + 1 => match h[k]? with
    | none => lateTo h q k
    | some x => if x.q = q then
        match lateTo h q k with
        | none => some k
        | some j => match h[j]? with
          | none => some k
          | some y => if beats x y then some k else some j
      else lateTo h q k
theorem lateTo_other {h : List Hd} {q : Int} {k : Nat} {x : Hd} (hx : h[k]? = some x) (hq : x.q ≠ q) : lateTo h q (k + 1) = lateTo h q k := by
  rw [lateTo, hx]; exact if_neg hq
theorem lateTo_first {h : List Hd} {q : Int} {k : Nat} {x : Hd} (hx : h[k]? = some x) (hq : x.q = q) (hn : lateTo h q k = none) : lateTo h q (k + 1) = some k := by
  rw [lateTo, hx]; simp only [hn, if_pos hq]
theorem lateTo_beat {h : List Hd} {q : Int} {k j : Nat} {x y : Hd} (hx : h[k]? = some x) (hq : x.q = q) (hn : lateTo h q k = some j) (hy : h[j]? = some y) (hb : beats x y = true) : lateTo h q (k + 1) = some k := by
  rw [lateTo, hx]; simp only [hn, if_pos hq, hy, hb, if_true]
theorem lateTo_keep {h : List Hd} {q : Int} {k j : Nat} {x y : Hd} (hx : h[k]? = some x) (hq : x.q = q) (hn : lateTo h q k = some j) (hy : h[j]? = some y) (hb : beats x y = false) : lateTo h q (k + 1) = some j := by
  rw [lateTo, hx]; simp only [hn, if_pos hq, hy, hb]; rfl
theorem lateTo_some {h : List Hd} {q : Int} : ∀ {k j : Nat}, k ≤ h.length → lateTo h q k = some j → j < k ∧ ∃ x, h[j]? = some x ∧ x.q = q
  | 0, j, _, e => by cases e
  | k + 1, j, hk, e => by
    have hx : h[k]? = some h[k] := List.getElem?_eq_getElem (by omega)
    have ih := fun {j} => lateTo_some (h := h) (q := q) (k := k) (j := j) (by omega)
    by_cases hq : h[k].q = q
    · cases hn : lateTo h q k with
      | none => rw [lateTo_first hx hq hn] at e; cases e; exact ⟨by omega, _, hx, hq⟩
      | some i =>
        obtain ⟨hi, y, hy, hyq⟩ := ih hn
        cases hb : beats h[k] y with
        | true => rw [lateTo_beat hx hq hn hy hb] at e; cases e; exact ⟨by omega, _, hx, hq⟩
        | false => rw [lateTo_keep hx hq hn hy hb] at e; cases e; exact ⟨by omega, y, hy, hyq⟩
    · rw [lateTo_other hx hq] at e
      obtain ⟨hi, r⟩ := ih e
      exact ⟨by omega, r⟩
theorem lateTo_app {h g : List Hd} {q : Int} : ∀ {k : Nat}, k ≤ h.length → lateTo (h ++ g) q k = lateTo h q k
  | 0, _ => rfl
  | k + 1, hk => by
    have hx : h[k]? = some h[k] := List.getElem?_eq_getElem (by omega)
    have hx' : (h ++ g)[k]? = some h[k] := by rw [List.getElem?_append_left (by omega)]; exact hx
    have ih := lateTo_app (h := h) (g := g) (q := q) (k := k) (by omega)
    by_cases hq : h[k].q = q
    · cases hn : lateTo h q k with
      | none => rw [lateTo_first hx hq hn, lateTo_first hx' hq (ih.trans hn)]
      | some i =>
        obtain ⟨hi, y, hy, hyq⟩ := lateTo_some (by omega) hn
        have hy' : (h ++ g)[i]? = some y := by rw [List.getElem?_append_left (by omega)]; exact hy
        cases hb : beats h[k] y with
        | true => rw [lateTo_beat hx hq hn hy hb, lateTo_beat hx' hq (ih.trans hn) hy' hb]
        | false => rw [lateTo_keep hx hq hn hy hb, lateTo_keep hx' hq (ih.trans hn) hy' hb]
    · rw [lateTo_other hx hq, lateTo_other hx' hq, ih]
/-- q's latest proposal. -/
def late (h : List Hd) (q : Int) : Option Nat := lateTo h q h.length
theorem late_some {h : List Hd} {q : Int} {j : Nat} (e : late h q = some j) : j < h.length ∧ ∃ x, h[j]? = some x ∧ x.q = q := lateTo_some (Nat.le_refl _) e
/-- The document's list holds just what the machine keeps of each node. -/
structure Rep (s : St) (h : List Hd) : Prop where
  no : ∀ q : Nat, q < 16 → late h q = none → s.lt q = Lt.zero
  yes : ∀ q : Nat, q < 16 → ∀ j x, late h q = some j → h[j]? = some x → s.lt q = ⟨x.inc, x.p.wish⟩
  ok : ∀ x ∈ h, x.p.set.length = s.n ∧ x.p.vec.length = s.n ∧ 1 ≤ x.inc
theorem Rep.same {s t : St} {h : List Hd} (r : Rep s h) (ho : t.oth = s.oth) (hn : t.n = s.n) : Rep t h := by
  have hl : ∀ q, t.lt q = s.lt q := fun q => by unfold St.lt; rw [ho]
  exact ⟨fun q hq e => by rw [hl]; exact r.no q hq e, fun q hq j x e1 e2 => by rw [hl]; exact r.yes q hq j x e1 e2, fun x hx => by rw [hn]; exact r.ok x hx⟩
theorem lt_put {s : St} {q r : Nat} {inc : Int} {w : Wish} (hq : q < s.oth.length) : (s.put q inc w).lt r = if r = q then ⟨inc, w⟩ else s.lt r := by
  unfold St.lt St.put
  by_cases e : r = q
  · subst e; rw [if_pos rfl, List.getElem?_set_self hq]; rfl
  · rw [if_neg e, List.getElem?_set_ne (fun e2 => e e2.symm)]
theorem late_snoc_other {h : List Hd} {q : Int} {x : Hd} (hq : x.q ≠ q) : late (h ++ [x]) q = late h q := by
  unfold late
  rw [List.length_append]
  rw [show h.length + [x].length = h.length + 1 from rfl, lateTo_other (x := x) (by simp) hq, lateTo_app (Nat.le_refl _)]
theorem late_snoc {h : List Hd} {q : Int} {x : Hd} (hq : x.q = q) (hb : ∀ j y, late h q = some j → h[j]? = some y → beats x y = true) : late (h ++ [x]) q = some h.length := by
  unfold late
  rw [List.length_append, show h.length + [x].length = h.length + 1 from rfl]
  cases hn : lateTo h q h.length with
  | none => exact lateTo_first (x := x) (by simp) hq ((lateTo_app (Nat.le_refl _)).trans hn)
  | some j =>
    obtain ⟨hj, y, hy, _⟩ := lateTo_some (Nat.le_refl _) hn
    exact lateTo_beat (x := x) (by simp) hq ((lateTo_app (Nat.le_refl _)).trans hn) (by rw [List.getElem?_append_left hj]; exact hy) (hb j y hn hy)
theorem Rep.put {s : St} {h : List Hd} (r : Rep s h) (ho : s.oth.length = 16) {q : Nat} {inc : Int} {p : Pr} (hq : q < 16) (h1 : ¬ inc < (s.lt q).inc) (h2 : ¬ ((s.lt q).inc = inc ∧ p.rev ≤ (s.lt q).w.rev)) (hi : 1 ≤ inc) (l1 : p.set.length = s.n) (l2 : p.vec.length = s.n) :
    Rep (s.put q inc p.wish) (h ++ [⟨q, inc, p⟩]) := by
  have hb : ∀ j y, late h q = some j → h[j]? = some y → beats ⟨q, inc, p⟩ y = true := fun j y e1 e2 => by
    have := r.yes q hq j y e1 e2
    rw [this] at h1 h2
    simp only [Pr.wish] at h1 h2
    simp only [beats, decide_eq_true_eq]; omega
  have hnew := late_snoc (h := h) (x := ⟨q, inc, p⟩) (q := (q : Int)) rfl hb
  refine ⟨fun m hm e => ?_, fun m hm j x e1 e2 => ?_, fun x hx => ?_⟩
  · rw [lt_put (by omega)]
    by_cases e2 : m = q
    · subst e2; rw [hnew] at e; cases e
    · rw [if_neg e2]
      rw [late_snoc_other (by show (q : Int) ≠ m; omega)] at e
      exact r.no m hm e
  · rw [lt_put (by omega)]
    by_cases e3 : m = q
    · subst e3; rw [hnew] at e1; cases e1
      rw [if_pos rfl]
      have : x = ⟨(m : Int), inc, p⟩ := by simpa using e2.symm
      rw [this]
    · rw [if_neg e3]
      rw [late_snoc_other (by show (q : Int) ≠ m; omega)] at e1
      obtain ⟨hj, _⟩ := late_some e1
      rw [List.getElem?_append_left hj] at e2
      exact r.yes m hm j x e1 e2
  · rcases List.mem_append.1 hx with hx | hx
    · exact r.ok x hx
    · obtain rfl : x = ⟨(q : Int), inc, p⟩ := by simpa using hx
      exact ⟨l1, l2, hi⟩
/-- The rows of a machine end with its nodes; views are what they should be. -/
structure RInv (s : St) : Prop where
  set : s.own.set = pad (s.own.set.take s.n)
  vec : s.own.vec = pad (s.own.vec.take s.n)
  seen : ∀ q, q ≠ s.self → nth s.own.vec q ≠ 0 → (s.lt q).inc ≠ 0
  nov : s.vid = Vid.zero ↔ s.mem = []
  rise : ∀ (i j : Nat) (a b : Mb), s.mem[i]? = some a → s.mem[j]? = some b → a.p = b.p → i = j
  len : s.mem.length ≤ 16
theorem pad_take {l : List Int} {n : Nat} (hl : l.length = 16) (hn : n ≤ 16) (h : ∀ j, n ≤ j → nth l j = 0) : l = pad (l.take n) := by
  have e : (l.take n).length = n := List.length_take_of_le (by omega)
  apply List.ext_getElem?
  intro j
  unfold pad
  rw [e]
  by_cases hj : j < n
  · rw [List.getElem?_append_left (by omega), List.getElem?_take_of_lt hj]
  · rw [List.getElem?_append_right (by omega), e, List.getElem?_replicate]
    by_cases h16 : j < 16
    · rw [if_pos (by omega), List.getElem?_eq_getElem (by omega)]
      have := h j (by omega)
      unfold nth at this
      rw [List.getElem?_eq_getElem (by omega)] at this
      simpa using this
    · rw [if_neg (by omega), List.getElem?_eq_none (by omega)]
theorem pad_take_pad {l : List Int} {n : Nat} (hl : l.length = n) : pad ((pad l).take n) = pad l := by
  have : (pad l).take n = l := by unfold pad; rw [← hl]; exact List.take_left
  rw [this]
theorem take_pad {l : List Int} {n : Nat} (hl : l.length = n) : (pad l).take n = l := by unfold pad; rw [← hl]; exact List.take_left
theorem nth_heard {s : St} {q : Nat} (hq : q < 16) : nth s.heard q = s.vecAt q := by
  unfold nth St.heard; rw [List.getElem?_map, List.getElem?_range hq]; rfl
theorem nth_over {l : List Int} {q : Nat} (h : l.length ≤ q) : nth l q = 0 := by unfold nth; rw [List.getElem?_eq_none h]; rfl
theorem heard_pad {s : St} (hi : Inv s) : s.heard = pad (s.heard.take s.n) := by
  refine pad_take (len_heard s) hi.n2 fun j hj => ?_
  by_cases h : j < 16
  · rw [nth_heard h]; unfold St.vecAt
    rw [if_neg (by have := hi.self; omega), if_neg (by omega)]
  · exact nth_over (by rw [len_heard]; omega)
theorem heard_seen {s : St} : ∀ q, q ≠ s.self → nth s.heard q ≠ 0 → (s.lt q).inc ≠ 0 := fun q hq h => by
  by_cases h16 : q < 16
  · rw [nth_heard h16] at h
    unfold St.vecAt at h
    rw [if_neg hq] at h
    split at h
    · rename_i e; have := e.2; unfold St.matB at this; simp only [decide_eq_true_eq] at this; exact this.1
    · exact absurd rfl h
  · exact absurd (nth_over (by rw [len_heard]; omega)) h
theorem begin_rinv {s : St} {x : List Int} (h : RInv s) (hi : Inv s) (hs : s.spent = false) (hx : x = pad (x.take s.n)) (hl : x.length = 16) (hok : ∀ v ∈ x, 0 ≤ v ∧ v ≤ 4611686018427387904) (hm : nth x s.self = s.inc) : RInv (s.begin_ x) := by
  have b1 := beg1_inv hi hs hl hok hm
  exact ⟨hx, heard_pad b1, heard_seen, h.nov, h.rise, h.len⟩
theorem estimate_rinv {s : St} (h : RInv s) (hi : Inv s) (l : List Int) : RInv (s.estimate l).2.2 := by
  unfold St.estimate
  split
  · exact h
  · rename_i h1
    split
    · exact h
    · split
      · exact h
      · rename_i h3
        simp only [not_or, Bool.not_eq_false] at h1
        have hl := packB_len h1.1
        exact begin_rinv h hi (by simpa using h3) (by rw [take_pad hl]) (len_pad (by rw [hl]; exact hi.n2)) (pack_ok h1.1) (Classical.not_not.1 h1.2)
theorem put_inv' {s : St} (h : Inv s) {q : Nat} {inc : Int} {w : Wish} (hw : WOk w) : Inv (s.put q inc w) := put_inv h hw
theorem put_rinv {s : St} (h : RInv s) (ho : s.oth.length = 16) {q : Nat} {inc : Int} {w : Wish} (hq : q < 16) (hi : inc ≠ 0) : RInv (s.put q inc w) := by
  refine ⟨h.set, h.vec, fun r hr hv => ?_, h.nov, h.rise, h.len⟩
  rw [lt_put (by omega)]
  split
  · exact hi
  · exact h.seen r hr hv
theorem take_rinv {s : St} (h : RInv s) (hi : Inv s) (q inc : Int) (p : Pr) : RInv (s.take q inc p).2.2 := by
  unfold St.take
  split
  · exact h
  · rename_i ha
    split
    · exact h
    · rename_i hg
      have hw := good_wish hi.n2 (by simpa using hg)
      split
      · exact h
      · split
        · exact h
        · have hn := hi.n2
          have ht := put_inv hi (q := q.toNat) (inc := inc) hw
          have hr := put_rinv (q := q.toNat) (inc := inc) (w := p.wish) h hi.oth (by omega) (by omega)
          dsimp only
          split
          · split
            · exact hr
            · split
              · exact ⟨hr.set, heard_pad ht, heard_seen, hr.nov, hr.rise, hr.len⟩
              · exact h
          · split
            · exact hr
            · split
              · exact h
              · rename_i hs
                exact begin_rinv hr ht (by simpa using hs) hr.set ht.own.set ht.own.setv ht.me
theorem agTo_rise {s : St} : ∀ {k : Nat} {a : Ag}, s.agTo k = some a → (∀ m ∈ a.mem, 0 ≤ m.p ∧ m.p < k) ∧ ∀ (i j : Nat) (x y : Mb), a.mem[i]? = some x → a.mem[j]? = some y → x.p = y.p → i = j
  | 0, a, e => by
    cases e
    refine ⟨?_, ?_⟩
    · intro m hm; exact absurd hm (by simp)
    · intro i j x y hx; simp at hx
  | k + 1, a, e => by
    rw [St.agTo] at e
    obtain ⟨b, hb, hs⟩ := Option.bind_eq_some_iff.1 e
    obtain ⟨h1, h2⟩ := agTo_rise hb
    unfold St.agStep at hs
    split at hs
    · cases hs; exact ⟨fun m hm => by have := h1 m hm; omega, h2⟩
    · split at hs
      · cases hs
      · cases hs
        refine ⟨fun m hm => ?_, fun i j x y hx hy hxy => ?_⟩
        · rcases List.mem_append.1 hm with hm | hm
          · have := h1 m hm; omega
          · have : m = ⟨(k : Int), nth s.own.set k, nth s.own.vec k⟩ := by simpa using hm
            subst this; show (0 : Int) ≤ (k : Int) ∧ (k : Int) < (k + 1 : Nat); omega
        · dsimp only at hx hy
          have hi := (List.getElem?_eq_some_iff.1 hx).1
          have hj := (List.getElem?_eq_some_iff.1 hy).1
          rw [List.length_append, List.length_singleton] at hi hj
          by_cases e1 : i < b.mem.length
          · rw [List.getElem?_append_left e1] at hx
            by_cases e2 : j < b.mem.length
            · rw [List.getElem?_append_left e2] at hy
              exact h2 i j x y hx hy hxy
            · obtain rfl : j = b.mem.length := by omega
              have : y = ⟨(k : Int), nth s.own.set k, nth s.own.vec k⟩ := by simpa using hy.symm
              have hx' := h1 x (List.mem_of_getElem? hx)
              rw [this] at hxy; simp only at hxy; omega
          · obtain rfl : i = b.mem.length := by omega
            have : x = ⟨(k : Int), nth s.own.set k, nth s.own.vec k⟩ := by simpa using hx.symm
            by_cases e2 : j < b.mem.length
            · rw [List.getElem?_append_left e2] at hy
              have hy' := h1 y (List.mem_of_getElem? hy)
              rw [this] at hxy; simp only at hxy; omega
            · omega
theorem install_rinv {s : St} (h : RInv s) (hi : Inv s) : RInv s.install := by
  unfold St.install
  cases ha : s.agreed with
  | none => exact h
  | some a =>
    unfold St.agreed at ha
    split at ha
    · have ht := agTo_top hi ha
      have hm := agTo_me hi hi.self ha
      have hl := (agTo_len ha).1
      have hn := hi.n2
      refine ⟨h.set, h.vec, h.seen, ?_, (agTo_rise ha).2, by show a.mem.length ≤ 16; omega⟩
      show a.vid = Vid.zero ↔ a.mem = []
      constructor
      · intro e
        unfold Ag.vid at e
        cases hq : a.mem with
        | nil => rfl
        | cons m r =>
          rw [hq] at e
          have : a.top + 1 = 0 := congrArg Vid.e e
          omega
      · intro e; exact absurd e hm
    · cases ha
theorem nth_set {l : List Int} {i j : Nat} {v : Int} (h : i ≠ j) : nth (l.set i v) j = nth l j := by unfold nth; rw [List.getElem?_set_ne h]
theorem nth_zeros (j : Nat) : nth zeros j = 0 := by
  unfold nth zeros; rw [List.getElem?_replicate]; split <;> rfl
theorem new_rinv {n self : Nat} {inc floor : Int} (h : newB n self inc floor = true) (hf : floor ≠ 4611686018427387904) : RInv (newSt n self inc floor) := by
  unfold newB at h
  simp only [decide_eq_true_eq] at h
  refine ⟨?_, ?_, fun q hq hv => ?_, ⟨fun _ => rfl, fun _ => rfl⟩, fun i j a b ha => by simp [newSt] at ha, by simp [newSt]⟩
  · exact pad_take (by simp [newSt, zeros]) (by show n ≤ 16; omega) fun j hj => by
      show nth (zeros.set self inc) j = 0
      rw [nth_set (by have : n ≤ j := hj; omega), nth_zeros]
  · exact pad_take (by simp [newSt, zeros]) (by show n ≤ 16; omega) fun j hj => by
      show nth (zeros.set self (floor + 1)) j = 0
      rw [nth_set (by have : n ≤ j := hj; omega), nth_zeros]
  · exact absurd (show nth (zeros.set self (floor + 1)) q = 0 by rw [nth_set (show self ≠ q from fun e => hq e.symm), nth_zeros]) hv
theorem new_rep (n self : Nat) (inc floor : Int) : Rep (newSt n self inc floor) [] :=
  { no := fun q hq _ => by
      show (List.replicate 16 Lt.zero)[q]?.getD Lt.zero = Lt.zero
      rw [List.getElem?_replicate, if_pos hq]; rfl
    yes := fun q hq j x e _ => by cases e
    ok := fun x hx => by cases hx }
end Go.Proofs.Ytfbeggdbjpmppaa
