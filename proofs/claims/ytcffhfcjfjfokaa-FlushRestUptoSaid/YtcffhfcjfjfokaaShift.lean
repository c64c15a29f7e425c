/- A row of the call's own: a stretch copied one place up, an element set; insertion in order. -/
import Derived.Test.YtcffhfcjfjfokaaLib
import Derived.Laws.CopyRow
import Derived.Laws.IdiomCopy
import Derived.Laws.OwnMore
namespace Go.Proofs.Ytcffhfcjfjfokaa
open Go.RowKit
section
variable {P : Program}
theorem run_copy_wide (w : World) (dT sT ty elem : TypeId) (sz g o dLen dCap : Nat) (a : Addr) (sLen sCap : Nat) (cur : Array Value) (t : TypeId) (cs : List Value)
    (hu : P.underlying dT = some (.slice elem)) (hs : (P.info? elem).map (·.size) = some sz)
    (hg : w.heap[g]? = some (.cells cur t (0, 0))) (hn : cs.length = Nat.min sLen dLen * sz)
    (hsrc : ∀ j v, cs[j]? = some v → w.cell? (a.add j) = some v) (hfit : o + cs.length ≤ cur.size) (h1 : ∀ v ∈ cs, v.oneCell' = true) :
    (Builtin.copy_ #[dT, sT] ty #[.slice (some ⟨g, o, none⟩) dLen dCap, .slice (some a) sLen sCap]).run P w =
      .ok (goInt (Nat.min sLen dLen)) (w.setRow g (cur.toList.take o ++ cs ++ cur.toList.drop (o + cs.length)).toArray) := by
  have hl := run_loadCells_list (P := P) w a cs hsrc
  have hst := run_storeCells_at P g o t cs 0 cur w hg (by simpa using hfit) h1
  rw [hn] at hl
  cases hq : P.info? elem with
  | none => simp [hq] at hs
  | some i =>
    have hi : i.size = sz := by simpa [hq] using hs
    simp [Builtin.copy_, run_underlying hu, Builtin.lenOf, Builtin.firstCells, sizeOf, typeInfo, hq, hi, hl, hst]
theorem run_copy_zero (w : World) (dT sT ty elem : TypeId) (sz : Nat) (d : Option Addr) (dCap : Nat) (a : Addr) (sLen sCap : Nat)
    (hu : P.underlying dT = some (.slice elem)) (hs : (P.info? elem).map (·.size) = some sz) :
    (Builtin.copy_ #[dT, sT] ty #[.slice d 0 dCap, .slice (some a) sLen sCap]).run P w = .ok (goInt 0) w := by
  have hl : (loadCells a 0).run P w = .ok #[] w := by simpa using run_loadCells_list (P := P) w a [] (by simp)
  cases hq : P.info? elem with
  | none => simp [hq] at hs
  | some i => cases d <;> simp [Builtin.copy_, run_underlying hu, Builtin.lenOf, Builtin.firstCells, sizeOf, typeInfo, hq, storeCells, hl]
end
theorem flat_take {α : Type} {enc : α → List Value} {sz : Nat} (hsz : ∀ x, (enc x).length = sz) (l : List α) (k : Nat) : (l.flatMap enc).take (k * sz) = (l.take k).flatMap enc := by
  induction l generalizing k with
  | nil => simp
  | cons y l ih =>
    cases k with
    | zero => simp
    | succ k =>
      have e : (k + 1) * sz = sz + k * sz := by rw [Nat.add_mul]; omega
      rw [List.flatMap_cons, List.take_succ_cons, List.flatMap_cons, e, ← ih k, List.take_append, hsz y, List.take_of_length_le (by rw [hsz]; omega)]
      congr 2; omega
theorem flat_set2 : ∀ (l : List (Int × Int)) (k : Nat) (x : Int × Int), k < l.length → ((l.flatMap eSlot).set (k * 2) (.int .i64 x.1)).set (k * 2 + 1) (.int .i64 x.2) = (l.set k x).flatMap eSlot
  | [], k, x, h => by simp at h
  | y :: l, 0, x, _ => by simp [eSlot]
  | y :: l, k + 1, x, h => by
    have ih := flat_set2 l k x (by simpa using h)
    rw [List.set_cons_succ, List.flatMap_cons, List.flatMap_cons, ← ih]
    have e1 : (k + 1) * 2 = k * 2 + 1 + 1 := by omega
    rw [e1]
    simp [eSlot]
/-- Two cells of an own row of slots set: one slot set. -/
theorem Owns.set2 {w : World} {base g c k : Nat} {l : List (Int × Int)} (h : Owns w base 66 2 eSlot (some ⟨g, 0, none⟩) c l) (hk : k < l.length) (x : Int × Int) :
    Owns ((w.setCell ⟨g, k * 2, none⟩ (.int .i64 x.1)).setCell ⟨g, k * 2 + 1, none⟩ (.int .i64 x.2)) base 66 2 eSlot (some ⟨g, 0, none⟩) c (l.set k x) := by
  have h1 := (World.ownsRow.stored h (k * 2) (.int .i64 x.1)).1
  have h2 := (World.ownsRow.stored h1 (k * 2 + 1) (.int .i64 x.2)).1
  rw [flat_set2 l k x hk] at h2
  unfold Owns
  rw [List.length_set]
  exact h2
/-- Is s ahead of t? -/
def sltB (s t : Int × Int) : Bool := decide (s.1 < t.1 ∨ s.1 = t.1 ∧ s.2 < t.2)
/-- s into a list that rises: behind all that are not behind it. -/
def ins (l : List (Int × Int)) (s : Int × Int) : List (Int × Int) := l.takeWhile (fun t => !sltB s t) ++ s :: l.dropWhile (fun t => !sltB s t)
def Rises (l : List (Int × Int)) : Prop := l.Pairwise (fun a b => sltB b a = false)
theorem slt_trans {a b c : Int × Int} (h : sltB a b = false) (h' : sltB b c = false) : sltB a c = false := by
  simp only [sltB, decide_eq_false_iff_not] at *
  omega
theorem slt_of {a b c : Int × Int} (h : sltB a b = true) (h' : sltB c b = false) : sltB a c = true := by
  simp only [sltB, decide_eq_false_iff_not, decide_eq_true_eq] at *
  omega
theorem take_while {α : Type} {p : α → Bool} : ∀ {l : List α} {n : Nat}, (∀ j x, j < n → l[j]? = some x → p x = true) → (∀ x, l[n]? = some x → p x = false) → n ≤ l.length → l.takeWhile p = l.take n ∧ l.dropWhile p = l.drop n
  | [], n, _, _, hn => by simp
  | y :: l, 0, _, h2, _ => by simp [h2 y rfl]
  | y :: l, n + 1, h1, h2, hn => by
    have ih := take_while (l := l) (n := n) (fun j x hj hx => h1 (j + 1) x (by omega) (by simpa using hx)) (fun x hx => h2 x (by simpa using hx)) (by simpa using hn)
    simp [h1 0 y (by omega) rfl, ih]
theorem ins_at {l : List (Int × Int)} {s : Int × Int} {n : Nat} (h1 : ∀ j x, j < n → l[j]? = some x → sltB s x = false) (h2 : ∀ x, l[n]? = some x → sltB s x = true) (hn : n ≤ l.length) : ins l s = l.take n ++ s :: l.drop n := by
  obtain ⟨e1, e2⟩ := take_while (p := fun t => !sltB s t) (fun j x hj hx => by simp [h1 j x hj hx]) (fun x hx => by simp [h2 x hx]) hn
  rw [ins, e1, e2]
theorem rises_low {l : List (Int × Int)} {s : Int × Int} {n : Nat} (hr : Rises l) (h : ∀ x, l[n]? = some x → sltB s x = false) (hn : n < l.length) : ∀ j x, j < n + 1 → l[j]? = some x → sltB s x = false := by
  intro j x hj hx
  by_cases hjn : j = n
  · subst hjn; exact h x hx
  · have hl := (List.getElem?_eq_some_iff.1 hx).1
    have := (List.pairwise_iff_getElem.1 hr) j n hl hn (by omega)
    have hx' := (List.getElem?_eq_some_iff.1 hx).2
    rw [hx'] at this
    exact slt_trans (h _ (List.getElem?_eq_getElem hn)) this
theorem takeWhile_len {α : Type} (p : α → Bool) : ∀ l : List α, ∃ n, n ≤ l.length ∧ (∀ j x, j < n → l[j]? = some x → p x = true) ∧ (∀ x, l[n]? = some x → p x = false)
  | [] => ⟨0, by simp, by intro j x hj; omega, by simp⟩
  | y :: l => by
    by_cases hy : p y = true
    · obtain ⟨n, h1, h2, h3⟩ := takeWhile_len p l
      refine ⟨n + 1, by simpa using h1, fun j x hj hx => ?_, fun x hx => h3 x (by simpa using hx)⟩
      cases j with
      | zero => simp at hx; subst hx; exact hy
      | succ j => exact h2 j x (by omega) (by simpa using hx)
    · exact ⟨0, by simp, by intro j x hj; omega, fun x hx => by simp at hx; subst hx; simpa using hy⟩
theorem rises_ins {l : List (Int × Int)} (hr : Rises l) (s : Int × Int) : Rises (ins l s) := by
  obtain ⟨n, hn, h1, h2⟩ := takeWhile_len (fun t => !sltB s t) l
  rw [ins_at (n := n) (fun j x hj hx => by simpa using h1 j x hj hx) (fun x hx => by simpa using h2 x hx) hn]
  have hle := List.take_append_drop n l
  have hr' : Rises (l.take n ++ l.drop n) := by rw [hle]; exact hr
  obtain ⟨ha, hb, hab⟩ := List.pairwise_append.1 hr'
  refine List.pairwise_append.2 ⟨ha, List.pairwise_cons.2 ⟨fun y hy => ?_, hb⟩, fun x hx y hy => ?_⟩
  · obtain ⟨k, hk⟩ := List.mem_iff_getElem?.1 hy
    rw [List.getElem?_drop] at hk
    have hnl : n < l.length := by have := (List.getElem?_eq_some_iff.1 hk).1; omega
    have hs : sltB s l[n] = true := by simpa using h2 _ (List.getElem?_eq_getElem hnl)
    have hy' : sltB y l[n] = false := by
      by_cases hk0 : k = 0
      · subst hk0; rw [Nat.add_zero, List.getElem?_eq_getElem hnl] at hk; cases hk
        simp [sltB]
      · have hkl := (List.getElem?_eq_some_iff.1 hk).1
        have := (List.pairwise_iff_getElem.1 hr) n (n + k) hnl hkl (by omega)
        rw [(List.getElem?_eq_some_iff.1 hk).2] at this
        exact this
    have := slt_of hs hy'
    simp only [sltB, decide_eq_true_eq, decide_eq_false_iff_not] at *
    omega
  · cases List.mem_cons.1 hy with
    | inl e =>
      subst e
      obtain ⟨k, hk⟩ := List.mem_iff_getElem?.1 hx
      rw [List.getElem?_take] at hk
      split at hk
      · simpa using h1 k x (by assumption) hk
      · cases hk
    | inr e => exact hab x hx y e
theorem ins_length (l : List (Int × Int)) (s : Int × Int) : (ins l s).length = l.length + 1 := by
  have : (l.takeWhile (fun t => !sltB s t)).length + (l.dropWhile (fun t => !sltB s t)).length = l.length := by
    rw [← List.length_append, List.takeWhile_append_dropWhile]
  simp [ins]; omega
/-- The row behind append, copy and store: s put at its place. -/
theorem put_at {l : List (Int × Int)} {s : Int × Int} {n : Nat} (hn : n ≤ l.length) :
    (((l ++ [s]).take (n + 1) ++ ((l ++ [s]).drop n).take (l.length - n)).set n s) = l.take n ++ s :: l.drop n := by
  have e1 : ((l ++ [s]).drop n).take (l.length - n) = l.drop n := by
    rw [List.drop_append_of_le_length hn, List.take_append_of_le_length (by simp), List.take_of_length_le (by simp)]
  rw [e1]
  by_cases h0 : n < l.length
  · rw [List.take_append_of_le_length (by omega), List.take_add_one, List.getElem?_eq_getElem h0]
    simp only [Option.toList]
    rw [List.append_assoc, List.set_append_right _ _ (by simp; omega)]
    simp [Nat.min_eq_left hn]
  · obtain rfl : n = l.length := by omega
    rw [List.take_of_length_le (by simp)]
    simp
/-- 'copy(l[at+1:], l[at:])' on a row of the call's own, as it runs. -/
theorem run_copy_up {α : Type} {P : Program} {w : World} (dT sT ty : TypeId) (base : Nat) (e : TypeId) (sz : Nat) (hu : P.underlying dT = some (.slice e)) (hsz : (P.info? e).map (·.size) = some sz)
    (enc : α → List Value) (henc : ∀ x, (enc x).length = sz) (hone : ∀ x, ∀ u ∈ enc x, u.oneCell' = true)
    (g c at_ n : Nat) (xs : List α) (dp sp : Option Addr) (dl dCap sl sCap : Nat) (hdl : dl = n - at_) (hsl : sl = n + 1 - at_)
    (hn : xs.length = n + 1) (hat : at_ ≤ n) (hdp : at_ < n → dp = some ⟨g, (at_ + 1) * sz, none⟩) (hsp : sp = some ⟨g, at_ * sz, none⟩)
    (hown : Owns w base e sz enc (some ⟨g, 0, none⟩) c xs) :
    ∃ w', (Builtin.copy_ #[dT, sT] ty #[.slice dp dl dCap, .slice sp sl sCap]).run P w = .ok (goInt (n - at_ : Nat)) w' ∧
      Owns w' base e sz enc (some ⟨g, 0, none⟩) c (xs.take (at_ + 1) ++ (xs.drop at_).take (n - at_)) ∧ w.grownBy w' (some g) := by
  subst hdl hsl hsp

  by_cases h0 : at_ < n
  · obtain rfl := hdp h0
    rcases hown.2 with ⟨hv, _⟩ | ⟨g', cap, cur, hv, hb, hg, hnc, hcm, hcs, htake⟩
    · injection hv with hv; cases hv
    · injection hv with hv _ hc
      injection hv with hv; injection hv with hv; subst hv; subst hc
      have hmul : (n + 1) * sz ≤ c * sz := Nat.mul_le_mul_right _ (by omega)
      have e1 : (n + 1) * sz = (at_ + 1) * sz + (n - at_) * sz := by rw [← Nat.add_mul]; congr 1; omega
      have e2 : (n + 1) * sz = at_ * sz + (n + 1 - at_) * sz := by rw [← Nat.add_mul]; congr 1; omega
      have e3 : (n + 1 - at_) * sz = sz + (n - at_) * sz := by rw [show n + 1 - at_ = 1 + (n - at_) by omega, Nat.add_mul]; omega
      let cs := ((xs.drop at_).take (n - at_)).flatMap enc
      have hcl : cs.length = (n - at_) * sz := by
        show (((xs.drop at_).take (n - at_)).flatMap enc).length = _
        rw [length_flat henc, List.length_take, List.length_drop]
        congr 1; omega
      have hmin : Nat.min (n + 1 - at_) (n - at_) = n - at_ := Nat.min_eq_right (by omega)
      have hrun := run_copy_wide (P := P) w dT sT ty e sz g ((at_ + 1) * sz) (n - at_) dCap ⟨g, at_ * sz, none⟩ (n + 1 - at_) sCap cur e cs hu hsz hg (by rw [hmin]; exact hcl)
        (fun j v hj => by
          obtain ⟨k, r, x, hk, hr, rfl⟩ := flatMap_of henc _ j v hj
          have hx : xs[at_ + k]? = some x := by
            have hk' := (List.getElem?_eq_some_iff.1 hk).1
            rw [List.length_take] at hk'
            rw [List.getElem?_take, if_pos (by omega), List.getElem?_drop] at hk
            exact hk
          have := flatMap_at henc xs (at_ + k) r x v hx hr
          rw [Addr.add_lit, cell_of_row w g _ cur e (0, 0) hg]
          have hlt := (List.getElem?_eq_some_iff.1 this).1
          rw [length_flat henc] at hlt
          rw [← htake, List.getElem?_take, if_pos hlt] at this
          rw [show at_ * sz + (k * sz + r) = (at_ + k) * sz + r by rw [Nat.add_mul]; omega]
          simpa using this)
        (by rw [hcl, hcs]; omega) (fun u hu' => by obtain ⟨x, _, hux⟩ := List.mem_flatMap.1 hu'; exact hone x u hux)
      rw [hmin] at hrun
      refine ⟨_, hrun, ?_, ⟨rfl, rfl, rfl, by simp, fun k _ hk => setRow_other w g k _ (fun e => hk (by rw [e]))⟩⟩
      have hlen : (xs.take (at_ + 1) ++ (xs.drop at_).take (n - at_)).length = n + 1 := by simp; omega
      have ht1 : cur.toList.take ((at_ + 1) * sz) = (xs.take (at_ + 1)).flatMap enc := by
        rw [← flat_take henc, ← htake, List.take_take]
        congr 1; rw [hn]; rw [Nat.min_eq_left]; omega
      unfold Owns
      refine ⟨by rw [length_flat henc], .inr ⟨g, c, _, rfl, hb, setRow_heap w g _ _ e _ hg, by omega, hcm, ?_, ?_⟩⟩
      · have := hcs
        rw [List.size_toArray, List.length_append, List.length_append, List.length_take, List.length_drop, hcl]
        rw [Array.length_toList, hcs]; omega
      · rw [hlen, List.flatMap_append, ← ht1]
        have hl2 : (cur.toList.take ((at_ + 1) * sz) ++ cs).length = (n + 1) * sz := by
          rw [List.length_append, List.length_take, hcl, Array.length_toList, hcs]; omega
        show List.take ((n + 1) * sz) (cur.toList.take ((at_ + 1) * sz) ++ cs ++ _) = _
        rw [← hl2, List.take_left']
        rfl
  · have he : at_ = n := by omega
    subst he
    refine ⟨w, ?_, ?_, World.grownBy.refl w _⟩
    · rw [Nat.sub_self]; exact run_copy_zero w dT sT ty e sz dp dCap _ _ sCap hu hsz
    · rw [Nat.sub_self, List.take_zero, List.append_nil, List.take_of_length_le (by omega)]; exact hown
end Go.Proofs.Ytcffhfcjfjfokaa
