/- List Icut Shift ShiftTo Pick Lackone, joined. -/
import Derived.Laws.CopyRow
import Derived.Laws.IdiomCopy
import Derived.Laws.OwnMore
import Derived.Test.YtcffhfcjfjfokaaRows
import Derived.ProofKit
import Derived.WalkKit
import Derived.StillTailTactics
import Derived.IntWalk
import Derived.Test.YtcffhfcjfjfokaaSh3
import Derived.Test.YtcffhfcjfjfokaaSh5
import Derived.Test.YtcffhfcjfjfokaaSh6
import Derived.Test.YtcffhfcjfjfokaaSh15
import Derived.Test.YtcffhfcjfjfokaaSh16
set_option linter.unusedVariables false
set_option linter.unusedSimpArgs false
/- What the program's list answers. -/
namespace Go.Proofs.Ytcffhfcjfjfokaa
open Go.RowKit
theorem Rws.below {w w' : World} {N N' : Nat} {A : Option Addr} {rs : List Rw} (h : Rws w N A rs) (hb : Below N' w w') (hN : N ≤ N') : Rws w' N A rs :=
  ⟨h.row.below hb hN, fun r hr => (h.each r hr).below hb hN⟩
/-- What list answers: what joined answers of all of them, if they are not too many. -/
def ListPost (fs gs : List Fl) (w : World) (e : Ending) (w' : World) : Prop :=
  if 1 ≤ fs.length ∧ fs.length ≤ 16 then JoinedPost (fs ++ gs) w e w' else e = .returned (.tuple #[.pointer none, .int .i64 1]) ∧ Below w.heap.size w w'
theorem joined_from {fs : List Fl} {w w1 w' : World} {e : Ending} (h : JoinedPost fs w1 e w') (hb : Below w.heap.size w w1) : JoinedPost fs w e w' := by
  have hs := hb.size
  obtain ⟨h1, h2⟩ := h
  refine ⟨hb.trans (h1.mono hs), ?_⟩
  rcases h2 with h2 | ⟨bs, bu, cut, F, n, a, b, c, d, d2, r⟩
  · exact .inl h2
  · exact .inr ⟨bs, bu, cut, F, n, a, b, c, by omega, by omega, r⟩
set_option maxRecDepth 100000 in
set_option maxHeartbeats 4000000 in
theorem list_any (A B : Option Addr) (cA cB N : Nat) (fs gs : List Fl) (w : World) (hN : N ≤ w.heap.size) (hA : Fls w N A fs) (hB : Fls w N B gs) (hl : fs.length ≤ 9223372036854775807) (hg : gs.length ≤ 1) :
    Calls Try.prog 52 #[.slice A fs.length cA, .slice B gs.length cB] w (ListPost fs gs w) := by
  by_cases h1 : fs.length < 1
  · have HL : Hid (∀ e w', e = .returned (.tuple #[.pointer none, .int .i64 1]) → Below w.heap.size w w' → ListPost fs gs w e w') := by intro e w' a b; show (if _ then _ else _); rw [if_neg (by omega)]; exact ⟨a, b⟩
    go_enter Try.func52, Try.ntmps52
    go_wp2
    go_ret2
    go_light
    exact HL.out _ _ rfl (Below.refl _ _)
  · by_cases h2 : 16 < fs.length
    · have HL : Hid (∀ e w', e = .returned (.tuple #[.pointer none, .int .i64 1]) → Below w.heap.size w w' → ListPost fs gs w e w') := by intro e w' a b; show (if _ then _ else _); rw [if_neg (by omega)]; exact ⟨a, b⟩
      go_enter Try.func52, Try.ntmps52
      go_wp2
      go_ret2
      go_light
      exact HL.out _ _ rfl (Below.refl _ _)
    · have HL : Hid (∀ e w', JoinedPost (fs ++ gs) w e w' → ListPost fs gs w e w') := by intro e w' a; show (if _ then _ else _); rw [if_pos (by omega)]; exact a
      obtain ⟨rs, hrs, hR⟩ := fls_rows hA
      obtain ⟨ss, hss, hS⟩ := fls_rows hB
      have hlr : rs.length = fs.length := by rw [← hrs, List.length_map]
      have hls : ss.length = gs.length := by rw [← hss, List.length_map]
      have Hlr := Lib.hid hlr
      have Hls := Lib.hid hls
      replace hrs := Lib.hid hrs
      replace hss := Lib.hid hss
      clear hlr hls hA hB
      go_enter Try.func52, Try.ntmps52
      go_wp2_with (at_builtin; refine wpList_append_rows _ rfl (.const (.slice none 0 0)) (.tmp 14) 22 rfl w.heap.size 39 7 88 _ Try.underlying22 info39 rfl (by decide) eRw len_eRw one_eRw none 0 [] A cA N 0 fs.length rs rfl rfl rfl ?_ ?_ ?_ ?_ ?_ ?_ ?_)
      · exact Hlr.out
      · exact owns_nil _ _ _ _ _
      · exact hR.row
      · omega
      · omega
      · omega
      · intro A1 c1 w1 ho1 hg1 hk1
        have hb1 : Below w.heap.size w w1 := (Below.refl _ _).grown hg1 (Nat.le_refl _) (by intro k hk; simp [blk] at hk)
        have hlo1 := ho1.lo
        clear hg1 hk1
        go_wp2_with (at_builtin; refine wpList_append_rows _ rfl (.tmp 15) (.tmp 16) 22 rfl w.heap.size 39 7 88 _ Try.underlying22 info39 rfl (by decide) eRw len_eRw one_eRw A1 c1 rs B cB N fs.length gs.length ss rfl rfl ?_ ?_ ?_ ?_ ?_ ?_ ?_ ?_)
        · exact Hlr.out
        · exact Hls.out
        · exact ho1
        · exact hS.row.below hb1 hN
        · omega
        · omega
        · exact hb1.size
        · intro A2 c2 w2 ho2 hg2 hk2
          have hb2 : Below w.heap.size w w2 := hb1.grown hg2 hb1.size (fun k hk => (hlo1 k hk).1)
          have hrow := ho2.row len_eRw
          have hs2 := hb2.size
          have hfl : Fls w2 w2.heap.size A2 (fs ++ gs) := by
            have hx : Rws w2 w2.heap.size A2 (rs ++ ss) := ⟨hrow, fun r hr => by
              rcases List.mem_append.1 hr with h | h
              · exact ((hR.each r h).below hb2 hN).more (by omega)
              · exact ((hS.each r h).below hb2 hN).more (by omega)⟩
            have := rows_fls hx
            rw [List.map_append, hrs.out, hss.out] at this; exact this
          have hlen : fs.length + gs.length = (fs ++ gs).length := by rw [List.length_append]
          have HFl := Lib.hid hfl
          have Hlen := Lib.hid hlen
          clear ho1 ho2 hg2 hk2 hrow hfl hlen hR hS hlo1
          go_wp2_with (go_at_call 97; rw [Hlen.out]; refine (joined_any A2 c2 w2.heap.size (fs ++ gs) w2 (Nat.le_refl _) HFl.out (by rw [← Hlen.out]; omega) (by rw [← Hlen.out]; omega)).mono ?_; intro e w' hj; obtain ⟨hjb, hj⟩ := joined_from hj hb2; rcases hj with ⟨n, rfl, hn1, hn2⟩ | ⟨bs, bu, cut, F, n, rfl, hn1⟩)
          · go_ret2
            go_light
            exact HL.out _ _ ⟨hjb, .inl ⟨n, rfl, hn1, hn2⟩⟩
          · go_ret2
            go_light
            exact HL.out _ _ ⟨hjb, .inr ⟨bs, bu, cut, F, n, rfl, hn1⟩⟩
/-- The error of contents and more contents. -/
def ListedMore (fs gs : List Fl) (n : Int) : Prop := if 1 ≤ fs.length ∧ fs.length ≤ 16 then Together (fs ++ gs) n else n = 1
theorem list_cases {fs gs : List Fl} {w w' : World} {e : Ending} (h : ListPost fs gs w e w') : Below w.heap.size w w' ∧
    ((∃ n, e = .returned (.tuple #[.pointer none, .int .i64 n]) ∧ n ≠ 0 ∧ ListedMore fs gs n) ∨
     (∃ bs bu cut F n, e = .returned (.tuple #[.pointer (some ⟨bs, 0, none⟩), .int .i64 0]) ∧ ListedMore fs gs 0 ∧ Fit (fs ++ gs) ∧ IsCut (fs ++ gs) cut ∧ w.heap.size ≤ bs ∧ w.heap.size ≤ bu ∧
       w'.heap[bs]? = some (.cells #[.int .i64 (baseOf (fs ++ gs)), .int .i64 cut, .map (some bu)] 119 (0, 0)) ∧ MapsTo w' Try.prog 3 bu n vInt vSlot F ∧ ∀ pos s, F pos = some s ↔ Known (fs ++ gs) pos s)) := by
  unfold ListPost at h
  by_cases hl : 1 ≤ fs.length ∧ fs.length ≤ 16
  · rw [if_pos hl] at h
    obtain ⟨hb, h⟩ := h
    refine ⟨hb, ?_⟩
    rcases h with ⟨n, a, b, c⟩ | ⟨bs, bu, cut, F, n, a, b, c, d⟩
    · exact .inl ⟨n, a, b, by unfold ListedMore; rw [if_pos hl]; exact c⟩
    · exact .inr ⟨bs, bu, cut, F, n, a, by unfold ListedMore; rw [if_pos hl]; exact b, fit_iff.1 b, c, d⟩
  · rw [if_neg hl] at h
    exact ⟨h.2, .inl ⟨1, h.1, by decide, by unfold ListedMore; rw [if_neg hl]⟩⟩
end Go.Proofs.Ytcffhfcjfjfokaa
namespace Go.Proofs.Ytcffhfcjfjfokaa
open Go.RowKit
theorem blk_cells {w : World} {g : Nat} {cs : Array Value} {t : TypeId} (h : w.heap[g]? = some (.cells cs t (0, 0))) : ∀ i, w.cell? ⟨g, i, none⟩ = cs[i]? := fun i => cell_of_row w g i cs t (0, 0) h
theorem more_nil {fs : List Fl} {n : Int} (h : ListedMore fs [] n) : Listed fs n := by
  unfold ListedMore at h
  unfold Listed
  rw [List.append_nil] at h; exact h
set_option maxHeartbeats 1000000 in
theorem icut_any (A : Option Addr) (cA N : Nat) (fs : List Fl) (w : World) (hN : N ≤ w.heap.size) (hA : Fls w N A fs) (hl : fs.length ≤ 9223372036854775807) :
    Calls Try.prog 14 #[.slice A fs.length cA] w fun x w' => (∃ k n, x = .returned (.tuple #[.int .i64 k, .int .i64 n]) ∧ CutIs fs k n) ∧ Below w.heap.size w w' := by
  have hB : Fls w N none [] := fun h => absurd h (by simp)
  go_enter Try.func14, Try.ntmps14
  go_wp2_with (go_at_call 52; refine (list_any A none cA 0 N fs [] _ hN hA hB hl (by simp)).mono ?_; intro e w' hp; obtain ⟨hbw, hp⟩ := list_cases hp; rw [List.append_nil] at hp; rcases hp with ⟨n, rfl, hn0, hL⟩ | ⟨bs, bu, cut, F, m, rfl, hL, hfit, hcut, hbs, hbu, hub, hF⟩; all_goals try have hcc := blk_cells hub)
  · go_ret2
    go_light
    exact ⟨⟨0, n, rfl, more_nil hL, fun e => absurd e hn0, fun _ => rfl⟩, hbw⟩
  · go_ret2
    go_light
    exact ⟨⟨cut, 0, rfl, more_nil hL, fun _ => hcut, fun e => absurd rfl e⟩, hbw⟩
end Go.Proofs.Ytcffhfcjfjfokaa
/- A row of the call's own: a stretch copied one place up, an element set; insertion in order. -/
namespace Go.Proofs.Ytcffhfcjfjfokaa
open Go.RowKit
section
variable {P : Program}
theorem run_copy_wide (w : World) (dT sT ty elem : TypeId) (sz g o dLen dCap : Nat) (a : Addr) (sLen sCap : Nat) (cur : Array Value) (t : TypeId) (cs : List Value)
    (hu : P.underlying dT = some (.slice elem)) (hs : (P.info? elem).map (·.size) = some sz)
    (hg : w.heap[g]? = some (.cells cur t (0, 0))) (hn : cs.length = Nat.min sLen dLen * sz)
    (hsrc : ∀ j v, cs[j]? = some v → w.cell? (a.add j) = some v) (hfit : o + cs.length ≤ cur.size) (h1 : ∀ v ∈ cs, v.oneCell' = true) :
    (Builtin.copy_ #[dT, sT] ty #[.slice (some ⟨g, o, none⟩) dLen dCap, .slice (some a) sLen sCap]).run P w =
      .ok (goInt (Nat.min sLen dLen)) (w.setRow g (cur.toList.take o ++ cs ++ cur.toList.drop (o + cs.length)).toArray) := by
  have hl := run_loadCells_list (P := P) w a cs hsrc
  have hst := run_storeCells_at P g o t cs 0 cur w hg (by simpa using hfit) h1
  rw [hn] at hl
  cases hq : P.info? elem with
  | none => simp [hq] at hs
  | some i =>
    have hi : i.size = sz := by simpa [hq] using hs
    simp [Builtin.copy_, run_underlying hu, Builtin.lenOf, Builtin.firstCells, sizeOf, typeInfo, hq, hi, hl, hst]
theorem run_copy_zero (w : World) (dT sT ty elem : TypeId) (sz : Nat) (d : Option Addr) (dCap : Nat) (a : Addr) (sLen sCap : Nat)
    (hu : P.underlying dT = some (.slice elem)) (hs : (P.info? elem).map (·.size) = some sz) :
    (Builtin.copy_ #[dT, sT] ty #[.slice d 0 dCap, .slice (some a) sLen sCap]).run P w = .ok (goInt 0) w := by
  have hl : (loadCells a 0).run P w = .ok #[] w := by simpa using run_loadCells_list (P := P) w a [] (by simp)
  cases hq : P.info? elem with
  | none => simp [hq] at hs
  | some i => cases d <;> simp [Builtin.copy_, run_underlying hu, Builtin.lenOf, Builtin.firstCells, sizeOf, typeInfo, hq, storeCells, hl]
end
theorem flat_take {α : Type} {enc : α → List Value} {sz : Nat} (hsz : ∀ x, (enc x).length = sz) (l : List α) (k : Nat) : (l.flatMap enc).take (k * sz) = (l.take k).flatMap enc := by
  induction l generalizing k with
  | nil => simp
  | cons y l ih =>
    cases k with
    | zero => simp
    | succ k =>
      have e : (k + 1) * sz = sz + k * sz := by rw [Nat.add_mul]; omega
      rw [List.flatMap_cons, List.take_succ_cons, List.flatMap_cons, e, ← ih k, List.take_append, hsz y, List.take_of_length_le (by rw [hsz]; omega)]
      congr 2; omega
theorem flat_set2 : ∀ (l : List (Int × Int)) (k : Nat) (x : Int × Int), k < l.length → ((l.flatMap eSlot).set (k * 2) (.int .i64 x.1)).set (k * 2 + 1) (.int .i64 x.2) = (l.set k x).flatMap eSlot
  | [], k, x, h => by simp at h
  | y :: l, 0, x, _ => by simp [eSlot]
  | y :: l, k + 1, x, h => by
    have ih := flat_set2 l k x (by simpa using h)
    rw [List.set_cons_succ, List.flatMap_cons, List.flatMap_cons, ← ih]
    have e1 : (k + 1) * 2 = k * 2 + 1 + 1 := by omega
    rw [e1]
    simp [eSlot]
/-- Two cells of an own row of slots set: one slot set. -/
theorem Owns.set2 {w : World} {base g c k : Nat} {l : List (Int × Int)} (h : Owns w base 66 2 eSlot (some ⟨g, 0, none⟩) c l) (hk : k < l.length) (x : Int × Int) :
    Owns ((w.setCell ⟨g, k * 2, none⟩ (.int .i64 x.1)).setCell ⟨g, k * 2 + 1, none⟩ (.int .i64 x.2)) base 66 2 eSlot (some ⟨g, 0, none⟩) c (l.set k x) := by
  have h1 := (World.ownsRow.stored h (k * 2) (.int .i64 x.1)).1
  have h2 := (World.ownsRow.stored h1 (k * 2 + 1) (.int .i64 x.2)).1
  rw [flat_set2 l k x hk] at h2
  unfold Owns
  rw [List.length_set]
  exact h2
/-- Is s ahead of t? -/
def sltB (s t : Int × Int) : Bool := decide (s.1 < t.1 ∨ s.1 = t.1 ∧ s.2 < t.2)
/-- s into a list that rises: behind all that are not behind it. -/
def ins (l : List (Int × Int)) (s : Int × Int) : List (Int × Int) := l.takeWhile (fun t => !sltB s t) ++ s :: l.dropWhile (fun t => !sltB s t)
def Rises (l : List (Int × Int)) : Prop := l.Pairwise (fun a b => sltB b a = false)
theorem slt_trans {a b c : Int × Int} (h : sltB a b = false) (h' : sltB b c = false) : sltB a c = false := by
  simp only [sltB, decide_eq_false_iff_not] at *
  omega
theorem slt_of {a b c : Int × Int} (h : sltB a b = true) (h' : sltB c b = false) : sltB a c = true := by
  simp only [sltB, decide_eq_false_iff_not, decide_eq_true_eq] at *
  omega
theorem take_while {α : Type} {p : α → Bool} : ∀ {l : List α} {n : Nat}, (∀ j x, j < n → l[j]? = some x → p x = true) → (∀ x, l[n]? = some x → p x = false) → n ≤ l.length → l.takeWhile p = l.take n ∧ l.dropWhile p = l.drop n
  | [], n, _, _, hn => by simp
  | y :: l, 0, _, h2, _ => by simp [h2 y rfl]
  | y :: l, n + 1, h1, h2, hn => by
    have ih := take_while (l := l) (n := n) (fun j x hj hx => h1 (j + 1) x (by omega) (by simpa using hx)) (fun x hx => h2 x (by simpa using hx)) (by simpa using hn)
    simp [h1 0 y (by omega) rfl, ih]
theorem ins_at {l : List (Int × Int)} {s : Int × Int} {n : Nat} (h1 : ∀ j x, j < n → l[j]? = some x → sltB s x = false) (h2 : ∀ x, l[n]? = some x → sltB s x = true) (hn : n ≤ l.length) : ins l s = l.take n ++ s :: l.drop n := by
  obtain ⟨e1, e2⟩ := take_while (p := fun t => !sltB s t) (fun j x hj hx => by simp [h1 j x hj hx]) (fun x hx => by simp [h2 x hx]) hn
  rw [ins, e1, e2]
theorem rises_low {l : List (Int × Int)} {s : Int × Int} {n : Nat} (hr : Rises l) (h : ∀ x, l[n]? = some x → sltB s x = false) (hn : n < l.length) : ∀ j x, j < n + 1 → l[j]? = some x → sltB s x = false := by
  intro j x hj hx
  by_cases hjn : j = n
  · subst hjn; exact h x hx
  · have hl := (List.getElem?_eq_some_iff.1 hx).1
    have := (List.pairwise_iff_getElem.1 hr) j n hl hn (by omega)
    have hx' := (List.getElem?_eq_some_iff.1 hx).2
    rw [hx'] at this
    exact slt_trans (h _ (List.getElem?_eq_getElem hn)) this
theorem takeWhile_len {α : Type} (p : α → Bool) : ∀ l : List α, ∃ n, n ≤ l.length ∧ (∀ j x, j < n → l[j]? = some x → p x = true) ∧ (∀ x, l[n]? = some x → p x = false)
  | [] => ⟨0, by simp, by intro j x hj; omega, by simp⟩
  | y :: l => by
    by_cases hy : p y = true
    · obtain ⟨n, h1, h2, h3⟩ := takeWhile_len p l
      refine ⟨n + 1, by simpa using h1, fun j x hj hx => ?_, fun x hx => h3 x (by simpa using hx)⟩
      cases j with
      | zero => simp at hx; subst hx; exact hy
      | succ j => exact h2 j x (by omega) (by simpa using hx)
    · exact ⟨0, by simp, by intro j x hj; omega, fun x hx => by simp at hx; subst hx; simpa using hy⟩
theorem rises_ins {l : List (Int × Int)} (hr : Rises l) (s : Int × Int) : Rises (ins l s) := by
  obtain ⟨n, hn, h1, h2⟩ := takeWhile_len (fun t => !sltB s t) l
  rw [ins_at (n := n) (fun j x hj hx => by simpa using h1 j x hj hx) (fun x hx => by simpa using h2 x hx) hn]
  have hle := List.take_append_drop n l
  have hr' : Rises (l.take n ++ l.drop n) := by rw [hle]; exact hr
  obtain ⟨ha, hb, hab⟩ := List.pairwise_append.1 hr'
  refine List.pairwise_append.2 ⟨ha, List.pairwise_cons.2 ⟨fun y hy => ?_, hb⟩, fun x hx y hy => ?_⟩
  · obtain ⟨k, hk⟩ := List.mem_iff_getElem?.1 hy
    rw [List.getElem?_drop] at hk
    have hnl : n < l.length := by have := (List.getElem?_eq_some_iff.1 hk).1; omega
    have hs : sltB s l[n] = true := by simpa using h2 _ (List.getElem?_eq_getElem hnl)
    have hy' : sltB y l[n] = false := by
      by_cases hk0 : k = 0
      · subst hk0; rw [Nat.add_zero, List.getElem?_eq_getElem hnl] at hk; cases hk
        simp [sltB]
      · have hkl := (List.getElem?_eq_some_iff.1 hk).1
        have := (List.pairwise_iff_getElem.1 hr) n (n + k) hnl hkl (by omega)
        rw [(List.getElem?_eq_some_iff.1 hk).2] at this
        exact this
    have := slt_of hs hy'
    simp only [sltB, decide_eq_true_eq, decide_eq_false_iff_not] at *
    omega
  · cases List.mem_cons.1 hy with
    | inl e =>
      subst e
      obtain ⟨k, hk⟩ := List.mem_iff_getElem?.1 hx
      rw [List.getElem?_take] at hk
      split at hk
      · simpa using h1 k x (by assumption) hk
      · cases hk
    | inr e => exact hab x hx y e
theorem ins_length (l : List (Int × Int)) (s : Int × Int) : (ins l s).length = l.length + 1 := by
  have : (l.takeWhile (fun t => !sltB s t)).length + (l.dropWhile (fun t => !sltB s t)).length = l.length := by
    rw [← List.length_append, List.takeWhile_append_dropWhile]
  simp [ins]; omega
/-- The row behind append, copy and store: s put at its place. -/
theorem put_at {l : List (Int × Int)} {s : Int × Int} {n : Nat} (hn : n ≤ l.length) :
    (((l ++ [s]).take (n + 1) ++ ((l ++ [s]).drop n).take (l.length - n)).set n s) = l.take n ++ s :: l.drop n := by
  have e1 : ((l ++ [s]).drop n).take (l.length - n) = l.drop n := by
    rw [List.drop_append_of_le_length hn, List.take_append_of_le_length (by simp), List.take_of_length_le (by simp)]
  rw [e1]
  by_cases h0 : n < l.length
  · rw [List.take_append_of_le_length (by omega), List.take_add_one, List.getElem?_eq_getElem h0]
    simp only [Option.toList]
    rw [List.append_assoc, List.set_append_right _ _ (by simp; omega)]
    simp [Nat.min_eq_left hn]
  · obtain rfl : n = l.length := by omega
    rw [List.take_of_length_le (by simp)]
    simp
/-- 'copy(l[at+1:], l[at:])' on a row of the call's own, as it runs. -/
theorem run_copy_up {α : Type} {P : Program} {w : World} (dT sT ty : TypeId) (base : Nat) (e : TypeId) (sz : Nat) (hu : P.underlying dT = some (.slice e)) (hsz : (P.info? e).map (·.size) = some sz)
    (enc : α → List Value) (henc : ∀ x, (enc x).length = sz) (hone : ∀ x, ∀ u ∈ enc x, u.oneCell' = true)
    (g c at_ n : Nat) (xs : List α) (dp sp : Option Addr) (dl dCap sl sCap : Nat) (hdl : dl = n - at_) (hsl : sl = n + 1 - at_)
    (hn : xs.length = n + 1) (hat : at_ ≤ n) (hdp : at_ < n → dp = some ⟨g, (at_ + 1) * sz, none⟩) (hsp : sp = some ⟨g, at_ * sz, none⟩)
    (hown : Owns w base e sz enc (some ⟨g, 0, none⟩) c xs) :
    ∃ w', (Builtin.copy_ #[dT, sT] ty #[.slice dp dl dCap, .slice sp sl sCap]).run P w = .ok (goInt (n - at_ : Nat)) w' ∧
      Owns w' base e sz enc (some ⟨g, 0, none⟩) c (xs.take (at_ + 1) ++ (xs.drop at_).take (n - at_)) ∧ w.grownBy w' (some g) := by
  subst hdl hsl hsp

  by_cases h0 : at_ < n
  · obtain rfl := hdp h0
    rcases hown.2 with ⟨hv, _⟩ | ⟨g', cap, cur, hv, hb, hg, hnc, hcm, hcs, htake⟩
    · injection hv with hv; cases hv
    · injection hv with hv _ hc
      injection hv with hv; injection hv with hv; subst hv; subst hc
      have hmul : (n + 1) * sz ≤ c * sz := Nat.mul_le_mul_right _ (by omega)
      have e1 : (n + 1) * sz = (at_ + 1) * sz + (n - at_) * sz := by rw [← Nat.add_mul]; congr 1; omega
      have e2 : (n + 1) * sz = at_ * sz + (n + 1 - at_) * sz := by rw [← Nat.add_mul]; congr 1; omega
      have e3 : (n + 1 - at_) * sz = sz + (n - at_) * sz := by rw [show n + 1 - at_ = 1 + (n - at_) by omega, Nat.add_mul]; omega
      let cs := ((xs.drop at_).take (n - at_)).flatMap enc
      have hcl : cs.length = (n - at_) * sz := by
        show (((xs.drop at_).take (n - at_)).flatMap enc).length = _
        rw [length_flat henc, List.length_take, List.length_drop]
        congr 1; omega
      have hmin : Nat.min (n + 1 - at_) (n - at_) = n - at_ := Nat.min_eq_right (by omega)
      have hrun := run_copy_wide (P := P) w dT sT ty e sz g ((at_ + 1) * sz) (n - at_) dCap ⟨g, at_ * sz, none⟩ (n + 1 - at_) sCap cur e cs hu hsz hg (by rw [hmin]; exact hcl)
        (fun j v hj => by
          obtain ⟨k, r, x, hk, hr, rfl⟩ := flatMap_of henc _ j v hj
          have hx : xs[at_ + k]? = some x := by
            have hk' := (List.getElem?_eq_some_iff.1 hk).1
            rw [List.length_take] at hk'
            rw [List.getElem?_take, if_pos (by omega), List.getElem?_drop] at hk
            exact hk
          have := flatMap_at henc xs (at_ + k) r x v hx hr
          rw [Addr.add_lit, cell_of_row w g _ cur e (0, 0) hg]
          have hlt := (List.getElem?_eq_some_iff.1 this).1
          rw [length_flat henc] at hlt
          rw [← htake, List.getElem?_take, if_pos hlt] at this
          rw [show at_ * sz + (k * sz + r) = (at_ + k) * sz + r by rw [Nat.add_mul]; omega]
          simpa using this)
        (by rw [hcl, hcs]; omega) (fun u hu' => by obtain ⟨x, _, hux⟩ := List.mem_flatMap.1 hu'; exact hone x u hux)
      rw [hmin] at hrun
      refine ⟨_, hrun, ?_, ⟨rfl, rfl, rfl, by simp, fun k _ hk => setRow_other w g k _ (fun e => hk (by rw [e]))⟩⟩
      have hlen : (xs.take (at_ + 1) ++ (xs.drop at_).take (n - at_)).length = n + 1 := by simp; omega
      have ht1 : cur.toList.take ((at_ + 1) * sz) = (xs.take (at_ + 1)).flatMap enc := by
        rw [← flat_take henc, ← htake, List.take_take]
        congr 1; rw [hn]; rw [Nat.min_eq_left]; omega
      unfold Owns
      refine ⟨by rw [length_flat henc], .inr ⟨g, c, _, rfl, hb, setRow_heap w g _ _ e _ hg, by omega, hcm, ?_, ?_⟩⟩
      · have := hcs
        rw [List.size_toArray, List.length_append, List.length_append, List.length_take, List.length_drop, hcl]
        rw [Array.length_toList, hcs]; omega
      · rw [hlen, List.flatMap_append, ← ht1]
        have hl2 : (cur.toList.take ((at_ + 1) * sz) ++ cs).length = (n + 1) * sz := by
          rw [List.length_append, List.length_take, hcl, Array.length_toList, hcs]; omega
        show List.take ((n + 1) * sz) (cur.toList.take ((at_ + 1) * sz) ++ cs ++ _) = _
        rw [← hl2, List.take_left']
        rfl
  · have he : at_ = n := by omega
    subst he
    refine ⟨w, ?_, ?_, World.grownBy.refl w _⟩
    · rw [Nat.sub_self]; exact run_copy_zero w dT sT ty e sz dp dCap _ _ sCap hu hsz
    · rw [Nat.sub_self, List.take_zero, List.append_nil, List.take_of_length_le (by omega)]; exact hown
end Go.Proofs.Ytcffhfcjfjfokaa
namespace Go.Proofs.Ytcffhfcjfjfokaa
open Go.RowKit
def cutOff (g c a : Nat) : Option Addr := if c = a then some ⟨g, 0, none⟩ else some ⟨g, a * 2, none⟩
theorem cutOff_at {g c a : Nat} (h : a < c) : cutOff g c a = some ⟨g, a * 2, none⟩ := if_neg (by omega)
/-- 'l[a:]' of a row of slots. -/
theorem run_from (W : World) (g n c a : Nat) (x : Int) (hx : x = a) (ha : a ≤ n) :
    (Instr.sliceAt 36 (.slice (some ⟨g, 0, none⟩) n c) (some (.int .i64 x)) none none).run Try.prog W = .ok (.slice (cutOff g c a) (n - a) (c - a)) W := by
  subst hx
  have he : Try.prog.elem 36 = 66 := by kernel_rfl
  have ht : Try.prog.underlying 36 = some (.slice (Try.prog.elem 36)) := by kernel_rfl
  have hsz : ∀ W, (sizeOf (Try.prog.elem 36)).run Try.prog W = .ok 2 W := fun W => by rw [he]; kernel_rfl
  rw [run_sliceAt_slice (h := ht), run_slice_l (ht := ht) (h0 := by omega) (h1 := by omega), hsz]
  have hc : (if c = a then some (⟨g, 0, none⟩ : Addr) else (some (⟨g, 0, none⟩ : Addr)).map (·.add (a * 2))) = cutOff g c a := by
    unfold cutOff
    by_cases h : c = a
    · rw [if_pos h, if_pos h]
    · rw [if_neg h, if_neg h]; simp [Addr.add]; omega
  simp only [Result.andThen, sliced, Int.toNat_natCast]
  rw [hc]
theorem size66 : (Try.prog.info? 66).map (·.size) = some 2 := by kernel_rfl
theorem own_cell {w : World} {base g c j : Nat} {l : List (Int × Int)} (h : Owns w base 66 2 eSlot (some ⟨g, 0, none⟩) c l) (hj : j < l.length * 2) : ∃ u, w.cell? ⟨g, j, none⟩ = some u := by
  have h1 := World.ownsRow.cellAt h j hj
  rw [h1]
  exact ⟨_, List.getElem?_eq_getElem (by rw [h.1]; exact hj)⟩
theorem own_frozen {w : World} {base g c : Nat} {l : List (Int × Int)} (h : Owns w base 66 2 eSlot (some ⟨g, 0, none⟩) c l) (j : Nat) : w.frozen? ⟨g, j, none⟩ = false := World.ownsRow.frozenAt h j
end Go.Proofs.Ytcffhfcjfjfokaa
namespace Go.Proofs.Ytcffhfcjfjfokaa
open Go.RowKit
/-- The wanted slots of the q positions behind 'behind', by rising sender and number. -/
def pickTo (F : Int → Option (Int × Int)) (p : Int × Int → Bool) (behind : Int) : Nat → List (Int × Int)
  | 0 => []
  | q + 1 => match F (behind + 1 + q) with
    | some s => if p s = true then ins (pickTo F p behind q) s else pickTo F p behind q
    | none => pickTo F p behind q
theorem rises_pick (F : Int → Option (Int × Int)) (p : Int × Int → Bool) (behind : Int) : ∀ q, Rises (pickTo F p behind q)
  | 0 => List.Pairwise.nil
  | q + 1 => by
    rw [pickTo]
    split
    · split
      · exact rises_ins (rises_pick F p behind q) _
      · exact rises_pick F p behind q
    · exact rises_pick F p behind q
set_option maxRecDepth 100000 in
set_option maxHeartbeats 4000000 in
theorem pick_60 (x0 : Value) (bs bu n : Nat) (base cut behind : Int) (F : Int → Option (Int × Int)) (p : Int × Int → Bool) (w : World)
    (hu : w.heap[bs]? = some (.cells #[.int .i64 base, .int .i64 cut, .map (some bu)] 119 (0, 0))) (hM : MapsTo w Try.prog 3 bu n vInt vSlot F)
    (hb0 : 0 ≤ behind) (hb1 : behind ≤ 4611686018427387904) (hcut : cut ≤ 4611686018427387904) (hfew : cut - behind ≤ 4096)
    (hF : ∀ pos, behind < pos → pos ≤ cut → ∃ s, F pos = some s)
    (HC : ∀ (s : Int × Int) (W : World), Below w.heap.size w W → (∃ pos, behind < pos ∧ pos ≤ cut ∧ F pos = some s) → Calls Try.prog 60 #[.agg #[.int .i64 s.1, .int .i64 s.2], x0] W fun e W' => e = .returned (.bool (p s)) ∧ Below W.heap.size W W') :
    Calls Try.prog 59 #[.pointer (some ⟨bs, 0, none⟩), .int .i64 behind, .func (.func 60) #[] #[x0]] w fun x w' => (∃ B c, x = .returned (.slice B (pickTo F p behind (cut - behind).toNat).length c) ∧ Owns w' w.heap.size 66 2 eSlot B c (pickTo F p behind (cut - behind).toNat)) ∧ Below w.heap.size w w' := by
  have hcu := blk_cells hu
  go_enter Try.func59, Try.ntmps59
  go_wp2
  go_loopw [7, 8] (fun a b wr => ∃ (q : Nat) (B : Option Addr) (cB m : Nat), b = .int .i64 (behind + 1 + q) ∧ a = .slice B m cB ∧ m = (pickTo F p behind q).length ∧ q ≤ (cut - behind).toNat ∧ Owns wr w.heap.size 66 2 eSlot B cB (pickTo F p behind q) ∧ m ≤ q ∧ Below w.heap.size w wr) (fun _ b _ => (cut + 1 - intOf b).toNat)
  case atStart => exact ⟨0, none, 0, 0, by simp, rfl, rfl, by omega, owns_nil _ _ _ _ _, by omega, Below.refl _ _⟩
  case round =>
    obtain ⟨q, B, cB, m, rfl, rfl, hm, hq, hown, hmq, hb⟩ := hrel
    replace hm := Lib.hid hm
    have hlo := hown.lo
    have hu' := (hb.block bs (Array.getElem?_eq_some_iff.1 hu).1).trans hu
    have hcu' := blk_cells hu'
    have hM' := hM.keep hb hM.lt
    by_cases hlt : behind + 1 + q ≤ cut
    · obtain ⟨⟨x, y⟩, hs⟩ := hF _ (by omega) hlt
      have hkeyp : ∃ l, keyOf Try.prog 3 (vInt (behind + 1 + q)) = some l := key_int _ (WalkArith.wf_i64 (by omega))
      have hlook := hM'.look lawInt vInt_inj Try.underlying117 (zero66 _) false (behind + 1 + q) hkeyp
      rw [hs] at hlook
      simp only [vInt, vSlot] at hlook
      have hpk : pickTo F p behind (q + 1) = if p (x, y) = true then ins (pickTo F p behind q) (x, y) else pickTo F p behind q := by rw [pickTo, hs]
      have HF : ∃ pos, behind < pos ∧ pos ≤ cut ∧ F pos = some (x, y) := ⟨_, by omega, hlt, hs⟩
      replace HF := Lib.hid HF
      cases hp : p (x, y) with
      | false =>
        rw [hp, if_neg (by simp)] at hpk
        replace hpk := Lib.hid hpk
        go_wp2_with (go_at_call 60; refine (HC (x, y) _ ?_ HF.out).mono ?_; rotate_left; rintro e w2 ⟨rfl, hbw⟩; rw [hp])
        case refine_1 => exact hb.alloc hb.size _
        have hown2 := (hown.alloc (.cells #[.int .i64 x, .int .i64 y] 66)).keep hbw (fun k hk => by have := (hlo k hk).2; simp only [World.size_alloc]; omega)
        have hb2 := (hb.alloc hb.size (.cells #[.int .i64 x, .int .i64 y] 66)).trans (hbw.mono (by simp only [World.size_alloc]; have := hb.size; omega))
        refine ⟨⟨q + 1, B, cB, m, by rw [show ((q + 1 : Nat) : Int) = q + 1 by omega]; congr 1; omega, rfl, by rw [hpk.out]; exact hm.out, by omega, by rw [hpk.out]; exact hown2, by omega, hb2⟩, by simp [intOf]; omega⟩
      | true =>
        rw [hp, if_pos rfl] at hpk
        replace hpk := Lib.hid hpk
        go_wp2_with (go_at_call 60; refine (HC (x, y) _ ?_ HF.out).mono ?_; rotate_left; rintro e w2 ⟨rfl, hbw⟩; rw [hp])
        case refine_1 => exact hb.alloc hb.size _
        have hown2 := (hown.alloc (.cells #[.int .i64 x, .int .i64 y] 66)).keep hbw (fun k hk => by have := (hlo k hk).2; simp only [World.size_alloc]; omega)
        have hb2 := (hb.alloc hb.size (.cells #[.int .i64 x, .int .i64 y] 66)).trans (hbw.mono (by simp only [World.size_alloc]; have := hb.size; omega))
        have hcs : ∀ i, w2.cell? ⟨wr.heap.size, i, none⟩ = #[Value.int .i64 x, Value.int .i64 y][i]? := fun i => by
          rw [hbw.cell (p := ⟨wr.heap.size, i, none⟩) (by simp only [World.size_alloc]; omega)]
          exact World.cell?_alloc_at _ _ _ _ rfl
        have hs2 : wr.heap.size < w2.heap.size := by have := hbw.size; simp only [World.size_alloc] at this; omega
        have hR : Rises (pickTo F p behind q) := rises_pick F p behind q
        replace hpk := hpk.out
        have hm9 := hm.out
        clear hm
        generalize pickTo F p behind q = L at hpk hm9 hown2 hR
        replace hpk := Lib.hid hpk
        replace hR := Lib.hid hR
        have hm := Lib.hid hm9
        clear hm9 hown hbw hcu hu hcu' hu' hM hM' hlook hkeyp HC hF
        obtain ⟨wo, rfl⟩ : ∃ wo : World, wo = wr := ⟨_, rfl⟩
        go_loopw [10] (fun k wr => ∃ a : Nat, k = .int .i64 a ∧ a ≤ m ∧ (∀ j z, a ≤ j → L[j]? = some z → sltB (x, y) z = true) ∧ Below w2.heap.size w2 wr) (fun k _ => (intOf k).toNat)
        case atStart => exact ⟨m, rfl, by omega, fun j z hj hz => by have := (List.getElem?_eq_some_iff.1 hz).1; have := hm.out; omega, Below.refl _ _⟩
        case round =>
          obtain ⟨a, rfl, ha, hup, hbq⟩ := hrel
          have hcq : ∀ i, wr.cell? ⟨wo.heap.size, i, none⟩ = #[Value.int .i64 x, Value.int .i64 y][i]? := fun i => by
            rw [hbq.cell (p := ⟨wo.heap.size, i, none⟩) hs2]; exact hcs i
          have hownq := hown2.keep hbq (fun k hk => by have := (hlo k hk).2; omega)
          replace hup := Lib.hid hup
          by_cases ha0 : a = 0
          · have hlow : ∀ j z, j < a → L[j]? = some z → sltB (x, y) z = false := by intro j z hj; omega
            have hhigh : ∀ z, L[a]? = some z → sltB (x, y) z = true := fun z hz => hup.out a z (by omega) hz
            replace hlow := Lib.hid hlow
            replace hhigh := Lib.hid hhigh
            go_wp2
            go_quiet (fail)
            have hins := Lib.hid (ins_at (l := L) (s := (x, y)) (n := a) hlow.out hhigh.out (by have := hm.out; omega))
            have hownd : Owns (wr.drewN 0) w.heap.size 66 2 eSlot B cB L := hownq
            clear hlow hhigh
            go_wp2_with (at_builtin; refine wpList_append_rows _ rfl (.tmp 70) (.tmp 72) 36 rfl w.heap.size 66 2 16 _ Try.underlying36 info66 rfl (by decide) eSlot len_eSlot one_eSlot B cB L (some ⟨wr.heap.size, 0, none⟩) 1 (wr.heap.size + 1) m 1 [(x, y)] rfl rfl hm.out.symm rfl ?_ ?_ ?_ ?_ ?_ ?_)
            · exact hownq.alloc _
            · exact row_new _ _ _ _ _ _ rfl
            · omega
            · omega
            · simp only [World.size_alloc, size_drewN]; have := hb2.size; have := hbq.size; omega
            · intro A1 c1' w1 ho1 hg1 hk1
              have hbw := (below_drewN hbq nq).alloc (by have := hbq.size; exact this) (.cells #[.int .i64 x, .int .i64 y] 66)
              have hb1 := ((hb2.trans ((below_drewN hbq nq).mono hb2.size)).alloc (by simp only [size_drewN]; have := hb2.size; have := hbq.size; omega) (.cells #[.int .i64 x, .int .i64 y] 66)).grown hg1 (by simp only [World.size_alloc, size_drewN]; have := hb2.size; have := hbq.size; omega) (fun k hk => (hlo k hk).1)
              obtain ⟨g1, cc1, hv1, hgl1, hgh1⟩ := World.ownsRow.form ho1 (by simp)
              obtain ⟨rfl, rfl⟩ : A1 = some ⟨g1, 0, none⟩ ∧ c1' = cc1 := by injection hv1 with h1 _ h2; exact ⟨h1, h2⟩
              clear hv1
              have hgne : g1 ≠ wo.heap.size := by
                rcases hk1 with h | h
                · have := (hlo g1 h.symm).2; omega
                · simp only [blk, Option.map_some, World.size_alloc, size_drewN] at h; injection h with h; have := hbq.size; omega
              have hc1 : ∀ i, w1.cell? ⟨wo.heap.size, i, none⟩ = #[Value.int .i64 x, Value.int .i64 y][i]? := fun i => by
                rw [World.cell?_of_block (hg1.block wo.heap.size (by have := hbw.size; omega) (by intro h; have := (hlo _ h.symm).2; omega))]
                exact (hbw.cell (p := ⟨wo.heap.size, i, none⟩) hs2).trans (hcs i)
              have hs1 : wo.heap.size < w1.heap.size := by have := hbw.size; have := hg1.size; omega
              have hcap := ho1.len
              simp only [List.length_append, List.length_cons, List.length_nil] at hcap
              rw [← hm.out] at hcap
              have ⟨hcap1, hcap2⟩ := hcap
              go_wp2
              have HS1 := fun W => run_from W g1 (m + 1) c1' 1 1 rfl (by omega)
              have HS2 := fun W => run_from W g1 (m + 1) c1' 0 0 rfl (by omega)
              have e2 : IntKind.i64.wrap 1 = 1 := by decide
              go_still_tail 7, (by kernel_rfl)
              change wpList _ _ _ _ _ w1.drew
              have hL1 : (L ++ [(x, y)]).length = m + 1 := by rw [List.length_append, ← hm.out]; rfl
              obtain ⟨w5, hrun, ho5, hg5⟩ := run_copy_up (P := Try.prog) (w := w1.drew) 36 36 3 w.heap.size 66 2 Try.underlying36 size66 eSlot len_eSlot one_eSlot g1 c1' 0 m (L ++ [(x, y)]) (cutOff g1 c1' 1) (cutOff g1 c1' 0) m (c1' - 1) (m + 1) c1' (by omega) (by omega) hL1 (by omega) (fun h => cutOff_at (by omega)) (cutOff_at (by omega)) (show Owns w1.drew _ _ _ _ _ _ _ from ho1)
              have hput := put_at (l := L) (s := (x, y)) (n := 0) (by have := hm.out; omega)
              rw [← hm.out] at hput
              replace hput := Lib.hid hput
              have hL5 : ((L ++ [(x, y)]).take (0 + 1) ++ ((L ++ [(x, y)]).drop 0).take (m - 0)).length = m + 1 := by rw [List.length_append, List.length_take, List.length_take, List.length_drop, hL1]; omega
              generalize (L ++ [(x, y)]).take (0 + 1) ++ ((L ++ [(x, y)]).drop 0).take (m - 0) = L5 at ho5 hL5 hput
              obtain ⟨u0, hk0⟩ := own_cell ho5 (j := 0 * 2) (by omega)
              obtain ⟨u1, hk11⟩ := own_cell ho5 (j := 0 * 2 + 1) (by omega)
              have hk2 : (w5.setCell ⟨g1, 0 * 2, none⟩ (.int .i64 x)).cell? ⟨g1, 0 * 2 + 1, none⟩ = some u1 := by
                rw [World.cell?_setCell_other _ _ _ _ (by simp)]; exact hk11
              have hf5 := own_frozen ho5
              have hb5 := (show Below w.heap.size w w1.drew from hb1.drew).grown hg5 (by have := hb1.size; exact this) (fun k hk => by cases hk; exact hgl1)
              have hcw : ∀ i, w5.cell? ⟨wo.heap.size, i, none⟩ = #[Value.int .i64 x, Value.int .i64 y][i]? := fun i => by
                rw [World.cell?_of_block (hg5.block wo.heap.size hs1 (by intro h; injection h with h; exact hgne h.symm))]
                exact hc1 i
              clear ho1 hg1 hk1 hb1 hcap hownq hownd HS1 HS2 hc1
              clear hk11
              go_wp2
              refine ⟨⟨q + 1, some ⟨g1, 0, none⟩, c1', m + 1, by rw [show ((q + 1 : Nat) : Int) = q + 1 by omega]; congr 1; omega, rfl, by rw [hpk.out, ins_length, ← hm.out], by omega, ?_, by omega, ?_⟩, by simp [intOf]; omega⟩
              · rw [hpk.out, hins.out]
                try rw [ha0]
                rw [← hput.out]; exact ho5.set2 (by omega) (x, y)
              · exact (hb5.setCell hgl1 _).setCell hgl1 _
          · obtain ⟨g, o, x', y', hA9, hg, hx, c0, c1⟩ := (hownq.row len_eSlot).slot (show a - 1 < L.length by have := hm.out; omega)
            have hp1 : 0 < a := by omega
            have hi1 : a - 1 < m := by omega
            have hi2 : ((a - 1 : Nat) : Int) < (m : Int) := by omega
            have hi3 : (0 : Int) < (a : Int) := by omega
            have e1 : IntKind.i64.wrap ((a : Int) - 1) = ((a - 1 : Nat) : Int) := by rw [show (a : Int) - 1 = ((a - 1 : Nat) : Int) by omega]; exact IntWalk.i64_in _ (by omega)
            subst hA9
            by_cases t : sltB (x, y) (x', y') = true
            · have hup' : ∀ j z, a - 1 ≤ j → L[j]? = some z → sltB (x, y) z = true := fun j z hj hz => by
                by_cases hj' : j = a - 1
                · subst hj'; rw [hx.out] at hz; cases hz; exact t
                · exact hup.out j z (by omega) hz
              replace hup' := Lib.hid hup'
              simp only [sltB, decide_eq_true_eq] at t
              by_cases t1 : x < x'
              · clear t
                go_wp2
                go_quiet (fail)
                go_wp2
                clear e1
                go_roundw
                case rel => go_light; exact ⟨a - 1, by go_num, by omega, hup'.out, below_drewN hbq _⟩
                case measure => go_light; simp [intOf]; omega
              · obtain ⟨t2, t3⟩ : x = x' ∧ y < y' := by omega
                clear t
                subst t2
                go_wp2
                go_quiet (fail)
                go_wp2
                clear e1
                go_roundw
                case rel => go_light; exact ⟨a - 1, by go_num, by omega, hup'.out, below_drewN hbq _⟩
                case measure => go_light; simp [intOf]; omega
            · simp only [Bool.not_eq_true] at t
              have hlow : ∀ j z, j < a → L[j]? = some z → sltB (x, y) z = false := by
                have := rises_low hR.out (n := a - 1) (s := (x, y)) (fun z hz => by rw [hx.out] at hz; cases hz; exact t) (by have := hm.out; omega)
                rw [show a - 1 + 1 = a by omega] at this; exact this
              have hhigh : ∀ z, L[a]? = some z → sltB (x, y) z = true := fun z hz => hup.out a z (by omega) hz
              replace hlow := Lib.hid hlow
              replace hhigh := Lib.hid hhigh
              simp only [sltB, decide_eq_false_iff_not] at t
              have t1 : ¬ x < x' := by omega
              by_cases t2 : x = x'
              · subst t2
                have t3 : ¬ y < y' := by omega
                clear t
                go_wp2
                go_quiet (fail)
                clear e1 hi1 hi2 hi3 hp1
                have hins := Lib.hid (ins_at (l := L) (s := (x, y)) (n := a) hlow.out hhigh.out (by have := hm.out; omega))
                have hownd : Owns (wr.drewN 0) w.heap.size 66 2 eSlot (some ⟨g, o, none⟩) cB L := hownq
                clear hlow hhigh
                go_wp2_with (at_builtin; refine wpList_append_rows _ rfl (.tmp 70) (.tmp 72) 36 rfl w.heap.size 66 2 16 _ Try.underlying36 info66 rfl (by decide) eSlot len_eSlot one_eSlot (some ⟨g, o, none⟩) cB L (some ⟨wr.heap.size, 0, none⟩) 1 (wr.heap.size + 1) m 1 [(x, y)] rfl rfl hm.out.symm rfl ?_ ?_ ?_ ?_ ?_ ?_)
                · exact hownq.alloc _
                · exact row_new _ _ _ _ _ _ rfl
                · omega
                · omega
                · simp only [World.size_alloc, size_drewN]; have := hb2.size; have := hbq.size; omega
                · intro A1 c1' w1 ho1 hg1 hk1
                  have hbw := (below_drewN hbq nq).alloc (by have := hbq.size; exact this) (.cells #[.int .i64 x, .int .i64 y] 66)
                  have hb1 := ((hb2.trans ((below_drewN hbq nq).mono hb2.size)).alloc (by simp only [size_drewN]; have := hb2.size; have := hbq.size; omega) (.cells #[.int .i64 x, .int .i64 y] 66)).grown hg1 (by simp only [World.size_alloc, size_drewN]; have := hb2.size; have := hbq.size; omega) (fun k hk => (hlo k hk).1)
                  obtain ⟨g1, cc1, hv1, hgl1, hgh1⟩ := World.ownsRow.form ho1 (by simp)
                  obtain ⟨rfl, rfl⟩ : A1 = some ⟨g1, 0, none⟩ ∧ c1' = cc1 := by injection hv1 with h1 _ h2; exact ⟨h1, h2⟩
                  clear hv1
                  have hgne : g1 ≠ wo.heap.size := by
                    rcases hk1 with h | h
                    · have := (hlo g1 h.symm).2; omega
                    · simp only [blk, Option.map_some, World.size_alloc, size_drewN] at h; injection h with h; have := hbq.size; omega
                  have hc1 : ∀ i, w1.cell? ⟨wo.heap.size, i, none⟩ = #[Value.int .i64 x, Value.int .i64 y][i]? := fun i => by
                    rw [World.cell?_of_block (hg1.block wo.heap.size (by have := hbw.size; omega) (by intro h; have := (hlo _ h.symm).2; omega))]
                    exact (hbw.cell (p := ⟨wo.heap.size, i, none⟩) hs2).trans (hcs i)
                  have hs1 : wo.heap.size < w1.heap.size := by have := hbw.size; have := hg1.size; omega
                  have hcap := ho1.len
                  simp only [List.length_append, List.length_cons, List.length_nil] at hcap
                  rw [← hm.out] at hcap
                  have ⟨hcap1, hcap2⟩ := hcap
                  go_wp2
                  have HS1 := fun W => run_from W g1 (m + 1) c1' (a + 1) (↑a + 1) (by omega) (by omega)
                  have HS2 := fun W => run_from W g1 (m + 1) c1' a ↑a rfl (by omega)
                  have e2 : IntKind.i64.wrap ((a : Int) + 1) = (a : Int) + 1 := IntWalk.i64_in _ (by omega)
                  go_still_tail 7, (by kernel_rfl)
                  change wpList _ _ _ _ _ w1.drew
                  have hL1 : (L ++ [(x, y)]).length = m + 1 := by rw [List.length_append, ← hm.out]; rfl
                  obtain ⟨w5, hrun, ho5, hg5⟩ := run_copy_up (P := Try.prog) (w := w1.drew) 36 36 3 w.heap.size 66 2 Try.underlying36 size66 eSlot len_eSlot one_eSlot g1 c1' a m (L ++ [(x, y)]) (cutOff g1 c1' (a + 1)) (cutOff g1 c1' a) (m - a) (c1' - (a + 1)) (m + 1 - a) (c1' - a) (by omega) (by omega) hL1 (by omega) (fun h => cutOff_at (by omega)) (cutOff_at (by omega)) (show Owns w1.drew _ _ _ _ _ _ _ from ho1)
                  have hput := put_at (l := L) (s := (x, y)) (n := a) (by have := hm.out; omega)
                  rw [← hm.out] at hput
                  replace hput := Lib.hid hput
                  have hL5 : ((L ++ [(x, y)]).take (a + 1) ++ ((L ++ [(x, y)]).drop a).take (m - a)).length = m + 1 := by rw [List.length_append, List.length_take, List.length_take, List.length_drop, hL1]; omega
                  generalize (L ++ [(x, y)]).take (a + 1) ++ ((L ++ [(x, y)]).drop a).take (m - a) = L5 at ho5 hL5 hput
                  obtain ⟨u0, hk0⟩ := own_cell ho5 (j := a * 2) (by omega)
                  obtain ⟨u1, hk11⟩ := own_cell ho5 (j := a * 2 + 1) (by omega)
                  have hk2 : (w5.setCell ⟨g1, a * 2, none⟩ (.int .i64 x)).cell? ⟨g1, a * 2 + 1, none⟩ = some u1 := by
                    rw [World.cell?_setCell_other _ _ _ _ (by simp)]; exact hk11
                  have hf5 := own_frozen ho5
                  have hb5 := (show Below w.heap.size w w1.drew from hb1.drew).grown hg5 (by have := hb1.size; exact this) (fun k hk => by cases hk; exact hgl1)
                  have hcw : ∀ i, w5.cell? ⟨wo.heap.size, i, none⟩ = #[Value.int .i64 x, Value.int .i64 y][i]? := fun i => by
                    rw [World.cell?_of_block (hg5.block wo.heap.size hs1 (by intro h; injection h with h; exact hgne h.symm))]
                    exact hc1 i
                  clear ho1 hg1 hk1 hb1 hcap hownq hownd HS1 HS2 hc1
                  clear hk11
                  go_wp2
                  refine ⟨⟨q + 1, some ⟨g1, 0, none⟩, c1', m + 1, by rw [show ((q + 1 : Nat) : Int) = q + 1 by omega]; congr 1; omega, rfl, by rw [hpk.out, ins_length, ← hm.out], by omega, ?_, by omega, ?_⟩, by simp [intOf]; omega⟩
                  · rw [hpk.out, hins.out]
                    try rw [ha0]
                    rw [← hput.out]; exact ho5.set2 (by omega) (x, y)
                  · exact (hb5.setCell hgl1 _).setCell hgl1 _
              · clear t
                go_wp2
                go_quiet (fail)
                clear e1 hi1 hi2 hi3 hp1
                have hins := Lib.hid (ins_at (l := L) (s := (x, y)) (n := a) hlow.out hhigh.out (by have := hm.out; omega))
                have hownd : Owns (wr.drewN 0) w.heap.size 66 2 eSlot (some ⟨g, o, none⟩) cB L := hownq
                clear hlow hhigh
                go_wp2_with (at_builtin; refine wpList_append_rows _ rfl (.tmp 70) (.tmp 72) 36 rfl w.heap.size 66 2 16 _ Try.underlying36 info66 rfl (by decide) eSlot len_eSlot one_eSlot (some ⟨g, o, none⟩) cB L (some ⟨wr.heap.size, 0, none⟩) 1 (wr.heap.size + 1) m 1 [(x, y)] rfl rfl hm.out.symm rfl ?_ ?_ ?_ ?_ ?_ ?_)
                · exact hownq.alloc _
                · exact row_new _ _ _ _ _ _ rfl
                · omega
                · omega
                · simp only [World.size_alloc, size_drewN]; have := hb2.size; have := hbq.size; omega
                · intro A1 c1' w1 ho1 hg1 hk1
                  have hbw := (below_drewN hbq nq).alloc (by have := hbq.size; exact this) (.cells #[.int .i64 x, .int .i64 y] 66)
                  have hb1 := ((hb2.trans ((below_drewN hbq nq).mono hb2.size)).alloc (by simp only [size_drewN]; have := hb2.size; have := hbq.size; omega) (.cells #[.int .i64 x, .int .i64 y] 66)).grown hg1 (by simp only [World.size_alloc, size_drewN]; have := hb2.size; have := hbq.size; omega) (fun k hk => (hlo k hk).1)
                  obtain ⟨g1, cc1, hv1, hgl1, hgh1⟩ := World.ownsRow.form ho1 (by simp)
                  obtain ⟨rfl, rfl⟩ : A1 = some ⟨g1, 0, none⟩ ∧ c1' = cc1 := by injection hv1 with h1 _ h2; exact ⟨h1, h2⟩
                  clear hv1
                  have hgne : g1 ≠ wo.heap.size := by
                    rcases hk1 with h | h
                    · have := (hlo g1 h.symm).2; omega
                    · simp only [blk, Option.map_some, World.size_alloc, size_drewN] at h; injection h with h; have := hbq.size; omega
                  have hc1 : ∀ i, w1.cell? ⟨wo.heap.size, i, none⟩ = #[Value.int .i64 x, Value.int .i64 y][i]? := fun i => by
                    rw [World.cell?_of_block (hg1.block wo.heap.size (by have := hbw.size; omega) (by intro h; have := (hlo _ h.symm).2; omega))]
                    exact (hbw.cell (p := ⟨wo.heap.size, i, none⟩) hs2).trans (hcs i)
                  have hs1 : wo.heap.size < w1.heap.size := by have := hbw.size; have := hg1.size; omega
                  have hcap := ho1.len
                  simp only [List.length_append, List.length_cons, List.length_nil] at hcap
                  rw [← hm.out] at hcap
                  have ⟨hcap1, hcap2⟩ := hcap
                  go_wp2
                  have HS1 := fun W => run_from W g1 (m + 1) c1' (a + 1) (↑a + 1) (by omega) (by omega)
                  have HS2 := fun W => run_from W g1 (m + 1) c1' a ↑a rfl (by omega)
                  have e2 : IntKind.i64.wrap ((a : Int) + 1) = (a : Int) + 1 := IntWalk.i64_in _ (by omega)
                  go_still_tail 7, (by kernel_rfl)
                  change wpList _ _ _ _ _ w1.drew
                  have hL1 : (L ++ [(x, y)]).length = m + 1 := by rw [List.length_append, ← hm.out]; rfl
                  obtain ⟨w5, hrun, ho5, hg5⟩ := run_copy_up (P := Try.prog) (w := w1.drew) 36 36 3 w.heap.size 66 2 Try.underlying36 size66 eSlot len_eSlot one_eSlot g1 c1' a m (L ++ [(x, y)]) (cutOff g1 c1' (a + 1)) (cutOff g1 c1' a) (m - a) (c1' - (a + 1)) (m + 1 - a) (c1' - a) (by omega) (by omega) hL1 (by omega) (fun h => cutOff_at (by omega)) (cutOff_at (by omega)) (show Owns w1.drew _ _ _ _ _ _ _ from ho1)
                  have hput := put_at (l := L) (s := (x, y)) (n := a) (by have := hm.out; omega)
                  rw [← hm.out] at hput
                  replace hput := Lib.hid hput
                  have hL5 : ((L ++ [(x, y)]).take (a + 1) ++ ((L ++ [(x, y)]).drop a).take (m - a)).length = m + 1 := by rw [List.length_append, List.length_take, List.length_take, List.length_drop, hL1]; omega
                  generalize (L ++ [(x, y)]).take (a + 1) ++ ((L ++ [(x, y)]).drop a).take (m - a) = L5 at ho5 hL5 hput
                  obtain ⟨u0, hk0⟩ := own_cell ho5 (j := a * 2) (by omega)
                  obtain ⟨u1, hk11⟩ := own_cell ho5 (j := a * 2 + 1) (by omega)
                  have hk2 : (w5.setCell ⟨g1, a * 2, none⟩ (.int .i64 x)).cell? ⟨g1, a * 2 + 1, none⟩ = some u1 := by
                    rw [World.cell?_setCell_other _ _ _ _ (by simp)]; exact hk11
                  have hf5 := own_frozen ho5
                  have hb5 := (show Below w.heap.size w w1.drew from hb1.drew).grown hg5 (by have := hb1.size; exact this) (fun k hk => by cases hk; exact hgl1)
                  have hcw : ∀ i, w5.cell? ⟨wo.heap.size, i, none⟩ = #[Value.int .i64 x, Value.int .i64 y][i]? := fun i => by
                    rw [World.cell?_of_block (hg5.block wo.heap.size hs1 (by intro h; injection h with h; exact hgne h.symm))]
                    exact hc1 i
                  clear ho1 hg1 hk1 hb1 hcap hownq hownd HS1 HS2 hc1
                  clear hk11
                  go_wp2
                  refine ⟨⟨q + 1, some ⟨g1, 0, none⟩, c1', m + 1, by rw [show ((q + 1 : Nat) : Int) = q + 1 by omega]; congr 1; omega, rfl, by rw [hpk.out, ins_length, ← hm.out], by omega, ?_, by omega, ?_⟩, by simp [intOf]; omega⟩
                  · rw [hpk.out, hins.out]
                    try rw [ha0]
                    rw [← hput.out]; exact ho5.set2 (by omega) (x, y)
                  · exact (hb5.setCell hgl1 _).setCell hgl1 _
    · go_wp2
      go_ret
      go_light
      have hqe : q = (cut - behind).toNat := by omega
      subst hqe
      have hm' := hm.out
      subst hm'
      exact ⟨⟨B, cB, rfl, hown⟩, hb⟩
end Go.Proofs.Ytcffhfcjfjfokaa
namespace Go.Proofs.Ytcffhfcjfjfokaa
open Go.RowKit
/-- Lacks' closure: does the node not have it? -/
theorem lacks1_any (f : Fl) (X Y : Option Addr) (cX cY N bx : Nat) (s q : Int) (w : World) (hN : N ≤ w.heap.size) (hr : FlRows w N f X cX Y cY)
    (hbx : bx < w.heap.size) (hcx : ∀ i, w.cell? ⟨bx, i, none⟩ = (flc f.e f.l f.i f.c f.base X f.slots.length cX Y f.have_.length cY)[i]?) (hs0 : 0 ≤ s) (hs1 : s < f.have_.length) :
    Calls Try.prog 60 #[.agg #[.int .i64 s, .int .i64 q], .pointer (some ⟨bx, 0, none⟩)] w fun x w' => x = .returned (.bool (!havB f.have_ s q)) ∧ Below w.heap.size w w' := by
  go_enter Try.func60, Try.ntmps60
  have hc0 := hcx 0
  have hc1 := hcx 1
  have hc2 := hcx 2
  have hc3 := hcx 3
  have hc4 := hcx 4
  have hc5 := hcx 5
  have hc6 := hcx 6
  simp [flc] at hc0 hc1 hc2 hc3 hc4 hc5 hc6
  clear hcx
  go_wp2_with (go_at_call 61; refine (has_any _ _ _ _ _ _ _ _ N f.have_ s q _ hs0 hs1 (by simp only [World.size_alloc]; omega) (by exact hr.have_.below ((Below.refl N w).alloc (by omega) _) (Nat.le_refl _))).mono ?_; rintro e w2 ⟨rfl, hbw2⟩)
  all_goals (go_ret; go_light; rw [World.size_alloc] at hbw2; exact ⟨rfl, ((Below.refl w.heap.size w).alloc (Nat.le_refl _) _).trans (hbw2.mono (by omega))⟩)
end Go.Proofs.Ytcffhfcjfjfokaa
