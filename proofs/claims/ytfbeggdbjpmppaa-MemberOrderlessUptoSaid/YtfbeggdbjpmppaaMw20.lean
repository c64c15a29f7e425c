/- Walk MOpen MClose, joined. -/
import Derived.Test.YtfbeggdbjpmppaaRows
import Derived.Deep.Slices
import Derived.Deep.Fields
import Derived.ChangeSame
import Derived.ProofKit
import Derived.WalkKit
import Derived.OpenShut
import Derived.JoinedCond
import Derived.Below
import Derived.Carry
import Derived.Test.YtfbeggdbjpmppaaMw19
set_option linter.unusedVariables false
set_option linter.unusedSimpArgs false
/- The law's walk: true, whatever the case. -/
namespace Go.Proofs.Ytfbeggdbjpmppaa
open Go.RowKit
theorem plays_any (w0 : World) (a b : Nat) (F : List Nat) (s : St) (hs : List HdR) (X : Ptrs) (M : Option Addr) (cM : Nat) (o : OpD) (P : OpP) (w : World) (h : Duo w0 a b [a] F s s hs X M cM w) (hlen : hs.length + 1 ≤ 1000000) (ho : OpAt w0 w0.heap.size o P) :
    Calls Try.prog 49 #[.pointer (some ⟨a, 0, none⟩), .pointer (some ⟨b, 0, none⟩), .agg (opA o P)] w (PlPost w0 a b (hs.length + 1)) := by
  by_cases k1 : o.k = 1
  · exact plays_1 w0 a b F s hs X M cM o P w h hlen ho k1
  · by_cases k2 : o.k = 2
    · exact plays_2 w0 a b F s hs X M cM o P w h hlen ho k2
    · by_cases k3 : o.k = 3
      · exact plays_3 w0 a b F s hs X M cM o P w h hlen ho k3
      · by_cases k4 : o.k = 4
        · exact plays_4 w0 a b F s hs X M cM o P w h hlen ho k4
        · by_cases k5 : o.k = 5
          · exact plays_5 w0 a b F s hs X M cM o P w h hlen ho k5
          · by_cases k6 : o.k = 6
            · exact plays_6 w0 a b F s hs X M cM o P w h hlen ho k6
            · by_cases k7 : o.k = 7
              · exact plays_7 w0 a b F s hs X M cM o P w h hlen ho k7
              · exact plays_other w0 a b F s hs X M cM o P w h hlen ho ⟨k1, k2, k3, k4, k5, k6, k7⟩
/-- A call with where its lists lie. -/
structure OpX where
  o : OpD
  P : OpP
def eOp (x : OpX) : List Value := (opA x.o x.P).toList
/-- The calls of a case: a row of thirteen cells each, and their lists. -/
structure OpsAt (w : World) (N : Nat) (A : Option Addr) (os : List OpX) : Prop where
  row : RowAt w N 13 eOp A os
  each : ∀ x ∈ os, OpAt w N x.o x.P
  len : os.length < 1000000
theorem OpAt.more {w : World} {N N' : Nat} {o : OpD} {P : OpP} (h : OpAt w N o P) (hN : N ≤ N') : OpAt w N' o P := ⟨h.a.more hN, h.s.more hN, h.v.more hN, h.la, h.lS, h.lv⟩
theorem OpsAt.up {w w' : World} {N N' : Nat} {A : Option Addr} {os : List OpX} (h : OpsAt w N A os) (hb : Below N w w') (hN : N ≤ N') : OpsAt w' N' A os :=
  ⟨(h.row.below hb (Nat.le_refl _)).more hN, fun x hx => ((h.each x hx).below hb).more hN, h.len⟩
theorem load71 {w : World} {g o : Nat} {d : OpD} {P : OpP} (h : w.rangeAt g o (opA d P).toList) : (loadVar 71 ⟨g, o, none⟩).run Try.prog w = .ok (.agg (opA d P)) w := by
  have h0 : w.cell? ⟨g, o, none⟩ = some (.int .i64 d.k) := h 0 _ rfl
  have h1 := h 1 _ rfl
  have h2 := h 2 _ rfl
  have h3 := h 3 _ rfl
  have h4 := h 4 _ rfl
  have h5 := h 5 _ rfl
  have h6 := h 6 _ rfl
  have h7 := h 7 _ rfl
  have h8 := h 8 _ rfl
  have h9 := h 9 _ rfl
  have h10 := h 10 _ rfl
  have h11 := h 11 _ rfl
  have h12 := h 12 _ rfl
  clear h
  go_simp
theorem ag_lt {w : World} {b : Nat} {s : St} {M : Option Addr} {cM : Nat} (h : AgAt w b s M cM) : b < w.heap.size := World.block_lt_of_cell? _ _ h.n
abbrev caseA (n s i f : Int) (A : Option Addr) (m c : Nat) : Array Value := #[.int .i64 n, .int .i64 s, .int .i64 i, .int .i64 f, .slice A m c]
set_option maxRecDepth 100000 in
set_option maxHeartbeats 2000000 in
theorem walk_none (n s i f : Int) (A : Option Addr) (m c : Nat) (lo hi : Int) (w : World) (h : newB n s i f = false ∨ (newB n s i f = true ∧ f = 4611686018427387904)) :
    Calls Try.prog 25 #[.agg (caseA n s i f A m c), .int .i64 lo, .int .i64 hi] w fun x w' => x = .returned (.bool true) ∧ Below w.heap.size w w' := by
  have hb := Lib.hid (below_box1 w (caseA n s i f A m c) 59)
  rcases h with h | ⟨h, hf⟩
  · go_enter Try.func25, Try.ntmps25
    go_wp2_with (first
      | (go_at_call 46
         refine (new_no n s i f _ h).mono ?_
         rintro e w1 ⟨rfl, rfl⟩)
      | (go_at_call 47
         refine (rnew_no n s i f _ h).mono ?_
         rintro e w1 ⟨rfl, rfl⟩)
      | (go_at_call 48
         refine (num_any _ _).mono ?_
         rintro e w' ⟨rfl, rfl⟩)
      | fail)
    go_ret
    exact ⟨rfl, hb.out⟩
  · replace hf := Lib.hid hf
    go_enter Try.func25, Try.ntmps25
    go_wp2_with (first
      | (go_at_call 46
         refine (new_spent n s i f _ h hf.out).mono ?_
         rintro e w1 ⟨rfl, rfl⟩)
      | (go_at_call 47
         refine (rnew_spent n s i f _ h hf.out).mono ?_
         rintro e w1 ⟨rfl, rfl⟩)
      | (go_at_call 48
         refine (num_any _ _).mono ?_
         rintro e w' ⟨rfl, rfl⟩)
      | fail)
    go_ret
    exact ⟨rfl, hb.out⟩
set_option maxRecDepth 100000 in
set_option maxHeartbeats 400000 in
theorem walk_some (n s : Nat) (i f : Int) (A : Option Addr) (c N : Nat) (os : List OpX) (lo hi : Int) (w : World) (h : newB n s i f = true) (hf : f ≠ 4611686018427387904) (hN : N ≤ w.heap.size) (hA : OpsAt w N A os) :
    Calls Try.prog 25 #[.agg (caseA n s i f A os.length c), .int .i64 lo, .int .i64 hi] w fun x w' => x = .returned (.bool true) ∧ Below w.heap.size w w' := by
  obtain ⟨wA, hwA⟩ : ∃ wA, wA = w.alloc (.cells (caseA n s i f A os.length c) 59) := ⟨_, rfl⟩
  have hbA : Below w.heap.size w wA := by rw [hwA]; exact below_box1 _ _ _
  have zA : w.heap.size < wA.heap.size := by rw [hwA]; simp
  have oA : wA.rangeAt w.heap.size 0 (caseA n s i f A os.length c).toList := by rw [hwA]; exact range_new w (caseA n s i f A os.length c) 59
  obtain ⟨v, hv⟩ : ∃ v, v = w.heap.size := ⟨_, rfl⟩
  rw [← hv] at oA
  have c0 : wA.cell? ⟨v, 0, none⟩ = some (.int .i64 n) := oA 0 _ rfl
  have c1 : wA.cell? ⟨v, 1, none⟩ = some (.int .i64 s) := oA 1 _ rfl
  have c2 : wA.cell? ⟨v, 2, none⟩ = some (.int .i64 i) := oA 2 _ rfl
  have c3 : wA.cell? ⟨v, 3, none⟩ = some (.int .i64 f) := oA 3 _ rfl
  have opsA : OpsAt wA wA.heap.size A os := hA.up (hbA.mono hN) (by omega)
  have hlen := hA.len
  have hi0 := new_inv h hf
  have hr0 := new_rinv h hf
  have hvz : v < wA.heap.size := by omega
  replace hi0 := Lib.hid hi0
  replace hr0 := Lib.hid hr0
  replace hbA := Lib.hid hbA
  replace oA := Lib.hid oA
  replace hwA := Lib.hid hwA
  replace hv := Lib.hid hv
  replace opsA := Lib.hid opsA
  replace h := Lib.hid h
  replace hf := Lib.hid hf
  clear hA
  go_enter Try.func25, Try.ntmps25
  go_wp2_with fail
  rw [← hwA.out, ← hv.out]
  go_wp2_with (first
    | (go_at_call 46
       refine (new_yes n s i f wA h.out hf.out).mono ?_
       rintro e w1 ⟨rfl, ag1, hb1⟩
       have z1 := hb1.size
       have o1 := range_same oA.out (hb1.block v hvz)
       clear c0 c1 c2 c3
       have c0 : w1.cell? ⟨v, 0, none⟩ = some (.int .i64 n) := o1 0 _ rfl
       have c1 : w1.cell? ⟨v, 1, none⟩ = some (.int .i64 s) := o1 1 _ rfl
       have c2 : w1.cell? ⟨v, 2, none⟩ = some (.int .i64 i) := o1 2 _ rfl
       have c3 : w1.cell? ⟨v, 3, none⟩ = some (.int .i64 f) := o1 3 _ rfl
       have za : wA.heap.size < w1.heap.size := ag_lt ag1
       replace ag1 := Lib.hid ag1
       replace o1 := Lib.hid o1
       replace hb1 := Lib.hid hb1)
    | fail)
  go_wp2_with (first
    | (go_at_call 47
       refine (rnew_yes [wA.heap.size] n s i f w1 (fun x hx => by have := List.mem_singleton.1 hx; omega) h.out hf.out).mono ?_
       rintro e w2 ⟨rfl, ⟨X, rf2, hXA⟩, hb2, zb⟩
       have D2 : Duo wA wA.heap.size w1.heap.size [wA.heap.size] [w1.heap.size, wA.heap.size] (newSt n s i f) (newSt n s i f) [] X none 0 w2 := by
         refine ⟨ag1.out.same (hb2.block _ za), rf2, rowF_nil, List.mem_cons_self .., fun x hx => ?_, fun x hx => ?_, fun x hx => ?_, hi0.out, hr0.out, hi0.out, hr0.out, hb1.out.trans (hb2.mono (by omega))⟩
         · have := List.mem_singleton.1 hx
           subst this
           exact ⟨by simp, by omega, by rw [hXA]; intro e; cases e⟩
         · simp at hx; omega
         · simp at hx; omega
       have o2 := range_same o1.out (hb2.block v (by omega))
       have c4 : w2.cell? ⟨v, 4, none⟩ = some (.slice A os.length c) := o2 4 _ rfl
       clear c0 c1 c2 c3
       replace D2 := Lib.hid D2
       replace o2 := Lib.hid o2
       clear rf2 hb2 hXA)
    | (go_at_call 48
       refine (num_any _ _).mono ?_
       rintro e w' ⟨rfl, rfl⟩)
    | fail)
  obtain ⟨a, ha⟩ : ∃ a, a = wA.heap.size := ⟨_, rfl⟩
  obtain ⟨b, hb⟩ : ∃ b, b = w1.heap.size := ⟨_, rfl⟩
  rw [← ha, ← hb] at D2
  rw [← ha, ← hb]
  replace ha := Lib.hid ha
  replace hb := Lib.hid hb
  clear c4
  go_loopw [11] (fun k wr => ∃ q F t hs X M cM, k = .int .i64 ((q : Nat) : Int) ∧ q ≤ os.length ∧ Duo wA a b [a] F t t hs X M cM wr ∧ hs.length ≤ q) (fun k _ => os.length - (intOf k).toNat)
  case atStart => exact ⟨0, _, _, [], X, none, 0, rfl, by omega, D2.out, Nat.le_refl _⟩
  case round =>
    obtain ⟨q, F, t, hs, X', M, cM, rfl, hq, D, hl⟩ := hrel
    have oq := range_same oA.out (D.bel.block v hvz)
    have c4 : wr.cell? ⟨v, 4, none⟩ = some (.slice A os.length c) := oq 4 _ rfl
    by_cases hlt : q < os.length
    · have opsr := opsA.out.up D.bel (Nat.le_refl _)
      obtain ⟨g, off, hAe, hg, hc⟩ := opsr.row (by omega)
      have hx : os[q]? = some os[q] := List.getElem?_eq_getElem hlt
      obtain ⟨y, hy⟩ : ∃ y, y = os[q] := ⟨_, rfl⟩
      rw [← hy] at hx
      have hym : y ∈ os := by rw [hy]; exact List.getElem_mem hlt
      have hld : (loadVar 71 ⟨g, off + q * 13, none⟩).run Try.prog wr = .ok (.agg (opA y.o y.P)) wr := load71 (fun j u hu => hc q y hx j u hu)
      have oy := opsA.out.each y hym
      have hq0 : (0 : Int) ≤ (q : Int) := by omega
      have hq1 : (q : Int) < (os.length : Int) := by omega
      rw [hAe] at c4
      replace hAe := Lib.hid hAe
      replace hld := Lib.hid hld
      replace oy := Lib.hid oy
      replace hx := Lib.hid hx
      replace hy := Lib.hid hy
      replace D := Lib.hid D
      replace oq := Lib.hid oq
      replace opsr := Lib.hid opsr
      clear hc
      go_wp2_with (first
        | (refine wpList_loadR rfl 71 (.tmp 67) rfl g (off + q * 13) (by rfl) _ (by exact hld.out) ?_)
        | fail)
      go_wp2_with (first
        | (go_at_call 49
           refine (plays_any wA a b F t hs X' M cM y.o y.P wr D.out (by omega) oy.out).mono ?_
           rintro e w5 ⟨rfl, F5, t5, hs5, X5, M5, cM5, D5, hl5⟩
           replace D5 := Lib.hid D5
           replace hl5 := Lib.hid hl5
           clear c4)
        | fail)
      go_roundw
      case rel => go_light; exact ⟨q + 1, F5, t5, hs5, X5, M5, cM5, by go_num, by omega, D5.out, by have := hl5.out; omega⟩
      case measure => go_light; simp [intOf]; omega
    · obtain rfl : q = os.length := by omega
      have hend := hbA.out.trans (D.bel.mono (by omega))
      replace D := Lib.hid D
      go_wp2
      go_ret
      exact ⟨rfl, hend⟩
theorem walk_any (n s i f : Int) (A : Option Addr) (c N : Nat) (os : List OpX) (lo hi : Int) (w : World) (hN : N ≤ w.heap.size) (hA : OpsAt w N A os) :
    Calls Try.prog 25 #[.agg (caseA n s i f A os.length c), .int .i64 lo, .int .i64 hi] w fun x w' => x = .returned (.bool true) ∧ Below w.heap.size w w' := by
  cases h : newB n s i f with
  | false => exact walk_none n s i f A os.length c lo hi w (.inl h)
  | true =>
    by_cases hf : f = 4611686018427387904
    · exact walk_none n s i f A os.length c lo hi w (.inr ⟨h, hf⟩)
    · have h' := of_decide_eq_true h
      obtain ⟨n', rfl⟩ := Int.eq_ofNat_of_zero_le (show 0 ≤ n by omega)
      obtain ⟨s', rfl⟩ := Int.eq_ofNat_of_zero_le (show 0 ≤ s by omega)
      exact walk_some n' s' i f A c N os lo hi w h hf hN hA
end Go.Proofs.Ytfbeggdbjpmppaa
/- What comes in: a case, its calls, their lists. -/
namespace Go.Proofs.Ytfbeggdbjpmppaa
open Go.RowKit Go.Deep Go.ChangeShapes Go.WideShapes
theorem exists_list {α : Type} {P : Nat → α → Prop} : ∀ n, (∀ i, i < n → ∃ x, P i x) → ∃ l : List α, l.length = n ∧ ∀ k x, l[k]? = some x → P k x
  | 0, _ => ⟨[], rfl, by intro k x h; simp at h⟩
  | n + 1, h => by
    obtain ⟨l, hl, hp⟩ := exists_list n (fun i hi => h i (by omega))
    obtain ⟨x, hx⟩ := h n (by omega)
    refine ⟨l ++ [x], by simp [hl], fun k y hy => ?_⟩
    by_cases hk : k < l.length
    · rw [List.getElem?_append_left hk] at hy; exact hp k y hy
    · rw [List.getElem?_append_right (by omega)] at hy
      have := (List.getElem?_eq_some_iff.1 hy).1
      obtain rfl : k = n := by simp at this; omega
      rw [hl] at hy; simp at hy; subst hy; exact hx
theorem cell_lt {w : World} {a : Addr} {u : Value} (h : w.cell? a = some u) : a.block < w.heap.size ∧ a.spot = none := by
  refine ⟨World.block_lt_of_cell? w a h, ?_⟩
  unfold World.cell? at h
  split at h
  · cases hs : a.spot with
    | none => rfl
    | some x => rw [hs] at h; simp at h
  · cases h
namespace bulks
theorem one_le {H : Type} (d : DataW H) : 1 ≤ Rows.uptoBulk d := by
  cases d with
  | lit l => cases l <;> simp [Rows.uptoBulk]
  | nil => simp [Rows.uptoBulk]
  | ptr d => simp [Rows.uptoBulk]
  | slice elems spare => simp [Rows.uptoBulk]
  | agg parts => simp [Rows.uptoBulk]
  | iface t d => simp [Rows.uptoBulk]
  | map entries => simp [Rows.uptoBulk]
  | held h => simp [Rows.uptoBulk]
theorem part_le {H : Type} {d : DataW H} {l : List (DataW H)} (h : d ∈ l) : Rows.uptoBulk d ≤ Rows.uptoBulkAll l := by
  induction l with
  | nil => cases h
  | cons x r ih =>
    simp only [Rows.uptoBulkAll]
    cases List.mem_cons.1 h with
    | inl e => subst e; omega
    | inr e => have := ih e; omega
theorem two_le {H : Type} : ∀ (l : List (DataW H)), (∀ d ∈ l, 2 ≤ Rows.uptoBulk d) → l.length * 2 ≤ Rows.uptoBulkAll l
  | [], _ => by simp
  | d :: l, h => by
    have h1 := h d (List.mem_cons_self ..)
    have h2 := two_le l (fun x hx => h x (List.mem_cons_of_mem _ hx))
    simp only [Rows.uptoBulkAll, List.length_cons]; omega
theorem length_le {H : Type} (l : List (DataW H)) : l.length ≤ Rows.uptoBulkAll l := by
  induction l with
  | nil => simp [Rows.uptoBulkAll]
  | cons x r ih => have := one_le x; simp only [Rows.uptoBulkAll, List.length_cons]; omega
theorem slice_len {H : Type} (elems spare : List (DataW H)) : elems.length ≤ Rows.uptoBulk (.slice elems spare) := by
  have h1 := length_le elems
  simp only [Rows.uptoBulk]; omega
theorem slice_part {H : Type} {d : DataW H} {elems spare : List (DataW H)} (h : d ∈ elems) : Rows.uptoBulk d ≤ Rows.uptoBulk (.slice elems spare) := by
  have h1 := part_le h
  simp only [Rows.uptoBulk]; omega
theorem agg_part {H : Type} {d : DataW H} {parts : List (DataW H)} (h : d ∈ parts) : Rows.uptoBulk d ≤ Rows.uptoBulk (.agg parts) := by
  have h1 := part_le h
  simp only [Rows.uptoBulk]; omega
end bulks
section
variable {H : Type} {enc : TypeId × Value → H} {P : Program} {W : World} {sp : Nat → Bool}
/-- A slice that came in, whatever its elements: a row of what each element reads as. -/
theorem open_row {α : Type} {t e : TypeId} {sz : Nat} (ht : P.underlying t = some (.slice e)) (hc : P.cellsOf e = sz) (hsz : 0 < sz) (ec : α → List Value) (Q : α → Nat → Prop)
    (helem : ∀ (n : Nat) (cs : List Value) (y : DataW H × List MemPlace), DataW.trod enc P W 0 sp true n e cs = some y → ∃ x, cs = ec x ∧ Q x (Rows.uptoBulk y.1))
    {fuel : Nat} {v : Value} {x : DataW H × List MemPlace} (h : DataW.trod enc P W 0 sp true fuel t [v] = some x) :
    ∃ (A : Option Addr) (l : List α) (c : Nat), v = .slice A l.length c ∧ RowAt W W.heap.size sz ec A l ∧ l.length ≤ c ∧ c ≤ 9223372036854775807 ∧ l.length ≤ Rows.uptoBulk x.1 ∧ ∀ y ∈ l, ∃ b, b ≤ Rows.uptoBulk x.1 ∧ Q y b := by
  rcases open_slice ht h with ⟨h1, rfl⟩ | ⟨a, len, cap, m, n, D, Pl, h1, _, hl, hm, hmm, rfl, hi⟩
  · obtain rfl := (List.cons.inj h1).1
    exact ⟨none, [], 0, rfl, fun h => absurd h (by simp), by simp, by omega, by simp, by simp⟩
  · obtain rfl := (List.cons.inj h1).1
    obtain ⟨l, hll, hp⟩ := exists_list (P := fun i (y : α) => W.cells? 0 (a.add (i * sz)) sz = some (ec y) ∧ Q y (Rows.uptoBulk (D i))) len (fun i hil => by
      obtain ⟨cs, h2, h3⟩ := hi i (by rw [hmm]; split <;> omega)
      obtain ⟨y, rfl, hq⟩ := helem n cs _ h3
      rw [hc] at h2
      exact ⟨y, h2, hq⟩)
    refine ⟨some a, l, cap, by rw [hll], fun h0 => ?_, by omega, by unfold maxLen at hm; omega, ?_, fun y hy => ?_⟩
    · have g0 := hp 0 l[0] (List.getElem?_eq_getElem h0)
      obtain ⟨_, hlen, hcell⟩ := World.cells?_some g0.1
      have c0 := hcell 0 hsz
      have e0 : (a.add (0 * sz)).add 0 = a := by simp [Addr.add]
      rw [e0, List.getElem?_eq_getElem (by omega)] at c0
      obtain ⟨hb, hs⟩ := cell_lt c0
      have ha : a = ⟨a.block, a.off, none⟩ := by cases a; simp at hs; simp [hs]
      refine ⟨a.block, a.off, by rw [← ha], hb, fun k y hk j u hu => ?_⟩
      obtain ⟨g1, _⟩ := hp k y hk
      obtain ⟨_, hlen', hcell'⟩ := World.cells?_some g1
      have hj : j < sz := by have := (List.getElem?_eq_some_iff.1 hu).1; omega
      have := hcell' j hj
      rw [hu, ha, Addr.add_lit, Addr.add_lit] at this
      exact this
    · have := bulks.slice_len ((List.range len).map D) ((List.range (m - len)).map fun j => D (len + j))
      rw [List.length_map, List.length_range] at this
      rw [hll]; exact this
    · obtain ⟨k, hk⟩ := List.mem_iff_getElem?.1 hy
      have hkl := (List.getElem?_eq_some_iff.1 hk).1
      refine ⟨_, bulks.slice_part (List.mem_map.2 ⟨k, List.mem_range.2 (by omega), rfl⟩), (hp k y hk).2⟩
/-- A slice that came in, whatever its elements: a row of what each element reads as. -/
theorem open_row2 {α : Type} {t e : TypeId} {sz : Nat} (ht : P.underlying t = some (.slice e)) (hc : P.cellsOf e = sz) (hsz : 0 < sz) (ec : α → List Value) (Q : α → Nat → Prop)
    (hq2 : ∀ y b, Q y b → 2 ≤ b) (helem : ∀ (n : Nat) (cs : List Value) (y : DataW H × List MemPlace), DataW.trod enc P W 0 sp true n e cs = some y → ∃ x, cs = ec x ∧ Q x (Rows.uptoBulk y.1))
    {fuel : Nat} {v : Value} {x : DataW H × List MemPlace} (h : DataW.trod enc P W 0 sp true fuel t [v] = some x) :
    ∃ (A : Option Addr) (l : List α) (c : Nat), v = .slice A l.length c ∧ RowAt W W.heap.size sz ec A l ∧ l.length ≤ c ∧ c ≤ 9223372036854775807 ∧ l.length * 2 ≤ Rows.uptoBulk x.1 ∧ ∀ y ∈ l, ∃ b, b ≤ Rows.uptoBulk x.1 ∧ Q y b := by
  rcases open_slice ht h with ⟨h1, rfl⟩ | ⟨a, len, cap, m, n, D, Pl, h1, _, hl, hm, hmm, rfl, hi⟩
  · obtain rfl := (List.cons.inj h1).1
    exact ⟨none, [], 0, rfl, fun h => absurd h (by simp), by simp, by omega, by simp, by simp⟩
  · obtain rfl := (List.cons.inj h1).1
    obtain ⟨l, hll, hp⟩ := exists_list (P := fun i (y : α) => W.cells? 0 (a.add (i * sz)) sz = some (ec y) ∧ Q y (Rows.uptoBulk (D i))) len (fun i hil => by
      obtain ⟨cs, h2, h3⟩ := hi i (by rw [hmm]; split <;> omega)
      obtain ⟨y, rfl, hq⟩ := helem n cs _ h3
      rw [hc] at h2
      exact ⟨y, h2, hq⟩)
    refine ⟨some a, l, cap, by rw [hll], fun h0 => ?_, by omega, by unfold maxLen at hm; omega, ?_, fun y hy => ?_⟩
    · have g0 := hp 0 l[0] (List.getElem?_eq_getElem h0)
      obtain ⟨_, hlen, hcell⟩ := World.cells?_some g0.1
      have c0 := hcell 0 hsz
      have e0 : (a.add (0 * sz)).add 0 = a := by simp [Addr.add]
      rw [e0, List.getElem?_eq_getElem (by omega)] at c0
      obtain ⟨hb, hs⟩ := cell_lt c0
      have ha : a = ⟨a.block, a.off, none⟩ := by cases a; simp at hs; simp [hs]
      refine ⟨a.block, a.off, by rw [← ha], hb, fun k y hk j u hu => ?_⟩
      obtain ⟨g1, _⟩ := hp k y hk
      obtain ⟨_, hlen', hcell'⟩ := World.cells?_some g1
      have hj : j < sz := by have := (List.getElem?_eq_some_iff.1 hu).1; omega
      have := hcell' j hj
      rw [hu, ha, Addr.add_lit, Addr.add_lit] at this
      exact this
    · have := bulks.two_le ((List.range len).map D) (fun d hd => by
        obtain ⟨k, hk, rfl⟩ := List.mem_map.1 hd
        have hkl := List.mem_range.1 hk
        exact hq2 _ _ (hp k l[k] (List.getElem?_eq_getElem (by omega))).2)
      rw [List.length_map, List.length_range] at this
      rw [hll]
      simp only [Rows.uptoBulk]; omega
    · obtain ⟨k, hk⟩ := List.mem_iff_getElem?.1 hy
      have hkl := (List.getElem?_eq_some_iff.1 hk).1
      refine ⟨_, bulks.slice_part (List.mem_map.2 ⟨k, List.mem_range.2 (by omega), rfl⟩), (hp k y hk).2⟩
end
theorem cells3' : Try.prog.cellsOf 3 = 1 := by kernel_rfl
theorem cells27 : Try.prog.cellsOf 27 = 1 := by kernel_rfl
theorem cells29 : Try.prog.cellsOf 29 = 4 := by kernel_rfl
theorem cells31 : Try.prog.cellsOf 31 = 9 := by kernel_rfl
theorem cells57 : Try.prog.cellsOf 57 = 1 := by kernel_rfl
theorem cells59 : Try.prog.cellsOf 59 = 5 := by kernel_rfl
theorem cells71 : Try.prog.cellsOf 71 = 13 := by kernel_rfl
section
variable {H : Type} {enc : TypeId × Value → H} {W : World} {sp : Nat → Bool}
theorem elem3 (n : Nat) (cs : List Value) (y : DataW H × List MemPlace) (h : DataW.trod enc Try.prog W 0 sp true n 3 cs = some y) : ∃ x, cs = eInt x ∧ True := by
  obtain ⟨z, hz, _⟩ := DataW.trod_int Try.underlying3 h
  exact ⟨z, hz, trivial⟩
theorem open27 {fuel : Nat} {v : Value} {x : DataW H × List MemPlace} (h : DataW.trod enc Try.prog W 0 sp true fuel 27 [v] = some x) :
    ∃ (A : Option Addr) (l : List Int) (c : Nat), v = .slice A l.length c ∧ RowAt W W.heap.size 1 eInt A l ∧ l.length ≤ Rows.uptoBulk x.1 := by
  obtain ⟨A, l, c, e, r, _, _, q, _⟩ := open_row Try.underlying27 cells3' (by decide) eInt (fun _ _ => True) elem3 h
  exact ⟨A, l, c, e, r, q⟩
set_option maxRecDepth 100000 in
theorem open29 {n : Nat} {u0 u1 u2 u3 : Value} {y : DataW H × List MemPlace} (h : DataW.trod enc Try.prog W 0 sp true n 29 [u0, u1, u2, u3] = some y) : ∃ v : Vid, u0 = .int .i64 v.e ∧ u1 = .int .i64 v.l ∧ u2 = .int .i64 v.i ∧ u3 = .int .i64 v.c := by
  obtain ⟨zs, k, _, _, hl4, hzl, hg⟩ := DataW.trod_struct Try.underlying29 h
  have hz4 : zs.length = 4 := hzl
  have g0 : DataW.trod enc Try.prog W 0 sp true k 3 (([u0, u1, u2, u3].drop 0).take (Try.prog.cellsOf 3)) = zs[0]? := hg 0 _ rfl
  have g1 : DataW.trod enc Try.prog W 0 sp true k 3 (([u0, u1, u2, u3].drop 1).take (Try.prog.cellsOf 3)) = zs[1]? := hg 1 _ rfl
  have g2 : DataW.trod enc Try.prog W 0 sp true k 3 (([u0, u1, u2, u3].drop 2).take (Try.prog.cellsOf 3)) = zs[2]? := hg 2 _ rfl
  have g3 : DataW.trod enc Try.prog W 0 sp true k 3 (([u0, u1, u2, u3].drop 3).take (Try.prog.cellsOf 3)) = zs[3]? := hg 3 _ rfl
  rw [cells3'] at g0 g1 g2 g3
  rw [List.getElem?_eq_getElem (by rw [hz4]; decide)] at g0 g1 g2 g3
  obtain ⟨e, he, _⟩ := DataW.trod_int Try.underlying3 g0
  obtain ⟨l, hl, _⟩ := DataW.trod_int Try.underlying3 g1
  obtain ⟨i, hi, _⟩ := DataW.trod_int Try.underlying3 g2
  obtain ⟨c, hc, _⟩ := DataW.trod_int Try.underlying3 g3
  simp at he hl hi hc
  exact ⟨⟨e, l, i, c⟩, he, hl, hi, hc⟩
set_option maxRecDepth 100000 in
theorem open31 {n : Nat} {u0 u1 u2 u3 u4 u5 u6 u7 u8 : Value} {y : DataW H × List MemPlace} (h : DataW.trod enc Try.prog W 0 sp true n 31 [u0, u1, u2, u3, u4, u5, u6, u7, u8] = some y) :
    ∃ (p : Pr) (S V : Option Addr) (cS cV : Nat), [u0, u1, u2, u3, u4, u5, u6, u7, u8] = (prA S V cS cV p).toList ∧ RowAt W W.heap.size 1 eInt S p.set ∧ RowAt W W.heap.size 1 eInt V p.vec ∧ p.set.length ≤ Rows.uptoBulk y.1 ∧ p.vec.length ≤ Rows.uptoBulk y.1 := by
  obtain ⟨ys, m, _, rfl, hlen, hyl, hf⟩ := DataW.trod_struct Try.underlying31 h
  have hyl6 : ys.length = 6 := hyl
  match ys, hyl6 with
  | [y0, y1, y2, y3, y4, y5], _ =>
    have h0 : DataW.trod enc Try.prog W 0 sp true m 27 (([u0, u1, u2, u3, u4, u5, u6, u7, u8].drop 0).take (Try.prog.cellsOf 27)) = some y0 := hf 0 _ rfl
    have h1 : DataW.trod enc Try.prog W 0 sp true m 3 (([u0, u1, u2, u3, u4, u5, u6, u7, u8].drop 1).take (Try.prog.cellsOf 3)) = some y1 := hf 1 _ rfl
    have h2 : DataW.trod enc Try.prog W 0 sp true m 3 (([u0, u1, u2, u3, u4, u5, u6, u7, u8].drop 2).take (Try.prog.cellsOf 3)) = some y2 := hf 2 _ rfl
    have h3 : DataW.trod enc Try.prog W 0 sp true m 3 (([u0, u1, u2, u3, u4, u5, u6, u7, u8].drop 3).take (Try.prog.cellsOf 3)) = some y3 := hf 3 _ rfl
    have h4 : DataW.trod enc Try.prog W 0 sp true m 29 (([u0, u1, u2, u3, u4, u5, u6, u7, u8].drop 4).take (Try.prog.cellsOf 29)) = some y4 := hf 4 _ rfl
    have h5 : DataW.trod enc Try.prog W 0 sp true m 27 (([u0, u1, u2, u3, u4, u5, u6, u7, u8].drop 8).take (Try.prog.cellsOf 27)) = some y5 := hf 5 _ rfl
    rw [cells27] at h0 h5
    rw [cells3'] at h1 h2 h3
    rw [cells29] at h4
    simp only [List.drop_zero, List.drop_succ_cons, List.take_succ_cons, List.take_zero] at h0 h1 h2 h3 h4 h5
    obtain ⟨S, ls, cS, hS, rS, lS⟩ := open27 h0
    obtain ⟨c, hc, _⟩ := DataW.trod_int Try.underlying3 h1
    obtain ⟨r, hr, _⟩ := DataW.trod_int Try.underlying3 h2
    obtain ⟨t, ht, _⟩ := DataW.trod_int Try.underlying3 h3
    obtain ⟨v, v0, v1, v2, v3⟩ := open29 h4
    obtain ⟨V, lv, cV, hV, rV, lV⟩ := open27 h5
    simp at hc hr ht
    refine ⟨⟨ls, c, r, t, v, lv⟩, S, V, cS, cV, by simp [prA, hS, hc, hr, ht, v0, v1, v2, v3, hV], rS, rV, Nat.le_trans lS (bulks.agg_part (by simp)), Nat.le_trans lV (bulks.agg_part (by simp))⟩
def OpQ (W : World) (x : OpX) (b : Nat) : Prop := RowAt W W.heap.size 1 eInt x.P.A x.o.ls ∧ RowAt W W.heap.size 1 eInt x.P.S x.o.p.set ∧ RowAt W W.heap.size 1 eInt x.P.V x.o.p.vec ∧ x.o.ls.length ≤ b ∧ x.o.p.set.length ≤ b ∧ x.o.p.vec.length ≤ b ∧ 2 ≤ b
set_option maxRecDepth 100000 in
theorem elem71 (n : Nat) (cs : List Value) (y : DataW H × List MemPlace) (h : DataW.trod enc Try.prog W 0 sp true n 71 cs = some y) : ∃ x, cs = eOp x ∧ OpQ W x (Rows.uptoBulk y.1) := by
  obtain ⟨ys, m, _, rfl, hlen, hyl, hf⟩ := DataW.trod_struct Try.underlying71 h
  rw [cells71] at hlen
  have hyl5 : ys.length = 5 := hyl
  match cs, hlen with
  | [u0, u1, u2, u3, u4, u5, u6, u7, u8, u9, u10, u11, u12], _ =>
    match ys, hyl5 with
    | [y0, y1, y2, y3, y4], _ =>
      have h0 : DataW.trod enc Try.prog W 0 sp true m 3 (([u0, u1, u2, u3, u4, u5, u6, u7, u8, u9, u10, u11, u12].drop 0).take (Try.prog.cellsOf 3)) = some y0 := hf 0 _ rfl
      have h1 : DataW.trod enc Try.prog W 0 sp true m 3 (([u0, u1, u2, u3, u4, u5, u6, u7, u8, u9, u10, u11, u12].drop 1).take (Try.prog.cellsOf 3)) = some y1 := hf 1 _ rfl
      have h2 : DataW.trod enc Try.prog W 0 sp true m 3 (([u0, u1, u2, u3, u4, u5, u6, u7, u8, u9, u10, u11, u12].drop 2).take (Try.prog.cellsOf 3)) = some y2 := hf 2 _ rfl
      have h3 : DataW.trod enc Try.prog W 0 sp true m 27 (([u0, u1, u2, u3, u4, u5, u6, u7, u8, u9, u10, u11, u12].drop 3).take (Try.prog.cellsOf 27)) = some y3 := hf 3 _ rfl
      have h4 : DataW.trod enc Try.prog W 0 sp true m 31 (([u0, u1, u2, u3, u4, u5, u6, u7, u8, u9, u10, u11, u12].drop 4).take (Try.prog.cellsOf 31)) = some y4 := hf 4 _ rfl
      rw [cells3'] at h0 h1 h2
      rw [cells27] at h3
      rw [cells31] at h4
      simp only [List.drop_zero, List.drop_succ_cons, List.take_succ_cons, List.take_zero] at h0 h1 h2 h3 h4
      obtain ⟨k, hk, _⟩ := DataW.trod_int Try.underlying3 h0
      obtain ⟨q, hq, _⟩ := DataW.trod_int Try.underlying3 h1
      obtain ⟨i, hi, _⟩ := DataW.trod_int Try.underlying3 h2
      obtain ⟨A, l, cA, hA, rA, lA⟩ := open27 h3
      obtain ⟨p, S, V, cS, cV, hp, rS, rV, lS, lV⟩ := open31 h4
      simp at hk hq hi
      simp only [prA, List.cons.injEq, and_true] at hp
      obtain ⟨p0, p1, p2, p3, p4, p5, p6, p7, p8⟩ := hp
      have b3 : Rows.uptoBulk y3.1 ≤ Rows.uptoBulk (.agg ([y0, y1, y2, y3, y4].map (·.1))) := bulks.agg_part (by simp)
      have b4 : Rows.uptoBulk y4.1 ≤ Rows.uptoBulk (.agg ([y0, y1, y2, y3, y4].map (·.1))) := bulks.agg_part (by simp)
      refine ⟨⟨⟨k, q, i, l, p⟩, ⟨A, cA, S, cS, V, cV⟩⟩, by simp [eOp, hk, hq, hi, hA, p0, p1, p2, p3, p4, p5, p6, p7, p8], rA, rS, rV, Nat.le_trans lA b3, Nat.le_trans lS b4, Nat.le_trans lV b4, ?_⟩
      have h6 := bulks.length_le ([y0, y1, y2, y3, y4].map (·.1))
      simp only [Rows.uptoBulk, List.length_map, List.length_cons, List.length_nil] at h6 ⊢
      omega
set_option maxRecDepth 100000 in
/-- A case that came in. -/
theorem open59 {fuel : Nat} {cs : List Value} {x : DataW H × List MemPlace} (h : DataW.trod enc Try.prog W 0 sp true fuel 59 cs = some x) :
    ∃ (n s i f : Int) (A : Option Addr) (c : Nat) (os : List OpX), cs = (caseA n s i f A os.length c).toList ∧ RowAt W W.heap.size 13 eOp A os ∧ os.length * 2 ≤ Rows.uptoBulk x.1 ∧ ∀ y ∈ os, ∃ b, b ≤ Rows.uptoBulk x.1 ∧ OpQ W y b := by
  obtain ⟨ys, m, _, rfl, hlen, hyl, hf⟩ := DataW.trod_struct Try.underlying59 h
  rw [cells59] at hlen
  have hyl5 : ys.length = 5 := hyl
  match cs, hlen with
  | [u0, u1, u2, u3, u4], _ =>
    match ys, hyl5 with
    | [y0, y1, y2, y3, y4], _ =>
      have h0 : DataW.trod enc Try.prog W 0 sp true m 3 (([u0, u1, u2, u3, u4].drop 0).take (Try.prog.cellsOf 3)) = some y0 := hf 0 _ rfl
      have h1 : DataW.trod enc Try.prog W 0 sp true m 3 (([u0, u1, u2, u3, u4].drop 1).take (Try.prog.cellsOf 3)) = some y1 := hf 1 _ rfl
      have h2 : DataW.trod enc Try.prog W 0 sp true m 3 (([u0, u1, u2, u3, u4].drop 2).take (Try.prog.cellsOf 3)) = some y2 := hf 2 _ rfl
      have h3 : DataW.trod enc Try.prog W 0 sp true m 3 (([u0, u1, u2, u3, u4].drop 3).take (Try.prog.cellsOf 3)) = some y3 := hf 3 _ rfl
      have h4 : DataW.trod enc Try.prog W 0 sp true m 57 (([u0, u1, u2, u3, u4].drop 4).take (Try.prog.cellsOf 57)) = some y4 := hf 4 _ rfl
      rw [cells3'] at h0 h1 h2 h3
      rw [cells57] at h4
      simp only [List.drop_zero, List.drop_succ_cons, List.take_succ_cons, List.take_zero] at h0 h1 h2 h3 h4
      obtain ⟨n, hn, _⟩ := DataW.trod_int Try.underlying3 h0
      obtain ⟨s, hs, _⟩ := DataW.trod_int Try.underlying3 h1
      obtain ⟨i, hi, _⟩ := DataW.trod_int Try.underlying3 h2
      obtain ⟨f, hf', _⟩ := DataW.trod_int Try.underlying3 h3
      obtain ⟨A, os, c, hA, r, _, _, q1, q2⟩ := open_row2 Try.underlying57 cells71 (by decide) eOp (OpQ W) (fun y b hy => hy.2.2.2.2.2.2) elem71 h4
      simp at hn hs hi hf'
      have b4 : Rows.uptoBulk y4.1 ≤ Rows.uptoBulk (.agg ([y0, y1, y2, y3, y4].map (·.1))) := bulks.agg_part (by simp)
      refine ⟨n, s, i, f, A, c, os, by simp [caseA, hn, hs, hi, hf', hA], r, Nat.le_trans q1 b4, fun y hy => ?_⟩
      obtain ⟨b, hb, hq⟩ := q2 y hy
      exact ⟨b, Nat.le_trans hb b4, hq⟩
end
end Go.Proofs.Ytfbeggdbjpmppaa
/- Closes the rows of this seat's statements over one case. -/
namespace Go.Proofs.Ytfbeggdbjpmppaa
open Go.ChangeShapes Go.WideShapes Go.ChangeAt Go.RowKit
section
variable {H : Type} {enc : TypeId × Value → H} {P : Program}
theorem post_of_below {f : Func} {s : ChangeSpec} {apart fresh handsOn again : Bool} {W W' : World} {args : Array Value} {v : Value} {ds gs : List (DataW H)} {before pa pv : List MemPlace}
    (hW : DataW.Whole enc P f.params.toList s.vars apart W args.toList ds gs before)
    (hres : ∀ (b : Nat) (sp : Nat → Bool) (hd : Bool), DataW.TrodAll enc P W' b sp hd f.resultTypes.toList (v.resultList f.resultTypes.size) (s.fn H (ds ++ gs)).results [])
    (hargs : ∀ sp : Nat → Bool, (∀ p ∈ before, sp p.block = true) → DataW.TrodAll enc P W' 0 sp true f.params.toList args.toList (s.fn H (ds ++ gs)).args pa)
    (hvars : ∀ sp : Nat → Bool, (∀ p ∈ before, sp p.block = true) → DataW.TrodVars enc P W' sp s.vars (s.fn H (ds ++ gs)).vars pv)
    (hps : before = pa ++ pv) (hb : Below W.heap.size W W')
    (hok : ∀ (j : Nat) (t : TypeId) (r : Value), f.resultTypes[j]? = some t → (v.resultList f.resultTypes.size)[j]? = some r → Value.okWide P W' .any 0 t r) :
    s.post enc P f apart fresh handsOn again W args v W' := by
  have hlt : ∀ p ∈ before, p.block < W.heap.size := fun p hp => hW.lt p hp
  have hold : ∀ p ∈ before, (fun b => decide (b < W.heap.size)) p.block = true := fun p hp => by simpa using hlt p hp
  refine ⟨ds, gs, before, [], pa, pv, hW, hres _ _ _, hargs _ hold, hvars _ hold, World.keptBut_mono (fun p hp => ⟨hp, ?_⟩) (hb.frame (· ∈ before)), fun _ => ?_⟩
  · rw [hps, List.mem_append] at hp
    exact Or.inr hp
  · obtain ⟨_, _, _, _, _, hz, hn⟩ := hW
    refine ⟨hok, _, _, ([] ++ pa) ++ pv, ⟨[] ++ pa, pv, trodAll_append (hargs _ (fun _ _ => rfl)) (hres _ _ _), hvars _ (fun _ _ => rfl), rfl, ?_, ?_⟩, ?_⟩
    · intro b off hp
      have hin : MemPlace.cell b off ∈ before := by rw [hps]; simpa using hp
      rw [hb.frozen (hlt _ hin)]
      exact hz b off hin
    · intro ha
      have := hn ha
      rw [hps] at this
      simpa using this
    · intro p hp _
      rw [hps]
      simpa using hp
end

theorem own : ownKnob Try.prog.godebug = none := by kernel_rfl
theorem laidOut : laidOutB Try.prog = true := by kernel_rfl
theorem readable59 : Try.prog.readableRec 59 = true := by kernel_rfl
theorem row59 : 59 < Try.prog.types.size := of_decide_eq_true (by kernel_rfl)
set_option maxRecDepth 100000 in
/-- A case that came in, of bulk at most 1048576. -/
theorem came59 {H : Type} {enc : TypeId × Value → H} {W : World} {sp : Nat → Bool} {base : Nat} {v : Value} {d : DataW H} {p : List MemPlace} (hv : Value.okWide Try.prog W .any base 59 v)
    (h : DataW.Trod enc Try.prog W 0 sp true 59 v d p) (hk : Rows.uptoBulk d ≤ 1048576) :
    ∃ (n s i f : Int) (A : Option Addr) (c : Nat) (os : List OpX), v = .agg (caseA n s i f A os.length c) ∧ OpsAt W W.heap.size A os := by
  obtain ⟨cs, rfl, _⟩ := okWide_struct Try.underlying59 hv
  obtain ⟨fuel, h⟩ := h
  obtain ⟨n, s, i, f, A, c, os, e, r, q1, q2⟩ := open59 (x := (d, p)) h
  refine ⟨n, s, i, f, A, c, os, ?_, r, fun x hx => ?_, ?_⟩
  · have : cs = caseA n s i f A os.length c := Array.toList_inj.1 e
    rw [this]
  · obtain ⟨b, hb, hA, hS, hV, lA, lS, lV, _⟩ := q2 x hx
    have hb' : b ≤ 1048576 := Nat.le_trans hb hk
    exact ⟨hA, hS, hV, by omega, by omega, by omega⟩
  · have hk' : Rows.uptoBulk (d, p).1 ≤ 1048576 := hk
    omega
end Go.Proofs.Ytfbeggdbjpmppaa
