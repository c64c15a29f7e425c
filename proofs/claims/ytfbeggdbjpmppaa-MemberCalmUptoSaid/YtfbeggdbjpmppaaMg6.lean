/- Leaving Late RAgent Small View AppO Lt98, joined. -/
import Derived.StillTailTactics
import Derived.Test.YtfbeggdbjpmppaaMg3
import Derived.Test.YtfbeggdbjpmppaaMg5
set_option linter.unusedVariables false
set_option linter.unusedSimpArgs false
namespace Go.Proofs.Ytfbeggdbjpmppaa
open Go.RowKit
def upto {α : Type} (p : α → Prop) (l : List α) (k : Nat) : Prop := ∀ j x, j < k → l[j]? = some x → p x
theorem upto_zero {α : Type} (p : α → Prop) (l : List α) : upto p l 0 := by intro j x hj; omega
theorem upto_succ {α : Type} {p : α → Prop} {l : List α} {k : Nat} (h : upto p l k) (e : ∀ x, l[k]? = some x → p x) : upto p l (k + 1) := by
  intro j x hj hx
  by_cases hk : j = k
  · subst hk; exact e x hx
  · exact h j x (by omega) hx
theorem upto_all {α : Type} {p : α → Prop} {l : List α} {k : Nat} (h : upto p l k) (hk : l.length ≤ k) : ∀ x ∈ l, p x := by
  intro x hx
  obtain ⟨j, hj, rfl⟩ := List.getElem_of_mem hx
  exact h j _ (by omega) (List.getElem?_eq_getElem hj)
theorem find_here {α : Type} {p : α → Bool} : ∀ {l : List α} {k : Nat} {x : α}, upto (fun y => p y = false) l k → l[k]? = some x → p x = true → l.find? p = some x
  | [], k, x, _, h, _ => by simp at h
  | y :: l, 0, x, _, h, hp => by simp at h; subst h; simp [List.find?, hp]
  | y :: l, k + 1, x, hu, h, hp => by
    have hy : p y = false := hu 0 y (by omega) rfl
    rw [List.find?, hy]
    exact find_here (k := k) (fun j z hj hz => hu (j + 1) z (by omega) (by simpa using hz)) (by simpa using h) hp
def eMb (m : Mb) : List Value := [.int .i64 m.p, .int .i64 m.i, .int .i64 m.c]
theorem len_eMb (x : Mb) : (eMb x).length = 3 := rfl
theorem one_eMb (x : Mb) : ∀ u ∈ eMb x, u.oneCell' = true := by intro u hu; simp [eMb] at hu; rcases hu with rfl | rfl | rfl <;> rfl
theorem RowAt.mb {w : World} {N : Nat} {A : Option Addr} {l : List Mb} (h : RowAt w N 3 eMb A l) {k : Nat} (hk : k < l.length) :
    ∃ b off m, A = some ⟨b, off, none⟩ ∧ b < N ∧ Hid (l[k]? = some m) ∧ w.cell? ⟨b, off + k * 3, none⟩ = some (.int .i64 m.p) ∧ w.cell? ⟨b, off + k * 3 + 1, none⟩ = some (.int .i64 m.i) ∧ w.cell? ⟨b, off + k * 3 + 2, none⟩ = some (.int .i64 m.c) := by
  obtain ⟨b, off, e, hb, hc⟩ := h (by omega)
  have hx := List.getElem?_eq_getElem hk
  exact ⟨b, off, l[k], e, hb, hx, hc k _ hx 0 _ rfl, hc k _ hx 1 _ rfl, hc k _ hx 2 _ rfl⟩
theorem leaves_hit {ms : List Mb} {q inc cid : Int} {k : Nat} {m : Mb} (h : upto (fun y => decide (y.p = q) = false) ms k) (hm : ms[k]? = some m) (hp : m.p = q) : leavesB ms q inc cid = decide (m.i = inc ∧ m.c < cid) := by
  unfold leavesB; rw [find_here h hm (decide_eq_true hp)]
theorem leaves_none {ms : List Mb} {q inc cid : Int} {k : Nat} (h : upto (fun y => decide (y.p = q) = false) ms k) (hk : ms.length ≤ k) : leavesB ms q inc cid = false := by
  unfold leavesB
  rw [List.find?_eq_none.2 (fun x hx => by rw [upto_all h hk x hx]; decide)]
set_option maxRecDepth 100000 in
set_option maxHeartbeats 4000000 in
theorem leaving_any (b : Nat) (s : St) (M : Option Addr) (cM N : Nat) (q inc cid : Int) (w : World) (h : AgAt w b s M cM) (hb : b < w.heap.size) (hN : N ≤ w.heap.size) (hM : RowAt w N 3 eMb M s.mem) (hl : s.mem.length ≤ 9223372036854775807) :
    Calls Try.prog 54 #[.pointer (some ⟨b, 0, none⟩), .int .i64 q, .int .i64 inc, .int .i64 cid] w fun x w' => x = .returned (.bool (leavesB s.mem q inc cid)) ∧ Below w.heap.size w w' := by
  have q0 := h.mem
  go_enter Try.func54, Try.ntmps54
  go_wp2
  go_loopw [17] (fun k wr => ∃ i : Nat, k = .int .i64 i ∧ i ≤ s.mem.length ∧ upto (fun y => decide (y.p = q) = false) s.mem i ∧ Below w.heap.size w wr) (fun k _ => s.mem.length - (intOf k).toNat)
  case atStart => exact ⟨0, rfl, by omega, upto_zero _ _, Below.refl _ _⟩
  case round =>
    obtain ⟨i, rfl, hi, hup, hbr⟩ := hrel
    replace hup := Lib.hid hup
    have hsr := hbr.size
    by_cases hlt : i < s.mem.length
    · obtain ⟨g, o, m, hMe, hg, hm, c0, c1, c2⟩ := (hM.below hbr hN).mb hlt
      have hgw : g < wr.heap.size := by omega
      have hba := hbr.alloc hsr (.cells #[.int .i64 m.p, .int .i64 m.i, .int .i64 m.c] 43)
      replace hba := Lib.hid hba
      by_cases he : m.p = q
      · have e1 : (m.p == q) = true := by simp [he]
        have hL := Lib.hid (leaves_hit (inc := inc) (cid := cid) hup.out hm.out he)
        replace he := Lib.hid he
        by_cases hi2 : m.i = inc
        · have e2 : (m.i == inc) = true := by simp [hi2]
          have hL2 : leavesB s.mem q inc cid = decide (m.c < cid) := by rw [hL.out]; simp [hi2]
          replace hL2 := Lib.hid hL2
          replace hi2 := Lib.hid hi2
          clear q0 hbr
          rw [hMe]
          go_wp2
          go_ret
          exact ⟨ret_bool hL2.out.symm, hba.out⟩
        · have e2 : (m.i == inc) = false := by simp [hi2]
          have hL2 : leavesB s.mem q inc cid = false := by rw [hL.out]; simp [hi2]
          replace hL2 := Lib.hid hL2
          replace hi2 := Lib.hid hi2
          clear q0 hbr
          rw [hMe]
          go_wp2
          go_ret
          exact ⟨ret_bool hL2.out.symm, hba.out⟩
      · have e1 : (m.p == q) = false := by simp [he]
        have hup' := Lib.hid (upto_succ hup.out (fun z hz => by rw [hm.out] at hz; cases hz; exact decide_eq_false he))
        replace he := Lib.hid he
        clear q0 hbr
        rw [hMe]
        go_wp2
        go_roundw
        case rel => go_light; exact ⟨i + 1, by go_num, by omega, hup'.out, hba.out⟩
        case measure => go_light; simp [intOf]; omega
    · have hL := Lib.hid (leaves_none (inc := inc) (cid := cid) hup.out (by omega))
      go_wp2
      go_ret
      exact ⟨ret_bool hL.out.symm, hbr⟩
end Go.Proofs.Ytfbeggdbjpmppaa
namespace Go.Proofs.Ytfbeggdbjpmppaa
structure Hd where
  q : Int
  inc : Int
  p : Pr
def beats (x y : Hd) : Bool := decide (y.inc < x.inc ∨ (x.inc = y.inc ∧ y.p.rev < x.p.rev))
def lateTo (h : List Hd) (q : Int) : Nat → Option Nat
  | 0 => none
  | k + 1 => match h[k]? with
    | none => lateTo h q k
    | some x => if x.q = q then
        match lateTo h q k with
        | none => some k
        | some j => match h[j]? with
          | none => some k
          | some y => if beats x y then some k else some j
      else lateTo h q k
theorem lateTo_other {h : List Hd} {q : Int} {k : Nat} {x : Hd} (hx : h[k]? = some x) (hq : x.q ≠ q) : lateTo h q (k + 1) = lateTo h q k := by
  rw [lateTo, hx]; exact if_neg hq
theorem lateTo_first {h : List Hd} {q : Int} {k : Nat} {x : Hd} (hx : h[k]? = some x) (hq : x.q = q) (hn : lateTo h q k = none) : lateTo h q (k + 1) = some k := by
  rw [lateTo, hx]; simp only [hn, if_pos hq]
theorem lateTo_beat {h : List Hd} {q : Int} {k j : Nat} {x y : Hd} (hx : h[k]? = some x) (hq : x.q = q) (hn : lateTo h q k = some j) (hy : h[j]? = some y) (hb : beats x y = true) : lateTo h q (k + 1) = some k := by
  rw [lateTo, hx]; simp only [hn, if_pos hq, hy, hb, if_true]
theorem lateTo_keep {h : List Hd} {q : Int} {k j : Nat} {x y : Hd} (hx : h[k]? = some x) (hq : x.q = q) (hn : lateTo h q k = some j) (hy : h[j]? = some y) (hb : beats x y = false) : lateTo h q (k + 1) = some j := by
  rw [lateTo, hx]; simp only [hn, if_pos hq, hy, hb]; rfl
theorem lateTo_some {h : List Hd} {q : Int} : ∀ {k j : Nat}, k ≤ h.length → lateTo h q k = some j → j < k ∧ ∃ x, h[j]? = some x ∧ x.q = q
  | 0, j, _, e => by cases e
  | k + 1, j, hk, e => by
    have hx : h[k]? = some h[k] := List.getElem?_eq_getElem (by omega)
    have ih := fun {j} => lateTo_some (h := h) (q := q) (k := k) (j := j) (by omega)
    by_cases hq : h[k].q = q
    · cases hn : lateTo h q k with
      | none => rw [lateTo_first hx hq hn] at e; cases e; exact ⟨by omega, _, hx, hq⟩
      | some i =>
        obtain ⟨hi, y, hy, hyq⟩ := ih hn
        cases hb : beats h[k] y with
        | true => rw [lateTo_beat hx hq hn hy hb] at e; cases e; exact ⟨by omega, _, hx, hq⟩
        | false => rw [lateTo_keep hx hq hn hy hb] at e; cases e; exact ⟨by omega, y, hy, hyq⟩
    · rw [lateTo_other hx hq] at e
      obtain ⟨hi, r⟩ := ih e
      exact ⟨by omega, r⟩
theorem lateTo_app {h g : List Hd} {q : Int} : ∀ {k : Nat}, k ≤ h.length → lateTo (h ++ g) q k = lateTo h q k
  | 0, _ => rfl
  | k + 1, hk => by
    have hx : h[k]? = some h[k] := List.getElem?_eq_getElem (by omega)
    have hx' : (h ++ g)[k]? = some h[k] := by rw [List.getElem?_append_left (by omega)]; exact hx
    have ih := lateTo_app (h := h) (g := g) (q := q) (k := k) (by omega)
    by_cases hq : h[k].q = q
    · cases hn : lateTo h q k with
      | none => rw [lateTo_first hx hq hn, lateTo_first hx' hq (ih.trans hn)]
      | some i =>
        obtain ⟨hi, y, hy, hyq⟩ := lateTo_some (by omega) hn
        have hy' : (h ++ g)[i]? = some y := by rw [List.getElem?_append_left (by omega)]; exact hy
        cases hb : beats h[k] y with
        | true => rw [lateTo_beat hx hq hn hy hb, lateTo_beat hx' hq (ih.trans hn) hy' hb]
        | false => rw [lateTo_keep hx hq hn hy hb, lateTo_keep hx' hq (ih.trans hn) hy' hb]
    · rw [lateTo_other hx hq, lateTo_other hx' hq, ih]
def late (h : List Hd) (q : Int) : Option Nat := lateTo h q h.length
theorem late_some {h : List Hd} {q : Int} {j : Nat} (e : late h q = some j) : j < h.length ∧ ∃ x, h[j]? = some x ∧ x.q = q := lateTo_some (Nat.le_refl _) e
structure Rep (s : St) (h : List Hd) : Prop where
  no : ∀ q : Nat, q < 16 → late h q = none → s.lt q = Lt.zero
  yes : ∀ q : Nat, q < 16 → ∀ j x, late h q = some j → h[j]? = some x → s.lt q = ⟨x.inc, x.p.wish⟩
  ok : ∀ x ∈ h, x.p.set.length = s.n ∧ x.p.vec.length = s.n ∧ 1 ≤ x.inc
theorem Rep.same {s t : St} {h : List Hd} (r : Rep s h) (ho : t.oth = s.oth) (hn : t.n = s.n) : Rep t h := by
  have hl : ∀ q, t.lt q = s.lt q := fun q => by unfold St.lt; rw [ho]
  exact ⟨fun q hq e => by rw [hl]; exact r.no q hq e, fun q hq j x e1 e2 => by rw [hl]; exact r.yes q hq j x e1 e2, fun x hx => by rw [hn]; exact r.ok x hx⟩
theorem lt_put {s : St} {q r : Nat} {inc : Int} {w : Wish} (hq : q < s.oth.length) : (s.put q inc w).lt r = if r = q then ⟨inc, w⟩ else s.lt r := by
  unfold St.lt St.put
  by_cases e : r = q
  · subst e; rw [if_pos rfl, List.getElem?_set_self hq]; rfl
  · rw [if_neg e, List.getElem?_set_ne (fun e2 => e e2.symm)]
theorem late_snoc_other {h : List Hd} {q : Int} {x : Hd} (hq : x.q ≠ q) : late (h ++ [x]) q = late h q := by
  unfold late
  rw [List.length_append]
  rw [show h.length + [x].length = h.length + 1 from rfl, lateTo_other (x := x) (by simp) hq, lateTo_app (Nat.le_refl _)]
theorem late_snoc {h : List Hd} {q : Int} {x : Hd} (hq : x.q = q) (hb : ∀ j y, late h q = some j → h[j]? = some y → beats x y = true) : late (h ++ [x]) q = some h.length := by
  unfold late
  rw [List.length_append, show h.length + [x].length = h.length + 1 from rfl]
  cases hn : lateTo h q h.length with
  | none => exact lateTo_first (x := x) (by simp) hq ((lateTo_app (Nat.le_refl _)).trans hn)
  | some j =>
    obtain ⟨hj, y, hy, _⟩ := lateTo_some (Nat.le_refl _) hn
    exact lateTo_beat (x := x) (by simp) hq ((lateTo_app (Nat.le_refl _)).trans hn) (by rw [List.getElem?_append_left hj]; exact hy) (hb j y hn hy)
theorem Rep.put {s : St} {h : List Hd} (r : Rep s h) (ho : s.oth.length = 16) {q : Nat} {inc : Int} {p : Pr} (hq : q < 16) (h1 : ¬ inc < (s.lt q).inc) (h2 : ¬ ((s.lt q).inc = inc ∧ p.rev ≤ (s.lt q).w.rev)) (hi : 1 ≤ inc) (l1 : p.set.length = s.n) (l2 : p.vec.length = s.n) :
    Rep (s.put q inc p.wish) (h ++ [⟨q, inc, p⟩]) := by
  have hb : ∀ j y, late h q = some j → h[j]? = some y → beats ⟨q, inc, p⟩ y = true := fun j y e1 e2 => by
    have := r.yes q hq j y e1 e2
    rw [this] at h1 h2
    simp only [Pr.wish] at h1 h2
    simp only [beats, decide_eq_true_eq]; omega
  have hnew := late_snoc (h := h) (x := ⟨q, inc, p⟩) (q := (q : Int)) rfl hb
  refine ⟨fun m hm e => ?_, fun m hm j x e1 e2 => ?_, fun x hx => ?_⟩
  · rw [lt_put (by omega)]
    by_cases e2 : m = q
    · subst e2; rw [hnew] at e; cases e
    · rw [if_neg e2]
      rw [late_snoc_other (by show (q : Int) ≠ m; omega)] at e
      exact r.no m hm e
  · rw [lt_put (by omega)]
    by_cases e3 : m = q
    · subst e3; rw [hnew] at e1; cases e1
      rw [if_pos rfl]
      have : x = ⟨(m : Int), inc, p⟩ := by simpa using e2.symm
      rw [this]
    · rw [if_neg e3]
      rw [late_snoc_other (by show (q : Int) ≠ m; omega)] at e1
      obtain ⟨hj, _⟩ := late_some e1
      rw [List.getElem?_append_left hj] at e2
      exact r.yes m hm j x e1 e2
  · rcases List.mem_append.1 hx with hx | hx
    · exact r.ok x hx
    · obtain rfl : x = ⟨(q : Int), inc, p⟩ := by simpa using hx
      exact ⟨l1, l2, hi⟩
structure RInv (s : St) : Prop where
  set : s.own.set = pad (s.own.set.take s.n)
  vec : s.own.vec = pad (s.own.vec.take s.n)
  seen : ∀ q, q ≠ s.self → nth s.own.vec q ≠ 0 → (s.lt q).inc ≠ 0
  nov : s.vid = Vid.zero ↔ s.mem = []
  rise : ∀ (i j : Nat) (a b : Mb), s.mem[i]? = some a → s.mem[j]? = some b → a.p = b.p → i = j
  len : s.mem.length ≤ 16
theorem pad_take {l : List Int} {n : Nat} (hl : l.length = 16) (hn : n ≤ 16) (h : ∀ j, n ≤ j → nth l j = 0) : l = pad (l.take n) := by
  have e : (l.take n).length = n := List.length_take_of_le (by omega)
  apply List.ext_getElem?
  intro j
  unfold pad
  rw [e]
  by_cases hj : j < n
  · rw [List.getElem?_append_left (by omega), List.getElem?_take_of_lt hj]
  · rw [List.getElem?_append_right (by omega), e, List.getElem?_replicate]
    by_cases h16 : j < 16
    · rw [if_pos (by omega), List.getElem?_eq_getElem (by omega)]
      have := h j (by omega)
      unfold nth at this
      rw [List.getElem?_eq_getElem (by omega)] at this
      simpa using this
    · rw [if_neg (by omega), List.getElem?_eq_none (by omega)]
theorem take_pad {l : List Int} {n : Nat} (hl : l.length = n) : (pad l).take n = l := by unfold pad; rw [← hl]; exact List.take_left
theorem nth_heard {s : St} {q : Nat} (hq : q < 16) : nth s.heard q = s.vecAt q := by
  unfold nth St.heard; rw [List.getElem?_map, List.getElem?_range hq]; rfl
theorem nth_over {l : List Int} {q : Nat} (h : l.length ≤ q) : nth l q = 0 := by unfold nth; rw [List.getElem?_eq_none h]; rfl
theorem heard_pad {s : St} (hi : Inv s) : s.heard = pad (s.heard.take s.n) := by
  refine pad_take (len_heard s) hi.n2 fun j hj => ?_
  by_cases h : j < 16
  · rw [nth_heard h]; unfold St.vecAt
    rw [if_neg (by have := hi.self; omega), if_neg (by omega)]
  · exact nth_over (by rw [len_heard]; omega)
theorem heard_seen {s : St} : ∀ q, q ≠ s.self → nth s.heard q ≠ 0 → (s.lt q).inc ≠ 0 := fun q hq h => by
  by_cases h16 : q < 16
  · rw [nth_heard h16] at h
    unfold St.vecAt at h
    rw [if_neg hq] at h
    split at h
    · rename_i e; have := e.2; unfold St.matB at this; simp only [decide_eq_true_eq] at this; exact this.1
    · exact absurd rfl h
  · exact absurd (nth_over (by rw [len_heard]; omega)) h
theorem begin_rinv {s : St} {x : List Int} (h : RInv s) (hi : Inv s) (hs : s.spent = false) (hx : x = pad (x.take s.n)) (hl : x.length = 16) (hok : ∀ v ∈ x, 0 ≤ v ∧ v ≤ 4611686018427387904) (hm : nth x s.self = s.inc) : RInv (s.begin_ x) := by
  have b1 := beg1_inv hi hs hl hok hm
  exact ⟨hx, heard_pad b1, heard_seen, h.nov, h.rise, h.len⟩
theorem estimate_rinv {s : St} (h : RInv s) (hi : Inv s) (l : List Int) : RInv (s.estimate l).2.2 := by
  unfold St.estimate
  split
  · exact h
  · rename_i h1
    split
    · exact h
    · split
      · exact h
      · rename_i h3
        simp only [not_or, Bool.not_eq_false] at h1
        have hl := packB_len h1.1
        exact begin_rinv h hi (by simpa using h3) (by rw [take_pad hl]) (len_pad (by rw [hl]; exact hi.n2)) (pack_ok h1.1) (Classical.not_not.1 h1.2)
theorem put_rinv {s : St} (h : RInv s) (ho : s.oth.length = 16) {q : Nat} {inc : Int} {w : Wish} (hq : q < 16) (hi : inc ≠ 0) : RInv (s.put q inc w) := by
  refine ⟨h.set, h.vec, fun r hr hv => ?_, h.nov, h.rise, h.len⟩
  rw [lt_put (by omega)]
  split
  · exact hi
  · exact h.seen r hr hv
theorem take_rinv {s : St} (h : RInv s) (hi : Inv s) (q inc : Int) (p : Pr) : RInv (s.take q inc p).2.2 := by
  unfold St.take
  split
  · exact h
  · rename_i ha
    split
    · exact h
    · rename_i hg
      have hw := good_wish hi.n2 (by simpa using hg)
      split
      · exact h
      · split
        · exact h
        · have hn := hi.n2
          have ht := put_inv hi (q := q.toNat) (inc := inc) hw
          have hr := put_rinv (q := q.toNat) (inc := inc) (w := p.wish) h hi.oth (by omega) (by omega)
          dsimp only
          split
          · split
            · exact hr
            · split
              · exact ⟨hr.set, heard_pad ht, heard_seen, hr.nov, hr.rise, hr.len⟩
              · exact h
          · split
            · exact hr
            · split
              · exact h
              · rename_i hs
                exact begin_rinv hr ht (by simpa using hs) hr.set ht.own.set ht.own.setv ht.me
theorem agTo_rise {s : St} : ∀ {k : Nat} {a : Ag}, s.agTo k = some a → (∀ m ∈ a.mem, 0 ≤ m.p ∧ m.p < k) ∧ ∀ (i j : Nat) (x y : Mb), a.mem[i]? = some x → a.mem[j]? = some y → x.p = y.p → i = j
  | 0, a, e => by
    cases e
    refine ⟨?_, ?_⟩
    · intro m hm; exact absurd hm (by simp)
    · intro i j x y hx; simp at hx
  | k + 1, a, e => by
    rw [St.agTo] at e
    obtain ⟨b, hb, hs⟩ := Option.bind_eq_some_iff.1 e
    obtain ⟨h1, h2⟩ := agTo_rise hb
    unfold St.agStep at hs
    split at hs
    · cases hs; exact ⟨fun m hm => by have := h1 m hm; omega, h2⟩
    · split at hs
      · cases hs
      · cases hs
        refine ⟨fun m hm => ?_, fun i j x y hx hy hxy => ?_⟩
        · rcases List.mem_append.1 hm with hm | hm
          · have := h1 m hm; omega
          · have : m = ⟨(k : Int), nth s.own.set k, nth s.own.vec k⟩ := by simpa using hm
            subst this; show (0 : Int) ≤ (k : Int) ∧ (k : Int) < (k + 1 : Nat); omega
        · dsimp only at hx hy
          have hi := (List.getElem?_eq_some_iff.1 hx).1
          have hj := (List.getElem?_eq_some_iff.1 hy).1
          rw [List.length_append, List.length_singleton] at hi hj
          by_cases e1 : i < b.mem.length
          · rw [List.getElem?_append_left e1] at hx
            by_cases e2 : j < b.mem.length
            · rw [List.getElem?_append_left e2] at hy
              exact h2 i j x y hx hy hxy
            · obtain rfl : j = b.mem.length := by omega
              have : y = ⟨(k : Int), nth s.own.set k, nth s.own.vec k⟩ := by simpa using hy.symm
              have hx' := h1 x (List.mem_of_getElem? hx)
              rw [this] at hxy; simp only at hxy; omega
          · obtain rfl : i = b.mem.length := by omega
            have : x = ⟨(k : Int), nth s.own.set k, nth s.own.vec k⟩ := by simpa using hx.symm
            by_cases e2 : j < b.mem.length
            · rw [List.getElem?_append_left e2] at hy
              have hy' := h1 y (List.mem_of_getElem? hy)
              rw [this] at hxy; simp only at hxy; omega
            · omega
theorem install_rinv {s : St} (h : RInv s) (hi : Inv s) : RInv s.install := by
  unfold St.install
  cases ha : s.agreed with
  | none => exact h
  | some a =>
    unfold St.agreed at ha
    split at ha
    · have ht := agTo_top hi ha
      have hm := agTo_me hi hi.self ha
      have hl := (agTo_len ha).1
      have hn := hi.n2
      refine ⟨h.set, h.vec, h.seen, ?_, (agTo_rise ha).2, by show a.mem.length ≤ 16; omega⟩
      show a.vid = Vid.zero ↔ a.mem = []
      constructor
      · intro e
        unfold Ag.vid at e
        cases hq : a.mem with
        | nil => rfl
        | cons m r =>
          rw [hq] at e
          have : a.top + 1 = 0 := congrArg Vid.e e
          omega
      · intro e; exact absurd e hm
    · cases ha
theorem nth_set {l : List Int} {i j : Nat} {v : Int} (h : i ≠ j) : nth (l.set i v) j = nth l j := by unfold nth; rw [List.getElem?_set_ne h]
theorem nth_zeros (j : Nat) : nth zeros j = 0 := by
  unfold nth zeros; rw [List.getElem?_replicate]; split <;> rfl
theorem new_rinv {n self : Nat} {inc floor : Int} (h : newB n self inc floor = true) (hf : floor ≠ 4611686018427387904) : RInv (newSt n self inc floor) := by
  unfold newB at h
  simp only [decide_eq_true_eq] at h
  refine ⟨?_, ?_, fun q hq hv => ?_, ⟨fun _ => rfl, fun _ => rfl⟩, fun i j a b ha => by simp [newSt] at ha, by simp [newSt]⟩
  · exact pad_take (by simp [newSt, zeros]) (by show n ≤ 16; omega) fun j hj => by
      show nth (zeros.set self inc) j = 0
      rw [nth_set (by have : n ≤ j := hj; omega), nth_zeros]
  · exact pad_take (by simp [newSt, zeros]) (by show n ≤ 16; omega) fun j hj => by
      show nth (zeros.set self (floor + 1)) j = 0
      rw [nth_set (by have : n ≤ j := hj; omega), nth_zeros]
  · exact absurd (show nth (zeros.set self (floor + 1)) q = 0 by rw [nth_set (show self ≠ q from fun e => hq e.symm), nth_zeros]) hv
end Go.Proofs.Ytfbeggdbjpmppaa
namespace Go.Proofs.Ytfbeggdbjpmppaa
open Go.RowKit
section
variable {α : Type} {w w' w'' : World} {F F' : List Nat} {sz b : Nat} {o : Option Nat} {enc : α → List Value} {A : Option Addr} {l : List α}
end
structure HdR where
  h : Hd
  S : Option Addr
  cS : Nat
  V : Option Addr
  cV : Nat
abbrev prL (S : Option Addr) (cS : Nat) (V : Option Addr) (cV : Nat) (p : Pr) : List Value := [.slice S p.set.length cS, .int .i64 p.cid, .int .i64 p.rev, .int .i64 p.top, .int .i64 p.prev.e, .int .i64 p.prev.l, .int .i64 p.prev.i, .int .i64 p.prev.c, .slice V p.vec.length cV]
def eHd (r : HdR) : List Value := .int .i64 r.h.q :: .int .i64 r.h.inc :: prL r.S r.cS r.V r.cV r.h.p
structure Ptrs where
  M : Option Addr
  cM : Nat
  S : Option Addr
  cS : Nat
  V : Option Addr
  cV : Nat
  A : Option Addr
  cA : Nat
section
variable {w w' : World} {b : Nat} {F F' : List Nat} {s : St} {hs : List HdR} {X : Ptrs}
end
end Go.Proofs.Ytfbeggdbjpmppaa
namespace Go.Proofs.Ytfbeggdbjpmppaa
open Go.RowKit
theorem changing_any (b : Nat) (s : St) (M : Option Addr) (cM : Nat) (w : World) (h : AgAt w b s M cM) :
    Calls Try.prog 31 #[.pointer (some ⟨b, 0, none⟩)] w fun x w' => x = .returned (.bool s.opn) ∧ w' = w := by
  have q := h.opn
  replace h := Lib.hid h
  go_enter Try.func31, Try.ntmps31
  go_wp2
  go_ret
  exact ⟨rfl, rfl⟩
def RowN {α : Type} (w : World) (lo sz : Nat) (enc : α → List Value) (A : Option Addr) (l : List α) : Prop :=
  0 < l.length → ∃ b off, A = some ⟨b, off, none⟩ ∧ lo ≤ b ∧ b < w.heap.size ∧ ∀ k x, l[k]? = some x → ∀ j u, (enc x)[j]? = some u → w.cell? ⟨b, off + k * sz + j, none⟩ = some u
section
variable {α : Type} {w w' : World} {lo sz : Nat} {enc : α → List Value} {A : Option Addr} {l : List α}
theorem RowN.row (h : RowN w lo sz enc A l) : RowAt w w.heap.size sz enc A l := fun h0 => by
  obtain ⟨g, off, e, _, h1, h3⟩ := h h0
  exact ⟨g, off, e, h1, h3⟩
theorem RowN.below (h : RowN w lo sz enc A l) (hb : Below w.heap.size w w') : RowN w' lo sz enc A l := fun h0 => by
  obtain ⟨g, off, e, h1, h2, h3⟩ := h h0
  exact ⟨g, off, e, h1, Nat.lt_of_lt_of_le h2 hb.size, fun k x hx j u hu => (hb.cell (p := ⟨g, _, none⟩) h2).trans (h3 k x hx j u hu)⟩
theorem RowN.low {lo' : Nat} (h : RowN w lo sz enc A l) (hl : lo' ≤ lo) : RowN w lo' sz enc A l := fun h0 => by
  obtain ⟨g, off, e, h1, h2, h3⟩ := h h0
  exact ⟨g, off, e, by omega, h2, h3⟩
theorem Owns.rowN {base c : Nat} {e : TypeId} (h : Owns w base e sz enc A c l) (hsz : ∀ x, (enc x).length = sz) : RowN w base sz enc A l := fun h0 => by
  obtain ⟨g, off, e1, h1, h3⟩ := h.row hsz h0
  exact ⟨g, off, e1, (h.lo g (by rw [e1]; rfl)).1, h1, h3⟩
end
theorem info3 : (Try.prog.info? 3).map (fun i => (i.zero, i.size, i.bytes)) = some (some (.int .i64 0), 1, 8) := by kernel_rfl
theorem ints_take (l : List Int) (n : Nat) : ints (l.take n) = (ints l).take n := by unfold ints; rw [List.map_take]
theorem run_mk27 (W : World) (n : Nat) (hn : n ≤ 16) : (Instr.makeSlice 27 (.int .i64 n) (.int .i64 n)).run Try.prog W = .ok (.slice (some ⟨W.heap.size, 0, none⟩) n n) (W.alloc (.cells (madeCells #[.int .i64 0] n) 3)) := by
  obtain ⟨i, hi, hz, hs, hb⟩ := info_parts info3
  have := run_makeSlice (P := Try.prog) W 27 3 i _ Try.underlying27 hi hz .i64 .i64 n n (by omega) (by omega) (by rw [hs]; omega) (by rw [hb]; omega) (by omega)
  simpa [hs, Value.cells] using this
set_option maxRecDepth 100000 in
set_option maxHeartbeats 2000000 in
theorem list_any (l : List Int) (n : Nat) (w : World) (hl : l.length = 16) (hn : n ≤ 16) :
    Calls Try.prog 51 #[.agg (arr l), .int .i64 n] w fun x w' => ∃ A, x = .returned (.slice A n n) ∧ RowN w' w.heap.size 1 eInt A (l.take n) ∧ Below w.heap.size w w' := by
  obtain ⟨w2, hw2⟩ : ∃ w2, w2 = (w.alloc (.cells (arr l) 94)).alloc (.cells (madeCells #[.int .i64 0] n) 3) := ⟨_, rfl⟩
  have hmk := run_mk27 (w.alloc (.cells (arr l) 94)) n hn
  rw [← hw2, World.size_alloc] at hmk
  have hsrc : w2.rangeAt w.heap.size 0 (ints l) := by
    have := range_new w (arr l) 94
    rw [arr_list] at this
    rw [hw2]
    exact range_below this ((Below.refl _ _).alloc (Nat.le_refl _) _) (by simp)
  have hthere : w2.there (w.heap.size + 1) 0 n := by
    have := there_new (w.alloc (.cells (arr l) 94)) (madeCells #[.int .i64 0] n) 3
    rw [← hw2, World.size_alloc, size_madeCells] at this; exact this
  have hlt : (l.take n).length = n := List.length_take_of_le (by omega)
  have hcp : ∀ ty, (Builtin.copy_ #[27, 27] ty #[.slice (some ⟨w.heap.size + 1, 0, none⟩) n n, .slice (some ⟨w.heap.size, 0, none⟩) 16 16]).run Try.prog w2 = .ok (.int .i64 n) (w2.setCells (w.heap.size + 1) 0 (ints (l.take n))) := fun ty => by
    have := run_copy_cells (P := Try.prog) w2 27 27 ty 3 (w.heap.size + 1) 0 n n ⟨w.heap.size, 0, none⟩ 16 16 (ints (l.take n)) Try.underlying27 (by kernel_rfl) (by rw [len_ints, hlt]; exact (Nat.min_eq_right hn).symm)
      (fun j v hv => by
        rw [Addr.add_lit]
        rw [ints_take] at hv
        have hj : j < n := by have := (List.getElem?_eq_some_iff.1 hv).1; rw [List.length_take, len_ints] at this; omega
        rw [List.getElem?_take_of_lt hj] at hv
        exact hsrc j v hv)
      (fun j hj => (hthere j (by rw [len_ints, hlt] at hj; exact hj)).1) (fun j hj => (hthere j (by rw [len_ints, hlt] at hj; exact hj)).2) (one_ints _)
    rw [this, len_ints, hlt]; rfl
  have hb2 : Below w.heap.size w w2 := by rw [hw2]; exact ((Below.refl _ _).alloc (Nat.le_refl _) _).alloc (by simp) _
  have s2 : w2.heap.size = w.heap.size + 2 := by rw [hw2]; simp
  have hfin : RowN (w2.setCells (w.heap.size + 1) 0 (ints (l.take n))) w.heap.size 1 eInt (some ⟨w.heap.size + 1, 0, none⟩) (l.take n) := fun _ => by
    refine ⟨w.heap.size + 1, 0, rfl, by omega, by rw [size_sets]; omega, fun k x hx j u hu => ?_⟩
    have hr := World.rangeAt_setCells_same w2 (w.heap.size + 1) 0 (ints (l.take n)) (by rw [len_ints, hlt]; exact hthere)
    have hj : j = 0 := by have := (List.getElem?_eq_some_iff.1 hu).1; simp [eInt] at this; exact this
    subst hj
    have hu' : u = .int .i64 x := by simpa [eInt] using hu.symm
    rw [hu']
    have := rangeAt_cell hr hx
    rw [Nat.mul_one, Nat.add_zero]; exact this
  have hbf : Below w.heap.size w (w2.setCells (w.heap.size + 1) 0 (ints (l.take n))) := below_sets hb2 (by omega) _ _ (by omega)
  replace hl := Lib.hid hl
  replace hw2 := Lib.hid hw2
  replace hfin := Lib.hid hfin
  replace hbf := Lib.hid hbf
  clear hsrc hthere hlt hb2
  go_enter Try.func51, Try.ntmps51
  go_wp2
  go_ret
  exact ⟨_, rfl, hfin.out, hbf.out⟩
end Go.Proofs.Ytfbeggdbjpmppaa
namespace Go.Proofs.Ytfbeggdbjpmppaa
open Go.RowKit
abbrev viewA (v : Vid) (A : Option Addr) (n c : Nat) : Array Value := #[.int .i64 v.e, .int .i64 v.l, .int .i64 v.i, .int .i64 v.c, .slice A n c]
abbrev mbZ : Value := .agg #[.int .i64 0, .int .i64 0, .int .i64 0]
theorem info43 : (Try.prog.info? 43).map (fun i => (i.zero, i.size, i.bytes)) = some (some mbZ, 3, 24) := by kernel_rfl
structure ViAt (w : World) (b : Nat) (v : Vid) (A : Option Addr) (n c : Nat) : Prop where
  ce : w.cell? ⟨b, 0, none⟩ = some (.int .i64 v.e)
  cl : w.cell? ⟨b, 1, none⟩ = some (.int .i64 v.l)
  ci : w.cell? ⟨b, 2, none⟩ = some (.int .i64 v.i)
  cc : w.cell? ⟨b, 3, none⟩ = some (.int .i64 v.c)
  cm : w.cell? ⟨b, 4, none⟩ = some (.slice A n c)
  there : w.there b 0 5
theorem ViAt.same {w w' : World} {b : Nat} {v : Vid} {A : Option Addr} {n c : Nat} (h : ViAt w b v A n c) (hb : w'.heap[b]? = w.heap[b]?) : ViAt w' b v A n c := by
  have hc : ∀ o, w'.cell? ⟨b, o, none⟩ = w.cell? ⟨b, o, none⟩ := fun o => World.cell?_of_block hb
  have hf : ∀ o, w'.frozen? ⟨b, o, none⟩ = w.frozen? ⟨b, o, none⟩ := fun o => World.frozen?_of_block hb
  exact ⟨(hc _).trans h.ce, (hc _).trans h.cl, (hc _).trans h.ci, (hc _).trans h.cc, (hc _).trans h.cm, fun j hj => by rw [hc, hf]; exact h.there j hj⟩
theorem ViAt.new (w : World) (v : Vid) (A : Option Addr) (n c : Nat) (t : TypeId) : ViAt (w.alloc (.cells (viewA v A n c) t)) w.heap.size v A n c := by
  have h := range_new w (viewA v A n c) t
  exact ⟨h 0 _ rfl, h 1 _ rfl, h 2 _ rfl, h 3 _ rfl, h 4 _ rfl, there_new w (viewA v A n c) t⟩
theorem ViAt.setM {w : World} {b : Nat} {v : Vid} {A : Option Addr} {n c : Nat} (h : ViAt w b v A n c) (A' : Option Addr) (n' c' : Nat) : ViAt (w.setCell ⟨b, 4, none⟩ (.slice A' n' c')) b v A' n' c' := by
  show ViAt (w.setCells b 4 [.slice A' n' c']) _ _ _ _ _
  have hv : ([.slice A' n' c'] : List Value).length = 1 := rfl
  exact ⟨cell_out h.ce (by omega), cell_out h.cl (by omega), cell_out h.ci (by omega), cell_out h.cc (by omega), cell_in (i := 0) h.there (by omega) rfl, World.there_setCells h.there b _ _⟩
theorem ViAt.setAll {w : World} {b : Nat} {v : Vid} {A : Option Addr} {n c : Nat} (h : ViAt w b v A n c) (v' : Vid) (A' : Option Addr) (n' c' : Nat) : ViAt (w.setCells b 0 (viewA v' A' n' c').toList) b v' A' n' c' := by
  have hr := World.rangeAt_setCells_same w b 0 (viewA v' A' n' c').toList h.there
  exact ⟨hr 0 _ rfl, hr 1 _ rfl, hr 2 _ rfl, hr 3 _ rfl, hr 4 _ rfl, World.there_setCells h.there b _ _⟩
theorem ViAt.frozen {w : World} {b : Nat} {v : Vid} {A : Option Addr} {n c : Nat} (h : ViAt w b v A n c) {j : Nat} (hj : j < 5) : w.frozen? ⟨b, j, none⟩ = false := there_frozen h.there hj
theorem ViAt.load {w : World} {b : Nat} {v : Vid} {A : Option Addr} {n c : Nat} (h : ViAt w b v A n c) : (loadVar 46 ⟨b, 0, none⟩).run Try.prog w = .ok (.agg (viewA v A n c)) w := by
  obtain ⟨h0, h1, h2, h3, h4, _⟩ := h
  go_simp
theorem size46 : (Try.prog.info? 46).map (·.size) = some 5 := by kernel_rfl
section
variable {P : Program} {ops : Array Oper} {rest : List Oper} {op : Oper} {a : Act} {w : World} {Q : Exit → Act → World → Prop}
theorem wpList_loadR (hgd : op.guard = none) (ty : TypeId) (x : Operand) (ho : op.op = .load ty x) (b off : Nat) (hx : a.eval x = .pointer (some ⟨b, off, none⟩)) (v : Value) (hr : (loadVar ty ⟨b, off, none⟩).run P w = .ok v w)
    (h : wpList P ops Q rest (a.put op.dst v) w) : wpList P ops Q (op :: rest) a w := by
  refine wpList_plain hgd fun _ hK => ?_
  unfold Oper.wp execOp
  simp only [ho, hx, Instr.loadAt, Instr.sureAddr, Sem.run_bind, Sem.run_pure, Result.andThen_ok, hr]
  exact hK _ _ h
theorem one_viewA (v : Vid) (A : Option Addr) (n c : Nat) : (viewA v A n c).all (·.oneCell') = true := by
  refine all_oneCell_toArray (cs := [.int .i64 v.e, .int .i64 v.l, .int .i64 v.i, .int .i64 v.c, .slice A n c]) fun u hu => ?_
  simp at hu; rcases hu with rfl | rfl | rfl | rfl | rfl <;> rfl
theorem wpList_store46 (hgd : op.guard = none) (x y : Operand) (ho : op.op = .store 46 x y) (b off : Nat) (hx : a.eval x = .pointer (some ⟨b, off, none⟩)) (v : Vid) (A : Option Addr) (n c : Nat) (hy : a.eval y = .agg (viewA v A n c)) (ht : w.there b off 5)
    (h : ∀ w', Hid (w' = w.setCells b off (viewA v A n c).toList) → wpList Try.prog ops Q rest (a.put op.dst undef) w') : wpList Try.prog ops Q (op :: rest) a w :=
  wpList_store_mid hgd 46 x y ho b off (viewA v A n c) hx hy ht (by rw [size46]; rfl) (one_viewA v A n c) (h _ (Lib.hid rfl))
end
set_option maxRecDepth 100000 in
set_option maxHeartbeats 4000000 in
theorem view_any (b : Nat) (s : St) (M : Option Addr) (cM N : Nat) (w : World) (h : AgAt w b s M cM) (hb : b < w.heap.size) (hN : N ≤ w.heap.size) (hM : RowAt w N 3 eMb M s.mem) (hl : s.mem.length ≤ 16) :
    Calls Try.prog 22 #[.pointer (some ⟨b, 0, none⟩)] w fun x w' => ∃ A c, x = .returned (.agg (viewA s.vid A s.mem.length c)) ∧ RowN w' w.heap.size 3 eMb A s.mem ∧ Below w.heap.size w w' := by
  obtain ⟨w1, hw1⟩ : ∃ w1, w1 = w.alloc (.cells (viewA Vid.zero none 0 0) 46) := ⟨_, rfl⟩
  have s1 : w1.heap.size = w.heap.size + 1 := by rw [hw1, World.size_alloc]
  obtain ⟨w2, hw2⟩ : ∃ w2, w2 = w1.alloc (.cells (viewA s.vid none 0 0) 46) := ⟨_, rfl⟩
  have s2 : w2.heap.size = w.heap.size + 2 := by rw [hw2, World.size_alloc, s1]
  have v2 : ViAt w2 (w.heap.size + 1) s.vid none 0 0 := by have := ViAt.new w1 s.vid none 0 0 46; rw [← hw2, s1] at this; exact this
  have v1 : ViAt w2 w.heap.size Vid.zero none 0 0 := by
    have := ViAt.new w Vid.zero none 0 0 46
    rw [← hw1] at this
    exact this.same (by rw [hw2]; exact heap_alloc_old _ _ (by omega))
  have hb2 : Below w.heap.size w w2 := by rw [hw2, hw1]; exact below_box2 _ _ _ _ _
  have q0 := h.ve
  have q1 := h.vl
  have q2 := h.vi
  have q3 := h.vc
  have h2 := h.same (hb2.block b hb)
  have q4 := h2.mem
  have q5 := v2.cm
  have hW2 := Lib.hid (show w2 = (w.alloc (.cells (viewA Vid.zero none 0 0) 46)).alloc (.cells (viewA s.vid none 0 0) 46) by rw [hw2, hw1])
  replace h2 := Lib.hid h2
  clear hw1 hw2
  replace v1 := Lib.hid v1
  replace v2 := Lib.hid v2
  go_enter Try.func22, Try.ntmps22
  go_wp2
  rw [← hW2.out]
  go_still_tail 7, (by kernel_rfl)
  change wpList _ _ _ _ _ w2.drew
  go_wp2_with (first
    | (refine wpList_append_rows _ rfl (.tmp 11) (.tmp 16) 44 rfl w.heap.size 43 3 24 mbZ Try.underlying44 info43 (by rfl) (by omega) eMb len_eMb one_eMb none 0 [] M cM N 0 s.mem.length s.mem (by rfl) (by rfl) rfl rfl (owns_nil _ _ _ _ _) (hM.below (Below.drew hb2) hN) (by omega) (by omega) (by show _ ≤ w2.heap.size; omega) ?_
       intro A' c' w5 ho hg hblk
       have s5 : w2.heap.size ≤ w5.heap.size := hg.size
       have v25 := v2.out.same (hg.block _ (by show _ < w2.heap.size; omega) (by simp [blk]))
       have v15 := v1.out.same (hg.block _ (by show _ < w2.heap.size; omega) (by simp [blk]))
       rw [Nat.zero_add]
       rw [List.nil_append] at ho
       clear q5
       have k1 := v25.cm
       have k2 := v25.frozen (j := 4) (by omega)
       have v26 := v25.setM A' s.mem.length c'
       have v16 := v15.same (Below.heap_setCell w5 ⟨w.heap.size + 1, 4, none⟩ (.slice A' s.mem.length c') w.heap.size (by show w.heap.size ≠ w.heap.size + 1; omega))
       replace v25 := Lib.hid v25
       replace v15 := Lib.hid v15
       replace v26 := Lib.hid v26
       replace v16 := Lib.hid v16
       replace ho := Lib.hid ho
       replace hg := Lib.hid hg
       replace hblk := Lib.hid hblk)
    | (refine wpList_loadR rfl 46 (.tmp 3) rfl (w.heap.size + 1) 0 (by rfl) _ v26.out.load ?_)
    | (refine wpList_store46 rfl (.tmp 2) (.tmp 19) rfl w.heap.size 0 (by rfl) s.vid A' s.mem.length c' (by rfl) v16.out.there ?_; intro w7 hw7)
    | fail)
  have v7 := v16.out.setAll s.vid A' s.mem.length c'
  rw [← hw7.out] at v7
  have hb5 : Below w.heap.size w w5 := by
    refine (Below.drew hb2).grown hg.out (by show _ ≤ w2.heap.size; omega) ?_
    intro k hk; cases hk
  have s26 : (w5.setCell ⟨w.heap.size + 1, 4, none⟩ (.slice A' s.mem.length c')).heap.size = w5.heap.size := World.size_setCell _ _ _
  have hb7 : Below w.heap.size w w7 := by rw [hw7.out]; exact below_sets (hb5.setCell (by show _ ≤ w.heap.size + 1; omega) _) (Nat.le_refl _) _ _ (by rw [s26]; omega)
  have ho7 : Owns w7 w.heap.size 43 3 eMb A' c' s.mem := by
    have h1 : ∀ k, blk A' = some k → w2.heap.size ≤ k := fun k hk => by
      rcases hblk.out with e | e
      · rw [e] at hk; cases hk
      · rw [e] at hk; injection hk with hk; have : w2.drew.heap.size = w2.heap.size := rfl; omega
    have hne : ∀ g, g < w2.heap.size → blk A' = none ∨ blk A' ≠ some g := fun g hg => by
      right; intro e; have := h1 g e; omega
    rw [hw7.out]
    exact (ho.out.kept (grown_cell w5 (w.heap.size + 1) 4 _) (hne _ (by omega))).kept (grown_sets w.heap.size _ 0 _) (hne _ (by omega))
  exact bodyPost_ret (res_cell (p := 2) (ty := 46) rfl rfl v7.load) rfl ⟨A', ⟨c', rfl⟩, ho7.rowN len_eMb, hb7⟩
end Go.Proofs.Ytfbeggdbjpmppaa
namespace Go.Proofs.Ytfbeggdbjpmppaa
open Go.RowKit
section
variable {P : Program} (w : World)
theorem wp_append_rows {α : Type} {o : Oper} {a : Act} {K : Act → World → Prop} {Q : Exit → Act → World → Prop} (s x : Operand) (t : TypeId)
    (ho : o.op = .call { callee := .builtin .append, args := #[s, x], argTypes := #[t, t] })
    (base : Nat) (e : TypeId) (sz bytes : Nat) (z : Value) (ht : P.underlying t = some (.slice e)) (hinfo : (P.info? e).map (fun i => (i.zero, i.size, i.bytes)) = some (some z, sz, bytes))
    (hzs : z.cells.size = sz) (hsz : 0 < sz) (enc : α → List Value) (henc : ∀ x, (enc x).length = sz) (hone : ∀ x, ∀ u ∈ enc x, u.oneCell' = true)
    (A : Option Addr) (c : Nat) (xs : List α) (B : Option Addr) (cB N n m : Nat) (l : List α) (hs : a.eval s = .slice A n c) (hx : a.eval x = .slice B m cB)
    (hn : xs.length = n) (hm : l.length = m)
    (hown : Owns w base e sz enc A c xs) (hr : RowAt w N sz enc B l)
    (h63 : n + m ≤ 9223372036854775807) (hbytes : (n + m) * bytes ≤ 140737488355328) (hbase : base ≤ w.heap.size)
    (h : ∀ A' c' w', Owns w' base e sz enc A' c' (xs ++ l) → w.grownBy w' (blk A) → (blk A' = blk A ∨ blk A' = some w.heap.size) → K (a.put o.dst (.slice A' (n + m) c')) w') : o.wp P a w K Q := by
  subst hn hm
  obtain ⟨i, hi, hz, hsize, hby⟩ := info_parts hinfo
  have key : ∃ v' w', (Builtin.append_ #[t, t] o.type #[.slice A xs.length c, .slice B l.length cB]).run P w = .ok v' w' ∧ w'.ownsRow base e sz v' (xs.length + l.length) ((xs ++ l).flatMap enc) ∧ w.grownBy w' (blk A) ∧ (v'.ownBlock = blk A ∨ v'.ownBlock = some w.heap.size) := by
    by_cases h0 : 0 < l.length
    · obtain ⟨b, off, rfl, hb, hc⟩ := hr h0
      obtain ⟨v', w', h1, h2, h3, _, h5⟩ := run_append_own_at (P := P) w base t o.type e i z sz bytes ht hi hz hsize hby hzs hsz (.slice A xs.length c) xs.length _ hown ⟨b, off, none⟩ l.length cB (l.flatMap enc)
        (length_flat henc l) (fun j u hu => by
          obtain ⟨k, r, x, hk, hr', rfl⟩ := flatMap_of henc l j u hu
          have := hc k x hk r u hr'
          by_cases hz0 : k * sz + r = 0
          · rw [hz0]; simp only [Addr.add, if_true]
            have e0 : off + k * sz + r = off := by omega
            rw [e0] at this; exact this
          · simp only [Addr.add, if_neg hz0]
            rw [← Nat.add_assoc]; exact this)
        (fun u hu => by obtain ⟨x, _, hux⟩ := List.mem_flatMap.1 hu; exact hone x u hux) h63 hbytes hbase
      rw [own_blk] at h3 h5
      exact ⟨v', w', h1, by rw [List.flatMap_append]; exact h2, h3, h5⟩
    · have hl : l = [] := List.eq_nil_of_length_eq_zero (by omega)
      subst hl
      cases B with
      | none =>
        refine ⟨.slice A xs.length c, w, ?_, by simp only [List.length_nil, Nat.add_zero, List.append_nil]; exact hown, World.grownBy.refl w _, .inl (own_blk _ _ _)⟩
        rcases hown.2 with ⟨hv, _⟩ | ⟨g, cap, cur, hv, _, _, hnc, _⟩
        · rw [hv]; simp [Builtin.append_, run_underlying ht, sizeOf, typeInfo, hi, Builtin.lenOf, Builtin.firstCells]
        · rw [hv]; simp [Builtin.append_, run_underlying ht, sizeOf, typeInfo, hi, Builtin.lenOf, Builtin.firstCells, hnc, storeCells]
      | some ad =>
        obtain ⟨v', w', h1, h2, h3, _, h5⟩ := run_append_own_at (P := P) w base t o.type e i z sz bytes ht hi hz hsize hby hzs hsz (.slice A xs.length c) xs.length _ hown ad 0 cB []
          (by simp) (fun j u hu => by simp at hu) (fun u hu => by simp at hu) h63 hbytes hbase
        rw [own_blk] at h3 h5
        exact ⟨v', w', h1, by simpa using h2, h3, h5⟩
  obtain ⟨v', w', hrun, h2, h3, h4⟩ := key
  have hv : ∃ A' c', v' = .slice A' (xs.length + l.length) c' := by
    rcases h2.2 with ⟨hv, h0⟩ | ⟨g, cap, cur, hv, _⟩
    · exact ⟨none, 0, by rw [hv, h0]⟩
    · exact ⟨_, _, hv⟩
  obtain ⟨A', c', rfl⟩ := hv
  rw [own_blk] at h4
  unfold Oper.wp execOp
  simp only [ho, resolve, invoke, builtin, Sem.run_bind, Sem.run_pure, Result.andThen_ok, List.map_toArray, List.map_cons, List.map_nil, hs, hx, hrun]
  exact (h A' c' w' (by unfold Owns; rw [List.length_append]; exact h2) h3 h4)
end
end Go.Proofs.Ytfbeggdbjpmppaa
namespace Go.Proofs.Ytfbeggdbjpmppaa
open Go.RowKit
theorem build98 (w : World) (inc : Int) (t : Wish) (hl : WLen t) : (Instr.build 98 #[(0, .int .i64 inc), (1, .agg (wishA t))]).run Try.prog w = .ok (.agg (ltA ⟨inc, t⟩)) w := by
  obtain ⟨⟨set, vec, c, r, tp, ⟨pe, pl, pi, pc⟩⟩, h1, h2⟩ : ∃ x : Wish, x = t ∧ WLen x := ⟨t, rfl, hl⟩
  subst h1
  obtain ⟨l1, l2⟩ := h2
  dsimp only at l1 l2
  obtain ⟨a0, a1, a2, a3, a4, a5, a6, a7, a8, a9, a10, a11, a12, a13, a14, a15, rfl⟩ : ∃ a0 a1 a2 a3 a4 a5 a6 a7 a8 a9 a10 a11 a12 a13 a14 a15, set = [a0, a1, a2, a3, a4, a5, a6, a7, a8, a9, a10, a11, a12, a13, a14, a15] := by
    match set, l1 with
    | [a0, a1, a2, a3, a4, a5, a6, a7, a8, a9, a10, a11, a12, a13, a14, a15], _ => exact ⟨_, _, _, _, _, _, _, _, _, _, _, _, _, _, _, _, rfl⟩
  obtain ⟨b0, b1, b2, b3, b4, b5, b6, b7, b8, b9, b10, b11, b12, b13, b14, b15, rfl⟩ : ∃ a0 a1 a2 a3 a4 a5 a6 a7 a8 a9 a10 a11 a12 a13 a14 a15, vec = [a0, a1, a2, a3, a4, a5, a6, a7, a8, a9, a10, a11, a12, a13, a14, a15] := by
    match vec, l2 with
    | [a0, a1, a2, a3, a4, a5, a6, a7, a8, a9, a10, a11, a12, a13, a14, a15], _ => exact ⟨_, _, _, _, _, _, _, _, _, _, _, _, _, _, _, _, rfl⟩
  clear hl
  kernel_rfl
theorem run_loadVar98 (w : World) (b o : Nat) (t : Lt) (hc : w.rangeAt b o (ltL t)) (hl : WLen t.w) : (loadVar 98 ⟨b, o, none⟩).run Try.prog w = .ok (.agg (ltA t)) w :=
  run_loadVar_mid w b o 98 (ltL t) _ hc Try.underlying98 rfl (by rw [size98, len_ltL hl.l1 hl.l2])
theorem wp_store98 {o : Oper} {a : Act} {w : World} {K : Act → World → Prop} {Q : Exit → Act → World → Prop} (x y : Operand) (ho : o.op = .store 98 x y) (hd : o.dst = none) (b off : Nat) (hx : a.eval x = .pointer (some ⟨b, off, none⟩)) (t : Lt) (hy : a.eval y = .agg (ltA t))
    (ht : w.there b off 40) (hl : WLen t.w) (h : ∀ w', Hid (w' = w.setCells b off (ltL t)) → K a w') : o.wp Try.prog a w K Q := by
  have hs : (ltA t).size = 40 := by unfold ltA; rw [List.size_toArray, len_ltL hl.l1 hl.l2]
  exact wp_store_mid 98 x y ho b off (ltA t) hx hy (by rw [hs]; exact ht) (by rw [size98, hs]) (all_oneCell_toArray (one_ltL t)) (by rw [hd]; exact h _ (Lib.hid rfl))
theorem there_new98 (w : World) (t : Lt) (hl : WLen t.w) : (w.alloc (.cells (ltA t) 98)).there w.heap.size 0 40 := by
  have := there_new w (ltA t) 98
  rwa [show (ltA t).size = 40 by unfold ltA; rw [List.size_toArray, len_ltL hl.l1 hl.l2]] at this
structure LVar (w : World) (b : Nat) (t : Lt) : Prop where
  rng : w.rangeAt b 0 (ltL t)
  there : w.there b 0 40
  len : WLen t.w
theorem LVar.same {w w' : World} {b : Nat} {t : Lt} (h : LVar w b t) (hb : w'.heap[b]? = w.heap[b]?) : LVar w' b t := by
  have hc : ∀ o, w'.cell? ⟨b, o, none⟩ = w.cell? ⟨b, o, none⟩ := fun o => World.cell?_of_block hb
  have hf : ∀ o, w'.frozen? ⟨b, o, none⟩ = w.frozen? ⟨b, o, none⟩ := fun o => World.frozen?_of_block hb
  exact ⟨fun j u hu => (hc _).trans (h.rng j u hu), fun j hj => by rw [hc, hf]; exact h.there j hj, h.len⟩
theorem LVar.below {w w' : World} {b N : Nat} {t : Lt} (h : LVar w b t) (hb : Below N w w') (hN : b < N) : LVar w' b t := h.same (hb.block b hN)
theorem LVar.put {w : World} {b : Nat} {t : Lt} (h : w.there b 0 40) (hl : WLen t.w) : LVar (w.setCells b 0 (ltL t)) b t := by
  have e := len_ltL hl.l1 hl.l2
  exact ⟨World.rangeAt_setCells_same w b 0 _ (by rw [e]; exact h), World.there_setCells h b _ _, hl⟩
theorem WVar.same {w w' : World} {b : Nat} {t : Wish} (h : WVar w b t) (hb : w'.heap[b]? = w.heap[b]?) : WVar w' b t := by
  have hc : ∀ o, w'.cell? ⟨b, o, none⟩ = w.cell? ⟨b, o, none⟩ := fun o => World.cell?_of_block hb
  have hf : ∀ o, w'.frozen? ⟨b, o, none⟩ = w.frozen? ⟨b, o, none⟩ := fun o => World.frozen?_of_block hb
  exact ⟨fun j u hu => (hc _).trans (h.rng j u hu), fun j hj => by rw [hc, hf]; exact h.there j hj, h.len⟩
theorem WVar.cells {w : World} {b : Nat} {t : Wish} (h : WVar w b t) :
    w.rangeAt b 0 (ints t.set) ∧ w.rangeAt b 16 (ints t.vec) ∧ w.cell? ⟨b, 32, none⟩ = some (.int .i64 t.cid) ∧ w.cell? ⟨b, 33, none⟩ = some (.int .i64 t.rev) ∧ w.cell? ⟨b, 34, none⟩ = some (.int .i64 t.top) ∧
    w.cell? ⟨b, 35, none⟩ = some (.int .i64 t.prev.e) ∧ w.cell? ⟨b, 36, none⟩ = some (.int .i64 t.prev.l) ∧ w.cell? ⟨b, 37, none⟩ = some (.int .i64 t.prev.i) ∧ w.cell? ⟨b, 38, none⟩ = some (.int .i64 t.prev.c) := by
  obtain ⟨h1, h2, h3, h4, h5, h6, h7, h8, h9⟩ := (wish_parts h.len.l1 h.len.l2).1 h.rng
  exact ⟨h1, h2, h3, h4, h5, h6, h7, h8, h9⟩
theorem put_back {s : St} {q : Nat} {inc : Int} {w : Wish} (hq : s.oth[q]? = some (s.lt q)) : (s.put q inc w).put q (s.lt q).inc (s.lt q).w = s := by
  unfold St.put
  rw [List.set_set]
  have : s.oth.set q ⟨(s.lt q).inc, (s.lt q).w⟩ = s.oth := by
    apply List.ext_getElem?
    intro j
    by_cases e : j = q
    · subst e; rw [List.getElem?_set_self (List.getElem?_eq_some_iff.1 hq).1, hq]
    · rw [List.getElem?_set_ne (fun e2 => e e2.symm)]
  show { s with oth := s.oth.set q ⟨(s.lt q).inc, (s.lt q).w⟩ } = s
  rw [this]
section
variable {ops : Array Oper} {S : World → Prop} {K : Act → Prop} {o : Oper} {rest : List Oper} {a : Act}
theorem wpQuiet_build98 (hw : Region.wanted o (yielded ops a.tmps) = true) (x y : Operand) (ho : o.op = .build 98 #[(0, x), (1, y)]) (inc : Int) (t : Wish) (hx : a.eval x = .int .i64 inc) (hy : a.eval y = .agg (wishA t)) (hl : WLen t)
    (h : wpQuiet Try.prog ops S K rest (a.put o.dst (.agg (ltA ⟨inc, t⟩)))) : wpQuiet Try.prog ops S K (o :: rest) a := by
  refine wpQuiet_step fun K hK => ?_
  rw [if_pos hw]
  refine ⟨.agg (ltA ⟨inc, t⟩), ?_, hK _ h⟩
  intro w' hw'
  unfold Oper.quietAt execOp
  simp only [ho, List.map_toArray, List.map_cons, List.map_nil, hx, hy, Sem.run_bind, build98 w' inc t hl, Result.andThen_ok, Sem.run_pure]
  exact ⟨rfl, rfl⟩
end
end Go.Proofs.Ytfbeggdbjpmppaa
