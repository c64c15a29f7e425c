/- CrA CrB, joined. -/
import Derived.Test.YtoilipfgimcoiaaOe12
set_option linter.unusedVariables false
set_option linter.unusedSimpArgs false
namespace Go.Proofs.Ytoilipfgimcoiaa
open Go Go.RowKit
def pidN (i : Nat) : Nat := 3 * i + 1
def pidsN (n : Nat) : List Nat := (List.range n).map pidN
def vdC : Vd := ⟨5, 1, 2, 3⟩
theorem pidN_inj {i j : Nat} (h : pidN i = pidN j) : i = j := by unfold pidN at h; omega
def cnt (s : Nat) (l : List Sl) : Nat := l.countP fun x => decide (x.s = s)
theorem cnt_nil (s : Nat) : cnt s [] = 0 := rfl
theorem cnt_app (s : Nat) (l m : List Sl) : cnt s (l ++ m) = cnt s l + cnt s m := List.countP_append
theorem cnt_one (s : Nat) (x : Sl) : cnt s [x] = if x.s = s then 1 else 0 := by
  unfold cnt
  by_cases h : x.s = s <;> simp [h]
theorem cnt_le (s : Nat) (l : List Sl) : cnt s l ≤ l.length := List.countP_le_length
theorem cnt_mono (s : Nat) (l : List Sl) {a b : Nat} (h : a ≤ b) : cnt s (l.take a) ≤ cnt s (l.take b) := by
  have e : l.take b = l.take a ++ (l.take b).drop a := by
    have := (List.take_append_drop a (l.take b)).symm
    rwa [List.take_take, Nat.min_eq_left h] at this
  rw [e, cnt_app]; omega
theorem take_one {α : Type} {l : List α} {k : Nat} {x : α} (h : l[k]? = some x) : l.take (k + 1) = l.take k ++ [x] := by rw [List.take_add_one, h]; rfl
theorem take_app {α : Type} {l m : List α} {k : Nat} (h : k ≤ l.length) : (l ++ m).take k = l.take k := List.take_append_of_le_length h
structure SeqOk (n : Nat) (L : List Sl) : Prop where
  s : ∀ x ∈ L, ∃ j, j < n ∧ x.s = pidN j
  q : ∀ (p : Nat) (x : Sl), L[p]? = some x → x.q = cnt x.s (L.take p) + 1
theorem SeqOk.nil (n : Nat) : SeqOk n [] := ⟨fun _ h => (List.not_mem_nil h).elim, fun p x h => by simp at h⟩
theorem SeqOk.left {n : Nat} {L M : List Sl} (h : SeqOk n (L ++ M)) : SeqOk n L :=
  ⟨fun x hx => h.s x (List.mem_append_left _ hx), fun p x hx => by
    have hp := (List.getElem?_eq_some_iff.1 hx).1
    have := h.q p x (by rw [List.getElem?_append_left hp]; exact hx)
    rwa [take_app (by omega)] at this⟩
theorem SeqOk.snoc {n : Nat} {L : List Sl} (h : SeqOk n L) {j : Nat} (hj : j < n) : SeqOk n (L ++ [⟨pidN j, cnt (pidN j) L + 1⟩]) :=
  ⟨fun x hx => by
    rcases List.mem_append.1 hx with hx | hx
    · exact h.s x hx
    · rw [List.mem_singleton.1 hx]; exact ⟨j, hj, rfl⟩, fun p x hx => by
    by_cases hp : p < L.length
    · rw [List.getElem?_append_left hp] at hx
      rw [take_app (by omega)]; exact h.q p x hx
    · rw [List.getElem?_append_right (by omega)] at hx
      have hp0 := (List.getElem?_eq_some_iff.1 hx).1
      simp at hp0
      obtain rfl : p = L.length := by omega
      rw [Nat.sub_self] at hx
      injection hx with hx
      subst hx
      rw [take_app (by omega), List.take_length]⟩
theorem SeqOk.qle {n : Nat} {L : List Sl} (h : SeqOk n L) {x : Sl} (hx : x ∈ L) : 1 ≤ x.q ∧ x.q ≤ cnt x.s L ∧ x.q ≤ L.length := by
  obtain ⟨p, hp⟩ := List.mem_iff_getElem?.1 hx
  have h1 := h.q p x hp
  have h2 := (List.getElem?_eq_some_iff.1 hp).1
  have h3 : cnt x.s (L.take (p + 1)) ≤ cnt x.s (L.take L.length) := cnt_mono _ _ (by omega)
  rw [take_one hp, cnt_app, cnt_one, if_pos rfl, List.take_length] at h3
  have := cnt_le x.s L
  omega
theorem SeqOk.at {n : Nat} {L : List Sl} (h : SeqOk n L) {p p' : Nat} {x : Sl} (h1 : L[p]? = some x) (h2 : L[p']? = some x) : p = p' := by
  have key : ∀ a b : Nat, a < b → L[a]? = some x → L[b]? = some x → False := fun a b hab ha hb => by
    have e1 := h.q a x ha
    have e2 := h.q b x hb
    have e3 : cnt x.s (L.take (a + 1)) ≤ cnt x.s (L.take b) := cnt_mono _ _ (by omega)
    rw [take_one ha, cnt_app, cnt_one, if_pos rfl] at e3
    omega
  rcases Nat.lt_trichotomy p p' with h3 | h3 | h3
  · exact (key _ _ h3 h1 h2).elim
  · exact h3
  · exact (key _ _ h3 h2 h1).elim
theorem SeqOk.all {n : Nat} {L : List Sl} (h : SeqOk n L) {s : Nat} : ∀ (k : Nat) (q : Nat), k ≤ L.length → 1 ≤ q → q ≤ cnt s (L.take k) → ⟨s, q⟩ ∈ L.take k
  | 0, q, _, h1, h2 => by rw [List.take_zero, cnt_nil] at h2; omega
  | k + 1, q, hk, h1, h2 => by
    obtain ⟨x, hx⟩ : ∃ x, L[k]? = some x := ⟨_, List.getElem?_eq_getElem (by omega)⟩
    have e := h.q k x hx
    rw [take_one hx] at h2 ⊢
    rw [cnt_app, cnt_one] at h2
    by_cases hq : q ≤ cnt s (L.take k)
    · exact List.mem_append_left _ (h.all k q (by omega) h1 hq)
    · by_cases hs : x.s = s
      · rw [if_pos hs] at h2
        rw [hs] at e
        refine List.mem_append_right _ (List.mem_singleton.2 ?_)
        obtain ⟨a, b⟩ := x
        simp at hs e
        simp; omega
      · rw [if_neg hs] at h2; omega
theorem SeqOk.sum {n : Nat} (hn : n ≤ 4) : ∀ L : List Sl, (∀ x ∈ L, ∃ j, j < n ∧ x.s = pidN j) → L.length = cnt 1 L + cnt 4 L + cnt 7 L + cnt 10 L
  | [], _ => rfl
  | x :: L, h => by
    have ih := SeqOk.sum hn L fun y hy => h y (List.mem_cons_of_mem _ hy)
    obtain ⟨j, hj, hx⟩ := h x List.mem_cons_self
    have e : ∀ s, cnt s (x :: L) = (if x.s = s then 1 else 0) + cnt s L := fun s => by
      rw [← cnt_one, ← cnt_app]; rfl
    rw [e 1, e 4, e 7, e 10, List.length_cons, ih, hx]
    unfold pidN
    obtain rfl | rfl | rfl | rfl : j = 0 ∨ j = 1 ∨ j = 2 ∨ j = 3 := by omega
    all_goals simp; try omega
structure MI (n win : Nat) (G : List Sl) (sent : Nat → List (List Int)) (i : Nat) (o : Os) : Prop where
  id : o.id = vdC
  mem : o.mem = pidsN n
  self : o.self = pidN i
  win : o.win = win
  kg : o.known ≤ G.length
  pd : o.pre ≤ o.done
  dk : o.done ≤ o.known
  sl : o.slots = (G.take o.known).drop o.pre
  pl : ∀ s, o.placed s = cnt s (G.take o.known)
  gn : ∀ s, o.gone s = cnt s (G.take o.pre)
  tk : ∀ j, j < n → o.taken (pidN j) ≤ (sent j).length
  tz : ∀ s, (∀ j, j < n → s ≠ pidN j) → o.taken s = 0
  he : ∀ d ∈ o.held, d.sl ∉ G.take o.pre ∧ ∃ j, j < n ∧ d.s = pidN j ∧ 1 ≤ d.q ∧ d.q ≤ o.taken d.s ∧ (sent j)[d.q - 1]? = some d.b
  hh : ∀ j q, j < n → 1 ≤ q → q ≤ o.taken (pidN j) → ⟨pidN j, q⟩ ∉ G.take o.pre → ∃ d ∈ o.held, d.sl = ⟨pidN j, q⟩
  nd : (o.held.map Dt.sl).Nodup
  mine : o.mine = cnt (pidN i) (G.take o.done)
  dl : ∀ x ∈ G.take o.done, x.q ≤ o.taken x.s
section
variable {n win : Nat} {G : List Sl} {sent : Nat → List (List Int)} {i : Nat} {o : Os}
theorem pref_get {α : Type} {l m : List α} (h : l <+: m) {k : Nat} {x : α} (hx : l[k]? = some x) : m[k]? = some x := by
  obtain ⟨t, rfl⟩ := h
  rw [List.getElem?_append_left (List.getElem?_eq_some_iff.1 hx).1]; exact hx
theorem MI.more (h : MI n win G sent i o) (L : List Sl) {sent' : Nat → List (List Int)} (hs : ∀ j, j < n → sent j <+: sent' j) : MI n win (G ++ L) sent' i o := by
  have k1 := h.kg
  have k2 := h.dk
  have k3 := h.pd
  have e1 : (G ++ L).take o.known = G.take o.known := take_app (by omega)
  have e2 : (G ++ L).take o.pre = G.take o.pre := take_app (by omega)
  have e3 : (G ++ L).take o.done = G.take o.done := take_app (by omega)
  refine ⟨h.id, h.mem, h.self, h.win, by rw [List.length_append]; omega, h.pd, h.dk, by rw [e1]; exact h.sl, by rw [e1]; exact h.pl, by rw [e2]; exact h.gn, fun j hj => Nat.le_trans (h.tk j hj) (hs j hj).length_le, h.tz, by
    rw [e2]
    intro d hd
    obtain ⟨h1, j, hj, h2, h3, h4, h5⟩ := h.he d hd
    exact ⟨h1, j, hj, h2, h3, h4, pref_get (hs j hj) h5⟩, by rw [e2]; exact h.hh, h.nd, by rw [e3]; exact h.mine, by rw [e3]; exact h.dl⟩
theorem MI.slot (h : MI n win G sent i o) (k : Nat) (hk : o.pre + k < o.known) : o.slots[k]? = G[o.pre + k]? := by
  rw [h.sl, List.getElem?_drop, List.getElem?_take_of_lt hk]
theorem MI.rise1 (h : MI n win G sent i o) (hp : o.pre < o.done) : MI n win G sent i o.rise1 ∧ o.rise1.pre = o.pre + 1 ∧ o.rise1.known = o.known := by
  have k1 := h.kg
  have k2 := h.dk
  obtain ⟨s, l, hs⟩ : ∃ s l, o.slots = s :: l := by
    cases e : o.slots with
    | nil => unfold Os.known at k2; rw [e, List.length_nil] at k2; omega
    | cons s l => exact ⟨s, l, rfl⟩
  have hk : o.rise1.known = o.known := by
    rw [rise1_cons hs]; unfold Os.known; rw [hs]; simp; omega
  have hg : G[o.pre]? = some s := by
    have := h.slot 0 (by omega)
    rw [hs] at this
    simpa using this.symm
  have ht := take_one hg
  have e := h.sl
  rw [hs] at e
  have K := rise1_keeps o
  have hpre : o.rise1.pre = o.pre + 1 := by rw [rise1_cons hs]
  have hheld : o.rise1.held = o.held.filter (fun d => decide (d.sl ≠ s)) := by rw [rise1_cons hs]
  refine ⟨⟨K.id.trans h.id, K.mem.trans h.mem, K.self.trans h.self, K.win.trans h.win, by rw [hk]; exact h.kg, by rw [hpre, K.done]; omega, by rw [hk, K.done]; exact h.dk, ?_, by rw [hk, K.placed]; exact h.pl, fun q => ?_, by rw [K.taken]; exact h.tk, by rw [K.taken]; exact h.tz, fun d hd => ?_, fun j q hj h1 h2 h3 => ?_, ?_, by rw [K.mine, K.done]; exact h.mine, by rw [K.done, K.taken]; exact h.dl⟩, hpre, hk⟩
  · rw [hk, hpre, rise1_cons hs]
    show l = _
    rw [← List.drop_drop (i := 1) (j := o.pre), ← e]
    rfl
  · rw [hpre, ht, cnt_app, cnt_one, rise1_cons hs]
    show upN o.gone s.s (o.gone s.s + 1) q = _
    unfold upN
    by_cases hq : q = s.s
    · rw [if_pos hq, if_pos hq.symm, h.gn, hq]
    · rw [if_neg hq, if_neg (fun e => hq e.symm), h.gn]; rfl
  · rw [hheld] at hd
    obtain ⟨h1, h2⟩ := List.mem_filter.1 hd
    obtain ⟨h3, h4⟩ := h.he d h1
    rw [hpre, ht, K.taken]
    refine ⟨fun hm => ?_, h4⟩
    rcases List.mem_append.1 hm with hm | hm
    · exact h3 hm
    · simp only [ne_eq, decide_not, Bool.not_eq_eq_eq_not, Bool.not_true, decide_eq_false_iff_not] at h2
      exact h2 (List.mem_singleton.1 hm)
  · rw [hpre, ht] at h3
    rw [K.taken] at h2
    obtain ⟨d, hd, he⟩ := h.hh j q hj h1 h2 fun hm => h3 (List.mem_append_left _ hm)
    rw [hheld]
    refine ⟨d, List.mem_filter.2 ⟨hd, ?_⟩, he⟩
    simp only [ne_eq, decide_not, Bool.not_eq_eq_eq_not, Bool.not_true, decide_eq_false_iff_not]
    intro e2
    exact h3 (List.mem_append_right _ (List.mem_singleton.2 (he.symm.trans e2)))
  · rw [hheld]
    exact List.Nodup.sublist (List.Sublist.map _ List.filter_sublist) h.nd
theorem MI.riseK (h : MI n win G sent i o) : ∀ k, o.pre + k ≤ o.done → MI n win G sent i (o.riseK k) ∧ (o.riseK k).pre = o.pre + k ∧ (o.riseK k).known = o.known
  | 0, _ => ⟨h, rfl, rfl⟩
  | k + 1, hk => by
    obtain ⟨h1, h2, h3⟩ := h.riseK k (by omega)
    have hd := (riseK_keeps o k).done
    obtain ⟨h4, h5, h6⟩ := h1.rise1 (by omega)
    exact ⟨h4, by show (o.riseK k).rise1.pre = _; omega, h6.trans h3⟩
theorem MI.rise (h : MI n win G sent i o) {m : Nat} (hm : m ≤ o.done) : MI n win G sent i (o.rise m) ∧ (o.rise m).pre = max o.pre m ∧ (o.rise m).known = o.known := by
  have h1 := h.pd
  obtain ⟨h2, h3, h4⟩ := h.riseK (m - o.pre) (by omega)
  exact ⟨h2, by show (o.riseK (m - o.pre)).pre = _; omega, h4⟩
theorem MI.keep (h : MI n win G sent i o) {j : Nat} (hj : j < n) {st : Nat} {b : List Int} (hb : (sent j)[o.taken (pidN j)]? = some b) : MI n win G sent i (o.keep ⟨pidN j, o.taken (pidN j) + 1, st, b⟩) := by
  have hlt := (List.getElem?_eq_some_iff.1 hb).1
  have hu : ∀ s, o.taken s ≤ upN o.taken (pidN j) (o.taken (pidN j) + 1) s := fun s => by unfold upN; split; rename_i e; rw [e]; omega; exact Nat.le_refl _
  refine ⟨h.id, h.mem, h.self, h.win, h.kg, h.pd, h.dk, h.sl, h.pl, h.gn, fun k hk => ?_, fun s hs => ?_, fun d hd => ?_, fun k q hk h1 h2 h3 => ?_, ?_, h.mine, fun x hx => Nat.le_trans (h.dl x hx) (hu _)⟩
  · show upN o.taken (pidN j) (o.taken (pidN j) + 1) (pidN k) ≤ _
    unfold upN
    split
    · rename_i e; rw [pidN_inj e]; omega
    · exact h.tk k hk
  · show upN o.taken (pidN j) (o.taken (pidN j) + 1) s = 0
    rw [upN_ne _ _ (hs j hj)]; exact h.tz s hs
  · show d.sl ∉ G.take o.pre ∧ ∃ k, k < n ∧ d.s = pidN k ∧ 1 ≤ d.q ∧ d.q ≤ upN o.taken (pidN j) (o.taken (pidN j) + 1) d.s ∧ (sent k)[d.q - 1]? = some d.b
    rcases List.mem_append.1 hd with hd | hd
    · obtain ⟨h1, k, h2, h3, h4, h5, h6⟩ := h.he d hd
      exact ⟨h1, k, h2, h3, h4, Nat.le_trans h5 (hu _), h6⟩
    · rw [List.mem_singleton.1 hd]
      refine ⟨fun hm => ?_, j, hj, rfl, by show 1 ≤ _ + 1; omega, by show _ ≤ upN _ _ _ (pidN j); rw [upN_same]; exact Nat.le_refl _, hb⟩
      have hm' : (⟨pidN j, o.taken (pidN j) + 1⟩ : Sl) ∈ G.take o.done := by
        have e : G.take o.pre = (G.take o.done).take o.pre := by rw [List.take_take, Nat.min_eq_left h.pd]
        rw [e] at hm
        exact List.mem_of_mem_take hm
      have : o.taken (pidN j) + 1 ≤ o.taken (pidN j) := h.dl _ hm'
      omega
  · have h2' : q ≤ upN o.taken (pidN j) (o.taken (pidN j) + 1) (pidN k) := h2
    by_cases hq : q ≤ o.taken (pidN k)
    · obtain ⟨d, hd, he⟩ := h.hh k q hk h1 hq h3
      exact ⟨d, List.mem_append_left _ hd, he⟩
    · unfold upN at h2'
      split at h2'
      · rename_i e
        obtain rfl := pidN_inj e
        refine ⟨_, List.mem_append_right _ List.mem_cons_self, ?_⟩
        show (⟨pidN k, o.taken (pidN k) + 1⟩ : Sl) = _
        rw [show q = o.taken (pidN k) + 1 by omega]
      · exact absurd h2' hq
  · show ((o.held ++ [_]).map Dt.sl).Nodup
    rw [List.map_append, List.map_singleton, List.nodup_append]
    refine ⟨h.nd, by simp, fun a ha c hc => ?_⟩
    obtain ⟨d, hd, rfl⟩ := List.mem_map.1 ha
    rw [List.mem_singleton.1 hc]
    intro e
    obtain ⟨-, k, -, h3, -, h5, -⟩ := h.he d hd
    have e1 : d.s = pidN j := congrArg Sl.s e
    have e2 : d.q = o.taken (pidN j) + 1 := congrArg Sl.q e
    rw [e1] at h5
    omega
theorem MI.stand (h : MI n win G sent i o) {x : Sl} (hx : G[o.known]? = some x) : MI n win G sent i (o.stand x) ∧ (o.stand x).known = o.known + 1 := by
  have hlt := (List.getElem?_eq_some_iff.1 hx).1
  have hk : (o.stand x).known = o.known + 1 := by
    show o.pre + (o.slots ++ [x]).length = _
    unfold Os.known; rw [List.length_append]; simp; omega
  have h1 := h.dk
  have h2 := h.pd
  refine ⟨⟨h.id, h.mem, h.self, h.win, by rw [hk]; omega, h.pd, by rw [hk]; show o.done ≤ _; omega, ?_, fun s => ?_, h.gn, h.tk, h.tz, h.he, h.hh, h.nd, h.mine, h.dl⟩, hk⟩
  · rw [hk, take_one hx]
    show o.slots ++ [x] = (G.take o.known ++ [x]).drop o.pre
    rw [List.drop_append_of_le_length (by rw [List.length_take]; omega), ← h.sl]
  · rw [hk, take_one hx, cnt_app, cnt_one]
    show upN o.placed x.s (o.placed x.s + 1) s = _
    unfold upN
    by_cases hq : s = x.s
    · rw [if_pos hq, if_pos hq.symm, h.pl, hq]
    · rw [if_neg hq, if_neg (fun e => hq e.symm), h.pl]; rfl
theorem MI.next (h : MI n win G sent i o) {m : Mg} {o' : Os} (hn : o.next = some (m, o')) :
    MI n win G sent i o' ∧ o'.done = o.done + 1 ∧ RiK { o with done := o.done + 1, mine := o'.mine } o' ∧ o'.pre = o.pre ∧ o'.known = o.known ∧ ∃ x j, G[o.done]? = some x ∧ j < n ∧ x.s = pidN j ∧ 1 ≤ x.q ∧ x.q ≤ o.taken x.s ∧ m.p = o.done + 1 ∧ m.s = x.s ∧ m.q = x.q ∧ (sent j)[x.q - 1]? = some m.b := by
  obtain ⟨h1, x, d, h2, h3, rfl, rfl⟩ := next_facts hn
  have hpd := h.pd
  have hdm := List.mem_of_find?_eq_some h3
  have hdx : d.sl = x := by have := List.find?_some h3; simpa using this
  obtain ⟨h5, j, hj, h6, h7, h8, h9⟩ := h.he d hdm
  have hg : G[o.done]? = some x := by
    have := h.slot (o.done - o.pre) (by omega)
    rw [h2, show o.pre + (o.done - o.pre) = o.done by omega] at this
    exact this.symm
  have hxs : x.s = d.s := by rw [← hdx]; rfl
  have hxq : x.q = d.q := by rw [← hdx]; rfl
  have ht := take_one hg
  refine ⟨⟨h.id, h.mem, h.self, h.win, h.kg, by show o.pre ≤ o.done + 1; omega, h1, h.sl, h.pl, h.gn, h.tk, h.tz, h.he, h.hh, h.nd, ?_, ?_⟩, rfl, ⟨rfl, rfl, rfl, rfl, rfl, rfl, rfl, rfl, rfl, rfl, rfl, rfl⟩, rfl, rfl, x, j, hg, hj, by rw [hxs]; exact h6, by rw [hxq]; exact h7, by rw [hxq, hxs]; exact h8, rfl, rfl, rfl, by rw [hxq]; exact h9⟩
  · show (if x.s = o.self then o.mine + 1 else o.mine) = cnt (pidN i) (G.take (o.done + 1))
    rw [ht, cnt_app, cnt_one, ← h.mine, h.self]
    split <;> rfl
  · intro y hy
    have hy' : y ∈ G.take (o.done + 1) := hy
    rw [ht] at hy'
    rcases List.mem_append.1 hy' with hy' | hy'
    · exact h.dl y hy'
    · rw [List.mem_singleton.1 hy', hxq, hxs]; exact h8
end
end Go.Proofs.Ytoilipfgimcoiaa
namespace Go.Proofs.Ytoilipfgimcoiaa
open Go Go.RowKit
structure Crw where
  n : Nat
  win : Nat
  o : Nat → Os
  sent : Nat → List (List Int)
  made : Nat → List Itm
  had : Nat → Nat → Nat
  log : Nat → List Mg
  told : Nat → List Stb
  stop : Nat → Bool
  long : List Mg
def dIt (s q st : Nat) (b : List Int) : Itm := ⟨1, s, q, st, b, 0, 0, 0, 0⟩
def sIt (p sb : Nat) (x : Sl) : Itm := ⟨2, 0, 0, 0, [], p, sb, x.s, x.q⟩
def dC (l : List Itm) : Nat := l.countP fun it => decide (it.kd = 1)
def sC (l : List Itm) : Nat := l.countP fun it => decide (it.kd = 2)
theorem dC_app (l m : List Itm) : dC (l ++ m) = dC l + dC m := List.countP_append
theorem sC_app (l m : List Itm) : sC (l ++ m) = sC l + sC m := List.countP_append
theorem dC_d (s q st : Nat) (b : List Int) : dC [dIt s q st b] = 1 := rfl
theorem sC_d (s q st : Nat) (b : List Int) : sC [dIt s q st b] = 0 := rfl
theorem dC_s (p sb : Nat) (x : Sl) : dC [sIt p sb x] = 0 := rfl
theorem sC_s (p sb : Nat) (x : Sl) : sC [sIt p sb x] = 1 := rfl
def ItOk (n win : Nat) (G : List Sl) (sent : List (List Int)) (dn : Nat → Nat) (i : Nat) (l : List Itm) (it : Itm) : Prop :=
  (∃ st b, it = dIt (pidN i) (dC l + 1) st b ∧ sent[dC l]? = some b ∧ (∀ k, k < n → st ≤ dn k) ∧ st ≤ G.length ∧ dC l < win + cnt (pidN i) (G.take st)) ∨
  (i = 0 ∧ ∃ sb x, it = sIt (sC l + 1) sb x ∧ G[sC l]? = some x ∧ (∀ k, k < n → sb ≤ dn k) ∧ sC l < n * win + sb ∧ sb ≤ sC l)
def RecOk (n : Nat) (dn : Nat → Nat) (i : Nat) (t : Stb) : Prop := t.v = vdC ∧ ∃ d p : Nat, t.d = d ∧ t.p = p ∧ p ≤ d ∧ d ≤ dn i ∧ ∀ k, k < n → p ≤ dn k
def LogOk (G : List Sl) (l : List Mg) : Prop := ∀ (p : Nat) (m : Mg), l[p]? = some m → ∃ x, G[p]? = some x ∧ m.s = x.s ∧ m.q = x.q
structure CI (v : Crw) (G : List Sl) (T : Nat) : Prop where
  n1 : 1 ≤ v.n
  n4 : v.n ≤ 4
  w1 : 1 ≤ v.win
  w4 : v.win ≤ 4
  mi : ∀ i, i < v.n → MI v.n v.win G v.sent i (v.o i)
  frz : ∀ i, i < v.n → (v.o i).frz = v.stop i
  own : ∀ i, i < v.n → (v.o i).taken (pidN i) = (v.sent i).length
  tk : ∀ i j, i < v.n → j < v.n → i ≠ j → (v.o i).taken (pidN j) = dC ((v.made j).take (v.had j i))
  k0 : (v.o 0).known = G.length
  kn : ∀ i, i < v.n → i ≠ 0 → (v.o i).known = sC ((v.made 0).take (v.had 0 i))
  hd : ∀ i j, i < v.n → j < v.n → v.had i j ≤ (v.made i).length
  it : ∀ i, i < v.n → ∀ (m : Nat) (it : Itm), (v.made i)[m]? = some it → ItOk v.n v.win G (v.sent i) (fun k => (v.o k).done) i ((v.made i).take m) it
  dc : ∀ i, i < v.n → dC (v.made i) = (v.sent i).length
  sc : sC (v.made 0) = G.length
  gq : SeqOk v.n (G ++ (v.o 0).queue)
  gt : ∀ j, j < v.n → cnt (pidN j) (G ++ (v.o 0).queue) = (v.o 0).taken (pidN j)
  qe : ∀ i, i < v.n → i ≠ 0 → (v.o i).queue = []
  key : ∀ i k, i < v.n → k < v.n → (v.o i).pre ≤ (v.o k).done
  to : ∀ i j, i < v.n → j < v.n → i ≠ j → (v.o i).told (pidN j) ≤ (v.o j).done
  tr : ∀ i, i < v.n → ∀ t ∈ v.told i, RecOk v.n (fun k => (v.o k).done) i t
  lg : ∀ i, i < v.n → (v.log i).length = (v.o i).done ∧ LogOk G (v.log i)
  ln : ∀ i, i < v.n → (v.o i).done ≤ v.long.length
  lo : LogOk G v.long
  se : ∀ i, i < v.n → (v.sent i).length ≤ T
  sb : ∀ i, i < v.n → ∀ b ∈ v.sent i, b.length ≤ 9
  fr : ∀ i j, i < v.n → j < v.n → (v.o i).taken (pidN j) ≤ v.win + (v.o i).gone (pidN j)
  sr : ∀ i, i < v.n → (v.o i).slots.length ≤ v.n * v.win
theorem upN_id {α : Type} (f : Nat → α) (k : Nat) : upN f k (f k) = f := by
  funext j; unfold upN; split
  · rename_i e; rw [e]
  · rfl
theorem ItOk.more {n win : Nat} {G : List Sl} {sent : List (List Int)} {dn : Nat → Nat} {i : Nat} {l : List Itm} {it : Itm} (h : ItOk n win G sent dn i l it) (L : List Sl) {sent' : List (List Int)} (hs : sent <+: sent') {dn' : Nat → Nat} (hd : ∀ k, k < n → dn k ≤ dn' k) : ItOk n win (G ++ L) sent' dn' i l it := by
  rcases h with ⟨st, b, h1, h2, h3, h4, h5⟩ | ⟨h0, sb, x, h1, h2, h3, h4⟩
  · exact .inl ⟨st, b, h1, pref_get hs h2, fun k hk => Nat.le_trans (h3 k hk) (hd k hk), by rw [List.length_append]; omega, by rw [take_app h4]; exact h5⟩
  · exact .inr ⟨h0, sb, x, h1, pref_get ⟨L, rfl⟩ h2, fun k hk => Nat.le_trans (h3 k hk) (hd k hk), h4⟩
theorem LogOk.more {G : List Sl} {l : List Mg} (h : LogOk G l) (L : List Sl) : LogOk (G ++ L) l := fun p m hm => by
  obtain ⟨x, h1, h2⟩ := h p m hm
  exact ⟨x, pref_get ⟨L, rfl⟩ h1, h2⟩
theorem LogOk.snoc {G : List Sl} {l : List Mg} (h : LogOk G l) {m : Mg} {x : Sl} (hx : G[l.length]? = some x) (h1 : m.s = x.s) (h2 : m.q = x.q) : LogOk G (l ++ [m]) := fun p m' hm => by
  by_cases hp : p < l.length
  · rw [List.getElem?_append_left hp] at hm; exact h p m' hm
  · rw [List.getElem?_append_right (by omega)] at hm
    have hp0 := (List.getElem?_eq_some_iff.1 hm).1
    simp at hp0
    obtain rfl : p = l.length := by omega
    rw [Nat.sub_self] at hm
    injection hm with hm
    subst hm
    exact ⟨x, hx, h1, h2⟩
theorem RecOk.more {n : Nat} {dn dn' : Nat → Nat} {i : Nat} (hi : i < n) {t : Stb} (h : RecOk n dn i t) (hd : ∀ k, k < n → dn k ≤ dn' k) : RecOk n dn' i t := by
  obtain ⟨h1, d, p, h2, h3, h4, h5, h6⟩ := h
  exact ⟨h1, d, p, h2, h3, h4, Nat.le_trans h5 (hd i hi), fun k hk => Nat.le_trans (h6 k hk) (hd k hk)⟩
section
variable {v : Crw} {G : List Sl} {T : Nat}
theorem CI.mono (h : CI v G T) {T' : Nat} (ht : T ≤ T') : CI v G T' :=
  ⟨h.n1, h.n4, h.w1, h.w4, h.mi, h.frz, h.own, h.tk, h.k0, h.kn, h.hd, h.it, h.dc, h.sc, h.gq, h.gt, h.qe, h.key, h.to, h.tr, h.lg, h.ln, h.lo, fun i hi => Nat.le_trans (h.se i hi) ht, h.sb, h.fr, h.sr⟩
theorem CI.setO (h : CI v G T) {i : Nat} (hi : i < v.n) (o' : Os) (l' : List Mg) (m' : List Mg) (m : MI v.n v.win G v.sent i o') (e1 : o'.frz = (v.o i).frz) (e2 : o'.taken = (v.o i).taken) (e3 : o'.known = (v.o i).known) (e4 : o'.queue = (v.o i).queue) (e5 : (v.o i).done ≤ o'.done)
    (e6 : ∀ k, k < v.n → o'.pre ≤ (v.o k).done) (e7 : ∀ j, j < v.n → i ≠ j → o'.told (pidN j) ≤ (v.o j).done) (e8 : l'.length = o'.done ∧ LogOk G l') (e9 : o'.done ≤ m'.length ∧ v.long.length ≤ m'.length) (e10 : LogOk G m') (e11 : (v.o i).pre ≤ o'.pre) :
    CI { v with o := upN v.o i o', log := upN v.log i l', long := m' } G T := by
  have hdn : ∀ k, (v.o k).done ≤ (upN v.o i o' k).done := fun k => by unfold upN; split; rename_i e; rw [e]; exact e5; exact Nat.le_refl _
  have csx : ∀ {p : Nat → Os → Prop} (k : Nat), (k ≠ i → p k (v.o k)) → p i o' → p k (upN v.o i o' k) := fun {p} k h1 h2 => by
    unfold upN; split
    · rename_i e; rw [e]; exact h2
    · rename_i e; exact h1 e
  have e0 : (upN v.o i o' 0).queue = (v.o 0).queue ∧ (upN v.o i o' 0).taken = (v.o 0).taken ∧ (upN v.o i o' 0).known = (v.o 0).known := by
    unfold upN; split
    · rename_i e; rw [e]; exact ⟨e4, e2, e3⟩
    · exact ⟨rfl, rfl, rfl⟩
  refine ⟨h.n1, h.n4, h.w1, h.w4, fun k hk => csx (p := fun k o => MI v.n v.win G v.sent k o) k (fun _ => h.mi k hk) m, fun k hk => csx (p := fun k o => o.frz = v.stop k) k (fun _ => h.frz k hk) (e1.trans (h.frz i hi)), fun k hk => csx (p := fun k o => o.taken (pidN k) = (v.sent k).length) k (fun _ => h.own k hk) (by rw [e2]; exact h.own i hi),
    fun k j hk hj hne => csx (p := fun k o => k ≠ j → o.taken (pidN j) = dC ((v.made j).take (v.had j k))) k (fun _ => h.tk k j hk hj) (fun hne => by rw [e2]; exact h.tk i j hi hj hne) hne, e0.2.2.trans h.k0, fun k hk h0 => csx (p := fun k o => k ≠ 0 → o.known = sC ((v.made 0).take (v.had 0 k))) k (fun _ => h.kn k hk) (fun h0 => by rw [e3]; exact h.kn i hi h0) h0,
    h.hd, fun k hk a it hit => by have := (h.it k hk a it hit).more [] (List.prefix_refl _) (fun k _ => hdn k); rwa [List.append_nil] at this, h.dc, h.sc, by rw [e0.1]; exact h.gq, fun j hj => by rw [e0.1, e0.2.1]; exact h.gt j hj, fun k hk h0 => csx (p := fun k o => k ≠ 0 → o.queue = []) k (fun _ => h.qe k hk) (fun h0 => by rw [e4]; exact h.qe i hi h0) h0,
    fun a k ha hk => Nat.le_trans (csx (p := fun a o => o.pre ≤ (v.o k).done) a (fun _ => h.key a k ha hk) (e6 k hk)) (hdn k),
    fun a j ha hj hne => Nat.le_trans (csx (p := fun a o => a ≠ j → o.told (pidN j) ≤ (v.o j).done) a (fun _ => h.to a j ha hj) (e7 j hj) hne) (hdn j), fun k hk t ht => (h.tr k hk t ht).more hk fun k _ => hdn k, fun k hk => ?_, fun k hk => ?_, e10, h.se, h.sb, fun k j hk hj => csx (p := fun k o => o.taken (pidN j) ≤ v.win + o.gone (pidN j)) k (fun _ => h.fr k j hk hj) ?_, fun k hk => csx (p := fun k o => o.slots.length ≤ v.n * v.win) k (fun _ => h.sr k hk) ?_⟩
  · show (upN v.log i l' k).length = (upN v.o i o' k).done ∧ LogOk G (upN v.log i l' k)
    unfold upN; split
    · exact e8
    · exact h.lg k hk
  · show (upN v.o i o' k).done ≤ m'.length
    unfold upN; split
    · exact e9.1
    · exact Nat.le_trans (h.ln k hk) e9.2
  · rw [e2, m.gn]
    have h1 := h.fr i j hi hj
    rw [(h.mi i hi).gn] at h1
    have := cnt_mono (pidN j) G e11
    omega
  · have h1 := h.sr i hi
    unfold Os.known at e3
    omega
theorem CI.setO' (h : CI v G T) {i : Nat} (hi : i < v.n) (o' : Os) (m : MI v.n v.win G v.sent i o') (e1 : o'.frz = (v.o i).frz) (e2 : o'.taken = (v.o i).taken) (e3 : o'.known = (v.o i).known) (e4 : o'.queue = (v.o i).queue) (e5 : o'.done = (v.o i).done)
    (e6 : ∀ k, k < v.n → o'.pre ≤ (v.o k).done) (e7 : ∀ j, j < v.n → i ≠ j → o'.told (pidN j) ≤ (v.o j).done) (e11 : (v.o i).pre ≤ o'.pre) : CI { v with o := upN v.o i o' } G T := by
  have := h.setO hi o' (v.log i) v.long m e1 e2 e3 e4 (by omega) e6 e7 (by rw [e5]; exact h.lg i hi) ⟨by rw [e5]; exact h.ln i hi, Nat.le_refl _⟩ h.lo e11
  rw [upN_id] at this
  exact this
theorem CI.rise (h : CI v G T) {i : Nat} (hi : i < v.n) {m : Nat} (hm : ∀ k, k < v.n → m ≤ (v.o k).done) : CI { v with o := upN v.o i ((v.o i).rise m) } G T := by
  obtain ⟨h1, h2, h3⟩ := (h.mi i hi).rise (hm i hi)
  have K := rise_keeps (v.o i) m
  exact h.setO' hi _ h1 K.frz K.taken h3 K.queue K.done (fun k hk => by have := h.key i k hi hk; have := hm k hk; omega) (fun j hj hne => by rw [K.told]; exact h.to i j hi hj hne) (by omega)
theorem SeqOk.len {n : Nat} {L : List Sl} (h : SeqOk n L) (hn : n ≤ 4) {T : Nat} (ht : ∀ j, j < n → cnt (pidN j) L ≤ T) : L.length ≤ 4 * T := by
  have hs := SeqOk.sum hn L h.s
  have hz : ∀ s, (∀ j, j < n → s ≠ pidN j) → cnt s L = 0 := fun s hs => by
    refine List.countP_eq_zero.2 fun x hx => ?_
    obtain ⟨j, hj, e⟩ := h.s x hx
    simp only [decide_eq_true_eq]
    exact fun e2 => hs j hj (e2.symm.trans e)
  have hb : ∀ j, j < 4 → cnt (pidN j) L ≤ T := fun j _ => by
    by_cases hj : j < n
    · exact ht j hj
    · rw [hz _ fun k hk e => by have := pidN_inj e; omega]; omega
  have h0 : cnt 1 L ≤ T := hb 0 (by omega)
  have h1 : cnt 4 L ≤ T := hb 1 (by omega)
  have h2 : cnt 7 L ≤ T := hb 2 (by omega)
  have h3 : cnt 10 L ≤ T := hb 3 (by omega)
  omega
theorem CI.len (h : CI v G T) : (G ++ (v.o 0).queue).length ≤ 4 * T := h.gq.len h.n4 fun j hj => by
  have h1 := h.n1
  rw [h.gt j hj]
  exact Nat.le_trans ((h.mi 0 (by omega)).tk j hj) (h.se j hj)
theorem taken_le {n win : Nat} {G : List Sl} {sent : Nat → List (List Int)} {i : Nat} {o : Os} {T : Nat} (m : MI n win G sent i o) (ht : ∀ j, j < n → (sent j).length ≤ T) (s : Nat) : o.taken s ≤ T := by
  by_cases hs : ∃ j, j < n ∧ s = pidN j
  · obtain ⟨j, hj, rfl⟩ := hs
    exact Nat.le_trans (m.tk j hj) (ht j hj)
  · rw [m.tz s fun j hj e => hs ⟨j, hj, e⟩]; omega
theorem MI.wf {n win : Nat} {G : List Sl} {sent : Nat → List (List Int)} {i : Nat} {o : Os} {T : Nat} (m : MI n win G sent i o) (n1 : 1 ≤ n) (n4 : n ≤ 4) (w4 : win ≤ 4) (hi : i < n) (ht : ∀ j, j < n → (sent j).length ≤ T) (hT : T ≤ 100000) (hq : SeqOk n (G ++ o.queue)) (hl : (G ++ o.queue).length ≤ 4 * T) : WfO o := by
  have k1 := m.kg
  have k2 := m.dk
  have k3 := m.pd
  rw [List.length_append] at hl
  have hG : ∀ x ∈ G ++ o.queue, x.s < 16 ∧ x.q ≤ 1000000000 := fun x hx => by
    obtain ⟨j, hj, e⟩ := hq.s x hx
    obtain ⟨-, -, h3⟩ := hq.qle hx
    rw [List.length_append] at h3
    unfold pidN at e
    omega
  have tkl := taken_le m ht
  refine ⟨by rw [m.mem]; unfold pidsN; simp; omega, by rw [m.mem]; unfold pidsN; simp; omega, fun q hq => ?_, by rw [m.win]; omega, by rw [m.self]; unfold pidN; omega, fun x hx => ?_, fun x hx => hG x (List.mem_append_right _ hx), by omega, fun d hd => ?_, m.nd, fun d hd => (m.he d hd).2.elim fun j h => h.2.2.2.1, fun s => by have := tkl s; omega, fun s => ?_, fun s => ?_, by omega, by omega, ?_⟩
  · rw [m.mem] at hq
    unfold pidsN at hq
    obtain ⟨j, hj, rfl⟩ := List.mem_map.1 hq
    have := List.mem_range.1 hj
    unfold pidN; omega
  · rw [m.sl] at hx
    exact hG x (List.mem_append_left _ (List.mem_of_mem_take (List.mem_of_mem_drop hx)))
  · obtain ⟨-, j, hj, h2, h3, h4, -⟩ := m.he d hd
    have := tkl d.s
    unfold pidN at h2
    omega
  · rw [m.pl]
    have := cnt_le s (G.take o.known)
    rw [List.length_take] at this; omega
  · rw [m.gn]
    have := cnt_le s (G.take o.pre)
    rw [List.length_take] at this
    unfold Os.known at k1
    omega
  · rw [m.mine]
    have := cnt_le (pidN i) (G.take o.done)
    rw [List.length_take] at this; omega
theorem CI.wf (h : CI v G T) (hT : T ≤ 100000) {i : Nat} (hi : i < v.n) : WfO (v.o i) := by
  have hl := h.len
  by_cases h0 : i = 0
  · subst h0
    exact (h.mi 0 hi).wf h.n1 h.n4 h.w4 hi h.se hT h.gq hl
  · have hq := h.qe i hi h0
    rw [List.length_append] at hl
    exact (h.mi i hi).wf h.n1 h.n4 h.w4 hi h.se hT (by rw [hq, List.append_nil]; exact h.gq.left) (by rw [hq, List.append_nil]; omega)
end
end Go.Proofs.Ytoilipfgimcoiaa
