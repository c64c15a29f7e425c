/- Team2 Team3 Team4 Team5 TmK, joined. -/
import Derived.Test.YtfbeggdbjpmppaaMg9
import Derived.Test.YtfbeggdbjpmppaaMg11
set_option linter.unusedVariables false
set_option linter.unusedSimpArgs false
namespace Go.Proofs.Ytfbeggdbjpmppaa
structure Dn where
  pid : Nat
  inc : Int
  frm : Vid
  v : Vid
  mem : List Mb
  tr : List Int
def memOf (n : Nat) (w : Wish) : List Mb := (List.range n).filterMap fun q => if nth w.set q = 0 then none else some ⟨q, nth w.set q, nth w.vec q⟩
theorem memOf_mem {n : Nat} {w : Wish} {m : Mb} (h : m ∈ memOf n w) : ∃ q : Nat, q < n ∧ nth w.set q ≠ 0 ∧ m = ⟨q, nth w.set q, nth w.vec q⟩ := by
  obtain ⟨q, hq, e⟩ := List.mem_filterMap.1 h
  split at e
  · cases e
  · rename_i hz; exact ⟨q, List.mem_range.1 hq, hz, (Option.some.inj e).symm⟩
theorem memOf_in {n : Nat} {w : Wish} {q : Nat} (hq : q < n) (hz : nth w.set q ≠ 0) : (⟨q, nth w.set q, nth w.vec q⟩ : Mb) ∈ memOf n w := List.mem_filterMap.2 ⟨q, List.mem_range.2 hq, by rw [if_neg hz]⟩
theorem memOf_succ (n : Nat) (w : Wish) : memOf (n + 1) w = memOf n w ++ (if nth w.set n = 0 then [] else [⟨n, nth w.set n, nth w.vec n⟩]) := by
  unfold memOf
  rw [List.range_succ, List.filterMap_append]
  congr 1
  by_cases h : nth w.set n = 0
  · rw [if_pos h]; simp [h]
  · rw [if_neg h]; simp [h]
structure DI (E : Nat → List Lt) (n : Nat) (d : Dn) (s : St) (e : Lt) (x : Nat → Lt) : Prop where
  pid : d.pid < n
  mem : e ∈ E d.pid
  ei : EI n d.pid e
  inc : e.inc = d.inc
  frm : d.frm = e.w.prev
  fz : d.frm = Vid.zero ∨ 1 ≤ d.frm.e
  each : ∀ q, nth e.w.set q ≠ 0 → x q ∈ E q ∧ (x q).inc = nth e.w.set q ∧ (x q).w.set = e.w.set ∧ (x q).w.cid = nth e.w.vec q ∧ nth e.w.vec q ≠ 0 ∧ (x q).w.vec = e.w.vec ∧ (x q).w.top < d.v.e ∧ 0 ≤ (x q).w.top ∧ ((q : Int) ∈ d.tr ↔ q = d.pid ∨ ((x q).w.prev ≠ Vid.zero ∧ (x q).w.prev = d.frm))
  zero : ∀ q, nth e.w.vec q ≠ 0 → nth e.w.set q ≠ 0
  ms : d.mem = memOf n e.w
  ld : ∃ m r, d.mem = m :: r ∧ d.v.l = m.p ∧ d.v.i = m.i ∧ d.v.c = m.c
  aft : ∀ y ∈ E d.pid, y.inc = d.inc → y.w.rev ≤ e.w.rev ∨ (e.w.cid < y.w.cid ∧ d.v.e ≤ y.w.top)
  now : s.inc = d.inc → d.v.e ≤ s.vid.e ∧ (s.opn = true → e.w.rev < s.own.rev)
section
variable {E : Nat → List Lt} {n : Nat}
theorem det (g : EG E) {k : Nat} {a b : Lt} (ha : a ∈ E k) (hb : b ∈ E k) (hi : a.inc = b.inc) (hc : a.w.cid = b.w.cid) : a.w.set = b.w.set ∧ a.w.top = b.w.top ∧ a.w.prev = b.w.prev := by
  rcases pw_two (g.pw k) ha hb with rfl | h | h
  · exact ⟨rfl, rfl, rfl⟩
  · have := (h hi).2.2 hc; exact ⟨this.1, this.2.1, this.2.2.1⟩
  · have := (h hi.symm).2.2 hc.symm; exact ⟨this.1.symm, this.2.1.symm, this.2.2.1.symm⟩
theorem ext_nth {a b : List Int} (ha : a.length = 16) (hb : b.length = 16) (h : ∀ q, nth a q = nth b q) : a = b := by
  apply List.ext_getElem (by omega)
  intro q h1 h2
  have := h q
  unfold nth at this
  rw [List.getElem?_eq_getElem h1, List.getElem?_eq_getElem h2] at this
  exact this
theorem vec_up (g : EG E) {a b : Dn} {sa sb : St} {ea eb : Lt} {xa xb : Nat → Lt} (A : DI E n a sa ea xa) (B : DI E n b sb eb xb) (hset : ea.w.set = eb.w.set) (hv : a.v.e = b.v.e)
    (hle : ∀ q, nth ea.w.set q ≠ 0 → nth ea.w.vec q ≤ nth eb.w.vec q) : ea.w.vec = eb.w.vec := by
  have hme := A.ei.me
  have hi1 := A.ei.inc1
  have hnz : nth ea.w.set a.pid ≠ 0 := by omega
  obtain ⟨y1, y2, y3, y4, y5, y6, y7, y8, -⟩ := B.each a.pid (by rw [← hset]; exact hnz)
  have yi : (xb a.pid).inc = a.inc := by rw [y2, ← hset, hme]; exact A.inc
  rcases A.aft _ y1 yi with hr | ⟨hc, ht⟩
  · rcases pw_two (g.pw a.pid) A.mem y1 with e | hb | hb
    · rw [← y6, ← e]
    · have := (hb (A.inc.trans yi.symm)).1; omega
    · have h1 := hb (yi.trans A.inc.symm)
      have h2 := hle a.pid hnz
      have h3 := A.ei.mev
      have h4 := h1.2.2 (by omega)
      refine ext_nth A.ei.ok.vec B.ei.ok.vec fun q => ?_
      by_cases hq : nth ea.w.set q = 0
      · have e1 : nth ea.w.vec q = 0 := Classical.byContradiction fun hc => A.zero q hc hq
        have e2 : nth eb.w.vec q = 0 := Classical.byContradiction fun hc => B.zero q hc (by rw [← hset]; exact hq)
        rw [e1, e2]
      · have h5 := hle q hq
        have h6 := (A.each q hq).2.2.2.2.1
        have h7 := (B.each q (by rw [← hset]; exact hq)).2.2.2.2.1
        have h8 := h4.2.2.2 q (by rw [y6]; exact h7) h6
        rw [y6] at h8
        omega
  · omega
def Fit (a b : Dn) : Prop := a.v = b.v → a.mem = b.mem ∧ a.pid ≠ b.pid ∧ ((b.pid : Int) ∈ a.tr ↔ (a.frm = b.frm ∧ 0 < a.frm.e)) ∧ ((a.pid : Int) ∈ b.tr ↔ (a.frm = b.frm ∧ 0 < a.frm.e))
theorem together {x y : Vid} (h : y = Vid.zero ∨ 1 ≤ y.e) : (x ≠ Vid.zero ∧ x = y) ↔ (y = x ∧ 0 < y.e) := by
  constructor
  · rintro ⟨h1, rfl⟩
    exact ⟨rfl, by rcases h with h | h; exact absurd h h1; omega⟩
  · rintro ⟨rfl, h2⟩
    refine ⟨fun e => ?_, rfl⟩
    rw [e] at h2; exact absurd h2 (by decide)
theorem two_fit (g : EG E) {a b : Dn} {sa sb : St} {ea eb : Lt} {xa xb : Nat → Lt} (A : DI E n a sa ea xa) (B : DI E n b sb eb xb) (h : a.pid = b.pid → a.inc = b.inc → a.v.e ≠ b.v.e) : Fit a b := by
  intro hv
  obtain ⟨ma, ra, la, a1, a2, a3⟩ := A.ld
  obtain ⟨mb, rb, lb, b1, b2, b3⟩ := B.ld
  obtain ⟨l, hl, hlz, rfl⟩ := memOf_mem (n := n) (w := ea.w) (m := ma) (by rw [← A.ms, la]; exact List.mem_cons_self)
  obtain ⟨l', hl', hlz', rfl⟩ := memOf_mem (n := n) (w := eb.w) (m := mb) (by rw [← B.ms, lb]; exact List.mem_cons_self)
  have hll : l = l' := by have : (l : Int) = l' := by rw [← show a.v.l = (l : Int) from a1, ← show b.v.l = (l' : Int) from b1, hv]
                          omega
  subst hll
  obtain ⟨p1, p2, p3, p4, p5, p6, p7, p8, -⟩ := A.each l hlz
  obtain ⟨q1, q2, q3, q4, q5, q6, q7, q8, -⟩ := B.each l hlz'
  have hi : (xa l).inc = (xb l).inc := by rw [p2, q2, ← show a.v.i = nth ea.w.set l from a2, ← show b.v.i = nth eb.w.set l from b2, hv]
  have hc : (xa l).w.cid = (xb l).w.cid := by rw [p4, q4, ← show a.v.c = nth ea.w.vec l from a3, ← show b.v.c = nth eb.w.vec l from b3, hv]
  have hset : ea.w.set = eb.w.set := by rw [← p3, ← q3]; exact (det g p1 q1 hi hc).1
  have he : a.v.e = b.v.e := by rw [hv]
  have hvec : ea.w.vec = eb.w.vec := by
    rcases pw_two (g.pw l) p1 q1 with e | hb | hb
    · rw [← p6, ← q6, e]
    · refine vec_up g A B hset he fun q hq => ?_
      have := (hb hi).2.2 hc |>.2.2.2 q (by rw [p6]; exact (A.each q hq).2.2.2.2.1) (by rw [q6]; exact (B.each q (by rw [← hset]; exact hq)).2.2.2.2.1)
      rw [p6, q6] at this; exact this
    · refine (vec_up g B A hset.symm he.symm fun q hq => ?_).symm
      have := (hb hi.symm).2.2 hc.symm |>.2.2.2 q (by rw [q6]; exact (B.each q hq).2.2.2.2.1) (by rw [p6]; exact (A.each q (by rw [hset]; exact hq)).2.2.2.2.1)
      rw [p6, q6] at this; exact this
  have hpid : a.pid ≠ b.pid := fun hp => by
    refine h hp ?_ he
    rw [← A.inc, ← B.inc, ← A.ei.me, ← B.ei.me, hset, hp]
  refine ⟨?_, hpid, ?_, ?_⟩
  · rw [A.ms, B.ms]; unfold memOf; rw [hset, hvec]
  · have hz : nth ea.w.set b.pid ≠ 0 := by rw [hset, B.ei.me]; have := B.ei.inc1; omega
    obtain ⟨u1, u2, u3, u4, u5, u6, u7, u8, u9⟩ := A.each b.pid hz
    have hp : (xa b.pid).w.prev = b.frm := by
      rw [B.frm]
      exact (det g u1 B.mem (by rw [u2, hset]; exact B.ei.me) (by rw [u4, hvec]; exact B.ei.mev)).2.2
    rw [u9, hp]
    constructor
    · rintro (e | ⟨e1, e2⟩)
      · exact absurd e.symm hpid
      · exact (together A.fz).1 ⟨e1, e2⟩
    · intro e
      exact .inr ((together A.fz).2 e)
  · have hz : nth eb.w.set a.pid ≠ 0 := by rw [← hset, A.ei.me]; have := A.ei.inc1; omega
    obtain ⟨u1, u2, u3, u4, u5, u6, u7, u8, u9⟩ := B.each a.pid hz
    have hp : (xb a.pid).w.prev = a.frm := by
      rw [A.frm]
      exact (det g u1 A.mem (by rw [u2, ← hset]; exact A.ei.me) (by rw [u4, ← hvec]; exact A.ei.mev)).2.2
    rw [u9, hp]
    constructor
    · rintro (e | ⟨e1, e2⟩)
      · exact absurd e hpid
      · refine ⟨e2, ?_⟩
        rcases A.fz with e3 | e3
        · exact absurd e3 e1
        · omega
    · rintro ⟨e1, e2⟩
      refine .inr ⟨fun e3 => ?_, e1⟩
      rw [e3] at e2; exact absurd e2 (by decide)
theorem agTo_facts {s : St} : ∀ {k : Nat} {a : Ag}, s.agTo k = some a →
    a.mem = memOf k s.own ∧ s.own.top ≤ a.top ∧ (∀ q, q < k → nth s.own.set q ≠ 0 → nth s.own.vec q ≠ 0 ∧ (s.wishOf q).vec = s.own.vec ∧ (s.wishOf q).top ≤ a.top) ∧
    (∀ q : Nat, (q : Int) ∈ a.trans ↔ q < k ∧ nth s.own.set q ≠ 0 ∧ (q = s.self ∨ ((s.wishOf q).prev ≠ Vid.zero ∧ (s.wishOf q).prev = s.own.prev))) ∧
    a.trans.Pairwise (· < ·) ∧ ∀ x ∈ a.trans, 0 ≤ x ∧ x < k
  | 0, a, e => by
    cases e
    exact ⟨rfl, Int.le_refl _, fun q hq => absurd hq (by omega), fun q => ⟨fun h => absurd h (by simp), fun h => absurd h.1 (by omega)⟩, .nil, fun x hx => absurd hx (by simp)⟩
  | k + 1, a, e => by
    rw [St.agTo] at e
    obtain ⟨b, hb, hs⟩ := Option.bind_eq_some_iff.1 e
    obtain ⟨i1, i2, i3, i4, i5, i6⟩ := agTo_facts hb
    unfold St.agStep at hs
    split at hs
    · rename_i hz
      cases hs
      refine ⟨by rw [memOf_succ, if_pos hz, List.append_nil]; exact i1, i2, fun q hq hn => ?_, fun q => ?_, i5, fun x hx => by have := i6 x hx; omega⟩
      · rcases Nat.lt_succ_iff_lt_or_eq.1 hq with h | rfl
        · exact i3 q h hn
        · exact absurd hz hn
      · rw [i4 q]
        constructor
        · rintro ⟨h1, h2⟩; exact ⟨by omega, h2⟩
        · rintro ⟨h1, h2, h3⟩
          refine ⟨?_, h2, h3⟩
          rcases Nat.lt_succ_iff_lt_or_eq.1 h1 with h | rfl
          · exact h
          · exact absurd hz h2
    · rename_i hz
      split at hs
      · cases hs
      · rename_i hv
        cases hs
        have hv1 : nth s.own.vec k ≠ 0 := fun e => hv (.inl e)
        have hv2 : (s.wishOf k).vec = s.own.vec := Classical.byContradiction fun e => hv (.inr e)
        refine ⟨by rw [memOf_succ, if_neg hz]; show b.mem ++ _ = _; rw [i1], by show s.own.top ≤ max _ _; omega, fun q hq hn => ?_, fun q => ?_, ?_, ?_⟩
        · rcases Nat.lt_succ_iff_lt_or_eq.1 hq with h | rfl
          · obtain ⟨j1, j2, j3⟩ := i3 q h hn
            exact ⟨j1, j2, by show _ ≤ max _ _; omega⟩
          · exact ⟨hv1, hv2, by show _ ≤ max _ _; omega⟩
        · dsimp only
          by_cases hc : k = s.self ∨ ((s.wishOf k).prev ≠ Vid.zero ∧ (s.wishOf k).prev = s.own.prev)
          · rw [if_pos hc, List.mem_append, i4 q, List.mem_singleton]
            constructor
            · rintro (⟨h1, h2⟩ | h1)
              · exact ⟨by omega, h2⟩
              · obtain rfl : q = k := by omega
                exact ⟨by omega, hz, hc⟩
            · rintro ⟨h1, h2⟩
              rcases Nat.lt_succ_iff_lt_or_eq.1 h1 with h | rfl
              · exact .inl ⟨h, h2⟩
              · exact .inr rfl
          · rw [if_neg hc, i4 q]
            constructor
            · rintro ⟨h1, h2⟩; exact ⟨by omega, h2⟩
            · rintro ⟨h1, h2, h3⟩
              rcases Nat.lt_succ_iff_lt_or_eq.1 h1 with h | rfl
              · exact ⟨h, h2, h3⟩
              · exact absurd h3 hc
        · dsimp only
          split
          · refine List.pairwise_append.2 ⟨i5, List.pairwise_singleton _ _, fun x hx y hy => ?_⟩
            rw [List.mem_singleton.1 hy]; exact (i6 x hx).2
          · exact i5
        · dsimp only
          intro x hx
          split at hx
          · rcases List.mem_append.1 hx with hx | hx
            · have := i6 x hx; omega
            · rw [List.mem_singleton.1 hx]; omega
          · have := i6 x hx; omega
end
end Go.Proofs.Ytfbeggdbjpmppaa
namespace Go.Proofs.Ytfbeggdbjpmppaa
def prW (n : Nat) (w : Wish) : Pr := ⟨w.set.take n, w.cid, w.rev, w.top, w.prev, w.vec.take n⟩
def sameW (n : Nat) (a b : Wish) : Bool := prSame (prW n a) (a.set.take n) (a.vec.take n) (prW n b) (b.set.take n) (b.vec.take n)
theorem sameW_refl (n : Nat) (a : Wish) : sameW n a a = true := by
  unfold sameW prSame vidEq; simp
theorem sameW_rev {n : Nat} {a b : Wish} (h : a.rev ≠ b.rev) : sameW n a b = false := by
  unfold sameW prSame
  have : (((prW n a).rev == (prW n b).rev) : Bool) = false := by simpa [prW] using h
  rw [this]; simp
def lastSame (n : Nat) (l : List Lt) (s : St) : Bool := match l.getLast? with
  | some x => decide (x.inc = s.inc) && sameW n x.w s.own
  | none => false
def noteE (n : Nat) (E : Nat → List Lt) (i : Nat) (s : St) : Nat → List Lt := if lastSame n (E i) s = true then E else addE E i ⟨s.inc, s.own⟩
def upS (S : Nat → St) (i : Nat) (s : St) : Nat → St := fun k => if k = i then s else S k
theorem upS_same (S : Nat → St) (i : Nat) (s : St) : upS S i s i = s := if_pos rfl
theorem upS_ne (S : Nat → St) {i k : Nat} (s : St) (h : k ≠ i) : upS S i s k = S k := if_neg h
structure TI (n m : Nat) (fl : Int) (E : Nat → List Lt) (S : Nat → St) (D : List Dn) : Prop where
  n1 : 1 ≤ n
  n16 : n ≤ 16
  mn : m ≤ n
  f0 : 0 ≤ fl
  f1 : fl ≤ 4611686018427387902
  nd : ∀ i, i < m → (S i).n = n ∧ Ris (S i) ∧ Hrd (S i) ∧ NI E n fl i (S i)
  em : ∀ k, m ≤ k → E k = []
  ds : ∀ d ∈ D, ∃ e x, DI E n d (S d.pid) e x
section
variable {n m : Nat} {fl : Int} {E : Nat → List Lt} {S : Nat → St} {D : List Dn} {i j : Nat}
theorem TI.lt (T : TI n m fl E S D) {k : Nat} {x : Lt} (h : x ∈ E k) : k < m := Classical.byContradiction fun hc => by
  rw [T.em k (by omega)] at h; exact absurd h (by simp)
theorem TI.g (T : TI n m fl E S D) : EG E := ⟨fun k => by
    by_cases h : k < m
    · exact (T.nd k h).2.2.2.pw
    · rw [T.em k (by omega)]; exact .nil,
  fun k x hx => ((T.nd k (T.lt hx)).2.2.2.each x hx).1.inc1⟩
theorem TI.keep (T : TI n m fl E S D) (hi : i < m) {s : St} (hn : s.n = n) (hr : Ris s) (hh : Hrd s) (hN : NI E n fl i s) (hinc : s.inc = (S i).inc) (hv : (S i).vid.e ≤ s.vid.e) (ho : s.opn = true → (S i).opn = true) (hrev : s.own.rev = (S i).own.rev) : TI n m fl E (upS S i s) D := by
  refine ⟨T.n1, T.n16, T.mn, T.f0, T.f1, fun k hk => ?_, T.em, fun d hd => ?_⟩
  · by_cases e : k = i
    · subst e; rw [upS_same]; exact ⟨hn, hr, hh, hN⟩
    · rw [upS_ne S s e]; exact T.nd k hk
  · obtain ⟨e, x, h⟩ := T.ds d hd
    refine ⟨e, x, ⟨h.pid, h.mem, h.ei, h.inc, h.frm, h.fz, h.each, h.zero, h.ms, h.ld, h.aft, ?_⟩⟩
    by_cases e2 : d.pid = i
    · rw [e2, upS_same]
      have := h.now
      rw [e2] at this
      intro h3
      obtain ⟨h4, h5⟩ := this (by omega)
      exact ⟨by omega, fun h6 => by have := h5 (ho h6); omega⟩
    · rw [upS_ne S s e2]; exact h.now
theorem TI.growm (T : TI n m fl E S D) {m' : Nat} (hm : ∀ k, k < m' → k = i ∨ k < m) (hmm : m ≤ m') (hmn : m' ≤ n) (hi : i < m') {s : St} (hn : s.n = n) (hr : Ris s) (hh : Hrd s) (hN : NI (addE E i ⟨s.inc, s.own⟩) n fl i s)
    (hD : ∀ d e x, d.pid = i → DI E n d (S i) e x → (s.inc = d.inc → s.own.rev ≤ e.w.rev ∨ (e.w.cid < s.own.cid ∧ d.v.e ≤ s.own.top)) ∧ (s.inc = d.inc → d.v.e ≤ s.vid.e ∧ (s.opn = true → e.w.rev < s.own.rev))) :
    TI n m' fl (addE E i ⟨s.inc, s.own⟩) (upS S i s) D := by
  refine ⟨T.n1, T.n16, hmn, T.f0, T.f1, fun k hk => ?_, fun k hk => by rw [addE_ne E _ (by omega)]; exact T.em k (by omega), fun d hd => ?_⟩
  · by_cases e : k = i
    · subst e; rw [upS_same]; exact ⟨hn, hr, hh, hN⟩
    · rw [upS_ne S s e]
      obtain ⟨a1, a2, a3, a4⟩ := T.nd k ((hm k hk).resolve_left e)
      exact ⟨a1, a2, a3, a4.other _ e⟩
  · obtain ⟨e, x, h⟩ := T.ds d hd
    have h2 := fun (e2 : d.pid = i) => hD d e x e2 (by rw [← e2]; exact h)
    refine ⟨e, x, ⟨h.pid, addE_mono h.mem, h.ei, h.inc, h.frm, h.fz, fun q hq => ?_, h.zero, h.ms, h.ld, fun y hy hyi => ?_, ?_⟩⟩
    · obtain ⟨u, r⟩ := h.each q hq
      exact ⟨addE_mono u, r⟩
    · by_cases e2 : d.pid = i
      · rw [e2, addE_same] at hy
        rcases List.mem_append.1 hy with hy | hy
        · exact h.aft y (by rw [e2]; exact hy) hyi
        · rw [List.mem_singleton.1 hy] at hyi ⊢
          exact (h2 e2).1 hyi
      · rw [addE_ne E _ e2] at hy
        exact h.aft y hy hyi
    · by_cases e2 : d.pid = i
      · rw [e2, upS_same]; exact (h2 e2).2
      · rw [upS_ne S s e2]; exact h.now
theorem TI.grow (T : TI n m fl E S D) (hi : i < m) {s : St} (hn : s.n = n) (hr : Ris s) (hh : Hrd s) (hN : NI (addE E i ⟨s.inc, s.own⟩) n fl i s)
    (hD : ∀ d e x, d.pid = i → DI E n d (S i) e x → (s.inc = d.inc → s.own.rev ≤ e.w.rev ∨ (e.w.cid < s.own.cid ∧ d.v.e ≤ s.own.top)) ∧ (s.inc = d.inc → d.v.e ≤ s.vid.e ∧ (s.opn = true → e.w.rev < s.own.rev))) :
    TI n m fl (addE E i ⟨s.inc, s.own⟩) (upS S i s) D := T.growm (fun _ h => .inr h) (Nat.le_refl _) T.mn hi hn hr hh hN hD
theorem TI.last (T : TI n m fl E S D) (hi : i < m) : (E i).getLast? = some ⟨(S i).inc, (S i).own⟩ := (T.nd i hi).2.2.2.last
theorem noteE_same {s : St} (h : (E i).getLast? = some ⟨s.inc, s.own⟩) : noteE n E i s = E := by
  unfold noteE lastSame
  rw [h]
  simp [sameW_refl]
theorem noteE_rev {s t : St} (h : (E i).getLast? = some ⟨t.inc, t.own⟩) (hr : t.own.rev ≠ s.own.rev) : noteE n E i s = addE E i ⟨s.inc, s.own⟩ := by
  unfold noteE lastSame
  rw [h, if_neg]
  simp [sameW_rev hr]
theorem noteE_inc {s t : St} (h : (E i).getLast? = some ⟨t.inc, t.own⟩) (hr : t.inc ≠ s.inc) : noteE n E i s = addE E i ⟨s.inc, s.own⟩ := by
  unfold noteE lastSame
  rw [h, if_neg]
  simp [hr]
theorem noteE_nil {s : St} (h : E i = []) : noteE n E i s = addE E i ⟨s.inc, s.own⟩ := by
  unfold noteE lastSame
  rw [h, if_neg]
  simp
theorem begin_DI {s1 s : St} {d : Dn} {e : Lt} {x : Nat → Lt} {y : List Int} (h : DI E n d s e x) (hN : NI E n fl d.pid s) (h1 : s1.own = s.own) (h2 : s1.inc = s.inc) (h3 : s1.vid = s.vid) (ht : 0 ≤ fl) :
    ((s1.begin_ y).inc = d.inc → (s1.begin_ y).own.rev ≤ e.w.rev ∨ (e.w.cid < (s1.begin_ y).own.cid ∧ d.v.e ≤ (s1.begin_ y).own.top)) ∧ ((s1.begin_ y).inc = d.inc → d.v.e ≤ (s1.begin_ y).vid.e ∧ ((s1.begin_ y).opn = true → e.w.rev < (s1.begin_ y).own.rev)) := by
  have key : s.inc = d.inc → e.w.rev ≤ s.own.rev ∧ e.w.cid ≤ s.own.cid ∧ d.v.e ≤ s.vid.e ∧ s.vid ≠ Vid.zero := fun hi => by
    obtain ⟨u1, u2, -⟩ := hN.upto h.mem (h.inc.trans hi.symm)
    have u3 := (h.now hi).1
    refine ⟨u1, u2, u3, fun hz => ?_⟩
    have hme := h.ei.me
    have hi1 := h.ei.inc1
    obtain ⟨-, -, -, -, -, -, a1, a2, -⟩ := h.each d.pid (by omega)
    rw [hz] at u3
    have : d.v.e ≤ 0 := u3
    omega
  have e1 : (s1.begin_ y).inc = s.inc := h2
  have e2 : (s1.begin_ y).own.cid = s.own.cid + 1 := by show s1.own.cid + 1 = _; rw [h1]
  have e3 : (s1.begin_ y).own.rev = s.own.rev + 1 := by show s1.own.rev + 1 = _; rw [h1]
  have e4 : (s1.begin_ y).own.top = if s.vid = Vid.zero then s.own.top else s.vid.e := by show (if s1.vid = Vid.zero then s1.own.top else s1.vid.e) = _; rw [h1, h3]
  have e5 : (s1.begin_ y).vid = s.vid := h3
  rw [e1, e2, e3, e4, e5]
  constructor
  · intro hi
    obtain ⟨k1, k2, k3, k4⟩ := key hi
    rw [if_neg k4]
    exact .inr ⟨by omega, k3⟩
  · intro hi
    obtain ⟨k1, k2, k3, k4⟩ := key hi
    exact ⟨k3, fun _ => by omega⟩
theorem TI.begin_ (T : TI n m fl E S D) (hi : i < m) {s1 : St} {y : List Int} (h1 : s1.own = (S i).own) (h2 : s1.inc = (S i).inc) (h3 : s1.vid = (S i).vid) (hn : s1.n = n) (hN : NI E n fl i s1) (hr : Ris (s1.begin_ y)) : TI n m fl (noteE n E i (s1.begin_ y)) (upS S i (s1.begin_ y)) D := by
  rw [noteE_rev (T.last hi) (by show (S i).own.rev ≠ s1.own.rev + 1; rw [h1]; omega)]
  refine T.grow hi hn hr (begin_hrd _ _) (hN.begin_ hn hr) fun d e x hd h => ?_
  subst hd
  exact begin_DI h (T.nd _ hi).2.2.2 h1 h2 h3 T.f0
theorem TI.told (T : TI n m fl E S D) (hi : i < m) (l : List Int) : TI n m fl (noteE n E i ((S i).estimate l).2.2) (upS S i ((S i).estimate l).2.2) D := by
  obtain ⟨hn, hr, hh, hN⟩ := T.nd i hi
  have hr' := (estimate_ris hr l).1
  have same : TI n m fl (noteE n E i (S i)) (upS S i (S i)) D := by
    rw [noteE_same (T.last hi)]
    exact T.keep hi hn hr hh hN rfl (Int.le_refl _) id rfl
  unfold St.estimate at hr' ⊢
  split
  · exact same
  · rename_i h1
    rw [if_neg h1] at hr'
    split
    · exact same
    · rename_i h2
      rw [if_neg h2] at hr'
      split
      · exact same
      · rename_i h3
        rw [if_neg h3] at hr'
        exact T.begin_ hi rfl rfl rfl hn hN hr'
theorem wish_prW {x : Lt} {k : Nat} (h : EI n k x) : (prW n x.w).wish = x.w := by
  show Wish.mk (pad (x.w.set.take n)) (pad (x.w.vec.take n)) x.w.cid x.w.rev x.w.top x.w.prev = x.w
  rw [← h.pset, ← h.pvec]
theorem TI.hand (T : TI n m fl E S D) (hi : i < m) {x : Lt} (hx : x ∈ E j) : TI n m fl (noteE n E i ((S i).take j x.inc (prW n x.w)).2.2) (upS S i ((S i).take j x.inc (prW n x.w)).2.2) D := by
  obtain ⟨hn, hr, hh, hN⟩ := T.nd i hi
  have hr' := (take_ris hr j x.inc (prW n x.w)).1
  have hh' := take_hrd hh j x.inc (prW n x.w)
  have hwish := wish_prW ((T.nd j (T.lt hx)).2.2.2.each x hx).1
  have same : TI n m fl (noteE n E i (S i)) (upS S i (S i)) D := by
    rw [noteE_same (T.last hi)]
    exact T.keep hi hn hr hh hN rfl (Int.le_refl _) id rfl
  unfold St.take at hr' hh' ⊢
  split
  · exact same
  · rename_i h1
    rw [if_neg h1] at hr' hh'
    split
    · exact same
    · rename_i h2
      rw [if_neg h2] at hr' hh'
      split
      · exact same
      · rename_i h3
        rw [if_neg h3] at hr' hh'
        split
        · exact same
        · rename_i h4
          rw [if_neg h4] at hr' hh'
          rw [Int.toNat_natCast, hwish] at hr' hh' ⊢
          rw [Int.toNat_natCast] at h3 h4
          have hj : j < 16 := by have := T.lt hx; have := T.mn; have := T.n16; omega
          have hN1 : NI E n fl i ((S i).put j x.inc x.w) := hN.put T.g hr.inv.oth hj hx h3 h4
          dsimp only at hr' hh' ⊢
          split
          · rename_i h5
            rw [if_pos h5] at hr' hh'
            split
            · rename_i h6
              rw [if_pos h6] at hr' hh'
              rw [noteE_same (show (E i).getLast? = some ⟨((S i).put j x.inc x.w).inc, ((S i).put j x.inc x.w).own⟩ from T.last hi)]
              exact T.keep hi hn hr' hh' hN1 rfl (Int.le_refl _) id rfl
            · rename_i h6
              rw [if_neg h6] at hr' hh'
              split
              · rename_i h7
                rw [if_pos h7] at hr' hh'
                rw [noteE_rev (T.last hi) (by show (S i).own.rev ≠ (S i).own.rev + 1; omega)]
                refine T.grow hi hn hr' hh' (hN1.vec hn h5 rfl hr') fun d e z hd h => ?_
                subst hd
                have hop : (S d.pid).opn = true := h5
                constructor
                · intro hinc
                  have hinc' : (S d.pid).inc = d.inc := hinc
                  have h8 := (h.now hinc').2 hop
                  rcases h.aft _ hN.here hinc' with h9 | h9
                  · simp only at h9; omega
                  · exact .inr h9
                · intro hinc
                  obtain ⟨h8, h9⟩ := h.now hinc
                  exact ⟨h8, fun _ => by have := h9 hop; show e.w.rev < (S d.pid).own.rev + 1; omega⟩
              · exact same
          · rename_i h5
            rw [if_neg h5] at hr' hh'
            split
            · rename_i h6
              rw [if_pos h6] at hr' hh'
              rw [noteE_same (show (E i).getLast? = some ⟨((S i).put j x.inc x.w).inc, ((S i).put j x.inc x.w).own⟩ from T.last hi)]
              exact T.keep hi hn hr' hh' hN1 rfl (Int.le_refl _) id rfl
            · rename_i h6
              rw [if_neg h6] at hr' hh'
              split
              · exact same
              · rename_i h7
                rw [if_neg h7] at hr' hh'
                exact T.begin_ hi rfl rfl rfl hn hN1 hr'
end
end Go.Proofs.Ytfbeggdbjpmppaa
namespace Go.Proofs.Ytfbeggdbjpmppaa
section
variable {n m : Nat} {fl : Int} {E : Nat → List Lt} {S : Nat → St} {D : List Dn} {i j : Nat}
theorem new_lt {n self : Nat} {inc floor : Int} (q : Nat) : (newSt n self inc floor).lt q = Lt.zero := by
  show (List.replicate 16 Lt.zero)[q]?.getD Lt.zero = _
  rw [List.getElem?_replicate]; split <;> rfl
theorem new_vec {n self : Nat} {inc floor : Int} {q : Nat} (h : q ≠ self) : nth (newSt n self inc floor).own.vec q = 0 := by
  show nth (zeros.set self (floor + 1)) q = 0
  rw [nth_set (fun e => h e.symm), nth_zeros]
theorem TI.boot (T : TI n m fl E S D) (hi : i < n) (him : i ≤ m) {inc : Int} (h1 : 1 ≤ inc) (h2 : inc ≤ 4611686018427387904) (hlt : i < m → inc = (S i).inc + 1) :
    TI n (max m (i + 1)) fl (noteE n E i (newSt n i inc fl)) (upS S i (newSt n i inc fl)) D := by
  have hb : newB n i inc fl = true := by
    unfold newB; have := T.n16; have := T.f0; have := T.f1; exact decide_eq_true (by omega)
  have hf : fl ≠ 4611686018427387904 := by have := T.f1; omega
  have hr := new_ris hb hf
  have hh := new_hrd hb
  have hold : ∀ e ∈ E i, EI n i e ∧ e.inc < inc := fun e he => by
    have hm := T.lt he
    obtain ⟨a, b⟩ := (T.nd i hm).2.2.2.each e he
    exact ⟨a, by rw [hlt hm]; omega⟩
  have hnote : noteE n E i (newSt n i inc fl) = addE E i ⟨(newSt n i inc fl).inc, (newSt n i inc fl).own⟩ := by
    by_cases hm : i < m
    · exact noteE_inc (T.last hm) (by show (S i).inc ≠ inc; rw [hlt hm]; omega)
    · exact noteE_nil (T.em i (by omega))
  rw [hnote]
  have ei : EI n i ⟨(newSt n i inc fl).inc, (newSt n i inc fl).own⟩ := EI.of hr rfl rfl (by show validB Vid.zero n = true; unfold validB; simp) (by show (1 : Int) ≤ 1; omega)
  have e := addE_same E i ⟨(newSt n i inc fl).inc, (newSt n i inc fl).own⟩
  have hN : NI (addE E i ⟨(newSt n i inc fl).inc, (newSt n i inc fl).own⟩) n fl i (newSt n i inc fl) := by
    refine ⟨rfl, by rw [e]; simp, fun a ha => ?_, ?_, fun a ha q hq => ?_, fun q hq => absurd (by rw [new_lt]; rfl) hq, fun a ha hai q hq hv => ?_, fun _ => rfl, .inl rfl, Int.le_refl _, by show validB Vid.zero n = true; unfold validB; simp⟩
    · rw [e] at ha
      rcases List.mem_append.1 ha with ha | ha
      · exact ⟨(hold a ha).1, Int.le_of_lt (hold a ha).2⟩
      · rw [List.mem_singleton.1 ha]; exact ⟨ei, Int.le_refl _⟩
    · rw [e]
      refine List.pairwise_append.2 ⟨T.g.pw i, List.pairwise_singleton _ _, fun a ha b hb => ?_⟩
      rw [List.mem_singleton.1 hb]
      intro hi2
      have : a.inc = inc := hi2
      have := (hold a ha).2; omega
    · rw [e] at ha
      rcases List.mem_append.1 ha with ha | ha
      · obtain ⟨z, hz, r⟩ := (T.nd i (T.lt ha)).2.2.2.src a ha q hq
        exact ⟨z, addE_mono hz, r⟩
      · rw [List.mem_singleton.1 ha] at hq ⊢
        by_cases hqi : q = i
        · subst hqi
          exact ⟨_, addE_new E q _, ei.me.symm, rfl, ei.mev.symm⟩
        · exact absurd (new_vec (n := n) hqi) hq
    · rw [e] at ha
      rcases List.mem_append.1 ha with ha | ha
      · have := (hold a ha).2
        have : a.inc = inc := hai
        omega
      · rw [List.mem_singleton.1 ha] at hv
        exact absurd (new_vec (n := n) hq) hv
  refine T.growm (fun k hk => by omega) (by omega) (by have := T.mn; omega) (by omega) rfl hr hh hN fun d a x hd h => ?_
  subst hd
  have hne : (newSt n d.pid inc fl).inc ≠ d.inc := by
    show inc ≠ d.inc
    have := (hold a h.mem).2
    have := h.inc
    omega
  exact ⟨fun hc => absurd hc hne, fun hc => absurd hc hne⟩
theorem EI.over {k : Nat} {x : Lt} (h : EI n k x) {q : Nat} (hq : nth x.w.set q ≠ 0) : q < n := Classical.byContradiction fun hc => by
  rw [h.pset] at hq
  exact hq (nth_pad_over (by rw [List.length_take]; omega))
theorem NI.vzero {s : St} (h : NI E n fl i s) (g : EG E) {e : Lt} (he : e ∈ E i) {q : Nat} (hq : nth e.w.vec q ≠ 0) : nth e.w.set q ≠ 0 := by
  obtain ⟨z, hz, z1, -⟩ := h.src e he q hq
  have := g.inc1 q z hz
  omega
theorem nth_le {l : List Int} {q : Nat} (h : ∀ v ∈ l, 0 ≤ v ∧ v ≤ 4611686018427387904) : 0 ≤ nth l q ∧ nth l q ≤ 4611686018427387904 := by
  unfold nth
  cases e : l[q]? with
  | none => exact ⟨Int.le_refl _, by decide⟩
  | some v => exact h v (List.mem_of_getElem? e)
theorem TI.good (T : TI n m fl E S D) {k : Nat} {x : Lt} (hx : x ∈ E k) : (prW n x.w).goodB k x.inc n = true := by
  have hN := (T.nd k (T.lt hx)).2.2.2
  obtain ⟨h, -⟩ := hN.each x hx
  have hk : k < n := Nat.lt_of_lt_of_le (T.lt hx) T.mn
  have pk : ∀ l : List Int, l.length = 16 → (∀ v ∈ l, 0 ≤ v ∧ v ≤ 4611686018427387904) → packB (l.take n) n = true := fun l hl hv => by
    unfold packB
    rw [List.length_take_of_le (by have := T.n16; omega)]
    simp only [decide_true, Bool.true_and, List.all_eq_true]
    intro v hm
    exact decide_eq_true (hv v (List.mem_of_mem_take hm))
  unfold Pr.goodB
  simp only [Bool.and_eq_true, decide_eq_true_eq]
  refine ⟨⟨⟨⟨⟨⟨pk _ h.ok.set h.ok.setv, pk _ h.ok.vec h.ok.vecv⟩, ?_⟩, ?_⟩, ?_⟩, ?_⟩, h.pval⟩
  · unfold Pr.numB
    have a := h.ok.cid; have b := h.ok.rev; have c := h.ok.top; have d := h.cid1
    exact decide_eq_true ⟨d, a.2, h.rev1, b.2, c.1, c.2⟩
  · unfold Pr.vecB
    rw [List.all_eq_true]
    intro q hq
    show (!(decide (nth (pad (x.w.set.take n)) q = 0) && decide (nth (pad (x.w.vec.take n)) q ≠ 0))) = true
    rw [← h.pset, ← h.pvec]
    by_cases hz : nth x.w.vec q = 0
    · simp [hz]
    · simp [hN.vzero T.g hx hz]
  · show nth (pad (x.w.set.take n)) k = x.inc
    rw [← h.pset]; exact h.me
  · show nth (pad (x.w.vec.take n)) k = x.w.cid
    rw [← h.pvec]; exact h.mev
theorem TI.inst (T : TI n m fl E S D) (hi : i < m) {a : Ag} (ha : (S i).agreed = some a) :
    TI n m fl E (upS S i (S i).install) (D ++ [⟨i, (S i).inc, (S i).vid, a.vid, a.mem, a.trans⟩]) ∧ (∀ d ∈ D, Fit d ⟨i, (S i).inc, (S i).vid, a.vid, a.mem, a.trans⟩) ∧
    (S i).vid.e < a.vid.e ∧ fl < a.vid.e ∧ holdsI a.mem i (S i).inc ≠ 0 ∧ (i : Int) ∈ a.trans ∧ a.trans.Pairwise (· < ·) ∧ ∀ x ∈ a.trans, 0 ≤ x ∧ x < n := by
  obtain ⟨hn, hr, hh, hN⟩ := T.nd i hi
  have hf0 := T.f0
  obtain ⟨r1, r2, r3, r4, r5, r6, r7, r8, r9, r10, r11, r12⟩ := install_ris hr ha
  have hop : (S i).opn = true := by
    unfold St.agreed at ha
    split at ha
    · assumption
    · cases ha
  have hag : (S i).agTo n = some a := by
    unfold St.agreed at ha
    rw [if_pos hop, hn] at ha; exact ha
  obtain ⟨f1, f2, f3, f4, f5, f6⟩ := agTo_facts hag
  have hself := hN.self
  have hme : nth (S i).own.set i = (S i).inc := by have := hr.inv.me; rw [hself] at this; exact this
  have hmev : nth (S i).own.vec i = (S i).own.cid := by have := hr.me; rw [hself] at this; exact this
  have hinc1 := hr.inv.inc1
  have hin : i < n := Nat.lt_of_lt_of_le hi T.mn
  have mem1 : (⟨i, nth (S i).own.set i, nth (S i).own.vec i⟩ : Mb) ∈ a.mem := by rw [f1]; exact memOf_in hin (by omega)
  have hne : a.mem ≠ [] := List.ne_nil_of_mem mem1
  have hE := vid_e hne
  have hpv : (S i).own.prev = (S i).vid := hN.pv (.inr hop)
  have hei : EI n i ⟨(S i).inc, (S i).own⟩ := (hN.each _ hN.here).1
  have hft := hN.ft
  have hl : i < a.trans.length + i + 1 := by omega
  have hvv : validB a.vid n = true := by
    cases hm : a.mem with
    | nil => exact absurd hm hne
    | cons y r =>
      obtain ⟨q, q1, q2, q3⟩ := memOf_mem (n := n) (w := (S i).own) (m := y) (by rw [← f1, hm]; exact List.mem_cons_self)
      have hv : a.vid = ⟨a.top + 1, q, nth (S i).own.set q, nth (S i).own.vec q⟩ := by unfold Ag.vid; rw [hm, q3]
      have ht := agTo_top hr.inv hag
      have s1 := nth_le (q := q) hr.inv.own.setv
      have s2 := nth_le (q := q) hr.inv.own.vecv
      have s3 := (f3 q q1 q2).1
      rw [hv]
      unfold validB cntB
      simp only [Bool.or_eq_true, Bool.and_eq_true, decide_eq_true_eq]
      right
      omega
  have hN' : NI E n fl i (S i).install := by
    have e0 : (S i).install = { S i with vid := a.vid, mem := a.mem, opn := false } := by unfold St.install; rw [ha]
    rw [e0]
    refine ⟨hN.self, hN.last, hN.each, hN.pw, hN.src, hN.kn, hN.low, fun h => ?_, .inr (by show fl < a.vid.e; omega), hN.ft, hvv⟩
    rcases h with h | h
    · have h' : a.vid = Vid.zero := h
      rw [h'] at r2 hE
      have : (0 : Int) = a.top + 1 := hE
      omega
    · cases h
  have T1 := T.keep hi (r10.trans hn) r1 (install_hrd hh) hN' r12 (by rw [r6]; omega) (fun h => by rw [r9] at h; cases h) (by rw [r8])
  have dnew : DI E n ⟨i, (S i).inc, (S i).vid, a.vid, a.mem, a.trans⟩ (S i).install ⟨(S i).inc, (S i).own⟩ (fun q => if q = i then ⟨(S i).inc, (S i).own⟩ else (S i).lt q) := by
    refine ⟨hin, hN.here, hei, rfl, hpv.symm, ?_, fun q hq => ?_, fun q hq => hN.vzero T.g hN.here hq, f1, ?_, fun y hy hyi => .inl (hN.upto hy hyi).1, fun _ => ⟨by rw [r6]; exact Int.le_refl _, fun h => by rw [r9] at h; cases h⟩⟩
    · rcases hN.vz with h | h
      · exact .inl h
      · exact .inr (by show 1 ≤ (S i).vid.e; omega)
    · have hqn : q < n := hei.over hq
      obtain ⟨g1, g2, g3⟩ := f3 q hqn hq
      have g4 := f4 q
      by_cases hqi : q = i
      · subst hqi
        dsimp only
        rw [if_pos rfl]
        have htop := hr.inv.own.top
        exact ⟨hN.here, hme.symm, rfl, hmev.symm, g1, rfl, by show (S q).own.top < a.vid.e; omega, htop.1, ⟨fun _ => .inl rfl, fun _ => g4.2 ⟨hqn, hq, .inl hself.symm⟩⟩⟩
      · dsimp only
        rw [if_neg hqi]
        have hw : (S i).wishOf q = ((S i).lt q).w := by unfold St.wishOf; rw [if_neg (by rw [hself]; exact hqi)]
        rw [hw] at g2 g3 g4
        have hv : (S i).own.vec = (S i).heard := hh hop
        obtain ⟨k0, k1, k2, k3⟩ := heard_src (t := S i) (q := q) (by rw [hself]; exact hqi) (by rw [← hv]; exact g1)
        rw [← hv] at k3
        refine ⟨hN.kn q k0, k1, k2, k3, g1, g2, by show _ < a.vid.e; omega, (hr.inv.lt q).top.1, ?_⟩
        rw [g4, hself, hpv]
        constructor
        · rintro ⟨-, -, h⟩; exact h
        · intro h; exact ⟨hqn, hq, h⟩
    · cases hm : a.mem with
      | nil => exact absurd hm hne
      | cons y r => exact ⟨y, r, rfl, by show a.vid.l = _; unfold Ag.vid; rw [hm], by show a.vid.i = _; unfold Ag.vid; rw [hm], by show a.vid.c = _; unfold Ag.vid; rw [hm]⟩
  refine ⟨⟨T1.n1, T1.n16, T1.mn, T1.f0, T1.f1, T1.nd, T1.em, fun d hd => ?_⟩, fun d hd => ?_, r2, by omega, by rw [hself] at r3; rw [r3]; have := hr.cid1; omega, (f4 i).2 ⟨hin, by omega, .inl hself.symm⟩, f5, f6⟩
  · rcases List.mem_append.1 hd with hd | hd
    · exact T1.ds d hd
    · rw [List.mem_singleton.1 hd]
      exact ⟨_, _, by dsimp only; rw [upS_same]; exact dnew⟩
  · obtain ⟨e, x, h⟩ := T.ds d hd
    refine two_fit T.g h dnew fun hp hi2 => ?_
    have hp' : d.pid = i := hp
    have hi' : d.inc = (S i).inc := hi2
    have := h.now (by rw [hp']; exact hi'.symm)
    rw [hp'] at this
    show d.v.e ≠ a.vid.e
    omega
end
end Go.Proofs.Ytfbeggdbjpmppaa
namespace Go.Proofs.Ytfbeggdbjpmppaa
structure Tm where
  n : Nat
  fl : Int
  E : Nat → List Lt
  S : Nat → St
  D : List Dn
  sp : Bool
def Tm.upd (t : Tm) (i : Nat) (s : St) : Tm := { t with S := upS t.S i s, E := noteE t.n t.E i s }
def mbit (mask : Int) (q : Nat) : Bool := decide ((mask / 2 ^ q).tmod 2 = 1)
def Tm.setOf (t : Tm) (i : Nat) (mask : Int) : List Int := (List.range t.n).map fun q => if q = i ∨ mbit mask q = true then (t.S q).inc else 0
def Tm.told (t : Tm) (i : Nat) (mask : Int) : Tm := { t.upd i ((t.S i).estimate (t.setOf i mask)).2.2 with sp := t.sp || decide (((t.S i).estimate (t.setOf i mask)).2.1 = 3) }
def Tm.hand (t : Tm) (i j : Nat) (x : Lt) : Tm := if i = j then t else { t.upd i ((t.S i).take j x.inc (prW t.n x.w)).2.2 with sp := t.sp || decide (((t.S i).take j x.inc (prW t.n x.w)).2.1 = 3) }
def Tm.boot (t : Tm) (i : Nat) : Tm := t.upd i (newSt t.n i ((t.S i).inc + 1) t.fl)
def Tm.dn (t : Tm) (i : Nat) (a : Ag) : Dn := ⟨i, (t.S i).inc, (t.S i).vid, a.vid, a.mem, a.trans⟩
def Tm.inst (t : Tm) (i : Nat) : Tm := match (t.S i).agreed with
  | none => t
  | some a => { t.upd i (t.S i).install with D := t.D ++ [t.dn i a] }
def Tm.node (t : Tm) (x : Int) : Nat := (if x.tmod t.n < 0 then x.tmod t.n + t.n else x.tmod t.n).toNat
structure Sp where
  kd : Int
  i : Int
  j : Int
  k : Int
  m : Int
def pickK (l : List Lt) (k : Int) : Lt := (l[(if k.tmod l.length < 0 then k.tmod l.length + l.length else k.tmod l.length).toNat]?).getD Lt.zero
def lastK (l : List Lt) : Lt := l.getLast?.getD Lt.zero
def Tm.step (t : Tm) (s : Sp) : Tm :=
  if s.kd = 1 then t.told (t.node s.i) s.m
  else if s.kd = 2 then t.hand (t.node s.i) (t.node s.j) (pickK (t.E (t.node s.j)) s.k)
  else if s.kd = 3 then t.hand (t.node s.i) (t.node s.j) (lastK (t.E (t.node s.j)))
  else if s.kd = 4 then t.inst (t.node s.i)
  else if s.kd = 5 then t.boot (t.node s.i)
  else t
def Tm.Ok (m : Nat) (t : Tm) : Prop := TI t.n m t.fl t.E t.S t.D
section
variable {t : Tm} {m i j : Nat}
theorem Tm.Ok.told (T : t.Ok m) (hi : i < m) (mask : Int) : (t.told i mask).Ok m := TI.told T hi _
theorem Tm.Ok.hand (T : t.Ok m) (hi : i < m) {x : Lt} (hx : x ∈ t.E j) : (t.hand i j x).Ok m := by
  unfold Tm.hand
  split
  · exact T
  · exact TI.hand T hi hx
theorem Tm.Ok.boot (T : t.Ok m) (hi : i < t.n) (him : i ≤ m) (h1 : 0 ≤ (t.S i).inc) (h2 : (t.S i).inc < 4611686018427387904) : (t.boot i).Ok (max m (i + 1)) := TI.boot T hi him (by omega) (by omega) fun _ => rfl
theorem Tm.Ok.note (T : t.Ok m) (hi : i < m) {s : St} (h1 : s.inc = (t.S i).inc) (h2 : s.own = (t.S i).own) : noteE t.n t.E i s = t.E := by
  refine noteE_same ?_
  rw [h1, h2]; exact TI.last T hi
theorem Tm.inst_none (h : (t.S i).agreed = none) : t.inst i = t := by unfold Tm.inst; rw [h]
theorem Tm.inst_some {a : Ag} (h : (t.S i).agreed = some a) : t.inst i = { t.upd i (t.S i).install with D := t.D ++ [t.dn i a] } := by unfold Tm.inst; rw [h]
theorem Tm.Ok.inst (T : t.Ok m) (hi : i < m) : (t.inst i).Ok m := by
  cases ha : (t.S i).agreed with
  | none => rw [Tm.inst_none ha]; exact T
  | some a =>
    rw [Tm.inst_some ha]
    have hr := (install_ris (T.nd i hi).2.1 ha).2.2.2.2.2.2.2
    have := (TI.inst T hi ha).1
    show TI t.n m t.fl (noteE t.n t.E i (t.S i).install) _ _
    rw [T.note hi hr.2.2.2.2 hr.1]
    exact this
theorem Tm.node_lt (hn : 1 ≤ t.n) (x : Int) : t.node x < t.n := by
  unfold Tm.node
  have h1 := Int.tmod_lt_of_pos x (by omega : (0 : Int) < t.n)
  have h2 : -(t.n : Int) < x.tmod t.n := by
    have := Int.lt_tmod_of_pos x (by omega : (0 : Int) < t.n); omega
  split <;> omega
theorem lastK_mem {l : List Lt} (h : l ≠ []) : lastK l ∈ l := by
  unfold lastK
  rw [List.getLast?_eq_some_getLast h]
  exact List.getLast_mem h
theorem pickK_lt {n : Nat} (h : 0 < n) (k : Int) : (if k.tmod n < 0 then k.tmod n + n else k.tmod n).toNat < n := by
  have h1 := Int.tmod_lt_of_pos k (by omega : (0 : Int) < n)
  have h2 := Int.lt_tmod_of_pos k (by omega : (0 : Int) < n)
  split <;> omega
theorem pickK_mem {l : List Lt} (h : l ≠ []) (k : Int) : pickK l k ∈ l := by
  unfold pickK
  have := pickK_lt (List.length_pos_iff.2 h) k
  rw [List.getElem?_eq_getElem this]
  exact List.getElem_mem _
theorem Tm.Ok.ne (T : t.Ok m) (hi : i < m) : t.E i ≠ [] := fun e => by
  have := TI.last T hi
  rw [e] at this; cases this
theorem Tm.Ok.step (T : t.Ok t.n) {b : Int} (hb : ∀ i, i < t.n → (t.S i).inc ≤ b) (hb2 : b < 4611686018427387904) (s : Sp) : (t.step s).Ok t.n := by
  have hn : ∀ x, t.node x < t.n := Tm.node_lt T.n1
  unfold Tm.step
  split
  · exact T.told (hn _) _
  · split
    · exact T.hand (hn _) (pickK_mem (T.ne (hn _)) _)
    · split
      · exact T.hand (hn _) (lastK_mem (T.ne (hn _)))
      · split
        · exact T.inst (hn _)
        · split
          · have h1 := (T.nd _ (hn s.i)).2.1.inv.inc1
            have := T.boot (hn s.i) (Nat.le_of_lt (hn s.i)) (by omega) (by have := hb _ (hn s.i); omega)
            rw [Nat.max_eq_left (by have := hn s.i; omega)] at this
            exact this
          · exact T
end
end Go.Proofs.Ytfbeggdbjpmppaa
namespace Go.Proofs.Ytfbeggdbjpmppaa
open Go Go.RowKit
structure Ro (R : Nat → Prop) (K K' : Nat → Nat) (w w' : World) : Prop where
  os : w'.os = w.os
  tape : w'.tape = w.tape
  output : w'.output = w.output
  size : w.heap.size ≤ w'.heap.size
  same : ∀ b, b < w.heap.size → ¬ R (K b) → w'.heap[b]? = w.heap[b]?
  kk : ∀ b, b < w.heap.size → K' b = K b
section
variable {R R' : Nat → Prop} {K K' K'' : Nat → Nat} {w w' w'' : World}
theorem Ro.refl (R : Nat → Prop) (K : Nat → Nat) (w : World) : Ro R K K w w := ⟨rfl, rfl, rfl, Nat.le_refl _, fun _ _ _ => rfl, fun _ _ => rfl⟩
theorem Ro.trans (a : Ro R K K' w w') (b : Ro R K' K'' w' w'') : Ro R K K'' w w'' :=
  ⟨b.os.trans a.os, b.tape.trans a.tape, b.output.trans a.output, Nat.le_trans a.size b.size, fun k hk hn => (b.same k (Nat.lt_of_lt_of_le hk a.size) (by rw [a.kk k hk]; exact hn)).trans (a.same k hk hn), fun k hk => (b.kk k (Nat.lt_of_lt_of_le hk a.size)).trans (a.kk k hk)⟩
theorem Ro.more (a : Ro R K K' w w') (h : ∀ r, R r → R' r) : Ro R' K K' w w' := ⟨a.os, a.tape, a.output, a.size, fun k hk hn => a.same k hk (fun e => hn (h _ e)), a.kk⟩
theorem Ro.below (hb : Below w.heap.size w w') : Ro R K K w w' := ⟨hb.os, hb.tape, hb.output, hb.size, fun k hk _ => hb.block k hk, fun _ _ => rfl⟩
theorem Ro.grown {row : Option Nat} (hg : w.grownBy w' row) (hr : ∀ b, row = some b → R (K b)) : Ro R K K w w' := ⟨hg.os, hg.tape, hg.output, hg.size, fun k hk hn => hg.block k hk (fun e => hn (hr k e.symm)), fun _ _ => rfl⟩
theorem Ro.cell {b : Nat} (hr : R (K b)) (o : Nat) (v : Value) : Ro R K K w (w.setCell ⟨b, o, none⟩ v) := .grown (grown_cell w b o v) fun k hk => by injection hk with hk; rw [← hk]; exact hr
theorem Ro.role (a : Ro R K K w w') (h : ∀ b, b < w.heap.size → K' b = K b) : Ro R K K' w w' := ⟨a.os, a.tape, a.output, a.size, a.same, h⟩
theorem Ro.drew (a : Ro R K K' w w') : Ro R K K' w w'.drew := ⟨a.os, a.tape, a.output, a.size, a.same, a.kk⟩
end
def RowK {α : Type} (w : World) (K : Nat → Nat) (sz : Nat) (enc : α → List Value) (A : Option Addr) (l : List α) : Prop :=
  0 < l.length → ∃ b off, A = some ⟨b, off, none⟩ ∧ b < w.heap.size ∧ K b = 0 ∧ ∀ k x, l[k]? = some x → ∀ j u, (enc x)[j]? = some u → w.cell? ⟨b, off + k * sz + j, none⟩ = some u
structure OwnR {α : Type} (w : World) (K : Nat → Nat) (r : Nat) (e : TypeId) (sz : Nat) (enc : α → List Value) (A : Option Addr) (c : Nat) (l : List α) : Prop where
  own : Owns w 0 e sz enc A c l
  rl : ∀ b, blk A = some b → K b = r
section
variable {α : Type} {R : Nat → Prop} {K K' : Nat → Nat} {w w' : World} {sz c r : Nat} {e : TypeId} {enc : α → List Value} {A : Option Addr} {l : List α}
theorem RowK.row (h : RowK w K sz enc A l) : RowAt w w.heap.size sz enc A l := fun h0 => by
  obtain ⟨g, off, e, h1, _, h3⟩ := h h0
  exact ⟨g, off, e, h1, h3⟩
theorem RowK.ro (h : RowK w K sz enc A l) (q : Ro R K K' w w') (h0 : ¬ R 0) : RowK w' K' sz enc A l := fun hl => by
  obtain ⟨g, off, e, h1, h2, h3⟩ := h hl
  have hq := q.same g h1 (by rw [h2]; exact h0)
  exact ⟨g, off, e, Nat.lt_of_lt_of_le h1 q.size, (q.kk g h1).trans h2, fun k x hx j u hu => (World.cell?_of_block (a := ⟨g, _, none⟩) hq).trans (h3 k x hx j u hu)⟩
theorem RowK.new {lo : Nat} (h : RowN w lo sz enc A l) (hK : ∀ b, lo ≤ b → K b = 0) : RowK w K sz enc A l := fun h0 => by
  obtain ⟨g, off, e, h1, h2, h3⟩ := h h0
  exact ⟨g, off, e, h2, hK g h1, h3⟩
theorem RowK.at_ (h : RowAt w w.heap.size sz enc A l) (hA : ∀ b, blk A = some b → K b = 0) : RowK w K sz enc A l := fun h0 => by
  obtain ⟨g, off, e, h1, h3⟩ := h h0
  exact ⟨g, off, e, h1, hA g (by rw [e]; rfl), h3⟩
theorem OwnR.ro (h : OwnR w K r e sz enc A c l) (q : Ro R K K' w w') (hr : ¬ R r) : OwnR w' K' r e sz enc A c l :=
  ⟨h.own.same fun g hg => q.same g (h.own.lo g hg).2 (by rw [h.rl g hg]; exact hr), fun b hb => (q.kk b (h.own.lo b hb).2).trans (h.rl b hb)⟩
end
structure SaX where
  x : Lt
  S : Option Addr
  cS : Nat
  V : Option Addr
  cV : Nat
def eSa (n : Nat) (y : SaX) : List Value := [.int .i64 y.x.inc, .slice y.S n y.cS, .int .i64 y.x.w.cid, .int .i64 y.x.w.rev, .int .i64 y.x.w.top, .int .i64 y.x.w.prev.e, .int .i64 y.x.w.prev.l, .int .i64 y.x.w.prev.i, .int .i64 y.x.w.prev.c, .slice y.V n y.cV]
structure EvX where
  A : Option Addr
  c : Nat
  l : List SaX
structure DnX where
  d : Dn
  M : Option Addr
  cM : Nat
  T : Option Addr
  cT : Nat
def eDn (y : DnX) : List Value := [.int .i64 y.d.pid, .int .i64 y.d.inc, .int .i64 y.d.frm.e, .int .i64 y.d.frm.l, .int .i64 y.d.frm.i, .int .i64 y.d.frm.c, .int .i64 y.d.v.e, .int .i64 y.d.v.l, .int .i64 y.d.v.i, .int .i64 y.d.v.c, .slice y.M y.d.mem.length y.cM, .slice y.T y.d.tr.length y.cT]
def ePtr (o : Option Nat) : List Value := [.pointer (o.map fun b => ⟨b, 0, none⟩)]
def eSl (v : EvX) : List Value := [.slice v.A v.l.length v.c]
structure TX where
  tA : Option Addr
  tc : Nat
  iA : Option Addr
  ic : Nat
  eA : Option Addr
  ec : Nat
  dA : Option Addr
  dc : Nat
  ag : Nat → Nat
  M : Nat → Option Addr
  cM : Nat → Nat
  ev : Nat → EvX
  dl : List DnX
abbrev tmL (t : Tm) (z : Nat) (X : TX) : List Value := [.int .i64 t.n, .int .i64 t.fl, .slice X.tA z X.tc, .slice X.iA z X.ic, .slice X.eA z X.ec, .slice X.dA X.dl.length X.dc, .bool t.sp]
structure AgK (w : World) (K : Nat → Nat) (i b : Nat) (s : St) (M : Option Addr) (cM : Nat) : Prop where
  ag : AgAt w b s M cM
  hb : b < w.heap.size
  kb : K b = 10 + 2 * i
  row : RowK w K 3 eMb M s.mem
structure EvK (w : World) (K : Nat → Nat) (n i : Nat) (v : EvX) (E : List Lt) : Prop where
  own : OwnR w K (11 + 2 * i) 33 10 (eSa n) v.A v.c v.l
  mp : v.l.map (·.x) = E
  rows : ∀ y ∈ v.l, RowK w K 1 eInt y.S (y.x.w.set.take n) ∧ RowK w K 1 eInt y.V (y.x.w.vec.take n)
def ptrs (z m : Nat) (ag : Nat → Nat) : List (Option Nat) := (List.range z).map fun i => if i < m then some (ag i) else none
def incs (z : Nat) (S : Nat → St) : List Int := (List.range z).map fun i => (S i).inc
structure TmM (w : World) (K : Nat → Nat) (h z m : Nat) (t : Tm) (X : TX) : Prop where
  kz : ∀ b, w.heap.size ≤ b → K b = 0
  hs : h < w.heap.size
  hk : K h = 1
  hr : w.rangeAt h 0 (tmL t z X)
  ht : w.there h 0 7
  a2 : OwnR w K 2 48 1 ePtr X.tA X.tc (ptrs z m X.ag)
  a3 : OwnR w K 3 3 1 eInt X.iA X.ic (incs z t.S)
  a4 : OwnR w K 4 34 1 eSl X.eA X.ec ((List.range z).map X.ev)
  a5 : OwnR w K 5 52 12 eDn X.dA X.dc X.dl
  dm : X.dl.map (·.d) = t.D
  dr : ∀ y ∈ X.dl, RowK w K 3 eMb y.M y.d.mem ∧ RowK w K 1 eInt y.T y.d.tr
  ag : ∀ i, i < m → AgK w K i (X.ag i) (t.S i) (X.M i) (X.cM i)
  de : ∀ i, m ≤ i → (t.S i).inc = 0
  ev : ∀ i, i < z → EvK w K t.n i (X.ev i) (t.E i)
section
variable {R : Nat → Prop} {K K' : Nat → Nat} {w w' : World} {h z m i : Nat} {t : Tm} {X : TX}
theorem AgK.ro {b : Nat} {s : St} {M : Option Addr} {cM : Nat} (a : AgK w K i b s M cM) (q : Ro R K K' w w') (h0 : ¬ R 0) (h1 : ¬ R (10 + 2 * i)) : AgK w' K' i b s M cM :=
  ⟨a.ag.same (q.same b a.hb (by rw [a.kb]; exact h1)), Nat.lt_of_lt_of_le a.hb q.size, (q.kk b a.hb).trans a.kb, a.row.ro q h0⟩
theorem EvK.ro {n : Nat} {v : EvX} {E : List Lt} (a : EvK w K n i v E) (q : Ro R K K' w w') (h0 : ¬ R 0) (h1 : ¬ R (11 + 2 * i)) : EvK w' K' n i v E :=
  ⟨a.own.ro q h1, a.mp, fun y hy => ⟨(a.rows y hy).1.ro q h0, (a.rows y hy).2.ro q h0⟩⟩
theorem TmM.ro (T : TmM w K h z m t X) (q : Ro R K K' w w') (hR : ∀ r, ¬ R r) (kz : ∀ b, w'.heap.size ≤ b → K' b = 0) : TmM w' K' h z m t X := by
  have hb := q.same h T.hs (hR _)
  exact ⟨kz, Nat.lt_of_lt_of_le T.hs q.size, (q.kk h T.hs).trans T.hk, range_same T.hr hb, there_same T.ht hb, T.a2.ro q (hR _), T.a3.ro q (hR _), T.a4.ro q (hR _), T.a5.ro q (hR _), T.dm, fun y hy => ⟨(T.dr y hy).1.ro q (hR _), (T.dr y hy).2.ro q (hR _)⟩, fun j hj => (T.ag j hj).ro q (hR _) (hR _), T.de, fun j hj => (T.ev j hj).ro q (hR _) (hR _)⟩
theorem TmM.below (T : TmM w K h z m t X) (hb : Below w.heap.size w w') : TmM w' K h z m t X :=
  T.ro (R := fun _ => False) (.below hb) (fun _ => id) fun b hb' => T.kz b (Nat.le_trans hb.size hb')
theorem incs_up (S : Nat → St) (i : Nat) (s : St) (hi : s.inc = (S i).inc) (z : Nat) : incs z (upS S i s) = incs z S := by
  unfold incs
  refine List.map_congr_left fun k _ => ?_
  unfold upS; split
  · rename_i e; rw [e]; exact hi
  · rfl
theorem map_set {β : Type} (f : Nat → β) (z i : Nat) (v : β) : ((List.range z).map f).set i v = (List.range z).map fun k => if k = i then v else f k := by
  apply List.ext_getElem?
  intro k
  by_cases e : i = k
  · subst e
    by_cases hi : i < z
    · rw [List.getElem?_set_self (by simpa using hi), List.getElem?_map, List.getElem?_range hi]; simp
    · rw [List.getElem?_eq_none (by simp; omega), List.getElem?_eq_none (by simp; omega)]
  · rw [List.getElem?_set_ne e, List.getElem?_map, List.getElem?_map]
    cases hk : (List.range z)[k]? with
    | none => rfl
    | some y =>
      have : y = k := by
        have := List.getElem?_eq_some_iff.1 hk
        obtain ⟨h1, h2⟩ := this
        rw [List.getElem_range] at h2; exact h2.symm
      subst this
      simp only [Option.map_some]; rw [if_neg (fun e2 => e e2.symm)]
theorem TmM.agent (T : TmM w K h z m t X) (hi : i < m) {s : St} {M : Option Addr} {cM : Nat} (hl : Left w w' (X.ag i) s M cM) (hrow : RowK w' K 3 eMb M s.mem) (hinc : s.inc = (t.S i).inc) :
    TmM w' K h z m { t with S := upS t.S i s } { X with M := fun k => if k = i then M else X.M k, cM := fun k => if k = i then cM else X.cM k } ∧ Ro (· = 10 + 2 * i) K K w w' := by
  have ha := T.ag i hi
  have q : Ro (· = 10 + 2 * i) K K w w' := .grown hl.grown fun b hb => by injection hb with hb; rw [← hb]; exact ha.kb
  have hb := q.same h T.hs (by rw [T.hk]; omega)
  refine ⟨⟨fun b hb => T.kz b (Nat.le_trans q.size hb), Nat.lt_of_lt_of_le T.hs q.size, T.hk, range_same T.hr hb, there_same T.ht hb, T.a2.ro q (by omega), ?_, T.a4.ro q (by omega), T.a5.ro q (by omega), T.dm, fun y hy => ⟨(T.dr y hy).1.ro q (by omega), (T.dr y hy).2.ro q (by omega)⟩, fun j hj => ?_, fun j hj => ?_, fun j hj => (T.ev j hj).ro q (by omega) (by omega)⟩, q⟩
  · show OwnR w' K 3 3 1 eInt X.iA X.ic (incs z (upS t.S i s))
    rw [incs_up t.S i s hinc]
    exact T.a3.ro q (by omega)
  · by_cases e : j = i
    · subst e
      show AgK w' K j (X.ag j) (upS t.S j s j) (if j = j then M else X.M j) (if j = j then cM else X.cM j)
      rw [upS_same, if_pos rfl, if_pos rfl]
      exact ⟨hl.at_, Nat.lt_of_lt_of_le ha.hb q.size, ha.kb, hrow⟩
    · show AgK w' K j (X.ag j) (upS t.S i s j) (if j = i then M else X.M j) (if j = i then cM else X.cM j)
      rw [upS_ne _ _ e, if_neg e, if_neg e]
      exact (T.ag j hj).ro q (by omega) (by omega)
  · show (upS t.S i s j).inc = 0
    rw [upS_ne _ _ (by omega)]; exact T.de j hj
theorem TmM.agent' (T : TmM w K h z m t X) (hi : i < m) {s : St} (hl : Left w w' (X.ag i) s (X.M i) (X.cM i)) (hmem : s.mem = (t.S i).mem) (hinc : s.inc = (t.S i).inc) :
    TmM w' K h z m { t with S := upS t.S i s } X ∧ Ro (· = 10 + 2 * i) K K w w' := by
  have ha := T.ag i hi
  have q : Ro (· = 10 + 2 * i) K K w w' := .grown hl.grown fun b hb => by injection hb with hb; rw [← hb]; exact ha.kb
  have := T.agent hi hl (by rw [hmem]; exact ha.row.ro q (by omega)) hinc
  have e : ({ X with M := fun k => if k = i then X.M i else X.M k, cM := fun k => if k = i then X.cM i else X.cM k } : TX) = X := by
    have e1 : (fun k => if k = i then X.M i else X.M k) = X.M := funext fun k => by
      by_cases e : k = i
      · rw [if_pos e, e]
      · rw [if_neg e]
    have e2 : (fun k => if k = i then X.cM i else X.cM k) = X.cM := funext fun k => by
      by_cases e : k = i
      · rw [if_pos e, e]
      · rw [if_neg e]
    rw [e1, e2]
  rw [e] at this
  exact this
end
end Go.Proofs.Ytfbeggdbjpmppaa
