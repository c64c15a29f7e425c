/- Calm2 Calm3 Calm4, joined. -/
import Derived.Test.YtfbeggdbjpmppaaMg17
set_option linter.unusedVariables false
set_option linter.unusedSimpArgs false
namespace Go.Proofs.Ytfbeggdbjpmppaa
def idx (turn L k m : Nat) : Nat := if turn % 2 = 1 then L - 1 - (m + k * turn) % L else (m + k * turn) % L
theorem idx_lt {turn L k m : Nat} (h : 0 < L) : idx turn L k m < L := by
  have := Nat.mod_lt (m + k * turn) h
  unfold idx; split <;> omega
theorem mod_hit {L : Nat} (h : 0 < L) (c y : Nat) (hy : y < L) : ∃ m, m < L ∧ (m + c) % L = y := by
  refine ⟨(y + (L - c % L)) % L, Nat.mod_lt _ h, ?_⟩
  rw [Nat.mod_add_mod]
  have h1 := Nat.div_add_mod c L
  have h2 := Nat.mod_lt c h
  have e : y + (L - c % L) + c = y + L * (c / L + 1) := by rw [Nat.mul_add, Nat.mul_one]; omega
  rw [e, Nat.add_mul_mod_self_left, Nat.mod_eq_of_lt hy]
theorem idx_hit {turn L k x : Nat} (hx : x < L) : ∃ m, m < L ∧ idx turn L k m = x := by
  have h : 0 < L := by omega
  by_cases e : turn % 2 = 1
  · obtain ⟨m, h1, h2⟩ := mod_hit h (k * turn) (L - 1 - x) (by omega)
    exact ⟨m, h1, by unfold idx; rw [if_pos e, h2]; omega⟩
  · obtain ⟨m, h1, h2⟩ := mod_hit h (k * turn) x hx
    exact ⟨m, h1, by unfold idx; rw [if_neg e, h2]⟩
def Tm.ltOf (t : Tm) (q : Nat) : Lt := ⟨(t.S q).inc, (t.S q).own⟩
def hRow (who : List Nat) (now : List Lt) (turn k : Nat) (t : Tm) : Nat → Tm
  | 0 => t
  | m + 1 => (hRow who now turn k t m).hand (who.getD k 0) (who.getD (idx turn who.length k m) 0) (now.getD (idx turn who.length k m) Lt.zero)
def hAll (who : List Nat) (now : List Lt) (turn : Nat) (t : Tm) : Nat → Tm
  | 0 => t
  | k + 1 => hRow who now turn k (hAll who now turn t k) who.length
def iAll (who : List Nat) (t : Tm) : Nat → Tm
  | 0 => t
  | k + 1 => (iAll who t k).inst (who.getD k 0)
def nowOf (who : List Nat) (t : Tm) : List Lt := who.map t.ltOf
def Tm.round (t : Tm) (who : List Nat) (turn : Nat) : Tm := iAll who (hAll who (nowOf who t) turn t who.length) who.length
structure Gd (n c : Nat) (who : List Nat) (X : List Int) (t : Tm) : Prop where
  cal : Cal n c t
  w0 : 0 < who.length
  wn : ∀ q ∈ who, q < n
  set : ∀ i ∈ who, (t.S i).own.set = X
  xs : ∀ q, q < n → nth X q = if q ∈ who then (t.S q).inc else 0
theorem take_lt_ne {s : St} {q inc : Int} {p : Pr} {r : Nat} (h16 : s.oth.length = 16) (hq : q.toNat < 16 ∨ s.n ≤ 16) (hr : r ≠ q.toNat) : (s.take q inc p).2.2.lt r = s.lt r := by
  have hp : (s.put q.toNat inc p.wish).lt r = s.lt r := by
    by_cases h : q.toNat < 16
    · rw [lt_put (by omega), if_neg hr]
    · unfold St.lt St.put
      rw [List.set_eq_of_length_le (by omega)]
  unfold St.take
  split
  · rfl
  · split
    · rfl
    · split
      · rfl
      · split
        · rfl
        · dsimp only
          split
          · split
            · exact hp
            · split
              · exact hp
              · rfl
          · split
            · exact hp
            · split
              · rfl
              · exact hp
section
variable {t : Tm} {m i j : Nat} {k : Int}
theorem take_puts (T : t.Ok m) (hi : i < m) (hj : j < m) (hij : i ≠ j) {x : Lt} (hx : x ∈ t.E j) (hinc : x.inc = (t.S j).inc) (B : Bd t k) (hk : k < 4611686018427387904)
    (hst : ((t.S i).lt j).inc = x.inc → x.w.rev ≤ ((t.S i).lt j).w.rev → (t.S i).lt j = x) : ((t.S i).take j x.inc (prW t.n x.w)).2.2.lt j = x := by
  obtain ⟨hn, hr, hh, hN⟩ := T.nd i hi
  obtain ⟨hnj, hrj, -, hNj⟩ := T.nd j hj
  have hg := TI.good T hx
  have hw := wish_prW (n := t.n) (hNj.each _ hx).1
  have hB := B.s i
  have n16 := T.n16
  have mn := T.mn
  have hinc1 := hrj.inv.inc1
  have hinc2 := hrj.inv.inc2
  have hself := hN.self
  have o16 := hr.inv.oth
  have hold : ¬ x.inc < ((t.S i).lt j).inc := fun h => by
    have h1 := hN.kn j (by omega)
    have := (hNj.each _ h1).2
    omega
  have hput : ((t.S i).put j x.inc x.w).lt j = x := by rw [lt_put (by omega), if_pos rfl]
  unfold St.take
  rw [Int.toNat_natCast, hn, hself, hg, hw, if_neg (by omega), if_neg (by simp), if_neg hold]
  split
  · rename_i hs; exact hst hs.1 hs.2
  · dsimp only
    split
    · split
      · exact hput
      · rw [if_pos (by show (t.S i).own.rev < _; omega)]; exact hput
    · split
      · exact hput
      · rw [show ((t.S i).put j x.inc x.w).spent = false from spent_no (k := k) hB hk, if_neg (by decide)]; exact hput
end
structure HS (n c : Nat) (who : List Nat) (X : List Int) (t0 t : Tm) : Prop where
  gd : Gd n c who X t
  inc : ∀ q, (t.S q).inc = (t0.S q).inc
  E : ∀ q x, x ∈ t0.E q → x ∈ t.E q
  vm : ∀ q, (t.S q).vid = (t0.S q).vid ∧ (t.S q).mem = (t0.S q).mem
  lt : ∀ i ∈ who, ∀ j, (t.S i).lt j = (t0.S i).lt j ∨ (t.S i).lt j = t0.ltOf j
  op : ∀ i ∈ who, (t0.S i).opn = true → (t.S i).opn = true ∧ (t.S i).own.cid = (t0.S i).own.cid
  cl : ∀ i ∈ who, (t0.S i).opn = false → ((t.S i).opn = false ∧ (t.S i).own = (t0.S i).own) ∨ ((t.S i).opn = true ∧ (t.S i).own.cid = (t0.S i).own.cid + 1)
  st : ∀ i ∈ who, (t0.S i).opn = false → (∀ j ∈ who, j ≠ i → (t0.S j).own.cid ≤ nth (t0.S i).own.vec j) → (t.S i).opn = false
section
variable {n c c0 i j : Nat} {who : List Nat} {X : List Int} {t0 t : Tm}
theorem Gd.more (h : Gd n c who X t) (hc : c ≤ c0) : Gd n c0 who X t :=
  ⟨⟨⟨h.cal.p.ok, h.cal.p.nn, h.cal.p.fl, h.cal.p.cnt.more (by omega), h.cal.p.db, h.cal.p.bd.more (by omega), h.cal.p.mc⟩, h.cal.vw, h.cal.sp⟩, h.w0, h.wn, h.set, h.xs⟩
theorem Gd.nd (h : Gd n c who X t) (hi : i ∈ who) : (t.S i).n = n ∧ Ris (t.S i) ∧ Hrd (t.S i) ∧ NI t.E n t.fl i (t.S i) := by
  have := h.cal.p.ok.nd i (h.wn i hi)
  rw [h.cal.p.nn] at this; exact this
theorem Gd.n16 (h : Gd n c who X t) : n ≤ 16 := by have := h.cal.p.ok.n16; rw [h.cal.p.nn] at this; exact this
theorem Gd.xi (h : Gd n c who X t) (hi : i ∈ who) : nth X i = (t.S i).inc ∧ 1 ≤ (t.S i).inc := by
  rw [h.xs i (h.wn i hi), if_pos hi]
  exact ⟨rfl, (h.nd hi).2.1.inv.inc1⟩
theorem HS.refl (g : Gd n c who X t) : HS n c who X t t :=
  ⟨g, fun _ => rfl, fun _ _ h => h, fun _ => ⟨rfl, rfl⟩, fun _ _ _ => .inl rfl, fun _ _ h => ⟨h, rfl⟩, fun _ _ h => .inl ⟨h, rfl⟩, fun _ _ h _ => h⟩
theorem now_last (g : Gd n c who X t0) (hi : i ∈ who) (hj : j ∈ who) (h1 : ((t0.S i).lt j).inc = (t0.S j).inc) (h2 : (t0.S j).own.rev ≤ ((t0.S i).lt j).w.rev) : (t0.S i).lt j = t0.ltOf j := by
  obtain ⟨hn, hr, hh, hN⟩ := g.nd hi
  obtain ⟨hnj, hrj, -, hNj⟩ := g.nd hj
  have := hrj.inv.inc1
  have hk := hN.kn j (by omega)
  obtain ⟨u1, u2, u3⟩ := hNj.upto hk h1
  exact u3 (by omega)
theorem now_mem (g : Gd n c who X t0) (hj : j ∈ who) : t0.ltOf j ∈ t0.E j := (g.nd hj).2.2.2.here
theorem HS.hand (g0 : Gd n c0 who X t0) (h : HS n c who X t0 t) (hc : n + c ≤ 1000000000) (hi : i ∈ who) (hj : j ∈ who) :
    HS n (c + 1) who X t0 (t.hand i j (t0.ltOf j)) ∧ (i ≠ j → ((t.hand i j (t0.ltOf j)).S i).lt j = t0.ltOf j) ∧ (∀ a b, b ∈ who → (t.S a).lt b = t0.ltOf b → ((t.hand i j (t0.ltOf j)).S a).lt b = t0.ltOf b) := by
  have hx := h.E j _ (now_mem g0 hj)
  have g := h.gd
  have C' := g.cal.hand hc (g.wn i hi) hx
  by_cases hij : i = j
  · have e : t.hand i j (t0.ltOf j) = t := by unfold Tm.hand; rw [if_pos hij]
    rw [e] at C' ⊢
    exact ⟨⟨g.more (by omega), h.inc, h.E, h.vm, h.lt, h.op, h.cl, h.st⟩, fun hn => absurd hij hn, fun a b _ hl => hl⟩
  obtain ⟨hn, hr, hh, hN⟩ := g.nd hi
  have hnn := g.cal.p.nn
  obtain ⟨hS, -, -, -, -⟩ := hand_S (t := t) (x := t0.ltOf j) hij
  obtain ⟨s, hs⟩ : ∃ s, s = ((t.S i).take j (t0.ltOf j).inc (prW t.n (t0.ltOf j).w)).2.2 := ⟨_, rfl⟩
  have hup := (take_ris hr j (t0.ltOf j).inc (prW t.n (t0.ltOf j).w)).2
  have n16 := g.n16
  have hjn := g.wn j hj
  have hin := g.wn i hi
  have hlj : s.lt j = t0.ltOf j := by
    rw [hs]
    refine take_puts g.cal.p.ok hin hjn hij hx (h.inc j).symm g.cal.p.bd (by omega) fun e1 e2 => ?_
    rcases h.lt i hi j with e | e
    · rw [e] at e1 e2 ⊢; exact now_last g0 hi hj e1 e2
    · exact e
  have hlo : ∀ b, b ≠ j → s.lt b = (t.S i).lt b := fun b hb => by rw [hs]; exact take_lt_ne hr.inv.oth (.inr (by omega)) (by rw [Int.toNat_natCast]; exact hb)
  rw [← hs] at hS hup
  have hset : s.own.set = X := by
    rw [hs]
    cases ho : (t.S i).opn with
    | true => rw [(take_open ho _ _ _).2.2]; exact g.set i hi
    | false =>
      have v := g.cal.vw i hin ho
      rw [hnn] at v
      rcases vw_take v hr.inv hn ho j (t0.ltOf j).inc (prW t.n (t0.ltOf j).w) with ⟨-, e, -⟩ | ⟨-, -, e⟩
      · rw [e]; exact g.set i hi
      · rw [e]; exact g.set i hi
  have hSq : ∀ q, (t.hand i j (t0.ltOf j)).S q = if q = i then s else t.S q := fun q => by rw [hS]; rfl
  have hinc : ∀ q, ((t.hand i j (t0.ltOf j)).S q).inc = (t.S q).inc := fun q => by
    rw [hSq]; split
    · rename_i e; rw [e]; exact hup.inc
    · rfl
  refine ⟨⟨⟨C', g.w0, g.wn, fun q hq => ?_, fun q hq => ?_⟩, fun q => (hinc q).trans (h.inc q), fun q x hqx => hand_mem (h.E q x hqx), fun q => ?_, fun a ha b => ?_, fun a ha ho => ?_, fun a ha ho => ?_, fun a ha ho hle => ?_⟩, fun _ => ?_, fun a b hb hl => ?_⟩
  · rw [hSq]; split
    · exact hset
    · exact g.set q hq
  · rw [hinc]; exact g.xs q hq
  · rw [hSq]; split
    · rename_i e; rw [e]; exact ⟨hup.vid.trans (h.vm i).1, hup.mem.trans (h.vm i).2⟩
    · exact h.vm q
  · rw [hSq]; split
    · rename_i e; rw [e]
      by_cases hb : b = j
      · rw [hb]; exact .inr hlj
      · rw [hlo b hb]; exact h.lt i hi b
    · exact h.lt a ha b
  · rw [hSq]; split
    · rename_i e; rw [e] at ho ⊢
      obtain ⟨h1, h2⟩ := h.op i hi ho
      obtain ⟨h3, h4, -⟩ := take_open h1 j (t0.ltOf j).inc (prW t.n (t0.ltOf j).w)
      rw [hs]; exact ⟨h3, h4.trans h2⟩
    · exact h.op a ha ho
  · rw [hSq]; split
    · rename_i e; rw [e] at ho ⊢
      rcases h.cl i hi ho with ⟨h1, h2⟩ | ⟨h1, h2⟩
      · have v := g.cal.vw i hin h1
        rw [hnn] at v
        rcases vw_take v hr.inv hn h1 j (t0.ltOf j).inc (prW t.n (t0.ltOf j).w) with ⟨e1, e2, -⟩ | ⟨-, e1, e2⟩
        · rw [← hs] at e1 e2
          refine .inr ⟨e1, ?_⟩
          rw [e2, ← h2]; rfl
        · rw [← hs] at e1 e2
          exact .inl ⟨e1, e2.trans h2⟩
      · obtain ⟨h3, h4, -⟩ := take_open h1 j (t0.ltOf j).inc (prW t.n (t0.ltOf j).w)
        rw [hs]; exact .inr ⟨h3, h4.trans h2⟩
    · exact h.cl a ha ho
  · rw [hSq]; split
    · rename_i e; rw [e] at ho hle
      have h1 := h.st i hi ho hle
      have hown : (t.S i).own = (t0.S i).own := by
        rcases h.cl i hi ho with ⟨-, h2⟩ | ⟨h2, -⟩
        · exact h2
        · rw [h1] at h2; cases h2
      have v := g.cal.vw i hin h1
      rw [hnn] at v
      rcases vw_take v hr.inv hn h1 j (t0.ltOf j).inc (prW t.n (t0.ltOf j).w) with ⟨-, -, e3⟩ | ⟨-, e1, -⟩
      · have hz : nth (t.S i).own.set j ≠ 0 := by rw [g.set i hi, (g.xi hj).1]; have := (g.xi hj).2; omega
        rw [v.mem, leaves_memOf hjn hz] at e3
        have h5 := (of_decide_eq_true e3).2
        have h6 := hle j hj (fun e => hij e.symm)
        rw [hown] at h5
        have h7 : nth (t0.S i).own.vec j < (t0.S j).own.cid := h5
        omega
      · rw [hs]; exact e1
    · exact h.st a ha ho hle
  · rw [hSq, if_pos rfl]; exact hlj
  · rw [hSq]; split
    · rename_i e; rw [e] at hl
      by_cases hbj : b = j
      · rw [hbj]; exact hlj
      · rw [hlo b hbj]; exact hl
    · exact hl
theorem getD_mem {l : List Nat} {k : Nat} (hk : k < l.length) : l.getD k 0 ∈ l := by
  rw [List.getD_eq_getElem?_getD, List.getElem?_eq_getElem hk]; exact List.getElem_mem hk
theorem now_getD {k : Nat} (hk : k < who.length) : (nowOf who t0).getD k Lt.zero = t0.ltOf (who.getD k 0) := by
  unfold nowOf
  rw [List.getD_eq_getElem?_getD, List.getD_eq_getElem?_getD, List.getElem?_map, List.getElem?_eq_getElem hk]; rfl
theorem HS.row (g0 : Gd n c0 who X t0) {turn k : Nat} (hk : k < who.length) (h : HS n c who X t0 t) : ∀ m, m ≤ who.length → n + c + m ≤ 1000000000 →
    HS n (c + m) who X t0 (hRow who (nowOf who t0) turn k t m) ∧ (∀ a b, b ∈ who → (t.S a).lt b = t0.ltOf b → ((hRow who (nowOf who t0) turn k t m).S a).lt b = t0.ltOf b) ∧
    ∀ m', m' < m → who.getD k 0 ≠ who.getD (idx turn who.length k m') 0 → ((hRow who (nowOf who t0) turn k t m).S (who.getD k 0)).lt (who.getD (idx turn who.length k m') 0) = t0.ltOf (who.getD (idx turn who.length k m') 0)
  | 0, _, _ => ⟨h, fun _ _ _ hl => hl, fun m' hm => absurd hm (by omega)⟩
  | m + 1, hm, hc => by
    obtain ⟨h1, h2, h3⟩ := HS.row g0 (turn := turn) hk h m (by omega) (by omega)
    have hw : 0 < who.length := by omega
    have hx : idx turn who.length k m < who.length := idx_lt hw
    obtain ⟨h4, h5, h6⟩ := h1.hand g0 (by omega) (getD_mem hk) (getD_mem hx)
    have e : hRow who (nowOf who t0) turn k t (m + 1) = (hRow who (nowOf who t0) turn k t m).hand (who.getD k 0) (who.getD (idx turn who.length k m) 0) (t0.ltOf (who.getD (idx turn who.length k m) 0)) := by
      show Tm.hand _ _ _ _ = _; rw [now_getD hx]
    rw [e]
    refine ⟨h4, fun a b hb hl => h6 a b hb (h2 a b hb hl), fun m' hm' hne => ?_⟩
    rcases Nat.lt_succ_iff_lt_or_eq.1 hm' with hlt | rfl
    · exact h6 _ _ (getD_mem (idx_lt hw)) (h3 m' hlt hne)
    · exact h5 hne
theorem HS.all (g0 : Gd n c0 who X t0) {turn : Nat} (h : HS n c who X t0 t) : ∀ k, k ≤ who.length → n + c + k * who.length ≤ 1000000000 →
    HS n (c + k * who.length) who X t0 (hAll who (nowOf who t0) turn t k) ∧
    ∀ k', k' < k → ∀ b, b ∈ who → who.getD k' 0 ≠ b → ((hAll who (nowOf who t0) turn t k).S (who.getD k' 0)).lt b = t0.ltOf b
  | 0, _, _ => ⟨by rw [Nat.zero_mul]; exact h, fun m' hm => absurd hm (by omega)⟩
  | k + 1, hk, hc => by
    rw [Nat.succ_mul] at hc ⊢
    obtain ⟨h1, h2⟩ := HS.all g0 (turn := turn) h k (by omega) (by omega)
    obtain ⟨h3, h4, h5⟩ := h1.row g0 (turn := turn) (k := k) (by omega) who.length (Nat.le_refl _) (by omega)
    refine ⟨by rw [← Nat.add_assoc]; exact h3, fun k' hk' b hb hne => ?_⟩
    rcases Nat.lt_succ_iff_lt_or_eq.1 hk' with hlt | rfl
    · exact h4 _ _ hb (h2 k' hlt b hb hne)
    · obtain ⟨x, hx, rfl⟩ := List.mem_iff_getElem.1 hb
      obtain ⟨m', m1, m2⟩ := idx_hit (turn := turn) (k := k') hx
      have e : who[x] = who.getD (idx turn who.length k' m') 0 := by rw [m2, List.getD_eq_getElem?_getD, List.getElem?_eq_getElem hx]; rfl
      rw [e] at hne ⊢
      exact h5 m' m1 hne
theorem install_idem (s : St) : s.install.install = s.install := by
  cases ha : s.agreed with
  | none =>
    have e : s.install = s := by unfold St.install; rw [ha]
    rw [e, e]
  | some a =>
    have e : s.install = { s with vid := a.vid, mem := a.mem, opn := false } := by unfold St.install; rw [ha]
    have e2 : s.install.agreed = none := by rw [e]; rfl
    generalize s.install = r at e2 ⊢
    unfold St.install; rw [e2]
theorem inst_S (t : Tm) (i q : Nat) : (t.inst i).S q = if q = i then (t.S i).install else t.S q := by
  cases ha : (t.S i).agreed with
  | none =>
    rw [Tm.inst_none ha]
    have e : (t.S i).install = t.S i := by unfold St.install; rw [ha]
    rw [e]; split
    · rename_i e; rw [e]
    · rfl
  | some a => rw [Tm.inst_some ha]; rfl
theorem iAll_S (who : List Nat) (t : Tm) (q : Nat) : ∀ k, k ≤ who.length → (iAll who t k).S q = if q ∈ who.take k then (t.S q).install else t.S q
  | 0, _ => by simp [iAll]
  | k + 1, hk => by
    have ih := iAll_S who t q k (by omega)
    show ((iAll who t k).inst (who.getD k 0)).S q = _
    rw [inst_S]
    have e : who.take (k + 1) = who.take k ++ [who.getD k 0] := by
      rw [List.take_add_one, List.getElem?_eq_getElem (by omega), List.getD_eq_getElem?_getD, List.getElem?_eq_getElem (by omega)]; rfl
    rw [e]
    by_cases hq : q = who.getD k 0
    · have hm : q ∈ who.take k ++ [who.getD k 0] := List.mem_append_right _ (List.mem_singleton.2 hq)
      rw [if_pos hm, if_pos hq, ← hq, ih]
      split
      · exact install_idem _
      · rfl
    · rw [if_neg hq, ih]
      by_cases h2 : q ∈ who.take k
      · rw [if_pos h2, if_pos (by simp [h2])]
      · rw [if_neg h2, if_neg (by simp only [List.mem_append, List.mem_singleton, not_or]; exact ⟨h2, hq⟩)]
theorem iAll_cal (hw : ∀ q ∈ who, q < n) (C : Cal n c t) : ∀ k, k ≤ who.length → Cal n (c + k) (iAll who t k)
  | 0, _ => C
  | k + 1, hk => (iAll_cal hw C k (by omega)).inst (hw _ (getD_mem (by omega)))
theorem install_keeps (s : St) : s.install.own = s.own ∧ s.install.oth = s.oth ∧ s.install.inc = s.inc ∧ s.install.self = s.self := by
  unfold St.install; split <;> exact ⟨rfl, rfl, rfl, rfl⟩
structure RL (n c : Nat) (who : List Nat) (X : List Int) (t t1 t2 : Tm) : Prop where
  hs : HS n (c + who.length * who.length) who X t t1
  gd : Gd n (c + who.length * who.length + who.length) who X t2
  lts : ∀ i ∈ who, ∀ j ∈ who, i ≠ j → (t1.S i).lt j = t.ltOf j
  ins : ∀ i ∈ who, t2.S i = (t1.S i).install
theorem Gd.round (g : Gd n c who X t) (turn : Nat) (hc : n + c + who.length * who.length ≤ 1000000000) : RL n c who X t (hAll who (nowOf who t) turn t who.length) (t.round who turn) := by
  obtain ⟨h1, h2⟩ := (HS.refl g).all g (turn := turn) who.length (Nat.le_refl _) hc
  have hS : ∀ i ∈ who, (t.round who turn).S i = ((hAll who (nowOf who t) turn t who.length).S i).install := fun i hi => by
    unfold Tm.round
    rw [iAll_S _ _ _ _ (Nat.le_refl _), List.take_length, if_pos hi]
  have hI : ∀ q, ((t.round who turn).S q).inc = ((hAll who (nowOf who t) turn t who.length).S q).inc := fun q => by
    unfold Tm.round
    rw [iAll_S _ _ _ _ (Nat.le_refl _)]; split
    · exact (install_keeps _).2.2.1
    · rfl
  refine ⟨h1, ⟨iAll_cal g.wn h1.gd.cal _ (Nat.le_refl _), g.w0, g.wn, fun i hi => ?_, fun q hq => ?_⟩, fun i hi j hj hij => ?_, hS⟩
  · rw [hS i hi, (install_keeps _).1]; exact h1.gd.set i hi
  · rw [hI]; exact h1.gd.xs q hq
  · obtain ⟨x, hx, rfl⟩ := List.mem_iff_getElem.1 hi
    have e : who[x] = who.getD x 0 := by rw [List.getD_eq_getElem?_getD, List.getElem?_eq_getElem hx]; rfl
    rw [e] at hij ⊢
    exact h2 x hx j hj hij
end
end Go.Proofs.Ytfbeggdbjpmppaa
namespace Go.Proofs.Ytfbeggdbjpmppaa
def VF (who : List Nat) (F : Nat → Int) : List Int := (List.range 16).map fun q => if q ∈ who then F q else 0
theorem nth_VF {who : List Nat} {F : Nat → Int} {q : Nat} (hq : q < 16) : nth (VF who F) q = if q ∈ who then F q else 0 := nth_map16 _ hq
def Fin_ (who : List Nat) (F : Nat → Int) (t : Tm) : Prop := ∀ i ∈ who, (t.S i).own.cid = F i ∧ ((t.S i).opn = false → (t.S i).own.vec = VF who F)
section
variable {n c c0 i j : Nat} {who : List Nat} {X : List Int} {t t1 t2 : Tm}
theorem mat_at {c1 : Nat} (g0 : Gd n c1 who X t) (h : HS n c0 who X t t1) (hl : ∀ i ∈ who, ∀ j ∈ who, i ≠ j → (t1.S i).lt j = t.ltOf j) (hi : i ∈ who) (hj : j ∈ who) (hij : i ≠ j) : (t1.S i).matB j = true := by
  unfold St.matB
  rw [hl i hi j hj hij]
  have hx := g0.xi hj
  refine decide_eq_true ⟨?_, ?_, ?_⟩
  · show (t.S j).inc ≠ 0; omega
  · show (t.S j).inc = _; rw [h.gd.set i hi, hx.1]
  · show (t.S j).own.set = _; rw [g0.set j hj, h.gd.set i hi]
theorem vec_at {c1 : Nat} (g0 : Gd n c1 who X t) (h : HS n c0 who X t t1) (hl : ∀ i ∈ who, ∀ j ∈ who, i ≠ j → (t1.S i).lt j = t.ltOf j) (hi : i ∈ who) (ho : (t1.S i).opn = true) {q : Nat} (hq : q < 16) :
    nth (t1.S i).own.vec q = if q ∈ who then (if q = i then (t1.S i).own.cid else (t.S q).own.cid) else 0 := by
  obtain ⟨hn, hr, hh, hN⟩ := h.gd.nd hi
  rw [hh ho, nth_heard hq]
  unfold St.vecAt
  rw [hN.self]
  by_cases e : q = i
  · rw [if_pos e, e, if_pos hi, if_pos rfl]
  · rw [if_neg e, if_neg e]
    by_cases hw : q ∈ who
    · rw [if_pos hw]
      have hlt := hl i hi q hw (fun e2 => e e2.symm)
      have hm : (t1.S i).matB q = true := by
        unfold St.matB
        rw [hlt]
        have hx := g0.xi hw
        refine decide_eq_true ⟨?_, ?_, ?_⟩
        · show (t.S q).inc ≠ 0; omega
        · show (t.S q).inc = _; rw [h.gd.set i hi, hx.1]
        · show (t.S q).own.set = _; rw [g0.set q hw, h.gd.set i hi]
      rw [if_pos ⟨by rw [hn]; exact h.gd.wn q hw, hm⟩, hlt]; rfl
    · rw [if_neg hw, if_neg]
      rintro ⟨h1, h2⟩
      rw [hn] at h1
      unfold St.matB at h2
      have := of_decide_eq_true h2
      rw [h.gd.set i hi, h.gd.xs q h1, if_neg hw] at this
      omega
theorem Gd.len (g : Gd n c who X t) (hi : i ∈ who) : (t.S i).own.vec.length = 16 := (g.nd hi).2.1.inv.own.vec
theorem Gd.vle (g : Gd n c who X t) (hi : i ∈ who) (hj : j ∈ who) : nth (t.S i).own.vec j ≤ (t.S j).own.cid := by
  obtain ⟨hn, hr, hh, hN⟩ := g.nd hi
  obtain ⟨hnj, hrj, -, hNj⟩ := g.nd hj
  by_cases hz : nth (t.S i).own.vec j = 0
  · rw [hz]; have := hrj.cid1; omega
  · obtain ⟨x, hx, x1, -, x3⟩ := hN.src _ hN.here j hz
    have e : x.inc = (t.S j).inc := by rw [x1]; show nth (t.S i).own.set j = _; rw [g.set i hi, (g.xi hj).1]
    have := (hNj.upto hx e).2.1
    show nth (⟨(t.S i).inc, (t.S i).own⟩ : Lt).w.vec j ≤ _
    omega
theorem Gd.vz (g : Gd n c who X t) (hi : i ∈ who) {q : Nat} (hq : q ∉ who) : nth (t.S i).own.vec q = 0 := by
  obtain ⟨hn, hr, hh, hN⟩ := g.nd hi
  refine Classical.byContradiction fun hz => ?_
  have h1 := hN.vzero g.cal.p.ok.g hN.here hz
  have h2 := (hN.each _ hN.here).1.over h1
  apply h1
  show nth (t.S i).own.set q = 0
  rw [g.set i hi, g.xs q h2, if_neg hq]
theorem Gd.vfin (g : Gd n c who X t) (hi : i ∈ who) {F : Nat → Int} (h : ∀ j ∈ who, nth (t.S i).own.vec j = F j) : (t.S i).own.vec = VF who F := by
  refine ext16 (g.len hi) (by simp [VF]) fun q hq => ?_
  rw [nth_VF hq]
  split
  · rename_i hw; exact h q hw
  · rename_i hw; exact g.vz hi hw
theorem fin_round {F : Nat → Int} (g : Gd n c who X t) (hF : Fin_ who F t) (R : RL n c0 who X t t1 t2) :
    Fin_ who F t2 ∧ (∀ i ∈ who, (t2.S i).own.vec = VF who F) ∧ (∀ i ∈ who, (t1.S i).own.vec = VF who F) ∧ (∀ i ∈ who, (t.S i).opn = false → (t2.S i).opn = false ∧ (t2.S i).vid = (t.S i).vid) := by
  have n16 := g.n16
  have hc : ∀ i ∈ who, (t.S i).opn = false → (t1.S i).opn = false := fun i hi ho => R.hs.st i hi ho fun j hj hij => by
    rw [(hF i hi).2 ho, nth_VF (by have := g.wn j hj; omega), if_pos hj, (hF j hj).1]; exact Int.le_refl _
  have hcid : ∀ i ∈ who, (t1.S i).own.cid = F i := fun i hi => by
    cases ho : (t.S i).opn with
    | true => rw [(R.hs.op i hi ho).2]; exact (hF i hi).1
    | false =>
      have h1 := hc i hi ho
      rcases R.hs.cl i hi ho with ⟨-, h2⟩ | ⟨h2, -⟩
      · rw [h2]; exact (hF i hi).1
      · rw [h1] at h2; cases h2
  have hv : ∀ i ∈ who, (t1.S i).own.vec = VF who F := fun i hi => by
    cases ho : (t1.S i).opn with
    | true =>
      refine R.hs.gd.vfin hi fun j hj => ?_
      rw [vec_at g R.hs R.lts hi ho (by have := g.wn j hj; omega), if_pos hj]
      split
      · rename_i e; rw [hcid i hi, e]
      · exact (hF j hj).1
    | false =>
      cases ho2 : (t.S i).opn with
      | true => rw [(R.hs.op i hi ho2).1] at ho; cases ho
      | false =>
        rcases R.hs.cl i hi ho2 with ⟨-, h2⟩ | ⟨h2, -⟩
        · rw [h2]; exact (hF i hi).2 ho2
        · rw [ho] at h2; cases h2
  have hown : ∀ i ∈ who, (t2.S i).own = (t1.S i).own := fun i hi => by rw [R.ins i hi]; exact (install_keeps _).1
  refine ⟨fun i hi => ⟨by rw [hown i hi]; exact hcid i hi, fun _ => by rw [hown i hi]; exact hv i hi⟩, fun i hi => by rw [hown i hi]; exact hv i hi, hv, fun i hi ho => ?_⟩
  have h1 := hc i hi ho
  have e : (t1.S i).install = t1.S i := by
    have : (t1.S i).agreed = none := by unfold St.agreed; rw [h1]; rfl
    unfold St.install; rw [this]
  rw [R.ins i hi, e]
  exact ⟨h1, (R.hs.vm i).1⟩
theorem agTo_all {s : St} : ∀ {k : Nat}, (∀ q, q < k → nth s.own.set q ≠ 0 → nth s.own.vec q ≠ 0 ∧ (s.wishOf q).vec = s.own.vec) → ∃ a, s.agTo k = some a
  | 0, _ => ⟨_, rfl⟩
  | k + 1, h => by
    obtain ⟨a, ha⟩ := agTo_all (k := k) fun q hq => h q (by omega)
    rw [St.agTo, ha, Option.bind_some]
    unfold St.agStep
    split
    · exact ⟨_, rfl⟩
    · rename_i hz
      obtain ⟨h1, h2⟩ := h k (by omega) hz
      rw [if_neg (by rintro (e | e); exact h1 e; exact e h2)]
      exact ⟨_, rfl⟩
theorem fin_all {F : Nat → Int} (g : Gd n c who X t) (hF : Fin_ who F t) (hV : ∀ i ∈ who, (t.S i).own.vec = VF who F) (R : RL n c0 who X t t1 t2) : ∀ i ∈ who, (t2.S i).opn = false := fun i hi => by
  obtain ⟨-, -, hv, -⟩ := fin_round g hF R
  have n16 := g.n16
  rw [R.ins i hi]
  cases ho : (t1.S i).opn with
  | false =>
    have e : (t1.S i).install = t1.S i := by
      have : (t1.S i).agreed = none := by unfold St.agreed; rw [ho]; rfl
      unfold St.install; rw [this]
    rw [e]; exact ho
  | true =>
    obtain ⟨hn, hr, hh, hN⟩ := R.hs.gd.nd hi
    obtain ⟨a, ha⟩ := agTo_all (s := t1.S i) (k := (t1.S i).n) fun q hq hz => by
      rw [hn] at hq
      rw [R.hs.gd.set i hi, R.hs.gd.xs q hq] at hz
      have hw : q ∈ who := Classical.byContradiction fun hc => by rw [if_neg hc] at hz; exact hz rfl
      refine ⟨?_, ?_⟩
      · rw [hv i hi, nth_VF (by omega), if_pos hw, ← (hF q hw).1]
        have := (g.nd hw).2.1.cid1; omega
      · rw [hv i hi]
        unfold St.wishOf
        rw [hN.self]
        split
        · exact hv i hi
        · rename_i hne
          rw [R.lts i hi q hw (fun e => hne e.symm)]
          exact hV q hw
    have hag : (t1.S i).agreed = some a := by unfold St.agreed; rw [if_pos ho]; exact ha
    exact (install_ris hr hag).2.2.2.2.2.2.2.2.1
theorem two_rounds {u1 u2 : Tm} (g : Gd n c who X t) (R : RL n c who X t t1 t2) (R2 : RL n c0 who X t2 u1 u2) : ∃ F, Fin_ who F u2 := by
  have n16 := g.n16
  by_cases hst : ∀ i ∈ who, (t.S i).opn = false → ∀ j ∈ who, nth (t.S i).own.vec j = (t.S j).own.cid
  · have hF : Fin_ who (fun q => (t.S q).own.cid) t := fun i hi => ⟨rfl, fun ho => g.vfin hi (hst i hi ho)⟩
    obtain ⟨h1, -⟩ := fin_round g hF R
    exact ⟨_, (fin_round R.gd h1 R2).1⟩
  · obtain ⟨i0, hst⟩ := Classical.not_forall.1 hst
    obtain ⟨hi0, hst⟩ := Classical.not_imp.1 hst
    obtain ⟨ho0, hst⟩ := Classical.not_imp.1 hst
    obtain ⟨j0, hst⟩ := Classical.not_forall.1 hst
    obtain ⟨hj0, hst⟩ := Classical.not_imp.1 hst
    have hlt : nth (t.S i0).own.vec j0 < (t.S j0).own.cid := by have := g.vle hi0 hj0; omega
    have hme : ∀ {x : Nat} {u : Tm} {d : Nat}, Gd n d who X u → x ∈ who → nth (u.S x).own.vec x = (u.S x).own.cid := fun {x u d} gu hx => by
      have h1 := (gu.nd hx).2.1.me
      rw [(gu.nd hx).2.2.2.self] at h1; exact h1
    have hij : i0 ≠ j0 := fun e => by
      rw [← e, hme g hi0] at hlt; omega
    have f3 : ∀ {x y : Nat} {u v : Tm} {d : Nat} {a : Ag}, Gd n d who X v → x ∈ who → y ∈ who → x ≠ y → (v.S x).lt y = u.ltOf y → (v.S x).agreed = some a → (u.S y).own.vec = (v.S x).own.vec := fun {x y u v d a} gv hx hy hxy hl ha => by
      have hag : (v.S x).agTo (v.S x).n = some a := by
        unfold St.agreed at ha
        split at ha
        · exact ha
        · cases ha
      obtain ⟨-, -, f3, -⟩ := agTo_facts hag
      have h1 := (f3 y (by rw [(gv.nd hx).1]; exact gv.wn y hy) (by rw [gv.set x hx, (gv.xi hy).1]; have := (gv.xi hy).2; omega)).2.1
      unfold St.wishOf at h1
      rw [(gv.nd hx).2.2.2.self, if_neg (fun e => hxy e.symm), hl] at h1
      exact h1
    have hcl : ∀ {x y : Nat} {u v : Tm} {d d' : Nat}, Gd n d who X u → HS n d' who X u v → (∀ i ∈ who, ∀ j ∈ who, i ≠ j → (v.S i).lt j = u.ltOf j) → x ∈ who → y ∈ who → x ≠ y → (v.S x).opn = false → (u.S y).own.cid ≤ nth (v.S x).own.vec y := fun {x y u v d d'} gu hs hl hx hy hxy ho => by
      have v1 := hs.gd.cal.vw x (hs.gd.wn x hx) ho
      have h1 := v1.lv y (by rw [hs.gd.cal.p.nn]; exact hs.gd.wn y hy) (by rw [(hs.gd.nd hx).2.2.2.self]; exact fun e => hxy e.symm) (mat_at gu hs hl hx hy hxy)
      rw [hl x hx y hy hxy] at h1
      exact h1
    have e1 : (t1.S i0).opn = true ∧ (t1.S i0).own.cid = (t.S i0).own.cid + 1 := by
      rcases R.hs.cl i0 hi0 ho0 with ⟨h1, h2⟩ | h
      · have := hcl g R.hs R.lts hi0 hj0 hij h1
        rw [h2] at this; omega
      · exact h
    have keep : ∀ {u : St}, u.agreed = none → u.install = u := fun {u} h => by unfold St.install; rw [h]
    have own2 : ∀ i ∈ who, (t2.S i).own = (t1.S i).own := fun i hi => by rw [R.ins i hi]; exact (install_keeps _).1
    have e2 : t2.S i0 = t1.S i0 := by
      rw [R.ins i0 hi0]
      refine keep ?_
      cases ha : (t1.S i0).agreed with
      | none => rfl
      | some a =>
        have h1 := f3 R.hs.gd hi0 hj0 hij (R.lts i0 hi0 j0 hj0 hij) ha
        have h2 := g.vle hj0 hi0
        rw [h1, hme R.hs.gd hi0] at h2
        omega
    have L : ∀ i ∈ who, i ≠ i0 → nth (t2.S i).own.vec i0 ≤ (t.S i0).own.cid := fun i hi hne => by
      rw [own2 i hi]
      cases ho : (t1.S i).opn with
      | true =>
        rw [vec_at g R.hs R.lts hi ho (by have := g.wn i0 hi0; omega), if_pos hi0, if_neg (fun e => hne e.symm)]
        exact Int.le_refl _
      | false =>
        cases ho2 : (t.S i).opn with
        | true => rw [(R.hs.op i hi ho2).1] at ho; cases ho
        | false =>
          rcases R.hs.cl i hi ho2 with ⟨-, h2⟩ | ⟨h2, -⟩
          · rw [h2]; exact g.vle hi hi0
          · rw [ho] at h2; cases h2
    have o20 : (t2.S i0).opn = true := by rw [e2]; exact e1.1
    have c20 : (t2.S i0).own.cid = (t.S i0).own.cid + 1 := by rw [e2]; exact e1.2
    have allo : ∀ i ∈ who, (u1.S i).opn = true := fun i hi => by
      by_cases hne : i = i0
      · rw [hne]; exact (R2.hs.op i0 hi0 o20).1
      · cases ho : (t2.S i).opn with
        | true => exact (R2.hs.op i hi ho).1
        | false =>
          rcases R2.hs.cl i hi ho with ⟨h1, h2⟩ | ⟨h1, -⟩
          · have h3 := hcl R.gd R2.hs R2.lts hi hi0 hne h1
            rw [h2, c20] at h3
            have := L i hi hne
            omega
          · exact h1
    have ownu : ∀ i ∈ who, (u2.S i).own = (u1.S i).own := fun i hi => by rw [R2.ins i hi]; exact (install_keeps _).1
    refine ⟨fun q => (u1.S q).own.cid, fun i hi => ⟨by rw [ownu i hi], fun hoc => ?_⟩⟩
    rw [ownu i hi]
    cases ha : (u1.S i).agreed with
    | none =>
      rw [R2.ins i hi, keep ha, allo i hi] at hoc; cases hoc
    | some a =>
      have hop : ∀ j ∈ who, i ≠ j → (t2.S j).opn = true := fun j hj hne => by
        cases ho : (t2.S j).opn with
        | true => rfl
        | false =>
          have hj0 : j ≠ i0 := fun e => by rw [e, o20] at ho; cases ho
          have h1 := f3 R2.hs.gd hi hj hne (R2.lts i hi j hj hne) ha
          have h2 := L j hj hj0
          rw [h1, vec_at R.gd R2.hs R2.lts hi (allo i hi) (by have := g.wn i0 hi0; omega), if_pos hi0] at h2
          split at h2
          · rename_i e
            rw [← e, (R2.hs.op i0 hi0 o20).2] at h2
            omega
          · omega
      refine R2.hs.gd.vfin hi fun j hj => ?_
      rw [vec_at R.gd R2.hs R2.lts hi (allo i hi) (by have := g.wn j hj; omega), if_pos hj]
      split
      · rename_i e; rw [e]
      · rename_i e; exact ((R2.hs.op j hj (hop j hj (fun e2 => e e2.symm))).2).symm
end
end Go.Proofs.Ytfbeggdbjpmppaa
namespace Go.Proofs.Ytfbeggdbjpmppaa
structure Sd (who : List Nat) (F : Nat → Int) (V : Vid) (t : Tm) : Prop where
  cl : ∀ i ∈ who, (t.S i).opn = false
  mem : ∀ i ∈ who, (t.S i).mem = who.map fun q => ⟨q, (t.S q).inc, F q⟩
  vid : ∀ i ∈ who, (t.S i).vid = V
theorem fm_congr {α β : Type} {f g : α → Option β} : ∀ {l : List α}, (∀ x ∈ l, f x = g x) → l.filterMap f = l.filterMap g
  | [], _ => rfl
  | a :: l, h => by
    rw [List.filterMap_cons, List.filterMap_cons, h a List.mem_cons_self, fm_congr fun x hx => h x (List.mem_cons_of_mem _ hx)]
theorem fm_filter {α β : Type} (p : α → Bool) (h : α → β) : ∀ l : List α, l.filterMap (fun q => if p q = true then some (h q) else none) = (l.filter p).map h
  | [] => rfl
  | a :: l => by
    rw [List.filterMap_cons, List.filter_cons, fm_filter p h l]
    cases p a <;> rfl
section
variable {n c c0 i j : Nat} {who : List Nat} {X : List Int} {t t1 t2 : Tm} {F : Nat → Int} {p : Nat → Bool}
theorem Gd.vid_le (g : Gd n c who X t) (hi : i ∈ who) (hj : j ∈ who) (ho : (t.S i).opn = false) (ho' : (t.S j).opn = false) (hv : (t.S i).own.vec = (t.S j).own.vec) : (t.S i).vid.e ≤ (t.S j).vid.e := by
  have nn := g.cal.p.nn
  have v := g.cal.vw i (g.wn i hi) ho
  have v' := g.cal.vw j (g.wn j hj) ho'
  obtain ⟨q, hq, hz, x, hx, x1, x2, x3⟩ := v.eq
  have hs : (t.S i).own.set = (t.S j).own.set := (g.set i hi).trans (g.set j hj).symm
  obtain ⟨y, hy, y1, y2, y3⟩ := v'.lt q hq (by rw [← hs]; exact hz)
  have := (det g.cal.p.ok.g hx hy (by rw [x1, y1, hs]) (by rw [x2, y2, hv])).2.1
  omega
theorem Gd.sd (g : Gd n c who X t) (hw : who = (List.range n).filter p) (ho : ∀ i ∈ who, (t.S i).opn = false) (hv : ∀ i ∈ who, (t.S i).own.vec = VF who F) : ∃ V, Sd who F V t := by
  have n16 := g.n16
  have nn := g.cal.p.nn
  have hm : ∀ i ∈ who, (t.S i).mem = who.map fun q => ⟨q, (t.S q).inc, F q⟩ := fun i hi => by
    have v := g.cal.vw i (g.wn i hi) (ho i hi)
    rw [v.mem, nn]
    unfold memOf
    have e : ((List.range n).filterMap fun q => if nth (t.S i).own.set q = 0 then none else some (⟨q, nth (t.S i).own.set q, nth (t.S i).own.vec q⟩ : Mb)) = (List.range n).filterMap (fun q => if p q = true then some (⟨q, (t.S q).inc, F q⟩ : Mb) else none) := by
      refine fm_congr fun q hq => ?_
      have hqn := List.mem_range.1 hq
      have hp : q ∈ who ↔ p q = true := by rw [hw, List.mem_filter]; exact ⟨fun h => h.2, fun h => ⟨hq, h⟩⟩
      rw [g.set i hi, hv i hi, g.xs q hqn, nth_VF (by omega)]
      by_cases h : p q = true
      · have hw' := hp.2 h
        have := (g.xi hw').2
        rw [if_pos hw', if_pos hw', if_pos h, if_neg (by omega)]
      · have hw' : q ∉ who := fun e => h (hp.1 e)
        rw [if_neg hw', if_pos rfl, if_neg h]
    rw [e, fm_filter, ← hw]
  obtain ⟨w, hw0⟩ : ∃ w, w ∈ who := ⟨_, List.getElem_mem (h := g.w0)⟩
  refine ⟨(t.S w).vid, ho, hm, fun i hi => ?_⟩
  have h1 := g.vid_le hi hw0 (ho i hi) (ho w hw0) ((hv i hi).trans (hv w hw0).symm)
  have h2 := g.vid_le hw0 hi (ho w hw0) (ho i hi) ((hv w hw0).trans (hv i hi).symm)
  obtain ⟨m, r, a1, a2, a3, a4⟩ := (g.cal.vw i (g.wn i hi) (ho i hi)).hd
  obtain ⟨m', r', b1, b2, b3, b4⟩ := (g.cal.vw w (g.wn w hw0) (ho w hw0)).hd
  rw [hm i hi] at a1
  rw [hm w hw0, a1] at b1
  injection b1 with b1 _
  subst b1
  cases hA : (t.S i).vid with
  | mk e l i' c' =>
    cases hB : (t.S w).vid with
    | mk e2 l2 i2 c2 =>
      rw [hA] at h1 h2 a2 a3 a4
      rw [hB] at h1 h2 b2 b3 b4
      simp only at h1 h2 a2 a3 a4 b2 b3 b4
      rw [show e = e2 by omega, a2, a3, a4, b2, b3, b4]
def rdTo (who : List Nat) (turn : Nat) (t : Tm) : Nat → Tm
  | 0 => t
  | k + 1 => (rdTo who turn t k).round who turn
theorem rd_c {L c k : Nat} (hL : L ≤ 16) : c + 272 * k + L * L + L ≤ c + 272 * (k + 1) := by
  have h2 : L * L ≤ 16 * 16 := Nat.mul_le_mul hL hL
  omega
theorem Gd.rds (g : Gd n c who X t) (hL : who.length ≤ 16) (turn : Nat) (hc : n + c ≤ 900000000) : ∀ k, k ≤ 6 → Gd n (c + 272 * k) who X (rdTo who turn t k)
  | 0, _ => g
  | k + 1, hk => by
    have ih := g.rds hL turn hc k (by omega)
    have h2 : who.length * who.length ≤ 16 * 16 := Nat.mul_le_mul hL hL
    exact (ih.round turn (by omega)).gd.more (rd_c hL)
theorem calm_rounds (g : Gd n c who X t) (hw : who = (List.range n).filter p) (hL : who.length ≤ 16) (turn turn' : Nat) (hc : n + c ≤ 800000000) :
    ∃ F V, Sd who F V (rdTo who turn t 4) ∧ Sd who F V (rdTo who turn' (rdTo who turn t 4) 2) := by
  have h2 : who.length * who.length ≤ 16 * 16 := Nat.mul_le_mul hL hL
  have g1 := g.rds hL turn (by omega) 1 (by omega)
  have g2 := g.rds hL turn (by omega) 2 (by omega)
  have g3 := g.rds hL turn (by omega) 3 (by omega)
  have g4 := g.rds hL turn (by omega) 4 (by omega)
  have g5 := g4.rds hL turn' (by omega) 1 (by omega)
  have g6 := g4.rds hL turn' (by omega) 2 (by omega)
  have R1 := g.round turn (by omega)
  have R2 := g1.round turn (by omega)
  have R3 := g2.round turn (by omega)
  have R4 := g3.round turn (by omega)
  have R5 := g4.round turn' (by omega)
  have R6 := g5.round turn' (by omega)
  obtain ⟨F, F2⟩ := two_rounds g R1 R2
  obtain ⟨F3, v3, -, -⟩ := fin_round g2 F2 R3
  obtain ⟨F4, v4, -, -⟩ := fin_round g3 F3 R4
  have o4 := fin_all g3 F3 v3 R4
  obtain ⟨V, S4⟩ := g4.sd hw o4 v4
  obtain ⟨F5, v5, -, k5⟩ := fin_round g4 F4 R5
  obtain ⟨F6, v6, -, k6⟩ := fin_round g5 F5 R6
  have o5 : ∀ i ∈ who, ((rdTo who turn' (rdTo who turn t 4) 1).S i).opn = false := fun i hi => (k5 i hi (o4 i hi)).1
  have o6 : ∀ i ∈ who, ((rdTo who turn' (rdTo who turn t 4) 2).S i).opn = false := fun i hi => (k6 i hi (o5 i hi)).1
  obtain ⟨V6, S6⟩ := g6.sd hw o6 v6
  refine ⟨F, V, S4, ⟨S6.cl, S6.mem, fun i hi => ?_⟩⟩
  exact ((k6 i hi (o5 i hi)).2.trans (k5 i hi (o4 i hi)).2).trans (S4.vid i hi)
def tAll (who : List Nat) (mask : Int) (t : Tm) : Nat → Tm
  | 0 => t
  | k + 1 => (tAll who mask t k).told (who.getD k 0) mask
theorem told_S (t : Tm) (i : Nat) (mask : Int) (q : Nat) : (t.told i mask).S q = if q = i then ((t.S i).estimate (t.setOf i mask)).2.2 else t.S q := rfl
theorem est_set {s : St} {l : List Int} {k : Int} (hp : packB l s.n = true) (hm : nth (pad l) s.self = s.inc) (h : s.own.cid ≤ k ∧ s.own.rev ≤ k ∧ s.own.top ≤ k ∧ s.vid.e ≤ k) (hk : k < 4611686018427387904) : (s.estimate l).2.2.own.set = pad l := by
  unfold St.estimate
  rw [hp, hm, if_neg (by simp)]
  split
  · rename_i e; exact e.symm
  · rw [spent_no h hk, if_neg (by decide)]; rfl
theorem est_inc {s : St} (l : List Int) : (s.estimate l).2.2.inc = s.inc := by
  unfold St.estimate
  split
  · rfl
  · split
    · rfl
    · split
      · rfl
      · rfl
theorem tAll_gd (C : Cal n c t) {mask : Int} (hw : who = (List.range n).filter (mbit mask)) (h0 : 0 < who.length) (hc : n + c + who.length ≤ 1000000000) :
    ∀ k, k ≤ who.length → Cal n (c + k) (tAll who mask t k) ∧ (∀ q, ((tAll who mask t k).S q).inc = (t.S q).inc) ∧ ∀ k', k' < k → ((tAll who mask t k).S (who.getD k' 0)).own.set = pad ((List.range n).map fun q => if mbit mask q = true then (t.S q).inc else 0)
  | 0, _ => ⟨C, fun _ => rfl, fun k' hk' => absurd hk' (by omega)⟩
  | k + 1, hk => by
    obtain ⟨h1, h2, h3⟩ := tAll_gd C hw h0 hc k (by omega)
    have hi : who.getD k 0 ∈ who := getD_mem (by omega)
    obtain ⟨i, hii⟩ : ∃ i, i = who.getD k 0 := ⟨_, rfl⟩
    rw [← hii] at hi
    have hin : i < n ∧ mbit mask i = true := by rw [hw, List.mem_filter, List.mem_range] at hi; exact hi
    have nn := h1.p.nn
    obtain ⟨on, oR, oH, oN⟩ := h1.p.ok.nd i hin.1
    have hso : (tAll who mask t k).setOf i mask = (List.range n).map fun q => if mbit mask q = true then (t.S q).inc else 0 := by
      unfold Tm.setOf
      rw [nn]
      refine List.map_congr_left fun q hq => ?_
      rw [h2 q]
      by_cases e : mbit mask q = true
      · rw [if_pos (.inr e), if_pos e]
      · rw [if_neg e, if_neg]
        rintro (e2 | e2)
        · rw [e2] at e; exact e hin.2
        · exact e e2
    have hp : packB ((List.range n).map fun q => if mbit mask q = true then (t.S q).inc else 0) n = true := by
      unfold packB
      rw [Bool.and_eq_true]
      refine ⟨by simp, List.all_eq_true.2 fun v hv => ?_⟩
      obtain ⟨q, hq, rfl⟩ := List.mem_map.1 hv
      have hqn := List.mem_range.1 hq
      obtain ⟨-, qR, -, -⟩ := C.p.ok.nd q hqn
      have := qR.inv.inc1
      have := qR.inv.inc2
      unfold okB
      split <;> exact decide_eq_true (by omega)
    have hset : (((tAll who mask t k).S i).estimate ((tAll who mask t k).setOf i mask)).2.2.own.set = pad ((List.range n).map fun q => if mbit mask q = true then (t.S q).inc else 0) := by
      rw [hso]
      refine est_set (by rw [on, nn]; exact hp) ?_ (h1.p.bd.s i) (by omega)
      rw [nth_padA, oN.self]
      unfold nth
      rw [List.getElem?_map, List.getElem?_range hin.1]
      show (if mbit mask i = true then (t.S i).inc else 0) = _
      rw [if_pos hin.2, h2 i]
    have e : tAll who mask t (k + 1) = (tAll who mask t k).told i mask := by rw [hii]; rfl
    rw [e]
    refine ⟨h1.told (by omega) hin.1 mask, fun q => ?_, fun k' hk' => ?_⟩
    · rw [told_S]; split
      · rename_i e; rw [e, est_inc]; exact h2 i
      · exact h2 q
    · rw [told_S]; split
      · exact hset
      · rename_i hne
        rcases Nat.lt_succ_iff_lt_or_eq.1 hk' with hlt | rfl
        · exact h3 k' hlt
        · exact absurd hii.symm hne
theorem told_gd (C : Cal n c t) {mask : Int} (hw : who = (List.range n).filter (mbit mask)) (h0 : 0 < who.length) (hc : n + c + who.length ≤ 1000000000) :
    ∃ X, Gd n (c + who.length) who X (tAll who mask t who.length) := by
  obtain ⟨h1, h2, h3⟩ := tAll_gd C hw h0 hc who.length (Nat.le_refl _)
  refine ⟨pad ((List.range n).map fun q => if mbit mask q = true then (t.S q).inc else 0), h1, h0, fun q hq => ?_, fun i hi => ?_, fun q hq => ?_⟩
  · rw [hw, List.mem_filter, List.mem_range] at hq; exact hq.1
  · obtain ⟨x, hx, rfl⟩ := List.mem_iff_getElem.1 hi
    have e : who[x] = who.getD x 0 := by rw [List.getD_eq_getElem?_getD, List.getElem?_eq_getElem hx]; rfl
    rw [e]; exact h3 x hx
  · rw [nth_padA, h2]
    unfold nth
    rw [List.getElem?_map, List.getElem?_range hq]
    show (if mbit mask q = true then (t.S q).inc else 0) = _
    by_cases e : mbit mask q = true
    · rw [if_pos e, if_pos (by rw [hw, List.mem_filter, List.mem_range]; exact ⟨hq, e⟩)]
    · rw [if_neg e, if_neg (by rw [hw, List.mem_filter, List.mem_range]; exact fun h => e h.2)]
end
def whoOf (n : Nat) (mask : Int) : List Nat := (List.range n).filter (mbit mask)
def maskOf (n : Nat) (mask : Int) : Int := if whoOf n mask = [] then 1 else mask
theorem mbit_one : ∀ q, q < 16 → mbit 1 q = decide (q = 0) := by decide
theorem who_one {n : Nat} (h : 1 ≤ n) (h16 : n ≤ 16) : whoOf n 1 = [0] := by
  unfold whoOf
  obtain ⟨m, rfl⟩ : ∃ m, n = m + 1 := ⟨n - 1, by omega⟩
  rw [List.range_succ_eq_map, List.filter_cons]
  have e : mbit 1 0 = true := by decide
  rw [if_pos e, List.filter_map]
  congr 1
  rw [List.map_eq_nil_iff, List.filter_eq_nil_iff]
  intro q hq
  have hq' := List.mem_range.1 hq
  show ¬ mbit 1 (q + 1) = true
  rw [mbit_one (q + 1) (by omega)]
  simp
theorem whoM (n : Nat) (mask : Int) (h : 1 ≤ n) (h16 : n ≤ 16) : 0 < (whoOf n (maskOf n mask)).length ∧ (whoOf n (maskOf n mask)).length ≤ 16 := by
  refine ⟨?_, ?_⟩
  · unfold maskOf
    split
    · rw [who_one h h16]; decide
    · rename_i hne; exact List.length_pos_iff.2 hne
  · have := List.length_filter_le (mbit (maskOf n mask)) (List.range n)
    rw [List.length_range] at this
    unfold whoOf; omega
end Go.Proofs.Ytfbeggdbjpmppaa
