/- CrM CrN CrP, joined. -/
import Derived.Test.YtoilipfgimcoiaaOe14
set_option linter.unusedVariables false
set_option linter.unusedSimpArgs false
namespace Go.Proofs.Ytoilipfgimcoiaa
open Go Go.RowKit
structure Rw (α : Type) where
  A : Option Addr
  c : Nat
  l : List α
def eRw {α : Type} (x : Rw α) : List Value := [.slice x.A x.l.length x.c]
structure Bx where
  A : Option Addr
  c : Nat
  b : List Int
def eBx (x : Bx) : List Value := [.slice x.A x.b.length x.c]
structure Ix where
  it : Itm
  A : Option Addr
  c : Nat
def eIx (x : Ix) : List Value := (itA x.it x.A x.c x.it.b.length).toList
def eSb (s : Stb) : List Value := (sbA s).toList
def eBo (b : Bool) : List Value := [.bool b]
def ePt (b : Nat) : List Value := [.pointer (some ⟨b, 0, none⟩)]
theorem one_eRw {α : Type} (x : Rw α) : ∀ u ∈ eRw x, u.oneCell' = true := by intro u hu; rw [List.mem_singleton.1 hu]; rfl
theorem one_eBx (x : Bx) : ∀ u ∈ eBx x, u.oneCell' = true := by intro u hu; rw [List.mem_singleton.1 hu]; rfl
theorem one_eBo (x : Bool) : ∀ u ∈ eBo x, u.oneCell' = true := by intro u hu; rw [List.mem_singleton.1 hu]; rfl
theorem one_ePt (x : Nat) : ∀ u ∈ ePt x, u.oneCell' = true := by intro u hu; rw [List.mem_singleton.1 hu]; rfl
theorem one_eIx (x : Ix) : ∀ u ∈ eIx x, u.oneCell' = true := by
  intro u hu
  simp [eIx] at hu
  rcases hu with rfl | rfl | rfl | rfl | rfl | rfl | rfl | rfl | rfl <;> rfl
theorem one_eSb (x : Stb) : ∀ u ∈ eSb x, u.oneCell' = true := by
  intro u hu
  simp [eSb] at hu
  rcases hu with rfl | rfl | rfl | rfl | rfl | rfl <;> rfl
theorem OwnO.set1 {α : Type} {w w' : World} {K : Nat → Nat} {r c g off : Nat} {enc : α → List Value} {l : List α} (h : OwnO w K r 1 enc (some ⟨g, off, none⟩) c l) (henc : ∀ x, (enc x).length = 1) {i : Nat} (hi : i < l.length) {y : α} {v : Value} (hv : enc y = [v]) (hw : w' = w.setCell ⟨g, off + i, none⟩ v) :
    OwnO w' K r 1 enc (some ⟨g, off, none⟩) c (l.set i y) ∧ Ro (· = r) K K w w' := by
  rcases h with ⟨e, -, -⟩ | ⟨g', off', e, h1, h2, h3, h4, h5⟩
  · cases e
  injection e with e
  injection e with e1 e2 _
  subst e1 e2 hw
  refine ⟨.inr ⟨g, off, rfl, by rw [World.size_setCell]; exact h1, h2, by rw [List.length_set]; exact h3, fun j hj => ?_, fun k x hx j u hu => ?_⟩, Ro.cell h2 _ _⟩
  · rw [World.frozen?_setCell]
    refine ⟨?_, (h4 j hj).2⟩
    by_cases e : j = i
    · subst e
      rw [World.cell?_setCell_same' _ _ _ (h4 j hj).1]; rfl
    · obtain ⟨u, hu⟩ := Option.isSome_iff_exists.1 (h4 j hj).1
      have : (w.setCell ⟨g, off + i, none⟩ v).cell? ⟨g, off + j, none⟩ = some u := cell_out (vs := [v]) hu (by show off + j < off + i ∨ off + i + 1 ≤ off + j; omega)
      rw [this]; rfl
  · have hj : j = 0 := by have := (List.getElem?_eq_some_iff.1 hu).1; rw [henc] at this; omega
    subst hj
    by_cases e : k = i
    · subst e
      rw [List.getElem?_set_self hi] at hx
      injection hx with hx
      subst hx
      rw [hv] at hu
      injection hu with hu
      subst hu
      rw [Nat.mul_one, Nat.add_zero]
      exact World.cell?_setCell_same' _ _ _ (h4 k (by omega)).1
    · rw [List.getElem?_set_ne (fun e2 => e e2.symm)] at hx
      exact cell_out (vs := [v]) (h5 k x hx 0 u hu) (by show off + k * 1 + 0 < off + i ∨ off + i + 1 ≤ off + k * 1 + 0; omega)
structure LstAt {α β : Type} (w : World) (K : Nat → Nat) (q base n sz : Nat) (enc : α → List Value) (val : α → β) (bd : α → Option Addr × List Int) (R : Rw (Rw α)) (f : Nat → List β) : Prop where
  len : R.l.length = n
  row : OwnO w K q 1 eRw R.A R.c R.l
  el : ∀ i x, R.l[i]? = some x → OwnO w K (base + i) sz enc x.A x.c x.l ∧ x.l.map val = f i ∧ ∀ y ∈ x.l, RowK w K 1 eByte (bd y).1 (bd y).2
section
variable {α β : Type} {w w' w2 : World} {K K' : Nat → Nat} {q base n sz : Nat} {enc : α → List Value} {val : α → β} {bd : α → Option Addr × List Int} {R : Rw (Rw α)} {f : Nat → List β} {Q : Nat → Prop}
theorem LstAt.ro (h : LstAt w K q base n sz enc val bd R f) (r : Ro Q K K' w w') (h0 : ¬ Q 0) (hq : ¬ Q q) (hb : ∀ i, i < n → ¬ Q (base + i)) : LstAt w' K' q base n sz enc val bd R f :=
  ⟨h.len, h.row.ro r hq, fun i x hx => by
    obtain ⟨a, b, c⟩ := h.el i x hx
    exact ⟨a.ro r (hb i (by rw [← h.len]; exact (List.getElem?_eq_some_iff.1 hx).1)), b, fun y hy => (c y hy).ro r h0⟩⟩
structure AtI (w : World) (K : Nat → Nat) (q base sz : Nat) (enc : α → List Value) (val : α → β) (bd : α → Option Addr × List Int) (R : Rw (Rw α)) (l : List β) (i g off : Nat) (x : Rw α) : Prop where
  eA : R.A = some ⟨g, off, none⟩
  hg : g < w.heap.size
  hk : K g = q
  hx : R.l[i]? = some x
  hc : w.cell? ⟨g, off + i, none⟩ = some (.slice x.A l.length x.c)
  hf : w.frozen? ⟨g, off + i, none⟩ = false
  ow : OwnO w K (base + i) sz enc x.A x.c x.l
  vl : x.l.map val = l
  ln : x.l.length = l.length
  hb : ∀ y ∈ x.l, RowK w K 1 eByte (bd y).1 (bd y).2
theorem LstAt.get (h : LstAt w K q base n sz enc val bd R f) {i : Nat} (hi : i < n) : ∃ g off x, AtI w K q base sz enc val bd R (f i) i g off x := by
  have hl := h.len
  obtain ⟨x, hx⟩ : ∃ x, R.l[i]? = some x := ⟨_, List.getElem?_eq_getElem (by omega)⟩
  obtain ⟨h1, h2, h3⟩ := h.el i x hx
  have hlen : x.l.length = (f i).length := by rw [← h2, List.length_map]
  rcases h.row with ⟨-, e, -⟩ | ⟨g, off, e, k1, k2, k3, k4, k5⟩
  · rw [e] at hl; simp at hl; omega
  · refine ⟨g, off, x, e, k1, k2, hx, ?_, (k4 i (by omega)).2, h1, h2, hlen, h3⟩
    have := k5 i x hx 0 _ rfl
    rwa [Nat.mul_one, Nat.add_zero, hlen] at this
theorem LstAt.push (h : LstAt w K q base n sz enc val bd R f) {i g off : Nat} {x : Rw α} (hi : i < n) (a : AtI w K q base sz enc val bd R (f i) i g off x) (y : α) {A' : Option Addr} {c' : Nat} (own : OwnO w' K' (base + i) sz enc A' c' (x.l ++ [y])) (hy : RowK w' K' 1 eByte (bd y).1 (bd y).2)
    (r : Ro (· = base + i) K K' w w') (hw : w2 = w'.setCell ⟨g, off + i, none⟩ (.slice A' ((f i).length + 1) c')) (hq0 : q ≠ 0) (hb0 : base ≠ 0) (hqb : ∀ j, j < n → q ≠ base + j) :
    LstAt w2 K' q base n sz enc val bd ⟨R.A, R.c, R.l.set i ⟨A', c', x.l ++ [y]⟩⟩ (upN f i (f i ++ [val y])) ∧ Ro (fun z => z = base + i ∨ z = q) K K' w w2 := by
  have hl := h.len
  have h1 := h.ro r (by omega)
  have hrow := h.row.ro r (hqb i hi)
  have hlen := a.ln
  rw [a.eA] at hrow
  obtain ⟨s1, s2⟩ := hrow.set1 (fun _ => rfl) (i := i) (by omega) (y := (⟨A', c', x.l ++ [y]⟩ : Rw α)) (v := .slice A' ((f i).length + 1) c') (by show [Value.slice A' (x.l ++ [y]).length c'] = _; rw [List.length_append, hlen]; rfl) hw
  refine ⟨⟨by rw [List.length_set]; exact hl, by rw [a.eA]; exact s1, fun j z hz => ?_⟩, (r.more fun z e => .inl e).trans (s2.more fun z e => .inr e)⟩
  have hz : (R.l.set i ⟨A', c', x.l ++ [y]⟩)[j]? = some z := hz
  by_cases e : j = i
  · subst e
    rw [List.getElem?_set_self (by omega)] at hz
    injection hz with hz
    subst hz
    rw [upN_same]
    refine ⟨own.ro s2 (hqb j hi).symm, by rw [List.map_append, a.vl]; rfl, fun t ht => ?_⟩
    rcases List.mem_append.1 ht with ht | ht
    · exact ((a.hb t ht).ro r (by omega)).ro s2 (fun e => hq0 e.symm)
    · rw [List.mem_singleton.1 ht]; exact hy.ro s2 fun e => hq0 e.symm
  · rw [List.getElem?_set_ne (fun e2 => e e2.symm)] at hz
    have hj : j < n := by rw [← hl]; exact (List.getElem?_eq_some_iff.1 hz).1
    obtain ⟨b1, b2, b3⟩ := h.el j z hz
    rw [upN_ne _ _ e]
    exact ⟨(b1.ro r (by omega)).ro s2 (hqb j hj).symm, b2, fun t ht => ((b3 t ht).ro r (by omega)).ro s2 fun e => hq0 e.symm⟩
end
structure CwX where
  O : Rw Nat
  sent : Rw (Rw Bx)
  made : Rw (Rw Ix)
  had : Rw (Rw Nat)
  log : Rw (Rw MgX)
  told : Rw (Rw Stb)
  stop : Rw Bool
  long : Rw MgX
def cellsC (v : Crw) (X : CwX) : List Value := [.slice X.O.A v.n X.O.c, .int .i64 v.win, .slice X.sent.A v.n X.sent.c, .slice X.made.A v.n X.made.c, .slice X.had.A v.n X.had.c, .slice X.log.A v.n X.log.c, .slice X.told.A v.n X.told.c, .slice X.stop.A v.n X.stop.c, .slice X.long.A v.long.length X.long.c]
abbrev noB {α : Type} (_ : α) : Option Addr × List Int := (none, [])
abbrev bdB (x : Bx) : Option Addr × List Int := (x.A, x.b)
abbrev bdI (x : Ix) : Option Addr × List Int := (x.A, x.it.b)
abbrev bdM (x : MgX) : Option Addr × List Int := (x.A, x.m.b)
def hadL (v : Crw) (i : Nat) : List Nat := (List.range v.n).map (v.had i)
abbrev SentAt (w : World) (K : Nat → Nat) (n : Nat) (R : Rw (Rw Bx)) (f : Nat → List (List Int)) : Prop := LstAt w K 3 20 n 1 eBx Bx.b bdB R f
abbrev MadeAt (w : World) (K : Nat → Nat) (n : Nat) (R : Rw (Rw Ix)) (f : Nat → List Itm) : Prop := LstAt w K 4 30 n 9 eIx Ix.it bdI R f
abbrev HadAt (w : World) (K : Nat → Nat) (n : Nat) (R : Rw (Rw Nat)) (f : Nat → List Nat) : Prop := LstAt w K 5 40 n 1 eNat id noB R f
abbrev LogAt (w : World) (K : Nat → Nat) (n : Nat) (R : Rw (Rw MgX)) (f : Nat → List Mg) : Prop := LstAt w K 6 50 n 4 eMg MgX.m bdM R f
abbrev ToldAt (w : World) (K : Nat → Nat) (n : Nat) (R : Rw (Rw Stb)) (f : Nat → List Stb) : Prop := LstAt w K 7 60 n 6 eSb id noB R f
structure CrwAt (w : World) (K : Nat → Nat) (b : Nat) (v : Crw) (X : CwX) : Prop where
  n : v.n ≤ 4
  kb : K b = 1
  hb : b < w.heap.size
  kz : ∀ y, w.heap.size ≤ y → K y = 0
  rg : w.rangeAt b 0 (cellsC v X)
  th : w.there b 0 9
  O : OwnO w K 2 1 ePt X.O.A X.O.c X.O.l
  ol : X.O.l.length = v.n
  os : ∀ i x, X.O.l[i]? = some x → ∃ Y, OrdAt w K (100 + 4 * i) x (v.o i) Y
  sent : SentAt w K v.n X.sent v.sent
  made : MadeAt w K v.n X.made v.made
  had : HadAt w K v.n X.had (hadL v)
  log : LogAt w K v.n X.log v.log
  told : ToldAt w K v.n X.told v.told
  stop : OwnO w K 8 1 eBo X.stop.A X.stop.c X.stop.l
  sv : X.stop.l = (List.range v.n).map v.stop
  long : OwnO w K 9 4 eMg X.long.A X.long.c X.long.l
  lv : X.long.l.map (·.m) = v.long
  lb : ∀ x ∈ X.long.l, RowK w K 1 eByte x.A x.m.b
section
variable {w w' w2 : World} {K K' : Nat → Nat} {b : Nat} {v : Crw} {X : CwX} {Q : Nat → Prop}
theorem there_ro {g off m : Nat} (h : w.there g off m) (hg : g < w.heap.size) (r : Ro Q K K' w w') (hq : ¬ Q (K g)) : w'.there g off m := there_sameO h (r.same g hg hq)
theorem range_ro {g off : Nat} {l : List Value} (h : w.rangeAt g off l) (hg : g < w.heap.size) (r : Ro Q K K' w w') (hq : ¬ Q (K g)) : w'.rangeAt g off l := range_same h (r.same g hg hq)
theorem CrwAt.ro (C : CrwAt w K b v X) (r : Ro Q K K' w w') (kz : ∀ y, w'.heap.size ≤ y → K' y = 0) (hq : ∀ x, Q x → 200 < x) : CrwAt w' K' b v X := by
  have nq : ∀ x, x ≤ 200 → ¬ Q x := fun x hx h => by have := hq x h; omega
  have hn := C.n
  have hkb := C.kb
  exact ⟨C.n, (r.kk b C.hb).trans C.kb, Nat.lt_of_lt_of_le C.hb r.size, kz, range_ro C.rg C.hb r (nq _ (by omega)), there_ro C.th C.hb r (nq _ (by omega)), C.O.ro r (nq _ (by omega)), C.ol, fun i x hx => by
    have hi : i < v.n := by rw [← C.ol]; exact (List.getElem?_eq_some_iff.1 hx).1
    obtain ⟨Y, hY⟩ := C.os i x hx
    exact ⟨Y, hY.ro r kz (nq _ (by omega)) fun y hy => nq _ (by unfold inR at hy; omega)⟩, C.sent.ro r (nq _ (by omega)) (nq _ (by omega)) (fun i hi => nq _ (by omega)), C.made.ro r (nq _ (by omega)) (nq _ (by omega)) (fun i hi => nq _ (by omega)), C.had.ro r (nq _ (by omega)) (nq _ (by omega)) (fun i hi => nq _ (by omega)), C.log.ro r (nq _ (by omega)) (nq _ (by omega)) (fun i hi => nq _ (by omega)), C.told.ro r (nq _ (by omega)) (nq _ (by omega)) (fun i hi => nq _ (by omega)), C.stop.ro r (nq _ (by omega)), C.sv, C.long.ro r (nq _ (by omega)), C.lv, fun x hx => (C.lb x hx).ro r (nq _ (by omega))⟩
theorem CrwAt.below (C : CrwAt w K b v X) (h : Below w.heap.size w w') : CrwAt w' K b v X := C.ro (Q := fun _ => False) (.below h) (fun y hy => C.kz y (Nat.le_trans h.size hy)) fun _ h => h.elim
theorem CrwAt.ord (C : CrwAt w K b v X) {i : Nat} (hi : i < v.n) : ∃ g off x Y, X.O.A = some ⟨g, off, none⟩ ∧ g < w.heap.size ∧ K g = 2 ∧ X.O.l[i]? = some x ∧ w.cell? ⟨g, off + i, none⟩ = some (.pointer (some ⟨x, 0, none⟩)) ∧ OrdAt w K (100 + 4 * i) x (v.o i) Y := by
  have hl := C.ol
  obtain ⟨x, hx⟩ : ∃ x, X.O.l[i]? = some x := ⟨_, List.getElem?_eq_getElem (by omega)⟩
  obtain ⟨Y, hY⟩ := C.os i x hx
  rcases C.O with ⟨-, e, -⟩ | ⟨g, off, e, k1, k2, k3, k4, k5⟩
  · rw [e] at hl; simp at hl; omega
  · refine ⟨g, off, x, Y, e, k1, k2, hx, ?_, hY⟩
    have := k5 i x hx 0 _ rfl
    rwa [Nat.mul_one, Nat.add_zero] at this
theorem CrwAt.stp (C : CrwAt w K b v X) {i : Nat} (hi : i < v.n) : ∃ g off, X.stop.A = some ⟨g, off, none⟩ ∧ g < w.heap.size ∧ K g = 8 ∧ w.cell? ⟨g, off + i, none⟩ = some (.bool (v.stop i)) ∧ w.frozen? ⟨g, off + i, none⟩ = false := by
  have hl := C.sv
  rcases C.stop with ⟨-, e, -⟩ | ⟨g, off, e, k1, k2, k3, k4, k5⟩
  · rw [hl] at e; have := congrArg List.length e; simp at this; omega
  · refine ⟨g, off, e, k1, k2, ?_, ?_⟩
    · have := k5 i (v.stop i) (by rw [hl]; exact map_range _ hi) 0 _ rfl
      rwa [Nat.mul_one, Nat.add_zero] at this
    · rw [hl] at k3; simp at k3
      exact (k4 i (by omega)).2
theorem CrwAt.setO (C : CrwAt w K b v X) {i x : Nat} {o' : Os} {Y : OsX} (hi : i < v.n) (hx : X.O.l[i]? = some x) (A : OrdAt w' K' (100 + 4 * i) x o' Y) (r : Ro (inR (100 + 4 * i)) K K' w w') : CrwAt w' K' b { v with o := upN v.o i o' } X := by
  have hn := C.n
  have nq : ∀ y, y < 100 → ¬ inR (100 + 4 * i) y := fun y hy h => by unfold inR at h; omega
  have hkb := C.kb
  exact ⟨C.n, (r.kk b C.hb).trans C.kb, Nat.lt_of_lt_of_le C.hb r.size, A.kz, range_ro C.rg C.hb r (nq _ (by omega)), there_ro C.th C.hb r (nq _ (by omega)), C.O.ro r (nq _ (by omega)), C.ol, fun k z hz => by
    by_cases e : k = i
    · subst e
      rw [hx] at hz
      injection hz with hz
      subst hz
      exact ⟨Y, by show OrdAt w' K' _ _ (upN v.o k o' k) Y; rw [upN_same]; exact A⟩
    · have hk : k < v.n := by rw [← C.ol]; exact (List.getElem?_eq_some_iff.1 hz).1
      obtain ⟨Z, hZ⟩ := C.os k z hz
      exact ⟨Z, by show OrdAt w' K' _ _ (upN v.o i o' k) Z; rw [upN_ne _ _ e]; exact hZ.ro r A.kz (nq _ (by omega)) fun y hy => by unfold inR at *; omega⟩, C.sent.ro r (nq _ (by omega)) (nq _ (by omega)) (fun i hi => nq _ (by omega)), C.made.ro r (nq _ (by omega)) (nq _ (by omega)) (fun i hi => nq _ (by omega)), C.had.ro r (nq _ (by omega)) (nq _ (by omega)) (fun i hi => nq _ (by omega)), C.log.ro r (nq _ (by omega)) (nq _ (by omega)) (fun i hi => nq _ (by omega)), C.told.ro r (nq _ (by omega)) (nq _ (by omega)) (fun i hi => nq _ (by omega)), C.stop.ro r (nq _ (by omega)), C.sv, C.long.ro r (nq _ (by omega)), C.lv, fun x hx => (C.lb x hx).ro r (nq _ (by omega))⟩
end
end Go.Proofs.Ytoilipfgimcoiaa
namespace Go.Proofs.Ytoilipfgimcoiaa
open Go Go.RowKit
section
variable {w : World}
theorem load31s {b j n c : Nat} {A : Option Addr} (h : w.cell? ⟨b, j, none⟩ = some (.slice A n c)) : (loadVar 31 ⟨b, j, none⟩).run Try.prog w = .ok (.slice A n c) w := by go_simp
theorem load32s {b j n c : Nat} {A : Option Addr} (h : w.cell? ⟨b, j, none⟩ = some (.slice A n c)) : (loadVar 32 ⟨b, j, none⟩).run Try.prog w = .ok (.slice A n c) w := by go_simp
theorem load33s {b j n c : Nat} {A : Option Addr} (h : w.cell? ⟨b, j, none⟩ = some (.slice A n c)) : (loadVar 33 ⟨b, j, none⟩).run Try.prog w = .ok (.slice A n c) w := by go_simp
theorem load34s {b j n c : Nat} {A : Option Addr} (h : w.cell? ⟨b, j, none⟩ = some (.slice A n c)) : (loadVar 34 ⟨b, j, none⟩).run Try.prog w = .ok (.slice A n c) w := by go_simp
theorem load35s {b j n c : Nat} {A : Option Addr} (h : w.cell? ⟨b, j, none⟩ = some (.slice A n c)) : (loadVar 35 ⟨b, j, none⟩).run Try.prog w = .ok (.slice A n c) w := by go_simp
theorem load36s {b j n c : Nat} {A : Option Addr} (h : w.cell? ⟨b, j, none⟩ = some (.slice A n c)) : (loadVar 36 ⟨b, j, none⟩).run Try.prog w = .ok (.slice A n c) w := by go_simp
theorem load37s {b j n c : Nat} {A : Option Addr} (h : w.cell? ⟨b, j, none⟩ = some (.slice A n c)) : (loadVar 37 ⟨b, j, none⟩).run Try.prog w = .ok (.slice A n c) w := by go_simp
theorem load41s {b j n c : Nat} {A : Option Addr} (h : w.cell? ⟨b, j, none⟩ = some (.slice A n c)) : (loadVar 41 ⟨b, j, none⟩).run Try.prog w = .ok (.slice A n c) w := by go_simp
theorem load74s {b j n c : Nat} {A : Option Addr} (h : w.cell? ⟨b, j, none⟩ = some (.slice A n c)) : (loadVar 74 ⟨b, j, none⟩).run Try.prog w = .ok (.slice A n c) w := by go_simp
theorem load86s {b j n c : Nat} {A : Option Addr} (h : w.cell? ⟨b, j, none⟩ = some (.slice A n c)) : (loadVar 86 ⟨b, j, none⟩).run Try.prog w = .ok (.slice A n c) w := by go_simp
theorem load42 {b j : Nat} {A : Option Addr} (h : w.cell? ⟨b, j, none⟩ = some (.pointer A)) : (loadVar 42 ⟨b, j, none⟩).run Try.prog w = .ok (.pointer A) w := by go_simp
end
section
variable {w w' w2 : World} {K K' : Nat → Nat} {b : Nat} {v : Crw} {X : CwX} {l : List Nat}
theorem CrwAt.l_O (C : CrwAt w K b v X) (hl : b ∈ l) : Ld Try.prog 31 b 0 (Sm l w) (.slice X.O.A v.n X.O.c) := ⟨fun W hW => load31s (cell_sm (C.rg 0 _ rfl) hl hW)⟩
theorem CrwAt.l_sent (C : CrwAt w K b v X) (hl : b ∈ l) : Ld Try.prog 32 b 2 (Sm l w) (.slice X.sent.A v.n X.sent.c) := ⟨fun W hW => load32s (cell_sm (C.rg 2 _ rfl) hl hW)⟩
theorem CrwAt.l_made (C : CrwAt w K b v X) (hl : b ∈ l) : Ld Try.prog 33 b 3 (Sm l w) (.slice X.made.A v.n X.made.c) := ⟨fun W hW => load33s (cell_sm (C.rg 3 _ rfl) hl hW)⟩
theorem CrwAt.l_had (C : CrwAt w K b v X) (hl : b ∈ l) : Ld Try.prog 34 b 4 (Sm l w) (.slice X.had.A v.n X.had.c) := ⟨fun W hW => load34s (cell_sm (C.rg 4 _ rfl) hl hW)⟩
theorem CrwAt.l_log (C : CrwAt w K b v X) (hl : b ∈ l) : Ld Try.prog 35 b 5 (Sm l w) (.slice X.log.A v.n X.log.c) := ⟨fun W hW => load35s (cell_sm (C.rg 5 _ rfl) hl hW)⟩
theorem CrwAt.l_told (C : CrwAt w K b v X) (hl : b ∈ l) : Ld Try.prog 36 b 6 (Sm l w) (.slice X.told.A v.n X.told.c) := ⟨fun W hW => load36s (cell_sm (C.rg 6 _ rfl) hl hW)⟩
theorem CrwAt.l_stop (C : CrwAt w K b v X) (hl : b ∈ l) : Ld Try.prog 37 b 7 (Sm l w) (.slice X.stop.A v.n X.stop.c) := ⟨fun W hW => load37s (cell_sm (C.rg 7 _ rfl) hl hW)⟩
theorem CrwAt.l_long (C : CrwAt w K b v X) (hl : b ∈ l) : Ld Try.prog 38 b 8 (Sm l w) (.slice X.long.A v.long.length X.long.c) := ⟨fun W hW => load38 (cell_sm (C.rg 8 _ rfl) hl hW)⟩
theorem CrwAt.l_win (C : CrwAt w K b v X) (hl : b ∈ l) : Ld Try.prog 3 b 1 (Sm l w) (.int .i64 v.win) := ⟨fun W hW => load3 (cell_sm (C.rg 1 _ rfl) hl hW)⟩
theorem CrwAt.push_sent (C : CrwAt w K b v X) {i g off : Nat} {x : Rw Bx} (hi : i < v.n) (a : AtI w K 3 20 1 eBx Bx.b bdB X.sent (v.sent i) i g off x) (y : Bx) {A' : Option Addr} {c' : Nat} (own : OwnO w' K' (20 + i) 1 eBx A' c' (x.l ++ [y])) (hy : RowK w' K' 1 eByte y.A y.b) (r0 : Ro (· = 20 + i) K K' w w') (kz0 : ∀ z, w'.heap.size ≤ z → K' z = 0) (hw : w2 = w'.setCell ⟨g, off + i, none⟩ (.slice A' ((v.sent i).length + 1) c')) :
    CrwAt w2 K' b { v with sent := upN v.sent i (v.sent i ++ [y.b]) } { X with sent := ⟨X.sent.A, X.sent.c, X.sent.l.set i ⟨A', c', x.l ++ [y]⟩⟩ } ∧ Ro (fun z => z = 20 + i ∨ z = 3) K K' w w2 := by
  have hn := C.n
  have hkb := C.kb
  obtain ⟨h1, r⟩ := LstAt.push C.sent hi a y own hy r0 hw (by decide) (by decide) fun j hj => by omega
  have kz : ∀ z, w2.heap.size ≤ z → K' z = 0 := fun z hz => kz0 z (by rw [hw, World.size_setCell] at hz; exact hz)
  have nq : ∀ z, z ≠ 20 + i → z ≠ 3 → ¬ (z = 20 + i ∨ z = 3) := fun z a b h => h.elim a b
  exact ⟨⟨C.n, (r.kk b C.hb).trans C.kb, Nat.lt_of_lt_of_le C.hb r.size, kz, range_ro C.rg C.hb r (nq _ (by omega) (by omega)), there_ro C.th C.hb r (nq _ (by omega) (by omega)), C.O.ro r (nq _ (by omega) (by omega)), C.ol, fun k z hz => by
    have hk : k < v.n := by rw [← C.ol]; exact (List.getElem?_eq_some_iff.1 hz).1
    obtain ⟨Y, hY⟩ := C.os k z hz
    exact ⟨Y, hY.ro r kz (nq _ (by omega) (by omega)) fun y hy => nq _ (by unfold inR at hy; omega) (by unfold inR at hy; omega)⟩, h1, C.made.ro r (nq _ (by omega) (by omega)) (nq _ (by omega) (by omega)) (fun j hj => (nq _ (by omega) (by omega))), C.had.ro r (nq _ (by omega) (by omega)) (nq _ (by omega) (by omega)) (fun j hj => (nq _ (by omega) (by omega))), C.log.ro r (nq _ (by omega) (by omega)) (nq _ (by omega) (by omega)) (fun j hj => (nq _ (by omega) (by omega))), C.told.ro r (nq _ (by omega) (by omega)) (nq _ (by omega) (by omega)) (fun j hj => (nq _ (by omega) (by omega))), C.stop.ro r (nq _ (by omega) (by omega)), C.sv, C.long.ro r (nq _ (by omega) (by omega)), C.lv, fun x hx => (C.lb x hx).ro r (nq _ (by omega) (by omega))⟩, r⟩
theorem CrwAt.push_made (C : CrwAt w K b v X) {i g off : Nat} {x : Rw Ix} (hi : i < v.n) (a : AtI w K 4 30 9 eIx Ix.it bdI X.made (v.made i) i g off x) (y : Ix) {A' : Option Addr} {c' : Nat} (own : OwnO w' K' (30 + i) 9 eIx A' c' (x.l ++ [y])) (hy : RowK w' K' 1 eByte y.A y.it.b) (r0 : Ro (· = 30 + i) K K' w w') (kz0 : ∀ z, w'.heap.size ≤ z → K' z = 0) (hw : w2 = w'.setCell ⟨g, off + i, none⟩ (.slice A' ((v.made i).length + 1) c')) :
    CrwAt w2 K' b { v with made := upN v.made i (v.made i ++ [y.it]) } { X with made := ⟨X.made.A, X.made.c, X.made.l.set i ⟨A', c', x.l ++ [y]⟩⟩ } ∧ Ro (fun z => z = 30 + i ∨ z = 4) K K' w w2 := by
  have hn := C.n
  have hkb := C.kb
  obtain ⟨h1, r⟩ := LstAt.push C.made hi a y own hy r0 hw (by decide) (by decide) fun j hj => by omega
  have kz : ∀ z, w2.heap.size ≤ z → K' z = 0 := fun z hz => kz0 z (by rw [hw, World.size_setCell] at hz; exact hz)
  have nq : ∀ z, z ≠ 30 + i → z ≠ 4 → ¬ (z = 30 + i ∨ z = 4) := fun z a b h => h.elim a b
  exact ⟨⟨C.n, (r.kk b C.hb).trans C.kb, Nat.lt_of_lt_of_le C.hb r.size, kz, range_ro C.rg C.hb r (nq _ (by omega) (by omega)), there_ro C.th C.hb r (nq _ (by omega) (by omega)), C.O.ro r (nq _ (by omega) (by omega)), C.ol, fun k z hz => by
    have hk : k < v.n := by rw [← C.ol]; exact (List.getElem?_eq_some_iff.1 hz).1
    obtain ⟨Y, hY⟩ := C.os k z hz
    exact ⟨Y, hY.ro r kz (nq _ (by omega) (by omega)) fun y hy => nq _ (by unfold inR at hy; omega) (by unfold inR at hy; omega)⟩, C.sent.ro r (nq _ (by omega) (by omega)) (nq _ (by omega) (by omega)) (fun j hj => (nq _ (by omega) (by omega))), h1, C.had.ro r (nq _ (by omega) (by omega)) (nq _ (by omega) (by omega)) (fun j hj => (nq _ (by omega) (by omega))), C.log.ro r (nq _ (by omega) (by omega)) (nq _ (by omega) (by omega)) (fun j hj => (nq _ (by omega) (by omega))), C.told.ro r (nq _ (by omega) (by omega)) (nq _ (by omega) (by omega)) (fun j hj => (nq _ (by omega) (by omega))), C.stop.ro r (nq _ (by omega) (by omega)), C.sv, C.long.ro r (nq _ (by omega) (by omega)), C.lv, fun x hx => (C.lb x hx).ro r (nq _ (by omega) (by omega))⟩, r⟩
theorem CrwAt.push_log (C : CrwAt w K b v X) {i g off : Nat} {x : Rw MgX} (hi : i < v.n) (a : AtI w K 6 50 4 eMg MgX.m bdM X.log (v.log i) i g off x) (y : MgX) {A' : Option Addr} {c' : Nat} (own : OwnO w' K' (50 + i) 4 eMg A' c' (x.l ++ [y])) (hy : RowK w' K' 1 eByte y.A y.m.b) (r0 : Ro (· = 50 + i) K K' w w') (kz0 : ∀ z, w'.heap.size ≤ z → K' z = 0) (hw : w2 = w'.setCell ⟨g, off + i, none⟩ (.slice A' ((v.log i).length + 1) c')) :
    CrwAt w2 K' b { v with log := upN v.log i (v.log i ++ [y.m]) } { X with log := ⟨X.log.A, X.log.c, X.log.l.set i ⟨A', c', x.l ++ [y]⟩⟩ } ∧ Ro (fun z => z = 50 + i ∨ z = 6) K K' w w2 := by
  have hn := C.n
  have hkb := C.kb
  obtain ⟨h1, r⟩ := LstAt.push C.log hi a y own hy r0 hw (by decide) (by decide) fun j hj => by omega
  have kz : ∀ z, w2.heap.size ≤ z → K' z = 0 := fun z hz => kz0 z (by rw [hw, World.size_setCell] at hz; exact hz)
  have nq : ∀ z, z ≠ 50 + i → z ≠ 6 → ¬ (z = 50 + i ∨ z = 6) := fun z a b h => h.elim a b
  exact ⟨⟨C.n, (r.kk b C.hb).trans C.kb, Nat.lt_of_lt_of_le C.hb r.size, kz, range_ro C.rg C.hb r (nq _ (by omega) (by omega)), there_ro C.th C.hb r (nq _ (by omega) (by omega)), C.O.ro r (nq _ (by omega) (by omega)), C.ol, fun k z hz => by
    have hk : k < v.n := by rw [← C.ol]; exact (List.getElem?_eq_some_iff.1 hz).1
    obtain ⟨Y, hY⟩ := C.os k z hz
    exact ⟨Y, hY.ro r kz (nq _ (by omega) (by omega)) fun y hy => nq _ (by unfold inR at hy; omega) (by unfold inR at hy; omega)⟩, C.sent.ro r (nq _ (by omega) (by omega)) (nq _ (by omega) (by omega)) (fun j hj => (nq _ (by omega) (by omega))), C.made.ro r (nq _ (by omega) (by omega)) (nq _ (by omega) (by omega)) (fun j hj => (nq _ (by omega) (by omega))), C.had.ro r (nq _ (by omega) (by omega)) (nq _ (by omega) (by omega)) (fun j hj => (nq _ (by omega) (by omega))), h1, C.told.ro r (nq _ (by omega) (by omega)) (nq _ (by omega) (by omega)) (fun j hj => (nq _ (by omega) (by omega))), C.stop.ro r (nq _ (by omega) (by omega)), C.sv, C.long.ro r (nq _ (by omega) (by omega)), C.lv, fun x hx => (C.lb x hx).ro r (nq _ (by omega) (by omega))⟩, r⟩
theorem CrwAt.push_told (C : CrwAt w K b v X) {i g off : Nat} {x : Rw Stb} (hi : i < v.n) (a : AtI w K 7 60 6 eSb id noB X.told (v.told i) i g off x) (y : Stb) {A' : Option Addr} {c' : Nat} (own : OwnO w' K' (60 + i) 6 eSb A' c' (x.l ++ [y])) (r0 : Ro (· = 60 + i) K K' w w') (kz0 : ∀ z, w'.heap.size ≤ z → K' z = 0) (hw : w2 = w'.setCell ⟨g, off + i, none⟩ (.slice A' ((v.told i).length + 1) c')) :
    CrwAt w2 K' b { v with told := upN v.told i (v.told i ++ [y]) } { X with told := ⟨X.told.A, X.told.c, X.told.l.set i ⟨A', c', x.l ++ [y]⟩⟩ } ∧ Ro (fun z => z = 60 + i ∨ z = 7) K K' w w2 := by
  have hn := C.n
  have hkb := C.kb
  obtain ⟨h1, r⟩ := LstAt.push C.told hi a y own (fun h => absurd h (by simp)) r0 hw (by decide) (by decide) fun j hj => by omega
  have kz : ∀ z, w2.heap.size ≤ z → K' z = 0 := fun z hz => kz0 z (by rw [hw, World.size_setCell] at hz; exact hz)
  have nq : ∀ z, z ≠ 60 + i → z ≠ 7 → ¬ (z = 60 + i ∨ z = 7) := fun z a b h => h.elim a b
  exact ⟨⟨C.n, (r.kk b C.hb).trans C.kb, Nat.lt_of_lt_of_le C.hb r.size, kz, range_ro C.rg C.hb r (nq _ (by omega) (by omega)), there_ro C.th C.hb r (nq _ (by omega) (by omega)), C.O.ro r (nq _ (by omega) (by omega)), C.ol, fun k z hz => by
    have hk : k < v.n := by rw [← C.ol]; exact (List.getElem?_eq_some_iff.1 hz).1
    obtain ⟨Y, hY⟩ := C.os k z hz
    exact ⟨Y, hY.ro r kz (nq _ (by omega) (by omega)) fun y hy => nq _ (by unfold inR at hy; omega) (by unfold inR at hy; omega)⟩, C.sent.ro r (nq _ (by omega) (by omega)) (nq _ (by omega) (by omega)) (fun j hj => (nq _ (by omega) (by omega))), C.made.ro r (nq _ (by omega) (by omega)) (nq _ (by omega) (by omega)) (fun j hj => (nq _ (by omega) (by omega))), C.had.ro r (nq _ (by omega) (by omega)) (nq _ (by omega) (by omega)) (fun j hj => (nq _ (by omega) (by omega))), C.log.ro r (nq _ (by omega) (by omega)) (nq _ (by omega) (by omega)) (fun j hj => (nq _ (by omega) (by omega))), h1, C.stop.ro r (nq _ (by omega) (by omega)), C.sv, C.long.ro r (nq _ (by omega) (by omega)), C.lv, fun x hx => (C.lb x hx).ro r (nq _ (by omega) (by omega))⟩, r⟩
theorem OwnO.laid {α : Type} {r sz c : Nat} {enc : α → List Value} {A : Option Addr} {l l' : List α} (h : OwnO w K r sz enc A c l) (hl : l'.length = l.length) (he : ∀ (k : Nat) (x : α), l'[k]? = some x → ∃ y, l[k]? = some y ∧ enc y = enc x) : OwnO w K r sz enc A c l' := by
  rcases h with ⟨h1, h2, h3⟩ | ⟨g, off, e, h1, h2, h3, h4, h5⟩
  · subst h2
    exact .inl ⟨h1, List.eq_nil_of_length_eq_zero hl, h3⟩
  · refine .inr ⟨g, off, e, h1, h2, by omega, h4, fun k x hx j u hu => ?_⟩
    obtain ⟨y, hy, ey⟩ := he k x hx
    exact h5 k y hy j u (by rw [ey]; exact hu)
theorem had_set (v : Crw) {i j : Nat} (hj : j < v.n) : (hadL v i).set j (v.had i j + 1) = (List.range v.n).map (upN (v.had i) j (v.had i j + 1)) := by
  unfold hadL
  rw [map_set]; rfl
theorem CrwAt.set_had (C : CrwAt w K b v X) {i j g off g' off' : Nat} {x : Rw Nat} (hi : i < v.n) (hj : j < v.n) (a : AtI w K 5 40 1 eNat id noB X.had (hadL v i) i g off x) (hxA : x.A = some ⟨g', off', none⟩) (hw : w2 = w.setCell ⟨g', off' + j, none⟩ (.int .i64 ((v.had i j + 1 : Nat) : Int))) :
    CrwAt w2 K b { v with had := hadN v.had i j } { X with had := ⟨X.had.A, X.had.c, X.had.l.set i ⟨x.A, x.c, x.l.set j (v.had i j + 1)⟩⟩ } ∧ Ro (· = 40 + i) K K w w2 := by
  have hn := C.n
  have hkb := C.kb
  have hxl : x.l = hadL v i := by have := a.vl; rwa [List.map_id] at this
  have hlen : x.l.length = v.n := by rw [hxl]; unfold hadL; simp
  have how := a.ow
  rw [hxA] at how
  obtain ⟨s1, r⟩ := how.set1 (fun _ => rfl) (i := j) (by omega) (y := v.had i j + 1) rfl hw
  have kz : ∀ z, w2.heap.size ≤ z → K z = 0 := fun z hz => C.kz z (by rw [hw, World.size_setCell] at hz; exact hz)
  have nq : ∀ z, z ≠ 40 + i → z ≠ 40 + i → ¬ (z = 40 + i) := fun z a _ h => a h
  have hlh := C.had.len
  have H : HadAt w2 K v.n ⟨X.had.A, X.had.c, X.had.l.set i ⟨x.A, x.c, x.l.set j (v.had i j + 1)⟩⟩ (hadL { v with had := hadN v.had i j }) := by
    refine ⟨by rw [List.length_set]; exact hlh, (C.had.row.ro r (by omega)).laid (by rw [List.length_set]) fun k z hz => ?_, fun k z hz => ?_⟩
    · have hz : (X.had.l.set i ⟨x.A, x.c, x.l.set j (v.had i j + 1)⟩)[k]? = some z := hz
      by_cases e : k = i
      · subst e
        rw [List.getElem?_set_self (by omega)] at hz
        injection hz with hz
        subst hz
        exact ⟨x, a.hx, by unfold eRw; rw [List.length_set]⟩
      · rw [List.getElem?_set_ne (fun e2 => e e2.symm)] at hz
        exact ⟨z, hz, rfl⟩
    · have hz : (X.had.l.set i ⟨x.A, x.c, x.l.set j (v.had i j + 1)⟩)[k]? = some z := hz
      by_cases e : k = i
      · subst e
        rw [List.getElem?_set_self (by omega)] at hz
        injection hz with hz
        subst hz
        refine ⟨by rw [hxA]; exact s1, ?_, fun _ _ h => absurd h (by simp)⟩
        show (x.l.set j _).map id = (List.range v.n).map (hadN v.had k j k)
        rw [List.map_id, hxl, had_set v hj]
        unfold hadN
        rw [upN_same]
      · rw [List.getElem?_set_ne (fun e2 => e e2.symm)] at hz
        have hk : k < v.n := by rw [← hlh]; exact (List.getElem?_eq_some_iff.1 hz).1
        obtain ⟨b1, b2, b3⟩ := C.had.el k z hz
        refine ⟨b1.ro r (by omega), b2.trans ?_, fun _ _ h => absurd h (by simp)⟩
        show (List.range v.n).map (v.had k) = (List.range v.n).map (hadN v.had i j k)
        unfold hadN
        rw [upN_ne _ _ e]
  exact ⟨⟨C.n, (r.kk b C.hb).trans C.kb, Nat.lt_of_lt_of_le C.hb r.size, kz, range_ro C.rg C.hb r (nq _ (by omega) (by omega)), there_ro C.th C.hb r (nq _ (by omega) (by omega)), C.O.ro r (nq _ (by omega) (by omega)), C.ol, fun k z hz => by
    have hk : k < v.n := by rw [← C.ol]; exact (List.getElem?_eq_some_iff.1 hz).1
    obtain ⟨Y, hY⟩ := C.os k z hz
    exact ⟨Y, hY.ro r kz (nq _ (by omega) (by omega)) fun y hy => nq _ (by unfold inR at hy; omega) (by unfold inR at hy; omega)⟩, C.sent.ro r (nq _ (by omega) (by omega)) (nq _ (by omega) (by omega)) (fun j hj => (nq _ (by omega) (by omega))), C.made.ro r (nq _ (by omega) (by omega)) (nq _ (by omega) (by omega)) (fun j hj => (nq _ (by omega) (by omega))), H, C.log.ro r (nq _ (by omega) (by omega)) (nq _ (by omega) (by omega)) (fun j hj => (nq _ (by omega) (by omega))), C.told.ro r (nq _ (by omega) (by omega)) (nq _ (by omega) (by omega)) (fun j hj => (nq _ (by omega) (by omega))), C.stop.ro r (nq _ (by omega) (by omega)), C.sv, C.long.ro r (nq _ (by omega) (by omega)), C.lv, fun x hx => (C.lb x hx).ro r (nq _ (by omega) (by omega))⟩, r⟩
theorem stop_set (v : Crw) {i : Nat} (t : Bool) : ((List.range v.n).map v.stop).set i t = (List.range v.n).map (upN v.stop i t) := by rw [map_set]; rfl
theorem CrwAt.set_stop (C : CrwAt w K b v X) {i g off : Nat} (hi : i < v.n) (hA : X.stop.A = some ⟨g, off, none⟩) (hw : w2 = w.setCell ⟨g, off + i, none⟩ (.bool true)) :
    CrwAt w2 K b { v with stop := upN v.stop i true } { X with stop := ⟨X.stop.A, X.stop.c, X.stop.l.set i true⟩ } ∧ Ro (· = 8) K K w w2 := by
  have hn := C.n
  have hkb := C.kb
  have hsl : X.stop.l.length = v.n := by rw [C.sv]; simp
  have hst := C.stop
  rw [hA] at hst
  obtain ⟨s1, r⟩ := hst.set1 (fun _ => rfl) (i := i) (by omega) (y := true) rfl hw
  have kz : ∀ z, w2.heap.size ≤ z → K z = 0 := fun z hz => C.kz z (by rw [hw, World.size_setCell] at hz; exact hz)
  have nq : ∀ z, z ≠ 8 → z ≠ 8 → ¬ (z = 8) := fun z a _ h => a h
  exact ⟨⟨C.n, (r.kk b C.hb).trans C.kb, Nat.lt_of_lt_of_le C.hb r.size, kz, range_ro C.rg C.hb r (nq _ (by omega) (by omega)), there_ro C.th C.hb r (nq _ (by omega) (by omega)), C.O.ro r (nq _ (by omega) (by omega)), C.ol, fun k z hz => by
    have hk : k < v.n := by rw [← C.ol]; exact (List.getElem?_eq_some_iff.1 hz).1
    obtain ⟨Y, hY⟩ := C.os k z hz
    exact ⟨Y, hY.ro r kz (nq _ (by omega) (by omega)) fun y hy => nq _ (by unfold inR at hy; omega) (by unfold inR at hy; omega)⟩, C.sent.ro r (nq _ (by omega) (by omega)) (nq _ (by omega) (by omega)) (fun j hj => (nq _ (by omega) (by omega))), C.made.ro r (nq _ (by omega) (by omega)) (nq _ (by omega) (by omega)) (fun j hj => (nq _ (by omega) (by omega))), C.had.ro r (nq _ (by omega) (by omega)) (nq _ (by omega) (by omega)) (fun j hj => (nq _ (by omega) (by omega))), C.log.ro r (nq _ (by omega) (by omega)) (nq _ (by omega) (by omega)) (fun j hj => (nq _ (by omega) (by omega))), C.told.ro r (nq _ (by omega) (by omega)) (nq _ (by omega) (by omega)) (fun j hj => (nq _ (by omega) (by omega))), by rw [hA]; exact s1, by show X.stop.l.set i true = _; rw [C.sv]; exact stop_set v true, C.long.ro r (nq _ (by omega) (by omega)), C.lv, fun x hx => (C.lb x hx).ro r (nq _ (by omega) (by omega))⟩, r⟩
theorem CrwAt.push_long (C : CrwAt w K b v X) (y : MgX) {A' : Option Addr} {c' : Nat} (own : OwnO w' K' 9 4 eMg A' c' (X.long.l ++ [y])) (hy : RowK w' K' 1 eByte y.A y.m.b) (r0 : Ro (· = 9) K K' w w') (kz0 : ∀ z, w'.heap.size ≤ z → K' z = 0) (hw : w2 = w'.setCell ⟨b, 8, none⟩ (.slice A' (v.long.length + 1) c')) :
    CrwAt w2 K' b { v with long := v.long ++ [y.m] } { X with long := ⟨A', c', X.long.l ++ [y]⟩ } ∧ Ro (fun z => z = 9 ∨ z = 1) K K' w w2 := by
  have hn := C.n
  have hkb := C.kb
  have hb' := Nat.lt_of_lt_of_le C.hb r0.size
  have kb' := (r0.kk b C.hb).trans C.kb
  obtain ⟨g1, g2⟩ := rng_cell (range_ro C.rg C.hb r0 (by omega)) (there_ro C.th C.hb r0 (by omega)) rfl (j := 8) (by omega) hw rfl
  have r1 : Ro (· = 1) K' K' w' w2 := by rw [hw]; exact Ro.cell kb' _ _
  have r := (r0.more (R' := fun z => z = 9 ∨ z = 1) fun z e => .inl e).trans (r1.more fun z e => .inr e)
  have kz : ∀ z, w2.heap.size ≤ z → K' z = 0 := fun z hz => kz0 z (by rw [hw, World.size_setCell] at hz; exact hz)
  have nq : ∀ z, z ≠ 9 → z ≠ 1 → ¬ (z = 9 ∨ z = 1) := fun z a b h => h.elim a b
  refine ⟨⟨C.n, (r.kk b C.hb).trans C.kb, Nat.lt_of_lt_of_le C.hb r.size, kz, ?_, g2, C.O.ro r (nq _ (by omega) (by omega)), C.ol, fun k z hz => by
    have hk : k < v.n := by rw [← C.ol]; exact (List.getElem?_eq_some_iff.1 hz).1
    obtain ⟨Y, hY⟩ := C.os k z hz
    exact ⟨Y, hY.ro r kz (nq _ (by omega) (by omega)) fun y hy => nq _ (by unfold inR at hy; omega) (by unfold inR at hy; omega)⟩, C.sent.ro r (nq _ (by omega) (by omega)) (nq _ (by omega) (by omega)) (fun j hj => (nq _ (by omega) (by omega))), C.made.ro r (nq _ (by omega) (by omega)) (nq _ (by omega) (by omega)) (fun j hj => (nq _ (by omega) (by omega))), C.had.ro r (nq _ (by omega) (by omega)) (nq _ (by omega) (by omega)) (fun j hj => (nq _ (by omega) (by omega))), C.log.ro r (nq _ (by omega) (by omega)) (nq _ (by omega) (by omega)) (fun j hj => (nq _ (by omega) (by omega))), C.told.ro r (nq _ (by omega) (by omega)) (nq _ (by omega) (by omega)) (fun j hj => (nq _ (by omega) (by omega))), C.stop.ro r (nq _ (by omega) (by omega)), C.sv, own.ro r1 (by omega), by show (X.long.l ++ [y]).map _ = _; rw [List.map_append, C.lv]; rfl, fun x hx => by
    rcases List.mem_append.1 hx with hx | hx
    · exact (C.lb x hx).ro r (nq _ (by omega) (by omega))
    · rw [List.mem_singleton.1 hx]; exact hy.ro r1 (by omega)⟩, r⟩
  show w2.rangeAt b 0 [_, _, _, _, _, _, _, _, .slice A' (v.long ++ [y.m]).length c']
  rw [List.length_append]; exact g1
end
end Go.Proofs.Ytoilipfgimcoiaa
namespace Go.Proofs.Ytoilipfgimcoiaa
open Go Go.RowKit
theorem Sm.ro {L : List Nat} {Q : Nat → Prop} {K K' : Nat → Nat} {w w' : World} (r : Ro Q K K' w w') (h : ∀ g ∈ L, g < w.heap.size ∧ ¬ Q (K g)) : Sm L w w' := fun g hg => r.same g (h g hg).1 (h g hg).2
def Crw.carry (v : Crw) (i j : Nat) : Crw := if i = j then v else match (v.made i)[v.had i j]? with
  | none => v
  | some it => if v.stop j = true then v else { v with o := upN v.o j ((v.o j).place (pidN i) it).2, had := hadN v.had i j }
theorem CI.carry' {v : Crw} {G : List Sl} {T : Nat} (h : CI v G T) (hT : T ≤ 100000) {i j : Nat} (hi : i < v.n) (hj : j < v.n) : CI (v.carry i j) G T := by
  unfold Crw.carry
  by_cases e : i = j
  · rw [if_pos e]; exact h
  rw [if_neg e]
  cases hit : (v.made i)[v.had i j]? with
  | none => exact h
  | some it =>
    show CI (if v.stop j = true then v else _) G T
    by_cases hs : v.stop j = true
    · rw [if_pos hs]; exact h
    · rw [if_neg hs]
      obtain ⟨o', h1, h2⟩ := h.carry hT hi hj e hit (by rw [h.frz j hj]; simpa using hs)
      rw [h1]; exact h2
theorem len_kinds : ∀ l : List Itm, (∀ it ∈ l, it.kd = 1 ∨ it.kd = 2) → l.length = dC l + sC l
  | [], _ => rfl
  | a :: l, h => by
    have ih := len_kinds l fun it hm => h it (List.mem_cons_of_mem _ hm)
    have e1 : dC (a :: l) = dC [a] + dC l := by rw [← dC_app]; rfl
    have e2 : sC (a :: l) = sC [a] + sC l := by rw [← sC_app]; rfl
    rw [List.length_cons, ih, e1, e2]
    rcases h a List.mem_cons_self with e | e
    · have : dC [a] = 1 ∧ sC [a] = 0 := by unfold dC sC; simp [e]
      omega
    · have : dC [a] = 0 ∧ sC [a] = 1 := by unfold dC sC; simp [e]
      omega
theorem CI.madeLen {v : Crw} {G : List Sl} {T : Nat} (h : CI v G T) {i : Nat} (hi : i < v.n) : (v.made i).length ≤ 5 * T := by
  have hl := h.len
  rw [List.length_append] at hl
  have hse := h.se i hi
  have hdc := h.dc i hi
  have hk : ∀ it ∈ v.made i, it.kd = 1 ∨ (i = 0 ∧ it.kd = 2) := fun it hm => by
    obtain ⟨m, hm⟩ := List.mem_iff_getElem?.1 hm
    rcases h.it i hi m it hm with ⟨st, b, rfl, -⟩ | ⟨h0, sb, x, rfl, -⟩
    · exact .inl rfl
    · exact .inr ⟨h0, rfl⟩
  have e := len_kinds (v.made i) fun it hm => (hk it hm).elim .inl fun h => .inr h.2
  by_cases h0 : i = 0
  · subst h0
    have := h.sc
    omega
  · have : sC (v.made i) = 0 := List.countP_eq_zero.2 fun it hm => by
      rcases hk it hm with e | ⟨e, -⟩
      · simp [e]
      · exact absurd e h0
    omega
def zero80 : Value := .agg #[.int .i64 0, .int .i64 0, .int .i64 0, .int .i64 0, .slice none 0 0, .int .i64 0, .int .i64 0, .int .i64 0, .int .i64 0]
theorem run_zero80 (W : World) : (zeroValue 80).run Try.prog W = .ok zero80 W := by kernel_rfl
theorem one_itA (i : Itm) (A : Option Addr) (c n : Nat) : (itA i A c n).all (·.oneCell') = true := by
  have : ∀ u ∈ [Value.int .i64 i.kd, .int .i64 i.s, .int .i64 i.q, .int .i64 i.st, .slice A n c, .int .i64 i.pos, .int .i64 i.sb, .int .i64 i.ss, .int .i64 i.sq], u.oneCell' = true := fun u hu => by
    simp only [List.mem_cons, List.not_mem_nil, or_false] at hu
    rcases hu with rfl | rfl | rfl | rfl | rfl | rfl | rfl | rfl | rfl <;> rfl
  exact all_oneCell_toArray this
section
variable {w : World} {K : Nat → Nat} {b : Nat} {v : Crw} {X : CwX} {G : List Sl} {T : Nat}
set_option maxRecDepth 100000 in
set_option maxHeartbeats 8000000 in
theorem carry_any (C : CrwAt w K b v X) (I : CI v G T) (hT : T ≤ 100000) {i j : Nat} (hi : i < v.n) (hj : j < v.n) :
    Calls Try.prog 33 #[.pointer (some ⟨b, 0, none⟩), .int .i64 i, .int .i64 j] w fun e w' => e = .returned (.bool true) ∧ ∃ K' X', CrwAt w' K' b (v.carry i j) X' ∧ Ro (fun z => 0 < z ∧ z < 400) K K' w w' := by
  refine calls_vc tab_ok Try.func33 rfl ?_
  have hn4 := C.n
  have hbz := C.hb
  have hkb := C.kb
  obtain ⟨gH, oH, xH, aH⟩ := C.had.get hi
  obtain ⟨gM, oM, xM, aM⟩ := C.made.get hi
  obtain ⟨gO, oO, bj, Y, eO, gO1, kO, hbj, cO, AO⟩ := C.ord hj
  obtain ⟨gP, oP, eP, gP1, kP, cP, fP⟩ := C.stp hj
  have xHl : xH.l = hadL v i := by have := aH.vl; rwa [List.map_id] at this
  have hHlen : (hadL v i).length = v.n := by unfold hadL; simp
  obtain ⟨gR, oR, eR, gR1, kR, cR, tR⟩ : ∃ g off, xH.A = some ⟨g, off, none⟩ ∧ g < w.heap.size ∧ K g = 40 + i ∧ w.cell? ⟨g, off + j, none⟩ = some (.int .i64 (v.had i j : Nat)) ∧ w.frozen? ⟨g, off + j, none⟩ = false := by
    rcases aH.ow with ⟨-, e, -⟩ | ⟨g, off, e, k1, k2, k3, k4, k5⟩
    · rw [xHl] at e; have := congrArg List.length e; rw [hHlen] at this; simp at this; omega
    · refine ⟨g, off, e, k1, k2, ?_, (k4 j (by rw [xHl, hHlen] at k3; omega)).2⟩
      have := k5 j (v.had i j) (by rw [xHl]; exact map_range _ hj) 0 _ rfl
      rwa [Nat.mul_one, Nat.add_zero] at this
  obtain ⟨L, hL⟩ : ∃ L, L = [b, gH, gM, gO, gP, gR] := ⟨_, rfl⟩
  have M0 := C.l_had (l := L) (by simp [hL])
  have M1 := C.l_made (l := L) (by simp [hL])
  have M2 := C.l_O (l := L) (by simp [hL])
  have M3 := C.l_stop (l := L) (by simp [hL])
  rw [aH.eA] at M0
  rw [aM.eA] at M1
  rw [eO] at M2
  rw [eP] at M3
  have N0 : Ld Try.prog 49 gH (oH + i) (Sm L w) (.slice (some ⟨gR, oR, none⟩) v.n xH.c) := ⟨fun W hW => load49 (cell_sm (by rw [aH.hc, hHlen, eR]) (by simp [hL]) hW)⟩
  have N1 : Ld Try.prog 74 gM (oM + i) (Sm L w) (.slice xM.A (v.made i).length xM.c) := ⟨fun W hW => load74s (cell_sm aM.hc (by simp [hL]) hW)⟩
  have N2 : Ld Try.prog 42 gO (oO + j) (Sm L w) (.pointer (some ⟨bj, 0, none⟩)) := ⟨fun W hW => load42 (cell_sm cO (by simp [hL]) hW)⟩
  have N3 : Ld Try.prog 4 gP (oP + j) (Sm L w) (.bool (v.stop j)) := ⟨fun W hW => load4 (cell_sm cP (by simp [hL]) hW)⟩
  have N4 : Ld Try.prog 3 gR (oR + j) (Sm L w) (.int .i64 (v.had i j : Nat)) := ⟨fun W hW => load3 (cell_sm cR (by simp [hL]) hW)⟩
  have s0 := Sm.refl L w
  have hd0 : Below w.heap.size w w.drew := (Below.refl _ w).drew
  conv => whnf
  repeat ((conv => whnf); first | (refine VCmp.tt (by omega) ?_) | (refine VCmp.ff (by omega) ?_) | (refine VIn.mk (IntWalk.i64_in _ (by omega)) ?_) | (refine VIdx.mk _ rfl (by omega) ?_) | (refine VIdx.mk 0 rfl (by omega) ?_))
  try (conv => whnf)
  refine VDraw.pl 1000 (.stop [0, 1, 2, 3, 4, 5, 6, 7, 8, 9, 10, 11, 12, 13, 14, 15, 16, 17, 18, 19, 20, 21, 22, 23]) (Sm L w) (by kernel_rfl) (s0) ?_
  by_cases hij : i = j
  · repeat ((conv => whnf); first | (refine VLoad.mk _ M0 ?_) | (refine VLoad.mk _ M1 ?_) | (refine VLoad.mk _ N0 ?_) | (refine VLoad.mk _ N1 ?_) | (refine VLoad.mk _ N4 ?_) | (refine VCmp.tt (by omega) ?_) | (refine VCmp.ff (by omega) ?_) | (refine VIn.mk (IntWalk.i64_in _ (by omega)) ?_) | (refine VIdx.mk _ rfl (by omega) ?_) | (refine VIdx.mk 0 rfl (by omega) ?_))
    try (conv => whnf)
    refine .mk ⟨rfl, K, X, ?_, Ro.below hd0⟩
    unfold Crw.carry
    rw [if_pos hij]; exact C.below hd0
  by_cases hge : (v.made i).length ≤ v.had i j
  · repeat ((conv => whnf); first | (refine VLoad.mk _ M0 ?_) | (refine VLoad.mk _ M1 ?_) | (refine VLoad.mk _ N0 ?_) | (refine VLoad.mk _ N1 ?_) | (refine VLoad.mk _ N4 ?_) | (refine VCmp.tt (by omega) ?_) | (refine VCmp.ff (by omega) ?_) | (refine VIn.mk (IntWalk.i64_in _ (by omega)) ?_) | (refine VIdx.mk _ rfl (by omega) ?_) | (refine VIdx.mk 0 rfl (by omega) ?_))
    try (conv => whnf)
    refine .mk ⟨rfl, K, X, ?_, Ro.below hd0⟩
    unfold Crw.carry
    rw [if_neg hij, List.getElem?_eq_none hge]; exact C.below hd0
  have hMl := aM.ln
  obtain ⟨x, hx⟩ : ∃ x, xM.l[v.had i j]? = some x := ⟨_, List.getElem?_eq_getElem (by omega)⟩
  have hit : (v.made i)[v.had i j]? = some x.it := by rw [← aM.vl, List.getElem?_map, hx]; rfl
  obtain ⟨gI, oI, eI, gI1, kI, cI⟩ : ∃ g off, xM.A = some ⟨g, off, none⟩ ∧ g < w.heap.size ∧ K g = 30 + i ∧ w.rangeAt g (off + v.had i j * 9) (eIx x) := by
    rcases aM.ow with ⟨-, e, -⟩ | ⟨g, off, e, k1, k2, k3, k4, k5⟩
    · rw [e] at hx; simp at hx
    · exact ⟨g, off, e, k1, k2, fun q u hu => k5 _ x hx q u hu⟩
  rw [eI] at N1
  have hxb := aM.hb x (List.mem_of_getElem? hx)
  have sd : Sm (gI :: L) w w.drew := fun _ _ => rfl
  have up : ∀ {ty bb oo val}, Ld Try.prog ty bb oo (Sm L w) val → Ld Try.prog ty bb oo (Sm (gI :: L) w) val := fun {ty bb oo val} h => h.mono fun W hW g hg => hW g (List.mem_cons_of_mem _ hg)
  have P0 := up M0
  have P1 := up M1
  have P2 := up N0
  have P3 := up N1
  have P4 := up N4
  have P5 : Ld Try.prog 80 gI (oI + mulO (v.had i j) 9) (Sm (gI :: L) w) (.agg (itA x.it x.A x.c x.it.b.length)) := ⟨fun W hW => load_agg (by kernel_rfl) (by kernel_rfl) (range_same (by rw [mulO_eq]; exact cI) (hW gI (by simp)))⟩
  repeat ((conv => whnf); first | (refine VLoad.mk _ M0 ?_) | (refine VLoad.mk _ M1 ?_) | (refine VLoad.mk _ N0 ?_) | (refine VLoad.mk _ N1 ?_) | (refine VLoad.mk _ N4 ?_) | (refine VCmp.tt (by omega) ?_) | (refine VCmp.ff (by omega) ?_) | (refine VIn.mk (IntWalk.i64_in _ (by omega)) ?_) | (refine VIdx.mk _ rfl (by omega) ?_) | (refine VIdx.mk 0 rfl (by omega) ?_))
  try (conv => whnf)
  refine VDraw.pl 1000 (.one [0, 1, 2, 3, 4, 5, 6, 7, 8, 9, 10, 11, 12, 13, 14, 15, 16, 17, 18] 19 (.one [] 20 (.stop []))) (Sm (gI :: L) w) (by kernel_rfl) (sd) ?_
  repeat ((conv => whnf); first | (refine VLoad.mk _ P0 ?_) | (refine VLoad.mk _ P1 ?_) | (refine VLoad.mk _ P2 ?_) | (refine VLoad.mk _ P3 ?_) | (refine VLoad.mk _ P4 ?_) | (refine VLoad.mk _ P5 ?_) | (refine VCmp.tt (by omega) ?_) | (refine VCmp.ff (by omega) ?_) | (refine VIn.mk (IntWalk.i64_in _ (by omega)) ?_) | (refine VIdx.mk _ rfl (by omega) ?_) | (refine VIdx.mk 0 rfl (by omega) ?_))
  try (conv => whnf)
  refine .mk _ run_zero80 ?_
  conv => whnf
  refine .mk fun u1 hu1 => ?_
  have hlt : ∀ g ∈ gI :: L, g < w.heap.size := fun g hg => by
    rw [hL] at hg
    simp only [List.mem_cons, List.not_mem_nil, or_false] at hg
    have q1 := aH.hg
    have q2 := aM.hg
    rcases hg with rfl | rfl | rfl | rfl | rfl | rfl | rfl <;> assumption
  have su : Sm (gI :: L) w u1 := by rw [hu1.out]; exact .below (hd0.drew.alloc (Nat.le_refl _) _) hlt
  repeat ((conv => whnf); first | (refine VS.mk su ?_) | (refine VCmp.tt (by omega) ?_) | (refine VCmp.ff (by omega) ?_) | (refine VIn.mk (IntWalk.i64_in _ (by omega)) ?_) | (refine VIdx.mk _ rfl (by omega) ?_) | (refine VIdx.mk 0 rfl (by omega) ?_))
  try (conv => whnf)
  refine VStore.new (c' := itA x.it x.A x.c x.it.b.length) hu1 (by kernel_rfl) rfl (one_itA _ _ _ _) fun w1 hw1 => ?_
  obtain ⟨bt, hbt⟩ : ∃ bt, bt = w.drew.drew.heap.size := ⟨_, rfl⟩
  have b1 : Below w.heap.size w w1 := by rw [hw1.out]; exact hd0.drew.alloc (Nat.le_refl _) _
  have r1 : w1.rangeAt bt 0 (itA x.it x.A x.c x.it.b.length).toList := by rw [hw1.out, hbt]; exact range_new w.drew.drew _ 80
  have z1 : w1.heap.size = w.heap.size + 1 := by rw [hw1.out]; exact World.size_alloc _ _
  have t1 : w1.there bt 0 9 := by rw [hw1.out, hbt]; exact there_new w.drew.drew _ _
  have e0 : bt = w.heap.size := hbt
  rw [← hbt]
  clear hbt
  clear hu1 hw1 su
  clear u1
  have s1 : Sm (gI :: L) w w1 := .below b1 hlt
  repeat ((conv => whnf); first | (refine VS.mk s1 ?_) | (refine VCmp.tt (by omega) ?_) | (refine VCmp.ff (by omega) ?_) | (refine VIn.mk (IntWalk.i64_in _ (by omega)) ?_) | (refine VIdx.mk _ rfl (by omega) ?_) | (refine VIdx.mk 0 rfl (by omega) ?_))
  try (conv => whnf)
  have C1 := C.below b1
  have LB : Ld Try.prog 27 bt 4 (Eq w1) (.slice x.A x.it.b.length x.c) := .of (load27 (r1 4 _ rfl))
  have hxl : x.it.b.length ≤ 256 := by
    have hok := I.itOk hT hi hj hit
    have := of_decide_eq_true hok
    rcases this with h | h
    · have := h.2.2.2.2.2.2.2.1; omega
    · have := h.2.2.2.2.1; omega
  have hB1 : RowK w1 K 1 eByte x.A x.it.b := hxb.ro (Ro.below (R := fun _ => False) b1) id
  repeat ((conv => whnf); first | (refine VLoad.mk _ LB ?_) | (refine VCmp.tt (by omega) ?_) | (refine VCmp.ff (by omega) ?_) | (refine VIn.mk (IntWalk.i64_in _ (by omega)) ?_) | (refine VIdx.mk _ rfl (by omega) ?_) | (refine VIdx.mk 0 rfl (by omega) ?_))
  try (conv => whnf)
  refine VCall.mk _ (copied_any x.A x.c _ x.it.b w1 rfl hB1.row (by omega)) ?_
  rintro _ w2 ⟨B2, c2, rfl, n2, b2⟩
  refine ⟨_, rfl, ?_⟩
  have z2 := b2.size
  have r2 := range_same r1 (b2.block bt (by omega))
  have t2 := there_same t1 (b2.block bt (by omega))
  repeat ((conv => whnf); first | (refine VCmp.tt (by omega) ?_) | (refine VCmp.ff (by omega) ?_) | (refine VIn.mk (IntWalk.i64_in _ (by omega)) ?_) | (refine VIdx.mk _ rfl (by omega) ?_) | (refine VIdx.mk 0 rfl (by omega) ?_))
  try (conv => whnf)
  refine VStore.cell (by kernel_rfl) (by have := (t2 4 (by omega)).1; rwa [Nat.zero_add] at this) (by have := (t2 4 (by omega)).2; rwa [Nat.zero_add] at this) rfl rfl fun w3 hw3 => ?_
  have b02 : Below w.heap.size w w2 := b1.trans (b2.mono (by omega))
  have b3 : Below w.heap.size w w3 := by rw [hw3.out]; exact b02.grown (grown_cell _ _ _ _) b02.size fun k hk => by injection hk with hk; omega
  have b23 : Below w1.heap.size w1 w2 := b2
  have z3 : w3.heap.size = w2.heap.size := by rw [hw3.out, World.size_setCell]
  obtain ⟨r3, -⟩ := rng_cell (l' := (itA x.it B2 c2 x.it.b.length).toList) (j := 4) r2 t2 rfl (by omega) hw3.out rfl
  have n3 : NewRow w3 w1.heap.size 1 eByte B2 x.it.b := fun hl => by
    obtain ⟨g, off, e, g1, g2, g3⟩ := n2 hl
    refine ⟨g, off, e, g1, by omega, fun k y hy q u hu => ?_⟩
    rw [hw3.out]
    exact (World.cell?_of_block (a := ⟨g, _, none⟩) ((grown_cell w2 bt 4 _).block g g2 (fun e => by injection e with e; omega))).trans (g3 k y hy q u hu)
  have s3 : Sm (gI :: L) w w3 := .below b3 hlt
  have C3 := C.below b3
  have A3 := AO.below b3
  have hB3 : RowK w3 K 1 eByte B2 x.it.b := fun hl => by
    obtain ⟨g, off, e, g1, g2, g3⟩ := n3 hl
    exact ⟨g, off, e, g2, C.kz g (by omega), g3⟩
  have P6 := up M2
  have P7 := up N2
  have LI : Ld Try.prog 80 bt 0 (Sm [bt] w3) (.agg (itA x.it B2 c2 x.it.b.length)) := ⟨fun W hW => load_agg (by kernel_rfl) (by kernel_rfl) (range_same r3 (hW bt (by simp)))⟩
  repeat ((conv => whnf); first | (refine VCmp.tt (by omega) ?_) | (refine VCmp.ff (by omega) ?_) | (refine VIn.mk (IntWalk.i64_in _ (by omega)) ?_) | (refine VIdx.mk _ rfl (by omega) ?_) | (refine VIdx.mk 0 rfl (by omega) ?_))
  try (conv => whnf)
  refine VDraw.pl 1000 (.one [0, 1, 2, 3, 4, 5, 6, 7, 9] 8 (.one [] 10 (.one [] 11 (.stop [12])))) (fun W => Sm (gI :: L) w W ∧ Sm [bt] w3 W) (by kernel_rfl) (⟨s3, Sm.refl _ _⟩) ?_
  repeat ((conv => whnf); first | (refine VLoad.mk _ (P6.mono fun _ h => h.1) ?_) | (refine VLoad.mk _ (P7.mono fun _ h => h.1) ?_) | (refine VLoad.mk _ (LI.mono fun _ h => h.2) ?_) | (refine VCmp.tt (by omega) ?_) | (refine VCmp.ff (by omega) ?_) | (refine VIn.mk (IntWalk.i64_in _ (by omega)) ?_) | (refine VIdx.mk _ rfl (by omega) ?_) | (refine VIdx.mk 0 rfl (by omega) ?_))
  try (conv => whnf)
  refine VCall.mk _ (pid_any i w3.drew (by omega) (by omega)) ?_
  rintro _ _ ⟨rfl, rfl⟩
  refine ⟨_, rfl, ?_⟩
  have hd3 : Below w3.heap.size w3 w3.drew := (Below.refl _ w3).drew
  have A3d := A3.below hd3
  have epid : (3 * (i : Int) + 1) = ((pidN i : Nat) : Int) := by unfold pidN; omega
  repeat ((conv => whnf); first | (refine VS.mk ⟨s3, Sm.refl _ _⟩ ?_) | (refine VCmp.tt (by omega) ?_) | (refine VCmp.ff (by omega) ?_) | (refine VIn.mk (IntWalk.i64_in _ (by omega)) ?_) | (refine VIdx.mk _ rfl (by omega) ?_) | (refine VIdx.mk 0 rfl (by omega) ?_))
  try (conv => whnf)
  rw [epid]
  refine VCall.mk _ (place_any A3d (I.wf hT hj) (I.rm hT hj) (pidN i) x.it rfl (hB3.ro (Ro.below (R := fun _ => False) hd3) id)) ?_
  rintro _ w4 ⟨rfl, K4, Y4, A4, q4⟩
  refine ⟨_, rfl, ?_⟩
  have q4' : Ro (inR (100 + 4 * j)) K K4 w3 w4 := (Ro.below hd3).trans q4
  have kbt : K bt = 0 := C.kz bt (by omega)
  have sb4 : Sm [bt] w3 w4 := .ro q4' fun g hg => by rw [List.mem_singleton.1 hg]; refine ⟨by omega, ?_⟩; rw [kbt]; unfold inR; omega
  have sL : ∀ g ∈ gI :: L, g < w3.heap.size ∧ ¬ inR (100 + 4 * j) (K g) := fun g hg => by
    refine ⟨Nat.lt_of_lt_of_le (hlt g hg) b3.size, ?_⟩
    rw [hL] at hg
    simp only [List.mem_cons, List.not_mem_nil, or_false] at hg
    have q1 := aH.hk
    have q2 := aM.hk
    unfold inR
    rcases hg with rfl | rfl | rfl | rfl | rfl | rfl | rfl <;> omega
  have s4 : Sm (gI :: L) w w4 := s3.trans (.ro q4' sL)
  repeat ((conv => whnf); first | (refine VS.mk ⟨s4, sb4⟩ ?_) | (refine VCmp.tt (by omega) ?_) | (refine VCmp.ff (by omega) ?_) | (refine VIn.mk (IntWalk.i64_in _ (by omega)) ?_) | (refine VIdx.mk _ rfl (by omega) ?_) | (refine VIdx.mk 0 rfl (by omega) ?_))
  try (conv => whnf)
  refine VCall.mk _ (num_any _ w4) ?_
  rintro _ x5 ⟨rfl, e5⟩
  subst x5
  refine ⟨_, rfl, ?_⟩
  repeat ((conv => whnf); first | (refine VS.mk ⟨s4, sb4⟩ ?_) | (refine VLoad.mk _ ((up M3).at s4) ?_) | (refine VLoad.mk _ ((up N3).at s4) ?_) | (refine VCmp.tt (by omega) ?_) | (refine VCmp.ff (by omega) ?_) | (refine VIn.mk (IntWalk.i64_in _ (by omega)) ?_) | (refine VIdx.mk _ rfl (by omega) ?_) | (refine VIdx.mk 0 rfl (by omega) ?_))
  try (conv => whnf)
  have q03 : Ro (fun z => 0 < z ∧ z < 400) K K w w3 := Ro.below b3
  have q34 : Ro (fun z => 0 < z ∧ z < 400) K K4 w3 w4 := q4'.more fun z hz => by unfold inR at hz; omega
  have q04 := q03.trans q34
  have C4 := C3.setO hj hbj A4 q4'
  cases hst : v.stop j with
  | true =>
    have hpl := I.carryF hT hi hj hij hit (by rw [I.frz j hj]; exact hst)
    rw [hpl]
    repeat ((conv => whnf); first | (refine VCmp.tt (by omega) ?_) | (refine VCmp.ff (by omega) ?_) | (refine VIn.mk (IntWalk.i64_in _ (by omega)) ?_) | (refine VIdx.mk _ rfl (by omega) ?_) | (refine VIdx.mk 0 rfl (by omega) ?_))
    try (conv => whnf)
    refine .mk ⟨rfl, K4, X, ?_, q04⟩
    rw [hpl, upN_id] at C4
    have e : v.carry i j = v := by unfold Crw.carry; rw [if_neg hij, hit]; exact if_pos hst
    rw [e]
    exact C4
  | false =>
    have hml := I.madeLen hi
    obtain ⟨o', hpl, -⟩ := I.carry hT hi hj hij hit (by rw [I.frz j hj]; exact hst)
    have e : v.carry i j = { v with o := upN v.o j o', had := hadN v.had i j } := by
      unfold Crw.carry; rw [if_neg hij, hit]
      show (if v.stop j = true then v else _) = _
      rw [if_neg (by rw [hst]; simp), hpl]
    rw [hpl] at C4 ⊢
    repeat ((conv => whnf); first | (refine VLoad.mk _ ((up M0).at s4) ?_) | (refine VLoad.mk _ ((up N0).at s4) ?_) | (refine VLoad.mk _ ((up N4).at s4) ?_) | (refine VCmp.tt (by omega) ?_) | (refine VCmp.ff (by omega) ?_) | (refine VIn.mk (IntWalk.i64_in _ (by omega)) ?_) | (refine VIdx.mk _ rfl (by omega) ?_) | (refine VIdx.mk 0 rfl (by omega) ?_))
    try (conv => whnf)
    have fR : w4.frozen? ⟨gR, oR + j, none⟩ = false := (World.frozen?_of_block (a := ⟨gR, _, none⟩) (s4 gR (by simp [hL]))).trans tR
    have cR4 : w4.cell? ⟨gR, oR + j, none⟩ = some (.int .i64 (v.had i j : Nat)) := cell_sm cR (by simp [hL]) s4
    refine VStore.cell (by kernel_rfl) (by rw [show oR + mulO j 1 = oR + j from rfl, cR4]; rfl) fR rfl rfl fun w5 hw5 => ?_
    have e4 : (hadL v i) = hadL { v with o := upN v.o j o' } i := rfl
    have a4 : AtI w4 K4 5 40 1 eNat id noB X.had (hadL { v with o := upN v.o j o' } i) i gH oH xH := by
      obtain ⟨g', o2, x', h'⟩ := C4.had.get hi
      have h1 := h'.eA
      rw [aH.eA] at h1
      injection h1 with h1
      injection h1 with h1 h2 _
      subst h1 h2
      have h3 := h'.hx
      rw [aH.hx] at h3
      injection h3 with h3
      subst h3
      exact h'
    obtain ⟨C5, q5⟩ := C4.set_had hi hj a4 eR (w2 := w5) (by rw [hw5.out]; rfl)
    repeat ((conv => whnf); first | (refine VS.mk ⟨s4, sb4⟩ ?_) | (refine VLoad.mk _ ((up M3).at s4) ?_) | (refine VLoad.mk _ ((up N3).at s4) ?_) | (refine VCmp.tt (by omega) ?_) | (refine VCmp.ff (by omega) ?_) | (refine VIn.mk (IntWalk.i64_in _ (by omega)) ?_) | (refine VIdx.mk _ rfl (by omega) ?_) | (refine VIdx.mk 0 rfl (by omega) ?_))
    try (conv => whnf)
    rw [e]
    exact .mk ⟨rfl, K4, _, C5, q04.trans (q5.more fun z hz => by omega)⟩
end
end Go.Proofs.Ytoilipfgimcoiaa
