/- What the functions of layer 8 compute, as plain functions on lists and numbers. No program in sight. -/
import Derived.Test.YtcffhfcjfjfokaaLib
namespace Go.Proofs.Ytcffhfcjfjfokaa

def slotEq (a b c d : Int) : Bool := decide (a = c ∧ b = d)
def vidEq (a b c d a' b' c' d' : Int) : Bool := decide (a = a' ∧ b = b' ∧ c = c' ∧ d = d')
theorem slotEq_iff {s t : Int × Int} : slotEq s.1 s.2 t.1 t.2 = true ↔ s = t := by
  obtain ⟨a, b⟩ := s; obtain ⟨c, d⟩ := t; simp [slotEq]
theorem slotEq_no {s t : Int × Int} : slotEq s.1 s.2 t.1 t.2 = false ↔ s ≠ t := by
  rw [← Bool.not_eq_true, slotEq_iff]
/-- Is v from 1 to MaxCount? -/
def cntB (v : Int) : Bool := decide (1 ≤ v ∧ v ≤ 4611686018427387904)
/-- Is it a view's ID? -/
def wholeB (e l i c : Int) : Bool := decide (1 ≤ e ∧ e ≤ 4611686018427387904 ∧ 1 ≤ i ∧ i ≤ 4611686018427387904 ∧ 1 ≤ c ∧ c ≤ 4611686018427387904 ∧ 0 ≤ l ∧ l < 16)
/-- Does a list of counts cover the slot? -/
def havB (h : List Int) (s q : Int) : Bool := decide (q ≤ h[s.toNat]?.getD 0)
/-- The same with the sender held against the list's length. -/
def rhasB (h : List Int) (s q : Int) : Bool := decide (0 ≤ s ∧ s < h.length ∧ q ≤ h[s.toNat]?.getD 0)

structure Sound (f : Fl) : Prop where
  whole : wholeB f.e f.l f.i f.c = true
  low : 1 ≤ f.have_.length
  high : f.have_.length ≤ 16
  held : f.slots.length ≤ 128
  base0 : 0 ≤ f.base
  base : f.base ≤ 4611686018427387904 - f.slots.length
  have0 : ∀ h ∈ f.have_, 0 ≤ h ∧ h ≤ 4611686018427387904
  slot : ∀ s ∈ f.slots, 0 ≤ s.1 ∧ s.1 < f.have_.length ∧ 1 ≤ s.2 ∧ s.2 ≤ 4611686018427387904
  nodup : f.slots.Nodup

/-- The first k places of a list meet p. -/
def upto {α : Type} (p : α → Prop) (l : List α) (k : Nat) : Prop := ∀ j x, j < k → l[j]? = some x → p x
theorem upto_zero {α : Type} (p : α → Prop) (l : List α) : upto p l 0 := by intro j x hj; omega
theorem upto_succ {α : Type} {p : α → Prop} {l : List α} {k : Nat} (h : upto p l k) (e : ∀ x, l[k]? = some x → p x) : upto p l (k + 1) := by
  intro j x hj hx
  by_cases hk : j = k
  · subst hk; exact e x hx
  · exact h j x (by omega) hx
theorem upto_all {α : Type} {p : α → Prop} {l : List α} {k : Nat} (h : upto p l k) (hk : l.length ≤ k) : ∀ x ∈ l, p x := by
  intro x hx
  obtain ⟨j, hj, rfl⟩ := List.getElem_of_mem hx
  exact h j _ (by omega) (List.getElem?_eq_getElem hj)
theorem getD_mem {α : Type} {l : List α} {k : Nat} {d : α} (hk : k < l.length) : l[k]?.getD d ∈ l := by
  rw [List.getElem?_eq_getElem hk]; exact List.getElem_mem hk
theorem getD_some {α : Type} {l : List α} {k : Nat} {d x : α} (h : l[k]? = some x) : l[k]?.getD d = x := by rw [h]; rfl
/-- No two of the first k places are alike. -/
def apartTo {α : Type} (l : List α) (k : Nat) : Prop := ∀ i j x y, i < j → j < k → l[i]? = some x → l[j]? = some y → x ≠ y
theorem apartTo_zero {α : Type} (l : List α) : apartTo l 0 := by intro i j x y _ hj; omega
theorem apartTo_succ {α : Type} {l : List α} {k : Nat} (h : apartTo l k) (e : upto (fun x => l[k]? ≠ some x) l k) : apartTo l (k + 1) := by
  intro i j x y hij hj hx hy
  by_cases hk : j = k
  · subst hk; intro he; subst he; exact e i x hij hx hy
  · exact h i j x y hij (by omega) hx hy
theorem nodup_of_apart {α : Type} {l : List α} {k : Nat} (h : apartTo l k) (hk : l.length ≤ k) : l.Nodup := by
  rw [List.nodup_iff_pairwise_ne, List.pairwise_iff_getElem]
  intro i j hi hj hij
  exact h i j _ _ hij (by omega) (List.getElem?_eq_getElem hi) (List.getElem?_eq_getElem hj)
theorem apart_of_nodup {α : Type} {l : List α} (h : l.Nodup) {i j : Nat} {x : α} (hij : i ≠ j) (hx : l[i]? = some x) : l[j]? ≠ some x := by
  intro hy
  obtain ⟨hi, rfl⟩ := List.getElem?_eq_some_iff.1 hx
  obtain ⟨hj, e⟩ := List.getElem?_eq_some_iff.1 hy
  exact hij ((List.getElem_inj h).1 e.symm)

open Classical in
noncomputable def soundB (f : Fl) : Bool := decide (Sound f)
theorem soundB_iff {f : Fl} : soundB f = true ↔ Sound f := by simp [soundB]
theorem soundB_no {f : Fl} : soundB f = false ↔ ¬ Sound f := by simp [soundB]

/-- The head of Sound: what is asked ahead of the lists. -/
def SoundHead (f : Fl) : Prop := wholeB f.e f.l f.i f.c = true ∧ (1 : Int) ≤ f.have_.length ∧ (f.have_.length : Int) ≤ 16 ∧ (f.slots.length : Int) ≤ 128 ∧ 0 ≤ f.base ∧ f.base ≤ 4611686018427387904 - (f.slots.length : Int)
theorem sound_head {f : Fl} (h : ¬ SoundHead f) : false = soundB f := by
  symm; rw [soundB_no]; intro s
  exact h ⟨s.whole, by have := s.low; omega, by have := s.high; omega, by have := s.held; omega, s.base0, s.base⟩
def slotIn (n : Nat) (s : Int × Int) : Prop := 0 ≤ s.1 ∧ s.1 < n ∧ 1 ≤ s.2 ∧ s.2 ≤ 4611686018427387904
theorem unsound_have {f : Fl} {q : Nat} {x : Int} (hx : f.have_[q]? = some x) (h : x < 0 ∨ 4611686018427387904 < x) : false = soundB f := by
  symm; rw [soundB_no]; intro s
  have := s.have0 x (List.mem_of_getElem? hx); omega
theorem unsound_slot {f : Fl} {q : Nat} {x : Int × Int} (hx : f.slots[q]? = some x) (h : ¬ slotIn f.have_.length x) : false = soundB f := by
  symm; rw [soundB_no]; intro s
  exact h (s.slot x (List.mem_of_getElem? hx))
theorem unsound_twice {f : Fl} {p q : Nat} {x y : Int × Int} (hx : f.slots[q]? = some x) (hy : f.slots[p]? = some y) (hpq : p < q) (h : slotEq y.1 y.2 x.1 x.2 = true) : false = soundB f := by
  symm; rw [soundB_no]; intro s
  rw [slotEq_iff] at h; subst h
  exact apart_of_nodup s.nodup (by omega : p ≠ q) hy hx
theorem sound_all {f : Fl} (h : SoundHead f) {q p : Nat} (hq : f.have_.length ≤ q) (hp : f.slots.length ≤ p) (h1 : upto (fun x => 0 ≤ x ∧ x ≤ 4611686018427387904) f.have_ q) (h2 : upto (slotIn f.have_.length) f.slots p) (h3 : apartTo f.slots p) : true = soundB f := by
  symm; rw [soundB_iff]
  obtain ⟨a, b, c, d, e, g⟩ := h
  exact ⟨a, by omega, by omega, by omega, e, g, upto_all h1 hq, upto_all h2 hp, nodup_of_apart h3 hp⟩

/-- Two contents contradict one another: one position with two slots, or one slot at two positions. -/
def Clash (f g : Fl) : Prop := ∃ (i j : Nat) (s t : Int × Int), f.slots[i]? = some s ∧ g.slots[j]? = some t ∧ ¬ (f.base + i = g.base + j ↔ s = t)
noncomputable def forkB (f g : Fl) : Bool := @decide (Clash f g) (Classical.propDecidable _)
theorem forkB_yes {f g : Fl} {i j : Nat} {s t : Int × Int} (hs : f.slots[i]? = some s) (ht : g.slots[j]? = some t) (h : (!((f.base + i == g.base + j) == slotEq s.1 s.2 t.1 t.2)) = true) : true = forkB f g := by
  symm; unfold forkB; refine @decide_eq_true _ (Classical.propDecidable _) ?_
  refine ⟨i, j, s, t, hs, ht, fun e => ?_⟩
  by_cases hst : s = t
  · rw [beq_iff_eq.2 (e.2 hst), slotEq_iff.2 hst] at h; cases h
  · rw [beq_eq_false_iff_ne.2 (fun h => hst (e.1 h)), slotEq_no.2 hst] at h; cases h
/-- No clash of the i-th slot of f with the first k of g. -/
def calmAt (f g : Fl) (i k : Nat) : Prop := ∀ j s t, j < k → f.slots[i]? = some s → g.slots[j]? = some t → (f.base + i = g.base + j ↔ s = t)
theorem calmAt_succ {f g : Fl} {i j : Nat} {s t : Int × Int} (h : calmAt f g i j) (hs : f.slots[i]? = some s) (ht : g.slots[j]? = some t) (e : (!((f.base + i == g.base + j) == slotEq s.1 s.2 t.1 t.2)) = false) : calmAt f g i (j + 1) := by
  intro k s' t' hk hs' ht'
  by_cases hkj : k = j
  · subst hkj
    rw [hs] at hs'; cases hs'; rw [ht] at ht'; cases ht'
    have e2 : (f.base + i == g.base + k) = slotEq s.1 s.2 t.1 t.2 := by
      rcases h1 : (f.base + i == g.base + k) <;> rcases h2 : slotEq s.1 s.2 t.1 t.2 <;> simp_all
    constructor
    · intro h1; rw [← slotEq_iff, ← e2]; exact beq_iff_eq.2 h1
    · intro h1; rw [← slotEq_iff, ← e2] at h1; exact beq_iff_eq.1 h1
  · exact h k s' t' (by omega) hs' ht'
theorem forkB_no {f g : Fl} {n : Nat} (h : ∀ i, i < n → calmAt f g i g.slots.length) (hn : f.slots.length ≤ n) : false = forkB f g := by
  symm; unfold forkB; refine @decide_eq_false _ (Classical.propDecidable _) ?_
  rintro ⟨i, j, s, t, hs, ht, hne⟩
  have hi := (List.getElem?_eq_some_iff.1 hs).1
  have hj := (List.getElem?_eq_some_iff.1 ht).1
  exact hne (h i (by omega) j s t hj hs ht)

/-- The greatest base of the first k, and of all. -/
def baseTo (fs : List Fl) (k : Nat) : Int := (fs.take k).foldl (fun b f => if b < f.base then f.base else b) 0
def baseOf (fs : List Fl) : Int := fs.foldl (fun b f => if b < f.base then f.base else b) 0
theorem baseTo_succ {fs : List Fl} {k : Nat} {f : Fl} (h : fs[k]? = some f) : baseTo fs (k + 1) = if baseTo fs k < f.base then f.base else baseTo fs k := by
  unfold baseTo
  rw [List.take_add_one, h, Option.toList_some, List.foldl_append]; rfl
theorem baseTo_all (fs : List Fl) {k : Nat} (h : fs.length ≤ k) : baseTo fs k = baseOf fs := by
  unfold baseTo baseOf; rw [List.take_of_length_le h]

/-- The slot at a position: the first content that knows it says. (0, 0): none. -/
def atF (pos : Int) (f : Fl) : Option (Int × Int) := if 0 ≤ pos - f.base - 1 then f.slots[(pos - f.base - 1).toNat]? else none
def atOf (fs : List Fl) (pos : Int) : Int × Int := ((fs.findSome? (atF pos)).getD (0, 0))
theorem atOf_here {fs : List Fl} {k : Nat} {f : Fl} {s : Int × Int} {pos : Int} (h : upto (fun f => atF pos f = none) fs k) (hf : fs[k]? = some f) (hs : atF pos f = some s) : atOf fs pos = s := by
  unfold atOf
  have : fs.findSome? (atF pos) = some s := by
    induction fs generalizing k with
    | nil => simp at hf
    | cons g r ih =>
      cases k with
      | zero => simp at hf; subst hf; simp [List.findSome?, hs]
      | succ k =>
        have hg : atF pos g = none := h 0 g (by omega) rfl
        simp only [List.findSome?, hg]
        exact ih (k := k) (fun j x hj hx => h (j + 1) x (by omega) (by simpa using hx)) (by simpa using hf)
  rw [this]; rfl
theorem atOf_none {fs : List Fl} {k : Nat} {pos : Int} (h : upto (fun f => atF pos f = none) fs k) (hk : fs.length ≤ k) : atOf fs pos = (0, 0) := by
  unfold atOf
  rw [List.findSome?_eq_none_iff.2 (upto_all h hk)]; rfl

end Go.Proofs.Ytcffhfcjfjfokaa
