/- The plain law of the cut: what positions are known, that they are known as one slot, how many there can be. No program in sight. -/
import Derived.Test.YtcffhfcjfjfokaaRtog
import Derived.Test.YtcffhfcjfjfokaaHad
import Derived.Test.YtcffhfcjfjfokaaEnd
namespace Go.Proofs.Ytcffhfcjfjfokaa

/-- One of the contents knows the slot at the position. -/
def Known (fs : List Fl) (pos : Int) (s : Int × Int) : Prop := ∃ (i : Nat) (g : Fl) (k : Nat), fs[i]? = some g ∧ g.slots[k]? = some s ∧ pos = g.base + 1 + k
/-- Contents that go together: sound, of one view, without a clash. -/
structure Fit (fs : List Fl) : Prop where
  sound : ∀ f ∈ fs, Sound f
  kin : ∀ f ∈ fs, ∀ g, fs[0]? = some g → kinB f g = true
  calm : ¬ ClashIn fs
theorem fit_iff {fs : List Fl} : Together fs 0 ↔ Fit fs := by
  constructor
  · intro h; cases h with | ok a b c => exact ⟨a, b, c⟩
  · intro h; exact .ok h.sound h.kin h.calm

theorem no_clash {fs : List Fl} (h : Fit fs) {i j : Nat} {f g : Fl} (hf : fs[i]? = some f) (hg : fs[j]? = some g) (hij : i ≠ j) : ¬ Clash f g := by
  intro hc
  rcases Nat.lt_or_gt_of_ne hij with hlt | hgt
  · obtain ⟨a, b, s, t, h1, h2, h3⟩ := hc
    exact h.calm ⟨j, i, g, f, hlt, hg, hf, b, a, t, s, h2, h1, fun e => h3 ⟨fun x => (e.1 x.symm).symm, fun x => (e.2 x.symm).symm⟩⟩
  · exact h.calm ⟨i, j, f, g, hgt, hf, hg, hc⟩

theorem known_one {fs : List Fl} (h : Fit fs) {p q : Int} {s t : Int × Int} (h1 : Known fs p s) (h2 : Known fs q t) : p = q ↔ s = t := by
  obtain ⟨i, f, k, hf, hs, rfl⟩ := h1
  obtain ⟨j, g, l, hg, ht, rfl⟩ := h2
  by_cases hij : i = j
  · subst hij
    rw [hf] at hg; cases hg
    constructor
    · intro e
      obtain rfl : k = l := by omega
      rw [hs] at ht; exact Option.some.inj ht
    · intro e
      subst e
      have hn := (h.sound f (List.mem_of_getElem? hf)).nodup
      have : k = l := by
        by_cases hkl : k = l
        · exact hkl
        · exact absurd ht (apart_of_nodup hn hkl hs)
      omega
  · have hc := no_clash h hf hg hij
    by_cases hst : s = t
    · refine ⟨fun _ => hst, fun _ => ?_⟩
      by_cases hp : f.base + k = g.base + l
      · omega
      · exact absurd ⟨k, l, s, t, hs, ht, fun e => hp (e.2 hst)⟩ hc
    · refine ⟨fun e => absurd ⟨k, l, s, t, hs, ht, fun x => hst (x.1 (by omega))⟩ hc, fun e => absurd e hst⟩

theorem known_slot {fs : List Fl} (h : Fit fs) {p : Int} {s : Int × Int} (h1 : Known fs p s) : ∃ f ∈ fs, 0 ≤ s.1 ∧ s.1 < f.have_.length ∧ 1 ≤ s.2 ∧ s.2 ≤ 4611686018427387904 ∧ f.base < p ∧ p ≤ 4611686018427387904 := by
  obtain ⟨i, f, k, hf, hs, rfl⟩ := h1
  have hm := List.mem_of_getElem? hf
  have hS := h.sound f hm
  obtain ⟨a, b, c, d⟩ := hS.slot s (List.mem_of_getElem? hs)
  have := hS.base
  have hk := (List.getElem?_eq_some_iff.1 hs).1
  exact ⟨f, hm, a, b, c, d, by omega, by omega⟩

theorem atF_known {f : Fl} {p : Int} {s : Int × Int} : atF p f = some s ↔ ∃ k : Nat, f.slots[k]? = some s ∧ p = f.base + 1 + k := by
  unfold atF
  constructor
  · intro h
    by_cases h0 : 0 ≤ p - f.base - 1
    · rw [if_pos h0] at h; exact ⟨_, h, by omega⟩
    · rw [if_neg h0] at h; cases h
  · rintro ⟨k, hk, rfl⟩
    rw [if_pos (by omega)]
    have : (f.base + 1 + (k : Int) - f.base - 1).toNat = k := by omega
    rw [this]; exact hk

theorem atOf_known {fs : List Fl} (h : Fit fs) {p : Int} {s : Int × Int} (hk : Known fs p s) : atOf fs p = s := by
  unfold atOf
  cases hx : fs.findSome? (atF p) with
  | none =>
    exfalso
    rw [List.findSome?_eq_none_iff] at hx
    obtain ⟨i, f, k, hf, hs, hp⟩ := hk
    have := hx f (List.mem_of_getElem? hf)
    rw [atF_known.2 ⟨k, hs, hp⟩] at this; cases this
  | some t =>
    obtain ⟨f, hf, ht⟩ := List.exists_of_findSome?_eq_some hx
    obtain ⟨k, hk', hp⟩ := atF_known.1 ht
    obtain ⟨i, hi⟩ := List.mem_iff_getElem?.1 hf
    exact (known_one h ⟨i, f, k, hi, hk', hp⟩ hk).1 rfl
theorem atOf_unknown {fs : List Fl} {p : Int} (hk : ∀ s, ¬ Known fs p s) : atOf fs p = (0, 0) := by
  unfold atOf
  rw [List.findSome?_eq_none_iff.2 (fun f hf => ?_)]; · rfl
  cases hx : atF p f with
  | none => rfl
  | some t =>
    obtain ⟨k, hk', hp⟩ := atF_known.1 hx
    obtain ⟨i, hi⟩ := List.mem_iff_getElem?.1 hf
    exact absurd ⟨i, f, k, hi, hk', hp⟩ (hk t)

theorem one_len {fs : List Fl} (h : Fit fs) {f g : Fl} (hf : f ∈ fs) (hg : g ∈ fs) : f.have_.length = g.have_.length := by
  obtain ⟨i, hi⟩ := List.mem_iff_getElem?.1 hf
  have h0 : 0 < fs.length := by have := (List.getElem?_eq_some_iff.1 hi).1; omega
  have e0 : fs[0]? = some fs[0] := List.getElem?_eq_getElem h0
  have a := h.kin f hf _ e0
  have b := h.kin g hg _ e0
  simp only [kinB, Bool.and_eq_true, decide_eq_true_eq] at a b
  omega

theorem had_rhas {fs : List Fl} (h : Fit fs) {p : Int} {s : Int × Int} (hk : Known fs p s) {f : Fl} (hf : f ∈ fs) : rhasB f.have_ s.1 s.2 = havB f.have_ s.1 s.2 := by
  obtain ⟨g, hg, a, b, _⟩ := known_slot h hk
  have := one_len h hf hg
  unfold rhasB havB
  exact decide_eq_decide.2 ⟨fun x => x.2.2, fun x => ⟨a, by omega, x⟩⟩

theorem whole_iff {fs : List Fl} (h : Fit fs) {p : Int} : wholeAtB fs (atOf fs p) = true ↔ ∃ s, Known fs p s ∧ hadB fs s = true := by
  by_cases hk : ∃ s, Known fs p s
  · obtain ⟨s, hs⟩ := hk
    rw [atOf_known h hs]
    obtain ⟨_, _, _, _, c, _⟩ := known_slot h hs
    have e : wholeAtB fs s = hadB fs s := by
      unfold wholeAtB hadB
      have h0 : (s.2 == 0) = false := by simp; omega
      rw [h0]
      simp only [Bool.not_false, Bool.true_and]
      rw [Bool.eq_iff_iff, List.any_eq_true, List.any_eq_true]
      exact ⟨fun ⟨f, hf, hx⟩ => ⟨f, hf, by rw [← had_rhas h hs hf]; exact hx⟩, fun ⟨f, hf, hx⟩ => ⟨f, hf, by rw [had_rhas h hs hf]; exact hx⟩⟩
    rw [e]
    exact ⟨fun x => ⟨s, hs, x⟩, fun ⟨t, ht, x⟩ => by rw [(known_one h hs ht).1 rfl]; exact x⟩
  · rw [atOf_unknown (fun s hs => hk ⟨s, hs⟩)]
    constructor
    · intro x; simp [wholeAtB] at x
    · rintro ⟨s, hs, _⟩; exact absurd ⟨s, hs⟩ hk

theorem baseTo_nonneg (fs : List Fl) (k : Nat) : 0 ≤ baseTo fs k := by
  induction k with
  | zero => simp [baseTo]
  | succ k ih =>
    by_cases hk : k < fs.length
    · rw [baseTo_succ (List.getElem?_eq_getElem hk)]; split <;> omega
    · have : baseTo fs (k + 1) = baseTo fs k := by rw [baseTo_all fs (by omega), baseTo_all fs (by omega)]
      omega
theorem baseTo_mono (fs : List Fl) (k : Nat) : baseTo fs k ≤ baseTo fs (k + 1) := by
  by_cases hk : k < fs.length
  · rw [baseTo_succ (List.getElem?_eq_getElem hk)]; split <;> omega
  · have : baseTo fs (k + 1) = baseTo fs k := by rw [baseTo_all fs (by omega), baseTo_all fs (by omega)]
    omega
theorem baseTo_of (fs : List Fl) (k : Nat) : baseTo fs k = 0 ∨ ∃ f ∈ fs, baseTo fs k = f.base := by
  induction k with
  | zero => left; simp [baseTo]
  | succ k ih =>
    by_cases hk : k < fs.length
    · rw [baseTo_succ (List.getElem?_eq_getElem hk)]
      split
      · right; exact ⟨fs[k], List.getElem_mem hk, rfl⟩
      · exact ih
    · have : baseTo fs (k + 1) = baseTo fs k := by rw [baseTo_all fs (by omega), baseTo_all fs (by omega)]
      rw [this]; exact ih
theorem base_nonneg (fs : List Fl) : 0 ≤ baseOf fs := by rw [← baseTo_all fs (Nat.le_refl _)]; exact baseTo_nonneg fs _
theorem base_le {fs : List Fl} (h : ∀ f ∈ fs, Sound f) : baseOf fs ≤ 4611686018427387904 := by
  rw [← baseTo_all fs (Nat.le_refl _)]
  rcases baseTo_of fs fs.length with e | ⟨f, hf, e⟩
  · omega
  · have := (h f hf).base; omega

theorem baseTo_ge (fs : List Fl) {k j : Nat} {f : Fl} (hf : fs[j]? = some f) (hj : j < k) : f.base ≤ baseTo fs k := by
  induction k with
  | zero => omega
  | succ k ih =>
    have := baseTo_mono fs k
    by_cases hjk : j = k
    · subst hjk; rw [baseTo_succ hf]; split <;> omega
    · have := ih (by omega); omega
theorem base_ge {fs : List Fl} {f : Fl} (hf : f ∈ fs) : f.base ≤ baseOf fs := by
  obtain ⟨j, hj⟩ := List.mem_iff_getElem?.1 hf
  rw [← baseTo_all fs (Nat.le_refl _)]
  exact baseTo_ge fs hj (List.getElem?_eq_some_iff.1 hj).1

/-- No more than 128 positions behind the greatest base are known: none knows more than 128 behind its own. -/
theorem cut_bound {fs : List Fl} (h : Fit fs) {n : Nat} (hn : ∀ p, baseOf fs < p → p ≤ baseOf fs + n → wholeAtB fs (atOf fs p) = true) : n ≤ 2048 ∧ baseOf fs + n ≤ 4611686018427387904 := by
  by_cases h0 : n = 0
  · subst h0; have := base_le h.sound; exact ⟨by omega, by simpa using this⟩
  · obtain ⟨s, hs, _⟩ := (whole_iff h).1 (hn (baseOf fs + n) (by omega) (Int.le_refl _))
    obtain ⟨_, _, _, _, _, _, _, hle⟩ := known_slot h hs
    refine ⟨?_, hle⟩
    obtain ⟨i, f, k, hf, hs, he⟩ := hs
    have hm := List.mem_of_getElem? hf
    have := base_ge hm
    have := (h.sound f hm).held
    have := (List.getElem?_eq_some_iff.1 hs).1
    omega

theorem cut_one {fs : List Fl} {a b : Int} (h : IsCut fs a) (k : IsCut fs b) : a = b := by
  rcases Int.lt_trichotomy a b with hlt | he | hgt
  · have := k.all (a + 1) (by have := h.low; omega) (by omega)
    rw [h.stop] at this; cases this
  · exact he
  · have := h.all (b + 1) (by have := k.low; omega) (by omega)
    rw [k.stop] at this; cases this
theorem together_one {fs : List Fl} {a b : Int} (h : Together fs a) (k : Together fs b) : a = b := by
  cases h with
  | arg x =>
    obtain ⟨f, hf, hn⟩ := x
    cases k with
    | arg _ => rfl
    | prev y _ => exact absurd (y f hf) hn
    | fork y _ _ => exact absurd (y f hf) hn
    | ok y _ _ => exact absurd (y f hf) hn
  | prev x x2 =>
    obtain ⟨f, g, hg, hf, hn⟩ := x2
    cases k with
    | arg y => obtain ⟨f', hf', hn'⟩ := y; exact absurd (x f' hf') hn'
    | prev _ _ => rfl
    | fork _ y _ => rw [y f hf g hg] at hn; cases hn
    | ok _ y _ => rw [y f hf g hg] at hn; cases hn
  | fork x x2 x3 =>
    cases k with
    | arg y => obtain ⟨f', hf', hn'⟩ := y; exact absurd (x f' hf') hn'
    | prev _ y => obtain ⟨f, g, hg, hf, hn⟩ := y; rw [x2 f hf g hg] at hn; cases hn
    | fork _ _ _ => rfl
    | ok _ _ y => exact absurd x3 y
  | ok x x2 x3 =>
    cases k with
    | arg y => obtain ⟨f', hf', hn'⟩ := y; exact absurd (x f' hf') hn'
    | prev _ y => obtain ⟨f, g, hg, hf, hn⟩ := y; rw [x2 f hf g hg] at hn; cases hn
    | fork _ _ y => exact absurd y x3
    | ok _ _ _ => rfl

end Go.Proofs.Ytcffhfcjfjfokaa
