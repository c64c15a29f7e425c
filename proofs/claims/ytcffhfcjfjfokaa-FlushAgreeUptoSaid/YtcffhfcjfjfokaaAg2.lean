/- Cut Listed Rcut Maps Keys Sound Twin Uni, joined. -/
import Derived.Maps.OwnOps
import Derived.DeepKeys4
import Derived.StillTailTactics
import Derived.Test.YtcffhfcjfjfokaaAg1
set_option linter.unusedVariables false
set_option linter.unusedSimpArgs false
/- The plain law of the cut: what positions are known, that they are known as one slot, how many there can be. No program in sight. -/
namespace Go.Proofs.Ytcffhfcjfjfokaa

/-- One of the contents knows the slot at the position. -/
def Known (fs : List Fl) (pos : Int) (s : Int × Int) : Prop := ∃ (i : Nat) (g : Fl) (k : Nat), fs[i]? = some g ∧ g.slots[k]? = some s ∧ pos = g.base + 1 + k
/-- Contents that go together: sound, of one view, without a clash. -/
structure Fit (fs : List Fl) : Prop where
  sound : ∀ f ∈ fs, Sound f
  kin : ∀ f ∈ fs, ∀ g, fs[0]? = some g → kinB f g = true
  calm : ¬ ClashIn fs
theorem fit_iff {fs : List Fl} : Together fs 0 ↔ Fit fs := by
  constructor
  · intro h; cases h with | ok a b c => exact ⟨a, b, c⟩
  · intro h; exact .ok h.sound h.kin h.calm

theorem no_clash {fs : List Fl} (h : Fit fs) {i j : Nat} {f g : Fl} (hf : fs[i]? = some f) (hg : fs[j]? = some g) (hij : i ≠ j) : ¬ Clash f g := by
  intro hc
  rcases Nat.lt_or_gt_of_ne hij with hlt | hgt
  · obtain ⟨a, b, s, t, h1, h2, h3⟩ := hc
    exact h.calm ⟨j, i, g, f, hlt, hg, hf, b, a, t, s, h2, h1, fun e => h3 ⟨fun x => (e.1 x.symm).symm, fun x => (e.2 x.symm).symm⟩⟩
  · exact h.calm ⟨i, j, f, g, hgt, hf, hg, hc⟩

theorem known_one {fs : List Fl} (h : Fit fs) {p q : Int} {s t : Int × Int} (h1 : Known fs p s) (h2 : Known fs q t) : p = q ↔ s = t := by
  obtain ⟨i, f, k, hf, hs, rfl⟩ := h1
  obtain ⟨j, g, l, hg, ht, rfl⟩ := h2
  by_cases hij : i = j
  · subst hij
    rw [hf] at hg; cases hg
    constructor
    · intro e
      obtain rfl : k = l := by omega
      rw [hs] at ht; exact Option.some.inj ht
    · intro e
      subst e
      have hn := (h.sound f (List.mem_of_getElem? hf)).nodup
      have : k = l := by
        by_cases hkl : k = l
        · exact hkl
        · exact absurd ht (apart_of_nodup hn hkl hs)
      omega
  · have hc := no_clash h hf hg hij
    by_cases hst : s = t
    · refine ⟨fun _ => hst, fun _ => ?_⟩
      by_cases hp : f.base + k = g.base + l
      · omega
      · exact absurd ⟨k, l, s, t, hs, ht, fun e => hp (e.2 hst)⟩ hc
    · refine ⟨fun e => absurd ⟨k, l, s, t, hs, ht, fun x => hst (x.1 (by omega))⟩ hc, fun e => absurd e hst⟩

theorem known_slot {fs : List Fl} (h : Fit fs) {p : Int} {s : Int × Int} (h1 : Known fs p s) : ∃ f ∈ fs, 0 ≤ s.1 ∧ s.1 < f.have_.length ∧ 1 ≤ s.2 ∧ s.2 ≤ 4611686018427387904 ∧ f.base < p ∧ p ≤ 4611686018427387904 := by
  obtain ⟨i, f, k, hf, hs, rfl⟩ := h1
  have hm := List.mem_of_getElem? hf
  have hS := h.sound f hm
  obtain ⟨a, b, c, d⟩ := hS.slot s (List.mem_of_getElem? hs)
  have := hS.base
  have hk := (List.getElem?_eq_some_iff.1 hs).1
  exact ⟨f, hm, a, b, c, d, by omega, by omega⟩

theorem atF_known {f : Fl} {p : Int} {s : Int × Int} : atF p f = some s ↔ ∃ k : Nat, f.slots[k]? = some s ∧ p = f.base + 1 + k := by
  unfold atF
  constructor
  · intro h
    by_cases h0 : 0 ≤ p - f.base - 1
    · rw [if_pos h0] at h; exact ⟨_, h, by omega⟩
    · rw [if_neg h0] at h; cases h
  · rintro ⟨k, hk, rfl⟩
    rw [if_pos (by omega)]
    have : (f.base + 1 + (k : Int) - f.base - 1).toNat = k := by omega
    rw [this]; exact hk

theorem atOf_known {fs : List Fl} (h : Fit fs) {p : Int} {s : Int × Int} (hk : Known fs p s) : atOf fs p = s := by
  unfold atOf
  cases hx : fs.findSome? (atF p) with
  | none =>
    exfalso
    rw [List.findSome?_eq_none_iff] at hx
    obtain ⟨i, f, k, hf, hs, hp⟩ := hk
    have := hx f (List.mem_of_getElem? hf)
    rw [atF_known.2 ⟨k, hs, hp⟩] at this; cases this
  | some t =>
    obtain ⟨f, hf, ht⟩ := List.exists_of_findSome?_eq_some hx
    obtain ⟨k, hk', hp⟩ := atF_known.1 ht
    obtain ⟨i, hi⟩ := List.mem_iff_getElem?.1 hf
    exact (known_one h ⟨i, f, k, hi, hk', hp⟩ hk).1 rfl
theorem atOf_unknown {fs : List Fl} {p : Int} (hk : ∀ s, ¬ Known fs p s) : atOf fs p = (0, 0) := by
  unfold atOf
  rw [List.findSome?_eq_none_iff.2 (fun f hf => ?_)]; · rfl
  cases hx : atF p f with
  | none => rfl
  | some t =>
    obtain ⟨k, hk', hp⟩ := atF_known.1 hx
    obtain ⟨i, hi⟩ := List.mem_iff_getElem?.1 hf
    exact absurd ⟨i, f, k, hi, hk', hp⟩ (hk t)

theorem one_len {fs : List Fl} (h : Fit fs) {f g : Fl} (hf : f ∈ fs) (hg : g ∈ fs) : f.have_.length = g.have_.length := by
  obtain ⟨i, hi⟩ := List.mem_iff_getElem?.1 hf
  have h0 : 0 < fs.length := by have := (List.getElem?_eq_some_iff.1 hi).1; omega
  have e0 : fs[0]? = some fs[0] := List.getElem?_eq_getElem h0
  have a := h.kin f hf _ e0
  have b := h.kin g hg _ e0
  simp only [kinB, Bool.and_eq_true, decide_eq_true_eq] at a b
  omega

theorem had_rhas {fs : List Fl} (h : Fit fs) {p : Int} {s : Int × Int} (hk : Known fs p s) {f : Fl} (hf : f ∈ fs) : rhasB f.have_ s.1 s.2 = havB f.have_ s.1 s.2 := by
  obtain ⟨g, hg, a, b, _⟩ := known_slot h hk
  have := one_len h hf hg
  unfold rhasB havB
  exact decide_eq_decide.2 ⟨fun x => x.2.2, fun x => ⟨a, by omega, x⟩⟩

theorem whole_iff {fs : List Fl} (h : Fit fs) {p : Int} : wholeAtB fs (atOf fs p) = true ↔ ∃ s, Known fs p s ∧ hadB fs s = true := by
  by_cases hk : ∃ s, Known fs p s
  · obtain ⟨s, hs⟩ := hk
    rw [atOf_known h hs]
    obtain ⟨_, _, _, _, c, _⟩ := known_slot h hs
    have e : wholeAtB fs s = hadB fs s := by
      unfold wholeAtB hadB
      have h0 : (s.2 == 0) = false := by simp; omega
      rw [h0]
      simp only [Bool.not_false, Bool.true_and]
      rw [Bool.eq_iff_iff, List.any_eq_true, List.any_eq_true]
      exact ⟨fun ⟨f, hf, hx⟩ => ⟨f, hf, by rw [← had_rhas h hs hf]; exact hx⟩, fun ⟨f, hf, hx⟩ => ⟨f, hf, by rw [had_rhas h hs hf]; exact hx⟩⟩
    rw [e]
    exact ⟨fun x => ⟨s, hs, x⟩, fun ⟨t, ht, x⟩ => by rw [(known_one h hs ht).1 rfl]; exact x⟩
  · rw [atOf_unknown (fun s hs => hk ⟨s, hs⟩)]
    constructor
    · intro x; simp [wholeAtB] at x
    · rintro ⟨s, hs, _⟩; exact absurd ⟨s, hs⟩ hk

theorem baseTo_nonneg (fs : List Fl) (k : Nat) : 0 ≤ baseTo fs k := by
  induction k with
  | zero => simp [baseTo]
  | succ k ih =>
    by_cases hk : k < fs.length
    · rw [baseTo_succ (List.getElem?_eq_getElem hk)]; split <;> omega
    · have : baseTo fs (k + 1) = baseTo fs k := by rw [baseTo_all fs (by omega), baseTo_all fs (by omega)]
      omega
theorem baseTo_mono (fs : List Fl) (k : Nat) : baseTo fs k ≤ baseTo fs (k + 1) := by
  by_cases hk : k < fs.length
  · rw [baseTo_succ (List.getElem?_eq_getElem hk)]; split <;> omega
  · have : baseTo fs (k + 1) = baseTo fs k := by rw [baseTo_all fs (by omega), baseTo_all fs (by omega)]
    omega
theorem baseTo_of (fs : List Fl) (k : Nat) : baseTo fs k = 0 ∨ ∃ f ∈ fs, baseTo fs k = f.base := by
  induction k with
  | zero => left; simp [baseTo]
  | succ k ih =>
    by_cases hk : k < fs.length
    · rw [baseTo_succ (List.getElem?_eq_getElem hk)]
      split
      · right; exact ⟨fs[k], List.getElem_mem hk, rfl⟩
      · exact ih
    · have : baseTo fs (k + 1) = baseTo fs k := by rw [baseTo_all fs (by omega), baseTo_all fs (by omega)]
      rw [this]; exact ih
theorem base_nonneg (fs : List Fl) : 0 ≤ baseOf fs := by rw [← baseTo_all fs (Nat.le_refl _)]; exact baseTo_nonneg fs _
theorem base_le {fs : List Fl} (h : ∀ f ∈ fs, Sound f) : baseOf fs ≤ 4611686018427387904 := by
  rw [← baseTo_all fs (Nat.le_refl _)]
  rcases baseTo_of fs fs.length with e | ⟨f, hf, e⟩
  · omega
  · have := (h f hf).base; omega

theorem baseTo_ge (fs : List Fl) {k j : Nat} {f : Fl} (hf : fs[j]? = some f) (hj : j < k) : f.base ≤ baseTo fs k := by
  induction k with
  | zero => omega
  | succ k ih =>
    have := baseTo_mono fs k
    by_cases hjk : j = k
    · subst hjk; rw [baseTo_succ hf]; split <;> omega
    · have := ih (by omega); omega
theorem base_ge {fs : List Fl} {f : Fl} (hf : f ∈ fs) : f.base ≤ baseOf fs := by
  obtain ⟨j, hj⟩ := List.mem_iff_getElem?.1 hf
  rw [← baseTo_all fs (Nat.le_refl _)]
  exact baseTo_ge fs hj (List.getElem?_eq_some_iff.1 hj).1

/-- No more than 128 positions behind the greatest base are known: none knows more than 128 behind its own. -/
theorem cut_bound {fs : List Fl} (h : Fit fs) {n : Nat} (hn : ∀ p, baseOf fs < p → p ≤ baseOf fs + n → wholeAtB fs (atOf fs p) = true) : n ≤ 2048 ∧ baseOf fs + n ≤ 4611686018427387904 := by
  by_cases h0 : n = 0
  · subst h0; have := base_le h.sound; exact ⟨by omega, by simpa using this⟩
  · obtain ⟨s, hs, _⟩ := (whole_iff h).1 (hn (baseOf fs + n) (by omega) (Int.le_refl _))
    obtain ⟨_, _, _, _, _, _, _, hle⟩ := known_slot h hs
    refine ⟨?_, hle⟩
    obtain ⟨i, f, k, hf, hs, he⟩ := hs
    have hm := List.mem_of_getElem? hf
    have := base_ge hm
    have := (h.sound f hm).held
    have := (List.getElem?_eq_some_iff.1 hs).1
    omega

theorem cut_one {fs : List Fl} {a b : Int} (h : IsCut fs a) (k : IsCut fs b) : a = b := by
  rcases Int.lt_trichotomy a b with hlt | he | hgt
  · have := k.all (a + 1) (by have := h.low; omega) (by omega)
    rw [h.stop] at this; cases this
  · exact he
  · have := h.all (b + 1) (by have := k.low; omega) (by omega)
    rw [k.stop] at this; cases this
theorem together_one {fs : List Fl} {a b : Int} (h : Together fs a) (k : Together fs b) : a = b := by
  cases h with
  | arg x =>
    obtain ⟨f, hf, hn⟩ := x
    cases k with
    | arg _ => rfl
    | prev y _ => exact absurd (y f hf) hn
    | fork y _ _ => exact absurd (y f hf) hn
    | ok y _ _ => exact absurd (y f hf) hn
  | prev x x2 =>
    obtain ⟨f, g, hg, hf, hn⟩ := x2
    cases k with
    | arg y => obtain ⟨f', hf', hn'⟩ := y; exact absurd (x f' hf') hn'
    | prev _ _ => rfl
    | fork _ y _ => rw [y f hf g hg] at hn; cases hn
    | ok _ y _ => rw [y f hf g hg] at hn; cases hn
  | fork x x2 x3 =>
    cases k with
    | arg y => obtain ⟨f', hf', hn'⟩ := y; exact absurd (x f' hf') hn'
    | prev _ y => obtain ⟨f, g, hg, hf, hn⟩ := y; rw [x2 f hf g hg] at hn; cases hn
    | fork _ _ _ => rfl
    | ok _ _ y => exact absurd x3 y
  | ok x x2 x3 =>
    cases k with
    | arg y => obtain ⟨f', hf', hn'⟩ := y; exact absurd (x f' hf') hn'
    | prev _ y => obtain ⟨f, g, hg, hf, hn⟩ := y; rw [x2 f hf g hg] at hn; cases hn
    | fork _ _ y => exact absurd y x3
    | ok _ _ _ => rfl

end Go.Proofs.Ytcffhfcjfjfokaa
/- What the document's listed answers. -/
namespace Go.Proofs.Ytcffhfcjfjfokaa
open Go.RowKit
/-- The error of a list of contents. -/
def Listed (fs : List Fl) (n : Int) : Prop := if 1 ≤ fs.length ∧ fs.length ≤ 16 then Together fs n else n = 1
set_option maxHeartbeats 1000000 in
theorem listed_any (A : Option Addr) (cA N : Nat) (fs : List Fl) (w : World) (hN : N ≤ w.heap.size) (hA : Fls w N A fs) (hl : fs.length ≤ 9223372036854775807) :
    Calls Try.prog 53 #[.slice A fs.length cA] w fun x w' => (∃ n, x = .returned (.int .i64 n) ∧ Listed fs n) ∧ Below w.heap.size w w' := by
  by_cases h1 : fs.length < 1
  · have HL : Hid (Listed fs 1) := by show (if _ then _ else _); rw [if_neg (by omega)]
    go_enter Try.func53, Try.ntmps53
    go_wp2
    go_ret
    go_light
    exact ⟨⟨1, rfl, HL.out⟩, Below.refl _ _⟩
  · by_cases h2 : 16 < fs.length
    · have HL : Hid (Listed fs 1) := by show (if _ then _ else _); rw [if_neg (by omega)]
      go_enter Try.func53, Try.ntmps53
      go_wp2
      go_ret
      go_light
      exact ⟨⟨1, rfl, HL.out⟩, Below.refl _ _⟩
    · have HL : Hid (∀ n, Together fs n → Listed fs n) := by intro n hn; show (if _ then _ else _); rw [if_pos (by omega)]; exact hn
      go_enter Try.func53, Try.ntmps53
      go_wp2_with (go_at_call 29; refine (together_any A cA N fs _ hN hA hl).mono ?_; rintro e w' ⟨⟨n, rfl, hn⟩, hbw⟩; replace hn := Lib.hid hn)
      go_ret
      go_light
      exact ⟨⟨n, rfl, HL.out n hn.out⟩, hbw⟩
end Go.Proofs.Ytcffhfcjfjfokaa
/- What the document's Cut answers. -/
namespace Go.Proofs.Ytcffhfcjfjfokaa
open Go.RowKit
theorem num_any (n : Int) (w : World) : Calls Try.prog 16 #[.int .i64 n] w fun e w' => e = .returned (.int .i64 n) ∧ w = w' := by
  go_enter Try.func16, Try.ntmps16
  go_wp2
  go_ret
  exact ⟨rfl, rfl⟩
/-- What Cut answers: the cut and 0, or 0 and the error. -/
def CutIs (fs : List Fl) (k n : Int) : Prop := Listed fs n ∧ (n = 0 → IsCut fs k) ∧ (n ≠ 0 → k = 0)
theorem listed_one {fs : List Fl} {a b : Int} (h : Listed fs a) (k : Listed fs b) : a = b := by
  unfold Listed at h k
  by_cases hl : 1 ≤ fs.length ∧ fs.length ≤ 16
  · rw [if_pos hl] at h k; exact together_one h k
  · rw [if_neg hl] at h k; rw [h, k]
theorem cutIs_one {fs : List Fl} {a b n m : Int} (h : CutIs fs a n) (k : CutIs fs b m) : a = b ∧ n = m := by
  have e := listed_one h.1 k.1
  subst e
  refine ⟨?_, rfl⟩
  by_cases hn : n = 0
  · exact cut_one (h.2.1 hn) (k.2.1 hn)
  · rw [h.2.2 hn, k.2.2 hn]
theorem listed_fit {fs : List Fl} (h : Listed fs 0) : Fit fs ∧ fs.length ≤ 16 := by
  unfold Listed at h
  by_cases hl : 1 ≤ fs.length ∧ fs.length ≤ 16
  · rw [if_pos hl] at h; exact ⟨fit_iff.1 h, hl.2⟩
  · rw [if_neg hl] at h; cases h
set_option maxHeartbeats 1000000 in
theorem rcut_any (A : Option Addr) (cA N : Nat) (fs : List Fl) (w : World) (hN : N ≤ w.heap.size) (hA : Fls w N A fs) (hl : fs.length ≤ 9223372036854775807) :
    Calls Try.prog 15 #[.slice A fs.length cA] w fun x w' => (∃ k n, x = .returned (.tuple #[.int .i64 k, .int .i64 n]) ∧ CutIs fs k n) ∧ Below w.heap.size w w' := by
  go_enter Try.func15, Try.ntmps15
  go_wp2_with (go_at_call 53; refine (listed_any A cA N fs _ hN hA hl).mono ?_; rintro e w' ⟨⟨n, rfl, hn⟩, hbw⟩; replace hn := Lib.hid hn)
  · go_ret2
    go_light
    have h0 := ‹(n != 0) = true›
    exact ⟨⟨0, n, rfl, hn.out, fun e => by simp [e] at h0, fun _ => rfl⟩, hbw⟩
  · have h0 := ‹(n != 0) = false›
    obtain rfl : n = 0 := by simpa using h0
    have hfit := (listed_fit hn.out).1
    have HFit := Lib.hid hfit
    have hsz := hbw.size
    clear hfit
    refine (end_any A cA N fs w' (by omega) (hA.below hbw hN) hl (fun f hf => ⟨(HFit.out.sound f hf).base0, by have := (HFit.out.sound f hf).base; omega⟩) (base_nonneg fs) (fun n h => cut_bound HFit.out h)).mono ?_
    rintro e w2 ⟨⟨k, rfl, hk⟩, hbw2⟩
    replace hk := Lib.hid hk
    go_wp2
    go_ret2
    go_light
    exact ⟨⟨k, 0, rfl, hn.out, fun _ => hk.out, fun h => absurd rfl h⟩, hbw.trans (hbw2.mono hsz)⟩
end Go.Proofs.Ytcffhfcjfjfokaa
/- A map that the call itself has made, as a partial function from keys to values: made, looked up, stored into. Over any program. -/
namespace Go.Proofs.Ytcffhfcjfjfokaa
open Go.RowKit
open Go.Maps (Keyed)

/-- Block b is a map of at most n entries that holds just f. -/
def MapsTo {κ ν : Type} (w : World) (P : Program) (K : TypeId) (b n : Nat) (ek : κ → Value) (ev : ν → Value) (f : κ → Option ν) : Prop :=
  ∃ es clock, w.heap[b]? = some (.map es clock) ∧ es.size ≤ n ∧
    (∀ e ∈ es.toList, ∃ k v, e.key = ek k ∧ e.val = ev v ∧ f k = some v ∧ ∃ l, keyOf P K (ek k) = some l) ∧
    (∀ k v, f k = some v → ∃ e ∈ es.toList, e.key = ek k) ∧ es.toList.Pairwise (fun a b => a.key ≠ b.key)

section
variable {κ ν : Type} {w w' : World} {P : Program} {K e t : TypeId} {b n : Nat} {ek : κ → Value} {ev : ν → Value} {f : κ → Option ν}
theorem mapsTo_made (w : World) (P : Program) (K : TypeId) (ek : κ → Value) (ev : ν → Value) : MapsTo (w.alloc (.map #[] 0)) P K w.heap.size 0 ek ev (fun _ => none) :=
  ⟨#[], 0, (MapKept.heap_alloc w _).1, Nat.le_refl _, by simp, by simp, by simp⟩
theorem MapsTo.mono (h : MapsTo w P K b n ek ev f) {n' : Nat} (hn : n ≤ n') : MapsTo w P K b n' ek ev f := by
  obtain ⟨es, clock, h1, h2, h3⟩ := h
  exact ⟨es, clock, h1, by omega, h3⟩
theorem MapsTo.lt (h : MapsTo w P K b n ek ev f) : b < w.heap.size := by
  obtain ⟨es, clock, hb, _⟩ := h
  exact (Array.getElem?_eq_some_iff.1 hb).1
theorem MapsTo.keep {B : Nat} (h : MapsTo w P K b n ek ev f) (hb : Below B w w') (hB : b < B) : MapsTo w' P K b n ek ev f := by
  obtain ⟨es, clock, h1, h2⟩ := h
  exact ⟨es, clock, (hb.block b hB).trans h1, h2⟩
theorem MapsTo.kept {row : Option Nat} (h : MapsTo w P K b n ek ev f) (hg : w.grownBy w' row) (hne : some b ≠ row) : MapsTo w' P K b n ek ev f := by
  have hlt := h.lt
  obtain ⟨es, clock, h1, h2⟩ := h
  exact ⟨es, clock, (hg.block b hlt hne).trans h1, h2⟩
theorem MapsTo.alloc (h : MapsTo w P K b n ek ev f) (o : Obj) : MapsTo (w.alloc o) P K b n ek ev f := h.kept (World.grownBy_alloc w o none) (by simp)
theorem MapsTo.drewN (h : MapsTo w P K b n ek ev f) (k : Nat) : MapsTo (w.drewN k) P K b n ek ev f := h
theorem MapsTo.setCell (h : MapsTo w P K b n ek ev f) {a : Addr} (ha : a.block ≠ b) (u : Value) : MapsTo (w.setCell a u) P K b n ek ev f := by
  obtain ⟨es, clock, h1, h2⟩ := h
  exact ⟨es, clock, (Below.heap_setCell w a u b (fun e => ha e.symm)).trans h1, h2⟩

theorem MapsTo.look (h : MapsTo w P K b n ek ev f) (L : Keyed P K) (hinj : ∀ x y, ek x = ek y → x = y) (ht : P.underlying t = some (.map K e)) {z : Value} (hz : (zeroValue e).run P w = .ok z w) (c : Bool)
    (k : κ) (hk : ∃ l, keyOf P K (ek k) = some l) :
    (Instr.lookup t (.map (some b)) (ek k) c).run P w = .ok (if c then .tuple #[(match f k with | some v => ev v | none => z), .bool (f k).isSome] else (match f k with | some v => ev v | none => z)) w := by
  obtain ⟨l, hl⟩ := hk
  obtain ⟨es, clock, hb, _, h1, h2, h3⟩ := h
  rcases L.find w hl es.toList (fun x hx => by obtain ⟨k', v, hk', _, _, hl'⟩ := h1 x hx; rw [hk']; exact hl') with ⟨r1, r2⟩ | ⟨j, e0, r1, r2, r3⟩
  · have hf : f k = none := by
      cases hfk : f k with
      | none => rfl
      | some v => obtain ⟨x, hx, he⟩ := h2 k v hfk; exact absurd he (r2 x hx)
    rw [hf]
    simp [Instr.lookup, run_underlying ht, MapKept.run_getObj_map hb, L.check w _ hl, r1, hz, Result.andThen]
  · obtain ⟨k', v, hk', hv, hfv, _⟩ := h1 e0 (List.mem_of_getElem? r2)
    have hkk : k' = k := hinj _ _ (hk'.symm.trans r3)
    subst hkk
    rw [hfv, hv] at *
    simp [Instr.lookup, run_underlying ht, MapKept.run_getObj_map hb, L.check w _ hl, r1, hv, Result.andThen]

theorem MapsTo.put [DecidableEq κ] (h : MapsTo w P K b n ek ev f) (L : Keyed P K) (hinj : ∀ x y, ek x = ek y → x = y) (ht : P.underlying t = some (.map K e)) (k : κ) (v : ν) (hk : ∃ l, keyOf P K (ek k) = some l) :
    ∃ w', (Instr.mapUpdate t (.map (some b)) (ek k) (ev v)).run P w = .ok () w' ∧ MapsTo w' P K b (n + 1) ek ev (fun y => if y = k then some v else f y) ∧ w.grownBy w' (some b) := by
  have hlt := h.lt
  obtain ⟨l, hl⟩ := hk
  obtain ⟨es, clock, hb, hn, h1, h2, h3⟩ := h
  have grown : ∀ o : Obj, w.grownBy (ChangeMaps.setBlock w b o) (some b) := fun o =>
    ⟨rfl, rfl, rfl, by simp [ChangeMaps.setBlock], fun i hi hne => by simp only [ChangeMaps.setBlock]; rw [Array.getElem?_setIfInBounds_ne (by rintro rfl; exact hne rfl)]⟩
  have at_ : ∀ o : Obj, (ChangeMaps.setBlock w b o).heap[b]? = some o := fun o => by simp [ChangeMaps.setBlock, hlt]
  rcases L.find w hl es.toList (fun x hx => by obtain ⟨k', v, hk', _, _, hl'⟩ := h1 x hx; rw [hk']; exact hl') with ⟨r1, r2⟩ | ⟨j, e0, r1, r2, r3⟩
  · refine ⟨ChangeMaps.setBlock w b (.map (es.push ⟨ek k, ev v, clock⟩) (clock + 1)), ?_, ⟨es.push ⟨ek k, ev v, clock⟩, clock + 1, at_ _, by simp; omega, ?_, ?_, ?_⟩, grown _⟩
    · simp [Instr.mapUpdate, run_underlying ht, MapKept.run_getObj_map hb, L.check w false hl, r1, MapKept.run_setObj_map _ hb, Result.andThen, ChangeMaps.setBlock]
    · intro x hx
      simp only [Array.toList_push, List.mem_append, List.mem_singleton] at hx
      rcases hx with hx | rfl
      · obtain ⟨k', v', hk', hv', hf', hl'⟩ := h1 x hx
        refine ⟨k', v', hk', hv', ?_, hl'⟩
        show (if k' = k then some v else f k') = some v'
        rw [if_neg (fun he => r2 x hx (by rw [hk', he]))]; exact hf'
      · exact ⟨k, v, rfl, rfl, if_pos rfl, l, hl⟩
    · intro k' v' hf'
      replace hf' : (if k' = k then some v else f k') = some v' := hf'
      by_cases hkk : k' = k
      · subst hkk; exact ⟨⟨ek k', ev v, clock⟩, by simp, rfl⟩
      · rw [if_neg hkk] at hf'
        obtain ⟨x, hx, he⟩ := h2 k' v' hf'
        exact ⟨x, by simp [Array.mem_toList_iff.1 hx], he⟩
    · rw [Array.toList_push, List.pairwise_append]
      exact ⟨h3, by simp, fun x hx y hy => by simp at hy; subst hy; exact r2 x hx⟩
  · have hj : es[j]? = some e0 := by simpa using r2
    have hjl : j < es.size := (Array.getElem?_eq_some_iff.1 hj).1
    have hmod : (es.modify j fun e => { e with key := ek k, val := ev v }).toList = es.toList.set j { e0 with key := ek k, val := ev v } := by
      apply List.ext_getElem?
      intro i
      rw [Array.getElem?_toList, Array.getElem?_modify, List.getElem?_set]
      by_cases hij : j = i
      · subst hij; simp [hj, hjl]; rw [(Array.getElem?_eq_some_iff.1 hj).2]
      · simp [hij]
    have hkeyj : ∀ i x, es.toList[i]? = some x → x.key = ek k → i = j := by
      intro i x hx hxk
      have hi : i < es.toList.length := (List.getElem?_eq_some_iff.1 hx).1
      rcases Nat.lt_trichotomy i j with h | h | h
      · exfalso
        rw [List.pairwise_iff_getElem] at h3
        have := h3 i j hi (by simpa using hjl) h
        rw [(List.getElem?_eq_some_iff.1 hx).2, (List.getElem?_eq_some_iff.1 r2).2] at this
        exact this (by rw [hxk, r3])
      · exact h
      · exfalso
        rw [List.pairwise_iff_getElem] at h3
        have := h3 j i (by simpa using hjl) hi h
        rw [(List.getElem?_eq_some_iff.1 hx).2, (List.getElem?_eq_some_iff.1 r2).2] at this
        exact this (by rw [hxk, r3])
    refine ⟨ChangeMaps.setBlock w b (.map (es.modify j fun e => { e with key := ek k, val := ev v }) clock), ?_, ⟨_, clock, at_ _, by simp; omega, ?_, ?_, ?_⟩, grown _⟩
    · simp [Instr.mapUpdate, run_underlying ht, MapKept.run_getObj_map hb, L.check w false hl, r1, hj, r3, L.stays w hl, MapKept.run_setObj_map _ hb, Result.andThen, ChangeMaps.setBlock]
    · intro x hx
      rw [hmod] at hx
      obtain ⟨i, hi, hxi⟩ := List.getElem_of_mem hx
      rw [List.getElem_set] at hxi
      by_cases hij : j = i
      · rw [if_pos hij] at hxi; subst hxi
        exact ⟨k, v, rfl, rfl, if_pos rfl, l, hl⟩
      · rw [if_neg hij] at hxi
        have hi' : i < es.toList.length := by simpa using hi
        have hmem : es.toList[i] ∈ es.toList := List.getElem_mem hi'
        obtain ⟨k', v', hk', hv', hf', hl'⟩ := h1 _ hmem
        rw [hxi] at hk' hv'
        refine ⟨k', v', hk', hv', ?_, hl'⟩
        show (if k' = k then some v else f k') = some v'
        rw [if_neg (fun he => hij (hkeyj i es.toList[i] (List.getElem?_eq_getElem hi') (by rw [hxi, hk', he])).symm)]; exact hf'
    · intro k' v' hf'
      replace hf' : (if k' = k then some v else f k') = some v' := hf'
      rw [hmod]
      by_cases hkk : k' = k
      · subst hkk
        exact ⟨{ e0 with key := ek k', val := ev v }, List.mem_iff_getElem?.2 ⟨j, by rw [List.getElem?_set]; simp [hjl]⟩, rfl⟩
      · rw [if_neg hkk] at hf'
        obtain ⟨x, hx, he⟩ := h2 k' v' hf'
        obtain ⟨i, hi, rfl⟩ := List.getElem_of_mem hx
        have hij : j ≠ i := by
          rintro rfl
          have : es.toList[j] = e0 := by have := (List.getElem?_eq_some_iff.1 r2).2; exact this
          rw [this, r3] at he
          exact hkk (hinj _ _ he).symm
        exact ⟨es.toList[i], List.mem_iff_getElem?.2 ⟨i, by rw [List.getElem?_set_ne hij]; exact List.getElem?_eq_getElem hi⟩, he⟩
    · rw [hmod, List.pairwise_iff_getElem]
      rw [List.pairwise_iff_getElem] at h3
      intro a c ha hc hac
      have ha' : a < es.toList.length := by simpa using ha
      have hc' : c < es.toList.length := by simpa using hc
      have := h3 a c ha' hc' hac
      rw [List.getElem_set, List.getElem_set]
      have ej : es.toList[j]'(by simpa using hjl) = e0 := (List.getElem?_eq_some_iff.1 r2).2
      by_cases h1 : j = a
      · subst h1
        rw [if_pos rfl, if_neg (by omega)]
        rw [ej] at this; intro he; exact this (by rw [r3]; exact he)
      · rw [if_neg h1]
        by_cases h2 : j = c
        · subst h2
          rw [if_pos rfl]
          rw [ej] at this; intro he; exact this (by rw [r3]; exact he)
        · rw [if_neg h2]; exact this
end

/-- A store into such a map, at the operation. -/
theorem wpList_put {κ ν : Type} [DecidableEq κ] {P : Program} (w : World) {ops : Array Oper} {rest : List Oper} {o : Oper} {a : Act} {Q : Exit → Act → World → Prop}
    (hg : o.guard = none) (m x v : Operand) (t : TypeId) (hop : o.op = Op.mapUpdate t m x v)
    (K e : TypeId) (L : Keyed P K) (ht : P.underlying t = some (.map K e)) (b n : Nat) (ek : κ → Value) (ev : ν → Value) (hinj : ∀ x y, ek x = ek y → x = y) (f : κ → Option ν)
    (hm : a.eval m = .map (some b)) (hown : MapsTo w P K b n ek ev f) (key : κ) (val : ν) (hx : a.eval x = ek key) (hv : a.eval v = ev val) (hkey : ∃ l, keyOf P K (ek key) = some l)
    (hK : ∀ w', MapsTo w' P K b (n + 1) ek ev (fun y => if y = key then some val else f y) → w.grownBy w' (some b) → wpList P ops Q rest (a.put o.dst undef) w') :
    wpList P ops Q (o :: rest) a w := by
  refine wpList_plain hg fun K' hK' => ?_
  obtain ⟨w', hrun, r1, r2⟩ := hown.put L hinj ht key val hkey
  unfold Oper.wp
  simp [execOp, hop, hm, hx, hv, hrun, Result.andThen]
  exact hK' _ _ (hK w' r1 r2)

end Go.Proofs.Ytcffhfcjfjfokaa
/- The keys of this program's maps: slots and numbers. -/
namespace Go.Proofs.Ytcffhfcjfjfokaa
open Go.RowKit
theorem laidOut_ : laidOutB Try.prog = true := by kernel_rfl
theorem keyRow66 : (66 : TypeId) < Try.prog.types.size := of_decide_eq_true (by kernel_rfl)
theorem keyWide66 : (match Try.prog.underlying 66 with | some (.array _ _) | some (.struct _) => true | _ => false) = true := by rw [Try.underlying66]
theorem keyDeep66 : Try.prog.keyTypeAt 2 66 = true := by kernel_rfl
set_option maxRecDepth 100000 in
theorem lawSlot : Maps.Keyed Try.prog 66 := Maps.Keyed.of_law (deep_law_laid laidOut_ (m := 2) (by omega) keyRow66 keyDeep66 keyWide66)
theorem keyType66 : Try.prog.keyType 66 = true := by kernel_rfl
theorem typesSize : Try.prog.types.size = 197 := by kernel_rfl
theorem cells66 : Try.prog.cellsOf 66 = 2 := by kernel_rfl
theorem cells3 : Try.prog.cellsOf 3 = 1 := by kernel_rfl
theorem key_two {P : Program} {k e : TypeId} {f0 f1 : Field} (hu : P.underlying k = some (.struct #[f0, f1])) (he : P.underlying e = some (.int .i64)) (hc : P.cellsOf k = 2) (hce : P.cellsOf e = 1) (hk : P.keyType k = true)
    (h0 : f0.type = e) (h1 : f1.type = e) (o0 : f0.offset = 0) (o1 : f1.offset = 1) (n0 : (f0.name != "_") = true) (n1 : (f1.name != "_") = true)
    (a b : Int) (ha : (Lit.int .i64 a).wf = true) (hb : (Lit.int .i64 b).wf = true) (hs : 0 < P.types.size) : ∃ l, keyOf P k (.agg #[.int .i64 a, .int .i64 b]) = some l := by
  obtain ⟨d, hd⟩ : ∃ d, P.types.size = d + 1 := ⟨P.types.size - 1, by omega⟩
  refine ⟨.string (keyBytes [.int .i64 a, .int .i64 b]), ?_⟩
  have hi : ∀ n : Int, (Lit.int .i64 n).wf = true → P.keyLits (d + 1) e [.int .i64 n] = some [.int .i64 n] := fun n hn => by
    unfold Program.keyLits; simp [he, hn]
  have hs2 : P.keyLits (d + 1 + 1) k [.int .i64 a, .int .i64 b] = some [.int .i64 a, .int .i64 b] := by
    unfold Program.keyLits
    simp [hu, hc, h0, h1, o0, o1, hce, hi a ha, hi b hb]
    exact ⟨by simpa using n0, by simpa using n1⟩
  simp [keyOf, hu, hk, Value.formed, hc, Value.cells, hd, hs2]
theorem fields66 : ∃ f0 f1 : Field, Try.prog.underlying 66 = some (.struct #[f0, f1]) ∧ f0.type = 3 ∧ f1.type = 3 ∧ f0.offset = 0 ∧ f1.offset = 1 ∧ (f0.name != "_") = true ∧ (f1.name != "_") = true :=
  ⟨_, _, Try.underlying66, rfl, rfl, rfl, rfl, by decide, by decide⟩
theorem key_slot (a b : Int) (ha : (Lit.int .i64 a).wf = true) (hb : (Lit.int .i64 b).wf = true) : ∃ l, keyOf Try.prog 66 (.agg #[.int .i64 a, .int .i64 b]) = some l := by
  obtain ⟨f0, f1, hu, h0, h1, o0, o1, n0, n1⟩ := fields66
  exact key_two hu Try.underlying3 cells66 cells3 keyType66 h0 h1 o0 o1 n0 n1 a b ha hb (by rw [typesSize]; omega)
theorem lawInt : Maps.Keyed Try.prog 3 := Maps.int_keyed Try.underlying3
theorem key_int (a : Int) (ha : (Lit.int .i64 a).wf = true) : ∃ l, keyOf Try.prog 3 (.int .i64 a) = some l := ⟨_, Maps.keyOf_int_mk Try.underlying3 ha⟩
theorem zero3 (w : World) : (zeroValue 3).run Try.prog w = .ok (.int .i64 0) w := by kernel_rfl
theorem zero66 (w : World) : (zeroValue 66).run Try.prog w = .ok (.agg #[.int .i64 0, .int .i64 0]) w := by kernel_rfl
def vSlot (s : Int × Int) : Value := .agg #[.int .i64 s.1, .int .i64 s.2]
def vInt (n : Int) : Value := .int .i64 n
theorem vSlot_inj (x y : Int × Int) (h : vSlot x = vSlot y) : x = y := by
  obtain ⟨a, b⟩ := x; obtain ⟨c, d⟩ := y
  simp [vSlot] at h; simp [h]
theorem vInt_inj (x y : Int) (h : vInt x = vInt y) : x = y := by simpa [vInt] using h
end Go.Proofs.Ytcffhfcjfjfokaa
/- What the program's sound answers, for every content. -/
namespace Go.Proofs.Ytcffhfcjfjfokaa
open Go.RowKit
set_option maxHeartbeats 2000000 in
theorem isound_no (f : Fl) (A B : Option Addr) (cA cB : Nat) (w : World)
    (hl1 : f.slots.length ≤ 9223372036854775807) (hl2 : f.have_.length ≤ 9223372036854775807) (hd : ¬ SoundHead f) :
    Calls Try.prog 115 #[.agg (flc f.e f.l f.i f.c f.base A f.slots.length cA B f.have_.length cB)] w fun x w' => x = .returned (.bool (soundB f)) ∧ Below w.heap.size w w' := by
  replace hd := Lib.hid hd
  go_enter Try.func115, Try.ntmps115
  go_wp2_with (first | (go_at_call 118; refine (whole_any _ _ _ _ _).mono ?_; rintro e w' ⟨rfl, hbw⟩; rw [World.size_alloc] at hbw; obtain ⟨hb0, hc, -, hsz⟩ := box1_facts hbw))
  all_goals first | (go_ret; go_light; exact ⟨ret_bool (sound_head hd.out), hb0⟩) | (exfalso; exact hd.out ⟨by assumption, by assumption, by assumption, by omega, by assumption, by omega⟩)
/-- What the map of those seen holds behind k slots. -/
structure SeenTo (l : List (Int × Int)) (k : Nat) (F : Int × Int → Option Int) : Prop where
  pos : ∀ s v, F s = some v → 1 ≤ v ∧ ∃ j, j < k ∧ l[j]? = some s
  all : ∀ j s, j < k → l[j]? = some s → F s ≠ none
theorem seenTo_zero (l : List (Int × Int)) : SeenTo l 0 (fun _ => none) := ⟨(by intro s v h; cases h), (by intro j s hj; omega)⟩
theorem seenTo_succ {l : List (Int × Int)} {k : Nat} {F : Int × Int → Option Int} (h : SeenTo l k F) {s : Int × Int} (hs : l[k]? = some s) : SeenTo l (k + 1) (fun y => if y = s then some ((k : Int) + 1) else F y) := by
  constructor
  · intro y v hy
    by_cases hys : y = s
    · simp only [if_pos hys] at hy; cases hy; exact ⟨by omega, k, by omega, by rw [hys]; exact hs⟩
    · simp only [if_neg hys] at hy
      obtain ⟨a, j, hj, e⟩ := h.pos y v hy
      exact ⟨a, j, by omega, e⟩
  · intro j y hj hy
    by_cases hys : y = s
    · simp [if_pos hys]
    · simp only [if_neg hys]
      have : j ≠ k := by rintro rfl; rw [hs] at hy; cases hy; exact hys rfl
      exact h.all j y (by omega) hy
set_option maxRecDepth 100000 in
set_option maxHeartbeats 4000000 in
theorem isound_yes (f : Fl) (A B : Option Addr) (cA cB N : Nat) (w : World) (hN : N ≤ w.heap.size)
    (hA : RowAt w N 2 eSlot A f.slots) (hB : RowAt w N 1 eInt B f.have_) (hd : SoundHead f) :
    Calls Try.prog 115 #[.agg (flc f.e f.l f.i f.c f.base A f.slots.length cA B f.have_.length cB)] w fun x w' => x = .returned (.bool (soundB f)) ∧ Below w.heap.size w w' := by
  have hd' := Lib.hid hd
  have hmm := @run_makeMap Try.prog
  obtain ⟨h1, h2, h3, h4, h5, h6⟩ := hd
  go_enter Try.func115, Try.ntmps115
  go_wp2_with (first | (go_at_call 118; refine (whole_any _ _ _ _ _).mono ?_; rintro e w' ⟨rfl, hbw⟩; rw [World.size_alloc] at hbw; obtain ⟨hb0, hc, -, hsz⟩ := box1_facts hbw))
  go_loopw [45] (fun k wr => ∃ q : Nat, k = .int .i64 q ∧ q ≤ f.have_.length ∧ upto (fun x => 0 ≤ x ∧ x ≤ 4611686018427387904) f.have_ q ∧ w' = wr) (fun k _ => f.have_.length - (intOf k).toNat)
  case atStart => exact ⟨0, rfl, by omega, upto_zero _ _, rfl⟩
  case round =>
    obtain ⟨q, rfl, hq, hup, rfl⟩ := hrel
    by_cases hlt : q < f.have_.length
    · obtain ⟨g, o, x, rfl, hg, hx, hk⟩ := (hB.below hb0 hN).int hlt
      clear hA hB
      by_cases hbad : x < 0 ∨ 4611686018427387904 < x
      · have HB := Lib.hid hbad
        clear hbad
        go_wp2
        all_goals first | (go_ret; go_light; exact ⟨ret_bool (unsound_have hx.out HB.out), hb0⟩) | (exfalso; have := HB.out; omega)
      · have hb1 : 0 ≤ x := by omega
        have hb2 : x ≤ 4611686018427387904 := by omega
        clear hbad
        go_wp2
        go_roundw
        case rel => go_light; exact ⟨q + 1, by go_num, by omega, upto_succ hup (fun z hz => by rw [hx.out] at hz; cases hz; exact ⟨hb1, hb2⟩), trivial⟩
        case measure => go_light; simp [intOf]; omega
    · go_wp2
      have Hq : Hid (q = f.have_.length) := by show q = _; omega
      clear hlt hq
      have hm0 : MapsTo (w'.alloc (.map #[] 0)) Try.prog 66 w'.heap.size 0 vSlot vInt (fun _ => none) := mapsTo_made _ _ _ _ _
      have hB0 : Below (w.heap.size + 1) (box1 w (flc f.e f.l f.i f.c f.base A f.slots.length cA B f.have_.length cB) 39) (w'.alloc (.map #[] 0)) := hbw.alloc (by omega) _
      obtain ⟨bm, hbm⟩ : ∃ bm, bm = w'.heap.size := ⟨_, rfl⟩
      have hbl : w.heap.size + 1 ≤ bm := by omega
      rw [← hbm] at hm0 ⊢
      replace hbm := Lib.hid hbm
      clear hb0 hc hsz hbw
      go_loopw [60] (fun k wr => ∃ (p : Nat) (F : Int × Int → Option Int), k = .int .i64 p ∧ p ≤ f.slots.length ∧ upto (slotIn f.have_.length) f.slots p ∧ apartTo f.slots p ∧ SeenTo f.slots p F ∧ MapsTo wr Try.prog 66 bm p vSlot vInt F ∧ Below (w.heap.size + 1) (box1 w (flc f.e f.l f.i f.c f.base A f.slots.length cA B f.have_.length cB) 39) wr) (fun k _ => f.slots.length - (intOf k).toNat)
      case atStart => exact ⟨0, _, rfl, by omega, upto_zero _ _, apartTo_zero _, seenTo_zero _, hm0, hB0⟩
      case round =>
        obtain ⟨p, F, rfl, hp, hup2, hap, hseen, hm, hb⟩ := hrel
        obtain ⟨hb0, hc, -, hsz⟩ := box1_facts hb
        clear hm0 hB0
        by_cases hlt : p < f.slots.length
        · obtain ⟨g, o, x, y, rfl, hg, hx, hk, hk2⟩ := (hA.below hb0 hN).slot hlt
          have hgw : g < wr.heap.size := by omega
          have hbmw : bm < wr.heap.size := hm.lt
          by_cases hbad : slotIn f.have_.length (x, y)
          · have HB := Lib.hid hbad
            obtain ⟨i1, i2, i3, i4⟩ := hbad
            simp only at i1 i2 i3 i4
            have hkey : ∃ l, keyOf Try.prog 66 (vSlot (x, y)) = some l := key_slot x y (WalkArith.wf_i64 (by omega)) (WalkArith.wf_i64 (by omega))
            have hlook := (hm.alloc (.cells #[.int .i64 x, .int .i64 y] 66)).look lawSlot vSlot_inj Try.underlying121 (zero3 _) false (x, y) hkey
            clear hA hB
            cases hF : F (x, y) with
            | none =>
              rw [hF] at hlook
              simp only [vSlot] at hlook
              have HF := Lib.hid hF
              clear hF
              go_wp2_with (at_mapUpdate; refine wpList_put _ rfl (.tmp 90) (.tmp 91) (.tmp 93) 121 rfl 66 3 lawSlot Try.underlying121 bm p vSlot vInt vSlot_inj F rfl ?_ (x, y) ((p : Int) + 1) rfl rfl ?_ ?_)
              · exact hm.alloc _
              · exact hkey
              · intro w2 hm2 hg2
                have hb2 := (hb.alloc (by omega) (.cells #[.int .i64 x, .int .i64 y] 66)).grown hg2 (by simp only [World.size_alloc]; omega) (by intro k hk; cases hk; omega)
                clear hlook hm hb hb0 hc hk hk2 hg2
                go_wp2
                go_roundw
                case rel => go_light; exact ⟨p + 1, _, by go_num, by omega, upto_succ hup2 (fun z hz => by rw [hx.out] at hz; cases hz; exact HB.out), apartTo_succ hap (fun i z hi hz he => hseen.all i z hi hz (by rw [hx.out] at he; cases he; exact HF.out)), seenTo_succ hseen hx.out, hm2, hb2⟩
                case measure => go_light; simp [intOf]; omega
            | some v =>
              obtain ⟨hv1, j, hj, hjs⟩ := hseen.pos _ _ hF
              rw [hF] at hlook
              simp only [vSlot, vInt] at hlook
              have HF := Lib.hid hF
              have HJ := Lib.hid hjs
              clear hF hjs
              go_wp2
              go_ret
              go_light
              exact ⟨ret_bool (unsound_twice hx.out HJ.out hj (slotEq_iff.2 rfl)), hb0.alloc (by omega) _⟩
          · have HB := Lib.hid hbad
            clear hbad
            have HN : ∀ h : 0 ≤ x, x < (f.have_.length : Int) → 1 ≤ y → y ≤ 4611686018427387904 → False := fun a b c d => HB.out ⟨a, b, c, d⟩
            replace HN := Lib.hid HN
            clear hA hB
            go_wp2
            all_goals first | (go_ret; go_light; exact ⟨ret_bool (unsound_slot hx.out HB.out), (hb0.alloc (by omega) _)⟩) | (exfalso; exact HN.out (by assumption) (by assumption) (by assumption) (by omega))
        · go_wp2
          go_ret
          go_light
          exact ⟨ret_bool (sound_all hd'.out (by have := Hq.out; omega) (by omega) hup hup2 hap), hb0⟩
end Go.Proofs.Ytcffhfcjfjfokaa
/- What the law's twin answers: a copy in lists of its own, a mark behind each. -/
namespace Go.Proofs.Ytcffhfcjfjfokaa
open Go.RowKit
theorem info66 : (Try.prog.info? 66).map (fun i => (i.zero, i.size, i.bytes)) = some (some (.agg #[.int .i64 0, .int .i64 0]), 2, 16) := by kernel_rfl
theorem info3 : (Try.prog.info? 3).map (fun i => (i.zero, i.size, i.bytes)) = some (some (.int .i64 0), 1, 8) := by kernel_rfl
theorem len_eSlot (x : Int × Int) : (eSlot x).length = 2 := rfl
theorem len_eInt (x : Int) : (eInt x).length = 1 := rfl
theorem one_eSlot (x : Int × Int) : ∀ u ∈ eSlot x, u.oneCell' = true := by intro u hu; simp [eSlot] at hu; rcases hu with rfl | rfl <;> rfl
theorem one_eInt (x : Int) : ∀ u ∈ eInt x, u.oneCell' = true := by intro u hu; simp [eInt] at hu; subst hu; rfl
theorem owns_empty_at {α : Type} (w : World) (base : Nat) (e : TypeId) (sz : Nat) (enc : α → List Value) {g : Nat} (hg : g = w.heap.size) (hb : base ≤ g) : Owns (w.alloc (.cells #[] e)) base e sz enc (some ⟨g, 0, none⟩) 0 [] := by
  subst hg; exact owns_empty w base e sz enc hb
theorem RowAt.set_ {α : Type} {w : World} {N sz : Nat} {enc : α → List Value} {A : Option Addr} {l : List α} (h : RowAt w N sz enc A l) {p : Addr} (hp : ∀ k, blk A = some k → k ≠ p.block) (u : Value) : RowAt (w.setCell p u) N sz enc A l := fun h0 => by
  obtain ⟨b, off, rfl, hb, hc⟩ := h h0
  refine ⟨b, off, rfl, hb, fun k x hk j v hv => ?_⟩
  rw [World.cell?_setCell_other _ _ _ _ (by intro e; exact hp b rfl (by rw [e]))]
  exact hc k x hk j v hv
theorem heap_set9 (w : World) (g : Nat) (v0 v1 v2 v3 v4 v5 v6 v7 v8 : Value) {b : Nat} (h : b ≠ g) : ((((((((((w.setCell ⟨g, 0, none⟩ v0).setCell ⟨g, 1, none⟩ v1).setCell ⟨g, 2, none⟩ v2).setCell ⟨g, 3, none⟩ v3).setCell ⟨g, 4, none⟩ v4).setCell ⟨g, 5, none⟩ v5).setCell ⟨g, 6, none⟩ v6).setCell ⟨g, 7, none⟩ v7).setCell ⟨g, 8, none⟩ v8)).drew.heap[b]? = w.heap[b]? := by
  rw [heap_drew]
  iterate 9 rw [Below.heap_setCell _ _ _ _ h]
theorem size_set9 (w : World) (g : Nat) (v0 v1 v2 v3 v4 v5 v6 v7 v8 : Value) : ((((((((((w.setCell ⟨g, 0, none⟩ v0).setCell ⟨g, 1, none⟩ v1).setCell ⟨g, 2, none⟩ v2).setCell ⟨g, 3, none⟩ v3).setCell ⟨g, 4, none⟩ v4).setCell ⟨g, 5, none⟩ v5).setCell ⟨g, 6, none⟩ v6).setCell ⟨g, 7, none⟩ v7).setCell ⟨g, 8, none⟩ v8)).drew.heap.size = w.heap.size := by
  rw [heap_drew]; iterate 9 rw [World.size_setCell]
theorem RowAt.blocks {α : Type} {w w' : World} {N sz : Nat} {enc : α → List Value} {A : Option Addr} {l : List α} (h : RowAt w N sz enc A l) (hb : ∀ k, blk A = some k → w'.heap[k]? = w.heap[k]?) : RowAt w' N sz enc A l := fun h0 => by
  obtain ⟨b, off, rfl, hlt, hc⟩ := h h0
  exact ⟨b, off, rfl, hlt, fun k x hk j v hv => (World.cell?_of_block (hb b rfl)).trans (hc k x hk j v hv)⟩
theorem below_set9 {B : Nat} {a w : World} {g : Nat} {v0 v1 v2 v3 v4 v5 v6 v7 v8 : Value} (h : Below B a w) (hg : B ≤ g) : Below B a ((((((((((w.setCell ⟨g, 0, none⟩ v0).setCell ⟨g, 1, none⟩ v1).setCell ⟨g, 2, none⟩ v2).setCell ⟨g, 3, none⟩ v3).setCell ⟨g, 4, none⟩ v4).setCell ⟨g, 5, none⟩ v5).setCell ⟨g, 6, none⟩ v6).setCell ⟨g, 7, none⟩ v7).setCell ⟨g, 8, none⟩ v8)).drew :=
  Below.drew (Below.setCell (Below.setCell (Below.setCell (Below.setCell (Below.setCell (Below.setCell (Below.setCell (Below.setCell (Below.setCell h hg _) hg _) hg _) hg _) hg _) hg _) hg _) hg _) hg _)
theorem Owns.blocks {α : Type} {w w' : World} {base : Nat} {e : TypeId} {sz : Nat} {enc : α → List Value} {A : Option Addr} {c : Nat} {l : List α} (h : Owns w base e sz enc A c l) (hb : ∀ k, blk A = some k → w'.heap[k]? = w.heap[k]?) : Owns w' base e sz enc A c l := by
  refine ⟨h.1, ?_⟩
  rcases h.2 with h2 | ⟨g, cap, cur, hv, hbase, hh, hr⟩
  · exact .inl h2
  · refine .inr ⟨g, cap, cur, hv, hbase, ?_, hr⟩
    have hA : A = some ⟨g, 0, none⟩ := by injection hv
    rw [hb g (by rw [hA]; rfl)]; exact hh
theorem Owns.lower {α : Type} {w : World} {base base' : Nat} {e : TypeId} {sz : Nat} {enc : α → List Value} {A : Option Addr} {c : Nat} {l : List α} (h : Owns w base e sz enc A c l) (hb : base' ≤ base) : Owns w base' e sz enc A c l := by
  refine ⟨h.1, ?_⟩
  rcases h.2 with h2 | ⟨g, cap, cur, hv, hbase, hr⟩
  · exact .inl h2
  · exact .inr ⟨g, cap, cur, hv, by omega, hr⟩
/-- A content with its two lists in memory of the call's own, and the capacities. -/
structure Tw where
  f : Fl
  g2 : Nat
  c2 : Nat
  g4 : Nat
  c4 : Nat
/-- The lists of such a content, with the marks behind them, are owned. -/
structure TwOwn (w : World) (base : Nat) (t : Tw) : Prop where
  s : Owns w base 66 2 eSlot (some ⟨t.g2, 0, none⟩) t.c2 (t.f.slots ++ [(71, 71)])
  h : Owns w base 3 1 eInt (some ⟨t.g4, 0, none⟩) t.c4 (t.f.have_ ++ [72])
def flTw (t : Tw) : List Value := [.int .i64 t.f.e, .int .i64 t.f.l, .int .i64 t.f.i, .int .i64 t.f.c, .int .i64 t.f.base, .slice (some ⟨t.g2, 0, none⟩) t.f.slots.length t.c2, .slice (some ⟨t.g4, 0, none⟩) t.f.have_.length t.c4]
def eTw (t : Tw) : List Value := [.int .i64 t.f.e, .int .i64 t.f.l, .int .i64 t.f.i, .int .i64 t.f.c, .int .i64 t.f.base, .slice (some ⟨t.g2, 0, none⟩) t.f.slots.length t.c2, .slice (some ⟨t.g4, 0, none⟩) t.f.have_.length t.c4, .slice (some ⟨t.g2, 0, none⟩) (t.f.slots.length + 1) t.c2, .slice (some ⟨t.g4, 0, none⟩) (t.f.have_.length + 1) t.c4]
/-- What twin answers: a copy of the content in lists of its own, with a mark behind each. -/
def TwinPost (f : Fl) (w : World) (e : Ending) (w' : World) : Prop := ∃ t : Tw, t.f = f ∧ e = .returned (.agg (eTw t).toArray) ∧ TwOwn w' w.heap.size t ∧ Below w.heap.size w w'
abbrev twz : Array Value := #[.int .i64 0, .int .i64 0, .int .i64 0, .int .i64 0, .int .i64 0, .slice none 0 0, .slice none 0 0, .slice none 0 0, .slice none 0 0]
set_option maxRecDepth 100000 in
set_option maxHeartbeats 4000000 in
theorem twin_any (f : Fl) (A B : Option Addr) (cA cB N : Nat) (w : World) (hN : N ≤ w.heap.size) (hr : FlRows w N f A cA B cB)
    (hbS : f.slots.length * 16 ≤ 140737488351232) (hbH : f.have_.length * 8 ≤ 140737488351232) :
    Calls Try.prog 23 #[.agg (flc f.e f.l f.i f.c f.base A f.slots.length cA B f.have_.length cB)] w
      (TwinPost f w) := by
  obtain ⟨hrS, hrH, hlS, hcS, hlH, hcH⟩ := hr
  have hbx := below_box2 w (flc f.e f.l f.i f.c f.base A f.slots.length cA B f.have_.length cB) 39 twz 57
  go_enter Try.func23, Try.ntmps23
  go_wp2_with (at_builtin; refine wpList_append_rows _ rfl (.tmp 5) (.tmp 7) 36 rfl (w.heap.size + 2) 66 2 16 _ Try.underlying36 info66 rfl (by decide) eSlot len_eSlot one_eSlot (some ⟨w.heap.size + 2, 0, none⟩) 0 [] A cA N 0 f.slots.length f.slots rfl rfl rfl rfl ?_ ?_ ?_ ?_ ?_ ?_)
  · exact owns_empty_at _ _ _ _ _ (by simp only [World.size_alloc]) (Nat.le_refl _)
  · exact hrS.below (hbx.alloc (by simp only [World.size_alloc]; omega) _) hN
  · omega
  · omega
  · simp only [World.size_alloc]; omega
  · intro A1 c1 w1 ho1 hg1 hk1
    have hB1 := ((Below.refl (w.heap.size + 2) (box2 w (flc f.e f.l f.i f.c f.base A f.slots.length cA B f.have_.length cB) 39 twz 57)).alloc (by simp only [World.size_alloc]; omega) (.cells #[] 66)).grown hg1 (by simp only [World.size_alloc]; omega) (by intro k hk; simp [blk] at hk; omega)
    have hlo1 := ho1.lo
    obtain ⟨hbw, hcf, -, -, -, hs, hs'⟩ := box2_facts hB1
    clear hg1 hk1 hbx
    go_wp2_with (at_builtin; refine wpList_append_rows _ rfl (.tmp 8) (.tmp 10) 36 rfl (w.heap.size + 2) 66 2 16 _ Try.underlying36 info66 rfl (by decide) eSlot len_eSlot one_eSlot A1 c1 f.slots (some ⟨w1.heap.size, 0, none⟩) 1 (w1.heap.size + 1) f.slots.length 1 [(71, 71)] rfl rfl rfl rfl ?_ ?_ ?_ ?_ ?_ ?_)
    · exact ho1.alloc _
    · exact row_new _ _ _ _ _ _ rfl
    · omega
    · omega
    · simp only [World.size_alloc]; omega
    · intro A2 c2 w2 ho2 hg2 hk2
      have hB2 := (hB1.alloc (by omega) (.cells #[.int .i64 71, .int .i64 71] 66)).grown hg2 (by simp only [World.size_alloc]; omega) (fun k hk => (hlo1 k hk).1)
      have hlo2 := ho2.lo
      obtain ⟨g2, cc2, hv2, hgl2, hgh2⟩ := World.ownsRow.form ho2 (by simp)
      obtain ⟨rfl, rfl⟩ : A2 = some ⟨g2, 0, none⟩ ∧ c2 = cc2 := by injection hv2 with h1 _ h2; exact ⟨h1, h2⟩
      clear hv2 ho1 hB1 hlo1 hbw hcf hs hs' hg2 hk2
      obtain ⟨hbw, hcf, -, -, -, hs, hs'⟩ := box2_facts hB2
      go_wp2_with (at_builtin; refine wpList_append_rows _ rfl (.tmp 12) (.tmp 14) 37 rfl (w.heap.size + 2) 3 1 8 _ Try.underlying37 info3 rfl (by decide) eInt len_eInt one_eInt (some ⟨w2.heap.size, 0, none⟩) 0 [] B cB N 0 f.have_.length f.have_ rfl rfl rfl rfl ?_ ?_ ?_ ?_ ?_ ?_)
      · exact owns_empty_at _ _ _ _ _ rfl (by omega)
      · exact hrH.below (hbw.alloc (by omega) _) hN
      · omega
      · omega
      · simp only [World.size_alloc]; omega
      · intro A3 c3 w3 ho3 hg3 hk3
        have hB3 := (hB2.alloc (by omega) (.cells #[] 3)).grown hg3 (by simp only [World.size_alloc]; omega) (by intro k hk; simp [blk] at hk; omega)
        have hlo3 := ho3.lo
        have ho2' := (ho2.alloc (.cells #[] 3)).kept hg3 (by right; simp [blk]; omega)
        clear ho2 hB2 hbw hcf hs hs' hg3 hk3
        obtain ⟨hbw, hcf, -, -, -, hs, hs'⟩ := box2_facts hB3
        go_wp2_with (at_builtin; refine wpList_append_rows _ rfl (.tmp 15) (.tmp 16) 37 rfl (w.heap.size + 2) 3 1 8 _ Try.underlying37 info3 rfl (by decide) eInt len_eInt one_eInt A3 c3 f.have_ (some ⟨w3.heap.size, 0, none⟩) 1 (w3.heap.size + 1) f.have_.length 1 [72] rfl rfl rfl rfl ?_ ?_ ?_ ?_ ?_ ?_)
        · exact ho3.alloc _
        · exact row_new _ _ _ _ _ _ rfl
        · omega
        · omega
        · simp only [World.size_alloc]; omega
        · intro A4 c4 w4 ho4 hg4 hk4
          have hB4 := (hB3.alloc (by omega) (.cells #[.int .i64 72] 3)).grown hg4 (by simp only [World.size_alloc]; omega) (fun k hk => (hlo3 k hk).1)
          have ho24 := (ho2'.alloc (.cells #[.int .i64 72] 3)).kept hg4 (ho2'.ne ho3 (by decide))
          obtain ⟨g4, cc4, hv4, hgl4, hgh4⟩ := World.ownsRow.form ho4 (by simp)
          obtain ⟨rfl, rfl⟩ : A4 = some ⟨g4, 0, none⟩ ∧ c4 = cc4 := by injection hv4 with h1 _ h2; exact ⟨h1, h2⟩
          have hl2 := ho24.len
          have hl4 := ho4.len
          simp only [List.length_append, List.length_cons, List.length_nil] at hl2 hl4
          clear hv4 ho2' hB3 hlo3 hbw hcf hs hs' hg4 hk4 ho3
          obtain ⟨hbw, hcf, hct, -, hft, hs, hs'⟩ := box2_facts hB4
          have e2 : f.slots.length ≤ c2 := by omega
          have e4 : f.have_.length ≤ c4 := by omega
          have z2 : ¬ c2 = 0 := by omega
          have z4 : ¬ c4 = 0 := by omega
          go_wp2_with fail
          go_still_tail 18, (by kernel_rfl)
          change wpList _ _ _ _ _ w4.drew
          go_wp2
          refine bodyPost_ret (v := .agg #[.int .i64 f.e, .int .i64 f.l, .int .i64 f.i, .int .i64 f.c, .int .i64 f.base, .slice (some ⟨g2, 0, none⟩) f.slots.length c2, .slice (some ⟨g4, 0, none⟩) f.have_.length c4, .slice (some ⟨g2, 0, none⟩) (f.slots.length + 1) c2, .slice (some ⟨g4, 0, none⟩) (f.have_.length + 1) c4]) (by simp [results, Try.results23, go_sem, hct]) rfl ?_
          go_light
          refine ⟨⟨f, g2, c2, g4, c4⟩, rfl, rfl, ⟨?_, ?_⟩, below_set9 hbw (by omega)⟩
          · exact (ho24.lower (by omega)).blocks (fun k hk => heap_set9 _ _ _ _ _ _ _ _ _ _ _ (by simp [blk] at hk; omega))
          · exact (ho4.lower (by omega)).blocks (fun k hk => heap_set9 _ _ _ _ _ _ _ _ _ _ _ (by simp [blk] at hk; omega))
end Go.Proofs.Ytcffhfcjfjfokaa
/- What the program's joined keeps while it goes through the contents: who knows which slot where, and the memory in which that stands. -/
namespace Go.Proofs.Ytcffhfcjfjfokaa
open Go.RowKit

/-- The slot is known at the position by the first q contents, or by the first j slots of the q-th. -/
def KnownUp (fs : List Fl) (q j : Nat) (pos : Int) (s : Int × Int) : Prop := ∃ (i : Nat) (g : Fl) (k : Nat), fs[i]? = some g ∧ g.slots[k]? = some s ∧ pos = g.base + 1 + k ∧ (i < q ∨ (i = q ∧ k < j))
/-- The two maps say just that. -/
def Inv (fs : List Fl) (q j : Nat) (F : Int → Option (Int × Int)) (G : Int × Int → Option Int) : Prop := ∀ pos s, (F pos = some s ↔ KnownUp fs q j pos s) ∧ (G s = some pos ↔ KnownUp fs q j pos s)

theorem inv_zero (fs : List Fl) : Inv fs 0 0 (fun _ => none) (fun _ => none) := by
  intro pos s
  have h : ¬ KnownUp fs 0 0 pos s := by rintro ⟨i, g, k, _, _, _, h⟩; omega
  exact ⟨⟨fun x => (by cases x), fun x => absurd x h⟩, ⟨fun x => (by cases x), fun x => absurd x h⟩⟩
theorem up_next {fs : List Fl} {q : Nat} {f : Fl} (hf : fs[q]? = some f) {pos : Int} {s : Int × Int} : KnownUp fs q f.slots.length pos s ↔ KnownUp fs (q + 1) 0 pos s := by
  constructor
  · rintro ⟨i, g, k, h1, h2, h3, h4⟩; exact ⟨i, g, k, h1, h2, h3, by omega⟩
  · rintro ⟨i, g, k, h1, h2, h3, h4⟩
    refine ⟨i, g, k, h1, h2, h3, ?_⟩
    by_cases hi : i = q
    · subst hi; rw [hf] at h1; cases h1
      right; exact ⟨rfl, (List.getElem?_eq_some_iff.1 h2).1⟩
    · left; omega
theorem inv_next {fs : List Fl} {q : Nat} {f : Fl} (hf : fs[q]? = some f) {F : Int → Option (Int × Int)} {G : Int × Int → Option Int} (h : Inv fs q f.slots.length F G) : Inv fs (q + 1) 0 F G :=
  fun pos s => ⟨(h pos s).1.trans (up_next hf), (h pos s).2.trans (up_next hf)⟩
theorem up_put {fs : List Fl} {q j : Nat} {f : Fl} (hf : fs[q]? = some f) {s : Int × Int} (hs : f.slots[j]? = some s) {p : Int} {t : Int × Int} : KnownUp fs q (j + 1) p t ↔ KnownUp fs q j p t ∨ (p = f.base + 1 + j ∧ t = s) := by
  constructor
  · rintro ⟨i, g, k, h1, h2, h3, h4⟩
    by_cases hk : i = q ∧ k = j
    · obtain ⟨rfl, rfl⟩ := hk
      rw [hf] at h1; cases h1; rw [hs] at h2; cases h2
      right; exact ⟨h3, rfl⟩
    · left; exact ⟨i, g, k, h1, h2, h3, by omega⟩
  · rintro (⟨i, g, k, h1, h2, h3, h4⟩ | ⟨rfl, rfl⟩)
    · exact ⟨i, g, k, h1, h2, h3, by omega⟩
    · exact ⟨q, f, j, hf, hs, rfl, by omega⟩
theorem inv_put {fs : List Fl} {q j : Nat} {f : Fl} {F : Int → Option (Int × Int)} {G : Int × Int → Option Int} (h : Inv fs q j F G) (hf : fs[q]? = some f) {s : Int × Int} (hs : f.slots[j]? = some s) {pos : Int} (hp : pos = f.base + 1 + j)
    (hF : F pos = none ∨ F pos = some s) (hG : G s = none ∨ G s = some pos) : Inv fs q (j + 1) (fun y => if y = pos then some s else F y) (fun y => if y = s then some pos else G y) := by
  subst hp
  intro p t
  rw [up_put hf hs]
  constructor
  · constructor
    · intro hx
      by_cases hpp : p = f.base + 1 + j
      · simp only [if_pos hpp] at hx; cases hx; exact .inr ⟨hpp, rfl⟩
      · simp only [if_neg hpp] at hx; exact .inl ((h p t).1.1 hx)
    · rintro (hx | ⟨rfl, rfl⟩)
      · have := (h p t).1.2 hx
        by_cases hpp : p = f.base + 1 + j
        · subst hpp
          simp only [if_true]
          rcases hF with e | e <;> rw [e] at this <;> cases this
          rfl
        · simp only [if_neg hpp]; exact this
      · simp
  · constructor
    · intro hx
      by_cases hts : t = s
      · simp only [if_pos hts] at hx; cases hx; exact .inr ⟨rfl, hts⟩
      · simp only [if_neg hts] at hx; exact .inl ((h p t).2.1 hx)
    · rintro (hx | ⟨rfl, rfl⟩)
      · have := (h p t).2.2 hx
        by_cases hts : t = s
        · subst hts
          simp only [if_true]
          rcases hG with e | e <;> rw [e] at this <;> cases this
          rfl
        · simp only [if_neg hts]; exact this
      · simp

theorem clash_pos {fs : List Fl} {q j : Nat} {f : Fl} {F : Int → Option (Int × Int)} {G : Int × Int → Option Int} (h : Inv fs q j F G) (hf : fs[q]? = some f) {s t : Int × Int} (hs : f.slots[j]? = some s)
    (hF : F (f.base + 1 + j) = some t) (hne : t ≠ s) : ClashIn fs := by
  obtain ⟨i, g, k, h1, h2, h3, h4⟩ := (h _ t).1.1 hF
  rcases h4 with h4 | ⟨rfl, h4⟩
  · exact ⟨q, i, f, g, h4, hf, h1, j, k, s, t, hs, h2, fun e => hne (e.1 (by omega)).symm⟩
  · rw [hf] at h1; cases h1; omega
theorem clash_slot {fs : List Fl} (hall : ∀ f ∈ fs, Sound f) {q j : Nat} {f : Fl} {F : Int → Option (Int × Int)} {G : Int × Int → Option Int} (h : Inv fs q j F G) (hf : fs[q]? = some f) {s : Int × Int} (hs : f.slots[j]? = some s) {p : Int}
    (hG : G s = some p) (hne : p ≠ f.base + 1 + j) : ClashIn fs := by
  obtain ⟨i, g, k, h1, h2, h3, h4⟩ := (h p s).2.1 hG
  rcases h4 with h4 | ⟨rfl, h4⟩
  · exact ⟨q, i, f, g, h4, hf, h1, j, k, s, s, hs, h2, fun e => hne (by have := e.2 rfl; omega)⟩
  · rw [hf] at h1; cases h1
    exact absurd hs (apart_of_nodup (hall f (List.mem_of_getElem? hf)).nodup (by omega : k ≠ j) h2)
theorem up_all {fs : List Fl} {q : Nat} (hq : fs.length ≤ q) {p : Int} {s : Int × Int} : KnownUp fs q 0 p s ↔ Known fs p s := by
  constructor
  · rintro ⟨i, g, k, h1, h2, h3, _⟩; exact ⟨i, g, k, h1, h2, h3⟩
  · rintro ⟨i, g, k, h1, h2, h3⟩; exact ⟨i, g, k, h1, h2, h3, .inl (by have := (List.getElem?_eq_some_iff.1 h1).1; omega)⟩
theorem calm_of {fs : List Fl} {q : Nat} (hq : fs.length ≤ q) {F : Int → Option (Int × Int)} {G : Int × Int → Option Int} (h : Inv fs q 0 F G) : ¬ ClashIn fs := by
  rintro ⟨i, j, f, g, _, hf, hg, a, b, s, t, hs, ht, hn⟩
  have k1 := (up_all hq).2 ⟨i, f, a, hf, hs, rfl⟩
  have k2 := (up_all hq).2 ⟨j, g, b, hg, ht, rfl⟩
  apply hn
  constructor
  · intro e
    have e1 := (h _ s).1.2 k1
    have e2 := (h _ t).1.2 k2
    rw [show f.base + 1 + (a : Int) = g.base + 1 + (b : Int) by omega, e2] at e1
    exact (Option.some.inj e1).symm
  · intro e
    subst e
    have e1 := (h _ s).2.2 k1
    have e2 := (h _ s).2.2 k2
    rw [e1] at e2
    have := Option.some.inj e2; omega

/-- The memory in which it stands: the union's block, its two maps. -/
structure JW (w wr : World) (args : Array Value) (bu bs bp : Nat) (base cut : Int) (F : Int → Option (Int × Int)) (G : Int × Int → Option Int) : Prop where
  bel : Below (w.heap.size + 1) (box1 w args 22) wr
  ub : wr.heap[bs]? = some (.cells #[.int .i64 base, .int .i64 cut, .map (some bu)] 119 (0, 0))
  mu : ∃ n, MapsTo wr Try.prog 3 bu n vInt vSlot F
  mp : ∃ n, MapsTo wr Try.prog 66 bp n vSlot vInt G
  lou : w.heap.size + 1 ≤ bu
  los : w.heap.size + 1 ≤ bs
  lop : w.heap.size + 1 ≤ bp
  nup : bu ≠ bp
section
variable {w wr w' : World} {args : Array Value} {bu bs bp : Nat} {base cut : Int} {F : Int → Option (Int × Int)} {G : Int × Int → Option Int}
theorem JW.lts (h : JW w wr args bu bs bp base cut F G) : bs < wr.heap.size := (Array.getElem?_eq_some_iff.1 h.ub).1
theorem JW.ltu (h : JW w wr args bu bs bp base cut F G) : bu < wr.heap.size := by obtain ⟨n, m⟩ := h.mu; exact m.lt
theorem JW.ltp (h : JW w wr args bu bs bp base cut F G) : bp < wr.heap.size := by obtain ⟨n, m⟩ := h.mp; exact m.lt
theorem JW.nus (h : JW w wr args bu bs bp base cut F G) : bu ≠ bs := by
  obtain ⟨n, es, clock, m, _⟩ := h.mu
  rintro rfl
  have := h.ub; rw [m] at this; cases this
theorem JW.nps (h : JW w wr args bu bs bp base cut F G) : bp ≠ bs := by
  obtain ⟨n, es, clock, m, _⟩ := h.mp
  rintro rfl
  have := h.ub; rw [m] at this; cases this
theorem JW.cells (h : JW w wr args bu bs bp base cut F G) : ∀ i, wr.cell? ⟨bs, i, none⟩ = (#[.int .i64 base, .int .i64 cut, .map (some bu)] : Array Value)[i]? := fun i => by
  simp only [World.cell?, h.ub]; rfl
theorem JW.frozen (h : JW w wr args bu bs bp base cut F G) : ∀ i, wr.frozen? ⟨bs, i, none⟩ = false := fun i => by
  simp [World.frozen?, h.ub]
theorem JW.below (h : JW w wr args bu bs bp base cut F G) (hb : Below wr.heap.size wr w') : JW w w' args bu bs bp base cut F G := by
  have hs := h.bel.size
  simp only [World.size_alloc] at hs
  refine ⟨h.bel.trans (hb.mono hs), (hb.block bs h.lts).trans h.ub, ?_, ?_, h.lou, h.los, h.lop, h.nup⟩
  · obtain ⟨n, m⟩ := h.mu; exact ⟨n, m.keep hb m.lt⟩
  · obtain ⟨n, m⟩ := h.mp; exact ⟨n, m.keep hb m.lt⟩
theorem JW.alloc (h : JW w wr args bu bs bp base cut F G) (o : Obj) : JW w (wr.alloc o) args bu bs bp base cut F G := h.below ((Below.refl _ _).alloc (Nat.le_refl _) o)
theorem JW.drew (h : JW w wr args bu bs bp base cut F G) : JW w wr.drew args bu bs bp base cut F G := h.below (Below.drew (Below.refl _ _))
theorem JW.drewN (h : JW w wr args bu bs bp base cut F G) (n : Nat) : JW w (wr.drewN n) args bu bs bp base cut F G := h.below (below_drewN (Below.refl _ _) n)
theorem JW.setBase (h : JW w wr args bu bs bp base cut F G) (b : Int) : JW w (wr.setCell ⟨bs, 0, none⟩ (.int .i64 b)) args bu bs bp b cut F G := by
  refine ⟨h.bel.setCell h.los _, ?_, ?_, ?_, h.lou, h.los, h.lop, h.nup⟩
  · rw [heap_setCell_same wr bs 0 _ 119 _ h.ub]; rfl
  · obtain ⟨n, m⟩ := h.mu; exact ⟨n, m.setCell (by exact fun e => h.nus e.symm) _⟩
  · obtain ⟨n, m⟩ := h.mp; exact ⟨n, m.setCell (by exact fun e => h.nps e.symm) _⟩
theorem JW.setCut (h : JW w wr args bu bs bp base cut F G) (b : Int) : JW w (wr.setCell ⟨bs, 1, none⟩ (.int .i64 b)) args bu bs bp base b F G := by
  refine ⟨h.bel.setCell h.los _, ?_, ?_, ?_, h.lou, h.los, h.lop, h.nup⟩
  · rw [heap_setCell_same wr bs 1 _ 119 _ h.ub]; rfl
  · obtain ⟨n, m⟩ := h.mu; exact ⟨n, m.setCell (by exact fun e => h.nus e.symm) _⟩
  · obtain ⟨n, m⟩ := h.mp; exact ⟨n, m.setCell (by exact fun e => h.nps e.symm) _⟩
theorem JW.putF (h : JW w wr args bu bs bp base cut F G) (hg : wr.grownBy w' (some bu)) {n : Nat} {F' : Int → Option (Int × Int)} (hm : MapsTo w' Try.prog 3 bu n vInt vSlot F') : JW w w' args bu bs bp base cut F' G := by
  have hs := h.bel.size
  simp only [World.size_alloc] at hs
  refine ⟨h.bel.grown hg hs (fun k hk => by cases hk; exact h.lou), (hg.block bs h.lts (fun e => h.nus (by injection e with e; exact e.symm))).trans h.ub, ⟨n, hm⟩, ?_, h.lou, h.los, h.lop, h.nup⟩
  obtain ⟨n, m⟩ := h.mp; exact ⟨n, m.kept hg (fun e => h.nup (by injection e with e; exact e.symm))⟩
theorem JW.putG (h : JW w wr args bu bs bp base cut F G) (hg : wr.grownBy w' (some bp)) {n : Nat} {G' : Int × Int → Option Int} (hm : MapsTo w' Try.prog 66 bp n vSlot vInt G') : JW w w' args bu bs bp base cut F G' := by
  have hs := h.bel.size
  simp only [World.size_alloc] at hs
  refine ⟨h.bel.grown hg hs (fun k hk => by cases hk; exact h.lop), (hg.block bs h.lts (fun e => h.nps (by injection e with e; exact e.symm))).trans h.ub, ?_, ⟨n, hm⟩, h.lou, h.los, h.lop, h.nup⟩
  obtain ⟨n, m⟩ := h.mu; exact ⟨n, m.kept hg (fun e => h.nup (by injection e))⟩
end
theorem jw_start {w wo : World} {args : Array Value} (hb : Below (w.heap.size + 1) (box1 w args 22) wo) :
    JW w (((wo.alloc (.map #[] 0)).alloc (.cells #[.int .i64 0, .int .i64 0, .map (some wo.heap.size)] 119)).alloc (.map #[] 0)) args wo.heap.size (wo.heap.size + 1) (wo.heap.size + 1 + 1) 0 0 (fun _ => none) (fun _ => none) := by
  have hs := hb.size
  simp only [World.size_alloc] at hs
  refine ⟨((hb.alloc hs _).alloc (by simp only [World.size_alloc]; omega) _).alloc (by simp only [World.size_alloc]; omega) _, ?_, ⟨0, ?_⟩, ⟨0, ?_⟩, hs, by omega, by omega, by omega⟩
  · rw [Below.heap_alloc _ _ _ (by simp only [World.size_alloc]; omega)]
    have := heap_alloc_new (wo.alloc (.map #[] 0)) (.cells #[.int .i64 0, .int .i64 0, .map (some wo.heap.size)] 119)
    rw [World.size_alloc] at this; exact this
  · exact ((mapsTo_made wo Try.prog 3 vInt vSlot).alloc _).alloc _
  · have := mapsTo_made ((wo.alloc (.map #[] 0)).alloc (.cells #[.int .i64 0, .int .i64 0, .map (some wo.heap.size)] 119)) Try.prog 66 vSlot vInt
    simp only [World.size_alloc] at this; exact this

end Go.Proofs.Ytcffhfcjfjfokaa
