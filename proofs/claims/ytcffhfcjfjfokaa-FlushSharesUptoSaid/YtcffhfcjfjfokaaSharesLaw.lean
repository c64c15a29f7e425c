/- FlushShares' plain law: what a node lacks is owed to it, each by just one other. No program in sight. -/
import Derived.Test.YtcffhfcjfjfokaaLackr
import Derived.Test.YtcffhfcjfjfokaaDuty
namespace Go.Proofs.Ytcffhfcjfjfokaa
theorem ins_perm (l : List (Int × Int)) (s : Int × Int) : (ins l s).Perm (s :: l) := by
  unfold ins
  refine List.perm_middle.trans ?_
  rw [List.takeWhile_append_dropWhile]
theorem pick_mem {F : Int → Option (Int × Int)} {P : Int × Int → Bool} {b : Int} (hF : ∀ p p' s, F p = some s → F p' = some s → p = p') :
    ∀ k : Nat, (pickTo F P b k).Nodup ∧ ∀ s, s ∈ pickTo F P b k ↔ ∃ pos, b < pos ∧ pos ≤ b + k ∧ F pos = some s ∧ P s = true
  | 0 => ⟨List.nodup_nil, fun s => ⟨fun h => (by cases h), fun ⟨pos, h1, h2, _⟩ => by simp at h2; omega⟩⟩
  | k + 1 => by
    obtain ⟨hn, hm⟩ := pick_mem (P := P) (b := b) hF k
    rw [pickTo]
    cases hf : F (b + 1 + k) with
    | none =>
      refine ⟨hn, fun s => (hm s).trans ⟨fun ⟨pos, h1, h2, h3⟩ => ⟨pos, h1, by omega, h3⟩, fun ⟨pos, h1, h2, h3, h4⟩ => ⟨pos, h1, ?_, h3, h4⟩⟩⟩
      by_cases e : pos = b + 1 + k
      · rw [e, hf] at h3; cases h3
      · omega
    | some t =>
      dsimp only
      by_cases hp : P t = true
      · rw [if_pos hp]
        have hnt : t ∉ pickTo F P b k := fun h => by
          obtain ⟨pos, h1, h2, h3, _⟩ := (hm t).1 h
          have := hF _ _ _ h3 hf
          omega
        refine ⟨(ins_perm _ t).nodup_iff.2 (List.nodup_cons.2 ⟨hnt, hn⟩), fun s => ?_⟩
        rw [(ins_perm _ t).mem_iff, List.mem_cons, hm s]
        constructor
        · rintro (rfl | ⟨pos, h1, h2, h3⟩)
          · exact ⟨b + 1 + k, by omega, by omega, hf, hp⟩
          · exact ⟨pos, h1, by omega, h3⟩
        · rintro ⟨pos, h1, h2, h3, h4⟩
          by_cases e : pos = b + 1 + k
          · rw [e, hf] at h3; cases h3; exact .inl rfl
          · exact .inr ⟨pos, h1, by omega, h3, h4⟩
      · rw [if_neg hp]
        refine ⟨hn, fun s => (hm s).trans ⟨fun ⟨pos, h1, h2, h3⟩ => ⟨pos, h1, by omega, h3⟩, fun ⟨pos, h1, h2, h3, h4⟩ => ⟨pos, h1, ?_, h3, h4⟩⟩⟩
        by_cases e : pos = b + 1 + k
        · rw [e, hf] at h3; cases h3; exact absurd h4 hp
        · omega
theorem mem_app {fs : List Fl} {own f : Fl} (ho : own ∈ fs) : f ∈ fs ++ [own] ↔ f ∈ fs := by
  rw [List.mem_append, List.mem_singleton]
  exact ⟨fun h => h.elim id (fun e => by rw [e]; exact ho), .inl⟩
theorem known_mem {fs : List Fl} {pos : Int} {s : Int × Int} : Known fs pos s ↔ ∃ g ∈ fs, ∃ k : Nat, g.slots[k]? = some s ∧ pos = g.base + 1 + k := by
  constructor
  · rintro ⟨i, g, k, hg, hs, e⟩; exact ⟨g, List.mem_of_getElem? hg, k, hs, e⟩
  · rintro ⟨g, hg, k, hs, e⟩
    obtain ⟨i, hi⟩ := List.mem_iff_getElem?.1 hg
    exact ⟨i, g, k, hi, hs, e⟩
theorem known_app {fs : List Fl} {own : Fl} (ho : own ∈ fs) {pos : Int} {s : Int × Int} : Known (fs ++ [own]) pos s ↔ Known fs pos s := by
  rw [known_mem, known_mem]
  constructor
  · rintro ⟨g, hg, r⟩; exact ⟨g, (mem_app ho).1 hg, r⟩
  · rintro ⟨g, hg, r⟩; exact ⟨g, (mem_app ho).2 hg, r⟩
theorem calm_self {f : Fl} (h : Sound f) : ¬ Clash f f := by
  rintro ⟨i, j, s, t, hs, ht, hne⟩
  apply hne
  constructor
  · intro e
    have : i = j := by omega
    subst this; rw [hs] at ht; cases ht; rfl
  · intro e
    subst e
    have : i = j := Decidable.byContradiction fun e => apart_of_nodup h.nodup e hs ht
    omega
theorem fit_app {fs : List Fl} {own : Fl} (h : Fit fs) (ho : own ∈ fs) : Fit (fs ++ [own]) := by
  have h0 : 0 < fs.length := List.length_pos_of_mem ho
  refine ⟨fun f hf => h.sound f ((mem_app ho).1 hf), fun f hf g hg => h.kin f ((mem_app ho).1 hf) g (by rwa [List.getElem?_append_left h0] at hg), ?_⟩
  rintro ⟨i, j, f, g, hji, hf, hg, hc⟩
  have hi := (List.getElem?_eq_some_iff.1 hf).1
  rw [List.length_append, List.length_singleton] at hi
  rw [List.getElem?_append_left (by omega)] at hg
  by_cases hil : i < fs.length
  · rw [List.getElem?_append_left hil] at hf
    exact no_clash h hf hg (by omega) hc
  · obtain rfl : i = fs.length := by omega
    rw [List.getElem?_append_right (Nat.le_refl _), Nat.sub_self] at hf
    simp at hf; subst hf
    obtain ⟨k, hk⟩ := List.mem_iff_getElem?.1 ho
    by_cases e : k = j
    · subst e; rw [hk] at hg; cases hg; exact calm_self (h.sound _ ho) hc
    · exact no_clash h hk hg e hc
theorem base_app {fs : List Fl} {own : Fl} (ho : own ∈ fs) : baseOf (fs ++ [own]) = baseOf fs := by
  have h := base_ge ho
  unfold baseOf at *
  rw [List.foldl_append]
  simp only [List.foldl_cons, List.foldl_nil]
  rw [if_neg (by omega)]
theorem had_app {fs : List Fl} {own : Fl} (ho : own ∈ fs) (s : Int × Int) : hadB (fs ++ [own]) s = hadB fs s := by
  unfold hadB
  rw [List.any_append, List.any_cons, List.any_nil, Bool.or_false]
  cases h : havB own.have_ s.1 s.2 with
  | false => rw [Bool.or_false]
  | true =>
    have : (fs.any fun f => havB f.have_ s.1 s.2) = true := List.any_eq_true.2 ⟨own, ho, h⟩
    rw [this]; rfl
theorem whole_app {fs : List Fl} {own : Fl} (h : Fit fs) (ho : own ∈ fs) (p : Int) : wholeAtB (fs ++ [own]) (atOf (fs ++ [own]) p) = wholeAtB fs (atOf fs p) := by
  rw [Bool.eq_iff_iff, whole_iff (fit_app h ho), whole_iff h]
  constructor
  · rintro ⟨s, hs, e⟩; exact ⟨s, (known_app ho).1 hs, by rw [← had_app ho]; exact e⟩
  · rintro ⟨s, hs, e⟩; exact ⟨s, (known_app ho).2 hs, by rw [had_app ho]; exact e⟩
theorem cut_app {fs : List Fl} {own : Fl} (h : Fit fs) (ho : own ∈ fs) {c : Int} (hc : IsCut (fs ++ [own]) c) : IsCut fs c := by
  obtain ⟨a, b, d⟩ := hc
  rw [base_app ho] at a b
  exact ⟨a, fun p h1 h2 => by rw [← whole_app h ho]; exact b p h1 h2, by rw [← whole_app h ho]; exact d⟩
theorem knownF_eq {fs : List Fl} (h : Fit fs) {F : Int → Option (Int × Int)} (hF : ∀ pos s, F pos = some s ↔ Known fs pos s) : F = knownF fs :=
  funext fun pos => Option.ext fun s => by rw [hF pos s, knownF_iff h]
theorem knownF_inj {fs : List Fl} (h : Fit fs) : ∀ p p' s, knownF fs p = some s → knownF fs p' = some s → p = p' := fun p p' s h1 h2 =>
  (known_one h ((knownF_iff h _ _).1 h1) ((knownF_iff h _ _).1 h2)).2 rfl
/-- What the node with the content g lacks behind the base. -/
noncomputable def lackL (fs : List Fl) (g : Fl) (cut : Int) : List (Int × Int) := pickTo (knownF fs) (fun s => !havB g.have_ s.1 s.2) (baseOf fs) (cut - baseOf fs).toNat
/-- The nodes 0, 1, 2, .. -/
def whoL (n : Nat) : List Int := (List.range n).map fun i : Nat => (i : Int)
theorem whoL_at {n i : Nat} (h : i < n) : (whoL n)[i]? = some (i : Int) := by unfold whoL; rw [List.getElem?_map, List.getElem?_range h]; rfl
theorem whoL_len (n : Nat) : (whoL n).length = n := by simp [whoL]
theorem whoL_val {n i : Nat} {x : Int} (h : (whoL n)[i]? = some x) : x = i ∧ i < n := by
  have hi := (List.getElem?_eq_some_iff.1 h).1
  rw [whoL_len] at hi
  rw [whoL_at hi] at h; injection h with h; exact ⟨h.symm, hi⟩
theorem whoL_ok {n : Nat} (h : n ≤ 16) : WhoOk (whoL n) := by
  refine ⟨fun x hx => ?_, nodup_of_apart (k := n) (fun i j x y hij hj hx hy e => ?_) (by rw [whoL_len]; exact Nat.le_refl _)⟩
  · obtain ⟨i, hi⟩ := List.mem_iff_getElem?.1 hx
    obtain ⟨rfl, hl⟩ := whoL_val hi
    exact ⟨by omega, by omega⟩
  · have h1 := (whoL_val hx).1
    have h2 := (whoL_val hy).1
    omega
/-- What the node p owes to the one with the content g. -/
noncomputable def oweL (fs : List Fl) (g : Fl) (cut : Int) (p : Int) : List (Int × Int) := pickTo (knownF fs) (fun s => !havB g.have_ s.1 s.2 && firstB (whoL fs.length) (hadL fs s.1 s.2) p) (baseOf fs) (cut - baseOf fs).toNat
theorem lacks_share {fs : List Fl} {own : Fl} {l : List (Int × Int)} {n cut : Int} (h : Fit fs) (hl1 : 1 ≤ fs.length) (hl2 : fs.length ≤ 16) (ho : own ∈ fs) (hc : IsCut fs cut) (hL : LacksIs (baseOf fs) own fs l n) : n = 0 ∧ l = lackL fs own cut := by
  have hf := fit_app h ho
  unfold LacksIs at hL
  rw [if_pos ⟨base_nonneg fs, base_le h.sound⟩] at hL
  rcases hL with ⟨m, hm, hLm, _⟩ | ⟨_, _, hlt, _⟩ | ⟨_, _, _, rfl, cut', F, hc', hF, rfl⟩
  · unfold ListedMore at hLm
    rw [if_pos ⟨hl1, hl2⟩] at hLm
    exact absurd (together_one hLm (fit_iff.2 hf)) hm
  · rw [base_app ho] at hlt; omega
  · refine ⟨rfl, ?_⟩
    obtain rfl := cut_one hc (cut_app h ho hc')
    rw [knownF_eq h (fun pos s => (hF pos s).trans (known_app ho))]; rfl
theorem duty_share {fs : List Fl} {g : Fl} {d : List (Int × Int)} {n cut : Int} {p q : Nat} (h : Fit fs) (hl1 : 1 ≤ fs.length) (hl2 : fs.length ≤ 16) (hg : fs[q]? = some g) (hp : p < fs.length) (hpq : p ≠ q) (hc : IsCut fs cut) (hD : DutyIs p q (whoL fs.length) fs d n) :
    n = 0 ∧ d = oweL fs g cut p := by
  have hq := (List.getElem?_eq_some_iff.1 hg).1
  have hL : Listed fs 0 := by unfold Listed; rw [if_pos ⟨hl1, hl2⟩]; exact fit_iff.2 h
  have hH : DutyHead p q (whoL fs.length) fs := ⟨whoL_len _, by omega, whoL_ok hl2, List.mem_of_getElem? (whoL_at hp), List.mem_of_getElem? (whoL_at hq)⟩
  rcases hD with ⟨hn, _⟩ | ⟨_, m, hm, hLm, _⟩ | ⟨_, _, _, rfl, cut', F, iy, g', hc', hF, hy, hg', rfl⟩
  · exact absurd hH hn
  · exact absurd (listed_one hLm hL) hm
  · refine ⟨rfl, ?_⟩
    obtain rfl := cut_one hc hc'
    have := (whoL_val hy).1
    obtain rfl : iy = q := by omega
    rw [hg] at hg'; cases hg'
    rw [knownF_eq h hF]; rfl
theorem lack_nodup {fs : List Fl} (h : Fit fs) (g : Fl) (cut : Int) : (lackL fs g cut).Nodup := (pick_mem (knownF_inj h) _).1
/-- Of a message that p owes. -/
theorem owe_item {fs : List Fl} {f g : Fl} {cut : Int} {p : Nat} {s : Int × Int} (h : Fit fs) (hf : fs[p]? = some f) (hgm : g ∈ fs) (hs : s ∈ oweL fs g cut p) : s ∈ lackL fs g cut ∧ rhasB f.have_ s.1 s.2 = true ∧ rhasB g.have_ s.1 s.2 = false := by
  obtain ⟨pos, h1, h2, h3, h4⟩ := ((pick_mem (knownF_inj h) _).2 s).1 hs
  have hk := (knownF_iff h _ _).1 h3
  simp only [Bool.and_eq_true, Bool.not_eq_true'] at h4
  obtain ⟨h5, h6⟩ := h4
  refine ⟨((pick_mem (knownF_inj h) _).2 s).2 ⟨pos, h1, h2, h3, by simp [h5]⟩, ?_, by rw [had_rhas h hk hgm]; exact h5⟩
  rw [had_rhas h hk (List.mem_of_getElem? hf)]
  unfold firstB at h6
  obtain ⟨i, hi, hh, _⟩ := @of_decide_eq_true _ (Classical.propDecidable _) h6
  obtain ⟨e, _⟩ := whoL_val hi
  obtain rfl : i = p := by omega
  rw [hadL_at hf] at hh
  injection hh
theorem first_uniq {fs : List Fl} {s : Int × Int} {p p' : Nat} (h1 : firstB (whoL fs.length) (hadL fs s.1 s.2) p = true) (h2 : firstB (whoL fs.length) (hadL fs s.1 s.2) p' = true) : p = p' := by
  unfold firstB at h1 h2
  obtain ⟨i, a1, a2, a3⟩ := @of_decide_eq_true _ (Classical.propDecidable _) h1
  obtain ⟨j, b1, b2, b3⟩ := @of_decide_eq_true _ (Classical.propDecidable _) h2
  have := a3 j _ b2 b1
  have := b3 i _ a2 a1
  omega
theorem first_ex {hs : List Bool} {n : Nat} (hl : hs.length = n) {i : Nat} (hi : hs[i]? = some true) : ∃ p, p < n ∧ hs[p]? = some true ∧ firstB (whoL n) hs p = true := by
  induction i using Nat.strongRecOn with
  | _ i ih =>
    by_cases hm : ∃ j, j < i ∧ hs[j]? = some true
    · obtain ⟨j, hj, hh⟩ := hm
      exact ih j hj hh
    · have hin : i < n := by have := (List.getElem?_eq_some_iff.1 hi).1; omega
      refine ⟨i, hin, hi, ?_⟩
      unfold firstB
      refine @decide_eq_true _ (Classical.propDecidable _) ⟨i, whoL_at hin, hi, fun j y hj hy => ?_⟩
      obtain ⟨rfl, _⟩ := whoL_val hy
      have : ¬ j < i := fun hlt => hm ⟨j, hlt, hj⟩
      omega
/-- What the nodes 0 to k - 1, but q, owe. -/
noncomputable def owedTo (fs : List Fl) (g : Fl) (cut : Int) (q k : Nat) : List (Int × Int) := (List.range k).flatMap fun p => if p = q then [] else oweL fs g cut p
theorem owedTo_succ (fs : List Fl) (g : Fl) (cut : Int) (q k : Nat) : owedTo fs g cut q (k + 1) = owedTo fs g cut q k ++ (if k = q then [] else oweL fs g cut k) := by
  unfold owedTo
  rw [List.range_succ, List.flatMap_append, List.flatMap_cons, List.flatMap_nil, List.append_nil]
theorem owed_mem {fs : List Fl} {g : Fl} {cut : Int} {q k : Nat} {s : Int × Int} : s ∈ owedTo fs g cut q k ↔ ∃ p, p < k ∧ p ≠ q ∧ s ∈ oweL fs g cut p := by
  unfold owedTo
  rw [List.mem_flatMap]
  constructor
  · rintro ⟨p, hp, hs⟩
    split at hs
    · cases hs
    · exact ⟨p, List.mem_range.1 hp, by assumption, hs⟩
  · rintro ⟨p, hp, hne, hs⟩
    exact ⟨p, List.mem_range.2 hp, by rw [if_neg hne]; exact hs⟩
theorem owe_first {fs : List Fl} (h : Fit fs) {g : Fl} {cut : Int} {p : Nat} {s : Int × Int} (hs : s ∈ oweL fs g cut p) : firstB (whoL fs.length) (hadL fs s.1 s.2) p = true := by
  obtain ⟨pos, _, _, _, h4⟩ := ((pick_mem (knownF_inj h) _).2 s).1 hs
  simp only [Bool.and_eq_true] at h4
  exact h4.2
theorem owed_nodup {fs : List Fl} (h : Fit fs) (g : Fl) (cut : Int) (q : Nat) : ∀ k, (owedTo fs g cut q k).Nodup
  | 0 => List.nodup_nil
  | k + 1 => by
    rw [owedTo_succ]
    refine List.nodup_append.2 ⟨owed_nodup h g cut q k, ?_, fun a ha b hb => ?_⟩
    · split
      · exact List.nodup_nil
      · exact (pick_mem (knownF_inj h) _).1
    · split at hb
      · cases hb
      · rintro rfl
        obtain ⟨p, hp, _, hs⟩ := owed_mem.1 ha
        have := first_uniq (owe_first h hs) (owe_first h hb)
        omega
theorem owed_len {fs : List Fl} (h : Fit fs) {g : Fl} {cut : Int} {q : Nat} (hg : fs[q]? = some g) (hc : IsCut fs cut) : (owedTo fs g cut q fs.length).length = (lackL fs g cut).length := by
  refine ((List.perm_ext_iff_of_nodup (owed_nodup h g cut q _) (lack_nodup h g cut)).2 fun s => ?_).length_eq
  rw [owed_mem]
  constructor
  · rintro ⟨p, hp, hne, hs⟩
    exact (owe_item h (List.getElem?_eq_getElem hp) (List.mem_of_getElem? hg) hs).1
  · intro hs
    obtain ⟨pos, h1, h2, h3, h4⟩ := ((pick_mem (knownF_inj h) _).2 s).1 hs
    have hlow := hc.low
    obtain ⟨t, ht, hh⟩ := (whole_iff h).1 (hc.all pos h1 (by omega))
    have hk := (knownF_iff h _ _).1 h3
    obtain rfl := (known_one h ht hk).1 rfl
    obtain ⟨f, hf, hhf⟩ := List.any_eq_true.1 hh
    obtain ⟨i, hi⟩ := List.mem_iff_getElem?.1 hf
    obtain ⟨p, hp, hpt, hpf⟩ := first_ex (hs := hadL fs t.1 t.2) (n := fs.length) (by simp [hadL]) (i := i) (by rw [hadL_at hi, hhf])
    simp only [Bool.not_eq_true'] at h4
    refine ⟨p, hp, ?_, ((pick_mem (knownF_inj h) _).2 t).2 ⟨pos, h1, h2, h3, by simp [h4, hpf]⟩⟩
    rintro rfl
    rw [hadL_at hg, h4] at hpt
    cases hpt
end Go.Proofs.Ytcffhfcjfjfokaa
