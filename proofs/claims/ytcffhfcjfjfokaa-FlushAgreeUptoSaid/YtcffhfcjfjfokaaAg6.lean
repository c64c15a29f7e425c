/- SharesLaw Data RestSpec AgreeLaw AgreeLaw2 Fresh One Many Datas StepApp, joined. -/
import Derived.Laws.BytesArg
import Derived.Deep.RegionHeld3
import Derived.Deep.MidRow
import Derived.RegionTactic
import Derived.Test.YtcffhfcjfjfokaaAg1
import Derived.Test.YtcffhfcjfjfokaaAg2
import Derived.Test.YtcffhfcjfjfokaaAg3
import Derived.Test.YtcffhfcjfjfokaaAg4
import Derived.Test.YtcffhfcjfjfokaaAg5
set_option linter.unusedVariables false
set_option linter.unusedSimpArgs false
/- FlushShares' plain law: what a node lacks is owed to it, each by just one other. No program in sight. -/
namespace Go.Proofs.Ytcffhfcjfjfokaa
theorem ins_perm (l : List (Int × Int)) (s : Int × Int) : (ins l s).Perm (s :: l) := by
  unfold ins
  refine List.perm_middle.trans ?_
  rw [List.takeWhile_append_dropWhile]
theorem pick_mem {F : Int → Option (Int × Int)} {P : Int × Int → Bool} {b : Int} (hF : ∀ p p' s, F p = some s → F p' = some s → p = p') :
    ∀ k : Nat, (pickTo F P b k).Nodup ∧ ∀ s, s ∈ pickTo F P b k ↔ ∃ pos, b < pos ∧ pos ≤ b + k ∧ F pos = some s ∧ P s = true
  | 0 => ⟨List.nodup_nil, fun s => ⟨fun h => (by cases h), fun ⟨pos, h1, h2, _⟩ => by simp at h2; omega⟩⟩
  | k + 1 => by
    obtain ⟨hn, hm⟩ := pick_mem (P := P) (b := b) hF k
    rw [pickTo]
    cases hf : F (b + 1 + k) with
    | none =>
      refine ⟨hn, fun s => (hm s).trans ⟨fun ⟨pos, h1, h2, h3⟩ => ⟨pos, h1, by omega, h3⟩, fun ⟨pos, h1, h2, h3, h4⟩ => ⟨pos, h1, ?_, h3, h4⟩⟩⟩
      by_cases e : pos = b + 1 + k
      · rw [e, hf] at h3; cases h3
      · omega
    | some t =>
      dsimp only
      by_cases hp : P t = true
      · rw [if_pos hp]
        have hnt : t ∉ pickTo F P b k := fun h => by
          obtain ⟨pos, h1, h2, h3, _⟩ := (hm t).1 h
          have := hF _ _ _ h3 hf
          omega
        refine ⟨(ins_perm _ t).nodup_iff.2 (List.nodup_cons.2 ⟨hnt, hn⟩), fun s => ?_⟩
        rw [(ins_perm _ t).mem_iff, List.mem_cons, hm s]
        constructor
        · rintro (rfl | ⟨pos, h1, h2, h3⟩)
          · exact ⟨b + 1 + k, by omega, by omega, hf, hp⟩
          · exact ⟨pos, h1, by omega, h3⟩
        · rintro ⟨pos, h1, h2, h3, h4⟩
          by_cases e : pos = b + 1 + k
          · rw [e, hf] at h3; cases h3; exact .inl rfl
          · exact .inr ⟨pos, h1, by omega, h3, h4⟩
      · rw [if_neg hp]
        refine ⟨hn, fun s => (hm s).trans ⟨fun ⟨pos, h1, h2, h3⟩ => ⟨pos, h1, by omega, h3⟩, fun ⟨pos, h1, h2, h3, h4⟩ => ⟨pos, h1, ?_, h3, h4⟩⟩⟩
        by_cases e : pos = b + 1 + k
        · rw [e, hf] at h3; cases h3; exact absurd h4 hp
        · omega
theorem mem_app {fs : List Fl} {own f : Fl} (ho : own ∈ fs) : f ∈ fs ++ [own] ↔ f ∈ fs := by
  rw [List.mem_append, List.mem_singleton]
  exact ⟨fun h => h.elim id (fun e => by rw [e]; exact ho), .inl⟩
theorem known_mem {fs : List Fl} {pos : Int} {s : Int × Int} : Known fs pos s ↔ ∃ g ∈ fs, ∃ k : Nat, g.slots[k]? = some s ∧ pos = g.base + 1 + k := by
  constructor
  · rintro ⟨i, g, k, hg, hs, e⟩; exact ⟨g, List.mem_of_getElem? hg, k, hs, e⟩
  · rintro ⟨g, hg, k, hs, e⟩
    obtain ⟨i, hi⟩ := List.mem_iff_getElem?.1 hg
    exact ⟨i, g, k, hi, hs, e⟩
theorem known_app {fs : List Fl} {own : Fl} (ho : own ∈ fs) {pos : Int} {s : Int × Int} : Known (fs ++ [own]) pos s ↔ Known fs pos s := by
  rw [known_mem, known_mem]
  constructor
  · rintro ⟨g, hg, r⟩; exact ⟨g, (mem_app ho).1 hg, r⟩
  · rintro ⟨g, hg, r⟩; exact ⟨g, (mem_app ho).2 hg, r⟩
theorem calm_self {f : Fl} (h : Sound f) : ¬ Clash f f := by
  rintro ⟨i, j, s, t, hs, ht, hne⟩
  apply hne
  constructor
  · intro e
    have : i = j := by omega
    subst this; rw [hs] at ht; cases ht; rfl
  · intro e
    subst e
    have : i = j := Decidable.byContradiction fun e => apart_of_nodup h.nodup e hs ht
    omega
theorem fit_app {fs : List Fl} {own : Fl} (h : Fit fs) (ho : own ∈ fs) : Fit (fs ++ [own]) := by
  have h0 : 0 < fs.length := List.length_pos_of_mem ho
  refine ⟨fun f hf => h.sound f ((mem_app ho).1 hf), fun f hf g hg => h.kin f ((mem_app ho).1 hf) g (by rwa [List.getElem?_append_left h0] at hg), ?_⟩
  rintro ⟨i, j, f, g, hji, hf, hg, hc⟩
  have hi := (List.getElem?_eq_some_iff.1 hf).1
  rw [List.length_append, List.length_singleton] at hi
  rw [List.getElem?_append_left (by omega)] at hg
  by_cases hil : i < fs.length
  · rw [List.getElem?_append_left hil] at hf
    exact no_clash h hf hg (by omega) hc
  · obtain rfl : i = fs.length := by omega
    rw [List.getElem?_append_right (Nat.le_refl _), Nat.sub_self] at hf
    simp at hf; subst hf
    obtain ⟨k, hk⟩ := List.mem_iff_getElem?.1 ho
    by_cases e : k = j
    · subst e; rw [hk] at hg; cases hg; exact calm_self (h.sound _ ho) hc
    · exact no_clash h hk hg e hc
theorem base_app {fs : List Fl} {own : Fl} (ho : own ∈ fs) : baseOf (fs ++ [own]) = baseOf fs := by
  have h := base_ge ho
  unfold baseOf at *
  rw [List.foldl_append]
  simp only [List.foldl_cons, List.foldl_nil]
  rw [if_neg (by omega)]
theorem had_app {fs : List Fl} {own : Fl} (ho : own ∈ fs) (s : Int × Int) : hadB (fs ++ [own]) s = hadB fs s := by
  unfold hadB
  rw [List.any_append, List.any_cons, List.any_nil, Bool.or_false]
  cases h : havB own.have_ s.1 s.2 with
  | false => rw [Bool.or_false]
  | true =>
    have : (fs.any fun f => havB f.have_ s.1 s.2) = true := List.any_eq_true.2 ⟨own, ho, h⟩
    rw [this]; rfl
theorem whole_app {fs : List Fl} {own : Fl} (h : Fit fs) (ho : own ∈ fs) (p : Int) : wholeAtB (fs ++ [own]) (atOf (fs ++ [own]) p) = wholeAtB fs (atOf fs p) := by
  rw [Bool.eq_iff_iff, whole_iff (fit_app h ho), whole_iff h]
  constructor
  · rintro ⟨s, hs, e⟩; exact ⟨s, (known_app ho).1 hs, by rw [← had_app ho]; exact e⟩
  · rintro ⟨s, hs, e⟩; exact ⟨s, (known_app ho).2 hs, by rw [had_app ho]; exact e⟩
theorem cut_app {fs : List Fl} {own : Fl} (h : Fit fs) (ho : own ∈ fs) {c : Int} (hc : IsCut (fs ++ [own]) c) : IsCut fs c := by
  obtain ⟨a, b, d⟩ := hc
  rw [base_app ho] at a b
  exact ⟨a, fun p h1 h2 => by rw [← whole_app h ho]; exact b p h1 h2, by rw [← whole_app h ho]; exact d⟩
theorem knownF_eq {fs : List Fl} (h : Fit fs) {F : Int → Option (Int × Int)} (hF : ∀ pos s, F pos = some s ↔ Known fs pos s) : F = knownF fs :=
  funext fun pos => Option.ext fun s => by rw [hF pos s, knownF_iff h]
theorem knownF_inj {fs : List Fl} (h : Fit fs) : ∀ p p' s, knownF fs p = some s → knownF fs p' = some s → p = p' := fun p p' s h1 h2 =>
  (known_one h ((knownF_iff h _ _).1 h1) ((knownF_iff h _ _).1 h2)).2 rfl
/-- What the node with the content g lacks behind the base. -/
noncomputable def lackL (fs : List Fl) (g : Fl) (cut : Int) : List (Int × Int) := pickTo (knownF fs) (fun s => !havB g.have_ s.1 s.2) (baseOf fs) (cut - baseOf fs).toNat
/-- The nodes 0, 1, 2, .. -/
def whoL (n : Nat) : List Int := (List.range n).map fun i : Nat => (i : Int)
theorem whoL_at {n i : Nat} (h : i < n) : (whoL n)[i]? = some (i : Int) := by unfold whoL; rw [List.getElem?_map, List.getElem?_range h]; rfl
theorem whoL_len (n : Nat) : (whoL n).length = n := by simp [whoL]
theorem whoL_val {n i : Nat} {x : Int} (h : (whoL n)[i]? = some x) : x = i ∧ i < n := by
  have hi := (List.getElem?_eq_some_iff.1 h).1
  rw [whoL_len] at hi
  rw [whoL_at hi] at h; injection h with h; exact ⟨h.symm, hi⟩
theorem whoL_ok {n : Nat} (h : n ≤ 16) : WhoOk (whoL n) := by
  refine ⟨fun x hx => ?_, nodup_of_apart (k := n) (fun i j x y hij hj hx hy e => ?_) (by rw [whoL_len]; exact Nat.le_refl _)⟩
  · obtain ⟨i, hi⟩ := List.mem_iff_getElem?.1 hx
    obtain ⟨rfl, hl⟩ := whoL_val hi
    exact ⟨by omega, by omega⟩
  · have h1 := (whoL_val hx).1
    have h2 := (whoL_val hy).1
    omega
/-- What the node p owes to the one with the content g. -/
noncomputable def oweL (fs : List Fl) (g : Fl) (cut : Int) (p : Int) : List (Int × Int) := pickTo (knownF fs) (fun s => !havB g.have_ s.1 s.2 && firstB (whoL fs.length) (hadL fs s.1 s.2) p) (baseOf fs) (cut - baseOf fs).toNat
theorem lacks_share {fs : List Fl} {own : Fl} {l : List (Int × Int)} {n cut : Int} (h : Fit fs) (hl1 : 1 ≤ fs.length) (hl2 : fs.length ≤ 16) (ho : own ∈ fs) (hc : IsCut fs cut) (hL : LacksIs (baseOf fs) own fs l n) : n = 0 ∧ l = lackL fs own cut := by
  have hf := fit_app h ho
  unfold LacksIs at hL
  rw [if_pos ⟨base_nonneg fs, base_le h.sound⟩] at hL
  rcases hL with ⟨m, hm, hLm, _⟩ | ⟨_, _, hlt, _⟩ | ⟨_, _, _, rfl, cut', F, hc', hF, rfl⟩
  · unfold ListedMore at hLm
    rw [if_pos ⟨hl1, hl2⟩] at hLm
    exact absurd (together_one hLm (fit_iff.2 hf)) hm
  · rw [base_app ho] at hlt; omega
  · refine ⟨rfl, ?_⟩
    obtain rfl := cut_one hc (cut_app h ho hc')
    rw [knownF_eq h (fun pos s => (hF pos s).trans (known_app ho))]; rfl
theorem duty_share {fs : List Fl} {g : Fl} {d : List (Int × Int)} {n cut : Int} {p q : Nat} (h : Fit fs) (hl1 : 1 ≤ fs.length) (hl2 : fs.length ≤ 16) (hg : fs[q]? = some g) (hp : p < fs.length) (hpq : p ≠ q) (hc : IsCut fs cut) (hD : DutyIs p q (whoL fs.length) fs d n) :
    n = 0 ∧ d = oweL fs g cut p := by
  have hq := (List.getElem?_eq_some_iff.1 hg).1
  have hL : Listed fs 0 := by unfold Listed; rw [if_pos ⟨hl1, hl2⟩]; exact fit_iff.2 h
  have hH : DutyHead p q (whoL fs.length) fs := ⟨whoL_len _, by omega, whoL_ok hl2, List.mem_of_getElem? (whoL_at hp), List.mem_of_getElem? (whoL_at hq)⟩
  rcases hD with ⟨hn, _⟩ | ⟨_, m, hm, hLm, _⟩ | ⟨_, _, _, rfl, cut', F, iy, g', hc', hF, hy, hg', rfl⟩
  · exact absurd hH hn
  · exact absurd (listed_one hLm hL) hm
  · refine ⟨rfl, ?_⟩
    obtain rfl := cut_one hc hc'
    have := (whoL_val hy).1
    obtain rfl : iy = q := by omega
    rw [hg] at hg'; cases hg'
    rw [knownF_eq h hF]; rfl
theorem lack_nodup {fs : List Fl} (h : Fit fs) (g : Fl) (cut : Int) : (lackL fs g cut).Nodup := (pick_mem (knownF_inj h) _).1
/-- Of a message that p owes. -/
theorem owe_item {fs : List Fl} {f g : Fl} {cut : Int} {p : Nat} {s : Int × Int} (h : Fit fs) (hf : fs[p]? = some f) (hgm : g ∈ fs) (hs : s ∈ oweL fs g cut p) : s ∈ lackL fs g cut ∧ rhasB f.have_ s.1 s.2 = true ∧ rhasB g.have_ s.1 s.2 = false := by
  obtain ⟨pos, h1, h2, h3, h4⟩ := ((pick_mem (knownF_inj h) _).2 s).1 hs
  have hk := (knownF_iff h _ _).1 h3
  simp only [Bool.and_eq_true, Bool.not_eq_true'] at h4
  obtain ⟨h5, h6⟩ := h4
  refine ⟨((pick_mem (knownF_inj h) _).2 s).2 ⟨pos, h1, h2, h3, by simp [h5]⟩, ?_, by rw [had_rhas h hk hgm]; exact h5⟩
  rw [had_rhas h hk (List.mem_of_getElem? hf)]
  unfold firstB at h6
  obtain ⟨i, hi, hh, _⟩ := @of_decide_eq_true _ (Classical.propDecidable _) h6
  obtain ⟨e, _⟩ := whoL_val hi
  obtain rfl : i = p := by omega
  rw [hadL_at hf] at hh
  injection hh
theorem first_uniq {fs : List Fl} {s : Int × Int} {p p' : Nat} (h1 : firstB (whoL fs.length) (hadL fs s.1 s.2) p = true) (h2 : firstB (whoL fs.length) (hadL fs s.1 s.2) p' = true) : p = p' := by
  unfold firstB at h1 h2
  obtain ⟨i, a1, a2, a3⟩ := @of_decide_eq_true _ (Classical.propDecidable _) h1
  obtain ⟨j, b1, b2, b3⟩ := @of_decide_eq_true _ (Classical.propDecidable _) h2
  have := a3 j _ b2 b1
  have := b3 i _ a2 a1
  omega
theorem first_ex {hs : List Bool} {n : Nat} (hl : hs.length = n) {i : Nat} (hi : hs[i]? = some true) : ∃ p, p < n ∧ hs[p]? = some true ∧ firstB (whoL n) hs p = true := by
  induction i using Nat.strongRecOn with
  | _ i ih =>
    by_cases hm : ∃ j, j < i ∧ hs[j]? = some true
    · obtain ⟨j, hj, hh⟩ := hm
      exact ih j hj hh
    · have hin : i < n := by have := (List.getElem?_eq_some_iff.1 hi).1; omega
      refine ⟨i, hin, hi, ?_⟩
      unfold firstB
      refine @decide_eq_true _ (Classical.propDecidable _) ⟨i, whoL_at hin, hi, fun j y hj hy => ?_⟩
      obtain ⟨rfl, _⟩ := whoL_val hy
      have : ¬ j < i := fun hlt => hm ⟨j, hlt, hj⟩
      omega
/-- What the nodes 0 to k - 1, but q, owe. -/
noncomputable def owedTo (fs : List Fl) (g : Fl) (cut : Int) (q k : Nat) : List (Int × Int) := (List.range k).flatMap fun p => if p = q then [] else oweL fs g cut p
theorem owedTo_succ (fs : List Fl) (g : Fl) (cut : Int) (q k : Nat) : owedTo fs g cut q (k + 1) = owedTo fs g cut q k ++ (if k = q then [] else oweL fs g cut k) := by
  unfold owedTo
  rw [List.range_succ, List.flatMap_append, List.flatMap_cons, List.flatMap_nil, List.append_nil]
theorem owed_mem {fs : List Fl} {g : Fl} {cut : Int} {q k : Nat} {s : Int × Int} : s ∈ owedTo fs g cut q k ↔ ∃ p, p < k ∧ p ≠ q ∧ s ∈ oweL fs g cut p := by
  unfold owedTo
  rw [List.mem_flatMap]
  constructor
  · rintro ⟨p, hp, hs⟩
    split at hs
    · cases hs
    · exact ⟨p, List.mem_range.1 hp, by assumption, hs⟩
  · rintro ⟨p, hp, hne, hs⟩
    exact ⟨p, List.mem_range.2 hp, by rw [if_neg hne]; exact hs⟩
theorem owe_first {fs : List Fl} (h : Fit fs) {g : Fl} {cut : Int} {p : Nat} {s : Int × Int} (hs : s ∈ oweL fs g cut p) : firstB (whoL fs.length) (hadL fs s.1 s.2) p = true := by
  obtain ⟨pos, _, _, _, h4⟩ := ((pick_mem (knownF_inj h) _).2 s).1 hs
  simp only [Bool.and_eq_true] at h4
  exact h4.2
theorem owed_nodup {fs : List Fl} (h : Fit fs) (g : Fl) (cut : Int) (q : Nat) : ∀ k, (owedTo fs g cut q k).Nodup
  | 0 => List.nodup_nil
  | k + 1 => by
    rw [owedTo_succ]
    refine List.nodup_append.2 ⟨owed_nodup h g cut q k, ?_, fun a ha b hb => ?_⟩
    · split
      · exact List.nodup_nil
      · exact (pick_mem (knownF_inj h) _).1
    · split at hb
      · cases hb
      · rintro rfl
        obtain ⟨p, hp, _, hs⟩ := owed_mem.1 ha
        have := first_uniq (owe_first h hs) (owe_first h hb)
        omega
theorem owed_len {fs : List Fl} (h : Fit fs) {g : Fl} {cut : Int} {q : Nat} (hg : fs[q]? = some g) (hc : IsCut fs cut) : (owedTo fs g cut q fs.length).length = (lackL fs g cut).length := by
  refine ((List.perm_ext_iff_of_nodup (owed_nodup h g cut q _) (lack_nodup h g cut)).2 fun s => ?_).length_eq
  rw [owed_mem]
  constructor
  · rintro ⟨p, hp, hne, hs⟩
    exact (owe_item h (List.getElem?_eq_getElem hp) (List.mem_of_getElem? hg) hs).1
  · intro hs
    obtain ⟨pos, h1, h2, h3, h4⟩ := ((pick_mem (knownF_inj h) _).2 s).1 hs
    have hlow := hc.low
    obtain ⟨t, ht, hh⟩ := (whole_iff h).1 (hc.all pos h1 (by omega))
    have hk := (knownF_iff h _ _).1 h3
    obtain rfl := (known_one h ht hk).1 rfl
    obtain ⟨f, hf, hhf⟩ := List.any_eq_true.1 hh
    obtain ⟨i, hi⟩ := List.mem_iff_getElem?.1 hf
    obtain ⟨p, hp, hpt, hpf⟩ := first_ex (hs := hadL fs t.1 t.2) (n := fs.length) (by simp [hadL]) (i := i) (by rw [hadL_at hi, hhf])
    simp only [Bool.not_eq_true'] at h4
    refine ⟨p, hp, ?_, ((pick_mem (knownF_inj h) _).2 t).2 ⟨pos, h1, h2, h3, by simp [h4, hpf]⟩⟩
    rintro rfl
    rw [hadL_at hg, h4] at hpt
    cases hpt
end Go.Proofs.Ytcffhfcjfjfokaa
/- Messages in memory; the document's find, the law's sameData and sameDatas. -/
namespace Go.Proofs.Ytcffhfcjfjfokaa
open Go.RowKit
/-- A message: the sender, the number, the stable position, the bytes. -/
structure Dt where
  s : Int
  q : Int
  b : Int
  body : List Int
structure Dr where
  d : Dt
  B : Option Addr
  c : Nat
def eByte (n : Int) : List Value := [.int .u8 n]
def eDr (r : Dr) : List Value := [.int .i64 r.d.s, .int .i64 r.d.q, .int .i64 r.d.b, .slice r.B r.d.body.length r.c]
theorem len_eByte (x : Int) : (eByte x).length = 1 := rfl
theorem one_eByte (x : Int) : ∀ u ∈ eByte x, u.oneCell' = true := by intro u hu; simp [eByte] at hu; subst hu; rfl
theorem len_eDr (x : Dr) : (eDr x).length = 4 := rfl
theorem one_eDr (x : Dr) : ∀ u ∈ eDr x, u.oneCell' = true := by intro u hu; simp [eDr] at hu; rcases hu with rfl | rfl | rfl | rfl <;> rfl
/-- A message's bytes lie there. -/
structure BodyAt (w : World) (N : Nat) (B : Option Addr) (c : Nat) (body : List Int) : Prop where
  row : RowAt w N 1 eByte B body
  len : body.length ≤ c
  cap : c ≤ 9223372036854775807
theorem BodyAt.below {w w' : World} {N N' : Nat} {B : Option Addr} {c : Nat} {body : List Int} (h : BodyAt w N B c body) (hb : Below N' w w') (hN : N ≤ N') : BodyAt w' N B c body := ⟨h.row.below hb hN, h.len, h.cap⟩
theorem BodyAt.more {w : World} {N N' : Nat} {B : Option Addr} {c : Nat} {body : List Int} (h : BodyAt w N B c body) (hN : N ≤ N') : BodyAt w N' B c body := ⟨h.row.more hN, h.len, h.cap⟩
/-- A list of messages. -/
structure Drs (w : World) (N : Nat) (A : Option Addr) (rs : List Dr) : Prop where
  row : RowAt w N 4 eDr A rs
  each : ∀ r ∈ rs, BodyAt w N r.B r.c r.d.body
def Dts (w : World) (N : Nat) (A : Option Addr) (ds : List Dt) : Prop := ∃ rs : List Dr, rs.map Dr.d = ds ∧ Drs w N A rs
theorem Dts.below {w w' : World} {N N' : Nat} {A : Option Addr} {ds : List Dt} (h : Dts w N A ds) (hb : Below N' w w') (hN : N ≤ N') : Dts w' N A ds := by
  obtain ⟨rs, e, h1, h2⟩ := h
  exact ⟨rs, e, h1.below hb hN, fun r hr => (h2 r hr).below hb hN⟩
theorem Dts.more {w : World} {N N' : Nat} {A : Option Addr} {ds : List Dt} (h : Dts w N A ds) (hN : N ≤ N') : Dts w N' A ds := by
  obtain ⟨rs, e, h1, h2⟩ := h
  exact ⟨rs, e, h1.more hN, fun r hr => (h2 r hr).more hN⟩
theorem Dts.at_ {w : World} {N : Nat} {A : Option Addr} {ds : List Dt} (h : Dts w N A ds) {k : Nat} (hk : k < ds.length) :
    ∃ g o d B c, A = some ⟨g, o, none⟩ ∧ g < N ∧ Hid (ds[k]? = some d) ∧ w.cell? ⟨g, o + k * 4, none⟩ = some (.int .i64 d.s) ∧ w.cell? ⟨g, o + k * 4 + 1, none⟩ = some (.int .i64 d.q) ∧ w.cell? ⟨g, o + k * 4 + 2, none⟩ = some (.int .i64 d.b) ∧
      w.cell? ⟨g, o + k * 4 + 3, none⟩ = some (.slice B d.body.length c) ∧ BodyAt w N B c d.body := by
  obtain ⟨rs, rfl, h1, h2⟩ := h
  rw [List.length_map] at hk
  obtain ⟨g, o, e, hg, hc⟩ := h1 (by omega)
  have hr := List.getElem?_eq_getElem hk
  refine ⟨g, o, rs[k].d, rs[k].B, rs[k].c, e, hg, ?_, hc k _ hr 0 _ rfl, hc k _ hr 1 _ rfl, hc k _ hr 2 _ rfl, hc k _ hr 3 _ rfl, h2 _ (List.getElem_mem hk)⟩
  show (rs.map Dr.d)[k]? = _
  rw [List.getElem?_map, hr]; rfl
/-- Bytes as a string. -/
theorem run_body {w : World} {N : Nat} {B : Option Addr} {c : Nat} {body : List Int} (h : RowAt w N 1 eByte B body) : (convert 52 9 (.slice B body.length c)).run Try.prog w = .ok (.string (strOfNums body)) w := by
  by_cases h0 : 0 < body.length
  · obtain ⟨b, off, rfl, hb, hc⟩ := h h0
    exact run_convert_bytes_arg (P := Try.prog) w 52 5 Try.underlying52 Try.underlying5 b off body.length c body rfl (fun i hi => by
      have := hc i body[i] (List.getElem?_eq_getElem hi) 0 _ rfl
      simpa [List.getD, List.getElem?_eq_getElem hi] using this) 9 Try.underlying9
  · obtain rfl : body = [] := List.eq_nil_of_length_eq_zero (by omega)
    cases B with
    | none => exact run_convert_bytes_nil (P := Try.prog) w 52 5 Try.underlying52 Try.underlying5 0 c 9 Try.underlying9
    | some a =>
      rw [run_convert_bytes_string w 52 9 5 _ _ c Try.underlying52 Try.underlying5 Try.underlying9]
      exact run_bytesToString (P := Try.prog) w a 0 c [] (by simp [loadCells, loadCellsFrom])
set_option maxHeartbeats 2000000 in
theorem sameData_yes (d : Dt) (B B' : Option Addr) (c c' N : Nat) (w : World) (hN : N ≤ w.heap.size) (h : RowAt w N 1 eByte B d.body) (h' : RowAt w N 1 eByte B' d.body) :
    Calls Try.prog 58 #[.agg #[.int .i64 d.s, .int .i64 d.q, .int .i64 d.b, .slice B d.body.length c], .agg #[.int .i64 d.s, .int .i64 d.q, .int .i64 d.b, .slice B' d.body.length c']] w fun x w' => x = .returned (.bool true) ∧ Below w.heap.size w w' := by
  have hbx := below_box2 w #[.int .i64 d.s, .int .i64 d.q, .int .i64 d.b, .slice B d.body.length c] 113 #[.int .i64 d.s, .int .i64 d.q, .int .i64 d.b, .slice B' d.body.length c'] 113
  have e1 := run_body (c := c) (h.below hbx hN)
  have e2 := run_body (c := c') (h'.below hbx hN)
  replace hbx := Lib.hid hbx
  go_enter Try.func58, Try.ntmps58
  go_wp2
  go_ret
  exact ⟨rfl, hbx.out⟩
set_option maxRecDepth 100000 in
set_option maxHeartbeats 4000000 in
theorem sameDatas_yes (A B : Option Addr) (cA cB N : Nat) (ds : List Dt) (w : World) (hN : N ≤ w.heap.size) (hA : Dts w N A ds) (hB : Dts w N B ds) (hl : ds.length ≤ 9223372036854775807) :
    Calls Try.prog 22 #[.slice A ds.length cA, .slice B ds.length cB] w fun x w' => x = .returned (.bool true) ∧ Below w.heap.size w w' := by
  go_enter Try.func22, Try.ntmps22
  go_wp2
  go_loopw [5] (fun k wr => ∃ q : Nat, k = .int .i64 q ∧ q ≤ ds.length ∧ Below w.heap.size w wr) (fun k _ => ds.length - (intOf k).toNat)
  case atStart => exact ⟨0, rfl, by omega, Below.refl _ _⟩
  case round =>
    obtain ⟨q, rfl, hq, hb⟩ := hrel
    have hsz := hb.size
    by_cases hlt : q < ds.length
    · obtain ⟨g, o, d, X, c, hAe, hg, hd, c0, c1, c2, c3, hX⟩ := (hA.below hb hN).at_ hlt
      obtain ⟨g', o', d', X', c', hBe, hg', hd', k0, k1, k2, k3, hX'⟩ := (hB.below hb hN).at_ hlt
      obtain rfl : d = d' := by have := hd'.out; rw [hd.out] at this; injection this
      subst hAe hBe
      have h58 := Lib.hid (sameData_yes d X X' c c' N wr.drew (by show N ≤ wr.heap.size; omega) hX.row hX'.row)
      clear hX hX' hA hB
      go_wp2
      refine wp_region_mid 8 (by kernel_rfl) rfl (by kernel_rfl) ?_
      simp only [List.take_succ_cons, List.take_zero]
      repeat (refine WS.step (fun K hK => ?_); go_simp; refine hK.out _ ?_; clear hK K)
      refine WS.nil ?_
      intro K hK
      go_simp
      go_at_call 58
      refine h58.out.mono ?_
      rintro e w2 ⟨rfl, hbw2⟩
      go_wp2_with fail
      refine hK.out _ _ ?_
      clear hK K
      have hb2 := (Below.drew hb).trans (hbw2.mono (by show _ ≤ wr.heap.size; omega))
      simp only [List.drop_succ_cons, List.drop_zero]
      repeat (refine WS.step (fun K hK => ?_); go_simp; refine hK.out _ ?_; clear hK K)
      refine WS.nil ?_
      go_wp2
      go_roundw
      case rel => go_light; exact ⟨q + 1, by go_num, by omega, hb2⟩
      case measure => go_light; simp [intOf]; omega
    · go_wp2
      go_ret
      exact ⟨rfl, hb⟩
/-- The first message of that sender and number; -1: there is none. -/
def FindIs (ds : List Dt) (s q r : Int) : Prop := (r = -1 ∧ ∀ d ∈ ds, ¬ (d.s = s ∧ d.q = q)) ∨ (∃ (i : Nat) (d : Dt), ds[i]? = some d ∧ d.s = s ∧ d.q = q ∧ r = i ∧ upto (fun d => ¬ (d.s = s ∧ d.q = q)) ds i)
set_option maxRecDepth 100000 in
set_option maxHeartbeats 4000000 in
theorem find_any (A : Option Addr) (cA N : Nat) (ds : List Dt) (s q : Int) (w : World) (hN : N ≤ w.heap.size) (hA : Dts w N A ds) (hl : ds.length ≤ 9223372036854775807) :
    Calls Try.prog 56 #[.slice A ds.length cA, .agg #[.int .i64 s, .int .i64 q]] w fun x w' => (∃ r, x = .returned (.int .i64 r) ∧ FindIs ds s q r) ∧ Below w.heap.size w w' := by
  go_enter Try.func56, Try.ntmps56
  go_wp2
  go_loopw [5] (fun k wr => ∃ i : Nat, k = .int .i64 i ∧ i ≤ ds.length ∧ upto (fun d => ¬ (d.s = s ∧ d.q = q)) ds i ∧ Below (w.heap.size + 1) (box1 w #[.int .i64 s, .int .i64 q] 66) wr) (fun k _ => ds.length - (intOf k).toNat)
  case atStart => exact ⟨0, rfl, by omega, upto_zero _ _, Below.refl _ _⟩
  case round =>
    obtain ⟨i, rfl, hi, hup, hb⟩ := hrel
    replace hup := Lib.hid hup
    obtain ⟨hb0, hc, -, hsz⟩ := box1_facts hb
    have e0 := hc 0
    have e1 := hc 1
    simp at e0 e1
    clear hc
    by_cases hlt : i < ds.length
    · obtain ⟨g, o, d, X, c, hAe, hg, hd, c0, c1, c2, c3, hX⟩ := (hA.below hb0 hN).at_ hlt
      subst hAe
      clear hA hX
      by_cases h1 : d.s = s
      · by_cases h2 : d.q = q
        · have hF := Lib.hid (show FindIs ds s q i from .inr ⟨i, d, hd.out, h1, h2, rfl, hup.out⟩)
          have t1 : (d.s == s) = true := by simpa using h1
          have t2 : (d.q == q) = true := by simpa using h2
          clear h1 h2
          go_wp2
          go_quiet (fail)
          go_wp2
          go_ret
          exact ⟨⟨i, rfl, hF.out⟩, below_drewN hb0 _⟩
        · have hne := Lib.hid (show ¬ (d.s = s ∧ d.q = q) from fun h => h2 h.2)
          have t1 : (d.s == s) = true := by simpa using h1
          have t2 : (d.q == q) = false := by simpa using h2
          clear h1 h2
          go_wp2
          go_quiet (fail)
          go_wp2
          go_roundw
          case rel => go_light; exact ⟨i + 1, by go_num, by omega, upto_succ hup.out (fun z hz => by rw [hd.out] at hz; cases hz; exact hne.out), below_drewN hb _⟩
          case measure => go_light; simp [intOf]; omega
      · have hne := Lib.hid (show ¬ (d.s = s ∧ d.q = q) from fun h => h1 h.1)
        have t1 : (d.s == s) = false := by simpa using h1
        clear h1
        go_wp2
        go_quiet (fail)
        go_wp2
        go_roundw
        case rel => go_light; exact ⟨i + 1, by go_num, by omega, upto_succ hup.out (fun z hz => by rw [hd.out] at hz; cases hz; exact hne.out), below_drewN hb _⟩
        case measure => go_light; simp [intOf]; omega
    · have hF := Lib.hid (show FindIs ds s q (-1) from .inl ⟨rfl, upto_all hup.out (by omega)⟩)
      go_wp2
      go_ret
      exact ⟨⟨-1, rfl, hF.out⟩, hb0⟩
end Go.Proofs.Ytcffhfcjfjfokaa
/- What Rest answers, as plain functions. -/
namespace Go.Proofs.Ytcffhfcjfjfokaa
/-- The first of the first k messages with the slot's sender and number: its place. -/
def firstTo (ds : List Dt) (s : Int × Int) : Nat → Option Int
  | 0 => none
  | k + 1 => match firstTo ds s k with
    | some i => some i
    | none => match ds[k]? with
      | some d => if d.s = s.1 ∧ d.q = s.2 then some k else none
      | none => none
theorem firstTo_some {ds : List Dt} {s : Int × Int} : ∀ {k : Nat} {r : Int}, firstTo ds s k = some r → ∃ (i : Nat) (d : Dt), r = i ∧ i < k ∧ ds[i]? = some d ∧ d.s = s.1 ∧ d.q = s.2 ∧ upto (fun d => ¬ (d.s = s.1 ∧ d.q = s.2)) ds i
  | 0, r, h => by cases h
  | k + 1, r, h => by
    rw [firstTo] at h
    cases hk : firstTo ds s k with
    | some i =>
      rw [hk] at h; injection h with h; subst h
      obtain ⟨j, d, e, hj, r⟩ := firstTo_some hk
      exact ⟨j, d, e, by omega, r⟩
    | none =>
      rw [hk] at h
      dsimp only at h
      cases hd : ds[k]? with
      | none => rw [hd] at h; cases h
      | some d =>
        rw [hd] at h
        dsimp only at h
        split at h
        · rename_i hc
          injection h with h
          exact ⟨k, d, h.symm, by omega, hd, hc.1, hc.2, firstTo_none hk⟩
        · cases h
where firstTo_none {ds : List Dt} {s : Int × Int} : ∀ {k : Nat}, firstTo ds s k = none → upto (fun d => ¬ (d.s = s.1 ∧ d.q = s.2)) ds k
  | 0, _ => upto_zero _ _
  | k + 1, h => by
    rw [firstTo] at h
    cases hk : firstTo ds s k with
    | some i => rw [hk] at h; cases h
    | none =>
      rw [hk] at h
      dsimp only at h
      refine upto_succ (firstTo_none hk) fun d hd => ?_
      rw [hd] at h
      dsimp only at h
      split at h
      · cases h
      · assumption
/-- The message for a slot: the first of its sender and number. -/
def FirstD (ds : List Dt) (s : Int × Int) (d : Dt) : Prop := ∃ i : Nat, ds[i]? = some d ∧ d.s = s.1 ∧ d.q = s.2 ∧ upto (fun d => ¬ (d.s = s.1 ∧ d.q = s.2)) ds i
theorem firstD_one {ds : List Dt} {s : Int × Int} {d d' : Dt} (h : FirstD ds s d) (k : FirstD ds s d') : d = d' := by
  obtain ⟨i, a1, a2, a3, a4⟩ := h
  obtain ⟨j, b1, b2, b3, b4⟩ := k
  rcases Nat.lt_trichotomy i j with hlt | e | hgt
  · exact absurd ⟨a2, a3⟩ (b4 i d hlt a1)
  · subst e; rw [a1] at b1; injection b1
  · exact absurd ⟨b2, b3⟩ (a4 j d' hgt b1)
/-- The messages of the k positions behind done, as Rest lists them. -/
inductive RestTo (F : Int → Option (Int × Int)) (ds : List Dt) (done : Int) : Nat → List Dt → Prop
  | nil : RestTo F ds done 0 []
  | snoc {k : Nat} {l : List Dt} {s : Int × Int} {d : Dt} (h : RestTo F ds done k l) (hs : F (done + 1 + k) = some s) (hd : FirstD ds s d) : RestTo F ds done (k + 1) (l ++ [⟨done + 1 + k, s.1, s.2, d.body⟩])
theorem restTo_one {F : Int → Option (Int × Int)} {ds : List Dt} {done : Int} : ∀ {k : Nat} {l l' : List Dt}, RestTo F ds done k l → RestTo F ds done k l' → l = l'
  | 0, _, _, .nil, .nil => rfl
  | k + 1, _, _, .snoc h hs hd, .snoc h' hs' hd' => by
    rw [restTo_one h h']
    rw [hs] at hs'; injection hs' with hs'; subst hs'
    rw [firstD_one hd hd']
/-- At one of the positions the message is not at hand. -/
def RestLacks (F : Int → Option (Int × Int)) (ds : List Dt) (done : Int) (k : Nat) : Prop := ∃ (j : Nat) (s : Int × Int), j < k ∧ F (done + 1 + j) = some s ∧ ∀ d ∈ ds, ¬ (d.s = s.1 ∧ d.q = s.2)
theorem restTo_at {F : Int → Option (Int × Int)} {ds : List Dt} {done : Int} : ∀ {k : Nat} {l : List Dt}, RestTo F ds done k l → ¬ RestLacks F ds done k
  | 0, _, _ => fun ⟨j, _, hj, _⟩ => by omega
  | k + 1, _, .snoc h hs hd => fun ⟨j, s, hj, hF, hn⟩ => by
    by_cases e : j = k
    · subst e
      rw [hs] at hF; injection hF with hF; subst hF
      obtain ⟨i, a1, a2, a3, _⟩ := hd
      exact hn _ (List.mem_of_getElem? a1) ⟨a2, a3⟩
    · exact restTo_at h ⟨j, s, by omega, hF, hn⟩
/-- What Rest answers: the messages and 0, or none and the error. -/
def RestIs (done : Int) (fs : List Fl) (ds ms : List Dt) (n : Int) : Prop :=
  if 0 ≤ done ∧ done ≤ 4611686018427387904 then
    (∃ m, m ≠ 0 ∧ Listed fs m ∧ n = m ∧ ms = []) ∨
    (Listed fs 0 ∧ Fit fs ∧ done < baseOf fs ∧ n = 82 ∧ ms = []) ∨
    (Listed fs 0 ∧ Fit fs ∧ baseOf fs ≤ done ∧ ∃ (cut : Int) (F : Int → Option (Int × Int)), IsCut fs cut ∧ (∀ pos s, F pos = some s ↔ Known fs pos s) ∧
      ((n = 0 ∧ RestTo F ds done (cut - done).toNat ms) ∨ (n = 81 ∧ ms = [] ∧ RestLacks F ds done (cut - done).toNat)))
  else n = 1 ∧ ms = []
theorem rest_one {done : Int} {fs : List Fl} {ds ms ms' : List Dt} {n n' : Int} (h : RestIs done fs ds ms n) (k : RestIs done fs ds ms' n') : ms = ms' ∧ n = n' := by
  unfold RestIs at h k
  by_cases hd : 0 ≤ done ∧ done ≤ 4611686018427387904
  · rw [if_pos hd] at h k
    rcases h with ⟨m, hm, hL, rfl, rfl⟩ | ⟨hL, hf, hlt, rfl, rfl⟩ | ⟨hL, hf, hge, cut, F, hc, hF, hr⟩ <;>
      rcases k with ⟨m', hm', hL', rfl, rfl⟩ | ⟨hL', hf', hlt', rfl, rfl⟩ | ⟨hL', hf', hge', cut', F', hc', hF', hr'⟩
    · exact ⟨rfl, listed_one hL hL'⟩
    · exact absurd (listed_one hL hL') hm
    · exact absurd (listed_one hL hL') hm
    · exact absurd (listed_one hL' hL) hm'
    · exact ⟨rfl, rfl⟩
    · omega
    · exact absurd (listed_one hL' hL) hm'
    · omega
    · obtain rfl := cut_one hc hc'
      have : F = F' := funext fun pos => Option.ext fun s => by rw [hF pos s, hF' pos s]
      subst this
      rcases hr with ⟨rfl, h1⟩ | ⟨rfl, rfl, h1⟩ <;> rcases hr' with ⟨rfl, h2⟩ | ⟨rfl, rfl, h2⟩
      · exact ⟨restTo_one h1 h2, rfl⟩
      · exact absurd h2 (restTo_at h1)
      · exact absurd h1 (restTo_at h2)
      · exact ⟨rfl, rfl⟩
  · rw [if_neg hd] at h k
    exact ⟨by rw [h.2, k.2], by rw [h.1, k.1]⟩
end Go.Proofs.Ytcffhfcjfjfokaa
/- FlushAgree's plain law: contents in another order, one of them twice; what is left for who has come further. No program in sight. -/
namespace Go.Proofs.Ytcffhfcjfjfokaa
/-- Two lists with the same members. -/
def SameMem (gs fs : List Fl) : Prop := ∀ f, f ∈ gs ↔ f ∈ fs
theorem kin_iff {f g : Fl} : kinB f g = true ↔ f.e = g.e ∧ f.l = g.l ∧ f.i = g.i ∧ f.c = g.c ∧ f.have_.length = g.have_.length := by
  simp [kinB, vidEq]
  try omega
theorem fit_mem {fs gs : List Fl} (h : Fit fs) (hm : SameMem gs fs) : Fit gs := by
  refine ⟨fun f hf => h.sound f ((hm f).1 hf), fun f hf g hg => ?_, ?_⟩
  · have hgf := (hm g).1 (List.mem_of_getElem? hg)
    have hff := (hm f).1 hf
    obtain ⟨f0, hf0⟩ : ∃ f0, fs[0]? = some f0 := ⟨_, List.getElem?_eq_getElem (List.length_pos_of_mem hff)⟩
    have a := kin_iff.1 (h.kin f hff f0 hf0)
    have b := kin_iff.1 (h.kin g hgf f0 hf0)
    exact kin_iff.2 (by omega)
  · rintro ⟨i, j, f, g, hji, hf, hg, hc⟩
    obtain ⟨k, hk⟩ := List.mem_iff_getElem?.1 ((hm f).1 (List.mem_of_getElem? hf))
    obtain ⟨l, hl⟩ := List.mem_iff_getElem?.1 ((hm g).1 (List.mem_of_getElem? hg))
    by_cases e : k = l
    · subst e
      rw [hk] at hl; cases hl
      exact calm_self (h.sound _ (List.mem_of_getElem? hk)) hc
    · exact no_clash h hk hl e hc
theorem known_same {fs gs : List Fl} (hm : SameMem gs fs) {pos : Int} {s : Int × Int} : Known gs pos s ↔ Known fs pos s := by
  rw [known_mem, known_mem]
  constructor
  · rintro ⟨g, hg, r⟩; exact ⟨g, (hm g).1 hg, r⟩
  · rintro ⟨g, hg, r⟩; exact ⟨g, (hm g).2 hg, r⟩
theorem base_half {fs gs : List Fl} (hm : ∀ f, f ∈ gs → f ∈ fs) : baseOf gs ≤ baseOf fs := by
  rcases baseTo_of gs gs.length with e | ⟨f, hf, e⟩
  · rw [baseTo_all gs (Nat.le_refl _)] at e
    rw [e]; exact base_nonneg fs
  · rw [baseTo_all gs (Nat.le_refl _)] at e
    rw [e]; exact base_ge (hm f hf)
theorem base_same {fs gs : List Fl} (hm : SameMem gs fs) : baseOf gs = baseOf fs :=
  Int.le_antisymm (base_half fun f h => (hm f).1 h) (base_half fun f h => (hm f).2 h)
theorem had_same {fs gs : List Fl} (hm : SameMem gs fs) (s : Int × Int) : hadB gs s = hadB fs s := by
  rw [Bool.eq_iff_iff]
  unfold hadB
  rw [List.any_eq_true, List.any_eq_true]
  constructor
  · rintro ⟨f, hf, e⟩; exact ⟨f, (hm f).1 hf, e⟩
  · rintro ⟨f, hf, e⟩; exact ⟨f, (hm f).2 hf, e⟩
theorem whole_same {fs gs : List Fl} (h : Fit fs) (hm : SameMem gs fs) (p : Int) : wholeAtB gs (atOf gs p) = wholeAtB fs (atOf fs p) := by
  rw [Bool.eq_iff_iff, whole_iff (fit_mem h hm), whole_iff h]
  constructor
  · rintro ⟨s, hs, e⟩; exact ⟨s, (known_same hm).1 hs, by rw [← had_same hm]; exact e⟩
  · rintro ⟨s, hs, e⟩; exact ⟨s, (known_same hm).2 hs, by rw [had_same hm]; exact e⟩
theorem cut_same {fs gs : List Fl} (h : Fit fs) (hm : SameMem gs fs) {c : Int} (hc : IsCut gs c) : IsCut fs c := by
  obtain ⟨a, b, d⟩ := hc
  rw [base_same hm] at a b
  exact ⟨a, fun p h1 h2 => by rw [← whole_same h hm]; exact b p h1 h2, by rw [← whole_same h hm]; exact d⟩
/-- Who has come further has just that much less left. -/
theorem restTo_drop {F : Int → Option (Int × Int)} {ds : List Dt} {near : Int} {m : Nat} : ∀ {k : Nat} {l : List Dt}, RestTo F ds near (m + k) l → RestTo F ds (near + m) k (l.drop m)
  | 0, l, h => by
    have hl : l.length = m := by simpa using restTo_length h
    rw [List.drop_of_length_le (by omega)]
    exact .nil
  | k + 1, l0, h0 => by
    have h1 : RestTo F ds near ((m + k) + 1) l0 := h0
    generalize hmk : m + k = n at h1
    cases h1 with
    | snoc h hs hd =>
      rename_i l s d
      subst hmk
      have ih := restTo_drop h
      have hl := restTo_length h
      have e : near + 1 + ((m + k : Nat) : Int) = near + m + 1 + k := by omega
      rw [List.drop_append_of_le_length (by omega), e]
      rw [e] at hs
      exact RestTo.snoc ih hs hd
where restTo_length {F : Int → Option (Int × Int)} {ds : List Dt} {done : Int} : ∀ {k : Nat} {l : List Dt}, RestTo F ds done k l → l.length = k
  | 0, _, .nil => rfl
  | k + 1, _, .snoc h hs hd => by rw [List.length_append, restTo_length h]; rfl
end Go.Proofs.Ytcffhfcjfjfokaa
/- A list with two places swapped. -/
namespace Go.Proofs.Ytcffhfcjfjfokaa
theorem mem_swap {α : Type} {l : List α} {a b : Nat} {x y : α} (hx : l[a]? = some x) (hy : l[b]? = some y) (f : α) : f ∈ (l.set a y).set b x ↔ f ∈ l := by
  have ha := (List.getElem?_eq_some_iff.1 hx).1
  have hb := (List.getElem?_eq_some_iff.1 hy).1
  constructor
  · intro h
    obtain ⟨k, hk⟩ := List.mem_iff_getElem?.1 h
    by_cases e : k = b
    · subst e
      rw [List.getElem?_set_self (by simpa using hb)] at hk
      injection hk with hk; subst hk
      exact List.mem_of_getElem? hx
    · rw [List.getElem?_set_ne (fun e2 => e e2.symm)] at hk
      by_cases e2 : k = a
      · subst e2
        rw [List.getElem?_set_self ha] at hk
        injection hk with hk; subst hk
        exact List.mem_of_getElem? hy
      · rw [List.getElem?_set_ne (fun e3 => e2 e3.symm)] at hk
        exact List.mem_of_getElem? hk
  · intro h
    obtain ⟨k, hk⟩ := List.mem_iff_getElem?.1 h
    rw [List.mem_iff_getElem?]
    by_cases e : k = a
    · subst e
      refine ⟨b, ?_⟩
      rw [List.getElem?_set_self (by simpa using hb), ← hk, hx]
    · by_cases e2 : k = b
      · subst e2
        refine ⟨a, ?_⟩
        rw [List.getElem?_set_ne e, List.getElem?_set_self ha, ← hk, hy]
      · refine ⟨k, ?_⟩
        rw [List.getElem?_set_ne (fun e3 => e2 e3.symm), List.getElem?_set_ne (fun e3 => e e3.symm), hk]
end Go.Proofs.Ytcffhfcjfjfokaa
/- append onto an empty slice, at a step of a region that draws its order: a row of its own. -/
namespace Go.Proofs.Ytcffhfcjfjfokaa
open Go.RowKit
/-- A row in blocks from lo on. -/
def FRow {α : Type} (w : World) (lo sz : Nat) (enc : α → List Value) (A : Option Addr) (l : List α) : Prop :=
  0 < l.length → ∃ b off, A = some ⟨b, off, none⟩ ∧ lo ≤ b ∧ b < w.heap.size ∧ ∀ k x, l[k]? = some x → ∀ j u, (enc x)[j]? = some u → w.cell? ⟨b, off + k * sz + j, none⟩ = some u
section
variable {α : Type} {w w' : World} {lo sz : Nat} {enc : α → List Value} {A : Option Addr} {l : List α}
theorem FRow.row (h : FRow w lo sz enc A l) : RowAt w w.heap.size sz enc A l := fun h0 => by
  obtain ⟨b, off, e, _, hb, hc⟩ := h h0
  exact ⟨b, off, e, hb, hc⟩
theorem FRow.below (h : FRow w lo sz enc A l) (hb : Below w.heap.size w w') : FRow w' lo sz enc A l := fun h0 => by
  obtain ⟨b, off, e, h1, h2, hc⟩ := h h0
  exact ⟨b, off, e, h1, Nat.lt_of_lt_of_le h2 hb.size, fun k x hk j u hu => (hb.cell (p := ⟨b, _, none⟩) h2).trans (hc k x hk j u hu)⟩
theorem FRow.setCell (h : FRow w lo sz enc A l) {p : Addr} (hp : p.block < lo) (v : Value) : FRow (w.setCell p v) lo sz enc A l := fun h0 => by
  obtain ⟨b, off, e, h1, h2, hc⟩ := h h0
  refine ⟨b, off, e, h1, by rw [World.size_setCell]; exact h2, fun k x hk j u hu => ?_⟩
  have hne : ∀ o, p ≠ ⟨b, o, none⟩ := fun o e2 => by rw [e2] at hp; exact absurd h1 (Nat.not_le.2 hp)
  rw [World.cell?_setCell_other _ _ _ _ (hne _)]
  exact hc k x hk j u hu
theorem FRow.lower {lo' : Nat} (h : FRow w lo sz enc A l) (hl : lo' ≤ lo) : FRow w lo' sz enc A l := fun h0 => by
  obtain ⟨b, off, e, h1, h2, hc⟩ := h h0
  exact ⟨b, off, e, by omega, h2, hc⟩
theorem FRow.of_owns {base c : Nat} {e : TypeId} (h : Owns w base e sz enc A c l) (hsz : ∀ x, (enc x).length = sz) : FRow w base sz enc A l := fun h0 => by
  obtain ⟨b, off, e, hb, hc⟩ := h.row hsz h0
  exact ⟨b, off, e, (h.lo b (by rw [e]; rfl)).1, hb, hc⟩
end
section
variable {P : Program}
theorem run_append_zero (w : World) (t ty e : TypeId) (i : TypeInfo) (ht : P.underlying t = some (.slice e)) (hi : P.info? e = some i) (g : Addr) (B : Option Addr) (m c : Nat) (hm : 0 < m) (hb : m * i.bytes ≤ 140737488355328) :
    (Builtin.append_ #[t, t] ty #[.slice (some g) 0 0, .slice B m c]).run P w = (Builtin.append_ #[t, t] ty #[.slice none 0 0, .slice B m c]).run P w := by
  have h1 : ¬ m ≤ 0 := by omega
  have h2 := growslice_fits (need := m) (old := 0) (bytes := i.bytes) hm hb
  have h3 : ¬ m = 0 := by omega
  have h4 : ¬ 281474976710656 < Builtin.nextslicecap m 0 * i.bytes := by omega
  simp [Builtin.append_, run_underlying ht, sizeOf, typeInfo, hi, Builtin.lenOf, Builtin.firstCells, loadCells, loadCellsFrom, h1, h3, h4]
theorem run_append_none (w : World) (t ty e : TypeId) (i : TypeInfo) (ht : P.underlying t = some (.slice e)) (hi : P.info? e = some i) (A B : Option Addr) (c : Nat) :
    (Builtin.append_ #[t, t] ty #[.slice A 0 0, .slice B 0 c]).run P w = .ok (.slice A 0 0) w := by
  cases A <;> cases B <;> simp [Builtin.append_, run_underlying ht, sizeOf, typeInfo, hi, Builtin.lenOf, Builtin.firstCells, loadCells, loadCellsFrom, storeCells]
/-- append onto an empty slice literal, at a step of a region that draws its order: a row of its own; no block that was there has turned. -/
theorem step_append_fresh {α : Type} {ops : Array Oper} {o : Oper} {a : Act} {w : World} {K : Act → World → Prop} {Q : Exit → Act → World → Prop} (hgd : o.guard = none) (s x : Operand) (t : TypeId)
    (ho : o.op = .call { callee := .builtin .append, args := #[s, x], argTypes := #[t, t] })
    (e : TypeId) (sz bytes : Nat) (z : Value) (ht : P.underlying t = some (.slice e)) (hinfo : (P.info? e).map (fun i => (i.zero, i.size, i.bytes)) = some (some z, sz, bytes))
    (hzs : z.cells.size = sz) (hsz : 0 < sz) (enc : α → List Value) (henc : ∀ x, (enc x).length = sz) (hone : ∀ x, ∀ u ∈ enc x, u.oneCell' = true)
    (A B : Option Addr) (cB N m : Nat) (l : List α) (hs : a.eval s = .slice A 0 0) (hx : a.eval x = .slice B m cB) (hm : l.length = m) (hr : RowAt w N sz enc B l) (hbytes : m * bytes ≤ 140737488351232) (h63 : m ≤ 9223372036854775807)
    (h : ∀ A' c' w', FRow w' w.heap.size sz enc A' l → m ≤ c' → c' ≤ 9223372036854775807 → Below w.heap.size w w' → K (a.put o.dst (.slice A' m c')) w') :
    if Region.wanted o (yielded ops a.tmps) = true then o.wp P a w K Q else K (a.put o.dst undef) w := by
  subst hm
  obtain ⟨i, hi, hz, hsize, hby⟩ := info_parts hinfo
  have hw : Region.wanted o (yielded ops a.tmps) = true := by simp [Region.wanted, hgd]
  rw [if_pos hw]
  have key : ∃ A' c' w', (Builtin.append_ #[t, t] o.type #[.slice A 0 0, .slice B l.length cB]).run P w = .ok (.slice A' l.length c') w' ∧ FRow w' w.heap.size sz enc A' l ∧ l.length ≤ c' ∧ c' ≤ 9223372036854775807 ∧ Below w.heap.size w w' := by
    by_cases h0 : 0 < l.length
    · obtain ⟨b, off, rfl, hb, hc⟩ := hr h0
      obtain ⟨v', w', h1, h2, h3, _, h5⟩ := run_append_own_at (P := P) w w.heap.size t o.type e i z sz bytes ht hi hz hsize hby hzs hsz (.slice none 0 0) 0 _ (owns_nil (α := α) w w.heap.size e sz enc) ⟨b, off, none⟩ l.length cB (l.flatMap enc)
        (length_flat henc l) (fun j u hu => by
          obtain ⟨k, r, x, hk, hr', rfl⟩ := flatMap_of henc l j u hu
          have := hc k x hk r u hr'
          by_cases hz0 : k * sz + r = 0
          · rw [hz0]; simp only [Addr.add, if_true]
            have e0 : off + k * sz + r = off := by omega
            rw [e0] at this; exact this
          · simp only [Addr.add, if_neg hz0]
            rw [← Nat.add_assoc]; exact this)
        (fun u hu => by obtain ⟨x, _, hux⟩ := List.mem_flatMap.1 hu; exact hone x u hux) (by simp only [maxLen]; omega) (by rw [Nat.zero_add]; omega) (Nat.le_refl _)
      rw [Nat.zero_add, List.flatMap_nil, List.nil_append] at h2
      obtain ⟨g, cap, rfl, hg1, hg2⟩ := World.ownsRow.form h2 h0
      have hO : Owns w' w.heap.size e sz enc (some ⟨g, 0, none⟩) cap l := h2
      refine ⟨some ⟨g, 0, none⟩, cap, w', ?_, FRow.of_owns hO henc, hO.len.1, hO.len.2, (Below.refl w.heap.size w).grown h3 (Nat.le_refl _) (by intro k hk; cases hk)⟩
      cases A with
      | none => exact h1
      | some ga => rw [run_append_zero w t o.type e i ht hi ga _ _ _ h0 (by rw [hby]; omega)]; exact h1
    · have hl : l = [] := List.eq_nil_of_length_eq_zero (by omega)
      subst hl
      exact ⟨A, 0, w, run_append_none w t o.type e i ht hi A B cB, fun h => absurd h (by simp), by simp, by omega, Below.refl _ _⟩
  obtain ⟨A', c', w', hrun, h2, h3, h4, h5⟩ := key
  unfold Oper.wp execOp
  simp only [ho, resolve, invoke, builtin, Sem.run_bind, Sem.run_pure, Result.andThen_ok, List.map_toArray, List.map_cons, List.map_nil, hs, hx, hrun]
  exact h A' c' w' h2 h3 h4 h5
end
end Go.Proofs.Ytcffhfcjfjfokaa
/- The law's one: a content of its own. -/
namespace Go.Proofs.Ytcffhfcjfjfokaa
open Go.RowKit
/-- What a cell holds. -/
def celOf (W : World) (a : Addr) : Value := (W.cell? a).getD undef
theorem celOf_some {W : World} {a : Addr} (h : (W.cell? a).isSome = true) : W.cell? a = some (celOf W a) := by
  unfold celOf
  obtain ⟨u, hu⟩ := Option.isSome_iff_exists.1 h
  rw [hu]; rfl
/-- The world stands as the call found it, with its two boxes behind. -/
structure OneT (w : World) (F : Array Value) (W : World) : Prop where
  bel : Below (w.heap.size + 1) (box1 w F 39) W
  there : ∀ j, j < 7 → (W.cell? ⟨w.heap.size + 1, j, none⟩).isSome = true ∧ W.frozen? ⟨w.heap.size + 1, j, none⟩ = false
  size : w.heap.size + 2 ≤ W.heap.size
theorem OneT.drew {w W : World} {F : Array Value} (h : OneT w F W) : OneT w F W.drew := ⟨Below.drew h.bel, h.there, h.size⟩
theorem OneT.below {w W W' : World} {F : Array Value} (h : OneT w F W) (hb : Below W.heap.size W W') : OneT w F W' := by
  have hs := h.size
  refine ⟨h.bel.trans (hb.mono (by omega)), fun j hj => ?_, Nat.le_trans hs hb.size⟩
  rw [hb.cell (p := ⟨w.heap.size + 1, j, none⟩) (by show w.heap.size + 1 < _; omega), hb.frozen (p := ⟨w.heap.size + 1, j, none⟩) (by show w.heap.size + 1 < _; omega)]
  exact h.there j hj
theorem OneT.alloc {w W : World} {F : Array Value} (h : OneT w F W) (o : Obj) : OneT w F (W.alloc o) := h.below ((Below.refl _ _).alloc (Nat.le_refl _) _)
theorem OneT.undrew {w W : World} {F : Array Value} (h : OneT w F W.drew) : OneT w F W := ⟨⟨h.bel.os, h.bel.tape, h.bel.output, h.bel.size, h.bel.block⟩, h.there, h.size⟩
theorem OneT.allocD {w W : World} {F : Array Value} (h : OneT w F W.drew) (o : Obj) : OneT w F (W.alloc o).drew := (h.undrew.alloc o).drew
theorem OneT.set {w W : World} {F : Array Value} (h : OneT w F W) (k : Nat) (v : Value) : OneT w F (W.setCell ⟨w.heap.size + 1, k, none⟩ v) := by
  refine ⟨h.bel.setCell (by show w.heap.size + 1 ≤ w.heap.size + 1; omega) _, fun j hj => ?_, by rw [World.size_setCell]; exact h.size⟩
  rw [World.frozen?_setCell]
  refine ⟨?_, (h.there j hj).2⟩
  obtain ⟨u, hu⟩ := Option.isSome_iff_exists.1 (h.there j hj).1
  obtain ⟨v', hv'⟩ := RowKit.cell?_setCell_some (p := ⟨w.heap.size + 1, k, none⟩) (x := v) hu
  rw [hv']; rfl
theorem OneT.set_true {w W : World} {F : Array Value} (k : Nat) (v : Value) (h : OneT w F W) : OneT w F (W.setCell ⟨w.heap.size + 1, k, none⟩ v) = True := eq_true (h.set k v)
theorem OneT.set7 {w W : World} {F : Array Value} (h : OneT w F W) (v0 v1 v2 v3 v4 v5 v6 : Value) : OneT w F ((((((((W.setCell ⟨w.heap.size + 1, 0, none⟩ v0).setCell ⟨w.heap.size + 1, 1, none⟩ v1).setCell ⟨w.heap.size + 1, 2, none⟩ v2).setCell ⟨w.heap.size + 1, 3, none⟩ v3).setCell ⟨w.heap.size + 1, 4, none⟩ v4).setCell ⟨w.heap.size + 1, 5, none⟩ v5).setCell ⟨w.heap.size + 1, 6, none⟩ v6)) :=
  ((((((h.set 0 v0).set 1 v1).set 2 v2).set 3 v3).set 4 v4).set 5 v5).set 6 v6
theorem OneT.read {w W : World} {F : Array Value} (h : OneT w F W) (v0 v1 v2 v3 v4 v5 v6 : Value) :
    ((((((((W.setCell ⟨w.heap.size + 1, 0, none⟩ v0).setCell ⟨w.heap.size + 1, 1, none⟩ v1).setCell ⟨w.heap.size + 1, 2, none⟩ v2).setCell ⟨w.heap.size + 1, 3, none⟩ v3).setCell ⟨w.heap.size + 1, 4, none⟩ v4).setCell ⟨w.heap.size + 1, 5, none⟩ v5).setCell ⟨w.heap.size + 1, 6, none⟩ v6)).cell? ⟨w.heap.size + 1, 0, none⟩ = some v0 ∧ ((((((((W.setCell ⟨w.heap.size + 1, 0, none⟩ v0).setCell ⟨w.heap.size + 1, 1, none⟩ v1).setCell ⟨w.heap.size + 1, 2, none⟩ v2).setCell ⟨w.heap.size + 1, 3, none⟩ v3).setCell ⟨w.heap.size + 1, 4, none⟩ v4).setCell ⟨w.heap.size + 1, 5, none⟩ v5).setCell ⟨w.heap.size + 1, 6, none⟩ v6)).cell? ⟨w.heap.size + 1, 1, none⟩ = some v1 ∧ ((((((((W.setCell ⟨w.heap.size + 1, 0, none⟩ v0).setCell ⟨w.heap.size + 1, 1, none⟩ v1).setCell ⟨w.heap.size + 1, 2, none⟩ v2).setCell ⟨w.heap.size + 1, 3, none⟩ v3).setCell ⟨w.heap.size + 1, 4, none⟩ v4).setCell ⟨w.heap.size + 1, 5, none⟩ v5).setCell ⟨w.heap.size + 1, 6, none⟩ v6)).cell? ⟨w.heap.size + 1, 2, none⟩ = some v2 ∧ ((((((((W.setCell ⟨w.heap.size + 1, 0, none⟩ v0).setCell ⟨w.heap.size + 1, 1, none⟩ v1).setCell ⟨w.heap.size + 1, 2, none⟩ v2).setCell ⟨w.heap.size + 1, 3, none⟩ v3).setCell ⟨w.heap.size + 1, 4, none⟩ v4).setCell ⟨w.heap.size + 1, 5, none⟩ v5).setCell ⟨w.heap.size + 1, 6, none⟩ v6)).cell? ⟨w.heap.size + 1, 3, none⟩ = some v3 ∧ ((((((((W.setCell ⟨w.heap.size + 1, 0, none⟩ v0).setCell ⟨w.heap.size + 1, 1, none⟩ v1).setCell ⟨w.heap.size + 1, 2, none⟩ v2).setCell ⟨w.heap.size + 1, 3, none⟩ v3).setCell ⟨w.heap.size + 1, 4, none⟩ v4).setCell ⟨w.heap.size + 1, 5, none⟩ v5).setCell ⟨w.heap.size + 1, 6, none⟩ v6)).cell? ⟨w.heap.size + 1, 4, none⟩ = some v4 ∧ ((((((((W.setCell ⟨w.heap.size + 1, 0, none⟩ v0).setCell ⟨w.heap.size + 1, 1, none⟩ v1).setCell ⟨w.heap.size + 1, 2, none⟩ v2).setCell ⟨w.heap.size + 1, 3, none⟩ v3).setCell ⟨w.heap.size + 1, 4, none⟩ v4).setCell ⟨w.heap.size + 1, 5, none⟩ v5).setCell ⟨w.heap.size + 1, 6, none⟩ v6)).cell? ⟨w.heap.size + 1, 5, none⟩ = some v5 ∧ ((((((((W.setCell ⟨w.heap.size + 1, 0, none⟩ v0).setCell ⟨w.heap.size + 1, 1, none⟩ v1).setCell ⟨w.heap.size + 1, 2, none⟩ v2).setCell ⟨w.heap.size + 1, 3, none⟩ v3).setCell ⟨w.heap.size + 1, 4, none⟩ v4).setCell ⟨w.heap.size + 1, 5, none⟩ v5).setCell ⟨w.heap.size + 1, 6, none⟩ v6)).cell? ⟨w.heap.size + 1, 6, none⟩ = some v6 := by
  have d0 := celOf_some (h.there 0 (by omega)).1
  have d1 := celOf_some (h.there 1 (by omega)).1
  have d2 := celOf_some (h.there 2 (by omega)).1
  have d3 := celOf_some (h.there 3 (by omega)).1
  have d4 := celOf_some (h.there 4 (by omega)).1
  have d5 := celOf_some (h.there 5 (by omega)).1
  have d6 := celOf_some (h.there 6 (by omega)).1
  refine ⟨?_, ?_, ?_, ?_, ?_, ?_, ?_⟩ <;> simp [go_sem, d0, d1, d2, d3, d4, d5, d6]
/-- What one answers: the same content, in lists of its own. -/
def OnePost (f : Fl) (w : World) (x : Ending) (w' : World) : Prop := (∃ X cX Y cY, x = .returned (.agg (flc f.e f.l f.i f.c f.base X f.slots.length cX Y f.have_.length cY)) ∧ FlRows w' w'.heap.size f X cX Y cY ∧ FRow w' w.heap.size 2 eSlot X f.slots ∧ FRow w' w.heap.size 1 eInt Y f.have_) ∧ Below w.heap.size w w'
abbrev onez : Array Value := #[.int .i64 0, .int .i64 0, .int .i64 0, .int .i64 0, .int .i64 0, .slice none 0 0, .slice none 0 0]
set_option maxRecDepth 100000 in
set_option maxHeartbeats 4000000 in
theorem one_any (f : Fl) (A B : Option Addr) (cA cB N : Nat) (w : World) (hN : N ≤ w.heap.size) (hr : FlRows w N f A cA B cB) (hbS : f.slots.length * 16 ≤ 140737488351232) (hbH : f.have_.length * 8 ≤ 140737488351232) :
    Calls Try.prog 38 #[.agg (flc f.e f.l f.i f.c f.base A f.slots.length cA B f.have_.length cB)] w (OnePost f w) := by
  have h0 : OneT w (flc f.e f.l f.i f.c f.base A f.slots.length cA B f.have_.length cB) ((box1 w (flc f.e f.l f.i f.c f.base A f.slots.length cA B f.have_.length cB) 39).alloc (.cells onez 39)) := ⟨(Below.refl _ _).alloc (by simp) _, fun j hj => by
    refine ⟨?_, World.frozen?_alloc_at _ _ _ _ (by simp)⟩
    rw [World.cell?_alloc_at _ _ _ _ (by simp)]
    match j, hj with
    | 0, _ | 1, _ | 2, _ | 3, _ | 4, _ | 5, _ | 6, _ => rfl, by simp⟩
  have hall : ∀ W : World, OneT w (flc f.e f.l f.i f.c f.base A f.slots.length cA B f.have_.length cB) W → (OneT w (flc f.e f.l f.i f.c f.base A f.slots.length cA B f.have_.length cB) W ∧ W.cell? ⟨w.heap.size, 0, none⟩ = some (.int .i64 f.e) ∧ W.cell? ⟨w.heap.size, 1, none⟩ = some (.int .i64 f.l) ∧ W.cell? ⟨w.heap.size, 2, none⟩ = some (.int .i64 f.i) ∧ W.cell? ⟨w.heap.size, 3, none⟩ = some (.int .i64 f.c) ∧ W.cell? ⟨w.heap.size, 4, none⟩ = some (.int .i64 f.base) ∧ W.cell? ⟨w.heap.size, 5, none⟩ = some (.slice A f.slots.length cA) ∧ W.cell? ⟨w.heap.size, 6, none⟩ = some (.slice B f.have_.length cB) ∧ W.cell? ⟨w.heap.size + 1, 0, none⟩ = some (celOf W ⟨w.heap.size + 1, 0, none⟩) ∧ W.cell? ⟨w.heap.size + 1, 1, none⟩ = some (celOf W ⟨w.heap.size + 1, 1, none⟩) ∧ W.cell? ⟨w.heap.size + 1, 2, none⟩ = some (celOf W ⟨w.heap.size + 1, 2, none⟩) ∧ W.cell? ⟨w.heap.size + 1, 3, none⟩ = some (celOf W ⟨w.heap.size + 1, 3, none⟩) ∧ W.cell? ⟨w.heap.size + 1, 4, none⟩ = some (celOf W ⟨w.heap.size + 1, 4, none⟩) ∧ W.cell? ⟨w.heap.size + 1, 5, none⟩ = some (celOf W ⟨w.heap.size + 1, 5, none⟩) ∧ W.cell? ⟨w.heap.size + 1, 6, none⟩ = some (celOf W ⟨w.heap.size + 1, 6, none⟩) ∧ W.frozen? ⟨w.heap.size + 1, 0, none⟩ = false ∧ W.frozen? ⟨w.heap.size + 1, 1, none⟩ = false ∧ W.frozen? ⟨w.heap.size + 1, 2, none⟩ = false ∧ W.frozen? ⟨w.heap.size + 1, 3, none⟩ = false ∧ W.frozen? ⟨w.heap.size + 1, 4, none⟩ = false ∧ W.frozen? ⟨w.heap.size + 1, 5, none⟩ = false ∧ W.frozen? ⟨w.heap.size + 1, 6, none⟩ = false) := fun W h => by
    obtain ⟨-, hc, -, -⟩ := box1_facts h.bel
    exact ⟨h, hc 0, hc 1, hc 2, hc 3, hc 4, hc 5, hc 6, celOf_some (h.there 0 (by omega)).1, celOf_some (h.there 1 (by omega)).1, celOf_some (h.there 2 (by omega)).1, celOf_some (h.there 3 (by omega)).1, celOf_some (h.there 4 (by omega)).1, celOf_some (h.there 5 (by omega)).1, celOf_some (h.there 6 (by omega)).1,
      (h.there 0 (by omega)).2, (h.there 1 (by omega)).2, (h.there 2 (by omega)).2, (h.there 3 (by omega)).2, (h.there 4 (by omega)).2, (h.there 5 (by omega)).2, (h.there 6 (by omega)).2⟩
  have hS : ∀ W : World, OneT w (flc f.e f.l f.i f.c f.base A f.slots.length cA B f.have_.length cB) W → RowAt W N 2 eSlot A f.slots := fun W h => hr.slots.below (box1_facts h.bel).1 hN
  have hH : ∀ W : World, OneT w (flc f.e f.l f.i f.c f.base A f.slots.length cA B f.have_.length cB) W → RowAt W N 1 eInt B f.have_ := fun W h => hr.have_.below (box1_facts h.bel).1 hN
  obtain ⟨-, -, hlS, hcS, hlH, hcH⟩ := hr
  replace hall := Lib.hid hall
  replace hS := Lib.hid hS
  replace hH := Lib.hid hH
  have h0d := h0.drew
  go_enter Try.func38, Try.ntmps38
  go_wp2_with fail
  go_region_held3 (fun W => OneT w (flc f.e f.l f.i f.c f.base A f.slots.length cA B f.have_.length cB) W ∧ W.cell? ⟨w.heap.size, 0, none⟩ = some (.int .i64 f.e) ∧ W.cell? ⟨w.heap.size, 1, none⟩ = some (.int .i64 f.l) ∧ W.cell? ⟨w.heap.size, 2, none⟩ = some (.int .i64 f.i) ∧ W.cell? ⟨w.heap.size, 3, none⟩ = some (.int .i64 f.c) ∧ W.cell? ⟨w.heap.size, 4, none⟩ = some (.int .i64 f.base) ∧ W.cell? ⟨w.heap.size, 5, none⟩ = some (.slice A f.slots.length cA) ∧ W.cell? ⟨w.heap.size, 6, none⟩ = some (.slice B f.have_.length cB) ∧ W.cell? ⟨w.heap.size + 1, 0, none⟩ = some (celOf W ⟨w.heap.size + 1, 0, none⟩) ∧ W.cell? ⟨w.heap.size + 1, 1, none⟩ = some (celOf W ⟨w.heap.size + 1, 1, none⟩) ∧ W.cell? ⟨w.heap.size + 1, 2, none⟩ = some (celOf W ⟨w.heap.size + 1, 2, none⟩) ∧ W.cell? ⟨w.heap.size + 1, 3, none⟩ = some (celOf W ⟨w.heap.size + 1, 3, none⟩) ∧ W.cell? ⟨w.heap.size + 1, 4, none⟩ = some (celOf W ⟨w.heap.size + 1, 4, none⟩) ∧ W.cell? ⟨w.heap.size + 1, 5, none⟩ = some (celOf W ⟨w.heap.size + 1, 5, none⟩) ∧ W.cell? ⟨w.heap.size + 1, 6, none⟩ = some (celOf W ⟨w.heap.size + 1, 6, none⟩) ∧ W.frozen? ⟨w.heap.size + 1, 0, none⟩ = false ∧ W.frozen? ⟨w.heap.size + 1, 1, none⟩ = false ∧ W.frozen? ⟨w.heap.size + 1, 2, none⟩ = false ∧ W.frozen? ⟨w.heap.size + 1, 3, none⟩ = false ∧ W.frozen? ⟨w.heap.size + 1, 4, none⟩ = false ∧ W.frozen? ⟨w.heap.size + 1, 5, none⟩ = false ∧ W.frozen? ⟨w.heap.size + 1, 6, none⟩ = false)
    ((refine hall.out _ ?_; first | (have hO := (‹OneT w _ _ ∧ _›).1; simp (config := { maxDischargeDepth := 20 }) only [OneT.set_true, hO]; done) | with_reducible exact h0d | (with_reducible refine OneT.alloc ?_ _; exact (‹OneT w _ _ ∧ _›).1) | (with_reducible refine OneT.allocD ?_ _; exact (‹OneT w _ _ ∧ _›).1) | (with_reducible refine OneT.below ?_ hb1; exact (‹OneT w _ _ ∧ _›).1) | (with_reducible refine OneT.below ?_ hb2; exact (‹OneT w _ _ ∧ _›).1) | (with_reducible refine OneT.set7 ?_ _ _ _ _ _ _ _; exact (‹OneT w _ _ ∧ _›).1)))
    (first
      | (refine step_append_fresh rfl (.tmp 7) (.tmp 9) 36 rfl 66 2 16 _ Try.underlying36 info66 rfl (by decide) eSlot len_eSlot one_eSlot _ A cA N f.slots.length f.slots rfl rfl rfl (hS.out _ (‹OneT w _ _ ∧ _›).1) (by omega) (by omega) ?_; intro A1 c1 w1 hr1 hl1 hm1 hb1; replace hr1 := Lib.hid hr1)
      | (refine step_append_fresh rfl (.tmp 11) (.tmp 13) 37 rfl 3 1 8 _ Try.underlying37 info3 rfl (by decide) eInt len_eInt one_eInt _ B cB N f.have_.length f.have_ rfl rfl rfl (hH.out _ (‹OneT w _ _ ∧ _›).1) (by omega) (by omega) ?_; intro A2 c2 w2 hr2 hl2 hm2 hb2; replace hr2 := Lib.hid hr2))
  all_goals clear hall hS hH
  all_goals (first
    | (have hAll : OneT w (flc f.e f.l f.i f.c f.base A f.slots.length cA B f.have_.length cB) w2 ∧ FRow w2 (w.heap.size + 2) 2 eSlot A1 f.slots ∧ FRow w2 (w.heap.size + 2) 1 eInt A2 f.have_ := ⟨(((h0.alloc _).drew.below hb1).alloc _).below hb2, FRow.lower ((hr1.out.below ((Below.refl _ _).alloc (Nat.le_refl _) _)).below hb2) (by have h1 := hb1.size; have h2 := hb2.size; simp at h1 h2 ⊢; try omega), FRow.lower (hr2.out) (by have h1 := hb1.size; have h2 := hb2.size; simp at h1 h2 ⊢; try omega)⟩; obtain ⟨hO, hR1, hR2⟩ := hAll)
    | (have hAll : OneT w (flc f.e f.l f.i f.c f.base A f.slots.length cA B f.have_.length cB) w2 ∧ FRow w2 (w.heap.size + 2) 2 eSlot A1 f.slots ∧ FRow w2 (w.heap.size + 2) 1 eInt A2 f.have_ := ⟨((((h0.alloc _).alloc _).drew).below hb1).below hb2, FRow.lower (hr1.out.below hb2) (by have h1 := hb1.size; have h2 := hb2.size; simp at h1 h2 ⊢; try omega), FRow.lower (hr2.out) (by have h1 := hb1.size; have h2 := hb2.size; simp at h1 h2 ⊢; try omega)⟩; obtain ⟨hO, hR1, hR2⟩ := hAll)
    | (have hAll : OneT w (flc f.e f.l f.i f.c f.base A f.slots.length cA B f.have_.length cB) w1 ∧ FRow w1 (w.heap.size + 2) 2 eSlot A1 f.slots ∧ FRow w1 (w.heap.size + 2) 1 eInt A2 f.have_ := ⟨((((h0.alloc _).alloc _).drew).below hb2).below hb1, FRow.lower (hr1.out) (by have h1 := hb1.size; have h2 := hb2.size; simp at h1 h2 ⊢; try omega), FRow.lower (hr2.out.below hb1) (by have h1 := hb1.size; have h2 := hb2.size; simp at h1 h2 ⊢; try omega)⟩; obtain ⟨hO, hR1, hR2⟩ := hAll)
    | (have hAll : OneT w (flc f.e f.l f.i f.c f.base A f.slots.length cA B f.have_.length cB) w1 ∧ FRow w1 (w.heap.size + 2) 2 eSlot A1 f.slots ∧ FRow w1 (w.heap.size + 2) 1 eInt A2 f.have_ := ⟨(((h0.alloc _).drew.below hb2).alloc _).below hb1, FRow.lower (hr1.out) (by have h1 := hb1.size; have h2 := hb2.size; simp at h1 h2 ⊢; try omega), FRow.lower ((hr2.out.below ((Below.refl _ _).alloc (Nat.le_refl _) _)).below hb1) (by have h1 := hb1.size; have h2 := hb2.size; simp at h1 h2 ⊢; try omega)⟩; obtain ⟨hO, hR1, hR2⟩ := hAll))
  all_goals
    obtain ⟨r0, r1, r2, r3, r4, r5, r6⟩ := hO.read (.int .i64 f.e) (.int .i64 f.l) (.int .i64 f.i) (.int .i64 f.c) (.int .i64 f.base) (.slice A1 f.slots.length c1) (.slice A2 f.have_.length c2)
    have hO7 := hO.set7 (.int .i64 f.e) (.int .i64 f.l) (.int .i64 f.i) (.int .i64 f.c) (.int .i64 f.base) (.slice A1 f.slots.length c1) (.slice A2 f.have_.length c2)
    have hF1 := (((((((hR1.setCell (p := ⟨w.heap.size + 1, 0, none⟩) (Nat.lt_succ_self _) (.int .i64 f.e)).setCell (p := ⟨w.heap.size + 1, 1, none⟩) (Nat.lt_succ_self _) (.int .i64 f.l)).setCell (p := ⟨w.heap.size + 1, 2, none⟩) (Nat.lt_succ_self _) (.int .i64 f.i)).setCell (p := ⟨w.heap.size + 1, 3, none⟩) (Nat.lt_succ_self _) (.int .i64 f.c)).setCell (p := ⟨w.heap.size + 1, 4, none⟩) (Nat.lt_succ_self _) (.int .i64 f.base)).setCell (p := ⟨w.heap.size + 1, 5, none⟩) (Nat.lt_succ_self _) (.slice A1 f.slots.length c1)).setCell (p := ⟨w.heap.size + 1, 6, none⟩) (Nat.lt_succ_self _) (.slice A2 f.have_.length c2))
    have hF2 := (((((((hR2.setCell (p := ⟨w.heap.size + 1, 0, none⟩) (Nat.lt_succ_self _) (.int .i64 f.e)).setCell (p := ⟨w.heap.size + 1, 1, none⟩) (Nat.lt_succ_self _) (.int .i64 f.l)).setCell (p := ⟨w.heap.size + 1, 2, none⟩) (Nat.lt_succ_self _) (.int .i64 f.i)).setCell (p := ⟨w.heap.size + 1, 3, none⟩) (Nat.lt_succ_self _) (.int .i64 f.c)).setCell (p := ⟨w.heap.size + 1, 4, none⟩) (Nat.lt_succ_self _) (.int .i64 f.base)).setCell (p := ⟨w.heap.size + 1, 5, none⟩) (Nat.lt_succ_self _) (.slice A1 f.slots.length c1)).setCell (p := ⟨w.heap.size + 1, 6, none⟩) (Nat.lt_succ_self _) (.slice A2 f.have_.length c2))
    have hb9 := (box1_facts hO7.bel).1
    have hz9 := hO7.size
    clear hb1 hb2 hr1 hr2 hR1 hR2 hO h0 h0d
    go_wp2
    refine bodyPost_ret (v := .agg #[.int .i64 f.e, .int .i64 f.l, .int .i64 f.i, .int .i64 f.c, .int .i64 f.base, .slice A1 f.slots.length c1, .slice A2 f.have_.length c2]) (by simp [results, Try.results38, go_sem, r0, r1, r2, r3, r4, r5, r6]) rfl ?_
    exact ⟨⟨A1, c1, A2, c2, rfl, ⟨hF1.row, hF2.row, hl1, hm1, hl2, hm2⟩, hF1.lower (by omega), hF2.lower (by omega)⟩, hb9⟩
end Go.Proofs.Ytcffhfcjfjfokaa
/- The law's many: contents of their own. -/
namespace Go.Proofs.Ytcffhfcjfjfokaa
open Go.RowKit
/-- A row in another block than B's. -/
def FarRow {α : Type} (w : World) (B : Option Addr) (sz : Nat) (enc : α → List Value) (A : Option Addr) (l : List α) : Prop :=
  0 < l.length → ∃ b off, A = some ⟨b, off, none⟩ ∧ some b ≠ blk B ∧ b < w.heap.size ∧ ∀ k x, l[k]? = some x → ∀ j u, (enc x)[j]? = some u → w.cell? ⟨b, off + k * sz + j, none⟩ = some u
section
variable {α : Type} {w w' : World} {lo sz : Nat} {enc : α → List Value} {A B B' : Option Addr} {l : List α}
theorem FarRow.row (h : FarRow w B sz enc A l) : RowAt w w.heap.size sz enc A l := fun h0 => by
  obtain ⟨b, off, e, _, hb, hc⟩ := h h0
  exact ⟨b, off, e, hb, hc⟩
theorem FarRow.of_row (h : FRow w lo sz enc A l) (hB : ∀ k, blk B = some k → k < lo) : FarRow w B sz enc A l := fun h0 => by
  obtain ⟨b, off, e, h1, h2, hc⟩ := h h0
  exact ⟨b, off, e, fun e2 => by have := hB b e2.symm; omega, h2, hc⟩
theorem FarRow.below (h : FarRow w B sz enc A l) (hb : Below w.heap.size w w') : FarRow w' B sz enc A l := fun h0 => by
  obtain ⟨b, off, e, h1, h2, hc⟩ := h h0
  exact ⟨b, off, e, h1, Nat.lt_of_lt_of_le h2 hb.size, fun k x hk j u hu => (hb.cell (p := ⟨b, _, none⟩) h2).trans (hc k x hk j u hu)⟩
theorem FarRow.grown (h : FarRow w B sz enc A l) (hg : w.grownBy w' (blk B)) (hk : blk B' = blk B ∨ blk B' = some w.heap.size) : FarRow w' B' sz enc A l := fun h0 => by
  obtain ⟨b, off, e, h1, h2, hc⟩ := h h0
  refine ⟨b, off, e, fun e2 => ?_, Nat.lt_of_lt_of_le h2 hg.size, fun k x hk j u hu => (hg.cell_far ⟨b, _, none⟩ h2 h1).trans (hc k x hk j u hu)⟩
  rcases hk with hk | hk
  · exact h1 (e2.trans hk)
  · rw [hk] at e2; injection e2 with e2; omega
end
/-- A content whose lists lie in other blocks than B's. -/
def FarFl (w : World) (B : Option Addr) (r : Rw) : Prop := FlRows w w.heap.size r.f r.X r.cX r.Y r.cY ∧ FarRow w B 2 eSlot r.X r.f.slots ∧ FarRow w B 1 eInt r.Y r.f.have_
theorem FarFl.below {w w' : World} {B : Option Addr} {r : Rw} (h : FarFl w B r) (hb : Below w.heap.size w w') : FarFl w' B r :=
  ⟨⟨(h.2.1.below hb).row, (h.2.2.below hb).row, h.1.lenS, h.1.capS, h.1.lenH, h.1.capH⟩, h.2.1.below hb, h.2.2.below hb⟩
theorem FarFl.grown {w w' : World} {B B' : Option Addr} {r : Rw} (h : FarFl w B r) (hg : w.grownBy w' (blk B)) (hk : blk B' = blk B ∨ blk B' = some w.heap.size) : FarFl w' B' r :=
  ⟨⟨(h.2.1.grown hg hk).row, (h.2.2.grown hg hk).row, h.1.lenS, h.1.capS, h.1.lenH, h.1.capH⟩, h.2.1.grown hg hk, h.2.2.grown hg hk⟩
set_option maxRecDepth 100000 in
set_option maxHeartbeats 4000000 in
theorem many_any (A : Option Addr) (cA N : Nat) (fs : List Fl) (w : World) (hN : N ≤ w.heap.size) (hA : Fls w N A fs) (hsm : Small fs) :
    Calls Try.prog 28 #[.slice A fs.length cA] w fun x w' => (∃ B c, x = .returned (.slice B fs.length c) ∧ Fls w' w'.heap.size B fs) ∧ Below w.heap.size w w' := by
  have hl : fs.length ≤ 1048576 := hsm.1
  replace hsm := Lib.hid hsm
  go_enter Try.func28, Try.ntmps28
  go_wp2
  go_loopw [3, 4] (fun a k wr => ∃ (i : Nat) (rs : List Rw) (B : Option Addr) (c : Nat), k = .int .i64 i ∧ a = .slice B i c ∧ rs.length = i ∧ i ≤ fs.length ∧ Hid (rs.map Rw.f = fs.take i) ∧ Owns wr w.heap.size 39 7 eRw B c rs ∧ (∀ r ∈ rs, FarFl wr B r) ∧ Below w.heap.size w wr) (fun _ k _ => fs.length - (intOf k).toNat)
  case atStart => exact ⟨0, [], _, 0, rfl, rfl, rfl, by omega, by show List.map _ _ = _; simp, owns_empty _ _ _ _ _ (Nat.le_refl _), by simp, (Below.refl _ _).alloc (Nat.le_refl _) _⟩
  case round =>
    obtain ⟨i, rs, B, c, rfl, rfl, hrl, hi, hrs, ho, hfar, hb⟩ := hrel
    have hrl' := Lib.hid hrl
    have hszr := hb.size
    replace hfar := Lib.hid hfar
    by_cases hlt : i < fs.length
    · obtain ⟨g, o, f, X, cX, Y, cY, rfl, hg, hf, ⟨c0, c1, c2, c3, c4, c5, c6⟩, hr⟩ := (hA.below hb hN).at_ hlt
      have hgw : g < wr.heap.size := by omega
      obtain ⟨hs1, hs2⟩ := hsm.out.2 f (List.mem_of_getElem? hf.out)
      have hlo := ho.lo
      replace ho := Lib.hid ho
      clear hrl
      go_wp2_with (first
        | (go_at_call 38; refine (one_any f X Y cX cY N wr (by omega) hr (by omega) (by omega)).mono ?_; rintro e w1 ⟨⟨X1, cX1, Y1, cY1, rfl, hfr, hX1, hY1⟩, hb1⟩; replace hX1 := Lib.hid hX1; replace hY1 := Lib.hid hY1; replace hfr := Lib.hid hfr; have hs1' := hb1.size)
        | (at_builtin; refine wpList_append_rows _ rfl (.tmp 12) (.tmp 18) 22 rfl w.heap.size 39 7 88 _ Try.underlying22 info39 rfl (by decide) eRw len_eRw one_eRw B c rs (some ⟨w1.heap.size, 0, none⟩) 1 (w1.heap.size + 1) i 1 [⟨f, X1, cX1, Y1, cY1⟩] rfl rfl hrl'.out rfl ((ho.out.keep hb1 (fun k hk => (hlo k hk).2)).alloc _) (row_new _ _ _ _ _ _ rfl) (by omega) (by omega) (by simp; omega) ?_)
        | fail)
      intro A3 cc3 w3 ho3 hg3 hk3
      replace hk3 : blk A3 = blk B ∨ blk A3 = some (w1.alloc (.cells #[.int .i64 f.e, .int .i64 f.l, .int .i64 f.i, .int .i64 f.c, .int .i64 f.base, .slice X1 f.slots.length cX1, .slice Y1 f.have_.length cY1] 39)).heap.size := by simpa using hk3
      have hb13 : Below w1.heap.size w1 (w1.alloc (.cells #[.int .i64 f.e, .int .i64 f.l, .int .i64 f.i, .int .i64 f.c, .int .i64 f.base, .slice X1 f.slots.length cX1, .slice Y1 f.have_.length cY1] 39)) := (Below.refl _ _).alloc (Nat.le_refl _) _
      have hnew : FarFl w1 B ⟨f, X1, cX1, Y1, cY1⟩ := ⟨hfr.out, FarRow.of_row hX1.out (fun k hk => (hlo k hk).2), FarRow.of_row hY1.out (fun k hk => (hlo k hk).2)⟩
      have hbw3 : Below w.heap.size w w3 := ((hb.trans (hb1.mono hszr)).alloc (by omega) _).grown hg3 (by simp only [World.size_alloc]; omega) (fun k hk => (hlo k hk).1)
      have hfar3 : ∀ r ∈ rs ++ [⟨f, X1, cX1, Y1, cY1⟩], FarFl w3 A3 r := fun r hr' => by
        rcases List.mem_append.1 hr' with h | h
        · exact (((hfar.out r h).below hb1).below hb13).grown hg3 hk3
        · obtain rfl := List.mem_singleton.1 h
          exact (hnew.below hb13).grown hg3 hk3
      replace hfar3 := Lib.hid hfar3
      replace ho3 := Lib.hid ho3
      clear hg3 hk3 hnew hb13 hlo c0 c1 c2 c3 c4 c5 c6
      have hrs3 : Hid ((rs ++ [(⟨f, X1, cX1, Y1, cY1⟩ : Rw)]).map Rw.f = fs.take (i + 1)) := by
        show List.map Rw.f (rs ++ [⟨f, X1, cX1, Y1, cY1⟩]) = _
        rw [List.map_append, hrs.out, List.take_add_one, hf.out]; rfl
      go_wp2
      go_roundw
      case rel => go_light; exact ⟨i + 1, rs ++ [⟨f, X1, cX1, Y1, cY1⟩], A3, cc3, by go_num, rfl, by rw [List.length_append, hrl'.out]; rfl, by omega, hrs3, ho3.out, hfar3.out, hbw3⟩
      case measure => go_light; simp [intOf]; omega
    · obtain rfl : i = fs.length := by omega
      have hF : Fls wr wr.heap.size B fs := by
        have := rows_fls (w := wr) (N := wr.heap.size) (A := B) (rs := rs) ⟨ho.row len_eRw, fun r hr => (hfar.out r hr).1⟩
        rw [hrs.out, List.take_length] at this; exact this
      replace ho := Lib.hid ho
      replace hF := Lib.hid hF
      clear hrl
      go_wp2
      go_ret
      exact ⟨⟨B, c, rfl, hF.out⟩, hb⟩
end Go.Proofs.Ytcffhfcjfjfokaa
/- The law's datas: messages of their own. -/
namespace Go.Proofs.Ytcffhfcjfjfokaa
open Go.RowKit
theorem info5 : (Try.prog.info? 5).map (fun i => (i.zero, i.size, i.bytes)) = some (some (.int .u8 0), 1, 1) := by kernel_rfl
theorem info113 : (Try.prog.info? 113).map (fun i => (i.zero, i.size, i.bytes)) = some (some (.agg #[.int .i64 0, .int .i64 0, .int .i64 0, .slice none 0 0]), 4, 48) := by kernel_rfl
/-- Messages that are not too many and not too long. -/
def SmallD (ds : List Dt) : Prop := ds.length ≤ 1048576 ∧ ∀ d ∈ ds, d.body.length ≤ 1048576
/-- A message whose bytes lie in another block than B's. -/
def FarDr (w : World) (B : Option Addr) (r : Dr) : Prop := (r.d.body.length ≤ r.c ∧ r.c ≤ 9223372036854775807) ∧ FarRow w B 1 eByte r.B r.d.body
theorem FarDr.below {w w' : World} {B : Option Addr} {r : Dr} (h : FarDr w B r) (hb : Below w.heap.size w w') : FarDr w' B r := ⟨h.1, h.2.below hb⟩
theorem FarDr.grown {w w' : World} {B B' : Option Addr} {r : Dr} (h : FarDr w B r) (hg : w.grownBy w' (blk B)) (hk : blk B' = blk B ∨ blk B' = some w.heap.size) : FarDr w' B' r := ⟨h.1, h.2.grown hg hk⟩
set_option maxRecDepth 100000 in
set_option maxHeartbeats 4000000 in
theorem datas_any (A : Option Addr) (cA N : Nat) (ds : List Dt) (w : World) (hN : N ≤ w.heap.size) (hA : Dts w N A ds) (hsm : SmallD ds) :
    Calls Try.prog 18 #[.slice A ds.length cA] w fun x w' => (∃ B c, x = .returned (.slice B ds.length c) ∧ Dts w' w'.heap.size B ds) ∧ Below w.heap.size w w' := by
  have hl : ds.length ≤ 1048576 := hsm.1
  replace hsm := Lib.hid hsm
  go_enter Try.func18, Try.ntmps18
  go_wp2
  go_loopw [3, 4] (fun a k wr => ∃ (i : Nat) (rs : List Dr) (B : Option Addr) (c : Nat), k = .int .i64 i ∧ a = .slice B i c ∧ rs.length = i ∧ i ≤ ds.length ∧ Hid (rs.map Dr.d = ds.take i) ∧ Owns wr w.heap.size 113 4 eDr B c rs ∧ (∀ r ∈ rs, FarDr wr B r) ∧ Below w.heap.size w wr) (fun _ k _ => ds.length - (intOf k).toNat)
  case atStart => exact ⟨0, [], _, 0, rfl, rfl, rfl, by omega, by show List.map _ _ = _; simp, owns_empty _ _ _ _ _ (Nat.le_refl _), by simp, (Below.refl _ _).alloc (Nat.le_refl _) _⟩
  case round =>
    obtain ⟨i, rs, B, c, rfl, rfl, hrl, hi, hrs, ho, hfar, hb⟩ := hrel
    have hrl' := Lib.hid hrl
    have hszr := hb.size
    replace hfar := Lib.hid hfar
    by_cases hlt : i < ds.length
    · obtain ⟨g, o, d, X, cX, hAe, hg, hd, c0, c1, c2, c3, hX⟩ := (hA.below hb hN).at_ hlt
      subst hAe
      have hgw : g < wr.heap.size := by omega
      have hs1 := hsm.out.2 d (List.mem_of_getElem? hd.out)
      have hlo := ho.lo
      replace ho := Lib.hid ho
      clear hrl
      go_wp2_with (at_builtin; refine wpList_append_rows _ rfl (.tmp 17) (.tmp 19) 52 rfl (wr.heap.size + 1) 5 1 1 _ Try.underlying52 info5 rfl (by decide) eByte len_eByte one_eByte (some ⟨wr.heap.size + 1, 0, none⟩) 0 [] X cX N 0 d.body.length d.body rfl rfl rfl rfl (owns_empty_at _ _ _ _ _ (by simp) (Nat.le_refl _)) (hX.row.below (((Below.refl wr.heap.size wr).alloc (Nat.le_refl _) _).alloc (by simp) _) (by omega)) (by omega) (by omega) (by simp) ?_)
      intro A1 cc1 w1 ho1 hg1 hk1
      have hb1 : Below (wr.heap.size + 1) (box1 wr #[.int .i64 d.s, .int .i64 d.q, .int .i64 d.b, .slice X d.body.length cX] 113) w1 := ((Below.refl _ _).alloc (by simp) _).grown hg1 (by simp) (by intro k hk; simp [blk] at hk; omega)
      obtain ⟨hb10, hc1, hf1, hsz1⟩ := box1_facts hb1
      have q0 := hc1 0
      have q1 := hc1 1
      have q2 := hc1 2
      have q3 := hc1 3
      have z3 := hf1 3
      simp at q0 q1 q2 q3
      have hlo1 := ho1.lo
      have hlen1 := ho1.len
      have hF1 := FRow.of_owns ho1 len_eByte
      replace ho1 := Lib.hid ho1
      replace hF1 := Lib.hid hF1
      clear hg1 hk1 hc1 hf1 c0 c1 c2 c3 hX
      have hb2 : Below wr.heap.size wr (w1.setCell ⟨wr.heap.size, 3, none⟩ (.slice A1 d.body.length cc1)) := hb10.setCell (by show wr.heap.size ≤ wr.heap.size; omega) _
      have hF2 : FRow (w1.setCell ⟨wr.heap.size, 3, none⟩ (.slice A1 d.body.length cc1)) (wr.heap.size + 1) 1 eByte A1 d.body := hF1.out.setCell (Nat.lt_succ_self _) _
      have hsz2 : (w1.setCell ⟨wr.heap.size, 3, none⟩ (.slice A1 d.body.length cc1)).heap.size = w1.heap.size := World.size_setCell _ _ _
      replace hF2 := Lib.hid hF2
      replace hb2 := Lib.hid hb2
      go_wp2_with (at_builtin; refine wpList_append_rows _ rfl (.tmp 22) (.tmp 24) 40 rfl w.heap.size 113 4 48 _ Try.underlying40 info113 rfl (by decide) eDr len_eDr one_eDr B c rs (some ⟨w1.heap.size, 0, none⟩) 1 (w1.heap.size + 1) i 1 [⟨d, A1, cc1⟩] rfl rfl hrl'.out rfl ((ho.out.keep hb2.out (fun k hk => (hlo k hk).2)).alloc _) (by have := row_new (w1.setCell ⟨wr.heap.size, 3, none⟩ (.slice A1 d.body.length cc1)) 113 4 eDr ⟨d, A1, cc1⟩ #[.int .i64 d.s, .int .i64 d.q, .int .i64 d.b, .slice A1 d.body.length cc1] rfl; rw [hsz2] at this; exact this) (by omega) (by omega) (by simp; omega) ?_)
      intro A3 cc3 w3 ho3 hg3 hk3
      replace hk3 : blk A3 = blk B ∨ blk A3 = some ((w1.setCell ⟨wr.heap.size, 3, none⟩ (.slice A1 d.body.length cc1)).alloc (.cells #[.int .i64 d.s, .int .i64 d.q, .int .i64 d.b, .slice A1 d.body.length cc1] 113)).heap.size := by simpa using hk3
      have hb13 : Below (w1.setCell ⟨wr.heap.size, 3, none⟩ (.slice A1 d.body.length cc1)).heap.size (w1.setCell ⟨wr.heap.size, 3, none⟩ (.slice A1 d.body.length cc1)) ((w1.setCell ⟨wr.heap.size, 3, none⟩ (.slice A1 d.body.length cc1)).alloc (.cells #[.int .i64 d.s, .int .i64 d.q, .int .i64 d.b, .slice A1 d.body.length cc1] 113)) := (Below.refl _ _).alloc (Nat.le_refl _) _
      have hnew : FarDr (w1.setCell ⟨wr.heap.size, 3, none⟩ (.slice A1 d.body.length cc1)) B ⟨d, A1, cc1⟩ := ⟨hlen1, FarRow.of_row hF2.out (fun k hk => by have := (hlo k hk).2; omega)⟩
      have hbw3 : Below w.heap.size w w3 := ((hb.trans (hb2.out.mono hszr)).alloc (by rw [hsz2]; omega) (.cells #[.int .i64 d.s, .int .i64 d.q, .int .i64 d.b, .slice A1 d.body.length cc1] 113)).grown hg3 (by simp only [World.size_alloc]; omega) (fun k hk => (hlo k hk).1)
      have hfar3 : ∀ r ∈ rs ++ [⟨d, A1, cc1⟩], FarDr w3 A3 r := fun r hr' => by
        rcases List.mem_append.1 hr' with h | h
        · exact (((hfar.out r h).below hb2.out).below hb13).grown hg3 hk3
        · obtain rfl := List.mem_singleton.1 h
          exact (hnew.below hb13).grown hg3 hk3
      have hrs3 : Hid ((rs ++ [(⟨d, A1, cc1⟩ : Dr)]).map Dr.d = ds.take (i + 1)) := by
        show List.map Dr.d (rs ++ [⟨d, A1, cc1⟩]) = _
        rw [List.map_append, hrs.out, List.take_add_one, hd.out]; rfl
      replace hfar3 := Lib.hid hfar3
      replace ho3 := Lib.hid ho3
      clear hg3 hk3 hnew hb13 hlo q0 q1 q2 q3 z3
      go_wp2
      go_roundw
      case rel => go_light; exact ⟨i + 1, rs ++ [⟨d, A1, cc1⟩], A3, cc3, by go_num, rfl, by rw [List.length_append, hrl'.out]; rfl, by omega, hrs3, ho3.out, hfar3.out, hbw3⟩
      case measure => go_light; simp [intOf]; omega
    · obtain rfl : i = ds.length := by omega
      have hF : Dts wr wr.heap.size B ds := ⟨rs, by rw [hrs.out, List.take_length], ho.row len_eDr, fun r hr => ⟨(hfar.out r hr).2.row, (hfar.out r hr).1.1, (hfar.out r hr).1.2⟩⟩
      replace ho := Lib.hid ho
      replace hF := Lib.hid hF
      clear hrl
      go_wp2
      go_ret
      exact ⟨⟨B, c, rfl, hF.out⟩, hb⟩
end Go.Proofs.Ytcffhfcjfjfokaa
/- append at a step of a region that draws its order. -/
namespace Go.Proofs.Ytcffhfcjfjfokaa
open Go.RowKit
/-- append onto a row of the call's own; the source any row, nil or empty too. -/
theorem step_append_rows {P : Program} {α : Type} {ops : Array Oper} {o : Oper} {a : Act} {w : World} {K : Act → World → Prop} {Q : Exit → Act → World → Prop} (hgd : o.guard = none) (s x : Operand) (t : TypeId)
    (ho : o.op = .call { callee := .builtin .append, args := #[s, x], argTypes := #[t, t] })
    (base : Nat) (e : TypeId) (sz bytes : Nat) (z : Value) (ht : P.underlying t = some (.slice e)) (hinfo : (P.info? e).map (fun i => (i.zero, i.size, i.bytes)) = some (some z, sz, bytes))
    (hzs : z.cells.size = sz) (hsz : 0 < sz) (enc : α → List Value) (henc : ∀ x, (enc x).length = sz) (hone : ∀ x, ∀ u ∈ enc x, u.oneCell' = true)
    (A : Option Addr) (c : Nat) (xs : List α) (B : Option Addr) (cB N n m : Nat) (l : List α) (hs : a.eval s = .slice A n c) (hx : a.eval x = .slice B m cB)
    (hn : xs.length = n) (hm : l.length = m)
    (hown : Owns w base e sz enc A c xs) (hr : RowAt w N sz enc B l)
    (h63 : n + m ≤ 9223372036854775807) (hbytes : (n + m) * bytes ≤ 140737488355328) (hbase : base ≤ w.heap.size)
    (h : ∀ A' c' w', Owns w' base e sz enc A' c' (xs ++ l) → w.grownBy w' (blk A) → (blk A' = blk A ∨ blk A' = some w.heap.size) → K (a.put o.dst (.slice A' (n + m) c')) w') :
    if Region.wanted o (yielded ops a.tmps) = true then o.wp P a w K Q else K (a.put o.dst undef) w := by
  subst hn hm
  obtain ⟨i, hi, hz, hsize, hby⟩ := info_parts hinfo
  have key : ∃ v' w', (Builtin.append_ #[t, t] o.type #[.slice A xs.length c, .slice B l.length cB]).run P w = .ok v' w' ∧ w'.ownsRow base e sz v' (xs.length + l.length) ((xs ++ l).flatMap enc) ∧ w.grownBy w' (blk A) ∧ (v'.ownBlock = blk A ∨ v'.ownBlock = some w.heap.size) := by
    by_cases h0 : 0 < l.length
    · obtain ⟨b, off, rfl, hb, hc⟩ := hr h0
      obtain ⟨v', w', h1, h2, h3, _, h5⟩ := run_append_own_at (P := P) w base t o.type e i z sz bytes ht hi hz hsize hby hzs hsz (.slice A xs.length c) xs.length _ hown ⟨b, off, none⟩ l.length cB (l.flatMap enc)
        (length_flat henc l) (fun j u hu => by
          obtain ⟨k, r, x, hk, hr', rfl⟩ := flatMap_of henc l j u hu
          have := hc k x hk r u hr'
          by_cases hz0 : k * sz + r = 0
          · rw [hz0]; simp only [Addr.add, if_true]
            have e0 : off + k * sz + r = off := by omega
            rw [e0] at this; exact this
          · simp only [Addr.add, if_neg hz0]
            rw [← Nat.add_assoc]; exact this)
        (fun u hu => by obtain ⟨x, _, hux⟩ := List.mem_flatMap.1 hu; exact hone x u hux) h63 hbytes hbase
      rw [own_blk] at h3 h5
      exact ⟨v', w', h1, by rw [List.flatMap_append]; exact h2, h3, h5⟩
    · have hl : l = [] := List.eq_nil_of_length_eq_zero (by omega)
      subst hl
      cases B with
      | none =>
        refine ⟨.slice A xs.length c, w, ?_, by simp only [List.length_nil, Nat.add_zero, List.append_nil]; exact hown, World.grownBy.refl w _, .inl (own_blk _ _ _)⟩
        rcases hown.2 with ⟨hv, _⟩ | ⟨g, cap, cur, hv, _, _, hnc, _⟩
        · rw [hv]; simp [Builtin.append_, run_underlying ht, sizeOf, typeInfo, hi, Builtin.lenOf, Builtin.firstCells]
        · rw [hv]; simp [Builtin.append_, run_underlying ht, sizeOf, typeInfo, hi, Builtin.lenOf, Builtin.firstCells, hnc, storeCells]
      | some ad =>
        obtain ⟨v', w', h1, h2, h3, _, h5⟩ := run_append_own_at (P := P) w base t o.type e i z sz bytes ht hi hz hsize hby hzs hsz (.slice A xs.length c) xs.length _ hown ad 0 cB []
          (by simp) (fun j u hu => by simp at hu) (fun u hu => by simp at hu) h63 hbytes hbase
        rw [own_blk] at h3 h5
        exact ⟨v', w', h1, by simpa using h2, h3, h5⟩
  obtain ⟨v', w', hrun, h2, h3, h4⟩ := key
  have hv : ∃ A' c', v' = .slice A' (xs.length + l.length) c' := by
    rcases h2.2 with ⟨hv, h0⟩ | ⟨g, cap, cur, hv, _⟩
    · exact ⟨none, 0, by rw [hv, h0]⟩
    · exact ⟨_, _, hv⟩
  obtain ⟨A', c', rfl⟩ := hv
  rw [own_blk] at h4
  have hw : Region.wanted o (yielded ops a.tmps) = true := by simp [Region.wanted, hgd]
  rw [if_pos hw]
  unfold Oper.wp execOp
  simp only [ho, resolve, invoke, builtin, Sem.run_bind, Sem.run_pure, Result.andThen_ok, List.map_toArray, List.map_cons, List.map_nil, hs, hx, hrun]
  exact h A' c' w' (by unfold Owns; rw [List.length_append]; exact h2) h3 h4
end Go.Proofs.Ytcffhfcjfjfokaa
