/- CrC CrD, joined. -/
import Derived.Test.YtoilipfgimcoiaaOe13
set_option linter.unusedVariables false
set_option linter.unusedSimpArgs false
namespace Go.Proofs.Ytoilipfgimcoiaa
open Go Go.RowKit
theorem upN_case {α : Type} {p : Nat → α → Prop} {f : Nat → α} {i : Nat} {a : α} (k : Nat) (h1 : k ≠ i → p k (f k)) (h2 : k = i → p i a) : p k (upN f i a k) := by
  unfold upN; split
  · rename_i e; rw [e]; exact h2 e
  · rename_i e; exact h1 e
theorem seq_iff {n : Nat} (hn : 1 ≤ n) {o : Os} {i : Nat} (hm : o.mem = pidsN n) (hs : o.self = pidN i) : o.seq = decide (i = 0) := by
  unfold Os.seq
  have e : (pidsN n).head? = some (pidN 0) := by
    obtain ⟨m, rfl⟩ : ∃ m, n = m + 1 := ⟨n - 1, by omega⟩
    unfold pidsN
    rw [List.range_succ_eq_map]; rfl
  rw [hm, hs, e]
  by_cases h : i = 0
  · subst h; simp
  · rw [decide_eq_false h, decide_eq_false]
    intro e2
    exact h (pidN_inj (Option.some.inj e2)).symm
section
variable {v : Crw} {G : List Sl} {T : Nat}
theorem CI.keepQ (h : CI v G T) {i j : Nat} (hi : i < v.n) (hj : j < v.n) (st : Nat) (b : List Int) (o' : Os) (ho : o' = (v.o i).keep ⟨pidN j, (v.o i).taken (pidN j) + 1, st, b⟩) :
    SeqOk v.n (G ++ (upN v.o i o' 0).queue) ∧ (∀ k, k < v.n → cnt (pidN k) (G ++ (upN v.o i o' 0).queue) = (upN v.o i o' 0).taken (pidN k)) ∧ (∀ k, k < v.n → k ≠ 0 → (upN v.o i o' k).queue = []) := by
  have hs := seq_iff h.n1 (h.mi i hi).mem (h.mi i hi).self
  by_cases h0 : i = 0
  · subst h0
    rw [upN_same]
    have e1 : o'.queue = (v.o 0).queue ++ [⟨pidN j, (v.o 0).taken (pidN j) + 1⟩] := by
      rw [ho]; unfold Os.keep
      show (if (v.o 0).seq = true then _ else _) = _
      rw [if_pos (by rw [hs]; rfl)]; rfl
    have e2 : o'.taken = upN (v.o 0).taken (pidN j) ((v.o 0).taken (pidN j) + 1) := by rw [ho]; rfl
    rw [e1, e2, ← List.append_assoc]
    refine ⟨by rw [← h.gt j hj]; exact h.gq.snoc hj, fun k hk => ?_, fun k hk hk0 => by rw [upN_ne _ _ hk0]; exact h.qe k hk hk0⟩
    rw [cnt_app, h.gt k hk, cnt_one]
    show _ + (if pidN j = pidN k then 1 else 0) = _
    unfold upN
    by_cases e : pidN k = pidN j
    · rw [if_pos e, if_pos e.symm, e]
    · rw [if_neg e, if_neg (fun x => e x.symm)]; rfl
  · rw [upN_ne _ _ (fun e => h0 e.symm)]
    refine ⟨h.gq, h.gt, fun k hk hk0 => upN_case (p := fun k (o : Os) => o.queue = []) k (fun _ => h.qe k hk hk0) fun e => ?_⟩
    rw [ho]; unfold Os.keep
    show (if (v.o i).seq = true then _ else _) = _
    rw [if_neg (by rw [hs, decide_eq_false h0]; simp)]
    exact h.qe i hi h0
theorem CI.send (h : CI v G T) {i : Nat} (hi : i < v.n) (b : List Int) (hb : b.length ≤ 9) (hf : (v.o i).taken (pidN i) < v.win + (v.o i).gone (pidN i)) :
    CI { v with o := upN v.o i ((v.o i).keep ⟨pidN i, (v.o i).taken (pidN i) + 1, (v.o i).pre, b⟩), sent := upN v.sent i (v.sent i ++ [b]), made := upN v.made i (v.made i ++ [dIt (pidN i) ((v.o i).taken (pidN i) + 1) (v.o i).pre b]) } G (T + 1) := by
  obtain ⟨o', ho⟩ : ∃ o', o' = (v.o i).keep ⟨pidN i, (v.o i).taken (pidN i) + 1, (v.o i).pre, b⟩ := ⟨_, rfl⟩
  obtain ⟨q1, q2, q3⟩ := h.keepQ hi hi _ _ o' ho
  rw [← ho]
  have hown := h.own i hi
  have hsp : ∀ j, v.sent j <+: upN v.sent i (v.sent i ++ [b]) j := fun j => upN_case (p := fun j (l : List (List Int)) => v.sent j <+: l) j (fun _ => List.prefix_refl _) fun _ => List.prefix_append _ _
  have hmore : ∀ k, k < v.n → MI v.n v.win G (upN v.sent i (v.sent i ++ [b])) k (v.o k) := fun k hk => by
    have := (h.mi k hk).more [] (fun j _ => hsp j); rwa [List.append_nil] at this
  have M : MI v.n v.win G (upN v.sent i (v.sent i ++ [b])) i o' := by
    rw [ho]
    refine (hmore i hi).keep hi ?_
    rw [upN_same, hown, List.getElem?_append_right (Nat.le_refl _), Nat.sub_self]; rfl
  have F : o'.frz = (v.o i).frz ∧ o'.done = (v.o i).done ∧ o'.pre = (v.o i).pre ∧ o'.told = (v.o i).told ∧ o'.known = (v.o i).known ∧ o'.taken = upN (v.o i).taken (pidN i) ((v.o i).taken (pidN i) + 1) := by
    rw [ho]; exact ⟨rfl, rfl, rfl, rfl, rfl, rfl⟩
  obtain ⟨f1, f2, f3, f4, f5, f6⟩ := F
  have hdn : ∀ k, (upN v.o i o' k).done = (v.o k).done := fun k => upN_case (p := fun k (o : Os) => o.done = (v.o k).done) k (fun _ => rfl) fun _ => f2
  have htk : ∀ a k, k < v.n → a < v.n → (upN v.made i (v.made i ++ [dIt (pidN i) ((v.o i).taken (pidN i) + 1) (v.o i).pre b]) a).take (v.had a k) = (v.made a).take (v.had a k) := fun a k hk ha => upN_case (p := fun a (l : List Itm) => l.take (v.had a k) = (v.made a).take (v.had a k)) a (fun _ => rfl) fun _ => take_app (h.hd i k hi hk)
  refine ⟨h.n1, h.n4, h.w1, h.w4, fun k hk => upN_case (p := fun k (o : Os) => MI v.n v.win G (upN v.sent i (v.sent i ++ [b])) k o) k (fun _ => hmore k hk) fun _ => M, fun k hk => upN_case (p := fun k (o : Os) => o.frz = v.stop k) k (fun _ => h.frz k hk) fun _ => f1.trans (h.frz i hi), fun k hk => ?_, fun k j hk hj hne => ?_,
    (upN_case (p := fun k (o : Os) => o.known = (v.o k).known) 0 (fun _ => rfl) fun _ => f5).trans h.k0, fun k hk h0 => ?_, fun k j hk hj => ?_, fun k hk m it hit => ?_, fun k hk => ?_, ?_, q1, q2, q3, fun a k ha hk => ?_, fun a j ha hj hne => ?_, fun k hk t ht => ?_, fun k hk => ?_, fun k hk => ?_, h.lo, fun k hk => ?_, fun k hk => ?_, fun k j hk hj => upN_case (p := fun k (o : Os) => o.taken (pidN j) ≤ v.win + o.gone (pidN j)) k (fun _ => h.fr k j hk hj) (fun _ => ?_), fun k hk => upN_case (p := fun k (o : Os) => o.slots.length ≤ v.n * v.win) k (fun _ => h.sr k hk) (fun _ => by rw [ho]; exact h.sr i hi)⟩
  · show (upN v.o i o' k).taken (pidN k) = (upN v.sent i (v.sent i ++ [b]) k).length
    by_cases e : k = i
    · subst e; rw [upN_same, upN_same, f6, upN_same, hown, List.length_append]; rfl
    · rw [upN_ne _ _ e, upN_ne _ _ e]; exact h.own k hk
  · show (upN v.o i o' k).taken (pidN j) = dC ((upN v.made i _ j).take (v.had j k))
    rw [htk j k hk hj, ← h.tk k j hk hj hne]
    by_cases e : k = i
    · subst e; rw [upN_same, f6, upN_ne _ _ fun e => hne (pidN_inj e).symm]
    · rw [upN_ne _ _ e]
  · show (upN v.o i o' k).known = sC ((upN v.made i _ 0).take (v.had 0 k))
    rw [htk 0 k hk (by omega), ← h.kn k hk h0]
    exact upN_case (p := fun k (o : Os) => o.known = (v.o k).known) k (fun _ => rfl) fun _ => f5
  · exact Nat.le_trans (h.hd k j hk hj) (upN_case (p := fun k (l : List Itm) => (v.made k).length ≤ l.length) k (fun _ => Nat.le_refl _) fun _ => by simp)
  · have hdn' : ∀ k, k < v.n → (v.o k).done ≤ (upN v.o i o' k).done := fun k _ => by rw [hdn]; exact Nat.le_refl _
    have old : ∀ m it, (v.made k)[m]? = some it → ItOk v.n v.win G (upN v.sent i (v.sent i ++ [b]) k) (fun k => (upN v.o i o' k).done) k ((v.made k).take m) it := fun m it hit => by
      have := (h.it k hk m it hit).more [] (hsp k) hdn'; rwa [List.append_nil] at this
    show ItOk v.n v.win G (upN v.sent i (v.sent i ++ [b]) k) (fun k => (upN v.o i o' k).done) k ((upN v.made i _ k).take m) it
    by_cases e : k = i
    · subst e
      have hit : (upN v.made k (v.made k ++ [dIt (pidN k) ((v.o k).taken (pidN k) + 1) (v.o k).pre b]) k)[m]? = some it := hit
      rw [upN_same] at hit
      rw [upN_same v.made]
      by_cases hm : m < (v.made k).length
      · rw [List.getElem?_append_left hm] at hit
        rw [take_app (by omega)]; exact old m it hit
      · rw [List.getElem?_append_right (by omega)] at hit
        have hp0 := (List.getElem?_eq_some_iff.1 hit).1
        simp at hp0
        obtain rfl : m = (v.made k).length := by omega
        rw [Nat.sub_self] at hit
        injection hit with hit
        subst hit
        rw [take_app (Nat.le_refl _), List.take_length]
        have hmi := h.mi k hk
        have k1 := hmi.kg
        have k2 := hmi.dk
        have k3 := hmi.pd
        refine .inl ⟨(v.o k).pre, b, by rw [h.dc k hk, hown], by rw [upN_same, h.dc k hk, List.getElem?_append_right (Nat.le_refl _), Nat.sub_self]; rfl, fun a ha => by show _ ≤ (upN v.o k o' a).done; rw [hdn]; exact h.key k a hk ha, by omega, ?_⟩
        rw [h.dc k hk, ← hown, ← hmi.gn]; exact hf
    · have hit : (upN v.made i _ k)[m]? = some it := hit
      rw [upN_ne v.made _ e] at hit ⊢
      exact old m it hit
  · show dC (upN v.made i _ k) = (upN v.sent i _ k).length
    by_cases e : k = i
    · subst e; rw [upN_same, upN_same, dC_app, dC_d, List.length_append, h.dc k hk]; rfl
    · rw [upN_ne _ _ e, upN_ne _ _ e]; exact h.dc k hk
  · exact (upN_case (p := fun k (l : List Itm) => sC l = sC (v.made k)) 0 (fun _ => rfl) fun _ => by rw [sC_app, sC_d]; rfl).trans h.sc
  · show (upN v.o i o' a).pre ≤ (upN v.o i o' k).done
    rw [hdn]
    exact upN_case (p := fun a (o : Os) => o.pre ≤ (v.o k).done) a (fun _ => h.key a k ha hk) fun e => by rw [f3, ← e]; exact h.key a k ha hk
  · show (upN v.o i o' a).told (pidN j) ≤ (upN v.o i o' j).done
    rw [hdn]
    exact upN_case (p := fun a (o : Os) => o.told (pidN j) ≤ (v.o j).done) a (fun _ => h.to a j ha hj hne) fun e => by rw [f4, ← e]; exact h.to a j ha hj hne
  · exact (h.tr k hk t ht).more hk fun k _ => Nat.le_of_eq (hdn k).symm
  · show (v.log k).length = (upN v.o i o' k).done ∧ _
    rw [hdn]; exact h.lg k hk
  · show (upN v.o i o' k).done ≤ _
    rw [hdn]; exact h.ln k hk
  · exact upN_case (p := fun k (l : List (List Int)) => l.length ≤ T + 1) k (fun _ => Nat.le_succ_of_le (h.se k hk)) fun _ => by rw [List.length_append]; have := h.se i hi; simp; omega
  · exact upN_case (p := fun k (l : List (List Int)) => ∀ b ∈ l, b.length ≤ 9) k (fun _ => h.sb k hk) fun _ x hx => by
      rcases List.mem_append.1 hx with hx | hx
      · exact h.sb i hi x hx
      · rw [List.mem_singleton.1 hx]; exact hb
  · have e : o'.gone = (v.o i).gone := by rw [ho]; rfl
    rw [f6, e]
    unfold upN; split
    · rename_i e2; rw [e2]; omega
    · exact h.fr i j hi hj
def hadN (had : Nat → Nat → Nat) (i j : Nat) : Nat → Nat → Nat := upN had i (upN (had i) j (had i j + 1))
theorem hadN_same (had : Nat → Nat → Nat) (i j : Nat) : hadN had i j i j = had i j + 1 := by unfold hadN; rw [upN_same, upN_same]
theorem hadN_ne (had : Nat → Nat → Nat) {i j a b : Nat} (h : ¬ (a = i ∧ b = j)) : hadN had i j a b = had a b := by
  unfold hadN
  by_cases e : a = i
  · subst e; rw [upN_same, upN_ne _ _ fun e2 => h ⟨rfl, e2⟩]
  · rw [upN_ne _ _ e]
theorem hadN_le (h : CI v G T) {i j : Nat} (hi : i < v.n) (hlt : v.had i j < (v.made i).length) : ∀ a b, a < v.n → b < v.n → hadN v.had i j a b ≤ (v.made a).length := fun a b ha hb => by
  by_cases e : a = i ∧ b = j
  · obtain ⟨rfl, rfl⟩ := e; rw [hadN_same]; exact hlt
  · rw [hadN_ne _ e]; exact h.hd a b ha hb
theorem CI.takeD (h : CI v G T) {i j : Nat} (hi : i < v.n) (hj : j < v.n) (hne : i ≠ j) {st : Nat} {b : List Int} {it : Itm} (hit : (v.made i)[v.had i j]? = some it) (hk1 : it.kd = 1) (hs : (v.sent i)[dC ((v.made i).take (v.had i j))]? = some b) (hr : (v.o j).taken (pidN i) < v.win + (v.o j).gone (pidN i)) :
    CI { v with o := upN v.o j ((v.o j).keep ⟨pidN i, (v.o j).taken (pidN i) + 1, st, b⟩), had := hadN v.had i j } G T := by
  obtain ⟨o', ho⟩ : ∃ o', o' = (v.o j).keep ⟨pidN i, (v.o j).taken (pidN i) + 1, st, b⟩ := ⟨_, rfl⟩
  obtain ⟨q1, q2, q3⟩ := h.keepQ hj hi _ _ o' ho
  rw [← ho]
  have htk := h.tk j i hj hi (fun e => hne e.symm)
  have hlt := (List.getElem?_eq_some_iff.1 hit).1
  have M : MI v.n v.win G v.sent j o' := by
    rw [ho]; exact (h.mi j hj).keep hi (by rw [htk]; exact hs)
  have F : o'.frz = (v.o j).frz ∧ o'.done = (v.o j).done ∧ o'.pre = (v.o j).pre ∧ o'.told = (v.o j).told ∧ o'.known = (v.o j).known ∧ o'.taken = upN (v.o j).taken (pidN i) ((v.o j).taken (pidN i) + 1) := by
    rw [ho]; exact ⟨rfl, rfl, rfl, rfl, rfl, rfl⟩
  obtain ⟨f1, f2, f3, f4, f5, f6⟩ := F
  have hdn : ∀ k, (upN v.o j o' k).done = (v.o k).done := fun k => upN_case (p := fun k (o : Os) => o.done = (v.o k).done) k (fun _ => rfl) fun _ => f2
  have hd1 : dC ((v.made i).take (v.had i j + 1)) = dC ((v.made i).take (v.had i j)) + 1 := by
    rw [take_one hit, dC_app]; unfold dC; simp [hk1]
  have hs1 : sC ((v.made i).take (v.had i j + 1)) = sC ((v.made i).take (v.had i j)) := by
    rw [take_one hit, sC_app]; unfold sC; simp [hk1]
  refine ⟨h.n1, h.n4, h.w1, h.w4, fun k hk => upN_case (p := fun k (o : Os) => MI v.n v.win G v.sent k o) k (fun _ => h.mi k hk) fun _ => M, fun k hk => upN_case (p := fun k (o : Os) => o.frz = v.stop k) k (fun _ => h.frz k hk) fun _ => f1.trans (h.frz j hj), fun k hk => ?_, fun k a hk ha hka => ?_,
    (upN_case (p := fun k (o : Os) => o.known = (v.o k).known) 0 (fun _ => rfl) fun _ => f5).trans h.k0, fun k hk h0 => ?_, hadN_le h hi hlt, fun k hk m it hit => ?_, h.dc, h.sc, q1, q2, q3, fun a k ha hk => ?_, fun a k ha hk hne => ?_, fun k hk t ht => ?_, fun k hk => ?_, fun k hk => ?_, h.lo, h.se, h.sb, fun k a hk ha => upN_case (p := fun k (o : Os) => o.taken (pidN a) ≤ v.win + o.gone (pidN a)) k (fun _ => h.fr k a hk ha) (fun _ => ?_), fun k hk => upN_case (p := fun k (o : Os) => o.slots.length ≤ v.n * v.win) k (fun _ => h.sr k hk) (fun _ => by rw [ho]; exact h.sr j hj)⟩
  · show (upN v.o j o' k).taken (pidN k) = (v.sent k).length
    by_cases e : k = j
    · subst e; rw [upN_same, f6, upN_ne _ _ fun e => hne (pidN_inj e).symm]; exact h.own k hk
    · rw [upN_ne _ _ e]; exact h.own k hk
  · show (upN v.o j o' k).taken (pidN a) = dC ((v.made a).take (hadN v.had i j a k))
    by_cases e : k = j
    · subst e
      rw [upN_same, f6]
      by_cases e2 : a = i
      · subst e2; rw [upN_same, hadN_same, hd1, htk]
      · rw [upN_ne _ _ fun e => e2 (pidN_inj e), hadN_ne _ fun e => e2 e.1]; exact h.tk k a hk ha hka
    · rw [upN_ne _ _ e, hadN_ne _ fun e' => e e'.2]; exact h.tk k a hk ha hka
  · show (upN v.o j o' k).known = sC ((v.made 0).take (hadN v.had i j 0 k))
    have e1 : (upN v.o j o' k).known = (v.o k).known := upN_case (p := fun k (o : Os) => o.known = (v.o k).known) k (fun _ => rfl) fun _ => f5
    rw [e1, h.kn k hk h0]
    by_cases e : 0 = i ∧ k = j
    · obtain ⟨e2, rfl⟩ := e; subst e2; rw [hadN_same, hs1]
    · rw [hadN_ne _ e]
  · have := (h.it k hk m it hit).more [] (List.prefix_refl _) (dn' := fun k => (upN v.o j o' k).done) (fun k _ => Nat.le_of_eq (hdn k).symm); rwa [List.append_nil] at this
  · show (upN v.o j o' a).pre ≤ (upN v.o j o' k).done
    rw [hdn]
    exact upN_case (p := fun a (o : Os) => o.pre ≤ (v.o k).done) a (fun _ => h.key a k ha hk) fun e => by rw [f3, ← e]; exact h.key a k ha hk
  · show (upN v.o j o' a).told (pidN k) ≤ (upN v.o j o' k).done
    rw [hdn]
    exact upN_case (p := fun a (o : Os) => o.told (pidN k) ≤ (v.o k).done) a (fun _ => h.to a k ha hk hne) fun e => by rw [f4, ← e]; exact h.to a k ha hk hne
  · exact (h.tr k hk t ht).more hk fun k _ => Nat.le_of_eq (hdn k).symm
  · show (v.log k).length = (upN v.o j o' k).done ∧ _
    rw [hdn]; exact h.lg k hk
  · show (upN v.o j o' k).done ≤ _
    rw [hdn]; exact h.ln k hk
  · have e : o'.gone = (v.o j).gone := by rw [ho]; rfl
    rw [f6, e]
    unfold upN; split
    · rename_i e2; rw [e2]; omega
    · exact h.fr j a hj ha
theorem CI.takeS (h : CI v G T) {j : Nat} (hj : j < v.n) (hne : 0 ≠ j) {x : Sl} {it : Itm} (hit : (v.made 0)[v.had 0 j]? = some it) (hk2 : it.kd = 2) (hx : G[sC ((v.made 0).take (v.had 0 j))]? = some x) (hr : (v.o j).slots.length < v.n * v.win) :
    CI { v with o := upN v.o j ((v.o j).stand x), had := hadN v.had 0 j } G T := by
  obtain ⟨o', ho⟩ : ∃ o', o' = (v.o j).stand x := ⟨_, rfl⟩
  rw [← ho]
  have h0n := h.n1
  have hkn := h.kn j hj (fun e => hne e.symm)
  have hlt := (List.getElem?_eq_some_iff.1 hit).1
  obtain ⟨M, f5⟩ := (h.mi j hj).stand (x := x) (by rw [hkn]; exact hx)
  rw [← ho] at M f5
  have F : o'.frz = (v.o j).frz ∧ o'.done = (v.o j).done ∧ o'.pre = (v.o j).pre ∧ o'.told = (v.o j).told ∧ o'.taken = (v.o j).taken ∧ o'.queue = (v.o j).queue := by
    rw [ho]; exact ⟨rfl, rfl, rfl, rfl, rfl, rfl⟩
  obtain ⟨f1, f2, f3, f4, f6, f7⟩ := F
  have hdn : ∀ k, (upN v.o j o' k).done = (v.o k).done := fun k => upN_case (p := fun k (o : Os) => o.done = (v.o k).done) k (fun _ => rfl) fun _ => f2
  have htn : ∀ k, (upN v.o j o' k).taken = (v.o k).taken := fun k => upN_case (p := fun k (o : Os) => o.taken = (v.o k).taken) k (fun _ => rfl) fun _ => f6
  have hqn : ∀ k, (upN v.o j o' k).queue = (v.o k).queue := fun k => upN_case (p := fun k (o : Os) => o.queue = (v.o k).queue) k (fun _ => rfl) fun _ => f7
  have hd1 : dC ((v.made 0).take (v.had 0 j + 1)) = dC ((v.made 0).take (v.had 0 j)) := by
    rw [take_one hit, dC_app]; unfold dC; simp [hk2]
  have hs1 : sC ((v.made 0).take (v.had 0 j + 1)) = sC ((v.made 0).take (v.had 0 j)) + 1 := by
    rw [take_one hit, sC_app]; unfold sC; simp [hk2]
  refine ⟨h.n1, h.n4, h.w1, h.w4, fun k hk => upN_case (p := fun k (o : Os) => MI v.n v.win G v.sent k o) k (fun _ => h.mi k hk) fun _ => M, fun k hk => upN_case (p := fun k (o : Os) => o.frz = v.stop k) k (fun _ => h.frz k hk) fun _ => f1.trans (h.frz j hj), fun k hk => by show (upN v.o j o' k).taken _ = _; rw [htn]; exact h.own k hk, fun k a hk ha hka => ?_,
    by show (upN v.o j o' 0).known = _; rw [upN_ne _ _ hne]; exact h.k0, fun k hk h0 => ?_, hadN_le h h0n hlt, fun k hk m it hit => ?_, h.dc, h.sc, by rw [hqn]; exact h.gq, fun k hk => by rw [hqn, htn]; exact h.gt k hk, fun k hk hk0 => by rw [hqn]; exact h.qe k hk hk0, fun a k ha hk => ?_, fun a k ha hk hne => ?_, fun k hk t ht => ?_, fun k hk => ?_, fun k hk => ?_, h.lo, h.se, h.sb, fun k a hk ha => upN_case (p := fun k (o : Os) => o.taken (pidN a) ≤ v.win + o.gone (pidN a)) k (fun _ => h.fr k a hk ha) (fun _ => by rw [ho]; exact h.fr j a hj ha), fun k hk => upN_case (p := fun k (o : Os) => o.slots.length ≤ v.n * v.win) k (fun _ => h.sr k hk) (fun _ => by rw [ho]; show ((v.o j).slots ++ [x]).length ≤ _; rw [List.length_append]; exact hr)⟩
  · show (upN v.o j o' k).taken (pidN a) = dC ((v.made a).take (hadN v.had 0 j a k))
    rw [htn, h.tk k a hk ha hka]
    by_cases e : a = 0 ∧ k = j
    · obtain ⟨rfl, rfl⟩ := e; rw [hadN_same, hd1]
    · rw [hadN_ne _ e]
  · show (upN v.o j o' k).known = sC ((v.made 0).take (hadN v.had 0 j 0 k))
    by_cases e : k = j
    · subst e; rw [upN_same, hadN_same, hs1, f5, hkn]
    · rw [upN_ne _ _ e, hadN_ne _ fun e' => e e'.2]; exact h.kn k hk h0
  · have := (h.it k hk m it hit).more [] (List.prefix_refl _) (dn' := fun k => (upN v.o j o' k).done) (fun k _ => Nat.le_of_eq (hdn k).symm); rwa [List.append_nil] at this
  · show (upN v.o j o' a).pre ≤ (upN v.o j o' k).done
    rw [hdn]
    exact upN_case (p := fun a (o : Os) => o.pre ≤ (v.o k).done) a (fun _ => h.key a k ha hk) fun e => by rw [f3, ← e]; exact h.key a k ha hk
  · show (upN v.o j o' a).told (pidN k) ≤ (upN v.o j o' k).done
    rw [hdn]
    exact upN_case (p := fun a (o : Os) => o.told (pidN k) ≤ (v.o k).done) a (fun _ => h.to a k ha hk hne) fun e => by rw [f4, ← e]; exact h.to a k ha hk hne
  · exact (h.tr k hk t ht).more hk fun k _ => Nat.le_of_eq (hdn k).symm
  · show (v.log k).length = (upN v.o j o' k).done ∧ _
    rw [hdn]; exact h.lg k hk
  · show (upN v.o j o' k).done ≤ _
    rw [hdn]; exact h.ln k hk
theorem CI.give (h : CI v G T) {x : Sl} {q : List Sl} (hq : (v.o 0).queue = x :: q) (hroom : (v.o 0).slots.length < v.n * v.win) :
    CI { v with o := upN v.o 0 (v.o 0).asg1, made := upN v.made 0 (v.made 0 ++ [sIt ((v.o 0).known + 1) (v.o 0).pre x]) } (G ++ [x]) T := by
  obtain ⟨o', ho⟩ : ∃ o', o' = (v.o 0).asg1 := ⟨_, rfl⟩
  rw [← ho]
  have h0n := h.n1
  have e1 := asg1_cons hq
  have hm0 := h.mi 0 h0n
  have hk0 := h.k0
  have hmore : ∀ k, k < v.n → MI v.n v.win (G ++ [x]) v.sent k (v.o k) := fun k hk => (h.mi k hk).more [x] fun j _ => List.prefix_refl _
  have hq0 : MI v.n v.win (G ++ [x]) v.sent 0 { v.o 0 with queue := q } := by
    have := hmore 0 h0n
    exact ⟨this.id, this.mem, this.self, this.win, this.kg, this.pd, this.dk, this.sl, this.pl, this.gn, this.tk, this.tz, this.he, this.hh, this.nd, this.mine, this.dl⟩
  obtain ⟨M, f5⟩ := hq0.stand (x := x) (by
    show (G ++ [x])[(v.o 0).known]? = _
    rw [hk0, List.getElem?_append_right (Nat.le_refl _), Nat.sub_self]; rfl)
  have ho' : o' = ({ v.o 0 with queue := q } : Os).stand x := by rw [ho]; unfold Os.asg1; rw [hq]
  rw [← ho'] at M f5
  have f5 : o'.known = (v.o 0).known + 1 := f5
  have F : o'.frz = (v.o 0).frz ∧ o'.done = (v.o 0).done ∧ o'.pre = (v.o 0).pre ∧ o'.told = (v.o 0).told ∧ o'.taken = (v.o 0).taken ∧ o'.queue = q := by
    rw [ho']; exact ⟨rfl, rfl, rfl, rfl, rfl, rfl⟩
  obtain ⟨f1, f2, f3, f4, f6, f7⟩ := F
  have hdn : ∀ k, (upN v.o 0 o' k).done = (v.o k).done := fun k => upN_case (p := fun k (o : Os) => o.done = (v.o k).done) k (fun _ => rfl) fun _ => f2
  have htn : ∀ k, (upN v.o 0 o' k).taken = (v.o k).taken := fun k => upN_case (p := fun k (o : Os) => o.taken = (v.o k).taken) k (fun _ => rfl) fun _ => f6
  have htk : ∀ a k, k < v.n → a < v.n → (upN v.made 0 (v.made 0 ++ [sIt ((v.o 0).known + 1) (v.o 0).pre x]) a).take (v.had a k) = (v.made a).take (v.had a k) := fun a k hk ha => upN_case (p := fun a (l : List Itm) => l.take (v.had a k) = (v.made a).take (v.had a k)) a (fun _ => rfl) fun _ => take_app (h.hd 0 k h0n hk)
  have eG : (G ++ [x]) ++ q = G ++ (v.o 0).queue := by rw [hq, List.append_assoc]; rfl
  refine ⟨h.n1, h.n4, h.w1, h.w4, fun k hk => upN_case (p := fun k (o : Os) => MI v.n v.win (G ++ [x]) v.sent k o) k (fun _ => hmore k hk) fun _ => M, fun k hk => upN_case (p := fun k (o : Os) => o.frz = v.stop k) k (fun _ => h.frz k hk) fun _ => f1.trans (h.frz 0 h0n), fun k hk => by show (upN v.o 0 o' k).taken _ = _; rw [htn]; exact h.own k hk, fun k a hk ha hka => ?_,
    by show (upN v.o 0 o' 0).known = _; rw [upN_same, f5, hk0, List.length_append]; rfl, fun k hk hk0 => ?_, fun k j hk hj => ?_, fun k hk m it hit => ?_, fun k hk => ?_, ?_, ?_, fun k hk => ?_, fun k hk hk0 => ?_, fun a k ha hk => ?_, fun a k ha hk hne => ?_, fun k hk t ht => ?_, fun k hk => ?_, fun k hk => ?_, h.lo.more _, h.se, h.sb, fun k a hk ha => upN_case (p := fun k (o : Os) => o.taken (pidN a) ≤ v.win + o.gone (pidN a)) k (fun _ => h.fr k a hk ha) (fun _ => by rw [ho']; exact h.fr 0 a h0n ha), fun k hk => upN_case (p := fun k (o : Os) => o.slots.length ≤ v.n * v.win) k (fun _ => h.sr k hk) (fun _ => by rw [ho']; show ((v.o 0).slots ++ [x]).length ≤ _; rw [List.length_append]; exact hroom)⟩
  · refine Eq.trans ?_ (congrArg dC (htk a k hk ha)).symm
    show (upN v.o 0 o' k).taken (pidN a) = _
    rw [htn]; exact h.tk k a hk ha hka
  · refine Eq.trans ?_ (congrArg sC (htk 0 k hk h0n)).symm
    show (upN v.o 0 o' k).known = _
    rw [upN_ne _ _ hk0]; exact h.kn k hk hk0
  · exact Nat.le_trans (h.hd k j hk hj) (upN_case (p := fun k (l : List Itm) => (v.made k).length ≤ l.length) k (fun _ => Nat.le_refl _) fun _ => by simp)
  · have hdn' : ∀ k, k < v.n → (v.o k).done ≤ (upN v.o 0 o' k).done := fun k _ => by rw [hdn]; exact Nat.le_refl _
    have old : ∀ m it, (v.made k)[m]? = some it → ItOk v.n v.win (G ++ [x]) (v.sent k) (fun k => (upN v.o 0 o' k).done) k ((v.made k).take m) it := fun m it hit => (h.it k hk m it hit).more [x] (List.prefix_refl _) hdn'
    show ItOk v.n v.win (G ++ [x]) (v.sent k) (fun k => (upN v.o 0 o' k).done) k ((upN v.made 0 _ k).take m) it
    by_cases e : k = 0
    · subst e
      have hit : (upN v.made 0 (v.made 0 ++ [sIt ((v.o 0).known + 1) (v.o 0).pre x]) 0)[m]? = some it := hit
      rw [upN_same] at hit
      rw [upN_same v.made]
      by_cases hm : m < (v.made 0).length
      · rw [List.getElem?_append_left hm] at hit
        rw [take_app (by omega)]; exact old m it hit
      · rw [List.getElem?_append_right (by omega)] at hit
        have hp0 := (List.getElem?_eq_some_iff.1 hit).1
        simp at hp0
        obtain rfl : m = (v.made 0).length := by omega
        rw [Nat.sub_self] at hit
        injection hit with hit
        subst hit
        rw [take_app (Nat.le_refl _), List.take_length]
        refine .inr ⟨rfl, (v.o 0).pre, x, by rw [h.sc, hk0], by rw [h.sc, List.getElem?_append_right (Nat.le_refl _), Nat.sub_self]; rfl, fun a ha => by show _ ≤ (upN v.o 0 o' a).done; rw [hdn]; exact h.key 0 a h0n ha, ?_⟩
        rw [h.sc, ← hk0]; unfold Os.known; constructor <;> omega
    · have hit : (upN v.made 0 _ k)[m]? = some it := hit
      rw [upN_ne v.made _ e] at hit ⊢
      exact old m it hit
  · exact (upN_case (p := fun k (l : List Itm) => dC l = dC (v.made k)) k (fun _ => rfl) fun _ => by rw [dC_app, dC_s]; rfl).trans (h.dc k hk)
  · show sC (upN v.made 0 (v.made 0 ++ [sIt ((v.o 0).known + 1) (v.o 0).pre x]) 0) = _
    rw [upN_same, sC_app, sC_s, h.sc, List.length_append]; rfl
  · show SeqOk v.n ((G ++ [x]) ++ (upN v.o 0 o' 0).queue)
    rw [upN_same, f7, eG]; exact h.gq
  · show cnt _ ((G ++ [x]) ++ (upN v.o 0 o' 0).queue) = (upN v.o 0 o' 0).taken _
    rw [htn, upN_same, f7, eG]; exact h.gt k hk
  · show (upN v.o 0 o' k).queue = []
    rw [upN_ne _ _ hk0]; exact h.qe k hk hk0
  · show (upN v.o 0 o' a).pre ≤ (upN v.o 0 o' k).done
    rw [hdn]
    exact upN_case (p := fun a (o : Os) => o.pre ≤ (v.o k).done) a (fun _ => h.key a k ha hk) fun e => by rw [f3, ← e]; exact h.key a k ha hk
  · show (upN v.o 0 o' a).told (pidN k) ≤ (upN v.o 0 o' k).done
    rw [hdn]
    exact upN_case (p := fun a (o : Os) => o.told (pidN k) ≤ (v.o k).done) a (fun _ => h.to a k ha hk hne) fun e => by rw [f4, ← e]; exact h.to a k ha hk hne
  · exact (h.tr k hk t ht).more hk fun k _ => Nat.le_of_eq (hdn k).symm
  · show (v.log k).length = (upN v.o 0 o' k).done ∧ _
    rw [hdn]; exact ⟨(h.lg k hk).1, (h.lg k hk).2.more _⟩
  · show (upN v.o 0 o' k).done ≤ _
    rw [hdn]; exact h.ln k hk
theorem CI.tell (h : CI v G T) {i : Nat} (hi : i < v.n) : CI { v with told := upN v.told i (v.told i ++ [⟨(v.o i).id, (v.o i).done, (v.o i).pre⟩]) } G T :=
  ⟨h.n1, h.n4, h.w1, h.w4, h.mi, h.frz, h.own, h.tk, h.k0, h.kn, h.hd, h.it, h.dc, h.sc, h.gq, h.gt, h.qe, h.key, h.to, fun k hk => upN_case (p := fun k (l : List Stb) => ∀ t ∈ l, RecOk v.n (fun k => (v.o k).done) k t) k (fun _ => h.tr k hk) fun _ t ht => by
    rcases List.mem_append.1 ht with ht | ht
    · exact h.tr i hi t ht
    · rw [List.mem_singleton.1 ht]
      exact ⟨(h.mi i hi).id, (v.o i).done, (v.o i).pre, rfl, rfl, (h.mi i hi).pd, Nat.le_refl _, fun k hk => h.key i k hi hk⟩, h.lg, h.ln, h.lo, h.se, h.sb, h.fr, h.sr⟩
theorem leastTo_told (o : Os) : ∀ (l : List Nat) (m : Nat) (q : Nat), q ∈ l → q ≠ o.self → leastTo o l m ≤ o.told q
  | [], m, q, h, _ => by cases h
  | p :: l, m, q, h, hq => by
    rw [leastTo]
    rcases List.mem_cons.1 h with rfl | h
    · refine Nat.le_trans (leastTo_le o l _) ?_
      rw [if_neg hq]; exact Nat.min_le_right _ _
    · exact leastTo_told o l _ q h hq
theorem CI.least (h : CI v G T) {i : Nat} (hi : i < v.n) : ∀ k, k < v.n → (v.o i).least ≤ (v.o k).done := fun k hk => by
  by_cases e : k = i
  · subst e; exact least_le _
  · refine Nat.le_trans (leastTo_told _ _ _ (pidN k) ?_ ?_) (h.to i k hi hk fun e' => e e'.symm)
    · rw [(h.mi i hi).mem]; unfold pidsN; exact List.mem_map.2 ⟨k, List.mem_range.2 hk, rfl⟩
    · rw [(h.mi i hi).self]; exact fun e' => e (pidN_inj e')
theorem upN_upN {α : Type} (f : Nat → α) (k : Nat) (a b : α) : upN (upN f k a) k b = upN f k b := by
  funext j; unfold upN; split <;> rfl
theorem CI.rise' (h : CI v G T) {i : Nat} (hi : i < v.n) {m : Nat} {o' : Os} (h1 : CI { v with o := upN v.o i o' } G T) (hm : ∀ k, k < v.n → m ≤ (upN v.o i o' k).done) : CI { v with o := upN v.o i (o'.rise m) } G T := by
  have h2 := h1.rise hi hm
  have e : (upN (upN v.o i o') i ((upN v.o i o' i).rise m)) = upN v.o i (o'.rise m) := by rw [upN_upN, upN_same]
  show CI { v with o := _ } G T
  rw [← e]; exact h2
theorem CI.riseL (h : CI v G T) {i : Nat} (hi : i < v.n) {o' : Os} (h1 : CI { v with o := upN v.o i o' } G T) : CI { v with o := upN v.o i (o'.rise o'.least) } G T :=
  h.rise' hi h1 fun k hk => by have := h1.least hi k hk; rwa [show ({ v with o := upN v.o i o' } : Crw).o i = o' from upN_same _ _ _] at this
theorem CI.hear (h : CI v G T) (hT : T ≤ 100000) {i j : Nat} (hi : i < v.n) (hj : j < v.n) (hne : i ≠ j) {t : Stb} (ht : t ∈ v.told i) (hf : (v.o j).frz = false) :
    ∃ o', (v.o j).hear (pidN i) t = (0, o') ∧ CI { v with o := upN v.o j o' } G T ∧ o'.seen (pidN i) = true := by
  obtain ⟨h1, d, p, h2, h3, h4, h5, h6⟩ := h.tr i hi t ht
  have hmi := h.mi j hj
  have hme : hasB (v.o j).mem (pidN i : Int) = true := by
    rw [hasB_nat, hmi.mem]; unfold pidsN; exact decide_eq_true (List.mem_map.2 ⟨i, List.mem_range.2 hi, rfl⟩)
  have hpd : p ≤ (v.o j).done := h6 j hj
  have h5 : d ≤ (v.o i).done := h5
  have hl := h.len
  rw [List.length_append] at hl
  have k1 := (h.mi i hi).kg
  have k2 := (h.mi i hi).dk
  have c1 : CI { v with o := upN v.o j ((v.o j).heard (pidN i) d) } G T := by
    refine h.setO' hj _ ⟨hmi.id, hmi.mem, hmi.self, hmi.win, hmi.kg, hmi.pd, hmi.dk, hmi.sl, hmi.pl, hmi.gn, hmi.tk, hmi.tz, hmi.he, hmi.hh, hmi.nd, hmi.mine, hmi.dl⟩ rfl rfl rfl rfl rfl (fun k hk => h.key j k hj hk) (fun k hk hjk => ?_) (Nat.le_refl _)
    show upN (v.o j).told (pidN i) (max ((v.o j).told (pidN i)) d) (pidN k) ≤ _
    by_cases e : k = i
    · subst e; rw [upN_same]; have := h.to j k hj hk hjk; omega
    · rw [upN_ne _ _ fun e2 => e (pidN_inj e2)]; exact h.to j k hj hk hjk
  have c2 := h.rise' hj c1 (m := p) fun k hk => upN_case (p := fun k (o : Os) => p ≤ o.done) k (fun _ => h6 k hk) fun _ => hpd
  have c3 := h.riseL hj c2
  refine ⟨_, ?_, c3, ?_⟩
  · unfold Os.hear
    rw [if_neg (by rw [hme, hmi.self]; rintro (e | e); exact absurd e (by simp); exact hne (pidN_inj (by exact_mod_cast e))), if_neg (by rw [h2, h3]; omega), if_neg (by rw [h1, hmi.id]; simp), if_neg (by rw [hf]; simp), if_neg (by rw [h3]; omega), h2, h3]
    rfl
  · rw [(rise_keeps _ _).seen, (rise_keeps _ _).seen]
    show upN _ _ _ _ = _
    exact upN_same _ _ _
theorem CI.freeze (h : CI v G T) {i : Nat} (hi : i < v.n) : CI { v with o := upN v.o i { v.o i with frz := true }, stop := upN v.stop i true } G T := by
  have m := h.mi i hi
  have M : MI v.n v.win G v.sent i { v.o i with frz := true } := ⟨m.id, m.mem, m.self, m.win, m.kg, m.pd, m.dk, m.sl, m.pl, m.gn, m.tk, m.tz, m.he, m.hh, m.nd, m.mine, m.dl⟩
  obtain ⟨o', ho⟩ : ∃ o' : Os, o' = { v.o i with frz := true } := ⟨_, rfl⟩
  rw [← ho] at M ⊢
  have F : o'.frz = true ∧ o'.done = (v.o i).done ∧ o'.pre = (v.o i).pre ∧ o'.told = (v.o i).told ∧ o'.taken = (v.o i).taken ∧ o'.queue = (v.o i).queue ∧ o'.known = (v.o i).known := by
    rw [ho]; exact ⟨rfl, rfl, rfl, rfl, rfl, rfl, rfl⟩
  obtain ⟨f1, f2, f3, f4, f6, f7, f5⟩ := F
  have hdn : ∀ k, (upN v.o i o' k).done = (v.o k).done := fun k => upN_case (p := fun k (o : Os) => o.done = (v.o k).done) k (fun _ => rfl) fun _ => f2
  have htn : ∀ k, (upN v.o i o' k).taken = (v.o k).taken := fun k => upN_case (p := fun k (o : Os) => o.taken = (v.o k).taken) k (fun _ => rfl) fun _ => f6
  have hqn : ∀ k, (upN v.o i o' k).queue = (v.o k).queue := fun k => upN_case (p := fun k (o : Os) => o.queue = (v.o k).queue) k (fun _ => rfl) fun _ => f7
  have hkn : ∀ k, (upN v.o i o' k).known = (v.o k).known := fun k => upN_case (p := fun k (o : Os) => o.known = (v.o k).known) k (fun _ => rfl) fun _ => f5
  have hpn : ∀ k, (upN v.o i o' k).pre = (v.o k).pre := fun k => upN_case (p := fun k (o : Os) => o.pre = (v.o k).pre) k (fun _ => rfl) fun _ => f3
  have hon : ∀ k, (upN v.o i o' k).told = (v.o k).told := fun k => upN_case (p := fun k (o : Os) => o.told = (v.o k).told) k (fun _ => rfl) fun _ => f4
  refine ⟨h.n1, h.n4, h.w1, h.w4, fun k hk => upN_case (p := fun k (o : Os) => MI v.n v.win G v.sent k o) k (fun _ => h.mi k hk) fun _ => M, fun k hk => ?_, fun k hk => by show (upN v.o i o' k).taken _ = _; rw [htn]; exact h.own k hk, fun k a hk ha hka => by show (upN v.o i o' k).taken _ = _; rw [htn]; exact h.tk k a hk ha hka,
    by show (upN v.o i o' 0).known = _; rw [hkn]; exact h.k0, fun k hk h0 => by show (upN v.o i o' k).known = _; rw [hkn]; exact h.kn k hk h0, h.hd, fun k hk m it hit => ?_, h.dc, h.sc, by rw [hqn]; exact h.gq, fun k hk => by rw [hqn, htn]; exact h.gt k hk, fun k hk hk0 => by rw [hqn]; exact h.qe k hk hk0, fun a k ha hk => by rw [hpn, hdn]; exact h.key a k ha hk, fun a k ha hk hne => by rw [hon, hdn]; exact h.to a k ha hk hne, fun k hk t ht => ?_, fun k hk => ?_, fun k hk => ?_, h.lo, h.se, h.sb, fun k a hk ha => upN_case (p := fun k (o : Os) => o.taken (pidN a) ≤ v.win + o.gone (pidN a)) k (fun _ => h.fr k a hk ha) (fun _ => by rw [ho]; exact h.fr i a hi ha), fun k hk => upN_case (p := fun k (o : Os) => o.slots.length ≤ v.n * v.win) k (fun _ => h.sr k hk) (fun _ => by rw [ho]; exact h.sr i hi)⟩
  · show (upN v.o i o' k).frz = upN v.stop i true k
    by_cases e : k = i
    · subst e; rw [upN_same, upN_same]; exact f1
    · rw [upN_ne _ _ e, upN_ne _ _ e]; exact h.frz k hk
  · have := (h.it k hk m it hit).more [] (List.prefix_refl _) (dn' := fun k => (upN v.o i o' k).done) (fun k _ => Nat.le_of_eq (hdn k).symm); rwa [List.append_nil] at this
  · exact (h.tr k hk t ht).more hk fun k _ => Nat.le_of_eq (hdn k).symm
  · show (v.log k).length = (upN v.o i o' k).done ∧ _
    rw [hdn]; exact h.lg k hk
  · show (upN v.o i o' k).done ≤ _
    rw [hdn]; exact h.ln k hk
end
end Go.Proofs.Ytoilipfgimcoiaa
namespace Go.Proofs.Ytoilipfgimcoiaa
open Go Go.RowKit
section
variable {v : Crw} {G : List Sl} {T : Nat}
theorem CI.isMem (h : CI v G T) {i j : Nat} (hi : i < v.n) (hj : j < v.n) : hasB (v.o j).mem (pidN i : Int) = true := by
  rw [hasB_nat, (h.mi j hj).mem]; unfold pidsN; exact decide_eq_true (List.mem_map.2 ⟨i, List.mem_range.2 hi, rfl⟩)
theorem CI.itOk (h : CI v G T) (hT : T ≤ 100000) {i j : Nat} (hi : i < v.n) (hj : j < v.n) {m : Nat} {it : Itm} (hit : (v.made i)[m]? = some it) : it.ok = true := by
  have hl := h.len
  rw [List.length_append] at hl
  have k1 := (h.mi j hj).kg
  have k2 := (h.mi j hj).dk
  have hse := h.se i hi
  have n4 := h.n4
  refine Itm.ok_t ?_
  rcases h.it i hi m it hit with ⟨st, b, rfl, h2, h3, h4, h5⟩ | ⟨h0, sb, x, rfl, h2, h3, h4, h5⟩
  · have hlt := (List.getElem?_eq_some_iff.1 h2).1
    have hb := h.sb i hi b (List.mem_of_getElem? h2)
    refine .inl ⟨rfl, ?_, ?_, ?_, ?_, ?_, ?_, ?_, rfl, rfl, rfl, rfl⟩
    · show (0 : Int) ≤ (pidN i : Nat); omega
    · show ((pidN i : Nat) : Int) < 16; unfold pidN; omega
    · show (1 : Int) ≤ ((dC ((v.made i).take m) + 1 : Nat) : Int); omega
    · show ((dC ((v.made i).take m) + 1 : Nat) : Int) ≤ _; omega
    · show (0 : Int) ≤ (st : Nat); omega
    · show ((st : Nat) : Int) ≤ _; omega
    · show (b.length : Int) ≤ 256; omega
  · have hlt := (List.getElem?_eq_some_iff.1 h2).1
    obtain ⟨a, ha, e⟩ := h.gq.left.s x (List.mem_of_getElem? h2)
    obtain ⟨q1, -, q2⟩ := h.gq.left.qle (List.mem_of_getElem? h2)
    refine .inr ⟨rfl, rfl, rfl, rfl, rfl, ?_, ?_, ?_, ?_, ?_, ?_, ?_, ?_⟩
    · show (1 : Int) ≤ ((sC ((v.made i).take m) + 1 : Nat) : Int); omega
    · show ((sC ((v.made i).take m) + 1 : Nat) : Int) ≤ _; omega
    · show (0 : Int) ≤ (sb : Nat); omega
    · show ((sb : Nat) : Int) < ((sC ((v.made i).take m) + 1 : Nat) : Int); omega
    · show (0 : Int) ≤ (x.s : Nat); omega
    · show ((x.s : Nat) : Int) < 16; unfold pidN at e; omega
    · show (1 : Int) ≤ (x.q : Nat); omega
    · show ((x.q : Nat) : Int) ≤ _; omega
theorem CI.carryF (h : CI v G T) (hT : T ≤ 100000) {i j : Nat} (hi : i < v.n) (hj : j < v.n) (hne : i ≠ j) {it : Itm} (hit : (v.made i)[v.had i j]? = some it) (hf : (v.o j).frz = true) : (v.o j).place (pidN i) it = (70, v.o j) := by
  unfold Os.place
  rw [if_neg (by rw [h.isMem hi hj, (h.mi j hj).self]; rintro (e | e); exact absurd e (by simp); exact hne (pidN_inj (by exact_mod_cast e))), if_neg (by rw [h.itOk hT hi hj hit]; simp), if_pos hf]
theorem CI.carry (h : CI v G T) (hT : T ≤ 100000) {i j : Nat} (hi : i < v.n) (hj : j < v.n) (hne : i ≠ j) {it : Itm} (hit : (v.made i)[v.had i j]? = some it) (hf : (v.o j).frz = false) :
    ∃ o', (v.o j).place (pidN i) it = (0, o') ∧ CI { v with o := upN v.o j o', had := hadN v.had i j } G T := by
  have pre : hasB (v.o j).mem (pidN i : Int) = false ∨ (pidN i : Int) = (v.o j).self → False := by rw [h.isMem hi hj, (h.mi j hj).self]; rintro (e | e); exact absurd e (by simp); exact hne (pidN_inj (by exact_mod_cast e))
  have hok := h.itOk hT hi hj hit
  have hplD : it.kd = 1 → (v.o j).place (pidN i) it = (v.o j).placeD (pidN i) ⟨it.s.toNat, it.q.toNat, it.st.toNat, it.b⟩ := fun e => by
    unfold Os.place
    rw [if_neg pre, if_neg (by rw [hok]; simp), if_neg (by rw [hf]; simp), if_pos e]; rfl
  have hplS : it.kd ≠ 1 → (v.o j).place (pidN i) it = (v.o j).placeS (pidN i) it.pos.toNat it.sb.toNat ⟨it.ss.toNat, it.sq.toNat⟩ := fun e => by
    unfold Os.place
    rw [if_neg pre, if_neg (by rw [hok]; simp), if_neg (by rw [hf]; simp), if_neg e]; rfl
  clear pre hok
  have hmi := h.mi j hj
  have n1 := h.n1
  have fin : ∀ (m : Nat) (o2 : Os) , CI { v with o := upN (upN v.o j ((v.o j).rise m)) j o2, had := hadN v.had i j } G T → CI { v with o := upN v.o j o2, had := hadN v.had i j } G T := fun m o2 hc => by
    rw [upN_upN] at hc; exact hc
  rcases h.it i hi _ it hit with ⟨st, b, rfl, h2, h3, h4, h5⟩ | ⟨h0, sb, x, rfl, h2, h3, h4, h5⟩
  · rw [hplD rfl]
    have h3 : ∀ k, k < v.n → st ≤ (v.o k).done := h3
    obtain ⟨r1, r2, r3⟩ := hmi.rise (h3 j hj)
    have K := rise_keeps (v.o j) st
    have c1 := h.rise hj h3
    have htk := h.tk j i hj hi fun e => hne e.symm
    have e1 : (upN v.o j ((v.o j).rise st)) j = (v.o j).rise st := upN_same _ _ _
    refine ⟨((v.o j).rise st).keep ⟨pidN i, ((v.o j).rise st).taken (pidN i) + 1, st, b⟩, ?_, ?_⟩
    · show (v.o j).placeD (pidN i) ⟨pidN i, dC _ + 1, st, b⟩ = _
      unfold Os.placeD
      rw [if_neg (by simp), if_neg (by rw [htk]; simp), if_neg (by have := h3 j hj; show ¬ (v.o j).done < st; omega), if_neg ?_]
      · rw [K.taken, htk]
      · show ¬ ((v.o j).win : Int) ≤ (((v.o j).rise st).taken (pidN i) : Int) - (((v.o j).rise st).gone (pidN i) : Int)
        rw [K.taken, htk, r1.gn, r2, hmi.win]
        have := cnt_mono (pidN i) G (Nat.le_max_right (v.o j).pre st)
        omega
    · refine fin st _ ?_
      have := c1.takeD hi hj hne (st := st) hit rfl h2 (by rw [show ({ v with o := upN v.o j ((v.o j).rise st) } : Crw).o j = (v.o j).rise st from e1, K.taken, htk, r1.gn, r2]; have := cnt_mono (pidN i) G (Nat.le_max_right (v.o j).pre st); show _ < v.win + _; omega)
      rw [show ({ v with o := upN v.o j ((v.o j).rise st) } : Crw).o j = (v.o j).rise st from e1] at this
      exact this
  · subst h0
    rw [hplS (by show (2 : Int) ≠ 1; decide)]
    have h3 : ∀ k, k < v.n → sb ≤ (v.o k).done := h3
    obtain ⟨r1, r2, r3⟩ := hmi.rise (h3 j hj)
    have K := rise_keeps (v.o j) sb
    have c1 := h.rise hj h3
    have hkn := h.kn j hj fun e => hne e.symm
    have hx : G[(v.o j).known]? = some x := by rw [hkn]; exact h2
    have e1 : (upN v.o j ((v.o j).rise sb)) j = (v.o j).rise sb := upN_same _ _ _
    refine ⟨((v.o j).rise sb).stand x, ?_, ?_⟩
    · show (v.o j).placeS (pidN 0) (sC _ + 1) sb ⟨x.s, x.q⟩ = _
      unfold Os.placeS
      have hhead : (v.o j).mem.head? = some (pidN 0) := by
        have := seq_iff h.n1 (h.mi 0 hi).mem (h.mi 0 hi).self
        unfold Os.seq at this
        simp at this
        rw [hmi.mem, ← (h.mi 0 hi).mem, this, (h.mi 0 hi).self]
      obtain ⟨a, ha, hxa⟩ := h.gq.left.s x (List.mem_of_getElem? h2)
      have hxm : hasB (v.o j).mem (x.s : Int) = true := by rw [hxa]; exact h.isMem ha hj
      rw [if_neg (by rw [hhead]; simp [hxm]), if_neg ?_, if_neg (by have := h3 j hj; omega), if_neg ?_]
      rotate_left
      · rw [hkn]
        rintro (e | e)
        · exact e rfl
        · refine e ?_
          show x.q = _
          rw [hmi.pl, hkn]
          exact h.gq.left.q _ x h2
      · have e2 : ((v.o j).rise sb).slots.length + ((v.o j).rise sb).pre = (v.o j).known := by rw [← r3]; unfold Os.known; omega
        have e3 : (v.o j).most = v.n * v.win := by
          unfold Os.most; rw [hmi.mem, hmi.win]; unfold pidsN; simp
        rw [e3]
        omega
    · refine fin sb _ ?_
      have hkk : ((v.o j).rise sb).slots.length < v.n * v.win := by
        have e2 : ((v.o j).rise sb).slots.length + ((v.o j).rise sb).pre = (v.o j).known := by rw [← r3]; unfold Os.known; omega
        omega
      have := c1.takeS hj hne (x := x) hit rfl h2 (by rw [show ({ v with o := upN v.o j ((v.o j).rise sb) } : Crw).o j = (v.o j).rise sb from e1]; exact hkk)
      rw [show ({ v with o := upN v.o j ((v.o j).rise sb) } : Crw).o j = (v.o j).rise sb from e1] at this
      exact this
def isI (y : ISl) : Itm := sIt y.pos y.sb y.x
theorem CI.rmA (h : CI v G T) (hT : T ≤ 100000) : RmA (v.o 0) := by
  have hl := h.len
  rw [List.length_append] at hl
  have h0 := h.mi 0 h.n1
  have k0 := h.k0
  refine ⟨fun s => ?_, by omega, fun s => ?_⟩
  · rw [h0.pl]; have := cnt_le s (G.take (v.o 0).known); rw [List.length_take] at this; omega
  · rw [h0.gn]; have := cnt_le s (G.take (v.o 0).pre); rw [List.length_take] at this; unfold Os.known at k0; omega
theorem CI.assign (h : CI v G T) (hT : T ≤ 100000) : ∀ k, k ≤ (v.o 0).queue.length → k + (v.o 0).slots.length ≤ v.n * v.win →
    CI { v with o := upN v.o 0 ((v.o 0).asgK k), made := upN v.made 0 (v.made 0 ++ ((v.o 0).asgL k).map isI) } (G ++ (v.o 0).queue.take k) T
  | 0, _, _ => by
    rw [List.take_zero, List.append_nil]
    show CI { v with o := upN v.o 0 (v.o 0), made := upN v.made 0 (v.made 0 ++ []) } G T
    rw [List.append_nil, upN_id, upN_id]; exact h
  | k + 1, hk, hm => by
    have ih := h.assign hT k (by omega) (by omega)
    obtain ⟨-, -, F⟩ := asgK_facts (h.wf hT h.n1) (h.rmA hT) k (by omega)
    obtain ⟨x, hx⟩ : ∃ x, (v.o 0).queue[k]? = some x := ⟨_, List.getElem?_eq_getElem (by omega)⟩
    have hq : ((v.o 0).asgK k).queue = x :: (v.o 0).queue.drop (k + 1) := by
      rw [F.q, List.drop_eq_getElem_cons (by omega)]
      congr 1
      exact (List.getElem?_eq_some_iff.1 hx).2
    have e1 : upN v.o 0 ((v.o 0).asgK k) 0 = (v.o 0).asgK k := upN_same _ _ _
    have hroom : ((v.o 0).asgK k).slots.length < v.n * v.win := by rw [F.s, List.length_append, List.length_take]; omega
    have := ih.give (x := x) (q := (v.o 0).queue.drop (k + 1)) (by show (upN v.o 0 ((v.o 0).asgK k) 0).queue = _; rw [e1]; exact hq) (by show (upN v.o 0 ((v.o 0).asgK k) 0).slots.length < _; rw [e1]; exact hroom)
    have e2 : ({ v with o := upN v.o 0 ((v.o 0).asgK k), made := upN v.made 0 (v.made 0 ++ ((v.o 0).asgL k).map isI) } : Crw).o 0 = (v.o 0).asgK k := e1
    rw [e2] at this
    rw [take_one hx, ← List.append_assoc]
    have e3 : ((v.o 0).asgL (k + 1)).map isI = ((v.o 0).asgL k).map isI ++ [sIt (((v.o 0).asgK k).known + 1) ((v.o 0).asgK k).pre x] := by
      rw [Os.asgL, List.map_append, hx, F.kn, F.pre]; rfl
    rw [e3]
    have e4 : upN (upN v.o 0 ((v.o 0).asgK k)) 0 ((v.o 0).asgK k).asg1 = upN v.o 0 ((v.o 0).asgK (k + 1)) := by rw [upN_upN]; rfl
    have e5 : upN (upN v.made 0 (v.made 0 ++ ((v.o 0).asgL k).map isI)) 0 (upN v.made 0 (v.made 0 ++ ((v.o 0).asgL k).map isI) 0 ++ [sIt (((v.o 0).asgK k).known + 1) ((v.o 0).asgK k).pre x]) = upN v.made 0 (v.made 0 ++ (((v.o 0).asgL k).map isI ++ [sIt (((v.o 0).asgK k).known + 1) ((v.o 0).asgK k).pre x])) := by
      rw [upN_upN, upN_same, List.append_assoc]
    rw [← e4, ← e5]
    exact this
def grow1 (long : List Mg) (p : Nat) (m : Mg) : List Mg := if p < long.length then long else long ++ [m]
def growS (long : List Mg) (p : Nat) : List Mg → List Mg
  | [] => long
  | m :: ms => growS (grow1 long p m) (p + 1) ms
theorem growS_snoc (m : Mg) : ∀ (ms : List Mg) (long : List Mg) (p : Nat), growS long p (ms ++ [m]) = grow1 (growS long p ms) (p + ms.length) m
  | [], long, p => rfl
  | a :: ms, long, p => by
    rw [List.cons_append, growS, growS, growS_snoc m ms, List.length_cons]
    congr 1; omega
theorem growS_ok {G : List Sl} : ∀ (ms : List Mg) (long : List Mg) (p : Nat), LogOk G long → p ≤ long.length → (∀ (k : Nat) (m : Mg), ms[k]? = some m → ∃ x, G[p + k]? = some x ∧ m.s = x.s ∧ m.q = x.q) →
    LogOk G (growS long p ms) ∧ p + ms.length ≤ (growS long p ms).length ∧ long.length ≤ (growS long p ms).length
  | [], long, p, h1, h2, _ => ⟨h1, by simpa [growS] using h2, by simp [growS]⟩
  | m :: ms, long, p, h1, h2, h3 => by
    obtain ⟨x, hx, e1, e2⟩ := h3 0 m rfl
    have g1 : LogOk G (grow1 long p m) ∧ p + 1 ≤ (grow1 long p m).length ∧ long.length ≤ (grow1 long p m).length := by
      unfold grow1
      split
      · exact ⟨h1, by omega, Nat.le_refl _⟩
      · obtain rfl : p = long.length := by omega
        exact ⟨h1.snoc (by simpa using hx) e1 e2, by simp, by simp⟩
    obtain ⟨a, b, c⟩ := growS_ok ms (grow1 long p m) (p + 1) g1.1 g1.2.1 fun k m' hm' => by
      have := h3 (k + 1) m' (by simpa using hm')
      rwa [show p + (k + 1) = p + 1 + k by omega] at this
    rw [growS]
    exact ⟨a, by rw [List.length_cons]; omega, by omega⟩
theorem LogOk.cnt {G : List Sl} (s : Nat) : ∀ (l : List Mg), LogOk G l → l.countP (fun m => decide (m.s = s)) = cnt s (G.take l.length) := fun l h => by
  have key : ∀ k, k ≤ l.length → (l.take k).countP (fun m => decide (m.s = s)) = Go.Proofs.Ytoilipfgimcoiaa.cnt s (G.take k) := fun k => by
    induction k with
    | zero => intro _; simp [cnt_nil]
    | succ k ih =>
      intro hk
      obtain ⟨m, hm⟩ : ∃ m, l[k]? = some m := ⟨_, List.getElem?_eq_getElem (by omega)⟩
      obtain ⟨x, hx, e1, -⟩ := h k m hm
      rw [take_one hm, take_one hx, List.countP_append, cnt_app, ih (by omega), cnt_one]
      congr 1
      by_cases e : x.s = s <;> simp [e1, e]
  have := key l.length (Nat.le_refl _)
  rwa [List.take_length] at this
structure MgOk (v : Crw) (G : List Sl) (p : Nat) (m : Mg) : Prop where
  pos : m.p = p + 1
  ex : ∃ (x : Sl) (j : Nat), G[p]? = some x ∧ j < v.n ∧ m.s = pidN j ∧ m.s = x.s ∧ m.q = x.q ∧ 1 ≤ m.q ∧ m.q ≤ (v.sent j).length ∧ (v.sent j)[m.q - 1]? = some m.b
  seq : m.q = cnt m.s (G.take p) + 1
theorem CI.dlv (h : CI v G T) {i : Nat} (hi : i < v.n) {ms : List Mg} {o1 : Os} (hd : Dlv (v.o i) ms o1) :
    MI v.n v.win G v.sent i o1 ∧ o1.done = (v.o i).done + ms.length ∧ o1.pre = (v.o i).pre ∧ o1.known = (v.o i).known ∧ o1.taken = (v.o i).taken ∧ o1.frz = (v.o i).frz ∧ o1.queue = (v.o i).queue ∧ o1.told = (v.o i).told ∧ ∀ (k : Nat) (m : Mg), ms[k]? = some m → MgOk v G ((v.o i).done + k) m := by
  induction hd with
  | nil => exact ⟨h.mi i hi, rfl, rfl, rfl, rfl, rfl, rfl, rfl, fun k m hm => by simp at hm⟩
  | @snoc ms o2 o3 m hd hn ih =>
    obtain ⟨a1, a2, a3, a4, a5, a6, a7, a8, a9⟩ := ih
    obtain ⟨b1, b2, K, b4, b5, x, j, hx, hj, e1, e2, e3, e4, e5, e6, e7⟩ := a1.next hn
    rw [a2] at hx e4
    refine ⟨b1, by rw [b2, a2, List.length_append]; rfl, b4.trans a3, b5.trans a4, K.taken.trans a5, K.frz.trans a6, K.queue.trans a7, K.told.trans a8, fun k m' hm' => ?_⟩
    by_cases hk : k < ms.length
    · rw [List.getElem?_append_left hk] at hm'
      exact a9 k m' hm'
    · rw [List.getElem?_append_right (by omega)] at hm'
      have hp0 := (List.getElem?_eq_some_iff.1 hm').1
      simp at hp0
      obtain rfl : k = ms.length := by omega
      rw [Nat.sub_self] at hm'
      injection hm' with hm'
      subst hm'
      have htk : o2.taken x.s ≤ (v.sent j).length := by rw [e1]; exact a1.tk j hj
      exact ⟨e4, ⟨x, j, hx, hj, by rw [e5]; exact e1, e5, e6, by omega, by omega, by rw [e6]; exact e7⟩, by rw [e6, e5]; exact h.gq.left.q _ x hx⟩
theorem CI.deliver (h : CI v G T) {i : Nat} (hi : i < v.n) {N : Int} {ms : List Mg} {o' : Os} (hd : DvAns (v.o i) N ms o') :
    CI { v with o := upN v.o i o', log := upN v.log i (v.log i ++ ms), long := growS v.long (v.o i).done ms } G T ∧ o'.done = (v.o i).done + ms.length ∧ ((v.o i).frz = true → ms = []) ∧ (0 < ms.length → (ms.length : Int) ≤ N) ∧ ∀ (k : Nat) (m : Mg), ms[k]? = some m → MgOk v G ((v.o i).done + k) m := by
  rcases hd with ⟨-, rfl, rfl⟩ | ⟨hf, hN, o1, hd, hl, -, rfl⟩
  · refine ⟨?_, rfl, fun _ => rfl, fun h => absurd h (by simp), fun k m hm => by simp at hm⟩
    rw [List.append_nil, upN_id, upN_id]; exact h
  · obtain ⟨a1, a2, a3, a4, a5, a6, a7, a8, a9⟩ := h.dlv hi hd
    have hlg := h.lg i hi
    have hg := growS_ok ms v.long (v.o i).done h.lo (h.ln i hi) fun k m hm => by
      obtain ⟨-, ⟨x, j, b1, -, -, b2, b3, -⟩, -⟩ := a9 k m hm
      exact ⟨x, b1, b2, b3⟩
    have hlo : LogOk G (v.log i ++ ms) := fun p m hm => by
      by_cases hp : p < (v.log i).length
      · rw [List.getElem?_append_left hp] at hm; exact hlg.2 p m hm
      · rw [List.getElem?_append_right (by omega)] at hm
        obtain ⟨-, ⟨x, j, b1, -, -, b2, b3, -⟩, -⟩ := a9 _ m hm
        rw [show (v.o i).done + (p - (v.log i).length) = p by omega] at b1
        exact ⟨x, b1, b2, b3⟩
    have c1 := h.setO hi o1 (v.log i ++ ms) (growS v.long (v.o i).done ms) a1 a6 a5 a4 a7 (by omega) (fun k hk => by rw [a3]; exact h.key i k hi hk) (fun j hj hne => by rw [a8]; exact h.to i j hi hj hne) ⟨by rw [List.length_append, hlg.1, a2], hlo⟩ ⟨by omega, hg.2.2⟩ hg.1 (by rw [a3]; exact Nat.le_refl _)
    refine ⟨?_, ?_, fun e => absurd (hf.symm.trans e) (by decide), fun _ => by omega, a9⟩
    · have hi' : i < ({ v with o := upN v.o i o1, log := upN v.log i (v.log i ++ ms), long := growS v.long (v.o i).done ms } : Crw).n := hi
      have c2 := c1.rise hi' (m := o1.least) fun k hk => by
        have := c1.least hi' k hk
        rwa [show ({ v with o := upN v.o i o1, log := upN v.log i (v.log i ++ ms), long := growS v.long (v.o i).done ms } : Crw).o i = o1 from upN_same _ _ _] at this
      have e : upN (upN v.o i o1) i ((upN v.o i o1 i).rise o1.least) = upN v.o i (o1.rise o1.least) := by rw [upN_upN, upN_same]
      rw [← e]
      exact c2
    · rw [(rise_keeps _ _).done]; exact a2
theorem CI.dvI (h : CI v G T) (hT : T ≤ 100000) {i : Nat} (hi : i < v.n) : DvI (v.o i) := by
  have m := h.mi i hi
  refine ⟨h.wf hT hi, m.pd, ?_, fun d hd => ?_⟩
  · rw [m.mine]
    have := cnt_le (pidN i) (G.take (v.o i).done)
    rw [List.length_take] at this; omega
  · obtain ⟨-, j, hj, -, -, -, h5⟩ := m.he d hd
    have := h.sb j hj d.b (List.mem_of_getElem? h5)
    omega
theorem CI.rm (h : CI v G T) (hT : T ≤ 100000) {i : Nat} (hi : i < v.n) : Rm (v.o i) := by
  have m := h.mi i hi
  have hl := h.len
  rw [List.length_append] at hl
  have k1 := m.kg
  refine ⟨m.dk, fun s => ?_, fun s => ?_, ?_⟩
  · have := taken_le m h.se s; omega
  · rw [m.pl]
    have := cnt_le s (G.take (v.o i).known)
    rw [List.length_take] at this; omega
  · by_cases h0 : i = 0
    · subst h0; omega
    · rw [h.qe i hi h0]; simp
def Crw.new (n win : Nat) : Crw := ⟨n, win, fun i => Os.new vdC (pidsN n) (pidN i) win, fun _ => [], fun _ => [], fun _ _ => 0, fun _ => [], fun _ => [], fun _ => false, []⟩
theorem CI.new {n win : Nat} (n1 : 1 ≤ n) (n4 : n ≤ 4) (w1 : 1 ≤ win) (w4 : win ≤ 4) : CI (Crw.new n win) [] 0 := by
  refine ⟨n1, n4, w1, w4, fun i hi => ⟨rfl, rfl, rfl, rfl, Nat.zero_le _, Nat.le_refl _, Nat.le_refl _, rfl, fun _ => rfl, fun _ => rfl, fun _ _ => Nat.zero_le _, fun _ _ => rfl, fun d hd => (List.not_mem_nil hd).elim, fun j q hj h1 h2 => ?_, List.nodup_nil, rfl, fun x hx => by simp at hx⟩, fun _ _ => rfl, fun _ _ => rfl, fun _ _ _ _ _ => rfl, rfl, fun _ _ _ => rfl, fun _ _ _ _ => Nat.le_refl _, fun i hi m it h => ?_, fun _ _ => rfl, rfl, SeqOk.nil n, fun _ _ => rfl, fun _ _ _ => rfl, fun _ _ _ _ => Nat.le_refl _, fun _ _ _ _ _ => Nat.le_refl _, fun _ _ t ht => (List.not_mem_nil ht).elim, fun _ _ => ⟨rfl, fun p m h => ?_⟩, fun _ _ => Nat.le_refl _, fun p m h => ?_, fun _ _ => Nat.le_refl _, fun _ _ b hb => (List.not_mem_nil hb).elim, fun _ _ _ _ => Nat.zero_le _, fun _ _ => Nat.zero_le _⟩
  · have h2 : q ≤ 0 := h2
    omega
  · have h : ([] : List Itm)[m]? = some it := h
    simp at h
  · have h : ([] : List Mg)[p]? = some m := h
    simp at h
  · have h : ([] : List Mg)[p]? = some m := h
    simp at h
end
end Go.Proofs.Ytoilipfgimcoiaa
