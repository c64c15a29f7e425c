/- What Rest answers, as plain functions. -/
import Derived.Test.YtcffhfcjfjfokaaData
import Derived.Test.YtcffhfcjfjfokaaLackr
namespace Go.Proofs.Ytcffhfcjfjfokaa
/-- The first of the first k messages with the slot's sender and number: its place. -/
def firstTo (ds : List Dt) (s : Int × Int) : Nat → Option Int
  | 0 => none
  | k + 1 => match firstTo ds s k with
    | some i => some i
    | none => match ds[k]? with
      | some d => if d.s = s.1 ∧ d.q = s.2 then some k else none
      | none => none
theorem firstTo_some {ds : List Dt} {s : Int × Int} : ∀ {k : Nat} {r : Int}, firstTo ds s k = some r → ∃ (i : Nat) (d : Dt), r = i ∧ i < k ∧ ds[i]? = some d ∧ d.s = s.1 ∧ d.q = s.2 ∧ upto (fun d => ¬ (d.s = s.1 ∧ d.q = s.2)) ds i
  | 0, r, h => by cases h
  | k + 1, r, h => by
    rw [firstTo] at h
    cases hk : firstTo ds s k with
    | some i =>
      rw [hk] at h; injection h with h; subst h
      obtain ⟨j, d, e, hj, r⟩ := firstTo_some hk
      exact ⟨j, d, e, by omega, r⟩
    | none =>
      rw [hk] at h
      dsimp only at h
      cases hd : ds[k]? with
      | none => rw [hd] at h; cases h
      | some d =>
        rw [hd] at h
        dsimp only at h
        split at h
        · rename_i hc
          injection h with h
          exact ⟨k, d, h.symm, by omega, hd, hc.1, hc.2, firstTo_none hk⟩
        · cases h
where firstTo_none {ds : List Dt} {s : Int × Int} : ∀ {k : Nat}, firstTo ds s k = none → upto (fun d => ¬ (d.s = s.1 ∧ d.q = s.2)) ds k
  | 0, _ => upto_zero _ _
  | k + 1, h => by
    rw [firstTo] at h
    cases hk : firstTo ds s k with
    | some i => rw [hk] at h; cases h
    | none =>
      rw [hk] at h
      dsimp only at h
      refine upto_succ (firstTo_none hk) fun d hd => ?_
      rw [hd] at h
      dsimp only at h
      split at h
      · cases h
      · assumption
/-- The message for a slot: the first of its sender and number. -/
def FirstD (ds : List Dt) (s : Int × Int) (d : Dt) : Prop := ∃ i : Nat, ds[i]? = some d ∧ d.s = s.1 ∧ d.q = s.2 ∧ upto (fun d => ¬ (d.s = s.1 ∧ d.q = s.2)) ds i
theorem firstD_one {ds : List Dt} {s : Int × Int} {d d' : Dt} (h : FirstD ds s d) (k : FirstD ds s d') : d = d' := by
  obtain ⟨i, a1, a2, a3, a4⟩ := h
  obtain ⟨j, b1, b2, b3, b4⟩ := k
  rcases Nat.lt_trichotomy i j with hlt | e | hgt
  · exact absurd ⟨a2, a3⟩ (b4 i d hlt a1)
  · subst e; rw [a1] at b1; injection b1
  · exact absurd ⟨b2, b3⟩ (a4 j d' hgt b1)
/-- The messages of the k positions behind done, as Rest lists them. -/
inductive RestTo (F : Int → Option (Int × Int)) (ds : List Dt) (done : Int) : Nat → List Dt → Prop
  | nil : RestTo F ds done 0 []
  | snoc {k : Nat} {l : List Dt} {s : Int × Int} {d : Dt} (h : RestTo F ds done k l) (hs : F (done + 1 + k) = some s) (hd : FirstD ds s d) : RestTo F ds done (k + 1) (l ++ [⟨done + 1 + k, s.1, s.2, d.body⟩])
theorem restTo_one {F : Int → Option (Int × Int)} {ds : List Dt} {done : Int} : ∀ {k : Nat} {l l' : List Dt}, RestTo F ds done k l → RestTo F ds done k l' → l = l'
  | 0, _, _, .nil, .nil => rfl
  | k + 1, _, _, .snoc h hs hd, .snoc h' hs' hd' => by
    rw [restTo_one h h']
    rw [hs] at hs'; injection hs' with hs'; subst hs'
    rw [firstD_one hd hd']
/-- At one of the positions the message is not at hand. -/
def RestLacks (F : Int → Option (Int × Int)) (ds : List Dt) (done : Int) (k : Nat) : Prop := ∃ (j : Nat) (s : Int × Int), j < k ∧ F (done + 1 + j) = some s ∧ ∀ d ∈ ds, ¬ (d.s = s.1 ∧ d.q = s.2)
theorem restTo_at {F : Int → Option (Int × Int)} {ds : List Dt} {done : Int} : ∀ {k : Nat} {l : List Dt}, RestTo F ds done k l → ¬ RestLacks F ds done k
  | 0, _, _ => fun ⟨j, _, hj, _⟩ => by omega
  | k + 1, _, .snoc h hs hd => fun ⟨j, s, hj, hF, hn⟩ => by
    by_cases e : j = k
    · subst e
      rw [hs] at hF; injection hF with hF; subst hF
      obtain ⟨i, a1, a2, a3, _⟩ := hd
      exact hn _ (List.mem_of_getElem? a1) ⟨a2, a3⟩
    · exact restTo_at h ⟨j, s, by omega, hF, hn⟩
/-- What Rest answers: the messages and 0, or none and the error. -/
def RestIs (done : Int) (fs : List Fl) (ds ms : List Dt) (n : Int) : Prop :=
  if 0 ≤ done ∧ done ≤ 4611686018427387904 then
    (∃ m, m ≠ 0 ∧ Listed fs m ∧ n = m ∧ ms = []) ∨
    (Listed fs 0 ∧ Fit fs ∧ done < baseOf fs ∧ n = 82 ∧ ms = []) ∨
    (Listed fs 0 ∧ Fit fs ∧ baseOf fs ≤ done ∧ ∃ (cut : Int) (F : Int → Option (Int × Int)), IsCut fs cut ∧ (∀ pos s, F pos = some s ↔ Known fs pos s) ∧
      ((n = 0 ∧ RestTo F ds done (cut - done).toNat ms) ∨ (n = 81 ∧ ms = [] ∧ RestLacks F ds done (cut - done).toNat)))
  else n = 1 ∧ ms = []
theorem rest_one {done : Int} {fs : List Fl} {ds ms ms' : List Dt} {n n' : Int} (h : RestIs done fs ds ms n) (k : RestIs done fs ds ms' n') : ms = ms' ∧ n = n' := by
  unfold RestIs at h k
  by_cases hd : 0 ≤ done ∧ done ≤ 4611686018427387904
  · rw [if_pos hd] at h k
    rcases h with ⟨m, hm, hL, rfl, rfl⟩ | ⟨hL, hf, hlt, rfl, rfl⟩ | ⟨hL, hf, hge, cut, F, hc, hF, hr⟩ <;>
      rcases k with ⟨m', hm', hL', rfl, rfl⟩ | ⟨hL', hf', hlt', rfl, rfl⟩ | ⟨hL', hf', hge', cut', F', hc', hF', hr'⟩
    · exact ⟨rfl, listed_one hL hL'⟩
    · exact absurd (listed_one hL hL') hm
    · exact absurd (listed_one hL hL') hm
    · exact absurd (listed_one hL' hL) hm'
    · exact ⟨rfl, rfl⟩
    · omega
    · exact absurd (listed_one hL' hL) hm'
    · omega
    · obtain rfl := cut_one hc hc'
      have : F = F' := funext fun pos => Option.ext fun s => by rw [hF pos s, hF' pos s]
      subst this
      rcases hr with ⟨rfl, h1⟩ | ⟨rfl, rfl, h1⟩ <;> rcases hr' with ⟨rfl, h2⟩ | ⟨rfl, rfl, h2⟩
      · exact ⟨restTo_one h1 h2, rfl⟩
      · exact absurd h2 (restTo_at h1)
      · exact absurd h1 (restTo_at h2)
      · exact ⟨rfl, rfl⟩
  · rw [if_neg hd] at h k
    exact ⟨by rw [h.2, k.2], by rw [h.1, k.1]⟩
end Go.Proofs.Ytcffhfcjfjfokaa
