/- Duty Rduty SameIn SameSl Untouched SameFls, joined. -/
import Derived.Laws.EntriesVeiled
import Derived.StillTailTactics
import Derived.Test.YtcffhfcjfjfokaaSv5
import Derived.Test.YtcffhfcjfjfokaaSv6
import Derived.Test.YtcffhfcjfjfokaaSv10
import Derived.Test.YtcffhfcjfjfokaaSv12
import Derived.Test.YtcffhfcjfjfokaaSv14
set_option linter.unusedVariables false
set_option linter.unusedSimpArgs false
/- What Duty answers. -/
namespace Go.Proofs.Ytcffhfcjfjfokaa
open Go.RowKit
theorem PlArr.ok {who : List Int} {arr : List Int} (h : PlArr who who.length arr) : WhoOk who := by
  refine ⟨fun x hx => ?_, nodup_of_apart (k := who.length) (fun i j x y hij hj hx hy e => ?_) (Nat.le_refl _)⟩
  · obtain ⟨i, hi, rfl⟩ := List.getElem_of_mem hx
    obtain ⟨a, b, _⟩ := h.put i _ hi (List.getElem?_eq_getElem hi)
    exact ⟨a, b⟩
  · subst e
    have h1 := (h.put i x (by omega) hx).2.2
    have h2 := (h.put j x hj hy).2.2
    rw [h1] at h2
    simp at h2; omega
def DutyHead (self q : Int) (who : List Int) (fs : List Fl) : Prop := who.length = fs.length ∧ self ≠ q ∧ WhoOk who ∧ self ∈ who ∧ q ∈ who
def DutyIs (self q : Int) (who : List Int) (fs : List Fl) (l : List (Int × Int)) (n : Int) : Prop :=
  (¬ DutyHead self q who fs ∧ n = 1 ∧ l = []) ∨
  (DutyHead self q who fs ∧ ∃ m, m ≠ 0 ∧ Listed fs m ∧ n = m ∧ l = []) ∨
  (DutyHead self q who fs ∧ Listed fs 0 ∧ Fit fs ∧ n = 0 ∧ ∃ (cut : Int) (F : Int → Option (Int × Int)) (iy : Nat) (g : Fl), IsCut fs cut ∧ (∀ pos s, F pos = some s ↔ Known fs pos s) ∧ who[iy]? = some q ∧ fs[iy]? = some g ∧
      l = pickTo F (fun s => !havB g.have_ s.1 s.2 && firstB who (hadL fs s.1 s.2) self) (baseOf fs) (cut - baseOf fs).toNat)
def DutyPost (self q : Int) (who : List Int) (fs : List Fl) (w : World) (x : Ending) (w' : World) : Prop :=
  (∃ B c l n, x = .returned (.tuple #[.slice B l.length c, .int .i64 n]) ∧ DutyIs self q who fs l n ∧ Owns w' w.heap.size 66 2 eSlot B c l) ∧ Below w.heap.size w w'
theorem duty_none {self q : Int} {who : List Int} {fs : List Fl} {w w' : World} {n : Int} (h : DutyIs self q who fs [] n) (hb : Below w.heap.size w w') : DutyPost self q who fs w (.returned (.tuple #[.slice none 0 0, .int .i64 n])) w' :=
  ⟨⟨none, 0, [], n, rfl, h, owns_nil _ _ _ _ _⟩, hb⟩
theorem duty_bad {self q : Int} {who : List Int} {fs : List Fl} (h : ¬ DutyHead self q who fs) : DutyIs self q who fs [] 1 := .inl ⟨h, rfl, rfl⟩
abbrev dutyW (w : World) (self q : Int) (A : Option Addr) (n cA : Nat) : World := box3 w #[.int .i64 self] 3 #[.int .i64 q] 3 #[.slice A n cA] 22
theorem dutyW_facts {w wr : World} {self q : Int} {A : Option Addr} {n cA : Nat} (hb : Below (w.heap.size + 3) (dutyW w self q A n cA) wr) :
    Below w.heap.size w wr ∧ wr.cell? ⟨w.heap.size, 0, none⟩ = some (.int .i64 self) ∧ wr.cell? ⟨w.heap.size + 1, 0, none⟩ = some (.int .i64 q) ∧ wr.cell? ⟨w.heap.size + 2, 0, none⟩ = some (.slice A n cA) ∧ w.heap.size + 3 ≤ wr.heap.size := by
  have hs := hb.size
  simp at hs
  refine ⟨(below_box3 w _ _ _ _ _ _).trans (hb.mono (by omega)), ?_, ?_, ?_, hs⟩
  · rw [hb.cell (p := ⟨w.heap.size, 0, none⟩) (by show w.heap.size < _; omega), World.cell?_alloc_past _ _ _ (by simp; omega), World.cell?_alloc_past _ _ _ (by simp)]
    exact World.cell?_alloc_at _ _ _ _ rfl
  · rw [hb.cell (p := ⟨w.heap.size + 1, 0, none⟩) (by show w.heap.size + 1 < _; omega), World.cell?_alloc_past _ _ _ (by simp)]
    exact World.cell?_alloc_at _ _ _ _ (by simp)
  · rw [hb.cell (p := ⟨w.heap.size + 2, 0, none⟩) (by show w.heap.size + 2 < _; omega)]
    exact World.cell?_alloc_at _ _ _ _ (by simp)
abbrev zero16 : Array Value := #[.int .i64 0, .int .i64 0, .int .i64 0, .int .i64 0, .int .i64 0, .int .i64 0, .int .i64 0, .int .i64 0, .int .i64 0, .int .i64 0, .int .i64 0, .int .i64 0, .int .i64 0, .int .i64 0, .int .i64 0, .int .i64 0]
/-- The table of places lies there, and may be written. -/
def ArrAt (w : World) (b : Nat) (arr : List Int) : Prop := (∀ j v, arr[j]? = some v → w.cell? ⟨b, j, none⟩ = some (.int .i64 v)) ∧ ∀ j, w.frozen? ⟨b, j, none⟩ = false
theorem arrAt_new (w : World) : ArrAt (w.alloc (.cells zero16 131)) w.heap.size (List.replicate 16 0) := by
  refine ⟨fun j v hv => ?_, fun j => World.frozen?_alloc_at _ _ _ _ rfl⟩
  rw [World.cell?_alloc_at _ _ _ _ rfl]
  obtain ⟨hj, e⟩ := List.getElem?_eq_some_iff.1 hv
  rw [List.getElem_replicate] at e
  subst e
  rw [List.length_replicate] at hj
  match j, hj with
  | 0, _ | 1, _ | 2, _ | 3, _ | 4, _ | 5, _ | 6, _ | 7, _ | 8, _ | 9, _ | 10, _ | 11, _ | 12, _ | 13, _ | 14, _ | 15, _ => rfl
theorem ArrAt.set {w : World} {b : Nat} {arr : List Int} (h : ArrAt w b arr) {p : Nat} (hp : p < arr.length) (v : Int) : ArrAt (w.setCell ⟨b, p, none⟩ (.int .i64 v)) b (arr.set p v) := by
  obtain ⟨u, hu⟩ : ∃ u, arr[p]? = some u := ⟨_, List.getElem?_eq_getElem hp⟩
  refine ⟨fun j x hx => ?_, fun j => by rw [World.frozen?_setCell]; exact h.2 j⟩
  by_cases e : j = p
  · subst e
    rw [List.getElem?_set_self hp] at hx; cases hx
    exact World.cell?_setCell_same _ _ _ (by rw [h.1 _ _ hu])
  · rw [List.getElem?_set_ne (fun e2 => e e2.symm)] at hx
    rw [World.cell?_setCell_other _ _ _ _ (by intro e2; injection e2 with _ e3; exact e e3.symm)]
    exact h.1 j x hx
theorem ArrAt.range {w : World} {b : Nat} {arr : List Int} (h : ArrAt w b arr) : w.rangeAt b 0 (arrC arr) := fun j v hv => by
  unfold arrC at hv
  rw [List.getElem?_map] at hv
  obtain ⟨x, hx, rfl⟩ := Option.map_eq_some_iff.1 hv
  rw [Nat.zero_add]; exact h.1 j x hx
theorem ArrAt.below {w w' : World} {b B : Nat} {arr : List Int} (h : ArrAt w b arr) (hb : Below B w w') (hB : b < B) : ArrAt w' b arr :=
  ⟨fun j v hv => (hb.cell (p := ⟨b, j, none⟩) hB).trans (h.1 j v hv), fun j => (hb.frozen (p := ⟨b, j, none⟩) hB).trans (h.2 j)⟩
set_option maxRecDepth 100000 in
set_option maxHeartbeats 4000000 in
theorem duty_any (self q : Int) (C A : Option Addr) (cC cA N : Nat) (who : List Int) (fs : List Fl) (w : World) (hN : N ≤ w.heap.size) (hC : RowAt w N 1 eInt C who) (hA : Fls w N A fs) (hl1 : who.length ≤ 9223372036854775807) (hl : fs.length ≤ 9223372036854775807) :
    Calls Try.prog 35 #[.int .i64 self, .int .i64 q, .slice C who.length cC, .slice A fs.length cA] w (DutyPost self q who fs w) := by
  have hbz : ∀ x, Below w.heap.size w ((dutyW w self x A fs.length cA).alloc (.cells zero16 131)) := fun x => (below_box3 w _ _ _ _ _ _).alloc (by simp; omega) _
  by_cases h1 : who.length = fs.length
  · by_cases h2 : self = q
    · have HL := Lib.hid (duty_bad (self := self) (q := q) (who := who) (fs := fs) (fun h => h.2.1 h2))
      rw [← h1]
      subst h2
      go_enter Try.func35, Try.ntmps35
      go_wp2
      go_ret2
      go_light
      exact duty_none HL.out (by first | exact hbz _ | (rw [h1]; exact hbz _))
    · rw [← h1]
      have hbad : (WhoOk who → self ∈ who → q ∈ who → False) → DutyIs self q who fs [] 1 := fun h => duty_bad fun k => h k.2.2.1 k.2.2.2.1 k.2.2.2.2
      have hgood : WhoOk who → self ∈ who → q ∈ who → DutyHead self q who fs := fun a b c => ⟨h1, h2, a, b, c⟩
      replace hbad := Lib.hid hbad
      replace hgood := Lib.hid hgood
      have hsq : (self == q) = false := by simpa using h2
      clear hbz
      obtain ⟨W0, hW0⟩ : ∃ W0, W0 = (dutyW w self q A who.length cA).alloc (.cells zero16 131) := ⟨_, rfl⟩
      have hs0 : W0.heap.size = w.heap.size + 4 := by rw [hW0]; simp
      have hB0 : Below (w.heap.size + 3) (dutyW w self q A who.length cA) W0 := by rw [hW0]; exact (Below.refl _ _).alloc (by simp) _
      have hr0 : ArrAt W0 (w.heap.size + 3) (List.replicate 16 0) := by
        have := arrAt_new (dutyW w self q A who.length cA)
        rw [← hW0] at this; simpa using this
      replace hW0 := Lib.hid hW0
      replace h1 := Lib.hid h1
      go_enter Try.func35, Try.ntmps35
      go_wp2
      go_loopw [30] (fun k wr => ∃ (i : Nat) (arr : List Int), k = .int .i64 i ∧ i ≤ who.length ∧ PlArr who i arr ∧ ArrAt wr (w.heap.size + 3) arr ∧ Below (w.heap.size + 3) (dutyW w self q A who.length cA) wr ∧ wr.heap.size = w.heap.size + 4) (fun k _ => who.length - (intOf k).toNat)
      case atStart => exact ⟨0, _, rfl, by omega, plArr_zero who, by rw [← hW0.out]; exact hr0, by rw [← hW0.out]; exact hB0, by rw [← hW0.out]; exact hs0⟩
      case round =>
        obtain ⟨i, arr, rfl, hi, hP, hr, hb, hsz⟩ := hrel
        obtain ⟨hb0, e0, e1, e2, -⟩ := dutyW_facts hb
        have hlen := hP.len
        replace hP := Lib.hid hP
        by_cases hlt : i < who.length
        · obtain ⟨g, o, x, rfl, hg, hx, hcx⟩ := (hC.below hb0 hN).int hlt
          by_cases hx0 : x < 0
          · have HL := Lib.hid (hbad.out fun h _ _ => bad_in hx.out (.inl hx0) h)
            go_wp2
            go_ret2
            go_light
            exact duty_none HL.out hb0
          · by_cases hx1 : 16 ≤ x
            · have HL := Lib.hid (hbad.out fun h _ _ => bad_in hx.out (.inr hx1) h)
              go_wp2
              go_ret2
              go_light
              exact duty_none HL.out hb0
            · obtain ⟨p, rfl⟩ : ∃ p : Nat, x = p := ⟨x.toNat, by omega⟩
              have hp16 : (p : Int) < 16 := by omega
              have hp : p < arr.length := by omega
              obtain ⟨v, hv⟩ : ∃ v, arr[p]? = some v := ⟨_, List.getElem?_eq_getElem hp⟩
              have hcv := hr.1 p v hv
              have hfv := hr.2 p
              by_cases hv0 : v = 0
              · subst hv0
                have hP' := Lib.hid (plArr_succ hP.out hx.out (by omega) hv)
                have hr' := Lib.hid (hr.set hp ((i : Int) + 1))
                replace hr := Lib.hid hr
                replace hv := Lib.hid hv
                go_wp2
                go_roundw
                case rel => go_light; exact ⟨i + 1, _, by go_num, by omega, hP'.out, hr'.out, hb.setCell (by show w.heap.size + 3 ≤ w.heap.size + 3; omega) _, by rw [World.size_setCell]; exact hsz⟩
                case measure => go_light; simp [intOf]; omega
              · have HL := Lib.hid (hbad.out fun h _ _ => hP.out.twice hx.out hv hv0 h)
                replace hr := Lib.hid hr
                replace hv := Lib.hid hv
                go_wp2
                go_ret2
                go_light
                exact duty_none HL.out hb0
        · obtain rfl : i = who.length := by omega
          have hok := hP.out.ok
          replace hr := Lib.hid hr
          go_wp2
          obtain ⟨W1, hW1⟩ : ∃ W1 : World, W1 = wr := ⟨_, rfl⟩
          subst hW1
          have hb20 := (dutyW_facts (hb.alloc (by omega) (.cells #[.int .i64 self, .int .i64 q] 3))).1
          go_loopw [56] (fun k wr => ∃ j : Nat, k = .int .i64 j ∧ j ≤ 2 ∧ (1 ≤ j → self ∈ who) ∧ (2 ≤ j → q ∈ who) ∧ wr = W1.alloc (.cells #[.int .i64 self, .int .i64 q] 3)) (fun k _ => 2 - (intOf k).toNat)
          case atStart => exact ⟨0, rfl, by omega, by omega, by omega, rfl⟩
          case round =>
            obtain ⟨j, rfl, hj, hin0, hin1, rfl⟩ := hrel
            replace hin0 := Lib.hid hin0
            replace hin1 := Lib.hid hin1
            by_cases hj0 : j = 0
            · subst hj0
              by_cases hx0 : self < 0
              · have HL := Lib.hid (hbad.out fun h h1 h2 => by have := h.1 _ h1; unfold nodeIn at this; omega)
                go_wp2
                go_ret2
                go_light
                exact duty_none HL.out hb20
              · by_cases hx1 : 16 ≤ self
                · have HL := Lib.hid (hbad.out fun h h1 h2 => by have := h.1 _ h1; unfold nodeIn at this; omega)
                  go_wp2
                  go_ret2
                  go_light
                  exact duty_none HL.out hb20
                · obtain ⟨p, rfl⟩ : ∃ p : Nat, self = p := ⟨self.toNat, by omega⟩
                  have hp16 : (p : Int) < 16 := by omega
                  obtain ⟨v, hv⟩ : ∃ v, arr[p]? = some v := ⟨_, List.getElem?_eq_getElem (by omega)⟩
                  have hcv := hr.out.1 p v hv
                  by_cases hv0 : v = 0
                  · have HL := Lib.hid (hbad.out fun _ h1 h2 => hP.out.gone (p := p) (by rw [hv, hv0]) h1)
                    subst hv0
                    replace hv := Lib.hid hv
                    go_wp2
                    go_ret2
                    go_light
                    exact duty_none HL.out hb20
                  · have hin : (p : Int) ∈ who := by
                      obtain ⟨i, _, hwi, _⟩ := hP.out.here hv hv0
                      exact List.mem_of_getElem? hwi
                    replace hin := Lib.hid hin
                    replace hv := Lib.hid hv
                    go_wp2
                    go_roundw
                    case rel => exact ⟨0 + 1, by go_num, by omega, fun h => hin.out, fun h => by omega, trivial⟩
                    case measure => go_light; simp [intOf]
            · by_cases hj1 : j = 1
              · subst hj1
                replace hin0 := Lib.hid (hin0.out (by omega))
                by_cases hx0 : q < 0
                · have HL := Lib.hid (hbad.out fun h h1 h2 => by have := h.1 _ h2; unfold nodeIn at this; omega)
                  go_wp2
                  go_ret2
                  go_light
                  exact duty_none HL.out hb20
                · by_cases hx1 : 16 ≤ q
                  · have HL := Lib.hid (hbad.out fun h h1 h2 => by have := h.1 _ h2; unfold nodeIn at this; omega)
                    go_wp2
                    go_ret2
                    go_light
                    exact duty_none HL.out hb20
                  · obtain ⟨p, rfl⟩ : ∃ p : Nat, q = p := ⟨q.toNat, by omega⟩
                    have hp16 : (p : Int) < 16 := by omega
                    obtain ⟨v, hv⟩ : ∃ v, arr[p]? = some v := ⟨_, List.getElem?_eq_getElem (by omega)⟩
                    have hcv := hr.out.1 p v hv
                    by_cases hv0 : v = 0
                    · have HL := Lib.hid (hbad.out fun _ h1 h2 => hP.out.gone (p := p) (by rw [hv, hv0]) h2)
                      subst hv0
                      replace hv := Lib.hid hv
                      go_wp2
                      go_ret2
                      go_light
                      exact duty_none HL.out hb20
                    · have hin : (p : Int) ∈ who := by
                        obtain ⟨i, _, hwi, _⟩ := hP.out.here hv hv0
                        exact List.mem_of_getElem? hwi
                      replace hin := Lib.hid hin
                      replace hv := Lib.hid hv
                      go_wp2
                      go_roundw
                      case rel => exact ⟨1 + 1, by go_num, by omega, fun h => hin0.out, fun h => hin.out, trivial⟩
                      case measure => go_light; simp [intOf]
              · obtain rfl : j = 2 := by omega
                have hH := Lib.hid (hgood.out hok (hin0.out (by omega)) (hin1.out (by omega)))
                have hb2 : Below (w.heap.size + 3) (dutyW w self q A who.length cA) (W1.alloc (.cells #[.int .i64 self, .int .i64 q] 3)) := hb.alloc (by omega) _
                have hr2 : ArrAt (W1.alloc (.cells #[.int .i64 self, .int .i64 q] 3)) (w.heap.size + 3) arr := hr.out.below ((Below.refl (w.heap.size + 4) W1).alloc (by omega) _) (by omega)
                obtain ⟨W2, hW2⟩ : ∃ W2, W2 = W1.alloc (.cells #[.int .i64 self, .int .i64 q] 3) := ⟨_, rfl⟩
                rw [← hW2] at hb2 hr2
                have hs2 : W2.heap.size = w.heap.size + 5 := by rw [hW2]; simp; omega
                obtain ⟨hbw2, e0', e1', e2', -⟩ := dutyW_facts hb2
                have H52 := list_any A none cA 0 N fs [] W2 (by omega) (hA.below hbw2 hN) (fun h => absurd h (by simp)) hl (by simp)
                rw [← h1.out] at H52
                replace H52 := Lib.hid H52
                replace hW2 := Lib.hid hW2
                replace hr2 := Lib.hid hr2
                clear hr hb20 hB0 hr0 hs0
                go_wp2_with (go_at_call 52; change Calls Try.prog 52 _ (W1.alloc (.cells #[.int .i64 self, .int .i64 q] 3)) _; rw [← hW2.out]; refine H52.out.mono ?_; intro e w' hp; obtain ⟨hbw, hp⟩ := list_cases hp; rw [List.append_nil] at hp; rcases hp with ⟨n, rfl, hn0, hL⟩ | ⟨bs, bu, cut, F, m, rfl, hL, hfit, hcut, hbs, hbu, hub, hM, hF⟩; all_goals try (have hcc0 : w'.cell? ⟨bs, 0, none⟩ = some (.int .i64 (baseOf fs)) := (blk_cells hub 0); have hbsl : bs < w'.heap.size := (Array.getElem?_eq_some_iff.1 hub).1))
                · go_ret2
                  go_light
                  exact duty_none (.inr (.inl ⟨hH.out, n, hn0, more_nil hL, rfl, rfl⟩)) (hbw2.trans (hbw.mono (by omega)))
                · obtain ⟨hWho, hselfIn, hqIn⟩ := (⟨hH.out.2.2.1, hH.out.2.2.2.1, hH.out.2.2.2.2⟩ : WhoOk who ∧ self ∈ who ∧ q ∈ who)
                  have hself0 : 0 ≤ self := (hWho.1 self hselfIn).1
                  have hq0 := (hWho.1 q hqIn).1
                  have hq1 := (hWho.1 q hqIn).2
                  obtain ⟨iy, hiyl, hiy⟩ := List.getElem_of_mem hqIn
                  have hwi : who[iy]? = some q := by rw [List.getElem?_eq_getElem hiyl, hiy]
                  have hfl : iy < fs.length := by have := h1.out; omega
                  obtain ⟨f, hf⟩ : ∃ f, fs[iy]? = some f := ⟨_, List.getElem?_eq_getElem hfl⟩
                  have hput := (hP.out.put iy q hiyl hwi).2.2
                  have hcb := cut_bound hfit (n := (cut - baseOf fs).toNat) (fun p h1 h2 => hcut.all p h1 (by have := hcut.low; omega))
                  have hlow := hcut.low
                  have hbn := base_nonneg fs
                  have hbl := base_le hfit.sound
                  obtain ⟨W6, hW6⟩ : ∃ W6, W6 = w'.alloc (.cells #[.func (.func 67) #[] #[.pointer (some ⟨w.heap.size + 3, 0, none⟩), .pointer (some ⟨w.heap.size + 2, 0, none⟩)]] 132) := ⟨_, rfl⟩
                  have hs6 : W6.heap.size = w'.heap.size + 1 := by rw [hW6]; simp
                  have hb6 : Below w'.heap.size w' W6 := by rw [hW6]; exact (Below.refl _ _).alloc (Nat.le_refl _) _
                  have hc6 : W6.cell? ⟨w'.heap.size, 0, none⟩ = some (.func (.func 67) #[] #[.pointer (some ⟨w.heap.size + 3, 0, none⟩), .pointer (some ⟨w.heap.size + 2, 0, none⟩)]) := by rw [hW6]; exact World.cell?_alloc_at _ _ _ _ rfl
                  have hsw := hbw.size
                  have H59 := pick_68 (.pointer (some ⟨w.heap.size + 2, 0, none⟩)) (.pointer (some ⟨w.heap.size + 3, 0, none⟩)) (.pointer (some ⟨w.heap.size + 1, 0, none⟩)) (.pointer (some ⟨w'.heap.size, 0, none⟩)) (.pointer (some ⟨w.heap.size, 0, none⟩)) bs bu m (baseOf fs) cut (baseOf fs) F
                    (fun s => !havB f.have_ s.1 s.2 && firstB who (hadL fs s.1 s.2) self) W6 ((hb6.block bs hbsl).trans hub) (hM.keep hb6 hM.lt) hbn (by omega) (by omega) (by omega) (fun pos h1 h2 => by
                      obtain ⟨s, hs, -⟩ := (whole_iff hfit).1 (hcut.all pos (by omega) h2)
                      exact ⟨s, (hF pos s).2 hs⟩) (fun s W hbW hpos => by
                      obtain ⟨pos, -, -, hs⟩ := hpos
                      obtain ⟨g, hg, k1, k2, -⟩ := known_slot hfit ((hF pos s).1 hs)
                      have hszW := hbW.size
                      have hall : Below W2.heap.size W2 W := (hbw.trans (hb6.mono hsw)).trans (hbW.mono (by omega))
                      obtain ⟨z0, z1, z2, z3, z4⟩ := dutyW_facts (hb2.trans (hall.mono (by omega)))
                      have hq' : (q.toNat : Int) = q := Int.toNat_of_nonneg hq0
                      exact owe_any (w.heap.size + 2) (w.heap.size + 3) (w.heap.size + 1) w'.heap.size w.heap.size N q.toNat iy self who arr A cA fs f s.1 s.2 W (by omega) (by omega) (by omega) (by omega) (by omega) (by omega)
                        (hr2.out.below hall (by omega)).range z3 (by rw [hq']; exact z2) z1 ((hbW.cell (p := ⟨w'.heap.size, 0, none⟩) (by show w'.heap.size < _; omega)).trans hc6) (hA.below z0 hN) h1.out.symm hl1 hP.out (by omega) hput hf hself0
                        (fun f' hf' => ⟨k1, by have := one_len hfit hf' hg; omega⟩))
                  have hDI : DutyIs self q who fs (pickTo F (fun s => !havB f.have_ s.1 s.2 && firstB who (hadL fs s.1 s.2) self) (baseOf fs) (cut - baseOf fs).toNat) 0 :=
                    .inr (.inr ⟨hH.out, more_nil hL, hfit, rfl, cut, F, iy, f, hcut, hF, hwi, hf, rfl⟩)
                  generalize pickTo F (fun s => !havB f.have_ s.1 s.2 && firstB who (hadL fs s.1 s.2) self) (baseOf fs) (cut - baseOf fs).toNat = l at hDI H59
                  have hb6' : Below w.heap.size w W6 := (hbw2.trans (hbw.mono (by omega))).trans (hb6.mono (by omega))
                  replace H59 := Lib.hid H59
                  replace hDI := Lib.hid hDI
                  replace hW6 := Lib.hid hW6
                  clear hcc0 hub hM hF hfit hcut hL hput hf hwi hc6 hP
                  change Calls Try.prog 59 _ (w'.alloc (.cells #[.func (.func 67) #[] #[.pointer (some ⟨w.heap.size + 3, 0, none⟩), .pointer (some ⟨w.heap.size + 2, 0, none⟩)]] 132)) _
                  rw [← hW6.out]
                  refine H59.out.mono ?_
                  rintro e w3 ⟨⟨B, c, rfl, hown⟩, hb3⟩
                  replace hown := Lib.hid (hown.lower (base' := w.heap.size) (by omega))
                  go_wp2
                  go_ret2
                  go_light
                  exact ⟨⟨B, c, l, 0, rfl, hDI.out, hown.out⟩, hb6'.trans (hb3.mono (by omega))⟩
  · have HL := Lib.hid (duty_bad (self := self) (q := q) (who := who) (fs := fs) (fun h => h1 h.1))
    have hd : ((who.length : Int) != (fs.length : Int)) = true := by simp; omega
    go_enter Try.func35, Try.ntmps35
    go_wp2
    go_ret2
    go_light
    exact duty_none HL.out (hbz _)
end Go.Proofs.Ytcffhfcjfjfokaa
/- What the document's Duty answers. -/
namespace Go.Proofs.Ytcffhfcjfjfokaa
open Go.RowKit
theorem place_ex (who : List Int) (t : Int) : ∃ r, PlaceIs who t r := by
  by_cases h : WhoOk who ∧ t ∈ who
  · obtain ⟨i, hi, e⟩ := List.getElem_of_mem h.2
    exact ⟨i, .inl ⟨i, h.1, by rw [List.getElem?_eq_getElem hi, e], rfl⟩⟩
  · exact ⟨-1, .inr ⟨rfl, h⟩⟩
theorem place_one {who : List Int} {t a b : Int} (h : PlaceIs who t a) (k : PlaceIs who t b) : a = b := by
  rcases h with ⟨i, ho, hi, rfl⟩ | ⟨rfl, hn⟩ <;> rcases k with ⟨j, ho', hj, rfl⟩ | ⟨rfl, hn'⟩
  · by_cases e : i = j
    · rw [e]
    · exact absurd hj (apart_of_nodup ho.2 e hi)
  · exact absurd ⟨ho, List.mem_of_getElem? hi⟩ hn'
  · exact absurd ⟨ho', List.mem_of_getElem? hj⟩ hn
  · rfl
theorem place_in {who : List Int} {t r : Int} (h : PlaceIs who t r) (h1 : WhoOk who) (h2 : t ∈ who) : ∃ i : Nat, i < who.length ∧ who[i]? = some t ∧ r = i := by
  rcases h with ⟨i, _, hi, rfl⟩ | ⟨rfl, hn⟩
  · exact ⟨i, (List.getElem?_eq_some_iff.1 hi).1, hi, rfl⟩
  · exact absurd ⟨h1, h2⟩ hn
theorem place_out {who : List Int} {t r : Int} (h : PlaceIs who t r) (h0 : ¬ r < 0) : WhoOk who ∧ t ∈ who := by
  rcases h with ⟨i, ho, hi, rfl⟩ | ⟨rfl, _⟩
  · exact ⟨ho, List.mem_of_getElem? hi⟩
  · omega
set_option maxRecDepth 100000 in
set_option maxHeartbeats 4000000 in
theorem rduty_any (self q : Int) (C A : Option Addr) (cC cA N : Nat) (who : List Int) (fs : List Fl) (w : World) (hN : N ≤ w.heap.size) (hC : RowAt w N 1 eInt C who) (hA : Fls w N A fs) (hl1 : who.length ≤ 9223372036854775807) (hl : fs.length ≤ 9223372036854775807) :
    Calls Try.prog 36 #[.int .i64 self, .int .i64 q, .slice C who.length cC, .slice A fs.length cA] w (DutyPost self q who fs w) := by
  obtain ⟨pl, hpl⟩ : ∃ pl : Int → Int, ∀ t, PlaceIs who t (pl t) := Classical.axiomOfChoice fun t => place_ex who t
  have H69 : ∀ (t : Int) (W : World), Below w.heap.size w W → Calls Try.prog 69 #[.slice C who.length cC, .int .i64 t] W fun e W' => e = .returned (.int .i64 (pl t)) ∧ Below w.heap.size w W' := fun t W h => by
    refine (place_any C cC N who t W (by have := h.size; omega) (hC.below h hN) hl1).mono ?_
    rintro e W' ⟨⟨r, rfl, hr⟩, hb⟩
    exact ⟨by rw [place_one hr (hpl t)], h.trans (hb.mono h.size)⟩
  replace H69 := Lib.hid H69
  have hS := hpl self
  have hQ := hpl q
  by_cases hH : DutyHead self q who fs
  · obtain ⟨h1, h2, h3, h4, h5⟩ := id hH
    obtain ⟨me, _, hme, hmp⟩ := place_in hS h3 h4
    obtain ⟨you, _, hyou, hyp⟩ := place_in hQ h3 h5
    have hsq : (self == q) = false := by simpa using h2
    have hlen : ((who.length : Int) != (fs.length : Int)) = false := by simp [h1]
    have hm0 : ((me : Int) < 0) = False := by simp
    have hy0 : ((you : Int) < 0) = False := by simp
    replace hme := Lib.hid hme
    replace hyou := Lib.hid hyou
    have hok := Lib.hid h3
    clear hS hQ hpl h3 h4 h5 h2
    replace h1 := Lib.hid h1
    replace hH := Lib.hid hH
    · go_enter Try.func36, Try.ntmps36
      go_wp2_with (go_at_call 69; refine (H69.out _ _ (by first | exact Below.refl _ _ | assumption)).mono ?_; rintro e w1 ⟨rfl, hb1⟩)
      obtain ⟨w2, hw2⟩ : ∃ w2 : World, w2 = w1 := ⟨_, rfl⟩
      subst hw2
      have hb20 := hb1
      have hs2 := hb1.size
      have hfy : you < fs.length := by have := (List.getElem?_eq_some_iff.1 hyou.out).1; have := h1.out; omega
      obtain ⟨f, hfi⟩ : ∃ f, Hid (fs[you]? = some f) := ⟨_, List.getElem?_eq_getElem hfy⟩
      clear hb1
      refine (listed_any A cA N fs w2 (by omega) (hA.below hb20 hN) hl).mono ?_
      rintro e w3 ⟨⟨n, rfl, hn⟩, hb3⟩
      replace hn := Lib.hid hn
      have hs3 := hb3.size
      have hb30 := hb20.trans (hb3.mono (by omega))
      clear hb3 hb20
      by_cases h0 : n ≠ 0
      · have h0' : (n != 0) = true := by simpa using h0
        go_wp2
        go_ret2
        go_light
        exact duty_none (.inr (.inl ⟨hH.out, n, h0, hn.out, rfl, rfl⟩)) hb30
      · obtain rfl : n = 0 := by omega
        have HFit := Lib.hid (listed_fit hn.out).1
        have hl16 := (listed_fit hn.out).2
        have hbp := base_nonneg fs
        have hbq := base_le HFit.out.sound
        have H54 := Lib.hid (end_any A cA N fs w3 (by omega) (hA.below hb30 hN) hl (fun f hf => ⟨(HFit.out.sound f hf).base0, by have := (HFit.out.sound f hf).base; omega⟩) hbp (fun n h => cut_bound HFit.out h))
        go_wp2_with (go_at_call 54; refine H54.out.mono ?_; rintro e w4 ⟨⟨cut, rfl, hcut⟩, hb4⟩)
        have hcb := cut_bound HFit.out (n := (cut - baseOf fs).toNat) (fun p h1 h2 => hcut.all p h1 (by have := hcut.low; omega))
        have hlow := hcut.low
        have hs4 := hb4.size
        have hb40 := hb30.trans (hb4.mono (by omega))
        clear hb4 hb30
        refine (base_any A cA N fs w4 (hA.below hb40 hN) hl).mono ?_
        rintro e w5 ⟨rfl, rfl⟩
        go_wp2
        obtain ⟨F, hF0⟩ : ∃ F, F = knownF fs := ⟨_, rfl⟩
        obtain ⟨p, hp0⟩ : ∃ p : Int × Int → Bool, p = fun s => !havB f.have_ s.1 s.2 && firstB who (hadL fs s.1 s.2) self := ⟨_, rfl⟩
        have hpq : ∀ s, p s = (!havB f.have_ s.1 s.2 && firstB who (hadL fs s.1 s.2) self) := fun s => by rw [hp0]
        have hDI : DutyIs self q who fs (pickTo F p (baseOf fs) (cut - baseOf fs).toNat) 0 := .inr (.inr ⟨hH.out, hn.out, HFit.out, rfl, cut, F, you, f, hcut, by rw [hF0]; exact knownF_iff HFit.out, hyou.out, hfi.out, by rw [hp0]⟩)
        have hKn : ∀ pos, baseOf fs < pos → pos ≤ cut → ∃ s : Int × Int, F pos = some s ∧ atOf fs pos = s ∧ ∀ f ∈ fs, rhasB f.have_ s.1 s.2 = havB f.have_ s.1 s.2 := fun pos h1 h2 => by
          obtain ⟨s, hs, -⟩ := (whole_iff HFit.out).1 (hcut.all pos h1 h2)
          exact ⟨s, by rw [hF0]; exact (knownF_iff HFit.out pos s).2 hs, atOf_known HFit.out hs, fun f hf => had_rhas HFit.out hs hf⟩
        have hbs : ∀ f ∈ fs, 0 ≤ f.base ∧ f.base ≤ 4611686018427387904 := fun f hf => ⟨(HFit.out.sound f hf).base0, by have := (HFit.out.sound f hf).base; omega⟩
        replace hbs := Lib.hid hbs
        replace hDI := Lib.hid hDI
        clear hp0 hF0 hcut hn
        go_loopw [13, 15] (fun a b wr => ∃ (k : Nat) (B : Option Addr) (cB m : Nat), b = .int .i64 (baseOf fs + k) ∧ a = .slice B m cB ∧ m = (pickTo F p (baseOf fs) k).length ∧ k ≤ (cut - baseOf fs).toNat ∧ Owns wr w.heap.size 66 2 eSlot B cB (pickTo F p (baseOf fs) k) ∧ m ≤ k ∧ Below w4.heap.size w4 wr) (fun _ b _ => (cut - intOf b).toNat)
        case atStart => exact ⟨0, none, 0, 0, by simp, rfl, rfl, by omega, owns_nil _ _ _ _ _, by omega, Below.refl _ _⟩
        case round =>
          obtain ⟨k, B, cB, m, rfl, rfl, hm, hk, hown, hmk, hb⟩ := hrel
          replace hm := Lib.hid hm
          have hlo := hown.lo
          have hszr := hb.size
          have hbr := hb40.trans (hb.mono (by omega))
          by_cases hlt : baseOf fs + k < cut
          · obtain ⟨⟨x, y⟩, hs, hat, hrh⟩ := hKn (baseOf fs + k + 1) (by omega) (by omega)
            have hpk : pickTo F p (baseOf fs) (k + 1) = if p (x, y) = true then ins (pickTo F p (baseOf fs) k) (x, y) else pickTo F p (baseOf fs) k := by rw [pickTo, show baseOf fs + 1 + (k : Int) = baseOf fs + k + 1 by omega, hs]
            have hflr := hA.below hbr hN
            replace hKn := Lib.hid hKn
            have hrh2 := Lib.hid hrh
            cases hh : havB f.have_ x y with
            | true =>
                      have hp : p (x, y) = false := by rw [hpq]; simp [hh]
                      rw [hp, if_neg (by simp)] at hpk
                      replace hpk := Lib.hid hpk
                      replace hh := Lib.hid hh
                      go_wp2_with (go_at_call 31; refine (at_any A cA N fs (baseOf fs + k + 1) wr (by omega) hflr hl (by omega) (by omega) hbs.out).mono ?_; rintro e w5 ⟨rfl, hbw5⟩; rw [hat]; have hs5 := hbw5.size)
                      have hbr5 := hbr.trans (hbw5.mono (by omega))
                      have hfl5 := hA.below hbr5 hN
                      obtain ⟨g', o', f', X, cX, Y, cY, hAe, hg', hf', ⟨c0, c1, c2, c3, c4, c5, c6⟩, hr⟩ := hfl5.at_ (k := you) (by omega)
                      obtain rfl : f = f' := by have := hf'.out; rw [hfi.out] at this; cases this; rfl
                      subst hAe
                      have hgw' : g' < w5.heap.size := by omega
                      have hown5 := hown.keep hbw5 (fun k hk => (hlo k hk).2)
                      have hown6 := hown5.alloc (.cells #[.int .i64 x, .int .i64 y] 66)
                      have hb6 := ((hb.trans (hbw5.mono (by omega))).alloc (by omega) (.cells #[.int .i64 x, .int .i64 y] 66))
                      have hbx6 : ∀ W : World, Below (w5.heap.size + 1) (w5.alloc (.cells #[.int .i64 x, .int .i64 y] 66)) W → Below w5.heap.size w5 W := fun W h => (box1_facts h).1
                      have h62 : ∀ W : World, Below (w5.heap.size + 1) (w5.alloc (.cells #[.int .i64 x, .int .i64 y] 66)) W → Calls Try.prog 62 #[.agg #[.int .i64 f.e, .int .i64 f.l, .int .i64 f.i, .int .i64 f.c, .int .i64 f.base, .slice X f.slots.length cX, .slice Y f.have_.length cY], .agg #[.int .i64 x, .int .i64 y]] W fun e W' => e = .returned (.bool (havB f.have_ x y)) ∧ Below (w5.heap.size + 1) (w5.alloc (.cells #[.int .i64 x, .int .i64 y] 66)) W' := fun W h => by
                        have h1 := hbx6 W h
                        rw [← hrh f (List.mem_of_getElem? hfi.out)]
                        exact (rhas_any f.e f.l f.i f.c f.base _ Y cY N f.have_ x y W (Nat.le_trans hr.lenH hr.capH) (by have := h1.size; omega) (hr.have_.below h1 (by omega))).mono fun e W' ⟨e1, e2⟩ => ⟨e1, h.trans (e2.mono (by have := h.size; simpa using this))⟩
                      replace h62 := Lib.hid h62
                      clear hbw5
                      refine wp_region_mid 5 (by kernel_rfl) rfl (by kernel_rfl) ?_
                      simp only [List.take_succ_cons, List.take_zero]
                      repeat (refine WS.step (fun K hK => ?_); go_simp; refine hK.out _ ?_; clear hK K)
                      refine WS.nil ?_
                      intro K hK
                      go_simp
                      go_at_call 62
                      refine (h62.out (w5.alloc (.cells #[.int .i64 x, .int .i64 y] 66)).drew (Below.drew (Below.refl _ _))).mono ?_
                      rintro e w7 ⟨rfl, hbw7⟩
                      rw [hh.out]
                      go_wp2_with fail
                      refine hK.out _ _ ?_
                      clear hK K
                      simp only [List.drop_succ_cons, List.drop_zero]
                      repeat (refine WS.step (fun K hK => ?_); go_simp; refine hK.out _ ?_; clear hK K)
                      refine WS.nil ?_
                      have hown7 := hown6.keep (B := w5.heap.size + 1) hbw7 (fun k hk => by have := (hlo k hk).2; omega)
                      have hb7 := hb6.trans (hbw7.mono (by omega))
                      go_wp2
                      refine ⟨⟨k + 1, B, cB, m, by rw [show ((k + 1 : Nat) : Int) = k + 1 by omega]; congr 1; omega, rfl, by rw [hpk.out]; exact hm.out, by omega, by rw [hpk.out]; exact hown7, by omega, hb7⟩, by simp [intOf]; omega⟩
            | false =>
                      replace hh := Lib.hid hh
                      go_wp2_with (go_at_call 31; refine (at_any A cA N fs (baseOf fs + k + 1) wr (by omega) hflr hl (by omega) (by omega) hbs.out).mono ?_; rintro e w5 ⟨rfl, hbw5⟩; rw [hat]; have hs5 := hbw5.size)
                      have hbr5 := hbr.trans (hbw5.mono (by omega))
                      have hfl5 := hA.below hbr5 hN
                      obtain ⟨g', o', f', X, cX, Y, cY, hAe, hg', hf', ⟨c0, c1, c2, c3, c4, c5, c6⟩, hr⟩ := hfl5.at_ (k := you) (by omega)
                      obtain rfl : f = f' := by have := hf'.out; rw [hfi.out] at this; cases this; rfl
                      subst hAe
                      have hgw' : g' < w5.heap.size := by omega
                      have hown5 := hown.keep hbw5 (fun k hk => (hlo k hk).2)
                      have hown6 := hown5.alloc (.cells #[.int .i64 x, .int .i64 y] 66)
                      have hb6 := ((hb.trans (hbw5.mono (by omega))).alloc (by omega) (.cells #[.int .i64 x, .int .i64 y] 66))
                      have hbx6 : ∀ W : World, Below (w5.heap.size + 1) (w5.alloc (.cells #[.int .i64 x, .int .i64 y] 66)) W → Below w5.heap.size w5 W := fun W h => (box1_facts h).1
                      have h62 : ∀ W : World, Below (w5.heap.size + 1) (w5.alloc (.cells #[.int .i64 x, .int .i64 y] 66)) W → Calls Try.prog 62 #[.agg #[.int .i64 f.e, .int .i64 f.l, .int .i64 f.i, .int .i64 f.c, .int .i64 f.base, .slice X f.slots.length cX, .slice Y f.have_.length cY], .agg #[.int .i64 x, .int .i64 y]] W fun e W' => e = .returned (.bool (havB f.have_ x y)) ∧ Below (w5.heap.size + 1) (w5.alloc (.cells #[.int .i64 x, .int .i64 y] 66)) W' := fun W h => by
                        have h1 := hbx6 W h
                        rw [← hrh f (List.mem_of_getElem? hfi.out)]
                        exact (rhas_any f.e f.l f.i f.c f.base _ Y cY N f.have_ x y W (Nat.le_trans hr.lenH hr.capH) (by have := h1.size; omega) (hr.have_.below h1 (by omega))).mono fun e W' ⟨e1, e2⟩ => ⟨e1, h.trans (e2.mono (by have := h.size; simpa using this))⟩
                      replace h62 := Lib.hid h62
                      clear hbw5
                      have hl' : fs.length = who.length := h1.out.symm
                      have hLL : hasL fs x y = hadL fs x y := List.map_congr_left fun f hf => hrh2.out f hf
                      have h70 : ∀ W : World, Below (w5.heap.size + 1) (w5.alloc (.cells #[.int .i64 x, .int .i64 y] 66)) W → Calls Try.prog 70 #[.slice C who.length cC, .slice (some ⟨g', o', none⟩) fs.length cA, .agg #[.int .i64 x, .int .i64 y]] W fun e W' => (∃ r, e = .returned (.int .i64 r) ∧ (r == (me : Int)) = firstB who (hadL fs x y) self) ∧ Below (w5.heap.size + 1) (w5.alloc (.cells #[.int .i64 x, .int .i64 y] 66)) W' := fun W h => by
                        have h1 := hbx6 W h
                        have h2 := hbr5.trans (h1.mono (by omega))
                        rw [hl']
                        refine (lowest_any C _ cC cA N who fs x y W (by have := h2.size; omega) (hC.below h2 hN) (hA.below h2 hN) hl1 hl').mono ?_
                        rintro e W' ⟨⟨r, rfl, hr⟩, e2⟩
                        rw [hLL] at hr
                        exact ⟨⟨r, rfl, low_eq hr hme.out (by unfold hadL; rw [List.length_map, hl']) hok.out.2⟩, h.trans (e2.mono (by have := h.size; simpa using this))⟩
                      have hall : ∀ W : World, Below (w5.heap.size + 1) (w5.alloc (.cells #[.int .i64 x, .int .i64 y] 66)) W → (Below (w5.heap.size + 1) (w5.alloc (.cells #[.int .i64 x, .int .i64 y] 66)) W ∧ W.cell? ⟨w5.heap.size, 0, none⟩ = some (.int .i64 x) ∧ W.cell? ⟨w5.heap.size, 1, none⟩ = some (.int .i64 y) ∧
                          W.cell? ⟨g', o' + you * 7, none⟩ = some (.int .i64 f.e) ∧ W.cell? ⟨g', o' + you * 7 + 1, none⟩ = some (.int .i64 f.l) ∧ W.cell? ⟨g', o' + you * 7 + 2, none⟩ = some (.int .i64 f.i) ∧ W.cell? ⟨g', o' + you * 7 + 3, none⟩ = some (.int .i64 f.c) ∧
                          W.cell? ⟨g', o' + you * 7 + 4, none⟩ = some (.int .i64 f.base) ∧ W.cell? ⟨g', o' + you * 7 + 5, none⟩ = some (.slice X f.slots.length cX) ∧ W.cell? ⟨g', o' + you * 7 + 6, none⟩ = some (.slice Y f.have_.length cY)) := fun W h => by
                        have h1 := hbx6 W h
                        obtain ⟨-, hc, -, -⟩ := box1_facts h
                        exact ⟨h, hc 0, hc 1, (h1.cell (p := ⟨g', _, none⟩) hgw').trans c0, (h1.cell (p := ⟨g', _, none⟩) hgw').trans c1, (h1.cell (p := ⟨g', _, none⟩) hgw').trans c2, (h1.cell (p := ⟨g', _, none⟩) hgw').trans c3, (h1.cell (p := ⟨g', _, none⟩) hgw').trans c4, (h1.cell (p := ⟨g', _, none⟩) hgw').trans c5, (h1.cell (p := ⟨g', _, none⟩) hgw').trans c6⟩
                      clear c0 c1 c2 c3 c4 c5 c6 hr hl' hLL hbr5 hfl5
                      replace hall := Lib.hid hall
                      replace hbx6 := Lib.hid hbx6
                      cases hfB : firstB who (hadL fs x y) self with
                      | false =>
                        rw [hfB] at h70
                        replace h70 := Lib.hid h70
                        have hp : p (x, y) = false := by rw [hpq]; simp [hfB]
                        rw [hp, if_neg (by simp)] at hpk
                        replace hpk := Lib.hid hpk
                        replace hfB := Lib.hid hfB
                        go_region_held3 (fun W => Below (w5.heap.size + 1) (w5.alloc (.cells #[.int .i64 x, .int .i64 y] 66)) W ∧ W.cell? ⟨w5.heap.size, 0, none⟩ = some (.int .i64 x) ∧ W.cell? ⟨w5.heap.size, 1, none⟩ = some (.int .i64 y) ∧
                          W.cell? ⟨g', o' + you * 7, none⟩ = some (.int .i64 f.e) ∧ W.cell? ⟨g', o' + you * 7 + 1, none⟩ = some (.int .i64 f.l) ∧ W.cell? ⟨g', o' + you * 7 + 2, none⟩ = some (.int .i64 f.i) ∧ W.cell? ⟨g', o' + you * 7 + 3, none⟩ = some (.int .i64 f.c) ∧
                          W.cell? ⟨g', o' + you * 7 + 4, none⟩ = some (.int .i64 f.base) ∧ W.cell? ⟨g', o' + you * 7 + 5, none⟩ = some (.slice X f.slots.length cX) ∧ W.cell? ⟨g', o' + you * 7 + 6, none⟩ = some (.slice Y f.have_.length cY))
                          (first | exact hall.out _ (Below.drew (Below.refl _ _)) | exact hall.out _ hbw7 | go_keep)
                          (first | (go_at_call 62; refine (h62.out _ (‹Below (w5.heap.size + 1) _ _ ∧ _›).1).mono ?_; rintro e w7 ⟨rfl, hbw7⟩; rw [hh.out]) | (go_at_call 70; refine (h70.out _ (‹Below (w5.heap.size + 1) _ _ ∧ _›).1).mono ?_; rintro e w7 ⟨⟨r, rfl, hre⟩, hbw7⟩))
                        obtain ⟨hbl, z0, z1, -⟩ := ‹Below (w5.heap.size + 1) _ _ ∧ _›
                        have hown7 := hown6.keep (B := w5.heap.size + 1) hbl (fun k hk => by have := (hlo k hk).2; omega)
                        have hb7 := hb6.trans (hbl.mono (by omega))
                        go_wp2
                        refine ⟨⟨k + 1, B, cB, m, by rw [show ((k + 1 : Nat) : Int) = k + 1 by omega]; congr 1; omega, rfl, by rw [hpk.out]; exact hm.out, by omega, by rw [hpk.out]; exact hown7, by omega, hb7⟩, by simp [intOf]; omega⟩
                      | true =>
                        rw [hfB] at h70
                        replace h70 := Lib.hid h70
                        have hp : p (x, y) = true := by rw [hpq]; simp [hfB, hh.out]
                        rw [hp, if_pos rfl] at hpk
                        replace hpk := Lib.hid hpk
                        replace hfB := Lib.hid hfB
                        go_region_held3 (fun W => Below (w5.heap.size + 1) (w5.alloc (.cells #[.int .i64 x, .int .i64 y] 66)) W ∧ W.cell? ⟨w5.heap.size, 0, none⟩ = some (.int .i64 x) ∧ W.cell? ⟨w5.heap.size, 1, none⟩ = some (.int .i64 y) ∧
                          W.cell? ⟨g', o' + you * 7, none⟩ = some (.int .i64 f.e) ∧ W.cell? ⟨g', o' + you * 7 + 1, none⟩ = some (.int .i64 f.l) ∧ W.cell? ⟨g', o' + you * 7 + 2, none⟩ = some (.int .i64 f.i) ∧ W.cell? ⟨g', o' + you * 7 + 3, none⟩ = some (.int .i64 f.c) ∧
                          W.cell? ⟨g', o' + you * 7 + 4, none⟩ = some (.int .i64 f.base) ∧ W.cell? ⟨g', o' + you * 7 + 5, none⟩ = some (.slice X f.slots.length cX) ∧ W.cell? ⟨g', o' + you * 7 + 6, none⟩ = some (.slice Y f.have_.length cY))
                          (first | exact hall.out _ (Below.drew (Below.refl _ _)) | exact hall.out _ hbw7 | go_keep)
                          (first | (go_at_call 62; refine (h62.out _ (‹Below (w5.heap.size + 1) _ _ ∧ _›).1).mono ?_; rintro e w7 ⟨rfl, hbw7⟩; rw [hh.out]) | (go_at_call 70; refine (h70.out _ (‹Below (w5.heap.size + 1) _ _ ∧ _›).1).mono ?_; rintro e w7 ⟨⟨r, rfl, hre⟩, hbw7⟩))
                        obtain ⟨hbl, z0, z1, -⟩ := ‹Below (w5.heap.size + 1) _ _ ∧ _›
                        have hown7 := hown6.keep (B := w5.heap.size + 1) hbl (fun k hk => by have := (hlo k hk).2; omega)
                        have hb7 := hb6.trans (hbl.mono (by omega))
                        have hs7 := hbl.size
                        simp only [World.size_alloc] at hs7
                        have hrow7 := hown7.row len_eSlot
                        have hpk' := hpk.out
                        have hm' := hm.out
                        clear hpk hm hown hown5 hown6 hown7
                        generalize pickTo F p (baseOf fs) k = L at hpk' hm' hrow7
                        replace hpk' := Lib.hid hpk'
                        have hm := Lib.hid hm'
                        clear hm'
                        have hS := Lib.hid (sorted_any B cB _ L x y _ (Nat.le_refl _) hrow7 (by have := hm.out; omega))
                        rw [← hm.out] at hS
                        go_wp2_with (go_at_call 63; refine hS.out.mono ?_; rintro e w8 ⟨⟨B8, c8, rfl, hown8⟩, hbw8⟩)
                        have hown9 := hown8.lower (base' := w.heap.size) (by omega)
                        have hb8 := hb7.trans (hbw8.mono (by omega))
                        refine ⟨⟨k + 1, B8, c8, m + 1, by rw [show ((k + 1 : Nat) : Int) = k + 1 by omega]; congr 1; omega, rfl, by rw [hpk'.out, ins_length, ← hm.out], by omega, by rw [hpk'.out]; exact hown9, by omega, hb8⟩, by simp [intOf]; omega⟩
          · have hke : k = (cut - baseOf fs).toNat := by omega
            subst hke
            have hm' := hm.out
            subst hm'
            replace hown := Lib.hid hown
            go_wp2
            go_ret2
            go_light
            exact ⟨⟨B, cB, _, 0, rfl, hDI.out, hown.out⟩, hbr⟩
  · have HB := Lib.hid (duty_bad hH)
    replace hH := Lib.hid hH
    replace hpl := Lib.hid hpl
    by_cases h1 : who.length = fs.length
    · have hlen : ((who.length : Int) != (fs.length : Int)) = false := by simp [h1]
      replace h1 := Lib.hid h1
      by_cases h3 : pl self < 0
      · go_enter Try.func36, Try.ntmps36
        go_wp2_with (go_at_call 69; refine (H69.out _ _ (by first | exact Below.refl _ _ | assumption)).mono ?_; rintro e w1 ⟨rfl, hb1⟩)
        go_ret2
        go_light
        exact duty_none HB.out hb1
      · by_cases h4 : pl q < 0
        · go_enter Try.func36, Try.ntmps36
          go_wp2_with (go_at_call 69; refine (H69.out _ _ (by first | exact Below.refl _ _ | assumption)).mono ?_; rintro e w1 ⟨rfl, hb1⟩)
          go_ret2
          go_light
          exact duty_none HB.out hb1
        · have hsq : (self == q) = true := by
            by_cases h2 : self = q
            · simpa using h2
            · exact absurd ⟨h1.out, h2, (place_out hS h3).1, (place_out hS h3).2, (place_out hQ h4).2⟩ hH.out
          go_enter Try.func36, Try.ntmps36
          go_wp2_with (go_at_call 69; refine (H69.out _ _ (by first | exact Below.refl _ _ | assumption)).mono ?_; rintro e w1 ⟨rfl, hb1⟩)
          go_ret2
          go_light
          exact duty_none HB.out hb1
    · have hlen : ((who.length : Int) != (fs.length : Int)) = true := by simp; omega
      go_enter Try.func36, Try.ntmps36
      go_wp2_with (go_at_call 69; refine (H69.out _ _ (by first | exact Below.refl _ _ | assumption)).mono ?_; rintro e w1 ⟨rfl, hb1⟩)
      go_ret2
      go_light
      exact duty_none HB.out hb1
end Go.Proofs.Ytcffhfcjfjfokaa
/- The law's sameInts. -/
namespace Go.Proofs.Ytcffhfcjfjfokaa
open Go.RowKit
/-- Two rows that hold the same numbers. -/
theorem sameInts_yes (A B : Option Addr) (cA cB N : Nat) (l : List Int) (w : World) (hN : N ≤ w.heap.size) (hA : RowAt w N 1 eInt A l) (hB : RowAt w N 1 eInt B l) (hl : l.length ≤ 9223372036854775807) :
    Calls Try.prog 37 #[.slice A l.length cA, .slice B l.length cB] w fun x w' => x = .returned (.bool true) ∧ Below w.heap.size w w' := by
  go_enter Try.func37, Try.ntmps37
  go_wp2
  go_loopw [5] (fun k wr => ∃ q : Nat, k = .int .i64 q ∧ q ≤ l.length ∧ Below w.heap.size w wr) (fun k _ => l.length - (intOf k).toNat)
  case atStart => exact ⟨0, rfl, by omega, Below.refl _ _⟩
  case round =>
    obtain ⟨q, rfl, hq, hb⟩ := hrel
    have hsz := hb.size
    by_cases hlt : q < l.length
    · obtain ⟨g, o, x, rfl, hg, hx, c0⟩ := (hA.below hb hN).int hlt
      obtain ⟨g', o', x', rfl, hg', hx', d0⟩ := (hB.below hb hN).int hlt
      obtain rfl : x = x' := by have := hx'.out; rw [hx.out] at this; injection this
      go_wp2
      go_quiet (fail)
      go_wp2
      go_roundw
      case rel => go_light; exact ⟨q + 1, by go_num, by omega, below_drewN hb _⟩
      case measure => go_light; simp [intOf]; omega
    · go_wp2
      go_ret
      exact ⟨rfl, hb⟩
end Go.Proofs.Ytcffhfcjfjfokaa
namespace Go.Proofs.Ytcffhfcjfjfokaa
open Go.RowKit
set_option maxRecDepth 100000 in
/-- Two rows that hold the same slots. -/
theorem sameSlots_yes (A B : Option Addr) (cA cB N : Nat) (l : List (Int × Int)) (w : World) (hN : N ≤ w.heap.size) (hA : RowAt w N 2 eSlot A l) (hB : RowAt w N 2 eSlot B l) (hl : l.length ≤ 9223372036854775807) :
    Calls Try.prog 26 #[.slice A l.length cA, .slice B l.length cB] w fun x w' => x = .returned (.bool true) ∧ Below w.heap.size w w' := by
  have hns := run_neq_slot
  go_enter Try.func26, Try.ntmps26
  go_wp2
  go_loopw [5] (fun k wr => ∃ q : Nat, k = .int .i64 q ∧ q ≤ l.length ∧ Below w.heap.size w wr) (fun k _ => l.length - (intOf k).toNat)
  case atStart => exact ⟨0, rfl, by omega, Below.refl _ _⟩
  case round =>
    obtain ⟨q, rfl, hq, hb⟩ := hrel
    have hsz := hb.size
    by_cases hlt : q < l.length
    · obtain ⟨g, o, x, y, rfl, hg, hx, c0, c1⟩ := (hA.below hb hN).slot hlt
      obtain ⟨g', o', x', y', rfl, hg', hx', d0, d1⟩ := (hB.below hb hN).slot hlt
      obtain ⟨rfl, rfl⟩ : x = x' ∧ y = y' := by have := hx'.out; rw [hx.out] at this; injection this with h; injection h with h1 h2; exact ⟨h1, h2⟩
      have hse : slotEq x y x y = true := by simp [slotEq]
      go_wp2
      go_quiet (fail)
      go_wp2
      go_roundw
      case rel => go_light; exact ⟨q + 1, by go_num, by omega, below_drewN hb _⟩
      case measure => go_light; simp [intOf]; omega
    · go_wp2
      go_ret
      exact ⟨rfl, hb⟩
end Go.Proofs.Ytcffhfcjfjfokaa
/- What the law's untouched answers where nothing was touched. -/
namespace Go.Proofs.Ytcffhfcjfjfokaa
open Go.RowKit
theorem RowAt.front {α : Type} {w : World} {N sz : Nat} {enc : α → List Value} {A : Option Addr} {l m : List α} (h : RowAt w N sz enc A (l ++ m)) : RowAt w N sz enc A l := fun h0 => by
  obtain ⟨b, off, e, hb, hc⟩ := h (by rw [List.length_append]; omega)
  exact ⟨b, off, e, hb, fun k x hk => hc k x (by rw [List.getElem?_append_left (List.getElem?_eq_some_iff.1 hk).1]; exact hk)⟩
set_option maxRecDepth 100000 in
set_option maxHeartbeats 2000000 in
theorem untouched_yes (f g : Fl) (g2 g4 c2 c4 N : Nat) (A' B' : Option Addr) (cA' cB' : Nat) (w : World) (hN : N ≤ w.heap.size)
    (h2 : RowAt w N 2 eSlot (some ⟨g2, 0, none⟩) (f.slots ++ [(71, 71)])) (h4 : RowAt w N 1 eInt (some ⟨g4, 0, none⟩) (f.have_ ++ [72])) (l2 : f.slots.length + 1 ≤ c2) (m2 : c2 ≤ 9223372036854775807) (l4 : f.have_.length + 1 ≤ c4) (m4 : c4 ≤ 9223372036854775807)
    (hr' : FlRows w N g A' cA' B' cB') (hs : f = g) :
    Calls Try.prog 27 #[.agg #[.int .i64 f.e, .int .i64 f.l, .int .i64 f.i, .int .i64 f.c, .int .i64 f.base, .slice (some ⟨g2, 0, none⟩) f.slots.length c2, .slice (some ⟨g4, 0, none⟩) f.have_.length c4, .slice (some ⟨g2, 0, none⟩) (f.slots.length + 1) c2, .slice (some ⟨g4, 0, none⟩) (f.have_.length + 1) c4], .agg (flc g.e g.l g.i g.c g.base A' g.slots.length cA' B' g.have_.length cB')] w
      fun x w' => x = .returned (.bool true) ∧ Below w.heap.size w w' := by
  subst hs
  have hsb : sameB f f = true := by simp [sameB]
  go_enter Try.func27, Try.ntmps27
  obtain ⟨b2, o2, x, y, e2, hb2, hx2, k1, k2⟩ := h2.slot (k := f.slots.length) (by simp)
  obtain ⟨b4, o4, z, e4, hb4, hx4, k4⟩ := h4.int (k := f.have_.length) (by simp)
  obtain ⟨rfl, rfl⟩ : g2 = b2 ∧ 0 = o2 := by simpa using e2
  obtain ⟨rfl, rfl⟩ : g4 = b4 ∧ 0 = o4 := by simpa using e4
  have e1 := hx2.out
  rw [List.getElem?_append_right (Nat.le_refl _)] at e1
  simp at e1
  obtain ⟨rfl, rfl⟩ := e1
  have e3 := hx4.out
  rw [List.getElem?_append_right (Nat.le_refl _)] at e3
  simp at e3
  subst e3
  clear e2 e4 hx2 hx4
  have hrf : FlRows w N f (some ⟨g2, 0, none⟩) c2 (some ⟨g4, 0, none⟩) c4 := ⟨h2.front, h4.front, by omega, m2, by omega, m4⟩
  simp only [Nat.zero_add] at k1 k2 k4
  have b2w : g2 < w.heap.size := by omega
  have b4w : g4 < w.heap.size := by omega
  have q1 : f.slots.length < f.slots.length + 1 := by omega
  have q2 : f.have_.length < f.have_.length + 1 := by omega
  clear h2 h4
  go_wp2_with (go_at_call 64; refine (same_any f f _ _ _ _ _ _ _ _ N _ (by simp only [World.size_alloc]; omega) (by exact hrf.below (below_box2 _ _ _ _ _) hN) (by exact hr'.below (below_box2 _ _ _ _ _) hN)).mono ?_; rintro e w' ⟨rfl, hbw⟩; rw [World.size_alloc, World.size_alloc] at hbw; obtain ⟨hb0, hc1, hc2, -, -, hs1, hs2⟩ := box2_facts hbw; have hq := bcell hb0; obtain ⟨hq1, -⟩ := hq; rw [← hq1 _ _ b2w] at k1 k2; rw [← hq1 _ _ b4w] at k4; clear hq1)
  go_ret
  go_light
  exact ⟨rfl, hb0⟩
end Go.Proofs.Ytcffhfcjfjfokaa
/- Two equal lists of contents are told alike. -/
namespace Go.Proofs.Ytcffhfcjfjfokaa
open Go.RowKit
set_option maxRecDepth 100000 in
set_option maxHeartbeats 2000000 in
theorem sameFls_yes (A A' : Option Addr) (cA cA' N : Nat) (fs : List Fl) (w : World) (hN : N ≤ w.heap.size) (hA : Fls w N A fs) (hA' : Fls w N A' fs) (hl : fs.length ≤ 9223372036854775807) :
    Calls Try.prog 55 #[.slice A fs.length cA, .slice A' fs.length cA'] w fun x w' => x = .returned (.bool true) ∧ Below w.heap.size w w' := by
  go_enter Try.func55, Try.ntmps55
  go_wp2
  go_loopw [5] (fun k wr => ∃ q : Nat, k = .int .i64 q ∧ q ≤ fs.length ∧ Below w.heap.size w wr) (fun k _ => fs.length - (intOf k).toNat)
  case atStart => exact ⟨0, rfl, by omega, Below.refl _ _⟩
  case round =>
    obtain ⟨q, rfl, hq, hb⟩ := hrel
    have hsz := hb.size
    by_cases hlt : q < fs.length
    · obtain ⟨g, o, f, X, cX, Y, cY, rfl, hg, hf, ⟨c0, c1, c2, c3, c4, c5, c6⟩, hr⟩ := (hA.below hb hN).at_ hlt
      obtain ⟨g', o', f', X', cX', Y', cY', rfl, hg', hf', ⟨d0, d1, d2, d3, d4, d5, d6⟩, hr'⟩ := (hA'.below hb hN).at_ hlt
      obtain rfl : f = f' := by have h1 := hf.out; rw [hf'.out] at h1; exact (Option.some.inj h1).symm
      have hsb : sameB f f = true := by simp [sameB]
      clear hA hA'
      go_wp2
      go_still_tail 8, (by kernel_rfl)
      change wpList _ _ _ _ _ wr.drew
      go_wp2_with (go_at_call 64; refine (same_any (w := wr.drew) f f _ _ _ _ _ _ _ _ N (by show N ≤ wr.heap.size; omega) (FlRows.below hr (Below.drew (Below.refl N wr)) (Nat.le_refl _)) (FlRows.below hr' (Below.drew (Below.refl N wr)) (Nat.le_refl _))).mono ?_; rintro e w' ⟨rfl, hbw⟩)
      go_roundw
      case rel => go_light; exact ⟨q + 1, by go_num, by omega, (Below.drew hb).trans (hbw.mono (by show _ ≤ wr.heap.size; omega))⟩
      case measure => go_light; simp [intOf]; omega
    · go_wp2
      go_ret
      go_light
      exact ⟨rfl, hb⟩
end Go.Proofs.Ytcffhfcjfjfokaa
