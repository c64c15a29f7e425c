/- What Duty answers. -/
import Derived.Test.YtcffhfcjfjfokaaOwe
import Derived.Test.YtcffhfcjfjfokaaIcut
import Derived.Test.YtcffhfcjfjfokaaPicktwo
import Derived.Laws.EntriesVeiled
namespace Go.Proofs.Ytcffhfcjfjfokaa
open Go.RowKit
theorem PlArr.ok {who : List Int} {arr : List Int} (h : PlArr who who.length arr) : WhoOk who := by
  refine ⟨fun x hx => ?_, nodup_of_apart (k := who.length) (fun i j x y hij hj hx hy e => ?_) (Nat.le_refl _)⟩
  · obtain ⟨i, hi, rfl⟩ := List.getElem_of_mem hx
    obtain ⟨a, b, _⟩ := h.put i _ hi (List.getElem?_eq_getElem hi)
    exact ⟨a, b⟩
  · subst e
    have h1 := (h.put i x (by omega) hx).2.2
    have h2 := (h.put j x hj hy).2.2
    rw [h1] at h2
    simp at h2; omega
def DutyHead (self q : Int) (who : List Int) (fs : List Fl) : Prop := who.length = fs.length ∧ self ≠ q ∧ WhoOk who ∧ self ∈ who ∧ q ∈ who
def DutyIs (self q : Int) (who : List Int) (fs : List Fl) (l : List (Int × Int)) (n : Int) : Prop :=
  (¬ DutyHead self q who fs ∧ n = 1 ∧ l = []) ∨
  (DutyHead self q who fs ∧ ∃ m, m ≠ 0 ∧ Listed fs m ∧ n = m ∧ l = []) ∨
  (DutyHead self q who fs ∧ Listed fs 0 ∧ Fit fs ∧ n = 0 ∧ ∃ (cut : Int) (F : Int → Option (Int × Int)) (iy : Nat) (g : Fl), IsCut fs cut ∧ (∀ pos s, F pos = some s ↔ Known fs pos s) ∧ who[iy]? = some q ∧ fs[iy]? = some g ∧
      l = pickTo F (fun s => !havB g.have_ s.1 s.2 && firstB who (hadL fs s.1 s.2) self) (baseOf fs) (cut - baseOf fs).toNat)
def DutyPost (self q : Int) (who : List Int) (fs : List Fl) (w : World) (x : Ending) (w' : World) : Prop :=
  (∃ B c l n, x = .returned (.tuple #[.slice B l.length c, .int .i64 n]) ∧ DutyIs self q who fs l n ∧ Owns w' w.heap.size 66 2 eSlot B c l) ∧ Below w.heap.size w w'
theorem duty_none {self q : Int} {who : List Int} {fs : List Fl} {w w' : World} {n : Int} (h : DutyIs self q who fs [] n) (hb : Below w.heap.size w w') : DutyPost self q who fs w (.returned (.tuple #[.slice none 0 0, .int .i64 n])) w' :=
  ⟨⟨none, 0, [], n, rfl, h, owns_nil _ _ _ _ _⟩, hb⟩
theorem duty_bad {self q : Int} {who : List Int} {fs : List Fl} (h : ¬ DutyHead self q who fs) : DutyIs self q who fs [] 1 := .inl ⟨h, rfl, rfl⟩
abbrev dutyW (w : World) (self q : Int) (A : Option Addr) (n cA : Nat) : World := box3 w #[.int .i64 self] 3 #[.int .i64 q] 3 #[.slice A n cA] 22
theorem dutyW_facts {w wr : World} {self q : Int} {A : Option Addr} {n cA : Nat} (hb : Below (w.heap.size + 3) (dutyW w self q A n cA) wr) :
    Below w.heap.size w wr ∧ wr.cell? ⟨w.heap.size, 0, none⟩ = some (.int .i64 self) ∧ wr.cell? ⟨w.heap.size + 1, 0, none⟩ = some (.int .i64 q) ∧ wr.cell? ⟨w.heap.size + 2, 0, none⟩ = some (.slice A n cA) ∧ w.heap.size + 3 ≤ wr.heap.size := by
  have hs := hb.size
  simp at hs
  refine ⟨(below_box3 w _ _ _ _ _ _).trans (hb.mono (by omega)), ?_, ?_, ?_, hs⟩
  · rw [hb.cell (p := ⟨w.heap.size, 0, none⟩) (by show w.heap.size < _; omega), World.cell?_alloc_past _ _ _ (by simp; omega), World.cell?_alloc_past _ _ _ (by simp)]
    exact World.cell?_alloc_at _ _ _ _ rfl
  · rw [hb.cell (p := ⟨w.heap.size + 1, 0, none⟩) (by show w.heap.size + 1 < _; omega), World.cell?_alloc_past _ _ _ (by simp)]
    exact World.cell?_alloc_at _ _ _ _ (by simp)
  · rw [hb.cell (p := ⟨w.heap.size + 2, 0, none⟩) (by show w.heap.size + 2 < _; omega)]
    exact World.cell?_alloc_at _ _ _ _ (by simp)
abbrev zero16 : Array Value := #[.int .i64 0, .int .i64 0, .int .i64 0, .int .i64 0, .int .i64 0, .int .i64 0, .int .i64 0, .int .i64 0, .int .i64 0, .int .i64 0, .int .i64 0, .int .i64 0, .int .i64 0, .int .i64 0, .int .i64 0, .int .i64 0]
/-- The table of places lies there, and may be written. -/
def ArrAt (w : World) (b : Nat) (arr : List Int) : Prop := (∀ j v, arr[j]? = some v → w.cell? ⟨b, j, none⟩ = some (.int .i64 v)) ∧ ∀ j, w.frozen? ⟨b, j, none⟩ = false
theorem arrAt_new (w : World) : ArrAt (w.alloc (.cells zero16 131)) w.heap.size (List.replicate 16 0) := by
  refine ⟨fun j v hv => ?_, fun j => World.frozen?_alloc_at _ _ _ _ rfl⟩
  rw [World.cell?_alloc_at _ _ _ _ rfl]
  obtain ⟨hj, e⟩ := List.getElem?_eq_some_iff.1 hv
  rw [List.getElem_replicate] at e
  subst e
  rw [List.length_replicate] at hj
  match j, hj with
  | 0, _ | 1, _ | 2, _ | 3, _ | 4, _ | 5, _ | 6, _ | 7, _ | 8, _ | 9, _ | 10, _ | 11, _ | 12, _ | 13, _ | 14, _ | 15, _ => rfl
theorem ArrAt.set {w : World} {b : Nat} {arr : List Int} (h : ArrAt w b arr) {p : Nat} (hp : p < arr.length) (v : Int) : ArrAt (w.setCell ⟨b, p, none⟩ (.int .i64 v)) b (arr.set p v) := by
  obtain ⟨u, hu⟩ : ∃ u, arr[p]? = some u := ⟨_, List.getElem?_eq_getElem hp⟩
  refine ⟨fun j x hx => ?_, fun j => by rw [World.frozen?_setCell]; exact h.2 j⟩
  by_cases e : j = p
  · subst e
    rw [List.getElem?_set_self hp] at hx; cases hx
    exact World.cell?_setCell_same _ _ _ (by rw [h.1 _ _ hu])
  · rw [List.getElem?_set_ne (fun e2 => e e2.symm)] at hx
    rw [World.cell?_setCell_other _ _ _ _ (by intro e2; injection e2 with _ e3; exact e e3.symm)]
    exact h.1 j x hx
theorem ArrAt.range {w : World} {b : Nat} {arr : List Int} (h : ArrAt w b arr) : w.rangeAt b 0 (arrC arr) := fun j v hv => by
  unfold arrC at hv
  rw [List.getElem?_map] at hv
  obtain ⟨x, hx, rfl⟩ := Option.map_eq_some_iff.1 hv
  rw [Nat.zero_add]; exact h.1 j x hx
theorem ArrAt.below {w w' : World} {b B : Nat} {arr : List Int} (h : ArrAt w b arr) (hb : Below B w w') (hB : b < B) : ArrAt w' b arr :=
  ⟨fun j v hv => (hb.cell (p := ⟨b, j, none⟩) hB).trans (h.1 j v hv), fun j => (hb.frozen (p := ⟨b, j, none⟩) hB).trans (h.2 j)⟩
set_option maxRecDepth 100000 in
set_option maxHeartbeats 4000000 in
theorem duty_any (self q : Int) (C A : Option Addr) (cC cA N : Nat) (who : List Int) (fs : List Fl) (w : World) (hN : N ≤ w.heap.size) (hC : RowAt w N 1 eInt C who) (hA : Fls w N A fs) (hl1 : who.length ≤ 9223372036854775807) (hl : fs.length ≤ 9223372036854775807) :
    Calls Try.prog 35 #[.int .i64 self, .int .i64 q, .slice C who.length cC, .slice A fs.length cA] w (DutyPost self q who fs w) := by
  have hbz : ∀ x, Below w.heap.size w ((dutyW w self x A fs.length cA).alloc (.cells zero16 131)) := fun x => (below_box3 w _ _ _ _ _ _).alloc (by simp; omega) _
  by_cases h1 : who.length = fs.length
  · by_cases h2 : self = q
    · have HL := Lib.hid (duty_bad (self := self) (q := q) (who := who) (fs := fs) (fun h => h.2.1 h2))
      rw [← h1]
      subst h2
      go_enter Try.func35, Try.ntmps35
      go_wp2
      go_ret2
      go_light
      exact duty_none HL.out (by first | exact hbz _ | (rw [h1]; exact hbz _))
    · rw [← h1]
      have hbad : (WhoOk who → self ∈ who → q ∈ who → False) → DutyIs self q who fs [] 1 := fun h => duty_bad fun k => h k.2.2.1 k.2.2.2.1 k.2.2.2.2
      have hgood : WhoOk who → self ∈ who → q ∈ who → DutyHead self q who fs := fun a b c => ⟨h1, h2, a, b, c⟩
      replace hbad := Lib.hid hbad
      replace hgood := Lib.hid hgood
      have hsq : (self == q) = false := by simpa using h2
      clear hbz
      obtain ⟨W0, hW0⟩ : ∃ W0, W0 = (dutyW w self q A who.length cA).alloc (.cells zero16 131) := ⟨_, rfl⟩
      have hs0 : W0.heap.size = w.heap.size + 4 := by rw [hW0]; simp
      have hB0 : Below (w.heap.size + 3) (dutyW w self q A who.length cA) W0 := by rw [hW0]; exact (Below.refl _ _).alloc (by simp) _
      have hr0 : ArrAt W0 (w.heap.size + 3) (List.replicate 16 0) := by
        have := arrAt_new (dutyW w self q A who.length cA)
        rw [← hW0] at this; simpa using this
      replace hW0 := Lib.hid hW0
      replace h1 := Lib.hid h1
      go_enter Try.func35, Try.ntmps35
      go_wp2
      go_loopw [30] (fun k wr => ∃ (i : Nat) (arr : List Int), k = .int .i64 i ∧ i ≤ who.length ∧ PlArr who i arr ∧ ArrAt wr (w.heap.size + 3) arr ∧ Below (w.heap.size + 3) (dutyW w self q A who.length cA) wr ∧ wr.heap.size = w.heap.size + 4) (fun k _ => who.length - (intOf k).toNat)
      case atStart => exact ⟨0, _, rfl, by omega, plArr_zero who, by rw [← hW0.out]; exact hr0, by rw [← hW0.out]; exact hB0, by rw [← hW0.out]; exact hs0⟩
      case round =>
        obtain ⟨i, arr, rfl, hi, hP, hr, hb, hsz⟩ := hrel
        obtain ⟨hb0, e0, e1, e2, -⟩ := dutyW_facts hb
        have hlen := hP.len
        replace hP := Lib.hid hP
        by_cases hlt : i < who.length
        · obtain ⟨g, o, x, rfl, hg, hx, hcx⟩ := (hC.below hb0 hN).int hlt
          by_cases hx0 : x < 0
          · have HL := Lib.hid (hbad.out fun h _ _ => bad_in hx.out (.inl hx0) h)
            go_wp2
            go_ret2
            go_light
            exact duty_none HL.out hb0
          · by_cases hx1 : 16 ≤ x
            · have HL := Lib.hid (hbad.out fun h _ _ => bad_in hx.out (.inr hx1) h)
              go_wp2
              go_ret2
              go_light
              exact duty_none HL.out hb0
            · obtain ⟨p, rfl⟩ : ∃ p : Nat, x = p := ⟨x.toNat, by omega⟩
              have hp16 : (p : Int) < 16 := by omega
              have hp : p < arr.length := by omega
              obtain ⟨v, hv⟩ : ∃ v, arr[p]? = some v := ⟨_, List.getElem?_eq_getElem hp⟩
              have hcv := hr.1 p v hv
              have hfv := hr.2 p
              by_cases hv0 : v = 0
              · subst hv0
                have hP' := Lib.hid (plArr_succ hP.out hx.out (by omega) hv)
                have hr' := Lib.hid (hr.set hp ((i : Int) + 1))
                replace hr := Lib.hid hr
                replace hv := Lib.hid hv
                go_wp2
                go_roundw
                case rel => go_light; exact ⟨i + 1, _, by go_num, by omega, hP'.out, hr'.out, hb.setCell (by show w.heap.size + 3 ≤ w.heap.size + 3; omega) _, by rw [World.size_setCell]; exact hsz⟩
                case measure => go_light; simp [intOf]; omega
              · have HL := Lib.hid (hbad.out fun h _ _ => hP.out.twice hx.out hv hv0 h)
                replace hr := Lib.hid hr
                replace hv := Lib.hid hv
                go_wp2
                go_ret2
                go_light
                exact duty_none HL.out hb0
        · obtain rfl : i = who.length := by omega
          have hok := hP.out.ok
          replace hr := Lib.hid hr
          go_wp2
          obtain ⟨W1, hW1⟩ : ∃ W1 : World, W1 = wr := ⟨_, rfl⟩
          subst hW1
          have hb20 := (dutyW_facts (hb.alloc (by omega) (.cells #[.int .i64 self, .int .i64 q] 3))).1
          go_loopw [56] (fun k wr => ∃ j : Nat, k = .int .i64 j ∧ j ≤ 2 ∧ (1 ≤ j → self ∈ who) ∧ (2 ≤ j → q ∈ who) ∧ wr = W1.alloc (.cells #[.int .i64 self, .int .i64 q] 3)) (fun k _ => 2 - (intOf k).toNat)
          case atStart => exact ⟨0, rfl, by omega, by omega, by omega, rfl⟩
          case round =>
            obtain ⟨j, rfl, hj, hin0, hin1, rfl⟩ := hrel
            replace hin0 := Lib.hid hin0
            replace hin1 := Lib.hid hin1
            by_cases hj0 : j = 0
            · subst hj0
              by_cases hx0 : self < 0
              · have HL := Lib.hid (hbad.out fun h h1 h2 => by have := h.1 _ h1; unfold nodeIn at this; omega)
                go_wp2
                go_ret2
                go_light
                exact duty_none HL.out hb20
              · by_cases hx1 : 16 ≤ self
                · have HL := Lib.hid (hbad.out fun h h1 h2 => by have := h.1 _ h1; unfold nodeIn at this; omega)
                  go_wp2
                  go_ret2
                  go_light
                  exact duty_none HL.out hb20
                · obtain ⟨p, rfl⟩ : ∃ p : Nat, self = p := ⟨self.toNat, by omega⟩
                  have hp16 : (p : Int) < 16 := by omega
                  obtain ⟨v, hv⟩ : ∃ v, arr[p]? = some v := ⟨_, List.getElem?_eq_getElem (by omega)⟩
                  have hcv := hr.out.1 p v hv
                  by_cases hv0 : v = 0
                  · have HL := Lib.hid (hbad.out fun _ h1 h2 => hP.out.gone (p := p) (by rw [hv, hv0]) h1)
                    subst hv0
                    replace hv := Lib.hid hv
                    go_wp2
                    go_ret2
                    go_light
                    exact duty_none HL.out hb20
                  · have hin : (p : Int) ∈ who := by
                      obtain ⟨i, _, hwi, _⟩ := hP.out.here hv hv0
                      exact List.mem_of_getElem? hwi
                    replace hin := Lib.hid hin
                    replace hv := Lib.hid hv
                    go_wp2
                    go_roundw
                    case rel => exact ⟨0 + 1, by go_num, by omega, fun h => hin.out, fun h => by omega, trivial⟩
                    case measure => go_light; simp [intOf]
            · by_cases hj1 : j = 1
              · subst hj1
                replace hin0 := Lib.hid (hin0.out (by omega))
                by_cases hx0 : q < 0
                · have HL := Lib.hid (hbad.out fun h h1 h2 => by have := h.1 _ h2; unfold nodeIn at this; omega)
                  go_wp2
                  go_ret2
                  go_light
                  exact duty_none HL.out hb20
                · by_cases hx1 : 16 ≤ q
                  · have HL := Lib.hid (hbad.out fun h h1 h2 => by have := h.1 _ h2; unfold nodeIn at this; omega)
                    go_wp2
                    go_ret2
                    go_light
                    exact duty_none HL.out hb20
                  · obtain ⟨p, rfl⟩ : ∃ p : Nat, q = p := ⟨q.toNat, by omega⟩
                    have hp16 : (p : Int) < 16 := by omega
                    obtain ⟨v, hv⟩ : ∃ v, arr[p]? = some v := ⟨_, List.getElem?_eq_getElem (by omega)⟩
                    have hcv := hr.out.1 p v hv
                    by_cases hv0 : v = 0
                    · have HL := Lib.hid (hbad.out fun _ h1 h2 => hP.out.gone (p := p) (by rw [hv, hv0]) h2)
                      subst hv0
                      replace hv := Lib.hid hv
                      go_wp2
                      go_ret2
                      go_light
                      exact duty_none HL.out hb20
                    · have hin : (p : Int) ∈ who := by
                        obtain ⟨i, _, hwi, _⟩ := hP.out.here hv hv0
                        exact List.mem_of_getElem? hwi
                      replace hin := Lib.hid hin
                      replace hv := Lib.hid hv
                      go_wp2
                      go_roundw
                      case rel => exact ⟨1 + 1, by go_num, by omega, fun h => hin0.out, fun h => hin.out, trivial⟩
                      case measure => go_light; simp [intOf]
              · obtain rfl : j = 2 := by omega
                have hH := Lib.hid (hgood.out hok (hin0.out (by omega)) (hin1.out (by omega)))
                have hb2 : Below (w.heap.size + 3) (dutyW w self q A who.length cA) (W1.alloc (.cells #[.int .i64 self, .int .i64 q] 3)) := hb.alloc (by omega) _
                have hr2 : ArrAt (W1.alloc (.cells #[.int .i64 self, .int .i64 q] 3)) (w.heap.size + 3) arr := hr.out.below ((Below.refl (w.heap.size + 4) W1).alloc (by omega) _) (by omega)
                obtain ⟨W2, hW2⟩ : ∃ W2, W2 = W1.alloc (.cells #[.int .i64 self, .int .i64 q] 3) := ⟨_, rfl⟩
                rw [← hW2] at hb2 hr2
                have hs2 : W2.heap.size = w.heap.size + 5 := by rw [hW2]; simp; omega
                obtain ⟨hbw2, e0', e1', e2', -⟩ := dutyW_facts hb2
                have H52 := list_any A none cA 0 N fs [] W2 (by omega) (hA.below hbw2 hN) (fun h => absurd h (by simp)) hl (by simp)
                rw [← h1.out] at H52
                replace H52 := Lib.hid H52
                replace hW2 := Lib.hid hW2
                replace hr2 := Lib.hid hr2
                clear hr hb20 hB0 hr0 hs0
                go_wp2_with (go_at_call 52; change Calls Try.prog 52 _ (W1.alloc (.cells #[.int .i64 self, .int .i64 q] 3)) _; rw [← hW2.out]; refine H52.out.mono ?_; intro e w' hp; obtain ⟨hbw, hp⟩ := list_cases hp; rw [List.append_nil] at hp; rcases hp with ⟨n, rfl, hn0, hL⟩ | ⟨bs, bu, cut, F, m, rfl, hL, hfit, hcut, hbs, hbu, hub, hM, hF⟩; all_goals try (have hcc0 : w'.cell? ⟨bs, 0, none⟩ = some (.int .i64 (baseOf fs)) := (blk_cells hub 0); have hbsl : bs < w'.heap.size := (Array.getElem?_eq_some_iff.1 hub).1))
                · go_ret2
                  go_light
                  exact duty_none (.inr (.inl ⟨hH.out, n, hn0, more_nil hL, rfl, rfl⟩)) (hbw2.trans (hbw.mono (by omega)))
                · obtain ⟨hWho, hselfIn, hqIn⟩ := (⟨hH.out.2.2.1, hH.out.2.2.2.1, hH.out.2.2.2.2⟩ : WhoOk who ∧ self ∈ who ∧ q ∈ who)
                  have hself0 : 0 ≤ self := (hWho.1 self hselfIn).1
                  have hq0 := (hWho.1 q hqIn).1
                  have hq1 := (hWho.1 q hqIn).2
                  obtain ⟨iy, hiyl, hiy⟩ := List.getElem_of_mem hqIn
                  have hwi : who[iy]? = some q := by rw [List.getElem?_eq_getElem hiyl, hiy]
                  have hfl : iy < fs.length := by have := h1.out; omega
                  obtain ⟨f, hf⟩ : ∃ f, fs[iy]? = some f := ⟨_, List.getElem?_eq_getElem hfl⟩
                  have hput := (hP.out.put iy q hiyl hwi).2.2
                  have hcb := cut_bound hfit (n := (cut - baseOf fs).toNat) (fun p h1 h2 => hcut.all p h1 (by have := hcut.low; omega))
                  have hlow := hcut.low
                  have hbn := base_nonneg fs
                  have hbl := base_le hfit.sound
                  obtain ⟨W6, hW6⟩ : ∃ W6, W6 = w'.alloc (.cells #[.func (.func 67) #[] #[.pointer (some ⟨w.heap.size + 3, 0, none⟩), .pointer (some ⟨w.heap.size + 2, 0, none⟩)]] 132) := ⟨_, rfl⟩
                  have hs6 : W6.heap.size = w'.heap.size + 1 := by rw [hW6]; simp
                  have hb6 : Below w'.heap.size w' W6 := by rw [hW6]; exact (Below.refl _ _).alloc (Nat.le_refl _) _
                  have hc6 : W6.cell? ⟨w'.heap.size, 0, none⟩ = some (.func (.func 67) #[] #[.pointer (some ⟨w.heap.size + 3, 0, none⟩), .pointer (some ⟨w.heap.size + 2, 0, none⟩)]) := by rw [hW6]; exact World.cell?_alloc_at _ _ _ _ rfl
                  have hsw := hbw.size
                  have H59 := pick_68 (.pointer (some ⟨w.heap.size + 2, 0, none⟩)) (.pointer (some ⟨w.heap.size + 3, 0, none⟩)) (.pointer (some ⟨w.heap.size + 1, 0, none⟩)) (.pointer (some ⟨w'.heap.size, 0, none⟩)) (.pointer (some ⟨w.heap.size, 0, none⟩)) bs bu m (baseOf fs) cut (baseOf fs) F
                    (fun s => !havB f.have_ s.1 s.2 && firstB who (hadL fs s.1 s.2) self) W6 ((hb6.block bs hbsl).trans hub) (hM.keep hb6 hM.lt) hbn (by omega) (by omega) (by omega) (fun pos h1 h2 => by
                      obtain ⟨s, hs, -⟩ := (whole_iff hfit).1 (hcut.all pos (by omega) h2)
                      exact ⟨s, (hF pos s).2 hs⟩) (fun s W hbW hpos => by
                      obtain ⟨pos, -, -, hs⟩ := hpos
                      obtain ⟨g, hg, k1, k2, -⟩ := known_slot hfit ((hF pos s).1 hs)
                      have hszW := hbW.size
                      have hall : Below W2.heap.size W2 W := (hbw.trans (hb6.mono hsw)).trans (hbW.mono (by omega))
                      obtain ⟨z0, z1, z2, z3, z4⟩ := dutyW_facts (hb2.trans (hall.mono (by omega)))
                      have hq' : (q.toNat : Int) = q := Int.toNat_of_nonneg hq0
                      exact owe_any (w.heap.size + 2) (w.heap.size + 3) (w.heap.size + 1) w'.heap.size w.heap.size N q.toNat iy self who arr A cA fs f s.1 s.2 W (by omega) (by omega) (by omega) (by omega) (by omega) (by omega)
                        (hr2.out.below hall (by omega)).range z3 (by rw [hq']; exact z2) z1 ((hbW.cell (p := ⟨w'.heap.size, 0, none⟩) (by show w'.heap.size < _; omega)).trans hc6) (hA.below z0 hN) h1.out.symm hl1 hP.out (by omega) hput hf hself0
                        (fun f' hf' => ⟨k1, by have := one_len hfit hf' hg; omega⟩))
                  have hDI : DutyIs self q who fs (pickTo F (fun s => !havB f.have_ s.1 s.2 && firstB who (hadL fs s.1 s.2) self) (baseOf fs) (cut - baseOf fs).toNat) 0 :=
                    .inr (.inr ⟨hH.out, more_nil hL, hfit, rfl, cut, F, iy, f, hcut, hF, hwi, hf, rfl⟩)
                  generalize pickTo F (fun s => !havB f.have_ s.1 s.2 && firstB who (hadL fs s.1 s.2) self) (baseOf fs) (cut - baseOf fs).toNat = l at hDI H59
                  have hb6' : Below w.heap.size w W6 := (hbw2.trans (hbw.mono (by omega))).trans (hb6.mono (by omega))
                  replace H59 := Lib.hid H59
                  replace hDI := Lib.hid hDI
                  replace hW6 := Lib.hid hW6
                  clear hcc0 hub hM hF hfit hcut hL hput hf hwi hc6 hP
                  change Calls Try.prog 59 _ (w'.alloc (.cells #[.func (.func 67) #[] #[.pointer (some ⟨w.heap.size + 3, 0, none⟩), .pointer (some ⟨w.heap.size + 2, 0, none⟩)]] 132)) _
                  rw [← hW6.out]
                  refine H59.out.mono ?_
                  rintro e w3 ⟨⟨B, c, rfl, hown⟩, hb3⟩
                  replace hown := Lib.hid (hown.lower (base' := w.heap.size) (by omega))
                  go_wp2
                  go_ret2
                  go_light
                  exact ⟨⟨B, c, l, 0, rfl, hDI.out, hown.out⟩, hb6'.trans (hb3.mono (by omega))⟩
  · have HL := Lib.hid (duty_bad (self := self) (q := q) (who := who) (fs := fs) (fun h => h1 h.1))
    have hd : ((who.length : Int) != (fs.length : Int)) = true := by simp; omega
    go_enter Try.func35, Try.ntmps35
    go_wp2
    go_ret2
    go_light
    exact duty_none HL.out (hbz _)
end Go.Proofs.Ytcffhfcjfjfokaa
