/- What the document's Duty answers. -/
import Derived.Test.YtcffhfcjfjfokaaDuty
import Derived.Test.YtcffhfcjfjfokaaLackr
namespace Go.Proofs.Ytcffhfcjfjfokaa
open Go.RowKit
theorem place_ex (who : List Int) (t : Int) : ∃ r, PlaceIs who t r := by
  by_cases h : WhoOk who ∧ t ∈ who
  · obtain ⟨i, hi, e⟩ := List.getElem_of_mem h.2
    exact ⟨i, .inl ⟨i, h.1, by rw [List.getElem?_eq_getElem hi, e], rfl⟩⟩
  · exact ⟨-1, .inr ⟨rfl, h⟩⟩
theorem place_one {who : List Int} {t a b : Int} (h : PlaceIs who t a) (k : PlaceIs who t b) : a = b := by
  rcases h with ⟨i, ho, hi, rfl⟩ | ⟨rfl, hn⟩ <;> rcases k with ⟨j, ho', hj, rfl⟩ | ⟨rfl, hn'⟩
  · by_cases e : i = j
    · rw [e]
    · exact absurd hj (apart_of_nodup ho.2 e hi)
  · exact absurd ⟨ho, List.mem_of_getElem? hi⟩ hn'
  · exact absurd ⟨ho', List.mem_of_getElem? hj⟩ hn
  · rfl
theorem place_in {who : List Int} {t r : Int} (h : PlaceIs who t r) (h1 : WhoOk who) (h2 : t ∈ who) : ∃ i : Nat, i < who.length ∧ who[i]? = some t ∧ r = i := by
  rcases h with ⟨i, _, hi, rfl⟩ | ⟨rfl, hn⟩
  · exact ⟨i, (List.getElem?_eq_some_iff.1 hi).1, hi, rfl⟩
  · exact absurd ⟨h1, h2⟩ hn
theorem place_out {who : List Int} {t r : Int} (h : PlaceIs who t r) (h0 : ¬ r < 0) : WhoOk who ∧ t ∈ who := by
  rcases h with ⟨i, ho, hi, rfl⟩ | ⟨rfl, _⟩
  · exact ⟨ho, List.mem_of_getElem? hi⟩
  · omega
set_option maxRecDepth 100000 in
set_option maxHeartbeats 4000000 in
theorem rduty_any (self q : Int) (C A : Option Addr) (cC cA N : Nat) (who : List Int) (fs : List Fl) (w : World) (hN : N ≤ w.heap.size) (hC : RowAt w N 1 eInt C who) (hA : Fls w N A fs) (hl1 : who.length ≤ 9223372036854775807) (hl : fs.length ≤ 9223372036854775807) :
    Calls Try.prog 36 #[.int .i64 self, .int .i64 q, .slice C who.length cC, .slice A fs.length cA] w (DutyPost self q who fs w) := by
  obtain ⟨pl, hpl⟩ : ∃ pl : Int → Int, ∀ t, PlaceIs who t (pl t) := Classical.axiomOfChoice fun t => place_ex who t
  have H69 : ∀ (t : Int) (W : World), Below w.heap.size w W → Calls Try.prog 69 #[.slice C who.length cC, .int .i64 t] W fun e W' => e = .returned (.int .i64 (pl t)) ∧ Below w.heap.size w W' := fun t W h => by
    refine (place_any C cC N who t W (by have := h.size; omega) (hC.below h hN) hl1).mono ?_
    rintro e W' ⟨⟨r, rfl, hr⟩, hb⟩
    exact ⟨by rw [place_one hr (hpl t)], h.trans (hb.mono h.size)⟩
  replace H69 := Lib.hid H69
  have hS := hpl self
  have hQ := hpl q
  by_cases hH : DutyHead self q who fs
  · obtain ⟨h1, h2, h3, h4, h5⟩ := id hH
    obtain ⟨me, _, hme, hmp⟩ := place_in hS h3 h4
    obtain ⟨you, _, hyou, hyp⟩ := place_in hQ h3 h5
    have hsq : (self == q) = false := by simpa using h2
    have hlen : ((who.length : Int) != (fs.length : Int)) = false := by simp [h1]
    have hm0 : ((me : Int) < 0) = False := by simp
    have hy0 : ((you : Int) < 0) = False := by simp
    replace hme := Lib.hid hme
    replace hyou := Lib.hid hyou
    have hok := Lib.hid h3
    clear hS hQ hpl h3 h4 h5 h2
    replace h1 := Lib.hid h1
    replace hH := Lib.hid hH
    · go_enter Try.func36, Try.ntmps36
      go_wp2_with (go_at_call 69; refine (H69.out _ _ (by first | exact Below.refl _ _ | assumption)).mono ?_; rintro e w1 ⟨rfl, hb1⟩)
      obtain ⟨w2, hw2⟩ : ∃ w2 : World, w2 = w1 := ⟨_, rfl⟩
      subst hw2
      have hb20 := hb1
      have hs2 := hb1.size
      have hfy : you < fs.length := by have := (List.getElem?_eq_some_iff.1 hyou.out).1; have := h1.out; omega
      obtain ⟨f, hfi⟩ : ∃ f, Hid (fs[you]? = some f) := ⟨_, List.getElem?_eq_getElem hfy⟩
      clear hb1
      refine (listed_any A cA N fs w2 (by omega) (hA.below hb20 hN) hl).mono ?_
      rintro e w3 ⟨⟨n, rfl, hn⟩, hb3⟩
      replace hn := Lib.hid hn
      have hs3 := hb3.size
      have hb30 := hb20.trans (hb3.mono (by omega))
      clear hb3 hb20
      by_cases h0 : n ≠ 0
      · have h0' : (n != 0) = true := by simpa using h0
        go_wp2
        go_ret2
        go_light
        exact duty_none (.inr (.inl ⟨hH.out, n, h0, hn.out, rfl, rfl⟩)) hb30
      · obtain rfl : n = 0 := by omega
        have HFit := Lib.hid (listed_fit hn.out).1
        have hl16 := (listed_fit hn.out).2
        have hbp := base_nonneg fs
        have hbq := base_le HFit.out.sound
        have H54 := Lib.hid (end_any A cA N fs w3 (by omega) (hA.below hb30 hN) hl (fun f hf => ⟨(HFit.out.sound f hf).base0, by have := (HFit.out.sound f hf).base; omega⟩) hbp (fun n h => cut_bound HFit.out h))
        go_wp2_with (go_at_call 54; refine H54.out.mono ?_; rintro e w4 ⟨⟨cut, rfl, hcut⟩, hb4⟩)
        have hcb := cut_bound HFit.out (n := (cut - baseOf fs).toNat) (fun p h1 h2 => hcut.all p h1 (by have := hcut.low; omega))
        have hlow := hcut.low
        have hs4 := hb4.size
        have hb40 := hb30.trans (hb4.mono (by omega))
        clear hb4 hb30
        refine (base_any A cA N fs w4 (hA.below hb40 hN) hl).mono ?_
        rintro e w5 ⟨rfl, rfl⟩
        go_wp2
        obtain ⟨F, hF0⟩ : ∃ F, F = knownF fs := ⟨_, rfl⟩
        obtain ⟨p, hp0⟩ : ∃ p : Int × Int → Bool, p = fun s => !havB f.have_ s.1 s.2 && firstB who (hadL fs s.1 s.2) self := ⟨_, rfl⟩
        have hpq : ∀ s, p s = (!havB f.have_ s.1 s.2 && firstB who (hadL fs s.1 s.2) self) := fun s => by rw [hp0]
        have hDI : DutyIs self q who fs (pickTo F p (baseOf fs) (cut - baseOf fs).toNat) 0 := .inr (.inr ⟨hH.out, hn.out, HFit.out, rfl, cut, F, you, f, hcut, by rw [hF0]; exact knownF_iff HFit.out, hyou.out, hfi.out, by rw [hp0]⟩)
        have hKn : ∀ pos, baseOf fs < pos → pos ≤ cut → ∃ s : Int × Int, F pos = some s ∧ atOf fs pos = s ∧ ∀ f ∈ fs, rhasB f.have_ s.1 s.2 = havB f.have_ s.1 s.2 := fun pos h1 h2 => by
          obtain ⟨s, hs, -⟩ := (whole_iff HFit.out).1 (hcut.all pos h1 h2)
          exact ⟨s, by rw [hF0]; exact (knownF_iff HFit.out pos s).2 hs, atOf_known HFit.out hs, fun f hf => had_rhas HFit.out hs hf⟩
        have hbs : ∀ f ∈ fs, 0 ≤ f.base ∧ f.base ≤ 4611686018427387904 := fun f hf => ⟨(HFit.out.sound f hf).base0, by have := (HFit.out.sound f hf).base; omega⟩
        replace hbs := Lib.hid hbs
        replace hDI := Lib.hid hDI
        clear hp0 hF0 hcut hn
        go_loopw [13, 15] (fun a b wr => ∃ (k : Nat) (B : Option Addr) (cB m : Nat), b = .int .i64 (baseOf fs + k) ∧ a = .slice B m cB ∧ m = (pickTo F p (baseOf fs) k).length ∧ k ≤ (cut - baseOf fs).toNat ∧ Owns wr w.heap.size 66 2 eSlot B cB (pickTo F p (baseOf fs) k) ∧ m ≤ k ∧ Below w4.heap.size w4 wr) (fun _ b _ => (cut - intOf b).toNat)
        case atStart => exact ⟨0, none, 0, 0, by simp, rfl, rfl, by omega, owns_nil _ _ _ _ _, by omega, Below.refl _ _⟩
        case round =>
          obtain ⟨k, B, cB, m, rfl, rfl, hm, hk, hown, hmk, hb⟩ := hrel
          replace hm := Lib.hid hm
          have hlo := hown.lo
          have hszr := hb.size
          have hbr := hb40.trans (hb.mono (by omega))
          by_cases hlt : baseOf fs + k < cut
          · obtain ⟨⟨x, y⟩, hs, hat, hrh⟩ := hKn (baseOf fs + k + 1) (by omega) (by omega)
            have hpk : pickTo F p (baseOf fs) (k + 1) = if p (x, y) = true then ins (pickTo F p (baseOf fs) k) (x, y) else pickTo F p (baseOf fs) k := by rw [pickTo, show baseOf fs + 1 + (k : Int) = baseOf fs + k + 1 by omega, hs]
            have hflr := hA.below hbr hN
            replace hKn := Lib.hid hKn
            have hrh2 := Lib.hid hrh
            cases hh : havB f.have_ x y with
            | true =>
                      have hp : p (x, y) = false := by rw [hpq]; simp [hh]
                      rw [hp, if_neg (by simp)] at hpk
                      replace hpk := Lib.hid hpk
                      replace hh := Lib.hid hh
                      go_wp2_with (go_at_call 31; refine (at_any A cA N fs (baseOf fs + k + 1) wr (by omega) hflr hl (by omega) (by omega) hbs.out).mono ?_; rintro e w5 ⟨rfl, hbw5⟩; rw [hat]; have hs5 := hbw5.size)
                      have hbr5 := hbr.trans (hbw5.mono (by omega))
                      have hfl5 := hA.below hbr5 hN
                      obtain ⟨g', o', f', X, cX, Y, cY, hAe, hg', hf', ⟨c0, c1, c2, c3, c4, c5, c6⟩, hr⟩ := hfl5.at_ (k := you) (by omega)
                      obtain rfl : f = f' := by have := hf'.out; rw [hfi.out] at this; cases this; rfl
                      subst hAe
                      have hgw' : g' < w5.heap.size := by omega
                      have hown5 := hown.keep hbw5 (fun k hk => (hlo k hk).2)
                      have hown6 := hown5.alloc (.cells #[.int .i64 x, .int .i64 y] 66)
                      have hb6 := ((hb.trans (hbw5.mono (by omega))).alloc (by omega) (.cells #[.int .i64 x, .int .i64 y] 66))
                      have hbx6 : ∀ W : World, Below (w5.heap.size + 1) (w5.alloc (.cells #[.int .i64 x, .int .i64 y] 66)) W → Below w5.heap.size w5 W := fun W h => (box1_facts h).1
                      have h62 : ∀ W : World, Below (w5.heap.size + 1) (w5.alloc (.cells #[.int .i64 x, .int .i64 y] 66)) W → Calls Try.prog 62 #[.agg #[.int .i64 f.e, .int .i64 f.l, .int .i64 f.i, .int .i64 f.c, .int .i64 f.base, .slice X f.slots.length cX, .slice Y f.have_.length cY], .agg #[.int .i64 x, .int .i64 y]] W fun e W' => e = .returned (.bool (havB f.have_ x y)) ∧ Below (w5.heap.size + 1) (w5.alloc (.cells #[.int .i64 x, .int .i64 y] 66)) W' := fun W h => by
                        have h1 := hbx6 W h
                        rw [← hrh f (List.mem_of_getElem? hfi.out)]
                        exact (rhas_any f.e f.l f.i f.c f.base _ Y cY N f.have_ x y W (Nat.le_trans hr.lenH hr.capH) (by have := h1.size; omega) (hr.have_.below h1 (by omega))).mono fun e W' ⟨e1, e2⟩ => ⟨e1, h.trans (e2.mono (by have := h.size; simpa using this))⟩
                      replace h62 := Lib.hid h62
                      clear hbw5
                      refine wp_region_mid 5 (by kernel_rfl) rfl (by kernel_rfl) ?_
                      simp only [List.take_succ_cons, List.take_zero]
                      repeat (refine WS.step (fun K hK => ?_); go_simp; refine hK.out _ ?_; clear hK K)
                      refine WS.nil ?_
                      intro K hK
                      go_simp
                      go_at_call 62
                      refine (h62.out (w5.alloc (.cells #[.int .i64 x, .int .i64 y] 66)).drew (Below.drew (Below.refl _ _))).mono ?_
                      rintro e w7 ⟨rfl, hbw7⟩
                      rw [hh.out]
                      go_wp2_with fail
                      refine hK.out _ _ ?_
                      clear hK K
                      simp only [List.drop_succ_cons, List.drop_zero]
                      repeat (refine WS.step (fun K hK => ?_); go_simp; refine hK.out _ ?_; clear hK K)
                      refine WS.nil ?_
                      have hown7 := hown6.keep (B := w5.heap.size + 1) hbw7 (fun k hk => by have := (hlo k hk).2; omega)
                      have hb7 := hb6.trans (hbw7.mono (by omega))
                      go_wp2
                      refine ⟨⟨k + 1, B, cB, m, by rw [show ((k + 1 : Nat) : Int) = k + 1 by omega]; congr 1; omega, rfl, by rw [hpk.out]; exact hm.out, by omega, by rw [hpk.out]; exact hown7, by omega, hb7⟩, by simp [intOf]; omega⟩
            | false =>
                      replace hh := Lib.hid hh
                      go_wp2_with (go_at_call 31; refine (at_any A cA N fs (baseOf fs + k + 1) wr (by omega) hflr hl (by omega) (by omega) hbs.out).mono ?_; rintro e w5 ⟨rfl, hbw5⟩; rw [hat]; have hs5 := hbw5.size)
                      have hbr5 := hbr.trans (hbw5.mono (by omega))
                      have hfl5 := hA.below hbr5 hN
                      obtain ⟨g', o', f', X, cX, Y, cY, hAe, hg', hf', ⟨c0, c1, c2, c3, c4, c5, c6⟩, hr⟩ := hfl5.at_ (k := you) (by omega)
                      obtain rfl : f = f' := by have := hf'.out; rw [hfi.out] at this; cases this; rfl
                      subst hAe
                      have hgw' : g' < w5.heap.size := by omega
                      have hown5 := hown.keep hbw5 (fun k hk => (hlo k hk).2)
                      have hown6 := hown5.alloc (.cells #[.int .i64 x, .int .i64 y] 66)
                      have hb6 := ((hb.trans (hbw5.mono (by omega))).alloc (by omega) (.cells #[.int .i64 x, .int .i64 y] 66))
                      have hbx6 : ∀ W : World, Below (w5.heap.size + 1) (w5.alloc (.cells #[.int .i64 x, .int .i64 y] 66)) W → Below w5.heap.size w5 W := fun W h => (box1_facts h).1
                      have h62 : ∀ W : World, Below (w5.heap.size + 1) (w5.alloc (.cells #[.int .i64 x, .int .i64 y] 66)) W → Calls Try.prog 62 #[.agg #[.int .i64 f.e, .int .i64 f.l, .int .i64 f.i, .int .i64 f.c, .int .i64 f.base, .slice X f.slots.length cX, .slice Y f.have_.length cY], .agg #[.int .i64 x, .int .i64 y]] W fun e W' => e = .returned (.bool (havB f.have_ x y)) ∧ Below (w5.heap.size + 1) (w5.alloc (.cells #[.int .i64 x, .int .i64 y] 66)) W' := fun W h => by
                        have h1 := hbx6 W h
                        rw [← hrh f (List.mem_of_getElem? hfi.out)]
                        exact (rhas_any f.e f.l f.i f.c f.base _ Y cY N f.have_ x y W (Nat.le_trans hr.lenH hr.capH) (by have := h1.size; omega) (hr.have_.below h1 (by omega))).mono fun e W' ⟨e1, e2⟩ => ⟨e1, h.trans (e2.mono (by have := h.size; simpa using this))⟩
                      replace h62 := Lib.hid h62
                      clear hbw5
                      have hl' : fs.length = who.length := h1.out.symm
                      have hLL : hasL fs x y = hadL fs x y := List.map_congr_left fun f hf => hrh2.out f hf
                      have h70 : ∀ W : World, Below (w5.heap.size + 1) (w5.alloc (.cells #[.int .i64 x, .int .i64 y] 66)) W → Calls Try.prog 70 #[.slice C who.length cC, .slice (some ⟨g', o', none⟩) fs.length cA, .agg #[.int .i64 x, .int .i64 y]] W fun e W' => (∃ r, e = .returned (.int .i64 r) ∧ (r == (me : Int)) = firstB who (hadL fs x y) self) ∧ Below (w5.heap.size + 1) (w5.alloc (.cells #[.int .i64 x, .int .i64 y] 66)) W' := fun W h => by
                        have h1 := hbx6 W h
                        have h2 := hbr5.trans (h1.mono (by omega))
                        rw [hl']
                        refine (lowest_any C _ cC cA N who fs x y W (by have := h2.size; omega) (hC.below h2 hN) (hA.below h2 hN) hl1 hl').mono ?_
                        rintro e W' ⟨⟨r, rfl, hr⟩, e2⟩
                        rw [hLL] at hr
                        exact ⟨⟨r, rfl, low_eq hr hme.out (by unfold hadL; rw [List.length_map, hl']) hok.out.2⟩, h.trans (e2.mono (by have := h.size; simpa using this))⟩
                      have hall : ∀ W : World, Below (w5.heap.size + 1) (w5.alloc (.cells #[.int .i64 x, .int .i64 y] 66)) W → (Below (w5.heap.size + 1) (w5.alloc (.cells #[.int .i64 x, .int .i64 y] 66)) W ∧ W.cell? ⟨w5.heap.size, 0, none⟩ = some (.int .i64 x) ∧ W.cell? ⟨w5.heap.size, 1, none⟩ = some (.int .i64 y) ∧
                          W.cell? ⟨g', o' + you * 7, none⟩ = some (.int .i64 f.e) ∧ W.cell? ⟨g', o' + you * 7 + 1, none⟩ = some (.int .i64 f.l) ∧ W.cell? ⟨g', o' + you * 7 + 2, none⟩ = some (.int .i64 f.i) ∧ W.cell? ⟨g', o' + you * 7 + 3, none⟩ = some (.int .i64 f.c) ∧
                          W.cell? ⟨g', o' + you * 7 + 4, none⟩ = some (.int .i64 f.base) ∧ W.cell? ⟨g', o' + you * 7 + 5, none⟩ = some (.slice X f.slots.length cX) ∧ W.cell? ⟨g', o' + you * 7 + 6, none⟩ = some (.slice Y f.have_.length cY)) := fun W h => by
                        have h1 := hbx6 W h
                        obtain ⟨-, hc, -, -⟩ := box1_facts h
                        exact ⟨h, hc 0, hc 1, (h1.cell (p := ⟨g', _, none⟩) hgw').trans c0, (h1.cell (p := ⟨g', _, none⟩) hgw').trans c1, (h1.cell (p := ⟨g', _, none⟩) hgw').trans c2, (h1.cell (p := ⟨g', _, none⟩) hgw').trans c3, (h1.cell (p := ⟨g', _, none⟩) hgw').trans c4, (h1.cell (p := ⟨g', _, none⟩) hgw').trans c5, (h1.cell (p := ⟨g', _, none⟩) hgw').trans c6⟩
                      clear c0 c1 c2 c3 c4 c5 c6 hr hl' hLL hbr5 hfl5
                      replace hall := Lib.hid hall
                      replace hbx6 := Lib.hid hbx6
                      cases hfB : firstB who (hadL fs x y) self with
                      | false =>
                        rw [hfB] at h70
                        replace h70 := Lib.hid h70
                        have hp : p (x, y) = false := by rw [hpq]; simp [hfB]
                        rw [hp, if_neg (by simp)] at hpk
                        replace hpk := Lib.hid hpk
                        replace hfB := Lib.hid hfB
                        go_region_held3 (fun W => Below (w5.heap.size + 1) (w5.alloc (.cells #[.int .i64 x, .int .i64 y] 66)) W ∧ W.cell? ⟨w5.heap.size, 0, none⟩ = some (.int .i64 x) ∧ W.cell? ⟨w5.heap.size, 1, none⟩ = some (.int .i64 y) ∧
                          W.cell? ⟨g', o' + you * 7, none⟩ = some (.int .i64 f.e) ∧ W.cell? ⟨g', o' + you * 7 + 1, none⟩ = some (.int .i64 f.l) ∧ W.cell? ⟨g', o' + you * 7 + 2, none⟩ = some (.int .i64 f.i) ∧ W.cell? ⟨g', o' + you * 7 + 3, none⟩ = some (.int .i64 f.c) ∧
                          W.cell? ⟨g', o' + you * 7 + 4, none⟩ = some (.int .i64 f.base) ∧ W.cell? ⟨g', o' + you * 7 + 5, none⟩ = some (.slice X f.slots.length cX) ∧ W.cell? ⟨g', o' + you * 7 + 6, none⟩ = some (.slice Y f.have_.length cY))
                          (first | exact hall.out _ (Below.drew (Below.refl _ _)) | exact hall.out _ hbw7 | go_keep)
                          (first | (go_at_call 62; refine (h62.out _ (‹Below (w5.heap.size + 1) _ _ ∧ _›).1).mono ?_; rintro e w7 ⟨rfl, hbw7⟩; rw [hh.out]) | (go_at_call 70; refine (h70.out _ (‹Below (w5.heap.size + 1) _ _ ∧ _›).1).mono ?_; rintro e w7 ⟨⟨r, rfl, hre⟩, hbw7⟩))
                        obtain ⟨hbl, z0, z1, -⟩ := ‹Below (w5.heap.size + 1) _ _ ∧ _›
                        have hown7 := hown6.keep (B := w5.heap.size + 1) hbl (fun k hk => by have := (hlo k hk).2; omega)
                        have hb7 := hb6.trans (hbl.mono (by omega))
                        go_wp2
                        refine ⟨⟨k + 1, B, cB, m, by rw [show ((k + 1 : Nat) : Int) = k + 1 by omega]; congr 1; omega, rfl, by rw [hpk.out]; exact hm.out, by omega, by rw [hpk.out]; exact hown7, by omega, hb7⟩, by simp [intOf]; omega⟩
                      | true =>
                        rw [hfB] at h70
                        replace h70 := Lib.hid h70
                        have hp : p (x, y) = true := by rw [hpq]; simp [hfB, hh.out]
                        rw [hp, if_pos rfl] at hpk
                        replace hpk := Lib.hid hpk
                        replace hfB := Lib.hid hfB
                        go_region_held3 (fun W => Below (w5.heap.size + 1) (w5.alloc (.cells #[.int .i64 x, .int .i64 y] 66)) W ∧ W.cell? ⟨w5.heap.size, 0, none⟩ = some (.int .i64 x) ∧ W.cell? ⟨w5.heap.size, 1, none⟩ = some (.int .i64 y) ∧
                          W.cell? ⟨g', o' + you * 7, none⟩ = some (.int .i64 f.e) ∧ W.cell? ⟨g', o' + you * 7 + 1, none⟩ = some (.int .i64 f.l) ∧ W.cell? ⟨g', o' + you * 7 + 2, none⟩ = some (.int .i64 f.i) ∧ W.cell? ⟨g', o' + you * 7 + 3, none⟩ = some (.int .i64 f.c) ∧
                          W.cell? ⟨g', o' + you * 7 + 4, none⟩ = some (.int .i64 f.base) ∧ W.cell? ⟨g', o' + you * 7 + 5, none⟩ = some (.slice X f.slots.length cX) ∧ W.cell? ⟨g', o' + you * 7 + 6, none⟩ = some (.slice Y f.have_.length cY))
                          (first | exact hall.out _ (Below.drew (Below.refl _ _)) | exact hall.out _ hbw7 | go_keep)
                          (first | (go_at_call 62; refine (h62.out _ (‹Below (w5.heap.size + 1) _ _ ∧ _›).1).mono ?_; rintro e w7 ⟨rfl, hbw7⟩; rw [hh.out]) | (go_at_call 70; refine (h70.out _ (‹Below (w5.heap.size + 1) _ _ ∧ _›).1).mono ?_; rintro e w7 ⟨⟨r, rfl, hre⟩, hbw7⟩))
                        obtain ⟨hbl, z0, z1, -⟩ := ‹Below (w5.heap.size + 1) _ _ ∧ _›
                        have hown7 := hown6.keep (B := w5.heap.size + 1) hbl (fun k hk => by have := (hlo k hk).2; omega)
                        have hb7 := hb6.trans (hbl.mono (by omega))
                        have hs7 := hbl.size
                        simp only [World.size_alloc] at hs7
                        have hrow7 := hown7.row len_eSlot
                        have hpk' := hpk.out
                        have hm' := hm.out
                        clear hpk hm hown hown5 hown6 hown7
                        generalize pickTo F p (baseOf fs) k = L at hpk' hm' hrow7
                        replace hpk' := Lib.hid hpk'
                        have hm := Lib.hid hm'
                        clear hm'
                        have hS := Lib.hid (sorted_any B cB _ L x y _ (Nat.le_refl _) hrow7 (by have := hm.out; omega))
                        rw [← hm.out] at hS
                        go_wp2_with (go_at_call 63; refine hS.out.mono ?_; rintro e w8 ⟨⟨B8, c8, rfl, hown8⟩, hbw8⟩)
                        have hown9 := hown8.lower (base' := w.heap.size) (by omega)
                        have hb8 := hb7.trans (hbw8.mono (by omega))
                        refine ⟨⟨k + 1, B8, c8, m + 1, by rw [show ((k + 1 : Nat) : Int) = k + 1 by omega]; congr 1; omega, rfl, by rw [hpk'.out, ins_length, ← hm.out], by omega, by rw [hpk'.out]; exact hown9, by omega, hb8⟩, by simp [intOf]; omega⟩
          · have hke : k = (cut - baseOf fs).toNat := by omega
            subst hke
            have hm' := hm.out
            subst hm'
            replace hown := Lib.hid hown
            go_wp2
            go_ret2
            go_light
            exact ⟨⟨B, cB, _, 0, rfl, hDI.out, hown.out⟩, hbr⟩
  · have HB := Lib.hid (duty_bad hH)
    replace hH := Lib.hid hH
    replace hpl := Lib.hid hpl
    by_cases h1 : who.length = fs.length
    · have hlen : ((who.length : Int) != (fs.length : Int)) = false := by simp [h1]
      replace h1 := Lib.hid h1
      by_cases h3 : pl self < 0
      · go_enter Try.func36, Try.ntmps36
        go_wp2_with (go_at_call 69; refine (H69.out _ _ (by first | exact Below.refl _ _ | assumption)).mono ?_; rintro e w1 ⟨rfl, hb1⟩)
        go_ret2
        go_light
        exact duty_none HB.out hb1
      · by_cases h4 : pl q < 0
        · go_enter Try.func36, Try.ntmps36
          go_wp2_with (go_at_call 69; refine (H69.out _ _ (by first | exact Below.refl _ _ | assumption)).mono ?_; rintro e w1 ⟨rfl, hb1⟩)
          go_ret2
          go_light
          exact duty_none HB.out hb1
        · have hsq : (self == q) = true := by
            by_cases h2 : self = q
            · simpa using h2
            · exact absurd ⟨h1.out, h2, (place_out hS h3).1, (place_out hS h3).2, (place_out hQ h4).2⟩ hH.out
          go_enter Try.func36, Try.ntmps36
          go_wp2_with (go_at_call 69; refine (H69.out _ _ (by first | exact Below.refl _ _ | assumption)).mono ?_; rintro e w1 ⟨rfl, hb1⟩)
          go_ret2
          go_light
          exact duty_none HB.out hb1
    · have hlen : ((who.length : Int) != (fs.length : Int)) = true := by simp; omega
      go_enter Try.func36, Try.ntmps36
      go_wp2_with (go_at_call 69; refine (H69.out _ _ (by first | exact Below.refl _ _ | assumption)).mono ?_; rintro e w1 ⟨rfl, hb1⟩)
      go_ret2
      go_light
      exact duty_none HB.out hb1
end Go.Proofs.Ytcffhfcjfjfokaa
