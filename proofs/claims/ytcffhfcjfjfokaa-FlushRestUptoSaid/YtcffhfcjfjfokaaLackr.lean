import Derived.Test.YtcffhfcjfjfokaaIcut
import Derived.Test.YtcffhfcjfjfokaaLackf
import Derived.Test.YtcffhfcjfjfokaaSorted
namespace Go.Proofs.Ytcffhfcjfjfokaa
open Go.RowKit
open Classical in
/-- The slot of a position, where one is known. -/
noncomputable def knownF (fs : List Fl) (pos : Int) : Option (Int × Int) := if ∃ s, Known fs pos s then some (atOf fs pos) else none
theorem knownF_iff {fs : List Fl} (h : Fit fs) (pos : Int) (s : Int × Int) : knownF fs pos = some s ↔ Known fs pos s := by
  unfold knownF
  constructor
  · intro e
    split at e
    · rename_i hk
      obtain ⟨t, ht⟩ := hk
      rw [atOf_known h ht] at e; cases e; exact ht
    · cases e
  · intro hk
    rw [if_pos ⟨s, hk⟩, atOf_known h hk]
theorem flc_cells {w : World} {b : Nat} {e l i c ba : Int} {X Y : Option Addr} {n m cX cY : Nat} (h : ∀ j, w.cell? ⟨b, j, none⟩ = (flc e l i c ba X n cX Y m cY)[j]?) :
    w.cell? ⟨b, 0, none⟩ = some (.int .i64 e) ∧ w.cell? ⟨b, 1, none⟩ = some (.int .i64 l) ∧ w.cell? ⟨b, 2, none⟩ = some (.int .i64 i) ∧ w.cell? ⟨b, 3, none⟩ = some (.int .i64 c) ∧ w.cell? ⟨b, 4, none⟩ = some (.int .i64 ba) ∧
    w.cell? ⟨b, 5, none⟩ = some (.slice X n cX) ∧ w.cell? ⟨b, 6, none⟩ = some (.slice Y m cY) := ⟨h 0, h 1, h 2, h 3, h 4, h 5, h 6⟩
def LacksPost (done : Int) (own : Fl) (fs : List Fl) (w : World) (x : Ending) (w' : World) : Prop :=
  (∃ B c l n, x = .returned (.tuple #[.slice B l.length c, .int .i64 n]) ∧ LacksIs done own fs l n ∧ Owns w' w.heap.size 66 2 eSlot B c l) ∧ Below w.heap.size w w'
theorem lacks_none {done : Int} {own : Fl} {fs : List Fl} {w w' : World} {n : Int} (h : LacksIs done own fs [] n) (hb : Below w.heap.size w w') : LacksPost done own fs w (.returned (.tuple #[.slice none 0 0, .int .i64 n])) w' :=
  ⟨⟨none, 0, [], n, rfl, h, owns_nil _ _ _ _ _⟩, hb⟩
set_option maxRecDepth 100000 in
set_option maxHeartbeats 4000000 in
theorem rlacks_any (done : Int) (own : Fl) (X Y A : Option Addr) (cX cY cA N : Nat) (fs : List Fl) (w : World) (hN : N ≤ w.heap.size) (hr : FlRows w N own X cX Y cY) (hA : Fls w N A fs) (hl : fs.length ≤ 9223372036854775807) :
    Calls Try.prog 25 #[.int .i64 done, .agg (flc own.e own.l own.i own.c own.base X own.slots.length cX Y own.have_.length cY), .slice A fs.length cA] w (LacksPost done own fs w) := by
  by_cases h1 : done < 0
  · have HL : Hid (LacksIs done own fs [] 1) := by show (if _ then _ else _); rw [if_neg (by omega)]; exact ⟨rfl, rfl⟩
    go_enter Try.func25, Try.ntmps25
    go_wp2
    go_ret2
    go_light
    exact lacks_none HL.out (below_box1 _ _ _)
  · by_cases h2 : 4611686018427387904 < done
    · have HL : Hid (LacksIs done own fs [] 1) := by show (if _ then _ else _); rw [if_neg (by omega)]; exact ⟨rfl, rfl⟩
      go_enter Try.func25, Try.ntmps25
      go_wp2
      go_ret2
      go_light
      exact lacks_none HL.out (below_box1 _ _ _)
    · by_cases h3 : 1 ≤ fs.length ∧ fs.length ≤ 16
      · obtain ⟨h3a, h3b⟩ := h3
        obtain ⟨rs, hrs, hR⟩ := fls_rows hA
        have hlr : rs.length = fs.length := by rw [← hrs, List.length_map]
        replace hrs := Lib.hid hrs
        have Hlr := Lib.hid hlr
        clear hlr hA
        have h4 : ¬ fs.length < 1 := by omega
        have h5 : ¬ 16 < fs.length := by omega
        go_enter Try.func25, Try.ntmps25
        go_wp2_with (at_builtin; refine wpList_append_rows _ rfl (.tmp 30) (.tmp 31) 22 rfl (w.heap.size + 1) 39 7 88 _ Try.underlying22 info39 rfl (by decide) eRw len_eRw one_eRw none 0 [] A cA N 0 fs.length rs rfl rfl rfl ?_ ?_ ?_ ?_ ?_ ?_ ?_)
        · exact Hlr.out
        · exact owns_nil _ _ _ _ _
        · exact hR.row.below (below_box1 _ _ _) hN
        all_goals try omega
        · intro A1 c1 w1 ho1 hg1 hk1
          have hb1 := (Below.refl (w.heap.size + 1) (box1 w (flc own.e own.l own.i own.c own.base X own.slots.length cX Y own.have_.length cY) 39)).grown hg1 (by simp) (by intro k hk; simp [blk] at hk)
          have hlo1 := ho1.lo
          obtain ⟨hb10, hc1, -, hs1⟩ := box1_facts hb1
          clear hg1 hk1
          have hc10 := hc1 0
          have hc11 := hc1 1
          have hc12 := hc1 2
          have hc13 := hc1 3
          have hc14 := hc1 4
          have hc15 := hc1 5
          have hc16 := hc1 6
          simp [flc] at hc10 hc11 hc12 hc13 hc14 hc15 hc16
          clear hc1
          go_wp2_with (at_builtin; refine wpList_append_rows _ rfl (.tmp 33) (.tmp 35) 22 rfl (w.heap.size + 1) 39 7 88 _ Try.underlying22 info39 rfl (by decide) eRw len_eRw one_eRw A1 c1 rs (some ⟨w1.heap.size, 0, none⟩) 1 (w1.heap.size + 1) fs.length 1 [⟨own, X, cX, Y, cY⟩] rfl rfl ?_ ?_ ?_ ?_ ?_ ?_ ?_ ?_)
          · exact Hlr.out
          · rfl
          · exact ho1.alloc _
          · exact row_new _ _ _ _ _ _ rfl
          all_goals try omega
          all_goals try (simp only [World.size_alloc]; omega)
          · intro A2 c2 w2 ho2 hg2 hk2
            have hB2 := (hb1.alloc (by omega) (.cells #[.int .i64 own.e, .int .i64 own.l, .int .i64 own.i, .int .i64 own.c, .int .i64 own.base, .slice X own.slots.length cX, .slice Y own.have_.length cY] 39)).grown hg2 (by simp only [World.size_alloc]; omega) (fun k hk => (hlo1 k hk).1)
            obtain ⟨hb20, hc2, -, hs2⟩ := box1_facts hB2
            have hfl : Fls w2 w2.heap.size A2 (fs ++ [own]) := by
              have hx : Rws w2 w2.heap.size A2 (rs ++ [⟨own, X, cX, Y, cY⟩]) := ⟨ho2.row len_eRw, fun r hr' => by
                rcases List.mem_append.1 hr' with h | h
                · exact ((hR.each r h).below hb20 hN).more (by omega)
                · obtain rfl := List.mem_singleton.1 h
                  exact (hr.below hb20 hN).more (by omega)⟩
              have := rows_fls hx
              rw [List.map_append, hrs.out] at this; exact this
            have hLM : ∀ m, Together (fs ++ [own]) m → ListedMore fs [own] m := fun m h => by unfold ListedMore; rw [if_pos ⟨h3a, h3b⟩]; exact h
            have hlen : fs.length + 1 = (fs ++ [own]).length := by simp
            have hmem : own ∈ fs ++ [own] := by simp
            have HLI : ∀ l n, Hid (LacksIs done own fs l n ↔ LacksIs done own fs l n) := fun _ _ => (Iff.rfl : _ ↔ _)
            have hPE : ∀ n, n ≠ 0 → Together (fs ++ [own]) n → LacksIs done own fs [] n := fun n hn h => by unfold LacksIs; rw [if_pos (by omega)]; exact .inl ⟨n, hn, hLM n h, rfl, rfl⟩
            have hPF : Together (fs ++ [own]) 0 → done < baseOf (fs ++ [own]) → LacksIs done own fs [] 82 := fun h hlt => by unfold LacksIs; rw [if_pos (by omega)]; exact .inr (.inl ⟨hLM 0 h, fit_iff.1 h, hlt, rfl, rfl⟩)
            have hPO : Together (fs ++ [own]) 0 → baseOf (fs ++ [own]) ≤ done → ∀ cut, IsCut (fs ++ [own]) cut → LacksIs done own fs (pickTo (knownF (fs ++ [own])) (fun s => !havB own.have_ s.1 s.2) done (cut - done).toNat) 0 := fun h hge cut hc => by unfold LacksIs; rw [if_pos (by omega)]; exact .inr (.inr ⟨hLM 0 h, fit_iff.1 h, hge, rfl, cut, _, hc, knownF_iff (fit_iff.1 h), rfl⟩)
            clear HLI hLM
            rw [hlen]
            have hl2 : (fs ++ [own]).length ≤ 17 := by simp; omega
            clear hlen ho1 ho2 hg2 hk2 hb1 hlo1 hb10 hs1 hc10 hc11 hc12 hc13 hc14 hc15 hc16 hR hrs Hlr
            replace hPE := Lib.hid hPE
            replace hPF := Lib.hid hPF
            replace hPO := Lib.hid hPO
            generalize fs ++ [own] = fs2 at *
            go_wp2_with (go_at_call 29; refine (together_any A2 c2 w2.heap.size fs2 _ (Nat.le_refl _) hfl (by omega)).mono ?_; rintro e w3 ⟨⟨n, rfl, hn⟩, hbw⟩; replace hn := Lib.hid hn)
            · go_ret2
              go_light
              have h0 := ‹(n != 0) = true›
              exact lacks_none (hPE.out n (by simpa using h0) hn.out) (hb20.trans (hbw.mono (by omega)))
            · have h0 := ‹(n != 0) = false›
              obtain rfl : n = 0 := by simpa using h0
              have hsz3 := hbw.size
              have hfl3 := hfl.below hbw (Nat.le_refl _)
              have hb30 := hb20.trans (hbw.mono (by omega))
              have hB3 := hB2.trans (hbw.mono (by omega))
              have HFit := Lib.hid (fit_iff.1 hn.out)
              have hbp := base_nonneg fs2
              have hbq := base_le HFit.out.sound
              clear hB2 hb20 hc2 hfl hbw
              refine (base_any A2 c2 w2.heap.size fs2 w3 hfl3 (by omega)).mono ?_
              rintro e w4 ⟨rfl, rfl⟩
              by_cases hlt : done < baseOf fs2
              · go_wp2
                go_ret2
                go_light
                exact lacks_none (hPF.out hn.out hlt) hb30
              · have hge : baseOf fs2 ≤ done := by omega
                go_wp2_with (go_at_call 54; refine (end_any A2 c2 w2.heap.size fs2 w3 (by omega) hfl3 (by omega) (fun f hf => ⟨(HFit.out.sound f hf).base0, by have := (HFit.out.sound f hf).base; omega⟩) hbp (fun n h => cut_bound HFit.out h)).mono ?_; rintro e w4 ⟨⟨cut, rfl, hcut⟩, hbw4⟩; have hcb := cut_bound HFit.out (n := (cut - baseOf fs2).toNat) (fun p h1 h2 => hcut.all p h1 (by have := hcut.low; omega)); have hlow := hcut.low)
                have hKn : ∀ pos, baseOf fs2 < pos → pos ≤ cut → ∃ s : Int × Int, knownF fs2 pos = some s ∧ atOf fs2 pos = s ∧ rhasB own.have_ s.1 s.2 = havB own.have_ s.1 s.2 := fun pos h1 h2 => by
                  obtain ⟨s, hs, -⟩ := (whole_iff HFit.out).1 (hcut.all pos h1 h2)
                  exact ⟨s, (knownF_iff HFit.out pos s).2 hs, atOf_known HFit.out hs, had_rhas HFit.out hs hmem⟩
                have hPO' := hPO.out hn.out hge cut hcut
                have hbs : ∀ f ∈ fs2, 0 ≤ f.base ∧ f.base ≤ 4611686018427387904 := fun f hf => ⟨(HFit.out.sound f hf).base0, by have := (HFit.out.sound f hf).base; omega⟩
                obtain ⟨p, hp0⟩ : ∃ p : Int × Int → Bool, p = fun s => !havB own.have_ s.1 s.2 := ⟨_, rfl⟩
                obtain ⟨F, hF0⟩ : ∃ F, F = knownF fs2 := ⟨_, rfl⟩
                rw [← hp0, ← hF0] at hPO'
                rw [← hF0] at hKn
                have hpq : ∀ s, p s = !havB own.have_ s.1 s.2 := fun s => by rw [hp0]
                replace hPO' := Lib.hid hPO'
                replace hbs := Lib.hid hbs
                have hsz4 := hbw4.size
                have hfl4 := hfl3.below hbw4 (by omega)
                have hB4 := hB3.trans (hbw4.mono (by omega))
                clear hPO hPF hPE hp0 hF0 hcut hfl3 hB3 hb30 hbw4
                go_loopw [10, 12] (fun a b wr => ∃ (q : Nat) (B : Option Addr) (cB m : Nat), b = .int .i64 (done + q) ∧ a = .slice B m cB ∧ m = (pickTo F p done q).length ∧ q ≤ (cut - done).toNat ∧ Owns wr w.heap.size 66 2 eSlot B cB (pickTo F p done q) ∧ m ≤ q ∧ Below w4.heap.size w4 wr) (fun _ b _ => (cut - intOf b).toNat)
                case atStart => exact ⟨0, none, 0, 0, by simp, rfl, rfl, by omega, owns_nil _ _ _ _ _, by omega, Below.refl _ _⟩
                case round =>
                  obtain ⟨q, B, cB, m, rfl, rfl, hm, hq, hown, hmq, hb⟩ := hrel
                  replace hm := Lib.hid hm
                  have hlo := hown.lo
                  have hszr := hb.size
                  by_cases hlt : done + q < cut
                  · obtain ⟨⟨x, y⟩, hs, hat, hrh⟩ := hKn (done + q + 1) (by omega) (by omega)
                    have hpk : pickTo F p done (q + 1) = if p (x, y) = true then ins (pickTo F p done q) (x, y) else pickTo F p done q := by rw [pickTo, show done + 1 + (q : Int) = done + q + 1 by omega, hs]
                    have hflr := hfl4.below hb (by omega)
                    have hBr := hB4.trans (hb.mono (by omega))
                    cases hh : havB own.have_ x y with
                    | false =>
                      have hp : p (x, y) = true := by rw [hpq]; simp [hh]
                      rw [hp, if_pos rfl] at hpk
                      replace hpk := Lib.hid hpk
                      rw [hh] at hrh
                      replace hrh := Lib.hid hrh
                      go_wp2_with (go_at_call 31; refine (at_any A2 c2 w2.heap.size fs2 (done + q + 1) wr (by omega) hflr (by omega) (by omega) (by omega) hbs.out).mono ?_; rintro e w5 ⟨rfl, hbw5⟩; rw [hat]; have hs6 := hbw5.size; have hB5 := hBr.trans (hbw5.mono (by omega)); obtain ⟨hb50, hc5, -, hs5⟩ := box1_facts hB5; obtain ⟨k0, k1, k2, k3, k4, k5, k6⟩ := flc_cells hc5; clear hc5; have hr5 := hr.below hb50 hN; have hown5 := hown.keep hbw5 (fun k hk => (hlo k hk).2))
                      have hr6 : RowAt (w5.alloc (.cells #[.int .i64 x, .int .i64 y] 66)) N 1 eInt Y own.have_ := hr5.have_.below ((Below.refl w5.heap.size w5).alloc (Nat.le_refl _) _) (by omega)
                      have hown6 := hown5.alloc (.cells #[.int .i64 x, .int .i64 y] 66)
                      have hb6 := ((hb.trans (hbw5.mono (by omega))).alloc (by omega) (.cells #[.int .i64 x, .int .i64 y] 66))
                      refine (rhas_any own.e own.l own.i own.c own.base (.slice X own.slots.length cX) Y cY N own.have_ x y _ (Nat.le_trans hr5.lenH hr5.capH) (by simp only [World.size_alloc]; omega) hr6).mono ?_
                      rintro e w7 ⟨rfl, hbw7⟩
                      rw [hrh.out]
                      simp only [World.size_alloc] at hbw7
                      have hown7 := hown6.keep (B := w5.heap.size + 1) hbw7 (fun k hk => by have := (hlo k hk).2; omega)
                      have hb7 := hb6.trans (hbw7.mono (by omega))
                      have hs7 := hbw7.size
                      simp only [World.size_alloc] at hs7
                      have hrow7 := hown7.row len_eSlot
                      have hcs7 : ∀ i, w7.cell? ⟨w5.heap.size, i, none⟩ = #[Value.int .i64 x, Value.int .i64 y][i]? := fun i => by
                        rw [hbw7.cell (p := ⟨w5.heap.size, i, none⟩) (by show w5.heap.size < _; omega)]
                        exact World.cell?_alloc_at _ _ _ _ rfl
                      have hpk' := hpk.out
                      have hm' := hm.out
                      clear hpk hm hown hown5 hown6 hown7
                      generalize pickTo F p done q = L at hpk' hm' hrow7
                      replace hpk' := Lib.hid hpk'
                      have hm := Lib.hid hm'
                      clear hm'
                      have hS := Lib.hid (sorted_any B cB w7.heap.size L x y w7 (Nat.le_refl _) hrow7 (by have := hm.out; omega))
                      rw [← hm.out] at hS
                      go_wp2_with (go_at_call 63; refine hS.out.mono ?_; rintro e w8 ⟨⟨B8, c8, rfl, hown8⟩, hbw8⟩)
                      have hown9 := hown8.lower (base' := w.heap.size) (by omega)
                      have hb8 := hb7.trans (hbw8.mono (by omega))
                      refine ⟨⟨q + 1, B8, c8, m + 1, by rw [show ((q + 1 : Nat) : Int) = q + 1 by omega]; congr 1; omega, rfl, by rw [hpk'.out, ins_length, ← hm.out], by omega, by rw [hpk'.out]; exact hown9, by omega, hb8⟩, by simp [intOf]; omega⟩
                    | true =>
                      have hp : p (x, y) = false := by rw [hpq]; simp [hh]
                      rw [hp, if_neg (by simp)] at hpk
                      replace hpk := Lib.hid hpk
                      rw [hh] at hrh
                      replace hrh := Lib.hid hrh
                      go_wp2_with (go_at_call 31; refine (at_any A2 c2 w2.heap.size fs2 (done + q + 1) wr (by omega) hflr (by omega) (by omega) (by omega) hbs.out).mono ?_; rintro e w5 ⟨rfl, hbw5⟩; rw [hat]; have hs6 := hbw5.size; have hB5 := hBr.trans (hbw5.mono (by omega)); obtain ⟨hb50, hc5, -, hs5⟩ := box1_facts hB5; obtain ⟨k0, k1, k2, k3, k4, k5, k6⟩ := flc_cells hc5; clear hc5; have hr5 := hr.below hb50 hN; have hown5 := hown.keep hbw5 (fun k hk => (hlo k hk).2))
                      have hr6 : RowAt (w5.alloc (.cells #[.int .i64 x, .int .i64 y] 66)) N 1 eInt Y own.have_ := hr5.have_.below ((Below.refl w5.heap.size w5).alloc (Nat.le_refl _) _) (by omega)
                      have hown6 := hown5.alloc (.cells #[.int .i64 x, .int .i64 y] 66)
                      have hb6 := ((hb.trans (hbw5.mono (by omega))).alloc (by omega) (.cells #[.int .i64 x, .int .i64 y] 66))
                      refine (rhas_any own.e own.l own.i own.c own.base (.slice X own.slots.length cX) Y cY N own.have_ x y _ (Nat.le_trans hr5.lenH hr5.capH) (by simp only [World.size_alloc]; omega) hr6).mono ?_
                      rintro e w7 ⟨rfl, hbw7⟩
                      rw [hrh.out]
                      simp only [World.size_alloc] at hbw7
                      have hown7 := hown6.keep (B := w5.heap.size + 1) hbw7 (fun k hk => by have := (hlo k hk).2; omega)
                      have hb7 := hb6.trans (hbw7.mono (by omega))
                      have hs7 := hbw7.size
                      simp only [World.size_alloc] at hs7
                      go_wp2
                      refine ⟨⟨q + 1, B, cB, m, by rw [show ((q + 1 : Nat) : Int) = q + 1 by omega]; congr 1; omega, rfl, by rw [hpk.out]; exact hm.out, by omega, by rw [hpk.out]; exact hown7, by omega, hb7⟩, by simp [intOf]; omega⟩
                  · go_wp2
                    have hqe : q = (cut - done).toNat := by omega
                    subst hqe
                    have hm' := hm.out
                    subst hm'
                    replace hown := Lib.hid hown
                    go_ret2
                    go_light
                    exact ⟨⟨B, cB, _, 0, rfl, hPO'.out, hown.out⟩, (box1_facts (hB4.trans (hb.mono (by omega)))).1⟩
      · have HL : Hid (LacksIs done own fs [] 1) := by
          show (if _ then _ else _); rw [if_pos (by omega)]
          exact .inl ⟨1, by decide, by unfold ListedMore; rw [if_neg h3], rfl, rfl⟩
        by_cases h4 : fs.length < 1
        · go_enter Try.func25, Try.ntmps25
          go_wp2
          go_ret2
          go_light
          exact lacks_none HL.out (below_box1 _ _ _)
        · have h5 : 16 < fs.length := by omega
          go_enter Try.func25, Try.ntmps25
          go_wp2
          go_ret2
          go_light
          exact lacks_none HL.out (below_box1 _ _ _)
end Go.Proofs.Ytcffhfcjfjfokaa
