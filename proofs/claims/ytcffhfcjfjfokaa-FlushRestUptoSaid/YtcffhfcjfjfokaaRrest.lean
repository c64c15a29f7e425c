/- What the document's Rest answers. -/
import Derived.Test.YtcffhfcjfjfokaaRest
namespace Go.Proofs.Ytcffhfcjfjfokaa
open Go.RowKit
theorem find_first {ds : List Dt} {x y : Int} {i : Nat} (h : FindIs ds x y i) : ∃ d, ds[i]? = some d ∧ FirstD ds (x, y) d := by
  rcases h with ⟨e, _⟩ | ⟨j, d, hd, e1, e2, e3, e4⟩
  · omega
  · obtain rfl : i = j := by omega
    exact ⟨d, hd, i, hd, e1, e2, e4⟩
theorem find_none {ds : List Dt} {x y r : Int} (h : FindIs ds x y r) (h0 : r < 0) : ∀ d ∈ ds, ¬ (d.s = x ∧ d.q = y) := by
  rcases h with ⟨_, h⟩ | ⟨j, d, hd, e1, e2, e3, e4⟩
  · exact h
  · omega
theorem find_split {ds : List Dt} {x y r : Int} (h : FindIs ds x y r) : (r < 0 ∧ Hid (∀ d ∈ ds, ¬ (d.s = x ∧ d.q = y))) ∨ ∃ (i : Nat) (d : Dt), r = i ∧ i < ds.length ∧ Hid (ds[i]? = some d) ∧ Hid (FirstD ds (x, y) d) := by
  by_cases h0 : r < 0
  · exact .inl ⟨h0, find_none h h0⟩
  · obtain ⟨i, rfl⟩ : ∃ i : Nat, r = i := ⟨r.toNat, by omega⟩
    obtain ⟨d, hd, hF⟩ := find_first h
    exact .inr ⟨i, d, rfl, (List.getElem?_eq_some_iff.1 hd).1, hd, hF⟩
set_option maxRecDepth 100000 in
set_option maxHeartbeats 4000000 in
theorem rrest_any (done : Int) (A M : Option Addr) (cA cM N : Nat) (fs : List Fl) (ds : List Dt) (w : World) (hN : N ≤ w.heap.size) (hA : Fls w N A fs) (hM : Dts w N M ds) (hl : fs.length ≤ 9223372036854775807) (hsm : SmallD ds) :
    Calls Try.prog 20 #[.int .i64 done, .slice A fs.length cA, .slice M ds.length cM] w (RestPost done fs ds w) := by
  have hld : ds.length ≤ 1048576 := hsm.1
  replace hsm := Lib.hid hsm
  by_cases h1 : done < 0
  · have HL : Hid (RestIs done fs ds [] 1) := by show (if _ then _ else _); rw [if_neg (by omega)]; exact ⟨rfl, rfl⟩
    go_enter Try.func20, Try.ntmps20
    go_wp2
    go_ret2
    go_light
    exact rest_none HL.out (Below.refl _ _)
  · by_cases h2 : 4611686018427387904 < done
    · have HL : Hid (RestIs done fs ds [] 1) := by show (if _ then _ else _); rw [if_neg (by omega)]; exact ⟨rfl, rfl⟩
      go_enter Try.func20, Try.ntmps20
      go_wp2
      go_ret2
      go_light
      exact rest_none HL.out (Below.refl _ _)
    · have H53 := Lib.hid (listed_any A cA N fs w hN hA hl)
      have hRE : ∀ n, n ≠ 0 → Listed fs n → RestIs done fs ds [] n := fun n h0 hn => by unfold RestIs; rw [if_pos (by omega)]; exact .inl ⟨n, h0, hn, rfl, rfl⟩
      have hRF : Listed fs 0 → done < baseOf fs → RestIs done fs ds [] 82 := fun hn hlt => by unfold RestIs; rw [if_pos (by omega)]; exact .inr (.inl ⟨hn, (listed_fit hn).1, hlt, rfl, rfl⟩)
      have hRO : Listed fs 0 → baseOf fs ≤ done → ∀ cut, IsCut fs cut → ∀ ms, RestTo (knownF fs) ds done (cut - done).toNat ms → RestIs done fs ds ms 0 := fun hn hge cut hc ms h => by
        unfold RestIs; rw [if_pos (by omega)]; exact .inr (.inr ⟨hn, (listed_fit hn).1, hge, cut, _, hc, knownF_iff (listed_fit hn).1, .inl ⟨rfl, h⟩⟩)
      have hRL : Listed fs 0 → baseOf fs ≤ done → ∀ cut, IsCut fs cut → RestLacks (knownF fs) ds done (cut - done).toNat → RestIs done fs ds [] 81 := fun hn hge cut hc h => by
        unfold RestIs; rw [if_pos (by omega)]; exact .inr (.inr ⟨hn, (listed_fit hn).1, hge, cut, _, hc, knownF_iff (listed_fit hn).1, .inr ⟨rfl, rfl, h⟩⟩)
      replace hRE := Lib.hid hRE
      replace hRF := Lib.hid hRF
      replace hRO := Lib.hid hRO
      replace hRL := Lib.hid hRL
      go_enter Try.func20, Try.ntmps20
      go_wp2_with (go_at_call 53; refine H53.out.mono ?_; rintro e w3 ⟨⟨n, rfl, hn⟩, hb3⟩; replace hn := Lib.hid hn)
      · go_ret2
        go_light
        have h0 := ‹(n != 0) = true›
        exact rest_none (hRE.out n (by simpa using h0) hn.out) hb3
      · have h0 := ‹(n != 0) = false›
        obtain rfl : n = 0 := by simpa using h0
        have HFit := Lib.hid (listed_fit hn.out).1
        have hl16 := (listed_fit hn.out).2
        have hbp := base_nonneg fs
        have hbq := base_le HFit.out.sound
        have hs3 := hb3.size
        have hbs : ∀ f ∈ fs, 0 ≤ f.base ∧ f.base ≤ 4611686018427387904 := fun f hf => ⟨(HFit.out.sound f hf).base0, by have := (HFit.out.sound f hf).base; omega⟩
        have H54 := Lib.hid (end_any A cA N fs w3 (by omega) (hA.below hb3 hN) hl hbs hbp (fun n h => cut_bound HFit.out h))
        replace hbs := Lib.hid hbs
        refine (base_any A cA N fs w3 (hA.below hb3 hN) hl).mono ?_
        rintro e w4 ⟨rfl, rfl⟩
        by_cases hlt : done < baseOf fs
        · go_wp2
          go_ret2
          go_light
          exact rest_none (hRF.out hn.out hlt) hb3
        · have hge : baseOf fs ≤ done := by omega
          go_wp2_with (go_at_call 54; refine H54.out.mono ?_; rintro e w4 ⟨⟨cut, rfl, hcut⟩, hb4⟩; have hlow := hcut.low; have hcb := cut_bound HFit.out (n := (cut - baseOf fs).toNat) (fun p h1 h2 => hcut.all p h1 (by omega)))
          have hKn : ∀ pos, baseOf fs < pos → pos ≤ cut → ∃ s : Int × Int, knownF fs pos = some s ∧ atOf fs pos = s := fun pos h1 h2 => by
            obtain ⟨s, hs, -⟩ := (whole_iff HFit.out).1 (hcut.all pos h1 h2)
            exact ⟨s, (knownF_iff HFit.out pos s).2 hs, atOf_known HFit.out hs⟩
          have hRO' := Lib.hid (hRO.out hn.out hge cut hcut)
          have hRL' := Lib.hid (hRL.out hn.out hge cut hcut)
          obtain ⟨F, hF0⟩ : ∃ F, F = knownF fs := ⟨_, rfl⟩
          rw [← hF0] at hRO' hRL' hKn
          replace hKn := Lib.hid hKn
          have hs4 := hb4.size
          have hb40 := hb3.trans (hb4.mono hs3)
          clear hF0 hcut hRO hRL hRE hRF H54 hb4
          go_loopw [9, 11] (fun a b wr => ∃ (k : Nat) (B : Option Addr) (c m : Nat) (rs : List Dr), b = .int .i64 (done + k) ∧ a = .slice B m c ∧ rs.length = m ∧ k ≤ (cut - done).toNat ∧ RestTo F ds done k (rs.map Dr.d) ∧ MsOwn wr w4.heap.size B c rs ∧ m ≤ k ∧ Below w4.heap.size w4 wr) (fun _ b _ => (cut - intOf b).toNat)
          case atStart => exact ⟨0, none, 0, 0, [], by simp, rfl, rfl, by omega, .nil, ⟨owns_nil _ _ _ _ _, by simp, List.Pairwise.nil⟩, by omega, Below.refl _ _⟩
          case round =>
            obtain ⟨k, B, c, mm, rs, rfl, rfl, hm, hk, hrt, hown, hmk, hb9⟩ := hrel
            have hm' := Lib.hid hm
            have hs9 := hb9.size
            have hbw9 := hb40.trans (hb9.mono (by omega))
            replace hrt := Lib.hid hrt
            have hlo := hown.row.lo
            clear hm
            by_cases hlt : done + k < cut
            · obtain ⟨⟨x, y⟩, hs, hat⟩ := hKn.out (done + k + 1) (by omega) (by omega)
              have hFk : F (done + 1 + k) = some (x, y) := by rw [show done + 1 + (k : Int) = done + k + 1 by omega]; exact hs
              replace hFk := Lib.hid hFk
              replace hown := Lib.hid hown
              have hfl := hA.below hbw9 hN
              clear hs
              go_wp2_with (first
                | (go_at_call 31; refine (at_any A cA N fs (done + k + 1) wr (by omega) hfl hl (by omega) (by omega) hbs.out).mono ?_; rintro e w5 ⟨rfl, hb5⟩; rw [hat]; have hs5 := hb5.size)
                | (go_at_call 56; have hb6 : Below wr.heap.size wr (w5.alloc (.cells #[.int .i64 x, .int .i64 y] 66)) := hb5.alloc hs5 _; have hbw6 := hbw9.trans (hb6.mono (by omega)); have h56 := find_any M cM N ds x y (w5.alloc (.cells #[.int .i64 x, .int .i64 y] 66)) (by simp only [World.size_alloc]; omega) (hM.below hbw6 hN) (by omega); refine h56.mono ?_; rintro e w7 ⟨⟨r, rfl, hr⟩, hb7⟩; rw [World.size_alloc] at hb7; have hs7 := hb7.size; rw [World.size_alloc] at hs7; have hb67 : Below wr.heap.size wr w7 := hb6.trans (hb7.mono (by omega)); have hbw7 := hbw9.trans (hb67.mono (by omega)); clear h56; rcases find_split hr with ⟨hr0, hno⟩ | ⟨i, d, rfl, hil, hd, hFD⟩; all_goals clear hr; all_goals first | (have hneg := hr0) | (obtain ⟨g, o, d', X, cX, hMe, hg, hd', c0, c1, c2, c3, hX⟩ := (hM.below hbw7 hN).at_ hil; have hdd : d = d' := (by have := hd'.out; rw [hd.out] at this; injection this); subst hdd; subst hMe; have hgw : g < w7.heap.size := (by omega); have hs1 := hsm.out.2 d (List.mem_of_getElem? hd.out); clear c0 c1 c2))
                | (at_builtin; refine wpList_append_rows _ rfl (.tmp 47) (.tmp 52) 52 rfl w4.heap.size 5 1 1 _ Try.underlying52 info5 rfl (by decide) eByte len_eByte one_eByte none 0 [] X cX N 0 d.body.length d.body rfl rfl rfl rfl (owns_nil _ _ _ _ _) hX.row (by omega) (by omega) (by omega) ?_)
                | fail)
              · have hRI := hRL'.out ⟨k, (x, y), by omega, hFk.out, hno.out⟩
                replace hRI := Lib.hid hRI
                go_ret2
                go_light
                exact rest_none hRI.out hbw7
              · intro A1 cc1 w8 ho8 hg8 hk8
                have hb78 : Below w7.heap.size w7 w8 := (Below.refl _ _).grown hg8 (Nat.le_refl _) (by intro j hj; cases hj)
                have hs8 := hb78.size
                have hb98 : Below wr.heap.size wr w8 := hb67.trans (hb78.mono (by omega))
                have hA1 : ∀ j, blk A1 = some j → wr.heap.size ≤ j := fun j hj => by
                  rcases hk8 with h | h
                  · rw [h] at hj; cases hj
                  · rw [h] at hj; injection hj with hj; omega
                have q0 : w8.cell? ⟨w5.heap.size, 0, none⟩ = some (.int .i64 x) := by
                  rw [hb78.cell (p := ⟨w5.heap.size, 0, none⟩) (by show w5.heap.size < _; omega), hb7.cell (p := ⟨w5.heap.size, 0, none⟩) (by show w5.heap.size < _; omega)]
                  exact World.cell?_alloc_at _ _ _ _ rfl
                have q1 : w8.cell? ⟨w5.heap.size, 1, none⟩ = some (.int .i64 y) := by
                  rw [hb78.cell (p := ⟨w5.heap.size, 1, none⟩) (by show w5.heap.size < _; omega), hb7.cell (p := ⟨w5.heap.size, 1, none⟩) (by show w5.heap.size < _; omega)]
                  exact World.cell?_alloc_at _ _ _ _ rfl
                replace ho8 := Lib.hid ho8
                replace hA1 := Lib.hid hA1
                clear hg8 hk8 c3 hX hb78
                go_wp2_with (at_builtin; refine wpList_append_rows _ rfl (.tmp 54) (.tmp 63) 44 rfl w4.heap.size 54 4 48 _ Try.underlying44 info54 rfl (by decide) eDr len_eDr one_eDr B c rs (some ⟨w8.heap.size, 0, none⟩) 1 (w8.heap.size + 1) mm 1 [⟨⟨done + k + 1, x, y, d.body⟩, A1, cc1⟩] rfl rfl hm'.out rfl ((hown.out.row.keep hb98 (fun k hk => (hlo k hk).2)).alloc _) (row_new _ _ _ _ _ _ rfl) (by omega) (by omega) (by simp only [World.size_alloc]; omega) ?_)
                intro A9 c9 w9 ho9 hg9 hk9
                have hM9 := MsOwn.snoc (d := ⟨done + k + 1, x, y, d.body⟩) hown.out hb98 ho8.out hA1.out hg9 ho9
                have hrt9 : RestTo F ds done (k + 1) ((rs ++ [(⟨⟨done + k + 1, x, y, d.body⟩, A1, cc1⟩ : Dr)]).map Dr.d) := by
                  rw [List.map_append]
                  have := RestTo.snoc hrt.out hFk.out hFD.out
                  rw [show done + 1 + (k : Int) = done + k + 1 by omega] at this
                  exact this
                have hl9 : (rs ++ [(⟨⟨done + k + 1, x, y, d.body⟩, A1, cc1⟩ : Dr)]).length = mm + 1 := by rw [List.length_append, hm'.out]; rfl
                have hb9' := ((hb9.trans (hb98.mono (by omega))).alloc (by omega) _).grown hg9 (by simp only [World.size_alloc]; omega) (fun k hk => (hlo k hk).1)
                replace hM9 := Lib.hid hM9
                replace hrt9 := Lib.hid hrt9
                replace hl9 := Lib.hid hl9
                clear hg9 hk9 ho9 q0 q1
                go_wp2
                go_roundw
                case rel => go_light; exact ⟨k + 1, A9, c9, mm + 1, _, by rw [show ((k + 1 : Nat) : Int) = k + 1 by omega]; congr 1; omega, rfl, hl9.out, by omega, hrt9.out, hM9.out, by omega, hb9'⟩
                case measure => go_light; simp [intOf]; omega
            · have hke : k = (cut - done).toNat := by omega
              subst hke
              have hRI := Lib.hid (hRO'.out _ hrt.out)
              have hO := Lib.hid (hown.lower (base' := w.heap.size) (by omega))
              clear hown
              rw [← hm'.out]
              go_wp2
              go_ret2
              go_light
              exact ⟨⟨B, c, rs, 0, rfl, hRI.out, hO.out⟩, hbw9⟩
end Go.Proofs.Ytcffhfcjfjfokaa
