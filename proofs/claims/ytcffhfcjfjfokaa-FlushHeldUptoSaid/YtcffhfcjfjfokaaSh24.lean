/- Rrest SameMsg AskK Asked, joined. -/
import Derived.Test.YtcffhfcjfjfokaaSh6
import Derived.Test.YtcffhfcjfjfokaaSh15
import Derived.Test.YtcffhfcjfjfokaaSh19
import Derived.Test.YtcffhfcjfjfokaaSh20
import Derived.Test.YtcffhfcjfjfokaaSh22
import Derived.Test.YtcffhfcjfjfokaaSh23
set_option linter.unusedVariables false
set_option linter.unusedSimpArgs false
/- What the document's Rest answers. -/
namespace Go.Proofs.Ytcffhfcjfjfokaa
open Go.RowKit
theorem find_first {ds : List Dt} {x y : Int} {i : Nat} (h : FindIs ds x y i) : ∃ d, ds[i]? = some d ∧ FirstD ds (x, y) d := by
  rcases h with ⟨e, _⟩ | ⟨j, d, hd, e1, e2, e3, e4⟩
  · omega
  · obtain rfl : i = j := by omega
    exact ⟨d, hd, i, hd, e1, e2, e4⟩
theorem find_none {ds : List Dt} {x y r : Int} (h : FindIs ds x y r) (h0 : r < 0) : ∀ d ∈ ds, ¬ (d.s = x ∧ d.q = y) := by
  rcases h with ⟨_, h⟩ | ⟨j, d, hd, e1, e2, e3, e4⟩
  · exact h
  · omega
theorem find_split {ds : List Dt} {x y r : Int} (h : FindIs ds x y r) : (r < 0 ∧ Hid (∀ d ∈ ds, ¬ (d.s = x ∧ d.q = y))) ∨ ∃ (i : Nat) (d : Dt), r = i ∧ i < ds.length ∧ Hid (ds[i]? = some d) ∧ Hid (FirstD ds (x, y) d) := by
  by_cases h0 : r < 0
  · exact .inl ⟨h0, find_none h h0⟩
  · obtain ⟨i, rfl⟩ : ∃ i : Nat, r = i := ⟨r.toNat, by omega⟩
    obtain ⟨d, hd, hF⟩ := find_first h
    exact .inr ⟨i, d, rfl, (List.getElem?_eq_some_iff.1 hd).1, hd, hF⟩
set_option maxRecDepth 100000 in
set_option maxHeartbeats 4000000 in
theorem rrest_any (done : Int) (A M : Option Addr) (cA cM N : Nat) (fs : List Fl) (ds : List Dt) (w : World) (hN : N ≤ w.heap.size) (hA : Fls w N A fs) (hM : Dts w N M ds) (hl : fs.length ≤ 9223372036854775807) (hsm : SmallD ds) :
    Calls Try.prog 20 #[.int .i64 done, .slice A fs.length cA, .slice M ds.length cM] w (RestPost done fs ds w) := by
  have hld : ds.length ≤ 1048576 := hsm.1
  replace hsm := Lib.hid hsm
  by_cases h1 : done < 0
  · have HL : Hid (RestIs done fs ds [] 1) := by show (if _ then _ else _); rw [if_neg (by omega)]; exact ⟨rfl, rfl⟩
    go_enter Try.func20, Try.ntmps20
    go_wp2
    go_ret2
    go_light
    exact rest_none HL.out (Below.refl _ _)
  · by_cases h2 : 4611686018427387904 < done
    · have HL : Hid (RestIs done fs ds [] 1) := by show (if _ then _ else _); rw [if_neg (by omega)]; exact ⟨rfl, rfl⟩
      go_enter Try.func20, Try.ntmps20
      go_wp2
      go_ret2
      go_light
      exact rest_none HL.out (Below.refl _ _)
    · have H53 := Lib.hid (listed_any A cA N fs w hN hA hl)
      have hRE : ∀ n, n ≠ 0 → Listed fs n → RestIs done fs ds [] n := fun n h0 hn => by unfold RestIs; rw [if_pos (by omega)]; exact .inl ⟨n, h0, hn, rfl, rfl⟩
      have hRF : Listed fs 0 → done < baseOf fs → RestIs done fs ds [] 82 := fun hn hlt => by unfold RestIs; rw [if_pos (by omega)]; exact .inr (.inl ⟨hn, (listed_fit hn).1, hlt, rfl, rfl⟩)
      have hRO : Listed fs 0 → baseOf fs ≤ done → ∀ cut, IsCut fs cut → ∀ ms, RestTo (knownF fs) ds done (cut - done).toNat ms → RestIs done fs ds ms 0 := fun hn hge cut hc ms h => by
        unfold RestIs; rw [if_pos (by omega)]; exact .inr (.inr ⟨hn, (listed_fit hn).1, hge, cut, _, hc, knownF_iff (listed_fit hn).1, .inl ⟨rfl, h⟩⟩)
      have hRL : Listed fs 0 → baseOf fs ≤ done → ∀ cut, IsCut fs cut → RestLacks (knownF fs) ds done (cut - done).toNat → RestIs done fs ds [] 81 := fun hn hge cut hc h => by
        unfold RestIs; rw [if_pos (by omega)]; exact .inr (.inr ⟨hn, (listed_fit hn).1, hge, cut, _, hc, knownF_iff (listed_fit hn).1, .inr ⟨rfl, rfl, h⟩⟩)
      replace hRE := Lib.hid hRE
      replace hRF := Lib.hid hRF
      replace hRO := Lib.hid hRO
      replace hRL := Lib.hid hRL
      go_enter Try.func20, Try.ntmps20
      go_wp2_with (go_at_call 53; refine H53.out.mono ?_; rintro e w3 ⟨⟨n, rfl, hn⟩, hb3⟩; replace hn := Lib.hid hn)
      · go_ret2
        go_light
        have h0 := ‹(n != 0) = true›
        exact rest_none (hRE.out n (by simpa using h0) hn.out) hb3
      · have h0 := ‹(n != 0) = false›
        obtain rfl : n = 0 := by simpa using h0
        have HFit := Lib.hid (listed_fit hn.out).1
        have hl16 := (listed_fit hn.out).2
        have hbp := base_nonneg fs
        have hbq := base_le HFit.out.sound
        have hs3 := hb3.size
        have hbs : ∀ f ∈ fs, 0 ≤ f.base ∧ f.base ≤ 4611686018427387904 := fun f hf => ⟨(HFit.out.sound f hf).base0, by have := (HFit.out.sound f hf).base; omega⟩
        have H54 := Lib.hid (end_any A cA N fs w3 (by omega) (hA.below hb3 hN) hl hbs hbp (fun n h => cut_bound HFit.out h))
        replace hbs := Lib.hid hbs
        refine (base_any A cA N fs w3 (hA.below hb3 hN) hl).mono ?_
        rintro e w4 ⟨rfl, rfl⟩
        by_cases hlt : done < baseOf fs
        · go_wp2
          go_ret2
          go_light
          exact rest_none (hRF.out hn.out hlt) hb3
        · have hge : baseOf fs ≤ done := by omega
          go_wp2_with (go_at_call 54; refine H54.out.mono ?_; rintro e w4 ⟨⟨cut, rfl, hcut⟩, hb4⟩; have hlow := hcut.low; have hcb := cut_bound HFit.out (n := (cut - baseOf fs).toNat) (fun p h1 h2 => hcut.all p h1 (by omega)))
          have hKn : ∀ pos, baseOf fs < pos → pos ≤ cut → ∃ s : Int × Int, knownF fs pos = some s ∧ atOf fs pos = s := fun pos h1 h2 => by
            obtain ⟨s, hs, -⟩ := (whole_iff HFit.out).1 (hcut.all pos h1 h2)
            exact ⟨s, (knownF_iff HFit.out pos s).2 hs, atOf_known HFit.out hs⟩
          have hRO' := Lib.hid (hRO.out hn.out hge cut hcut)
          have hRL' := Lib.hid (hRL.out hn.out hge cut hcut)
          obtain ⟨F, hF0⟩ : ∃ F, F = knownF fs := ⟨_, rfl⟩
          rw [← hF0] at hRO' hRL' hKn
          replace hKn := Lib.hid hKn
          have hs4 := hb4.size
          have hb40 := hb3.trans (hb4.mono hs3)
          clear hF0 hcut hRO hRL hRE hRF H54 hb4
          go_loopw [9, 11] (fun a b wr => ∃ (k : Nat) (B : Option Addr) (c m : Nat) (rs : List Dr), b = .int .i64 (done + k) ∧ a = .slice B m c ∧ rs.length = m ∧ k ≤ (cut - done).toNat ∧ RestTo F ds done k (rs.map Dr.d) ∧ MsOwn wr w4.heap.size B c rs ∧ m ≤ k ∧ Below w4.heap.size w4 wr) (fun _ b _ => (cut - intOf b).toNat)
          case atStart => exact ⟨0, none, 0, 0, [], by simp, rfl, rfl, by omega, .nil, ⟨owns_nil _ _ _ _ _, by simp, List.Pairwise.nil⟩, by omega, Below.refl _ _⟩
          case round =>
            obtain ⟨k, B, c, mm, rs, rfl, rfl, hm, hk, hrt, hown, hmk, hb9⟩ := hrel
            have hm' := Lib.hid hm
            have hs9 := hb9.size
            have hbw9 := hb40.trans (hb9.mono (by omega))
            replace hrt := Lib.hid hrt
            have hlo := hown.row.lo
            clear hm
            by_cases hlt : done + k < cut
            · obtain ⟨⟨x, y⟩, hs, hat⟩ := hKn.out (done + k + 1) (by omega) (by omega)
              have hFk : F (done + 1 + k) = some (x, y) := by rw [show done + 1 + (k : Int) = done + k + 1 by omega]; exact hs
              replace hFk := Lib.hid hFk
              replace hown := Lib.hid hown
              have hfl := hA.below hbw9 hN
              clear hs
              go_wp2_with (first
                | (go_at_call 31; refine (at_any A cA N fs (done + k + 1) wr (by omega) hfl hl (by omega) (by omega) hbs.out).mono ?_; rintro e w5 ⟨rfl, hb5⟩; rw [hat]; have hs5 := hb5.size)
                | (go_at_call 56; have hb6 : Below wr.heap.size wr (w5.alloc (.cells #[.int .i64 x, .int .i64 y] 66)) := hb5.alloc hs5 _; have hbw6 := hbw9.trans (hb6.mono (by omega)); have h56 := find_any M cM N ds x y (w5.alloc (.cells #[.int .i64 x, .int .i64 y] 66)) (by simp only [World.size_alloc]; omega) (hM.below hbw6 hN) (by omega); refine h56.mono ?_; rintro e w7 ⟨⟨r, rfl, hr⟩, hb7⟩; rw [World.size_alloc] at hb7; have hs7 := hb7.size; rw [World.size_alloc] at hs7; have hb67 : Below wr.heap.size wr w7 := hb6.trans (hb7.mono (by omega)); have hbw7 := hbw9.trans (hb67.mono (by omega)); clear h56; rcases find_split hr with ⟨hr0, hno⟩ | ⟨i, d, rfl, hil, hd, hFD⟩; all_goals clear hr; all_goals first | (have hneg := hr0) | (obtain ⟨g, o, d', X, cX, hMe, hg, hd', c0, c1, c2, c3, hX⟩ := (hM.below hbw7 hN).at_ hil; have hdd : d = d' := (by have := hd'.out; rw [hd.out] at this; injection this); subst hdd; subst hMe; have hgw : g < w7.heap.size := (by omega); have hs1 := hsm.out.2 d (List.mem_of_getElem? hd.out); clear c0 c1 c2))
                | (at_builtin; refine wpList_append_rows _ rfl (.tmp 47) (.tmp 52) 52 rfl w4.heap.size 5 1 1 _ Try.underlying52 info5 rfl (by decide) eByte len_eByte one_eByte none 0 [] X cX N 0 d.body.length d.body rfl rfl rfl rfl (owns_nil _ _ _ _ _) hX.row (by omega) (by omega) (by omega) ?_)
                | fail)
              · have hRI := hRL'.out ⟨k, (x, y), by omega, hFk.out, hno.out⟩
                replace hRI := Lib.hid hRI
                go_ret2
                go_light
                exact rest_none hRI.out hbw7
              · intro A1 cc1 w8 ho8 hg8 hk8
                have hb78 : Below w7.heap.size w7 w8 := (Below.refl _ _).grown hg8 (Nat.le_refl _) (by intro j hj; cases hj)
                have hs8 := hb78.size
                have hb98 : Below wr.heap.size wr w8 := hb67.trans (hb78.mono (by omega))
                have hA1 : ∀ j, blk A1 = some j → wr.heap.size ≤ j := fun j hj => by
                  rcases hk8 with h | h
                  · rw [h] at hj; cases hj
                  · rw [h] at hj; injection hj with hj; omega
                have q0 : w8.cell? ⟨w5.heap.size, 0, none⟩ = some (.int .i64 x) := by
                  rw [hb78.cell (p := ⟨w5.heap.size, 0, none⟩) (by show w5.heap.size < _; omega), hb7.cell (p := ⟨w5.heap.size, 0, none⟩) (by show w5.heap.size < _; omega)]
                  exact World.cell?_alloc_at _ _ _ _ rfl
                have q1 : w8.cell? ⟨w5.heap.size, 1, none⟩ = some (.int .i64 y) := by
                  rw [hb78.cell (p := ⟨w5.heap.size, 1, none⟩) (by show w5.heap.size < _; omega), hb7.cell (p := ⟨w5.heap.size, 1, none⟩) (by show w5.heap.size < _; omega)]
                  exact World.cell?_alloc_at _ _ _ _ rfl
                replace ho8 := Lib.hid ho8
                replace hA1 := Lib.hid hA1
                clear hg8 hk8 c3 hX hb78
                go_wp2_with (at_builtin; refine wpList_append_rows _ rfl (.tmp 54) (.tmp 63) 44 rfl w4.heap.size 54 4 48 _ Try.underlying44 info54 rfl (by decide) eDr len_eDr one_eDr B c rs (some ⟨w8.heap.size, 0, none⟩) 1 (w8.heap.size + 1) mm 1 [⟨⟨done + k + 1, x, y, d.body⟩, A1, cc1⟩] rfl rfl hm'.out rfl ((hown.out.row.keep hb98 (fun k hk => (hlo k hk).2)).alloc _) (row_new _ _ _ _ _ _ rfl) (by omega) (by omega) (by simp only [World.size_alloc]; omega) ?_)
                intro A9 c9 w9 ho9 hg9 hk9
                have hM9 := MsOwn.snoc (d := ⟨done + k + 1, x, y, d.body⟩) hown.out hb98 ho8.out hA1.out hg9 ho9
                have hrt9 : RestTo F ds done (k + 1) ((rs ++ [(⟨⟨done + k + 1, x, y, d.body⟩, A1, cc1⟩ : Dr)]).map Dr.d) := by
                  rw [List.map_append]
                  have := RestTo.snoc hrt.out hFk.out hFD.out
                  rw [show done + 1 + (k : Int) = done + k + 1 by omega] at this
                  exact this
                have hl9 : (rs ++ [(⟨⟨done + k + 1, x, y, d.body⟩, A1, cc1⟩ : Dr)]).length = mm + 1 := by rw [List.length_append, hm'.out]; rfl
                have hb9' := ((hb9.trans (hb98.mono (by omega))).alloc (by omega) _).grown hg9 (by simp only [World.size_alloc]; omega) (fun k hk => (hlo k hk).1)
                replace hM9 := Lib.hid hM9
                replace hrt9 := Lib.hid hrt9
                replace hl9 := Lib.hid hl9
                clear hg9 hk9 ho9 q0 q1
                go_wp2
                go_roundw
                case rel => go_light; exact ⟨k + 1, A9, c9, mm + 1, _, by rw [show ((k + 1 : Nat) : Int) = k + 1 by omega]; congr 1; omega, rfl, hl9.out, by omega, hrt9.out, hM9.out, by omega, hb9'⟩
                case measure => go_light; simp [intOf]; omega
            · have hke : k = (cut - done).toNat := by omega
              subst hke
              have hRI := Lib.hid (hRO'.out _ hrt.out)
              have hO := Lib.hid (hown.lower (base' := w.heap.size) (by omega))
              clear hown
              rw [← hm'.out]
              go_wp2
              go_ret2
              go_light
              exact ⟨⟨B, c, rs, 0, rfl, hRI.out, hO.out⟩, hbw9⟩
end Go.Proofs.Ytcffhfcjfjfokaa
/- The law's sameMsg and sameMsgs. -/
namespace Go.Proofs.Ytcffhfcjfjfokaa
open Go.RowKit
set_option maxRecDepth 100000 in
set_option maxHeartbeats 2000000 in
theorem sameMsg_yes (d : Dt) (B B' : Option Addr) (c c' N : Nat) (w : World) (hN : N ≤ w.heap.size) (h : RowAt w N 1 eByte B d.body) (h' : RowAt w N 1 eByte B' d.body) :
    Calls Try.prog 57 #[.agg #[.int .i64 d.s, .int .i64 d.q, .int .i64 d.b, .slice B d.body.length c], .agg #[.int .i64 d.s, .int .i64 d.q, .int .i64 d.b, .slice B' d.body.length c']] w fun x w' => x = .returned (.bool true) ∧ Below w.heap.size w w' := by
  have hbx := below_box2 w #[.int .i64 d.s, .int .i64 d.q, .int .i64 d.b, .slice B d.body.length c] 54 #[.int .i64 d.s, .int .i64 d.q, .int .i64 d.b, .slice B' d.body.length c'] 54
  have e1 := run_body (c := c) (h.below hbx hN)
  have e2 := run_body (c := c') (h'.below hbx hN)
  replace hbx := Lib.hid hbx
  go_enter Try.func57, Try.ntmps57
  go_wp2
  go_ret
  exact ⟨rfl, hbx.out⟩
set_option maxRecDepth 100000 in
set_option maxHeartbeats 4000000 in
theorem sameMsgs_yes (A B : Option Addr) (cA cB N : Nat) (ds : List Dt) (w : World) (hN : N ≤ w.heap.size) (hA : Dts w N A ds) (hB : Dts w N B ds) (hl : ds.length ≤ 9223372036854775807) :
    Calls Try.prog 21 #[.slice A ds.length cA, .slice B ds.length cB] w fun x w' => x = .returned (.bool true) ∧ Below w.heap.size w w' := by
  go_enter Try.func21, Try.ntmps21
  go_wp2
  go_loopw [5] (fun k wr => ∃ q : Nat, k = .int .i64 q ∧ q ≤ ds.length ∧ Below w.heap.size w wr) (fun k _ => ds.length - (intOf k).toNat)
  case atStart => exact ⟨0, rfl, by omega, Below.refl _ _⟩
  case round =>
    obtain ⟨q, rfl, hq, hb⟩ := hrel
    have hsz := hb.size
    by_cases hlt : q < ds.length
    · obtain ⟨g, o, d, X, c, hAe, hg, hd, c0, c1, c2, c3, hX⟩ := (hA.below hb hN).at_ hlt
      obtain ⟨g', o', d', X', c', hBe, hg', hd', k0, k1, k2, k3, hX'⟩ := (hB.below hb hN).at_ hlt
      obtain rfl : d = d' := by have := hd'.out; rw [hd.out] at this; injection this
      subst hAe hBe
      have h58 := Lib.hid (sameMsg_yes d X X' c c' N wr.drew (by show N ≤ wr.heap.size; omega) hX.row hX'.row)
      clear hX hX' hA hB
      go_wp2
      refine wp_region_mid 8 (by kernel_rfl) rfl (by kernel_rfl) ?_
      simp only [List.take_succ_cons, List.take_zero]
      repeat (refine WS.step (fun K hK => ?_); go_simp; refine hK.out _ ?_; clear hK K)
      refine WS.nil ?_
      intro K hK
      go_simp
      go_at_call 57
      refine h58.out.mono ?_
      rintro e w2 ⟨rfl, hbw2⟩
      go_wp2_with fail
      refine hK.out _ _ ?_
      clear hK K
      have hb2 := (Below.drew hb).trans (hbw2.mono (by show _ ≤ wr.heap.size; omega))
      simp only [List.drop_succ_cons, List.drop_zero]
      repeat (refine WS.step (fun K hK => ?_); go_simp; refine hK.out _ ?_; clear hK K)
      refine WS.nil ?_
      go_wp2
      go_roundw
      case rel => go_light; exact ⟨q + 1, by go_num, by omega, hb2⟩
      case measure => go_light; simp [intOf]; omega
    · go_wp2
      go_ret
      exact ⟨rfl, hb⟩
end Go.Proofs.Ytcffhfcjfjfokaa
/- Words for the law's asked. -/
namespace Go.Proofs.Ytcffhfcjfjfokaa
open Go Go.RowKit
section
variable {α : Type} {W W' : World} {base sz c lb : Nat} {e : TypeId} {enc : α → List Value} {A : Option Addr} {l : List α} {S : List Nat}
/-- What lies at or behind base is as it was, if what changes lies below. -/
theorem Owns.up (h : Owns W base e sz enc A c l) (hf : Fx S W W') (hS : ∀ q ∈ S, q < base) : Owns W' base e sz enc A c l := h.fx hf fun k hk hm => by have := (h.lo k hk).1; have := hS k hm; omega
end
section
variable {W W' : World} {lb cT cI gt : Nat} {T I : Option Addr} {ts : List Tw} {t : Tw} {S : List Nat}
theorem TwOwn.up {base : Nat} (h : TwOwn W base t) (hf : Fx S W W') (hS : ∀ q ∈ S, q < base) : TwOwn W' base t := ⟨h.s.up hf hS, h.h.up hf hS⟩
theorem MsOwn.up {base c : Nat} {B : Option Addr} {rs : List Dr} (h : MsOwn W base B c rs) (hf : Fx S W W') (hS : ∀ q ∈ S, q < base) : MsOwn W' base B c rs := ⟨h.row.up hf hS, fun r hr => (h.each r hr).up hf hS, h.sep⟩
/-- The twins of the contents and of the node's own. -/
structure AkM (W : World) (lb : Nat) (T : Option Addr) (cT : Nat) (I : Option Addr) (cI : Nat) (ts : List Tw) (t : Tw) (gt : Nat) : Prop where
  own : Owns W (lb + 1) 57 9 eTw T cT ts
  inn : Owns W (lb + 1) 39 7 flTw I cI ts
  each : ∀ u ∈ ts, TwOwn W (lb + 1) u
  tw : TwOwn W (lb + 1) t
  box : W.rangeAt gt 0 (eTw t)
  lo : lb < gt
  hi : gt < W.heap.size
theorem AkM.up (h : AkM W lb T cT I cI ts t gt) (hf : Fx S W W') (hS : ∀ q ∈ S, q ≤ lb) : AkM W' lb T cT I cI ts t gt := by
  have hS' : ∀ q ∈ S, q < lb + 1 := fun q hq => by have := hS q hq; omega
  exact ⟨h.own.up hf hS', h.inn.up hf hS', fun u hu => (h.each u hu).up hf hS', h.tw.up hf hS', range_same h.box (hf.block gt h.hi fun hm => by have := hS gt hm; have := h.lo; omega), h.lo, Nat.lt_of_lt_of_le h.hi hf.size⟩
theorem AkM.mem (h : AkM W lb T cT I cI ts t gt) : TwMem W W.heap.size T cT I cI ts :=
  ⟨h.own.row len_eTw, h.inn.row len_flTw, fun t ht => ⟨(h.each t ht).s.row len_eSlot, by have := (h.each t ht).s.len; simp at this; exact this⟩, fun t ht => ⟨(h.each t ht).h.row len_eInt, by have := (h.each t ht).h.len; simp at this; exact this⟩, h.own.len.1, h.inn.len.1⟩
theorem AkM.flw (h : AkM W lb T cT I cI ts t gt) : FlRows W W.heap.size t.f (some ⟨t.g2, 0, none⟩) t.c2 (some ⟨t.g4, 0, none⟩) t.c4 := by
  have lS := h.tw.s.len
  have lH := h.tw.h.len
  simp only [List.length_append, List.length_cons, List.length_nil] at lS lH
  exact ⟨(h.tw.s.row len_eSlot).front, (h.tw.h.row len_eInt).front, by omega, lS.2, by omega, lH.2⟩
end
theorem row_new_two {α : Type} (w : World) (e : TypeId) (enc : α → List Value) (a b : α) (u v : Value) (ha : enc a = [u]) (hb : enc b = [v]) : RowAt (w.alloc (.cells #[u, v] e)) (w.heap.size + 1) 1 enc (some ⟨w.heap.size, 0, none⟩) [a, b] := fun _ => by
  refine ⟨w.heap.size, 0, rfl, by omega, fun k x hk j y hy => ?_⟩
  have hr := range_new w #[u, v] e
  match k, hk with
  | 0, hk =>
    injection hk with hk; subst hk
    rw [ha] at hy
    have hj := (List.getElem?_eq_some_iff.1 hy).1
    have : j = 0 := by simpa using hj
    subst this
    injection hy with hy; subst hy
    exact hr 0 _ rfl
  | 1, hk =>
    injection hk with hk; subst hk
    rw [hb] at hy
    have hj := (List.getElem?_eq_some_iff.1 hy).1
    have : j = 0 := by simpa using hj
    subst this
    injection hy with hy; subst hy
    exact hr 1 _ rfl
  | k + 2, hk => cases hk
theorem bs100t (W : World) (A B : Option Addr) (n c m d : Nat) : (Instr.buildSlice 100 2 #[(0, .slice A n c), (1, .slice B m d)]).run Try.prog W = .ok (.slice (some ⟨W.heap.size, 0, none⟩) 2 2) (W.alloc (.cells #[.slice A n c, .slice B m d] 36)) := by kernel_rfl
def zero57 : Value := .agg twz
theorem run_zero57 (W : World) : (zeroValue 57).run Try.prog W = .ok zero57 W := by kernel_rfl
theorem one_eTwA (t : Tw) : (eTw t).toArray.all (·.oneCell') = true := all_oneCell_toArray (one_eTw t)
theorem msOwn_dtsA {w : World} {base : Nat} {B : Option Addr} {c : Nat} {rs : List Dr} (h : MsOwn w base B c rs) : Dts w w.heap.size B (rs.map Dr.d) :=
  ⟨rs, rfl, h.row.row len_eDr, fun r hr => ⟨(h.each r hr).row len_eByte, (h.each r hr).len.1, (h.each r hr).len.2⟩⟩
/-- What asked puts into the book. -/
structure Ask (xx : Cx) (x x' : BX) : Prop where
  ex : ∃ (Ls : Option Addr) (cLs : Nat) (Ly : Option Addr) (cLy : Nat) (Lm : Option Addr) (cLm : Nat) (r1 r2 : RowX (Int × Int)) (r3 : RowX Dr) (n1 n2 n3 : Int),
    x' = { x with s := { x.s with L := Ls, cL := cLs, P := x.s.P ++ [r1, r2] }, y := { x.y with L := Ly, cL := cLy, P := x.y.P ++ r3.l.map bodyR }, m := { x.m with L := Lm, cL := cLm, P := x.m.P ++ [r3] } } ∧
    LacksIs xx.done xx.own xx.fs r1.l n1 ∧ DutyIs xx.self xx.q xx.who xx.fs r2.l n2 ∧ RestIs xx.done xx.fs (xx.ms.map Dr.d) (r3.l.map Dr.d) n3
end Go.Proofs.Ytcffhfcjfjfokaa
/- The law's asked: Lacks, Duty and Rest of a case; the answers go into the book. -/
namespace Go.Proofs.Ytcffhfcjfjfokaa
open Go Go.RowKit
set_option maxRecDepth 100000 in
set_option maxHeartbeats 4000000 in
theorem asked_any {w : World} {base hb N : Nat} {x : BX} {o : List Value} {xx : Cx} (h : Bo w base hb x o) (hol : o.length = 4) (h0 : Bo0 x) (hls : x.s.P.length ≤ 900000000000) (hly : x.y.P.length ≤ 900000000000) (hlm : x.m.P.length ≤ 900000000000) (XC : CxAt w N xx) (hN : N ≤ hb) : Calls Try.prog 49 #[.pointer (some ⟨hb, 0, none⟩), .agg (cxA xx)] w fun e w' => e = .returned (.bool true) ∧ Below hb w w' ∧ ∃ x', Ask xx x x' ∧ Bo w' base hb x' o := by
  refine calls_vc tab_ok Try.func49 rfl ?_
  have hz := h.hz
  have hbz := h.z
  conv => whnf
  refine .mk fun wA hwA => ?_
  have hbA : Below w.heap.size w wA := by rw [hwA.out]; exact below_box1 _ _ _
  have zA : wA.heap.size = w.heap.size + 1 := by rw [hwA.out]; simp
  have oA : wA.rangeAt w.heap.size 0 (cxA xx).toList := by rw [hwA.out]; exact range_new w (cxA xx) 42
  clear hwA
  have hx : ∀ W, Below wA.heap.size wA W → W.rangeAt w.heap.size 0 (cxA xx).toList ∧ CxAt W N xx ∧ Bo W base hb x o ∧ Below w.heap.size w W := fun W hW =>
    have hb := hbA.trans (hW.mono (by omega))
    ⟨range_same oA (hW.block w.heap.size (by omega)), XC.below hb (by omega), h.below hb, hb⟩
  have Kall : Ld Try.prog 22 w.heap.size 0 (fun W => Below wA.heap.size wA W) (.slice xx.A xx.fs.length xx.cA) := ⟨fun W hW => load_cell (by kernel_rfl) ((hx W hW).1 0 _ rfl)⟩
  have Kown : Ld Try.prog 39 w.heap.size 1 (fun W => Below wA.heap.size wA W) (.agg (flc xx.own.e xx.own.l xx.own.i xx.own.c xx.own.base xx.X xx.own.slots.length xx.cX xx.Y xx.own.have_.length xx.cY)) := ⟨fun W hW => load39 (range_sub (n := 7) (hx W hW).1 1 rfl)⟩
  have Kdone : Ld Try.prog 3 w.heap.size 8 (fun W => Below wA.heap.size wA W) (.int .i64 xx.done) := ⟨fun W hW => load3 ((hx W hW).1 8 _ rfl)⟩
  have Kwho : Ld Try.prog 37 w.heap.size 9 (fun W => Below wA.heap.size wA W) (.slice xx.C xx.who.length xx.cC) := ⟨fun W hW => load_cell (by kernel_rfl) ((hx W hW).1 9 _ rfl)⟩
  have Kself : Ld Try.prog 3 w.heap.size 10 (fun W => Below wA.heap.size wA W) (.int .i64 xx.self) := ⟨fun W hW => load3 ((hx W hW).1 10 _ rfl)⟩
  have Kq : Ld Try.prog 3 w.heap.size 11 (fun W => Below wA.heap.size wA W) (.int .i64 xx.q) := ⟨fun W hW => load3 ((hx W hW).1 11 _ rfl)⟩
  have Kms : Ld Try.prog 40 w.heap.size 12 (fun W => Below wA.heap.size wA W) (.slice xx.M xx.ms.length xx.cM) := ⟨fun W hW => load_cell (by kernel_rfl) ((hx W hW).1 12 _ rfl)⟩
  have hfsl := XC.sm.1
  have hwl := XC.wl
  have hml : xx.ms.length ≤ 1048576 := by have := XC.sd.1; rwa [List.length_map] at this
  repeat (conv => whnf
          first
          | (refine VCmp.tt (by omega) ?_)
          | (refine VCmp.ff (by omega) ?_)
          | (refine VIn.mk (IntWalk.i64_in _ (by omega)) ?_)
          | (refine VIdx.mk _ rfl (by omega) ?_)
          | (refine VIdx.mk 0 rfl (by omega) ?_))
  try (conv => whnf)
  refine VBuild.mk _ (fun W => bld147 W) ?_
  conv => whnf
  refine .mk fun wB hwB => ?_
  have T0 : Lt wB (wA.heap.size + 1) wA.heap.size ltx0 := by rw [hwB.out]; exact lt_new wA
  have bB : Below wA.heap.size wA wB := by rw [hwB.out]; exact (Below.refl _ _).alloc (Nat.le_refl _) _
  have zB : wB.heap.size = wA.heap.size + 1 := by rw [hwB.out]; simp
  clear hwB
  generalize hlb : wA.heap.size = lb at *
  -- twins
  repeat (conv => whnf
          first
          | (refine VLoad.mk _ (Kall.at bB) ?_)
          | (refine VCmp.tt (by omega) ?_)
          | (refine VCmp.ff (by omega) ?_)
          | (refine VIn.mk (IntWalk.i64_in _ (by omega)) ?_)
          | (refine VIdx.mk _ rfl (by omega) ?_)
          | (refine VIdx.mk 0 rfl (by omega) ?_))
  try (conv => whnf)
  refine VCall.mk _ (twins_any xx.A xx.cA N xx.fs wB (by omega) (hx wB bB).2.1.fls XC.sm) ?_
  rintro _ w1 ⟨ts, T, cT, I, cI, rfl, hts, hrel⟩
  refine ⟨_, rfl, ?_⟩
  have bel1 := hrel.bel
  have b1 : Below lb wA w1 := bB.trans (bel1.mono (by omega))
  have z1 := bel1.size
  repeat (conv => whnf
          first
          | (refine VLoad.mk _ (Kown.at b1) ?_)
          | (refine VCmp.tt (by omega) ?_)
          | (refine VCmp.ff (by omega) ?_)
          | (refine VIn.mk (IntWalk.i64_in _ (by omega)) ?_)
          | (refine VIdx.mk _ rfl (by omega) ?_)
          | (refine VIdx.mk 0 rfl (by omega) ?_))
  try (conv => whnf)
  have XCo1 := XC.o1
  have XCo2 := XC.o2
  refine VCall.mk _ (twin_any xx.own xx.X xx.Y xx.cX xx.cY N w1 (by omega) (hx w1 b1).2.1.own (by omega) (by omega)) ?_
  rintro _ w2 ⟨t, ht, rfl, htw, bw2⟩
  refine ⟨_, rfl, ?_⟩
  have z2 := bw2.size
  repeat (conv => whnf
          first
          | (refine VCmp.tt (by omega) ?_)
          | (refine VCmp.ff (by omega) ?_)
          | (refine VIn.mk (IntWalk.i64_in _ (by omega)) ?_)
          | (refine VIdx.mk _ rfl (by omega) ?_)
          | (refine VIdx.mk 0 rfl (by omega) ?_))
  try (conv => whnf)
  refine .mk _ run_zero57 ?_
  conv => whnf
  refine .mk fun x3 hx3 => ?_
  repeat (conv => whnf
          first
          | (refine VCmp.tt (by omega) ?_)
          | (refine VCmp.ff (by omega) ?_)
          | (refine VIn.mk (IntWalk.i64_in _ (by omega)) ?_)
          | (refine VIdx.mk _ rfl (by omega) ?_)
          | (refine VIdx.mk 0 rfl (by omega) ?_))
  try (conv => whnf)
  refine VStore.new hx3 (by kernel_rfl) rfl (one_eTwA t) fun w3 hw3 => ?_
  have b23 : Below w2.heap.size w2 w3 := by rw [hw3.out]; exact (Below.refl _ _).alloc (Nat.le_refl _) _
  have z3 : w3.heap.size = w2.heap.size + 1 := by rw [hw3.out]; simp
  have f13 : Below w1.heap.size w1 w3 := bw2.trans (b23.mono z2)
  have K3 : AkM w3 lb T cT I cI ts t w2.heap.size := by
    have e1 : wB.heap.size = lb + 1 := zB
    have ho := hrel.own
    have hi := hrel.inn
    have he := hrel.each
    rw [e1] at ho hi he
    refine ⟨ho.keep f13 fun k hk => (ho.lo k hk).2, hi.keep f13 fun k hk => (hi.lo k hk).2, fun u hu => (he u hu).up (S := []) (.below f13) (by simp), (htw.lower (by omega)).up (S := []) (.below b23) (by simp), ?_, by omega, by omega⟩
    rw [hw3.out]; exact range_new w2 (eTw t).toArray 57
  have T3 : Lt w3 (lb + 1) lb ltx0 := T0.below ((bel1.trans (f13.mono z1)).mono (by omega))
  have b3 : Below lb wA w3 := (b1.trans (f13.mono (by omega)))
  clear hrel htw hw3 hx3 bel1 T0
  -- Lacks
  have Kt3 : Ld Try.prog 39 w2.heap.size 0 (Eq w3) (.agg (flc t.f.e t.f.l t.f.i t.f.c t.f.base (some ⟨t.g2, 0, none⟩) t.f.slots.length t.c2 (some ⟨t.g4, 0, none⟩) t.f.have_.length t.c4)) := .of (load39 (range_sub (n := 7) K3.box 0 rfl))
  repeat (conv => whnf
          first
          | (refine VLoad.mk _ (Kdone.at b3) ?_)
          | (refine VLoad.mk _ Kt3 ?_)
          | (refine VCmp.tt (by omega) ?_)
          | (refine VCmp.ff (by omega) ?_)
          | (refine VIn.mk (IntWalk.i64_in _ (by omega)) ?_)
          | (refine VIdx.mk _ rfl (by omega) ?_)
          | (refine VIdx.mk 0 rfl (by omega) ?_))
  try (conv => whnf)
  have hI3 := K3.mem.fls
  rw [hts] at hI3
  refine VCall.mk _ (lacks_any xx.done t.f (some ⟨t.g2, 0, none⟩) (some ⟨t.g4, 0, none⟩) I t.c2 t.c4 cI w3.heap.size xx.fs w3 (Nat.le_refl _) K3.flw hI3 (by omega)) ?_
  rintro _ w4 ⟨⟨B1, c1, l1, n1, rfl, P1, own1⟩, b34⟩
  refine ⟨_, rfl, ?_⟩
  rw [ht] at P1
  have z4 := b34.size
  have b4 : Below lb wA w4 := b3.trans (b34.mono (by omega))
  have own1 := own1.base (show lb + 1 ≤ w3.heap.size by omega)
  -- Duty
  repeat (conv => whnf
          first
          | (refine VCmp.tt (by omega) ?_)
          | (refine VCmp.ff (by omega) ?_)
          | (refine VIn.mk (IntWalk.i64_in _ (by omega)) ?_)
          | (refine VIdx.mk _ rfl (by omega) ?_)
          | (refine VIdx.mk 0 rfl (by omega) ?_))
  try (conv => whnf)
  refine VDraw.mk 1000 [([0, 1, 2, 3, 4, 5, 6, 8], 7), ([], 9)] [10, 11, 12, 13, 14] (fun W => Below lb wA W) (by kernel_rfl) (by kernel_rfl) (b4.drew) ?_
  repeat (conv => whnf
          first
          | (refine VLoad.mk _ Kself ?_)
          | (refine VLoad.mk _ Kq ?_)
          | (refine VLoad.mk _ Kwho ?_)
          | (refine VCmp.tt (by omega) ?_)
          | (refine VCmp.ff (by omega) ?_)
          | (refine VIn.mk (IntWalk.i64_in _ (by omega)) ?_)
          | (refine VIdx.mk _ rfl (by omega) ?_)
          | (refine VIdx.mk 0 rfl (by omega) ?_))
  try (conv => whnf)
  have T4 := T3.below (b34.drew)
  refine VCall.mk _ (lentInts_any (N := N) T4 (by show 0 ≤ _; omega) (by show N ≤ w4.heap.size; omega) (hx _ b4.drew).2.1.who hwl) ?_
  rintro _ w5 ⟨f45, b45, A5, c5, L5, cL5, rI, rfl, T5, hA5, hA5c, hA5m⟩
  refine ⟨_, rfl, ?_⟩
  have f45 : Fx [lb] w4 w5 := Fx.trans (S := [lb]) (.below (Below.refl w4.heap.size w4).drew) f45 fun k hk => .inl hk
  have z5 := f45.size
  have b5 : Below lb wA w5 := b4.drew.trans b45
  have K5 := (K3.up (S := []) (.below b34) (by simp)).up f45 (by simp)
  have own1 := own1.up f45 (by simp)
  repeat (conv => whnf
          first
          | (refine VS.mk b5 ?_)
          | (refine VCmp.tt (by omega) ?_)
          | (refine VCmp.ff (by omega) ?_)
          | (refine VIn.mk (IntWalk.i64_in _ (by omega)) ?_)
          | (refine VIdx.mk _ rfl (by omega) ?_)
          | (refine VIdx.mk 0 rfl (by omega) ?_))
  try (conv => whnf)
  have hI5 := K5.mem.fls
  rw [hts] at hI5
  refine VCall.mk _ (duty_any xx.self xx.q A5 I c5 cI w5.heap.size xx.who xx.fs w5 (Nat.le_refl _) hA5 hI5 (by omega) (by omega)) ?_
  rintro _ w6 ⟨⟨B2, c2, l2, n2, rfl, P2, own2⟩, b56⟩
  refine ⟨_, rfl, ?_⟩
  have z6 := b56.size
  have b6 : Below lb wA w6 := b5.trans (b56.mono (by omega))
  have own1' := own1.up (S := []) (.below b56) (by simp)
  have hd12 : ∀ q, blk B1 = some q → blk B2 ≠ some q := fun q h1 h2 => by have := (own1.lo q h1).2; have := (own2.lo q h2).1; omega
  have own2 := own2.base (show lb + 1 ≤ w5.heap.size by omega)
  have K6 := K5.up (S := []) (.below b56) (by simp)
  have T6 := T5.below b56
  clear own1
  repeat (conv => whnf
          first
          | (refine VS.mk b6 ?_)
          | (refine VCmp.tt (by omega) ?_)
          | (refine VCmp.ff (by omega) ?_)
          | (refine VIn.mk (IntWalk.i64_in _ (by omega)) ?_)
          | (refine VIdx.mk _ rfl (by omega) ?_)
          | (refine VIdx.mk 0 rfl (by omega) ?_))
  try (conv => whnf)
  -- Rest
  refine VDraw.mk 1000 [([0, 1, 2, 3, 4, 5], 6), ([], 7)] [8, 9, 10, 11, 12] (fun W => Below lb wA W) (by kernel_rfl) (by kernel_rfl) (b6.drew) ?_
  repeat (conv => whnf
          first
          | (refine VLoad.mk _ Kdone ?_)
          | (refine VLoad.mk _ Kms ?_)
          | (refine VCmp.tt (by omega) ?_)
          | (refine VCmp.ff (by omega) ?_)
          | (refine VIn.mk (IntWalk.i64_in _ (by omega)) ?_)
          | (refine VIdx.mk _ rfl (by omega) ?_)
          | (refine VIdx.mk 0 rfl (by omega) ?_))
  try (conv => whnf)
  have T6d := T6.below (Below.refl _ _).drew
  refine VCall.mk _ (lentDatas_any (N := N) T6d (by show 0 ≤ _; omega) (by show 0 ≤ _; omega) (by omega) (hx _ b6.drew).2.1.ms XC.sd) ?_
  rintro _ w7 ⟨f67, b67, A7, c7, L7, cL7, R7, L7', cL7', rd7, rfl, T7, hA7, hR7⟩
  refine ⟨_, rfl, ?_⟩
  have f67 : Fx [lb] w6 w7 := Fx.trans (S := [lb]) (.below (Below.refl w6.heap.size w6).drew) f67 fun k hk => .inl hk
  have z7 := f67.size
  have b7 : Below lb wA w7 := b6.drew.trans b67
  have K7 := K6.up f67 (by simp)
  have own1' := own1'.up f67 (by simp)
  have own2 := own2.up f67 (by simp)
  repeat (conv => whnf
          first
          | (refine VS.mk b7 ?_)
          | (refine VCmp.tt (by omega) ?_)
          | (refine VCmp.ff (by omega) ?_)
          | (refine VIn.mk (IntWalk.i64_in _ (by omega)) ?_)
          | (refine VIdx.mk _ rfl (by omega) ?_)
          | (refine VIdx.mk 0 rfl (by omega) ?_))
  try (conv => whnf)
  have hI7 := K7.mem.fls
  rw [hts] at hI7
  have C19 := rest_any xx.done I A7 cI c7 w7.heap.size xx.fs (xx.ms.map Dr.d) w7 (Nat.le_refl _) hI7 hA7 (by omega) XC.sd XC.kd
  rw [List.length_map] at C19
  refine VCall.mk _ C19 ?_
  clear C19
  rintro _ w8 ⟨⟨B3, c3, rs3, n3, rfl, P3, own3⟩, b78⟩
  refine ⟨_, rfl, ?_⟩
  have z8 := b78.size
  have b8 : Below lb wA w8 := b7.trans (b78.mono (by omega))
  have hd3 : ∀ q, w7.heap.size ≤ q → True := fun _ _ => trivial
  have own1' := own1'.up (S := []) (.below b78) (by simp)
  have own2 := own2.up (S := []) (.below b78) (by simp)
  have own3 := own3.lower (show lb + 1 ≤ w7.heap.size by omega)
  have K8 := K7.up (S := []) (.below b78) (by simp)
  have T8 := T7.below b78
  clear hd3
  repeat (conv => whnf
          first
          | (refine VS.mk b8 ?_)
          | (refine VCmp.tt (by omega) ?_)
          | (refine VCmp.ff (by omega) ?_)
          | (refine VIn.mk (IntWalk.i64_in _ (by omega)) ?_)
          | (refine VIdx.mk _ rfl (by omega) ?_)
          | (refine VIdx.mk 0 rfl (by omega) ?_))
  try (conv => whnf)
  -- the document's Lacks
  repeat (conv => whnf
          first
          | (refine VLoad.mk _ (Kdone.at b8) ?_)
          | (refine VLoad.mk _ (Kown.at b8) ?_)
          | (refine VLoad.mk _ (Kall.at b8) ?_)
          | (refine VCmp.tt (by omega) ?_)
          | (refine VCmp.ff (by omega) ?_)
          | (refine VIn.mk (IntWalk.i64_in _ (by omega)) ?_)
          | (refine VIdx.mk _ rfl (by omega) ?_)
          | (refine VIdx.mk 0 rfl (by omega) ?_))
  try (conv => whnf)
  refine VCall.mk _ (rlacks_any xx.done xx.own xx.X xx.Y xx.A xx.cX xx.cY xx.cA N xx.fs w8 (by omega) (hx w8 b8).2.1.own (hx w8 b8).2.1.fls (by omega)) ?_
  rintro _ w9 ⟨⟨B4, c4, l4, n4, rfl, Q1, own4⟩, b89⟩
  refine ⟨_, rfl, ?_⟩
  obtain ⟨rfl, rfl⟩ := lacks_one P1 Q1
  have z9 := b89.size
  have b9 : Below lb wA w9 := b8.trans (b89.mono (by omega))
  have own4 := own4.base (show lb + 1 ≤ w8.heap.size by omega)
  -- the document's Duty
  repeat (conv => whnf
          first
          | (refine VLoad.mk _ (Kself.at b9) ?_)
          | (refine VLoad.mk _ (Kq.at b9) ?_)
          | (refine VLoad.mk _ (Kwho.at b9) ?_)
          | (refine VLoad.mk _ (Kall.at b9) ?_)
          | (refine VCmp.tt (by omega) ?_)
          | (refine VCmp.ff (by omega) ?_)
          | (refine VIn.mk (IntWalk.i64_in _ (by omega)) ?_)
          | (refine VIdx.mk _ rfl (by omega) ?_)
          | (refine VIdx.mk 0 rfl (by omega) ?_))
  try (conv => whnf)
  refine VCall.mk _ (rduty_any xx.self xx.q xx.C xx.A xx.cC xx.cA N xx.who xx.fs w9 (by omega) (hx w9 b9).2.1.who (hx w9 b9).2.1.fls (by omega) (by omega)) ?_
  rintro _ w10 ⟨⟨B5, c5', l5, n5, rfl, Q2, own5⟩, b910⟩
  refine ⟨_, rfl, ?_⟩
  obtain ⟨rfl, rfl⟩ := duty_one P2 Q2
  have z10 := b910.size
  have b10 : Below lb wA w10 := b9.trans (b910.mono (by omega))
  have own5 := own5.base (show lb + 1 ≤ w9.heap.size by omega)
  -- the document's Rest
  repeat (conv => whnf
          first
          | (refine VLoad.mk _ (Kdone.at b10) ?_)
          | (refine VLoad.mk _ (Kall.at b10) ?_)
          | (refine VLoad.mk _ (Kms.at b10) ?_)
          | (refine VCmp.tt (by omega) ?_)
          | (refine VCmp.ff (by omega) ?_)
          | (refine VIn.mk (IntWalk.i64_in _ (by omega)) ?_)
          | (refine VIdx.mk _ rfl (by omega) ?_)
          | (refine VIdx.mk 0 rfl (by omega) ?_))
  try (conv => whnf)
  have C20 := rrest_any xx.done xx.A xx.M xx.cA xx.cM N xx.fs (xx.ms.map Dr.d) w10 (by omega) (hx w10 b10).2.1.fls ⟨xx.ms, rfl, (hx w10 b10).2.1.ms⟩ (by omega) XC.sd
  rw [List.length_map] at C20
  refine VCall.mk _ C20 ?_
  clear C20
  rintro _ w11 ⟨⟨B6, c6, rs6, n6, rfl, Q3, own6⟩, b1011⟩
  refine ⟨_, rfl, ?_⟩
  obtain ⟨hrs, rfl⟩ := rest_one P3 Q3
  have z11 := b1011.size
  have b11 : Below lb wA w11 := b10.trans (b1011.mono (by omega))
  have own6 := own6.lower (show lb + 1 ≤ w10.heap.size by omega)
  have own5 := own5.up (S := []) (.below b1011) (by simp)
  have b911 : Below w9.heap.size w9 w11 := b910.trans (b1011.mono (by omega))
  have own4 := own4.up (S := []) (.below b911) (by simp)
  have b811 : Below w8.heap.size w8 w11 := b89.trans (b911.mono (by omega))
  have own1 := own1'.up (S := []) (.below b811) (by simp)
  have own2 := own2.up (S := []) (.below b811) (by simp)
  have own3 := own3.up (S := []) (.below b811) (by simp)
  have K11 := K8.up (S := []) (.below b811) (by simp)
  have T11 := T8.below b811
  have B11 := (hx w11 b11).2.2.1
  clear own1' K3 K5 K6 K7 K8 T3 T4 T5 T6 T6d T7 T8 hI3 hI5 hI7 hA5 hA7 f45 f67 b45 b67
  -- the book
  have L1 : Ld Try.prog 100 hb 4 (Eq w11) (.slice x.s.L x.s.P.length x.s.cL) := .of (load_cell (by kernel_rfl) (B11.r 4 _ rfl))
  repeat (conv => whnf
          first
          | (refine VLoad.mk _ L1 ?_)
          | (refine VCmp.tt (by omega) ?_)
          | (refine VCmp.ff (by omega) ?_)
          | (refine VIn.mk (IntWalk.i64_in _ (by omega)) ?_)
          | (refine VIdx.mk _ rfl (by omega) ?_)
          | (refine VIdx.mk 0 rfl (by omega) ?_))
  try (conv => whnf)
  refine VBs.mk _ _ (bs100t w11 B1 B2 l1.length c1 l2.length c2) ?_
  have d1 : Below w11.heap.size w11 (w11.alloc (.cells #[.slice B1 l1.length c1, .slice B2 l2.length c2] 36)) := (Below.refl _ _).alloc (Nat.le_refl _) _
  have hr1 := row_new_two w11 36 eTr (B1, l1.length, c1) (B2, l2.length, c2) (.slice B1 l1.length c1) (.slice B2 l2.length c2) rfl rfl
  generalize w11.alloc (.cells #[.slice B1 l1.length c1, .slice B2 l2.length c2] 36) = w12 at d1 hr1 ⊢
  have z12 := d1.size
  have hl1 := B11.s.l.keep d1 fun k hk => (B11.s.l.lo k hk).2
  have hll1 := lacksIs_len P1
  have hll2 := dutyIs_len P2
  repeat (conv => whnf
          first
          | (refine VCmp.tt (by omega) ?_)
          | (refine VCmp.ff (by omega) ?_)
          | (refine VIn.mk (IntWalk.i64_in _ (by omega)) ?_)
          | (refine VIdx.mk _ rfl (by omega) ?_)
          | (refine VIdx.mk 0 rfl (by omega) ?_))
  try (conv => whnf)
  refine VApp.rows base 1 24 _ Try.underlying100 info36z rfl (by decide) eTr len_eTr one_eTr (x.s.P.map rowT) [(B1, l1.length, c1), (B2, l2.length, c2)] (by rw [List.length_map]) rfl hl1 hr1 (by omega) (by omega) (by omega) fun L2 cL2 w13 ho2 hg2 hk2 => ?_
  have hs2 : w13.heap[hb]? = w11.heap[hb]? := (hg2.block hb (by omega) (fun e => by have := (hl1.lo hb e.symm).1; omega)).trans (d1.block hb (by omega))
  have t2 := there_same B11.t hs2
  repeat (conv => whnf
          first
          | (refine VCmp.tt (by omega) ?_)
          | (refine VCmp.ff (by omega) ?_)
          | (refine VIn.mk (IntWalk.i64_in _ (by omega)) ?_)
          | (refine VIdx.mk _ rfl (by omega) ?_)
          | (refine VIdx.mk 0 rfl (by omega) ?_))
  try (conv => whnf)
  refine VStore.cell (by kernel_rfl) (t2 4 (by omega)).1 (t2 4 (by omega)).2 rfl rfl fun w14 hw14 => ?_
  have B14 := B11.push_s hol h0.s (R := [⟨B1, c1, l1⟩, ⟨B2, c2, l2⟩]) (m := x.s.P.length + 2) d1 (fun r' hr' => by
    rcases List.mem_cons.1 hr' with rfl | hr'
    · exact (own1.base (by omega)).keep d1 fun k hk => (own1.lo k hk).2
    · obtain rfl := List.mem_singleton.1 hr'
      exact (own2.base (by omega)).keep d1 fun k hk => (own2.lo k hk).2) (fun r' hr' y hy q h1 h2 => by
    have q1 := ((h.s.k.o y hy).lo q h1).2
    rcases List.mem_cons.1 hr' with rfl | hr'
    · have := (own1.lo q h2).1; omega
    · obtain rfl := List.mem_singleton.1 hr'
      have := (own2.lo q h2).1; omega) (sep_two hd12) rfl ho2 hg2 hk2
  have f14 : Fx (hb :: (blk x.s.L).toList) w11 w14 := ((Fx.below (S := hb :: (blk x.s.L).toList) d1).trans (.grown (S := (blk x.s.L).toList) hg2 fun q hq => by rw [hq]; simp) fun q hq => .inl (List.mem_cons_of_mem _ hq)).trans (.grown (S := [hb]) (by rw [hw14.out]; exact grown_cell _ _ _ _) fun q hq => by injection hq with hq; subst hq; exact List.mem_singleton.2 rfl) fun q hq => .inl (by obtain rfl := List.mem_singleton.1 hq; exact List.mem_cons_self ..)
  have hS14 : ∀ q ∈ hb :: (blk x.s.L).toList, q < w.heap.size := fun q hq => by
    rcases List.mem_cons.1 hq with rfl | hq
    · omega
    · exact (h.s.l.lo q (by simpa [Option.mem_toList] using hq)).2
  have hS14a : ∀ q ∈ hb :: (blk x.s.L).toList, q ≤ lb := fun q hq => by have := hS14 q hq; omega
  have hS14b : ∀ q ∈ hb :: (blk x.s.L).toList, q < lb + 1 := fun q hq => by have := hS14 q hq; omega
  have B14' : Bo w14 base hb { x with s := { x.s with L := L2, cL := cL2, P := x.s.P ++ [⟨B1, c1, l1⟩, ⟨B2, c2, l2⟩] } } o := by rw [hw14.out]; exact B14
  have b1114 : Below hb w11 w14 := f14.to (fun q hq => by
    rcases List.mem_cons.1 hq with rfl | hq
    · exact Nat.le_refl _
    · have := (h.s.l.lo q (by simpa [Option.mem_toList] using hq)).1; omega) (by omega)
  have z14 := f14.size
  have own1 := own1.up f14 hS14b
  have own2 := own2.up f14 hS14b
  have own3 := own3.up f14 hS14b
  have own4 := own4.up f14 hS14b
  have own5 := own5.up f14 hS14b
  have own6 := own6.up f14 hS14b
  have K14 := K11.up f14 hS14a
  have lnb : ∀ {α : Type} {W : World} {tl e sz : Nat} {enc : α → List Value} {mk : Nat → α} {y : LX α} {q : Nat}, Ln W (lb + 1) tl e sz enc mk y → q < w.heap.size → ¬ LnB y q := fun hl hq hb => by have := (hl.lo hb).1; omega
  have T14 := T11.fx f14 fun q hq => by have := hS14 q hq; exact ⟨by omega, lnb T11.i this, lnb T11.y this, lnb T11.m this, lnb T11.d this⟩
  have e1114 : w14.heap[w.heap.size]? = w11.heap[w.heap.size]? := f14.block _ (by omega) (fun hm => by have := hS14 _ hm; omega)
  clear B14 f14 hw14 t2 hs2 hg2 hk2 ho2 hl1 hr1 d1 K11 T11 B11 L1
  -- the messages go into the book
  have hrl := restIs_len P3
  rw [List.length_map] at hrl
  repeat (conv => whnf
          first
          | (refine VCmp.tt (by omega) ?_)
          | (refine VCmp.ff (by omega) ?_)
          | (refine VIn.mk (IntWalk.i64_in _ (by omega)) ?_)
          | (refine VIdx.mk _ rfl (by omega) ?_)
          | (refine VIdx.mk 0 rfl (by omega) ?_))
  try (conv => whnf)
  refine VCall.mk _ (msgs96_any (rs := rs3) B14' hol h0.y h0.m (own3.lower (by omega)) (fun r hr y hy q h1 h2 => by
    have := ((h.y.k.o y hy).lo q h1).2
    have := ((own3.each r hr).lo q h2).1
    omega) (fun y hy q h1 h2 => by
    have := ((h.m.k.o y hy).lo q h1).2
    have := (own3.row.lo q h2).1
    omega) (by omega) hly hlm) ?_
  rintro _ w16 ⟨rfl, f16, b16, Ly, cLy, Lm, cLm, B16⟩
  refine ⟨_, rfl, ?_⟩
  have hS16 : ∀ q ∈ hb :: ((blk x.y.L).toList ++ (blk x.m.L).toList), q < w.heap.size := fun q hq => by
    rcases List.mem_cons.1 hq with rfl | hq
    · omega
    · rcases List.mem_append.1 hq with hq | hq
      · exact (h.y.l.lo q (by simpa [Option.mem_toList] using hq)).2
      · exact (h.m.l.lo q (by simpa [Option.mem_toList] using hq)).2
  have hS16a : ∀ q ∈ hb :: ((blk x.y.L).toList ++ (blk x.m.L).toList), q ≤ lb := fun q hq => by have := hS16 q hq; omega
  have hS16b : ∀ q ∈ hb :: ((blk x.y.L).toList ++ (blk x.m.L).toList), q < lb + 1 := fun q hq => by have := hS16 q hq; omega
  have z16 := f16.size
  have own1 := own1.up f16 hS16b
  have own2 := own2.up f16 hS16b
  have own3 := own3.up f16 hS16b
  have own4 := own4.up f16 hS16b
  have own5 := own5.up f16 hS16b
  have own6 := own6.up f16 hS16b
  have K16 := K14.up f16 hS16a
  have T16 := T14.fx f16 fun q hq => by have := hS16 q hq; exact ⟨by omega, lnb T14.i this, lnb T14.y this, lnb T14.m this, lnb T14.d this⟩
  have bw16 : Below hb w w16 := (((hx w11 b11).2.2.2.mono (by omega)).trans b1114).trans b16
  have XC16 := XC.below bw16 hN
  have o16 : w16.rangeAt w.heap.size 0 (cxA xx).toList := by
    refine range_same (hx w11 b11).1 ?_
    exact (f16.block _ (by omega) (fun hm => by have := hS16 _ hm; omega)).trans e1114
  clear f16 b16 K14 T14 B14'
  have hA1 := own1.row len_eSlot
  have hA2 := own2.row len_eSlot
  have hA4 := own4.row len_eSlot
  have hA5 := own5.row len_eSlot
  have hA3 := msOwn_dtsA own3
  have hA6 := msOwn_dtsA own6
  rw [← hrs] at hA6
  have hl6 : rs6.length = rs3.length := by have := congrArg List.length hrs; simpa using this.symm
  -- the comparison
  repeat (conv => whnf
          first
          | (refine VCmp.tt (by omega) ?_)
          | (refine VCmp.ff (by omega) ?_)
          | (refine VIn.mk (IntWalk.i64_in _ (by omega)) ?_)
          | (refine VIdx.mk _ rfl (by omega) ?_)
          | (refine VIdx.mk 0 rfl (by omega) ?_))
  try (conv => whnf)
  refine VCall.mk _ (num_any n1 w16) ?_
  rintro _ _ ⟨rfl, rfl⟩
  refine ⟨_, rfl, ?_⟩
  repeat (conv => whnf
          first
          | (refine VCmp.tt (by omega) ?_)
          | (refine VCmp.ff (by omega) ?_)
          | (refine VIn.mk (IntWalk.i64_in _ (by omega)) ?_)
          | (refine VIdx.mk _ rfl (by omega) ?_)
          | (refine VIdx.mk 0 rfl (by omega) ?_))
  try (conv => whnf)
  refine VCall.mk _ (num_any n2 w16) ?_
  rintro _ _ ⟨rfl, rfl⟩
  refine ⟨_, rfl, ?_⟩
  repeat (conv => whnf
          first
          | (refine VCmp.tt (by omega) ?_)
          | (refine VCmp.ff (by omega) ?_)
          | (refine VIn.mk (IntWalk.i64_in _ (by omega)) ?_)
          | (refine VIdx.mk _ rfl (by omega) ?_)
          | (refine VIdx.mk 0 rfl (by omega) ?_))
  try (conv => whnf)
  refine VCall.mk _ (num_any n3 w16) ?_
  rintro _ _ ⟨rfl, rfl⟩
  refine ⟨_, rfl, ?_⟩
  repeat (conv => whnf
          first
          | (refine VCmp.tt (by omega) ?_)
          | (refine VCmp.ff (by omega) ?_)
          | (refine VIn.mk (IntWalk.i64_in _ (by omega)) ?_)
          | (refine VIdx.mk _ rfl (by omega) ?_)
          | (refine VIdx.mk 0 rfl (by omega) ?_))
  try (conv => whnf)
  refine VCall.mk _ (sameSlots_yes B1 B4 c1 c4 w16.heap.size l1 w16 (Nat.le_refl _) hA1 hA4 (by omega)) ?_
  rintro _ w17 ⟨rfl, b17⟩
  refine ⟨_, rfl, ?_⟩
  repeat (conv => whnf
          first
          | (refine VCmp.tt (by omega) ?_)
          | (refine VCmp.ff (by omega) ?_)
          | (refine VIn.mk (IntWalk.i64_in _ (by omega)) ?_)
          | (refine VIdx.mk _ rfl (by omega) ?_)
          | (refine VIdx.mk 0 rfl (by omega) ?_))
  try (conv => whnf)
  refine VCall.mk _ (sameSlots_yes B2 B5 c2 c5' w16.heap.size l2 w17 b17.size (hA2.below b17 (Nat.le_refl _)) (hA5.below b17 (Nat.le_refl _)) (by omega)) ?_
  rintro _ w18 ⟨rfl, b18⟩
  refine ⟨_, rfl, ?_⟩
  have c18 : Below w16.heap.size w16 w18 := b17.trans (b18.mono b17.size)
  have C21 := sameMsgs_yes B3 B6 c3 c6 w16.heap.size (rs3.map Dr.d) w18 c18.size (hA3.below c18 (Nat.le_refl _)) (hA6.below c18 (Nat.le_refl _)) (by rw [List.length_map]; omega)
  rw [List.length_map] at C21
  repeat (conv => whnf
          first
          | (refine VCmp.tt (by omega) ?_)
          | (refine VCmp.ff (by omega) ?_)
          | (refine VIn.mk (IntWalk.i64_in _ (by omega)) ?_)
          | (refine VIdx.mk _ rfl (by omega) ?_)
          | (refine VIdx.mk 0 rfl (by omega) ?_))
  try (conv => whnf)
  rw [hl6]
  refine VCall.mk _ C21 ?_
  clear C21
  rintro _ w19 ⟨rfl, b19⟩
  refine ⟨_, rfl, ?_⟩
  have c19 : Below w16.heap.size w16 w19 := c18.trans (b19.mono c18.size)
  have Kall2 : Ld Try.prog 22 w.heap.size 0 (Eq w19) (.slice xx.A xx.fs.length xx.cA) := .of (load_cell (by kernel_rfl) ((range_same o16 (c19.block _ (by omega))) 0 _ rfl))
  repeat (conv => whnf
          first
          | (refine VLoad.mk _ Kall2 ?_)
          | (refine VCmp.tt (by omega) ?_)
          | (refine VCmp.ff (by omega) ?_)
          | (refine VIn.mk (IntWalk.i64_in _ (by omega)) ?_)
          | (refine VIdx.mk _ rfl (by omega) ?_)
          | (refine VIdx.mk 0 rfl (by omega) ?_))
  try (conv => whnf)
  refine VCall.mk _ (allunt_any T I xx.A cT cI xx.cA w19.heap.size xx.fs ts w19 (Nat.le_refl _) (K16.up (S := []) (.below c19) (by simp)).mem hts (((XC16.below c19 (by omega)).fls).more (by have := c19.size; omega)) (by omega)) ?_
  rintro _ w20 ⟨rfl, b20⟩
  refine ⟨_, rfl, ?_⟩
  have c20 : Below w16.heap.size w16 w20 := c19.trans (b20.mono c19.size)
  have K20 := K16.up (S := []) (.below c20) (by simp)
  have Kt : Ld Try.prog 57 w2.heap.size 0 (Eq w20) (.agg (eTw t).toArray) := .of (load_agg (by kernel_rfl) (by kernel_rfl) K20.box)
  have Kown2 : Ld Try.prog 39 w.heap.size 1 (Eq w20) (.agg (flc xx.own.e xx.own.l xx.own.i xx.own.c xx.own.base xx.X xx.own.slots.length xx.cX xx.Y xx.own.have_.length xx.cY)) := .of (load39 (range_sub (n := 7) (range_same o16 (c20.block _ (by omega))) 1 rfl))
  have lS := K20.tw.s.len
  have lH := K20.tw.h.len
  simp only [List.length_append, List.length_cons, List.length_nil] at lS lH
  have XC20 := (XC16.below c20 (by omega)).own
  repeat (conv => whnf
          first
          | (refine VLoad.mk _ Kt ?_)
          | (refine VLoad.mk _ Kown2 ?_)
          | (refine VCmp.tt (by omega) ?_)
          | (refine VCmp.ff (by omega) ?_)
          | (refine VIn.mk (IntWalk.i64_in _ (by omega)) ?_)
          | (refine VIdx.mk _ rfl (by omega) ?_)
          | (refine VIdx.mk 0 rfl (by omega) ?_))
  try (conv => whnf)
  refine VCall.mk _ (untouched_yes t.f xx.own t.g2 t.g4 t.c2 t.c4 w20.heap.size xx.X xx.Y xx.cX xx.cY w20 (Nat.le_refl _) (K20.tw.s.row len_eSlot) (K20.tw.h.row len_eInt) lS.1 lS.2 lH.1 lH.2 (⟨XC20.slots.more (by have := c20.size; omega), XC20.have_.more (by have := c20.size; omega), XC20.lenS, XC20.capS, XC20.lenH, XC20.capH⟩) ht) ?_
  rintro _ w21 ⟨rfl, b21⟩
  refine ⟨_, rfl, ?_⟩
  have c21 : Below w16.heap.size w16 w21 := c20.trans (b21.mono c20.size)
  repeat (conv => whnf
          first
          | (refine VCmp.tt (by omega) ?_)
          | (refine VCmp.ff (by omega) ?_)
          | (refine VIn.mk (IntWalk.i64_in _ (by omega)) ?_)
          | (refine VIdx.mk _ rfl (by omega) ?_)
          | (refine VIdx.mk 0 rfl (by omega) ?_))
  try (conv => whnf)
  refine VCall.mk _ (kept_any (T16.below c21)) ?_
  rintro _ w22 ⟨rfl, b22⟩
  refine ⟨_, rfl, ?_⟩
  have c22 : Below w16.heap.size w16 w22 := c21.trans (b22.mono c21.size)
  repeat (conv => whnf
          first
          | (refine VCmp.tt (by omega) ?_)
          | (refine VCmp.ff (by omega) ?_)
          | (refine VIn.mk (IntWalk.i64_in _ (by omega)) ?_)
          | (refine VIdx.mk _ rfl (by omega) ?_)
          | (refine VIdx.mk 0 rfl (by omega) ?_))
  try (conv => whnf)
  exact .mk ⟨rfl, bw16.trans (c22.mono (by omega)), _, ⟨L2, cL2, Ly, cLy, Lm, cLm, ⟨B1, c1, l1⟩, ⟨B2, c2, l2⟩, ⟨B3, c3, rs3⟩, n1, n2, n3, rfl, P1, P2, P3⟩, B16.below c22⟩
end Go.Proofs.Ytcffhfcjfjfokaa
