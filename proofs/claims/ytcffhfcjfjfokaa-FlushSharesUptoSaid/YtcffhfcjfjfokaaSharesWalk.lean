/- FlushShares' walk. -/
import Derived.Test.YtcffhfcjfjfokaaSharesLaw
import Derived.Test.YtcffhfcjfjfokaaMany
import Derived.Test.YtcffhfcjfjfokaaTwice
namespace Go.Proofs.Ytcffhfcjfjfokaa
open Go.RowKit
theorem cut_cases {fs : List Fl} {k n m : Int} (h1 : 1 ≤ fs.length) (h2 : fs.length ≤ 16) (hc : CutIs fs k n) (hm : Together fs m) : (m ≠ 0 ∧ n ≠ 0 ∧ k = 0) ∨ (m = 0 ∧ n = 0 ∧ IsCut fs k) := by
  have hL := hc.1
  unfold Listed at hL
  rw [if_pos ⟨h1, h2⟩] at hL
  obtain rfl := together_one hL hm
  by_cases h0 : n = 0
  · exact .inr ⟨h0, h0, hc.2.1 h0⟩
  · exact .inl ⟨h0, h0, hc.2.2 h0⟩
theorem cut_bad {fs : List Fl} {k n : Int} (h : ¬ (1 ≤ fs.length ∧ fs.length ≤ 16)) (hc : CutIs fs k n) : k = 0 ∧ n = 1 := by
  have hL := hc.1
  unfold Listed at hL
  rw [if_neg h] at hL
  subst hL
  exact ⟨hc.2.2 (by decide), rfl⟩
theorem whoL_succ (n : Nat) : whoL (n + 1) = whoL n ++ [(n : Int)] := by unfold whoL; rw [List.range_succ, List.map_append]; rfl
theorem pick_le (F : Int → Option (Int × Int)) (P : Int × Int → Bool) (b : Int) : ∀ k : Nat, (pickTo F P b k).length ≤ k
  | 0 => Nat.le_refl _
  | k + 1 => by
    have := pick_le F P b k
    rw [pickTo]
    cases F (b + 1 + k) with
    | none => dsimp only; omega
    | some t =>
      dsimp only
      by_cases hp : P t = true
      · rw [if_pos hp, ins_length]; omega
      · rw [if_neg hp]; omega
theorem own_off {α : Type} {w : World} {base sz c : Nat} {e : TypeId} {enc : α → List Value} {A : Option Addr} {l : List α} (h : Owns w base e sz enc A c l) : ∀ a, A = some a → a.off = 0 := fun a ha => by
  rcases h.2 with ⟨hv, _⟩ | ⟨g, cap, cur, hv, _⟩
  · injection hv with h1; rw [ha] at h1; cases h1
  · injection hv with h1; rw [ha] at h1; injection h1 with h1; rw [h1]
theorem dlen {fs : List Fl} {g : Fl} {cut : Int} {p : Int} {d : List (Int × Int)} (h : Fit fs) (hc : IsCut fs cut) (hd : d = oweL fs g cut p) : d.length ≤ 4096 := by
  have hcb := cut_bound h (n := (cut - baseOf fs).toNat) (fun p h1 h2 => hc.all p h1 (by have := hc.low; omega))
  rw [hd]
  have := pick_le (knownF fs) (fun s => !havB g.have_ s.1 s.2 && firstB (whoL fs.length) (hadL fs s.1 s.2) p) (baseOf fs) (cut - baseOf fs).toNat
  unfold oweL
  omega
set_option maxRecDepth 100000 in
set_option maxHeartbeats 8000000 in
theorem flushShares_walk (A : Option Addr) (cA N : Nat) (fs : List Fl) (w : World) (hN : N ≤ w.heap.size) (hA : Fls w N A fs) (hsm : Small fs) :
    Calls Try.prog 8 #[.slice A fs.length cA] w fun x w' => x = .returned (.bool true) ∧ Below w.heap.size w w' := by
  have hl : fs.length ≤ 9223372036854775807 := by have := hsm.1; omega
  have H28 : ∀ W : World, Below w.heap.size w W → Calls Try.prog 28 #[.slice A fs.length cA] W fun x W' => (∃ B c, x = .returned (.slice B fs.length c) ∧ Fls W' W'.heap.size B fs) ∧ Below W.heap.size W W' := fun W h =>
    many_any A cA N fs W (by have := h.size; omega) (hA.below h hN) hsm
  replace H28 := Lib.hid H28
  by_cases hlen : 1 ≤ fs.length ∧ fs.length ≤ 16
  · obtain ⟨h1, h2⟩ := hlen
    have h1' : ¬ fs.length < 1 := by omega
    have h2' : ¬ 16 < fs.length := by omega
    go_enter Try.func8, Try.ntmps8
    go_wp2_with (first
      | (go_at_call 28; refine (H28.out w (Below.refl _ _)).mono ?_; rintro e w1 ⟨⟨B1, c1, rfl, hB1⟩, hb1⟩; have hs1 := hb1.size)
      | (go_at_call 14; refine (icut_any B1 c1 w1.heap.size fs w1 (Nat.le_refl _) hB1 hl).mono ?_; rintro e w2 ⟨⟨k_, n, rfl, hcut⟩, hb2⟩; have hs2 := hb2.size; replace hcut := Lib.hid hcut; have hb02 := hb1.trans (hb2.mono hs1))
      | (go_at_call 29; refine (together_any A cA N fs w2 (by omega) (hA.below hb02 hN) hl).mono ?_; rintro e w3 ⟨⟨m, rfl, hm⟩, hb3⟩; have hb03 := hb02.trans (hb3.mono (by omega)); rcases cut_cases h1 h2 hcut.out hm with ⟨hm0, hn0, rfl⟩ | ⟨rfl, rfl, hc⟩; all_goals first | (have e1 : (m != 0) = true := (by simpa using hm0); have e2 : (n != 0) = true := (by simpa using hn0); clear hm0 hn0) | (replace hc := Lib.hid hc; have hfit := Lib.hid (fit_iff.1 hm); clear hm))
      | fail)
    · go_ret
      exact ⟨rfl, hb03⟩
    · have hs3 := hb03.size
      go_loopw [5, 6] (fun a k wr => ∃ (i : Nat) (O : Option Addr) (cO : Nat), k = .int .i64 i ∧ a = .slice O i cO ∧ i ≤ fs.length ∧ Owns wr w.heap.size 3 1 eInt O cO (whoL i) ∧ Below w.heap.size w wr) (fun _ k _ => fs.length - (intOf k).toNat)
      case atStart => exact ⟨0, none, 0, rfl, rfl, by omega, owns_nil _ _ _ _ _, hb03⟩
      case round =>
        obtain ⟨i, O, cO, rfl, rfl, hi, ho, hb⟩ := hrel
        have hszr := hb.size
        have hlo := ho.lo
        replace ho := Lib.hid ho
        have hwl := Lib.hid (whoL_len i)
        by_cases hlt : i < fs.length
        · go_wp2_with (at_builtin; refine wpList_append_rows _ rfl (.tmp 47) (.tmp 49) 37 rfl w.heap.size 3 1 8 _ Try.underlying37 info3 rfl (by decide) eInt len_eInt one_eInt O cO (whoL i) (some ⟨wr.heap.size, 0, none⟩) 1 (wr.heap.size + 1) i 1 [(i : Int)] rfl rfl hwl.out rfl (ho.out.alloc _) (row_new _ _ _ _ _ _ rfl) (by omega) (by omega) (by simp; omega) ?_)
          intro A3 cc3 w4 ho3 hg3 hk3
          rw [← whoL_succ] at ho3
          have hb4 := (hb.alloc (by omega) (.cells #[.int .i64 (i : Int)] 3)).grown hg3 (by simp only [World.size_alloc]; omega) (fun k hk => (hlo k hk).1)
          clear hg3 hk3
          replace ho3 := Lib.hid ho3
          go_wp2
          go_roundw
          case rel => go_light; exact ⟨i + 1, A3, cc3, by go_num, rfl, by omega, ho3.out, hb4⟩
          case measure => go_light; simp [intOf]; omega
        · obtain rfl : i = fs.length := by omega
          obtain ⟨w4, hw4⟩ : ∃ w4 : World, w4 = wr := ⟨_, rfl⟩
          subst hw4
          have hrow := Lib.hid (ho.out.row len_eInt)
          go_wp2_with (go_at_call 30; refine (base_any A cA N fs w4 (hA.below hb hN) hl).mono ?_; rintro e w5 ⟨rfl, rfl⟩)
          go_loopw [8] (fun k wr => ∃ q : Nat, k = .int .i64 q ∧ q ≤ fs.length ∧ Below w4.heap.size w4 wr) (fun k _ => fs.length - (intOf k).toNat)
          case atStart => exact ⟨0, rfl, by omega, Below.refl _ _⟩
          case round =>
            obtain ⟨q, rfl, hq, hbq⟩ := hrel
            have hbwq := hb.trans (hbq.mono hszr)
            have hsq := hbq.size
            by_cases hltq : q < fs.length
            · obtain ⟨w5, hw5⟩ : ∃ w5 : World, w5 = wr := ⟨_, rfl⟩
              subst hw5
              obtain ⟨g, o, own, X, cX, Y, cY, hAe, hg, hf, ⟨c0, c1', c2, c3, c4, c5, c6⟩, hr⟩ := (hA.below hbwq hN).at_ hltq
              subst hAe
              have hgw : g < w5.heap.size := by omega
              have hmem := Lib.hid (List.mem_of_getElem? hf.out)
              obtain ⟨hz1, hz2⟩ := hsm.2 own hmem.out
              go_wp2_with (first
                | (go_at_call 38; refine (one_any own X Y cX cY N w5 (by omega) hr (by omega) (by omega)).mono ?_; rintro e w6 ⟨⟨X6, cX6, Y6, cY6, rfl, hfr6, -, -⟩, hb6⟩; have hs6 := hb6.size)
                | (go_at_call 28; refine (H28.out w6 (hbwq.trans (hb6.mono (by omega)))).mono ?_; rintro e w7 ⟨⟨B7, c7, rfl, hB7⟩, hb7⟩; have hs7 := hb7.size)
                | (go_at_call 24; refine (lacks_any (baseOf fs) own X6 Y6 B7 cX6 cY6 c7 w7.heap.size fs w7 (Nat.le_refl _) ((hfr6.below hb7 (Nat.le_refl _)).more hs7) hB7 hl).mono ?_; rintro e w8 ⟨⟨B, cB, l, n, rfl, hLI, hown⟩, hb8⟩; obtain ⟨rfl, hll⟩ := lacks_share hfit.out h1 h2 hmem.out hc.out hLI; replace hll := Lib.hid hll; clear hLI)
                | fail)
              have hs8 := hb8.size
              have hb58 : Below w5.heap.size w5 w8 := (hb6.trans (hb7.mono hs6)).trans (hb8.mono (by omega))
              have hbw8 := hbwq.trans (hb58.mono (by omega))
              have hrl := hown.row len_eSlot
              have hlol := hown.lo
              have hlenl := hown.len
              replace hown := Lib.hid hown
              clear hB7 hfr6 c0 c1' c2 c3 c4 c5 c6 hr
              go_loopw [11, 12] (fun a k wr => ∃ (p : Nat) (O' : Option Addr) (cO' m : Nat) (ow : List (Int × Int)), k = .int .i64 p ∧ a = .slice O' m cO' ∧ ow.length = m ∧ p ≤ fs.length ∧ Hid (ow = owedTo fs own k_ q p) ∧ Owns wr w8.heap.size 66 2 eSlot O' cO' ow ∧ m ≤ p * 4096 ∧ Below w8.heap.size w8 wr) (fun _ k _ => fs.length - (intOf k).toNat)
              case atStart => exact ⟨0, none, 0, 0, [], rfl, rfl, rfl, by omega, (by show ([] : List (Int × Int)) = owedTo _ _ _ _ 0; rfl), owns_nil _ _ _ _ _, by omega, Below.refl _ _⟩
              case round =>
                obtain ⟨p, O', cO', m, ow, rfl, rfl, hm, hp, how, hO, hmp, hbp⟩ := hrel
                have hm' := Lib.hid hm
                have hsp := hbp.size
                have hbwp := hbw8.trans (hbp.mono (by omega))
                by_cases hltp : p < fs.length
                · by_cases hpq : p = q
                  · subst hpq
                    have how' : Hid (ow = owedTo fs own k_ p (p + 1)) := by show ow = _; rw [owedTo_succ, if_pos rfl, List.append_nil]; exact how.out
                    replace hO := Lib.hid hO
                    clear hm
                    go_wp2
                    go_roundw
                    case rel => go_light; exact ⟨p + 1, O', cO', m, ow, by go_num, rfl, hm'.out, by omega, how', hO.out, by omega, hbp⟩
                    case measure => go_light; simp [intOf]; omega
                  · have hpqb : ((p : Int) == (q : Int)) = false := by simp; omega
                    obtain ⟨w9, hw9⟩ : ∃ w9 : World, w9 = wr := ⟨_, rfl⟩
                    subst hw9
                    have hloO := hO.lo
                    replace hO := Lib.hid hO
                    have hpq' := Lib.hid hpq
                    clear hpq hm
                    go_wp2_with (first
                      | (go_at_call 28; refine (H28.out w9 hbwp).mono ?_; rintro e w10 ⟨⟨B10, c10, rfl, hB10⟩, hb10⟩; have hs10 := hb10.size)
                      | (go_at_call 35; have h35 := duty_any (p : Int) (q : Int) O B10 cO c10 w10.heap.size (whoL fs.length) fs w10 (Nat.le_refl _) (hrow.out.below ((hbq.trans (hb58.mono (by omega))).trans ((hbp.mono (by omega)).trans (hb10.mono (by omega)))) (Nat.le_refl _) |>.more (by omega)) hB10 (by rw [whoL_len]; exact hl) hl; rw [whoL_len] at h35; refine h35.mono ?_; rintro e w11 ⟨⟨D, cD, d, n, rfl, hDI, hD⟩, hb11⟩; obtain ⟨rfl, hdd⟩ := duty_share hfit.out h1 h2 hf.out hltp hpq'.out hc.out hDI; replace hdd := Lib.hid hdd; clear hDI h35; have hs11 := hb11.size; have hloD := hD.lo; have hlenD := hD.len; have hdl : d.length ≤ 4096 := dlen hfit.out hc.out hdd.out; replace hD := Lib.hid hD)
                      | (at_builtin; refine wpList_append_rows _ rfl (.tmp 93) (.tmp 94) 36 rfl w8.heap.size 66 2 16 _ Try.underlying36 info66 rfl (by decide) eSlot len_eSlot one_eSlot O' cO' ow D cD w11.heap.size m d.length d rfl rfl hm'.out rfl ((hO.out.keep hb10 (fun k hk => (hloO k hk).2)).keep hb11 (fun k hk => by have := (hloO k hk).2; omega)) (hD.out.row len_eSlot) (by omega) (by omega) (by omega) ?_)
                      | fail)
                    intro A12 c12 w12 ho12 hg12 hk12
                    have hD12 : Owns w12 w10.heap.size 66 2 eSlot D cD d := hD.out.kept hg12 (by
                      cases hDb : blk D with
                      | none => exact .inl rfl
                      | some k => exact .inr fun e => by have := (hloD k hDb).1; have := (hloO k e.symm).2; omega)
                    have hb812 : Below w8.heap.size w8 w12 := ((hbp.trans (hb10.mono (by omega))).trans (hb11.mono (by omega))).grown hg12 (by omega) (fun k hk => (hloO k hk).1)
                    have hbw12 := hbw8.trans (hb812.mono (by omega))
                    have hlo12 := ho12.lo
                    have hlen12 := ho12.len
                    have how'' : Hid (ow ++ d = owedTo fs own k_ q (p + 1)) := by show ow ++ d = _; rw [owedTo_succ, if_neg hpq'.out, ← hdd.out, ← how.out]
                    have hs12 := hb812.size
                    have hrD := Lib.hid (hD12.row len_eSlot)
                    replace ho12 := Lib.hid ho12
                    replace hlo12 := Lib.hid hlo12
                    replace hloD := Lib.hid hloD
                    replace hloO := Lib.hid hloO
                    replace hlol := Lib.hid hlol
                    clear hg12 hk12 hD12 hB10
                    go_wp2
                    go_loopw [15] (fun k wr => ∃ i : Nat, k = .int .i64 i ∧ i ≤ d.length ∧ Below w12.heap.size w12 wr) (fun k _ => d.length - (intOf k).toNat)
                    case atStart => exact ⟨0, rfl, by omega, Below.refl _ _⟩
                    case round =>
                      obtain ⟨i, rfl, hi, hbi⟩ := hrel
                      have hsi := hbi.size
                      have hbwi := hbw12.trans (hbi.mono (by omega))
                      by_cases hlti : i < d.length
                      · obtain ⟨g3, o3, a, b, hDe, hg3, hab, d0, d1⟩ := (hrD.out.below hbi (Nat.le_refl _)).slot hlti
                        subst hDe
                        obtain ⟨gp, op, fp, Xp, cXp, Yp, cYp, hAe, _, hfp, ⟨_, _, _, _, _, _, k6⟩, hrp⟩ := (hA.below hbwi hN).at_ hltp
                        injection hAe with hAe; injection hAe with hA1 hA2; subst hA1 hA2
                        obtain ⟨gq, oq, fq, Xq, cXq, Yq, cYq, hAe, _, hfq, ⟨_, _, _, _, _, _, j6⟩, hrq⟩ := (hA.below hbwi hN).at_ hltq
                        injection hAe with hAe; injection hAe with hA1 hA2; subst hA1 hA2
                        obtain rfl : own = fq := by have := hfq.out; rw [hf.out] at this; cases this; rfl
                        obtain ⟨m1, m2, m3⟩ := owe_item hfit.out hfp.out hmem.out (s := (a, b)) (by rw [← hdd.out]; exact List.mem_of_getElem? hab.out)
                        rw [← hll.out] at m1
                        have hg3' : g3 < wr.heap.size := by omega
                        have hgr : g < wr.heap.size := by omega
                        have hall : ∀ W : World, Below wr.heap.size wr W → (Below wr.heap.size wr W ∧ W.cell? ⟨g3, o3 + i * 2, none⟩ = some (.int .i64 a) ∧ W.cell? ⟨g3, o3 + i * 2 + 1, none⟩ = some (.int .i64 b) ∧ W.cell? ⟨g, o + p * 7 + 6, none⟩ = some (.slice Yp fp.have_.length cYp) ∧ W.cell? ⟨g, o + q * 7 + 6, none⟩ = some (.slice Yq own.have_.length cYq)) := fun W h => ⟨h, (h.cell (p := ⟨g3, _, none⟩) hg3').trans d0, (h.cell (p := ⟨g3, _, none⟩) hg3').trans d1, (h.cell (p := ⟨g, _, none⟩) hgr).trans k6, (h.cell (p := ⟨g, _, none⟩) hgr).trans j6⟩
                        have h39 : ∀ W : World, Below wr.heap.size wr W → Calls Try.prog 39 #[.slice B l.length cB, .agg #[.int .i64 a, .int .i64 b]] W fun x W' => x = .returned (.bool true) ∧ Below wr.heap.size wr W' := fun W h => by
                          have hbx := (hb812.trans (hbi.mono (by omega))).trans (h.mono (by omega))
                          refine (among_any B cB w8.heap.size l a b W hbx.size (hrl.below hbx (Nat.le_refl _)) (by omega)).mono ?_
                          rintro e W' ⟨rfl, hb'⟩
                          exact ⟨by rw [decide_eq_true m1], h.trans (hb'.mono h.size)⟩
                        have h40p : ∀ W : World, Below wr.heap.size wr W → Calls Try.prog 40 #[.slice Yp fp.have_.length cYp, .agg #[.int .i64 a, .int .i64 b]] W fun x W' => x = .returned (.bool true) ∧ Below wr.heap.size wr W' := fun W h => by
                          refine (within_any Yp cYp N fp.have_ a b W (Nat.le_trans hrp.lenH hrp.capH) (by have := h.size; omega) (hrp.have_.below h (by omega))).mono ?_
                          rintro e W' ⟨rfl, hb'⟩
                          exact ⟨by rw [m2], h.trans (hb'.mono h.size)⟩
                        have h40q : ∀ W : World, Below wr.heap.size wr W → Calls Try.prog 40 #[.slice Yq own.have_.length cYq, .agg #[.int .i64 a, .int .i64 b]] W fun x W' => x = .returned (.bool false) ∧ Below wr.heap.size wr W' := fun W h => by
                          refine (within_any Yq cYq N own.have_ a b W (Nat.le_trans hrq.lenH hrq.capH) (by have := h.size; omega) (hrq.have_.below h (by omega))).mono ?_
                          rintro e W' ⟨rfl, hb'⟩
                          exact ⟨by rw [m3], h.trans (hb'.mono h.size)⟩
                        have hqn : (q : Int) < fs.length := by omega
                        have hpn : (p : Int) < fs.length := by omega
                        have hin : (i : Int) < d.length := by omega
                        replace hall := Lib.hid hall
                        replace h39 := Lib.hid h39
                        replace h40p := Lib.hid h40p
                        replace h40q := Lib.hid h40q
                        clear d0 d1 k6 j6 hrp hrq m1 m2 m3
                        go_wp2
                        go_region_held3 (fun W => Below wr.heap.size wr W ∧ W.cell? ⟨g3, o3 + i * 2, none⟩ = some (.int .i64 a) ∧ W.cell? ⟨g3, o3 + i * 2 + 1, none⟩ = some (.int .i64 b) ∧ W.cell? ⟨g, o + p * 7 + 6, none⟩ = some (.slice Yp fp.have_.length cYp) ∧ W.cell? ⟨g, o + q * 7 + 6, none⟩ = some (.slice Yq own.have_.length cYq))
                          (first | exact hall.out _ (Below.drew (Below.refl _ _)) | exact hall.out _ hbw2 | go_keep)
                          (first | (go_at_call 39; refine (h39.out _ (‹Below wr.heap.size wr _ ∧ _›).1).mono ?_; rintro e w2 ⟨rfl, hbw2⟩) | (go_at_call 40; with_reducible refine (h40p.out _ (‹Below wr.heap.size wr _ ∧ _›).1).mono ?_; rintro e w2 ⟨rfl, hbw2⟩) | (go_at_call 40; with_reducible refine (h40q.out _ (‹Below wr.heap.size wr _ ∧ _›).1).mono ?_; rintro e w2 ⟨rfl, hbw2⟩))
                        have hbl := (‹Below wr.heap.size wr _ ∧ _›).1
                        have hbi2 := hbi.trans (hbl.mono (by omega))
                        go_wp2
                        go_roundw
                        case rel => go_light; exact ⟨i + 1, by go_num, by omega, hbi2⟩
                        case measure => go_light; simp [intOf]; omega
                      · have ho13 := Lib.hid (ho12.out.keep hbi (fun k hk => (hlo12.out k hk).2))
                        have hml : (ow ++ d).length = m + d.length := by rw [List.length_append, hm'.out]
                        replace hml := Lib.hid hml
                        have hb8i := hb812.trans (hbi.mono (by omega))
                        go_wp2
                        go_roundw
                        case rel => go_light; exact ⟨p + 1, A12, c12, m + d.length, ow ++ d, by go_num, rfl, hml.out, by omega, how'', ho13.out, by omega, hb8i⟩
                        case measure => go_light; simp [intOf]; omega
                · obtain rfl : p = fs.length := by omega
                  have hnd1 : ow.Nodup := by rw [how.out]; exact owed_nodup hfit.out own k_ q _
                  have hnd2 : l.Nodup := by rw [hll.out]; exact lack_nodup hfit.out own k_
                  have hml : m = l.length := by rw [← hm, how.out, hll.out]; exact owed_len hfit.out hf.out hc.out
                  have hlo' := hO.len
                  have h41a : ∀ W : World, Below wr.heap.size wr W → Calls Try.prog 41 #[.slice O' m cO'] W fun x W' => x = .returned (.bool false) ∧ Below wr.heap.size wr W' := fun W h => by
                    have := twice_no O' cO' wr.heap.size ow W h.size ((hO.row len_eSlot).below h (Nat.le_refl _)) (own_off hO) hlo'.1 hlo'.2 hnd1
                    rw [hm] at this
                    exact this.mono fun e W' ⟨e1, e2⟩ => ⟨e1, h.trans (e2.mono h.size)⟩
                  have h41b : ∀ W : World, Below wr.heap.size wr W → Calls Try.prog 41 #[.slice B l.length cB] W fun x W' => x = .returned (.bool false) ∧ Below wr.heap.size wr W' := fun W h => by
                    have hbx := hbp.trans (h.mono (by omega))
                    exact (twice_no B cB w8.heap.size l W hbx.size (hrl.below hbx (Nat.le_refl _)) (own_off hown.out) hlenl.1 hlenl.2 hnd2).mono fun e W' ⟨e1, e2⟩ => ⟨e1, h.trans (e2.mono h.size)⟩
                  have hmb : ((m : Int) != (l.length : Int)) = false := by simp [hml]
                  replace h41a := Lib.hid h41a
                  replace h41b := Lib.hid h41b
                  replace hO := Lib.hid hO
                  have hbpr := hbq.trans ((hb58.trans (hbp.mono (by omega))).mono (by omega))
                  clear hml hm hm' hnd1 hnd2
                  go_wp2_with (first
                    | (go_at_call 41; with_reducible refine (h41a.out _ (by first | exact Below.refl _ _ | assumption)).mono ?_; rintro e w' ⟨rfl, hbt⟩)
                    | (go_at_call 41; with_reducible refine (h41b.out _ (by first | exact Below.refl _ _ | assumption)).mono ?_; rintro e w' ⟨rfl, hbt⟩)
                    | fail)
                  go_roundw
                  case rel => go_light; exact ⟨q + 1, by go_num, by omega, hbpr.trans (hbt.mono (by omega))⟩
                  case measure => go_light; simp [intOf]; omega
            · go_wp2
              go_ret
              exact ⟨rfl, hbwq⟩
  · by_cases h1 : fs.length < 1
    · go_enter Try.func8, Try.ntmps8
      go_wp2_with (first
        | (go_at_call 28; refine (H28.out w (Below.refl _ _)).mono ?_; rintro e w1 ⟨⟨B1, c1, rfl, hB1⟩, hb1⟩; have hs1 := hb1.size)
        | (go_at_call 14; refine (icut_any B1 c1 w1.heap.size fs w1 (Nat.le_refl _) hB1 hl).mono ?_; rintro e w2 ⟨⟨k, n, rfl, hcut⟩, hb2⟩; obtain ⟨rfl, rfl⟩ := cut_bad hlen hcut; clear hcut)
        | fail)
      go_ret
      exact ⟨rfl, hb1.trans (hb2.mono hs1)⟩
    · have h2 : 16 < fs.length := by omega
      go_enter Try.func8, Try.ntmps8
      go_wp2_with (first
        | (go_at_call 28; refine (H28.out w (Below.refl _ _)).mono ?_; rintro e w1 ⟨⟨B1, c1, rfl, hB1⟩, hb1⟩; have hs1 := hb1.size)
        | (go_at_call 14; refine (icut_any B1 c1 w1.heap.size fs w1 (Nat.le_refl _) hB1 hl).mono ?_; rintro e w2 ⟨⟨k, n, rfl, hcut⟩, hb2⟩; obtain ⟨rfl, rfl⟩ := cut_bad hlen hcut; clear hcut)
        | fail)
      go_ret
      exact ⟨rfl, hb1.trans (hb2.mono hs1)⟩
end Go.Proofs.Ytcffhfcjfjfokaa
