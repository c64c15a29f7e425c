/- Whether two contents are alike, and the greatest base: what the law's and the document's small loops answer. -/
import Derived.Test.YtcffhfcjfjfokaaSmall
namespace Go.Proofs.Ytcffhfcjfjfokaa
open Go.RowKit

theorem same_ne1 {s s' : List (Int × Int)} {h h' : List Int} {q : Nat} {x y x' y' : Int} (h1 : s[q]? = some (x, y)) (h2 : s'[q]? = some (x', y')) (hn : (!slotEq x y x' y') = true) : false = decide (s = s' ∧ h = h') := by
  symm; rw [decide_eq_false_iff_not]; rintro ⟨rfl, _⟩
  rw [h1] at h2; cases h2
  simp [slotEq] at hn
theorem same_ne2 {s s' : List (Int × Int)} {h h' : List Int} {q : Nat} {x x' : Int} (h1 : h[q]? = some x) (h2 : h'[q]? = some x') (hn : (x != x') = true) : false = decide (s = s' ∧ h = h') := by
  symm; rw [decide_eq_false_iff_not]; rintro ⟨_, rfl⟩
  rw [h1] at h2; cases h2
  simp at hn
set_option maxHeartbeats 2000000 in
theorem same_yes (e l i c b : Int) (s s' : List (Int × Int)) (h h' : List Int) (A A' B B' : Option Addr) (cA cA' cB cB' n m N : Nat) (w : World) (hN : N ≤ w.heap.size)
    (hA : RowAt w N 2 eSlot A s) (hA' : RowAt w N 2 eSlot A' s') (hB : RowAt w N 1 eInt B h) (hB' : RowAt w N 1 eInt B' h') (hl1 : n ≤ 9223372036854775807) (hl2 : m ≤ 9223372036854775807)
    (hn : s.length = n) (hn' : s'.length = n) (hm : h.length = m) (hm' : h'.length = m) :
  Calls Try.prog 64 #[.agg (flc e l i c b A n cA B m cB), .agg (flc e l i c b A' n cA' B' m cB')] w
    fun e w' => e = .returned (.bool (decide (s = s' ∧ h = h'))) ∧ Below w.heap.size w w' := by
  have hne := run_neq_slot
  have hnv := run_neq_vid
  have hve : vidEq e l i c e l i c = true := by simp [vidEq]
  replace hn := Lib.hid hn
  replace hn' := Lib.hid hn'
  replace hm := Lib.hid hm
  replace hm' := Lib.hid hm'
  go_enter Try.func64, Try.ntmps64
  go_wp2
  clear hve
  go_loopw [5] (fun k wr => ∃ q : Nat, k = .int .i64 q ∧ q ≤ n ∧ agree s s' q ∧ Below (w.heap.size + 2) (box2 w (flc e l i c b A n cA B m cB) 39 (flc e l i c b A' n cA' B' m cB') 39) wr) (fun k _ => n - (intOf k).toNat)
  case atStart => exact ⟨0, rfl, by omega, agree_zero _ _, Below.refl _ _⟩
  case round =>
    obtain ⟨q, rfl, hq, hag, hb⟩ := hrel
    obtain ⟨hbw, hc, hc', -, -, hsz⟩ := box2_facts hb
    by_cases hlt : q < n
    · obtain ⟨g1, o1, x, y, rfl, hg1, hx1, k1, k2⟩ := (hA.below hbw hN).slot (k := q) (by rw [hn.out]; exact hlt)
      obtain ⟨g2, o2, x', y', rfl, hg2, hx2, k3, k4⟩ := (hA'.below hbw hN).slot (k := q) (by rw [hn'.out]; exact hlt)
      clear hA hA' hB hB'
      go_wp2
      go_quiet (fail)
      go_wp2
      · go_ret
        go_light
        exact ⟨ret_bool (same_ne1 hx1.out hx2.out (by assumption)), below_drewN hbw _⟩
      · go_roundw
        case rel => go_light; exact ⟨q + 1, by go_num, by omega, agree_succ hag (by rw [hx1.out, hx2.out]; have := slotEq_iff (s := (x, y)) (t := (x', y')); simp_all), below_drewN hb _⟩
        case measure => go_light; simp [intOf]; omega
    · go_wp2
      have Hq : Hid (q = n) := by show q = n; omega
      clear hlt hq hbw hc hc' hsz
      go_loopw [6] (fun k wr => ∃ q : Nat, k = .int .i64 q ∧ q ≤ m ∧ agree h h' q ∧ Below (w.heap.size + 2) (box2 w (flc e l i c b A n cA B m cB) 39 (flc e l i c b A' n cA' B' m cB') 39) wr) (fun k _ => m - (intOf k).toNat)
      case atStart => exact ⟨0, rfl, by omega, agree_zero _ _, hb⟩
      case round =>
        obtain ⟨q', rfl, hq', hag', hb⟩ := hrel
        obtain ⟨hbw, hc, hc', -, -, hsz⟩ := box2_facts hb
        by_cases hlt : q' < m
        · obtain ⟨g1, o1, x, rfl, hg1, hx1, k1⟩ := (hB.below hbw hN).int (k := q') (by rw [hm.out]; exact hlt)
          obtain ⟨g2, o2, x', rfl, hg2, hx2, k2⟩ := (hB'.below hbw hN).int (k := q') (by rw [hm'.out]; exact hlt)
          clear hA hA' hB hB'
          go_wp2
          go_quiet (fail)
          go_wp2
          · go_ret
            go_light
            exact ⟨ret_bool (same_ne2 hx1.out hx2.out (by assumption)), below_drewN hbw _⟩
          · go_roundw
            case rel => go_light; exact ⟨q' + 1, by go_num, by omega, agree_succ hag' (by rw [hx1.out, hx2.out]; simp_all), below_drewN hb _⟩
            case measure => go_light; simp [intOf]; omega
        · go_wp2
          go_ret
          go_light
          exact ⟨ret_bool (by symm; rw [decide_eq_true_eq]; exact ⟨agree_all hag (by rw [hn.out, Hq.out]) (by rw [hn'.out, Hq.out]), agree_all hag' (by rw [hm.out]; omega) (by rw [hm'.out]; omega)⟩), hbw⟩

set_option maxHeartbeats 2000000 in
theorem base_any (A : Option Addr) (cA N : Nat) (fs : List Fl) (w : World) (hA : Fls w N A fs) (hl : fs.length ≤ 9223372036854775807) :
    Calls Try.prog 30 #[.slice A fs.length cA] w fun x w' => x = .returned (.int .i64 (baseOf fs)) ∧ w = w' := by
  go_enter Try.func30, Try.ntmps30
  go_wp2
  go_loop [3, 4] (fun b k => ∃ q : Nat, k = .int .i64 q ∧ q ≤ fs.length ∧ b = .int .i64 (baseTo fs q)) (fun _ k => fs.length - (intOf k).toNat)
  case atStart => exact ⟨0, rfl, by omega, by simp [baseTo]⟩
  case round =>
    obtain ⟨q, rfl, hq, rfl⟩ := hrel
    by_cases hlt : q < fs.length
    · obtain ⟨g, o, f, X, cX, Y, cY, rfl, hg, hf, ⟨c0, c1, c2, c3, c4, c5, c6⟩, -⟩ := hA.at_ hlt
      clear hA
      go_wp2
      all_goals
        go_round
        case rel => go_light; exact ⟨q + 1, by go_num, by omega, by rw [baseTo_succ hf.out]; first | rw [if_pos (by assumption)] | rw [if_neg (by omega)]⟩
        case measure => go_light; simp [intOf]; omega
    · go_wp2
      go_ret
      go_light
      exact ⟨ret_int (by rw [baseTo_all fs (by omega)]), rfl⟩
end Go.Proofs.Ytcffhfcjfjfokaa
