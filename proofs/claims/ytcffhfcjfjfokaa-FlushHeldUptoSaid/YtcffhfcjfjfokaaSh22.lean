/- Picktwo Duty BLens SameSl Untouched, joined. -/
import Derived.StillTailTactics
import Derived.IntWalk
import Derived.Laws.EntriesVeiled
import Derived.Test.YtcffhfcjfjfokaaSh5
import Derived.Test.YtcffhfcjfjfokaaSh6
import Derived.Test.YtcffhfcjfjfokaaSh17
import Derived.Test.YtcffhfcjfjfokaaSh18
import Derived.Test.YtcffhfcjfjfokaaSh20
import Derived.Test.YtcffhfcjfjfokaaSh21
set_option linter.unusedVariables false
set_option linter.unusedSimpArgs false
namespace Go.Proofs.Ytcffhfcjfjfokaa
open Go.RowKit
set_option maxRecDepth 100000 in
set_option maxHeartbeats 4000000 in
theorem pick_68 (x0 x1 x2 x3 x4 : Value) (bs bu n : Nat) (base cut behind : Int) (F : Int → Option (Int × Int)) (p : Int × Int → Bool) (w : World)
    (hu : w.heap[bs]? = some (.cells #[.int .i64 base, .int .i64 cut, .map (some bu)] 119 (0, 0))) (hM : MapsTo w Try.prog 3 bu n vInt vSlot F)
    (hb0 : 0 ≤ behind) (hb1 : behind ≤ 4611686018427387904) (hcut : cut ≤ 4611686018427387904) (hfew : cut - behind ≤ 4096)
    (hF : ∀ pos, behind < pos → pos ≤ cut → ∃ s, F pos = some s)
    (HC : ∀ (s : Int × Int) (W : World), Below w.heap.size w W → (∃ pos, behind < pos ∧ pos ≤ cut ∧ F pos = some s) → Calls Try.prog 68 #[.agg #[.int .i64 s.1, .int .i64 s.2], x0, x1, x2, x3, x4] W fun e W' => e = .returned (.bool (p s)) ∧ Below W.heap.size W W') :
    Calls Try.prog 59 #[.pointer (some ⟨bs, 0, none⟩), .int .i64 behind, .func (.func 68) #[] #[x0, x1, x2, x3, x4]] w fun x w' => (∃ B c, x = .returned (.slice B (pickTo F p behind (cut - behind).toNat).length c) ∧ Owns w' w.heap.size 66 2 eSlot B c (pickTo F p behind (cut - behind).toNat)) ∧ Below w.heap.size w w' := by
  have hcu := blk_cells hu
  go_enter Try.func59, Try.ntmps59
  go_wp2
  go_loopw [7, 8] (fun a b wr => ∃ (q : Nat) (B : Option Addr) (cB m : Nat), b = .int .i64 (behind + 1 + q) ∧ a = .slice B m cB ∧ m = (pickTo F p behind q).length ∧ q ≤ (cut - behind).toNat ∧ Owns wr w.heap.size 66 2 eSlot B cB (pickTo F p behind q) ∧ m ≤ q ∧ Below w.heap.size w wr) (fun _ b _ => (cut + 1 - intOf b).toNat)
  case atStart => exact ⟨0, none, 0, 0, by simp, rfl, rfl, by omega, owns_nil _ _ _ _ _, by omega, Below.refl _ _⟩
  case round =>
    obtain ⟨q, B, cB, m, rfl, rfl, hm, hq, hown, hmq, hb⟩ := hrel
    replace hm := Lib.hid hm
    have hlo := hown.lo
    have hu' := (hb.block bs (Array.getElem?_eq_some_iff.1 hu).1).trans hu
    have hcu' := blk_cells hu'
    have hM' := hM.keep hb hM.lt
    by_cases hlt : behind + 1 + q ≤ cut
    · obtain ⟨⟨x, y⟩, hs⟩ := hF _ (by omega) hlt
      have hkeyp : ∃ l, keyOf Try.prog 3 (vInt (behind + 1 + q)) = some l := key_int _ (WalkArith.wf_i64 (by omega))
      have hlook := hM'.look lawInt vInt_inj Try.underlying117 (zero66 _) false (behind + 1 + q) hkeyp
      rw [hs] at hlook
      simp only [vInt, vSlot] at hlook
      have hpk : pickTo F p behind (q + 1) = if p (x, y) = true then ins (pickTo F p behind q) (x, y) else pickTo F p behind q := by rw [pickTo, hs]
      have HF : ∃ pos, behind < pos ∧ pos ≤ cut ∧ F pos = some (x, y) := ⟨_, by omega, hlt, hs⟩
      replace HF := Lib.hid HF
      cases hp : p (x, y) with
      | false =>
        rw [hp, if_neg (by simp)] at hpk
        replace hpk := Lib.hid hpk
        go_wp2_with (go_at_call 68; refine (HC (x, y) _ ?_ HF.out).mono ?_; rotate_left; rintro e w2 ⟨rfl, hbw⟩; rw [hp])
        case refine_1 => exact hb.alloc hb.size _
        have hown2 := (hown.alloc (.cells #[.int .i64 x, .int .i64 y] 66)).keep hbw (fun k hk => by have := (hlo k hk).2; simp only [World.size_alloc]; omega)
        have hb2 := (hb.alloc hb.size (.cells #[.int .i64 x, .int .i64 y] 66)).trans (hbw.mono (by simp only [World.size_alloc]; have := hb.size; omega))
        refine ⟨⟨q + 1, B, cB, m, by rw [show ((q + 1 : Nat) : Int) = q + 1 by omega]; congr 1; omega, rfl, by rw [hpk.out]; exact hm.out, by omega, by rw [hpk.out]; exact hown2, by omega, hb2⟩, by simp [intOf]; omega⟩
      | true =>
        rw [hp, if_pos rfl] at hpk
        replace hpk := Lib.hid hpk
        go_wp2_with (go_at_call 68; refine (HC (x, y) _ ?_ HF.out).mono ?_; rotate_left; rintro e w2 ⟨rfl, hbw⟩; rw [hp])
        case refine_1 => exact hb.alloc hb.size _
        have hown2 := (hown.alloc (.cells #[.int .i64 x, .int .i64 y] 66)).keep hbw (fun k hk => by have := (hlo k hk).2; simp only [World.size_alloc]; omega)
        have hb2 := (hb.alloc hb.size (.cells #[.int .i64 x, .int .i64 y] 66)).trans (hbw.mono (by simp only [World.size_alloc]; have := hb.size; omega))
        have hcs : ∀ i, w2.cell? ⟨wr.heap.size, i, none⟩ = #[Value.int .i64 x, Value.int .i64 y][i]? := fun i => by
          rw [hbw.cell (p := ⟨wr.heap.size, i, none⟩) (by simp only [World.size_alloc]; omega)]
          exact World.cell?_alloc_at _ _ _ _ rfl
        have hs2 : wr.heap.size < w2.heap.size := by have := hbw.size; simp only [World.size_alloc] at this; omega
        have hR : Rises (pickTo F p behind q) := rises_pick F p behind q
        replace hpk := hpk.out
        have hm9 := hm.out
        clear hm
        generalize pickTo F p behind q = L at hpk hm9 hown2 hR
        replace hpk := Lib.hid hpk
        replace hR := Lib.hid hR
        have hm := Lib.hid hm9
        clear hm9 hown hbw hcu hu hcu' hu' hM hM' hlook hkeyp HC hF
        obtain ⟨wo, rfl⟩ : ∃ wo : World, wo = wr := ⟨_, rfl⟩
        go_loopw [10] (fun k wr => ∃ a : Nat, k = .int .i64 a ∧ a ≤ m ∧ (∀ j z, a ≤ j → L[j]? = some z → sltB (x, y) z = true) ∧ Below w2.heap.size w2 wr) (fun k _ => (intOf k).toNat)
        case atStart => exact ⟨m, rfl, by omega, fun j z hj hz => by have := (List.getElem?_eq_some_iff.1 hz).1; have := hm.out; omega, Below.refl _ _⟩
        case round =>
          obtain ⟨a, rfl, ha, hup, hbq⟩ := hrel
          have hcq : ∀ i, wr.cell? ⟨wo.heap.size, i, none⟩ = #[Value.int .i64 x, Value.int .i64 y][i]? := fun i => by
            rw [hbq.cell (p := ⟨wo.heap.size, i, none⟩) hs2]; exact hcs i
          have hownq := hown2.keep hbq (fun k hk => by have := (hlo k hk).2; omega)
          replace hup := Lib.hid hup
          by_cases ha0 : a = 0
          · have hlow : ∀ j z, j < a → L[j]? = some z → sltB (x, y) z = false := by intro j z hj; omega
            have hhigh : ∀ z, L[a]? = some z → sltB (x, y) z = true := fun z hz => hup.out a z (by omega) hz
            replace hlow := Lib.hid hlow
            replace hhigh := Lib.hid hhigh
            go_wp2
            go_quiet (fail)
            have hins := Lib.hid (ins_at (l := L) (s := (x, y)) (n := a) hlow.out hhigh.out (by have := hm.out; omega))
            have hownd : Owns (wr.drewN 0) w.heap.size 66 2 eSlot B cB L := hownq
            clear hlow hhigh
            go_wp2_with (at_builtin; refine wpList_append_rows _ rfl (.tmp 70) (.tmp 72) 36 rfl w.heap.size 66 2 16 _ Try.underlying36 info66 rfl (by decide) eSlot len_eSlot one_eSlot B cB L (some ⟨wr.heap.size, 0, none⟩) 1 (wr.heap.size + 1) m 1 [(x, y)] rfl rfl hm.out.symm rfl ?_ ?_ ?_ ?_ ?_ ?_)
            · exact hownq.alloc _
            · exact row_new _ _ _ _ _ _ rfl
            · omega
            · omega
            · simp only [World.size_alloc, size_drewN]; have := hb2.size; have := hbq.size; omega
            · intro A1 c1' w1 ho1 hg1 hk1
              have hbw := (below_drewN hbq nq).alloc (by have := hbq.size; exact this) (.cells #[.int .i64 x, .int .i64 y] 66)
              have hb1 := ((hb2.trans ((below_drewN hbq nq).mono hb2.size)).alloc (by simp only [size_drewN]; have := hb2.size; have := hbq.size; omega) (.cells #[.int .i64 x, .int .i64 y] 66)).grown hg1 (by simp only [World.size_alloc, size_drewN]; have := hb2.size; have := hbq.size; omega) (fun k hk => (hlo k hk).1)
              obtain ⟨g1, cc1, hv1, hgl1, hgh1⟩ := World.ownsRow.form ho1 (by simp)
              obtain ⟨rfl, rfl⟩ : A1 = some ⟨g1, 0, none⟩ ∧ c1' = cc1 := by injection hv1 with h1 _ h2; exact ⟨h1, h2⟩
              clear hv1
              have hgne : g1 ≠ wo.heap.size := by
                rcases hk1 with h | h
                · have := (hlo g1 h.symm).2; omega
                · simp only [blk, Option.map_some, World.size_alloc, size_drewN] at h; injection h with h; have := hbq.size; omega
              have hc1 : ∀ i, w1.cell? ⟨wo.heap.size, i, none⟩ = #[Value.int .i64 x, Value.int .i64 y][i]? := fun i => by
                rw [World.cell?_of_block (hg1.block wo.heap.size (by have := hbw.size; omega) (by intro h; have := (hlo _ h.symm).2; omega))]
                exact (hbw.cell (p := ⟨wo.heap.size, i, none⟩) hs2).trans (hcs i)
              have hs1 : wo.heap.size < w1.heap.size := by have := hbw.size; have := hg1.size; omega
              have hcap := ho1.len
              simp only [List.length_append, List.length_cons, List.length_nil] at hcap
              rw [← hm.out] at hcap
              have ⟨hcap1, hcap2⟩ := hcap
              go_wp2
              have HS1 := fun W => run_from W g1 (m + 1) c1' 1 1 rfl (by omega)
              have HS2 := fun W => run_from W g1 (m + 1) c1' 0 0 rfl (by omega)
              have e2 : IntKind.i64.wrap 1 = 1 := by decide
              go_still_tail 7, (by kernel_rfl)
              change wpList _ _ _ _ _ w1.drew
              have hL1 : (L ++ [(x, y)]).length = m + 1 := by rw [List.length_append, ← hm.out]; rfl
              obtain ⟨w5, hrun, ho5, hg5⟩ := run_copy_up (P := Try.prog) (w := w1.drew) 36 36 3 w.heap.size 66 2 Try.underlying36 size66 eSlot len_eSlot one_eSlot g1 c1' 0 m (L ++ [(x, y)]) (cutOff g1 c1' 1) (cutOff g1 c1' 0) m (c1' - 1) (m + 1) c1' (by omega) (by omega) hL1 (by omega) (fun h => cutOff_at (by omega)) (cutOff_at (by omega)) (show Owns w1.drew _ _ _ _ _ _ _ from ho1)
              have hput := put_at (l := L) (s := (x, y)) (n := 0) (by have := hm.out; omega)
              rw [← hm.out] at hput
              replace hput := Lib.hid hput
              have hL5 : ((L ++ [(x, y)]).take (0 + 1) ++ ((L ++ [(x, y)]).drop 0).take (m - 0)).length = m + 1 := by rw [List.length_append, List.length_take, List.length_take, List.length_drop, hL1]; omega
              generalize (L ++ [(x, y)]).take (0 + 1) ++ ((L ++ [(x, y)]).drop 0).take (m - 0) = L5 at ho5 hL5 hput
              obtain ⟨u0, hk0⟩ := own_cell ho5 (j := 0 * 2) (by omega)
              obtain ⟨u1, hk11⟩ := own_cell ho5 (j := 0 * 2 + 1) (by omega)
              have hk2 : (w5.setCell ⟨g1, 0 * 2, none⟩ (.int .i64 x)).cell? ⟨g1, 0 * 2 + 1, none⟩ = some u1 := by
                rw [World.cell?_setCell_other _ _ _ _ (by simp)]; exact hk11
              have hf5 := own_frozen ho5
              have hb5 := (show Below w.heap.size w w1.drew from hb1.drew).grown hg5 (by have := hb1.size; exact this) (fun k hk => by cases hk; exact hgl1)
              have hcw : ∀ i, w5.cell? ⟨wo.heap.size, i, none⟩ = #[Value.int .i64 x, Value.int .i64 y][i]? := fun i => by
                rw [World.cell?_of_block (hg5.block wo.heap.size hs1 (by intro h; injection h with h; exact hgne h.symm))]
                exact hc1 i
              clear ho1 hg1 hk1 hb1 hcap hownq hownd HS1 HS2 hc1
              clear hk11
              go_wp2
              refine ⟨⟨q + 1, some ⟨g1, 0, none⟩, c1', m + 1, by rw [show ((q + 1 : Nat) : Int) = q + 1 by omega]; congr 1; omega, rfl, by rw [hpk.out, ins_length, ← hm.out], by omega, ?_, by omega, ?_⟩, by simp [intOf]; omega⟩
              · rw [hpk.out, hins.out]
                try rw [ha0]
                rw [← hput.out]; exact ho5.set2 (by omega) (x, y)
              · exact (hb5.setCell hgl1 _).setCell hgl1 _
          · obtain ⟨g, o, x', y', hA9, hg, hx, c0, c1⟩ := (hownq.row len_eSlot).slot (show a - 1 < L.length by have := hm.out; omega)
            have hp1 : 0 < a := by omega
            have hi1 : a - 1 < m := by omega
            have hi2 : ((a - 1 : Nat) : Int) < (m : Int) := by omega
            have hi3 : (0 : Int) < (a : Int) := by omega
            have e1 : IntKind.i64.wrap ((a : Int) - 1) = ((a - 1 : Nat) : Int) := by rw [show (a : Int) - 1 = ((a - 1 : Nat) : Int) by omega]; exact IntWalk.i64_in _ (by omega)
            subst hA9
            by_cases t : sltB (x, y) (x', y') = true
            · have hup' : ∀ j z, a - 1 ≤ j → L[j]? = some z → sltB (x, y) z = true := fun j z hj hz => by
                by_cases hj' : j = a - 1
                · subst hj'; rw [hx.out] at hz; cases hz; exact t
                · exact hup.out j z (by omega) hz
              replace hup' := Lib.hid hup'
              simp only [sltB, decide_eq_true_eq] at t
              by_cases t1 : x < x'
              · clear t
                go_wp2
                go_quiet (fail)
                go_wp2
                clear e1
                go_roundw
                case rel => go_light; exact ⟨a - 1, by go_num, by omega, hup'.out, below_drewN hbq _⟩
                case measure => go_light; simp [intOf]; omega
              · obtain ⟨t2, t3⟩ : x = x' ∧ y < y' := by omega
                clear t
                subst t2
                go_wp2
                go_quiet (fail)
                go_wp2
                clear e1
                go_roundw
                case rel => go_light; exact ⟨a - 1, by go_num, by omega, hup'.out, below_drewN hbq _⟩
                case measure => go_light; simp [intOf]; omega
            · simp only [Bool.not_eq_true] at t
              have hlow : ∀ j z, j < a → L[j]? = some z → sltB (x, y) z = false := by
                have := rises_low hR.out (n := a - 1) (s := (x, y)) (fun z hz => by rw [hx.out] at hz; cases hz; exact t) (by have := hm.out; omega)
                rw [show a - 1 + 1 = a by omega] at this; exact this
              have hhigh : ∀ z, L[a]? = some z → sltB (x, y) z = true := fun z hz => hup.out a z (by omega) hz
              replace hlow := Lib.hid hlow
              replace hhigh := Lib.hid hhigh
              simp only [sltB, decide_eq_false_iff_not] at t
              have t1 : ¬ x < x' := by omega
              by_cases t2 : x = x'
              · subst t2
                have t3 : ¬ y < y' := by omega
                clear t
                go_wp2
                go_quiet (fail)
                clear e1 hi1 hi2 hi3 hp1
                have hins := Lib.hid (ins_at (l := L) (s := (x, y)) (n := a) hlow.out hhigh.out (by have := hm.out; omega))
                have hownd : Owns (wr.drewN 0) w.heap.size 66 2 eSlot (some ⟨g, o, none⟩) cB L := hownq
                clear hlow hhigh
                go_wp2_with (at_builtin; refine wpList_append_rows _ rfl (.tmp 70) (.tmp 72) 36 rfl w.heap.size 66 2 16 _ Try.underlying36 info66 rfl (by decide) eSlot len_eSlot one_eSlot (some ⟨g, o, none⟩) cB L (some ⟨wr.heap.size, 0, none⟩) 1 (wr.heap.size + 1) m 1 [(x, y)] rfl rfl hm.out.symm rfl ?_ ?_ ?_ ?_ ?_ ?_)
                · exact hownq.alloc _
                · exact row_new _ _ _ _ _ _ rfl
                · omega
                · omega
                · simp only [World.size_alloc, size_drewN]; have := hb2.size; have := hbq.size; omega
                · intro A1 c1' w1 ho1 hg1 hk1
                  have hbw := (below_drewN hbq nq).alloc (by have := hbq.size; exact this) (.cells #[.int .i64 x, .int .i64 y] 66)
                  have hb1 := ((hb2.trans ((below_drewN hbq nq).mono hb2.size)).alloc (by simp only [size_drewN]; have := hb2.size; have := hbq.size; omega) (.cells #[.int .i64 x, .int .i64 y] 66)).grown hg1 (by simp only [World.size_alloc, size_drewN]; have := hb2.size; have := hbq.size; omega) (fun k hk => (hlo k hk).1)
                  obtain ⟨g1, cc1, hv1, hgl1, hgh1⟩ := World.ownsRow.form ho1 (by simp)
                  obtain ⟨rfl, rfl⟩ : A1 = some ⟨g1, 0, none⟩ ∧ c1' = cc1 := by injection hv1 with h1 _ h2; exact ⟨h1, h2⟩
                  clear hv1
                  have hgne : g1 ≠ wo.heap.size := by
                    rcases hk1 with h | h
                    · have := (hlo g1 h.symm).2; omega
                    · simp only [blk, Option.map_some, World.size_alloc, size_drewN] at h; injection h with h; have := hbq.size; omega
                  have hc1 : ∀ i, w1.cell? ⟨wo.heap.size, i, none⟩ = #[Value.int .i64 x, Value.int .i64 y][i]? := fun i => by
                    rw [World.cell?_of_block (hg1.block wo.heap.size (by have := hbw.size; omega) (by intro h; have := (hlo _ h.symm).2; omega))]
                    exact (hbw.cell (p := ⟨wo.heap.size, i, none⟩) hs2).trans (hcs i)
                  have hs1 : wo.heap.size < w1.heap.size := by have := hbw.size; have := hg1.size; omega
                  have hcap := ho1.len
                  simp only [List.length_append, List.length_cons, List.length_nil] at hcap
                  rw [← hm.out] at hcap
                  have ⟨hcap1, hcap2⟩ := hcap
                  go_wp2
                  have HS1 := fun W => run_from W g1 (m + 1) c1' (a + 1) (↑a + 1) (by omega) (by omega)
                  have HS2 := fun W => run_from W g1 (m + 1) c1' a ↑a rfl (by omega)
                  have e2 : IntKind.i64.wrap ((a : Int) + 1) = (a : Int) + 1 := IntWalk.i64_in _ (by omega)
                  go_still_tail 7, (by kernel_rfl)
                  change wpList _ _ _ _ _ w1.drew
                  have hL1 : (L ++ [(x, y)]).length = m + 1 := by rw [List.length_append, ← hm.out]; rfl
                  obtain ⟨w5, hrun, ho5, hg5⟩ := run_copy_up (P := Try.prog) (w := w1.drew) 36 36 3 w.heap.size 66 2 Try.underlying36 size66 eSlot len_eSlot one_eSlot g1 c1' a m (L ++ [(x, y)]) (cutOff g1 c1' (a + 1)) (cutOff g1 c1' a) (m - a) (c1' - (a + 1)) (m + 1 - a) (c1' - a) (by omega) (by omega) hL1 (by omega) (fun h => cutOff_at (by omega)) (cutOff_at (by omega)) (show Owns w1.drew _ _ _ _ _ _ _ from ho1)
                  have hput := put_at (l := L) (s := (x, y)) (n := a) (by have := hm.out; omega)
                  rw [← hm.out] at hput
                  replace hput := Lib.hid hput
                  have hL5 : ((L ++ [(x, y)]).take (a + 1) ++ ((L ++ [(x, y)]).drop a).take (m - a)).length = m + 1 := by rw [List.length_append, List.length_take, List.length_take, List.length_drop, hL1]; omega
                  generalize (L ++ [(x, y)]).take (a + 1) ++ ((L ++ [(x, y)]).drop a).take (m - a) = L5 at ho5 hL5 hput
                  obtain ⟨u0, hk0⟩ := own_cell ho5 (j := a * 2) (by omega)
                  obtain ⟨u1, hk11⟩ := own_cell ho5 (j := a * 2 + 1) (by omega)
                  have hk2 : (w5.setCell ⟨g1, a * 2, none⟩ (.int .i64 x)).cell? ⟨g1, a * 2 + 1, none⟩ = some u1 := by
                    rw [World.cell?_setCell_other _ _ _ _ (by simp)]; exact hk11
                  have hf5 := own_frozen ho5
                  have hb5 := (show Below w.heap.size w w1.drew from hb1.drew).grown hg5 (by have := hb1.size; exact this) (fun k hk => by cases hk; exact hgl1)
                  have hcw : ∀ i, w5.cell? ⟨wo.heap.size, i, none⟩ = #[Value.int .i64 x, Value.int .i64 y][i]? := fun i => by
                    rw [World.cell?_of_block (hg5.block wo.heap.size hs1 (by intro h; injection h with h; exact hgne h.symm))]
                    exact hc1 i
                  clear ho1 hg1 hk1 hb1 hcap hownq hownd HS1 HS2 hc1
                  clear hk11
                  go_wp2
                  refine ⟨⟨q + 1, some ⟨g1, 0, none⟩, c1', m + 1, by rw [show ((q + 1 : Nat) : Int) = q + 1 by omega]; congr 1; omega, rfl, by rw [hpk.out, ins_length, ← hm.out], by omega, ?_, by omega, ?_⟩, by simp [intOf]; omega⟩
                  · rw [hpk.out, hins.out]
                    try rw [ha0]
                    rw [← hput.out]; exact ho5.set2 (by omega) (x, y)
                  · exact (hb5.setCell hgl1 _).setCell hgl1 _
              · clear t
                go_wp2
                go_quiet (fail)
                clear e1 hi1 hi2 hi3 hp1
                have hins := Lib.hid (ins_at (l := L) (s := (x, y)) (n := a) hlow.out hhigh.out (by have := hm.out; omega))
                have hownd : Owns (wr.drewN 0) w.heap.size 66 2 eSlot (some ⟨g, o, none⟩) cB L := hownq
                clear hlow hhigh
                go_wp2_with (at_builtin; refine wpList_append_rows _ rfl (.tmp 70) (.tmp 72) 36 rfl w.heap.size 66 2 16 _ Try.underlying36 info66 rfl (by decide) eSlot len_eSlot one_eSlot (some ⟨g, o, none⟩) cB L (some ⟨wr.heap.size, 0, none⟩) 1 (wr.heap.size + 1) m 1 [(x, y)] rfl rfl hm.out.symm rfl ?_ ?_ ?_ ?_ ?_ ?_)
                · exact hownq.alloc _
                · exact row_new _ _ _ _ _ _ rfl
                · omega
                · omega
                · simp only [World.size_alloc, size_drewN]; have := hb2.size; have := hbq.size; omega
                · intro A1 c1' w1 ho1 hg1 hk1
                  have hbw := (below_drewN hbq nq).alloc (by have := hbq.size; exact this) (.cells #[.int .i64 x, .int .i64 y] 66)
                  have hb1 := ((hb2.trans ((below_drewN hbq nq).mono hb2.size)).alloc (by simp only [size_drewN]; have := hb2.size; have := hbq.size; omega) (.cells #[.int .i64 x, .int .i64 y] 66)).grown hg1 (by simp only [World.size_alloc, size_drewN]; have := hb2.size; have := hbq.size; omega) (fun k hk => (hlo k hk).1)
                  obtain ⟨g1, cc1, hv1, hgl1, hgh1⟩ := World.ownsRow.form ho1 (by simp)
                  obtain ⟨rfl, rfl⟩ : A1 = some ⟨g1, 0, none⟩ ∧ c1' = cc1 := by injection hv1 with h1 _ h2; exact ⟨h1, h2⟩
                  clear hv1
                  have hgne : g1 ≠ wo.heap.size := by
                    rcases hk1 with h | h
                    · have := (hlo g1 h.symm).2; omega
                    · simp only [blk, Option.map_some, World.size_alloc, size_drewN] at h; injection h with h; have := hbq.size; omega
                  have hc1 : ∀ i, w1.cell? ⟨wo.heap.size, i, none⟩ = #[Value.int .i64 x, Value.int .i64 y][i]? := fun i => by
                    rw [World.cell?_of_block (hg1.block wo.heap.size (by have := hbw.size; omega) (by intro h; have := (hlo _ h.symm).2; omega))]
                    exact (hbw.cell (p := ⟨wo.heap.size, i, none⟩) hs2).trans (hcs i)
                  have hs1 : wo.heap.size < w1.heap.size := by have := hbw.size; have := hg1.size; omega
                  have hcap := ho1.len
                  simp only [List.length_append, List.length_cons, List.length_nil] at hcap
                  rw [← hm.out] at hcap
                  have ⟨hcap1, hcap2⟩ := hcap
                  go_wp2
                  have HS1 := fun W => run_from W g1 (m + 1) c1' (a + 1) (↑a + 1) (by omega) (by omega)
                  have HS2 := fun W => run_from W g1 (m + 1) c1' a ↑a rfl (by omega)
                  have e2 : IntKind.i64.wrap ((a : Int) + 1) = (a : Int) + 1 := IntWalk.i64_in _ (by omega)
                  go_still_tail 7, (by kernel_rfl)
                  change wpList _ _ _ _ _ w1.drew
                  have hL1 : (L ++ [(x, y)]).length = m + 1 := by rw [List.length_append, ← hm.out]; rfl
                  obtain ⟨w5, hrun, ho5, hg5⟩ := run_copy_up (P := Try.prog) (w := w1.drew) 36 36 3 w.heap.size 66 2 Try.underlying36 size66 eSlot len_eSlot one_eSlot g1 c1' a m (L ++ [(x, y)]) (cutOff g1 c1' (a + 1)) (cutOff g1 c1' a) (m - a) (c1' - (a + 1)) (m + 1 - a) (c1' - a) (by omega) (by omega) hL1 (by omega) (fun h => cutOff_at (by omega)) (cutOff_at (by omega)) (show Owns w1.drew _ _ _ _ _ _ _ from ho1)
                  have hput := put_at (l := L) (s := (x, y)) (n := a) (by have := hm.out; omega)
                  rw [← hm.out] at hput
                  replace hput := Lib.hid hput
                  have hL5 : ((L ++ [(x, y)]).take (a + 1) ++ ((L ++ [(x, y)]).drop a).take (m - a)).length = m + 1 := by rw [List.length_append, List.length_take, List.length_take, List.length_drop, hL1]; omega
                  generalize (L ++ [(x, y)]).take (a + 1) ++ ((L ++ [(x, y)]).drop a).take (m - a) = L5 at ho5 hL5 hput
                  obtain ⟨u0, hk0⟩ := own_cell ho5 (j := a * 2) (by omega)
                  obtain ⟨u1, hk11⟩ := own_cell ho5 (j := a * 2 + 1) (by omega)
                  have hk2 : (w5.setCell ⟨g1, a * 2, none⟩ (.int .i64 x)).cell? ⟨g1, a * 2 + 1, none⟩ = some u1 := by
                    rw [World.cell?_setCell_other _ _ _ _ (by simp)]; exact hk11
                  have hf5 := own_frozen ho5
                  have hb5 := (show Below w.heap.size w w1.drew from hb1.drew).grown hg5 (by have := hb1.size; exact this) (fun k hk => by cases hk; exact hgl1)
                  have hcw : ∀ i, w5.cell? ⟨wo.heap.size, i, none⟩ = #[Value.int .i64 x, Value.int .i64 y][i]? := fun i => by
                    rw [World.cell?_of_block (hg5.block wo.heap.size hs1 (by intro h; injection h with h; exact hgne h.symm))]
                    exact hc1 i
                  clear ho1 hg1 hk1 hb1 hcap hownq hownd HS1 HS2 hc1
                  clear hk11
                  go_wp2
                  refine ⟨⟨q + 1, some ⟨g1, 0, none⟩, c1', m + 1, by rw [show ((q + 1 : Nat) : Int) = q + 1 by omega]; congr 1; omega, rfl, by rw [hpk.out, ins_length, ← hm.out], by omega, ?_, by omega, ?_⟩, by simp [intOf]; omega⟩
                  · rw [hpk.out, hins.out]
                    try rw [ha0]
                    rw [← hput.out]; exact ho5.set2 (by omega) (x, y)
                  · exact (hb5.setCell hgl1 _).setCell hgl1 _
    · go_wp2
      go_ret
      go_light
      have hqe : q = (cut - behind).toNat := by omega
      subst hqe
      have hm' := hm.out
      subst hm'
      exact ⟨⟨B, cB, rfl, hown⟩, hb⟩
end Go.Proofs.Ytcffhfcjfjfokaa
/- What Duty answers. -/
namespace Go.Proofs.Ytcffhfcjfjfokaa
open Go.RowKit
theorem PlArr.ok {who : List Int} {arr : List Int} (h : PlArr who who.length arr) : WhoOk who := by
  refine ⟨fun x hx => ?_, nodup_of_apart (k := who.length) (fun i j x y hij hj hx hy e => ?_) (Nat.le_refl _)⟩
  · obtain ⟨i, hi, rfl⟩ := List.getElem_of_mem hx
    obtain ⟨a, b, _⟩ := h.put i _ hi (List.getElem?_eq_getElem hi)
    exact ⟨a, b⟩
  · subst e
    have h1 := (h.put i x (by omega) hx).2.2
    have h2 := (h.put j x hj hy).2.2
    rw [h1] at h2
    simp at h2; omega
def DutyHead (self q : Int) (who : List Int) (fs : List Fl) : Prop := who.length = fs.length ∧ self ≠ q ∧ WhoOk who ∧ self ∈ who ∧ q ∈ who
def DutyIs (self q : Int) (who : List Int) (fs : List Fl) (l : List (Int × Int)) (n : Int) : Prop :=
  (¬ DutyHead self q who fs ∧ n = 1 ∧ l = []) ∨
  (DutyHead self q who fs ∧ ∃ m, m ≠ 0 ∧ Listed fs m ∧ n = m ∧ l = []) ∨
  (DutyHead self q who fs ∧ Listed fs 0 ∧ Fit fs ∧ n = 0 ∧ ∃ (cut : Int) (F : Int → Option (Int × Int)) (iy : Nat) (g : Fl), IsCut fs cut ∧ (∀ pos s, F pos = some s ↔ Known fs pos s) ∧ who[iy]? = some q ∧ fs[iy]? = some g ∧
      l = pickTo F (fun s => !havB g.have_ s.1 s.2 && firstB who (hadL fs s.1 s.2) self) (baseOf fs) (cut - baseOf fs).toNat)
def DutyPost (self q : Int) (who : List Int) (fs : List Fl) (w : World) (x : Ending) (w' : World) : Prop :=
  (∃ B c l n, x = .returned (.tuple #[.slice B l.length c, .int .i64 n]) ∧ DutyIs self q who fs l n ∧ Owns w' w.heap.size 66 2 eSlot B c l) ∧ Below w.heap.size w w'
theorem duty_none {self q : Int} {who : List Int} {fs : List Fl} {w w' : World} {n : Int} (h : DutyIs self q who fs [] n) (hb : Below w.heap.size w w') : DutyPost self q who fs w (.returned (.tuple #[.slice none 0 0, .int .i64 n])) w' :=
  ⟨⟨none, 0, [], n, rfl, h, owns_nil _ _ _ _ _⟩, hb⟩
theorem duty_bad {self q : Int} {who : List Int} {fs : List Fl} (h : ¬ DutyHead self q who fs) : DutyIs self q who fs [] 1 := .inl ⟨h, rfl, rfl⟩
abbrev dutyW (w : World) (self q : Int) (A : Option Addr) (n cA : Nat) : World := box3 w #[.int .i64 self] 3 #[.int .i64 q] 3 #[.slice A n cA] 22
theorem dutyW_facts {w wr : World} {self q : Int} {A : Option Addr} {n cA : Nat} (hb : Below (w.heap.size + 3) (dutyW w self q A n cA) wr) :
    Below w.heap.size w wr ∧ wr.cell? ⟨w.heap.size, 0, none⟩ = some (.int .i64 self) ∧ wr.cell? ⟨w.heap.size + 1, 0, none⟩ = some (.int .i64 q) ∧ wr.cell? ⟨w.heap.size + 2, 0, none⟩ = some (.slice A n cA) ∧ w.heap.size + 3 ≤ wr.heap.size := by
  have hs := hb.size
  simp at hs
  refine ⟨(below_box3 w _ _ _ _ _ _).trans (hb.mono (by omega)), ?_, ?_, ?_, hs⟩
  · rw [hb.cell (p := ⟨w.heap.size, 0, none⟩) (by show w.heap.size < _; omega), World.cell?_alloc_past _ _ _ (by simp; omega), World.cell?_alloc_past _ _ _ (by simp)]
    exact World.cell?_alloc_at _ _ _ _ rfl
  · rw [hb.cell (p := ⟨w.heap.size + 1, 0, none⟩) (by show w.heap.size + 1 < _; omega), World.cell?_alloc_past _ _ _ (by simp)]
    exact World.cell?_alloc_at _ _ _ _ (by simp)
  · rw [hb.cell (p := ⟨w.heap.size + 2, 0, none⟩) (by show w.heap.size + 2 < _; omega)]
    exact World.cell?_alloc_at _ _ _ _ (by simp)
abbrev zero16 : Array Value := #[.int .i64 0, .int .i64 0, .int .i64 0, .int .i64 0, .int .i64 0, .int .i64 0, .int .i64 0, .int .i64 0, .int .i64 0, .int .i64 0, .int .i64 0, .int .i64 0, .int .i64 0, .int .i64 0, .int .i64 0, .int .i64 0]
/-- The table of places lies there, and may be written. -/
def ArrAt (w : World) (b : Nat) (arr : List Int) : Prop := (∀ j v, arr[j]? = some v → w.cell? ⟨b, j, none⟩ = some (.int .i64 v)) ∧ ∀ j, w.frozen? ⟨b, j, none⟩ = false
theorem arrAt_new (w : World) : ArrAt (w.alloc (.cells zero16 131)) w.heap.size (List.replicate 16 0) := by
  refine ⟨fun j v hv => ?_, fun j => World.frozen?_alloc_at _ _ _ _ rfl⟩
  rw [World.cell?_alloc_at _ _ _ _ rfl]
  obtain ⟨hj, e⟩ := List.getElem?_eq_some_iff.1 hv
  rw [List.getElem_replicate] at e
  subst e
  rw [List.length_replicate] at hj
  match j, hj with
  | 0, _ | 1, _ | 2, _ | 3, _ | 4, _ | 5, _ | 6, _ | 7, _ | 8, _ | 9, _ | 10, _ | 11, _ | 12, _ | 13, _ | 14, _ | 15, _ => rfl
theorem ArrAt.set {w : World} {b : Nat} {arr : List Int} (h : ArrAt w b arr) {p : Nat} (hp : p < arr.length) (v : Int) : ArrAt (w.setCell ⟨b, p, none⟩ (.int .i64 v)) b (arr.set p v) := by
  obtain ⟨u, hu⟩ : ∃ u, arr[p]? = some u := ⟨_, List.getElem?_eq_getElem hp⟩
  refine ⟨fun j x hx => ?_, fun j => by rw [World.frozen?_setCell]; exact h.2 j⟩
  by_cases e : j = p
  · subst e
    rw [List.getElem?_set_self hp] at hx; cases hx
    exact World.cell?_setCell_same _ _ _ (by rw [h.1 _ _ hu])
  · rw [List.getElem?_set_ne (fun e2 => e e2.symm)] at hx
    rw [World.cell?_setCell_other _ _ _ _ (by intro e2; injection e2 with _ e3; exact e e3.symm)]
    exact h.1 j x hx
theorem ArrAt.range {w : World} {b : Nat} {arr : List Int} (h : ArrAt w b arr) : w.rangeAt b 0 (arrC arr) := fun j v hv => by
  unfold arrC at hv
  rw [List.getElem?_map] at hv
  obtain ⟨x, hx, rfl⟩ := Option.map_eq_some_iff.1 hv
  rw [Nat.zero_add]; exact h.1 j x hx
theorem ArrAt.below {w w' : World} {b B : Nat} {arr : List Int} (h : ArrAt w b arr) (hb : Below B w w') (hB : b < B) : ArrAt w' b arr :=
  ⟨fun j v hv => (hb.cell (p := ⟨b, j, none⟩) hB).trans (h.1 j v hv), fun j => (hb.frozen (p := ⟨b, j, none⟩) hB).trans (h.2 j)⟩
set_option maxRecDepth 100000 in
set_option maxHeartbeats 4000000 in
theorem duty_any (self q : Int) (C A : Option Addr) (cC cA N : Nat) (who : List Int) (fs : List Fl) (w : World) (hN : N ≤ w.heap.size) (hC : RowAt w N 1 eInt C who) (hA : Fls w N A fs) (hl1 : who.length ≤ 9223372036854775807) (hl : fs.length ≤ 9223372036854775807) :
    Calls Try.prog 35 #[.int .i64 self, .int .i64 q, .slice C who.length cC, .slice A fs.length cA] w (DutyPost self q who fs w) := by
  have hbz : ∀ x, Below w.heap.size w ((dutyW w self x A fs.length cA).alloc (.cells zero16 131)) := fun x => (below_box3 w _ _ _ _ _ _).alloc (by simp; omega) _
  by_cases h1 : who.length = fs.length
  · by_cases h2 : self = q
    · have HL := Lib.hid (duty_bad (self := self) (q := q) (who := who) (fs := fs) (fun h => h.2.1 h2))
      rw [← h1]
      subst h2
      go_enter Try.func35, Try.ntmps35
      go_wp2
      go_ret2
      go_light
      exact duty_none HL.out (by first | exact hbz _ | (rw [h1]; exact hbz _))
    · rw [← h1]
      have hbad : (WhoOk who → self ∈ who → q ∈ who → False) → DutyIs self q who fs [] 1 := fun h => duty_bad fun k => h k.2.2.1 k.2.2.2.1 k.2.2.2.2
      have hgood : WhoOk who → self ∈ who → q ∈ who → DutyHead self q who fs := fun a b c => ⟨h1, h2, a, b, c⟩
      replace hbad := Lib.hid hbad
      replace hgood := Lib.hid hgood
      have hsq : (self == q) = false := by simpa using h2
      clear hbz
      obtain ⟨W0, hW0⟩ : ∃ W0, W0 = (dutyW w self q A who.length cA).alloc (.cells zero16 131) := ⟨_, rfl⟩
      have hs0 : W0.heap.size = w.heap.size + 4 := by rw [hW0]; simp
      have hB0 : Below (w.heap.size + 3) (dutyW w self q A who.length cA) W0 := by rw [hW0]; exact (Below.refl _ _).alloc (by simp) _
      have hr0 : ArrAt W0 (w.heap.size + 3) (List.replicate 16 0) := by
        have := arrAt_new (dutyW w self q A who.length cA)
        rw [← hW0] at this; simpa using this
      replace hW0 := Lib.hid hW0
      replace h1 := Lib.hid h1
      go_enter Try.func35, Try.ntmps35
      go_wp2
      go_loopw [30] (fun k wr => ∃ (i : Nat) (arr : List Int), k = .int .i64 i ∧ i ≤ who.length ∧ PlArr who i arr ∧ ArrAt wr (w.heap.size + 3) arr ∧ Below (w.heap.size + 3) (dutyW w self q A who.length cA) wr ∧ wr.heap.size = w.heap.size + 4) (fun k _ => who.length - (intOf k).toNat)
      case atStart => exact ⟨0, _, rfl, by omega, plArr_zero who, by rw [← hW0.out]; exact hr0, by rw [← hW0.out]; exact hB0, by rw [← hW0.out]; exact hs0⟩
      case round =>
        obtain ⟨i, arr, rfl, hi, hP, hr, hb, hsz⟩ := hrel
        obtain ⟨hb0, e0, e1, e2, -⟩ := dutyW_facts hb
        have hlen := hP.len
        replace hP := Lib.hid hP
        by_cases hlt : i < who.length
        · obtain ⟨g, o, x, rfl, hg, hx, hcx⟩ := (hC.below hb0 hN).int hlt
          by_cases hx0 : x < 0
          · have HL := Lib.hid (hbad.out fun h _ _ => bad_in hx.out (.inl hx0) h)
            go_wp2
            go_ret2
            go_light
            exact duty_none HL.out hb0
          · by_cases hx1 : 16 ≤ x
            · have HL := Lib.hid (hbad.out fun h _ _ => bad_in hx.out (.inr hx1) h)
              go_wp2
              go_ret2
              go_light
              exact duty_none HL.out hb0
            · obtain ⟨p, rfl⟩ : ∃ p : Nat, x = p := ⟨x.toNat, by omega⟩
              have hp16 : (p : Int) < 16 := by omega
              have hp : p < arr.length := by omega
              obtain ⟨v, hv⟩ : ∃ v, arr[p]? = some v := ⟨_, List.getElem?_eq_getElem hp⟩
              have hcv := hr.1 p v hv
              have hfv := hr.2 p
              by_cases hv0 : v = 0
              · subst hv0
                have hP' := Lib.hid (plArr_succ hP.out hx.out (by omega) hv)
                have hr' := Lib.hid (hr.set hp ((i : Int) + 1))
                replace hr := Lib.hid hr
                replace hv := Lib.hid hv
                go_wp2
                go_roundw
                case rel => go_light; exact ⟨i + 1, _, by go_num, by omega, hP'.out, hr'.out, hb.setCell (by show w.heap.size + 3 ≤ w.heap.size + 3; omega) _, by rw [World.size_setCell]; exact hsz⟩
                case measure => go_light; simp [intOf]; omega
              · have HL := Lib.hid (hbad.out fun h _ _ => hP.out.twice hx.out hv hv0 h)
                replace hr := Lib.hid hr
                replace hv := Lib.hid hv
                go_wp2
                go_ret2
                go_light
                exact duty_none HL.out hb0
        · obtain rfl : i = who.length := by omega
          have hok := hP.out.ok
          replace hr := Lib.hid hr
          go_wp2
          obtain ⟨W1, hW1⟩ : ∃ W1 : World, W1 = wr := ⟨_, rfl⟩
          subst hW1
          have hb20 := (dutyW_facts (hb.alloc (by omega) (.cells #[.int .i64 self, .int .i64 q] 3))).1
          go_loopw [56] (fun k wr => ∃ j : Nat, k = .int .i64 j ∧ j ≤ 2 ∧ (1 ≤ j → self ∈ who) ∧ (2 ≤ j → q ∈ who) ∧ wr = W1.alloc (.cells #[.int .i64 self, .int .i64 q] 3)) (fun k _ => 2 - (intOf k).toNat)
          case atStart => exact ⟨0, rfl, by omega, by omega, by omega, rfl⟩
          case round =>
            obtain ⟨j, rfl, hj, hin0, hin1, rfl⟩ := hrel
            replace hin0 := Lib.hid hin0
            replace hin1 := Lib.hid hin1
            by_cases hj0 : j = 0
            · subst hj0
              by_cases hx0 : self < 0
              · have HL := Lib.hid (hbad.out fun h h1 h2 => by have := h.1 _ h1; unfold nodeIn at this; omega)
                go_wp2
                go_ret2
                go_light
                exact duty_none HL.out hb20
              · by_cases hx1 : 16 ≤ self
                · have HL := Lib.hid (hbad.out fun h h1 h2 => by have := h.1 _ h1; unfold nodeIn at this; omega)
                  go_wp2
                  go_ret2
                  go_light
                  exact duty_none HL.out hb20
                · obtain ⟨p, rfl⟩ : ∃ p : Nat, self = p := ⟨self.toNat, by omega⟩
                  have hp16 : (p : Int) < 16 := by omega
                  obtain ⟨v, hv⟩ : ∃ v, arr[p]? = some v := ⟨_, List.getElem?_eq_getElem (by omega)⟩
                  have hcv := hr.out.1 p v hv
                  by_cases hv0 : v = 0
                  · have HL := Lib.hid (hbad.out fun _ h1 h2 => hP.out.gone (p := p) (by rw [hv, hv0]) h1)
                    subst hv0
                    replace hv := Lib.hid hv
                    go_wp2
                    go_ret2
                    go_light
                    exact duty_none HL.out hb20
                  · have hin : (p : Int) ∈ who := by
                      obtain ⟨i, _, hwi, _⟩ := hP.out.here hv hv0
                      exact List.mem_of_getElem? hwi
                    replace hin := Lib.hid hin
                    replace hv := Lib.hid hv
                    go_wp2
                    go_roundw
                    case rel => exact ⟨0 + 1, by go_num, by omega, fun h => hin.out, fun h => by omega, trivial⟩
                    case measure => go_light; simp [intOf]
            · by_cases hj1 : j = 1
              · subst hj1
                replace hin0 := Lib.hid (hin0.out (by omega))
                by_cases hx0 : q < 0
                · have HL := Lib.hid (hbad.out fun h h1 h2 => by have := h.1 _ h2; unfold nodeIn at this; omega)
                  go_wp2
                  go_ret2
                  go_light
                  exact duty_none HL.out hb20
                · by_cases hx1 : 16 ≤ q
                  · have HL := Lib.hid (hbad.out fun h h1 h2 => by have := h.1 _ h2; unfold nodeIn at this; omega)
                    go_wp2
                    go_ret2
                    go_light
                    exact duty_none HL.out hb20
                  · obtain ⟨p, rfl⟩ : ∃ p : Nat, q = p := ⟨q.toNat, by omega⟩
                    have hp16 : (p : Int) < 16 := by omega
                    obtain ⟨v, hv⟩ : ∃ v, arr[p]? = some v := ⟨_, List.getElem?_eq_getElem (by omega)⟩
                    have hcv := hr.out.1 p v hv
                    by_cases hv0 : v = 0
                    · have HL := Lib.hid (hbad.out fun _ h1 h2 => hP.out.gone (p := p) (by rw [hv, hv0]) h2)
                      subst hv0
                      replace hv := Lib.hid hv
                      go_wp2
                      go_ret2
                      go_light
                      exact duty_none HL.out hb20
                    · have hin : (p : Int) ∈ who := by
                        obtain ⟨i, _, hwi, _⟩ := hP.out.here hv hv0
                        exact List.mem_of_getElem? hwi
                      replace hin := Lib.hid hin
                      replace hv := Lib.hid hv
                      go_wp2
                      go_roundw
                      case rel => exact ⟨1 + 1, by go_num, by omega, fun h => hin0.out, fun h => hin.out, trivial⟩
                      case measure => go_light; simp [intOf]
              · obtain rfl : j = 2 := by omega
                have hH := Lib.hid (hgood.out hok (hin0.out (by omega)) (hin1.out (by omega)))
                have hb2 : Below (w.heap.size + 3) (dutyW w self q A who.length cA) (W1.alloc (.cells #[.int .i64 self, .int .i64 q] 3)) := hb.alloc (by omega) _
                have hr2 : ArrAt (W1.alloc (.cells #[.int .i64 self, .int .i64 q] 3)) (w.heap.size + 3) arr := hr.out.below ((Below.refl (w.heap.size + 4) W1).alloc (by omega) _) (by omega)
                obtain ⟨W2, hW2⟩ : ∃ W2, W2 = W1.alloc (.cells #[.int .i64 self, .int .i64 q] 3) := ⟨_, rfl⟩
                rw [← hW2] at hb2 hr2
                have hs2 : W2.heap.size = w.heap.size + 5 := by rw [hW2]; simp; omega
                obtain ⟨hbw2, e0', e1', e2', -⟩ := dutyW_facts hb2
                have H52 := list_any A none cA 0 N fs [] W2 (by omega) (hA.below hbw2 hN) (fun h => absurd h (by simp)) hl (by simp)
                rw [← h1.out] at H52
                replace H52 := Lib.hid H52
                replace hW2 := Lib.hid hW2
                replace hr2 := Lib.hid hr2
                clear hr hb20 hB0 hr0 hs0
                go_wp2_with (go_at_call 52; change Calls Try.prog 52 _ (W1.alloc (.cells #[.int .i64 self, .int .i64 q] 3)) _; rw [← hW2.out]; refine H52.out.mono ?_; intro e w' hp; obtain ⟨hbw, hp⟩ := list_cases hp; rw [List.append_nil] at hp; rcases hp with ⟨n, rfl, hn0, hL⟩ | ⟨bs, bu, cut, F, m, rfl, hL, hfit, hcut, hbs, hbu, hub, hM, hF⟩; all_goals try (have hcc0 : w'.cell? ⟨bs, 0, none⟩ = some (.int .i64 (baseOf fs)) := (blk_cells hub 0); have hbsl : bs < w'.heap.size := (Array.getElem?_eq_some_iff.1 hub).1))
                · go_ret2
                  go_light
                  exact duty_none (.inr (.inl ⟨hH.out, n, hn0, more_nil hL, rfl, rfl⟩)) (hbw2.trans (hbw.mono (by omega)))
                · obtain ⟨hWho, hselfIn, hqIn⟩ := (⟨hH.out.2.2.1, hH.out.2.2.2.1, hH.out.2.2.2.2⟩ : WhoOk who ∧ self ∈ who ∧ q ∈ who)
                  have hself0 : 0 ≤ self := (hWho.1 self hselfIn).1
                  have hq0 := (hWho.1 q hqIn).1
                  have hq1 := (hWho.1 q hqIn).2
                  obtain ⟨iy, hiyl, hiy⟩ := List.getElem_of_mem hqIn
                  have hwi : who[iy]? = some q := by rw [List.getElem?_eq_getElem hiyl, hiy]
                  have hfl : iy < fs.length := by have := h1.out; omega
                  obtain ⟨f, hf⟩ : ∃ f, fs[iy]? = some f := ⟨_, List.getElem?_eq_getElem hfl⟩
                  have hput := (hP.out.put iy q hiyl hwi).2.2
                  have hcb := cut_bound hfit (n := (cut - baseOf fs).toNat) (fun p h1 h2 => hcut.all p h1 (by have := hcut.low; omega))
                  have hlow := hcut.low
                  have hbn := base_nonneg fs
                  have hbl := base_le hfit.sound
                  obtain ⟨W6, hW6⟩ : ∃ W6, W6 = w'.alloc (.cells #[.func (.func 67) #[] #[.pointer (some ⟨w.heap.size + 3, 0, none⟩), .pointer (some ⟨w.heap.size + 2, 0, none⟩)]] 132) := ⟨_, rfl⟩
                  have hs6 : W6.heap.size = w'.heap.size + 1 := by rw [hW6]; simp
                  have hb6 : Below w'.heap.size w' W6 := by rw [hW6]; exact (Below.refl _ _).alloc (Nat.le_refl _) _
                  have hc6 : W6.cell? ⟨w'.heap.size, 0, none⟩ = some (.func (.func 67) #[] #[.pointer (some ⟨w.heap.size + 3, 0, none⟩), .pointer (some ⟨w.heap.size + 2, 0, none⟩)]) := by rw [hW6]; exact World.cell?_alloc_at _ _ _ _ rfl
                  have hsw := hbw.size
                  have H59 := pick_68 (.pointer (some ⟨w.heap.size + 2, 0, none⟩)) (.pointer (some ⟨w.heap.size + 3, 0, none⟩)) (.pointer (some ⟨w.heap.size + 1, 0, none⟩)) (.pointer (some ⟨w'.heap.size, 0, none⟩)) (.pointer (some ⟨w.heap.size, 0, none⟩)) bs bu m (baseOf fs) cut (baseOf fs) F
                    (fun s => !havB f.have_ s.1 s.2 && firstB who (hadL fs s.1 s.2) self) W6 ((hb6.block bs hbsl).trans hub) (hM.keep hb6 hM.lt) hbn (by omega) (by omega) (by omega) (fun pos h1 h2 => by
                      obtain ⟨s, hs, -⟩ := (whole_iff hfit).1 (hcut.all pos (by omega) h2)
                      exact ⟨s, (hF pos s).2 hs⟩) (fun s W hbW hpos => by
                      obtain ⟨pos, -, -, hs⟩ := hpos
                      obtain ⟨g, hg, k1, k2, -⟩ := known_slot hfit ((hF pos s).1 hs)
                      have hszW := hbW.size
                      have hall : Below W2.heap.size W2 W := (hbw.trans (hb6.mono hsw)).trans (hbW.mono (by omega))
                      obtain ⟨z0, z1, z2, z3, z4⟩ := dutyW_facts (hb2.trans (hall.mono (by omega)))
                      have hq' : (q.toNat : Int) = q := Int.toNat_of_nonneg hq0
                      exact owe_any (w.heap.size + 2) (w.heap.size + 3) (w.heap.size + 1) w'.heap.size w.heap.size N q.toNat iy self who arr A cA fs f s.1 s.2 W (by omega) (by omega) (by omega) (by omega) (by omega) (by omega)
                        (hr2.out.below hall (by omega)).range z3 (by rw [hq']; exact z2) z1 ((hbW.cell (p := ⟨w'.heap.size, 0, none⟩) (by show w'.heap.size < _; omega)).trans hc6) (hA.below z0 hN) h1.out.symm hl1 hP.out (by omega) hput hf hself0
                        (fun f' hf' => ⟨k1, by have := one_len hfit hf' hg; omega⟩))
                  have hDI : DutyIs self q who fs (pickTo F (fun s => !havB f.have_ s.1 s.2 && firstB who (hadL fs s.1 s.2) self) (baseOf fs) (cut - baseOf fs).toNat) 0 :=
                    .inr (.inr ⟨hH.out, more_nil hL, hfit, rfl, cut, F, iy, f, hcut, hF, hwi, hf, rfl⟩)
                  generalize pickTo F (fun s => !havB f.have_ s.1 s.2 && firstB who (hadL fs s.1 s.2) self) (baseOf fs) (cut - baseOf fs).toNat = l at hDI H59
                  have hb6' : Below w.heap.size w W6 := (hbw2.trans (hbw.mono (by omega))).trans (hb6.mono (by omega))
                  replace H59 := Lib.hid H59
                  replace hDI := Lib.hid hDI
                  replace hW6 := Lib.hid hW6
                  clear hcc0 hub hM hF hfit hcut hL hput hf hwi hc6 hP
                  change Calls Try.prog 59 _ (w'.alloc (.cells #[.func (.func 67) #[] #[.pointer (some ⟨w.heap.size + 3, 0, none⟩), .pointer (some ⟨w.heap.size + 2, 0, none⟩)]] 132)) _
                  rw [← hW6.out]
                  refine H59.out.mono ?_
                  rintro e w3 ⟨⟨B, c, rfl, hown⟩, hb3⟩
                  replace hown := Lib.hid (hown.lower (base' := w.heap.size) (by omega))
                  go_wp2
                  go_ret2
                  go_light
                  exact ⟨⟨B, c, l, 0, rfl, hDI.out, hown.out⟩, hb6'.trans (hb3.mono (by omega))⟩
  · have HL := Lib.hid (duty_bad (self := self) (q := q) (who := who) (fs := fs) (fun h => h1 h.1))
    have hd : ((who.length : Int) != (fs.length : Int)) = true := by simp; omega
    go_enter Try.func35, Try.ntmps35
    go_wp2
    go_ret2
    go_light
    exact duty_none HL.out (hbz _)
end Go.Proofs.Ytcffhfcjfjfokaa
/- How long the answers are. -/
namespace Go.Proofs.Ytcffhfcjfjfokaa
open Go Go.RowKit
theorem pick_len (F : Int → Option (Int × Int)) (p : Int × Int → Bool) (b : Int) : ∀ k : Nat, (pickTo F p b k).length ≤ k
  | 0 => by simp [pickTo]
  | k + 1 => by
    have h := pick_len F p b k
    rw [pickTo]
    split
    · split
      · rw [ins_length]; omega
      · omega
    · omega
theorem lacksIs_len {done : Int} {own : Fl} {fs : List Fl} {l : List (Int × Int)} {n : Int} (h : LacksIs done own fs l n) : l.length ≤ 4096 := by
  unfold LacksIs at h
  split at h
  · rcases h with ⟨_, _, _, _, rfl⟩ | ⟨_, _, _, _, rfl⟩ | ⟨_, hf, hge, _, cut, F, hc, _, rfl⟩
    · simp
    · simp
    · have := pick_len F (fun s => !havB own.have_ s.1 s.2) done (cut - done).toNat
      have := cut_bound hf (n := (cut - baseOf (fs ++ [own])).toNat) (fun p h1 h2 => hc.all p h1 (by have := hc.low; omega))
      omega
  · rw [h.2]; simp
theorem dutyIs_len {self q : Int} {who : List Int} {fs : List Fl} {l : List (Int × Int)} {n : Int} (h : DutyIs self q who fs l n) : l.length ≤ 4096 := by
  rcases h with ⟨_, _, rfl⟩ | ⟨_, _, _, _, _, rfl⟩ | ⟨_, _, hf, _, cut, F, iy, g, hc, _, _, _, rfl⟩
  · simp
  · simp
  · have := pick_len F (fun s => !havB g.have_ s.1 s.2 && firstB who (hadL fs s.1 s.2) self) (baseOf fs) (cut - baseOf fs).toNat
    have := cut_bound hf (n := (cut - baseOf fs).toNat) (fun p h1 h2 => hc.all p h1 (by have := hc.low; omega))
    omega
end Go.Proofs.Ytcffhfcjfjfokaa
namespace Go.Proofs.Ytcffhfcjfjfokaa
open Go.RowKit
set_option maxRecDepth 100000 in
/-- Two rows that hold the same slots. -/
theorem sameSlots_yes (A B : Option Addr) (cA cB N : Nat) (l : List (Int × Int)) (w : World) (hN : N ≤ w.heap.size) (hA : RowAt w N 2 eSlot A l) (hB : RowAt w N 2 eSlot B l) (hl : l.length ≤ 9223372036854775807) :
    Calls Try.prog 26 #[.slice A l.length cA, .slice B l.length cB] w fun x w' => x = .returned (.bool true) ∧ Below w.heap.size w w' := by
  have hns := run_neq_slot
  go_enter Try.func26, Try.ntmps26
  go_wp2
  go_loopw [5] (fun k wr => ∃ q : Nat, k = .int .i64 q ∧ q ≤ l.length ∧ Below w.heap.size w wr) (fun k _ => l.length - (intOf k).toNat)
  case atStart => exact ⟨0, rfl, by omega, Below.refl _ _⟩
  case round =>
    obtain ⟨q, rfl, hq, hb⟩ := hrel
    have hsz := hb.size
    by_cases hlt : q < l.length
    · obtain ⟨g, o, x, y, rfl, hg, hx, c0, c1⟩ := (hA.below hb hN).slot hlt
      obtain ⟨g', o', x', y', rfl, hg', hx', d0, d1⟩ := (hB.below hb hN).slot hlt
      obtain ⟨rfl, rfl⟩ : x = x' ∧ y = y' := by have := hx'.out; rw [hx.out] at this; injection this with h; injection h with h1 h2; exact ⟨h1, h2⟩
      have hse : slotEq x y x y = true := by simp [slotEq]
      go_wp2
      go_quiet (fail)
      go_wp2
      go_roundw
      case rel => go_light; exact ⟨q + 1, by go_num, by omega, below_drewN hb _⟩
      case measure => go_light; simp [intOf]; omega
    · go_wp2
      go_ret
      exact ⟨rfl, hb⟩
end Go.Proofs.Ytcffhfcjfjfokaa
/- What the law's untouched answers where nothing was touched. -/
namespace Go.Proofs.Ytcffhfcjfjfokaa
open Go.RowKit
theorem RowAt.front {α : Type} {w : World} {N sz : Nat} {enc : α → List Value} {A : Option Addr} {l m : List α} (h : RowAt w N sz enc A (l ++ m)) : RowAt w N sz enc A l := fun h0 => by
  obtain ⟨b, off, e, hb, hc⟩ := h (by rw [List.length_append]; omega)
  exact ⟨b, off, e, hb, fun k x hk => hc k x (by rw [List.getElem?_append_left (List.getElem?_eq_some_iff.1 hk).1]; exact hk)⟩
set_option maxRecDepth 100000 in
set_option maxHeartbeats 2000000 in
theorem untouched_yes (f g : Fl) (g2 g4 c2 c4 N : Nat) (A' B' : Option Addr) (cA' cB' : Nat) (w : World) (hN : N ≤ w.heap.size)
    (h2 : RowAt w N 2 eSlot (some ⟨g2, 0, none⟩) (f.slots ++ [(71, 71)])) (h4 : RowAt w N 1 eInt (some ⟨g4, 0, none⟩) (f.have_ ++ [72])) (l2 : f.slots.length + 1 ≤ c2) (m2 : c2 ≤ 9223372036854775807) (l4 : f.have_.length + 1 ≤ c4) (m4 : c4 ≤ 9223372036854775807)
    (hr' : FlRows w N g A' cA' B' cB') (hs : f = g) :
    Calls Try.prog 27 #[.agg #[.int .i64 f.e, .int .i64 f.l, .int .i64 f.i, .int .i64 f.c, .int .i64 f.base, .slice (some ⟨g2, 0, none⟩) f.slots.length c2, .slice (some ⟨g4, 0, none⟩) f.have_.length c4, .slice (some ⟨g2, 0, none⟩) (f.slots.length + 1) c2, .slice (some ⟨g4, 0, none⟩) (f.have_.length + 1) c4], .agg (flc g.e g.l g.i g.c g.base A' g.slots.length cA' B' g.have_.length cB')] w
      fun x w' => x = .returned (.bool true) ∧ Below w.heap.size w w' := by
  subst hs
  have hsb : sameB f f = true := by simp [sameB]
  go_enter Try.func27, Try.ntmps27
  obtain ⟨b2, o2, x, y, e2, hb2, hx2, k1, k2⟩ := h2.slot (k := f.slots.length) (by simp)
  obtain ⟨b4, o4, z, e4, hb4, hx4, k4⟩ := h4.int (k := f.have_.length) (by simp)
  obtain ⟨rfl, rfl⟩ : g2 = b2 ∧ 0 = o2 := by simpa using e2
  obtain ⟨rfl, rfl⟩ : g4 = b4 ∧ 0 = o4 := by simpa using e4
  have e1 := hx2.out
  rw [List.getElem?_append_right (Nat.le_refl _)] at e1
  simp at e1
  obtain ⟨rfl, rfl⟩ := e1
  have e3 := hx4.out
  rw [List.getElem?_append_right (Nat.le_refl _)] at e3
  simp at e3
  subst e3
  clear e2 e4 hx2 hx4
  have hrf : FlRows w N f (some ⟨g2, 0, none⟩) c2 (some ⟨g4, 0, none⟩) c4 := ⟨h2.front, h4.front, by omega, m2, by omega, m4⟩
  simp only [Nat.zero_add] at k1 k2 k4
  have b2w : g2 < w.heap.size := by omega
  have b4w : g4 < w.heap.size := by omega
  have q1 : f.slots.length < f.slots.length + 1 := by omega
  have q2 : f.have_.length < f.have_.length + 1 := by omega
  clear h2 h4
  go_wp2_with (go_at_call 64; refine (same_any f f _ _ _ _ _ _ _ _ N _ (by simp only [World.size_alloc]; omega) (by exact hrf.below (below_box2 _ _ _ _ _) hN) (by exact hr'.below (below_box2 _ _ _ _ _) hN)).mono ?_; rintro e w' ⟨rfl, hbw⟩; rw [World.size_alloc, World.size_alloc] at hbw; obtain ⟨hb0, hc1, hc2, -, -, hs1, hs2⟩ := box2_facts hbw; have hq := bcell hb0; obtain ⟨hq1, -⟩ := hq; rw [← hq1 _ _ b2w] at k1 k2; rw [← hq1 _ _ b4w] at k4; clear hq1)
  go_ret
  go_light
  exact ⟨rfl, hb0⟩
end Go.Proofs.Ytcffhfcjfjfokaa
