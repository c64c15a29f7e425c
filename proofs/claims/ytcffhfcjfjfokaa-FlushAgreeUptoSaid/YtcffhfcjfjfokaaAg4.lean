/- Pick Lackone Lackf Sorted Lackr Who Place, joined. -/
import Derived.StillTailTactics
import Derived.IntWalk
import Derived.Test.YtcffhfcjfjfokaaAg1
import Derived.Test.YtcffhfcjfjfokaaAg2
import Derived.Test.YtcffhfcjfjfokaaAg3
set_option linter.unusedVariables false
set_option linter.unusedSimpArgs false
namespace Go.Proofs.Ytcffhfcjfjfokaa
open Go.RowKit
/-- The wanted slots of the q positions behind 'behind', by rising sender and number. -/
def pickTo (F : Int → Option (Int × Int)) (p : Int × Int → Bool) (behind : Int) : Nat → List (Int × Int)
  | 0 => []
  | q + 1 => match F (behind + 1 + q) with
    | some s => if p s = true then ins (pickTo F p behind q) s else pickTo F p behind q
    | none => pickTo F p behind q
theorem rises_pick (F : Int → Option (Int × Int)) (p : Int × Int → Bool) (behind : Int) : ∀ q, Rises (pickTo F p behind q)
  | 0 => List.Pairwise.nil
  | q + 1 => by
    rw [pickTo]
    split
    · split
      · exact rises_ins (rises_pick F p behind q) _
      · exact rises_pick F p behind q
    · exact rises_pick F p behind q
set_option maxRecDepth 100000 in
set_option maxHeartbeats 4000000 in
theorem pick_60 (x0 : Value) (bs bu n : Nat) (base cut behind : Int) (F : Int → Option (Int × Int)) (p : Int × Int → Bool) (w : World)
    (hu : w.heap[bs]? = some (.cells #[.int .i64 base, .int .i64 cut, .map (some bu)] 119 (0, 0))) (hM : MapsTo w Try.prog 3 bu n vInt vSlot F)
    (hb0 : 0 ≤ behind) (hb1 : behind ≤ 4611686018427387904) (hcut : cut ≤ 4611686018427387904) (hfew : cut - behind ≤ 4096)
    (hF : ∀ pos, behind < pos → pos ≤ cut → ∃ s, F pos = some s)
    (HC : ∀ (s : Int × Int) (W : World), Below w.heap.size w W → (∃ pos, behind < pos ∧ pos ≤ cut ∧ F pos = some s) → Calls Try.prog 60 #[.agg #[.int .i64 s.1, .int .i64 s.2], x0] W fun e W' => e = .returned (.bool (p s)) ∧ Below W.heap.size W W') :
    Calls Try.prog 59 #[.pointer (some ⟨bs, 0, none⟩), .int .i64 behind, .func (.func 60) #[] #[x0]] w fun x w' => (∃ B c, x = .returned (.slice B (pickTo F p behind (cut - behind).toNat).length c) ∧ Owns w' w.heap.size 66 2 eSlot B c (pickTo F p behind (cut - behind).toNat)) ∧ Below w.heap.size w w' := by
  have hcu := blk_cells hu
  go_enter Try.func59, Try.ntmps59
  go_wp2
  go_loopw [7, 8] (fun a b wr => ∃ (q : Nat) (B : Option Addr) (cB m : Nat), b = .int .i64 (behind + 1 + q) ∧ a = .slice B m cB ∧ m = (pickTo F p behind q).length ∧ q ≤ (cut - behind).toNat ∧ Owns wr w.heap.size 66 2 eSlot B cB (pickTo F p behind q) ∧ m ≤ q ∧ Below w.heap.size w wr) (fun _ b _ => (cut + 1 - intOf b).toNat)
  case atStart => exact ⟨0, none, 0, 0, by simp, rfl, rfl, by omega, owns_nil _ _ _ _ _, by omega, Below.refl _ _⟩
  case round =>
    obtain ⟨q, B, cB, m, rfl, rfl, hm, hq, hown, hmq, hb⟩ := hrel
    replace hm := Lib.hid hm
    have hlo := hown.lo
    have hu' := (hb.block bs (Array.getElem?_eq_some_iff.1 hu).1).trans hu
    have hcu' := blk_cells hu'
    have hM' := hM.keep hb hM.lt
    by_cases hlt : behind + 1 + q ≤ cut
    · obtain ⟨⟨x, y⟩, hs⟩ := hF _ (by omega) hlt
      have hkeyp : ∃ l, keyOf Try.prog 3 (vInt (behind + 1 + q)) = some l := key_int _ (WalkArith.wf_i64 (by omega))
      have hlook := hM'.look lawInt vInt_inj Try.underlying117 (zero66 _) false (behind + 1 + q) hkeyp
      rw [hs] at hlook
      simp only [vInt, vSlot] at hlook
      have hpk : pickTo F p behind (q + 1) = if p (x, y) = true then ins (pickTo F p behind q) (x, y) else pickTo F p behind q := by rw [pickTo, hs]
      have HF : ∃ pos, behind < pos ∧ pos ≤ cut ∧ F pos = some (x, y) := ⟨_, by omega, hlt, hs⟩
      replace HF := Lib.hid HF
      cases hp : p (x, y) with
      | false =>
        rw [hp, if_neg (by simp)] at hpk
        replace hpk := Lib.hid hpk
        go_wp2_with (go_at_call 60; refine (HC (x, y) _ ?_ HF.out).mono ?_; rotate_left; rintro e w2 ⟨rfl, hbw⟩; rw [hp])
        case refine_1 => exact hb.alloc hb.size _
        have hown2 := (hown.alloc (.cells #[.int .i64 x, .int .i64 y] 66)).keep hbw (fun k hk => by have := (hlo k hk).2; simp only [World.size_alloc]; omega)
        have hb2 := (hb.alloc hb.size (.cells #[.int .i64 x, .int .i64 y] 66)).trans (hbw.mono (by simp only [World.size_alloc]; have := hb.size; omega))
        refine ⟨⟨q + 1, B, cB, m, by rw [show ((q + 1 : Nat) : Int) = q + 1 by omega]; congr 1; omega, rfl, by rw [hpk.out]; exact hm.out, by omega, by rw [hpk.out]; exact hown2, by omega, hb2⟩, by simp [intOf]; omega⟩
      | true =>
        rw [hp, if_pos rfl] at hpk
        replace hpk := Lib.hid hpk
        go_wp2_with (go_at_call 60; refine (HC (x, y) _ ?_ HF.out).mono ?_; rotate_left; rintro e w2 ⟨rfl, hbw⟩; rw [hp])
        case refine_1 => exact hb.alloc hb.size _
        have hown2 := (hown.alloc (.cells #[.int .i64 x, .int .i64 y] 66)).keep hbw (fun k hk => by have := (hlo k hk).2; simp only [World.size_alloc]; omega)
        have hb2 := (hb.alloc hb.size (.cells #[.int .i64 x, .int .i64 y] 66)).trans (hbw.mono (by simp only [World.size_alloc]; have := hb.size; omega))
        have hcs : ∀ i, w2.cell? ⟨wr.heap.size, i, none⟩ = #[Value.int .i64 x, Value.int .i64 y][i]? := fun i => by
          rw [hbw.cell (p := ⟨wr.heap.size, i, none⟩) (by simp only [World.size_alloc]; omega)]
          exact World.cell?_alloc_at _ _ _ _ rfl
        have hs2 : wr.heap.size < w2.heap.size := by have := hbw.size; simp only [World.size_alloc] at this; omega
        have hR : Rises (pickTo F p behind q) := rises_pick F p behind q
        replace hpk := hpk.out
        have hm9 := hm.out
        clear hm
        generalize pickTo F p behind q = L at hpk hm9 hown2 hR
        replace hpk := Lib.hid hpk
        replace hR := Lib.hid hR
        have hm := Lib.hid hm9
        clear hm9 hown hbw hcu hu hcu' hu' hM hM' hlook hkeyp HC hF
        obtain ⟨wo, rfl⟩ : ∃ wo : World, wo = wr := ⟨_, rfl⟩
        go_loopw [10] (fun k wr => ∃ a : Nat, k = .int .i64 a ∧ a ≤ m ∧ (∀ j z, a ≤ j → L[j]? = some z → sltB (x, y) z = true) ∧ Below w2.heap.size w2 wr) (fun k _ => (intOf k).toNat)
        case atStart => exact ⟨m, rfl, by omega, fun j z hj hz => by have := (List.getElem?_eq_some_iff.1 hz).1; have := hm.out; omega, Below.refl _ _⟩
        case round =>
          obtain ⟨a, rfl, ha, hup, hbq⟩ := hrel
          have hcq : ∀ i, wr.cell? ⟨wo.heap.size, i, none⟩ = #[Value.int .i64 x, Value.int .i64 y][i]? := fun i => by
            rw [hbq.cell (p := ⟨wo.heap.size, i, none⟩) hs2]; exact hcs i
          have hownq := hown2.keep hbq (fun k hk => by have := (hlo k hk).2; omega)
          replace hup := Lib.hid hup
          by_cases ha0 : a = 0
          · have hlow : ∀ j z, j < a → L[j]? = some z → sltB (x, y) z = false := by intro j z hj; omega
            have hhigh : ∀ z, L[a]? = some z → sltB (x, y) z = true := fun z hz => hup.out a z (by omega) hz
            replace hlow := Lib.hid hlow
            replace hhigh := Lib.hid hhigh
            go_wp2
            go_quiet (fail)
            have hins := Lib.hid (ins_at (l := L) (s := (x, y)) (n := a) hlow.out hhigh.out (by have := hm.out; omega))
            have hownd : Owns (wr.drewN 0) w.heap.size 66 2 eSlot B cB L := hownq
            clear hlow hhigh
            go_wp2_with (at_builtin; refine wpList_append_rows _ rfl (.tmp 70) (.tmp 72) 36 rfl w.heap.size 66 2 16 _ Try.underlying36 info66 rfl (by decide) eSlot len_eSlot one_eSlot B cB L (some ⟨wr.heap.size, 0, none⟩) 1 (wr.heap.size + 1) m 1 [(x, y)] rfl rfl hm.out.symm rfl ?_ ?_ ?_ ?_ ?_ ?_)
            · exact hownq.alloc _
            · exact row_new _ _ _ _ _ _ rfl
            · omega
            · omega
            · simp only [World.size_alloc, size_drewN]; have := hb2.size; have := hbq.size; omega
            · intro A1 c1' w1 ho1 hg1 hk1
              have hbw := (below_drewN hbq nq).alloc (by have := hbq.size; exact this) (.cells #[.int .i64 x, .int .i64 y] 66)
              have hb1 := ((hb2.trans ((below_drewN hbq nq).mono hb2.size)).alloc (by simp only [size_drewN]; have := hb2.size; have := hbq.size; omega) (.cells #[.int .i64 x, .int .i64 y] 66)).grown hg1 (by simp only [World.size_alloc, size_drewN]; have := hb2.size; have := hbq.size; omega) (fun k hk => (hlo k hk).1)
              obtain ⟨g1, cc1, hv1, hgl1, hgh1⟩ := World.ownsRow.form ho1 (by simp)
              obtain ⟨rfl, rfl⟩ : A1 = some ⟨g1, 0, none⟩ ∧ c1' = cc1 := by injection hv1 with h1 _ h2; exact ⟨h1, h2⟩
              clear hv1
              have hgne : g1 ≠ wo.heap.size := by
                rcases hk1 with h | h
                · have := (hlo g1 h.symm).2; omega
                · simp only [blk, Option.map_some, World.size_alloc, size_drewN] at h; injection h with h; have := hbq.size; omega
              have hc1 : ∀ i, w1.cell? ⟨wo.heap.size, i, none⟩ = #[Value.int .i64 x, Value.int .i64 y][i]? := fun i => by
                rw [World.cell?_of_block (hg1.block wo.heap.size (by have := hbw.size; omega) (by intro h; have := (hlo _ h.symm).2; omega))]
                exact (hbw.cell (p := ⟨wo.heap.size, i, none⟩) hs2).trans (hcs i)
              have hs1 : wo.heap.size < w1.heap.size := by have := hbw.size; have := hg1.size; omega
              have hcap := ho1.len
              simp only [List.length_append, List.length_cons, List.length_nil] at hcap
              rw [← hm.out] at hcap
              have ⟨hcap1, hcap2⟩ := hcap
              go_wp2
              have HS1 := fun W => run_from W g1 (m + 1) c1' 1 1 rfl (by omega)
              have HS2 := fun W => run_from W g1 (m + 1) c1' 0 0 rfl (by omega)
              have e2 : IntKind.i64.wrap 1 = 1 := by decide
              go_still_tail 7, (by kernel_rfl)
              change wpList _ _ _ _ _ w1.drew
              have hL1 : (L ++ [(x, y)]).length = m + 1 := by rw [List.length_append, ← hm.out]; rfl
              obtain ⟨w5, hrun, ho5, hg5⟩ := run_copy_up (P := Try.prog) (w := w1.drew) 36 36 3 w.heap.size 66 2 Try.underlying36 size66 eSlot len_eSlot one_eSlot g1 c1' 0 m (L ++ [(x, y)]) (cutOff g1 c1' 1) (cutOff g1 c1' 0) m (c1' - 1) (m + 1) c1' (by omega) (by omega) hL1 (by omega) (fun h => cutOff_at (by omega)) (cutOff_at (by omega)) (show Owns w1.drew _ _ _ _ _ _ _ from ho1)
              have hput := put_at (l := L) (s := (x, y)) (n := 0) (by have := hm.out; omega)
              rw [← hm.out] at hput
              replace hput := Lib.hid hput
              have hL5 : ((L ++ [(x, y)]).take (0 + 1) ++ ((L ++ [(x, y)]).drop 0).take (m - 0)).length = m + 1 := by rw [List.length_append, List.length_take, List.length_take, List.length_drop, hL1]; omega
              generalize (L ++ [(x, y)]).take (0 + 1) ++ ((L ++ [(x, y)]).drop 0).take (m - 0) = L5 at ho5 hL5 hput
              obtain ⟨u0, hk0⟩ := own_cell ho5 (j := 0 * 2) (by omega)
              obtain ⟨u1, hk11⟩ := own_cell ho5 (j := 0 * 2 + 1) (by omega)
              have hk2 : (w5.setCell ⟨g1, 0 * 2, none⟩ (.int .i64 x)).cell? ⟨g1, 0 * 2 + 1, none⟩ = some u1 := by
                rw [World.cell?_setCell_other _ _ _ _ (by simp)]; exact hk11
              have hf5 := own_frozen ho5
              have hb5 := (show Below w.heap.size w w1.drew from hb1.drew).grown hg5 (by have := hb1.size; exact this) (fun k hk => by cases hk; exact hgl1)
              have hcw : ∀ i, w5.cell? ⟨wo.heap.size, i, none⟩ = #[Value.int .i64 x, Value.int .i64 y][i]? := fun i => by
                rw [World.cell?_of_block (hg5.block wo.heap.size hs1 (by intro h; injection h with h; exact hgne h.symm))]
                exact hc1 i
              clear ho1 hg1 hk1 hb1 hcap hownq hownd HS1 HS2 hc1
              clear hk11
              go_wp2
              refine ⟨⟨q + 1, some ⟨g1, 0, none⟩, c1', m + 1, by rw [show ((q + 1 : Nat) : Int) = q + 1 by omega]; congr 1; omega, rfl, by rw [hpk.out, ins_length, ← hm.out], by omega, ?_, by omega, ?_⟩, by simp [intOf]; omega⟩
              · rw [hpk.out, hins.out]
                try rw [ha0]
                rw [← hput.out]; exact ho5.set2 (by omega) (x, y)
              · exact (hb5.setCell hgl1 _).setCell hgl1 _
          · obtain ⟨g, o, x', y', hA9, hg, hx, c0, c1⟩ := (hownq.row len_eSlot).slot (show a - 1 < L.length by have := hm.out; omega)
            have hp1 : 0 < a := by omega
            have hi1 : a - 1 < m := by omega
            have hi2 : ((a - 1 : Nat) : Int) < (m : Int) := by omega
            have hi3 : (0 : Int) < (a : Int) := by omega
            have e1 : IntKind.i64.wrap ((a : Int) - 1) = ((a - 1 : Nat) : Int) := by rw [show (a : Int) - 1 = ((a - 1 : Nat) : Int) by omega]; exact IntWalk.i64_in _ (by omega)
            subst hA9
            by_cases t : sltB (x, y) (x', y') = true
            · have hup' : ∀ j z, a - 1 ≤ j → L[j]? = some z → sltB (x, y) z = true := fun j z hj hz => by
                by_cases hj' : j = a - 1
                · subst hj'; rw [hx.out] at hz; cases hz; exact t
                · exact hup.out j z (by omega) hz
              replace hup' := Lib.hid hup'
              simp only [sltB, decide_eq_true_eq] at t
              by_cases t1 : x < x'
              · clear t
                go_wp2
                go_quiet (fail)
                go_wp2
                clear e1
                go_roundw
                case rel => go_light; exact ⟨a - 1, by go_num, by omega, hup'.out, below_drewN hbq _⟩
                case measure => go_light; simp [intOf]; omega
              · obtain ⟨t2, t3⟩ : x = x' ∧ y < y' := by omega
                clear t
                subst t2
                go_wp2
                go_quiet (fail)
                go_wp2
                clear e1
                go_roundw
                case rel => go_light; exact ⟨a - 1, by go_num, by omega, hup'.out, below_drewN hbq _⟩
                case measure => go_light; simp [intOf]; omega
            · simp only [Bool.not_eq_true] at t
              have hlow : ∀ j z, j < a → L[j]? = some z → sltB (x, y) z = false := by
                have := rises_low hR.out (n := a - 1) (s := (x, y)) (fun z hz => by rw [hx.out] at hz; cases hz; exact t) (by have := hm.out; omega)
                rw [show a - 1 + 1 = a by omega] at this; exact this
              have hhigh : ∀ z, L[a]? = some z → sltB (x, y) z = true := fun z hz => hup.out a z (by omega) hz
              replace hlow := Lib.hid hlow
              replace hhigh := Lib.hid hhigh
              simp only [sltB, decide_eq_false_iff_not] at t
              have t1 : ¬ x < x' := by omega
              by_cases t2 : x = x'
              · subst t2
                have t3 : ¬ y < y' := by omega
                clear t
                go_wp2
                go_quiet (fail)
                clear e1 hi1 hi2 hi3 hp1
                have hins := Lib.hid (ins_at (l := L) (s := (x, y)) (n := a) hlow.out hhigh.out (by have := hm.out; omega))
                have hownd : Owns (wr.drewN 0) w.heap.size 66 2 eSlot (some ⟨g, o, none⟩) cB L := hownq
                clear hlow hhigh
                go_wp2_with (at_builtin; refine wpList_append_rows _ rfl (.tmp 70) (.tmp 72) 36 rfl w.heap.size 66 2 16 _ Try.underlying36 info66 rfl (by decide) eSlot len_eSlot one_eSlot (some ⟨g, o, none⟩) cB L (some ⟨wr.heap.size, 0, none⟩) 1 (wr.heap.size + 1) m 1 [(x, y)] rfl rfl hm.out.symm rfl ?_ ?_ ?_ ?_ ?_ ?_)
                · exact hownq.alloc _
                · exact row_new _ _ _ _ _ _ rfl
                · omega
                · omega
                · simp only [World.size_alloc, size_drewN]; have := hb2.size; have := hbq.size; omega
                · intro A1 c1' w1 ho1 hg1 hk1
                  have hbw := (below_drewN hbq nq).alloc (by have := hbq.size; exact this) (.cells #[.int .i64 x, .int .i64 y] 66)
                  have hb1 := ((hb2.trans ((below_drewN hbq nq).mono hb2.size)).alloc (by simp only [size_drewN]; have := hb2.size; have := hbq.size; omega) (.cells #[.int .i64 x, .int .i64 y] 66)).grown hg1 (by simp only [World.size_alloc, size_drewN]; have := hb2.size; have := hbq.size; omega) (fun k hk => (hlo k hk).1)
                  obtain ⟨g1, cc1, hv1, hgl1, hgh1⟩ := World.ownsRow.form ho1 (by simp)
                  obtain ⟨rfl, rfl⟩ : A1 = some ⟨g1, 0, none⟩ ∧ c1' = cc1 := by injection hv1 with h1 _ h2; exact ⟨h1, h2⟩
                  clear hv1
                  have hgne : g1 ≠ wo.heap.size := by
                    rcases hk1 with h | h
                    · have := (hlo g1 h.symm).2; omega
                    · simp only [blk, Option.map_some, World.size_alloc, size_drewN] at h; injection h with h; have := hbq.size; omega
                  have hc1 : ∀ i, w1.cell? ⟨wo.heap.size, i, none⟩ = #[Value.int .i64 x, Value.int .i64 y][i]? := fun i => by
                    rw [World.cell?_of_block (hg1.block wo.heap.size (by have := hbw.size; omega) (by intro h; have := (hlo _ h.symm).2; omega))]
                    exact (hbw.cell (p := ⟨wo.heap.size, i, none⟩) hs2).trans (hcs i)
                  have hs1 : wo.heap.size < w1.heap.size := by have := hbw.size; have := hg1.size; omega
                  have hcap := ho1.len
                  simp only [List.length_append, List.length_cons, List.length_nil] at hcap
                  rw [← hm.out] at hcap
                  have ⟨hcap1, hcap2⟩ := hcap
                  go_wp2
                  have HS1 := fun W => run_from W g1 (m + 1) c1' (a + 1) (↑a + 1) (by omega) (by omega)
                  have HS2 := fun W => run_from W g1 (m + 1) c1' a ↑a rfl (by omega)
                  have e2 : IntKind.i64.wrap ((a : Int) + 1) = (a : Int) + 1 := IntWalk.i64_in _ (by omega)
                  go_still_tail 7, (by kernel_rfl)
                  change wpList _ _ _ _ _ w1.drew
                  have hL1 : (L ++ [(x, y)]).length = m + 1 := by rw [List.length_append, ← hm.out]; rfl
                  obtain ⟨w5, hrun, ho5, hg5⟩ := run_copy_up (P := Try.prog) (w := w1.drew) 36 36 3 w.heap.size 66 2 Try.underlying36 size66 eSlot len_eSlot one_eSlot g1 c1' a m (L ++ [(x, y)]) (cutOff g1 c1' (a + 1)) (cutOff g1 c1' a) (m - a) (c1' - (a + 1)) (m + 1 - a) (c1' - a) (by omega) (by omega) hL1 (by omega) (fun h => cutOff_at (by omega)) (cutOff_at (by omega)) (show Owns w1.drew _ _ _ _ _ _ _ from ho1)
                  have hput := put_at (l := L) (s := (x, y)) (n := a) (by have := hm.out; omega)
                  rw [← hm.out] at hput
                  replace hput := Lib.hid hput
                  have hL5 : ((L ++ [(x, y)]).take (a + 1) ++ ((L ++ [(x, y)]).drop a).take (m - a)).length = m + 1 := by rw [List.length_append, List.length_take, List.length_take, List.length_drop, hL1]; omega
                  generalize (L ++ [(x, y)]).take (a + 1) ++ ((L ++ [(x, y)]).drop a).take (m - a) = L5 at ho5 hL5 hput
                  obtain ⟨u0, hk0⟩ := own_cell ho5 (j := a * 2) (by omega)
                  obtain ⟨u1, hk11⟩ := own_cell ho5 (j := a * 2 + 1) (by omega)
                  have hk2 : (w5.setCell ⟨g1, a * 2, none⟩ (.int .i64 x)).cell? ⟨g1, a * 2 + 1, none⟩ = some u1 := by
                    rw [World.cell?_setCell_other _ _ _ _ (by simp)]; exact hk11
                  have hf5 := own_frozen ho5
                  have hb5 := (show Below w.heap.size w w1.drew from hb1.drew).grown hg5 (by have := hb1.size; exact this) (fun k hk => by cases hk; exact hgl1)
                  have hcw : ∀ i, w5.cell? ⟨wo.heap.size, i, none⟩ = #[Value.int .i64 x, Value.int .i64 y][i]? := fun i => by
                    rw [World.cell?_of_block (hg5.block wo.heap.size hs1 (by intro h; injection h with h; exact hgne h.symm))]
                    exact hc1 i
                  clear ho1 hg1 hk1 hb1 hcap hownq hownd HS1 HS2 hc1
                  clear hk11
                  go_wp2
                  refine ⟨⟨q + 1, some ⟨g1, 0, none⟩, c1', m + 1, by rw [show ((q + 1 : Nat) : Int) = q + 1 by omega]; congr 1; omega, rfl, by rw [hpk.out, ins_length, ← hm.out], by omega, ?_, by omega, ?_⟩, by simp [intOf]; omega⟩
                  · rw [hpk.out, hins.out]
                    try rw [ha0]
                    rw [← hput.out]; exact ho5.set2 (by omega) (x, y)
                  · exact (hb5.setCell hgl1 _).setCell hgl1 _
              · clear t
                go_wp2
                go_quiet (fail)
                clear e1 hi1 hi2 hi3 hp1
                have hins := Lib.hid (ins_at (l := L) (s := (x, y)) (n := a) hlow.out hhigh.out (by have := hm.out; omega))
                have hownd : Owns (wr.drewN 0) w.heap.size 66 2 eSlot (some ⟨g, o, none⟩) cB L := hownq
                clear hlow hhigh
                go_wp2_with (at_builtin; refine wpList_append_rows _ rfl (.tmp 70) (.tmp 72) 36 rfl w.heap.size 66 2 16 _ Try.underlying36 info66 rfl (by decide) eSlot len_eSlot one_eSlot (some ⟨g, o, none⟩) cB L (some ⟨wr.heap.size, 0, none⟩) 1 (wr.heap.size + 1) m 1 [(x, y)] rfl rfl hm.out.symm rfl ?_ ?_ ?_ ?_ ?_ ?_)
                · exact hownq.alloc _
                · exact row_new _ _ _ _ _ _ rfl
                · omega
                · omega
                · simp only [World.size_alloc, size_drewN]; have := hb2.size; have := hbq.size; omega
                · intro A1 c1' w1 ho1 hg1 hk1
                  have hbw := (below_drewN hbq nq).alloc (by have := hbq.size; exact this) (.cells #[.int .i64 x, .int .i64 y] 66)
                  have hb1 := ((hb2.trans ((below_drewN hbq nq).mono hb2.size)).alloc (by simp only [size_drewN]; have := hb2.size; have := hbq.size; omega) (.cells #[.int .i64 x, .int .i64 y] 66)).grown hg1 (by simp only [World.size_alloc, size_drewN]; have := hb2.size; have := hbq.size; omega) (fun k hk => (hlo k hk).1)
                  obtain ⟨g1, cc1, hv1, hgl1, hgh1⟩ := World.ownsRow.form ho1 (by simp)
                  obtain ⟨rfl, rfl⟩ : A1 = some ⟨g1, 0, none⟩ ∧ c1' = cc1 := by injection hv1 with h1 _ h2; exact ⟨h1, h2⟩
                  clear hv1
                  have hgne : g1 ≠ wo.heap.size := by
                    rcases hk1 with h | h
                    · have := (hlo g1 h.symm).2; omega
                    · simp only [blk, Option.map_some, World.size_alloc, size_drewN] at h; injection h with h; have := hbq.size; omega
                  have hc1 : ∀ i, w1.cell? ⟨wo.heap.size, i, none⟩ = #[Value.int .i64 x, Value.int .i64 y][i]? := fun i => by
                    rw [World.cell?_of_block (hg1.block wo.heap.size (by have := hbw.size; omega) (by intro h; have := (hlo _ h.symm).2; omega))]
                    exact (hbw.cell (p := ⟨wo.heap.size, i, none⟩) hs2).trans (hcs i)
                  have hs1 : wo.heap.size < w1.heap.size := by have := hbw.size; have := hg1.size; omega
                  have hcap := ho1.len
                  simp only [List.length_append, List.length_cons, List.length_nil] at hcap
                  rw [← hm.out] at hcap
                  have ⟨hcap1, hcap2⟩ := hcap
                  go_wp2
                  have HS1 := fun W => run_from W g1 (m + 1) c1' (a + 1) (↑a + 1) (by omega) (by omega)
                  have HS2 := fun W => run_from W g1 (m + 1) c1' a ↑a rfl (by omega)
                  have e2 : IntKind.i64.wrap ((a : Int) + 1) = (a : Int) + 1 := IntWalk.i64_in _ (by omega)
                  go_still_tail 7, (by kernel_rfl)
                  change wpList _ _ _ _ _ w1.drew
                  have hL1 : (L ++ [(x, y)]).length = m + 1 := by rw [List.length_append, ← hm.out]; rfl
                  obtain ⟨w5, hrun, ho5, hg5⟩ := run_copy_up (P := Try.prog) (w := w1.drew) 36 36 3 w.heap.size 66 2 Try.underlying36 size66 eSlot len_eSlot one_eSlot g1 c1' a m (L ++ [(x, y)]) (cutOff g1 c1' (a + 1)) (cutOff g1 c1' a) (m - a) (c1' - (a + 1)) (m + 1 - a) (c1' - a) (by omega) (by omega) hL1 (by omega) (fun h => cutOff_at (by omega)) (cutOff_at (by omega)) (show Owns w1.drew _ _ _ _ _ _ _ from ho1)
                  have hput := put_at (l := L) (s := (x, y)) (n := a) (by have := hm.out; omega)
                  rw [← hm.out] at hput
                  replace hput := Lib.hid hput
                  have hL5 : ((L ++ [(x, y)]).take (a + 1) ++ ((L ++ [(x, y)]).drop a).take (m - a)).length = m + 1 := by rw [List.length_append, List.length_take, List.length_take, List.length_drop, hL1]; omega
                  generalize (L ++ [(x, y)]).take (a + 1) ++ ((L ++ [(x, y)]).drop a).take (m - a) = L5 at ho5 hL5 hput
                  obtain ⟨u0, hk0⟩ := own_cell ho5 (j := a * 2) (by omega)
                  obtain ⟨u1, hk11⟩ := own_cell ho5 (j := a * 2 + 1) (by omega)
                  have hk2 : (w5.setCell ⟨g1, a * 2, none⟩ (.int .i64 x)).cell? ⟨g1, a * 2 + 1, none⟩ = some u1 := by
                    rw [World.cell?_setCell_other _ _ _ _ (by simp)]; exact hk11
                  have hf5 := own_frozen ho5
                  have hb5 := (show Below w.heap.size w w1.drew from hb1.drew).grown hg5 (by have := hb1.size; exact this) (fun k hk => by cases hk; exact hgl1)
                  have hcw : ∀ i, w5.cell? ⟨wo.heap.size, i, none⟩ = #[Value.int .i64 x, Value.int .i64 y][i]? := fun i => by
                    rw [World.cell?_of_block (hg5.block wo.heap.size hs1 (by intro h; injection h with h; exact hgne h.symm))]
                    exact hc1 i
                  clear ho1 hg1 hk1 hb1 hcap hownq hownd HS1 HS2 hc1
                  clear hk11
                  go_wp2
                  refine ⟨⟨q + 1, some ⟨g1, 0, none⟩, c1', m + 1, by rw [show ((q + 1 : Nat) : Int) = q + 1 by omega]; congr 1; omega, rfl, by rw [hpk.out, ins_length, ← hm.out], by omega, ?_, by omega, ?_⟩, by simp [intOf]; omega⟩
                  · rw [hpk.out, hins.out]
                    try rw [ha0]
                    rw [← hput.out]; exact ho5.set2 (by omega) (x, y)
                  · exact (hb5.setCell hgl1 _).setCell hgl1 _
    · go_wp2
      go_ret
      go_light
      have hqe : q = (cut - behind).toNat := by omega
      subst hqe
      have hm' := hm.out
      subst hm'
      exact ⟨⟨B, cB, rfl, hown⟩, hb⟩
end Go.Proofs.Ytcffhfcjfjfokaa
namespace Go.Proofs.Ytcffhfcjfjfokaa
open Go.RowKit
/-- Lacks' closure: does the node not have it? -/
theorem lacks1_any (f : Fl) (X Y : Option Addr) (cX cY N bx : Nat) (s q : Int) (w : World) (hN : N ≤ w.heap.size) (hr : FlRows w N f X cX Y cY)
    (hbx : bx < w.heap.size) (hcx : ∀ i, w.cell? ⟨bx, i, none⟩ = (flc f.e f.l f.i f.c f.base X f.slots.length cX Y f.have_.length cY)[i]?) (hs0 : 0 ≤ s) (hs1 : s < f.have_.length) :
    Calls Try.prog 60 #[.agg #[.int .i64 s, .int .i64 q], .pointer (some ⟨bx, 0, none⟩)] w fun x w' => x = .returned (.bool (!havB f.have_ s q)) ∧ Below w.heap.size w w' := by
  go_enter Try.func60, Try.ntmps60
  have hc0 := hcx 0
  have hc1 := hcx 1
  have hc2 := hcx 2
  have hc3 := hcx 3
  have hc4 := hcx 4
  have hc5 := hcx 5
  have hc6 := hcx 6
  simp [flc] at hc0 hc1 hc2 hc3 hc4 hc5 hc6
  clear hcx
  go_wp2_with (go_at_call 61; refine (has_any _ _ _ _ _ _ _ _ N f.have_ s q _ hs0 hs1 (by simp only [World.size_alloc]; omega) (by exact hr.have_.below ((Below.refl N w).alloc (by omega) _) (Nat.le_refl _))).mono ?_; rintro e w2 ⟨rfl, hbw2⟩)
  all_goals (go_ret; go_light; rw [World.size_alloc] at hbw2; exact ⟨rfl, ((Below.refl w.heap.size w).alloc (Nat.le_refl _) _).trans (hbw2.mono (by omega))⟩)
end Go.Proofs.Ytcffhfcjfjfokaa
namespace Go.Proofs.Ytcffhfcjfjfokaa
open Go.RowKit
/-- What Lacks answers: the slots and 0, or none and the error. -/
def LacksIs (done : Int) (own : Fl) (fs : List Fl) (l : List (Int × Int)) (n : Int) : Prop :=
  if 0 ≤ done ∧ done ≤ 4611686018427387904 then
    (∃ m, m ≠ 0 ∧ ListedMore fs [own] m ∧ n = m ∧ l = []) ∨
    (ListedMore fs [own] 0 ∧ Fit (fs ++ [own]) ∧ done < baseOf (fs ++ [own]) ∧ n = 82 ∧ l = []) ∨
    (ListedMore fs [own] 0 ∧ Fit (fs ++ [own]) ∧ baseOf (fs ++ [own]) ≤ done ∧ n = 0 ∧ ∃ cut F, IsCut (fs ++ [own]) cut ∧ (∀ pos s, F pos = some s ↔ Known (fs ++ [own]) pos s) ∧ l = pickTo F (fun s => !havB own.have_ s.1 s.2) done (cut - done).toNat)
  else n = 1 ∧ l = []
set_option maxRecDepth 100000 in
set_option maxHeartbeats 2000000 in
theorem lacks_any (done : Int) (own : Fl) (X Y A : Option Addr) (cX cY cA N : Nat) (fs : List Fl) (w : World) (hN : N ≤ w.heap.size) (hr : FlRows w N own X cX Y cY) (hA : Fls w N A fs) (hl : fs.length ≤ 9223372036854775807) :
    Calls Try.prog 24 #[.int .i64 done, .agg (flc own.e own.l own.i own.c own.base X own.slots.length cX Y own.have_.length cY), .slice A fs.length cA] w fun x w' =>
      (∃ B c l n, x = .returned (.tuple #[.slice B l.length c, .int .i64 n]) ∧ LacksIs done own fs l n ∧ Owns w' w.heap.size 66 2 eSlot B c l) ∧ Below w.heap.size w w' := by
  by_cases h1 : done < 0
  · have HL : Hid (LacksIs done own fs [] 1) := by show (if _ then _ else _); rw [if_neg (by omega)]; exact ⟨rfl, rfl⟩
    go_enter Try.func24, Try.ntmps24
    go_wp2
    go_ret2
    go_light
    exact ⟨⟨none, 0, [], 1, rfl, HL.out, owns_nil _ _ _ _ _⟩, below_box1 _ _ _⟩
  · by_cases h2 : 4611686018427387904 < done
    · have HL : Hid (LacksIs done own fs [] 1) := by show (if _ then _ else _); rw [if_neg (by omega)]; exact ⟨rfl, rfl⟩
      go_enter Try.func24, Try.ntmps24
      go_wp2
      go_ret2
      go_light
      exact ⟨⟨none, 0, [], 1, rfl, HL.out, owns_nil _ _ _ _ _⟩, below_box1 _ _ _⟩
    · have HB : ∃ W2, W2 = (box1 w (flc own.e own.l own.i own.c own.base X own.slots.length cX Y own.have_.length cY) 39).alloc (.cells (flc own.e own.l own.i own.c own.base X own.slots.length cX Y own.have_.length cY) 39) := ⟨_, rfl⟩
      obtain ⟨W2, HW2⟩ := HB
      have hbB : Below (w.heap.size + 1) (box1 w (flc own.e own.l own.i own.c own.base X own.slots.length cX Y own.have_.length cY) 39) W2 := by rw [HW2]; exact (Below.refl _ _).alloc (by simp) _
      obtain ⟨hbW, hcW, -, -⟩ := box1_facts hbB
      have hsW : W2.heap.size = w.heap.size + 2 := by rw [HW2]; simp
      have hrW : RowAt W2 (w.heap.size + 2) 7 eRw (some ⟨w.heap.size + 1, 0, none⟩) [⟨own, X, cX, Y, cY⟩] := by
        have := row_new (box1 w (flc own.e own.l own.i own.c own.base X own.slots.length cX Y own.have_.length cY) 39) 39 7 eRw ⟨own, X, cX, Y, cY⟩ (flc own.e own.l own.i own.c own.base X own.slots.length cX Y own.have_.length cY) rfl
        rw [← HW2] at this
        simpa using this
      have hB2 : Fls W2 (w.heap.size + 2) (some ⟨w.heap.size + 1, 0, none⟩) [own] := rows_fls ⟨hrW, fun r hr' => by
        obtain rfl := List.mem_singleton.1 hr'
        exact (hr.below hbW hN).more (by omega)⟩
      have hA2 : Fls W2 (w.heap.size + 2) A fs := (hA.below hbW hN).more (by omega)
      clear hrW
      replace HW2 := Lib.hid HW2
      have HW := Lib.hid (list_any A (some ⟨w.heap.size + 1, 0, none⟩) cA 1 (w.heap.size + 2) fs [own] W2 (by omega) hA2 hB2 hl (by simp))
      replace hbB := Lib.hid hbB
      clear hA2 hB2 hcW
      go_enter Try.func24, Try.ntmps24
      go_wp2_with (go_at_call 52; change Calls Try.prog 52 _ ((box1 w (flc own.e own.l own.i own.c own.base X own.slots.length cX Y own.have_.length cY) 39).alloc (.cells (flc own.e own.l own.i own.c own.base X own.slots.length cX Y own.have_.length cY) 39)) _; rw [← HW2.out]; refine HW.out.mono ?_; intro e w' hp; obtain ⟨hbw, hp⟩ := list_cases hp; rcases hp with ⟨n, rfl, hn0, hL⟩ | ⟨bs, bu, cut, F, m, rfl, hL, hfit, hcut, hbs, hbu, hub, hM, hF⟩; all_goals try have hcc := blk_cells hub)
      · go_ret2
        go_light
        exact ⟨⟨none, 0, [], n, rfl, by unfold LacksIs; rw [if_pos (by omega)]; exact .inl ⟨n, hn0, hL, rfl, rfl⟩, owns_nil _ _ _ _ _⟩, hbW.trans (hbw.mono (by omega))⟩
      · have hlt : done < baseOf (fs ++ [own]) := by simp_all
        go_ret2
        go_light
        exact ⟨⟨none, 0, [], 82, rfl, by unfold LacksIs; rw [if_pos (by omega)]; exact .inr (.inl ⟨hL, hfit, hlt, rfl, rfl⟩), owns_nil _ _ _ _ _⟩, hbW.trans (hbw.mono (by omega))⟩
      · have hge : baseOf (fs ++ [own]) ≤ done := by simp_all
        have hcb := cut_bound hfit (n := (cut - baseOf (fs ++ [own])).toNat) (fun p h1 h2 => hcut.all p h1 (by have := hcut.low; omega))
        have hlow := hcut.low
        have hmem : own ∈ fs ++ [own] := by simp
        refine (pick_60 (.pointer (some ⟨w.heap.size, 0, none⟩)) bs bu m (baseOf (fs ++ [own])) cut done F (fun s => !havB own.have_ s.1 s.2) w' hub hM (by omega) (by omega) (by omega) (by omega) (fun pos h1 h2 => ?_) (fun s W hbW' hpos => ?_)).mono ?_
        · obtain ⟨s, hs, -⟩ := (whole_iff hfit).1 (hcut.all pos (by omega) h2)
          exact ⟨s, (hF pos s).2 hs⟩
        · obtain ⟨pos, -, -, hs⟩ := hpos
          obtain ⟨g, hg, k1, k2, -⟩ := known_slot hfit ((hF pos s).1 hs)
          have hol := one_len hfit hmem hg
          have hbB2 := (hbB.out.trans (hbw.mono (by omega))).trans (hbW'.mono (by have := hbw.size; omega))
          obtain ⟨hb9, hc9, -, hs9⟩ := box1_facts hbB2
          exact lacks1_any own X Y cX cY N w.heap.size s.1 s.2 W (by omega) (hr.below hb9 hN) hs9 hc9 k1 (by omega)
        · rintro e w3 ⟨⟨B, c, rfl, hown⟩, hb3⟩
          have hown2 := hown.lower (base' := w.heap.size) (by have := hbw.size; omega)
          have hLI : LacksIs done own fs (pickTo F (fun s => !havB own.have_ s.1 s.2) done (cut - done).toNat) 0 := by unfold LacksIs; rw [if_pos (by omega)]; exact .inr (.inr ⟨hL, hfit, hge, rfl, cut, F, hcut, hF, rfl⟩)
          replace hLI := Lib.hid hLI
          replace hown2 := Lib.hid hown2
          have hbz := (hbW.trans (hbw.mono (by omega))).trans (hb3.mono (by have := hbw.size; omega))
          clear hown hF hM hub hcc hfit hcut
          generalize pickTo F (fun s => !havB own.have_ s.1 s.2) done (cut - done).toNat = l at *
          go_wp2
          go_ret2
          go_light
          exact ⟨⟨B, c, l, 0, rfl, hLI.out, hown2.out⟩, hbz⟩
end Go.Proofs.Ytcffhfcjfjfokaa
namespace Go.Proofs.Ytcffhfcjfjfokaa
open Go.RowKit
/-- The document's insertion, half way: the first q of l, s among them. -/
def Half (l : List (Int × Int)) (s : Int × Int) (n q : Nat) (out : List (Int × Int)) (b : Value) : Prop := q ≤ n ∧ out = l.take q ∧ b = .bool false ∨ n < q ∧ out = l.take n ++ s :: (l.take q).drop n ∧ b = .bool true
theorem half_left {l : List (Int × Int)} {s z : Int × Int} {n q : Nat} (hq : q < n) (hz : l[q]? = some z) : Half l s n (q + 1) (l.take q ++ [z]) (.bool false) :=
  .inl ⟨hq, by rw [List.take_add_one, hz]; rfl, rfl⟩
theorem half_mid {l : List (Int × Int)} {s z : Int × Int} {n : Nat} (hz : l[n]? = some z) : Half l s n (n + 1) (l.take n ++ [s, z]) (.bool true) := by
  refine .inr ⟨by omega, ?_, rfl⟩
  have hn := (List.getElem?_eq_some_iff.1 hz).1
  rw [List.take_add_one, hz, List.drop_append_of_le_length (by simp; omega), List.drop_of_length_le (by simp; omega)]
  simp
theorem half_right {l : List (Int × Int)} {s z : Int × Int} {n q : Nat} (hq : n < q) (hz : l[q]? = some z) : Half l s n (q + 1) (l.take n ++ s :: (l.take q).drop n ++ [z]) (.bool true) := by
  refine .inr ⟨by omega, ?_, rfl⟩
  have hn := (List.getElem?_eq_some_iff.1 hz).1
  rw [List.take_add_one, hz, List.drop_append_of_le_length (by simp; omega)]
  simp
theorem half_len {l : List (Int × Int)} {s : Int × Int} {n q : Nat} {out : List (Int × Int)} {b : Value} (h : Half l s n q out b) : out.length ≤ l.length + 1 := by
  rcases h with ⟨_, rfl, _⟩ | ⟨_, rfl, _⟩ <;> simp <;> omega
set_option maxRecDepth 100000 in
set_option maxHeartbeats 4000000 in
theorem sorted_any (A : Option Addr) (cA N : Nat) (l : List (Int × Int)) (s1 s2 : Int) (w : World) (hN : N ≤ w.heap.size) (hA : RowAt w N 2 eSlot A l) (hl : l.length ≤ 4096) :
    Calls Try.prog 63 #[.slice A l.length cA, .agg #[.int .i64 s1, .int .i64 s2]] w fun x w' => (∃ B c, x = .returned (.slice B (l.length + 1) c) ∧ Owns w' w.heap.size 66 2 eSlot B c (ins l (s1, s2))) ∧ Below w.heap.size w w' := by
  obtain ⟨n, hn, h1, h2⟩ := takeWhile_len (fun t => !sltB (s1, s2) t) l
  have h1' : ∀ j x, j < n → l[j]? = some x → sltB (s1, s2) x = false := fun j x hj hx => by simpa using h1 j x hj hx
  have h2' : ∀ x, l[n]? = some x → sltB (s1, s2) x = true := fun x hx => by simpa using h2 x hx
  have hins := Lib.hid (ins_at h1' h2' hn)
  replace h1' := Lib.hid h1'
  replace h2' := Lib.hid h2'
  clear h1 h2
  go_enter Try.func63, Try.ntmps63
  go_wp2
  go_loopw [5, 6, 7] (fun a b k wr => ∃ (q : Nat) (out : List (Int × Int)) (B : Option Addr) (cB m : Nat), k = .int .i64 q ∧ a = .slice B m cB ∧ m = out.length ∧ q ≤ l.length ∧ Owns wr (w.heap.size + 1) 66 2 eSlot B cB out ∧ Half l (s1, s2) n q out b ∧ Below (w.heap.size + 1) (box1 w #[.int .i64 s1, .int .i64 s2] 66) wr) (fun _ _ k _ => l.length - (intOf k).toNat)
  case atStart => exact ⟨0, [], none, 0, 0, rfl, rfl, rfl, by omega, owns_nil _ _ _ _ _, .inl ⟨by omega, by simp, rfl⟩, Below.refl _ _⟩
  case round =>
    obtain ⟨q, out, B, cB, m, rfl, rfl, hm, hq, hown, hH, hb⟩ := hrel
    have hml : m ≤ 4097 := by have := half_len hH; omega
    replace hm := Lib.hid hm
    obtain ⟨hb0, hc, -, hsz⟩ := box1_facts hb
    have hlo := hown.lo
    have hownd : Owns wr.drew (w.heap.size + 1) 66 2 eSlot B cB out := hown
    by_cases hlt : q < l.length
    · obtain ⟨g, o, x, y, hA', hg, hx, c0, c1⟩ := (hA.below hb0 hN).slot hlt
      subst hA'
      have hgw : g < wr.heap.size := by omega
      rcases hH with ⟨hqn, hout, rfl⟩ | ⟨hqn, hout, rfl⟩
      · replace hout := Lib.hid hout
        by_cases hqe : q = n
        · subst hqe
          have t := h2'.out _ hx.out
          simp only [sltB, decide_eq_true_eq] at t
          by_cases t1 : s1 < x
          · go_wp2
            go_quiet (fail)
            go_wp2_with (at_builtin; refine wpList_append_rows _ rfl (.tmp 46) (.tmp 48) 36 rfl (w.heap.size + 1) 66 2 16 _ Try.underlying36 info66 rfl (by decide) eSlot len_eSlot one_eSlot B cB out (some ⟨wr.heap.size, 0, none⟩) 1 (wr.heap.size + 1) m 1 [(s1, s2)] rfl rfl hm.out.symm rfl ?_ ?_ ?_ ?_ ?_ ?_)
            · exact hownd.alloc _
            · exact row_new _ _ _ _ _ _ rfl
            · omega
            · omega
            · simp only [World.size_alloc, size_drewN]; omega
            · intro A1 c1' w1 ho1 hg1 hk1
              have hb1 := ((below_drewN hb _).alloc (by simp only [size_drewN]; omega) (.cells #[.int .i64 s1, .int .i64 s2] 66)).grown hg1 (by simp only [World.size_alloc, size_drewN]; omega) (fun k hk => (hlo k hk).1)
              clear hownd hown hg1 hk1 hb hb0 hc hsz hlo c0 c1
              obtain ⟨hb0, hc, -, hsz⟩ := box1_facts hb1
              have hlo := ho1.lo
              obtain ⟨g', o', x', y', hA', hg', hx', c0, c1⟩ := (hA.below hb0 hN).slot hlt
              obtain ⟨rfl, rfl⟩ : g = g' ∧ o = o' := by injection hA' with h; injection h with h1 h2; exact ⟨h1, h2⟩
              obtain ⟨rfl, rfl⟩ : x = x' ∧ y = y' := by have := hx'.out; rw [hx.out] at this; injection this with h; injection h with h1 h2; exact ⟨h1, h2⟩
              clear hA' hg'
              have hm1 : (out ++ [(s1, s2)]).length = m + 1 := by rw [List.length_append, ← hm.out]; rfl
              replace hm1 := Lib.hid hm1
              go_wp2_with (at_builtin; refine wpList_append_rows _ rfl (.tmp 50) (.tmp 55) 36 rfl (w.heap.size + 1) 66 2 16 _ Try.underlying36 info66 rfl (by decide) eSlot len_eSlot one_eSlot A1 c1' (out ++ [(s1, s2)]) (some ⟨w1.heap.size, 0, none⟩) 1 (w1.heap.size + 1) (m + 1) 1 [(x, y)] rfl rfl hm1.out rfl ?_ ?_ ?_ ?_ ?_ ?_)
              · exact ho1.alloc _
              · exact row_new _ _ _ _ _ _ rfl
              · omega
              · omega
              · simp only [World.size_alloc, size_drewN]; omega
              · intro A2 c2 w2 ho2 hg2 hk2
                have hb2 := (hb1.alloc (by omega) (.cells #[.int .i64 x, .int .i64 y] 66)).grown hg2 (by simp only [World.size_alloc]; omega) (fun k hk => (hlo k hk).1)
                clear ho1 hg2 hk2 hb1
                rw [hout.out] at ho2
                replace ho2 := Lib.hid ho2
                replace hm1 := Lib.hid hm1
                go_wp2
                go_roundw
                case rel =>
                  go_light
                  exact ⟨q + 1, _, A2, c2, m + 1 + 1, by go_num, rfl, by have h9 := hm1.out.out; simp only [List.length_append, List.length_cons, List.length_nil] at h9 ⊢; rw [← hout.out]; omega, by omega, ho2.out, half_mid hx.out, hb2⟩
                case measure => go_light; simp [intOf]; omega
          · obtain ⟨t2, t3⟩ : s1 = x ∧ s2 < y := by omega
            subst t2
            clear t
            go_wp2
            go_quiet (fail)
            go_wp2_with (at_builtin; refine wpList_append_rows _ rfl (.tmp 46) (.tmp 48) 36 rfl (w.heap.size + 1) 66 2 16 _ Try.underlying36 info66 rfl (by decide) eSlot len_eSlot one_eSlot B cB out (some ⟨wr.heap.size, 0, none⟩) 1 (wr.heap.size + 1) m 1 [(s1, s2)] rfl rfl hm.out.symm rfl ?_ ?_ ?_ ?_ ?_ ?_)
            · exact hownd.alloc _
            · exact row_new _ _ _ _ _ _ rfl
            · omega
            · omega
            · simp only [World.size_alloc, size_drewN]; omega
            · intro A1 c1' w1 ho1 hg1 hk1
              have hb1 := ((below_drewN hb _).alloc (by simp only [size_drewN]; omega) (.cells #[.int .i64 s1, .int .i64 s2] 66)).grown hg1 (by simp only [World.size_alloc, size_drewN]; omega) (fun k hk => (hlo k hk).1)
              clear hownd hown hg1 hk1 hb hb0 hc hsz hlo c0 c1
              obtain ⟨hb0, hc, -, hsz⟩ := box1_facts hb1
              have hlo := ho1.lo
              obtain ⟨g', o', x', y', hA', hg', hx', c0, c1⟩ := (hA.below hb0 hN).slot hlt
              obtain ⟨rfl, rfl⟩ : g = g' ∧ o = o' := by injection hA' with h; injection h with h1 h2; exact ⟨h1, h2⟩
              obtain ⟨rfl, rfl⟩ : s1 = x' ∧ y = y' := by have := hx'.out; rw [hx.out] at this; injection this with h; injection h with h1 h2; exact ⟨h1, h2⟩
              clear hA' hg'
              have hm1 : (out ++ [(s1, s2)]).length = m + 1 := by rw [List.length_append, ← hm.out]; rfl
              replace hm1 := Lib.hid hm1
              go_wp2_with (at_builtin; refine wpList_append_rows _ rfl (.tmp 50) (.tmp 55) 36 rfl (w.heap.size + 1) 66 2 16 _ Try.underlying36 info66 rfl (by decide) eSlot len_eSlot one_eSlot A1 c1' (out ++ [(s1, s2)]) (some ⟨w1.heap.size, 0, none⟩) 1 (w1.heap.size + 1) (m + 1) 1 [(s1, y)] rfl rfl hm1.out rfl ?_ ?_ ?_ ?_ ?_ ?_)
              · exact ho1.alloc _
              · exact row_new _ _ _ _ _ _ rfl
              · omega
              · omega
              · simp only [World.size_alloc, size_drewN]; omega
              · intro A2 c2 w2 ho2 hg2 hk2
                have hb2 := (hb1.alloc (by omega) (.cells #[.int .i64 s1, .int .i64 y] 66)).grown hg2 (by simp only [World.size_alloc]; omega) (fun k hk => (hlo k hk).1)
                clear ho1 hg2 hk2 hb1
                rw [hout.out] at ho2
                replace ho2 := Lib.hid ho2
                replace hm1 := Lib.hid hm1
                go_wp2
                go_roundw
                case rel =>
                  go_light
                  exact ⟨q + 1, _, A2, c2, m + 1 + 1, by go_num, rfl, by have h9 := hm1.out.out; simp only [List.length_append, List.length_cons, List.length_nil] at h9 ⊢; rw [← hout.out]; omega, by omega, ho2.out, half_mid hx.out, hb2⟩
                case measure => go_light; simp [intOf]; omega
        · have t := h1'.out _ _ (by omega) hx.out
          simp only [sltB, decide_eq_false_iff_not] at t
          have t1 : ¬ s1 < x := by omega
          by_cases t2 : s1 = x
          · subst t2
            have t3 : ¬ s2 < y := by omega
            clear t
            go_wp2
            go_quiet (fail)
            go_wp2_with (at_builtin; refine wpList_append_rows _ rfl (.tmp 50) (.tmp 55) 36 rfl (w.heap.size + 1) 66 2 16 _ Try.underlying36 info66 rfl (by decide) eSlot len_eSlot one_eSlot B cB out (some ⟨wr.heap.size, 0, none⟩) 1 (wr.heap.size + 1) m 1 [(s1, y)] rfl rfl hm.out.symm rfl ?_ ?_ ?_ ?_ ?_ ?_)
            · exact hownd.alloc _
            · exact row_new _ _ _ _ _ _ rfl
            · omega
            · omega
            · simp only [World.size_alloc, size_drewN]; omega
            · intro A1 c1 w1 ho1 hg1 hk1
              have hb1 := ((below_drewN hb _).alloc (by simp only [size_drewN]; omega) (.cells #[.int .i64 s1, .int .i64 y] 66)).grown hg1 (by simp only [World.size_alloc, size_drewN]; omega) (fun k hk => (hlo k hk).1)
              clear hownd hown hg1 hk1 hb
              rw [hout.out] at ho1
              replace ho1 := Lib.hid ho1
              go_wp2
              go_roundw
              case rel =>
                go_light
                exact ⟨q + 1, _, A1, c1, m + 1, by go_num, rfl, by rw [List.length_append, ← hout.out, ← hm.out]; rfl, by omega, ho1.out, half_left (by omega) hx.out, hb1⟩
              case measure => go_light; simp [intOf]; omega
          · clear t
            go_wp2
            go_quiet (fail)
            go_wp2_with (at_builtin; refine wpList_append_rows _ rfl (.tmp 50) (.tmp 55) 36 rfl (w.heap.size + 1) 66 2 16 _ Try.underlying36 info66 rfl (by decide) eSlot len_eSlot one_eSlot B cB out (some ⟨wr.heap.size, 0, none⟩) 1 (wr.heap.size + 1) m 1 [(x, y)] rfl rfl hm.out.symm rfl ?_ ?_ ?_ ?_ ?_ ?_)
            · exact hownd.alloc _
            · exact row_new _ _ _ _ _ _ rfl
            · omega
            · omega
            · simp only [World.size_alloc, size_drewN]; omega
            · intro A1 c1 w1 ho1 hg1 hk1
              have hb1 := ((below_drewN hb _).alloc (by simp only [size_drewN]; omega) (.cells #[.int .i64 x, .int .i64 y] 66)).grown hg1 (by simp only [World.size_alloc, size_drewN]; omega) (fun k hk => (hlo k hk).1)
              clear hownd hown hg1 hk1 hb
              rw [hout.out] at ho1
              replace ho1 := Lib.hid ho1
              go_wp2
              go_roundw
              case rel =>
                go_light
                exact ⟨q + 1, _, A1, c1, m + 1, by go_num, rfl, by rw [List.length_append, ← hout.out, ← hm.out]; rfl, by omega, ho1.out, half_left (by omega) hx.out, hb1⟩
              case measure => go_light; simp [intOf]; omega
      · replace hout := Lib.hid hout
        go_wp2
        go_quiet (fail)
        go_wp2_with (at_builtin; refine wpList_append_rows _ rfl (.tmp 50) (.tmp 55) 36 rfl (w.heap.size + 1) 66 2 16 _ Try.underlying36 info66 rfl (by decide) eSlot len_eSlot one_eSlot B cB out (some ⟨wr.heap.size, 0, none⟩) 1 (wr.heap.size + 1) m 1 [(x, y)] rfl rfl hm.out.symm rfl ?_ ?_ ?_ ?_ ?_ ?_)
        · exact hownd.alloc _
        · exact row_new _ _ _ _ _ _ rfl
        · omega
        · omega
        · simp only [World.size_alloc, size_drewN]; omega
        · intro A1 c1 w1 ho1 hg1 hk1
          have hb1 := ((below_drewN hb _).alloc (by simp only [size_drewN]; omega) (.cells #[.int .i64 x, .int .i64 y] 66)).grown hg1 (by simp only [World.size_alloc, size_drewN]; omega) (fun k hk => (hlo k hk).1)
          clear hownd hown hg1 hk1 hb
          rw [hout.out] at ho1
          replace ho1 := Lib.hid ho1
          go_wp2
          go_roundw
          case rel =>
            go_light
            exact ⟨q + 1, _, A1, c1, m + 1, by go_num, rfl, by rw [List.length_append, ← hout.out, ← hm.out]; rfl, by omega, ho1.out, half_right hqn hx.out, hb1⟩
          case measure => go_light; simp [intOf]; omega
    · rcases hH with ⟨hqn, hout, rfl⟩ | ⟨hqn, hout, rfl⟩
      · have hql : q = l.length := by omega
        have hnl : n = l.length := by omega
        subst hql
        replace hout := Lib.hid hout
        clear hqn
        go_wp2_with (at_builtin; refine wpList_append_rows _ rfl (.tmp 59) (.tmp 61) 36 rfl (w.heap.size + 1) 66 2 16 _ Try.underlying36 info66 rfl (by decide) eSlot len_eSlot one_eSlot B cB out (some ⟨wr.heap.size, 0, none⟩) 1 (wr.heap.size + 1) m 1 [(s1, s2)] rfl rfl hm.out.symm rfl ?_ ?_ ?_ ?_ ?_ ?_)
        · exact hown.alloc _
        · exact row_new _ _ _ _ _ _ rfl
        · omega
        · omega
        · simp only [World.size_alloc]; omega
        · intro A1 c1 w1 ho1 hg1 hk1
          have hb1 := (hb0.alloc (by omega) (.cells #[.int .i64 s1, .int .i64 s2] 66)).grown hg1 (by simp only [World.size_alloc]; omega) (fun k hk => by have := (hlo k hk).1; omega)
          go_wp2
          go_ret
          go_light
          have hm' := hm.out
          rw [hout.out, List.take_length] at hm' ho1
          rw [hm']
          refine ⟨⟨A1, c1, rfl, ?_⟩, hb1⟩
          rw [hins.out, hnl, List.take_length, List.drop_length]
          exact ho1.lower (by omega)
      · have hql : q = l.length := by omega
        subst hql
        have hm' := hm.out
        rw [List.take_length] at hout
        have ho : out = ins l (s1, s2) := by rw [hins.out, hout]
        rw [ho, ins_length] at hm'
        rw [ho] at hown
        subst hm'
        clear hout ho hm hownd
        go_wp2
        go_ret
        go_light
        exact ⟨⟨B, cB, rfl, hown.lower (by omega)⟩, hb0⟩
end Go.Proofs.Ytcffhfcjfjfokaa
namespace Go.Proofs.Ytcffhfcjfjfokaa
open Go.RowKit
open Classical in
/-- The slot of a position, where one is known. -/
noncomputable def knownF (fs : List Fl) (pos : Int) : Option (Int × Int) := if ∃ s, Known fs pos s then some (atOf fs pos) else none
theorem knownF_iff {fs : List Fl} (h : Fit fs) (pos : Int) (s : Int × Int) : knownF fs pos = some s ↔ Known fs pos s := by
  unfold knownF
  constructor
  · intro e
    split at e
    · rename_i hk
      obtain ⟨t, ht⟩ := hk
      rw [atOf_known h ht] at e; cases e; exact ht
    · cases e
  · intro hk
    rw [if_pos ⟨s, hk⟩, atOf_known h hk]
theorem flc_cells {w : World} {b : Nat} {e l i c ba : Int} {X Y : Option Addr} {n m cX cY : Nat} (h : ∀ j, w.cell? ⟨b, j, none⟩ = (flc e l i c ba X n cX Y m cY)[j]?) :
    w.cell? ⟨b, 0, none⟩ = some (.int .i64 e) ∧ w.cell? ⟨b, 1, none⟩ = some (.int .i64 l) ∧ w.cell? ⟨b, 2, none⟩ = some (.int .i64 i) ∧ w.cell? ⟨b, 3, none⟩ = some (.int .i64 c) ∧ w.cell? ⟨b, 4, none⟩ = some (.int .i64 ba) ∧
    w.cell? ⟨b, 5, none⟩ = some (.slice X n cX) ∧ w.cell? ⟨b, 6, none⟩ = some (.slice Y m cY) := ⟨h 0, h 1, h 2, h 3, h 4, h 5, h 6⟩
def LacksPost (done : Int) (own : Fl) (fs : List Fl) (w : World) (x : Ending) (w' : World) : Prop :=
  (∃ B c l n, x = .returned (.tuple #[.slice B l.length c, .int .i64 n]) ∧ LacksIs done own fs l n ∧ Owns w' w.heap.size 66 2 eSlot B c l) ∧ Below w.heap.size w w'
theorem lacks_none {done : Int} {own : Fl} {fs : List Fl} {w w' : World} {n : Int} (h : LacksIs done own fs [] n) (hb : Below w.heap.size w w') : LacksPost done own fs w (.returned (.tuple #[.slice none 0 0, .int .i64 n])) w' :=
  ⟨⟨none, 0, [], n, rfl, h, owns_nil _ _ _ _ _⟩, hb⟩
set_option maxRecDepth 100000 in
set_option maxHeartbeats 4000000 in
theorem rlacks_any (done : Int) (own : Fl) (X Y A : Option Addr) (cX cY cA N : Nat) (fs : List Fl) (w : World) (hN : N ≤ w.heap.size) (hr : FlRows w N own X cX Y cY) (hA : Fls w N A fs) (hl : fs.length ≤ 9223372036854775807) :
    Calls Try.prog 25 #[.int .i64 done, .agg (flc own.e own.l own.i own.c own.base X own.slots.length cX Y own.have_.length cY), .slice A fs.length cA] w (LacksPost done own fs w) := by
  by_cases h1 : done < 0
  · have HL : Hid (LacksIs done own fs [] 1) := by show (if _ then _ else _); rw [if_neg (by omega)]; exact ⟨rfl, rfl⟩
    go_enter Try.func25, Try.ntmps25
    go_wp2
    go_ret2
    go_light
    exact lacks_none HL.out (below_box1 _ _ _)
  · by_cases h2 : 4611686018427387904 < done
    · have HL : Hid (LacksIs done own fs [] 1) := by show (if _ then _ else _); rw [if_neg (by omega)]; exact ⟨rfl, rfl⟩
      go_enter Try.func25, Try.ntmps25
      go_wp2
      go_ret2
      go_light
      exact lacks_none HL.out (below_box1 _ _ _)
    · by_cases h3 : 1 ≤ fs.length ∧ fs.length ≤ 16
      · obtain ⟨h3a, h3b⟩ := h3
        obtain ⟨rs, hrs, hR⟩ := fls_rows hA
        have hlr : rs.length = fs.length := by rw [← hrs, List.length_map]
        replace hrs := Lib.hid hrs
        have Hlr := Lib.hid hlr
        clear hlr hA
        have h4 : ¬ fs.length < 1 := by omega
        have h5 : ¬ 16 < fs.length := by omega
        go_enter Try.func25, Try.ntmps25
        go_wp2_with (at_builtin; refine wpList_append_rows _ rfl (.tmp 30) (.tmp 31) 22 rfl (w.heap.size + 1) 39 7 88 _ Try.underlying22 info39 rfl (by decide) eRw len_eRw one_eRw none 0 [] A cA N 0 fs.length rs rfl rfl rfl ?_ ?_ ?_ ?_ ?_ ?_ ?_)
        · exact Hlr.out
        · exact owns_nil _ _ _ _ _
        · exact hR.row.below (below_box1 _ _ _) hN
        all_goals try omega
        · intro A1 c1 w1 ho1 hg1 hk1
          have hb1 := (Below.refl (w.heap.size + 1) (box1 w (flc own.e own.l own.i own.c own.base X own.slots.length cX Y own.have_.length cY) 39)).grown hg1 (by simp) (by intro k hk; simp [blk] at hk)
          have hlo1 := ho1.lo
          obtain ⟨hb10, hc1, -, hs1⟩ := box1_facts hb1
          clear hg1 hk1
          have hc10 := hc1 0
          have hc11 := hc1 1
          have hc12 := hc1 2
          have hc13 := hc1 3
          have hc14 := hc1 4
          have hc15 := hc1 5
          have hc16 := hc1 6
          simp [flc] at hc10 hc11 hc12 hc13 hc14 hc15 hc16
          clear hc1
          go_wp2_with (at_builtin; refine wpList_append_rows _ rfl (.tmp 33) (.tmp 35) 22 rfl (w.heap.size + 1) 39 7 88 _ Try.underlying22 info39 rfl (by decide) eRw len_eRw one_eRw A1 c1 rs (some ⟨w1.heap.size, 0, none⟩) 1 (w1.heap.size + 1) fs.length 1 [⟨own, X, cX, Y, cY⟩] rfl rfl ?_ ?_ ?_ ?_ ?_ ?_ ?_ ?_)
          · exact Hlr.out
          · rfl
          · exact ho1.alloc _
          · exact row_new _ _ _ _ _ _ rfl
          all_goals try omega
          all_goals try (simp only [World.size_alloc]; omega)
          · intro A2 c2 w2 ho2 hg2 hk2
            have hB2 := (hb1.alloc (by omega) (.cells #[.int .i64 own.e, .int .i64 own.l, .int .i64 own.i, .int .i64 own.c, .int .i64 own.base, .slice X own.slots.length cX, .slice Y own.have_.length cY] 39)).grown hg2 (by simp only [World.size_alloc]; omega) (fun k hk => (hlo1 k hk).1)
            obtain ⟨hb20, hc2, -, hs2⟩ := box1_facts hB2
            have hfl : Fls w2 w2.heap.size A2 (fs ++ [own]) := by
              have hx : Rws w2 w2.heap.size A2 (rs ++ [⟨own, X, cX, Y, cY⟩]) := ⟨ho2.row len_eRw, fun r hr' => by
                rcases List.mem_append.1 hr' with h | h
                · exact ((hR.each r h).below hb20 hN).more (by omega)
                · obtain rfl := List.mem_singleton.1 h
                  exact (hr.below hb20 hN).more (by omega)⟩
              have := rows_fls hx
              rw [List.map_append, hrs.out] at this; exact this
            have hLM : ∀ m, Together (fs ++ [own]) m → ListedMore fs [own] m := fun m h => by unfold ListedMore; rw [if_pos ⟨h3a, h3b⟩]; exact h
            have hlen : fs.length + 1 = (fs ++ [own]).length := by simp
            have hmem : own ∈ fs ++ [own] := by simp
            have HLI : ∀ l n, Hid (LacksIs done own fs l n ↔ LacksIs done own fs l n) := fun _ _ => (Iff.rfl : _ ↔ _)
            have hPE : ∀ n, n ≠ 0 → Together (fs ++ [own]) n → LacksIs done own fs [] n := fun n hn h => by unfold LacksIs; rw [if_pos (by omega)]; exact .inl ⟨n, hn, hLM n h, rfl, rfl⟩
            have hPF : Together (fs ++ [own]) 0 → done < baseOf (fs ++ [own]) → LacksIs done own fs [] 82 := fun h hlt => by unfold LacksIs; rw [if_pos (by omega)]; exact .inr (.inl ⟨hLM 0 h, fit_iff.1 h, hlt, rfl, rfl⟩)
            have hPO : Together (fs ++ [own]) 0 → baseOf (fs ++ [own]) ≤ done → ∀ cut, IsCut (fs ++ [own]) cut → LacksIs done own fs (pickTo (knownF (fs ++ [own])) (fun s => !havB own.have_ s.1 s.2) done (cut - done).toNat) 0 := fun h hge cut hc => by unfold LacksIs; rw [if_pos (by omega)]; exact .inr (.inr ⟨hLM 0 h, fit_iff.1 h, hge, rfl, cut, _, hc, knownF_iff (fit_iff.1 h), rfl⟩)
            clear HLI hLM
            rw [hlen]
            have hl2 : (fs ++ [own]).length ≤ 17 := by simp; omega
            clear hlen ho1 ho2 hg2 hk2 hb1 hlo1 hb10 hs1 hc10 hc11 hc12 hc13 hc14 hc15 hc16 hR hrs Hlr
            replace hPE := Lib.hid hPE
            replace hPF := Lib.hid hPF
            replace hPO := Lib.hid hPO
            generalize fs ++ [own] = fs2 at *
            go_wp2_with (go_at_call 29; refine (together_any A2 c2 w2.heap.size fs2 _ (Nat.le_refl _) hfl (by omega)).mono ?_; rintro e w3 ⟨⟨n, rfl, hn⟩, hbw⟩; replace hn := Lib.hid hn)
            · go_ret2
              go_light
              have h0 := ‹(n != 0) = true›
              exact lacks_none (hPE.out n (by simpa using h0) hn.out) (hb20.trans (hbw.mono (by omega)))
            · have h0 := ‹(n != 0) = false›
              obtain rfl : n = 0 := by simpa using h0
              have hsz3 := hbw.size
              have hfl3 := hfl.below hbw (Nat.le_refl _)
              have hb30 := hb20.trans (hbw.mono (by omega))
              have hB3 := hB2.trans (hbw.mono (by omega))
              have HFit := Lib.hid (fit_iff.1 hn.out)
              have hbp := base_nonneg fs2
              have hbq := base_le HFit.out.sound
              clear hB2 hb20 hc2 hfl hbw
              refine (base_any A2 c2 w2.heap.size fs2 w3 hfl3 (by omega)).mono ?_
              rintro e w4 ⟨rfl, rfl⟩
              by_cases hlt : done < baseOf fs2
              · go_wp2
                go_ret2
                go_light
                exact lacks_none (hPF.out hn.out hlt) hb30
              · have hge : baseOf fs2 ≤ done := by omega
                go_wp2_with (go_at_call 54; refine (end_any A2 c2 w2.heap.size fs2 w3 (by omega) hfl3 (by omega) (fun f hf => ⟨(HFit.out.sound f hf).base0, by have := (HFit.out.sound f hf).base; omega⟩) hbp (fun n h => cut_bound HFit.out h)).mono ?_; rintro e w4 ⟨⟨cut, rfl, hcut⟩, hbw4⟩; have hcb := cut_bound HFit.out (n := (cut - baseOf fs2).toNat) (fun p h1 h2 => hcut.all p h1 (by have := hcut.low; omega)); have hlow := hcut.low)
                have hKn : ∀ pos, baseOf fs2 < pos → pos ≤ cut → ∃ s : Int × Int, knownF fs2 pos = some s ∧ atOf fs2 pos = s ∧ rhasB own.have_ s.1 s.2 = havB own.have_ s.1 s.2 := fun pos h1 h2 => by
                  obtain ⟨s, hs, -⟩ := (whole_iff HFit.out).1 (hcut.all pos h1 h2)
                  exact ⟨s, (knownF_iff HFit.out pos s).2 hs, atOf_known HFit.out hs, had_rhas HFit.out hs hmem⟩
                have hPO' := hPO.out hn.out hge cut hcut
                have hbs : ∀ f ∈ fs2, 0 ≤ f.base ∧ f.base ≤ 4611686018427387904 := fun f hf => ⟨(HFit.out.sound f hf).base0, by have := (HFit.out.sound f hf).base; omega⟩
                obtain ⟨p, hp0⟩ : ∃ p : Int × Int → Bool, p = fun s => !havB own.have_ s.1 s.2 := ⟨_, rfl⟩
                obtain ⟨F, hF0⟩ : ∃ F, F = knownF fs2 := ⟨_, rfl⟩
                rw [← hp0, ← hF0] at hPO'
                rw [← hF0] at hKn
                have hpq : ∀ s, p s = !havB own.have_ s.1 s.2 := fun s => by rw [hp0]
                replace hPO' := Lib.hid hPO'
                replace hbs := Lib.hid hbs
                have hsz4 := hbw4.size
                have hfl4 := hfl3.below hbw4 (by omega)
                have hB4 := hB3.trans (hbw4.mono (by omega))
                clear hPO hPF hPE hp0 hF0 hcut hfl3 hB3 hb30 hbw4
                go_loopw [10, 12] (fun a b wr => ∃ (q : Nat) (B : Option Addr) (cB m : Nat), b = .int .i64 (done + q) ∧ a = .slice B m cB ∧ m = (pickTo F p done q).length ∧ q ≤ (cut - done).toNat ∧ Owns wr w.heap.size 66 2 eSlot B cB (pickTo F p done q) ∧ m ≤ q ∧ Below w4.heap.size w4 wr) (fun _ b _ => (cut - intOf b).toNat)
                case atStart => exact ⟨0, none, 0, 0, by simp, rfl, rfl, by omega, owns_nil _ _ _ _ _, by omega, Below.refl _ _⟩
                case round =>
                  obtain ⟨q, B, cB, m, rfl, rfl, hm, hq, hown, hmq, hb⟩ := hrel
                  replace hm := Lib.hid hm
                  have hlo := hown.lo
                  have hszr := hb.size
                  by_cases hlt : done + q < cut
                  · obtain ⟨⟨x, y⟩, hs, hat, hrh⟩ := hKn (done + q + 1) (by omega) (by omega)
                    have hpk : pickTo F p done (q + 1) = if p (x, y) = true then ins (pickTo F p done q) (x, y) else pickTo F p done q := by rw [pickTo, show done + 1 + (q : Int) = done + q + 1 by omega, hs]
                    have hflr := hfl4.below hb (by omega)
                    have hBr := hB4.trans (hb.mono (by omega))
                    cases hh : havB own.have_ x y with
                    | false =>
                      have hp : p (x, y) = true := by rw [hpq]; simp [hh]
                      rw [hp, if_pos rfl] at hpk
                      replace hpk := Lib.hid hpk
                      rw [hh] at hrh
                      replace hrh := Lib.hid hrh
                      go_wp2_with (go_at_call 31; refine (at_any A2 c2 w2.heap.size fs2 (done + q + 1) wr (by omega) hflr (by omega) (by omega) (by omega) hbs.out).mono ?_; rintro e w5 ⟨rfl, hbw5⟩; rw [hat]; have hs6 := hbw5.size; have hB5 := hBr.trans (hbw5.mono (by omega)); obtain ⟨hb50, hc5, -, hs5⟩ := box1_facts hB5; obtain ⟨k0, k1, k2, k3, k4, k5, k6⟩ := flc_cells hc5; clear hc5; have hr5 := hr.below hb50 hN; have hown5 := hown.keep hbw5 (fun k hk => (hlo k hk).2))
                      have hr6 : RowAt (w5.alloc (.cells #[.int .i64 x, .int .i64 y] 66)) N 1 eInt Y own.have_ := hr5.have_.below ((Below.refl w5.heap.size w5).alloc (Nat.le_refl _) _) (by omega)
                      have hown6 := hown5.alloc (.cells #[.int .i64 x, .int .i64 y] 66)
                      have hb6 := ((hb.trans (hbw5.mono (by omega))).alloc (by omega) (.cells #[.int .i64 x, .int .i64 y] 66))
                      refine (rhas_any own.e own.l own.i own.c own.base (.slice X own.slots.length cX) Y cY N own.have_ x y _ (Nat.le_trans hr5.lenH hr5.capH) (by simp only [World.size_alloc]; omega) hr6).mono ?_
                      rintro e w7 ⟨rfl, hbw7⟩
                      rw [hrh.out]
                      simp only [World.size_alloc] at hbw7
                      have hown7 := hown6.keep (B := w5.heap.size + 1) hbw7 (fun k hk => by have := (hlo k hk).2; omega)
                      have hb7 := hb6.trans (hbw7.mono (by omega))
                      have hs7 := hbw7.size
                      simp only [World.size_alloc] at hs7
                      have hrow7 := hown7.row len_eSlot
                      have hcs7 : ∀ i, w7.cell? ⟨w5.heap.size, i, none⟩ = #[Value.int .i64 x, Value.int .i64 y][i]? := fun i => by
                        rw [hbw7.cell (p := ⟨w5.heap.size, i, none⟩) (by show w5.heap.size < _; omega)]
                        exact World.cell?_alloc_at _ _ _ _ rfl
                      have hpk' := hpk.out
                      have hm' := hm.out
                      clear hpk hm hown hown5 hown6 hown7
                      generalize pickTo F p done q = L at hpk' hm' hrow7
                      replace hpk' := Lib.hid hpk'
                      have hm := Lib.hid hm'
                      clear hm'
                      have hS := Lib.hid (sorted_any B cB w7.heap.size L x y w7 (Nat.le_refl _) hrow7 (by have := hm.out; omega))
                      rw [← hm.out] at hS
                      go_wp2_with (go_at_call 63; refine hS.out.mono ?_; rintro e w8 ⟨⟨B8, c8, rfl, hown8⟩, hbw8⟩)
                      have hown9 := hown8.lower (base' := w.heap.size) (by omega)
                      have hb8 := hb7.trans (hbw8.mono (by omega))
                      refine ⟨⟨q + 1, B8, c8, m + 1, by rw [show ((q + 1 : Nat) : Int) = q + 1 by omega]; congr 1; omega, rfl, by rw [hpk'.out, ins_length, ← hm.out], by omega, by rw [hpk'.out]; exact hown9, by omega, hb8⟩, by simp [intOf]; omega⟩
                    | true =>
                      have hp : p (x, y) = false := by rw [hpq]; simp [hh]
                      rw [hp, if_neg (by simp)] at hpk
                      replace hpk := Lib.hid hpk
                      rw [hh] at hrh
                      replace hrh := Lib.hid hrh
                      go_wp2_with (go_at_call 31; refine (at_any A2 c2 w2.heap.size fs2 (done + q + 1) wr (by omega) hflr (by omega) (by omega) (by omega) hbs.out).mono ?_; rintro e w5 ⟨rfl, hbw5⟩; rw [hat]; have hs6 := hbw5.size; have hB5 := hBr.trans (hbw5.mono (by omega)); obtain ⟨hb50, hc5, -, hs5⟩ := box1_facts hB5; obtain ⟨k0, k1, k2, k3, k4, k5, k6⟩ := flc_cells hc5; clear hc5; have hr5 := hr.below hb50 hN; have hown5 := hown.keep hbw5 (fun k hk => (hlo k hk).2))
                      have hr6 : RowAt (w5.alloc (.cells #[.int .i64 x, .int .i64 y] 66)) N 1 eInt Y own.have_ := hr5.have_.below ((Below.refl w5.heap.size w5).alloc (Nat.le_refl _) _) (by omega)
                      have hown6 := hown5.alloc (.cells #[.int .i64 x, .int .i64 y] 66)
                      have hb6 := ((hb.trans (hbw5.mono (by omega))).alloc (by omega) (.cells #[.int .i64 x, .int .i64 y] 66))
                      refine (rhas_any own.e own.l own.i own.c own.base (.slice X own.slots.length cX) Y cY N own.have_ x y _ (Nat.le_trans hr5.lenH hr5.capH) (by simp only [World.size_alloc]; omega) hr6).mono ?_
                      rintro e w7 ⟨rfl, hbw7⟩
                      rw [hrh.out]
                      simp only [World.size_alloc] at hbw7
                      have hown7 := hown6.keep (B := w5.heap.size + 1) hbw7 (fun k hk => by have := (hlo k hk).2; omega)
                      have hb7 := hb6.trans (hbw7.mono (by omega))
                      have hs7 := hbw7.size
                      simp only [World.size_alloc] at hs7
                      go_wp2
                      refine ⟨⟨q + 1, B, cB, m, by rw [show ((q + 1 : Nat) : Int) = q + 1 by omega]; congr 1; omega, rfl, by rw [hpk.out]; exact hm.out, by omega, by rw [hpk.out]; exact hown7, by omega, hb7⟩, by simp [intOf]; omega⟩
                  · go_wp2
                    have hqe : q = (cut - done).toNat := by omega
                    subst hqe
                    have hm' := hm.out
                    subst hm'
                    replace hown := Lib.hid hown
                    go_ret2
                    go_light
                    exact ⟨⟨B, cB, _, 0, rfl, hPO'.out, hown.out⟩, (box1_facts (hB4.trans (hb.mono (by omega)))).1⟩
      · have HL : Hid (LacksIs done own fs [] 1) := by
          show (if _ then _ else _); rw [if_pos (by omega)]
          exact .inl ⟨1, by decide, by unfold ListedMore; rw [if_neg h3], rfl, rfl⟩
        by_cases h4 : fs.length < 1
        · go_enter Try.func25, Try.ntmps25
          go_wp2
          go_ret2
          go_light
          exact lacks_none HL.out (below_box1 _ _ _)
        · have h5 : 16 < fs.length := by omega
          go_enter Try.func25, Try.ntmps25
          go_wp2
          go_ret2
          go_light
          exact lacks_none HL.out (below_box1 _ _ _)
end Go.Proofs.Ytcffhfcjfjfokaa
/- The numbers of the nodes whose contents they are. Plain words, no program in sight. -/
namespace Go.Proofs.Ytcffhfcjfjfokaa
open Go.RowKit
/-- Each a node's number, no two alike. -/
def nodeIn (x : Int) : Prop := 0 ≤ x ∧ x < 16
def WhoOk (who : List Int) : Prop := (∀ x ∈ who, nodeIn x) ∧ who.Nodup
/-- The place of a node in the first k of a list; -1: it is not there. -/
def PlTo (who : List Int) (t : Int) (k : Nat) (r : Int) : Prop := (r = -1 ∧ upto (fun x => x ≠ t) who k) ∨ (∃ i : Nat, i < k ∧ who[i]? = some t ∧ r = i)
theorem plTo_zero (who : List Int) (t : Int) : PlTo who t 0 (-1) := .inl ⟨rfl, upto_zero _ _⟩
theorem plTo_skip {who : List Int} {t x : Int} {k : Nat} {r : Int} (h : PlTo who t k r) (hx : who[k]? = some x) (hne : x ≠ t) : PlTo who t (k + 1) r := by
  rcases h with ⟨rfl, hu⟩ | ⟨i, hi, hw, rfl⟩
  · exact .inl ⟨rfl, upto_succ hu (fun y hy => by rw [hx] at hy; cases hy; exact hne)⟩
  · exact .inr ⟨i, by omega, hw, rfl⟩
theorem plTo_here {who : List Int} {t : Int} {k : Nat} (hx : who[k]? = some t) : PlTo who t (k + 1) k := .inr ⟨k, by omega, hx, rfl⟩
def PlaceIs (who : List Int) (t r : Int) : Prop := (∃ i : Nat, WhoOk who ∧ who[i]? = some t ∧ r = i) ∨ (r = -1 ∧ ¬ (WhoOk who ∧ t ∈ who))
theorem place_bad {who : List Int} {t : Int} (h : ¬ WhoOk who) : PlaceIs who t (-1) := .inr ⟨rfl, fun k => h k.1⟩
theorem bad_in {who : List Int} {q : Nat} {x : Int} (hx : who[q]? = some x) (h : x < 0 ∨ 16 ≤ x) : ¬ WhoOk who := fun k => by
  have := k.1 x (List.mem_of_getElem? hx); unfold nodeIn at this; omega
theorem bad_twice {who : List Int} {q j : Nat} {x : Int} (hx : who[q]? = some x) (hy : who[j]? = some x) (h : j < q) : ¬ WhoOk who := fun k =>
  apart_of_nodup k.2 (by omega : j ≠ q) hy hx
theorem who_ok {who : List Int} {q : Nat} (h1 : upto nodeIn who q) (h2 : apartTo who q) (hq : who.length ≤ q) : WhoOk who := ⟨upto_all h1 hq, nodup_of_apart h2 hq⟩
theorem place_all {who : List Int} {t : Int} {q : Nat} {r : Int} (h1 : upto nodeIn who q) (h2 : apartTo who q) (h : PlTo who t q r) (hq : who.length ≤ q) : PlaceIs who t r := by
  rcases h with ⟨rfl, hu⟩ | ⟨i, hi, hw, rfl⟩
  · exact .inr ⟨rfl, fun k => upto_all hu hq t k.2 rfl⟩
  · exact .inl ⟨i, who_ok h1 h2 hq, hw, rfl⟩

/-- The place of the lowest node of the first k that has what is asked for; -1: none has. hs: who has it. -/
def LowTo (who : List Int) (hs : List Bool) (k : Nat) (r : Int) : Prop :=
  (r = -1 ∧ ∀ j, j < k → hs[j]? ≠ some true) ∨ (∃ (i : Nat) (x : Int), i < k ∧ hs[i]? = some true ∧ who[i]? = some x ∧ r = i ∧ ∀ j y, j < k → hs[j]? = some true → who[j]? = some y → x ≤ y)
theorem lowTo_zero (who : List Int) (hs : List Bool) : LowTo who hs 0 (-1) := .inl ⟨rfl, fun j hj => by omega⟩
theorem lowTo_skip {who : List Int} {hs : List Bool} {k : Nat} {r : Int} (h : LowTo who hs k r) (hx : hs[k]? = some false) : LowTo who hs (k + 1) r := by
  rcases h with ⟨rfl, hu⟩ | ⟨i, x, hi, h1, h2, rfl, hu⟩
  · refine .inl ⟨rfl, fun j hj => ?_⟩
    by_cases e : j = k
    · subst e; rw [hx]; simp
    · exact hu j (by omega)
  · refine .inr ⟨i, x, by omega, h1, h2, rfl, fun j y hj hj1 hj2 => ?_⟩
    by_cases e : j = k
    · subst e; rw [hx] at hj1; simp at hj1
    · exact hu j y (by omega) hj1 hj2
theorem lowTo_first {who : List Int} {hs : List Bool} {k : Nat} {x : Int} (h : LowTo who hs k (-1)) (hx : hs[k]? = some true) (hw : who[k]? = some x) : LowTo who hs (k + 1) k := by
  rcases h with ⟨_, hu⟩ | ⟨i, x', hi, h1, h2, e, hu⟩
  · refine .inr ⟨k, x, by omega, hx, hw, rfl, fun j y hj hj1 hj2 => ?_⟩
    by_cases e : j = k
    · subst e; rw [hw] at hj2; cases hj2; omega
    · exact absurd hj1 (hu j (by omega))
  · omega
theorem lowTo_less {who : List Int} {hs : List Bool} {k i : Nat} {x y : Int} (h : LowTo who hs k i) (hy : who[i]? = some y) (hx : hs[k]? = some true) (hw : who[k]? = some x) (hlt : x < y) : LowTo who hs (k + 1) k := by
  rcases h with ⟨e, hu⟩ | ⟨i', x', hi, h1, h2, e, hu⟩
  · omega
  · obtain rfl : i' = i := by omega
    rw [hy] at h2; cases h2
    refine .inr ⟨k, x, by omega, hx, hw, rfl, fun j z hj hj1 hj2 => ?_⟩
    by_cases e : j = k
    · subst e; rw [hw] at hj2; cases hj2; omega
    · have := hu j z (by omega) hj1 hj2; omega
theorem lowTo_stay {who : List Int} {hs : List Bool} {k i : Nat} {x y : Int} (h : LowTo who hs k i) (hy : who[i]? = some y) (hw : who[k]? = some x) (hle : y ≤ x) : LowTo who hs (k + 1) i := by
  rcases h with ⟨e, hu⟩ | ⟨i', x', hi, h1, h2, e, hu⟩
  · omega
  · obtain rfl : i' = i := by omega
    rw [hy] at h2; cases h2
    refine .inr ⟨i', y, by omega, h1, hy, rfl, fun j z hj hj1 hj2 => ?_⟩
    by_cases e : j = k
    · subst e; rw [hw] at hj2; cases hj2; omega
    · exact hu j z (by omega) hj1 hj2

/-- The places' table, behind the first k: by node, its place in the list, from 1 on; 0: it is not there. -/
structure PlArr (who : List Int) (k : Nat) (arr : List Int) : Prop where
  len : arr.length = 16
  put : ∀ (i : Nat) (x : Int), i < k → who[i]? = some x → 0 ≤ x ∧ x < 16 ∧ arr[x.toNat]? = some ((i : Int) + 1)
  get : ∀ (p : Nat) (v : Int), arr[p]? = some v → v = 0 ∨ ∃ i : Nat, i < k ∧ v = i + 1 ∧ who[i]? = some (p : Int)
theorem plArr_zero (who : List Int) : PlArr who 0 (List.replicate 16 0) := ⟨rfl, fun i x h => by omega, fun p v h => by
  left; have := List.mem_of_getElem? h; exact List.eq_of_mem_replicate this⟩
theorem plArr_succ {who : List Int} {k p : Nat} {arr : List Int} (h : PlArr who k arr) (hx : who[k]? = some (p : Int)) (hp : p < 16) (h0 : arr[p]? = some 0) : PlArr who (k + 1) (arr.set p ((k : Int) + 1)) := by
  refine ⟨by rw [List.length_set]; exact h.len, fun i x hi hw => ?_, fun p' v hv => ?_⟩
  · by_cases e : i = k
    · subst e; rw [hx] at hw; cases hw
      refine ⟨by omega, by omega, ?_⟩
      rw [Int.toNat_natCast, List.getElem?_set_self (by rw [h.len]; exact hp)]
    · obtain ⟨a, b, c⟩ := h.put i x (by omega) hw
      refine ⟨a, b, ?_⟩
      rw [List.getElem?_set_ne]
      · exact c
      · intro e2; subst e2; rw [c] at h0; simp at h0; omega
  · by_cases e : p' = p
    · subst e
      rw [List.getElem?_set_self (by rw [h.len]; exact hp)] at hv
      cases hv
      exact .inr ⟨k, by omega, rfl, hx⟩
    · rw [List.getElem?_set_ne (fun e2 => e e2.symm)] at hv
      rcases h.get p' v hv with h | ⟨i, hi, a, b⟩
      · exact .inl h
      · exact .inr ⟨i, by omega, a, b⟩
theorem PlArr.apart {who : List Int} {k p : Nat} {arr : List Int} (h : PlArr who k arr) (hx : who[k]? = some (p : Int)) (h0 : arr[p]? = some 0) : upto (fun x => who[k]? ≠ some x) who k := by
  intro j y hj hy e
  rw [hx] at e; cases e
  obtain ⟨_, _, c⟩ := h.put j _ hj hy
  rw [Int.toNat_natCast, h0] at c
  simp at c; omega
theorem PlArr.twice {who : List Int} {k p : Nat} {arr : List Int} {v : Int} (h : PlArr who k arr) (hx : who[k]? = some (p : Int)) (hv : arr[p]? = some v) (h0 : v ≠ 0) : ¬ WhoOk who := by
  rcases h.get p v hv with e | ⟨i, hi, a, b⟩
  · exact absurd e h0
  · exact bad_twice hx b hi
/-- A node in the table: its place. -/
theorem PlArr.here {who : List Int} {arr : List Int} {p : Nat} {v : Int} (h : PlArr who who.length arr) (hv : arr[p]? = some v) (h0 : v ≠ 0) : ∃ i : Nat, v = i + 1 ∧ who[i]? = some (p : Int) ∧ i < who.length := by
  rcases h.get p v hv with e | ⟨i, hi, a, b⟩
  · exact absurd e h0
  · exact ⟨i, a, b, hi⟩
theorem PlArr.gone {who : List Int} {arr : List Int} {p : Nat} (h : PlArr who who.length arr) (hv : arr[p]? = some 0) : (p : Int) ∉ who := fun hm => by
  obtain ⟨i, hi, e⟩ := List.getElem_of_mem hm
  obtain ⟨_, _, c⟩ := h.put i p hi (by rw [List.getElem?_eq_getElem hi, e])
  rw [Int.toNat_natCast, hv] at c; simp at c; omega
end Go.Proofs.Ytcffhfcjfjfokaa
/- The document's place. -/
namespace Go.Proofs.Ytcffhfcjfjfokaa
open Go.RowKit
theorem RowAt.intAt {w : World} {N g o : Nat} {l : List Int} (h : RowAt w N 1 eInt (some ⟨g, o, none⟩) l) {k : Nat} (hk : k < l.length) : ∃ x, Hid (l[k]? = some x) ∧ w.cell? ⟨g, o + k, none⟩ = some (.int .i64 x) := by
  obtain ⟨b, off, x, e, _, hx, hc⟩ := h.int hk
  injection e with e; injection e with e1 e2; subst e1 e2
  exact ⟨x, hx, hc⟩
set_option maxHeartbeats 2000000 in
theorem place_any (A : Option Addr) (cA N : Nat) (who : List Int) (t : Int) (w : World) (hN : N ≤ w.heap.size) (hA : RowAt w N 1 eInt A who) (hl : who.length ≤ 9223372036854775807) :
    Calls Try.prog 69 #[.slice A who.length cA, .int .i64 t] w fun x w' => (∃ r, x = .returned (.int .i64 r) ∧ PlaceIs who t r) ∧ Below w.heap.size w w' := by
  go_enter Try.func69, Try.ntmps69
  go_wp2
  go_loopw [5, 6] (fun a k wr => ∃ (q : Nat) (r : Int), k = .int .i64 q ∧ a = .int .i64 r ∧ q ≤ who.length ∧ PlTo who t q r ∧ upto nodeIn who q ∧ apartTo who q ∧ Below w.heap.size w wr) (fun _ k _ => who.length - (intOf k).toNat)
  case atStart => exact ⟨0, -1, rfl, rfl, by omega, plTo_zero _ _, upto_zero _ _, apartTo_zero _, Below.refl _ _⟩
  case round =>
    obtain ⟨q, r, rfl, rfl, hq, hpl, hup, hap, hb⟩ := hrel
    replace hpl := Lib.hid hpl
    replace hup := Lib.hid hup
    replace hap := Lib.hid hap
    by_cases hlt : q < who.length
    · obtain ⟨g, o, x, rfl, hg, hx, hc⟩ := (hA.below hb hN).int hlt
      by_cases h0 : x < 0
      · go_wp2
        go_ret
        exact ⟨⟨-1, rfl, place_bad (bad_in hx.out (.inl h0))⟩, hb⟩
      · by_cases h1 : 16 ≤ x
        · go_wp2
          go_ret
          exact ⟨⟨-1, rfl, place_bad (bad_in hx.out (.inr h1))⟩, hb⟩
        · have hup' := Lib.hid (upto_succ (p := nodeIn) hup.out (fun z hz => by rw [hx.out] at hz; cases hz; unfold nodeIn; omega))
          go_wp2
          obtain ⟨wo, hwo⟩ : ∃ wo : World, wo = wr := ⟨_, rfl⟩
          subst hwo
          go_loopw [7] (fun k wr => ∃ j : Nat, k = .int .i64 j ∧ j ≤ q ∧ upto (fun y => who[q]? ≠ some y) who j ∧ Below w.heap.size w wr) (fun k _ => q - (intOf k).toNat)
          case atStart => exact ⟨0, rfl, by omega, upto_zero _ _, hb⟩
          case round =>
            obtain ⟨j, rfl, hj, hja, hb1⟩ := hrel
            replace hja := Lib.hid hja
            have hA1 := hA.below hb1 hN
            obtain ⟨x2, hx2, hc2⟩ := hA1.intAt hlt
            obtain rfl : x = x2 := by have := hx2.out; rw [hx.out] at this; injection this
            have hsz1 := hb1.size
            clear hc
            by_cases hjq : j < q
            · obtain ⟨y, hy, hcy⟩ := hA1.intAt (k := j) (by omega)
              have hjl : j < who.length := by omega
              by_cases hyx : y = x
              · subst hyx
                go_wp2
                go_quiet (fail)
                go_wp2
                go_ret
                exact ⟨⟨-1, rfl, place_bad (bad_twice hx.out hy.out hjq)⟩, below_drewN hb1 _⟩
              · go_wp2
                go_quiet (fail)
                go_wp2
                go_roundw
                case rel => go_light; exact ⟨j + 1, by go_num, by omega, upto_succ hja.out (fun z hz => by rw [hy.out] at hz; cases hz; rw [hx.out]; intro e; injection e with e; exact hyx e.symm), below_drewN hb1 _⟩
                case measure => go_light; simp [intOf]; omega
            · have hap' := Lib.hid (apartTo_succ hap.out (by have : q = j := by omega
                                                             subst this; exact hja.out))
              by_cases hxt : x = t
              · subst hxt
                go_wp2
                go_roundw
                case rel => go_light; exact ⟨q + 1, (q : Int), by go_num, by go_num, by omega, plTo_here hx.out, hup'.out, hap'.out, hb1⟩
                case measure => go_light; simp [intOf]; omega
              · go_wp2
                go_roundw
                case rel => go_light; exact ⟨q + 1, r, by go_num, rfl, by omega, plTo_skip hpl.out hx.out hxt, hup'.out, hap'.out, hb1⟩
                case measure => go_light; simp [intOf]; omega
    · have hq' := Lib.hid (place_all hup.out hap.out hpl.out (by omega))
      go_wp2
      go_ret
      exact ⟨⟨r, rfl, hq'.out⟩, hb⟩
end Go.Proofs.Ytcffhfcjfjfokaa
