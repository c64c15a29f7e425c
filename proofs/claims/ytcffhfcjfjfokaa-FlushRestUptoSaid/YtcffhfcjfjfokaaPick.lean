import Derived.Test.YtcffhfcjfjfokaaShift
import Derived.Test.YtcffhfcjfjfokaaShiftTo
import Derived.Test.YtcffhfcjfjfokaaIcut
import Derived.StillTailTactics
import Derived.IntWalk
namespace Go.Proofs.Ytcffhfcjfjfokaa
open Go.RowKit
/-- The wanted slots of the q positions behind 'behind', by rising sender and number. -/
def pickTo (F : Int → Option (Int × Int)) (p : Int × Int → Bool) (behind : Int) : Nat → List (Int × Int)
  | 0 => []
  | q + 1 => match F (behind + 1 + q) with
    | some s => if p s = true then ins (pickTo F p behind q) s else pickTo F p behind q
    | none => pickTo F p behind q
theorem rises_pick (F : Int → Option (Int × Int)) (p : Int × Int → Bool) (behind : Int) : ∀ q, Rises (pickTo F p behind q)
  | 0 => List.Pairwise.nil
  | q + 1 => by
    rw [pickTo]
    split
    · split
      · exact rises_ins (rises_pick F p behind q) _
      · exact rises_pick F p behind q
    · exact rises_pick F p behind q
set_option maxRecDepth 100000 in
set_option maxHeartbeats 4000000 in
theorem pick_60 (x0 : Value) (bs bu n : Nat) (base cut behind : Int) (F : Int → Option (Int × Int)) (p : Int × Int → Bool) (w : World)
    (hu : w.heap[bs]? = some (.cells #[.int .i64 base, .int .i64 cut, .map (some bu)] 119 (0, 0))) (hM : MapsTo w Try.prog 3 bu n vInt vSlot F)
    (hb0 : 0 ≤ behind) (hb1 : behind ≤ 4611686018427387904) (hcut : cut ≤ 4611686018427387904) (hfew : cut - behind ≤ 4096)
    (hF : ∀ pos, behind < pos → pos ≤ cut → ∃ s, F pos = some s)
    (HC : ∀ (s : Int × Int) (W : World), Below w.heap.size w W → (∃ pos, behind < pos ∧ pos ≤ cut ∧ F pos = some s) → Calls Try.prog 60 #[.agg #[.int .i64 s.1, .int .i64 s.2], x0] W fun e W' => e = .returned (.bool (p s)) ∧ Below W.heap.size W W') :
    Calls Try.prog 59 #[.pointer (some ⟨bs, 0, none⟩), .int .i64 behind, .func (.func 60) #[] #[x0]] w fun x w' => (∃ B c, x = .returned (.slice B (pickTo F p behind (cut - behind).toNat).length c) ∧ Owns w' w.heap.size 66 2 eSlot B c (pickTo F p behind (cut - behind).toNat)) ∧ Below w.heap.size w w' := by
  have hcu := blk_cells hu
  go_enter Try.func59, Try.ntmps59
  go_wp2
  go_loopw [7, 8] (fun a b wr => ∃ (q : Nat) (B : Option Addr) (cB m : Nat), b = .int .i64 (behind + 1 + q) ∧ a = .slice B m cB ∧ m = (pickTo F p behind q).length ∧ q ≤ (cut - behind).toNat ∧ Owns wr w.heap.size 66 2 eSlot B cB (pickTo F p behind q) ∧ m ≤ q ∧ Below w.heap.size w wr) (fun _ b _ => (cut + 1 - intOf b).toNat)
  case atStart => exact ⟨0, none, 0, 0, by simp, rfl, rfl, by omega, owns_nil _ _ _ _ _, by omega, Below.refl _ _⟩
  case round =>
    obtain ⟨q, B, cB, m, rfl, rfl, hm, hq, hown, hmq, hb⟩ := hrel
    replace hm := Lib.hid hm
    have hlo := hown.lo
    have hu' := (hb.block bs (Array.getElem?_eq_some_iff.1 hu).1).trans hu
    have hcu' := blk_cells hu'
    have hM' := hM.keep hb hM.lt
    by_cases hlt : behind + 1 + q ≤ cut
    · obtain ⟨⟨x, y⟩, hs⟩ := hF _ (by omega) hlt
      have hkeyp : ∃ l, keyOf Try.prog 3 (vInt (behind + 1 + q)) = some l := key_int _ (WalkArith.wf_i64 (by omega))
      have hlook := hM'.look lawInt vInt_inj Try.underlying117 (zero66 _) false (behind + 1 + q) hkeyp
      rw [hs] at hlook
      simp only [vInt, vSlot] at hlook
      have hpk : pickTo F p behind (q + 1) = if p (x, y) = true then ins (pickTo F p behind q) (x, y) else pickTo F p behind q := by rw [pickTo, hs]
      have HF : ∃ pos, behind < pos ∧ pos ≤ cut ∧ F pos = some (x, y) := ⟨_, by omega, hlt, hs⟩
      replace HF := Lib.hid HF
      cases hp : p (x, y) with
      | false =>
        rw [hp, if_neg (by simp)] at hpk
        replace hpk := Lib.hid hpk
        go_wp2_with (go_at_call 60; refine (HC (x, y) _ ?_ HF.out).mono ?_; rotate_left; rintro e w2 ⟨rfl, hbw⟩; rw [hp])
        case refine_1 => exact hb.alloc hb.size _
        have hown2 := (hown.alloc (.cells #[.int .i64 x, .int .i64 y] 66)).keep hbw (fun k hk => by have := (hlo k hk).2; simp only [World.size_alloc]; omega)
        have hb2 := (hb.alloc hb.size (.cells #[.int .i64 x, .int .i64 y] 66)).trans (hbw.mono (by simp only [World.size_alloc]; have := hb.size; omega))
        refine ⟨⟨q + 1, B, cB, m, by rw [show ((q + 1 : Nat) : Int) = q + 1 by omega]; congr 1; omega, rfl, by rw [hpk.out]; exact hm.out, by omega, by rw [hpk.out]; exact hown2, by omega, hb2⟩, by simp [intOf]; omega⟩
      | true =>
        rw [hp, if_pos rfl] at hpk
        replace hpk := Lib.hid hpk
        go_wp2_with (go_at_call 60; refine (HC (x, y) _ ?_ HF.out).mono ?_; rotate_left; rintro e w2 ⟨rfl, hbw⟩; rw [hp])
        case refine_1 => exact hb.alloc hb.size _
        have hown2 := (hown.alloc (.cells #[.int .i64 x, .int .i64 y] 66)).keep hbw (fun k hk => by have := (hlo k hk).2; simp only [World.size_alloc]; omega)
        have hb2 := (hb.alloc hb.size (.cells #[.int .i64 x, .int .i64 y] 66)).trans (hbw.mono (by simp only [World.size_alloc]; have := hb.size; omega))
        have hcs : ∀ i, w2.cell? ⟨wr.heap.size, i, none⟩ = #[Value.int .i64 x, Value.int .i64 y][i]? := fun i => by
          rw [hbw.cell (p := ⟨wr.heap.size, i, none⟩) (by simp only [World.size_alloc]; omega)]
          exact World.cell?_alloc_at _ _ _ _ rfl
        have hs2 : wr.heap.size < w2.heap.size := by have := hbw.size; simp only [World.size_alloc] at this; omega
        have hR : Rises (pickTo F p behind q) := rises_pick F p behind q
        replace hpk := hpk.out
        have hm9 := hm.out
        clear hm
        generalize pickTo F p behind q = L at hpk hm9 hown2 hR
        replace hpk := Lib.hid hpk
        replace hR := Lib.hid hR
        have hm := Lib.hid hm9
        clear hm9 hown hbw hcu hu hcu' hu' hM hM' hlook hkeyp HC hF
        obtain ⟨wo, rfl⟩ : ∃ wo : World, wo = wr := ⟨_, rfl⟩
        go_loopw [10] (fun k wr => ∃ a : Nat, k = .int .i64 a ∧ a ≤ m ∧ (∀ j z, a ≤ j → L[j]? = some z → sltB (x, y) z = true) ∧ Below w2.heap.size w2 wr) (fun k _ => (intOf k).toNat)
        case atStart => exact ⟨m, rfl, by omega, fun j z hj hz => by have := (List.getElem?_eq_some_iff.1 hz).1; have := hm.out; omega, Below.refl _ _⟩
        case round =>
          obtain ⟨a, rfl, ha, hup, hbq⟩ := hrel
          have hcq : ∀ i, wr.cell? ⟨wo.heap.size, i, none⟩ = #[Value.int .i64 x, Value.int .i64 y][i]? := fun i => by
            rw [hbq.cell (p := ⟨wo.heap.size, i, none⟩) hs2]; exact hcs i
          have hownq := hown2.keep hbq (fun k hk => by have := (hlo k hk).2; omega)
          replace hup := Lib.hid hup
          by_cases ha0 : a = 0
          · have hlow : ∀ j z, j < a → L[j]? = some z → sltB (x, y) z = false := by intro j z hj; omega
            have hhigh : ∀ z, L[a]? = some z → sltB (x, y) z = true := fun z hz => hup.out a z (by omega) hz
            replace hlow := Lib.hid hlow
            replace hhigh := Lib.hid hhigh
            go_wp2
            go_quiet (fail)
            have hins := Lib.hid (ins_at (l := L) (s := (x, y)) (n := a) hlow.out hhigh.out (by have := hm.out; omega))
            have hownd : Owns (wr.drewN 0) w.heap.size 66 2 eSlot B cB L := hownq
            clear hlow hhigh
            go_wp2_with (at_builtin; refine wpList_append_rows _ rfl (.tmp 70) (.tmp 72) 36 rfl w.heap.size 66 2 16 _ Try.underlying36 info66 rfl (by decide) eSlot len_eSlot one_eSlot B cB L (some ⟨wr.heap.size, 0, none⟩) 1 (wr.heap.size + 1) m 1 [(x, y)] rfl rfl hm.out.symm rfl ?_ ?_ ?_ ?_ ?_ ?_)
            · exact hownq.alloc _
            · exact row_new _ _ _ _ _ _ rfl
            · omega
            · omega
            · simp only [World.size_alloc, size_drewN]; have := hb2.size; have := hbq.size; omega
            · intro A1 c1' w1 ho1 hg1 hk1
              have hbw := (below_drewN hbq nq).alloc (by have := hbq.size; exact this) (.cells #[.int .i64 x, .int .i64 y] 66)
              have hb1 := ((hb2.trans ((below_drewN hbq nq).mono hb2.size)).alloc (by simp only [size_drewN]; have := hb2.size; have := hbq.size; omega) (.cells #[.int .i64 x, .int .i64 y] 66)).grown hg1 (by simp only [World.size_alloc, size_drewN]; have := hb2.size; have := hbq.size; omega) (fun k hk => (hlo k hk).1)
              obtain ⟨g1, cc1, hv1, hgl1, hgh1⟩ := World.ownsRow.form ho1 (by simp)
              obtain ⟨rfl, rfl⟩ : A1 = some ⟨g1, 0, none⟩ ∧ c1' = cc1 := by injection hv1 with h1 _ h2; exact ⟨h1, h2⟩
              clear hv1
              have hgne : g1 ≠ wo.heap.size := by
                rcases hk1 with h | h
                · have := (hlo g1 h.symm).2; omega
                · simp only [blk, Option.map_some, World.size_alloc, size_drewN] at h; injection h with h; have := hbq.size; omega
              have hc1 : ∀ i, w1.cell? ⟨wo.heap.size, i, none⟩ = #[Value.int .i64 x, Value.int .i64 y][i]? := fun i => by
                rw [World.cell?_of_block (hg1.block wo.heap.size (by have := hbw.size; omega) (by intro h; have := (hlo _ h.symm).2; omega))]
                exact (hbw.cell (p := ⟨wo.heap.size, i, none⟩) hs2).trans (hcs i)
              have hs1 : wo.heap.size < w1.heap.size := by have := hbw.size; have := hg1.size; omega
              have hcap := ho1.len
              simp only [List.length_append, List.length_cons, List.length_nil] at hcap
              rw [← hm.out] at hcap
              have ⟨hcap1, hcap2⟩ := hcap
              go_wp2
              have HS1 := fun W => run_from W g1 (m + 1) c1' 1 1 rfl (by omega)
              have HS2 := fun W => run_from W g1 (m + 1) c1' 0 0 rfl (by omega)
              have e2 : IntKind.i64.wrap 1 = 1 := by decide
              go_still_tail 7, (by kernel_rfl)
              change wpList _ _ _ _ _ w1.drew
              have hL1 : (L ++ [(x, y)]).length = m + 1 := by rw [List.length_append, ← hm.out]; rfl
              obtain ⟨w5, hrun, ho5, hg5⟩ := run_copy_up (P := Try.prog) (w := w1.drew) 36 36 3 w.heap.size 66 2 Try.underlying36 size66 eSlot len_eSlot one_eSlot g1 c1' 0 m (L ++ [(x, y)]) (cutOff g1 c1' 1) (cutOff g1 c1' 0) m (c1' - 1) (m + 1) c1' (by omega) (by omega) hL1 (by omega) (fun h => cutOff_at (by omega)) (cutOff_at (by omega)) (show Owns w1.drew _ _ _ _ _ _ _ from ho1)
              have hput := put_at (l := L) (s := (x, y)) (n := 0) (by have := hm.out; omega)
              rw [← hm.out] at hput
              replace hput := Lib.hid hput
              have hL5 : ((L ++ [(x, y)]).take (0 + 1) ++ ((L ++ [(x, y)]).drop 0).take (m - 0)).length = m + 1 := by rw [List.length_append, List.length_take, List.length_take, List.length_drop, hL1]; omega
              generalize (L ++ [(x, y)]).take (0 + 1) ++ ((L ++ [(x, y)]).drop 0).take (m - 0) = L5 at ho5 hL5 hput
              obtain ⟨u0, hk0⟩ := own_cell ho5 (j := 0 * 2) (by omega)
              obtain ⟨u1, hk11⟩ := own_cell ho5 (j := 0 * 2 + 1) (by omega)
              have hk2 : (w5.setCell ⟨g1, 0 * 2, none⟩ (.int .i64 x)).cell? ⟨g1, 0 * 2 + 1, none⟩ = some u1 := by
                rw [World.cell?_setCell_other _ _ _ _ (by simp)]; exact hk11
              have hf5 := own_frozen ho5
              have hb5 := (show Below w.heap.size w w1.drew from hb1.drew).grown hg5 (by have := hb1.size; exact this) (fun k hk => by cases hk; exact hgl1)
              have hcw : ∀ i, w5.cell? ⟨wo.heap.size, i, none⟩ = #[Value.int .i64 x, Value.int .i64 y][i]? := fun i => by
                rw [World.cell?_of_block (hg5.block wo.heap.size hs1 (by intro h; injection h with h; exact hgne h.symm))]
                exact hc1 i
              clear ho1 hg1 hk1 hb1 hcap hownq hownd HS1 HS2 hc1
              clear hk11
              go_wp2
              refine ⟨⟨q + 1, some ⟨g1, 0, none⟩, c1', m + 1, by rw [show ((q + 1 : Nat) : Int) = q + 1 by omega]; congr 1; omega, rfl, by rw [hpk.out, ins_length, ← hm.out], by omega, ?_, by omega, ?_⟩, by simp [intOf]; omega⟩
              · rw [hpk.out, hins.out]
                try rw [ha0]
                rw [← hput.out]; exact ho5.set2 (by omega) (x, y)
              · exact (hb5.setCell hgl1 _).setCell hgl1 _
          · obtain ⟨g, o, x', y', hA9, hg, hx, c0, c1⟩ := (hownq.row len_eSlot).slot (show a - 1 < L.length by have := hm.out; omega)
            have hp1 : 0 < a := by omega
            have hi1 : a - 1 < m := by omega
            have hi2 : ((a - 1 : Nat) : Int) < (m : Int) := by omega
            have hi3 : (0 : Int) < (a : Int) := by omega
            have e1 : IntKind.i64.wrap ((a : Int) - 1) = ((a - 1 : Nat) : Int) := by rw [show (a : Int) - 1 = ((a - 1 : Nat) : Int) by omega]; exact IntWalk.i64_in _ (by omega)
            subst hA9
            by_cases t : sltB (x, y) (x', y') = true
            · have hup' : ∀ j z, a - 1 ≤ j → L[j]? = some z → sltB (x, y) z = true := fun j z hj hz => by
                by_cases hj' : j = a - 1
                · subst hj'; rw [hx.out] at hz; cases hz; exact t
                · exact hup.out j z (by omega) hz
              replace hup' := Lib.hid hup'
              simp only [sltB, decide_eq_true_eq] at t
              by_cases t1 : x < x'
              · clear t
                go_wp2
                go_quiet (fail)
                go_wp2
                clear e1
                go_roundw
                case rel => go_light; exact ⟨a - 1, by go_num, by omega, hup'.out, below_drewN hbq _⟩
                case measure => go_light; simp [intOf]; omega
              · obtain ⟨t2, t3⟩ : x = x' ∧ y < y' := by omega
                clear t
                subst t2
                go_wp2
                go_quiet (fail)
                go_wp2
                clear e1
                go_roundw
                case rel => go_light; exact ⟨a - 1, by go_num, by omega, hup'.out, below_drewN hbq _⟩
                case measure => go_light; simp [intOf]; omega
            · simp only [Bool.not_eq_true] at t
              have hlow : ∀ j z, j < a → L[j]? = some z → sltB (x, y) z = false := by
                have := rises_low hR.out (n := a - 1) (s := (x, y)) (fun z hz => by rw [hx.out] at hz; cases hz; exact t) (by have := hm.out; omega)
                rw [show a - 1 + 1 = a by omega] at this; exact this
              have hhigh : ∀ z, L[a]? = some z → sltB (x, y) z = true := fun z hz => hup.out a z (by omega) hz
              replace hlow := Lib.hid hlow
              replace hhigh := Lib.hid hhigh
              simp only [sltB, decide_eq_false_iff_not] at t
              have t1 : ¬ x < x' := by omega
              by_cases t2 : x = x'
              · subst t2
                have t3 : ¬ y < y' := by omega
                clear t
                go_wp2
                go_quiet (fail)
                clear e1 hi1 hi2 hi3 hp1
                have hins := Lib.hid (ins_at (l := L) (s := (x, y)) (n := a) hlow.out hhigh.out (by have := hm.out; omega))
                have hownd : Owns (wr.drewN 0) w.heap.size 66 2 eSlot (some ⟨g, o, none⟩) cB L := hownq
                clear hlow hhigh
                go_wp2_with (at_builtin; refine wpList_append_rows _ rfl (.tmp 70) (.tmp 72) 36 rfl w.heap.size 66 2 16 _ Try.underlying36 info66 rfl (by decide) eSlot len_eSlot one_eSlot (some ⟨g, o, none⟩) cB L (some ⟨wr.heap.size, 0, none⟩) 1 (wr.heap.size + 1) m 1 [(x, y)] rfl rfl hm.out.symm rfl ?_ ?_ ?_ ?_ ?_ ?_)
                · exact hownq.alloc _
                · exact row_new _ _ _ _ _ _ rfl
                · omega
                · omega
                · simp only [World.size_alloc, size_drewN]; have := hb2.size; have := hbq.size; omega
                · intro A1 c1' w1 ho1 hg1 hk1
                  have hbw := (below_drewN hbq nq).alloc (by have := hbq.size; exact this) (.cells #[.int .i64 x, .int .i64 y] 66)
                  have hb1 := ((hb2.trans ((below_drewN hbq nq).mono hb2.size)).alloc (by simp only [size_drewN]; have := hb2.size; have := hbq.size; omega) (.cells #[.int .i64 x, .int .i64 y] 66)).grown hg1 (by simp only [World.size_alloc, size_drewN]; have := hb2.size; have := hbq.size; omega) (fun k hk => (hlo k hk).1)
                  obtain ⟨g1, cc1, hv1, hgl1, hgh1⟩ := World.ownsRow.form ho1 (by simp)
                  obtain ⟨rfl, rfl⟩ : A1 = some ⟨g1, 0, none⟩ ∧ c1' = cc1 := by injection hv1 with h1 _ h2; exact ⟨h1, h2⟩
                  clear hv1
                  have hgne : g1 ≠ wo.heap.size := by
                    rcases hk1 with h | h
                    · have := (hlo g1 h.symm).2; omega
                    · simp only [blk, Option.map_some, World.size_alloc, size_drewN] at h; injection h with h; have := hbq.size; omega
                  have hc1 : ∀ i, w1.cell? ⟨wo.heap.size, i, none⟩ = #[Value.int .i64 x, Value.int .i64 y][i]? := fun i => by
                    rw [World.cell?_of_block (hg1.block wo.heap.size (by have := hbw.size; omega) (by intro h; have := (hlo _ h.symm).2; omega))]
                    exact (hbw.cell (p := ⟨wo.heap.size, i, none⟩) hs2).trans (hcs i)
                  have hs1 : wo.heap.size < w1.heap.size := by have := hbw.size; have := hg1.size; omega
                  have hcap := ho1.len
                  simp only [List.length_append, List.length_cons, List.length_nil] at hcap
                  rw [← hm.out] at hcap
                  have ⟨hcap1, hcap2⟩ := hcap
                  go_wp2
                  have HS1 := fun W => run_from W g1 (m + 1) c1' (a + 1) (↑a + 1) (by omega) (by omega)
                  have HS2 := fun W => run_from W g1 (m + 1) c1' a ↑a rfl (by omega)
                  have e2 : IntKind.i64.wrap ((a : Int) + 1) = (a : Int) + 1 := IntWalk.i64_in _ (by omega)
                  go_still_tail 7, (by kernel_rfl)
                  change wpList _ _ _ _ _ w1.drew
                  have hL1 : (L ++ [(x, y)]).length = m + 1 := by rw [List.length_append, ← hm.out]; rfl
                  obtain ⟨w5, hrun, ho5, hg5⟩ := run_copy_up (P := Try.prog) (w := w1.drew) 36 36 3 w.heap.size 66 2 Try.underlying36 size66 eSlot len_eSlot one_eSlot g1 c1' a m (L ++ [(x, y)]) (cutOff g1 c1' (a + 1)) (cutOff g1 c1' a) (m - a) (c1' - (a + 1)) (m + 1 - a) (c1' - a) (by omega) (by omega) hL1 (by omega) (fun h => cutOff_at (by omega)) (cutOff_at (by omega)) (show Owns w1.drew _ _ _ _ _ _ _ from ho1)
                  have hput := put_at (l := L) (s := (x, y)) (n := a) (by have := hm.out; omega)
                  rw [← hm.out] at hput
                  replace hput := Lib.hid hput
                  have hL5 : ((L ++ [(x, y)]).take (a + 1) ++ ((L ++ [(x, y)]).drop a).take (m - a)).length = m + 1 := by rw [List.length_append, List.length_take, List.length_take, List.length_drop, hL1]; omega
                  generalize (L ++ [(x, y)]).take (a + 1) ++ ((L ++ [(x, y)]).drop a).take (m - a) = L5 at ho5 hL5 hput
                  obtain ⟨u0, hk0⟩ := own_cell ho5 (j := a * 2) (by omega)
                  obtain ⟨u1, hk11⟩ := own_cell ho5 (j := a * 2 + 1) (by omega)
                  have hk2 : (w5.setCell ⟨g1, a * 2, none⟩ (.int .i64 x)).cell? ⟨g1, a * 2 + 1, none⟩ = some u1 := by
                    rw [World.cell?_setCell_other _ _ _ _ (by simp)]; exact hk11
                  have hf5 := own_frozen ho5
                  have hb5 := (show Below w.heap.size w w1.drew from hb1.drew).grown hg5 (by have := hb1.size; exact this) (fun k hk => by cases hk; exact hgl1)
                  have hcw : ∀ i, w5.cell? ⟨wo.heap.size, i, none⟩ = #[Value.int .i64 x, Value.int .i64 y][i]? := fun i => by
                    rw [World.cell?_of_block (hg5.block wo.heap.size hs1 (by intro h; injection h with h; exact hgne h.symm))]
                    exact hc1 i
                  clear ho1 hg1 hk1 hb1 hcap hownq hownd HS1 HS2 hc1
                  clear hk11
                  go_wp2
                  refine ⟨⟨q + 1, some ⟨g1, 0, none⟩, c1', m + 1, by rw [show ((q + 1 : Nat) : Int) = q + 1 by omega]; congr 1; omega, rfl, by rw [hpk.out, ins_length, ← hm.out], by omega, ?_, by omega, ?_⟩, by simp [intOf]; omega⟩
                  · rw [hpk.out, hins.out]
                    try rw [ha0]
                    rw [← hput.out]; exact ho5.set2 (by omega) (x, y)
                  · exact (hb5.setCell hgl1 _).setCell hgl1 _
              · clear t
                go_wp2
                go_quiet (fail)
                clear e1 hi1 hi2 hi3 hp1
                have hins := Lib.hid (ins_at (l := L) (s := (x, y)) (n := a) hlow.out hhigh.out (by have := hm.out; omega))
                have hownd : Owns (wr.drewN 0) w.heap.size 66 2 eSlot (some ⟨g, o, none⟩) cB L := hownq
                clear hlow hhigh
                go_wp2_with (at_builtin; refine wpList_append_rows _ rfl (.tmp 70) (.tmp 72) 36 rfl w.heap.size 66 2 16 _ Try.underlying36 info66 rfl (by decide) eSlot len_eSlot one_eSlot (some ⟨g, o, none⟩) cB L (some ⟨wr.heap.size, 0, none⟩) 1 (wr.heap.size + 1) m 1 [(x, y)] rfl rfl hm.out.symm rfl ?_ ?_ ?_ ?_ ?_ ?_)
                · exact hownq.alloc _
                · exact row_new _ _ _ _ _ _ rfl
                · omega
                · omega
                · simp only [World.size_alloc, size_drewN]; have := hb2.size; have := hbq.size; omega
                · intro A1 c1' w1 ho1 hg1 hk1
                  have hbw := (below_drewN hbq nq).alloc (by have := hbq.size; exact this) (.cells #[.int .i64 x, .int .i64 y] 66)
                  have hb1 := ((hb2.trans ((below_drewN hbq nq).mono hb2.size)).alloc (by simp only [size_drewN]; have := hb2.size; have := hbq.size; omega) (.cells #[.int .i64 x, .int .i64 y] 66)).grown hg1 (by simp only [World.size_alloc, size_drewN]; have := hb2.size; have := hbq.size; omega) (fun k hk => (hlo k hk).1)
                  obtain ⟨g1, cc1, hv1, hgl1, hgh1⟩ := World.ownsRow.form ho1 (by simp)
                  obtain ⟨rfl, rfl⟩ : A1 = some ⟨g1, 0, none⟩ ∧ c1' = cc1 := by injection hv1 with h1 _ h2; exact ⟨h1, h2⟩
                  clear hv1
                  have hgne : g1 ≠ wo.heap.size := by
                    rcases hk1 with h | h
                    · have := (hlo g1 h.symm).2; omega
                    · simp only [blk, Option.map_some, World.size_alloc, size_drewN] at h; injection h with h; have := hbq.size; omega
                  have hc1 : ∀ i, w1.cell? ⟨wo.heap.size, i, none⟩ = #[Value.int .i64 x, Value.int .i64 y][i]? := fun i => by
                    rw [World.cell?_of_block (hg1.block wo.heap.size (by have := hbw.size; omega) (by intro h; have := (hlo _ h.symm).2; omega))]
                    exact (hbw.cell (p := ⟨wo.heap.size, i, none⟩) hs2).trans (hcs i)
                  have hs1 : wo.heap.size < w1.heap.size := by have := hbw.size; have := hg1.size; omega
                  have hcap := ho1.len
                  simp only [List.length_append, List.length_cons, List.length_nil] at hcap
                  rw [← hm.out] at hcap
                  have ⟨hcap1, hcap2⟩ := hcap
                  go_wp2
                  have HS1 := fun W => run_from W g1 (m + 1) c1' (a + 1) (↑a + 1) (by omega) (by omega)
                  have HS2 := fun W => run_from W g1 (m + 1) c1' a ↑a rfl (by omega)
                  have e2 : IntKind.i64.wrap ((a : Int) + 1) = (a : Int) + 1 := IntWalk.i64_in _ (by omega)
                  go_still_tail 7, (by kernel_rfl)
                  change wpList _ _ _ _ _ w1.drew
                  have hL1 : (L ++ [(x, y)]).length = m + 1 := by rw [List.length_append, ← hm.out]; rfl
                  obtain ⟨w5, hrun, ho5, hg5⟩ := run_copy_up (P := Try.prog) (w := w1.drew) 36 36 3 w.heap.size 66 2 Try.underlying36 size66 eSlot len_eSlot one_eSlot g1 c1' a m (L ++ [(x, y)]) (cutOff g1 c1' (a + 1)) (cutOff g1 c1' a) (m - a) (c1' - (a + 1)) (m + 1 - a) (c1' - a) (by omega) (by omega) hL1 (by omega) (fun h => cutOff_at (by omega)) (cutOff_at (by omega)) (show Owns w1.drew _ _ _ _ _ _ _ from ho1)
                  have hput := put_at (l := L) (s := (x, y)) (n := a) (by have := hm.out; omega)
                  rw [← hm.out] at hput
                  replace hput := Lib.hid hput
                  have hL5 : ((L ++ [(x, y)]).take (a + 1) ++ ((L ++ [(x, y)]).drop a).take (m - a)).length = m + 1 := by rw [List.length_append, List.length_take, List.length_take, List.length_drop, hL1]; omega
                  generalize (L ++ [(x, y)]).take (a + 1) ++ ((L ++ [(x, y)]).drop a).take (m - a) = L5 at ho5 hL5 hput
                  obtain ⟨u0, hk0⟩ := own_cell ho5 (j := a * 2) (by omega)
                  obtain ⟨u1, hk11⟩ := own_cell ho5 (j := a * 2 + 1) (by omega)
                  have hk2 : (w5.setCell ⟨g1, a * 2, none⟩ (.int .i64 x)).cell? ⟨g1, a * 2 + 1, none⟩ = some u1 := by
                    rw [World.cell?_setCell_other _ _ _ _ (by simp)]; exact hk11
                  have hf5 := own_frozen ho5
                  have hb5 := (show Below w.heap.size w w1.drew from hb1.drew).grown hg5 (by have := hb1.size; exact this) (fun k hk => by cases hk; exact hgl1)
                  have hcw : ∀ i, w5.cell? ⟨wo.heap.size, i, none⟩ = #[Value.int .i64 x, Value.int .i64 y][i]? := fun i => by
                    rw [World.cell?_of_block (hg5.block wo.heap.size hs1 (by intro h; injection h with h; exact hgne h.symm))]
                    exact hc1 i
                  clear ho1 hg1 hk1 hb1 hcap hownq hownd HS1 HS2 hc1
                  clear hk11
                  go_wp2
                  refine ⟨⟨q + 1, some ⟨g1, 0, none⟩, c1', m + 1, by rw [show ((q + 1 : Nat) : Int) = q + 1 by omega]; congr 1; omega, rfl, by rw [hpk.out, ins_length, ← hm.out], by omega, ?_, by omega, ?_⟩, by simp [intOf]; omega⟩
                  · rw [hpk.out, hins.out]
                    try rw [ha0]
                    rw [← hput.out]; exact ho5.set2 (by omega) (x, y)
                  · exact (hb5.setCell hgl1 _).setCell hgl1 _
    · go_wp2
      go_ret
      go_light
      have hqe : q = (cut - behind).toNat := by omega
      subst hqe
      have hm' := hm.out
      subst hm'
      exact ⟨⟨B, cB, rfl, hown⟩, hb⟩
end Go.Proofs.Ytcffhfcjfjfokaa
