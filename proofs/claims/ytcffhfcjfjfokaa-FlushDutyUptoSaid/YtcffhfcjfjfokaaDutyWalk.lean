/- FlushDuty's walk. -/
import Derived.Test.YtcffhfcjfjfokaaRduty
import Derived.Test.YtcffhfcjfjfokaaCasew
import Derived.Test.YtcffhfcjfjfokaaSameIn
import Derived.Test.YtcffhfcjfjfokaaLackWalk
namespace Go.Proofs.Ytcffhfcjfjfokaa
open Go.RowKit
theorem duty_one {self q : Int} {who : List Int} {fs : List Fl} {l l' : List (Int × Int)} {n n' : Int} (h : DutyIs self q who fs l n) (k : DutyIs self q who fs l' n') : l = l' ∧ n = n' := by
  rcases h with ⟨hH, rfl, rfl⟩ | ⟨hH, m, hm, hL, rfl, rfl⟩ | ⟨hH, hL, hf, rfl, cut, F, iy, g, hc, hF, hy, hg, rfl⟩ <;>
    rcases k with ⟨hH', rfl, rfl⟩ | ⟨hH', m', hm', hL', rfl, rfl⟩ | ⟨hH', hL', hf', rfl, cut', F', iy', g', hc', hF', hy', hg', rfl⟩
  · exact ⟨rfl, rfl⟩
  · exact absurd hH' hH
  · exact absurd hH' hH
  · exact absurd hH hH'
  · exact ⟨rfl, listed_one hL hL'⟩
  · exact absurd (listed_one hL hL') hm
  · exact absurd hH hH'
  · exact absurd (listed_one hL' hL) hm'
  · obtain rfl := cut_one hc hc'
    have : F = F' := funext fun pos => Option.ext fun s => by rw [hF pos s, hF' pos s]
    subst this
    have e : iy = iy' := Decidable.byContradiction fun e => apart_of_nodup hH.2.2.1.2 e hy hy'
    subst e
    rw [hg] at hg'; cases hg'
    exact ⟨rfl, rfl⟩
abbrev caseD (own : Fl) (A X Y C : Option Addr) (k cA cX cY nw cC : Nat) (done self q : Int) (u : Value) : Array Value := #[.slice A k cA, .int .i64 own.e, .int .i64 own.l, .int .i64 own.i, .int .i64 own.c, .int .i64 own.base, .slice X own.slots.length cX, .slice Y own.have_.length cY, .int .i64 done, .slice C nw cC, .int .i64 self, .int .i64 q, u]
theorem caseD_cells {w : World} {b : Nat} {own : Fl} {done self q : Int} {X Y A C : Option Addr} {k nw cA cX cY cC : Nat} {u : Value}
    (h : ∀ j, w.cell? ⟨b, j, none⟩ = (caseD own A X Y C k cA cX cY nw cC done self q u)[j]?) :
    w.cell? ⟨b, 0, none⟩ = some (.slice A k cA) ∧ w.cell? ⟨b, 9, none⟩ = some (.slice C nw cC) ∧ w.cell? ⟨b, 10, none⟩ = some (.int .i64 self) ∧ w.cell? ⟨b, 11, none⟩ = some (.int .i64 q) := ⟨h 0, h 9, h 10, h 11⟩
set_option maxRecDepth 100000 in
set_option maxHeartbeats 4000000 in
theorem flushDuty_walk (A X Y C : Option Addr) (cA cX cY cC N : Nat) (fs : List Fl) (own : Fl) (done self q : Int) (who : List Int) (u : Value) (w : World) (hN : N ≤ w.heap.size) (hA : Fls w N A fs) (hsm : Small fs) (hC : RowAt w N 1 eInt C who) (hw : who.length ≤ 1048576) :
    Calls Try.prog 7 #[.agg (caseD own A X Y C fs.length cA cX cY who.length cC done self q u)] w fun x w' => x = .returned (.bool true) ∧ Below w.heap.size w w' := by
  have hl : fs.length ≤ 9223372036854775807 := by have := hsm.1; omega
  have hl1 : who.length ≤ 9223372036854775807 := by omega
  replace hsm := Lib.hid hsm
  have hbx := below_box1 w (caseD own A X Y C fs.length cA cX cY who.length cC done self q u) 42
  go_enter Try.func7, Try.ntmps7
  go_wp2_with (first
    | (go_at_call 13; refine (twins_any A cA N fs _ (by simp only [World.size_alloc]; omega) (hA.below hbx hN) hsm.out).mono ?_; rintro e w1 ⟨ts, T, cT, I, cI, rfl, hts, hrel⟩; have hb1 := hrel.bel; rw [World.size_alloc] at hb1; obtain ⟨hb01, hc1, -, hz1⟩ := box1_facts hb1; obtain ⟨k0, k9, k10, k11⟩ := caseD_cells hc1; clear hc1; have hmem := twMem_of hrel; clear hrel; have hz1' := hb01.size)
    | (at_builtin; refine wpList_append_rows _ rfl (.tmp 17) (.tmp 19) 37 rfl w1.heap.size 3 1 8 _ Try.underlying37 info3 rfl (by decide) eInt len_eInt one_eInt (some ⟨w1.heap.size, 0, none⟩) 0 [] C cC N 0 who.length who rfl rfl rfl rfl (owns_empty_at _ _ _ _ _ rfl (Nat.le_refl _)) (hC.below (hb01.alloc (by omega) _) hN) (by omega) (by omega) (by simp) ?_)
    | fail)
  intro A2 c2 w2 ho2 hg2 hk2
  have hb12 : Below w1.heap.size w1 w2 := ((Below.refl w1.heap.size w1).alloc (Nat.le_refl _) _).grown hg2 (by simp) (by intro k hk; simp [blk] at hk; omega)
  have hlo2 := ho2.lo
  have hz2 := hb12.size
  clear hg2 hk2 k0 k9 k10 k11
  have hX : ∀ wx, Below w2.heap.size w2 wx → Below (w.heap.size + 1) (box1 w (caseD own A X Y C fs.length cA cX cY who.length cC done self q u) 42) wx ∧ TwMem wx w2.heap.size T cT I cI ts ∧ Fls wx w2.heap.size I fs ∧ Fls wx N A fs ∧ RowAt wx N 1 eInt C who ∧ RowAt wx w2.heap.size 1 eInt A2 who := fun wx hx => by
    have ha := hb12.trans (hx.mono hz2)
    have hbx2 := hb1.trans (ha.mono (by omega))
    have hbx0 := (box1_facts hbx2).1
    have hm := (hmem.below ha (Nat.le_refl _)).more' hz2
    have hI := hm.fls
    rw [hts] at hI
    exact ⟨hbx2, hm, hI, hA.below hbx0 hN, hC.below hbx0 hN, (ho2.row len_eInt).below hx (Nat.le_refl _)⟩
  have hx2 : Below w2.heap.size w2 w2 := Below.refl _ _
  replace hX := Lib.hid hX
  obtain ⟨hB2, m2, i2, fa2, rc2, rd2⟩ := hX.out w2 hx2
  obtain ⟨hb02, hc2, -, hz2⟩ := box1_facts hB2
  obtain ⟨k0, k9, k10, k11⟩ := caseD_cells hc2
  clear hc2
  have hz2' := hb02.size
  have h35 := Lib.hid (duty_any self q A2 I c2 cI w2.heap.size who fs w2 (Nat.le_refl _) rd2 i2 hl1 hl)
  have ho2' := Lib.hid ho2
  clear ho2
  go_wp2_with (go_at_call 35; refine h35.out.mono ?_; rintro e w4 ⟨⟨B, cB, l, n, rfl, hLI, hown⟩, hbw4⟩; have hx4 : Below w2.heap.size w2 w4 := hbw4; obtain ⟨hB4, m4, i4, fa4, rc4, rd4⟩ := hX.out w4 hx4; obtain ⟨hb04, hc4, -, hz4⟩ := box1_facts hB4; obtain ⟨k0, k9, k10, k11⟩ := caseD_cells hc4; clear hc4; have hz4' := hb04.size)
  have hs4 := hbw4.size
  refine (rduty_any self q C A cC cA N who fs w4 (by omega) rc4 fa4 hl1 hl).mono ?_
  rintro e w5 ⟨⟨B', cB', l', n', rfl, hLI', hown'⟩, hbw5⟩
  obtain ⟨rfl, rfl⟩ := duty_one hLI hLI'
  have hs5 := hbw5.size
  have hlo := hown.lo
  have ho5 := hown.keep hbw5 (fun k hk => (hlo k hk).2)
  have r1 := ho5.row len_eSlot
  have r2 := hown'.row len_eSlot
  have hll : l.length ≤ 9223372036854775807 := by have := ho5.len; omega
  have hx5 : Below w2.heap.size w2 w5 := hx4.trans (hbw5.mono hs4)
  clear k0 k9 k10 k11
  obtain ⟨hB5, m5, i5, fa5, rc5, rd5⟩ := hX.out w5 hx5
  obtain ⟨hb05, hc5, -, hz5⟩ := box1_facts hB5
  obtain ⟨k0, k9, k10, k11⟩ := caseD_cells hc5
  clear hc5
  have hz5' := hb05.size
  go_wp2_with (first
    | (go_at_call 16; refine (num_any _ _).mono ?_; rintro e w6 ⟨rfl, rfl⟩)
    | (go_at_call 26; refine (sameSlots_yes B B' cB cB' w5.heap.size l w5 (Nat.le_refl _) r1 r2 hll).mono ?_; rintro e w6 ⟨rfl, hbw6⟩; have hx6 : Below w2.heap.size w2 w6 := hx5.trans (hbw6.mono (by omega)); have hs6 := hx6.size; obtain ⟨hB6, m6, i6, fa6, rc6, rd6⟩ := hX.out w6 hx6; obtain ⟨hb06, hc6, -, hz6⟩ := box1_facts hB6; obtain ⟨k0, k9, k10, k11⟩ := caseD_cells hc6; clear hc6; have hz6' := hb06.size)
    | (go_at_call 37; refine (sameInts_yes A2 C c2 cC w2.heap.size who w6 (by omega) rd6 (rc6.more (by omega)) hl1).mono ?_; rintro e w7 ⟨rfl, hbw7⟩; have hx7 : Below w2.heap.size w2 w7 := hx6.trans (hbw7.mono (by omega)); obtain ⟨hB7, m7, i7, fa7, rc7, rd7⟩ := hX.out w7 hx7; obtain ⟨hb07, hc7, -, hz7⟩ := box1_facts hB7; obtain ⟨k0, k9, k10, k11⟩ := caseD_cells hc7; clear hc7; have hz7' := hb07.size)
    | fail)
  have ho6 := ho5.keep hbw6 (fun k hk => by have := (hlo k hk).2; omega)
  have ho7 := ho6.keep hbw7 (fun k hk => by have := (hlo k hk).2; have := hbw6.size; omega)
  have hs7 := hx7.size
  clear k0 k9 k10 k11 ho5 ho6 hown hown' hLI hLI' r1 r2
  go_loopw [10] (fun k wr => ∃ (i : Nat) (l' : List (Int × Int)), k = .int .i64 i ∧ i ≤ l.length ∧ l'.length = l.length ∧ Owns wr w2.heap.size 66 2 eSlot B cB l' ∧ Below w2.heap.size w2 wr) (fun k _ => l.length - (intOf k).toNat)
  case atStart => exact ⟨0, l, rfl, by omega, rfl, ho7, hx7⟩
  case round =>
    obtain ⟨i, l', rfl, hi, hl', ho, hb⟩ := hrel
    have hsb := hb.size
    replace hl' := Lib.hid hl'
    by_cases hlt : i < l.length
    · obtain ⟨g1, cc1, hv1, hgl1, hgh1⟩ := World.ownsRow.form ho (by have := hl'.out; omega)
      obtain ⟨rfl, rfl⟩ : B = some ⟨g1, 0, none⟩ ∧ cB = cc1 := by injection hv1 with h1 _ h2; exact ⟨h1, h2⟩
      clear hv1
      obtain ⟨u0, q0⟩ := own_cell ho (j := i * 2) (by have := hl'.out; omega)
      obtain ⟨u1, q1⟩ := own_cell ho (j := i * 2 + 1) (by have := hl'.out; omega)
      have q2 : (wr.setCell ⟨g1, i * 2, none⟩ (.int .i64 99)).cell? ⟨g1, i * 2 + 1, none⟩ = some u1 := by
        rw [World.cell?_setCell_other _ _ _ _ (by simp)]; exact q1
      have hf := own_frozen ho
      clear q1
      go_wp2
      refine ⟨⟨i + 1, l'.set i (99, (i : Int)), by go_num, by omega, by rw [List.length_set]; exact hl'.out, ho.set2 (by have := hl'.out; omega) (99, (i : Int)), (hb.setCell hgl1 _).setCell hgl1 _⟩, by simp [intOf]; omega⟩
    · obtain ⟨hB9, m9, i9, fa9, rc9, rd9⟩ := hX.out wr hb
      obtain ⟨hb09, hc9, -, hz9⟩ := box1_facts hB9
      obtain ⟨k0, k9, k10, k11⟩ := caseD_cells hc9
      clear hc9
      have hz9' := hb09.size
      go_wp2_with (go_at_call 17; refine (allunt_any T I A cT cI cA w2.heap.size fs ts _ (by omega) m9 hts (fa9.more (by omega)) hl).mono ?_; rintro e w10 ⟨rfl, hbw10⟩)
      go_ret
      exact ⟨rfl, hb09.trans (hbw10.mono (by omega))⟩
end Go.Proofs.Ytcffhfcjfjfokaa
