import Derived.Test.YtcffhfcjfjfokaaCase
import Derived.Test.YtcffhfcjfjfokaaSameSl
import Derived.Test.YtcffhfcjfjfokaaAllunt
import Derived.Test.YtcffhfcjfjfokaaShiftTo
namespace Go.Proofs.Ytcffhfcjfjfokaa
open Go.RowKit
theorem case_cells {w : World} {b : Nat} {e l i c ba d : Int} {X Y A : Option Addr} {k n m cA cX cY : Nat} {u9 u10 u11 u12 : Value}
    (h : ∀ j, w.cell? ⟨b, j, none⟩ = (#[.slice A k cA, .int .i64 e, .int .i64 l, .int .i64 i, .int .i64 c, .int .i64 ba, .slice X n cX, .slice Y m cY, .int .i64 d, u9, u10, u11, u12] : Array Value)[j]?) :
    w.cell? ⟨b, 0, none⟩ = some (.slice A k cA) ∧ w.cell? ⟨b, 1, none⟩ = some (.int .i64 e) ∧ w.cell? ⟨b, 2, none⟩ = some (.int .i64 l) ∧ w.cell? ⟨b, 3, none⟩ = some (.int .i64 i) ∧ w.cell? ⟨b, 4, none⟩ = some (.int .i64 c) ∧ w.cell? ⟨b, 5, none⟩ = some (.int .i64 ba) ∧
    w.cell? ⟨b, 6, none⟩ = some (.slice X n cX) ∧ w.cell? ⟨b, 7, none⟩ = some (.slice Y m cY) ∧ w.cell? ⟨b, 8, none⟩ = some (.int .i64 d) := ⟨h 0, h 1, h 2, h 3, h 4, h 5, h 6, h 7, h 8⟩
abbrev caseC (own : Fl) (A X Y : Option Addr) (k cA cX cY : Nat) (done : Int) (u9 u10 u11 u12 : Value) : Array Value := #[.slice A k cA, .int .i64 own.e, .int .i64 own.l, .int .i64 own.i, .int .i64 own.c, .int .i64 own.base, .slice X own.slots.length cX, .slice Y own.have_.length cY, .int .i64 done, u9, u10, u11, u12]
theorem tw_cells {w : World} {b : Nat} {t : Tw} (h : ∀ j, w.cell? ⟨b, j, none⟩ = (eTw t).toArray[j]?) :
    w.cell? ⟨b, 0, none⟩ = some (.int .i64 t.f.e) ∧ w.cell? ⟨b, 1, none⟩ = some (.int .i64 t.f.l) ∧ w.cell? ⟨b, 2, none⟩ = some (.int .i64 t.f.i) ∧ w.cell? ⟨b, 3, none⟩ = some (.int .i64 t.f.c) ∧ w.cell? ⟨b, 4, none⟩ = some (.int .i64 t.f.base) ∧
    w.cell? ⟨b, 5, none⟩ = some (.slice (some ⟨t.g2, 0, none⟩) t.f.slots.length t.c2) ∧ w.cell? ⟨b, 6, none⟩ = some (.slice (some ⟨t.g4, 0, none⟩) t.f.have_.length t.c4) ∧ w.cell? ⟨b, 7, none⟩ = some (.slice (some ⟨t.g2, 0, none⟩) (t.f.slots.length + 1) t.c2) ∧ w.cell? ⟨b, 8, none⟩ = some (.slice (some ⟨t.g4, 0, none⟩) (t.f.have_.length + 1) t.c4) :=
  ⟨h 0, h 1, h 2, h 3, h 4, h 5, h 6, h 7, h 8⟩
theorem TwMem.more' {w : World} {N N' : Nat} {T I : Option Addr} {cT cI : Nat} {ts : List Tw} (h : TwMem w N T cT I cI ts) (hN : N ≤ N') : TwMem w N' T cT I cI ts :=
  ⟨h.row.more hN, h.inn.more hN, fun t ht => ⟨(h.s t ht).1.more hN, (h.s t ht).2⟩, fun t ht => ⟨(h.h t ht).1.more hN, (h.h t ht).2⟩, h.capT, h.capI⟩
set_option maxRecDepth 100000 in
set_option maxHeartbeats 4000000 in
theorem flushLacks_walk (A X Y : Option Addr) (cA cX cY N : Nat) (fs : List Fl) (own : Fl) (done : Int) (u9 u10 u11 u12 : Value) (w : World) (hN : N ≤ w.heap.size) (hA : Fls w N A fs) (hsm : Small fs) (hr : FlRows w N own X cX Y cY)
    (hs1 : own.slots.length ≤ 1048576) (hs2 : own.have_.length ≤ 1048576) :
    Calls Try.prog 5 #[.agg (caseC own A X Y fs.length cA cX cY done u9 u10 u11 u12)] w fun x w' => x = .returned (.bool true) ∧ Below w.heap.size w w' := by
  have hl : fs.length ≤ 9223372036854775807 := by have := hsm.1; omega
  replace hsm := Lib.hid hsm
  have hbx := below_box1 w (caseC own A X Y fs.length cA cX cY done u9 u10 u11 u12) 42
  go_enter Try.func5, Try.ntmps5
  go_wp2_with (go_at_call 13; refine (twins_any A cA N fs _ (by simp only [World.size_alloc]; omega) (hA.below hbx hN) hsm.out).mono ?_; rintro e w1 ⟨ts, T, cT, I, cI, rfl, hts, hrel⟩; have hb1 := hrel.bel; rw [World.size_alloc] at hb1; obtain ⟨hb01, hc1, -, hz1⟩ := box1_facts hb1; obtain ⟨k0, k1, k2, k3, k4, k5, k6, k7, k8⟩ := case_cells hc1; clear hc1; have hmem := twMem_of hrel; clear hrel; have hr1 := hr.below hb01 hN; have hz1' := hb01.size)
  refine (twin_any own X Y cX cY N w1 (by omega) hr1 (by omega) (by omega)).mono ?_
  rintro e w2 ⟨t, ht, rfl, htw, hbw2⟩
  subst ht
  unfold eTw
  have hb2 := hb1.trans (hbw2.mono (by omega))
  obtain ⟨hb02, hc2, -, hz2⟩ := box1_facts hb2
  obtain ⟨j0, j1, j2, j3, j4, j5, j6, j7, j8⟩ := case_cells hc2
  clear hc2 k0 k1 k2 k3 k4 k5 k6 k7 k8
  have hz2' := hbw2.size
  have hmem2 := hmem.below hbw2 (Nat.le_refl _)
  have hI2 := hmem2.fls
  rw [hts] at hI2
  have lS := htw.s.len
  have lH := htw.h.len
  simp only [List.length_append, List.length_cons, List.length_nil] at lS lH
  have hFR : FlRows w2 w2.heap.size t.f (some ⟨t.g2, 0, none⟩) t.c2 (some ⟨t.g4, 0, none⟩) t.c4 := ⟨(htw.s.row len_eSlot).front, (htw.h.row len_eInt).front, by omega, lS.2, by omega, lH.2⟩
  clear hmem
  have hX : ∀ wx, Below (w2.heap.size + 1) (w2.alloc (.cells (eTw t).toArray 57)) wx → Below (w.heap.size + 1) (box1 w (caseC t.f A X Y fs.length cA cX cY done u9 u10 u11 u12) 42) wx ∧ TwMem wx w2.heap.size T cT I cI ts ∧ Fls wx w2.heap.size I fs ∧ FlRows wx w2.heap.size t.f (some ⟨t.g2, 0, none⟩) t.c2 (some ⟨t.g4, 0, none⟩) t.c4 ∧
      (∀ j, wx.cell? ⟨w2.heap.size, j, none⟩ = (eTw t).toArray[j]?) ∧ Fls wx N A fs ∧ FlRows wx N t.f X cX Y cY ∧ RowAt wx w2.heap.size 2 eSlot (some ⟨t.g2, 0, none⟩) (t.f.slots ++ [(71, 71)]) ∧ RowAt wx w2.heap.size 1 eInt (some ⟨t.g4, 0, none⟩) (t.f.have_ ++ [72]) := fun wx hx => by
    have ha : Below w2.heap.size w2 wx := ((Below.refl w2.heap.size w2).alloc (Nat.le_refl _) _).trans (hx.mono (by omega))
    have hbx2 := hb2.trans (ha.mono (by omega))
    have hbx0 := (box1_facts hbx2).1
    refine ⟨hbx2, (hmem2.below ha (by omega)).more' (by omega), (hI2.below ha (by omega)).more (by omega), hFR.below ha (Nat.le_refl _), fun j => ?_, hA.below hbx0 hN, hr.below hbx0 hN, (htw.s.row len_eSlot).below ha (Nat.le_refl _), (htw.h.row len_eInt).below ha (Nat.le_refl _)⟩
    rw [hx.cell (p := ⟨w2.heap.size, j, none⟩) (by show w2.heap.size < _; omega)]
    exact World.cell?_alloc_at _ _ _ _ rfl
  obtain ⟨W3, hW3⟩ : ∃ W3, W3 = w2.alloc (.cells (eTw t).toArray 57) := ⟨_, rfl⟩
  rw [← hW3] at hX
  have hs3 : W3.heap.size = w2.heap.size + 1 := by rw [hW3]; simp
  replace hW3 := Lib.hid hW3
  obtain ⟨-, -, i3, f3, -⟩ := hX W3 (Below.refl _ _)
  replace hX := Lib.hid hX
  have h24 := Lib.hid (lacks_any done t.f (some ⟨t.g2, 0, none⟩) (some ⟨t.g4, 0, none⟩) I t.c2 t.c4 cI w2.heap.size fs W3 (by omega) f3 i3 hl)
  go_wp2_with (go_at_call 24; change Calls Try.prog 24 _ (w2.alloc (.cells (eTw t).toArray 57)) _; rw [← hW3.out]; refine h24.out.mono ?_; rintro e w4 ⟨⟨B, cB, l, n, rfl, hLI, hown⟩, hbw4⟩; rw [hs3] at hbw4 hown; obtain ⟨hB4, m4, i4, f4, tc4, A4, o4, s4, e4⟩ := hX.out w4 hbw4; obtain ⟨hb04, hc4, -, hz4⟩ := box1_facts hB4; obtain ⟨k0, k1, k2, k3, k4, k5, k6, k7, k8⟩ := case_cells hc4; clear hc4; have hz4' := hb04.size)
  have hs4 := hbw4.size
  refine (rlacks_any done t.f X Y A cX cY cA N fs w4 (by omega) o4 A4 hl).mono ?_
  rintro e w5 ⟨⟨B', cB', l', n', rfl, hLI', hown'⟩, hbw5⟩
  obtain ⟨rfl, rfl⟩ := lacks_one hLI hLI'
  have hs5 := hbw5.size
  have hlo := hown.lo
  have ho5 := hown.keep hbw5 (fun k hk => (hlo k hk).2)
  have r1 := ho5.row len_eSlot
  have r2 := hown'.row len_eSlot
  have hll : l.length ≤ 9223372036854775807 := by have := ho5.len; omega
  clear k0 k1 k2 k3 k4 k5 k6 k7 k8 j0 j1 j2 j3 j4 j5 j6 j7 j8 tc4
  have hB5x : Below (w2.heap.size + 1) W3 w5 := hbw4.trans (hbw5.mono (by omega))
  obtain ⟨hB5, m5, i5, f5, tc5, A5, o5, s5, e5⟩ := hX.out w5 hB5x
  obtain ⟨hb05, hc5, -, hz5⟩ := box1_facts hB5
  obtain ⟨k0, k1, k2, k3, k4, k5, k6, k7, k8⟩ := case_cells hc5
  clear hc5
  have hz5' := hbw5.size
  have ts5 := tw_cells tc5
  obtain ⟨j0, j1, j2, j3, j4, j5, j6, j7, j8⟩ := ts5
  clear tc5
  go_wp2_with (first
    | (go_at_call 16; refine (num_any _ _).mono ?_; rintro e w6 ⟨rfl, rfl⟩)
    | (go_at_call 26; refine (sameSlots_yes B B' cB cB' w5.heap.size l w5 (Nat.le_refl _) r1 r2 hll).mono ?_; rintro e w6 ⟨rfl, hbw6⟩; have hB6x : Below (w2.heap.size + 1) W3 w6 := hB5x.trans (hbw6.mono (by omega)); obtain ⟨hB6, m6, i6, f6, tc6, A6, o6, s6, e6⟩ := hX.out w6 hB6x; obtain ⟨hb06, hc6, -, hz6⟩ := box1_facts hB6; obtain ⟨k0, k1, k2, k3, k4, k5, k6, k7, k8⟩ := case_cells hc6; clear hc6; have hz6' := hbw6.size; have ts6 := tw_cells tc6; obtain ⟨j0, j1, j2, j3, j4, j5, j6, j7, j8⟩ := ts6; clear tc6)
    | (go_at_call 17; refine (allunt_any T I A cT cI cA w2.heap.size fs ts _ (by omega) m6 hts (A6.more (by omega)) hl).mono ?_; rintro e w7 ⟨rfl, hbw7⟩; have hB7x : Below (w2.heap.size + 1) W3 w7 := hB6x.trans (hbw7.mono (by omega)); obtain ⟨hB7, m7, i7, f7, tc7, A7, o7, s7, e7⟩ := hX.out w7 hB7x; obtain ⟨hb07, hc7, -, hz7⟩ := box1_facts hB7; obtain ⟨k0, k1, k2, k3, k4, k5, k6, k7, k8⟩ := case_cells hc7; clear hc7; have hz7' := hbw7.size; have ts7 := tw_cells tc7; obtain ⟨j0, j1, j2, j3, j4, j5, j6, j7, j8⟩ := ts7; clear tc7)
    | (go_at_call 27; refine (untouched_yes t.f t.f t.g2 t.g4 t.c2 t.c4 w2.heap.size X Y cX cY _ (by omega) s7 e7 lS.1 lS.2 lH.1 lH.2 (⟨o7.slots.more (by omega), o7.have_.more (by omega), o7.lenS, o7.capS, o7.lenH, o7.capH⟩) rfl).mono ?_; rintro e w8 ⟨rfl, hbw8⟩; have hB8x : Below (w2.heap.size + 1) W3 w8 := hB7x.trans (hbw8.mono (by omega)); obtain ⟨hB8, m8, i8, f8, tc8, A8, o8, s8, e8⟩ := hX.out w8 hB8x; obtain ⟨hb08, hc8, -, hz8⟩ := box1_facts hB8; obtain ⟨k0, k1, k2, k3, k4, k5, k6, k7, k8⟩ := case_cells hc8; clear hc8; have hz8' := hbw8.size; have ts8 := tw_cells tc8; obtain ⟨j0, j1, j2, j3, j4, j5, j6, j7, j8⟩ := ts8; clear tc8)
    | fail)
  have ho6 := ho5.keep hbw6 (fun k hk => by have := (hlo k hk).2; omega)
  have ho7 := ho6.keep hbw7 (fun k hk => by have := (hlo k hk).2; omega)
  have ho8 := ho7.keep hbw8 (fun k hk => by have := (hlo k hk).2; omega)
  have hs8 := hB8x.size
  clear k0 k1 k2 k3 k4 k5 k6 k7 k8 j0 j1 j2 j3 j4 j5 j6 j7 j8 ho5 ho6 ho7 hown hown' hLI hLI' r1 r2
  go_loopw [10] (fun k wr => ∃ (i : Nat) (l' : List (Int × Int)), k = .int .i64 i ∧ i ≤ l.length ∧ l'.length = l.length ∧ Owns wr (w2.heap.size + 1) 66 2 eSlot B cB l' ∧ Below (w2.heap.size + 1) W3 wr) (fun k _ => l.length - (intOf k).toNat)
  case atStart => exact ⟨0, l, rfl, by omega, rfl, ho8, hB8x⟩
  case round =>
    obtain ⟨i, l', rfl, hi, hl', ho, hb⟩ := hrel
    have hsb := hb.size
    replace hl' := Lib.hid hl'
    by_cases hlt : i < l.length
    · obtain ⟨g1, cc1, hv1, hgl1, hgh1⟩ := World.ownsRow.form ho (by have := hl'.out; omega)
      obtain ⟨rfl, rfl⟩ : B = some ⟨g1, 0, none⟩ ∧ cB = cc1 := by injection hv1 with h1 _ h2; exact ⟨h1, h2⟩
      clear hv1
      obtain ⟨u0, q0⟩ := own_cell ho (j := i * 2) (by have := hl'.out; omega)
      obtain ⟨u1, q1⟩ := own_cell ho (j := i * 2 + 1) (by have := hl'.out; omega)
      have q2 : (wr.setCell ⟨g1, i * 2, none⟩ (.int .i64 99)).cell? ⟨g1, i * 2 + 1, none⟩ = some u1 := by
        rw [World.cell?_setCell_other _ _ _ _ (by simp)]; exact q1
      have hf := own_frozen ho
      clear q1
      go_wp2
      refine ⟨⟨i + 1, l'.set i (99, (i : Int)), by go_num, by omega, by rw [List.length_set]; exact hl'.out, ho.set2 (by have := hl'.out; omega) (99, (i : Int)), (hb.setCell hgl1 _).setCell hgl1 _⟩, by simp [intOf]; omega⟩
    · obtain ⟨hB9, m9, i9, f9, tc9, A9, o9, s9, e9⟩ := hX.out wr hb
      obtain ⟨hb09, hc9, -, hz9⟩ := box1_facts hB9
      obtain ⟨k0, k1, k2, k3, k4, k5, k6, k7, k8⟩ := case_cells hc9
      clear hc9
      have ts9 := tw_cells tc9
      obtain ⟨j0, j1, j2, j3, j4, j5, j6, j7, j8⟩ := ts9
      clear tc9
      go_wp2_with (first
        | (go_at_call 17; refine (allunt_any T I A cT cI cA w2.heap.size fs ts _ (by omega) m9 hts (A9.more (by omega)) hl).mono ?_; rintro e w10 ⟨rfl, hbw10⟩; have hB10x : Below (w2.heap.size + 1) W3 w10 := hb.trans (hbw10.mono (by omega)); have hs10 := hbw10.size; obtain ⟨hB0, m0, i0, f0, tc0, A0, o0, s0, e0⟩ := hX.out w10 hB10x; obtain ⟨hb00, hc0, -, hz0⟩ := box1_facts hB0; obtain ⟨k0, k1, k2, k3, k4, k5, k6, k7, k8⟩ := case_cells hc0; clear hc0; have ts0 := tw_cells tc0; obtain ⟨j0, j1, j2, j3, j4, j5, j6, j7, j8⟩ := ts0; clear tc0)
        | (go_at_call 27; refine (untouched_yes t.f t.f t.g2 t.g4 t.c2 t.c4 w2.heap.size X Y cX cY _ (by omega) s0 e0 lS.1 lS.2 lH.1 lH.2 (⟨o0.slots.more (by omega), o0.have_.more (by omega), o0.lenS, o0.capS, o0.lenH, o0.capH⟩) rfl).mono ?_; rintro e w11 ⟨rfl, hbw11⟩)
        | fail)
      go_ret
      exact ⟨rfl, hb00.trans (hbw11.mono (by omega))⟩
end Go.Proofs.Ytcffhfcjfjfokaa
