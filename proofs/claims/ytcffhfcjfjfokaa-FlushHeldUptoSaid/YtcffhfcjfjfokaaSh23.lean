/- Allunt LackWalk Rduty DutyWalk, joined. -/
import Derived.Test.YtcffhfcjfjfokaaSh6
import Derived.Test.YtcffhfcjfjfokaaSh11
import Derived.Test.YtcffhfcjfjfokaaSh17
import Derived.Test.YtcffhfcjfjfokaaSh18
import Derived.Test.YtcffhfcjfjfokaaSh20
import Derived.Test.YtcffhfcjfjfokaaSh22
set_option linter.unusedVariables false
set_option linter.unusedSimpArgs false
/- What the law's allUntouched answers where nothing was touched. -/
namespace Go.Proofs.Ytcffhfcjfjfokaa
open Go.RowKit
/-- The law's copies lie in memory, as they were made. -/
structure TwMem (w : World) (N : Nat) (T : Option Addr) (cT : Nat) (I : Option Addr) (cI : Nat) (ts : List Tw) : Prop where
  row : RowAt w N 9 eTw T ts
  inn : RowAt w N 7 flTw I ts
  s : ∀ t ∈ ts, RowAt w N 2 eSlot (some ⟨t.g2, 0, none⟩) (t.f.slots ++ [(71, 71)]) ∧ t.f.slots.length + 1 ≤ t.c2 ∧ t.c2 ≤ 9223372036854775807
  h : ∀ t ∈ ts, RowAt w N 1 eInt (some ⟨t.g4, 0, none⟩) (t.f.have_ ++ [72]) ∧ t.f.have_.length + 1 ≤ t.c4 ∧ t.c4 ≤ 9223372036854775807
  capT : ts.length ≤ cT
  capI : ts.length ≤ cI
theorem TwMem.below {w w' : World} {N N' : Nat} {T I : Option Addr} {cT cI : Nat} {ts : List Tw} (h : TwMem w N T cT I cI ts) (hb : Below N' w w') (hN : N ≤ N') : TwMem w' N T cT I cI ts :=
  ⟨h.row.below hb hN, h.inn.below hb hN, fun t ht => ⟨(h.s t ht).1.below hb hN, (h.s t ht).2⟩, fun t ht => ⟨(h.h t ht).1.below hb hN, (h.h t ht).2⟩, h.capT, h.capI⟩
theorem TwMem.fls {w : World} {N : Nat} {T I : Option Addr} {cT cI : Nat} {ts : List Tw} (h : TwMem w N T cT I cI ts) : Fls w N I (ts.map Tw.f) := fun h0 => by
  obtain ⟨b, off, hA, hb, hc⟩ := h.inn (by simpa using h0)
  refine ⟨b, off, hA, hb, fun k f hf => ?_⟩
  rw [List.getElem?_map] at hf
  cases hr : ts[k]? with
  | none => rw [hr] at hf; cases hf
  | some r =>
    rw [hr] at hf; cases hf
    have hm := List.mem_of_getElem? hr
    refine ⟨_, _, _, _, ⟨hc k r hr 0 _ rfl, hc k r hr 1 _ rfl, hc k r hr 2 _ rfl, hc k r hr 3 _ rfl, hc k r hr 4 _ rfl, hc k r hr 5 _ rfl, hc k r hr 6 _ rfl⟩, ⟨(h.s r hm).1.front, (h.h r hm).1.front, by have := (h.s r hm).2.1; omega, (h.s r hm).2.2, by have := (h.h r hm).2.1; omega, (h.h r hm).2.2⟩⟩
theorem twMem_of {w wr : World} {fs : List Fl} {ts : List Tw} {T I : Option Addr} {cT cI : Nat} (h : TwRel w wr fs fs.length ts T cT I cI) : TwMem wr wr.heap.size T cT I cI ts :=
  ⟨h.own.row len_eTw, h.inn.row len_flTw, fun t ht => ⟨(h.each t ht).s.row len_eSlot, by have := (h.each t ht).s.len; simp at this; exact this⟩, fun t ht => ⟨(h.each t ht).h.row len_eInt, by have := (h.each t ht).h.len; simp at this; exact this⟩, h.own.len.1, h.inn.len.1⟩
theorem row_tw {w : World} {N : Nat} {T : Option Addr} {ts : List Tw} (h : RowAt w N 9 eTw T ts) {k : Nat} (hk : k < ts.length) : ∃ b off t, T = some ⟨b, off, none⟩ ∧ b < N ∧ Hid (ts[k]? = some t) ∧
    w.cell? ⟨b, off + k * 9, none⟩ = some (.int .i64 t.f.e) ∧ w.cell? ⟨b, off + k * 9 + 1, none⟩ = some (.int .i64 t.f.l) ∧ w.cell? ⟨b, off + k * 9 + 2, none⟩ = some (.int .i64 t.f.i) ∧ w.cell? ⟨b, off + k * 9 + 3, none⟩ = some (.int .i64 t.f.c) ∧
    w.cell? ⟨b, off + k * 9 + 4, none⟩ = some (.int .i64 t.f.base) ∧ w.cell? ⟨b, off + k * 9 + 5, none⟩ = some (.slice (some ⟨t.g2, 0, none⟩) t.f.slots.length t.c2) ∧ w.cell? ⟨b, off + k * 9 + 6, none⟩ = some (.slice (some ⟨t.g4, 0, none⟩) t.f.have_.length t.c4) ∧
    w.cell? ⟨b, off + k * 9 + 7, none⟩ = some (.slice (some ⟨t.g2, 0, none⟩) (t.f.slots.length + 1) t.c2) ∧ w.cell? ⟨b, off + k * 9 + 8, none⟩ = some (.slice (some ⟨t.g4, 0, none⟩) (t.f.have_.length + 1) t.c4) := by
  obtain ⟨b, off, e, hb, hc⟩ := h (by omega)
  have hg : ts[k]? = some ts[k] := List.getElem?_eq_getElem hk
  exact ⟨b, off, ts[k], e, hb, hg, hc k _ hg 0 _ rfl, hc k _ hg 1 _ rfl, hc k _ hg 2 _ rfl, hc k _ hg 3 _ rfl, hc k _ hg 4 _ rfl, hc k _ hg 5 _ rfl, hc k _ hg 6 _ rfl, hc k _ hg 7 _ rfl, hc k _ hg 8 _ rfl⟩
set_option maxRecDepth 100000 in
set_option maxHeartbeats 2000000 in
theorem allunt_any (T I A : Option Addr) (cT cI cA N : Nat) (fs : List Fl) (ts : List Tw) (w : World) (hN : N ≤ w.heap.size) (hT : TwMem w N T cT I cI ts) (hts : ts.map Tw.f = fs) (hA : Fls w N A fs) (hl : fs.length ≤ 9223372036854775807) :
    Calls Try.prog 17 #[.slice T fs.length cT, .slice I fs.length cI, .slice A fs.length cA] w fun x w' => x = .returned (.bool true) ∧ Below w.heap.size w w' := by
  have hlen : ts.length = fs.length := by rw [← hts, List.length_map]
  have Hts := Lib.hid hts
  have Hlen := Lib.hid hlen
  clear hts hlen
  go_enter Try.func17, Try.ntmps17
  go_wp2
  go_loopw [7] (fun k wr => ∃ q : Nat, k = .int .i64 q ∧ q ≤ fs.length ∧ Below w.heap.size w wr) (fun k _ => fs.length - (intOf k).toNat)
  case atStart => exact ⟨0, rfl, by omega, Below.refl _ _⟩
  case round =>
    obtain ⟨q, rfl, hq, hb⟩ := hrel
    have hsz := hb.size
    have hTw := hT.below hb hN
    by_cases hlt : q < fs.length
    · obtain ⟨g, o, t, rfl, hg, ht, d0, d1, d2, d3, d4, d5, d6, d7, d8⟩ := row_tw hTw.row (k := q) (by rw [Hlen.out]; exact hlt)
      obtain ⟨g', o', f, X, cX, Y, cY, rfl, hg', hf, ⟨c0, c1, c2, c3, c4, c5, c6⟩, hr⟩ := (hA.below hb hN).at_ hlt
      obtain rfl : t.f = f := by
        have h1 := hf.out
        rw [← Hts.out, List.getElem?_map, ht.out] at h1
        exact Option.some.inj h1
      have hm := List.mem_of_getElem? ht.out
      obtain ⟨s1, s2, s3⟩ := hTw.s t hm
      obtain ⟨u1, u2, u3⟩ := hTw.h t hm
      have hgw : g < wr.heap.size := by omega
      have hgw' : g' < wr.heap.size := by omega
      have hb1 : Below N wr wr.drew := Below.drew (Below.refl _ _)
      clear hT hTw hA
      go_wp2
      go_still_tail 8, (by kernel_rfl)
      change wpList _ _ _ _ _ wr.drew
      go_wp2_with (go_at_call 27; refine (untouched_yes (w := wr.drew) t.f t.f _ _ _ _ N _ _ _ _ (by show N ≤ wr.heap.size; omega) (s1.below hb1 (Nat.le_refl _)) (u1.below hb1 (Nat.le_refl _)) s2 s3 u2 u3 (hr.below hb1 (Nat.le_refl _)) rfl).mono ?_; rintro e w' ⟨rfl, hbw⟩)
      go_roundw
      case rel => go_light; exact ⟨q + 1, by go_num, by omega, (Below.drew hb).trans (hbw.mono (by show _ ≤ wr.heap.size; omega))⟩
      case measure => go_light; simp [intOf]; omega
    · have hfl := hTw.fls
      rw [Hts.out] at hfl
      go_wp2_with (go_at_call 55; refine (sameFls_yes I A cI cA N fs _ (by omega) hfl (hA.below hb hN) hl).mono ?_; rintro e w' ⟨rfl, hbw⟩)
      go_ret
      go_light
      exact ⟨rfl, hb.trans (hbw.mono hsz)⟩
end Go.Proofs.Ytcffhfcjfjfokaa
namespace Go.Proofs.Ytcffhfcjfjfokaa
open Go.RowKit
theorem case_cells {w : World} {b : Nat} {e l i c ba d : Int} {X Y A : Option Addr} {k n m cA cX cY : Nat} {u9 u10 u11 u12 : Value}
    (h : ∀ j, w.cell? ⟨b, j, none⟩ = (#[.slice A k cA, .int .i64 e, .int .i64 l, .int .i64 i, .int .i64 c, .int .i64 ba, .slice X n cX, .slice Y m cY, .int .i64 d, u9, u10, u11, u12] : Array Value)[j]?) :
    w.cell? ⟨b, 0, none⟩ = some (.slice A k cA) ∧ w.cell? ⟨b, 1, none⟩ = some (.int .i64 e) ∧ w.cell? ⟨b, 2, none⟩ = some (.int .i64 l) ∧ w.cell? ⟨b, 3, none⟩ = some (.int .i64 i) ∧ w.cell? ⟨b, 4, none⟩ = some (.int .i64 c) ∧ w.cell? ⟨b, 5, none⟩ = some (.int .i64 ba) ∧
    w.cell? ⟨b, 6, none⟩ = some (.slice X n cX) ∧ w.cell? ⟨b, 7, none⟩ = some (.slice Y m cY) ∧ w.cell? ⟨b, 8, none⟩ = some (.int .i64 d) := ⟨h 0, h 1, h 2, h 3, h 4, h 5, h 6, h 7, h 8⟩
abbrev caseC (own : Fl) (A X Y : Option Addr) (k cA cX cY : Nat) (done : Int) (u9 u10 u11 u12 : Value) : Array Value := #[.slice A k cA, .int .i64 own.e, .int .i64 own.l, .int .i64 own.i, .int .i64 own.c, .int .i64 own.base, .slice X own.slots.length cX, .slice Y own.have_.length cY, .int .i64 done, u9, u10, u11, u12]
theorem tw_cells {w : World} {b : Nat} {t : Tw} (h : ∀ j, w.cell? ⟨b, j, none⟩ = (eTw t).toArray[j]?) :
    w.cell? ⟨b, 0, none⟩ = some (.int .i64 t.f.e) ∧ w.cell? ⟨b, 1, none⟩ = some (.int .i64 t.f.l) ∧ w.cell? ⟨b, 2, none⟩ = some (.int .i64 t.f.i) ∧ w.cell? ⟨b, 3, none⟩ = some (.int .i64 t.f.c) ∧ w.cell? ⟨b, 4, none⟩ = some (.int .i64 t.f.base) ∧
    w.cell? ⟨b, 5, none⟩ = some (.slice (some ⟨t.g2, 0, none⟩) t.f.slots.length t.c2) ∧ w.cell? ⟨b, 6, none⟩ = some (.slice (some ⟨t.g4, 0, none⟩) t.f.have_.length t.c4) ∧ w.cell? ⟨b, 7, none⟩ = some (.slice (some ⟨t.g2, 0, none⟩) (t.f.slots.length + 1) t.c2) ∧ w.cell? ⟨b, 8, none⟩ = some (.slice (some ⟨t.g4, 0, none⟩) (t.f.have_.length + 1) t.c4) :=
  ⟨h 0, h 1, h 2, h 3, h 4, h 5, h 6, h 7, h 8⟩
theorem TwMem.more' {w : World} {N N' : Nat} {T I : Option Addr} {cT cI : Nat} {ts : List Tw} (h : TwMem w N T cT I cI ts) (hN : N ≤ N') : TwMem w N' T cT I cI ts :=
  ⟨h.row.more hN, h.inn.more hN, fun t ht => ⟨(h.s t ht).1.more hN, (h.s t ht).2⟩, fun t ht => ⟨(h.h t ht).1.more hN, (h.h t ht).2⟩, h.capT, h.capI⟩
set_option maxRecDepth 100000 in
set_option maxHeartbeats 4000000 in
theorem flushLacks_walk (A X Y : Option Addr) (cA cX cY N : Nat) (fs : List Fl) (own : Fl) (done : Int) (u9 u10 u11 u12 : Value) (w : World) (hN : N ≤ w.heap.size) (hA : Fls w N A fs) (hsm : Small fs) (hr : FlRows w N own X cX Y cY)
    (hs1 : own.slots.length ≤ 1048576) (hs2 : own.have_.length ≤ 1048576) :
    Calls Try.prog 5 #[.agg (caseC own A X Y fs.length cA cX cY done u9 u10 u11 u12)] w fun x w' => x = .returned (.bool true) ∧ Below w.heap.size w w' := by
  have hl : fs.length ≤ 9223372036854775807 := by have := hsm.1; omega
  replace hsm := Lib.hid hsm
  have hbx := below_box1 w (caseC own A X Y fs.length cA cX cY done u9 u10 u11 u12) 42
  go_enter Try.func5, Try.ntmps5
  go_wp2_with (go_at_call 13; refine (twins_any A cA N fs _ (by simp only [World.size_alloc]; omega) (hA.below hbx hN) hsm.out).mono ?_; rintro e w1 ⟨ts, T, cT, I, cI, rfl, hts, hrel⟩; have hb1 := hrel.bel; rw [World.size_alloc] at hb1; obtain ⟨hb01, hc1, -, hz1⟩ := box1_facts hb1; obtain ⟨k0, k1, k2, k3, k4, k5, k6, k7, k8⟩ := case_cells hc1; clear hc1; have hmem := twMem_of hrel; clear hrel; have hr1 := hr.below hb01 hN; have hz1' := hb01.size)
  refine (twin_any own X Y cX cY N w1 (by omega) hr1 (by omega) (by omega)).mono ?_
  rintro e w2 ⟨t, ht, rfl, htw, hbw2⟩
  subst ht
  unfold eTw
  have hb2 := hb1.trans (hbw2.mono (by omega))
  obtain ⟨hb02, hc2, -, hz2⟩ := box1_facts hb2
  obtain ⟨j0, j1, j2, j3, j4, j5, j6, j7, j8⟩ := case_cells hc2
  clear hc2 k0 k1 k2 k3 k4 k5 k6 k7 k8
  have hz2' := hbw2.size
  have hmem2 := hmem.below hbw2 (Nat.le_refl _)
  have hI2 := hmem2.fls
  rw [hts] at hI2
  have lS := htw.s.len
  have lH := htw.h.len
  simp only [List.length_append, List.length_cons, List.length_nil] at lS lH
  have hFR : FlRows w2 w2.heap.size t.f (some ⟨t.g2, 0, none⟩) t.c2 (some ⟨t.g4, 0, none⟩) t.c4 := ⟨(htw.s.row len_eSlot).front, (htw.h.row len_eInt).front, by omega, lS.2, by omega, lH.2⟩
  clear hmem
  have hX : ∀ wx, Below (w2.heap.size + 1) (w2.alloc (.cells (eTw t).toArray 57)) wx → Below (w.heap.size + 1) (box1 w (caseC t.f A X Y fs.length cA cX cY done u9 u10 u11 u12) 42) wx ∧ TwMem wx w2.heap.size T cT I cI ts ∧ Fls wx w2.heap.size I fs ∧ FlRows wx w2.heap.size t.f (some ⟨t.g2, 0, none⟩) t.c2 (some ⟨t.g4, 0, none⟩) t.c4 ∧
      (∀ j, wx.cell? ⟨w2.heap.size, j, none⟩ = (eTw t).toArray[j]?) ∧ Fls wx N A fs ∧ FlRows wx N t.f X cX Y cY ∧ RowAt wx w2.heap.size 2 eSlot (some ⟨t.g2, 0, none⟩) (t.f.slots ++ [(71, 71)]) ∧ RowAt wx w2.heap.size 1 eInt (some ⟨t.g4, 0, none⟩) (t.f.have_ ++ [72]) := fun wx hx => by
    have ha : Below w2.heap.size w2 wx := ((Below.refl w2.heap.size w2).alloc (Nat.le_refl _) _).trans (hx.mono (by omega))
    have hbx2 := hb2.trans (ha.mono (by omega))
    have hbx0 := (box1_facts hbx2).1
    refine ⟨hbx2, (hmem2.below ha (by omega)).more' (by omega), (hI2.below ha (by omega)).more (by omega), hFR.below ha (Nat.le_refl _), fun j => ?_, hA.below hbx0 hN, hr.below hbx0 hN, (htw.s.row len_eSlot).below ha (Nat.le_refl _), (htw.h.row len_eInt).below ha (Nat.le_refl _)⟩
    rw [hx.cell (p := ⟨w2.heap.size, j, none⟩) (by show w2.heap.size < _; omega)]
    exact World.cell?_alloc_at _ _ _ _ rfl
  obtain ⟨W3, hW3⟩ : ∃ W3, W3 = w2.alloc (.cells (eTw t).toArray 57) := ⟨_, rfl⟩
  rw [← hW3] at hX
  have hs3 : W3.heap.size = w2.heap.size + 1 := by rw [hW3]; simp
  replace hW3 := Lib.hid hW3
  obtain ⟨-, -, i3, f3, -⟩ := hX W3 (Below.refl _ _)
  replace hX := Lib.hid hX
  have h24 := Lib.hid (lacks_any done t.f (some ⟨t.g2, 0, none⟩) (some ⟨t.g4, 0, none⟩) I t.c2 t.c4 cI w2.heap.size fs W3 (by omega) f3 i3 hl)
  go_wp2_with (go_at_call 24; change Calls Try.prog 24 _ (w2.alloc (.cells (eTw t).toArray 57)) _; rw [← hW3.out]; refine h24.out.mono ?_; rintro e w4 ⟨⟨B, cB, l, n, rfl, hLI, hown⟩, hbw4⟩; rw [hs3] at hbw4 hown; obtain ⟨hB4, m4, i4, f4, tc4, A4, o4, s4, e4⟩ := hX.out w4 hbw4; obtain ⟨hb04, hc4, -, hz4⟩ := box1_facts hB4; obtain ⟨k0, k1, k2, k3, k4, k5, k6, k7, k8⟩ := case_cells hc4; clear hc4; have hz4' := hb04.size)
  have hs4 := hbw4.size
  refine (rlacks_any done t.f X Y A cX cY cA N fs w4 (by omega) o4 A4 hl).mono ?_
  rintro e w5 ⟨⟨B', cB', l', n', rfl, hLI', hown'⟩, hbw5⟩
  obtain ⟨rfl, rfl⟩ := lacks_one hLI hLI'
  have hs5 := hbw5.size
  have hlo := hown.lo
  have ho5 := hown.keep hbw5 (fun k hk => (hlo k hk).2)
  have r1 := ho5.row len_eSlot
  have r2 := hown'.row len_eSlot
  have hll : l.length ≤ 9223372036854775807 := by have := ho5.len; omega
  clear k0 k1 k2 k3 k4 k5 k6 k7 k8 j0 j1 j2 j3 j4 j5 j6 j7 j8 tc4
  have hB5x : Below (w2.heap.size + 1) W3 w5 := hbw4.trans (hbw5.mono (by omega))
  obtain ⟨hB5, m5, i5, f5, tc5, A5, o5, s5, e5⟩ := hX.out w5 hB5x
  obtain ⟨hb05, hc5, -, hz5⟩ := box1_facts hB5
  obtain ⟨k0, k1, k2, k3, k4, k5, k6, k7, k8⟩ := case_cells hc5
  clear hc5
  have hz5' := hbw5.size
  have ts5 := tw_cells tc5
  obtain ⟨j0, j1, j2, j3, j4, j5, j6, j7, j8⟩ := ts5
  clear tc5
  go_wp2_with (first
    | (go_at_call 16; refine (num_any _ _).mono ?_; rintro e w6 ⟨rfl, rfl⟩)
    | (go_at_call 26; refine (sameSlots_yes B B' cB cB' w5.heap.size l w5 (Nat.le_refl _) r1 r2 hll).mono ?_; rintro e w6 ⟨rfl, hbw6⟩; have hB6x : Below (w2.heap.size + 1) W3 w6 := hB5x.trans (hbw6.mono (by omega)); obtain ⟨hB6, m6, i6, f6, tc6, A6, o6, s6, e6⟩ := hX.out w6 hB6x; obtain ⟨hb06, hc6, -, hz6⟩ := box1_facts hB6; obtain ⟨k0, k1, k2, k3, k4, k5, k6, k7, k8⟩ := case_cells hc6; clear hc6; have hz6' := hbw6.size; have ts6 := tw_cells tc6; obtain ⟨j0, j1, j2, j3, j4, j5, j6, j7, j8⟩ := ts6; clear tc6)
    | (go_at_call 17; refine (allunt_any T I A cT cI cA w2.heap.size fs ts _ (by omega) m6 hts (A6.more (by omega)) hl).mono ?_; rintro e w7 ⟨rfl, hbw7⟩; have hB7x : Below (w2.heap.size + 1) W3 w7 := hB6x.trans (hbw7.mono (by omega)); obtain ⟨hB7, m7, i7, f7, tc7, A7, o7, s7, e7⟩ := hX.out w7 hB7x; obtain ⟨hb07, hc7, -, hz7⟩ := box1_facts hB7; obtain ⟨k0, k1, k2, k3, k4, k5, k6, k7, k8⟩ := case_cells hc7; clear hc7; have hz7' := hbw7.size; have ts7 := tw_cells tc7; obtain ⟨j0, j1, j2, j3, j4, j5, j6, j7, j8⟩ := ts7; clear tc7)
    | (go_at_call 27; refine (untouched_yes t.f t.f t.g2 t.g4 t.c2 t.c4 w2.heap.size X Y cX cY _ (by omega) s7 e7 lS.1 lS.2 lH.1 lH.2 (⟨o7.slots.more (by omega), o7.have_.more (by omega), o7.lenS, o7.capS, o7.lenH, o7.capH⟩) rfl).mono ?_; rintro e w8 ⟨rfl, hbw8⟩; have hB8x : Below (w2.heap.size + 1) W3 w8 := hB7x.trans (hbw8.mono (by omega)); obtain ⟨hB8, m8, i8, f8, tc8, A8, o8, s8, e8⟩ := hX.out w8 hB8x; obtain ⟨hb08, hc8, -, hz8⟩ := box1_facts hB8; obtain ⟨k0, k1, k2, k3, k4, k5, k6, k7, k8⟩ := case_cells hc8; clear hc8; have hz8' := hbw8.size; have ts8 := tw_cells tc8; obtain ⟨j0, j1, j2, j3, j4, j5, j6, j7, j8⟩ := ts8; clear tc8)
    | fail)
  have ho6 := ho5.keep hbw6 (fun k hk => by have := (hlo k hk).2; omega)
  have ho7 := ho6.keep hbw7 (fun k hk => by have := (hlo k hk).2; omega)
  have ho8 := ho7.keep hbw8 (fun k hk => by have := (hlo k hk).2; omega)
  have hs8 := hB8x.size
  clear k0 k1 k2 k3 k4 k5 k6 k7 k8 j0 j1 j2 j3 j4 j5 j6 j7 j8 ho5 ho6 ho7 hown hown' hLI hLI' r1 r2
  go_loopw [10] (fun k wr => ∃ (i : Nat) (l' : List (Int × Int)), k = .int .i64 i ∧ i ≤ l.length ∧ l'.length = l.length ∧ Owns wr (w2.heap.size + 1) 66 2 eSlot B cB l' ∧ Below (w2.heap.size + 1) W3 wr) (fun k _ => l.length - (intOf k).toNat)
  case atStart => exact ⟨0, l, rfl, by omega, rfl, ho8, hB8x⟩
  case round =>
    obtain ⟨i, l', rfl, hi, hl', ho, hb⟩ := hrel
    have hsb := hb.size
    replace hl' := Lib.hid hl'
    by_cases hlt : i < l.length
    · obtain ⟨g1, cc1, hv1, hgl1, hgh1⟩ := World.ownsRow.form ho (by have := hl'.out; omega)
      obtain ⟨rfl, rfl⟩ : B = some ⟨g1, 0, none⟩ ∧ cB = cc1 := by injection hv1 with h1 _ h2; exact ⟨h1, h2⟩
      clear hv1
      obtain ⟨u0, q0⟩ := own_cell ho (j := i * 2) (by have := hl'.out; omega)
      obtain ⟨u1, q1⟩ := own_cell ho (j := i * 2 + 1) (by have := hl'.out; omega)
      have q2 : (wr.setCell ⟨g1, i * 2, none⟩ (.int .i64 99)).cell? ⟨g1, i * 2 + 1, none⟩ = some u1 := by
        rw [World.cell?_setCell_other _ _ _ _ (by simp)]; exact q1
      have hf := own_frozen ho
      clear q1
      go_wp2
      refine ⟨⟨i + 1, l'.set i (99, (i : Int)), by go_num, by omega, by rw [List.length_set]; exact hl'.out, ho.set2 (by have := hl'.out; omega) (99, (i : Int)), (hb.setCell hgl1 _).setCell hgl1 _⟩, by simp [intOf]; omega⟩
    · obtain ⟨hB9, m9, i9, f9, tc9, A9, o9, s9, e9⟩ := hX.out wr hb
      obtain ⟨hb09, hc9, -, hz9⟩ := box1_facts hB9
      obtain ⟨k0, k1, k2, k3, k4, k5, k6, k7, k8⟩ := case_cells hc9
      clear hc9
      have ts9 := tw_cells tc9
      obtain ⟨j0, j1, j2, j3, j4, j5, j6, j7, j8⟩ := ts9
      clear tc9
      go_wp2_with (first
        | (go_at_call 17; refine (allunt_any T I A cT cI cA w2.heap.size fs ts _ (by omega) m9 hts (A9.more (by omega)) hl).mono ?_; rintro e w10 ⟨rfl, hbw10⟩; have hB10x : Below (w2.heap.size + 1) W3 w10 := hb.trans (hbw10.mono (by omega)); have hs10 := hbw10.size; obtain ⟨hB0, m0, i0, f0, tc0, A0, o0, s0, e0⟩ := hX.out w10 hB10x; obtain ⟨hb00, hc0, -, hz0⟩ := box1_facts hB0; obtain ⟨k0, k1, k2, k3, k4, k5, k6, k7, k8⟩ := case_cells hc0; clear hc0; have ts0 := tw_cells tc0; obtain ⟨j0, j1, j2, j3, j4, j5, j6, j7, j8⟩ := ts0; clear tc0)
        | (go_at_call 27; refine (untouched_yes t.f t.f t.g2 t.g4 t.c2 t.c4 w2.heap.size X Y cX cY _ (by omega) s0 e0 lS.1 lS.2 lH.1 lH.2 (⟨o0.slots.more (by omega), o0.have_.more (by omega), o0.lenS, o0.capS, o0.lenH, o0.capH⟩) rfl).mono ?_; rintro e w11 ⟨rfl, hbw11⟩)
        | fail)
      go_ret
      exact ⟨rfl, hb00.trans (hbw11.mono (by omega))⟩
end Go.Proofs.Ytcffhfcjfjfokaa
/- What the document's Duty answers. -/
namespace Go.Proofs.Ytcffhfcjfjfokaa
open Go.RowKit
theorem place_ex (who : List Int) (t : Int) : ∃ r, PlaceIs who t r := by
  by_cases h : WhoOk who ∧ t ∈ who
  · obtain ⟨i, hi, e⟩ := List.getElem_of_mem h.2
    exact ⟨i, .inl ⟨i, h.1, by rw [List.getElem?_eq_getElem hi, e], rfl⟩⟩
  · exact ⟨-1, .inr ⟨rfl, h⟩⟩
theorem place_one {who : List Int} {t a b : Int} (h : PlaceIs who t a) (k : PlaceIs who t b) : a = b := by
  rcases h with ⟨i, ho, hi, rfl⟩ | ⟨rfl, hn⟩ <;> rcases k with ⟨j, ho', hj, rfl⟩ | ⟨rfl, hn'⟩
  · by_cases e : i = j
    · rw [e]
    · exact absurd hj (apart_of_nodup ho.2 e hi)
  · exact absurd ⟨ho, List.mem_of_getElem? hi⟩ hn'
  · exact absurd ⟨ho', List.mem_of_getElem? hj⟩ hn
  · rfl
theorem place_in {who : List Int} {t r : Int} (h : PlaceIs who t r) (h1 : WhoOk who) (h2 : t ∈ who) : ∃ i : Nat, i < who.length ∧ who[i]? = some t ∧ r = i := by
  rcases h with ⟨i, _, hi, rfl⟩ | ⟨rfl, hn⟩
  · exact ⟨i, (List.getElem?_eq_some_iff.1 hi).1, hi, rfl⟩
  · exact absurd ⟨h1, h2⟩ hn
theorem place_out {who : List Int} {t r : Int} (h : PlaceIs who t r) (h0 : ¬ r < 0) : WhoOk who ∧ t ∈ who := by
  rcases h with ⟨i, ho, hi, rfl⟩ | ⟨rfl, _⟩
  · exact ⟨ho, List.mem_of_getElem? hi⟩
  · omega
set_option maxRecDepth 100000 in
set_option maxHeartbeats 4000000 in
theorem rduty_any (self q : Int) (C A : Option Addr) (cC cA N : Nat) (who : List Int) (fs : List Fl) (w : World) (hN : N ≤ w.heap.size) (hC : RowAt w N 1 eInt C who) (hA : Fls w N A fs) (hl1 : who.length ≤ 9223372036854775807) (hl : fs.length ≤ 9223372036854775807) :
    Calls Try.prog 36 #[.int .i64 self, .int .i64 q, .slice C who.length cC, .slice A fs.length cA] w (DutyPost self q who fs w) := by
  obtain ⟨pl, hpl⟩ : ∃ pl : Int → Int, ∀ t, PlaceIs who t (pl t) := Classical.axiomOfChoice fun t => place_ex who t
  have H69 : ∀ (t : Int) (W : World), Below w.heap.size w W → Calls Try.prog 69 #[.slice C who.length cC, .int .i64 t] W fun e W' => e = .returned (.int .i64 (pl t)) ∧ Below w.heap.size w W' := fun t W h => by
    refine (place_any C cC N who t W (by have := h.size; omega) (hC.below h hN) hl1).mono ?_
    rintro e W' ⟨⟨r, rfl, hr⟩, hb⟩
    exact ⟨by rw [place_one hr (hpl t)], h.trans (hb.mono h.size)⟩
  replace H69 := Lib.hid H69
  have hS := hpl self
  have hQ := hpl q
  by_cases hH : DutyHead self q who fs
  · obtain ⟨h1, h2, h3, h4, h5⟩ := id hH
    obtain ⟨me, _, hme, hmp⟩ := place_in hS h3 h4
    obtain ⟨you, _, hyou, hyp⟩ := place_in hQ h3 h5
    have hsq : (self == q) = false := by simpa using h2
    have hlen : ((who.length : Int) != (fs.length : Int)) = false := by simp [h1]
    have hm0 : ((me : Int) < 0) = False := by simp
    have hy0 : ((you : Int) < 0) = False := by simp
    replace hme := Lib.hid hme
    replace hyou := Lib.hid hyou
    have hok := Lib.hid h3
    clear hS hQ hpl h3 h4 h5 h2
    replace h1 := Lib.hid h1
    replace hH := Lib.hid hH
    · go_enter Try.func36, Try.ntmps36
      go_wp2_with (go_at_call 69; refine (H69.out _ _ (by first | exact Below.refl _ _ | assumption)).mono ?_; rintro e w1 ⟨rfl, hb1⟩)
      obtain ⟨w2, hw2⟩ : ∃ w2 : World, w2 = w1 := ⟨_, rfl⟩
      subst hw2
      have hb20 := hb1
      have hs2 := hb1.size
      have hfy : you < fs.length := by have := (List.getElem?_eq_some_iff.1 hyou.out).1; have := h1.out; omega
      obtain ⟨f, hfi⟩ : ∃ f, Hid (fs[you]? = some f) := ⟨_, List.getElem?_eq_getElem hfy⟩
      clear hb1
      refine (listed_any A cA N fs w2 (by omega) (hA.below hb20 hN) hl).mono ?_
      rintro e w3 ⟨⟨n, rfl, hn⟩, hb3⟩
      replace hn := Lib.hid hn
      have hs3 := hb3.size
      have hb30 := hb20.trans (hb3.mono (by omega))
      clear hb3 hb20
      by_cases h0 : n ≠ 0
      · have h0' : (n != 0) = true := by simpa using h0
        go_wp2
        go_ret2
        go_light
        exact duty_none (.inr (.inl ⟨hH.out, n, h0, hn.out, rfl, rfl⟩)) hb30
      · obtain rfl : n = 0 := by omega
        have HFit := Lib.hid (listed_fit hn.out).1
        have hl16 := (listed_fit hn.out).2
        have hbp := base_nonneg fs
        have hbq := base_le HFit.out.sound
        have H54 := Lib.hid (end_any A cA N fs w3 (by omega) (hA.below hb30 hN) hl (fun f hf => ⟨(HFit.out.sound f hf).base0, by have := (HFit.out.sound f hf).base; omega⟩) hbp (fun n h => cut_bound HFit.out h))
        go_wp2_with (go_at_call 54; refine H54.out.mono ?_; rintro e w4 ⟨⟨cut, rfl, hcut⟩, hb4⟩)
        have hcb := cut_bound HFit.out (n := (cut - baseOf fs).toNat) (fun p h1 h2 => hcut.all p h1 (by have := hcut.low; omega))
        have hlow := hcut.low
        have hs4 := hb4.size
        have hb40 := hb30.trans (hb4.mono (by omega))
        clear hb4 hb30
        refine (base_any A cA N fs w4 (hA.below hb40 hN) hl).mono ?_
        rintro e w5 ⟨rfl, rfl⟩
        go_wp2
        obtain ⟨F, hF0⟩ : ∃ F, F = knownF fs := ⟨_, rfl⟩
        obtain ⟨p, hp0⟩ : ∃ p : Int × Int → Bool, p = fun s => !havB f.have_ s.1 s.2 && firstB who (hadL fs s.1 s.2) self := ⟨_, rfl⟩
        have hpq : ∀ s, p s = (!havB f.have_ s.1 s.2 && firstB who (hadL fs s.1 s.2) self) := fun s => by rw [hp0]
        have hDI : DutyIs self q who fs (pickTo F p (baseOf fs) (cut - baseOf fs).toNat) 0 := .inr (.inr ⟨hH.out, hn.out, HFit.out, rfl, cut, F, you, f, hcut, by rw [hF0]; exact knownF_iff HFit.out, hyou.out, hfi.out, by rw [hp0]⟩)
        have hKn : ∀ pos, baseOf fs < pos → pos ≤ cut → ∃ s : Int × Int, F pos = some s ∧ atOf fs pos = s ∧ ∀ f ∈ fs, rhasB f.have_ s.1 s.2 = havB f.have_ s.1 s.2 := fun pos h1 h2 => by
          obtain ⟨s, hs, -⟩ := (whole_iff HFit.out).1 (hcut.all pos h1 h2)
          exact ⟨s, by rw [hF0]; exact (knownF_iff HFit.out pos s).2 hs, atOf_known HFit.out hs, fun f hf => had_rhas HFit.out hs hf⟩
        have hbs : ∀ f ∈ fs, 0 ≤ f.base ∧ f.base ≤ 4611686018427387904 := fun f hf => ⟨(HFit.out.sound f hf).base0, by have := (HFit.out.sound f hf).base; omega⟩
        replace hbs := Lib.hid hbs
        replace hDI := Lib.hid hDI
        clear hp0 hF0 hcut hn
        go_loopw [13, 15] (fun a b wr => ∃ (k : Nat) (B : Option Addr) (cB m : Nat), b = .int .i64 (baseOf fs + k) ∧ a = .slice B m cB ∧ m = (pickTo F p (baseOf fs) k).length ∧ k ≤ (cut - baseOf fs).toNat ∧ Owns wr w.heap.size 66 2 eSlot B cB (pickTo F p (baseOf fs) k) ∧ m ≤ k ∧ Below w4.heap.size w4 wr) (fun _ b _ => (cut - intOf b).toNat)
        case atStart => exact ⟨0, none, 0, 0, by simp, rfl, rfl, by omega, owns_nil _ _ _ _ _, by omega, Below.refl _ _⟩
        case round =>
          obtain ⟨k, B, cB, m, rfl, rfl, hm, hk, hown, hmk, hb⟩ := hrel
          replace hm := Lib.hid hm
          have hlo := hown.lo
          have hszr := hb.size
          have hbr := hb40.trans (hb.mono (by omega))
          by_cases hlt : baseOf fs + k < cut
          · obtain ⟨⟨x, y⟩, hs, hat, hrh⟩ := hKn (baseOf fs + k + 1) (by omega) (by omega)
            have hpk : pickTo F p (baseOf fs) (k + 1) = if p (x, y) = true then ins (pickTo F p (baseOf fs) k) (x, y) else pickTo F p (baseOf fs) k := by rw [pickTo, show baseOf fs + 1 + (k : Int) = baseOf fs + k + 1 by omega, hs]
            have hflr := hA.below hbr hN
            replace hKn := Lib.hid hKn
            have hrh2 := Lib.hid hrh
            cases hh : havB f.have_ x y with
            | true =>
                      have hp : p (x, y) = false := by rw [hpq]; simp [hh]
                      rw [hp, if_neg (by simp)] at hpk
                      replace hpk := Lib.hid hpk
                      replace hh := Lib.hid hh
                      go_wp2_with (go_at_call 31; refine (at_any A cA N fs (baseOf fs + k + 1) wr (by omega) hflr hl (by omega) (by omega) hbs.out).mono ?_; rintro e w5 ⟨rfl, hbw5⟩; rw [hat]; have hs5 := hbw5.size)
                      have hbr5 := hbr.trans (hbw5.mono (by omega))
                      have hfl5 := hA.below hbr5 hN
                      obtain ⟨g', o', f', X, cX, Y, cY, hAe, hg', hf', ⟨c0, c1, c2, c3, c4, c5, c6⟩, hr⟩ := hfl5.at_ (k := you) (by omega)
                      obtain rfl : f = f' := by have := hf'.out; rw [hfi.out] at this; cases this; rfl
                      subst hAe
                      have hgw' : g' < w5.heap.size := by omega
                      have hown5 := hown.keep hbw5 (fun k hk => (hlo k hk).2)
                      have hown6 := hown5.alloc (.cells #[.int .i64 x, .int .i64 y] 66)
                      have hb6 := ((hb.trans (hbw5.mono (by omega))).alloc (by omega) (.cells #[.int .i64 x, .int .i64 y] 66))
                      have hbx6 : ∀ W : World, Below (w5.heap.size + 1) (w5.alloc (.cells #[.int .i64 x, .int .i64 y] 66)) W → Below w5.heap.size w5 W := fun W h => (box1_facts h).1
                      have h62 : ∀ W : World, Below (w5.heap.size + 1) (w5.alloc (.cells #[.int .i64 x, .int .i64 y] 66)) W → Calls Try.prog 62 #[.agg #[.int .i64 f.e, .int .i64 f.l, .int .i64 f.i, .int .i64 f.c, .int .i64 f.base, .slice X f.slots.length cX, .slice Y f.have_.length cY], .agg #[.int .i64 x, .int .i64 y]] W fun e W' => e = .returned (.bool (havB f.have_ x y)) ∧ Below (w5.heap.size + 1) (w5.alloc (.cells #[.int .i64 x, .int .i64 y] 66)) W' := fun W h => by
                        have h1 := hbx6 W h
                        rw [← hrh f (List.mem_of_getElem? hfi.out)]
                        exact (rhas_any f.e f.l f.i f.c f.base _ Y cY N f.have_ x y W (Nat.le_trans hr.lenH hr.capH) (by have := h1.size; omega) (hr.have_.below h1 (by omega))).mono fun e W' ⟨e1, e2⟩ => ⟨e1, h.trans (e2.mono (by have := h.size; simpa using this))⟩
                      replace h62 := Lib.hid h62
                      clear hbw5
                      refine wp_region_mid 5 (by kernel_rfl) rfl (by kernel_rfl) ?_
                      simp only [List.take_succ_cons, List.take_zero]
                      repeat (refine WS.step (fun K hK => ?_); go_simp; refine hK.out _ ?_; clear hK K)
                      refine WS.nil ?_
                      intro K hK
                      go_simp
                      go_at_call 62
                      refine (h62.out (w5.alloc (.cells #[.int .i64 x, .int .i64 y] 66)).drew (Below.drew (Below.refl _ _))).mono ?_
                      rintro e w7 ⟨rfl, hbw7⟩
                      rw [hh.out]
                      go_wp2_with fail
                      refine hK.out _ _ ?_
                      clear hK K
                      simp only [List.drop_succ_cons, List.drop_zero]
                      repeat (refine WS.step (fun K hK => ?_); go_simp; refine hK.out _ ?_; clear hK K)
                      refine WS.nil ?_
                      have hown7 := hown6.keep (B := w5.heap.size + 1) hbw7 (fun k hk => by have := (hlo k hk).2; omega)
                      have hb7 := hb6.trans (hbw7.mono (by omega))
                      go_wp2
                      refine ⟨⟨k + 1, B, cB, m, by rw [show ((k + 1 : Nat) : Int) = k + 1 by omega]; congr 1; omega, rfl, by rw [hpk.out]; exact hm.out, by omega, by rw [hpk.out]; exact hown7, by omega, hb7⟩, by simp [intOf]; omega⟩
            | false =>
                      replace hh := Lib.hid hh
                      go_wp2_with (go_at_call 31; refine (at_any A cA N fs (baseOf fs + k + 1) wr (by omega) hflr hl (by omega) (by omega) hbs.out).mono ?_; rintro e w5 ⟨rfl, hbw5⟩; rw [hat]; have hs5 := hbw5.size)
                      have hbr5 := hbr.trans (hbw5.mono (by omega))
                      have hfl5 := hA.below hbr5 hN
                      obtain ⟨g', o', f', X, cX, Y, cY, hAe, hg', hf', ⟨c0, c1, c2, c3, c4, c5, c6⟩, hr⟩ := hfl5.at_ (k := you) (by omega)
                      obtain rfl : f = f' := by have := hf'.out; rw [hfi.out] at this; cases this; rfl
                      subst hAe
                      have hgw' : g' < w5.heap.size := by omega
                      have hown5 := hown.keep hbw5 (fun k hk => (hlo k hk).2)
                      have hown6 := hown5.alloc (.cells #[.int .i64 x, .int .i64 y] 66)
                      have hb6 := ((hb.trans (hbw5.mono (by omega))).alloc (by omega) (.cells #[.int .i64 x, .int .i64 y] 66))
                      have hbx6 : ∀ W : World, Below (w5.heap.size + 1) (w5.alloc (.cells #[.int .i64 x, .int .i64 y] 66)) W → Below w5.heap.size w5 W := fun W h => (box1_facts h).1
                      have h62 : ∀ W : World, Below (w5.heap.size + 1) (w5.alloc (.cells #[.int .i64 x, .int .i64 y] 66)) W → Calls Try.prog 62 #[.agg #[.int .i64 f.e, .int .i64 f.l, .int .i64 f.i, .int .i64 f.c, .int .i64 f.base, .slice X f.slots.length cX, .slice Y f.have_.length cY], .agg #[.int .i64 x, .int .i64 y]] W fun e W' => e = .returned (.bool (havB f.have_ x y)) ∧ Below (w5.heap.size + 1) (w5.alloc (.cells #[.int .i64 x, .int .i64 y] 66)) W' := fun W h => by
                        have h1 := hbx6 W h
                        rw [← hrh f (List.mem_of_getElem? hfi.out)]
                        exact (rhas_any f.e f.l f.i f.c f.base _ Y cY N f.have_ x y W (Nat.le_trans hr.lenH hr.capH) (by have := h1.size; omega) (hr.have_.below h1 (by omega))).mono fun e W' ⟨e1, e2⟩ => ⟨e1, h.trans (e2.mono (by have := h.size; simpa using this))⟩
                      replace h62 := Lib.hid h62
                      clear hbw5
                      have hl' : fs.length = who.length := h1.out.symm
                      have hLL : hasL fs x y = hadL fs x y := List.map_congr_left fun f hf => hrh2.out f hf
                      have h70 : ∀ W : World, Below (w5.heap.size + 1) (w5.alloc (.cells #[.int .i64 x, .int .i64 y] 66)) W → Calls Try.prog 70 #[.slice C who.length cC, .slice (some ⟨g', o', none⟩) fs.length cA, .agg #[.int .i64 x, .int .i64 y]] W fun e W' => (∃ r, e = .returned (.int .i64 r) ∧ (r == (me : Int)) = firstB who (hadL fs x y) self) ∧ Below (w5.heap.size + 1) (w5.alloc (.cells #[.int .i64 x, .int .i64 y] 66)) W' := fun W h => by
                        have h1 := hbx6 W h
                        have h2 := hbr5.trans (h1.mono (by omega))
                        rw [hl']
                        refine (lowest_any C _ cC cA N who fs x y W (by have := h2.size; omega) (hC.below h2 hN) (hA.below h2 hN) hl1 hl').mono ?_
                        rintro e W' ⟨⟨r, rfl, hr⟩, e2⟩
                        rw [hLL] at hr
                        exact ⟨⟨r, rfl, low_eq hr hme.out (by unfold hadL; rw [List.length_map, hl']) hok.out.2⟩, h.trans (e2.mono (by have := h.size; simpa using this))⟩
                      have hall : ∀ W : World, Below (w5.heap.size + 1) (w5.alloc (.cells #[.int .i64 x, .int .i64 y] 66)) W → (Below (w5.heap.size + 1) (w5.alloc (.cells #[.int .i64 x, .int .i64 y] 66)) W ∧ W.cell? ⟨w5.heap.size, 0, none⟩ = some (.int .i64 x) ∧ W.cell? ⟨w5.heap.size, 1, none⟩ = some (.int .i64 y) ∧
                          W.cell? ⟨g', o' + you * 7, none⟩ = some (.int .i64 f.e) ∧ W.cell? ⟨g', o' + you * 7 + 1, none⟩ = some (.int .i64 f.l) ∧ W.cell? ⟨g', o' + you * 7 + 2, none⟩ = some (.int .i64 f.i) ∧ W.cell? ⟨g', o' + you * 7 + 3, none⟩ = some (.int .i64 f.c) ∧
                          W.cell? ⟨g', o' + you * 7 + 4, none⟩ = some (.int .i64 f.base) ∧ W.cell? ⟨g', o' + you * 7 + 5, none⟩ = some (.slice X f.slots.length cX) ∧ W.cell? ⟨g', o' + you * 7 + 6, none⟩ = some (.slice Y f.have_.length cY)) := fun W h => by
                        have h1 := hbx6 W h
                        obtain ⟨-, hc, -, -⟩ := box1_facts h
                        exact ⟨h, hc 0, hc 1, (h1.cell (p := ⟨g', _, none⟩) hgw').trans c0, (h1.cell (p := ⟨g', _, none⟩) hgw').trans c1, (h1.cell (p := ⟨g', _, none⟩) hgw').trans c2, (h1.cell (p := ⟨g', _, none⟩) hgw').trans c3, (h1.cell (p := ⟨g', _, none⟩) hgw').trans c4, (h1.cell (p := ⟨g', _, none⟩) hgw').trans c5, (h1.cell (p := ⟨g', _, none⟩) hgw').trans c6⟩
                      clear c0 c1 c2 c3 c4 c5 c6 hr hl' hLL hbr5 hfl5
                      replace hall := Lib.hid hall
                      replace hbx6 := Lib.hid hbx6
                      cases hfB : firstB who (hadL fs x y) self with
                      | false =>
                        rw [hfB] at h70
                        replace h70 := Lib.hid h70
                        have hp : p (x, y) = false := by rw [hpq]; simp [hfB]
                        rw [hp, if_neg (by simp)] at hpk
                        replace hpk := Lib.hid hpk
                        replace hfB := Lib.hid hfB
                        go_region_held3 (fun W => Below (w5.heap.size + 1) (w5.alloc (.cells #[.int .i64 x, .int .i64 y] 66)) W ∧ W.cell? ⟨w5.heap.size, 0, none⟩ = some (.int .i64 x) ∧ W.cell? ⟨w5.heap.size, 1, none⟩ = some (.int .i64 y) ∧
                          W.cell? ⟨g', o' + you * 7, none⟩ = some (.int .i64 f.e) ∧ W.cell? ⟨g', o' + you * 7 + 1, none⟩ = some (.int .i64 f.l) ∧ W.cell? ⟨g', o' + you * 7 + 2, none⟩ = some (.int .i64 f.i) ∧ W.cell? ⟨g', o' + you * 7 + 3, none⟩ = some (.int .i64 f.c) ∧
                          W.cell? ⟨g', o' + you * 7 + 4, none⟩ = some (.int .i64 f.base) ∧ W.cell? ⟨g', o' + you * 7 + 5, none⟩ = some (.slice X f.slots.length cX) ∧ W.cell? ⟨g', o' + you * 7 + 6, none⟩ = some (.slice Y f.have_.length cY))
                          (first | exact hall.out _ (Below.drew (Below.refl _ _)) | exact hall.out _ hbw7 | go_keep)
                          (first | (go_at_call 62; refine (h62.out _ (‹Below (w5.heap.size + 1) _ _ ∧ _›).1).mono ?_; rintro e w7 ⟨rfl, hbw7⟩; rw [hh.out]) | (go_at_call 70; refine (h70.out _ (‹Below (w5.heap.size + 1) _ _ ∧ _›).1).mono ?_; rintro e w7 ⟨⟨r, rfl, hre⟩, hbw7⟩))
                        obtain ⟨hbl, z0, z1, -⟩ := ‹Below (w5.heap.size + 1) _ _ ∧ _›
                        have hown7 := hown6.keep (B := w5.heap.size + 1) hbl (fun k hk => by have := (hlo k hk).2; omega)
                        have hb7 := hb6.trans (hbl.mono (by omega))
                        go_wp2
                        refine ⟨⟨k + 1, B, cB, m, by rw [show ((k + 1 : Nat) : Int) = k + 1 by omega]; congr 1; omega, rfl, by rw [hpk.out]; exact hm.out, by omega, by rw [hpk.out]; exact hown7, by omega, hb7⟩, by simp [intOf]; omega⟩
                      | true =>
                        rw [hfB] at h70
                        replace h70 := Lib.hid h70
                        have hp : p (x, y) = true := by rw [hpq]; simp [hfB, hh.out]
                        rw [hp, if_pos rfl] at hpk
                        replace hpk := Lib.hid hpk
                        replace hfB := Lib.hid hfB
                        go_region_held3 (fun W => Below (w5.heap.size + 1) (w5.alloc (.cells #[.int .i64 x, .int .i64 y] 66)) W ∧ W.cell? ⟨w5.heap.size, 0, none⟩ = some (.int .i64 x) ∧ W.cell? ⟨w5.heap.size, 1, none⟩ = some (.int .i64 y) ∧
                          W.cell? ⟨g', o' + you * 7, none⟩ = some (.int .i64 f.e) ∧ W.cell? ⟨g', o' + you * 7 + 1, none⟩ = some (.int .i64 f.l) ∧ W.cell? ⟨g', o' + you * 7 + 2, none⟩ = some (.int .i64 f.i) ∧ W.cell? ⟨g', o' + you * 7 + 3, none⟩ = some (.int .i64 f.c) ∧
                          W.cell? ⟨g', o' + you * 7 + 4, none⟩ = some (.int .i64 f.base) ∧ W.cell? ⟨g', o' + you * 7 + 5, none⟩ = some (.slice X f.slots.length cX) ∧ W.cell? ⟨g', o' + you * 7 + 6, none⟩ = some (.slice Y f.have_.length cY))
                          (first | exact hall.out _ (Below.drew (Below.refl _ _)) | exact hall.out _ hbw7 | go_keep)
                          (first | (go_at_call 62; refine (h62.out _ (‹Below (w5.heap.size + 1) _ _ ∧ _›).1).mono ?_; rintro e w7 ⟨rfl, hbw7⟩; rw [hh.out]) | (go_at_call 70; refine (h70.out _ (‹Below (w5.heap.size + 1) _ _ ∧ _›).1).mono ?_; rintro e w7 ⟨⟨r, rfl, hre⟩, hbw7⟩))
                        obtain ⟨hbl, z0, z1, -⟩ := ‹Below (w5.heap.size + 1) _ _ ∧ _›
                        have hown7 := hown6.keep (B := w5.heap.size + 1) hbl (fun k hk => by have := (hlo k hk).2; omega)
                        have hb7 := hb6.trans (hbl.mono (by omega))
                        have hs7 := hbl.size
                        simp only [World.size_alloc] at hs7
                        have hrow7 := hown7.row len_eSlot
                        have hpk' := hpk.out
                        have hm' := hm.out
                        clear hpk hm hown hown5 hown6 hown7
                        generalize pickTo F p (baseOf fs) k = L at hpk' hm' hrow7
                        replace hpk' := Lib.hid hpk'
                        have hm := Lib.hid hm'
                        clear hm'
                        have hS := Lib.hid (sorted_any B cB _ L x y _ (Nat.le_refl _) hrow7 (by have := hm.out; omega))
                        rw [← hm.out] at hS
                        go_wp2_with (go_at_call 63; refine hS.out.mono ?_; rintro e w8 ⟨⟨B8, c8, rfl, hown8⟩, hbw8⟩)
                        have hown9 := hown8.lower (base' := w.heap.size) (by omega)
                        have hb8 := hb7.trans (hbw8.mono (by omega))
                        refine ⟨⟨k + 1, B8, c8, m + 1, by rw [show ((k + 1 : Nat) : Int) = k + 1 by omega]; congr 1; omega, rfl, by rw [hpk'.out, ins_length, ← hm.out], by omega, by rw [hpk'.out]; exact hown9, by omega, hb8⟩, by simp [intOf]; omega⟩
          · have hke : k = (cut - baseOf fs).toNat := by omega
            subst hke
            have hm' := hm.out
            subst hm'
            replace hown := Lib.hid hown
            go_wp2
            go_ret2
            go_light
            exact ⟨⟨B, cB, _, 0, rfl, hDI.out, hown.out⟩, hbr⟩
  · have HB := Lib.hid (duty_bad hH)
    replace hH := Lib.hid hH
    replace hpl := Lib.hid hpl
    by_cases h1 : who.length = fs.length
    · have hlen : ((who.length : Int) != (fs.length : Int)) = false := by simp [h1]
      replace h1 := Lib.hid h1
      by_cases h3 : pl self < 0
      · go_enter Try.func36, Try.ntmps36
        go_wp2_with (go_at_call 69; refine (H69.out _ _ (by first | exact Below.refl _ _ | assumption)).mono ?_; rintro e w1 ⟨rfl, hb1⟩)
        go_ret2
        go_light
        exact duty_none HB.out hb1
      · by_cases h4 : pl q < 0
        · go_enter Try.func36, Try.ntmps36
          go_wp2_with (go_at_call 69; refine (H69.out _ _ (by first | exact Below.refl _ _ | assumption)).mono ?_; rintro e w1 ⟨rfl, hb1⟩)
          go_ret2
          go_light
          exact duty_none HB.out hb1
        · have hsq : (self == q) = true := by
            by_cases h2 : self = q
            · simpa using h2
            · exact absurd ⟨h1.out, h2, (place_out hS h3).1, (place_out hS h3).2, (place_out hQ h4).2⟩ hH.out
          go_enter Try.func36, Try.ntmps36
          go_wp2_with (go_at_call 69; refine (H69.out _ _ (by first | exact Below.refl _ _ | assumption)).mono ?_; rintro e w1 ⟨rfl, hb1⟩)
          go_ret2
          go_light
          exact duty_none HB.out hb1
    · have hlen : ((who.length : Int) != (fs.length : Int)) = true := by simp; omega
      go_enter Try.func36, Try.ntmps36
      go_wp2_with (go_at_call 69; refine (H69.out _ _ (by first | exact Below.refl _ _ | assumption)).mono ?_; rintro e w1 ⟨rfl, hb1⟩)
      go_ret2
      go_light
      exact duty_none HB.out hb1
end Go.Proofs.Ytcffhfcjfjfokaa
/- FlushDuty's walk. -/
namespace Go.Proofs.Ytcffhfcjfjfokaa
open Go.RowKit
theorem duty_one {self q : Int} {who : List Int} {fs : List Fl} {l l' : List (Int × Int)} {n n' : Int} (h : DutyIs self q who fs l n) (k : DutyIs self q who fs l' n') : l = l' ∧ n = n' := by
  rcases h with ⟨hH, rfl, rfl⟩ | ⟨hH, m, hm, hL, rfl, rfl⟩ | ⟨hH, hL, hf, rfl, cut, F, iy, g, hc, hF, hy, hg, rfl⟩ <;>
    rcases k with ⟨hH', rfl, rfl⟩ | ⟨hH', m', hm', hL', rfl, rfl⟩ | ⟨hH', hL', hf', rfl, cut', F', iy', g', hc', hF', hy', hg', rfl⟩
  · exact ⟨rfl, rfl⟩
  · exact absurd hH' hH
  · exact absurd hH' hH
  · exact absurd hH hH'
  · exact ⟨rfl, listed_one hL hL'⟩
  · exact absurd (listed_one hL hL') hm
  · exact absurd hH hH'
  · exact absurd (listed_one hL' hL) hm'
  · obtain rfl := cut_one hc hc'
    have : F = F' := funext fun pos => Option.ext fun s => by rw [hF pos s, hF' pos s]
    subst this
    have e : iy = iy' := Decidable.byContradiction fun e => apart_of_nodup hH.2.2.1.2 e hy hy'
    subst e
    rw [hg] at hg'; cases hg'
    exact ⟨rfl, rfl⟩
abbrev caseD (own : Fl) (A X Y C : Option Addr) (k cA cX cY nw cC : Nat) (done self q : Int) (u : Value) : Array Value := #[.slice A k cA, .int .i64 own.e, .int .i64 own.l, .int .i64 own.i, .int .i64 own.c, .int .i64 own.base, .slice X own.slots.length cX, .slice Y own.have_.length cY, .int .i64 done, .slice C nw cC, .int .i64 self, .int .i64 q, u]
theorem caseD_cells {w : World} {b : Nat} {own : Fl} {done self q : Int} {X Y A C : Option Addr} {k nw cA cX cY cC : Nat} {u : Value}
    (h : ∀ j, w.cell? ⟨b, j, none⟩ = (caseD own A X Y C k cA cX cY nw cC done self q u)[j]?) :
    w.cell? ⟨b, 0, none⟩ = some (.slice A k cA) ∧ w.cell? ⟨b, 9, none⟩ = some (.slice C nw cC) ∧ w.cell? ⟨b, 10, none⟩ = some (.int .i64 self) ∧ w.cell? ⟨b, 11, none⟩ = some (.int .i64 q) := ⟨h 0, h 9, h 10, h 11⟩
set_option maxRecDepth 100000 in
set_option maxHeartbeats 4000000 in
theorem flushDuty_walk (A X Y C : Option Addr) (cA cX cY cC N : Nat) (fs : List Fl) (own : Fl) (done self q : Int) (who : List Int) (u : Value) (w : World) (hN : N ≤ w.heap.size) (hA : Fls w N A fs) (hsm : Small fs) (hC : RowAt w N 1 eInt C who) (hw : who.length ≤ 1048576) :
    Calls Try.prog 7 #[.agg (caseD own A X Y C fs.length cA cX cY who.length cC done self q u)] w fun x w' => x = .returned (.bool true) ∧ Below w.heap.size w w' := by
  have hl : fs.length ≤ 9223372036854775807 := by have := hsm.1; omega
  have hl1 : who.length ≤ 9223372036854775807 := by omega
  replace hsm := Lib.hid hsm
  have hbx := below_box1 w (caseD own A X Y C fs.length cA cX cY who.length cC done self q u) 42
  go_enter Try.func7, Try.ntmps7
  go_wp2_with (first
    | (go_at_call 13; refine (twins_any A cA N fs _ (by simp only [World.size_alloc]; omega) (hA.below hbx hN) hsm.out).mono ?_; rintro e w1 ⟨ts, T, cT, I, cI, rfl, hts, hrel⟩; have hb1 := hrel.bel; rw [World.size_alloc] at hb1; obtain ⟨hb01, hc1, -, hz1⟩ := box1_facts hb1; obtain ⟨k0, k9, k10, k11⟩ := caseD_cells hc1; clear hc1; have hmem := twMem_of hrel; clear hrel; have hz1' := hb01.size)
    | (at_builtin; refine wpList_append_rows _ rfl (.tmp 17) (.tmp 19) 37 rfl w1.heap.size 3 1 8 _ Try.underlying37 info3 rfl (by decide) eInt len_eInt one_eInt (some ⟨w1.heap.size, 0, none⟩) 0 [] C cC N 0 who.length who rfl rfl rfl rfl (owns_empty_at _ _ _ _ _ rfl (Nat.le_refl _)) (hC.below (hb01.alloc (by omega) _) hN) (by omega) (by omega) (by simp) ?_)
    | fail)
  intro A2 c2 w2 ho2 hg2 hk2
  have hb12 : Below w1.heap.size w1 w2 := ((Below.refl w1.heap.size w1).alloc (Nat.le_refl _) _).grown hg2 (by simp) (by intro k hk; simp [blk] at hk; omega)
  have hlo2 := ho2.lo
  have hz2 := hb12.size
  clear hg2 hk2 k0 k9 k10 k11
  have hX : ∀ wx, Below w2.heap.size w2 wx → Below (w.heap.size + 1) (box1 w (caseD own A X Y C fs.length cA cX cY who.length cC done self q u) 42) wx ∧ TwMem wx w2.heap.size T cT I cI ts ∧ Fls wx w2.heap.size I fs ∧ Fls wx N A fs ∧ RowAt wx N 1 eInt C who ∧ RowAt wx w2.heap.size 1 eInt A2 who := fun wx hx => by
    have ha := hb12.trans (hx.mono hz2)
    have hbx2 := hb1.trans (ha.mono (by omega))
    have hbx0 := (box1_facts hbx2).1
    have hm := (hmem.below ha (Nat.le_refl _)).more' hz2
    have hI := hm.fls
    rw [hts] at hI
    exact ⟨hbx2, hm, hI, hA.below hbx0 hN, hC.below hbx0 hN, (ho2.row len_eInt).below hx (Nat.le_refl _)⟩
  have hx2 : Below w2.heap.size w2 w2 := Below.refl _ _
  replace hX := Lib.hid hX
  obtain ⟨hB2, m2, i2, fa2, rc2, rd2⟩ := hX.out w2 hx2
  obtain ⟨hb02, hc2, -, hz2⟩ := box1_facts hB2
  obtain ⟨k0, k9, k10, k11⟩ := caseD_cells hc2
  clear hc2
  have hz2' := hb02.size
  have h35 := Lib.hid (duty_any self q A2 I c2 cI w2.heap.size who fs w2 (Nat.le_refl _) rd2 i2 hl1 hl)
  have ho2' := Lib.hid ho2
  clear ho2
  go_wp2_with (go_at_call 35; refine h35.out.mono ?_; rintro e w4 ⟨⟨B, cB, l, n, rfl, hLI, hown⟩, hbw4⟩; have hx4 : Below w2.heap.size w2 w4 := hbw4; obtain ⟨hB4, m4, i4, fa4, rc4, rd4⟩ := hX.out w4 hx4; obtain ⟨hb04, hc4, -, hz4⟩ := box1_facts hB4; obtain ⟨k0, k9, k10, k11⟩ := caseD_cells hc4; clear hc4; have hz4' := hb04.size)
  have hs4 := hbw4.size
  refine (rduty_any self q C A cC cA N who fs w4 (by omega) rc4 fa4 hl1 hl).mono ?_
  rintro e w5 ⟨⟨B', cB', l', n', rfl, hLI', hown'⟩, hbw5⟩
  obtain ⟨rfl, rfl⟩ := duty_one hLI hLI'
  have hs5 := hbw5.size
  have hlo := hown.lo
  have ho5 := hown.keep hbw5 (fun k hk => (hlo k hk).2)
  have r1 := ho5.row len_eSlot
  have r2 := hown'.row len_eSlot
  have hll : l.length ≤ 9223372036854775807 := by have := ho5.len; omega
  have hx5 : Below w2.heap.size w2 w5 := hx4.trans (hbw5.mono hs4)
  clear k0 k9 k10 k11
  obtain ⟨hB5, m5, i5, fa5, rc5, rd5⟩ := hX.out w5 hx5
  obtain ⟨hb05, hc5, -, hz5⟩ := box1_facts hB5
  obtain ⟨k0, k9, k10, k11⟩ := caseD_cells hc5
  clear hc5
  have hz5' := hb05.size
  go_wp2_with (first
    | (go_at_call 16; refine (num_any _ _).mono ?_; rintro e w6 ⟨rfl, rfl⟩)
    | (go_at_call 26; refine (sameSlots_yes B B' cB cB' w5.heap.size l w5 (Nat.le_refl _) r1 r2 hll).mono ?_; rintro e w6 ⟨rfl, hbw6⟩; have hx6 : Below w2.heap.size w2 w6 := hx5.trans (hbw6.mono (by omega)); have hs6 := hx6.size; obtain ⟨hB6, m6, i6, fa6, rc6, rd6⟩ := hX.out w6 hx6; obtain ⟨hb06, hc6, -, hz6⟩ := box1_facts hB6; obtain ⟨k0, k9, k10, k11⟩ := caseD_cells hc6; clear hc6; have hz6' := hb06.size)
    | (go_at_call 37; refine (sameInts_yes A2 C c2 cC w2.heap.size who w6 (by omega) rd6 (rc6.more (by omega)) hl1).mono ?_; rintro e w7 ⟨rfl, hbw7⟩; have hx7 : Below w2.heap.size w2 w7 := hx6.trans (hbw7.mono (by omega)); obtain ⟨hB7, m7, i7, fa7, rc7, rd7⟩ := hX.out w7 hx7; obtain ⟨hb07, hc7, -, hz7⟩ := box1_facts hB7; obtain ⟨k0, k9, k10, k11⟩ := caseD_cells hc7; clear hc7; have hz7' := hb07.size)
    | fail)
  have ho6 := ho5.keep hbw6 (fun k hk => by have := (hlo k hk).2; omega)
  have ho7 := ho6.keep hbw7 (fun k hk => by have := (hlo k hk).2; have := hbw6.size; omega)
  have hs7 := hx7.size
  clear k0 k9 k10 k11 ho5 ho6 hown hown' hLI hLI' r1 r2
  go_loopw [10] (fun k wr => ∃ (i : Nat) (l' : List (Int × Int)), k = .int .i64 i ∧ i ≤ l.length ∧ l'.length = l.length ∧ Owns wr w2.heap.size 66 2 eSlot B cB l' ∧ Below w2.heap.size w2 wr) (fun k _ => l.length - (intOf k).toNat)
  case atStart => exact ⟨0, l, rfl, by omega, rfl, ho7, hx7⟩
  case round =>
    obtain ⟨i, l', rfl, hi, hl', ho, hb⟩ := hrel
    have hsb := hb.size
    replace hl' := Lib.hid hl'
    by_cases hlt : i < l.length
    · obtain ⟨g1, cc1, hv1, hgl1, hgh1⟩ := World.ownsRow.form ho (by have := hl'.out; omega)
      obtain ⟨rfl, rfl⟩ : B = some ⟨g1, 0, none⟩ ∧ cB = cc1 := by injection hv1 with h1 _ h2; exact ⟨h1, h2⟩
      clear hv1
      obtain ⟨u0, q0⟩ := own_cell ho (j := i * 2) (by have := hl'.out; omega)
      obtain ⟨u1, q1⟩ := own_cell ho (j := i * 2 + 1) (by have := hl'.out; omega)
      have q2 : (wr.setCell ⟨g1, i * 2, none⟩ (.int .i64 99)).cell? ⟨g1, i * 2 + 1, none⟩ = some u1 := by
        rw [World.cell?_setCell_other _ _ _ _ (by simp)]; exact q1
      have hf := own_frozen ho
      clear q1
      go_wp2
      refine ⟨⟨i + 1, l'.set i (99, (i : Int)), by go_num, by omega, by rw [List.length_set]; exact hl'.out, ho.set2 (by have := hl'.out; omega) (99, (i : Int)), (hb.setCell hgl1 _).setCell hgl1 _⟩, by simp [intOf]; omega⟩
    · obtain ⟨hB9, m9, i9, fa9, rc9, rd9⟩ := hX.out wr hb
      obtain ⟨hb09, hc9, -, hz9⟩ := box1_facts hB9
      obtain ⟨k0, k9, k10, k11⟩ := caseD_cells hc9
      clear hc9
      have hz9' := hb09.size
      go_wp2_with (go_at_call 17; refine (allunt_any T I A cT cI cA w2.heap.size fs ts _ (by omega) m9 hts (fa9.more (by omega)) hl).mono ?_; rintro e w10 ⟨rfl, hbw10⟩)
      go_ret
      exact ⟨rfl, hb09.trans (hbw10.mono (by omega))⟩
end Go.Proofs.Ytcffhfcjfjfokaa
