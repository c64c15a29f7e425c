/- Allunt LackWalk DutyWalk Rrest SameMsg, joined. -/
import Derived.Test.YtcffhfcjfjfokaaSv6
import Derived.Test.YtcffhfcjfjfokaaSv11
import Derived.Test.YtcffhfcjfjfokaaSv12
import Derived.Test.YtcffhfcjfjfokaaSv13
import Derived.Test.YtcffhfcjfjfokaaSv15
set_option linter.unusedVariables false
set_option linter.unusedSimpArgs false
/- What the law's allUntouched answers where nothing was touched. -/
namespace Go.Proofs.Ytcffhfcjfjfokaa
open Go.RowKit
/-- The law's copies lie in memory, as they were made. -/
structure TwMem (w : World) (N : Nat) (T : Option Addr) (cT : Nat) (I : Option Addr) (cI : Nat) (ts : List Tw) : Prop where
  row : RowAt w N 9 eTw T ts
  inn : RowAt w N 7 flTw I ts
  s : ∀ t ∈ ts, RowAt w N 2 eSlot (some ⟨t.g2, 0, none⟩) (t.f.slots ++ [(71, 71)]) ∧ t.f.slots.length + 1 ≤ t.c2 ∧ t.c2 ≤ 9223372036854775807
  h : ∀ t ∈ ts, RowAt w N 1 eInt (some ⟨t.g4, 0, none⟩) (t.f.have_ ++ [72]) ∧ t.f.have_.length + 1 ≤ t.c4 ∧ t.c4 ≤ 9223372036854775807
  capT : ts.length ≤ cT
  capI : ts.length ≤ cI
theorem TwMem.below {w w' : World} {N N' : Nat} {T I : Option Addr} {cT cI : Nat} {ts : List Tw} (h : TwMem w N T cT I cI ts) (hb : Below N' w w') (hN : N ≤ N') : TwMem w' N T cT I cI ts :=
  ⟨h.row.below hb hN, h.inn.below hb hN, fun t ht => ⟨(h.s t ht).1.below hb hN, (h.s t ht).2⟩, fun t ht => ⟨(h.h t ht).1.below hb hN, (h.h t ht).2⟩, h.capT, h.capI⟩
theorem TwMem.fls {w : World} {N : Nat} {T I : Option Addr} {cT cI : Nat} {ts : List Tw} (h : TwMem w N T cT I cI ts) : Fls w N I (ts.map Tw.f) := fun h0 => by
  obtain ⟨b, off, hA, hb, hc⟩ := h.inn (by simpa using h0)
  refine ⟨b, off, hA, hb, fun k f hf => ?_⟩
  rw [List.getElem?_map] at hf
  cases hr : ts[k]? with
  | none => rw [hr] at hf; cases hf
  | some r =>
    rw [hr] at hf; cases hf
    have hm := List.mem_of_getElem? hr
    refine ⟨_, _, _, _, ⟨hc k r hr 0 _ rfl, hc k r hr 1 _ rfl, hc k r hr 2 _ rfl, hc k r hr 3 _ rfl, hc k r hr 4 _ rfl, hc k r hr 5 _ rfl, hc k r hr 6 _ rfl⟩, ⟨(h.s r hm).1.front, (h.h r hm).1.front, by have := (h.s r hm).2.1; omega, (h.s r hm).2.2, by have := (h.h r hm).2.1; omega, (h.h r hm).2.2⟩⟩
theorem twMem_of {w wr : World} {fs : List Fl} {ts : List Tw} {T I : Option Addr} {cT cI : Nat} (h : TwRel w wr fs fs.length ts T cT I cI) : TwMem wr wr.heap.size T cT I cI ts :=
  ⟨h.own.row len_eTw, h.inn.row len_flTw, fun t ht => ⟨(h.each t ht).s.row len_eSlot, by have := (h.each t ht).s.len; simp at this; exact this⟩, fun t ht => ⟨(h.each t ht).h.row len_eInt, by have := (h.each t ht).h.len; simp at this; exact this⟩, h.own.len.1, h.inn.len.1⟩
theorem row_tw {w : World} {N : Nat} {T : Option Addr} {ts : List Tw} (h : RowAt w N 9 eTw T ts) {k : Nat} (hk : k < ts.length) : ∃ b off t, T = some ⟨b, off, none⟩ ∧ b < N ∧ Hid (ts[k]? = some t) ∧
    w.cell? ⟨b, off + k * 9, none⟩ = some (.int .i64 t.f.e) ∧ w.cell? ⟨b, off + k * 9 + 1, none⟩ = some (.int .i64 t.f.l) ∧ w.cell? ⟨b, off + k * 9 + 2, none⟩ = some (.int .i64 t.f.i) ∧ w.cell? ⟨b, off + k * 9 + 3, none⟩ = some (.int .i64 t.f.c) ∧
    w.cell? ⟨b, off + k * 9 + 4, none⟩ = some (.int .i64 t.f.base) ∧ w.cell? ⟨b, off + k * 9 + 5, none⟩ = some (.slice (some ⟨t.g2, 0, none⟩) t.f.slots.length t.c2) ∧ w.cell? ⟨b, off + k * 9 + 6, none⟩ = some (.slice (some ⟨t.g4, 0, none⟩) t.f.have_.length t.c4) ∧
    w.cell? ⟨b, off + k * 9 + 7, none⟩ = some (.slice (some ⟨t.g2, 0, none⟩) (t.f.slots.length + 1) t.c2) ∧ w.cell? ⟨b, off + k * 9 + 8, none⟩ = some (.slice (some ⟨t.g4, 0, none⟩) (t.f.have_.length + 1) t.c4) := by
  obtain ⟨b, off, e, hb, hc⟩ := h (by omega)
  have hg : ts[k]? = some ts[k] := List.getElem?_eq_getElem hk
  exact ⟨b, off, ts[k], e, hb, hg, hc k _ hg 0 _ rfl, hc k _ hg 1 _ rfl, hc k _ hg 2 _ rfl, hc k _ hg 3 _ rfl, hc k _ hg 4 _ rfl, hc k _ hg 5 _ rfl, hc k _ hg 6 _ rfl, hc k _ hg 7 _ rfl, hc k _ hg 8 _ rfl⟩
set_option maxRecDepth 100000 in
set_option maxHeartbeats 2000000 in
theorem allunt_any (T I A : Option Addr) (cT cI cA N : Nat) (fs : List Fl) (ts : List Tw) (w : World) (hN : N ≤ w.heap.size) (hT : TwMem w N T cT I cI ts) (hts : ts.map Tw.f = fs) (hA : Fls w N A fs) (hl : fs.length ≤ 9223372036854775807) :
    Calls Try.prog 17 #[.slice T fs.length cT, .slice I fs.length cI, .slice A fs.length cA] w fun x w' => x = .returned (.bool true) ∧ Below w.heap.size w w' := by
  have hlen : ts.length = fs.length := by rw [← hts, List.length_map]
  have Hts := Lib.hid hts
  have Hlen := Lib.hid hlen
  clear hts hlen
  go_enter Try.func17, Try.ntmps17
  go_wp2
  go_loopw [7] (fun k wr => ∃ q : Nat, k = .int .i64 q ∧ q ≤ fs.length ∧ Below w.heap.size w wr) (fun k _ => fs.length - (intOf k).toNat)
  case atStart => exact ⟨0, rfl, by omega, Below.refl _ _⟩
  case round =>
    obtain ⟨q, rfl, hq, hb⟩ := hrel
    have hsz := hb.size
    have hTw := hT.below hb hN
    by_cases hlt : q < fs.length
    · obtain ⟨g, o, t, rfl, hg, ht, d0, d1, d2, d3, d4, d5, d6, d7, d8⟩ := row_tw hTw.row (k := q) (by rw [Hlen.out]; exact hlt)
      obtain ⟨g', o', f, X, cX, Y, cY, rfl, hg', hf, ⟨c0, c1, c2, c3, c4, c5, c6⟩, hr⟩ := (hA.below hb hN).at_ hlt
      obtain rfl : t.f = f := by
        have h1 := hf.out
        rw [← Hts.out, List.getElem?_map, ht.out] at h1
        exact Option.some.inj h1
      have hm := List.mem_of_getElem? ht.out
      obtain ⟨s1, s2, s3⟩ := hTw.s t hm
      obtain ⟨u1, u2, u3⟩ := hTw.h t hm
      have hgw : g < wr.heap.size := by omega
      have hgw' : g' < wr.heap.size := by omega
      have hb1 : Below N wr wr.drew := Below.drew (Below.refl _ _)
      clear hT hTw hA
      go_wp2
      go_still_tail 8, (by kernel_rfl)
      change wpList _ _ _ _ _ wr.drew
      go_wp2_with (go_at_call 27; refine (untouched_yes (w := wr.drew) t.f t.f _ _ _ _ N _ _ _ _ (by show N ≤ wr.heap.size; omega) (s1.below hb1 (Nat.le_refl _)) (u1.below hb1 (Nat.le_refl _)) s2 s3 u2 u3 (hr.below hb1 (Nat.le_refl _)) rfl).mono ?_; rintro e w' ⟨rfl, hbw⟩)
      go_roundw
      case rel => go_light; exact ⟨q + 1, by go_num, by omega, (Below.drew hb).trans (hbw.mono (by show _ ≤ wr.heap.size; omega))⟩
      case measure => go_light; simp [intOf]; omega
    · have hfl := hTw.fls
      rw [Hts.out] at hfl
      go_wp2_with (go_at_call 55; refine (sameFls_yes I A cI cA N fs _ (by omega) hfl (hA.below hb hN) hl).mono ?_; rintro e w' ⟨rfl, hbw⟩)
      go_ret
      go_light
      exact ⟨rfl, hb.trans (hbw.mono hsz)⟩
end Go.Proofs.Ytcffhfcjfjfokaa
namespace Go.Proofs.Ytcffhfcjfjfokaa
open Go.RowKit
theorem case_cells {w : World} {b : Nat} {e l i c ba d : Int} {X Y A : Option Addr} {k n m cA cX cY : Nat} {u9 u10 u11 u12 : Value}
    (h : ∀ j, w.cell? ⟨b, j, none⟩ = (#[.slice A k cA, .int .i64 e, .int .i64 l, .int .i64 i, .int .i64 c, .int .i64 ba, .slice X n cX, .slice Y m cY, .int .i64 d, u9, u10, u11, u12] : Array Value)[j]?) :
    w.cell? ⟨b, 0, none⟩ = some (.slice A k cA) ∧ w.cell? ⟨b, 1, none⟩ = some (.int .i64 e) ∧ w.cell? ⟨b, 2, none⟩ = some (.int .i64 l) ∧ w.cell? ⟨b, 3, none⟩ = some (.int .i64 i) ∧ w.cell? ⟨b, 4, none⟩ = some (.int .i64 c) ∧ w.cell? ⟨b, 5, none⟩ = some (.int .i64 ba) ∧
    w.cell? ⟨b, 6, none⟩ = some (.slice X n cX) ∧ w.cell? ⟨b, 7, none⟩ = some (.slice Y m cY) ∧ w.cell? ⟨b, 8, none⟩ = some (.int .i64 d) := ⟨h 0, h 1, h 2, h 3, h 4, h 5, h 6, h 7, h 8⟩
abbrev caseC (own : Fl) (A X Y : Option Addr) (k cA cX cY : Nat) (done : Int) (u9 u10 u11 u12 : Value) : Array Value := #[.slice A k cA, .int .i64 own.e, .int .i64 own.l, .int .i64 own.i, .int .i64 own.c, .int .i64 own.base, .slice X own.slots.length cX, .slice Y own.have_.length cY, .int .i64 done, u9, u10, u11, u12]
theorem tw_cells {w : World} {b : Nat} {t : Tw} (h : ∀ j, w.cell? ⟨b, j, none⟩ = (eTw t).toArray[j]?) :
    w.cell? ⟨b, 0, none⟩ = some (.int .i64 t.f.e) ∧ w.cell? ⟨b, 1, none⟩ = some (.int .i64 t.f.l) ∧ w.cell? ⟨b, 2, none⟩ = some (.int .i64 t.f.i) ∧ w.cell? ⟨b, 3, none⟩ = some (.int .i64 t.f.c) ∧ w.cell? ⟨b, 4, none⟩ = some (.int .i64 t.f.base) ∧
    w.cell? ⟨b, 5, none⟩ = some (.slice (some ⟨t.g2, 0, none⟩) t.f.slots.length t.c2) ∧ w.cell? ⟨b, 6, none⟩ = some (.slice (some ⟨t.g4, 0, none⟩) t.f.have_.length t.c4) ∧ w.cell? ⟨b, 7, none⟩ = some (.slice (some ⟨t.g2, 0, none⟩) (t.f.slots.length + 1) t.c2) ∧ w.cell? ⟨b, 8, none⟩ = some (.slice (some ⟨t.g4, 0, none⟩) (t.f.have_.length + 1) t.c4) :=
  ⟨h 0, h 1, h 2, h 3, h 4, h 5, h 6, h 7, h 8⟩
theorem TwMem.more' {w : World} {N N' : Nat} {T I : Option Addr} {cT cI : Nat} {ts : List Tw} (h : TwMem w N T cT I cI ts) (hN : N ≤ N') : TwMem w N' T cT I cI ts :=
  ⟨h.row.more hN, h.inn.more hN, fun t ht => ⟨(h.s t ht).1.more hN, (h.s t ht).2⟩, fun t ht => ⟨(h.h t ht).1.more hN, (h.h t ht).2⟩, h.capT, h.capI⟩
set_option maxRecDepth 100000 in
set_option maxHeartbeats 4000000 in
theorem flushLacks_walk (A X Y : Option Addr) (cA cX cY N : Nat) (fs : List Fl) (own : Fl) (done : Int) (u9 u10 u11 u12 : Value) (w : World) (hN : N ≤ w.heap.size) (hA : Fls w N A fs) (hsm : Small fs) (hr : FlRows w N own X cX Y cY)
    (hs1 : own.slots.length ≤ 1048576) (hs2 : own.have_.length ≤ 1048576) :
    Calls Try.prog 5 #[.agg (caseC own A X Y fs.length cA cX cY done u9 u10 u11 u12)] w fun x w' => x = .returned (.bool true) ∧ Below w.heap.size w w' := by
  have hl : fs.length ≤ 9223372036854775807 := by have := hsm.1; omega
  replace hsm := Lib.hid hsm
  have hbx := below_box1 w (caseC own A X Y fs.length cA cX cY done u9 u10 u11 u12) 42
  go_enter Try.func5, Try.ntmps5
  go_wp2_with (go_at_call 13; refine (twins_any A cA N fs _ (by simp only [World.size_alloc]; omega) (hA.below hbx hN) hsm.out).mono ?_; rintro e w1 ⟨ts, T, cT, I, cI, rfl, hts, hrel⟩; have hb1 := hrel.bel; rw [World.size_alloc] at hb1; obtain ⟨hb01, hc1, -, hz1⟩ := box1_facts hb1; obtain ⟨k0, k1, k2, k3, k4, k5, k6, k7, k8⟩ := case_cells hc1; clear hc1; have hmem := twMem_of hrel; clear hrel; have hr1 := hr.below hb01 hN; have hz1' := hb01.size)
  refine (twin_any own X Y cX cY N w1 (by omega) hr1 (by omega) (by omega)).mono ?_
  rintro e w2 ⟨t, ht, rfl, htw, hbw2⟩
  subst ht
  unfold eTw
  have hb2 := hb1.trans (hbw2.mono (by omega))
  obtain ⟨hb02, hc2, -, hz2⟩ := box1_facts hb2
  obtain ⟨j0, j1, j2, j3, j4, j5, j6, j7, j8⟩ := case_cells hc2
  clear hc2 k0 k1 k2 k3 k4 k5 k6 k7 k8
  have hz2' := hbw2.size
  have hmem2 := hmem.below hbw2 (Nat.le_refl _)
  have hI2 := hmem2.fls
  rw [hts] at hI2
  have lS := htw.s.len
  have lH := htw.h.len
  simp only [List.length_append, List.length_cons, List.length_nil] at lS lH
  have hFR : FlRows w2 w2.heap.size t.f (some ⟨t.g2, 0, none⟩) t.c2 (some ⟨t.g4, 0, none⟩) t.c4 := ⟨(htw.s.row len_eSlot).front, (htw.h.row len_eInt).front, by omega, lS.2, by omega, lH.2⟩
  clear hmem
  have hX : ∀ wx, Below (w2.heap.size + 1) (w2.alloc (.cells (eTw t).toArray 57)) wx → Below (w.heap.size + 1) (box1 w (caseC t.f A X Y fs.length cA cX cY done u9 u10 u11 u12) 42) wx ∧ TwMem wx w2.heap.size T cT I cI ts ∧ Fls wx w2.heap.size I fs ∧ FlRows wx w2.heap.size t.f (some ⟨t.g2, 0, none⟩) t.c2 (some ⟨t.g4, 0, none⟩) t.c4 ∧
      (∀ j, wx.cell? ⟨w2.heap.size, j, none⟩ = (eTw t).toArray[j]?) ∧ Fls wx N A fs ∧ FlRows wx N t.f X cX Y cY ∧ RowAt wx w2.heap.size 2 eSlot (some ⟨t.g2, 0, none⟩) (t.f.slots ++ [(71, 71)]) ∧ RowAt wx w2.heap.size 1 eInt (some ⟨t.g4, 0, none⟩) (t.f.have_ ++ [72]) := fun wx hx => by
    have ha : Below w2.heap.size w2 wx := ((Below.refl w2.heap.size w2).alloc (Nat.le_refl _) _).trans (hx.mono (by omega))
    have hbx2 := hb2.trans (ha.mono (by omega))
    have hbx0 := (box1_facts hbx2).1
    refine ⟨hbx2, (hmem2.below ha (by omega)).more' (by omega), (hI2.below ha (by omega)).more (by omega), hFR.below ha (Nat.le_refl _), fun j => ?_, hA.below hbx0 hN, hr.below hbx0 hN, (htw.s.row len_eSlot).below ha (Nat.le_refl _), (htw.h.row len_eInt).below ha (Nat.le_refl _)⟩
    rw [hx.cell (p := ⟨w2.heap.size, j, none⟩) (by show w2.heap.size < _; omega)]
    exact World.cell?_alloc_at _ _ _ _ rfl
  obtain ⟨W3, hW3⟩ : ∃ W3, W3 = w2.alloc (.cells (eTw t).toArray 57) := ⟨_, rfl⟩
  rw [← hW3] at hX
  have hs3 : W3.heap.size = w2.heap.size + 1 := by rw [hW3]; simp
  replace hW3 := Lib.hid hW3
  obtain ⟨-, -, i3, f3, -⟩ := hX W3 (Below.refl _ _)
  replace hX := Lib.hid hX
  have h24 := Lib.hid (lacks_any done t.f (some ⟨t.g2, 0, none⟩) (some ⟨t.g4, 0, none⟩) I t.c2 t.c4 cI w2.heap.size fs W3 (by omega) f3 i3 hl)
  go_wp2_with (go_at_call 24; change Calls Try.prog 24 _ (w2.alloc (.cells (eTw t).toArray 57)) _; rw [← hW3.out]; refine h24.out.mono ?_; rintro e w4 ⟨⟨B, cB, l, n, rfl, hLI, hown⟩, hbw4⟩; rw [hs3] at hbw4 hown; obtain ⟨hB4, m4, i4, f4, tc4, A4, o4, s4, e4⟩ := hX.out w4 hbw4; obtain ⟨hb04, hc4, -, hz4⟩ := box1_facts hB4; obtain ⟨k0, k1, k2, k3, k4, k5, k6, k7, k8⟩ := case_cells hc4; clear hc4; have hz4' := hb04.size)
  have hs4 := hbw4.size
  refine (rlacks_any done t.f X Y A cX cY cA N fs w4 (by omega) o4 A4 hl).mono ?_
  rintro e w5 ⟨⟨B', cB', l', n', rfl, hLI', hown'⟩, hbw5⟩
  obtain ⟨rfl, rfl⟩ := lacks_one hLI hLI'
  have hs5 := hbw5.size
  have hlo := hown.lo
  have ho5 := hown.keep hbw5 (fun k hk => (hlo k hk).2)
  have r1 := ho5.row len_eSlot
  have r2 := hown'.row len_eSlot
  have hll : l.length ≤ 9223372036854775807 := by have := ho5.len; omega
  clear k0 k1 k2 k3 k4 k5 k6 k7 k8 j0 j1 j2 j3 j4 j5 j6 j7 j8 tc4
  have hB5x : Below (w2.heap.size + 1) W3 w5 := hbw4.trans (hbw5.mono (by omega))
  obtain ⟨hB5, m5, i5, f5, tc5, A5, o5, s5, e5⟩ := hX.out w5 hB5x
  obtain ⟨hb05, hc5, -, hz5⟩ := box1_facts hB5
  obtain ⟨k0, k1, k2, k3, k4, k5, k6, k7, k8⟩ := case_cells hc5
  clear hc5
  have hz5' := hbw5.size
  have ts5 := tw_cells tc5
  obtain ⟨j0, j1, j2, j3, j4, j5, j6, j7, j8⟩ := ts5
  clear tc5
  go_wp2_with (first
    | (go_at_call 16; refine (num_any _ _).mono ?_; rintro e w6 ⟨rfl, rfl⟩)
    | (go_at_call 26; refine (sameSlots_yes B B' cB cB' w5.heap.size l w5 (Nat.le_refl _) r1 r2 hll).mono ?_; rintro e w6 ⟨rfl, hbw6⟩; have hB6x : Below (w2.heap.size + 1) W3 w6 := hB5x.trans (hbw6.mono (by omega)); obtain ⟨hB6, m6, i6, f6, tc6, A6, o6, s6, e6⟩ := hX.out w6 hB6x; obtain ⟨hb06, hc6, -, hz6⟩ := box1_facts hB6; obtain ⟨k0, k1, k2, k3, k4, k5, k6, k7, k8⟩ := case_cells hc6; clear hc6; have hz6' := hbw6.size; have ts6 := tw_cells tc6; obtain ⟨j0, j1, j2, j3, j4, j5, j6, j7, j8⟩ := ts6; clear tc6)
    | (go_at_call 17; refine (allunt_any T I A cT cI cA w2.heap.size fs ts _ (by omega) m6 hts (A6.more (by omega)) hl).mono ?_; rintro e w7 ⟨rfl, hbw7⟩; have hB7x : Below (w2.heap.size + 1) W3 w7 := hB6x.trans (hbw7.mono (by omega)); obtain ⟨hB7, m7, i7, f7, tc7, A7, o7, s7, e7⟩ := hX.out w7 hB7x; obtain ⟨hb07, hc7, -, hz7⟩ := box1_facts hB7; obtain ⟨k0, k1, k2, k3, k4, k5, k6, k7, k8⟩ := case_cells hc7; clear hc7; have hz7' := hbw7.size; have ts7 := tw_cells tc7; obtain ⟨j0, j1, j2, j3, j4, j5, j6, j7, j8⟩ := ts7; clear tc7)
    | (go_at_call 27; refine (untouched_yes t.f t.f t.g2 t.g4 t.c2 t.c4 w2.heap.size X Y cX cY _ (by omega) s7 e7 lS.1 lS.2 lH.1 lH.2 (⟨o7.slots.more (by omega), o7.have_.more (by omega), o7.lenS, o7.capS, o7.lenH, o7.capH⟩) rfl).mono ?_; rintro e w8 ⟨rfl, hbw8⟩; have hB8x : Below (w2.heap.size + 1) W3 w8 := hB7x.trans (hbw8.mono (by omega)); obtain ⟨hB8, m8, i8, f8, tc8, A8, o8, s8, e8⟩ := hX.out w8 hB8x; obtain ⟨hb08, hc8, -, hz8⟩ := box1_facts hB8; obtain ⟨k0, k1, k2, k3, k4, k5, k6, k7, k8⟩ := case_cells hc8; clear hc8; have hz8' := hbw8.size; have ts8 := tw_cells tc8; obtain ⟨j0, j1, j2, j3, j4, j5, j6, j7, j8⟩ := ts8; clear tc8)
    | fail)
  have ho6 := ho5.keep hbw6 (fun k hk => by have := (hlo k hk).2; omega)
  have ho7 := ho6.keep hbw7 (fun k hk => by have := (hlo k hk).2; omega)
  have ho8 := ho7.keep hbw8 (fun k hk => by have := (hlo k hk).2; omega)
  have hs8 := hB8x.size
  clear k0 k1 k2 k3 k4 k5 k6 k7 k8 j0 j1 j2 j3 j4 j5 j6 j7 j8 ho5 ho6 ho7 hown hown' hLI hLI' r1 r2
  go_loopw [10] (fun k wr => ∃ (i : Nat) (l' : List (Int × Int)), k = .int .i64 i ∧ i ≤ l.length ∧ l'.length = l.length ∧ Owns wr (w2.heap.size + 1) 66 2 eSlot B cB l' ∧ Below (w2.heap.size + 1) W3 wr) (fun k _ => l.length - (intOf k).toNat)
  case atStart => exact ⟨0, l, rfl, by omega, rfl, ho8, hB8x⟩
  case round =>
    obtain ⟨i, l', rfl, hi, hl', ho, hb⟩ := hrel
    have hsb := hb.size
    replace hl' := Lib.hid hl'
    by_cases hlt : i < l.length
    · obtain ⟨g1, cc1, hv1, hgl1, hgh1⟩ := World.ownsRow.form ho (by have := hl'.out; omega)
      obtain ⟨rfl, rfl⟩ : B = some ⟨g1, 0, none⟩ ∧ cB = cc1 := by injection hv1 with h1 _ h2; exact ⟨h1, h2⟩
      clear hv1
      obtain ⟨u0, q0⟩ := own_cell ho (j := i * 2) (by have := hl'.out; omega)
      obtain ⟨u1, q1⟩ := own_cell ho (j := i * 2 + 1) (by have := hl'.out; omega)
      have q2 : (wr.setCell ⟨g1, i * 2, none⟩ (.int .i64 99)).cell? ⟨g1, i * 2 + 1, none⟩ = some u1 := by
        rw [World.cell?_setCell_other _ _ _ _ (by simp)]; exact q1
      have hf := own_frozen ho
      clear q1
      go_wp2
      refine ⟨⟨i + 1, l'.set i (99, (i : Int)), by go_num, by omega, by rw [List.length_set]; exact hl'.out, ho.set2 (by have := hl'.out; omega) (99, (i : Int)), (hb.setCell hgl1 _).setCell hgl1 _⟩, by simp [intOf]; omega⟩
    · obtain ⟨hB9, m9, i9, f9, tc9, A9, o9, s9, e9⟩ := hX.out wr hb
      obtain ⟨hb09, hc9, -, hz9⟩ := box1_facts hB9
      obtain ⟨k0, k1, k2, k3, k4, k5, k6, k7, k8⟩ := case_cells hc9
      clear hc9
      have ts9 := tw_cells tc9
      obtain ⟨j0, j1, j2, j3, j4, j5, j6, j7, j8⟩ := ts9
      clear tc9
      go_wp2_with (first
        | (go_at_call 17; refine (allunt_any T I A cT cI cA w2.heap.size fs ts _ (by omega) m9 hts (A9.more (by omega)) hl).mono ?_; rintro e w10 ⟨rfl, hbw10⟩; have hB10x : Below (w2.heap.size + 1) W3 w10 := hb.trans (hbw10.mono (by omega)); have hs10 := hbw10.size; obtain ⟨hB0, m0, i0, f0, tc0, A0, o0, s0, e0⟩ := hX.out w10 hB10x; obtain ⟨hb00, hc0, -, hz0⟩ := box1_facts hB0; obtain ⟨k0, k1, k2, k3, k4, k5, k6, k7, k8⟩ := case_cells hc0; clear hc0; have ts0 := tw_cells tc0; obtain ⟨j0, j1, j2, j3, j4, j5, j6, j7, j8⟩ := ts0; clear tc0)
        | (go_at_call 27; refine (untouched_yes t.f t.f t.g2 t.g4 t.c2 t.c4 w2.heap.size X Y cX cY _ (by omega) s0 e0 lS.1 lS.2 lH.1 lH.2 (⟨o0.slots.more (by omega), o0.have_.more (by omega), o0.lenS, o0.capS, o0.lenH, o0.capH⟩) rfl).mono ?_; rintro e w11 ⟨rfl, hbw11⟩)
        | fail)
      go_ret
      exact ⟨rfl, hb00.trans (hbw11.mono (by omega))⟩
end Go.Proofs.Ytcffhfcjfjfokaa
/- FlushDuty's walk. -/
namespace Go.Proofs.Ytcffhfcjfjfokaa
open Go.RowKit
theorem duty_one {self q : Int} {who : List Int} {fs : List Fl} {l l' : List (Int × Int)} {n n' : Int} (h : DutyIs self q who fs l n) (k : DutyIs self q who fs l' n') : l = l' ∧ n = n' := by
  rcases h with ⟨hH, rfl, rfl⟩ | ⟨hH, m, hm, hL, rfl, rfl⟩ | ⟨hH, hL, hf, rfl, cut, F, iy, g, hc, hF, hy, hg, rfl⟩ <;>
    rcases k with ⟨hH', rfl, rfl⟩ | ⟨hH', m', hm', hL', rfl, rfl⟩ | ⟨hH', hL', hf', rfl, cut', F', iy', g', hc', hF', hy', hg', rfl⟩
  · exact ⟨rfl, rfl⟩
  · exact absurd hH' hH
  · exact absurd hH' hH
  · exact absurd hH hH'
  · exact ⟨rfl, listed_one hL hL'⟩
  · exact absurd (listed_one hL hL') hm
  · exact absurd hH hH'
  · exact absurd (listed_one hL' hL) hm'
  · obtain rfl := cut_one hc hc'
    have : F = F' := funext fun pos => Option.ext fun s => by rw [hF pos s, hF' pos s]
    subst this
    have e : iy = iy' := Decidable.byContradiction fun e => apart_of_nodup hH.2.2.1.2 e hy hy'
    subst e
    rw [hg] at hg'; cases hg'
    exact ⟨rfl, rfl⟩
abbrev caseD (own : Fl) (A X Y C : Option Addr) (k cA cX cY nw cC : Nat) (done self q : Int) (u : Value) : Array Value := #[.slice A k cA, .int .i64 own.e, .int .i64 own.l, .int .i64 own.i, .int .i64 own.c, .int .i64 own.base, .slice X own.slots.length cX, .slice Y own.have_.length cY, .int .i64 done, .slice C nw cC, .int .i64 self, .int .i64 q, u]
theorem caseD_cells {w : World} {b : Nat} {own : Fl} {done self q : Int} {X Y A C : Option Addr} {k nw cA cX cY cC : Nat} {u : Value}
    (h : ∀ j, w.cell? ⟨b, j, none⟩ = (caseD own A X Y C k cA cX cY nw cC done self q u)[j]?) :
    w.cell? ⟨b, 0, none⟩ = some (.slice A k cA) ∧ w.cell? ⟨b, 9, none⟩ = some (.slice C nw cC) ∧ w.cell? ⟨b, 10, none⟩ = some (.int .i64 self) ∧ w.cell? ⟨b, 11, none⟩ = some (.int .i64 q) := ⟨h 0, h 9, h 10, h 11⟩
set_option maxRecDepth 100000 in
set_option maxHeartbeats 4000000 in
theorem flushDuty_walk (A X Y C : Option Addr) (cA cX cY cC N : Nat) (fs : List Fl) (own : Fl) (done self q : Int) (who : List Int) (u : Value) (w : World) (hN : N ≤ w.heap.size) (hA : Fls w N A fs) (hsm : Small fs) (hC : RowAt w N 1 eInt C who) (hw : who.length ≤ 1048576) :
    Calls Try.prog 7 #[.agg (caseD own A X Y C fs.length cA cX cY who.length cC done self q u)] w fun x w' => x = .returned (.bool true) ∧ Below w.heap.size w w' := by
  have hl : fs.length ≤ 9223372036854775807 := by have := hsm.1; omega
  have hl1 : who.length ≤ 9223372036854775807 := by omega
  replace hsm := Lib.hid hsm
  have hbx := below_box1 w (caseD own A X Y C fs.length cA cX cY who.length cC done self q u) 42
  go_enter Try.func7, Try.ntmps7
  go_wp2_with (first
    | (go_at_call 13; refine (twins_any A cA N fs _ (by simp only [World.size_alloc]; omega) (hA.below hbx hN) hsm.out).mono ?_; rintro e w1 ⟨ts, T, cT, I, cI, rfl, hts, hrel⟩; have hb1 := hrel.bel; rw [World.size_alloc] at hb1; obtain ⟨hb01, hc1, -, hz1⟩ := box1_facts hb1; obtain ⟨k0, k9, k10, k11⟩ := caseD_cells hc1; clear hc1; have hmem := twMem_of hrel; clear hrel; have hz1' := hb01.size)
    | (at_builtin; refine wpList_append_rows _ rfl (.tmp 17) (.tmp 19) 37 rfl w1.heap.size 3 1 8 _ Try.underlying37 info3 rfl (by decide) eInt len_eInt one_eInt (some ⟨w1.heap.size, 0, none⟩) 0 [] C cC N 0 who.length who rfl rfl rfl rfl (owns_empty_at _ _ _ _ _ rfl (Nat.le_refl _)) (hC.below (hb01.alloc (by omega) _) hN) (by omega) (by omega) (by simp) ?_)
    | fail)
  intro A2 c2 w2 ho2 hg2 hk2
  have hb12 : Below w1.heap.size w1 w2 := ((Below.refl w1.heap.size w1).alloc (Nat.le_refl _) _).grown hg2 (by simp) (by intro k hk; simp [blk] at hk; omega)
  have hlo2 := ho2.lo
  have hz2 := hb12.size
  clear hg2 hk2 k0 k9 k10 k11
  have hX : ∀ wx, Below w2.heap.size w2 wx → Below (w.heap.size + 1) (box1 w (caseD own A X Y C fs.length cA cX cY who.length cC done self q u) 42) wx ∧ TwMem wx w2.heap.size T cT I cI ts ∧ Fls wx w2.heap.size I fs ∧ Fls wx N A fs ∧ RowAt wx N 1 eInt C who ∧ RowAt wx w2.heap.size 1 eInt A2 who := fun wx hx => by
    have ha := hb12.trans (hx.mono hz2)
    have hbx2 := hb1.trans (ha.mono (by omega))
    have hbx0 := (box1_facts hbx2).1
    have hm := (hmem.below ha (Nat.le_refl _)).more' hz2
    have hI := hm.fls
    rw [hts] at hI
    exact ⟨hbx2, hm, hI, hA.below hbx0 hN, hC.below hbx0 hN, (ho2.row len_eInt).below hx (Nat.le_refl _)⟩
  have hx2 : Below w2.heap.size w2 w2 := Below.refl _ _
  replace hX := Lib.hid hX
  obtain ⟨hB2, m2, i2, fa2, rc2, rd2⟩ := hX.out w2 hx2
  obtain ⟨hb02, hc2, -, hz2⟩ := box1_facts hB2
  obtain ⟨k0, k9, k10, k11⟩ := caseD_cells hc2
  clear hc2
  have hz2' := hb02.size
  have h35 := Lib.hid (duty_any self q A2 I c2 cI w2.heap.size who fs w2 (Nat.le_refl _) rd2 i2 hl1 hl)
  have ho2' := Lib.hid ho2
  clear ho2
  go_wp2_with (go_at_call 35; refine h35.out.mono ?_; rintro e w4 ⟨⟨B, cB, l, n, rfl, hLI, hown⟩, hbw4⟩; have hx4 : Below w2.heap.size w2 w4 := hbw4; obtain ⟨hB4, m4, i4, fa4, rc4, rd4⟩ := hX.out w4 hx4; obtain ⟨hb04, hc4, -, hz4⟩ := box1_facts hB4; obtain ⟨k0, k9, k10, k11⟩ := caseD_cells hc4; clear hc4; have hz4' := hb04.size)
  have hs4 := hbw4.size
  refine (rduty_any self q C A cC cA N who fs w4 (by omega) rc4 fa4 hl1 hl).mono ?_
  rintro e w5 ⟨⟨B', cB', l', n', rfl, hLI', hown'⟩, hbw5⟩
  obtain ⟨rfl, rfl⟩ := duty_one hLI hLI'
  have hs5 := hbw5.size
  have hlo := hown.lo
  have ho5 := hown.keep hbw5 (fun k hk => (hlo k hk).2)
  have r1 := ho5.row len_eSlot
  have r2 := hown'.row len_eSlot
  have hll : l.length ≤ 9223372036854775807 := by have := ho5.len; omega
  have hx5 : Below w2.heap.size w2 w5 := hx4.trans (hbw5.mono hs4)
  clear k0 k9 k10 k11
  obtain ⟨hB5, m5, i5, fa5, rc5, rd5⟩ := hX.out w5 hx5
  obtain ⟨hb05, hc5, -, hz5⟩ := box1_facts hB5
  obtain ⟨k0, k9, k10, k11⟩ := caseD_cells hc5
  clear hc5
  have hz5' := hb05.size
  go_wp2_with (first
    | (go_at_call 16; refine (num_any _ _).mono ?_; rintro e w6 ⟨rfl, rfl⟩)
    | (go_at_call 26; refine (sameSlots_yes B B' cB cB' w5.heap.size l w5 (Nat.le_refl _) r1 r2 hll).mono ?_; rintro e w6 ⟨rfl, hbw6⟩; have hx6 : Below w2.heap.size w2 w6 := hx5.trans (hbw6.mono (by omega)); have hs6 := hx6.size; obtain ⟨hB6, m6, i6, fa6, rc6, rd6⟩ := hX.out w6 hx6; obtain ⟨hb06, hc6, -, hz6⟩ := box1_facts hB6; obtain ⟨k0, k9, k10, k11⟩ := caseD_cells hc6; clear hc6; have hz6' := hb06.size)
    | (go_at_call 37; refine (sameInts_yes A2 C c2 cC w2.heap.size who w6 (by omega) rd6 (rc6.more (by omega)) hl1).mono ?_; rintro e w7 ⟨rfl, hbw7⟩; have hx7 : Below w2.heap.size w2 w7 := hx6.trans (hbw7.mono (by omega)); obtain ⟨hB7, m7, i7, fa7, rc7, rd7⟩ := hX.out w7 hx7; obtain ⟨hb07, hc7, -, hz7⟩ := box1_facts hB7; obtain ⟨k0, k9, k10, k11⟩ := caseD_cells hc7; clear hc7; have hz7' := hb07.size)
    | fail)
  have ho6 := ho5.keep hbw6 (fun k hk => by have := (hlo k hk).2; omega)
  have ho7 := ho6.keep hbw7 (fun k hk => by have := (hlo k hk).2; have := hbw6.size; omega)
  have hs7 := hx7.size
  clear k0 k9 k10 k11 ho5 ho6 hown hown' hLI hLI' r1 r2
  go_loopw [10] (fun k wr => ∃ (i : Nat) (l' : List (Int × Int)), k = .int .i64 i ∧ i ≤ l.length ∧ l'.length = l.length ∧ Owns wr w2.heap.size 66 2 eSlot B cB l' ∧ Below w2.heap.size w2 wr) (fun k _ => l.length - (intOf k).toNat)
  case atStart => exact ⟨0, l, rfl, by omega, rfl, ho7, hx7⟩
  case round =>
    obtain ⟨i, l', rfl, hi, hl', ho, hb⟩ := hrel
    have hsb := hb.size
    replace hl' := Lib.hid hl'
    by_cases hlt : i < l.length
    · obtain ⟨g1, cc1, hv1, hgl1, hgh1⟩ := World.ownsRow.form ho (by have := hl'.out; omega)
      obtain ⟨rfl, rfl⟩ : B = some ⟨g1, 0, none⟩ ∧ cB = cc1 := by injection hv1 with h1 _ h2; exact ⟨h1, h2⟩
      clear hv1
      obtain ⟨u0, q0⟩ := own_cell ho (j := i * 2) (by have := hl'.out; omega)
      obtain ⟨u1, q1⟩ := own_cell ho (j := i * 2 + 1) (by have := hl'.out; omega)
      have q2 : (wr.setCell ⟨g1, i * 2, none⟩ (.int .i64 99)).cell? ⟨g1, i * 2 + 1, none⟩ = some u1 := by
        rw [World.cell?_setCell_other _ _ _ _ (by simp)]; exact q1
      have hf := own_frozen ho
      clear q1
      go_wp2
      refine ⟨⟨i + 1, l'.set i (99, (i : Int)), by go_num, by omega, by rw [List.length_set]; exact hl'.out, ho.set2 (by have := hl'.out; omega) (99, (i : Int)), (hb.setCell hgl1 _).setCell hgl1 _⟩, by simp [intOf]; omega⟩
    · obtain ⟨hB9, m9, i9, fa9, rc9, rd9⟩ := hX.out wr hb
      obtain ⟨hb09, hc9, -, hz9⟩ := box1_facts hB9
      obtain ⟨k0, k9, k10, k11⟩ := caseD_cells hc9
      clear hc9
      have hz9' := hb09.size
      go_wp2_with (go_at_call 17; refine (allunt_any T I A cT cI cA w2.heap.size fs ts _ (by omega) m9 hts (fa9.more (by omega)) hl).mono ?_; rintro e w10 ⟨rfl, hbw10⟩)
      go_ret
      exact ⟨rfl, hb09.trans (hbw10.mono (by omega))⟩
end Go.Proofs.Ytcffhfcjfjfokaa
/- What the document's Rest answers. -/
namespace Go.Proofs.Ytcffhfcjfjfokaa
open Go.RowKit
theorem find_first {ds : List Dt} {x y : Int} {i : Nat} (h : FindIs ds x y i) : ∃ d, ds[i]? = some d ∧ FirstD ds (x, y) d := by
  rcases h with ⟨e, _⟩ | ⟨j, d, hd, e1, e2, e3, e4⟩
  · omega
  · obtain rfl : i = j := by omega
    exact ⟨d, hd, i, hd, e1, e2, e4⟩
theorem find_none {ds : List Dt} {x y r : Int} (h : FindIs ds x y r) (h0 : r < 0) : ∀ d ∈ ds, ¬ (d.s = x ∧ d.q = y) := by
  rcases h with ⟨_, h⟩ | ⟨j, d, hd, e1, e2, e3, e4⟩
  · exact h
  · omega
theorem find_split {ds : List Dt} {x y r : Int} (h : FindIs ds x y r) : (r < 0 ∧ Hid (∀ d ∈ ds, ¬ (d.s = x ∧ d.q = y))) ∨ ∃ (i : Nat) (d : Dt), r = i ∧ i < ds.length ∧ Hid (ds[i]? = some d) ∧ Hid (FirstD ds (x, y) d) := by
  by_cases h0 : r < 0
  · exact .inl ⟨h0, find_none h h0⟩
  · obtain ⟨i, rfl⟩ : ∃ i : Nat, r = i := ⟨r.toNat, by omega⟩
    obtain ⟨d, hd, hF⟩ := find_first h
    exact .inr ⟨i, d, rfl, (List.getElem?_eq_some_iff.1 hd).1, hd, hF⟩
set_option maxRecDepth 100000 in
set_option maxHeartbeats 4000000 in
theorem rrest_any (done : Int) (A M : Option Addr) (cA cM N : Nat) (fs : List Fl) (ds : List Dt) (w : World) (hN : N ≤ w.heap.size) (hA : Fls w N A fs) (hM : Dts w N M ds) (hl : fs.length ≤ 9223372036854775807) (hsm : SmallD ds) :
    Calls Try.prog 20 #[.int .i64 done, .slice A fs.length cA, .slice M ds.length cM] w (RestPost done fs ds w) := by
  have hld : ds.length ≤ 1048576 := hsm.1
  replace hsm := Lib.hid hsm
  by_cases h1 : done < 0
  · have HL : Hid (RestIs done fs ds [] 1) := by show (if _ then _ else _); rw [if_neg (by omega)]; exact ⟨rfl, rfl⟩
    go_enter Try.func20, Try.ntmps20
    go_wp2
    go_ret2
    go_light
    exact rest_none HL.out (Below.refl _ _)
  · by_cases h2 : 4611686018427387904 < done
    · have HL : Hid (RestIs done fs ds [] 1) := by show (if _ then _ else _); rw [if_neg (by omega)]; exact ⟨rfl, rfl⟩
      go_enter Try.func20, Try.ntmps20
      go_wp2
      go_ret2
      go_light
      exact rest_none HL.out (Below.refl _ _)
    · have H53 := Lib.hid (listed_any A cA N fs w hN hA hl)
      have hRE : ∀ n, n ≠ 0 → Listed fs n → RestIs done fs ds [] n := fun n h0 hn => by unfold RestIs; rw [if_pos (by omega)]; exact .inl ⟨n, h0, hn, rfl, rfl⟩
      have hRF : Listed fs 0 → done < baseOf fs → RestIs done fs ds [] 82 := fun hn hlt => by unfold RestIs; rw [if_pos (by omega)]; exact .inr (.inl ⟨hn, (listed_fit hn).1, hlt, rfl, rfl⟩)
      have hRO : Listed fs 0 → baseOf fs ≤ done → ∀ cut, IsCut fs cut → ∀ ms, RestTo (knownF fs) ds done (cut - done).toNat ms → RestIs done fs ds ms 0 := fun hn hge cut hc ms h => by
        unfold RestIs; rw [if_pos (by omega)]; exact .inr (.inr ⟨hn, (listed_fit hn).1, hge, cut, _, hc, knownF_iff (listed_fit hn).1, .inl ⟨rfl, h⟩⟩)
      have hRL : Listed fs 0 → baseOf fs ≤ done → ∀ cut, IsCut fs cut → RestLacks (knownF fs) ds done (cut - done).toNat → RestIs done fs ds [] 81 := fun hn hge cut hc h => by
        unfold RestIs; rw [if_pos (by omega)]; exact .inr (.inr ⟨hn, (listed_fit hn).1, hge, cut, _, hc, knownF_iff (listed_fit hn).1, .inr ⟨rfl, rfl, h⟩⟩)
      replace hRE := Lib.hid hRE
      replace hRF := Lib.hid hRF
      replace hRO := Lib.hid hRO
      replace hRL := Lib.hid hRL
      go_enter Try.func20, Try.ntmps20
      go_wp2_with (go_at_call 53; refine H53.out.mono ?_; rintro e w3 ⟨⟨n, rfl, hn⟩, hb3⟩; replace hn := Lib.hid hn)
      · go_ret2
        go_light
        have h0 := ‹(n != 0) = true›
        exact rest_none (hRE.out n (by simpa using h0) hn.out) hb3
      · have h0 := ‹(n != 0) = false›
        obtain rfl : n = 0 := by simpa using h0
        have HFit := Lib.hid (listed_fit hn.out).1
        have hl16 := (listed_fit hn.out).2
        have hbp := base_nonneg fs
        have hbq := base_le HFit.out.sound
        have hs3 := hb3.size
        have hbs : ∀ f ∈ fs, 0 ≤ f.base ∧ f.base ≤ 4611686018427387904 := fun f hf => ⟨(HFit.out.sound f hf).base0, by have := (HFit.out.sound f hf).base; omega⟩
        have H54 := Lib.hid (end_any A cA N fs w3 (by omega) (hA.below hb3 hN) hl hbs hbp (fun n h => cut_bound HFit.out h))
        replace hbs := Lib.hid hbs
        refine (base_any A cA N fs w3 (hA.below hb3 hN) hl).mono ?_
        rintro e w4 ⟨rfl, rfl⟩
        by_cases hlt : done < baseOf fs
        · go_wp2
          go_ret2
          go_light
          exact rest_none (hRF.out hn.out hlt) hb3
        · have hge : baseOf fs ≤ done := by omega
          go_wp2_with (go_at_call 54; refine H54.out.mono ?_; rintro e w4 ⟨⟨cut, rfl, hcut⟩, hb4⟩; have hlow := hcut.low; have hcb := cut_bound HFit.out (n := (cut - baseOf fs).toNat) (fun p h1 h2 => hcut.all p h1 (by omega)))
          have hKn : ∀ pos, baseOf fs < pos → pos ≤ cut → ∃ s : Int × Int, knownF fs pos = some s ∧ atOf fs pos = s := fun pos h1 h2 => by
            obtain ⟨s, hs, -⟩ := (whole_iff HFit.out).1 (hcut.all pos h1 h2)
            exact ⟨s, (knownF_iff HFit.out pos s).2 hs, atOf_known HFit.out hs⟩
          have hRO' := Lib.hid (hRO.out hn.out hge cut hcut)
          have hRL' := Lib.hid (hRL.out hn.out hge cut hcut)
          obtain ⟨F, hF0⟩ : ∃ F, F = knownF fs := ⟨_, rfl⟩
          rw [← hF0] at hRO' hRL' hKn
          replace hKn := Lib.hid hKn
          have hs4 := hb4.size
          have hb40 := hb3.trans (hb4.mono hs3)
          clear hF0 hcut hRO hRL hRE hRF H54 hb4
          go_loopw [9, 11] (fun a b wr => ∃ (k : Nat) (B : Option Addr) (c m : Nat) (rs : List Dr), b = .int .i64 (done + k) ∧ a = .slice B m c ∧ rs.length = m ∧ k ≤ (cut - done).toNat ∧ RestTo F ds done k (rs.map Dr.d) ∧ MsOwn wr w4.heap.size B c rs ∧ m ≤ k ∧ Below w4.heap.size w4 wr) (fun _ b _ => (cut - intOf b).toNat)
          case atStart => exact ⟨0, none, 0, 0, [], by simp, rfl, rfl, by omega, .nil, ⟨owns_nil _ _ _ _ _, by simp, List.Pairwise.nil⟩, by omega, Below.refl _ _⟩
          case round =>
            obtain ⟨k, B, c, mm, rs, rfl, rfl, hm, hk, hrt, hown, hmk, hb9⟩ := hrel
            have hm' := Lib.hid hm
            have hs9 := hb9.size
            have hbw9 := hb40.trans (hb9.mono (by omega))
            replace hrt := Lib.hid hrt
            have hlo := hown.row.lo
            clear hm
            by_cases hlt : done + k < cut
            · obtain ⟨⟨x, y⟩, hs, hat⟩ := hKn.out (done + k + 1) (by omega) (by omega)
              have hFk : F (done + 1 + k) = some (x, y) := by rw [show done + 1 + (k : Int) = done + k + 1 by omega]; exact hs
              replace hFk := Lib.hid hFk
              replace hown := Lib.hid hown
              have hfl := hA.below hbw9 hN
              clear hs
              go_wp2_with (first
                | (go_at_call 31; refine (at_any A cA N fs (done + k + 1) wr (by omega) hfl hl (by omega) (by omega) hbs.out).mono ?_; rintro e w5 ⟨rfl, hb5⟩; rw [hat]; have hs5 := hb5.size)
                | (go_at_call 56; have hb6 : Below wr.heap.size wr (w5.alloc (.cells #[.int .i64 x, .int .i64 y] 66)) := hb5.alloc hs5 _; have hbw6 := hbw9.trans (hb6.mono (by omega)); have h56 := find_any M cM N ds x y (w5.alloc (.cells #[.int .i64 x, .int .i64 y] 66)) (by simp only [World.size_alloc]; omega) (hM.below hbw6 hN) (by omega); refine h56.mono ?_; rintro e w7 ⟨⟨r, rfl, hr⟩, hb7⟩; rw [World.size_alloc] at hb7; have hs7 := hb7.size; rw [World.size_alloc] at hs7; have hb67 : Below wr.heap.size wr w7 := hb6.trans (hb7.mono (by omega)); have hbw7 := hbw9.trans (hb67.mono (by omega)); clear h56; rcases find_split hr with ⟨hr0, hno⟩ | ⟨i, d, rfl, hil, hd, hFD⟩; all_goals clear hr; all_goals first | (have hneg := hr0) | (obtain ⟨g, o, d', X, cX, hMe, hg, hd', c0, c1, c2, c3, hX⟩ := (hM.below hbw7 hN).at_ hil; have hdd : d = d' := (by have := hd'.out; rw [hd.out] at this; injection this); subst hdd; subst hMe; have hgw : g < w7.heap.size := (by omega); have hs1 := hsm.out.2 d (List.mem_of_getElem? hd.out); clear c0 c1 c2))
                | (at_builtin; refine wpList_append_rows _ rfl (.tmp 47) (.tmp 52) 52 rfl w4.heap.size 5 1 1 _ Try.underlying52 info5 rfl (by decide) eByte len_eByte one_eByte none 0 [] X cX N 0 d.body.length d.body rfl rfl rfl rfl (owns_nil _ _ _ _ _) hX.row (by omega) (by omega) (by omega) ?_)
                | fail)
              · have hRI := hRL'.out ⟨k, (x, y), by omega, hFk.out, hno.out⟩
                replace hRI := Lib.hid hRI
                go_ret2
                go_light
                exact rest_none hRI.out hbw7
              · intro A1 cc1 w8 ho8 hg8 hk8
                have hb78 : Below w7.heap.size w7 w8 := (Below.refl _ _).grown hg8 (Nat.le_refl _) (by intro j hj; cases hj)
                have hs8 := hb78.size
                have hb98 : Below wr.heap.size wr w8 := hb67.trans (hb78.mono (by omega))
                have hA1 : ∀ j, blk A1 = some j → wr.heap.size ≤ j := fun j hj => by
                  rcases hk8 with h | h
                  · rw [h] at hj; cases hj
                  · rw [h] at hj; injection hj with hj; omega
                have q0 : w8.cell? ⟨w5.heap.size, 0, none⟩ = some (.int .i64 x) := by
                  rw [hb78.cell (p := ⟨w5.heap.size, 0, none⟩) (by show w5.heap.size < _; omega), hb7.cell (p := ⟨w5.heap.size, 0, none⟩) (by show w5.heap.size < _; omega)]
                  exact World.cell?_alloc_at _ _ _ _ rfl
                have q1 : w8.cell? ⟨w5.heap.size, 1, none⟩ = some (.int .i64 y) := by
                  rw [hb78.cell (p := ⟨w5.heap.size, 1, none⟩) (by show w5.heap.size < _; omega), hb7.cell (p := ⟨w5.heap.size, 1, none⟩) (by show w5.heap.size < _; omega)]
                  exact World.cell?_alloc_at _ _ _ _ rfl
                replace ho8 := Lib.hid ho8
                replace hA1 := Lib.hid hA1
                clear hg8 hk8 c3 hX hb78
                go_wp2_with (at_builtin; refine wpList_append_rows _ rfl (.tmp 54) (.tmp 63) 44 rfl w4.heap.size 54 4 48 _ Try.underlying44 info54 rfl (by decide) eDr len_eDr one_eDr B c rs (some ⟨w8.heap.size, 0, none⟩) 1 (w8.heap.size + 1) mm 1 [⟨⟨done + k + 1, x, y, d.body⟩, A1, cc1⟩] rfl rfl hm'.out rfl ((hown.out.row.keep hb98 (fun k hk => (hlo k hk).2)).alloc _) (row_new _ _ _ _ _ _ rfl) (by omega) (by omega) (by simp only [World.size_alloc]; omega) ?_)
                intro A9 c9 w9 ho9 hg9 hk9
                have hM9 := MsOwn.snoc (d := ⟨done + k + 1, x, y, d.body⟩) hown.out hb98 ho8.out hA1.out hg9 ho9
                have hrt9 : RestTo F ds done (k + 1) ((rs ++ [(⟨⟨done + k + 1, x, y, d.body⟩, A1, cc1⟩ : Dr)]).map Dr.d) := by
                  rw [List.map_append]
                  have := RestTo.snoc hrt.out hFk.out hFD.out
                  rw [show done + 1 + (k : Int) = done + k + 1 by omega] at this
                  exact this
                have hl9 : (rs ++ [(⟨⟨done + k + 1, x, y, d.body⟩, A1, cc1⟩ : Dr)]).length = mm + 1 := by rw [List.length_append, hm'.out]; rfl
                have hb9' := ((hb9.trans (hb98.mono (by omega))).alloc (by omega) _).grown hg9 (by simp only [World.size_alloc]; omega) (fun k hk => (hlo k hk).1)
                replace hM9 := Lib.hid hM9
                replace hrt9 := Lib.hid hrt9
                replace hl9 := Lib.hid hl9
                clear hg9 hk9 ho9 q0 q1
                go_wp2
                go_roundw
                case rel => go_light; exact ⟨k + 1, A9, c9, mm + 1, _, by rw [show ((k + 1 : Nat) : Int) = k + 1 by omega]; congr 1; omega, rfl, hl9.out, by omega, hrt9.out, hM9.out, by omega, hb9'⟩
                case measure => go_light; simp [intOf]; omega
            · have hke : k = (cut - done).toNat := by omega
              subst hke
              have hRI := Lib.hid (hRO'.out _ hrt.out)
              have hO := Lib.hid (hown.lower (base' := w.heap.size) (by omega))
              clear hown
              rw [← hm'.out]
              go_wp2
              go_ret2
              go_light
              exact ⟨⟨B, c, rs, 0, rfl, hRI.out, hO.out⟩, hbw9⟩
end Go.Proofs.Ytcffhfcjfjfokaa
/- The law's sameMsg and sameMsgs. -/
namespace Go.Proofs.Ytcffhfcjfjfokaa
open Go.RowKit
set_option maxRecDepth 100000 in
set_option maxHeartbeats 2000000 in
theorem sameMsg_yes (d : Dt) (B B' : Option Addr) (c c' N : Nat) (w : World) (hN : N ≤ w.heap.size) (h : RowAt w N 1 eByte B d.body) (h' : RowAt w N 1 eByte B' d.body) :
    Calls Try.prog 57 #[.agg #[.int .i64 d.s, .int .i64 d.q, .int .i64 d.b, .slice B d.body.length c], .agg #[.int .i64 d.s, .int .i64 d.q, .int .i64 d.b, .slice B' d.body.length c']] w fun x w' => x = .returned (.bool true) ∧ Below w.heap.size w w' := by
  have hbx := below_box2 w #[.int .i64 d.s, .int .i64 d.q, .int .i64 d.b, .slice B d.body.length c] 54 #[.int .i64 d.s, .int .i64 d.q, .int .i64 d.b, .slice B' d.body.length c'] 54
  have e1 := run_body (c := c) (h.below hbx hN)
  have e2 := run_body (c := c') (h'.below hbx hN)
  replace hbx := Lib.hid hbx
  go_enter Try.func57, Try.ntmps57
  go_wp2
  go_ret
  exact ⟨rfl, hbx.out⟩
set_option maxRecDepth 100000 in
set_option maxHeartbeats 4000000 in
theorem sameMsgs_yes (A B : Option Addr) (cA cB N : Nat) (ds : List Dt) (w : World) (hN : N ≤ w.heap.size) (hA : Dts w N A ds) (hB : Dts w N B ds) (hl : ds.length ≤ 9223372036854775807) :
    Calls Try.prog 21 #[.slice A ds.length cA, .slice B ds.length cB] w fun x w' => x = .returned (.bool true) ∧ Below w.heap.size w w' := by
  go_enter Try.func21, Try.ntmps21
  go_wp2
  go_loopw [5] (fun k wr => ∃ q : Nat, k = .int .i64 q ∧ q ≤ ds.length ∧ Below w.heap.size w wr) (fun k _ => ds.length - (intOf k).toNat)
  case atStart => exact ⟨0, rfl, by omega, Below.refl _ _⟩
  case round =>
    obtain ⟨q, rfl, hq, hb⟩ := hrel
    have hsz := hb.size
    by_cases hlt : q < ds.length
    · obtain ⟨g, o, d, X, c, hAe, hg, hd, c0, c1, c2, c3, hX⟩ := (hA.below hb hN).at_ hlt
      obtain ⟨g', o', d', X', c', hBe, hg', hd', k0, k1, k2, k3, hX'⟩ := (hB.below hb hN).at_ hlt
      obtain rfl : d = d' := by have := hd'.out; rw [hd.out] at this; injection this
      subst hAe hBe
      have h58 := Lib.hid (sameMsg_yes d X X' c c' N wr.drew (by show N ≤ wr.heap.size; omega) hX.row hX'.row)
      clear hX hX' hA hB
      go_wp2
      refine wp_region_mid 8 (by kernel_rfl) rfl (by kernel_rfl) ?_
      simp only [List.take_succ_cons, List.take_zero]
      repeat (refine WS.step (fun K hK => ?_); go_simp; refine hK.out _ ?_; clear hK K)
      refine WS.nil ?_
      intro K hK
      go_simp
      go_at_call 57
      refine h58.out.mono ?_
      rintro e w2 ⟨rfl, hbw2⟩
      go_wp2_with fail
      refine hK.out _ _ ?_
      clear hK K
      have hb2 := (Below.drew hb).trans (hbw2.mono (by show _ ≤ wr.heap.size; omega))
      simp only [List.drop_succ_cons, List.drop_zero]
      repeat (refine WS.step (fun K hK => ?_); go_simp; refine hK.out _ ?_; clear hK K)
      refine WS.nil ?_
      go_wp2
      go_roundw
      case rel => go_light; exact ⟨q + 1, by go_num, by omega, hb2⟩
      case measure => go_light; simp [intOf]; omega
    · go_wp2
      go_ret
      exact ⟨rfl, hb⟩
end Go.Proofs.Ytcffhfcjfjfokaa
