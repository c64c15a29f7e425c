/- Miss Msgs RMsgs, joined. -/
import Derived.Test.YtcffhfcjfjfokaaSu5
import Derived.Test.YtcffhfcjfjfokaaSu13
set_option linter.unusedVariables false
set_option linter.unusedSimpArgs false
namespace Go.Proofs.Ytcffhfcjfjfokaa
open Go.RowKit
def eMm (m : Mm) : List Value := [.int .i64 m.p, .int .i64 m.i, .int .i64 m.c]
theorem size168 : (Try.prog.info? 168).map (·.size) = some 3 := by kernel_rfl
theorem load168 {w : World} {b o : Nat} {m : Mm} (h : w.rangeAt b o (eMm m)) : (loadVar 168 ⟨b, o, none⟩).run Try.prog w = .ok (.agg #[.int .i64 m.p, .int .i64 m.i, .int .i64 m.c]) w :=
  run_loadVar_mid w b o 168 (eMm m) _ h Try.underlying168 rfl (by rw [size168]; rfl)
theorem missing_snoc (s : Sto) (e l i c : Int) (who : List Mm) {q : Nat} {m : Mm} (hm : who[q]? = some m) : s.missing e l i c (who.take (q + 1)) = if s.hereB e l i c m = true then s.missing e l i c (who.take q) else s.missing e l i c (who.take q) ++ [m.p] := by
  unfold Sto.missing
  rw [List.take_add_one, hm]
  simp only [Option.toList_some, List.filter_append, List.map_append]
  cases hh : s.hereB e l i c m <;> simp [hh]
theorem missing_len (s : Sto) (e l i c : Int) (who : List Mm) : (s.missing e l i c who).length ≤ who.length := by
  unfold Sto.missing
  rw [List.length_map]; exact List.length_filter_le _ _
def MsPost (w : World) (l : List Int) (x : Ending) (w' : World) : Prop :=
  ∃ B c, x = .returned (.slice B l.length c) ∧ Owns w' w.heap.size 3 1 eInt B c l ∧ Below w.heap.size w w'
set_option maxRecDepth 100000 in
set_option maxHeartbeats 2000000 in
theorem missing_any {w : World} {F : List Nat} {b g : Nat} {s : Sto} {ks : List KpX} {Mp : Option Addr} {cM : Nat} {ms : List Dr} (h : StV w F b g 0 1 s ks Mp cM ms) (e l i c : Int) (A : Option Addr) (cA N : Nat) (who : List Mm) (hN : N ≤ w.heap.size) (hA : RowAt w N 3 eMm A who) (hl : who.length ≤ 1048576) :
    Calls Try.prog 72 #[.pointer (some ⟨b, 0, none⟩), .agg #[.int .i64 e, .int .i64 l, .int .i64 i, .int .i64 c], .slice A who.length cA] w (MsPost w (s.missing e l i c who)) := by
  obtain ⟨wA, hwA⟩ : ∃ wA, wA = w.alloc (.cells #[.int .i64 e, .int .i64 l, .int .i64 i, .int .i64 c] 35) := ⟨_, rfl⟩
  have hbA : Below w.heap.size w wA := by rw [hwA]; exact below_box1 _ _ _
  have zA : wA.heap.size = w.heap.size + 1 := by rw [hwA]; simp
  have oA : wA.rangeAt w.heap.size 0 [.int .i64 e, .int .i64 l, .int .i64 i, .int .i64 c] := by rw [hwA]; exact range_new w #[.int .i64 e, .int .i64 l, .int .i64 i, .int .i64 c] 35
  have hbz := h.hi b h.bF
  have hx : ∀ W, Below wA.heap.size wA W → RowAt W N 3 eMm A who ∧ StV W F b g 0 1 s ks Mp cM ms ∧ W.rangeAt w.heap.size 0 [.int .i64 e, .int .i64 l, .int .i64 i, .int .i64 c] := fun W hW =>
    ⟨(hA.below hbA hN).below hW (by omega), (h.below hbA).below hW, range_same oA (hW.block w.heap.size (by omega))⟩
  replace hx := Lib.hid hx
  replace hbA := Lib.hid hbA
  replace hwA := Lib.hid hwA
  replace zA := Lib.hid zA
  clear h oA hA
  go_enter Try.func72, Try.ntmps72
  go_wp2
  rw [← hwA.out]
  go_loopw [7, 12] (fun v k wr => ∃ (q : Nat) (B : Option Addr) (d : Nat), k = .int .i64 q ∧ q ≤ who.length ∧ v = .slice B (s.missing e l i c (who.take q)).length d ∧ Owns wr wA.heap.size 3 1 eInt B d (s.missing e l i c (who.take q)) ∧ Below wA.heap.size wA wr) (fun _ k _ => who.length - (intOf k).toNat)
  case atStart => exact ⟨0, none, 0, rfl, by omega, rfl, owns_nil _ _ _ _ _, Below.refl _ _⟩
  case round =>
    obtain ⟨q, B, d, rfl, hq, rfl, ho, hb⟩ := hrel
    have hlm := Nat.le_trans (missing_len s e l i c (who.take q)) (List.length_take_le ..)
    have hzr := hb.size
    replace ho := Lib.hid ho
    replace hb := Lib.hid hb
    by_cases hlt : q < who.length
    · obtain ⟨g1, o1, rfl, hg1, hc1⟩ := (hx.out _ hb.out).1 (by omega)
      have hm : who[q]? = some who[q] := List.getElem?_eq_getElem hlt
      obtain ⟨m, hme⟩ : ∃ m, m = who[q] := ⟨_, rfl⟩
      rw [← hme] at hm
      have hmr : wr.rangeAt g1 (o1 + q * 3) (eMm m) := fun j u hu => hc1 q m hm j u hu
      have hsn := missing_snoc s e l i c who hm
      obtain ⟨x1, hx1⟩ : ∃ x1, x1 = wr.alloc (.cells #[.int .i64 m.p, .int .i64 m.i, .int .i64 m.c] 168) := ⟨_, rfl⟩
      have b1 : Below wr.heap.size wr x1 := by rw [hx1]; exact below_box1 _ _ _
      have r1 : x1.rangeAt wr.heap.size 0 (eMm m) := by rw [hx1]; exact range_new wr #[.int .i64 m.p, .int .i64 m.i, .int .i64 m.c] 168
      have z1 : wr.heap.size < x1.heap.size := by rw [hx1]; simp
      have bA1 := hb.out.trans (b1.mono hzr)
      have o1' : Owns x1 wA.heap.size 3 1 eInt B d (s.missing e l i c (who.take q)) := by rw [hx1]; exact ho.out.alloc _
      obtain ⟨-, h1, v1⟩ := hx.out _ bA1
      have Lv := load35 v1
      have Lm := load168 r1
      have hq0 : (0 : Int) ≤ (q : Int) := by omega
      have hq1 : (q : Int) < (who.length : Int) := by omega
      replace hme := Lib.hid hme
      replace hm := Lib.hid hm
      replace hmr := Lib.hid hmr
      replace hsn := Lib.hid hsn
      replace hx1 := Lib.hid hx1
      replace b1 := Lib.hid b1
      replace r1 := Lib.hid r1
      replace bA1 := Lib.hid bA1
      replace o1' := Lib.hid o1'
      replace h1 := Lib.hid h1
      replace Lv := Lib.hid Lv
      replace Lm := Lib.hid Lm
      clear hc1 v1
      cases hh : s.hereB e l i c m with
      | true =>
        rw [hh, if_pos rfl] at hsn
        go_wp2_with (first
          | (refine wpList_loadR rfl 168 (.tmp 14) rfl g1 (o1 + q * 3) (by rfl) _ (by exact load168 hmr.out) ?_)
          | (rw [← hx1.out]
             refine wpList_loadR rfl 35 (.tmp 4) rfl w.heap.size 0 (by rfl) _ (by exact Lv.out) ?_)
          | (refine wpList_loadR rfl 168 (.tmp 9) rfl wr.heap.size 0 (by rfl) _ (by exact Lm.out) ?_)
          | fail)
        go_wp2_with (first
          | (go_at_call 103
             refine (here_any h1.out e l i c m).mono ?_
             rintro e' x2 ⟨rfl, hb2⟩
             rw [hh]
             have bA2 := Lib.hid (bA1.out.trans (hb2.mono bA1.out.size))
             have ho2 := Lib.hid (o1'.out.keep hb2 (fun k hk => (o1'.out.lo k hk).2))
             clear hb2)
          | fail)
        go_roundw
        case rel => go_light; exact ⟨q + 1, B, d, by go_num, by omega, by rw [hsn.out], by rw [hsn.out]; exact ho2.out, bA2.out⟩
        case measure => go_light; simp [intOf]; omega
      | false =>
        rw [hh, if_neg (by simp)] at hsn
        go_wp2_with (first
          | (refine wpList_loadR rfl 168 (.tmp 14) rfl g1 (o1 + q * 3) (by rfl) _ (by exact load168 hmr.out) ?_)
          | (rw [← hx1.out]
             refine wpList_loadR rfl 35 (.tmp 4) rfl w.heap.size 0 (by rfl) _ (by exact Lv.out) ?_)
          | (refine wpList_loadR rfl 168 (.tmp 9) rfl wr.heap.size 0 (by rfl) _ (by exact Lm.out) ?_)
          | fail)
        go_wp2_with (first
          | (go_at_call 103
             refine (here_any h1.out e l i c m).mono ?_
             rintro e' x2 ⟨rfl, hb2⟩
             rw [hh]
             have bA2 := bA1.out.trans (hb2.mono bA1.out.size)
             have ho2 := o1'.out.keep hb2 (fun k hk => (o1'.out.lo k hk).2)
             have Lp : (loadVar 3 ⟨wr.heap.size, 0, none⟩).run Try.prog x2 = .ok (.int .i64 m.p) x2 := load3 ((hb2.cell (p := ⟨wr.heap.size, 0, none⟩) z1).trans (r1.out 0 _ rfl))
             have ho3 := ho2.alloc (.cells #[.int .i64 m.p] 3)
             have r3 := row_new x2 3 1 eInt m.p #[.int .i64 m.p] rfl
             have z2 := bA2.size
             have b3 : Below wA.heap.size wA (x2.alloc (.cells #[.int .i64 m.p] 3)) := bA2.alloc z2 _
             have lo3 := ho3.lo
             replace bA2 := Lib.hid bA2
             replace ho3 := Lib.hid ho3
             replace r3 := Lib.hid r3
             replace b3 := Lib.hid b3
             replace Lp := Lib.hid Lp
             replace lo3 := Lib.hid lo3
             clear hb2 ho2)
          | (refine wpList_loadR rfl 3 (.tmp 22) rfl wr.heap.size 0 (by rfl) _ (by exact Lp.out) ?_)
          | (refine wpList_append_rows _ rfl (.tmp 21) (.tmp 24) 37 rfl wA.heap.size 3 1 8 (.int .i64 0) Try.underlying37 info3 (by rfl) (by omega) eInt len_eInt one_eInt B d (s.missing e l i c (who.take q)) (some ⟨x2.heap.size, 0, none⟩) 1 (x2.heap.size + 1) (s.missing e l i c (who.take q)).length 1 [m.p] (by rfl) (by rfl) rfl rfl ho3.out r3.out (by omega) (by omega) (by rw [World.size_alloc]; omega) ?_
             intro B4 d4 x4 ho4 hg4 hk4
             have b4 := b3.out.grown hg4 (by rw [World.size_alloc]; omega) (fun k hk => (lo3.out k hk).1)
             replace ho4 := Lib.hid ho4
             replace b4 := Lib.hid b4
             clear hg4 hk4)
          | fail)
        go_roundw
        case rel => go_light; exact ⟨q + 1, B4, d4, by go_num, by omega, by rw [hsn.out]; simp, by rw [hsn.out]; exact ho4.out, b4.out⟩
        case measure => go_light; simp [intOf]; omega
    · obtain rfl : q = who.length := by omega
      rw [List.take_length] at ho ⊢
      have hfin := Lib.hid (hbA.out.trans (hb.out.mono (by have := zA.out; omega)))
      go_wp2
      go_ret
      exact ⟨B, d, rfl, ho.out.base (by have := zA.out; omega), hfin.out⟩
set_option maxRecDepth 100000 in
set_option maxHeartbeats 2000000 in
theorem rmissing_any {w : World} {F : List Nat} {b g : Nat} {s : Sto} {ks : List KpX} {Mp : Option Addr} {cM : Nat} {ms : List Dr} (h : StV w F b g 1 2 s ks Mp cM ms) (hn : w.cell? ⟨b, 0, none⟩ = some (.int .i64 s.n)) (e l i c : Int) (A : Option Addr) (cA N : Nat) (who : List Mm) (hN : N ≤ w.heap.size) (hA : RowAt w N 3 eMm A who) (hl : who.length ≤ 1048576) :
    Calls Try.prog 73 #[.pointer (some ⟨b, 0, none⟩), .agg #[.int .i64 e, .int .i64 l, .int .i64 i, .int .i64 c], .slice A who.length cA] w (MsPost w (s.missing e l i c who)) := by
  obtain ⟨wA, hwA⟩ : ∃ wA, wA = w.alloc (.cells #[.int .i64 e, .int .i64 l, .int .i64 i, .int .i64 c] 35) := ⟨_, rfl⟩
  have hbA : Below w.heap.size w wA := by rw [hwA]; exact below_box1 _ _ _
  have zA : wA.heap.size = w.heap.size + 1 := by rw [hwA]; simp
  have oA : wA.rangeAt w.heap.size 0 [.int .i64 e, .int .i64 l, .int .i64 i, .int .i64 c] := by rw [hwA]; exact range_new w #[.int .i64 e, .int .i64 l, .int .i64 i, .int .i64 c] 35
  have hbz := h.hi b h.bF
  have hx : ∀ W, Below wA.heap.size wA W → RowAt W N 3 eMm A who ∧ StV W F b g 1 2 s ks Mp cM ms ∧ W.rangeAt w.heap.size 0 [.int .i64 e, .int .i64 l, .int .i64 i, .int .i64 c] ∧ W.cell? ⟨b, 0, none⟩ = some (.int .i64 s.n) := fun W hW =>
    ⟨(hA.below hbA hN).below hW (by omega), (h.below hbA).below hW, range_same oA (hW.block w.heap.size (by omega)), (hW.cell (p := ⟨b, 0, none⟩) (by show b < _; omega)).trans ((hbA.cell (p := ⟨b, 0, none⟩) hbz).trans hn)⟩
  replace hx := Lib.hid hx
  replace hbA := Lib.hid hbA
  replace hwA := Lib.hid hwA
  replace zA := Lib.hid zA
  clear h oA hA hn
  go_enter Try.func73, Try.ntmps73
  go_wp2
  rw [← hwA.out]
  go_loopw [7, 8] (fun v k wr => ∃ (q : Nat) (B : Option Addr) (d : Nat), k = .int .i64 q ∧ q ≤ who.length ∧ v = .slice B (s.missing e l i c (who.take q)).length d ∧ Owns wr wA.heap.size 3 1 eInt B d (s.missing e l i c (who.take q)) ∧ Below wA.heap.size wA wr) (fun _ k _ => who.length - (intOf k).toNat)
  case atStart => exact ⟨0, none, 0, rfl, by omega, rfl, owns_nil _ _ _ _ _, Below.refl _ _⟩
  case round =>
    obtain ⟨q, B, d, rfl, hq, rfl, ho, hb⟩ := hrel
    have hlm := Nat.le_trans (missing_len s e l i c (who.take q)) (List.length_take_le ..)
    have hzr := hb.size
    replace ho := Lib.hid ho
    replace hb := Lib.hid hb
    by_cases hlt : q < who.length
    · obtain ⟨g1, o1, rfl, hg1, hc1⟩ := (hx.out _ hb.out).1 (by omega)
      have hm : who[q]? = some who[q] := List.getElem?_eq_getElem hlt
      obtain ⟨m, hme⟩ : ∃ m, m = who[q] := ⟨_, rfl⟩
      rw [← hme] at hm
      have hmr : wr.rangeAt g1 (o1 + q * 3) (eMm m) := fun j u hu => hc1 q m hm j u hu
      have hsn := missing_snoc s e l i c who hm
      have hq0 : (0 : Int) ≤ (q : Int) := by omega
      have hq1 : (q : Int) < (who.length : Int) := by omega
      replace hme := Lib.hid hme
      replace hm := Lib.hid hm
      replace hmr := Lib.hid hmr
      replace hsn := Lib.hid hsn
      clear hc1
      cases hh : s.hereB e l i c m with
      | true =>
        rw [hh, if_pos rfl] at hsn
        go_wp2_with fail
        have bd : Below wr.heap.size wr wr.drew := Below.drew (Below.refl _ _)
        have hC : ∀ x' : Prop, (∀ W, Below wr.heap.size wr W → x') ↔ x' := fun x' => ⟨fun f => f _ (Below.refl _ _), fun f _ _ => f⟩
        have La : ∀ W, Below wr.heap.size wr W → (loadVar 35 ⟨w.heap.size, 0, none⟩).run Try.prog W = .ok (.agg #[.int .i64 e, .int .i64 l, .int .i64 i, .int .i64 c]) W := fun W hW => load35 (hx.out _ (hb.out.trans (hW.mono hzr))).2.2.1
        have Lb : ∀ W, Below wr.heap.size wr W → (loadVar 168 ⟨g1, o1 + q * 3, none⟩).run Try.prog W = .ok (.agg #[.int .i64 m.p, .int .i64 m.i, .int .i64 m.c]) W := fun W hW => load168 (range_same hmr.out (hW.block g1 (by have := zA.out; omega)))
        obtain ⟨-, h1, -, n1⟩ := hx.out _ (hb.out.trans (bd.mono hzr))
        replace h1 := Lib.hid h1
        replace n1 := Lib.hid n1
        replace La := Lib.hid La
        replace Lb := Lib.hid Lb
        replace bd := Lib.hid bd
        refine wp_region_ord [([0, 1, 2, 3, 4, 5], 6)] [7] (fun W => Below wr.heap.size wr W) rfl (by kernel_rfl) rfl bd.out ?_
        refine WO.seg rfl ?_ bd.out
        simp only [picks, pick, List.cons_append, List.nil_append, List.append_nil]
        repeat (first
          | go_big_quiet_skip
          | (refine wpQuiet_loadC (by rfl) 35 (.tmp 4) rfl w.heap.size 0 (by rfl) _ La.out ?_; simp only [Act.put, List.setIfInBounds_toArray, List.set_cons_zero, List.set_cons_succ])
          | (refine wpQuiet_loadC (by rfl) 168 (.tmp 20) rfl g1 (o1 + q * 3) (by rfl) _ Lb.out ?_; simp only [Act.put, List.setIfInBounds_toArray, List.set_cons_zero, List.set_cons_succ])
          | go_big_quiet_step (fail))
        refine wpQuiet_nil ?_
        intro K hK
        go_simp
        go_at_call 104
        refine (rhere_any h1.out n1.out e l i c m).mono ?_
        rintro e' x2 ⟨rfl, hb2⟩
        rw [hh]
        have b2 : Below wr.heap.size wr x2 := bd.out.trans hb2
        have bA2 := hb.out.trans (b2.mono hzr)
        have ho2 := ho.out.keep b2 (fun k hk => (ho.out.lo k hk).2)
        replace b2 := Lib.hid b2
        replace bA2 := Lib.hid bA2
        replace ho2 := Lib.hid ho2
        clear hb2
        go_wp2_with fail
        refine hK.out _ _ b2.out ?_
        clear hK K
        refine WO.end_ ?_
        simp only [picks, pick, List.cons_append, List.nil_append, List.append_nil]
        repeat go_big_quiet_step (fail)
        refine wpQuiet_nil ?_
        clear hC La Lb
        go_wp2
        go_roundw
        case rel => go_light; exact ⟨q + 1, B, d, by go_num, by omega, by rw [hsn.out], by rw [hsn.out]; exact ho2.out, bA2.out⟩
        case measure => go_light; simp [intOf]; omega
      | false =>
        rw [hh, if_neg (by simp)] at hsn
        go_wp2_with fail
        have bd : Below wr.heap.size wr wr.drew := Below.drew (Below.refl _ _)
        have hC : ∀ x' : Prop, (∀ W, Below wr.heap.size wr W → x') ↔ x' := fun x' => ⟨fun f => f _ (Below.refl _ _), fun f _ _ => f⟩
        have La : ∀ W, Below wr.heap.size wr W → (loadVar 35 ⟨w.heap.size, 0, none⟩).run Try.prog W = .ok (.agg #[.int .i64 e, .int .i64 l, .int .i64 i, .int .i64 c]) W := fun W hW => load35 (hx.out _ (hb.out.trans (hW.mono hzr))).2.2.1
        have Lb : ∀ W, Below wr.heap.size wr W → (loadVar 168 ⟨g1, o1 + q * 3, none⟩).run Try.prog W = .ok (.agg #[.int .i64 m.p, .int .i64 m.i, .int .i64 m.c]) W := fun W hW => load168 (range_same hmr.out (hW.block g1 (by have := zA.out; omega)))
        obtain ⟨-, h1, -, n1⟩ := hx.out _ (hb.out.trans (bd.mono hzr))
        replace h1 := Lib.hid h1
        replace n1 := Lib.hid n1
        replace La := Lib.hid La
        replace Lb := Lib.hid Lb
        replace bd := Lib.hid bd
        refine wp_region_ord [([0, 1, 2, 3, 4, 5], 6)] [7] (fun W => Below wr.heap.size wr W) rfl (by kernel_rfl) rfl bd.out ?_
        refine WO.seg rfl ?_ bd.out
        simp only [picks, pick, List.cons_append, List.nil_append, List.append_nil]
        repeat (first
          | go_big_quiet_skip
          | (refine wpQuiet_loadC (by rfl) 35 (.tmp 4) rfl w.heap.size 0 (by rfl) _ La.out ?_; simp only [Act.put, List.setIfInBounds_toArray, List.set_cons_zero, List.set_cons_succ])
          | (refine wpQuiet_loadC (by rfl) 168 (.tmp 20) rfl g1 (o1 + q * 3) (by rfl) _ Lb.out ?_; simp only [Act.put, List.setIfInBounds_toArray, List.set_cons_zero, List.set_cons_succ])
          | go_big_quiet_step (fail))
        refine wpQuiet_nil ?_
        intro K hK
        go_simp
        go_at_call 104
        refine (rhere_any h1.out n1.out e l i c m).mono ?_
        rintro e' x2 ⟨rfl, hb2⟩
        rw [hh]
        have b2 : Below wr.heap.size wr x2 := bd.out.trans hb2
        have bA2 := hb.out.trans (b2.mono hzr)
        have ho2 := ho.out.keep b2 (fun k hk => (ho.out.lo k hk).2)
        replace b2 := Lib.hid b2
        replace bA2 := Lib.hid bA2
        replace ho2 := Lib.hid ho2
        clear hb2
        go_wp2_with fail
        refine hK.out _ _ b2.out ?_
        clear hK K
        refine WO.end_ ?_
        simp only [picks, pick, List.cons_append, List.nil_append, List.append_nil]
        repeat go_big_quiet_step (fail)
        refine wpQuiet_nil ?_
        clear hC La Lb
        have Lp : (loadVar 3 ⟨g1, o1 + q * 3, none⟩).run Try.prog x2 = .ok (.int .i64 m.p) x2 := load3 ((b2.out.cell (p := ⟨g1, o1 + q * 3, none⟩) (by show g1 < _; have := zA.out; omega)).trans (hmr.out 0 _ rfl))
        have ho3 := ho2.out.alloc (.cells #[.int .i64 m.p] 3)
        have r3 := row_new x2 3 1 eInt m.p #[.int .i64 m.p] rfl
        have z2 := bA2.out.size
        have b3 : Below wA.heap.size wA (x2.alloc (.cells #[.int .i64 m.p] 3)) := bA2.out.alloc z2 _
        have lo3 := ho3.lo
        replace ho3 := Lib.hid ho3
        replace r3 := Lib.hid r3
        replace b3 := Lib.hid b3
        replace Lp := Lib.hid Lp
        replace lo3 := Lib.hid lo3
        go_wp2_with (first
          | (refine wpList_loadR rfl 3 (.tmp 29) rfl g1 (o1 + q * 3) (by rfl) _ (by exact Lp.out) ?_)
          | (refine wpList_append_rows _ rfl (.tmp 25) (.tmp 31) 37 rfl wA.heap.size 3 1 8 (.int .i64 0) Try.underlying37 info3 (by rfl) (by omega) eInt len_eInt one_eInt B d (s.missing e l i c (who.take q)) (some ⟨x2.heap.size, 0, none⟩) 1 (x2.heap.size + 1) (s.missing e l i c (who.take q)).length 1 [m.p] (by rfl) (by rfl) rfl rfl ho3.out r3.out (by omega) (by omega) (by rw [World.size_alloc]; omega) ?_
             intro B4 d4 x4 ho4 hg4 hk4
             have b4 := b3.out.grown hg4 (by rw [World.size_alloc]; omega) (fun k hk => (lo3.out k hk).1)
             replace ho4 := Lib.hid ho4
             replace b4 := Lib.hid b4
             clear hg4 hk4)
          | fail)
        go_roundw
        case rel => go_light; exact ⟨q + 1, B4, d4, by go_num, by omega, by rw [hsn.out]; simp, by rw [hsn.out]; exact ho4.out, b4.out⟩
        case measure => go_light; simp [intOf]; omega
    · obtain rfl : q = who.length := by omega
      rw [List.take_length] at ho ⊢
      have hfin := Lib.hid (hbA.out.trans (hb.out.mono (by have := zA.out; omega)))
      go_wp2
      go_ret
      exact ⟨B, d, rfl, ho.out.base (by have := zA.out; omega), hfin.out⟩
end Go.Proofs.Ytcffhfcjfjfokaa
namespace Go.Proofs.Ytcffhfcjfjfokaa
open Go.RowKit
def WrB (w : World) (lo : Nat) (r : Dr) : Prop := 0 < r.d.body.length → ∃ g, r.B = some ⟨g, 0, none⟩ ∧ lo ≤ g ∧ g < w.heap.size ∧ w.there g 0 r.d.body.length
theorem WrB.same {w w' : World} {lo : Nat} {r : Dr} (h : WrB w lo r) (hs : w.heap.size ≤ w'.heap.size) (hk : ∀ g, blk r.B = some g → lo ≤ g → g < w.heap.size → w'.heap[g]? = w.heap[g]?) : WrB w' lo r := fun h0 => by
  obtain ⟨g, e, h1, h2, h3⟩ := h h0
  exact ⟨g, e, h1, by omega, there_same h3 (hk g (by rw [e]; rfl) h1 h2)⟩
theorem WrB.below {w w' : World} {lo : Nat} {r : Dr} (h : WrB w lo r) (hb : Below w.heap.size w w') : WrB w' lo r := h.same hb.size fun g _ _ hg => hb.block g hg
theorem WrB.of {w : World} {base c : Nat} {B : Option Addr} {d : Dt} (h : Owns w base 5 1 eByte B c d.body) : WrB w base ⟨d, B, c⟩ := fun h0 => by
  obtain ⟨g, cap, hv, _, hg⟩ := World.ownsRow.form h h0
  have hB : B = some ⟨g, 0, none⟩ := by injection hv
  subst hB
  refine ⟨g, rfl, (h.lo g rfl).1, hg, fun j hj => ?_⟩
  rw [Nat.zero_add]
  refine ⟨?_, World.ownsRow.frozenAt h j⟩
  rw [World.ownsRow.cellAt h j (by show j < d.body.length * 1; have : j < d.body.length := hj; omega)]
  rw [List.getElem?_eq_getElem (by rw [length_flat len_eByte]; have : j < d.body.length := hj; omega)]; rfl
structure OwnMs (w : World) (base : Nat) (B : Option Addr) (c : Nat) (rs : List Dr) : Prop where
  own : Owns w base 113 4 eDr B c rs
  far : ∀ r ∈ rs, FarDr w B r
  wr : ∀ r ∈ rs, WrB w base r
theorem OwnMs.dts {w : World} {base c : Nat} {B : Option Addr} {rs : List Dr} (h : OwnMs w base B c rs) : Dts w w.heap.size B (rs.map Dr.d) := ⟨rs, rfl, h.own.row len_eDr, fun r hr => ⟨(h.far r hr).2.row, (h.far r hr).1.1, (h.far r hr).1.2⟩⟩
theorem ownMs_nil (w : World) (base : Nat) : OwnMs w base none 0 [] := ⟨owns_nil _ _ _ _ _, fun r hr => (by cases hr), fun r hr => (by cases hr)⟩
theorem OwnMs.push {w x y : World} {base c c' : Nat} {B B' : Option Addr} {rs : List Dr} {r : Dr} (h : OwnMs w base B c rs) (hb : Below w.heap.size w x) (hr : FarDr x B r) (hw : WrB x base r) (o : Obj) (ho : Owns y base 113 4 eDr B' c' (rs ++ [r])) (hg : (x.alloc o).grownBy y (blk B)) (hk : blk B' = blk B ∨ blk B' = some (x.alloc o).heap.size) : OwnMs y base B' c' (rs ++ [r]) := by
  have hbx : Below x.heap.size x (x.alloc o) := (Below.refl _ _).alloc (Nat.le_refl _) _
  have hall : ∀ z ∈ rs ++ [r], FarDr (x.alloc o) B z ∧ WrB (x.alloc o) base z := fun z hz => by
    rcases List.mem_append.1 hz with e | e
    · exact ⟨((h.far z e).below hb).below hbx, ((h.wr z e).below hb).below hbx⟩
    · obtain rfl := List.mem_singleton.1 e
      exact ⟨hr.below hbx, hw.below hbx⟩
  refine ⟨ho, fun z hz => (hall z hz).1.grown hg hk, fun z hz => ?_⟩
  obtain ⟨hf, hwz⟩ := hall z hz
  intro h0
  obtain ⟨g, e, h1, h2, h3⟩ := hwz h0
  obtain ⟨g2, off, e2, hne, _, _⟩ := hf.2 h0
  rw [e] at e2; injection e2 with e2; injection e2 with e2 _; subst e2
  exact ⟨g, e, h1, Nat.lt_of_lt_of_le h2 hg.size, there_same h3 (hg.block g h2 hne)⟩
def MePost (w : World) (ds : List Dt) (x : Ending) (w' : World) : Prop :=
  ∃ B c rs, x = .returned (.slice B ds.length c) ∧ rs.map Dr.d = ds ∧ OwnMs w' w.heap.size B c rs ∧ Below w.heap.size w w'
set_option maxRecDepth 100000 in
set_option maxHeartbeats 2000000 in
theorem messages_any {w : World} {F : List Nat} {b g : Nat} {s : Sto} {ks : List KpX} {Mp : Option Addr} {cM : Nat} {ms : List Dr} (h : StV w F b g 0 1 s ks Mp cM ms) :
    Calls Try.prog 78 #[.pointer (some ⟨b, 0, none⟩)] w (MePost w s.msgs) := by
  have hL : (loadVar 40 ⟨b, 6, none⟩).run Try.prog w = .ok (.slice Mp ms.length cM) w := load40 h.cm
  have hlen := h.lenM
  have hml : ms.length = s.msgs.length := by rw [← h.mm, List.length_map]
  have hx : ∀ W, Below w.heap.size w W → RowAt W w.heap.size 4 eDr Mp ms ∧ ∀ r ∈ ms, RowAt W w.heap.size 1 eByte r.B r.d.body := fun W hW => ⟨h.mrow.row.below hW (Nat.le_refl _), fun r hr => (h.mS r hr).row.row.below hW (Nat.le_refl _)⟩
  have hcap : ∀ r ∈ ms, r.d.body.length ≤ 256 := fun r hr => by
    have := h.inv.each r.d (by rw [← h.mm]; exact List.mem_map.2 ⟨r, hr, rfl⟩)
    unfold dtB at this; simp at this; omega
  have hmm := h.mm
  replace hL := Lib.hid hL
  replace hx := Lib.hid hx
  replace hcap := Lib.hid hcap
  replace hmm := Lib.hid hmm
  replace h := Lib.hid h
  unfold MePost
  rw [← hml]
  replace hml := Lib.hid hml
  go_enter Try.func78, Try.ntmps78
  go_wp2_with (first
    | (refine wpList_loadR rfl 40 (.tmp 8) rfl b 6 (by rfl) _ (by exact hL.out) ?_)
    | fail)
  go_loopw [3, 11] (fun v k wr => ∃ (q : Nat) (B : Option Addr) (c : Nat) (rs : List Dr), k = .int .i64 q ∧ q ≤ ms.length ∧ v = .slice B q c ∧ rs.length = q ∧ Hid (rs.map Dr.d = (ms.map Dr.d).take q) ∧ OwnMs wr w.heap.size B c rs ∧ Below w.heap.size w wr) (fun _ k _ => ms.length - (intOf k).toNat)
  case atStart => exact ⟨0, none, 0, [], rfl, by omega, rfl, rfl, by show List.map _ _ = _; simp, ownMs_nil _ _, Below.refl _ _⟩
  case round =>
    obtain ⟨q, B, c, rs, rfl, hq, rfl, hrl, hrs, ho, hb⟩ := hrel
    have hzr := hb.size
    replace hrl := Lib.hid hrl
    replace ho := Lib.hid ho
    replace hb := Lib.hid hb
    by_cases hlt : q < ms.length
    · obtain ⟨hrow, hbod⟩ := hx.out _ hb.out
      obtain ⟨g1, o1, hMe, hg1, hc1⟩ := hrow (by omega)
      have hr : ms[q]? = some ms[q] := List.getElem?_eq_getElem hlt
      obtain ⟨r, hre⟩ : ∃ r, r = ms[q] := ⟨_, rfl⟩
      rw [← hre] at hr
      have hrm : r ∈ ms := by rw [hre]; exact List.getElem_mem hlt
      have hrr : wr.rangeAt g1 (o1 + q * 4) (eDr r) := fun j u hu => hc1 q r hr j u hu
      have hB := hbod r hrm
      have hb256 := hcap.out r hrm
      obtain ⟨x1, hx1⟩ : ∃ x1, x1 = wr.alloc (.cells (drA r) 113) := ⟨_, rfl⟩
      have b1 : Below wr.heap.size wr x1 := by rw [hx1]; exact below_box1 _ _ _
      have r1 : x1.rangeAt wr.heap.size 0 (eDr r) := by rw [hx1]; exact range_new wr (drA r) 113
      have t1 : x1.there wr.heap.size 0 4 := by rw [hx1]; exact there_new wr (drA r) 113
      have z1 : x1.heap.size = wr.heap.size + 1 := by rw [hx1]; simp
      have L16 : (loadVar 52 ⟨wr.heap.size, 3, none⟩).run Try.prog x1 = .ok (.slice r.B r.d.body.length r.c) x1 := load52 (r1 3 _ rfl)
      have hB1 := hB.below b1 hzr
      have hq0 : (0 : Int) ≤ (q : Int) := by omega
      have hq1 : (q : Int) < (ms.length : Int) := by omega
      subst hMe
      replace hr := Lib.hid hr
      replace hre := Lib.hid hre
      replace hrm := Lib.hid hrm
      replace hrr := Lib.hid hrr
      replace hB1 := Lib.hid hB1
      replace hx1 := Lib.hid hx1
      replace b1 := Lib.hid b1
      replace r1 := Lib.hid r1
      replace t1 := Lib.hid t1
      replace z1 := Lib.hid z1
      replace L16 := Lib.hid L16
      clear hrow hbod hc1 hB
      go_wp2_with (first
        | (refine wpList_loadR rfl 113 (.tmp 13) rfl g1 (o1 + q * 4) (by rfl) _ (by exact load113 hrr.out) ?_)
        | (rw [← hx1.out]
           refine wpList_loadR rfl 52 (.tmp 15) rfl wr.heap.size 3 (by rfl) _ (by exact L16.out) ?_)
        | (refine wpList_append_rows _ rfl (.const (.slice none 0 0)) (.tmp 16) 52 rfl x1.heap.size 5 1 1 (.int .u8 0) Try.underlying52 info5 (by rfl) (by omega) eByte len_eByte one_eByte none 0 [] r.B r.c w.heap.size 0 r.d.body.length r.d.body (by rfl) (by rfl) rfl rfl (owns_nil _ _ _ _ _) hB1.out (by omega) (by omega) (Nat.le_refl _) ?_
           intro A2 c2 x2 ho2 hg2 hk2
           rw [Nat.zero_add]
           rw [List.nil_append] at ho2
           have b2 : Below x1.heap.size x1 x2 := (Below.refl _ _).grown hg2 (Nat.le_refl _) (fun k hk => by cases hk)
           have r2 := range_same r1.out (b2.block wr.heap.size (by have := z1.out; omega))
           have t2 := there_same t1.out (b2.block wr.heap.size (by have := z1.out; omega))
           have k3 : x2.cell? ⟨wr.heap.size, 3, none⟩ = some (.slice r.B r.d.body.length r.c) := r2 3 _ rfl
           have f3 : x2.frozen? ⟨wr.heap.size, 3, none⟩ = false := there_frozen (k := 3) t2 (by omega)
           obtain ⟨x3, hx3⟩ : ∃ x3, x3 = x2.setCell ⟨wr.heap.size, 3, none⟩ (.slice A2 r.d.body.length c2) := ⟨_, rfl⟩
           have r3 : x3.rangeAt wr.heap.size 0 (eDr ⟨r.d, A2, c2⟩) := by rw [hx3]; exact rng_put (o := 3) (vs := [.slice A2 r.d.body.length c2]) r2 t2 rfl (by show 3 + 1 ≤ 4; omega)
           have g3 : x2.grownBy x3 (some wr.heap.size) := by rw [hx3]; exact grown_cell _ _ _ _
           have b3 : Below wr.heap.size wr x3 := (b1.out.trans (b2.mono (by have := z1.out; omega))).grown g3 (by have := b2.size; have := z1.out; omega) (by intro k hk; injection hk with hk; omega)
           have lo2 := ho2.lo
           have ho3 : Owns x3 x1.heap.size 5 1 eByte A2 c2 r.d.body := ho2.kept g3 (.inr (by intro e; have := (lo2 _ e).1; have := z1.out; omega))
           have hlen3 := ho3.len
           have hfar3 : FarDr x3 B ⟨r.d, A2, c2⟩ := ⟨hlen3, FarRow.of_row (FRow.of_owns ho3 len_eByte) (fun k hk => by have := (ho.out.own.lo k hk).2; have := z1.out; omega)⟩
           have hwr3 : WrB x3 w.heap.size ⟨r.d, A2, c2⟩ := WrB.of (ho3.base (by have := z1.out; omega))
           have hown3 := (ho.out.own.keep b3 (fun k hk => (ho.out.own.lo k hk).2)).alloc (.cells (drA ⟨r.d, A2, c2⟩) 113)
           have hrow3 := row_new x3 113 4 eDr ⟨r.d, A2, c2⟩ (drA ⟨r.d, A2, c2⟩) rfl
           have z3 := b3.size
           have bw3 : Below w.heap.size w (x3.alloc (.cells (drA ⟨r.d, A2, c2⟩) 113)) := (hb.out.trans (b3.mono hzr)).alloc (by omega) _
           clear hg2 hk2 b2 r2 t2 g3 lo2 ho2
           replace hx3 := Lib.hid hx3
           replace r3 := Lib.hid r3
           replace b3 := Lib.hid b3
           replace ho3 := Lib.hid ho3
           replace hfar3 := Lib.hid hfar3
           replace hwr3 := Lib.hid hwr3
           replace hown3 := Lib.hid hown3
           replace hrow3 := Lib.hid hrow3
           replace bw3 := Lib.hid bw3
           replace hlen3 := Lib.hid hlen3)
        | (rw [← hx3.out]
           refine wpList_loadR rfl 113 (.tmp 5) rfl wr.heap.size 0 (by rfl) _ (by exact load113 r3.out) ?_)
        | (refine wpList_append_rows _ rfl (.tmp 19) (.tmp 21) 40 rfl w.heap.size 113 4 48 (.agg #[.int .i64 0, .int .i64 0, .int .i64 0, .slice none 0 0]) Try.underlying40 info113 (by rfl) (by omega) eDr len_eDr one_eDr B c rs (some ⟨x3.heap.size, 0, none⟩) 1 (x3.heap.size + 1) q 1 [⟨r.d, A2, c2⟩] (by rfl) (by rfl) hrl.out rfl hown3.out hrow3.out (by omega) (by omega) (by rw [World.size_alloc]; omega) ?_
           intro B4 c4 x4 ho4 hg4 hk4
           have b4 : Below w.heap.size w x4 := bw3.out.grown hg4 (by rw [World.size_alloc]; omega) (fun k hk => (ho.out.own.lo k hk).1)
           have hms := ho.out.push b3.out hfar3.out hwr3.out (.cells (drA ⟨r.d, A2, c2⟩) 113) ho4 hg4 hk4
           replace hms := Lib.hid hms
           replace b4 := Lib.hid b4
           clear ho4 hg4 hk4)
        | fail)
      go_roundw
      case rel => go_light; exact ⟨q + 1, B4, c4, rs ++ [⟨r.d, A2, c2⟩], by go_num, by omega, rfl, by rw [List.length_append, hrl.out]; rfl, by show List.map _ _ = _; rw [List.map_append, hrs.out, List.take_add_one, List.getElem?_map, hr.out]; rfl, hms.out, b4.out⟩
      case measure => go_light; simp [intOf]; omega
    · obtain rfl : q = ms.length := by omega
      have hfin : rs.map Dr.d = s.msgs := by rw [hrs.out, hmm.out, hml.out, List.take_length]
      replace hfin := Lib.hid hfin
      go_wp2
      go_ret
      exact ⟨B, c, rs, rfl, hfin.out, ho.out, hb.out⟩
end Go.Proofs.Ytcffhfcjfjfokaa
namespace Go.Proofs.Ytcffhfcjfjfokaa
open Go.RowKit
set_option maxRecDepth 100000 in
set_option maxHeartbeats 2000000 in
theorem rmessages_any {w : World} {F : List Nat} {b g : Nat} {s : Sto} {ks : List KpX} {Mp : Option Addr} {cM : Nat} {ms : List Dr} (h : StV w F b g 1 2 s ks Mp cM ms) :
    Calls Try.prog 79 #[.pointer (some ⟨b, 0, none⟩)] w (MePost w s.msgs) := by
  have hL : (loadVar 40 ⟨b, 6, none⟩).run Try.prog w = .ok (.slice Mp ms.length cM) w := load40 h.cm
  have hlen := h.lenM
  have hbw : b < w.heap.size := h.hi b h.bF
  have hcm := h.cm
  have hml : ms.length = s.msgs.length := by rw [← h.mm, List.length_map]
  have hx : ∀ W, Below w.heap.size w W → RowAt W w.heap.size 4 eDr Mp ms ∧ ∀ r ∈ ms, RowAt W w.heap.size 1 eByte r.B r.d.body := fun W hW => ⟨h.mrow.row.below hW (Nat.le_refl _), fun r hr => (h.mS r hr).row.row.below hW (Nat.le_refl _)⟩
  have hcap : ∀ r ∈ ms, r.d.body.length ≤ 256 := fun r hr => by
    have := h.inv.each r.d (by rw [← h.mm]; exact List.mem_map.2 ⟨r, hr, rfl⟩)
    unfold dtB at this; simp at this; omega
  have hmm := h.mm
  clear hL
  replace hcm := Lib.hid hcm
  replace hbw := Lib.hid hbw
  replace hx := Lib.hid hx
  replace hcap := Lib.hid hcap
  replace hmm := Lib.hid hmm
  replace h := Lib.hid h
  unfold MePost
  rw [← hml]
  replace hml := Lib.hid hml
  go_enter Try.func79, Try.ntmps79
  go_wp2_with fail
  go_loopw [3, 4] (fun v k wr => ∃ (q : Nat) (B : Option Addr) (c : Nat) (rs : List Dr), k = .int .i64 q ∧ q ≤ ms.length ∧ v = .slice B q c ∧ rs.length = q ∧ Hid (rs.map Dr.d = (ms.map Dr.d).take q) ∧ OwnMs wr w.heap.size B c rs ∧ Below w.heap.size w wr) (fun _ k _ => ms.length - (intOf k).toNat)
  case atStart => exact ⟨0, none, 0, [], rfl, by omega, rfl, rfl, by show List.map _ _ = _; simp, ownMs_nil _ _, Below.refl _ _⟩
  case round =>
    obtain ⟨q, B, c, rs, rfl, hq, rfl, hrl, hrs, ho, hb⟩ := hrel
    have hzr := hb.size
    have hLr : (loadVar 40 ⟨b, 6, none⟩).run Try.prog wr = .ok (.slice Mp ms.length cM) wr := load40 ((hb.cell (p := ⟨b, 6, none⟩) hbw.out).trans hcm.out)
    replace hLr := Lib.hid hLr
    replace hrl := Lib.hid hrl
    replace ho := Lib.hid ho
    replace hb := Lib.hid hb
    by_cases hlt : q < ms.length
    · obtain ⟨hrow, hbod⟩ := hx.out _ hb.out
      obtain ⟨g1, o1, hMe, hg1, hc1⟩ := hrow (by omega)
      have hr : ms[q]? = some ms[q] := List.getElem?_eq_getElem hlt
      obtain ⟨r, hre⟩ : ∃ r, r = ms[q] := ⟨_, rfl⟩
      rw [← hre] at hr
      have hrm : r ∈ ms := by rw [hre]; exact List.getElem_mem hlt
      have hrr : wr.rangeAt g1 (o1 + q * 4) (eDr r) := fun j u hu => hc1 q r hr j u hu
      have hB := hbod r hrm
      have hb256 := hcap.out r hrm
      obtain ⟨x1, hx1⟩ : ∃ x1, x1 = wr.alloc (.cells (drA r) 113) := ⟨_, rfl⟩
      have b1 : Below wr.heap.size wr x1 := by rw [hx1]; exact below_box1 _ _ _
      have r1 : x1.rangeAt wr.heap.size 0 (eDr r) := by rw [hx1]; exact range_new wr (drA r) 113
      have t1 : x1.there wr.heap.size 0 4 := by rw [hx1]; exact there_new wr (drA r) 113
      have z1 : x1.heap.size = wr.heap.size + 1 := by rw [hx1]; simp
      have L16 : (loadVar 52 ⟨wr.heap.size, 3, none⟩).run Try.prog x1 = .ok (.slice r.B r.d.body.length r.c) x1 := load52 (r1 3 _ rfl)
      have hB1 := hB.below b1 hzr
      have hq0 : (0 : Int) ≤ (q : Int) := by omega
      have hq1 : (q : Int) < (ms.length : Int) := by omega
      subst hMe
      replace hr := Lib.hid hr
      replace hre := Lib.hid hre
      replace hrm := Lib.hid hrm
      replace hrr := Lib.hid hrr
      replace hB1 := Lib.hid hB1
      replace hx1 := Lib.hid hx1
      replace b1 := Lib.hid b1
      replace r1 := Lib.hid r1
      replace t1 := Lib.hid t1
      replace z1 := Lib.hid z1
      replace L16 := Lib.hid L16
      clear hrow hbod hc1 hB
      go_wp2_with (first
        | (refine wpList_loadR rfl 40 (.tmp 10) rfl b 6 (by rfl) _ (by exact hLr.out) ?_)
        | (refine wpList_loadR rfl 40 (.tmp 18) rfl b 6 (by rfl) _ (by exact hLr.out) ?_)
        | (refine wpList_loadR rfl 113 (.tmp 21) rfl g1 (o1 + q * 4) (by rfl) _ (by exact load113 hrr.out) ?_)
        | (rw [← hx1.out]
           refine wpList_loadR rfl 52 (.tmp 24) rfl wr.heap.size 3 (by rfl) _ (by exact L16.out) ?_)
        | (refine wpList_append_rows _ rfl (.tmp 23) (.tmp 25) 52 rfl x1.heap.size 5 1 1 (.int .u8 0) Try.underlying52 info5 (by rfl) (by omega) eByte len_eByte one_eByte none 0 [] r.B r.c w.heap.size 0 r.d.body.length r.d.body (by rfl) (by rfl) rfl rfl (owns_nil _ _ _ _ _) hB1.out (by omega) (by omega) (Nat.le_refl _) ?_
           intro A2 c2 x2 ho2 hg2 hk2
           rw [Nat.zero_add]
           rw [List.nil_append] at ho2
           have b2 : Below x1.heap.size x1 x2 := (Below.refl _ _).grown hg2 (Nat.le_refl _) (fun k hk => by cases hk)
           have r2 := range_same r1.out (b2.block wr.heap.size (by have := z1.out; omega))
           have t2 := there_same t1.out (b2.block wr.heap.size (by have := z1.out; omega))
           have k3 : x2.cell? ⟨wr.heap.size, 3, none⟩ = some (.slice r.B r.d.body.length r.c) := r2 3 _ rfl
           have f3 : x2.frozen? ⟨wr.heap.size, 3, none⟩ = false := there_frozen (k := 3) t2 (by omega)
           obtain ⟨x3, hx3⟩ : ∃ x3, x3 = x2.setCell ⟨wr.heap.size, 3, none⟩ (.slice A2 r.d.body.length c2) := ⟨_, rfl⟩
           have r3 : x3.rangeAt wr.heap.size 0 (eDr ⟨r.d, A2, c2⟩) := by rw [hx3]; exact rng_put (o := 3) (vs := [.slice A2 r.d.body.length c2]) r2 t2 rfl (by show 3 + 1 ≤ 4; omega)
           have g3 : x2.grownBy x3 (some wr.heap.size) := by rw [hx3]; exact grown_cell _ _ _ _
           have b3 : Below wr.heap.size wr x3 := (b1.out.trans (b2.mono (by have := z1.out; omega))).grown g3 (by have := b2.size; have := z1.out; omega) (by intro k hk; injection hk with hk; omega)
           have lo2 := ho2.lo
           have ho3 : Owns x3 x1.heap.size 5 1 eByte A2 c2 r.d.body := ho2.kept g3 (.inr (by intro e; have := (lo2 _ e).1; have := z1.out; omega))
           have hlen3 := ho3.len
           have hfar3 : FarDr x3 B ⟨r.d, A2, c2⟩ := ⟨hlen3, FarRow.of_row (FRow.of_owns ho3 len_eByte) (fun k hk => by have := (ho.out.own.lo k hk).2; have := z1.out; omega)⟩
           have hwr3 : WrB x3 w.heap.size ⟨r.d, A2, c2⟩ := WrB.of (ho3.base (by have := z1.out; omega))
           have hown3 := (ho.out.own.keep b3 (fun k hk => (ho.out.own.lo k hk).2)).alloc (.cells (drA ⟨r.d, A2, c2⟩) 113)
           have hrow3 := row_new x3 113 4 eDr ⟨r.d, A2, c2⟩ (drA ⟨r.d, A2, c2⟩) rfl
           have z3 := b3.size
           have bw3 : Below w.heap.size w (x3.alloc (.cells (drA ⟨r.d, A2, c2⟩) 113)) := (hb.out.trans (b3.mono hzr)).alloc (by omega) _
           clear hg2 hk2 b2 r2 t2 g3 lo2 ho2
           replace hx3 := Lib.hid hx3
           replace r3 := Lib.hid r3
           replace b3 := Lib.hid b3
           replace ho3 := Lib.hid ho3
           replace hfar3 := Lib.hid hfar3
           replace hwr3 := Lib.hid hwr3
           replace hown3 := Lib.hid hown3
           replace hrow3 := Lib.hid hrow3
           replace bw3 := Lib.hid bw3
           replace hlen3 := Lib.hid hlen3)
        | (rw [← hx3.out]
           refine wpList_loadR rfl 113 (.tmp 5) rfl wr.heap.size 0 (by rfl) _ (by exact load113 r3.out) ?_)
        | (refine wpList_append_rows _ rfl (.tmp 29) (.tmp 31) 40 rfl w.heap.size 113 4 48 (.agg #[.int .i64 0, .int .i64 0, .int .i64 0, .slice none 0 0]) Try.underlying40 info113 (by rfl) (by omega) eDr len_eDr one_eDr B c rs (some ⟨x3.heap.size, 0, none⟩) 1 (x3.heap.size + 1) q 1 [⟨r.d, A2, c2⟩] (by rfl) (by rfl) hrl.out rfl hown3.out hrow3.out (by omega) (by omega) (by rw [World.size_alloc]; omega) ?_
           intro B4 c4 x4 ho4 hg4 hk4
           have b4 : Below w.heap.size w x4 := bw3.out.grown hg4 (by rw [World.size_alloc]; omega) (fun k hk => (ho.out.own.lo k hk).1)
           have hms := ho.out.push b3.out hfar3.out hwr3.out (.cells (drA ⟨r.d, A2, c2⟩) 113) ho4 hg4 hk4
           replace hms := Lib.hid hms
           replace b4 := Lib.hid b4
           clear ho4 hg4 hk4)
        | fail)
      go_roundw
      case rel => go_light; exact ⟨q + 1, B4, c4, rs ++ [⟨r.d, A2, c2⟩], by go_num, by omega, rfl, by rw [List.length_append, hrl.out]; rfl, by show List.map _ _ = _; rw [List.map_append, hrs.out, List.take_add_one, List.getElem?_map, hr.out]; rfl, hms.out, b4.out⟩
      case measure => go_light; simp [intOf]; omega
    · obtain rfl : q = ms.length := by omega
      have hfin : rs.map Dr.d = s.msgs := by rw [hrs.out, hmm.out, hml.out, List.take_length]
      replace hfin := Lib.hid hfin
      go_wp2_with (first
        | (refine wpList_loadR rfl 40 (.tmp 10) rfl b 6 (by rfl) _ (by exact hLr.out) ?_)
        | fail)
      go_ret
      exact ⟨B, c, rs, rfl, hfin.out, ho.out, hb.out⟩
end Go.Proofs.Ytcffhfcjfjfokaa
