/- FlushRest's walk: its first half. -/
import Derived.Test.YtcffhfcjfjfokaaRrest
import Derived.Test.YtcffhfcjfjfokaaSameMsg
import Derived.Test.YtcffhfcjfjfokaaCaser
import Derived.Test.YtcffhfcjfjfokaaAllunt
import Derived.Test.YtcffhfcjfjfokaaBodies
import Derived.Test.YtcffhfcjfjfokaaLackWalk
namespace Go.Proofs.Ytcffhfcjfjfokaa
open Go.RowKit
abbrev caseM (A M : Option Addr) (k cA nm cM : Nat) (done : Int) (u1 u2 u3 u4 u5 u6 u7 u9 u10 u11 : Value) : Array Value := #[.slice A k cA, u1, u2, u3, u4, u5, u6, u7, .int .i64 done, u9, u10, u11, .slice M nm cM]
theorem caseM_cells {w : World} {b : Nat} {done : Int} {A M : Option Addr} {k nm cA cM : Nat} {u1 u2 u3 u4 u5 u6 u7 u9 u10 u11 : Value} (h : ∀ j, w.cell? ⟨b, j, none⟩ = (caseM A M k cA nm cM done u1 u2 u3 u4 u5 u6 u7 u9 u10 u11)[j]?) :
    w.cell? ⟨b, 0, none⟩ = some (.slice A k cA) ∧ w.cell? ⟨b, 8, none⟩ = some (.int .i64 done) ∧ w.cell? ⟨b, 12, none⟩ = some (.slice M nm cM) := ⟨h 0, h 8, h 12⟩
theorem MsOwn.dts {w : World} {base : Nat} {B : Option Addr} {c : Nat} {rs : List Dr} (h : MsOwn w base B c rs) : Dts w w.heap.size B (rs.map Dr.d) :=
  ⟨rs, rfl, h.row.row len_eDr, fun r hr => ⟨(h.each r hr).row len_eByte, (h.each r hr).len.1, (h.each r hr).len.2⟩⟩
theorem MsOwn.keep {w w' : World} {base : Nat} {B : Option Addr} {c : Nat} {rs : List Dr} (h : MsOwn w base B c rs) (hb : Below w.heap.size w w') : MsOwn w' base B c rs :=
  ⟨h.row.keep hb (fun k hk => (h.row.lo k hk).2), fun r hr => (h.each r hr).keep hb (fun k hk => ((h.each r hr).lo k hk).2), h.sep⟩
set_option maxRecDepth 100000 in
set_option maxHeartbeats 4000000 in
theorem flushRest_walk (A M : Option Addr) (cA cM N : Nat) (fs : List Fl) (ds : List Dt) (done : Int) (u1 u2 u3 u4 u5 u6 u7 u9 u10 u11 : Value) (w : World) (hN : N ≤ w.heap.size) (hA : Fls w N A fs) (hsm : Small fs) (hM : Dts w N M ds) (hsd : SmallD ds) (hkd : KeyD ds) :
    Calls Try.prog 4 #[.agg (caseM A M fs.length cA ds.length cM done u1 u2 u3 u4 u5 u6 u7 u9 u10 u11)] w fun x w' => x = .returned (.bool true) ∧ Below w.heap.size w w' := by
  have hl : fs.length ≤ 9223372036854775807 := by have := hsm.1; omega
  have hld : ds.length ≤ 9223372036854775807 := by have := hsd.1; omega
  replace hsm := Lib.hid hsm
  replace hsd := Lib.hid hsd
  replace hkd := Lib.hid hkd
  have hbx := below_box1 w (caseM A M fs.length cA ds.length cM done u1 u2 u3 u4 u5 u6 u7 u9 u10 u11) 42
  go_enter Try.func4, Try.ntmps4
  go_wp2_with (first
    | (go_at_call 13; refine (twins_any A cA N fs _ (by simp only [World.size_alloc]; omega) (hA.below hbx hN) hsm.out).mono ?_; rintro e w1 ⟨ts, T, cT, I, cI, rfl, hts, hrel⟩; have hb1 := hrel.bel; rw [World.size_alloc] at hb1; obtain ⟨hb01, hc1, -, hz1⟩ := box1_facts hb1; obtain ⟨k0, k8, k12⟩ := caseM_cells hc1; clear hc1; have hmem := twMem_of hrel; clear hrel; have hz1' := hb01.size)
    | (go_at_call 18; refine (datas_any M cM N ds w1 (by omega) (hM.below hb01 hN) hsd.out).mono ?_; rintro e w2 ⟨⟨D, cD, rfl, hD⟩, hbw2⟩; have hz2 := hbw2.size; have hb2 := hb1.trans (hbw2.mono (by omega)); obtain ⟨hb02, hc2, -, hz2'⟩ := box1_facts hb2; obtain ⟨k0, k8, k12⟩ := caseM_cells hc2; clear hc2; have hm2 := (hmem.below hbw2 (Nat.le_refl _)).more' hz2; have hI2 := hm2.fls; rw [hts] at hI2)
    | (go_at_call 19; refine (rest_any done I D cI cD w2.heap.size fs ds w2 (Nat.le_refl _) hI2 hD hl hsd.out hkd.out).mono ?_; rintro e w4 ⟨⟨B, cB, rs, n, rfl, hRI, hown⟩, hbw4⟩; have hz4 := hbw4.size; have hb4 := hb2.trans (hbw4.mono (by omega)); obtain ⟨hb04, hc4, -, hz4'⟩ := box1_facts hb4; obtain ⟨k0, k8, k12⟩ := caseM_cells hc4; clear hc4; replace hRI := Lib.hid hRI; replace hown := Lib.hid hown)
    | (go_at_call 20; refine (rrest_any done A M cA cM N fs ds w4 (by omega) (hA.below hb04 hN) (hM.below hb04 hN) hl hsd.out).mono ?_; rintro e w5 ⟨⟨B', cB', rs', n', rfl, hRI', hown'⟩, hbw5⟩; have hz5 := hbw5.size; have hb5 := hb4.trans (hbw5.mono (by omega)); obtain ⟨hb05, hc5, -, hz5'⟩ := box1_facts hb5; obtain ⟨k0, k8, k12⟩ := caseM_cells hc5; clear hc5; obtain ⟨hrr, rfl⟩ := rest_one hRI.out hRI'; have hrl : rs'.length = rs.length := (by have := congrArg List.length hrr; simpa using this.symm); rw [hrl]; clear hRI'; have ho5 := hown.out.keep hbw5; have h21 := sameMsgs_yes B B' cB cB' w5.heap.size (rs.map Dr.d) w5 (Nat.le_refl _) ho5.dts (by rw [hrr]; exact hown'.dts) (by rw [List.length_map]; have := ho5.row.len; omega); rw [List.length_map] at h21; replace h21 := Lib.hid h21; replace hrl := Lib.hid hrl; replace hrr := Lib.hid hrr; replace hown' := Lib.hid hown'; replace ho5 := Lib.hid ho5)
    | (go_at_call 16; refine (num_any _ _).mono ?_; rintro e w6 ⟨rfl, rfl⟩)
    | (go_at_call 21; refine h21.out.mono ?_; rintro e w6 ⟨rfl, hbw6⟩; have hz6 := hbw6.size; have hb6 := hb5.trans (hbw6.mono (by omega)); obtain ⟨hb06, hc6, -, hz6'⟩ := box1_facts hb6; obtain ⟨k0, k8, k12⟩ := caseM_cells hc6; clear hc6; have hb26 : Below w2.heap.size w2 w6 := (hbw4.trans (hbw5.mono (by omega))).trans (hbw6.mono (by omega)))
    | (go_at_call 22; refine (sameDatas_yes D M cD cM w2.heap.size ds w6 (by omega) (hD.below hb26 (Nat.le_refl _)) ((hM.below hb06 hN).more (by omega)) hld).mono ?_; rintro e w7 ⟨rfl, hbw7⟩; have hz7 := hbw7.size; have hb7 := hb6.trans (hbw7.mono (by omega)); obtain ⟨hb07, hc7, -, hz7'⟩ := box1_facts hb7; obtain ⟨k0, k8, k12⟩ := caseM_cells hc7; clear hc7; have hb27 : Below w2.heap.size w2 w7 := hb26.trans (hbw7.mono (by omega)))
    | (go_at_call 17; refine (allunt_any T I A cT cI cA w2.heap.size fs ts w7 (by omega) (hm2.below hb27 (Nat.le_refl _)) hts ((hA.below hb07 hN).more (by omega)) hl).mono ?_; rintro e w8 ⟨rfl, hbw8⟩; have hz8 := hbw8.size; have hb28 : Below w2.heap.size w2 w8 := hb27.trans (hbw8.mono (by omega)); have hb8 := hb7.trans (hbw8.mono (by omega)))
    | fail)
  have ho8 := ((ho5.out.keep hbw6).keep hbw7).keep hbw8
  have hb08 := (box1_facts hb8).1
  have hrl4 : rs.length ≤ 4096 := by have := restIs_len hRI.out; simpa using this
  have hbodies : ∀ r ∈ rs, r.d.body.length * 1 ≤ 100000000 := fun r hr => by
    obtain ⟨d, hd, e⟩ := restIs_body hRI.out r.d (List.mem_map.2 ⟨r, hr, rfl⟩)
    have := hsd.out.2 d hd
    rw [e]; omega
  clear k0 k8 k12 hRI hown hown' hrl hrr h21 ho5 hmem hm2 hI2
  have hsep := Lib.hid ho8.sep
  have hlow := Lib.hid (fun (a : Dr) (ha : a ∈ rs) (k : Nat) (hk : blk a.B = some k) => ((ho8.each a ha).lo k hk).2)
  have hbl8 := Lib.hid (fun (a : Dr) (ha : a ∈ rs) => (ho8.each a ha).len)
  have hrow8 := ho8.row
  have hrl8 := hrow8.len
  have hT8 : RI w8 w2.heap.size w8.heap.size rs 0 [] := ⟨rfl, fun k r hk => by omega, fun k r _ hr => ho8.each r (List.mem_of_getElem? hr)⟩
  have hbz : ∀ r ∈ rs, r.d.body.length * 1 ≤ 100000000 := hbodies
  replace hbz := Lib.hid hbz
  clear ho8
  go_loopw [10, 11] (fun a k wr => ∃ (i : Nat) (O : Option Addr) (cO : Nat) (ms : List Sl), k = .int .i64 i ∧ a = .slice O i cO ∧ i ≤ rs.length ∧ RI wr w2.heap.size w8.heap.size rs i ms ∧ Owns wr w2.heap.size 52 1 eSl O cO ms ∧ Owns wr w2.heap.size 54 4 eDr B cB rs ∧ Below w2.heap.size w2 wr ∧ w8.heap.size ≤ wr.heap.size) (fun _ k _ => rs.length - (intOf k).toNat)
  case atStart => exact ⟨0, none, 0, [], rfl, rfl, by omega, hT8, owns_nil _ _ _ _ _, hrow8, hb28, Nat.le_refl _⟩
  case round =>
    obtain ⟨i, O, cO, ms, rfl, rfl, hi, hRI, hOm, hrow, hb, hsz⟩ := hrel
    by_cases hlt : i < rs.length
    · obtain ⟨⟨d, RB, rc⟩, hr⟩ : ∃ r, rs[i]? = some r := ⟨_, List.getElem?_eq_getElem hlt⟩
      have hrm := List.mem_of_getElem? hr
      have hn := hbz.out _ hrm
      simp only at hn
      obtain ⟨gB, oB, hBe, hgB, hcB⟩ := hrow.row len_eDr (by omega)
      have hcell := hcB i _ hr 3 _ rfl
      simp only at hcell
      have hbody := hRI.todo i _ (Nat.le_refl _) hr
      simp only at hbody
      have hne1 := hrow.ne hbody (by decide)
      subst hBe
      have hneB : some gB ≠ blk RB := by
        rcases hne1 with h | h
        · cases h
        · exact h
      obtain ⟨wa, hwa⟩ : ∃ wa : World, wa = wr := ⟨_, rfl⟩
      subst hwa
      have hlen := Lib.hid hRI.len
      replace hr := Lib.hid hr
      replace hRI := Lib.hid hRI
      replace hOm := Lib.hid hOm
      replace hrow := Lib.hid hrow
      have hbody0 := Lib.hid hbody
      clear hcB hne1 hrm
      go_wp2
      go_loopw [12] (fun k wr => ∃ (j : Nat) (bd : List Int), k = .int .i64 j ∧ j ≤ d.body.length ∧ bd.length = d.body.length ∧ upto (fun x => x = by8 i) bd j ∧ Owns wr w2.heap.size 5 1 eByte RB rc bd ∧ wa.grownBy wr (blk RB)) (fun k _ => d.body.length - (intOf k).toNat)
      case atStart => exact ⟨0, d.body, rfl, by omega, rfl, upto_zero _ _, hbody, World.grownBy.refl _ _⟩
      case round =>
        obtain ⟨j, bd, rfl, hj, hbdl, hup, hO5, hg1⟩ := hrel
        have hcr := (hg1.cell_far ⟨gB, oB + i * 4 + 3, none⟩ hgB hneB).trans hcell
        have hs1 := hg1.size
        have hup' := Lib.hid hup
        clear hup
        by_cases hjn : j < d.body.length
        · obtain ⟨gb, cb, hv, _, hgb⟩ := World.ownsRow.form hO5 (by omega)
          obtain ⟨rfl, rfl⟩ : RB = some ⟨gb, 0, none⟩ ∧ rc = cb := by injection hv with h1 _ h2; exact ⟨h1, h2⟩
          clear hv
          have hcj := World.ownsRow.cellAt hO5 j (by omega)
          rw [flat_bytes, List.getElem?_map] at hcj
          obtain ⟨u, hu⟩ : ∃ u, bd[j]? = some u := ⟨_, List.getElem?_eq_getElem (by omega)⟩
          rw [hu] at hcj
          simp only [Option.map_some] at hcj
          have hfj := World.ownsRow.frozenAt hO5 j
          have hO6 := Lib.hid (hO5.set1 (k := j) (by8 i))
          have hg6 := Lib.hid (hg1.trans (grown_set wr gb j (.int .u8 (by8 i))))
          clear hO5 hg1
          go_wp2
          exact ⟨⟨j + 1, bd.set j (by8 i), by go_num, by omega, by rw [List.length_set]; exact hbdl, upto_set hup'.out, hO6.out, hg6.out⟩, by simp [intOf]; omega⟩
        · obtain rfl : j = d.body.length := by omega
          obtain rfl : bd = List.replicate d.body.length (by8 i) := upto_rep hup'.out hbdl
          have hOm1 := Lib.hid (hOm.out.kept hg1 (hOm.out.ne hbody0.out (by decide)))
          have hrow1 := Lib.hid (hrow.out.kept hg1 (hrow.out.ne hbody0.out (by decide)))
          obtain ⟨wb, hwb⟩ : ∃ wb : World, wb = wr := ⟨_, rfl⟩
          subst hwb
          have hO5' := Lib.hid hO5
          have hg1' := Lib.hid hg1
          have hlo5 := hO5.lo
          have hll5 := hO5.len
          clear hO5 hg1 hup'
          go_wp2_with (at_builtin; refine wpList_append_keep _ rfl (.tmp 97) (.tmp 101) 52 rfl w2.heap.size 5 1 1 _ Try.underlying52 info5 rfl (by decide) eByte len_eByte one_eByte RB rc (List.replicate d.body.length (by8 i)) wb.heap.size 1 d.body.length (by8 (100 + i)) rfl rfl hbdl (hO5'.out.alloc _) ?_ (by omega) (by omega) (by simp; omega) ?_)
          · intro j u hu
            rw [World.cell?_alloc_at _ _ _ _ rfl]
            cases j with
            | zero => simpa [eByte, by8] using hu
            | succ j => simp [eByte] at hu
          · intro A' c' wc hnew hold hg2 hk
            have hs2 := hg2.size
            simp only [World.size_alloc] at hs2
            have hr' := hr.out
            have hRI' := hRI.out
            have hOm2 := Lib.hid ((hOm1.out.alloc (.cells #[.int .u8 ((100 + (i : Int)) % 256)] 5)).kept hg2 (hOm1.out.ne hO5'.out (by decide)))
            have hrow2 := Lib.hid ((hrow1.out.alloc (.cells #[.int .u8 ((100 + (i : Int)) % 256)] 5)).kept hg2 (hrow1.out.ne hO5'.out (by decide)))
            have hloO := hOm2.out.lo
            have hlowR : ∀ k, blk RB = some k → w2.heap.size ≤ k := fun k hk => (hlo5 k hk).1
            replace hk : blk A' = blk RB ∨ blk A' = some (wb.alloc (.cells #[.int .u8 ((100 + (i : Int)) % 256)] 5)).heap.size := by simpa using hk
            have hbc : Below w2.heap.size w2 wc := ((hb.grown hg1'.out (by omega) (fun k hk => hlowR k hk)).alloc (by omega) _).grown hg2 (by simp only [World.size_alloc]; omega) (fun k hk => hlowR k hk)
            replace hnew := Lib.hid hnew
            replace hold := Lib.hid hold
            replace hg2 := Lib.hid hg2
            replace hk := Lib.hid hk
            clear hcell hcr hneB
            go_wp2_with (at_builtin; refine wpList_append_rows _ rfl (.tmp 92) (.tmp 103) 51 rfl w2.heap.size 52 1 24 _ Try.underlying51 info52 rfl (by decide) eSl len_eSl one_eSl O cO ms (some ⟨wc.heap.size, 0, none⟩) 1 (wc.heap.size + 1) i 1 [⟨A', d.body.length + 1, c'⟩] rfl rfl hlen.out rfl (hOm2.out.alloc _) (row_new _ _ _ _ _ _ rfl) (by omega) (by omega) (by simp only [World.size_alloc]; omega) ?_)
            intro O9 cO9 wd hO9 hg3 hk3
            have hN9 := RI.next (o' := .cells #[.slice A' (d.body.length + 1) c'] 52) hRI' hsep.out hr' hlow.out hsz hg1'.out hg2.out hold.out hnew.out hk.out hOm2.out hg3
            have hrow9 := (hrow2.out.alloc (.cells #[.slice A' (d.body.length + 1) c'] 52)).kept hg3 (hrow2.out.ne hOm2.out (by decide))
            have hb9 : Below w2.heap.size w2 wd := (hbc.alloc (by omega) _).grown hg3 (by simp only [World.size_alloc]; omega) (fun k hk => (hloO k hk).1)
            have hs3 := hg3.size
            simp only [World.size_alloc] at hs3
            replace hN9 := Lib.hid hN9
            replace hrow9 := Lib.hid hrow9
            replace hO9 := Lib.hid hO9
            clear hg3 hk3 hr' hRI'
            go_wp2
            go_roundw
            case rel => go_light; exact ⟨i + 1, O9, cO9, ms ++ [⟨A', d.body.length + 1, c'⟩], by go_num, rfl, by omega, hN9.out, hO9.out, hrow9.out, hb9, by omega⟩
            case measure => go_light; simp [intOf]; omega
    · obtain rfl : i = rs.length := by omega
      obtain ⟨wz, hwz⟩ : ∃ wz : World, wz = wr := ⟨_, rfl⟩
      subst hwz
      have hszz := hb.size
      have hRI' := Lib.hid hRI
      have hOmr := Lib.hid (hOm.row len_eSl)
      have hrowr := Lib.hid (hrow.row len_eDr)
      have hlO := hOm.len
      clear hRI hOm hrow
      go_wp2
      go_loopw [13] (fun k wr => ∃ i : Nat, k = .int .i64 i ∧ i ≤ rs.length ∧ Below wz.heap.size wz wr) (fun k _ => rs.length - (intOf k).toNat)
      case atStart => exact ⟨0, rfl, by omega, Below.refl _ _⟩
      case round =>
        obtain ⟨i, rfl, hi, hbz1⟩ := hrel
        have hsz1 := hbz1.size
        by_cases hlt : i < rs.length
        · obtain ⟨⟨d, RB, rc⟩, hr⟩ : ∃ r, rs[i]? = some r := ⟨_, List.getElem?_eq_getElem hlt⟩
          have hn := hbz.out _ (List.mem_of_getElem? hr)
          obtain ⟨A', c', hms, h2, h3, -⟩ := hRI'.out.done i _ hlt hr
          simp only at hn hms h2 h3
          have hlm := hRI'.out.len
          have hl2 := h2.len
          have hl3 := h3.len
          simp only [List.length_append, List.length_replicate, List.length_cons, List.length_nil] at hl2 hl3
          obtain ⟨gB, oB, hBe, hgB, hcB⟩ := hrowr.out (by omega)
          have q1 : ∀ W : World, Below wz.heap.size wz W → W.cell? ⟨gB, oB + i * 4 + 3, none⟩ = some (.slice RB d.body.length rc) := fun W h => (h.cell (p := ⟨gB, _, none⟩) (by show gB < _; omega)).trans (hcB i _ hr 3 _ rfl)
          obtain ⟨gO, oO, hOe, hgO, hcO⟩ := hOmr.out (by omega)
          have q2 : ∀ W : World, Below wz.heap.size wz W → W.cell? ⟨gO, oO + i, none⟩ = some (.slice A' (d.body.length + 1) c') := fun W h => by
            have := (h.cell (p := ⟨gO, oO + i * 1 + 0, none⟩) (by show gO < _; omega)).trans (hcO i _ hms 0 _ rfl)
            simpa using this
          obtain ⟨gm, om, hme, hgm, hcm⟩ := (h3.row len_eByte) (by simp)
          have q3 : ∀ (W : World) (j : Nat), Below wz.heap.size wz W → j < d.body.length → W.cell? ⟨gm, om + j, none⟩ = some (.int .u8 ((i : Int) % 256)) := fun W j h hj => by
            have := (h.cell (p := ⟨gm, om + j * 1 + 0, none⟩) (by show gm < _; omega)).trans (hcm j (by8 i) (by rw [List.getElem?_append_left (by simpa using hj), List.getElem?_replicate, if_pos hj]) 0 _ rfl)
            simpa [by8] using this
          have q4 : ∀ W : World, Below wz.heap.size wz W → W.cell? ⟨gm, om + d.body.length, none⟩ = some (.int .u8 ((100 + (i : Int)) % 256)) := fun W h => by
            have := (h.cell (p := ⟨gm, om + d.body.length * 1 + 0, none⟩) (by show gm < _; omega)).trans (hcm d.body.length (by8 (100 + i)) (by rw [List.getElem?_append_right (by simp)]; simp) 0 _ rfl)
            simpa [by8] using this
          have q5 : ∀ (W : World) (j : Nat), Below wz.heap.size wz W → j < d.body.length → ∃ gb ob, RB = some ⟨gb, ob, none⟩ ∧ gb < wz.heap.size ∧ W.cell? ⟨gb, ob + j, none⟩ = some (.int .u8 ((i : Int) % 256)) := fun W j h hj => by
            obtain ⟨gb, ob, he, hgb, hcb⟩ := (h2.row len_eByte) (by simp; omega)
            have := (h.cell (p := ⟨gb, ob + j * 1 + 0, none⟩) (by show gb < _; omega)).trans (hcb j (by8 i) (by rw [List.getElem?_replicate, if_pos hj]) 0 _ rfl)
            exact ⟨gb, ob, he, hgb, by simpa [by8] using this⟩
          subst hBe hOe hme
          replace q1 := Lib.hid q1
          replace q2 := Lib.hid q2
          replace q3 := Lib.hid q3
          replace q4 := Lib.hid q4
          replace q5 := Lib.hid q5
          have hw100 : IntKind.i64.wrap (100 + (i : Int)) = 100 + i := IntWalk.i64_in _ (by omega)
          have him : (i : Int) < ms.length := by omega
          clear h2 h3 hcB hcO hcm hr hms
          go_wp2
          go_loopw [14] (fun k wr => ∃ j : Nat, k = .int .i64 j ∧ j ≤ d.body.length ∧ Below wz.heap.size wz wr) (fun k _ => d.body.length - (intOf k).toNat)
          case atStart => exact ⟨0, rfl, by omega, hbz1⟩
          case round =>
            obtain ⟨j, rfl, hj, hbz2⟩ := hrel
            have hsz2 := hbz2.size
            have p1 := q1.out _ hbz2
            have p2 := q2.out _ hbz2
            by_cases hjn : j < d.body.length
            · have p3 := q3.out _ j hbz2 hjn
              obtain ⟨gb, ob, hRe, hgb, p5⟩ := q5.out _ j hbz2 hjn
              subst hRe
              go_wp2
              go_roundw
              case rel => go_light; exact ⟨j + 1, by go_num, by omega, hbz2⟩
              case measure => go_light; simp [intOf]; omega
            · obtain rfl : j = d.body.length := by omega
              have p4 := q4.out _ hbz2
              have hnI : (d.body.length : Int) < d.body.length + 1 := by omega
              go_wp2
              go_quiet (fail)
              go_wp2
              go_roundw
              case rel => go_light; exact ⟨i + 1, by go_num, by omega, below_drewN hbz2 _⟩
              case measure => go_light; simp [intOf]; omega
        · have hb2r := hb.trans (hbz1.mono (by omega))
          have hbr8 := hb2.trans (hb2r.mono (by omega))
          obtain ⟨hb0r, hcr, -, hzr⟩ := box1_facts hbr8
          obtain ⟨k0, k8, k12⟩ := caseM_cells hcr
          clear hcr
          go_wp2_with (go_at_call 22; refine (sameDatas_yes D M cD cM w2.heap.size ds wr (by omega) (hD.below hb2r (Nat.le_refl _)) ((hM.below hb0r hN).more (by omega)) hld).mono ?_; rintro e w9 ⟨rfl, hbw9⟩)
          go_ret
          exact ⟨rfl, hb0r.trans (hbw9.mono (by omega))⟩
end Go.Proofs.Ytcffhfcjfjfokaa
