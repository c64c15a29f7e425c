/- RestWalk MixOpen AgreeWalk RowClose, joined. -/
import Derived.Test.YtcffhfcjfjfokaaRows
import Derived.WalkKit
import Derived.ProofKit
import Derived.OpenShut
import Derived.JoinedCond
import Derived.Below
import Derived.Carry
import Derived.ChangeSame
import Derived.Test.YtcffhfcjfjfokaaAg7
import Derived.Test.YtcffhfcjfjfokaaAg8
set_option linter.unusedVariables false
set_option linter.unusedSimpArgs false
/- FlushRest's walk: its first half. -/
namespace Go.Proofs.Ytcffhfcjfjfokaa
open Go.RowKit
abbrev caseM (A M : Option Addr) (k cA nm cM : Nat) (done : Int) (u1 u2 u3 u4 u5 u6 u7 u9 u10 u11 : Value) : Array Value := #[.slice A k cA, u1, u2, u3, u4, u5, u6, u7, .int .i64 done, u9, u10, u11, .slice M nm cM]
theorem caseM_cells {w : World} {b : Nat} {done : Int} {A M : Option Addr} {k nm cA cM : Nat} {u1 u2 u3 u4 u5 u6 u7 u9 u10 u11 : Value} (h : ∀ j, w.cell? ⟨b, j, none⟩ = (caseM A M k cA nm cM done u1 u2 u3 u4 u5 u6 u7 u9 u10 u11)[j]?) :
    w.cell? ⟨b, 0, none⟩ = some (.slice A k cA) ∧ w.cell? ⟨b, 8, none⟩ = some (.int .i64 done) ∧ w.cell? ⟨b, 12, none⟩ = some (.slice M nm cM) := ⟨h 0, h 8, h 12⟩
theorem MsOwn.dts {w : World} {base : Nat} {B : Option Addr} {c : Nat} {rs : List Dr} (h : MsOwn w base B c rs) : Dts w w.heap.size B (rs.map Dr.d) :=
  ⟨rs, rfl, h.row.row len_eDr, fun r hr => ⟨(h.each r hr).row len_eByte, (h.each r hr).len.1, (h.each r hr).len.2⟩⟩
theorem MsOwn.keep {w w' : World} {base : Nat} {B : Option Addr} {c : Nat} {rs : List Dr} (h : MsOwn w base B c rs) (hb : Below w.heap.size w w') : MsOwn w' base B c rs :=
  ⟨h.row.keep hb (fun k hk => (h.row.lo k hk).2), fun r hr => (h.each r hr).keep hb (fun k hk => ((h.each r hr).lo k hk).2), h.sep⟩
set_option maxRecDepth 100000 in
set_option maxHeartbeats 4000000 in
theorem flushRest_walk (A M : Option Addr) (cA cM N : Nat) (fs : List Fl) (ds : List Dt) (done : Int) (u1 u2 u3 u4 u5 u6 u7 u9 u10 u11 : Value) (w : World) (hN : N ≤ w.heap.size) (hA : Fls w N A fs) (hsm : Small fs) (hM : Dts w N M ds) (hsd : SmallD ds) (hkd : KeyD ds) :
    Calls Try.prog 4 #[.agg (caseM A M fs.length cA ds.length cM done u1 u2 u3 u4 u5 u6 u7 u9 u10 u11)] w fun x w' => x = .returned (.bool true) ∧ Below w.heap.size w w' := by
  have hl : fs.length ≤ 9223372036854775807 := by have := hsm.1; omega
  have hld : ds.length ≤ 9223372036854775807 := by have := hsd.1; omega
  replace hsm := Lib.hid hsm
  replace hsd := Lib.hid hsd
  replace hkd := Lib.hid hkd
  have hbx := below_box1 w (caseM A M fs.length cA ds.length cM done u1 u2 u3 u4 u5 u6 u7 u9 u10 u11) 42
  go_enter Try.func4, Try.ntmps4
  go_wp2_with (first
    | (go_at_call 13; refine (twins_any A cA N fs _ (by simp only [World.size_alloc]; omega) (hA.below hbx hN) hsm.out).mono ?_; rintro e w1 ⟨ts, T, cT, I, cI, rfl, hts, hrel⟩; have hb1 := hrel.bel; rw [World.size_alloc] at hb1; obtain ⟨hb01, hc1, -, hz1⟩ := box1_facts hb1; obtain ⟨k0, k8, k12⟩ := caseM_cells hc1; clear hc1; have hmem := twMem_of hrel; clear hrel; have hz1' := hb01.size)
    | (go_at_call 18; refine (datas_any M cM N ds w1 (by omega) (hM.below hb01 hN) hsd.out).mono ?_; rintro e w2 ⟨⟨D, cD, rfl, hD⟩, hbw2⟩; have hz2 := hbw2.size; have hb2 := hb1.trans (hbw2.mono (by omega)); obtain ⟨hb02, hc2, -, hz2'⟩ := box1_facts hb2; obtain ⟨k0, k8, k12⟩ := caseM_cells hc2; clear hc2; have hm2 := (hmem.below hbw2 (Nat.le_refl _)).more' hz2; have hI2 := hm2.fls; rw [hts] at hI2)
    | (go_at_call 19; refine (rest_any done I D cI cD w2.heap.size fs ds w2 (Nat.le_refl _) hI2 hD hl hsd.out hkd.out).mono ?_; rintro e w4 ⟨⟨B, cB, rs, n, rfl, hRI, hown⟩, hbw4⟩; have hz4 := hbw4.size; have hb4 := hb2.trans (hbw4.mono (by omega)); obtain ⟨hb04, hc4, -, hz4'⟩ := box1_facts hb4; obtain ⟨k0, k8, k12⟩ := caseM_cells hc4; clear hc4; replace hRI := Lib.hid hRI; replace hown := Lib.hid hown)
    | (go_at_call 20; refine (rrest_any done A M cA cM N fs ds w4 (by omega) (hA.below hb04 hN) (hM.below hb04 hN) hl hsd.out).mono ?_; rintro e w5 ⟨⟨B', cB', rs', n', rfl, hRI', hown'⟩, hbw5⟩; have hz5 := hbw5.size; have hb5 := hb4.trans (hbw5.mono (by omega)); obtain ⟨hb05, hc5, -, hz5'⟩ := box1_facts hb5; obtain ⟨k0, k8, k12⟩ := caseM_cells hc5; clear hc5; obtain ⟨hrr, rfl⟩ := rest_one hRI.out hRI'; have hrl : rs'.length = rs.length := (by have := congrArg List.length hrr; simpa using this.symm); rw [hrl]; clear hRI'; have ho5 := hown.out.keep hbw5; have h21 := sameMsgs_yes B B' cB cB' w5.heap.size (rs.map Dr.d) w5 (Nat.le_refl _) ho5.dts (by rw [hrr]; exact hown'.dts) (by rw [List.length_map]; have := ho5.row.len; omega); rw [List.length_map] at h21; replace h21 := Lib.hid h21; replace hrl := Lib.hid hrl; replace hrr := Lib.hid hrr; replace hown' := Lib.hid hown'; replace ho5 := Lib.hid ho5)
    | (go_at_call 16; refine (num_any _ _).mono ?_; rintro e w6 ⟨rfl, rfl⟩)
    | (go_at_call 21; refine h21.out.mono ?_; rintro e w6 ⟨rfl, hbw6⟩; have hz6 := hbw6.size; have hb6 := hb5.trans (hbw6.mono (by omega)); obtain ⟨hb06, hc6, -, hz6'⟩ := box1_facts hb6; obtain ⟨k0, k8, k12⟩ := caseM_cells hc6; clear hc6; have hb26 : Below w2.heap.size w2 w6 := (hbw4.trans (hbw5.mono (by omega))).trans (hbw6.mono (by omega)))
    | (go_at_call 22; refine (sameDatas_yes D M cD cM w2.heap.size ds w6 (by omega) (hD.below hb26 (Nat.le_refl _)) ((hM.below hb06 hN).more (by omega)) hld).mono ?_; rintro e w7 ⟨rfl, hbw7⟩; have hz7 := hbw7.size; have hb7 := hb6.trans (hbw7.mono (by omega)); obtain ⟨hb07, hc7, -, hz7'⟩ := box1_facts hb7; obtain ⟨k0, k8, k12⟩ := caseM_cells hc7; clear hc7; have hb27 : Below w2.heap.size w2 w7 := hb26.trans (hbw7.mono (by omega)))
    | (go_at_call 17; refine (allunt_any T I A cT cI cA w2.heap.size fs ts w7 (by omega) (hm2.below hb27 (Nat.le_refl _)) hts ((hA.below hb07 hN).more (by omega)) hl).mono ?_; rintro e w8 ⟨rfl, hbw8⟩; have hz8 := hbw8.size; have hb28 : Below w2.heap.size w2 w8 := hb27.trans (hbw8.mono (by omega)); have hb8 := hb7.trans (hbw8.mono (by omega)))
    | fail)
  have ho8 := ((ho5.out.keep hbw6).keep hbw7).keep hbw8
  have hb08 := (box1_facts hb8).1
  have hrl4 : rs.length ≤ 4096 := by have := restIs_len hRI.out; simpa using this
  have hbodies : ∀ r ∈ rs, r.d.body.length * 1 ≤ 100000000 := fun r hr => by
    obtain ⟨d, hd, e⟩ := restIs_body hRI.out r.d (List.mem_map.2 ⟨r, hr, rfl⟩)
    have := hsd.out.2 d hd
    rw [e]; omega
  clear k0 k8 k12 hRI hown hown' hrl hrr h21 ho5 hmem hm2 hI2
  have hsep := Lib.hid ho8.sep
  have hlow := Lib.hid (fun (a : Dr) (ha : a ∈ rs) (k : Nat) (hk : blk a.B = some k) => ((ho8.each a ha).lo k hk).2)
  have hbl8 := Lib.hid (fun (a : Dr) (ha : a ∈ rs) => (ho8.each a ha).len)
  have hrow8 := ho8.row
  have hrl8 := hrow8.len
  have hT8 : RI w8 w2.heap.size w8.heap.size rs 0 [] := ⟨rfl, fun k r hk => by omega, fun k r _ hr => ho8.each r (List.mem_of_getElem? hr)⟩
  have hbz : ∀ r ∈ rs, r.d.body.length * 1 ≤ 100000000 := hbodies
  replace hbz := Lib.hid hbz
  clear ho8
  go_loopw [10, 11] (fun a k wr => ∃ (i : Nat) (O : Option Addr) (cO : Nat) (ms : List Sl), k = .int .i64 i ∧ a = .slice O i cO ∧ i ≤ rs.length ∧ RI wr w2.heap.size w8.heap.size rs i ms ∧ Owns wr w2.heap.size 52 1 eSl O cO ms ∧ Owns wr w2.heap.size 54 4 eDr B cB rs ∧ Below w2.heap.size w2 wr ∧ w8.heap.size ≤ wr.heap.size) (fun _ k _ => rs.length - (intOf k).toNat)
  case atStart => exact ⟨0, none, 0, [], rfl, rfl, by omega, hT8, owns_nil _ _ _ _ _, hrow8, hb28, Nat.le_refl _⟩
  case round =>
    obtain ⟨i, O, cO, ms, rfl, rfl, hi, hRI, hOm, hrow, hb, hsz⟩ := hrel
    by_cases hlt : i < rs.length
    · obtain ⟨⟨d, RB, rc⟩, hr⟩ : ∃ r, rs[i]? = some r := ⟨_, List.getElem?_eq_getElem hlt⟩
      have hrm := List.mem_of_getElem? hr
      have hn := hbz.out _ hrm
      simp only at hn
      obtain ⟨gB, oB, hBe, hgB, hcB⟩ := hrow.row len_eDr (by omega)
      have hcell := hcB i _ hr 3 _ rfl
      simp only at hcell
      have hbody := hRI.todo i _ (Nat.le_refl _) hr
      simp only at hbody
      have hne1 := hrow.ne hbody (by decide)
      subst hBe
      have hneB : some gB ≠ blk RB := by
        rcases hne1 with h | h
        · cases h
        · exact h
      obtain ⟨wa, hwa⟩ : ∃ wa : World, wa = wr := ⟨_, rfl⟩
      subst hwa
      have hlen := Lib.hid hRI.len
      replace hr := Lib.hid hr
      replace hRI := Lib.hid hRI
      replace hOm := Lib.hid hOm
      replace hrow := Lib.hid hrow
      have hbody0 := Lib.hid hbody
      clear hcB hne1 hrm
      go_wp2
      go_loopw [12] (fun k wr => ∃ (j : Nat) (bd : List Int), k = .int .i64 j ∧ j ≤ d.body.length ∧ bd.length = d.body.length ∧ upto (fun x => x = by8 i) bd j ∧ Owns wr w2.heap.size 5 1 eByte RB rc bd ∧ wa.grownBy wr (blk RB)) (fun k _ => d.body.length - (intOf k).toNat)
      case atStart => exact ⟨0, d.body, rfl, by omega, rfl, upto_zero _ _, hbody, World.grownBy.refl _ _⟩
      case round =>
        obtain ⟨j, bd, rfl, hj, hbdl, hup, hO5, hg1⟩ := hrel
        have hcr := (hg1.cell_far ⟨gB, oB + i * 4 + 3, none⟩ hgB hneB).trans hcell
        have hs1 := hg1.size
        have hup' := Lib.hid hup
        clear hup
        by_cases hjn : j < d.body.length
        · obtain ⟨gb, cb, hv, _, hgb⟩ := World.ownsRow.form hO5 (by omega)
          obtain ⟨rfl, rfl⟩ : RB = some ⟨gb, 0, none⟩ ∧ rc = cb := by injection hv with h1 _ h2; exact ⟨h1, h2⟩
          clear hv
          have hcj := World.ownsRow.cellAt hO5 j (by omega)
          rw [flat_bytes, List.getElem?_map] at hcj
          obtain ⟨u, hu⟩ : ∃ u, bd[j]? = some u := ⟨_, List.getElem?_eq_getElem (by omega)⟩
          rw [hu] at hcj
          simp only [Option.map_some] at hcj
          have hfj := World.ownsRow.frozenAt hO5 j
          have hO6 := Lib.hid (hO5.set1 (k := j) (by8 i))
          have hg6 := Lib.hid (hg1.trans (grown_set wr gb j (.int .u8 (by8 i))))
          clear hO5 hg1
          go_wp2
          exact ⟨⟨j + 1, bd.set j (by8 i), by go_num, by omega, by rw [List.length_set]; exact hbdl, upto_set hup'.out, hO6.out, hg6.out⟩, by simp [intOf]; omega⟩
        · obtain rfl : j = d.body.length := by omega
          obtain rfl : bd = List.replicate d.body.length (by8 i) := upto_rep hup'.out hbdl
          have hOm1 := Lib.hid (hOm.out.kept hg1 (hOm.out.ne hbody0.out (by decide)))
          have hrow1 := Lib.hid (hrow.out.kept hg1 (hrow.out.ne hbody0.out (by decide)))
          obtain ⟨wb, hwb⟩ : ∃ wb : World, wb = wr := ⟨_, rfl⟩
          subst hwb
          have hO5' := Lib.hid hO5
          have hg1' := Lib.hid hg1
          have hlo5 := hO5.lo
          have hll5 := hO5.len
          clear hO5 hg1 hup'
          go_wp2_with (at_builtin; refine wpList_append_keep _ rfl (.tmp 97) (.tmp 101) 52 rfl w2.heap.size 5 1 1 _ Try.underlying52 info5 rfl (by decide) eByte len_eByte one_eByte RB rc (List.replicate d.body.length (by8 i)) wb.heap.size 1 d.body.length (by8 (100 + i)) rfl rfl hbdl (hO5'.out.alloc _) ?_ (by omega) (by omega) (by simp; omega) ?_)
          · intro j u hu
            rw [World.cell?_alloc_at _ _ _ _ rfl]
            cases j with
            | zero => simpa [eByte, by8] using hu
            | succ j => simp [eByte] at hu
          · intro A' c' wc hnew hold hg2 hk
            have hs2 := hg2.size
            simp only [World.size_alloc] at hs2
            have hr' := hr.out
            have hRI' := hRI.out
            have hOm2 := Lib.hid ((hOm1.out.alloc (.cells #[.int .u8 ((100 + (i : Int)) % 256)] 5)).kept hg2 (hOm1.out.ne hO5'.out (by decide)))
            have hrow2 := Lib.hid ((hrow1.out.alloc (.cells #[.int .u8 ((100 + (i : Int)) % 256)] 5)).kept hg2 (hrow1.out.ne hO5'.out (by decide)))
            have hloO := hOm2.out.lo
            have hlowR : ∀ k, blk RB = some k → w2.heap.size ≤ k := fun k hk => (hlo5 k hk).1
            replace hk : blk A' = blk RB ∨ blk A' = some (wb.alloc (.cells #[.int .u8 ((100 + (i : Int)) % 256)] 5)).heap.size := by simpa using hk
            have hbc : Below w2.heap.size w2 wc := ((hb.grown hg1'.out (by omega) (fun k hk => hlowR k hk)).alloc (by omega) _).grown hg2 (by simp only [World.size_alloc]; omega) (fun k hk => hlowR k hk)
            replace hnew := Lib.hid hnew
            replace hold := Lib.hid hold
            replace hg2 := Lib.hid hg2
            replace hk := Lib.hid hk
            clear hcell hcr hneB
            go_wp2_with (at_builtin; refine wpList_append_rows _ rfl (.tmp 92) (.tmp 103) 51 rfl w2.heap.size 52 1 24 _ Try.underlying51 info52 rfl (by decide) eSl len_eSl one_eSl O cO ms (some ⟨wc.heap.size, 0, none⟩) 1 (wc.heap.size + 1) i 1 [⟨A', d.body.length + 1, c'⟩] rfl rfl hlen.out rfl (hOm2.out.alloc _) (row_new _ _ _ _ _ _ rfl) (by omega) (by omega) (by simp only [World.size_alloc]; omega) ?_)
            intro O9 cO9 wd hO9 hg3 hk3
            have hN9 := RI.next (o' := .cells #[.slice A' (d.body.length + 1) c'] 52) hRI' hsep.out hr' hlow.out hsz hg1'.out hg2.out hold.out hnew.out hk.out hOm2.out hg3
            have hrow9 := (hrow2.out.alloc (.cells #[.slice A' (d.body.length + 1) c'] 52)).kept hg3 (hrow2.out.ne hOm2.out (by decide))
            have hb9 : Below w2.heap.size w2 wd := (hbc.alloc (by omega) _).grown hg3 (by simp only [World.size_alloc]; omega) (fun k hk => (hloO k hk).1)
            have hs3 := hg3.size
            simp only [World.size_alloc] at hs3
            replace hN9 := Lib.hid hN9
            replace hrow9 := Lib.hid hrow9
            replace hO9 := Lib.hid hO9
            clear hg3 hk3 hr' hRI'
            go_wp2
            go_roundw
            case rel => go_light; exact ⟨i + 1, O9, cO9, ms ++ [⟨A', d.body.length + 1, c'⟩], by go_num, rfl, by omega, hN9.out, hO9.out, hrow9.out, hb9, by omega⟩
            case measure => go_light; simp [intOf]; omega
    · obtain rfl : i = rs.length := by omega
      obtain ⟨wz, hwz⟩ : ∃ wz : World, wz = wr := ⟨_, rfl⟩
      subst hwz
      have hszz := hb.size
      have hRI' := Lib.hid hRI
      have hOmr := Lib.hid (hOm.row len_eSl)
      have hrowr := Lib.hid (hrow.row len_eDr)
      have hlO := hOm.len
      clear hRI hOm hrow
      go_wp2
      go_loopw [13] (fun k wr => ∃ i : Nat, k = .int .i64 i ∧ i ≤ rs.length ∧ Below wz.heap.size wz wr) (fun k _ => rs.length - (intOf k).toNat)
      case atStart => exact ⟨0, rfl, by omega, Below.refl _ _⟩
      case round =>
        obtain ⟨i, rfl, hi, hbz1⟩ := hrel
        have hsz1 := hbz1.size
        by_cases hlt : i < rs.length
        · obtain ⟨⟨d, RB, rc⟩, hr⟩ : ∃ r, rs[i]? = some r := ⟨_, List.getElem?_eq_getElem hlt⟩
          have hn := hbz.out _ (List.mem_of_getElem? hr)
          obtain ⟨A', c', hms, h2, h3, -⟩ := hRI'.out.done i _ hlt hr
          simp only at hn hms h2 h3
          have hlm := hRI'.out.len
          have hl2 := h2.len
          have hl3 := h3.len
          simp only [List.length_append, List.length_replicate, List.length_cons, List.length_nil] at hl2 hl3
          obtain ⟨gB, oB, hBe, hgB, hcB⟩ := hrowr.out (by omega)
          have q1 : ∀ W : World, Below wz.heap.size wz W → W.cell? ⟨gB, oB + i * 4 + 3, none⟩ = some (.slice RB d.body.length rc) := fun W h => (h.cell (p := ⟨gB, _, none⟩) (by show gB < _; omega)).trans (hcB i _ hr 3 _ rfl)
          obtain ⟨gO, oO, hOe, hgO, hcO⟩ := hOmr.out (by omega)
          have q2 : ∀ W : World, Below wz.heap.size wz W → W.cell? ⟨gO, oO + i, none⟩ = some (.slice A' (d.body.length + 1) c') := fun W h => by
            have := (h.cell (p := ⟨gO, oO + i * 1 + 0, none⟩) (by show gO < _; omega)).trans (hcO i _ hms 0 _ rfl)
            simpa using this
          obtain ⟨gm, om, hme, hgm, hcm⟩ := (h3.row len_eByte) (by simp)
          have q3 : ∀ (W : World) (j : Nat), Below wz.heap.size wz W → j < d.body.length → W.cell? ⟨gm, om + j, none⟩ = some (.int .u8 ((i : Int) % 256)) := fun W j h hj => by
            have := (h.cell (p := ⟨gm, om + j * 1 + 0, none⟩) (by show gm < _; omega)).trans (hcm j (by8 i) (by rw [List.getElem?_append_left (by simpa using hj), List.getElem?_replicate, if_pos hj]) 0 _ rfl)
            simpa [by8] using this
          have q4 : ∀ W : World, Below wz.heap.size wz W → W.cell? ⟨gm, om + d.body.length, none⟩ = some (.int .u8 ((100 + (i : Int)) % 256)) := fun W h => by
            have := (h.cell (p := ⟨gm, om + d.body.length * 1 + 0, none⟩) (by show gm < _; omega)).trans (hcm d.body.length (by8 (100 + i)) (by rw [List.getElem?_append_right (by simp)]; simp) 0 _ rfl)
            simpa [by8] using this
          have q5 : ∀ (W : World) (j : Nat), Below wz.heap.size wz W → j < d.body.length → ∃ gb ob, RB = some ⟨gb, ob, none⟩ ∧ gb < wz.heap.size ∧ W.cell? ⟨gb, ob + j, none⟩ = some (.int .u8 ((i : Int) % 256)) := fun W j h hj => by
            obtain ⟨gb, ob, he, hgb, hcb⟩ := (h2.row len_eByte) (by simp; omega)
            have := (h.cell (p := ⟨gb, ob + j * 1 + 0, none⟩) (by show gb < _; omega)).trans (hcb j (by8 i) (by rw [List.getElem?_replicate, if_pos hj]) 0 _ rfl)
            exact ⟨gb, ob, he, hgb, by simpa [by8] using this⟩
          subst hBe hOe hme
          replace q1 := Lib.hid q1
          replace q2 := Lib.hid q2
          replace q3 := Lib.hid q3
          replace q4 := Lib.hid q4
          replace q5 := Lib.hid q5
          have hw100 : IntKind.i64.wrap (100 + (i : Int)) = 100 + i := IntWalk.i64_in _ (by omega)
          have him : (i : Int) < ms.length := by omega
          clear h2 h3 hcB hcO hcm hr hms
          go_wp2
          go_loopw [14] (fun k wr => ∃ j : Nat, k = .int .i64 j ∧ j ≤ d.body.length ∧ Below wz.heap.size wz wr) (fun k _ => d.body.length - (intOf k).toNat)
          case atStart => exact ⟨0, rfl, by omega, hbz1⟩
          case round =>
            obtain ⟨j, rfl, hj, hbz2⟩ := hrel
            have hsz2 := hbz2.size
            have p1 := q1.out _ hbz2
            have p2 := q2.out _ hbz2
            by_cases hjn : j < d.body.length
            · have p3 := q3.out _ j hbz2 hjn
              obtain ⟨gb, ob, hRe, hgb, p5⟩ := q5.out _ j hbz2 hjn
              subst hRe
              go_wp2
              go_roundw
              case rel => go_light; exact ⟨j + 1, by go_num, by omega, hbz2⟩
              case measure => go_light; simp [intOf]; omega
            · obtain rfl : j = d.body.length := by omega
              have p4 := q4.out _ hbz2
              have hnI : (d.body.length : Int) < d.body.length + 1 := by omega
              go_wp2
              go_quiet (fail)
              go_wp2
              go_roundw
              case rel => go_light; exact ⟨i + 1, by go_num, by omega, below_drewN hbz2 _⟩
              case measure => go_light; simp [intOf]; omega
        · have hb2r := hb.trans (hbz1.mono (by omega))
          have hbr8 := hb2.trans (hb2r.mono (by omega))
          obtain ⟨hb0r, hcr, -, hzr⟩ := box1_facts hbr8
          obtain ⟨k0, k8, k12⟩ := caseM_cells hcr
          clear hcr
          go_wp2_with (go_at_call 22; refine (sameDatas_yes D M cD cM w2.heap.size ds wr (by omega) (hD.below hb2r (Nat.le_refl _)) ((hM.below hb0r hN).more (by omega)) hld).mono ?_; rintro e w9 ⟨rfl, hbw9⟩)
          go_ret
          exact ⟨rfl, hb0r.trans (hbw9.mono (by omega))⟩
end Go.Proofs.Ytcffhfcjfjfokaa
/- A case of FlushAgree that came in; the rest of a row of messages. -/
namespace Go.Proofs.Ytcffhfcjfjfokaa
open Go.RowKit Go.Deep Go.ChangeShapes Go.WideShapes
theorem mix_facts {w wr : World} {A T M : Option Addr} {k cA nt cT nm cM : Nat} {twice far more : Int} (hb : Below (w.heap.size + 1) (box1 w (mixC A T M k cA nt cT nm cM twice far more) 68) wr) :
    Below w.heap.size w wr ∧ w.heap.size + 1 ≤ wr.heap.size ∧ wr.cell? ⟨w.heap.size, 0, none⟩ = some (.slice A k cA) ∧ wr.cell? ⟨w.heap.size, 1, none⟩ = some (.slice T nt cT) ∧ wr.cell? ⟨w.heap.size, 2, none⟩ = some (.int .i64 twice) ∧
      wr.cell? ⟨w.heap.size, 3, none⟩ = some (.int .i64 far) ∧ wr.cell? ⟨w.heap.size, 4, none⟩ = some (.int .i64 more) ∧ wr.cell? ⟨w.heap.size, 5, none⟩ = some (.slice M nm cM) := by
  obtain ⟨h0, hc, -, hs⟩ := box1_facts hb
  exact ⟨h0, hs, hc 0, hc 1, hc 2, hc 3, hc 4, hc 5⟩
def cutM (B : Option Addr) (c a : Nat) : Option Addr := if c = a then B else B.map (·.add (a * 4))
/-- 'l[a:]' of a row of messages. -/
theorem run_fromM (W : World) (B : Option Addr) (n c a : Nat) (x : Int) (hx : x = a) (ha : a ≤ n) :
    (Instr.sliceAt 44 (.slice B n c) (some (.int .i64 x)) none none).run Try.prog W = .ok (.slice (cutM B c a) (n - a) (c - a)) W := by
  subst hx
  have he : Try.prog.elem 44 = 54 := by kernel_rfl
  have ht : Try.prog.underlying 44 = some (.slice (Try.prog.elem 44)) := by kernel_rfl
  have hsz : ∀ W, (sizeOf (Try.prog.elem 44)).run Try.prog W = .ok 4 W := fun W => by rw [he]; kernel_rfl
  rw [run_sliceAt_slice (h := ht), run_slice_l (ht := ht) (h0 := by omega) (h1 := by omega), hsz]
  have hc : (if c = a then B else B.map (·.add (a * 4))) = cutM B c a := rfl
  simp only [Result.andThen, sliced, Int.toNat_natCast]
  rw [hc]
theorem MsOwn.tail {w : World} {base : Nat} {B : Option Addr} {c : Nat} {rs : List Dr} (h : MsOwn w base B c rs) (a : Nat) : Dts w w.heap.size (cutM B c a) ((rs.map Dr.d).drop a) := by
  refine ⟨rs.drop a, by rw [List.map_drop], fun h0 => ?_, fun r hr => ?_⟩
  · have ha : a < rs.length := by rw [List.length_drop] at h0; omega
    obtain ⟨b, off, e, hb, hc⟩ := h.row.row len_eDr (by omega)
    have hcl := h.row.len
    subst e
    refine ⟨b, off + a * 4, ?_, hb, fun k x hx j u hu => ?_⟩
    · unfold cutM
      rw [if_neg (by omega)]
      simp only [Option.map_some]
      rw [Addr.add_lit]
    · rw [List.getElem?_drop] at hx
      have := hc (a + k) x hx j u hu
      rw [← this]; congr 2; rw [Nat.add_mul]; omega
  · have hm := List.mem_of_mem_drop hr
    exact ⟨(h.each r hm).row len_eByte, (h.each r hm).len.1, (h.each r hm).len.2⟩
theorem cells68 : Try.prog.cellsOf 68 = 6 := by kernel_rfl
section
variable {H : Type} {enc : TypeId × Value → H} {W : World} {sp : Nat → Bool}
theorem elem3w (n : Nat) (cs : List Value) (y : DataW H × List MemPlace) (h : DataW.trod enc Try.prog W 0 sp true n 3 cs = some y) : ∃ x, cs = eInt x ∧ (Lit.int .i64 x).wf = true := by
  obtain ⟨z, hz, _, hw⟩ := DataW.trod_int Try.underlying3 h
  exact ⟨z, hz, hw⟩
set_option maxRecDepth 100000 in
theorem open68 {fuel : Nat} {cs : List Value} {x : DataW H × List MemPlace} (h : DataW.trod enc Try.prog W 0 sp true fuel 68 cs = some x) :
    ∃ (A T M : Option Addr) (fs : List Fl) (tl : List Int) (ds : List Dt) (cA cT cM : Nat) (twice far more : Int), cs = (mixC A T M fs.length cA tl.length cT ds.length cM twice far more).toList ∧
      Fls W W.heap.size A fs ∧ fs.length ≤ Rows.uptoBulk x.1 ∧ (∀ f ∈ fs, f.slots.length ≤ Rows.uptoBulk x.1 ∧ f.have_.length ≤ Rows.uptoBulk x.1) ∧
      RowAt W W.heap.size 1 eInt T tl ∧ tl.length ≤ Rows.uptoBulk x.1 ∧ (∀ v ∈ tl, (Lit.int .i64 v).wf = true) ∧ (Lit.int .i64 twice).wf = true ∧ (Lit.int .i64 far).wf = true ∧ (Lit.int .i64 more).wf = true ∧
      Dts W W.heap.size M ds ∧ ds.length ≤ Rows.uptoBulk x.1 ∧ (∀ d ∈ ds, d.body.length ≤ Rows.uptoBulk x.1) ∧ KeyD ds := by
  obtain ⟨ys, m, _, rfl, hlen, hyl, hf⟩ := DataW.trod_struct Try.underlying68 h
  rw [cells68] at hlen
  have hyl6 : ys.length = 6 := hyl
  match cs, hlen with
  | [u0, u1, u2, u3, u4, u5], _ =>
    match ys, hyl6 with
    | [y0, y1, y2, y3, y4, y5], _ =>
      have h0 : DataW.trod enc Try.prog W 0 sp true m 22 (([u0, u1, u2, u3, u4, u5].drop 0).take (Try.prog.cellsOf 22)) = some y0 := hf 0 _ rfl
      have h1 : DataW.trod enc Try.prog W 0 sp true m 37 (([u0, u1, u2, u3, u4, u5].drop 1).take (Try.prog.cellsOf 37)) = some y1 := hf 1 _ rfl
      have h2 : DataW.trod enc Try.prog W 0 sp true m 3 (([u0, u1, u2, u3, u4, u5].drop 2).take (Try.prog.cellsOf 3)) = some y2 := hf 2 _ rfl
      have h3 : DataW.trod enc Try.prog W 0 sp true m 3 (([u0, u1, u2, u3, u4, u5].drop 3).take (Try.prog.cellsOf 3)) = some y3 := hf 3 _ rfl
      have h4 : DataW.trod enc Try.prog W 0 sp true m 3 (([u0, u1, u2, u3, u4, u5].drop 4).take (Try.prog.cellsOf 3)) = some y4 := hf 4 _ rfl
      have h5 : DataW.trod enc Try.prog W 0 sp true m 40 (([u0, u1, u2, u3, u4, u5].drop 5).take (Try.prog.cellsOf 40)) = some y5 := hf 5 _ rfl
      rw [cells22'] at h0
      rw [cells37] at h1
      rw [cells3'] at h2 h3 h4
      rw [cells40] at h5
      simp only [List.drop_zero, List.drop_succ_cons, List.take_succ_cons, List.take_zero] at h0 h1 h2 h3 h4 h5
      obtain ⟨a, ha, _, wa⟩ := DataW.trod_int Try.underlying3 h2
      obtain ⟨b, hb, _, wb⟩ := DataW.trod_int Try.underlying3 h3
      obtain ⟨c, hc, _, wc⟩ := DataW.trod_int Try.underlying3 h4
      simp at ha hb hc
      obtain ⟨A, fs, cA, hA, a1, a2, a3, a4, a5⟩ := open22 h0
      obtain ⟨T, tl, cT, hT, t1, t2, t3, t4, t5⟩ := open_row Try.underlying37 cells3' (by decide) eInt (fun x _ => (Lit.int .i64 x).wf = true) elem3w h1
      obtain ⟨M, ds, cM, hM, q1, q2, q3, q4⟩ := open40 h5
      have b0 : Rows.uptoBulk y0.1 ≤ Rows.uptoBulk (.agg ([y0, y1, y2, y3, y4, y5].map (·.1))) := bulks.agg_part (by simp)
      have b1 : Rows.uptoBulk y1.1 ≤ Rows.uptoBulk (.agg ([y0, y1, y2, y3, y4, y5].map (·.1))) := bulks.agg_part (by simp)
      have b5 : Rows.uptoBulk y5.1 ≤ Rows.uptoBulk (.agg ([y0, y1, y2, y3, y4, y5].map (·.1))) := bulks.agg_part (by simp)
      refine ⟨A, T, M, fs, tl, ds, cA, cT, cM, a, b, c, ?_, a1, Nat.le_trans a4 b0, fun f hf => ⟨Nat.le_trans (a5 f hf).1 b0, Nat.le_trans (a5 f hf).2 b0⟩, t1, Nat.le_trans t4 b1, fun v hv => by obtain ⟨_, _, q⟩ := t5 v hv; exact q, wa, wb, wc, q1, Nat.le_trans q2 b5, fun d hd => Nat.le_trans (q3 d hd) b5, q4⟩
      rw [hA, hT, hM, ha, hb, hc]
end
end Go.Proofs.Ytcffhfcjfjfokaa
/- FlushAgree's walk. -/
namespace Go.Proofs.Ytcffhfcjfjfokaa
open Go.RowKit
theorem field66 (w : World) (a b : Int) : (Instr.field 66 (.agg #[.int .i64 a, .int .i64 b]) 1).run Try.prog w = .ok (.int .i64 b) w := by kernel_rfl
set_option maxRecDepth 100000 in
set_option maxHeartbeats 8000000 in
theorem flushAgree_walk (A T M : Option Addr) (cA cT cM N : Nat) (fs : List Fl) (tl : List Int) (ds : List Dt) (twice far more : Int) (w : World) (hN : N ≤ w.heap.size) (hA : Fls w N A fs) (hsm : Small fs) (hT : RowAt w N 1 eInt T tl) (hlt : tl.length ≤ 9223372036854775807)
    (hwf : ∀ v ∈ tl, (Lit.int .i64 v).wf = true) (hw2 : (Lit.int .i64 twice).wf = true) (hw3 : (Lit.int .i64 far).wf = true) (hw4 : (Lit.int .i64 more).wf = true) (hM : Dts w N M ds) (hsd : SmallD ds) (hkd : KeyD ds) :
    Calls Try.prog 6 #[.agg (mixC A T M fs.length cA tl.length cT ds.length cM twice far more)] w fun x w' => x = .returned (.bool true) ∧ Below w.heap.size w w' := by
  have hl : fs.length ≤ 9223372036854775807 := by have := hsm.1; omega
  have hld : ds.length ≤ 9223372036854775807 := by have := hsd.1; omega
  have H28 : ∀ W : World, Below w.heap.size w W → Calls Try.prog 28 #[.slice A fs.length cA] W fun x W' => (∃ B c, x = .returned (.slice B fs.length c) ∧ Fls W' W'.heap.size B fs) ∧ Below W.heap.size W W' := fun W h =>
    many_any A cA N fs W (by have := h.size; omega) (hA.below h hN) hsm
  replace H28 := Lib.hid H28
  replace hsm := Lib.hid hsm
  replace hsd := Lib.hid hsd
  replace hkd := Lib.hid hkd
  replace hwf := Lib.hid hwf
  replace hw2 := Lib.hid hw2
  replace hw3 := Lib.hid hw3
  replace hw4 := Lib.hid hw4
  have hbx := below_box1 w (mixC A T M fs.length cA tl.length cT ds.length cM twice far more) 68
  have hbz : Below (w.heap.size + 1) (box1 w (mixC A T M fs.length cA tl.length cT ds.length cM twice far more) 68) (box1 w (mixC A T M fs.length cA tl.length cT ds.length cM twice far more) 68) := Below.refl _ _
  by_cases hlen : 1 ≤ fs.length ∧ fs.length ≤ 16
  · obtain ⟨h1, h2⟩ := hlen
    have h1' : ¬ fs.length < 1 := by omega
    have h2' : ¬ 16 < fs.length := by omega
    go_enter Try.func6, Try.ntmps6
    go_wp2_with (first
      | (go_at_call 28; refine (H28.out _ hbx).mono ?_; rintro e w1 ⟨⟨B1, c1, rfl, hB1⟩, hb1⟩; rw [World.size_alloc] at hb1; have hs1 := hb1.size; rw [World.size_alloc] at hs1)
      | (go_at_call 14; refine (icut_any B1 c1 w1.heap.size fs w1 (Nat.le_refl _) hB1 hl).mono ?_; rintro e w2 ⟨⟨k_, n, rfl, hcut⟩, hb2⟩; have hs2 := hb2.size; replace hcut := Lib.hid hcut; have hb12 := hb1.trans (hb2.mono hs1); obtain ⟨hb02, -, k0, -, -, -, -, -⟩ := mix_facts hb12)
      | (go_at_call 29; refine (together_any A cA N fs w2 (by omega) (hA.below hb02 hN) hl).mono ?_; rintro e w3 ⟨⟨m, rfl, hm⟩, hb3⟩; have hb13 := hb12.trans (hb3.mono (by omega)); rcases cut_cases h1 h2 hcut.out hm with ⟨hm0, hn0, rfl⟩ | ⟨rfl, rfl, hc⟩; all_goals (obtain ⟨hb03, hs3, k0, -, -, -, -, -⟩ := mix_facts hb13); all_goals first | (have e1 : (m != 0) = true := (by simpa using hm0); have e2 : (n != 0) = true := (by simpa using hn0); clear hm0 hn0) | (have hge : baseOf fs ≤ k_ := hc.low; replace hc := Lib.hid hc; have hfit := Lib.hid (fit_iff.1 hm); clear hm))
      | (go_at_call 30; refine (base_any A cA N fs w3 (hA.below hb03 hN) hl).mono ?_; rintro e w4 ⟨rfl, rfl⟩)
      | fail)
    · go_ret
      exact ⟨rfl, hb03⟩
    · have hcb := cut_bound hfit.out (n := (k_ - baseOf fs).toNat) (fun p h1 h2 => hc.out.all p h1 (by have := hc.out.low; omega))
      have hbn := base_nonneg fs
      have hbs := Lib.hid (fun (f : Fl) (hf : f ∈ fs) => (⟨(hfit.out.sound f hf).base0, by have := (hfit.out.sound f hf).base; omega⟩ : 0 ≤ f.base ∧ f.base ≤ 4611686018427387904))
      clear k0
      go_loopw [6] (fun k wr => ∃ i : Nat, k = .int .i64 (baseOf fs + i) ∧ baseOf fs + i ≤ k_ ∧ Below w3.heap.size w3 wr) (fun k _ => (k_ - intOf k).toNat)
      case atStart => exact ⟨0, by simp, by omega, Below.refl _ _⟩
      case round =>
        obtain ⟨i, rfl, hi, hb⟩ := hrel
        have hb14 := hb13.trans (hb.mono hs3)
        obtain ⟨hb04, hs4, k0, k1, k2, k3, k4, k5⟩ := mix_facts hb14
        obtain ⟨w4, hw4⟩ : ∃ w4 : World, w4 = wr := ⟨_, rfl⟩
        subst hw4
        by_cases hlti : baseOf fs + i < k_
        · have hne := seq_ne hfit.out hc.out (p := baseOf fs + i + 1) (by omega) (by omega)
          have hsb : ((atOf fs (baseOf fs + i + 1)).2 == 0) = false := by simpa using hne
          clear hne
          have hfd := field66
          go_wp2_with (go_at_call 31; refine (at_any A cA N fs (baseOf fs + i + 1) w4 (by omega) (hA.below hb04 hN) hl (by omega) (by omega) hbs.out).mono ?_; rintro e w5 ⟨rfl, hb5⟩)
          go_roundw
          case rel => go_light; exact ⟨i + 1, by rw [show baseOf fs + ((i + 1 : Nat) : Int) = baseOf fs + i + 1 by omega], by omega, hb.trans (hb5.mono hb.size)⟩
          case measure => go_light; simp [intOf]; omega
        · have hk : baseOf fs + i = k_ := by omega
          replace hk := Lib.hid hk
          obtain ⟨a1, ha1⟩ : ∃ a : Nat, amongN far (k_ - baseOf fs + 1) = a := ⟨(amongN far (k_ - baseOf fs + 1)).toNat, by have := (amongN_in (v := far) (n := k_ - baseOf fs + 1) (by omega)).1; omega⟩
          have hx1 : baseOf fs + a1 ≤ k_ := by have := (amongN_in (v := far) (n := k_ - baseOf fs + 1) (by omega)).2; omega
          obtain ⟨a2, ha2⟩ : ∃ a : Nat, amongN more (k_ - (baseOf fs + a1) + 1) = a := ⟨(amongN more (k_ - (baseOf fs + a1) + 1)).toNat, by have := (amongN_in (v := more) (n := k_ - (baseOf fs + a1) + 1) (by omega)).1; omega⟩
          have hx2 : baseOf fs + a1 + a2 ≤ k_ := by have := (amongN_in (v := more) (n := k_ - (baseOf fs + a1) + 1) (by omega)).2; omega
          have hp1 : baseOf fs ≤ baseOf fs + a1 := by omega
          have hp2 : baseOf fs + a1 + a2 ≤ k_ := hx2
          replace ha1 := Lib.hid ha1
          replace ha2 := Lib.hid ha2
          go_wp2_with (first
            | (go_at_call 32; refine (turned_any A T M cA cT ds.length cM N fs tl twice far more w4 (by omega) (hA.below hb04 hN) (hT.below hb04 hN) hsm.out h1 h2 hlt hwf.out hw2.out).mono ?_; rintro e w5 ⟨⟨G, cG, gs, rfl, hmem, hG, hg2, hg1⟩, hb5⟩; have hs5 := hb5.size; have hb15 := hb14.trans (hb5.mono hs4); replace hmem := Lib.hid hmem; replace hG := Lib.hid hG; clear k0 k1 k2 k3 k4 k5; obtain ⟨hb05, hz5, k0, k1, k2, k3, k4, k5⟩ := mix_facts hb15)
            | (go_at_call 14; refine (icut_any G cG w5.heap.size gs w5 (Nat.le_refl _) hG.out (by omega)).mono ?_; rintro e w6 ⟨⟨q1, q2, rfl, hcut2⟩, hb6⟩; obtain ⟨e1, e2⟩ := cut_again hfit.out hmem.out hc.out hg1 hg2 hcut2; rw [e1, e2]; clear e1 e2 hcut2; have hs6 := hb6.size; have hb16 := hb15.trans (hb6.mono hz5); clear k0 k1 k2 k3 k4 k5; obtain ⟨hb06, hz6, k0, k1, k2, k3, k4, k5⟩ := mix_facts hb16)
            | (go_at_call 33; (with_reducible refine (atN_any far (k_ - baseOf fs + 1) _ (by omega) hw3.out).mono ?_); rintro e w7 ⟨rfl, rfl⟩; rw [ha1.out])
            | (go_at_call 33; (with_reducible refine (atN_any more (k_ - (baseOf fs + a1) + 1) _ (by omega) hw4.out).mono ?_); rintro e w7 ⟨rfl, rfl⟩; rw [ha2.out])
            | (go_at_call 18; refine (datas_any M cM N ds w6 (by omega) (hM.below hb06 hN) hsd.out).mono ?_; rintro e w8 ⟨⟨D, cD, rfl, hD⟩, hb8⟩; have hs8 := hb8.size; have hb18 := hb16.trans (hb8.mono hz6); clear k0 k1 k2 k3 k4 k5; obtain ⟨hb08, hz8, k0, k1, k2, k3, k4, k5⟩ := mix_facts hb18)
            | (go_at_call 28; refine (H28.out w8 hb08).mono ?_; rintro e w9 ⟨⟨B9, c9, rfl, hB9⟩, hb9⟩; have hs9 := hb9.size; have hb19 := hb18.trans (hb9.mono hz8); clear k0 k1 k2 k3 k4 k5; obtain ⟨hb09, hz9, k0, k1, k2, k3, k4, k5⟩ := mix_facts hb19)
            | (go_at_call 19; (with_reducible refine (rest_any (baseOf fs + a1) B9 D c9 cD w9.heap.size fs ds w9 (Nat.le_refl _) hB9 ((hD.below hb9 (Nat.le_refl _)).more hs9) hl hsd.out hkd.out).mono ?_); rintro e w10 ⟨⟨RB, rc, rs, n1, rfl, hRI, hown⟩, hb10⟩; have hs10 := hb10.size; have hb110 := hb19.trans (hb10.mono hz9); clear k0 k1 k2 k3 k4 k5; obtain ⟨hb010, hz10, k0, k1, k2, k3, k4, k5⟩ := mix_facts hb110; replace hRI := Lib.hid hRI; replace hown := Lib.hid hown)
            | (go_at_call 19
               (with_reducible refine (rest_any (baseOf fs + a1 + a2) G D cG cD w10.heap.size gs ds w10 (Nat.le_refl _) ((hG.out.below ((hb6.trans (hb8.mono hs6)).trans ((hb9.mono (by omega)).trans (hb10.mono (by omega)))) (Nat.le_refl _)).more (by omega)) (((hD.below hb9 (Nat.le_refl _)).below hb10 hs9).more (by omega)) (by omega) hsd.out hkd.out).mono ?_)
               rintro e w11 ⟨⟨SB, sc, ss, n3, rfl, hRI', hown'⟩, hb11⟩
               have hs11 := hb11.size
               have hb111 := hb110.trans (hb11.mono hz10)
               clear k0 k1 k2 k3 k4 k5
               obtain ⟨hb011, hz11, k0, k1, k2, k3, k4, k5⟩ := mix_facts hb111
               rcases agree_ways hfit.out h1 h2 hmem.out hg1 hg2 hc.out hp1 hp2 hRI.out hRI' with ⟨rfl, rfl, e3, hsl, hle, b1, b2⟩ | ⟨rfl, j, hj, hno⟩
               all_goals first
                 | (replace hno := Lib.hid hno; replace hRI' := Lib.hid hRI'; replace hown' := Lib.hid hown')
                 | ((have hrun : ∀ W, (Instr.sliceAt 44 (.slice RB rs.length rc) (some (.int .i64 (baseOf fs + a1 + a2 - (baseOf fs + a1)))) none none).run Try.prog W = .ok (.slice (cutM RB rc a2) ss.length (rc - a2)) W := fun W => by rw [← hsl]; exact run_fromM W RB rs.length rc a2 _ (by omega) (by omega)); (have hrun2 : ∀ W, (Instr.sliceAt 44 (.slice RB rs.length rc) (some (.int .i64 a2)) none none).run Try.prog W = .ok (.slice (cutM RB rc a2) ss.length (rc - a2)) W := fun W => by rw [← hsl]; exact run_fromM W RB rs.length rc a2 _ rfl (by omega)); (have h21 := sameMsgs_yes (cutM RB rc a2) SB (rc - a2) sc w11.heap.size (ss.map Dr.d) w11 (Nat.le_refl _) (by rw [e3]; exact (hown.out.keep hb11).tail a2) hown'.dts (by rw [List.length_map]; have := hown'.row.len; omega)); rw [List.length_map] at h21; replace h21 := Lib.hid h21; replace hsl := Lib.hid hsl; replace hRI' := Lib.hid hRI'; replace hown' := Lib.hid hown'; replace e3 := Lib.hid e3))
            | (go_at_call 21; refine h21.out.mono ?_; rintro e w12 ⟨rfl, hb12'⟩)
            | (go_at_call 34; refine (whole_no A T M cA tl.length cT cM N fs ds twice far more (baseOf fs + a1) k_ j w11 (by omega) (hA.below hb011 hN) (hM.below hb011 hN) hl hld hbs.out (by omega) hj (by omega) hno.out).mono ?_; rintro e w12 ⟨rfl, hb12'⟩)
            | fail)
          all_goals
            go_ret
            exact ⟨rfl, hb011.trans (hb12'.mono (by omega))⟩
  · have hz : ∀ (k n : Int), CutIs fs k n → k = 0 ∧ n = 1 := fun _ _ h => cut_bad hlen h
    replace hz := Lib.hid hz
    by_cases h1 : fs.length < 1
    all_goals first | skip | (have h2 : 16 < fs.length := (by omega))
    all_goals
      go_enter Try.func6, Try.ntmps6
      go_wp2_with (first
        | (go_at_call 28; refine (H28.out _ hbx).mono ?_; rintro e w1 ⟨⟨B1, c1, rfl, hB1⟩, hb1⟩; rw [World.size_alloc] at hb1; have hs1 := hb1.size; rw [World.size_alloc] at hs1)
        | (go_at_call 14; refine (icut_any B1 c1 w1.heap.size fs w1 (Nat.le_refl _) hB1 hl).mono ?_; rintro e w2 ⟨⟨k_, n, rfl, hcut⟩, hb2⟩; have hs2 := hb2.size; obtain ⟨rfl, rfl⟩ := hz.out _ _ hcut; clear hcut; have hb12 := hb1.trans (hb2.mono hs1); obtain ⟨hb02, -, k0, -, -, -, -, -⟩ := mix_facts hb12)
        | fail)
      go_ret
      exact ⟨rfl, hb02⟩
end Go.Proofs.Ytcffhfcjfjfokaa
/- Closes the rows of this seat's statements over one list of contents. -/
namespace Go.Proofs.Ytcffhfcjfjfokaa
open Go.ChangeShapes Go.WideShapes Go.ChangeAt Go.RowKit
section
variable {H : Type} {enc : TypeId × Value → H} {P : Program}
theorem post_of_below {f : Func} {s : ChangeSpec} {apart fresh handsOn again : Bool} {W W' : World} {args : Array Value} {v : Value} {ds gs : List (DataW H)} {before pa pv : List MemPlace}
    (hW : DataW.Whole enc P f.params.toList s.vars apart W args.toList ds gs before)
    (hres : ∀ (b : Nat) (sp : Nat → Bool) (hd : Bool), DataW.TrodAll enc P W' b sp hd f.resultTypes.toList (v.resultList f.resultTypes.size) (s.fn H (ds ++ gs)).results [])
    (hargs : ∀ sp : Nat → Bool, (∀ p ∈ before, sp p.block = true) → DataW.TrodAll enc P W' 0 sp true f.params.toList args.toList (s.fn H (ds ++ gs)).args pa)
    (hvars : ∀ sp : Nat → Bool, (∀ p ∈ before, sp p.block = true) → DataW.TrodVars enc P W' sp s.vars (s.fn H (ds ++ gs)).vars pv)
    (hps : before = pa ++ pv) (hb : Below W.heap.size W W')
    (hok : ∀ (j : Nat) (t : TypeId) (r : Value), f.resultTypes[j]? = some t → (v.resultList f.resultTypes.size)[j]? = some r → Value.okWide P W' .any 0 t r) :
    s.post enc P f apart fresh handsOn again W args v W' := by
  have hlt : ∀ p ∈ before, p.block < W.heap.size := fun p hp => hW.lt p hp
  have hold : ∀ p ∈ before, (fun b => decide (b < W.heap.size)) p.block = true := fun p hp => by simpa using hlt p hp
  refine ⟨ds, gs, before, [], pa, pv, hW, hres _ _ _, hargs _ hold, hvars _ hold, World.keptBut_mono (fun p hp => ⟨hp, ?_⟩) (hb.frame (· ∈ before)), fun _ => ?_⟩
  · rw [hps, List.mem_append] at hp
    exact Or.inr hp
  · obtain ⟨_, _, _, _, _, hz, hn⟩ := hW
    refine ⟨hok, _, _, ([] ++ pa) ++ pv, ⟨[] ++ pa, pv, trodAll_append (hargs _ (fun _ _ => rfl)) (hres _ _ _), hvars _ (fun _ _ => rfl), rfl, ?_, ?_⟩, ?_⟩
    · intro b off hp
      have hin : MemPlace.cell b off ∈ before := by rw [hps]; simpa using hp
      rw [hb.frozen (hlt _ hin)]
      exact hz b off hin
    · intro ha
      have := hn ha
      rw [hps] at this
      simpa using this
    · intro p hp _
      rw [hps]
      simpa using hp
end

theorem own : ownKnob Try.prog.godebug = none := by kernel_rfl
theorem laidOut : laidOutB Try.prog = true := by kernel_rfl
theorem readable22 : Try.prog.readableRec 22 = true := by kernel_rfl
theorem row22 : 22 < Try.prog.types.size := of_decide_eq_true (by kernel_rfl)
/-- A list of contents that came in, of bulk at most 1048576. -/
theorem came22 {H : Type} {enc : TypeId × Value → H} {W : World} {sp : Nat → Bool} {v : Value} {d : DataW H} {p : List MemPlace} (hv : Value.okWide Try.prog W .any 0 22 v ∨ ∃ a len cap, v = .slice a len cap)
    (h : DataW.Trod enc Try.prog W 0 sp true 22 v d p) (hk : Rows.uptoBulk d ≤ 1048576) :
    ∃ (A : Option Addr) (fs : List Fl) (c : Nat), v = .slice A fs.length c ∧ Fls W W.heap.size A fs ∧ Small fs := by
  obtain ⟨a, len, cap, rfl⟩ : ∃ a len cap, v = .slice a len cap := hv.elim (okWide_slice Try.underlying22) id
  obtain ⟨fuel, h⟩ := h
  obtain ⟨A, fs, c, e, h1, _, _, h4, h5⟩ := open22 (x := (d, p)) h
  exact ⟨A, fs, c, e, h1, Nat.le_trans h4 hk, fun f hf => ⟨Nat.le_trans (h5 f hf).1 hk, Nat.le_trans (h5 f hf).2 hk⟩⟩
end Go.Proofs.Ytcffhfcjfjfokaa
