/- Turned WholeM Open Case Caser Rrest SameMsg Untouched SameFls Allunt LackWalk, joined. -/
import Derived.IntWalk
import Derived.Test.YtcffhfcjfjfokaaRows
import Derived.Deep.Slices
import Derived.Deep.Fields
import Derived.ChangeSame
import Derived.ProofKit
import Derived.StillTailTactics
import Derived.Test.YtcffhfcjfjfokaaAg1
import Derived.Test.YtcffhfcjfjfokaaAg3
import Derived.Test.YtcffhfcjfjfokaaAg4
import Derived.Test.YtcffhfcjfjfokaaAg6
import Derived.Test.YtcffhfcjfjfokaaAg7
set_option linter.unusedVariables false
set_option linter.unusedSimpArgs false
/- The law's turned: the contents in another order, one of them twice. -/
namespace Go.Proofs.Ytcffhfcjfjfokaa
open Go.RowKit
set_option maxRecDepth 100000 in
set_option maxHeartbeats 4000000 in
theorem turned_any (A T M : Option Addr) (cA cT nm cM N : Nat) (fs : List Fl) (tl : List Int) (twice far more : Int) (w : World) (hN : N ≤ w.heap.size) (hA : Fls w N A fs) (hT : RowAt w N 1 eInt T tl) (hsm : Small fs) (h1 : 1 ≤ fs.length) (h2 : fs.length ≤ 16) (hlt : tl.length ≤ 9223372036854775807)
    (hwf : ∀ v ∈ tl, (Lit.int .i64 v).wf = true) (hw2 : (Lit.int .i64 twice).wf = true) :
    Calls Try.prog 32 #[.agg (mixC A T M fs.length cA tl.length cT nm cM twice far more)] w fun x w' => (∃ B c gs, x = .returned (.slice B gs.length c) ∧ SameMem gs fs ∧ Fls w' w'.heap.size B gs ∧ gs.length ≤ 16 ∧ 1 ≤ gs.length) ∧ Below w.heap.size w w' := by
  have hbx := below_box1 w (mixC A T M fs.length cA tl.length cT nm cM twice far more) 68
  replace hwf := Lib.hid hwf
  replace hw2 := Lib.hid hw2
  go_enter Try.func32, Try.ntmps32
  go_wp2_with (go_at_call 28; refine (many_own A cA N fs _ (by simp only [World.size_alloc]; omega) (hA.below hbx hN) hsm).mono ?_; rintro e w1 ⟨⟨B, c, rs, rfl, hrs, ho, hfar⟩, hb1⟩; rw [World.size_alloc] at hb1 ho)
  have hrl : rs.length = fs.length := by rw [← hrs, List.length_map]
  obtain ⟨g, c', hv, _, hgl⟩ := World.ownsRow.form ho (by omega)
  obtain ⟨rfl, rfl⟩ : B = some ⟨g, 0, none⟩ ∧ c = c' := by injection hv with h1 _ h2; exact ⟨h1, h2⟩
  have hsmr := Lib.hid (fun (r : Rw) (hr : r ∈ rs) => hsm.2 r.f (by rw [← hrs]; exact List.mem_map_of_mem hr))
  replace hrs := Lib.hid hrs
  clear hv
  go_loopw [4] (fun k wr => ∃ (i : Nat) (rs' : List Rw), k = .int .i64 i ∧ i ≤ tl.length ∧ rs'.length = fs.length ∧ (∀ r, r ∈ rs' ↔ r ∈ rs) ∧ Owns wr (w.heap.size + 1) 39 7 eRw (some ⟨g, 0, none⟩) c rs' ∧ (∀ r ∈ rs', FarFl wr (some ⟨g, 0, none⟩) r) ∧ Below (w.heap.size + 1) (box1 w (mixC A T M fs.length cA tl.length cT nm cM twice far more) 68) wr) (fun k _ => tl.length - (intOf k).toNat)
  case atStart => exact ⟨0, rs, rfl, by omega, hrl, fun _ => Iff.rfl, ho, hfar, hb1⟩
  case round =>
    obtain ⟨i, rs', rfl, hi, hrl', hmem, ho', hfar', hb⟩ := hrel
    obtain ⟨hb0, hc, -, hsz⟩ := box1_facts hb
    obtain ⟨k0, k1, k2⟩ := mixC_cells hc
    clear hc ho hfar
    have hglo := (ho'.lo g rfl).1
    have hgw := (ho'.lo g rfl).2
    have hbs := hb.size
    simp only [World.size_alloc] at hbs
    replace hfar' := Lib.hid hfar'
    replace hmem := Lib.hid hmem
    have hrl2 := Lib.hid hrl'
    replace hrl := Lib.hid hrl
    have HT := Lib.hid (hT.below hb0 hN)
    have hoH := Lib.hid ho'
    by_cases hgo : i < tl.length ∧ i < 40
    · obtain ⟨hc1, hc2⟩ := hgo
      obtain ⟨gT, oT, v, hTe, hgT, hv, hcv⟩ := HT.out.int hc1
      subst hTe
      obtain ⟨a, ha⟩ : ∃ a : Nat, amongN v fs.length = a := ⟨(amongN v fs.length).toNat, by have := (amongN_in (v := v) (n := (fs.length : Int)) (by omega)).1; omega⟩
      obtain ⟨b, hbb⟩ : ∃ b : Nat, amongN i fs.length = b := ⟨(amongN i fs.length).toNat, by have := (amongN_in (v := (i : Int)) (n := (fs.length : Int)) (by omega)).1; omega⟩
      have ha1 : a < fs.length := by have := (amongN_in (v := v) (n := (fs.length : Int)) (by omega)).2; omega
      have hb1' : b < fs.length := by have := (amongN_in (v := (i : Int)) (n := (fs.length : Int)) (by omega)).2; omega
      have hwv := Lib.hid (hwf.out v (List.mem_of_getElem? hv.out))
      obtain ⟨ra, hra⟩ : ∃ r, rs'[a]? = some r := ⟨_, List.getElem?_eq_getElem (by omega)⟩
      obtain ⟨rb, hrb⟩ : ∃ r, rs'[b]? = some r := ⟨_, List.getElem?_eq_getElem (by omega)⟩
      have hwi := Lib.hid (show (Lit.int .i64 (i : Int)).wf = true from WalkArith.wf_i64 (by omega))
      replace ha := Lib.hid ha
      replace hbb := Lib.hid hbb
      replace hra := Lib.hid hra
      replace hrb := Lib.hid hrb
      have hai : (a : Int) < fs.length := by omega
      have hbi : (b : Int) < fs.length := by omega
      clear ho' hrl' hA hT hb1 hbx
      go_wp2_with (first
        | (go_at_call 33; with_reducible refine (atN_any v fs.length _ (by omega) hwv.out).mono ?_; rintro e w2 ⟨rfl, rfl⟩; rw [ha.out])
        | (go_at_call 33; with_reducible refine (atN_any (i : Int) fs.length _ (by omega) hwi.out).mono ?_; rintro e w2 ⟨rfl, rfl⟩; rw [hbb.out])
        | (refine wpList_get7 (k := a) rfl (.tmp 36) rfl (by rfl) hoH.out ra hra.out ?_)
        | (refine wpList_get7 (k := b) rfl (.tmp 42) rfl (by rfl) (hoH.out.alloc _) rb hrb.out ?_)
        | (refine wpList_put7 (k := a) rfl (.tmp 44) (.tmp 43) rfl (by rfl) (hoH.out.alloc _) (by rw [hrl2.out]; exact ha1) rb (by rfl) ?_; intro w8 ho8 hg8; have hs8 := hg8.size; rw [World.size_alloc] at hs8; have hbx8 : ∀ j, w8.cell? ⟨wr.heap.size, j, none⟩ = (#[.int .i64 ra.f.e, .int .i64 ra.f.l, .int .i64 ra.f.i, .int .i64 ra.f.c, .int .i64 ra.f.base, .slice ra.X ra.f.slots.length ra.cX, .slice ra.Y ra.f.have_.length ra.cY])[j]? := (fun j => (hg8.cell_far ⟨wr.heap.size, j, none⟩ (by rw [World.size_alloc]; exact Nat.lt_succ_self _) (by intro e; have e2 : wr.heap.size = g := Option.some.inj e; omega)).trans (World.cell?_alloc_at _ _ _ _ rfl)); have z0 := hbx8 0; have z1 := hbx8 1; have z2 := hbx8 2; have z3 := hbx8 3; have z4 := hbx8 4; have z5 := hbx8 5; have z6 := hbx8 6; simp at z0 z1 z2 z3 z4 z5 z6; clear hbx8; replace hg8 := Lib.hid hg8; replace ho8 := Lib.hid ho8)
        | (refine wpList_put7 (k := b) rfl (.tmp 48) (.tmp 47) rfl (by rfl) ho8.out (by rw [List.length_set, hrl2.out]; exact hb1') ra (by rfl) ?_; intro w9 ho9 hg9; have hs9 := hg9.size; replace hg9 := Lib.hid hg9; replace ho9 := Lib.hid ho9)
        | fail)
      have hb9 : Below (w.heap.size + 1) (box1 w _ 68) w9 := ((hb.alloc (by omega) _).grown hg8.out (by simp only [World.size_alloc]; omega) (by intro k hk; have := Option.some.inj hk; omega)).grown hg9.out (by omega) (by intro k hk; have := Option.some.inj hk; omega)
      have hm9 : ∀ r, r ∈ (rs'.set a rb).set b ra ↔ r ∈ rs := fun r => (mem_swap hra.out hrb.out r).trans (hmem.out r)
      have hf9 : ∀ r ∈ (rs'.set a rb).set b ra, FarFl w9 (some ⟨g, 0, none⟩) r := fun r hr => by
        have := hfar'.out r ((mem_swap hra.out hrb.out r).1 hr)
        exact (((this.below ((Below.refl _ _).alloc (Nat.le_refl _) _)).grown hg8.out (.inl rfl)).grown hg9.out (.inl rfl))
      replace hm9 := Lib.hid hm9
      replace hf9 := Lib.hid hf9
      clear z0 z1 z2 z3 z4 z5 z6
      go_wp2
      go_roundw
      case rel => go_light; exact ⟨i + 1, (rs'.set a rb).set b ra, by go_num, by omega, by rw [List.length_set, List.length_set]; exact hrl2.out, hm9.out, ho9.out, hf9.out, hb9⟩
      case measure => go_light; simp [intOf]; omega
    · have hmf : ∀ f, f ∈ rs'.map Rw.f ↔ f ∈ fs := fun f => by
        rw [← hrs.out, List.mem_map, List.mem_map]
        exact ⟨fun ⟨r, hr, e⟩ => ⟨r, (hmem.out r).1 hr, e⟩, fun ⟨r, hr, e⟩ => ⟨r, (hmem.out r).2 hr, e⟩⟩
      replace hmf := Lib.hid hmf
      by_cases h16 : fs.length < 16
      · obtain ⟨d, hd⟩ : ∃ d : Nat, amongN twice fs.length = d := ⟨(amongN twice fs.length).toNat, by have := (amongN_in (v := twice) (n := (fs.length : Int)) (by omega)).1; omega⟩
        have hd1 : d < fs.length := by have := (amongN_in (v := twice) (n := (fs.length : Int)) (by omega)).2; omega
        obtain ⟨r, hr⟩ : ∃ r, rs'[d]? = some r := ⟨_, List.getElem?_eq_getElem (by omega)⟩
        have hrm := List.mem_of_getElem? hr
        obtain ⟨hs1, hs2⟩ := hsmr.out r ((hmem.out r).1 hrm)
        have hfr := Lib.hid (hfar'.out r hrm).1
        have hdi : (d : Int) < fs.length := by omega
        replace hd := Lib.hid hd
        replace hr := Lib.hid hr
        replace hrm := Lib.hid hrm
        have hlo := Lib.hid (hoH.out.lo)
        have hrf : r.f ∈ fs := (hmf.out r.f).1 (List.mem_map_of_mem hrm.out)
        replace hrf := Lib.hid hrf
        clear ho' hrl' hA hT hb1 hbx
        by_cases hc1 : i < tl.length
        all_goals first | (have hc2 : ¬ i < 40 := (fun h => hgo ⟨hc1, h⟩)) | skip
        all_goals
          clear hgo
          go_wp2_with (first
            | (go_at_call 33; refine (atN_any twice fs.length _ (by omega) hw2.out).mono ?_; rintro e w2 ⟨rfl, rfl⟩; rw [hd.out])
            | (refine wpList_get7 (k := d) rfl (.tmp 59) rfl (by rfl) hoH.out r hr.out ?_)
            | (go_at_call 38; refine (one_any r.f r.X r.Y r.cX r.cY wr.heap.size wr (Nat.le_refl _) hfr.out (by omega) (by omega)).mono ?_; rintro e w1' ⟨⟨X1, cX1, Y1, cY1, rfl, hfr1, hX1, hY1⟩, hb1⟩; replace hX1 := Lib.hid hX1; replace hY1 := Lib.hid hY1; replace hfr1 := Lib.hid hfr1; have hs1' := hb1.size)
            | (at_builtin; refine wpList_append_rows _ rfl (.tmp 52) (.tmp 62) 22 rfl (w.heap.size + 1) 39 7 88 _ Try.underlying22 info39 rfl (by decide) eRw len_eRw one_eRw (some ⟨g, 0, none⟩) c rs' (some ⟨w1'.heap.size, 0, none⟩) 1 (w1'.heap.size + 1) fs.length 1 [⟨r.f, X1, cX1, Y1, cY1⟩] rfl rfl hrl2.out rfl ((hoH.out.keep hb1 (fun k hk => (hlo.out k hk).2)).alloc _) (row_new _ _ _ _ _ _ rfl) (by omega) (by omega) (by simp; omega) ?_; intro A3 cc3 w3 ho3 hg3 hk3)
            | fail)
          have hb13 : Below w1'.heap.size w1' (w1'.alloc (.cells #[.int .i64 r.f.e, .int .i64 r.f.l, .int .i64 r.f.i, .int .i64 r.f.c, .int .i64 r.f.base, .slice X1 r.f.slots.length cX1, .slice Y1 r.f.have_.length cY1] 39)) := (Below.refl _ _).alloc (Nat.le_refl _) _
          have hnew : FarFl w1' (some ⟨g, 0, none⟩) ⟨r.f, X1, cX1, Y1, cY1⟩ := ⟨hfr1.out, FarRow.of_row hX1.out (fun k hk => (hlo.out k hk).2), FarRow.of_row hY1.out (fun k hk => (hlo.out k hk).2)⟩
          have hb03 : Below w.heap.size w w3 := ((hb0.trans (hb1.mono (by omega))).alloc (by omega) _).grown hg3 (by simp only [World.size_alloc]; omega) (by intro k hk; have := (hlo.out k hk).1; omega)
          have hfar3 : ∀ q ∈ rs' ++ [⟨r.f, X1, cX1, Y1, cY1⟩], FarFl w3 A3 q := fun q hq => by
            rcases List.mem_append.1 hq with h | h
            · exact (((hfar'.out q h).below hb1).below hb13).grown hg3 hk3
            · obtain rfl := List.mem_singleton.1 h
              exact (hnew.below hb13).grown hg3 hk3
          have hF3 : Fls w3 w3.heap.size A3 ((rs' ++ [(⟨r.f, X1, cX1, Y1, cY1⟩ : Rw)]).map Rw.f) := rows_fls ⟨ho3.row len_eRw, fun q hq => (hfar3 q hq).1⟩
          have hm3 : SameMem ((rs' ++ [(⟨r.f, X1, cX1, Y1, cY1⟩ : Rw)]).map Rw.f) fs := fun f => by
            rw [List.map_append, List.mem_append, List.map_cons, List.map_nil, List.mem_singleton]
            refine ⟨fun h => ?_, fun h => .inl ((hmf.out f).2 h)⟩
            rcases h with h | h
            · exact (hmf.out f).1 h
            · rw [h]; exact hrf.out
          have hl3 : ((rs' ++ [(⟨r.f, X1, cX1, Y1, cY1⟩ : Rw)]).map Rw.f).length = fs.length + 1 := by rw [List.length_map, List.length_append, hrl2.out]; rfl
          generalize (rs' ++ [(⟨r.f, X1, cX1, Y1, cY1⟩ : Rw)]).map Rw.f = gs at hF3 hm3 hl3
          replace hF3 := Lib.hid hF3
          replace hm3 := Lib.hid hm3
          replace hl3 := Lib.hid hl3
          clear hg3 hk3 hnew hb13 hfar3 ho3
          go_wp2
          go_ret
          exact ⟨⟨A3, cc3, gs, by rw [hl3.out]; rfl, hm3.out, hF3.out, by rw [hl3.out]; omega, by rw [hl3.out]; omega⟩, hb03⟩
      · have hF : Fls wr wr.heap.size (some ⟨g, 0, none⟩) (rs'.map Rw.f) := rows_fls ⟨hoH.out.row len_eRw, fun q hq => (hfar'.out q hq).1⟩
        have hl3 : (rs'.map Rw.f).length = fs.length := by rw [List.length_map]; exact hrl2.out
        generalize rs'.map Rw.f = gs at hF hmf hl3
        replace hF := Lib.hid hF
        replace hl3 := Lib.hid hl3
        clear ho' hrl' hA hT hb1 hbx
        by_cases hc1 : i < tl.length
        all_goals first | (have hc2 : ¬ i < 40 := (fun h => hgo ⟨hc1, h⟩)) | skip
        all_goals
          clear hgo
          go_wp2
          go_ret
          exact ⟨⟨_, c, gs, by rw [hl3.out]; rfl, hmf.out, hF.out, by rw [hl3.out]; omega, by rw [hl3.out]; omega⟩, hb0⟩
end Go.Proofs.Ytcffhfcjfjfokaa
/- The law's (Mix).whole, where a message is not at hand: no. -/
namespace Go.Proofs.Ytcffhfcjfjfokaa
open Go.RowKit
/-- Is the slot's message among the first k? -/
def hereTo (ds : List Dt) (x y : Int) (k : Nat) : Bool := (ds.take k).any fun d => decide (d.s = x ∧ d.q = y)
theorem hereTo_succ {ds : List Dt} {x y : Int} {k : Nat} {d : Dt} (h : ds[k]? = some d) : hereTo ds x y (k + 1) = (hereTo ds x y k || decide (d.s = x ∧ d.q = y)) := by
  unfold hereTo
  rw [List.take_add_one, h, List.any_append]; simp
theorem hereTo_no {ds : List Dt} {x y : Int} (h : ∀ d ∈ ds, ¬ (d.s = x ∧ d.q = y)) (k : Nat) : hereTo ds x y k = false := by
  unfold hereTo
  rw [List.any_eq_false]
  intro d hd
  simpa using h d (List.mem_of_mem_take hd)
set_option maxRecDepth 100000 in
set_option maxHeartbeats 4000000 in
theorem whole_no (A T M : Option Addr) (cA nt cT cM N : Nat) (fs : List Fl) (ds : List Dt) (twice far more near cut : Int) (j : Nat) (w : World) (hN : N ≤ w.heap.size) (hA : Fls w N A fs) (hM : Dts w N M ds) (hl : fs.length ≤ 9223372036854775807) (hld : ds.length ≤ 9223372036854775807)
    (hbs : ∀ f ∈ fs, 0 ≤ f.base ∧ f.base ≤ 4611686018427387904) (h0 : 0 ≤ near) (hj : near + j < cut) (hcut : cut ≤ 4611686018427387904) (hno : ∀ d ∈ ds, ¬ (d.s = (atOf fs (near + 1 + j)).1 ∧ d.q = (atOf fs (near + 1 + j)).2)) :
    Calls Try.prog 34 #[.agg (mixC A T M fs.length cA nt cT ds.length cM twice far more), .int .i64 near, .int .i64 cut] w fun x w' => x = .returned (.bool false) ∧ Below w.heap.size w w' := by
  replace hbs := Lib.hid hbs
  replace hno := Lib.hid hno
  go_enter Try.func34, Try.ntmps34
  go_wp2
  go_loopw [7] (fun k wr => ∃ i : Nat, k = .int .i64 (near + i) ∧ i ≤ j ∧ Below (w.heap.size + 1) (box1 w (mixC A T M fs.length cA nt cT ds.length cM twice far more) 68) wr) (fun k _ => (cut - intOf k).toNat)
  case atStart => exact ⟨0, by simp, by omega, Below.refl _ _⟩
  case round =>
    obtain ⟨i, rfl, hi, hb⟩ := hrel
    obtain ⟨hb0, hc, -, hsz⟩ := box1_facts hb
    obtain ⟨k0, -, -⟩ := mixC_cells hc
    obtain ⟨-, -, k5⟩ := mixC_cells2 hc
    clear hc
    have hlt : near + i < cut := by omega
    have hsr := hb.size
    simp only [World.size_alloc] at hsr
    obtain ⟨x, hx⟩ : ∃ x : Int, (atOf fs (near + i + 1)).1 = x := ⟨_, rfl⟩
    obtain ⟨y, hy⟩ : ∃ y : Int, (atOf fs (near + i + 1)).2 = y := ⟨_, rfl⟩
    have hjn : Hid (i = j → ∀ k, hereTo ds x y k = false) := fun e => by
      subst e
      refine hereTo_no fun d hd => ?_
      rw [← hx, ← hy, show near + i + 1 = near + 1 + i by omega]
      exact hno.out d hd
    replace hx := Lib.hid hx
    replace hy := Lib.hid hy
    go_wp2_with (go_at_call 31; refine (at_any A cA N fs (near + i + 1) _ (by omega) (hA.below hb0 hN) hl (by omega) (by omega) hbs.out).mono ?_; rintro e w1 ⟨rfl, hb1⟩; rw [hx.out, hy.out])
    have hb01 := hb.trans (hb1.mono (by omega))
    have hs1 := hb1.size
    have hb2 := hb01.alloc (by omega) (.cells #[.int .i64 x, .int .i64 y] 66)
    obtain ⟨w2, hw2⟩ : ∃ w2, w2 = w1.alloc (.cells #[.int .i64 x, .int .i64 y] 66) := ⟨_, rfl⟩
    have e0 : w2.cell? ⟨w1.heap.size, 0, none⟩ = some (.int .i64 x) := by rw [hw2]; exact World.cell?_alloc_at _ _ _ _ rfl
    have e1 : w2.cell? ⟨w1.heap.size, 1, none⟩ = some (.int .i64 y) := by rw [hw2]; exact World.cell?_alloc_at _ _ _ _ rfl
    have hs2 : w2.heap.size = w1.heap.size + 1 := by rw [hw2]; simp
    rw [← hw2] at hb2
    rw [← hw2]
    replace hw2 := Lib.hid hw2
    replace hs2 := Lib.hid hs2
    clear k0 k5 hb01
    go_loopw [9, 10] (fun h k wr => ∃ m : Nat, k = .int .i64 m ∧ m ≤ ds.length ∧ h = .bool (hereTo ds x y m) ∧ Below w2.heap.size w2 wr) (fun _ k _ => ds.length - (intOf k).toNat)
    case atStart => exact ⟨0, rfl, by omega, rfl, Below.refl _ _⟩
    case round =>
      obtain ⟨m, rfl, hm, rfl, hbm⟩ := hrel
      have hbr := hb2.trans (hbm.mono (by have := hs2.out; omega))
      obtain ⟨hb0r, hcr, -, hszr⟩ := box1_facts hbr
      obtain ⟨-, -, k5⟩ := mixC_cells2 hcr
      have f0 := (hbm.cell (p := ⟨w1.heap.size, 0, none⟩) (by have := hs2.out; show w1.heap.size < _; omega)).trans e0
      have f1 := (hbm.cell (p := ⟨w1.heap.size, 1, none⟩) (by have := hs2.out; show w1.heap.size < _; omega)).trans e1
      have hsm := hbm.size
      have hw1r : w1.heap.size < wr.heap.size := by have := hs2.out; omega
      clear hcr
      by_cases hltm : m < ds.length
      · obtain ⟨g, o, d, X, cX, hMe, hg, hd, c0, c1, c2, c3, hX⟩ := (hM.below hb0r hN).at_ hltm
        subst hMe
        have hgr : g < wr.heap.size := by omega
        have hst := Lib.hid (hereTo_succ (x := x) (y := y) hd.out)
        clear hX c2 c3
        cases hh : hereTo ds x y m with
        | true =>
          rw [hh] at hst
          have hh2 := Lib.hid hh
          clear hh
          go_wp2
          go_quiet (fail)
          go_wp2
          go_roundw
          case rel => go_light; exact ⟨m + 1, by go_num, by omega, by rw [hst.out]; rfl, below_drewN hbm _⟩
          case measure => go_light; simp [intOf]; omega
        | false =>
          rw [hh] at hst
          have hh2 := Lib.hid hh
          clear hh
          by_cases hs : d.s = x
          · have hsb : (d.s == x) = true := by simp [hs]
            have hsb2 : decide (d.s = x ∧ d.q = y) = (d.q == y) := by simp [hs]; rfl
            replace hst := Lib.hid (hst.out.trans (by rw [hsb2]; rfl) : hereTo ds x y (m + 1) = (d.q == y))
            replace hs := Lib.hid hs
            clear hsb2
            go_wp2
            go_quiet (fail)
            go_wp2
            go_roundw
            case rel => go_light; exact ⟨m + 1, by go_num, by omega, by rw [hst.out], below_drewN hbm _⟩
            case measure => go_light; simp [intOf]; omega
          · have hsb : (d.s == x) = false := by simp [hs]
            have hsb2 : decide (d.s = x ∧ d.q = y) = false := by simp [hs]
            replace hst := Lib.hid (hst.out.trans (by rw [hsb2]; rfl) : hereTo ds x y (m + 1) = false)
            replace hs := Lib.hid hs
            clear hsb2
            go_wp2
            go_quiet (fail)
            go_wp2
            go_roundw
            case rel => go_light; exact ⟨m + 1, by go_num, by omega, by rw [hst.out], below_drewN hbm _⟩
            case measure => go_light; simp [intOf]; omega
      · obtain rfl : m = ds.length := by omega
        cases hh : hereTo ds x y ds.length with
        | false =>
          replace hh := Lib.hid hh
          go_wp2
          go_ret
          exact ⟨rfl, hb0r⟩
        | true =>
          have hij : i < j := by
            rcases Nat.lt_or_ge i j with h | h
            · exact h
            · have := hjn.out (by omega) ds.length; rw [hh] at this; cases this
          replace hh := Lib.hid hh
          go_wp2
          go_roundw
          case rel => go_light; exact ⟨i + 1, by rw [show near + ((i + 1 : Nat) : Int) = near + i + 1 by omega], by omega, hbr⟩
          case measure => go_light; simp [intOf]; omega
end Go.Proofs.Ytcffhfcjfjfokaa
namespace Go.Proofs.Ytcffhfcjfjfokaa
open Go.RowKit Go.Deep Go.ChangeShapes Go.WideShapes
theorem exists_list {α : Type} {P : Nat → α → Prop} : ∀ n, (∀ i, i < n → ∃ x, P i x) → ∃ l : List α, l.length = n ∧ ∀ k x, l[k]? = some x → P k x
  | 0, _ => ⟨[], rfl, by intro k x h; simp at h⟩
  | n + 1, h => by
    obtain ⟨l, hl, hp⟩ := exists_list n (fun i hi => h i (by omega))
    obtain ⟨x, hx⟩ := h n (by omega)
    refine ⟨l ++ [x], by simp [hl], fun k y hy => ?_⟩
    by_cases hk : k < l.length
    · rw [List.getElem?_append_left hk] at hy; exact hp k y hy
    · rw [List.getElem?_append_right (by omega)] at hy
      have := (List.getElem?_eq_some_iff.1 hy).1
      obtain rfl : k = n := by simp at this; omega
      rw [hl] at hy; simp at hy; subst hy; exact hx
theorem cell_lt {w : World} {a : Addr} {u : Value} (h : w.cell? a = some u) : a.block < w.heap.size ∧ a.spot = none := by
  refine ⟨World.block_lt_of_cell? w a h, ?_⟩
  unfold World.cell? at h
  split at h
  · cases hs : a.spot with
    | none => rfl
    | some x => rw [hs] at h; simp at h
  · cases h
namespace bulks
theorem one_le {H : Type} (d : DataW H) : 1 ≤ Rows.uptoBulk d := by
  cases d with
  | lit l => cases l <;> simp [Rows.uptoBulk]
  | nil => simp [Rows.uptoBulk]
  | ptr d => simp [Rows.uptoBulk]
  | slice elems spare => simp [Rows.uptoBulk]
  | agg parts => simp [Rows.uptoBulk]
  | iface t d => simp [Rows.uptoBulk]
  | map entries => simp [Rows.uptoBulk]
  | held h => simp [Rows.uptoBulk]
theorem part_le {H : Type} {d : DataW H} {l : List (DataW H)} (h : d ∈ l) : Rows.uptoBulk d ≤ Rows.uptoBulkAll l := by
  induction l with
  | nil => cases h
  | cons x r ih =>
    simp only [Rows.uptoBulkAll]
    cases List.mem_cons.1 h with
    | inl e => subst e; omega
    | inr e => have := ih e; omega
theorem length_le {H : Type} (l : List (DataW H)) : l.length ≤ Rows.uptoBulkAll l := by
  induction l with
  | nil => simp [Rows.uptoBulkAll]
  | cons x r ih => have := one_le x; simp only [Rows.uptoBulkAll, List.length_cons]; omega
theorem slice_len {H : Type} (elems spare : List (DataW H)) : elems.length ≤ Rows.uptoBulk (.slice elems spare) := by
  have h1 := length_le elems
  simp only [Rows.uptoBulk]; omega
theorem slice_part {H : Type} {d : DataW H} {elems spare : List (DataW H)} (h : d ∈ elems) : Rows.uptoBulk d ≤ Rows.uptoBulk (.slice elems spare) := by
  have h1 := part_le h
  simp only [Rows.uptoBulk]; omega
theorem agg_part {H : Type} {d : DataW H} {parts : List (DataW H)} (h : d ∈ parts) : Rows.uptoBulk d ≤ Rows.uptoBulk (.agg parts) := by
  have h1 := part_le h
  simp only [Rows.uptoBulk]; omega
end bulks
section
variable {H : Type} {enc : TypeId × Value → H} {P : Program} {W : World} {sp : Nat → Bool}
/-- A slice that came in, whatever its elements: a row of what each element reads as. -/
theorem open_row {α : Type} {t e : TypeId} {sz : Nat} (ht : P.underlying t = some (.slice e)) (hc : P.cellsOf e = sz) (hsz : 0 < sz) (ec : α → List Value) (Q : α → Nat → Prop)
    (helem : ∀ (n : Nat) (cs : List Value) (y : DataW H × List MemPlace), DataW.trod enc P W 0 sp true n e cs = some y → ∃ x, cs = ec x ∧ Q x (Rows.uptoBulk y.1))
    {fuel : Nat} {v : Value} {x : DataW H × List MemPlace} (h : DataW.trod enc P W 0 sp true fuel t [v] = some x) :
    ∃ (A : Option Addr) (l : List α) (c : Nat), v = .slice A l.length c ∧ RowAt W W.heap.size sz ec A l ∧ l.length ≤ c ∧ c ≤ 9223372036854775807 ∧ l.length ≤ Rows.uptoBulk x.1 ∧ ∀ y ∈ l, ∃ b, b ≤ Rows.uptoBulk x.1 ∧ Q y b := by
  rcases open_slice ht h with ⟨h1, rfl⟩ | ⟨a, len, cap, m, n, D, Pl, h1, _, hl, hm, hmm, rfl, hi⟩
  · obtain rfl := (List.cons.inj h1).1
    exact ⟨none, [], 0, rfl, fun h => absurd h (by simp), by simp, by omega, by simp, by simp⟩
  · obtain rfl := (List.cons.inj h1).1
    obtain ⟨l, hll, hp⟩ := exists_list (P := fun i (y : α) => W.cells? 0 (a.add (i * sz)) sz = some (ec y) ∧ Q y (Rows.uptoBulk (D i))) len (fun i hil => by
      obtain ⟨cs, h2, h3⟩ := hi i (by rw [hmm]; split <;> omega)
      obtain ⟨y, rfl, hq⟩ := helem n cs _ h3
      rw [hc] at h2
      exact ⟨y, h2, hq⟩)
    refine ⟨some a, l, cap, by rw [hll], fun h0 => ?_, by omega, by unfold maxLen at hm; omega, ?_, fun y hy => ?_⟩
    · have g0 := hp 0 l[0] (List.getElem?_eq_getElem h0)
      obtain ⟨_, hlen, hcell⟩ := World.cells?_some g0.1
      have c0 := hcell 0 hsz
      have e0 : (a.add (0 * sz)).add 0 = a := by simp [Addr.add]
      rw [e0, List.getElem?_eq_getElem (by omega)] at c0
      obtain ⟨hb, hs⟩ := cell_lt c0
      have ha : a = ⟨a.block, a.off, none⟩ := by cases a; simp at hs; simp [hs]
      refine ⟨a.block, a.off, by rw [← ha], hb, fun k y hk j u hu => ?_⟩
      obtain ⟨g1, _⟩ := hp k y hk
      obtain ⟨_, hlen', hcell'⟩ := World.cells?_some g1
      have hj : j < sz := by have := (List.getElem?_eq_some_iff.1 hu).1; omega
      have := hcell' j hj
      rw [hu, ha, Addr.add_lit, Addr.add_lit] at this
      exact this
    · have := bulks.slice_len ((List.range len).map D) ((List.range (m - len)).map fun j => D (len + j))
      rw [List.length_map, List.length_range] at this
      rw [hll]; exact this
    · obtain ⟨k, hk⟩ := List.mem_iff_getElem?.1 hy
      have hkl := (List.getElem?_eq_some_iff.1 hk).1
      refine ⟨_, bulks.slice_part (List.mem_map.2 ⟨k, List.mem_range.2 (by omega), rfl⟩), (hp k y hk).2⟩
end
theorem cells39 : Try.prog.cellsOf 39 = 7 := by kernel_rfl
theorem cells35 : Try.prog.cellsOf 35 = 4 := by kernel_rfl
theorem cells36 : Try.prog.cellsOf 36 = 1 := by kernel_rfl
theorem cells37 : Try.prog.cellsOf 37 = 1 := by kernel_rfl
theorem cells66' : Try.prog.cellsOf 66 = 2 := by kernel_rfl
theorem cells3' : Try.prog.cellsOf 3 = 1 := by kernel_rfl
section
variable {H : Type} {enc : TypeId × Value → H} {W : World} {sp : Nat → Bool}
theorem elem3 (n : Nat) (cs : List Value) (y : DataW H × List MemPlace) (h : DataW.trod enc Try.prog W 0 sp true n 3 cs = some y) : ∃ x, cs = eInt x ∧ True := by
  obtain ⟨z, hz, _⟩ := DataW.trod_int Try.underlying3 h
  exact ⟨z, hz, trivial⟩
set_option maxRecDepth 100000 in
theorem elem66 (n : Nat) (cs : List Value) (y : DataW H × List MemPlace) (h : DataW.trod enc Try.prog W 0 sp true n 66 cs = some y) : ∃ x, cs = eSlot x ∧ True := by
  obtain ⟨ys, m, _, _, hlen, hyl, hf⟩ := DataW.trod_struct Try.underlying66 h
  rw [cells66'] at hlen
  match cs, hlen with
  | [u, v], _ =>
    have h0 : DataW.trod enc Try.prog W 0 sp true m 3 (([u, v].drop 0).take (Try.prog.cellsOf 3)) = ys[0]? := hf 0 _ rfl
    have h1 : DataW.trod enc Try.prog W 0 sp true m 3 (([u, v].drop 1).take (Try.prog.cellsOf 3)) = ys[1]? := hf 1 _ rfl
    rw [cells3'] at h0 h1
    rw [List.getElem?_eq_getElem (by rw [hyl]; decide)] at h0 h1
    obtain ⟨a, ha, _⟩ := DataW.trod_int Try.underlying3 h0
    obtain ⟨b, hb, _⟩ := DataW.trod_int Try.underlying3 h1
    simp at ha hb
    exact ⟨(a, b), by simp [eSlot, ha, hb], trivial⟩
def FlQ (W : World) (r : Rw) (b : Nat) : Prop := FlRows W W.heap.size r.f r.X r.cX r.Y r.cY ∧ r.f.slots.length ≤ b ∧ r.f.have_.length ≤ b
set_option maxRecDepth 100000 in
theorem elem39 (n : Nat) (cs : List Value) (y : DataW H × List MemPlace) (h : DataW.trod enc Try.prog W 0 sp true n 39 cs = some y) : ∃ r, cs = eRw r ∧ FlQ W r (Rows.uptoBulk y.1) := by
  obtain ⟨ys, m, _, rfl, hlen, hyl, hf⟩ := DataW.trod_struct Try.underlying39 h
  rw [cells39] at hlen
  have hyl4 : ys.length = 4 := hyl
  match cs, hlen with
  | [u0, u1, u2, u3, u4, u5, u6], _ =>
    match ys, hyl4 with
    | [y0, y1, y2, y3], _ =>
      have h0 : DataW.trod enc Try.prog W 0 sp true m 35 (([u0, u1, u2, u3, u4, u5, u6].drop 0).take (Try.prog.cellsOf 35)) = some y0 := hf 0 _ rfl
      have h1 : DataW.trod enc Try.prog W 0 sp true m 3 (([u0, u1, u2, u3, u4, u5, u6].drop 4).take (Try.prog.cellsOf 3)) = some y1 := hf 1 _ rfl
      have h2 : DataW.trod enc Try.prog W 0 sp true m 36 (([u0, u1, u2, u3, u4, u5, u6].drop 5).take (Try.prog.cellsOf 36)) = some y2 := hf 2 _ rfl
      have h3 : DataW.trod enc Try.prog W 0 sp true m 37 (([u0, u1, u2, u3, u4, u5, u6].drop 6).take (Try.prog.cellsOf 37)) = some y3 := hf 3 _ rfl
      rw [cells35] at h0
      rw [cells3'] at h1
      rw [cells36] at h2
      rw [cells37] at h3
      simp only [List.drop_zero, List.drop_succ_cons, List.take_succ_cons, List.take_zero] at h0 h1 h2 h3
      obtain ⟨zs, k, _, _, hl4, hzl, hg⟩ := DataW.trod_struct Try.underlying35 h0
      have hz4 : zs.length = 4 := hzl
      have g0 : DataW.trod enc Try.prog W 0 sp true k 3 (([u0, u1, u2, u3].drop 0).take (Try.prog.cellsOf 3)) = zs[0]? := hg 0 _ rfl
      have g1 : DataW.trod enc Try.prog W 0 sp true k 3 (([u0, u1, u2, u3].drop 1).take (Try.prog.cellsOf 3)) = zs[1]? := hg 1 _ rfl
      have g2 : DataW.trod enc Try.prog W 0 sp true k 3 (([u0, u1, u2, u3].drop 2).take (Try.prog.cellsOf 3)) = zs[2]? := hg 2 _ rfl
      have g3 : DataW.trod enc Try.prog W 0 sp true k 3 (([u0, u1, u2, u3].drop 3).take (Try.prog.cellsOf 3)) = zs[3]? := hg 3 _ rfl
      rw [cells3'] at g0 g1 g2 g3
      rw [List.getElem?_eq_getElem (by rw [hz4]; decide)] at g0 g1 g2 g3
      obtain ⟨e, he, _⟩ := DataW.trod_int Try.underlying3 g0
      obtain ⟨l, hl, _⟩ := DataW.trod_int Try.underlying3 g1
      obtain ⟨i, hi, _⟩ := DataW.trod_int Try.underlying3 g2
      obtain ⟨c, hc, _⟩ := DataW.trod_int Try.underlying3 g3
      obtain ⟨b, hb, _⟩ := DataW.trod_int Try.underlying3 h1
      simp at he hl hi hc hb
      obtain ⟨X, s, cX, hX, r1, r2, r3, r4, _⟩ := open_row Try.underlying36 cells66' (by decide) eSlot (fun _ _ => True) elem66 h2
      obtain ⟨Y, hh, cY, hY, q1, q2, q3, q4, _⟩ := open_row Try.underlying37 cells3' (by decide) eInt (fun _ _ => True) elem3 h3
      refine ⟨⟨⟨e, l, i, c, b, s, hh⟩, X, cX, Y, cY⟩, by simp [eRw, he, hl, hi, hc, hb, hX, hY], ⟨r1, q1, r2, r3, q2, q3⟩, ?_, ?_⟩
      · exact Nat.le_trans r4 (bulks.agg_part (by simp))
      · exact Nat.le_trans q4 (bulks.agg_part (by simp))
/-- A list of contents that came in. -/
theorem open22 {fuel : Nat} {v : Value} {x : DataW H × List MemPlace} (h : DataW.trod enc Try.prog W 0 sp true fuel 22 [v] = some x) :
    ∃ (A : Option Addr) (fs : List Fl) (c : Nat), v = .slice A fs.length c ∧ Fls W W.heap.size A fs ∧ fs.length ≤ c ∧ c ≤ 9223372036854775807 ∧ fs.length ≤ Rows.uptoBulk x.1 ∧ ∀ f ∈ fs, f.slots.length ≤ Rows.uptoBulk x.1 ∧ f.have_.length ≤ Rows.uptoBulk x.1 := by
  obtain ⟨A, rs, c, rfl, h1, h2, h3, h4, h5⟩ := open_row Try.underlying22 cells39 (by decide) eRw (FlQ W) elem39 h
  refine ⟨A, rs.map Rw.f, c, by simp, rows_fls ⟨h1, fun r hr => by obtain ⟨b, _, hq⟩ := h5 r hr; exact hq.1⟩, by simpa using h2, h3, by simpa using h4, fun f hf => ?_⟩
  obtain ⟨r, hr, rfl⟩ := List.mem_map.1 hf
  obtain ⟨b, hb, hq⟩ := h5 r hr
  exact ⟨Nat.le_trans hq.2.1 hb, Nat.le_trans hq.2.2 hb⟩
end
end Go.Proofs.Ytcffhfcjfjfokaa
namespace Go.Proofs.Ytcffhfcjfjfokaa
open Go.RowKit Go.Deep Go.ChangeShapes Go.WideShapes
theorem more_one {fs gs : List Fl} {a b : Int} (h : ListedMore fs gs a) (k : ListedMore fs gs b) : a = b := by
  unfold ListedMore at h k
  split at h
  · rename_i hc; rw [if_pos hc] at k; exact together_one h k
  · rename_i hc; rw [if_neg hc] at k; rw [h, k]
theorem lacks_one {done : Int} {own : Fl} {fs : List Fl} {l l' : List (Int × Int)} {n n' : Int} (h : LacksIs done own fs l n) (k : LacksIs done own fs l' n') : l = l' ∧ n = n' := by
  unfold LacksIs at h k
  by_cases hd : 0 ≤ done ∧ done ≤ 4611686018427387904
  · rw [if_pos hd] at h k
    rcases h with ⟨m, hm, hL, rfl, rfl⟩ | ⟨hL, hf, hlt, rfl, rfl⟩ | ⟨hL, hf, hge, rfl, cut, F, hc, hF, rfl⟩ <;>
      rcases k with ⟨m', hm', hL', rfl, rfl⟩ | ⟨hL', hf', hlt', rfl, rfl⟩ | ⟨hL', hf', hge', rfl, cut', F', hc', hF', rfl⟩
    · exact ⟨rfl, more_one hL hL'⟩
    · exact absurd (more_one hL hL') hm
    · exact absurd (more_one hL hL') hm
    · exact absurd (more_one hL' hL) hm'
    · exact ⟨rfl, rfl⟩
    · omega
    · exact absurd (more_one hL' hL) hm'
    · omega
    · obtain rfl := cut_one hc hc'
      have : F = F' := funext fun pos => Option.ext fun s => by rw [hF pos s, hF' pos s]
      subst this
      exact ⟨rfl, rfl⟩
  · rw [if_neg hd] at h k
    exact ⟨by rw [h.2, k.2], by rw [h.1, k.1]⟩
theorem cells22' : Try.prog.cellsOf 22 = 1 := by kernel_rfl
theorem cells42 : Try.prog.cellsOf 42 = 13 := by kernel_rfl
section
variable {H : Type} {enc : TypeId × Value → H} {W : World} {sp : Nat → Bool}
set_option maxRecDepth 100000 in
/-- A case that came in: its contents, its own one, how far it is. -/
theorem open42 {fuel : Nat} {cs : List Value} {x : DataW H × List MemPlace} (h : DataW.trod enc Try.prog W 0 sp true fuel 42 cs = some x) :
    ∃ (A : Option Addr) (fs : List Fl) (c : Nat) (own : Fl) (X Y : Option Addr) (cX cY : Nat) (done : Int) (u : List Value), cs = .slice A fs.length c :: (flc own.e own.l own.i own.c own.base X own.slots.length cX Y own.have_.length cY).toList ++ .int .i64 done :: u ∧ u.length = 4 ∧
      Fls W W.heap.size A fs ∧ fs.length ≤ Rows.uptoBulk x.1 ∧ (∀ f ∈ fs, f.slots.length ≤ Rows.uptoBulk x.1 ∧ f.have_.length ≤ Rows.uptoBulk x.1) ∧ FlRows W W.heap.size own X cX Y cY ∧ own.slots.length ≤ Rows.uptoBulk x.1 ∧ own.have_.length ≤ Rows.uptoBulk x.1 := by
  obtain ⟨ys, m, _, rfl, hlen, hyl, hf⟩ := DataW.trod_struct Try.underlying42 h
  rw [cells42] at hlen
  have hyl7 : ys.length = 7 := hyl
  match cs, hlen with
  | [u0, u1, u2, u3, u4, u5, u6, u7, u8, u9, u10, u11, u12], _ =>
    match ys, hyl7 with
    | [y0, y1, y2, y3, y4, y5, y6], _ =>
      have h0 : DataW.trod enc Try.prog W 0 sp true m 22 (([u0, u1, u2, u3, u4, u5, u6, u7, u8, u9, u10, u11, u12].drop 0).take (Try.prog.cellsOf 22)) = some y0 := hf 0 _ rfl
      have h1 : DataW.trod enc Try.prog W 0 sp true m 39 (([u0, u1, u2, u3, u4, u5, u6, u7, u8, u9, u10, u11, u12].drop 1).take (Try.prog.cellsOf 39)) = some y1 := hf 1 _ rfl
      have h2 : DataW.trod enc Try.prog W 0 sp true m 3 (([u0, u1, u2, u3, u4, u5, u6, u7, u8, u9, u10, u11, u12].drop 8).take (Try.prog.cellsOf 3)) = some y2 := hf 2 _ rfl
      rw [cells22'] at h0
      rw [cells39] at h1
      rw [cells3'] at h2
      simp only [List.drop_zero, List.drop_succ_cons, List.take_succ_cons, List.take_zero] at h0 h1 h2
      obtain ⟨d, hd, _⟩ := DataW.trod_int Try.underlying3 h2
      obtain ⟨r, hr, hq⟩ := elem39 m _ y1 h1
      obtain ⟨A, fs, c, hA, a1, a2, a3, a4, a5⟩ := open22 h0
      have b0 : Rows.uptoBulk y0.1 ≤ Rows.uptoBulk (.agg ([y0, y1, y2, y3, y4, y5, y6].map (·.1))) := bulks.agg_part (by simp)
      have b1 : Rows.uptoBulk y1.1 ≤ Rows.uptoBulk (.agg ([y0, y1, y2, y3, y4, y5, y6].map (·.1))) := bulks.agg_part (by simp)
      simp at hd
      refine ⟨A, fs, c, r.f, r.X, r.Y, r.cX, r.cY, d, [u9, u10, u11, u12], ?_, rfl, a1, Nat.le_trans a4 b0, fun f hf => ⟨Nat.le_trans (a5 f hf).1 b0, Nat.le_trans (a5 f hf).2 b0⟩, hq.1, Nat.le_trans hq.2.1 b1, Nat.le_trans hq.2.2 b1⟩
      rw [hA, hd]
      simp [eRw] at hr
      simp [flc, hr]
end
end Go.Proofs.Ytcffhfcjfjfokaa
/- A case that came in, with its messages. -/
namespace Go.Proofs.Ytcffhfcjfjfokaa
open Go.RowKit Go.Deep Go.ChangeShapes Go.WideShapes
theorem cells113 : Try.prog.cellsOf 113 = 4 := by kernel_rfl
theorem cells40 : Try.prog.cellsOf 40 = 1 := by kernel_rfl
theorem cells52 : Try.prog.cellsOf 52 = 1 := by kernel_rfl
theorem cells5 : Try.prog.cellsOf 5 = 1 := by kernel_rfl
section
variable {H : Type} {enc : TypeId × Value → H} {W : World} {sp : Nat → Bool}
theorem elem5 (n : Nat) (cs : List Value) (y : DataW H × List MemPlace) (h : DataW.trod enc Try.prog W 0 sp true n 5 cs = some y) : ∃ x, cs = eByte x ∧ True := by
  obtain ⟨z, hz, _⟩ := DataW.trod_int Try.underlying5 h
  exact ⟨z, hz, trivial⟩
def DtQ (W : World) (r : Dr) (b : Nat) : Prop := BodyAt W W.heap.size r.B r.c r.d.body ∧ r.d.body.length ≤ b ∧ (Lit.int .i64 r.d.s).wf = true ∧ (Lit.int .i64 r.d.q).wf = true
set_option maxRecDepth 100000 in
theorem elem113 (n : Nat) (cs : List Value) (y : DataW H × List MemPlace) (h : DataW.trod enc Try.prog W 0 sp true n 113 cs = some y) : ∃ r, cs = eDr r ∧ DtQ W r (Rows.uptoBulk y.1) := by
  obtain ⟨ys, m, _, rfl, hlen, hyl, hf⟩ := DataW.trod_struct Try.underlying113 h
  rw [cells113] at hlen
  have hyl4 : ys.length = 4 := hyl
  match cs, hlen with
  | [u0, u1, u2, u3], _ =>
    match ys, hyl4 with
    | [y0, y1, y2, y3], _ =>
      have h0 : DataW.trod enc Try.prog W 0 sp true m 3 (([u0, u1, u2, u3].drop 0).take (Try.prog.cellsOf 3)) = some y0 := hf 0 _ rfl
      have h1 : DataW.trod enc Try.prog W 0 sp true m 3 (([u0, u1, u2, u3].drop 1).take (Try.prog.cellsOf 3)) = some y1 := hf 1 _ rfl
      have h2 : DataW.trod enc Try.prog W 0 sp true m 3 (([u0, u1, u2, u3].drop 2).take (Try.prog.cellsOf 3)) = some y2 := hf 2 _ rfl
      have h3 : DataW.trod enc Try.prog W 0 sp true m 52 (([u0, u1, u2, u3].drop 3).take (Try.prog.cellsOf 52)) = some y3 := hf 3 _ rfl
      rw [cells3'] at h0 h1 h2
      rw [cells52] at h3
      simp only [List.drop_zero, List.drop_succ_cons, List.take_succ_cons, List.take_zero] at h0 h1 h2 h3
      obtain ⟨a, ha, _, hwa⟩ := DataW.trod_int Try.underlying3 h0
      obtain ⟨b, hb, _, hwb⟩ := DataW.trod_int Try.underlying3 h1
      obtain ⟨c, hc, _⟩ := DataW.trod_int Try.underlying3 h2
      simp at ha hb hc
      obtain ⟨X, s, cX, hX, r1, r2, r3, r4, _⟩ := open_row Try.underlying52 cells5 (by decide) eByte (fun _ _ => True) elem5 h3
      refine ⟨⟨⟨a, b, c, s⟩, X, cX⟩, by simp [eDr, ha, hb, hc, hX], ⟨r1, r2, r3⟩, Nat.le_trans r4 (bulks.agg_part (by simp)), hwa, hwb⟩
/-- A list of messages that came in. -/
theorem open40 {fuel : Nat} {v : Value} {x : DataW H × List MemPlace} (h : DataW.trod enc Try.prog W 0 sp true fuel 40 [v] = some x) :
    ∃ (A : Option Addr) (ds : List Dt) (c : Nat), v = .slice A ds.length c ∧ Dts W W.heap.size A ds ∧ ds.length ≤ Rows.uptoBulk x.1 ∧ (∀ d ∈ ds, d.body.length ≤ Rows.uptoBulk x.1) ∧ KeyD ds := by
  obtain ⟨A, rs, c, rfl, h1, h2, h3, h4, h5⟩ := open_row Try.underlying40 cells113 (by decide) eDr (DtQ W) elem113 h
  refine ⟨A, rs.map Dr.d, c, by simp, ⟨rs, rfl, h1, fun r hr => by obtain ⟨b, _, hq⟩ := h5 r hr; exact hq.1⟩, by simpa using h4, fun d hd => ?_, fun d hd => ?_⟩
  · obtain ⟨r, hr, rfl⟩ := List.mem_map.1 hd
    obtain ⟨b, hb, hq⟩ := h5 r hr
    exact Nat.le_trans hq.2.1 hb
  · obtain ⟨r, hr, rfl⟩ := List.mem_map.1 hd
    obtain ⟨b, hb, hq⟩ := h5 r hr
    exact hq.2.2
set_option maxRecDepth 100000 in
/-- A case that came in: its contents, how far it is, its messages. -/
theorem open42m {fuel : Nat} {cs : List Value} {x : DataW H × List MemPlace} (h : DataW.trod enc Try.prog W 0 sp true fuel 42 cs = some x) :
    ∃ (A : Option Addr) (fs : List Fl) (c : Nat) (done : Int) (M : Option Addr) (ds : List Dt) (cM : Nat) (u1 u2 u3 u4 u5 u6 u7 u9 u10 u11 : Value), cs = [.slice A fs.length c, u1, u2, u3, u4, u5, u6, u7, .int .i64 done, u9, u10, u11, .slice M ds.length cM] ∧
      Fls W W.heap.size A fs ∧ fs.length ≤ Rows.uptoBulk x.1 ∧ (∀ f ∈ fs, f.slots.length ≤ Rows.uptoBulk x.1 ∧ f.have_.length ≤ Rows.uptoBulk x.1) ∧
      Dts W W.heap.size M ds ∧ ds.length ≤ Rows.uptoBulk x.1 ∧ (∀ d ∈ ds, d.body.length ≤ Rows.uptoBulk x.1) ∧ KeyD ds := by
  obtain ⟨ys, m, _, rfl, hlen, hyl, hf⟩ := DataW.trod_struct Try.underlying42 h
  rw [cells42] at hlen
  have hyl7 : ys.length = 7 := hyl
  match cs, hlen with
  | [u0, u1, u2, u3, u4, u5, u6, u7, u8, u9, u10, u11, u12], _ =>
    match ys, hyl7 with
    | [y0, y1, y2, y3, y4, y5, y6], _ =>
      have h0 : DataW.trod enc Try.prog W 0 sp true m 22 (([u0, u1, u2, u3, u4, u5, u6, u7, u8, u9, u10, u11, u12].drop 0).take (Try.prog.cellsOf 22)) = some y0 := hf 0 _ rfl
      have h2 : DataW.trod enc Try.prog W 0 sp true m 3 (([u0, u1, u2, u3, u4, u5, u6, u7, u8, u9, u10, u11, u12].drop 8).take (Try.prog.cellsOf 3)) = some y2 := hf 2 _ rfl
      have h6 : DataW.trod enc Try.prog W 0 sp true m 40 (([u0, u1, u2, u3, u4, u5, u6, u7, u8, u9, u10, u11, u12].drop 12).take (Try.prog.cellsOf 40)) = some y6 := hf 6 _ rfl
      rw [cells22'] at h0
      rw [cells3'] at h2
      rw [cells40] at h6
      simp only [List.drop_zero, List.drop_succ_cons, List.take_succ_cons, List.take_zero] at h0 h2 h6
      obtain ⟨d, hd, _⟩ := DataW.trod_int Try.underlying3 h2
      obtain ⟨A, fs, c, hA, a1, a2, a3, a4, a5⟩ := open22 h0
      obtain ⟨M, ds, cM, hM, q1, q2, q3, q4⟩ := open40 h6
      have b0 : Rows.uptoBulk y0.1 ≤ Rows.uptoBulk (.agg ([y0, y1, y2, y3, y4, y5, y6].map (·.1))) := bulks.agg_part (by simp)
      have b6 : Rows.uptoBulk y6.1 ≤ Rows.uptoBulk (.agg ([y0, y1, y2, y3, y4, y5, y6].map (·.1))) := bulks.agg_part (by simp)
      simp at hd
      refine ⟨A, fs, c, d, M, ds, cM, u1, u2, u3, u4, u5, u6, u7, u9, u10, u11, ?_, a1, Nat.le_trans a4 b0, fun f hf => ⟨Nat.le_trans (a5 f hf).1 b0, Nat.le_trans (a5 f hf).2 b0⟩, q1, Nat.le_trans q2 b6, fun d hd => Nat.le_trans (q3 d hd) b6, q4⟩
      rw [hA, hd, hM]
end
end Go.Proofs.Ytcffhfcjfjfokaa
/- What the document's Rest answers. -/
namespace Go.Proofs.Ytcffhfcjfjfokaa
open Go.RowKit
theorem find_first {ds : List Dt} {x y : Int} {i : Nat} (h : FindIs ds x y i) : ∃ d, ds[i]? = some d ∧ FirstD ds (x, y) d := by
  rcases h with ⟨e, _⟩ | ⟨j, d, hd, e1, e2, e3, e4⟩
  · omega
  · obtain rfl : i = j := by omega
    exact ⟨d, hd, i, hd, e1, e2, e4⟩
theorem find_none {ds : List Dt} {x y r : Int} (h : FindIs ds x y r) (h0 : r < 0) : ∀ d ∈ ds, ¬ (d.s = x ∧ d.q = y) := by
  rcases h with ⟨_, h⟩ | ⟨j, d, hd, e1, e2, e3, e4⟩
  · exact h
  · omega
theorem find_split {ds : List Dt} {x y r : Int} (h : FindIs ds x y r) : (r < 0 ∧ Hid (∀ d ∈ ds, ¬ (d.s = x ∧ d.q = y))) ∨ ∃ (i : Nat) (d : Dt), r = i ∧ i < ds.length ∧ Hid (ds[i]? = some d) ∧ Hid (FirstD ds (x, y) d) := by
  by_cases h0 : r < 0
  · exact .inl ⟨h0, find_none h h0⟩
  · obtain ⟨i, rfl⟩ : ∃ i : Nat, r = i := ⟨r.toNat, by omega⟩
    obtain ⟨d, hd, hF⟩ := find_first h
    exact .inr ⟨i, d, rfl, (List.getElem?_eq_some_iff.1 hd).1, hd, hF⟩
set_option maxRecDepth 100000 in
set_option maxHeartbeats 4000000 in
theorem rrest_any (done : Int) (A M : Option Addr) (cA cM N : Nat) (fs : List Fl) (ds : List Dt) (w : World) (hN : N ≤ w.heap.size) (hA : Fls w N A fs) (hM : Dts w N M ds) (hl : fs.length ≤ 9223372036854775807) (hsm : SmallD ds) :
    Calls Try.prog 20 #[.int .i64 done, .slice A fs.length cA, .slice M ds.length cM] w (RestPost done fs ds w) := by
  have hld : ds.length ≤ 1048576 := hsm.1
  replace hsm := Lib.hid hsm
  by_cases h1 : done < 0
  · have HL : Hid (RestIs done fs ds [] 1) := by show (if _ then _ else _); rw [if_neg (by omega)]; exact ⟨rfl, rfl⟩
    go_enter Try.func20, Try.ntmps20
    go_wp2
    go_ret2
    go_light
    exact rest_none HL.out (Below.refl _ _)
  · by_cases h2 : 4611686018427387904 < done
    · have HL : Hid (RestIs done fs ds [] 1) := by show (if _ then _ else _); rw [if_neg (by omega)]; exact ⟨rfl, rfl⟩
      go_enter Try.func20, Try.ntmps20
      go_wp2
      go_ret2
      go_light
      exact rest_none HL.out (Below.refl _ _)
    · have H53 := Lib.hid (listed_any A cA N fs w hN hA hl)
      have hRE : ∀ n, n ≠ 0 → Listed fs n → RestIs done fs ds [] n := fun n h0 hn => by unfold RestIs; rw [if_pos (by omega)]; exact .inl ⟨n, h0, hn, rfl, rfl⟩
      have hRF : Listed fs 0 → done < baseOf fs → RestIs done fs ds [] 82 := fun hn hlt => by unfold RestIs; rw [if_pos (by omega)]; exact .inr (.inl ⟨hn, (listed_fit hn).1, hlt, rfl, rfl⟩)
      have hRO : Listed fs 0 → baseOf fs ≤ done → ∀ cut, IsCut fs cut → ∀ ms, RestTo (knownF fs) ds done (cut - done).toNat ms → RestIs done fs ds ms 0 := fun hn hge cut hc ms h => by
        unfold RestIs; rw [if_pos (by omega)]; exact .inr (.inr ⟨hn, (listed_fit hn).1, hge, cut, _, hc, knownF_iff (listed_fit hn).1, .inl ⟨rfl, h⟩⟩)
      have hRL : Listed fs 0 → baseOf fs ≤ done → ∀ cut, IsCut fs cut → RestLacks (knownF fs) ds done (cut - done).toNat → RestIs done fs ds [] 81 := fun hn hge cut hc h => by
        unfold RestIs; rw [if_pos (by omega)]; exact .inr (.inr ⟨hn, (listed_fit hn).1, hge, cut, _, hc, knownF_iff (listed_fit hn).1, .inr ⟨rfl, rfl, h⟩⟩)
      replace hRE := Lib.hid hRE
      replace hRF := Lib.hid hRF
      replace hRO := Lib.hid hRO
      replace hRL := Lib.hid hRL
      go_enter Try.func20, Try.ntmps20
      go_wp2_with (go_at_call 53; refine H53.out.mono ?_; rintro e w3 ⟨⟨n, rfl, hn⟩, hb3⟩; replace hn := Lib.hid hn)
      · go_ret2
        go_light
        have h0 := ‹(n != 0) = true›
        exact rest_none (hRE.out n (by simpa using h0) hn.out) hb3
      · have h0 := ‹(n != 0) = false›
        obtain rfl : n = 0 := by simpa using h0
        have HFit := Lib.hid (listed_fit hn.out).1
        have hl16 := (listed_fit hn.out).2
        have hbp := base_nonneg fs
        have hbq := base_le HFit.out.sound
        have hs3 := hb3.size
        have hbs : ∀ f ∈ fs, 0 ≤ f.base ∧ f.base ≤ 4611686018427387904 := fun f hf => ⟨(HFit.out.sound f hf).base0, by have := (HFit.out.sound f hf).base; omega⟩
        have H54 := Lib.hid (end_any A cA N fs w3 (by omega) (hA.below hb3 hN) hl hbs hbp (fun n h => cut_bound HFit.out h))
        replace hbs := Lib.hid hbs
        refine (base_any A cA N fs w3 (hA.below hb3 hN) hl).mono ?_
        rintro e w4 ⟨rfl, rfl⟩
        by_cases hlt : done < baseOf fs
        · go_wp2
          go_ret2
          go_light
          exact rest_none (hRF.out hn.out hlt) hb3
        · have hge : baseOf fs ≤ done := by omega
          go_wp2_with (go_at_call 54; refine H54.out.mono ?_; rintro e w4 ⟨⟨cut, rfl, hcut⟩, hb4⟩; have hlow := hcut.low; have hcb := cut_bound HFit.out (n := (cut - baseOf fs).toNat) (fun p h1 h2 => hcut.all p h1 (by omega)))
          have hKn : ∀ pos, baseOf fs < pos → pos ≤ cut → ∃ s : Int × Int, knownF fs pos = some s ∧ atOf fs pos = s := fun pos h1 h2 => by
            obtain ⟨s, hs, -⟩ := (whole_iff HFit.out).1 (hcut.all pos h1 h2)
            exact ⟨s, (knownF_iff HFit.out pos s).2 hs, atOf_known HFit.out hs⟩
          have hRO' := Lib.hid (hRO.out hn.out hge cut hcut)
          have hRL' := Lib.hid (hRL.out hn.out hge cut hcut)
          obtain ⟨F, hF0⟩ : ∃ F, F = knownF fs := ⟨_, rfl⟩
          rw [← hF0] at hRO' hRL' hKn
          replace hKn := Lib.hid hKn
          have hs4 := hb4.size
          have hb40 := hb3.trans (hb4.mono hs3)
          clear hF0 hcut hRO hRL hRE hRF H54 hb4
          go_loopw [9, 11] (fun a b wr => ∃ (k : Nat) (B : Option Addr) (c m : Nat) (rs : List Dr), b = .int .i64 (done + k) ∧ a = .slice B m c ∧ rs.length = m ∧ k ≤ (cut - done).toNat ∧ RestTo F ds done k (rs.map Dr.d) ∧ MsOwn wr w4.heap.size B c rs ∧ m ≤ k ∧ Below w4.heap.size w4 wr) (fun _ b _ => (cut - intOf b).toNat)
          case atStart => exact ⟨0, none, 0, 0, [], by simp, rfl, rfl, by omega, .nil, ⟨owns_nil _ _ _ _ _, by simp, List.Pairwise.nil⟩, by omega, Below.refl _ _⟩
          case round =>
            obtain ⟨k, B, c, mm, rs, rfl, rfl, hm, hk, hrt, hown, hmk, hb9⟩ := hrel
            have hm' := Lib.hid hm
            have hs9 := hb9.size
            have hbw9 := hb40.trans (hb9.mono (by omega))
            replace hrt := Lib.hid hrt
            have hlo := hown.row.lo
            clear hm
            by_cases hlt : done + k < cut
            · obtain ⟨⟨x, y⟩, hs, hat⟩ := hKn.out (done + k + 1) (by omega) (by omega)
              have hFk : F (done + 1 + k) = some (x, y) := by rw [show done + 1 + (k : Int) = done + k + 1 by omega]; exact hs
              replace hFk := Lib.hid hFk
              replace hown := Lib.hid hown
              have hfl := hA.below hbw9 hN
              clear hs
              go_wp2_with (first
                | (go_at_call 31; refine (at_any A cA N fs (done + k + 1) wr (by omega) hfl hl (by omega) (by omega) hbs.out).mono ?_; rintro e w5 ⟨rfl, hb5⟩; rw [hat]; have hs5 := hb5.size)
                | (go_at_call 56; have hb6 : Below wr.heap.size wr (w5.alloc (.cells #[.int .i64 x, .int .i64 y] 66)) := hb5.alloc hs5 _; have hbw6 := hbw9.trans (hb6.mono (by omega)); have h56 := find_any M cM N ds x y (w5.alloc (.cells #[.int .i64 x, .int .i64 y] 66)) (by simp only [World.size_alloc]; omega) (hM.below hbw6 hN) (by omega); refine h56.mono ?_; rintro e w7 ⟨⟨r, rfl, hr⟩, hb7⟩; rw [World.size_alloc] at hb7; have hs7 := hb7.size; rw [World.size_alloc] at hs7; have hb67 : Below wr.heap.size wr w7 := hb6.trans (hb7.mono (by omega)); have hbw7 := hbw9.trans (hb67.mono (by omega)); clear h56; rcases find_split hr with ⟨hr0, hno⟩ | ⟨i, d, rfl, hil, hd, hFD⟩; all_goals clear hr; all_goals first | (have hneg := hr0) | (obtain ⟨g, o, d', X, cX, hMe, hg, hd', c0, c1, c2, c3, hX⟩ := (hM.below hbw7 hN).at_ hil; have hdd : d = d' := (by have := hd'.out; rw [hd.out] at this; injection this); subst hdd; subst hMe; have hgw : g < w7.heap.size := (by omega); have hs1 := hsm.out.2 d (List.mem_of_getElem? hd.out); clear c0 c1 c2))
                | (at_builtin; refine wpList_append_rows _ rfl (.tmp 47) (.tmp 52) 52 rfl w4.heap.size 5 1 1 _ Try.underlying52 info5 rfl (by decide) eByte len_eByte one_eByte none 0 [] X cX N 0 d.body.length d.body rfl rfl rfl rfl (owns_nil _ _ _ _ _) hX.row (by omega) (by omega) (by omega) ?_)
                | fail)
              · have hRI := hRL'.out ⟨k, (x, y), by omega, hFk.out, hno.out⟩
                replace hRI := Lib.hid hRI
                go_ret2
                go_light
                exact rest_none hRI.out hbw7
              · intro A1 cc1 w8 ho8 hg8 hk8
                have hb78 : Below w7.heap.size w7 w8 := (Below.refl _ _).grown hg8 (Nat.le_refl _) (by intro j hj; cases hj)
                have hs8 := hb78.size
                have hb98 : Below wr.heap.size wr w8 := hb67.trans (hb78.mono (by omega))
                have hA1 : ∀ j, blk A1 = some j → wr.heap.size ≤ j := fun j hj => by
                  rcases hk8 with h | h
                  · rw [h] at hj; cases hj
                  · rw [h] at hj; injection hj with hj; omega
                have q0 : w8.cell? ⟨w5.heap.size, 0, none⟩ = some (.int .i64 x) := by
                  rw [hb78.cell (p := ⟨w5.heap.size, 0, none⟩) (by show w5.heap.size < _; omega), hb7.cell (p := ⟨w5.heap.size, 0, none⟩) (by show w5.heap.size < _; omega)]
                  exact World.cell?_alloc_at _ _ _ _ rfl
                have q1 : w8.cell? ⟨w5.heap.size, 1, none⟩ = some (.int .i64 y) := by
                  rw [hb78.cell (p := ⟨w5.heap.size, 1, none⟩) (by show w5.heap.size < _; omega), hb7.cell (p := ⟨w5.heap.size, 1, none⟩) (by show w5.heap.size < _; omega)]
                  exact World.cell?_alloc_at _ _ _ _ rfl
                replace ho8 := Lib.hid ho8
                replace hA1 := Lib.hid hA1
                clear hg8 hk8 c3 hX hb78
                go_wp2_with (at_builtin; refine wpList_append_rows _ rfl (.tmp 54) (.tmp 63) 44 rfl w4.heap.size 54 4 48 _ Try.underlying44 info54 rfl (by decide) eDr len_eDr one_eDr B c rs (some ⟨w8.heap.size, 0, none⟩) 1 (w8.heap.size + 1) mm 1 [⟨⟨done + k + 1, x, y, d.body⟩, A1, cc1⟩] rfl rfl hm'.out rfl ((hown.out.row.keep hb98 (fun k hk => (hlo k hk).2)).alloc _) (row_new _ _ _ _ _ _ rfl) (by omega) (by omega) (by simp only [World.size_alloc]; omega) ?_)
                intro A9 c9 w9 ho9 hg9 hk9
                have hM9 := MsOwn.snoc (d := ⟨done + k + 1, x, y, d.body⟩) hown.out hb98 ho8.out hA1.out hg9 ho9
                have hrt9 : RestTo F ds done (k + 1) ((rs ++ [(⟨⟨done + k + 1, x, y, d.body⟩, A1, cc1⟩ : Dr)]).map Dr.d) := by
                  rw [List.map_append]
                  have := RestTo.snoc hrt.out hFk.out hFD.out
                  rw [show done + 1 + (k : Int) = done + k + 1 by omega] at this
                  exact this
                have hl9 : (rs ++ [(⟨⟨done + k + 1, x, y, d.body⟩, A1, cc1⟩ : Dr)]).length = mm + 1 := by rw [List.length_append, hm'.out]; rfl
                have hb9' := ((hb9.trans (hb98.mono (by omega))).alloc (by omega) _).grown hg9 (by simp only [World.size_alloc]; omega) (fun k hk => (hlo k hk).1)
                replace hM9 := Lib.hid hM9
                replace hrt9 := Lib.hid hrt9
                replace hl9 := Lib.hid hl9
                clear hg9 hk9 ho9 q0 q1
                go_wp2
                go_roundw
                case rel => go_light; exact ⟨k + 1, A9, c9, mm + 1, _, by rw [show ((k + 1 : Nat) : Int) = k + 1 by omega]; congr 1; omega, rfl, hl9.out, by omega, hrt9.out, hM9.out, by omega, hb9'⟩
                case measure => go_light; simp [intOf]; omega
            · have hke : k = (cut - done).toNat := by omega
              subst hke
              have hRI := Lib.hid (hRO'.out _ hrt.out)
              have hO := Lib.hid (hown.lower (base' := w.heap.size) (by omega))
              clear hown
              rw [← hm'.out]
              go_wp2
              go_ret2
              go_light
              exact ⟨⟨B, c, rs, 0, rfl, hRI.out, hO.out⟩, hbw9⟩
end Go.Proofs.Ytcffhfcjfjfokaa
/- The law's sameMsg and sameMsgs. -/
namespace Go.Proofs.Ytcffhfcjfjfokaa
open Go.RowKit
set_option maxRecDepth 100000 in
set_option maxHeartbeats 2000000 in
theorem sameMsg_yes (d : Dt) (B B' : Option Addr) (c c' N : Nat) (w : World) (hN : N ≤ w.heap.size) (h : RowAt w N 1 eByte B d.body) (h' : RowAt w N 1 eByte B' d.body) :
    Calls Try.prog 57 #[.agg #[.int .i64 d.s, .int .i64 d.q, .int .i64 d.b, .slice B d.body.length c], .agg #[.int .i64 d.s, .int .i64 d.q, .int .i64 d.b, .slice B' d.body.length c']] w fun x w' => x = .returned (.bool true) ∧ Below w.heap.size w w' := by
  have hbx := below_box2 w #[.int .i64 d.s, .int .i64 d.q, .int .i64 d.b, .slice B d.body.length c] 54 #[.int .i64 d.s, .int .i64 d.q, .int .i64 d.b, .slice B' d.body.length c'] 54
  have e1 := run_body (c := c) (h.below hbx hN)
  have e2 := run_body (c := c') (h'.below hbx hN)
  replace hbx := Lib.hid hbx
  go_enter Try.func57, Try.ntmps57
  go_wp2
  go_ret
  exact ⟨rfl, hbx.out⟩
set_option maxRecDepth 100000 in
set_option maxHeartbeats 4000000 in
theorem sameMsgs_yes (A B : Option Addr) (cA cB N : Nat) (ds : List Dt) (w : World) (hN : N ≤ w.heap.size) (hA : Dts w N A ds) (hB : Dts w N B ds) (hl : ds.length ≤ 9223372036854775807) :
    Calls Try.prog 21 #[.slice A ds.length cA, .slice B ds.length cB] w fun x w' => x = .returned (.bool true) ∧ Below w.heap.size w w' := by
  go_enter Try.func21, Try.ntmps21
  go_wp2
  go_loopw [5] (fun k wr => ∃ q : Nat, k = .int .i64 q ∧ q ≤ ds.length ∧ Below w.heap.size w wr) (fun k _ => ds.length - (intOf k).toNat)
  case atStart => exact ⟨0, rfl, by omega, Below.refl _ _⟩
  case round =>
    obtain ⟨q, rfl, hq, hb⟩ := hrel
    have hsz := hb.size
    by_cases hlt : q < ds.length
    · obtain ⟨g, o, d, X, c, hAe, hg, hd, c0, c1, c2, c3, hX⟩ := (hA.below hb hN).at_ hlt
      obtain ⟨g', o', d', X', c', hBe, hg', hd', k0, k1, k2, k3, hX'⟩ := (hB.below hb hN).at_ hlt
      obtain rfl : d = d' := by have := hd'.out; rw [hd.out] at this; injection this
      subst hAe hBe
      have h58 := Lib.hid (sameMsg_yes d X X' c c' N wr.drew (by show N ≤ wr.heap.size; omega) hX.row hX'.row)
      clear hX hX' hA hB
      go_wp2
      refine wp_region_mid 8 (by kernel_rfl) rfl (by kernel_rfl) ?_
      simp only [List.take_succ_cons, List.take_zero]
      repeat (refine WS.step (fun K hK => ?_); go_simp; refine hK.out _ ?_; clear hK K)
      refine WS.nil ?_
      intro K hK
      go_simp
      go_at_call 57
      refine h58.out.mono ?_
      rintro e w2 ⟨rfl, hbw2⟩
      go_wp2_with fail
      refine hK.out _ _ ?_
      clear hK K
      have hb2 := (Below.drew hb).trans (hbw2.mono (by show _ ≤ wr.heap.size; omega))
      simp only [List.drop_succ_cons, List.drop_zero]
      repeat (refine WS.step (fun K hK => ?_); go_simp; refine hK.out _ ?_; clear hK K)
      refine WS.nil ?_
      go_wp2
      go_roundw
      case rel => go_light; exact ⟨q + 1, by go_num, by omega, hb2⟩
      case measure => go_light; simp [intOf]; omega
    · go_wp2
      go_ret
      exact ⟨rfl, hb⟩
end Go.Proofs.Ytcffhfcjfjfokaa
/- What the law's untouched answers where nothing was touched. -/
namespace Go.Proofs.Ytcffhfcjfjfokaa
open Go.RowKit
theorem RowAt.front {α : Type} {w : World} {N sz : Nat} {enc : α → List Value} {A : Option Addr} {l m : List α} (h : RowAt w N sz enc A (l ++ m)) : RowAt w N sz enc A l := fun h0 => by
  obtain ⟨b, off, e, hb, hc⟩ := h (by rw [List.length_append]; omega)
  exact ⟨b, off, e, hb, fun k x hk => hc k x (by rw [List.getElem?_append_left (List.getElem?_eq_some_iff.1 hk).1]; exact hk)⟩
set_option maxRecDepth 100000 in
set_option maxHeartbeats 2000000 in
theorem untouched_yes (f g : Fl) (g2 g4 c2 c4 N : Nat) (A' B' : Option Addr) (cA' cB' : Nat) (w : World) (hN : N ≤ w.heap.size)
    (h2 : RowAt w N 2 eSlot (some ⟨g2, 0, none⟩) (f.slots ++ [(71, 71)])) (h4 : RowAt w N 1 eInt (some ⟨g4, 0, none⟩) (f.have_ ++ [72])) (l2 : f.slots.length + 1 ≤ c2) (m2 : c2 ≤ 9223372036854775807) (l4 : f.have_.length + 1 ≤ c4) (m4 : c4 ≤ 9223372036854775807)
    (hr' : FlRows w N g A' cA' B' cB') (hs : f = g) :
    Calls Try.prog 27 #[.agg #[.int .i64 f.e, .int .i64 f.l, .int .i64 f.i, .int .i64 f.c, .int .i64 f.base, .slice (some ⟨g2, 0, none⟩) f.slots.length c2, .slice (some ⟨g4, 0, none⟩) f.have_.length c4, .slice (some ⟨g2, 0, none⟩) (f.slots.length + 1) c2, .slice (some ⟨g4, 0, none⟩) (f.have_.length + 1) c4], .agg (flc g.e g.l g.i g.c g.base A' g.slots.length cA' B' g.have_.length cB')] w
      fun x w' => x = .returned (.bool true) ∧ Below w.heap.size w w' := by
  subst hs
  have hsb : sameB f f = true := by simp [sameB]
  go_enter Try.func27, Try.ntmps27
  obtain ⟨b2, o2, x, y, e2, hb2, hx2, k1, k2⟩ := h2.slot (k := f.slots.length) (by simp)
  obtain ⟨b4, o4, z, e4, hb4, hx4, k4⟩ := h4.int (k := f.have_.length) (by simp)
  obtain ⟨rfl, rfl⟩ : g2 = b2 ∧ 0 = o2 := by simpa using e2
  obtain ⟨rfl, rfl⟩ : g4 = b4 ∧ 0 = o4 := by simpa using e4
  have e1 := hx2.out
  rw [List.getElem?_append_right (Nat.le_refl _)] at e1
  simp at e1
  obtain ⟨rfl, rfl⟩ := e1
  have e3 := hx4.out
  rw [List.getElem?_append_right (Nat.le_refl _)] at e3
  simp at e3
  subst e3
  clear e2 e4 hx2 hx4
  have hrf : FlRows w N f (some ⟨g2, 0, none⟩) c2 (some ⟨g4, 0, none⟩) c4 := ⟨h2.front, h4.front, by omega, m2, by omega, m4⟩
  simp only [Nat.zero_add] at k1 k2 k4
  have b2w : g2 < w.heap.size := by omega
  have b4w : g4 < w.heap.size := by omega
  have q1 : f.slots.length < f.slots.length + 1 := by omega
  have q2 : f.have_.length < f.have_.length + 1 := by omega
  clear h2 h4
  go_wp2_with (go_at_call 64; refine (same_any f f _ _ _ _ _ _ _ _ N _ (by simp only [World.size_alloc]; omega) (by exact hrf.below (below_box2 _ _ _ _ _) hN) (by exact hr'.below (below_box2 _ _ _ _ _) hN)).mono ?_; rintro e w' ⟨rfl, hbw⟩; rw [World.size_alloc, World.size_alloc] at hbw; obtain ⟨hb0, hc1, hc2, -, -, hs1, hs2⟩ := box2_facts hbw; have hq := bcell hb0; obtain ⟨hq1, -⟩ := hq; rw [← hq1 _ _ b2w] at k1 k2; rw [← hq1 _ _ b4w] at k4; clear hq1)
  go_ret
  go_light
  exact ⟨rfl, hb0⟩
end Go.Proofs.Ytcffhfcjfjfokaa
/- Two equal lists of contents are told alike. -/
namespace Go.Proofs.Ytcffhfcjfjfokaa
open Go.RowKit
set_option maxRecDepth 100000 in
set_option maxHeartbeats 2000000 in
theorem sameFls_yes (A A' : Option Addr) (cA cA' N : Nat) (fs : List Fl) (w : World) (hN : N ≤ w.heap.size) (hA : Fls w N A fs) (hA' : Fls w N A' fs) (hl : fs.length ≤ 9223372036854775807) :
    Calls Try.prog 55 #[.slice A fs.length cA, .slice A' fs.length cA'] w fun x w' => x = .returned (.bool true) ∧ Below w.heap.size w w' := by
  go_enter Try.func55, Try.ntmps55
  go_wp2
  go_loopw [5] (fun k wr => ∃ q : Nat, k = .int .i64 q ∧ q ≤ fs.length ∧ Below w.heap.size w wr) (fun k _ => fs.length - (intOf k).toNat)
  case atStart => exact ⟨0, rfl, by omega, Below.refl _ _⟩
  case round =>
    obtain ⟨q, rfl, hq, hb⟩ := hrel
    have hsz := hb.size
    by_cases hlt : q < fs.length
    · obtain ⟨g, o, f, X, cX, Y, cY, rfl, hg, hf, ⟨c0, c1, c2, c3, c4, c5, c6⟩, hr⟩ := (hA.below hb hN).at_ hlt
      obtain ⟨g', o', f', X', cX', Y', cY', rfl, hg', hf', ⟨d0, d1, d2, d3, d4, d5, d6⟩, hr'⟩ := (hA'.below hb hN).at_ hlt
      obtain rfl : f = f' := by have h1 := hf.out; rw [hf'.out] at h1; exact (Option.some.inj h1).symm
      have hsb : sameB f f = true := by simp [sameB]
      clear hA hA'
      go_wp2
      go_still_tail 8, (by kernel_rfl)
      change wpList _ _ _ _ _ wr.drew
      go_wp2_with (go_at_call 64; refine (same_any (w := wr.drew) f f _ _ _ _ _ _ _ _ N (by show N ≤ wr.heap.size; omega) (FlRows.below hr (Below.drew (Below.refl N wr)) (Nat.le_refl _)) (FlRows.below hr' (Below.drew (Below.refl N wr)) (Nat.le_refl _))).mono ?_; rintro e w' ⟨rfl, hbw⟩)
      go_roundw
      case rel => go_light; exact ⟨q + 1, by go_num, by omega, (Below.drew hb).trans (hbw.mono (by show _ ≤ wr.heap.size; omega))⟩
      case measure => go_light; simp [intOf]; omega
    · go_wp2
      go_ret
      go_light
      exact ⟨rfl, hb⟩
end Go.Proofs.Ytcffhfcjfjfokaa
/- What the law's allUntouched answers where nothing was touched. -/
namespace Go.Proofs.Ytcffhfcjfjfokaa
open Go.RowKit
/-- The law's copies lie in memory, as they were made. -/
structure TwMem (w : World) (N : Nat) (T : Option Addr) (cT : Nat) (I : Option Addr) (cI : Nat) (ts : List Tw) : Prop where
  row : RowAt w N 9 eTw T ts
  inn : RowAt w N 7 flTw I ts
  s : ∀ t ∈ ts, RowAt w N 2 eSlot (some ⟨t.g2, 0, none⟩) (t.f.slots ++ [(71, 71)]) ∧ t.f.slots.length + 1 ≤ t.c2 ∧ t.c2 ≤ 9223372036854775807
  h : ∀ t ∈ ts, RowAt w N 1 eInt (some ⟨t.g4, 0, none⟩) (t.f.have_ ++ [72]) ∧ t.f.have_.length + 1 ≤ t.c4 ∧ t.c4 ≤ 9223372036854775807
  capT : ts.length ≤ cT
  capI : ts.length ≤ cI
theorem TwMem.below {w w' : World} {N N' : Nat} {T I : Option Addr} {cT cI : Nat} {ts : List Tw} (h : TwMem w N T cT I cI ts) (hb : Below N' w w') (hN : N ≤ N') : TwMem w' N T cT I cI ts :=
  ⟨h.row.below hb hN, h.inn.below hb hN, fun t ht => ⟨(h.s t ht).1.below hb hN, (h.s t ht).2⟩, fun t ht => ⟨(h.h t ht).1.below hb hN, (h.h t ht).2⟩, h.capT, h.capI⟩
theorem TwMem.fls {w : World} {N : Nat} {T I : Option Addr} {cT cI : Nat} {ts : List Tw} (h : TwMem w N T cT I cI ts) : Fls w N I (ts.map Tw.f) := fun h0 => by
  obtain ⟨b, off, hA, hb, hc⟩ := h.inn (by simpa using h0)
  refine ⟨b, off, hA, hb, fun k f hf => ?_⟩
  rw [List.getElem?_map] at hf
  cases hr : ts[k]? with
  | none => rw [hr] at hf; cases hf
  | some r =>
    rw [hr] at hf; cases hf
    have hm := List.mem_of_getElem? hr
    refine ⟨_, _, _, _, ⟨hc k r hr 0 _ rfl, hc k r hr 1 _ rfl, hc k r hr 2 _ rfl, hc k r hr 3 _ rfl, hc k r hr 4 _ rfl, hc k r hr 5 _ rfl, hc k r hr 6 _ rfl⟩, ⟨(h.s r hm).1.front, (h.h r hm).1.front, by have := (h.s r hm).2.1; omega, (h.s r hm).2.2, by have := (h.h r hm).2.1; omega, (h.h r hm).2.2⟩⟩
theorem twMem_of {w wr : World} {fs : List Fl} {ts : List Tw} {T I : Option Addr} {cT cI : Nat} (h : TwRel w wr fs fs.length ts T cT I cI) : TwMem wr wr.heap.size T cT I cI ts :=
  ⟨h.own.row len_eTw, h.inn.row len_flTw, fun t ht => ⟨(h.each t ht).s.row len_eSlot, by have := (h.each t ht).s.len; simp at this; exact this⟩, fun t ht => ⟨(h.each t ht).h.row len_eInt, by have := (h.each t ht).h.len; simp at this; exact this⟩, h.own.len.1, h.inn.len.1⟩
theorem row_tw {w : World} {N : Nat} {T : Option Addr} {ts : List Tw} (h : RowAt w N 9 eTw T ts) {k : Nat} (hk : k < ts.length) : ∃ b off t, T = some ⟨b, off, none⟩ ∧ b < N ∧ Hid (ts[k]? = some t) ∧
    w.cell? ⟨b, off + k * 9, none⟩ = some (.int .i64 t.f.e) ∧ w.cell? ⟨b, off + k * 9 + 1, none⟩ = some (.int .i64 t.f.l) ∧ w.cell? ⟨b, off + k * 9 + 2, none⟩ = some (.int .i64 t.f.i) ∧ w.cell? ⟨b, off + k * 9 + 3, none⟩ = some (.int .i64 t.f.c) ∧
    w.cell? ⟨b, off + k * 9 + 4, none⟩ = some (.int .i64 t.f.base) ∧ w.cell? ⟨b, off + k * 9 + 5, none⟩ = some (.slice (some ⟨t.g2, 0, none⟩) t.f.slots.length t.c2) ∧ w.cell? ⟨b, off + k * 9 + 6, none⟩ = some (.slice (some ⟨t.g4, 0, none⟩) t.f.have_.length t.c4) ∧
    w.cell? ⟨b, off + k * 9 + 7, none⟩ = some (.slice (some ⟨t.g2, 0, none⟩) (t.f.slots.length + 1) t.c2) ∧ w.cell? ⟨b, off + k * 9 + 8, none⟩ = some (.slice (some ⟨t.g4, 0, none⟩) (t.f.have_.length + 1) t.c4) := by
  obtain ⟨b, off, e, hb, hc⟩ := h (by omega)
  have hg : ts[k]? = some ts[k] := List.getElem?_eq_getElem hk
  exact ⟨b, off, ts[k], e, hb, hg, hc k _ hg 0 _ rfl, hc k _ hg 1 _ rfl, hc k _ hg 2 _ rfl, hc k _ hg 3 _ rfl, hc k _ hg 4 _ rfl, hc k _ hg 5 _ rfl, hc k _ hg 6 _ rfl, hc k _ hg 7 _ rfl, hc k _ hg 8 _ rfl⟩
set_option maxRecDepth 100000 in
set_option maxHeartbeats 2000000 in
theorem allunt_any (T I A : Option Addr) (cT cI cA N : Nat) (fs : List Fl) (ts : List Tw) (w : World) (hN : N ≤ w.heap.size) (hT : TwMem w N T cT I cI ts) (hts : ts.map Tw.f = fs) (hA : Fls w N A fs) (hl : fs.length ≤ 9223372036854775807) :
    Calls Try.prog 17 #[.slice T fs.length cT, .slice I fs.length cI, .slice A fs.length cA] w fun x w' => x = .returned (.bool true) ∧ Below w.heap.size w w' := by
  have hlen : ts.length = fs.length := by rw [← hts, List.length_map]
  have Hts := Lib.hid hts
  have Hlen := Lib.hid hlen
  clear hts hlen
  go_enter Try.func17, Try.ntmps17
  go_wp2
  go_loopw [7] (fun k wr => ∃ q : Nat, k = .int .i64 q ∧ q ≤ fs.length ∧ Below w.heap.size w wr) (fun k _ => fs.length - (intOf k).toNat)
  case atStart => exact ⟨0, rfl, by omega, Below.refl _ _⟩
  case round =>
    obtain ⟨q, rfl, hq, hb⟩ := hrel
    have hsz := hb.size
    have hTw := hT.below hb hN
    by_cases hlt : q < fs.length
    · obtain ⟨g, o, t, rfl, hg, ht, d0, d1, d2, d3, d4, d5, d6, d7, d8⟩ := row_tw hTw.row (k := q) (by rw [Hlen.out]; exact hlt)
      obtain ⟨g', o', f, X, cX, Y, cY, rfl, hg', hf, ⟨c0, c1, c2, c3, c4, c5, c6⟩, hr⟩ := (hA.below hb hN).at_ hlt
      obtain rfl : t.f = f := by
        have h1 := hf.out
        rw [← Hts.out, List.getElem?_map, ht.out] at h1
        exact Option.some.inj h1
      have hm := List.mem_of_getElem? ht.out
      obtain ⟨s1, s2, s3⟩ := hTw.s t hm
      obtain ⟨u1, u2, u3⟩ := hTw.h t hm
      have hgw : g < wr.heap.size := by omega
      have hgw' : g' < wr.heap.size := by omega
      have hb1 : Below N wr wr.drew := Below.drew (Below.refl _ _)
      clear hT hTw hA
      go_wp2
      go_still_tail 8, (by kernel_rfl)
      change wpList _ _ _ _ _ wr.drew
      go_wp2_with (go_at_call 27; refine (untouched_yes (w := wr.drew) t.f t.f _ _ _ _ N _ _ _ _ (by show N ≤ wr.heap.size; omega) (s1.below hb1 (Nat.le_refl _)) (u1.below hb1 (Nat.le_refl _)) s2 s3 u2 u3 (hr.below hb1 (Nat.le_refl _)) rfl).mono ?_; rintro e w' ⟨rfl, hbw⟩)
      go_roundw
      case rel => go_light; exact ⟨q + 1, by go_num, by omega, (Below.drew hb).trans (hbw.mono (by show _ ≤ wr.heap.size; omega))⟩
      case measure => go_light; simp [intOf]; omega
    · have hfl := hTw.fls
      rw [Hts.out] at hfl
      go_wp2_with (go_at_call 55; refine (sameFls_yes I A cI cA N fs _ (by omega) hfl (hA.below hb hN) hl).mono ?_; rintro e w' ⟨rfl, hbw⟩)
      go_ret
      go_light
      exact ⟨rfl, hb.trans (hbw.mono hsz)⟩
end Go.Proofs.Ytcffhfcjfjfokaa
namespace Go.Proofs.Ytcffhfcjfjfokaa
open Go.RowKit
theorem case_cells {w : World} {b : Nat} {e l i c ba d : Int} {X Y A : Option Addr} {k n m cA cX cY : Nat} {u9 u10 u11 u12 : Value}
    (h : ∀ j, w.cell? ⟨b, j, none⟩ = (#[.slice A k cA, .int .i64 e, .int .i64 l, .int .i64 i, .int .i64 c, .int .i64 ba, .slice X n cX, .slice Y m cY, .int .i64 d, u9, u10, u11, u12] : Array Value)[j]?) :
    w.cell? ⟨b, 0, none⟩ = some (.slice A k cA) ∧ w.cell? ⟨b, 1, none⟩ = some (.int .i64 e) ∧ w.cell? ⟨b, 2, none⟩ = some (.int .i64 l) ∧ w.cell? ⟨b, 3, none⟩ = some (.int .i64 i) ∧ w.cell? ⟨b, 4, none⟩ = some (.int .i64 c) ∧ w.cell? ⟨b, 5, none⟩ = some (.int .i64 ba) ∧
    w.cell? ⟨b, 6, none⟩ = some (.slice X n cX) ∧ w.cell? ⟨b, 7, none⟩ = some (.slice Y m cY) ∧ w.cell? ⟨b, 8, none⟩ = some (.int .i64 d) := ⟨h 0, h 1, h 2, h 3, h 4, h 5, h 6, h 7, h 8⟩
abbrev caseC (own : Fl) (A X Y : Option Addr) (k cA cX cY : Nat) (done : Int) (u9 u10 u11 u12 : Value) : Array Value := #[.slice A k cA, .int .i64 own.e, .int .i64 own.l, .int .i64 own.i, .int .i64 own.c, .int .i64 own.base, .slice X own.slots.length cX, .slice Y own.have_.length cY, .int .i64 done, u9, u10, u11, u12]
theorem tw_cells {w : World} {b : Nat} {t : Tw} (h : ∀ j, w.cell? ⟨b, j, none⟩ = (eTw t).toArray[j]?) :
    w.cell? ⟨b, 0, none⟩ = some (.int .i64 t.f.e) ∧ w.cell? ⟨b, 1, none⟩ = some (.int .i64 t.f.l) ∧ w.cell? ⟨b, 2, none⟩ = some (.int .i64 t.f.i) ∧ w.cell? ⟨b, 3, none⟩ = some (.int .i64 t.f.c) ∧ w.cell? ⟨b, 4, none⟩ = some (.int .i64 t.f.base) ∧
    w.cell? ⟨b, 5, none⟩ = some (.slice (some ⟨t.g2, 0, none⟩) t.f.slots.length t.c2) ∧ w.cell? ⟨b, 6, none⟩ = some (.slice (some ⟨t.g4, 0, none⟩) t.f.have_.length t.c4) ∧ w.cell? ⟨b, 7, none⟩ = some (.slice (some ⟨t.g2, 0, none⟩) (t.f.slots.length + 1) t.c2) ∧ w.cell? ⟨b, 8, none⟩ = some (.slice (some ⟨t.g4, 0, none⟩) (t.f.have_.length + 1) t.c4) :=
  ⟨h 0, h 1, h 2, h 3, h 4, h 5, h 6, h 7, h 8⟩
theorem TwMem.more' {w : World} {N N' : Nat} {T I : Option Addr} {cT cI : Nat} {ts : List Tw} (h : TwMem w N T cT I cI ts) (hN : N ≤ N') : TwMem w N' T cT I cI ts :=
  ⟨h.row.more hN, h.inn.more hN, fun t ht => ⟨(h.s t ht).1.more hN, (h.s t ht).2⟩, fun t ht => ⟨(h.h t ht).1.more hN, (h.h t ht).2⟩, h.capT, h.capI⟩
set_option maxRecDepth 100000 in
set_option maxHeartbeats 4000000 in
theorem flushLacks_walk (A X Y : Option Addr) (cA cX cY N : Nat) (fs : List Fl) (own : Fl) (done : Int) (u9 u10 u11 u12 : Value) (w : World) (hN : N ≤ w.heap.size) (hA : Fls w N A fs) (hsm : Small fs) (hr : FlRows w N own X cX Y cY)
    (hs1 : own.slots.length ≤ 1048576) (hs2 : own.have_.length ≤ 1048576) :
    Calls Try.prog 5 #[.agg (caseC own A X Y fs.length cA cX cY done u9 u10 u11 u12)] w fun x w' => x = .returned (.bool true) ∧ Below w.heap.size w w' := by
  have hl : fs.length ≤ 9223372036854775807 := by have := hsm.1; omega
  replace hsm := Lib.hid hsm
  have hbx := below_box1 w (caseC own A X Y fs.length cA cX cY done u9 u10 u11 u12) 42
  go_enter Try.func5, Try.ntmps5
  go_wp2_with (go_at_call 13; refine (twins_any A cA N fs _ (by simp only [World.size_alloc]; omega) (hA.below hbx hN) hsm.out).mono ?_; rintro e w1 ⟨ts, T, cT, I, cI, rfl, hts, hrel⟩; have hb1 := hrel.bel; rw [World.size_alloc] at hb1; obtain ⟨hb01, hc1, -, hz1⟩ := box1_facts hb1; obtain ⟨k0, k1, k2, k3, k4, k5, k6, k7, k8⟩ := case_cells hc1; clear hc1; have hmem := twMem_of hrel; clear hrel; have hr1 := hr.below hb01 hN; have hz1' := hb01.size)
  refine (twin_any own X Y cX cY N w1 (by omega) hr1 (by omega) (by omega)).mono ?_
  rintro e w2 ⟨t, ht, rfl, htw, hbw2⟩
  subst ht
  unfold eTw
  have hb2 := hb1.trans (hbw2.mono (by omega))
  obtain ⟨hb02, hc2, -, hz2⟩ := box1_facts hb2
  obtain ⟨j0, j1, j2, j3, j4, j5, j6, j7, j8⟩ := case_cells hc2
  clear hc2 k0 k1 k2 k3 k4 k5 k6 k7 k8
  have hz2' := hbw2.size
  have hmem2 := hmem.below hbw2 (Nat.le_refl _)
  have hI2 := hmem2.fls
  rw [hts] at hI2
  have lS := htw.s.len
  have lH := htw.h.len
  simp only [List.length_append, List.length_cons, List.length_nil] at lS lH
  have hFR : FlRows w2 w2.heap.size t.f (some ⟨t.g2, 0, none⟩) t.c2 (some ⟨t.g4, 0, none⟩) t.c4 := ⟨(htw.s.row len_eSlot).front, (htw.h.row len_eInt).front, by omega, lS.2, by omega, lH.2⟩
  clear hmem
  have hX : ∀ wx, Below (w2.heap.size + 1) (w2.alloc (.cells (eTw t).toArray 57)) wx → Below (w.heap.size + 1) (box1 w (caseC t.f A X Y fs.length cA cX cY done u9 u10 u11 u12) 42) wx ∧ TwMem wx w2.heap.size T cT I cI ts ∧ Fls wx w2.heap.size I fs ∧ FlRows wx w2.heap.size t.f (some ⟨t.g2, 0, none⟩) t.c2 (some ⟨t.g4, 0, none⟩) t.c4 ∧
      (∀ j, wx.cell? ⟨w2.heap.size, j, none⟩ = (eTw t).toArray[j]?) ∧ Fls wx N A fs ∧ FlRows wx N t.f X cX Y cY ∧ RowAt wx w2.heap.size 2 eSlot (some ⟨t.g2, 0, none⟩) (t.f.slots ++ [(71, 71)]) ∧ RowAt wx w2.heap.size 1 eInt (some ⟨t.g4, 0, none⟩) (t.f.have_ ++ [72]) := fun wx hx => by
    have ha : Below w2.heap.size w2 wx := ((Below.refl w2.heap.size w2).alloc (Nat.le_refl _) _).trans (hx.mono (by omega))
    have hbx2 := hb2.trans (ha.mono (by omega))
    have hbx0 := (box1_facts hbx2).1
    refine ⟨hbx2, (hmem2.below ha (by omega)).more' (by omega), (hI2.below ha (by omega)).more (by omega), hFR.below ha (Nat.le_refl _), fun j => ?_, hA.below hbx0 hN, hr.below hbx0 hN, (htw.s.row len_eSlot).below ha (Nat.le_refl _), (htw.h.row len_eInt).below ha (Nat.le_refl _)⟩
    rw [hx.cell (p := ⟨w2.heap.size, j, none⟩) (by show w2.heap.size < _; omega)]
    exact World.cell?_alloc_at _ _ _ _ rfl
  obtain ⟨W3, hW3⟩ : ∃ W3, W3 = w2.alloc (.cells (eTw t).toArray 57) := ⟨_, rfl⟩
  rw [← hW3] at hX
  have hs3 : W3.heap.size = w2.heap.size + 1 := by rw [hW3]; simp
  replace hW3 := Lib.hid hW3
  obtain ⟨-, -, i3, f3, -⟩ := hX W3 (Below.refl _ _)
  replace hX := Lib.hid hX
  have h24 := Lib.hid (lacks_any done t.f (some ⟨t.g2, 0, none⟩) (some ⟨t.g4, 0, none⟩) I t.c2 t.c4 cI w2.heap.size fs W3 (by omega) f3 i3 hl)
  go_wp2_with (go_at_call 24; change Calls Try.prog 24 _ (w2.alloc (.cells (eTw t).toArray 57)) _; rw [← hW3.out]; refine h24.out.mono ?_; rintro e w4 ⟨⟨B, cB, l, n, rfl, hLI, hown⟩, hbw4⟩; rw [hs3] at hbw4 hown; obtain ⟨hB4, m4, i4, f4, tc4, A4, o4, s4, e4⟩ := hX.out w4 hbw4; obtain ⟨hb04, hc4, -, hz4⟩ := box1_facts hB4; obtain ⟨k0, k1, k2, k3, k4, k5, k6, k7, k8⟩ := case_cells hc4; clear hc4; have hz4' := hb04.size)
  have hs4 := hbw4.size
  refine (rlacks_any done t.f X Y A cX cY cA N fs w4 (by omega) o4 A4 hl).mono ?_
  rintro e w5 ⟨⟨B', cB', l', n', rfl, hLI', hown'⟩, hbw5⟩
  obtain ⟨rfl, rfl⟩ := lacks_one hLI hLI'
  have hs5 := hbw5.size
  have hlo := hown.lo
  have ho5 := hown.keep hbw5 (fun k hk => (hlo k hk).2)
  have r1 := ho5.row len_eSlot
  have r2 := hown'.row len_eSlot
  have hll : l.length ≤ 9223372036854775807 := by have := ho5.len; omega
  clear k0 k1 k2 k3 k4 k5 k6 k7 k8 j0 j1 j2 j3 j4 j5 j6 j7 j8 tc4
  have hB5x : Below (w2.heap.size + 1) W3 w5 := hbw4.trans (hbw5.mono (by omega))
  obtain ⟨hB5, m5, i5, f5, tc5, A5, o5, s5, e5⟩ := hX.out w5 hB5x
  obtain ⟨hb05, hc5, -, hz5⟩ := box1_facts hB5
  obtain ⟨k0, k1, k2, k3, k4, k5, k6, k7, k8⟩ := case_cells hc5
  clear hc5
  have hz5' := hbw5.size
  have ts5 := tw_cells tc5
  obtain ⟨j0, j1, j2, j3, j4, j5, j6, j7, j8⟩ := ts5
  clear tc5
  go_wp2_with (first
    | (go_at_call 16; refine (num_any _ _).mono ?_; rintro e w6 ⟨rfl, rfl⟩)
    | (go_at_call 26; refine (sameSlots_yes B B' cB cB' w5.heap.size l w5 (Nat.le_refl _) r1 r2 hll).mono ?_; rintro e w6 ⟨rfl, hbw6⟩; have hB6x : Below (w2.heap.size + 1) W3 w6 := hB5x.trans (hbw6.mono (by omega)); obtain ⟨hB6, m6, i6, f6, tc6, A6, o6, s6, e6⟩ := hX.out w6 hB6x; obtain ⟨hb06, hc6, -, hz6⟩ := box1_facts hB6; obtain ⟨k0, k1, k2, k3, k4, k5, k6, k7, k8⟩ := case_cells hc6; clear hc6; have hz6' := hbw6.size; have ts6 := tw_cells tc6; obtain ⟨j0, j1, j2, j3, j4, j5, j6, j7, j8⟩ := ts6; clear tc6)
    | (go_at_call 17; refine (allunt_any T I A cT cI cA w2.heap.size fs ts _ (by omega) m6 hts (A6.more (by omega)) hl).mono ?_; rintro e w7 ⟨rfl, hbw7⟩; have hB7x : Below (w2.heap.size + 1) W3 w7 := hB6x.trans (hbw7.mono (by omega)); obtain ⟨hB7, m7, i7, f7, tc7, A7, o7, s7, e7⟩ := hX.out w7 hB7x; obtain ⟨hb07, hc7, -, hz7⟩ := box1_facts hB7; obtain ⟨k0, k1, k2, k3, k4, k5, k6, k7, k8⟩ := case_cells hc7; clear hc7; have hz7' := hbw7.size; have ts7 := tw_cells tc7; obtain ⟨j0, j1, j2, j3, j4, j5, j6, j7, j8⟩ := ts7; clear tc7)
    | (go_at_call 27; refine (untouched_yes t.f t.f t.g2 t.g4 t.c2 t.c4 w2.heap.size X Y cX cY _ (by omega) s7 e7 lS.1 lS.2 lH.1 lH.2 (⟨o7.slots.more (by omega), o7.have_.more (by omega), o7.lenS, o7.capS, o7.lenH, o7.capH⟩) rfl).mono ?_; rintro e w8 ⟨rfl, hbw8⟩; have hB8x : Below (w2.heap.size + 1) W3 w8 := hB7x.trans (hbw8.mono (by omega)); obtain ⟨hB8, m8, i8, f8, tc8, A8, o8, s8, e8⟩ := hX.out w8 hB8x; obtain ⟨hb08, hc8, -, hz8⟩ := box1_facts hB8; obtain ⟨k0, k1, k2, k3, k4, k5, k6, k7, k8⟩ := case_cells hc8; clear hc8; have hz8' := hbw8.size; have ts8 := tw_cells tc8; obtain ⟨j0, j1, j2, j3, j4, j5, j6, j7, j8⟩ := ts8; clear tc8)
    | fail)
  have ho6 := ho5.keep hbw6 (fun k hk => by have := (hlo k hk).2; omega)
  have ho7 := ho6.keep hbw7 (fun k hk => by have := (hlo k hk).2; omega)
  have ho8 := ho7.keep hbw8 (fun k hk => by have := (hlo k hk).2; omega)
  have hs8 := hB8x.size
  clear k0 k1 k2 k3 k4 k5 k6 k7 k8 j0 j1 j2 j3 j4 j5 j6 j7 j8 ho5 ho6 ho7 hown hown' hLI hLI' r1 r2
  go_loopw [10] (fun k wr => ∃ (i : Nat) (l' : List (Int × Int)), k = .int .i64 i ∧ i ≤ l.length ∧ l'.length = l.length ∧ Owns wr (w2.heap.size + 1) 66 2 eSlot B cB l' ∧ Below (w2.heap.size + 1) W3 wr) (fun k _ => l.length - (intOf k).toNat)
  case atStart => exact ⟨0, l, rfl, by omega, rfl, ho8, hB8x⟩
  case round =>
    obtain ⟨i, l', rfl, hi, hl', ho, hb⟩ := hrel
    have hsb := hb.size
    replace hl' := Lib.hid hl'
    by_cases hlt : i < l.length
    · obtain ⟨g1, cc1, hv1, hgl1, hgh1⟩ := World.ownsRow.form ho (by have := hl'.out; omega)
      obtain ⟨rfl, rfl⟩ : B = some ⟨g1, 0, none⟩ ∧ cB = cc1 := by injection hv1 with h1 _ h2; exact ⟨h1, h2⟩
      clear hv1
      obtain ⟨u0, q0⟩ := own_cell ho (j := i * 2) (by have := hl'.out; omega)
      obtain ⟨u1, q1⟩ := own_cell ho (j := i * 2 + 1) (by have := hl'.out; omega)
      have q2 : (wr.setCell ⟨g1, i * 2, none⟩ (.int .i64 99)).cell? ⟨g1, i * 2 + 1, none⟩ = some u1 := by
        rw [World.cell?_setCell_other _ _ _ _ (by simp)]; exact q1
      have hf := own_frozen ho
      clear q1
      go_wp2
      refine ⟨⟨i + 1, l'.set i (99, (i : Int)), by go_num, by omega, by rw [List.length_set]; exact hl'.out, ho.set2 (by have := hl'.out; omega) (99, (i : Int)), (hb.setCell hgl1 _).setCell hgl1 _⟩, by simp [intOf]; omega⟩
    · obtain ⟨hB9, m9, i9, f9, tc9, A9, o9, s9, e9⟩ := hX.out wr hb
      obtain ⟨hb09, hc9, -, hz9⟩ := box1_facts hB9
      obtain ⟨k0, k1, k2, k3, k4, k5, k6, k7, k8⟩ := case_cells hc9
      clear hc9
      have ts9 := tw_cells tc9
      obtain ⟨j0, j1, j2, j3, j4, j5, j6, j7, j8⟩ := ts9
      clear tc9
      go_wp2_with (first
        | (go_at_call 17; refine (allunt_any T I A cT cI cA w2.heap.size fs ts _ (by omega) m9 hts (A9.more (by omega)) hl).mono ?_; rintro e w10 ⟨rfl, hbw10⟩; have hB10x : Below (w2.heap.size + 1) W3 w10 := hb.trans (hbw10.mono (by omega)); have hs10 := hbw10.size; obtain ⟨hB0, m0, i0, f0, tc0, A0, o0, s0, e0⟩ := hX.out w10 hB10x; obtain ⟨hb00, hc0, -, hz0⟩ := box1_facts hB0; obtain ⟨k0, k1, k2, k3, k4, k5, k6, k7, k8⟩ := case_cells hc0; clear hc0; have ts0 := tw_cells tc0; obtain ⟨j0, j1, j2, j3, j4, j5, j6, j7, j8⟩ := ts0; clear tc0)
        | (go_at_call 27; refine (untouched_yes t.f t.f t.g2 t.g4 t.c2 t.c4 w2.heap.size X Y cX cY _ (by omega) s0 e0 lS.1 lS.2 lH.1 lH.2 (⟨o0.slots.more (by omega), o0.have_.more (by omega), o0.lenS, o0.capS, o0.lenH, o0.capH⟩) rfl).mono ?_; rintro e w11 ⟨rfl, hbw11⟩)
        | fail)
      go_ret
      exact ⟨rfl, hb00.trans (hbw11.mono (by omega))⟩
end Go.Proofs.Ytcffhfcjfjfokaa
