/- The law's datas: messages of their own. -/
import Derived.Test.YtcffhfcjfjfokaaData
import Derived.Test.YtcffhfcjfjfokaaMany
namespace Go.Proofs.Ytcffhfcjfjfokaa
open Go.RowKit
theorem info5 : (Try.prog.info? 5).map (fun i => (i.zero, i.size, i.bytes)) = some (some (.int .u8 0), 1, 1) := by kernel_rfl
theorem info113 : (Try.prog.info? 113).map (fun i => (i.zero, i.size, i.bytes)) = some (some (.agg #[.int .i64 0, .int .i64 0, .int .i64 0, .slice none 0 0]), 4, 48) := by kernel_rfl
/-- Messages that are not too many and not too long. -/
def SmallD (ds : List Dt) : Prop := ds.length ≤ 1048576 ∧ ∀ d ∈ ds, d.body.length ≤ 1048576
/-- A message whose bytes lie in another block than B's. -/
def FarDr (w : World) (B : Option Addr) (r : Dr) : Prop := (r.d.body.length ≤ r.c ∧ r.c ≤ 9223372036854775807) ∧ FarRow w B 1 eByte r.B r.d.body
theorem FarDr.below {w w' : World} {B : Option Addr} {r : Dr} (h : FarDr w B r) (hb : Below w.heap.size w w') : FarDr w' B r := ⟨h.1, h.2.below hb⟩
theorem FarDr.grown {w w' : World} {B B' : Option Addr} {r : Dr} (h : FarDr w B r) (hg : w.grownBy w' (blk B)) (hk : blk B' = blk B ∨ blk B' = some w.heap.size) : FarDr w' B' r := ⟨h.1, h.2.grown hg hk⟩
set_option maxRecDepth 100000 in
set_option maxHeartbeats 4000000 in
theorem datas_any (A : Option Addr) (cA N : Nat) (ds : List Dt) (w : World) (hN : N ≤ w.heap.size) (hA : Dts w N A ds) (hsm : SmallD ds) :
    Calls Try.prog 18 #[.slice A ds.length cA] w fun x w' => (∃ B c, x = .returned (.slice B ds.length c) ∧ Dts w' w'.heap.size B ds) ∧ Below w.heap.size w w' := by
  have hl : ds.length ≤ 1048576 := hsm.1
  replace hsm := Lib.hid hsm
  go_enter Try.func18, Try.ntmps18
  go_wp2
  go_loopw [3, 4] (fun a k wr => ∃ (i : Nat) (rs : List Dr) (B : Option Addr) (c : Nat), k = .int .i64 i ∧ a = .slice B i c ∧ rs.length = i ∧ i ≤ ds.length ∧ Hid (rs.map Dr.d = ds.take i) ∧ Owns wr w.heap.size 113 4 eDr B c rs ∧ (∀ r ∈ rs, FarDr wr B r) ∧ Below w.heap.size w wr) (fun _ k _ => ds.length - (intOf k).toNat)
  case atStart => exact ⟨0, [], _, 0, rfl, rfl, rfl, by omega, by show List.map _ _ = _; simp, owns_empty _ _ _ _ _ (Nat.le_refl _), by simp, (Below.refl _ _).alloc (Nat.le_refl _) _⟩
  case round =>
    obtain ⟨i, rs, B, c, rfl, rfl, hrl, hi, hrs, ho, hfar, hb⟩ := hrel
    have hrl' := Lib.hid hrl
    have hszr := hb.size
    replace hfar := Lib.hid hfar
    by_cases hlt : i < ds.length
    · obtain ⟨g, o, d, X, cX, hAe, hg, hd, c0, c1, c2, c3, hX⟩ := (hA.below hb hN).at_ hlt
      subst hAe
      have hgw : g < wr.heap.size := by omega
      have hs1 := hsm.out.2 d (List.mem_of_getElem? hd.out)
      have hlo := ho.lo
      replace ho := Lib.hid ho
      clear hrl
      go_wp2_with (at_builtin; refine wpList_append_rows _ rfl (.tmp 17) (.tmp 19) 52 rfl (wr.heap.size + 1) 5 1 1 _ Try.underlying52 info5 rfl (by decide) eByte len_eByte one_eByte (some ⟨wr.heap.size + 1, 0, none⟩) 0 [] X cX N 0 d.body.length d.body rfl rfl rfl rfl (owns_empty_at _ _ _ _ _ (by simp) (Nat.le_refl _)) (hX.row.below (((Below.refl wr.heap.size wr).alloc (Nat.le_refl _) _).alloc (by simp) _) (by omega)) (by omega) (by omega) (by simp) ?_)
      intro A1 cc1 w1 ho1 hg1 hk1
      have hb1 : Below (wr.heap.size + 1) (box1 wr #[.int .i64 d.s, .int .i64 d.q, .int .i64 d.b, .slice X d.body.length cX] 113) w1 := ((Below.refl _ _).alloc (by simp) _).grown hg1 (by simp) (by intro k hk; simp [blk] at hk; omega)
      obtain ⟨hb10, hc1, hf1, hsz1⟩ := box1_facts hb1
      have q0 := hc1 0
      have q1 := hc1 1
      have q2 := hc1 2
      have q3 := hc1 3
      have z3 := hf1 3
      simp at q0 q1 q2 q3
      have hlo1 := ho1.lo
      have hlen1 := ho1.len
      have hF1 := FRow.of_owns ho1 len_eByte
      replace ho1 := Lib.hid ho1
      replace hF1 := Lib.hid hF1
      clear hg1 hk1 hc1 hf1 c0 c1 c2 c3 hX
      have hb2 : Below wr.heap.size wr (w1.setCell ⟨wr.heap.size, 3, none⟩ (.slice A1 d.body.length cc1)) := hb10.setCell (by show wr.heap.size ≤ wr.heap.size; omega) _
      have hF2 : FRow (w1.setCell ⟨wr.heap.size, 3, none⟩ (.slice A1 d.body.length cc1)) (wr.heap.size + 1) 1 eByte A1 d.body := hF1.out.setCell (Nat.lt_succ_self _) _
      have hsz2 : (w1.setCell ⟨wr.heap.size, 3, none⟩ (.slice A1 d.body.length cc1)).heap.size = w1.heap.size := World.size_setCell _ _ _
      replace hF2 := Lib.hid hF2
      replace hb2 := Lib.hid hb2
      go_wp2_with (at_builtin; refine wpList_append_rows _ rfl (.tmp 22) (.tmp 24) 40 rfl w.heap.size 113 4 48 _ Try.underlying40 info113 rfl (by decide) eDr len_eDr one_eDr B c rs (some ⟨w1.heap.size, 0, none⟩) 1 (w1.heap.size + 1) i 1 [⟨d, A1, cc1⟩] rfl rfl hrl'.out rfl ((ho.out.keep hb2.out (fun k hk => (hlo k hk).2)).alloc _) (by have := row_new (w1.setCell ⟨wr.heap.size, 3, none⟩ (.slice A1 d.body.length cc1)) 113 4 eDr ⟨d, A1, cc1⟩ #[.int .i64 d.s, .int .i64 d.q, .int .i64 d.b, .slice A1 d.body.length cc1] rfl; rw [hsz2] at this; exact this) (by omega) (by omega) (by simp; omega) ?_)
      intro A3 cc3 w3 ho3 hg3 hk3
      replace hk3 : blk A3 = blk B ∨ blk A3 = some ((w1.setCell ⟨wr.heap.size, 3, none⟩ (.slice A1 d.body.length cc1)).alloc (.cells #[.int .i64 d.s, .int .i64 d.q, .int .i64 d.b, .slice A1 d.body.length cc1] 113)).heap.size := by simpa using hk3
      have hb13 : Below (w1.setCell ⟨wr.heap.size, 3, none⟩ (.slice A1 d.body.length cc1)).heap.size (w1.setCell ⟨wr.heap.size, 3, none⟩ (.slice A1 d.body.length cc1)) ((w1.setCell ⟨wr.heap.size, 3, none⟩ (.slice A1 d.body.length cc1)).alloc (.cells #[.int .i64 d.s, .int .i64 d.q, .int .i64 d.b, .slice A1 d.body.length cc1] 113)) := (Below.refl _ _).alloc (Nat.le_refl _) _
      have hnew : FarDr (w1.setCell ⟨wr.heap.size, 3, none⟩ (.slice A1 d.body.length cc1)) B ⟨d, A1, cc1⟩ := ⟨hlen1, FarRow.of_row hF2.out (fun k hk => by have := (hlo k hk).2; omega)⟩
      have hbw3 : Below w.heap.size w w3 := ((hb.trans (hb2.out.mono hszr)).alloc (by rw [hsz2]; omega) (.cells #[.int .i64 d.s, .int .i64 d.q, .int .i64 d.b, .slice A1 d.body.length cc1] 113)).grown hg3 (by simp only [World.size_alloc]; omega) (fun k hk => (hlo k hk).1)
      have hfar3 : ∀ r ∈ rs ++ [⟨d, A1, cc1⟩], FarDr w3 A3 r := fun r hr' => by
        rcases List.mem_append.1 hr' with h | h
        · exact (((hfar.out r h).below hb2.out).below hb13).grown hg3 hk3
        · obtain rfl := List.mem_singleton.1 h
          exact (hnew.below hb13).grown hg3 hk3
      have hrs3 : Hid ((rs ++ [(⟨d, A1, cc1⟩ : Dr)]).map Dr.d = ds.take (i + 1)) := by
        show List.map Dr.d (rs ++ [⟨d, A1, cc1⟩]) = _
        rw [List.map_append, hrs.out, List.take_add_one, hd.out]; rfl
      replace hfar3 := Lib.hid hfar3
      replace ho3 := Lib.hid ho3
      clear hg3 hk3 hnew hb13 hlo q0 q1 q2 q3 z3
      go_wp2
      go_roundw
      case rel => go_light; exact ⟨i + 1, rs ++ [⟨d, A1, cc1⟩], A3, cc3, by go_num, rfl, by rw [List.length_append, hrl'.out]; rfl, by omega, hrs3, ho3.out, hfar3.out, hbw3⟩
      case measure => go_light; simp [intOf]; omega
    · obtain rfl : i = ds.length := by omega
      have hF : Dts wr wr.heap.size B ds := ⟨rs, by rw [hrs.out, List.take_length], ho.row len_eDr, fun r hr => ⟨(hfar.out r hr).2.row, (hfar.out r hr).1.1, (hfar.out r hr).1.2⟩⟩
      replace ho := Lib.hid ho
      replace hF := Lib.hid hF
      clear hrl
      go_wp2
      go_ret
      exact ⟨⟨B, c, rfl, hF.out⟩, hb⟩
end Go.Proofs.Ytcffhfcjfjfokaa
