/- Many Datas Gen Kd Wk Bk Book Book2 ByteOf, joined. -/
import Derived.Test.YtcffhfcjfjfokaaSh4
import Derived.Test.YtcffhfcjfjfokaaSh6
set_option linter.unusedVariables false
set_option linter.unusedSimpArgs false
/- The law's many: contents of their own. -/
namespace Go.Proofs.Ytcffhfcjfjfokaa
open Go.RowKit
/-- A row in another block than B's. -/
def FarRow {α : Type} (w : World) (B : Option Addr) (sz : Nat) (enc : α → List Value) (A : Option Addr) (l : List α) : Prop :=
  0 < l.length → ∃ b off, A = some ⟨b, off, none⟩ ∧ some b ≠ blk B ∧ b < w.heap.size ∧ ∀ k x, l[k]? = some x → ∀ j u, (enc x)[j]? = some u → w.cell? ⟨b, off + k * sz + j, none⟩ = some u
section
variable {α : Type} {w w' : World} {lo sz : Nat} {enc : α → List Value} {A B B' : Option Addr} {l : List α}
theorem FarRow.row (h : FarRow w B sz enc A l) : RowAt w w.heap.size sz enc A l := fun h0 => by
  obtain ⟨b, off, e, _, hb, hc⟩ := h h0
  exact ⟨b, off, e, hb, hc⟩
theorem FarRow.of_row (h : FRow w lo sz enc A l) (hB : ∀ k, blk B = some k → k < lo) : FarRow w B sz enc A l := fun h0 => by
  obtain ⟨b, off, e, h1, h2, hc⟩ := h h0
  exact ⟨b, off, e, fun e2 => by have := hB b e2.symm; omega, h2, hc⟩
theorem FarRow.below (h : FarRow w B sz enc A l) (hb : Below w.heap.size w w') : FarRow w' B sz enc A l := fun h0 => by
  obtain ⟨b, off, e, h1, h2, hc⟩ := h h0
  exact ⟨b, off, e, h1, Nat.lt_of_lt_of_le h2 hb.size, fun k x hk j u hu => (hb.cell (p := ⟨b, _, none⟩) h2).trans (hc k x hk j u hu)⟩
theorem FarRow.grown (h : FarRow w B sz enc A l) (hg : w.grownBy w' (blk B)) (hk : blk B' = blk B ∨ blk B' = some w.heap.size) : FarRow w' B' sz enc A l := fun h0 => by
  obtain ⟨b, off, e, h1, h2, hc⟩ := h h0
  refine ⟨b, off, e, fun e2 => ?_, Nat.lt_of_lt_of_le h2 hg.size, fun k x hk j u hu => (hg.cell_far ⟨b, _, none⟩ h2 h1).trans (hc k x hk j u hu)⟩
  rcases hk with hk | hk
  · exact h1 (e2.trans hk)
  · rw [hk] at e2; injection e2 with e2; omega
end
/-- A content whose lists lie in other blocks than B's. -/
def FarFl (w : World) (B : Option Addr) (r : Rw) : Prop := FlRows w w.heap.size r.f r.X r.cX r.Y r.cY ∧ FarRow w B 2 eSlot r.X r.f.slots ∧ FarRow w B 1 eInt r.Y r.f.have_
theorem FarFl.below {w w' : World} {B : Option Addr} {r : Rw} (h : FarFl w B r) (hb : Below w.heap.size w w') : FarFl w' B r :=
  ⟨⟨(h.2.1.below hb).row, (h.2.2.below hb).row, h.1.lenS, h.1.capS, h.1.lenH, h.1.capH⟩, h.2.1.below hb, h.2.2.below hb⟩
theorem FarFl.grown {w w' : World} {B B' : Option Addr} {r : Rw} (h : FarFl w B r) (hg : w.grownBy w' (blk B)) (hk : blk B' = blk B ∨ blk B' = some w.heap.size) : FarFl w' B' r :=
  ⟨⟨(h.2.1.grown hg hk).row, (h.2.2.grown hg hk).row, h.1.lenS, h.1.capS, h.1.lenH, h.1.capH⟩, h.2.1.grown hg hk, h.2.2.grown hg hk⟩
set_option maxRecDepth 100000 in
set_option maxHeartbeats 4000000 in
theorem many_any (A : Option Addr) (cA N : Nat) (fs : List Fl) (w : World) (hN : N ≤ w.heap.size) (hA : Fls w N A fs) (hsm : Small fs) :
    Calls Try.prog 28 #[.slice A fs.length cA] w fun x w' => (∃ B c, x = .returned (.slice B fs.length c) ∧ Fls w' w'.heap.size B fs) ∧ Below w.heap.size w w' := by
  have hl : fs.length ≤ 1048576 := hsm.1
  replace hsm := Lib.hid hsm
  go_enter Try.func28, Try.ntmps28
  go_wp2
  go_loopw [3, 4] (fun a k wr => ∃ (i : Nat) (rs : List Rw) (B : Option Addr) (c : Nat), k = .int .i64 i ∧ a = .slice B i c ∧ rs.length = i ∧ i ≤ fs.length ∧ Hid (rs.map Rw.f = fs.take i) ∧ Owns wr w.heap.size 39 7 eRw B c rs ∧ (∀ r ∈ rs, FarFl wr B r) ∧ Below w.heap.size w wr) (fun _ k _ => fs.length - (intOf k).toNat)
  case atStart => exact ⟨0, [], _, 0, rfl, rfl, rfl, by omega, by show List.map _ _ = _; simp, owns_empty _ _ _ _ _ (Nat.le_refl _), by simp, (Below.refl _ _).alloc (Nat.le_refl _) _⟩
  case round =>
    obtain ⟨i, rs, B, c, rfl, rfl, hrl, hi, hrs, ho, hfar, hb⟩ := hrel
    have hrl' := Lib.hid hrl
    have hszr := hb.size
    replace hfar := Lib.hid hfar
    by_cases hlt : i < fs.length
    · obtain ⟨g, o, f, X, cX, Y, cY, rfl, hg, hf, ⟨c0, c1, c2, c3, c4, c5, c6⟩, hr⟩ := (hA.below hb hN).at_ hlt
      have hgw : g < wr.heap.size := by omega
      obtain ⟨hs1, hs2⟩ := hsm.out.2 f (List.mem_of_getElem? hf.out)
      have hlo := ho.lo
      replace ho := Lib.hid ho
      clear hrl
      go_wp2_with (first
        | (go_at_call 38; refine (one_any f X Y cX cY N wr (by omega) hr (by omega) (by omega)).mono ?_; rintro e w1 ⟨⟨X1, cX1, Y1, cY1, rfl, hfr, hX1, hY1⟩, hb1⟩; replace hX1 := Lib.hid hX1; replace hY1 := Lib.hid hY1; replace hfr := Lib.hid hfr; have hs1' := hb1.size)
        | (at_builtin; refine wpList_append_rows _ rfl (.tmp 12) (.tmp 18) 22 rfl w.heap.size 39 7 88 _ Try.underlying22 info39 rfl (by decide) eRw len_eRw one_eRw B c rs (some ⟨w1.heap.size, 0, none⟩) 1 (w1.heap.size + 1) i 1 [⟨f, X1, cX1, Y1, cY1⟩] rfl rfl hrl'.out rfl ((ho.out.keep hb1 (fun k hk => (hlo k hk).2)).alloc _) (row_new _ _ _ _ _ _ rfl) (by omega) (by omega) (by simp; omega) ?_)
        | fail)
      intro A3 cc3 w3 ho3 hg3 hk3
      replace hk3 : blk A3 = blk B ∨ blk A3 = some (w1.alloc (.cells #[.int .i64 f.e, .int .i64 f.l, .int .i64 f.i, .int .i64 f.c, .int .i64 f.base, .slice X1 f.slots.length cX1, .slice Y1 f.have_.length cY1] 39)).heap.size := by simpa using hk3
      have hb13 : Below w1.heap.size w1 (w1.alloc (.cells #[.int .i64 f.e, .int .i64 f.l, .int .i64 f.i, .int .i64 f.c, .int .i64 f.base, .slice X1 f.slots.length cX1, .slice Y1 f.have_.length cY1] 39)) := (Below.refl _ _).alloc (Nat.le_refl _) _
      have hnew : FarFl w1 B ⟨f, X1, cX1, Y1, cY1⟩ := ⟨hfr.out, FarRow.of_row hX1.out (fun k hk => (hlo k hk).2), FarRow.of_row hY1.out (fun k hk => (hlo k hk).2)⟩
      have hbw3 : Below w.heap.size w w3 := ((hb.trans (hb1.mono hszr)).alloc (by omega) _).grown hg3 (by simp only [World.size_alloc]; omega) (fun k hk => (hlo k hk).1)
      have hfar3 : ∀ r ∈ rs ++ [⟨f, X1, cX1, Y1, cY1⟩], FarFl w3 A3 r := fun r hr' => by
        rcases List.mem_append.1 hr' with h | h
        · exact (((hfar.out r h).below hb1).below hb13).grown hg3 hk3
        · obtain rfl := List.mem_singleton.1 h
          exact (hnew.below hb13).grown hg3 hk3
      replace hfar3 := Lib.hid hfar3
      replace ho3 := Lib.hid ho3
      clear hg3 hk3 hnew hb13 hlo c0 c1 c2 c3 c4 c5 c6
      have hrs3 : Hid ((rs ++ [(⟨f, X1, cX1, Y1, cY1⟩ : Rw)]).map Rw.f = fs.take (i + 1)) := by
        show List.map Rw.f (rs ++ [⟨f, X1, cX1, Y1, cY1⟩]) = _
        rw [List.map_append, hrs.out, List.take_add_one, hf.out]; rfl
      go_wp2
      go_roundw
      case rel => go_light; exact ⟨i + 1, rs ++ [⟨f, X1, cX1, Y1, cY1⟩], A3, cc3, by go_num, rfl, by rw [List.length_append, hrl'.out]; rfl, by omega, hrs3, ho3.out, hfar3.out, hbw3⟩
      case measure => go_light; simp [intOf]; omega
    · obtain rfl : i = fs.length := by omega
      have hF : Fls wr wr.heap.size B fs := by
        have := rows_fls (w := wr) (N := wr.heap.size) (A := B) (rs := rs) ⟨ho.row len_eRw, fun r hr => (hfar.out r hr).1⟩
        rw [hrs.out, List.take_length] at this; exact this
      replace ho := Lib.hid ho
      replace hF := Lib.hid hF
      clear hrl
      go_wp2
      go_ret
      exact ⟨⟨B, c, rfl, hF.out⟩, hb⟩
end Go.Proofs.Ytcffhfcjfjfokaa
/- The law's datas: messages of their own. -/
namespace Go.Proofs.Ytcffhfcjfjfokaa
open Go.RowKit
theorem info5 : (Try.prog.info? 5).map (fun i => (i.zero, i.size, i.bytes)) = some (some (.int .u8 0), 1, 1) := by kernel_rfl
theorem info113 : (Try.prog.info? 113).map (fun i => (i.zero, i.size, i.bytes)) = some (some (.agg #[.int .i64 0, .int .i64 0, .int .i64 0, .slice none 0 0]), 4, 48) := by kernel_rfl
/-- Messages that are not too many and not too long. -/
def SmallD (ds : List Dt) : Prop := ds.length ≤ 1048576 ∧ ∀ d ∈ ds, d.body.length ≤ 1048576
/-- A message whose bytes lie in another block than B's. -/
def FarDr (w : World) (B : Option Addr) (r : Dr) : Prop := (r.d.body.length ≤ r.c ∧ r.c ≤ 9223372036854775807) ∧ FarRow w B 1 eByte r.B r.d.body
theorem FarDr.below {w w' : World} {B : Option Addr} {r : Dr} (h : FarDr w B r) (hb : Below w.heap.size w w') : FarDr w' B r := ⟨h.1, h.2.below hb⟩
theorem FarDr.grown {w w' : World} {B B' : Option Addr} {r : Dr} (h : FarDr w B r) (hg : w.grownBy w' (blk B)) (hk : blk B' = blk B ∨ blk B' = some w.heap.size) : FarDr w' B' r := ⟨h.1, h.2.grown hg hk⟩
set_option maxRecDepth 100000 in
set_option maxHeartbeats 4000000 in
theorem datas_any (A : Option Addr) (cA N : Nat) (ds : List Dt) (w : World) (hN : N ≤ w.heap.size) (hA : Dts w N A ds) (hsm : SmallD ds) :
    Calls Try.prog 18 #[.slice A ds.length cA] w fun x w' => (∃ B c, x = .returned (.slice B ds.length c) ∧ Dts w' w'.heap.size B ds) ∧ Below w.heap.size w w' := by
  have hl : ds.length ≤ 1048576 := hsm.1
  replace hsm := Lib.hid hsm
  go_enter Try.func18, Try.ntmps18
  go_wp2
  go_loopw [3, 4] (fun a k wr => ∃ (i : Nat) (rs : List Dr) (B : Option Addr) (c : Nat), k = .int .i64 i ∧ a = .slice B i c ∧ rs.length = i ∧ i ≤ ds.length ∧ Hid (rs.map Dr.d = ds.take i) ∧ Owns wr w.heap.size 113 4 eDr B c rs ∧ (∀ r ∈ rs, FarDr wr B r) ∧ Below w.heap.size w wr) (fun _ k _ => ds.length - (intOf k).toNat)
  case atStart => exact ⟨0, [], _, 0, rfl, rfl, rfl, by omega, by show List.map _ _ = _; simp, owns_empty _ _ _ _ _ (Nat.le_refl _), by simp, (Below.refl _ _).alloc (Nat.le_refl _) _⟩
  case round =>
    obtain ⟨i, rs, B, c, rfl, rfl, hrl, hi, hrs, ho, hfar, hb⟩ := hrel
    have hrl' := Lib.hid hrl
    have hszr := hb.size
    replace hfar := Lib.hid hfar
    by_cases hlt : i < ds.length
    · obtain ⟨g, o, d, X, cX, hAe, hg, hd, c0, c1, c2, c3, hX⟩ := (hA.below hb hN).at_ hlt
      subst hAe
      have hgw : g < wr.heap.size := by omega
      have hs1 := hsm.out.2 d (List.mem_of_getElem? hd.out)
      have hlo := ho.lo
      replace ho := Lib.hid ho
      clear hrl
      go_wp2_with (at_builtin; refine wpList_append_rows _ rfl (.tmp 17) (.tmp 19) 52 rfl (wr.heap.size + 1) 5 1 1 _ Try.underlying52 info5 rfl (by decide) eByte len_eByte one_eByte (some ⟨wr.heap.size + 1, 0, none⟩) 0 [] X cX N 0 d.body.length d.body rfl rfl rfl rfl (owns_empty_at _ _ _ _ _ (by simp) (Nat.le_refl _)) (hX.row.below (((Below.refl wr.heap.size wr).alloc (Nat.le_refl _) _).alloc (by simp) _) (by omega)) (by omega) (by omega) (by simp) ?_)
      intro A1 cc1 w1 ho1 hg1 hk1
      have hb1 : Below (wr.heap.size + 1) (box1 wr #[.int .i64 d.s, .int .i64 d.q, .int .i64 d.b, .slice X d.body.length cX] 113) w1 := ((Below.refl _ _).alloc (by simp) _).grown hg1 (by simp) (by intro k hk; simp [blk] at hk; omega)
      obtain ⟨hb10, hc1, hf1, hsz1⟩ := box1_facts hb1
      have q0 := hc1 0
      have q1 := hc1 1
      have q2 := hc1 2
      have q3 := hc1 3
      have z3 := hf1 3
      simp at q0 q1 q2 q3
      have hlo1 := ho1.lo
      have hlen1 := ho1.len
      have hF1 := FRow.of_owns ho1 len_eByte
      replace ho1 := Lib.hid ho1
      replace hF1 := Lib.hid hF1
      clear hg1 hk1 hc1 hf1 c0 c1 c2 c3 hX
      have hb2 : Below wr.heap.size wr (w1.setCell ⟨wr.heap.size, 3, none⟩ (.slice A1 d.body.length cc1)) := hb10.setCell (by show wr.heap.size ≤ wr.heap.size; omega) _
      have hF2 : FRow (w1.setCell ⟨wr.heap.size, 3, none⟩ (.slice A1 d.body.length cc1)) (wr.heap.size + 1) 1 eByte A1 d.body := hF1.out.setCell (Nat.lt_succ_self _) _
      have hsz2 : (w1.setCell ⟨wr.heap.size, 3, none⟩ (.slice A1 d.body.length cc1)).heap.size = w1.heap.size := World.size_setCell _ _ _
      replace hF2 := Lib.hid hF2
      replace hb2 := Lib.hid hb2
      go_wp2_with (at_builtin; refine wpList_append_rows _ rfl (.tmp 22) (.tmp 24) 40 rfl w.heap.size 113 4 48 _ Try.underlying40 info113 rfl (by decide) eDr len_eDr one_eDr B c rs (some ⟨w1.heap.size, 0, none⟩) 1 (w1.heap.size + 1) i 1 [⟨d, A1, cc1⟩] rfl rfl hrl'.out rfl ((ho.out.keep hb2.out (fun k hk => (hlo k hk).2)).alloc _) (by have := row_new (w1.setCell ⟨wr.heap.size, 3, none⟩ (.slice A1 d.body.length cc1)) 113 4 eDr ⟨d, A1, cc1⟩ #[.int .i64 d.s, .int .i64 d.q, .int .i64 d.b, .slice A1 d.body.length cc1] rfl; rw [hsz2] at this; exact this) (by omega) (by omega) (by simp; omega) ?_)
      intro A3 cc3 w3 ho3 hg3 hk3
      replace hk3 : blk A3 = blk B ∨ blk A3 = some ((w1.setCell ⟨wr.heap.size, 3, none⟩ (.slice A1 d.body.length cc1)).alloc (.cells #[.int .i64 d.s, .int .i64 d.q, .int .i64 d.b, .slice A1 d.body.length cc1] 113)).heap.size := by simpa using hk3
      have hb13 : Below (w1.setCell ⟨wr.heap.size, 3, none⟩ (.slice A1 d.body.length cc1)).heap.size (w1.setCell ⟨wr.heap.size, 3, none⟩ (.slice A1 d.body.length cc1)) ((w1.setCell ⟨wr.heap.size, 3, none⟩ (.slice A1 d.body.length cc1)).alloc (.cells #[.int .i64 d.s, .int .i64 d.q, .int .i64 d.b, .slice A1 d.body.length cc1] 113)) := (Below.refl _ _).alloc (Nat.le_refl _) _
      have hnew : FarDr (w1.setCell ⟨wr.heap.size, 3, none⟩ (.slice A1 d.body.length cc1)) B ⟨d, A1, cc1⟩ := ⟨hlen1, FarRow.of_row hF2.out (fun k hk => by have := (hlo k hk).2; omega)⟩
      have hbw3 : Below w.heap.size w w3 := ((hb.trans (hb2.out.mono hszr)).alloc (by rw [hsz2]; omega) (.cells #[.int .i64 d.s, .int .i64 d.q, .int .i64 d.b, .slice A1 d.body.length cc1] 113)).grown hg3 (by simp only [World.size_alloc]; omega) (fun k hk => (hlo k hk).1)
      have hfar3 : ∀ r ∈ rs ++ [⟨d, A1, cc1⟩], FarDr w3 A3 r := fun r hr' => by
        rcases List.mem_append.1 hr' with h | h
        · exact (((hfar.out r h).below hb2.out).below hb13).grown hg3 hk3
        · obtain rfl := List.mem_singleton.1 h
          exact (hnew.below hb13).grown hg3 hk3
      have hrs3 : Hid ((rs ++ [(⟨d, A1, cc1⟩ : Dr)]).map Dr.d = ds.take (i + 1)) := by
        show List.map Dr.d (rs ++ [⟨d, A1, cc1⟩]) = _
        rw [List.map_append, hrs.out, List.take_add_one, hd.out]; rfl
      replace hfar3 := Lib.hid hfar3
      replace ho3 := Lib.hid ho3
      clear hg3 hk3 hnew hb13 hlo q0 q1 q2 q3 z3
      go_wp2
      go_roundw
      case rel => go_light; exact ⟨i + 1, rs ++ [⟨d, A1, cc1⟩], A3, cc3, by go_num, rfl, by rw [List.length_append, hrl'.out]; rfl, by omega, hrs3, ho3.out, hfar3.out, hbw3⟩
      case measure => go_light; simp [intOf]; omega
    · obtain rfl : i = ds.length := by omega
      have hF : Dts wr wr.heap.size B ds := ⟨rs, by rw [hrs.out, List.take_length], ho.row len_eDr, fun r hr => ⟨(hfar.out r hr).2.row, (hfar.out r hr).1.1, (hfar.out r hr).1.2⟩⟩
      replace ho := Lib.hid ho
      replace hF := Lib.hid hF
      clear hrl
      go_wp2
      go_ret
      exact ⟨⟨B, c, rfl, hF.out⟩, hb⟩
end Go.Proofs.Ytcffhfcjfjfokaa
/- General words and lemmas of memory, for walks by reckoning. -/
namespace Go.Proofs.Ytcffhfcjfjfokaa
open Go Go.RowKit
abbrev drA (r : Dr) : Array Value := #[.int .i64 r.d.s, .int .i64 r.d.q, .int .i64 r.d.b, .slice r.B r.d.body.length r.c]
theorem size39s : (Try.prog.info? 39).map (·.size) = some 7 := by kernel_rfl
theorem one_flc (e l i c b : Int) (A : Option Addr) (n cA : Nat) (B : Option Addr) (m cB : Nat) : (flc e l i c b A n cA B m cB).all (·.oneCell') = true := by
  refine all_oneCell_toArray (cs := [.int .i64 e, .int .i64 l, .int .i64 i, .int .i64 c, .int .i64 b, .slice A n cA, .slice B m cB]) fun y hy => ?_
  simp only [List.mem_cons, List.not_mem_nil, or_false] at hy
  rcases hy with rfl | rfl | rfl | rfl | rfl | rfl | rfl <;> rfl
theorem load39 {w : World} {b o : Nat} {e l i c u : Int} {A : Option Addr} {n cA : Nat} {B : Option Addr} {m cB : Nat} (h : w.rangeAt b o (flc e l i c u A n cA B m cB).toList) : (loadVar 39 ⟨b, o, none⟩).run Try.prog w = .ok (.agg (flc e l i c u A n cA B m cB)) w :=
  run_loadVar_mid w b o 39 (flc e l i c u A n cA B m cB).toList _ h Try.underlying39 rfl (by rw [size39s]; rfl)
theorem Owns.base {α : Type} {w : World} {base base' sz c : Nat} {e : TypeId} {enc : α → List Value} {A : Option Addr} {l : List α} (h : Owns w base e sz enc A c l) (hb : base' ≤ base) : Owns w base' e sz enc A c l := by
  refine ⟨h.1, ?_⟩
  rcases h.2 with h2 | ⟨g, cap, cur, hv, hbase, hr⟩
  · exact .inl h2
  · exact .inr ⟨g, cap, cur, hv, by omega, hr⟩
theorem Owns.same {α : Type} {w w' : World} {base sz c : Nat} {e : TypeId} {enc : α → List Value} {A : Option Addr} {l : List α} (h : Owns w base e sz enc A c l) (hb : ∀ g, blk A = some g → w'.heap[g]? = w.heap[g]?) : Owns w' base e sz enc A c l := by
  refine ⟨h.1, ?_⟩
  rcases h.2 with h2 | ⟨g, cap, cur, hv, h3, h4, h5⟩
  · exact .inl h2
  · injection hv with e1 e2 e3
    subst e1; subst e3
    exact .inr ⟨g, c, cur, rfl, h3, (hb g rfl).trans h4, h5⟩
theorem size113 : (Try.prog.info? 113).map (·.size) = some 4 := by kernel_rfl
theorem load113 {w : World} {b o : Nat} {r : Dr} (h : w.rangeAt b o (eDr r)) : (loadVar 113 ⟨b, o, none⟩).run Try.prog w = .ok (.agg (drA r)) w :=
  run_loadVar_mid w b o 113 (drA r).toList _ h Try.underlying113 rfl (by rw [size113]; rfl)
theorem load52 {w : World} {b o n c : Nat} {A : Option Addr} (h : w.cell? ⟨b, o, none⟩ = some (.slice A n c)) : (loadVar 52 ⟨b, o, none⟩).run Try.prog w = .ok (.slice A n c) w := by go_simp
def zero113 : Value := .agg #[.int .i64 0, .int .i64 0, .int .i64 0, .slice none 0 0]
theorem run_zero113 (W : World) : (zeroValue 113).run Try.prog W = .ok zero113 W := by kernel_rfl
theorem one_drA (r : Dr) : (drA r).all (·.oneCell') = true := all_oneCell_toArray (cs := eDr r) (one_eDr r)
theorem range_sub {w : World} {b o n : Nat} {l m : List Value} (h : w.rangeAt b o l) (k : Nat) (hk : (l.drop k).take n = m) : w.rangeAt b (o + k) m := fun j u hu => by
  rw [Nat.add_assoc]
  refine h (k + j) u ?_
  rw [← hk, List.getElem?_take, List.getElem?_drop] at hu
  split at hu
  · exact hu
  · cases hu
theorem bs40 (W : World) (r : Dr) : (Instr.buildSlice 40 1 #[(0, .agg (drA r))]).run Try.prog W = .ok (.slice (some ⟨W.heap.size, 0, none⟩) 1 1) (W.alloc (.cells (drA r) 113)) := by kernel_rfl
theorem bs40z (W : World) : (Instr.buildSlice 40 0 #[]).run Try.prog W = .ok (.slice (some ⟨W.heap.size, 0, none⟩) 0 0) (W.alloc (.cells #[] 113)) := by kernel_rfl
theorem bs52z (W : World) : (Instr.buildSlice 52 0 #[]).run Try.prog W = .ok (.slice (some ⟨W.heap.size, 0, none⟩) 0 0) (W.alloc (.cells #[] 5)) := by kernel_rfl
structure DS where
  k : Nat
  A : Option Addr
  c : Nat
  al : List Dr
theorem flatk_take {α : Type} {enc : α → List Value} {sz : Nat} (hsz : ∀ x, (enc x).length = sz) : ∀ (l : List α) (k : Nat), (l.flatMap enc).take (k * sz) = (l.take k).flatMap enc
  | [], k => by simp
  | x :: l, 0 => by simp
  | x :: l, k + 1 => by
    rw [List.flatMap_cons, List.take_succ_cons, List.flatMap_cons, ← flatk_take hsz l k, List.take_append, hsz, show (k + 1) * sz - sz = k * sz by rw [Nat.add_mul]; omega, List.take_of_length_le (by rw [hsz, Nat.add_mul]; omega)]
theorem flatk_drop {α : Type} {enc : α → List Value} {sz : Nat} (hsz : ∀ x, (enc x).length = sz) : ∀ (l : List α) (k : Nat), (l.flatMap enc).drop (k * sz) = (l.drop k).flatMap enc
  | [], k => by simp
  | x :: l, 0 => by simp
  | x :: l, k + 1 => by
    rw [List.flatMap_cons, List.drop_succ_cons, ← flatk_drop hsz l k, List.drop_append, hsz, show (k + 1) * sz - sz = k * sz by rw [Nat.add_mul]; omega, List.drop_eq_nil_of_le (by rw [hsz, Nat.add_mul]; omega)]; rfl
theorem stored_sets {base g n c sz : Nat} {e : TypeId} : ∀ (vs xs : List Value) (o : Nat) (w : World), w.ownsRow base e sz (.slice (some ⟨g, 0, none⟩) n c) n xs → o + vs.length ≤ xs.length → (w.setCells g o vs).ownsRow base e sz (.slice (some ⟨g, 0, none⟩) n c) n (xs.take o ++ vs ++ xs.drop (o + vs.length))
  | [], xs, o, w, h, _ => by simpa [World.setCells] using h
  | v :: vs, xs, o, w, h, hl => by
    rw [List.length_cons] at hl
    have h1 := (World.ownsRow.stored h o v).1
    have := stored_sets vs (xs.set o v) (o + 1) (w.setCell ⟨g, o, none⟩ v) h1 (by rw [List.length_set]; omega)
    have e : xs.take o ++ v :: vs ++ xs.drop (o + (v :: vs).length) = (xs.set o v).take (o + 1) ++ vs ++ (xs.set o v).drop (o + 1 + vs.length) := by
      rw [List.length_cons, List.take_add_one, List.getElem?_set_self (by omega), List.take_set_of_le (Nat.le_refl _), List.drop_set_of_lt (by omega)]
      simp [Nat.add_assoc, Nat.add_comm 1]
    rw [World.setCells, e]
    exact this
/-- One element of an own row is set. -/
theorem Owns.sets {α : Type} {w : World} {base g c k sz : Nat} {e : TypeId} {enc : α → List Value} {l : List α} (h : Owns w base e sz enc (some ⟨g, 0, none⟩) c l) (hsz : ∀ x, (enc x).length = sz) (hk : k < l.length) (x : α) : Owns (w.setCells g (k * sz) (enc x)) base e sz enc (some ⟨g, 0, none⟩) c (l.set k x) := by
  have hl := length_flat hsz l
  have hm : (k + 1) * sz ≤ l.length * sz := Nat.mul_le_mul_right _ hk
  have := stored_sets (enc x) (l.flatMap enc) (k * sz) w h (by rw [hl, hsz, ← Nat.succ_mul]; exact hm)
  have e : (l.set k x).flatMap enc = (l.flatMap enc).take (k * sz) ++ enc x ++ (l.flatMap enc).drop (k * sz + (enc x).length) := by
    rw [hsz, ← Nat.succ_mul, flatk_take hsz, flatk_drop hsz]
    have e2 : (l.set k x).flatMap enc = ((l.set k x).take k ++ (l.set k x).drop k).flatMap enc := by rw [List.take_append_drop]
    rw [e2, List.flatMap_append, List.take_set_of_le (Nat.le_refl _), List.drop_eq_getElem_cons (by rw [List.length_set]; exact hk), List.flatMap_cons, List.getElem_set_self, List.drop_set_of_lt (by omega), List.append_assoc]
  unfold Owns
  rw [List.length_set, e]
  exact this
/-- A cell of an own row. -/
theorem Owns.cell {α : Type} {w : World} {base c sz : Nat} {e : TypeId} {enc : α → List Value} {A : Option Addr} {l : List α} (h : Owns w base e sz enc A c l) (hsz : ∀ x, (enc x).length = sz) {k : Nat} {x : α} (hx : l[k]? = some x) : ∃ g, A = some ⟨g, 0, none⟩ ∧ w.rangeAt g (k * sz) (enc x) := by
  have hl : 0 < l.length := by have := (List.getElem?_eq_some_iff.1 hx).1; omega
  obtain ⟨g, cap, hv, _, _⟩ := World.ownsRow.form h hl
  have hA : A = some ⟨g, 0, none⟩ := by injection hv
  subst hA
  refine ⟨g, rfl, fun j u hu => ?_⟩
  have hu' := flatMap_at hsz l k j x u hx hu
  rw [World.ownsRow.cellAt h (k * sz + j) (by rw [← length_flat hsz l]; exact (List.getElem?_eq_some_iff.1 hu').1), ← hu']
theorem Owns.there {α : Type} {w : World} {base c sz g : Nat} {e : TypeId} {enc : α → List Value} {l : List α} (h : Owns w base e sz enc (some ⟨g, 0, none⟩) c l) (hsz : ∀ x, (enc x).length = sz) : w.there g 0 (l.length * sz) := fun j hj => by
  rw [Nat.zero_add]
  refine ⟨?_, World.ownsRow.frozenAt h j⟩
  rw [World.ownsRow.cellAt h j hj, List.getElem?_eq_getElem (by rw [length_flat hsz]; exact hj)]; rfl
end Go.Proofs.Ytcffhfcjfjfokaa
/- Many own rows of one kind, each in a block of its own; written over, and made longer. -/
namespace Go.Proofs.Ytcffhfcjfjfokaa
open Go.RowKit
structure RowX (α : Type) where
  A : Option Addr
  c : Nat
  l : List α
/-- Own rows P, no two in one block; of the first of them longer ones have been made (zs k: what is put behind), each in the same block or in a new one. -/
structure Kd {α : Type} (W : World) (base : Nat) (e : TypeId) (sz : Nat) (enc : α → List Value) (zs : Nat → List α) (P : List (RowX α)) (Q : List (Option Addr × Nat)) : Prop where
  o : ∀ x ∈ P, Owns W base e sz enc x.A x.c x.l
  d : ∀ (k : Nat) (x : RowX α) (y : Option Addr × Nat), P[k]? = some x → Q[k]? = some y → Owns W base e sz enc y.1 y.2 (x.l ++ zs k)
  s : ∀ (k j : Nat) (x : RowX α) (y : Option Addr × Nat), k ≠ j → P[j]? = some x → Q[k]? = some y → ∀ q, blk y.1 = some q → blk x.A ≠ some q
  dis : ∀ (k j : Nat) (x y : RowX α), k ≠ j → P[k]? = some x → P[j]? = some y → ∀ q, blk x.A = some q → blk y.A ≠ some q
  len : Q.length ≤ P.length
section
variable {α : Type} {W W' : World} {base sz : Nat} {e : TypeId} {enc : α → List Value} {zs : Nat → List α} {P : List (RowX α)} {Q : List (Option Addr × Nat)}
theorem Kd.keep (h : Kd W base e sz enc zs P Q) (hk : ∀ k, base ≤ k → k < W.heap.size → (∀ x ∈ P, blk x.A = some k → W'.heap[k]? = W.heap[k]?) ∧ (∀ y ∈ Q, blk y.1 = some k → W'.heap[k]? = W.heap[k]?)) : Kd W' base e sz enc zs P Q :=
  ⟨fun x hx => (h.o x hx).same fun g hg => (hk g ((h.o x hx).lo g hg).1 ((h.o x hx).lo g hg).2).1 x hx hg, fun k x y hx hy => by
    have ho := h.d k x y hx hy
    exact ho.same fun g hg => (hk g (ho.lo g hg).1 (ho.lo g hg).2).2 y (List.mem_of_getElem? hy) hg, h.s, h.dis, h.len⟩
theorem Kd.below (h : Kd W base e sz enc zs P Q) (hb : Below W.heap.size W W') : Kd W' base e sz enc zs P Q := h.keep fun k _ hk => ⟨fun _ _ _ => hb.block k hk, fun _ _ _ => hb.block k hk⟩
theorem Kd.all (h : Kd W base e sz enc zs P Q) {k : Nat} {y : Option Addr × Nat} (hy : Q[k]? = some y) : ∃ x, P[k]? = some x ∧ Owns W base e sz enc y.1 y.2 (x.l ++ zs k) := by
  have hk : k < P.length := Nat.lt_of_lt_of_le (List.getElem?_eq_some_iff.1 hy).1 h.len
  exact ⟨P[k], List.getElem?_eq_getElem hk, h.d k _ y (List.getElem?_eq_getElem hk) hy⟩
/-- A row of another kind is written or made longer. -/
theorem Kd.other {β : Type} {base' sz' c' : Nat} {e' : TypeId} {enc' : β → List Value} {A' : Option Addr} {l' : List β} (h : Kd W base e sz enc zs P Q) (ho : Owns W base' e' sz' enc' A' c' l') (he : e ≠ e') (hg : W.grownBy W' (blk A')) : Kd W' base e sz enc zs P Q :=
  h.keep fun k _ hk => ⟨fun x hx e1 => hg.block k hk (by
    rcases (h.o x hx).ne ho he with e2 | e2
    · rw [e2] at e1; cases e1
    · intro e3; exact e2 (e1.trans e3)), fun y hy e1 => by
    obtain ⟨j, hj⟩ := List.mem_iff_getElem?.1 hy
    obtain ⟨x, _, hx⟩ := h.all hj
    refine hg.block k hk ?_
    rcases hx.ne ho he with e2 | e2
    · rw [e2] at e1; cases e1
    · intro e3; exact e2 (e1.trans e3)⟩
/-- An element of a row is written of which no longer one has been made. -/
theorem Kd.write (h : Kd W base e sz enc zs P Q) (hsz : ∀ x, (enc x).length = sz) {i j g : Nat} {x : RowX α} (hi : P[i]? = some x) (hQ : Q.length ≤ i) (hg : x.A = some ⟨g, 0, none⟩) (hj : j < x.l.length) (v : α) :
    Kd (W.setCells g (j * sz) (enc v)) base e sz enc zs (P.set i ⟨x.A, x.c, x.l.set j v⟩) Q := by
  have hil := (List.getElem?_eq_some_iff.1 hi).1
  have hgr := grown_sets g (enc v) (j * sz) W
  have hbx : blk x.A = some g := by rw [hg]; rfl
  have hget : ∀ k, (P.set i ⟨x.A, x.c, x.l.set j v⟩)[k]? = if k = i then some ⟨x.A, x.c, x.l.set j v⟩ else P[k]? := fun k => by
    by_cases e1 : k = i
    · subst e1; rw [List.getElem?_set_self hil, if_pos rfl]
    · rw [List.getElem?_set_ne (fun e2 => e1 e2.symm), if_neg e1]
  have hblk : ∀ (k : Nat) (y : RowX α), (P.set i ⟨x.A, x.c, x.l.set j v⟩)[k]? = some y → ∃ z : RowX α, P[k]? = some z ∧ z.A = y.A := fun k y hy => by
    rw [hget] at hy
    split at hy
    · rename_i e1; subst e1; injection hy with hy; exact ⟨x, hi, by rw [← hy]⟩
    · exact ⟨y, hy, rfl⟩
  refine ⟨fun y hy => ?_, fun k y z hy hz => ?_, fun k j' y z hne hy hz => ?_, fun k j' y z hne hy hz => ?_, by rw [List.length_set]; exact h.len⟩
  · obtain ⟨k, hk⟩ := List.mem_iff_getElem?.1 hy
    rw [hget] at hk
    split at hk
    · injection hk with hk; subst hk
      have := h.o x (List.mem_of_getElem? hi)
      dsimp only
      rw [hg] at this ⊢
      exact this.sets hsz hj v
    · rename_i hne
      refine (h.o y (List.mem_of_getElem? hk)).same fun q hq => hgr.block q ((h.o y (List.mem_of_getElem? hk)).lo q hq).2 (fun e1 => ?_)
      injection e1 with e1; subst e1
      exact h.dis k i y x hne hk hi q hq hbx
  · have hkl := (List.getElem?_eq_some_iff.1 hz).1
    rw [hget, if_neg (by omega)] at hy
    have := h.d k y z hy hz
    exact this.same fun q hq => hgr.block q (this.lo q hq).2 (fun e1 => by
      injection e1 with e1; subst e1
      exact h.s k i x z (by omega) hi hz q hq hbx)
  · obtain ⟨y', h1, h2⟩ := hblk j' y hy
    rw [← h2]; exact h.s k j' y' z hne h1 hz
  · obtain ⟨y', h1, h2⟩ := hblk k y hy
    obtain ⟨z', h3, h4⟩ := hblk j' z hz
    rw [← h2, ← h4]; exact h.dis k j' y' z' hne h1 h3
/-- A longer one is made of the next row. -/
theorem Kd.push (h : Kd W base e sz enc zs P Q) {x : RowX α} {A' : Option Addr} {c' : Nat} (hi : P[Q.length]? = some x) (ho' : Owns W' base e sz enc A' c' (x.l ++ zs Q.length)) (ho : Owns W' base e sz enc x.A x.c x.l) (hg : W.grownBy W' (blk x.A)) (hk : blk A' = blk x.A ∨ blk A' = some W.heap.size) : Kd W' base e sz enc zs P (Q ++ [(A', c')]) := by
  have hil := (List.getElem?_eq_some_iff.1 hi).1
  have hget : ∀ k y, (Q ++ [(A', c')])[k]? = some y → (k < Q.length ∧ Q[k]? = some y) ∨ (k = Q.length ∧ y = (A', c')) := fun k y hy => by
    have hkl := (List.getElem?_eq_some_iff.1 hy).1
    rw [List.length_append] at hkl
    by_cases e1 : k < Q.length
    · rw [List.getElem?_append_left e1] at hy; exact .inl ⟨e1, hy⟩
    · have : k = Q.length := by simp at hkl; omega
      subst this
      rw [List.getElem?_append_right (Nat.le_refl _), Nat.sub_self] at hy
      injection hy with hy; exact .inr ⟨rfl, hy.symm⟩
  refine ⟨fun y hy => ?_, fun k y z hy hz => ?_, fun k j' y z hne hy hz q hq e2 => ?_, h.dis, by rw [List.length_append]; simp; omega⟩
  · obtain ⟨k, hk'⟩ := List.mem_iff_getElem?.1 hy
    by_cases e1 : k = Q.length
    · subst e1; rw [hi] at hk'; injection hk' with hk'; subst hk'; exact ho
    · exact (h.o y hy).same fun q hq => hg.block q ((h.o y hy).lo q hq).2 (fun e2 => h.dis k Q.length y x e1 hk' hi q hq e2.symm)
  · rcases hget k z hz with ⟨e1, hz'⟩ | ⟨e1, rfl⟩
    · have := h.d k y z hy hz'
      exact this.same fun q hq => hg.block q (this.lo q hq).2 (fun e2 => h.s k Q.length x z (by omega) hi hz' q hq e2.symm)
    · subst e1; rw [hi] at hy; injection hy with hy; subst hy; exact ho'
  · rcases hget k z hz with ⟨e1, hz'⟩ | ⟨e1, rfl⟩
    · exact h.s k j' y z hne hy hz' q hq e2
    · rcases hk with hk | hk
      · exact h.dis k j' x y hne (by rw [e1]; exact hi) hy q (by rw [← hk]; exact hq) e2
      · have := ((h.o y (List.mem_of_getElem? hy)).lo q e2).2
        have hq' : blk A' = some q := hq
        rw [hk] at hq'; injection hq' with hq'; omega
end
end Go.Proofs.Ytcffhfcjfjfokaa
/- Rows of the call's own whose room counts only where there is some; memory that changes in some blocks alone. -/
namespace Go.Proofs.Ytcffhfcjfjfokaa
open Go Go.RowKit
/-- The block in whose room a slice may be made longer. -/
def bw (A : Option Addr) (c : Nat) : Option Nat := if c = 0 then none else blk A
theorem bw_blk {A : Option Addr} {c k : Nat} (h : bw A c = some k) : blk A = some k ∧ 0 < c := by
  unfold bw at h
  split at h
  · cases h
  · exact ⟨h, by omega⟩
/-- An own row, as far as there is room. -/
structure OwnW {α : Type} (w : World) (base : Nat) (e : TypeId) (sz : Nat) (enc : α → List Value) (A : Option Addr) (c : Nat) (l : List α) : Prop where
  len : l.length ≤ c
  own : 0 < c → Owns w base e sz enc A c l
/-- Other blocks than those of S are as they were. -/
structure Fx (S : List Nat) (w w' : World) : Prop where
  os : w'.os = w.os
  tape : w'.tape = w.tape
  output : w'.output = w.output
  size : w.heap.size ≤ w'.heap.size
  block : ∀ k, k < w.heap.size → k ∉ S → w'.heap[k]? = w.heap[k]?
section
variable {S S' : List Nat} {w w' w'' : World}
theorem Fx.refl (S : List Nat) (w : World) : Fx S w w := ⟨rfl, rfl, rfl, Nat.le_refl _, fun _ _ _ => rfl⟩
theorem Fx.trans (h : Fx S w w') (h' : Fx S' w' w'') (hs : ∀ k ∈ S', k ∈ S ∨ w.heap.size ≤ k) : Fx S w w'' :=
  ⟨h'.os.trans h.os, h'.tape.trans h.tape, h'.output.trans h.output, Nat.le_trans h.size h'.size, fun k hk hn => (h'.block k (Nat.lt_of_lt_of_le hk h.size) (fun hm => by
    rcases hs k hm with e | e
    · exact hn e
    · omega)).trans (h.block k hk hn)⟩
theorem Fx.below (hb : Below w.heap.size w w') : Fx S w w' := ⟨hb.os, hb.tape, hb.output, hb.size, fun k hk _ => hb.block k hk⟩
theorem Fx.grown {row : Option Nat} (hg : w.grownBy w' row) (hr : ∀ k, row = some k → k ∈ S) : Fx S w w' := ⟨hg.os, hg.tape, hg.output, hg.size, fun k hk hn => hg.block k hk (fun e => hn (hr k e.symm))⟩
theorem Fx.to {N : Nat} (h : Fx S w w') (hS : ∀ k ∈ S, N ≤ k) (hN : N ≤ w.heap.size) : Below N w w' := ⟨h.os, h.tape, h.output, h.size, fun k hk => h.block k (by omega) (fun hm => by have := hS k hm; omega)⟩
theorem Fx.drew (h : Fx S w w') : Fx S w w'.drew := ⟨h.os, h.tape, h.output, h.size, h.block⟩
theorem Fx.undrew (h : Fx S w.drew w') : Fx S w w' := ⟨h.os, h.tape, h.output, h.size, h.block⟩
theorem Fx.more (h : Fx S w w') (hs : ∀ k ∈ S, k ∈ S') : Fx S' w w' := ⟨h.os, h.tape, h.output, h.size, fun k hk hn => h.block k hk (fun hm => hn (hs k hm))⟩
theorem Fx.cell (h : Fx S w w') {b o : Nat} (hb : b < w.heap.size) (hn : b ∉ S) : w'.cell? ⟨b, o, none⟩ = w.cell? ⟨b, o, none⟩ := World.cell?_of_block (a := ⟨b, o, none⟩) (h.block b hb hn)
end
section
variable {α : Type} {S : List Nat} {w w' : World} {base base' sz c : Nat} {e : TypeId} {enc : α → List Value} {A : Option Addr} {l : List α}
theorem Owns.fx (h : Owns w base e sz enc A c l) (hf : Fx S w w') (hA : ∀ k, blk A = some k → k ∉ S) : Owns w' base e sz enc A c l := h.same fun g hg => hf.block g (h.lo g hg).2 (hA g hg)
theorem Owns.short (h : Owns w base e sz enc A c l) : Owns w base e sz enc A c [] := by
  refine ⟨by simp, ?_⟩
  rcases h.2 with ⟨hv, _⟩ | ⟨g, cap, cur, hv, h1, h2, h3, h4, h5, _⟩
  · injection hv with e1 _ e2
    subst e1; subst e2; exact .inl ⟨rfl, rfl⟩
  · injection hv with e1 _ e2
    subst e1; subst e2
    exact .inr ⟨g, c, cur, rfl, h1, h2, Nat.zero_le _, h4, h5, by simp⟩
theorem OwnW.of (h : Owns w base e sz enc A c l) : OwnW w base e sz enc A c l := ⟨h.len.1, fun _ => h⟩
theorem OwnW.row (h : OwnW w base e sz enc A c l) (hsz : ∀ x, (enc x).length = sz) : RowAt w w.heap.size sz enc A l := fun h0 => (h.own (by have := h.len; omega)).row hsz h0
theorem OwnW.lo (h : OwnW w base e sz enc A c l) : ∀ k, bw A c = some k → base ≤ k ∧ k < w.heap.size := fun k hk => (h.own (bw_blk hk).2).lo k (bw_blk hk).1
theorem OwnW.cap (h : OwnW w base e sz enc A c l) : c ≤ 9223372036854775807 := by
  by_cases h0 : 0 < c
  · exact (h.own h0).len.2
  · omega
theorem OwnW.fx (h : OwnW w base e sz enc A c l) (hf : Fx S w w') (hA : ∀ k, bw A c = some k → k ∉ S) : OwnW w' base e sz enc A c l :=
  ⟨h.len, fun h0 => (h.own h0).fx hf fun k hk => hA k (by unfold bw; rw [if_neg (by omega)]; exact hk)⟩
theorem OwnW.lower (h : OwnW w base e sz enc A c l) (hb : base' ≤ base) : OwnW w base' e sz enc A c l := ⟨h.len, fun h0 => (h.own h0).base hb⟩
theorem OwnW.below (h : OwnW w base e sz enc A c l) (hb : Below w.heap.size w w') : OwnW w' base e sz enc A c l := h.fx (S := []) (.below hb) fun _ _ => by simp
theorem OwnW.ne {β : Type} {w : World} {base base' sz sz' c c' : Nat} {e e' : TypeId} {enc : α → List Value} {enc' : β → List Value} {A A' : Option Addr} {l : List α} {l' : List β} (h : OwnW w base e sz enc A c l) (h' : OwnW w base' e' sz' enc' A' c' l') (he : e ≠ e') : ∀ k, bw A c = some k → bw A' c' ≠ some k := fun k h1 h2 => by
  rcases (h.own (bw_blk h1).2).ne (h'.own (bw_blk h2).2) he with e | e
  · rw [(bw_blk h1).1] at e; cases e
  · exact e ((bw_blk h1).1.trans (bw_blk h2).1.symm)
theorem OwnW.setCell {g : Nat} (h : OwnW w base e sz enc A c l) (hg : g < base) (o : Nat) (v : Value) : OwnW (w.setCell ⟨g, o, none⟩ v) base e sz enc A c l :=
  h.fx (S := [g]) (.grown (grown_cell w g o v) fun k hk => by injection hk with hk; subst hk; exact List.mem_singleton.2 rfl) fun k hk hm => by
    have := (h.lo k hk).1
    have := List.mem_singleton.1 hm
    omega
end
section
variable {P : Program}
/-- append onto an own row that has been cut to nothing. -/
theorem VApp.rowsW {α : Type} {w : World} {ty0 : TypeId} {t e : TypeId} {K : Value → World → Prop}
    (base : Nat) (sz bytes : Nat) (z : Value) (ht : P.underlying t = some (.slice e)) (hinfo : (P.info? e).map (fun i => (i.zero, i.size, i.bytes)) = some (some z, sz, bytes))
    (hzs : z.cells.size = sz) (hsz : 0 < sz) (enc : α → List Value) (henc : ∀ x, (enc x).length = sz) (hone : ∀ x, ∀ u ∈ enc x, u.oneCell' = true)
    {A : Option Addr} {c : Nat} (xs : List α) {B : Option Addr} {cB N m : Nat} (l : List α) (hm : l.length = m)
    (hown : OwnW w base e sz enc A c xs) (hr : RowAt w N sz enc B l)
    (h63 : m ≤ 9223372036854775807) (hbytes : m * bytes ≤ 140737488355328) (hbase : base ≤ w.heap.size)
    (h : ∀ A' c' w', OwnW w' base e sz enc A' c' l → w.grownBy w' (bw A c) → (∀ k, bw A' c' = some k → bw A c = some k ∨ k = w.heap.size) → K (.slice A' m c') w') : VApp P #[t, t] ty0 [.slice A 0 c, .slice B m cB] w K := by
  by_cases h0 : 0 < c
  · have hbw : bw A c = blk A := by unfold bw; rw [if_neg (by omega)]
    refine VApp.rows base sz bytes z ht hinfo hzs hsz enc henc hone [] l rfl hm (hown.own h0).short hr (by omega) (by rw [Nat.zero_add]; exact hbytes) hbase fun A' c' w' ho hg hk => ?_
    rw [Nat.zero_add]
    rw [List.nil_append] at ho
    refine h A' c' w' (.of ho) (by rw [hbw]; exact hg) fun k hk' => ?_
    rw [hbw]
    rcases hk with e1 | e1
    · left; rw [← e1]; exact (bw_blk hk').1
    · right; rw [(bw_blk hk').1] at e1; injection e1
  · have hc : c = 0 := by omega
    subst hc
    have hbw : bw A 0 = none := rfl
    subst hm
    obtain ⟨i, hi, hz, hsize, hby⟩ := info_parts hinfo
    by_cases h1 : 0 < l.length
    · have key : VApp P #[t, t] ty0 [.slice none 0 0, .slice B l.length cB] w K := by
        refine VApp.rows base sz bytes z ht hinfo hzs hsz enc henc hone [] l rfl rfl (owns_nil _ _ _ _ _) hr (by omega) (by rw [Nat.zero_add]; exact hbytes) hbase fun A' c' w' ho hg hk => ?_
        rw [Nat.zero_add]
        rw [List.nil_append] at ho
        refine h A' c' w' (.of ho) (by rw [hbw]; exact hg) fun k hk' => ?_
        rcases hk with e1 | e1
        · rw [(bw_blk hk').1] at e1; cases e1
        · right; rw [(bw_blk hk').1] at e1; injection e1
      cases A with
      | none => exact key
      | some ga =>
        obtain ⟨v, w', hrun, hk⟩ := key
        exact .mk v w' (by
          have := run_append_zero w t ty0 e i ht hi ga B l.length cB h1 (by rw [hby]; exact hbytes)
          exact this.trans hrun) hk
    · have hl : l = [] := List.eq_nil_of_length_eq_zero (by omega)
      subst hl
      exact .mk _ _ (run_append_none w t ty0 e i ht hi A B cB) (h A 0 w ⟨Nat.le_refl _, fun h2 => absurd h2 (by omega)⟩ (World.grownBy.refl w _) fun k hk => by cases hk)
end
end Go.Proofs.Ytcffhfcjfjfokaa
/- A book of own rows of one kind: the rows, the slice that lists them, the longer ones, the slice that lists those. -/
namespace Go.Proofs.Ytcffhfcjfjfokaa
open Go Go.RowKit
def eTr (t : Option Addr × Nat × Nat) : List Value := [.slice t.1 t.2.1 t.2.2]
theorem len_eTr (t : Option Addr × Nat × Nat) : (eTr t).length = 1 := rfl
theorem one_eTr (t : Option Addr × Nat × Nat) : ∀ u ∈ eTr t, u.oneCell' = true := by intro u hu; simp [eTr] at hu; subst hu; rfl
def rowT {α : Type} (x : RowX α) : Option Addr × Nat × Nat := (x.A, x.l.length, x.c)
theorem Owns.unique {α β : Type} {W : World} {base base' sz c c' q : Nat} {e e' : TypeId} {enc : α → List Value} {enc' : β → List Value} {A A' : Option Addr} {l : List α} {l' : List β} (hs : 0 < sz) (h : Owns W base e sz enc A c l) (h' : Owns W base' e' sz enc' A' c' l') (hA : blk A = some q) (hA' : blk A' = some q) : A = A' ∧ c = c' := by
  rcases h.2 with ⟨hv, _⟩ | ⟨g, cap, cur, hv, _, hh, _, _, hz, _⟩
  · injection hv with e1; rw [e1] at hA; cases hA
  · rcases h'.2 with ⟨hv', _⟩ | ⟨g', cap', cur', hv', _, hh', _, _, hz', _⟩
    · injection hv' with e1; rw [e1] at hA'; cases hA'
    · injection hv with e1 _ e2
      injection hv' with e3 _ e4
      subst e1; subst e2; subst e3; subst e4
      have e5 : g = q := by injection hA
      have e6 : g' = q := by injection hA'
      subst e5; subst e6
      rw [hh] at hh'
      injection hh' with hh'; injection hh' with hc
      subst hc
      exact ⟨rfl, Nat.eq_of_mul_eq_mul_right hs (hz.symm.trans hz')⟩
section
variable {α : Type} {W W' W'' : World} {base sz : Nat} {e : TypeId} {enc : α → List Value} {zs : Nat → List α} {P : List (RowX α)} {Q : List (Option Addr × Nat)}
/-- A row x, and the longer one that is being made of it since world W: in its block, or in a new one. -/
structure Gr (W : World) (base : Nat) (e : TypeId) (sz : Nat) (enc : α → List Value) (r : RowX α) (A : Option Addr) (c : Nat) (m : List α) (W' : World) : Prop where
  x : Owns W' base e sz enc r.A r.c r.l
  y : Owns W' base e sz enc A c (r.l ++ m)
  g : W.grownBy W' (blk r.A)
  k : blk A = blk r.A ∨ ∀ q, blk A = some q → W.heap.size ≤ q
  lt : ∀ q, blk r.A = some q → q < W.heap.size
theorem Gr.start {x : RowX α} (h : Owns W base e sz enc x.A x.c x.l) : Gr W base e sz enc x x.A x.c [] W := ⟨h, by rw [List.append_nil]; exact h, World.grownBy.refl W _, .inl rfl, fun q hq => (h.lo q hq).2⟩
/-- One more behind: what append (VApp.keep) tells. -/
theorem Gr.next (hsz : ∀ x, (enc x).length = sz) (hs : 0 < sz) {x : RowX α} {A A' : Option Addr} {c c' : Nat} {m : List α} {v : α} (h : Gr W base e sz enc x A c m W') (hy : Owns W'' base e sz enc A' c' (x.l ++ m ++ [v])) (ho : Owns W'' base e sz enc A c (x.l ++ m)) (hg : W'.grownBy W'' (blk A)) (hk : blk A' = blk A ∨ blk A' = some W'.heap.size) : Gr W base e sz enc x A' c' (m ++ [v]) W'' := by
  have hz := h.g.size
  refine ⟨?_, by rw [← List.append_assoc]; exact hy, ⟨hg.os.trans h.g.os, hg.tape.trans h.g.tape, hg.output.trans h.g.output, Nat.le_trans hz hg.size, fun k hk' hne => (hg.block k (by omega) (fun e1 => ?_)).trans (h.g.block k hk' hne)⟩, ?_, h.lt⟩
  · cases hx : blk x.A with
    | none => exact h.x.same fun q hq => by rw [hx] at hq; cases hq
    | some q =>
      rcases h.k with e1 | hn
      · obtain ⟨e2, e3⟩ := Owns.unique hs h.y h.x (e1.trans hx) hx
        rw [e2, e3] at ho
        exact own_prefix hsz ho (fun e4 => by rw [e4] at hx; cases hx)
      · exact h.x.kept hg (.inr fun e1 => by
          have := hn q (by rw [← e1]; exact hx)
          have := h.lt q hx
          omega)
  · rcases h.k with e2 | hn
    · exact hne (e1.trans e2)
    · have := hn k e1.symm; omega
  · rcases hk with e1 | e1
    · rcases h.k with e2 | hn
      · exact .inl (e1.trans e2)
      · exact .inr fun q hq => hn q (by rw [← e1]; exact hq)
    · right; intro q hq; rw [e1] at hq; injection hq with hq; omega
/-- A longer one has been made of the next row. -/
theorem Kd.grow (h : Kd W base e sz enc zs P Q) {x : RowX α} {A' : Option Addr} {c' : Nat} (hi : P[Q.length]? = some x) (G : Gr W base e sz enc x A' c' (zs Q.length) W') : Kd W' base e sz enc zs P (Q ++ [(A', c')]) := by
  have hg := G.g
  have hil := (List.getElem?_eq_some_iff.1 hi).1
  have hget : ∀ k y, (Q ++ [(A', c')])[k]? = some y → (k < Q.length ∧ Q[k]? = some y) ∨ (k = Q.length ∧ y = (A', c')) := fun k y hy => by
    have hkl := (List.getElem?_eq_some_iff.1 hy).1
    rw [List.length_append] at hkl
    by_cases e1 : k < Q.length
    · rw [List.getElem?_append_left e1] at hy; exact .inl ⟨e1, hy⟩
    · have : k = Q.length := by simp at hkl; omega
      subst this
      rw [List.getElem?_append_right (Nat.le_refl _), Nat.sub_self] at hy
      injection hy with hy; exact .inr ⟨rfl, hy.symm⟩
  refine ⟨fun y hy => ?_, fun k y z hy hz => ?_, fun k j' y z hne hy hz q hq e2 => ?_, h.dis, by rw [List.length_append]; simp; omega⟩
  · obtain ⟨k, hk'⟩ := List.mem_iff_getElem?.1 hy
    by_cases e1 : k = Q.length
    · subst e1; rw [hi] at hk'; injection hk' with hk'; subst hk'; exact G.x
    · exact (h.o y hy).same fun q hq => hg.block q ((h.o y hy).lo q hq).2 (fun e2 => h.dis k Q.length y x e1 hk' hi q hq e2.symm)
  · rcases hget k z hz with ⟨e1, hz'⟩ | ⟨e1, rfl⟩
    · have := h.d k y z hy hz'
      exact this.same fun q hq => hg.block q (this.lo q hq).2 (fun e2 => h.s k Q.length x z (by omega) hi hz' q hq e2.symm)
    · subst e1; rw [hi] at hy; injection hy with hy; subst hy; exact G.y
  · rcases hget k z hz with ⟨e1, hz'⟩ | ⟨e1, rfl⟩
    · exact h.s k j' y z hne hy hz' q hq e2
    · rcases G.k with hk | hk
      · exact h.dis k j' x y hne (by rw [e1]; exact hi) hy q (by rw [← hk]; exact hq) e2
      · have := ((h.o y (List.mem_of_getElem? hy)).lo q e2).2
        have := hk q hq
        omega
/-- One row more, new or of blocks of its own. -/
theorem Kd.add (h : Kd W base e sz enc zs P []) {x : RowX α} (hb : Below W.heap.size W W') (ho : Owns W' base e sz enc x.A x.c x.l) (hn : ∀ q, blk x.A = some q → W.heap.size ≤ q) : Kd W' base e sz enc zs (P ++ [x]) [] := by
  have h' := h.below hb
  have hget : ∀ k y, (P ++ [x])[k]? = some y → (k < P.length ∧ P[k]? = some y) ∨ (k = P.length ∧ y = x) := fun k y hy => by
    have hkl := (List.getElem?_eq_some_iff.1 hy).1
    rw [List.length_append] at hkl
    by_cases e1 : k < P.length
    · rw [List.getElem?_append_left e1] at hy; exact .inl ⟨e1, hy⟩
    · have : k = P.length := by simp at hkl; omega
      subst this
      rw [List.getElem?_append_right (Nat.le_refl _), Nat.sub_self] at hy
      injection hy with hy; exact .inr ⟨rfl, hy.symm⟩
  refine ⟨fun y hy => ?_, fun k y z _ hz => by simp at hz, fun k j y z _ _ hz => by simp at hz, fun k j y z hne hy hz q h1 h2 => ?_, Nat.zero_le _⟩
  · rcases List.mem_append.1 hy with hy | hy
    · exact h'.o y hy
    · obtain rfl := List.mem_singleton.1 hy; exact ho
  · rcases hget k y hy with ⟨e1, e2⟩ | ⟨e1, rfl⟩ <;> rcases hget j z hz with ⟨e3, e4⟩ | ⟨e3, rfl⟩
    · exact h.dis k j y z hne e2 e4 q h1 h2
    · have := ((h.o y (List.mem_of_getElem? e2)).lo q h1).2; have := hn q h2; omega
    · have := ((h.o z (List.mem_of_getElem? e4)).lo q h2).2; have := hn q h1; omega
    · omega
end
end Go.Proofs.Ytcffhfcjfjfokaa
/- The law's book (own.go's Held): six kinds of own rows. -/
namespace Go.Proofs.Ytcffhfcjfjfokaa
open Go Go.RowKit
/-- One kind: the rows, the slice that lists them (L, cL), the longer ones, the slice that lists those (M, cM). -/
structure KX (α : Type) where
  L : Option Addr
  cL : Nat
  P : List (RowX α)
  M : Option Addr
  cM : Nat
  Q : List (Option Addr × Nat)
def moreT {α : Type} (P : List (RowX α)) (Q : List (Option Addr × Nat)) : List (Option Addr × Nat × Nat) := (P.zip Q).map fun z => (z.2.1, z.1.l.length + 64, z.2.2)
theorem moreT_len {α : Type} {P : List (RowX α)} {Q : List (Option Addr × Nat)} (h : Q.length ≤ P.length) : (moreT P Q).length = Q.length := by
  unfold moreT; rw [List.length_map, List.length_zip]; omega
theorem moreT_at {α : Type} {P : List (RowX α)} {Q : List (Option Addr × Nat)} {k : Nat} {x : RowX α} {y : Option Addr × Nat} (hx : P[k]? = some x) (hy : Q[k]? = some y) : (moreT P Q)[k]? = some (y.1, x.l.length + 64, y.2) := by
  unfold moreT
  rw [List.getElem?_map, (List.getElem?_zip_eq_some (z := (x, y))).2 ⟨hx, hy⟩]; rfl
structure Kb {α : Type} (W : World) (base : Nat) (tl e : TypeId) (sz : Nat) (enc : α → List Value) (zs : Nat → List α) (x : KX α) : Prop where
  k : Kd W base e sz enc zs x.P x.Q
  l : Owns W base tl 1 eTr x.L x.cL (x.P.map rowT)
  m : Owns W base tl 1 eTr x.M x.cM (moreT x.P x.Q)
  lm : ∀ q, blk x.L = some q → blk x.M ≠ some q
section
variable {α : Type} {W W' : World} {base sz : Nat} {tl e : TypeId} {enc : α → List Value} {zs : Nat → List α} {x : KX α}
theorem Kb.below (h : Kb W base tl e sz enc zs x) (hb : Below W.heap.size W W') : Kb W' base tl e sz enc zs x :=
  ⟨h.k.below hb, h.l.keep hb fun k hk => (h.l.lo k hk).2, h.m.keep hb fun k hk => (h.m.lo k hk).2, h.lm⟩
/-- A row of another kind is written or made longer. -/
theorem Kb.other {β : Type} {base' sz' c' : Nat} {e' : TypeId} {enc' : β → List Value} {A' : Option Addr} {l' : List β} (h : Kb W base tl e sz enc zs x) (ho : Owns W base' e' sz' enc' A' c' l') (he : e ≠ e') (ht : tl ≠ e') (hg : W.grownBy W' (blk A')) : Kb W' base tl e sz enc zs x :=
  ⟨h.k.other ho he hg, h.l.kept hg (h.l.ne ho ht), h.m.kept hg (h.m.ne ho ht), h.lm⟩
end
end Go.Proofs.Ytcffhfcjfjfokaa
/- The law's book: all six kinds, and the cells that hold the slices. -/
namespace Go.Proofs.Ytcffhfcjfjfokaa
open Go Go.RowKit
section
variable {α : Type} {W W' : World} {base sz : Nat} {tl e : TypeId} {enc : α → List Value} {zs : Nat → List α} {x : KX α}
theorem rowT_set {P : List (RowX α)} {i j : Nat} {r : RowX α} (hi : P[i]? = some r) (v : α) : (P.set i ⟨r.A, r.c, r.l.set j v⟩).map rowT = P.map rowT := by
  rw [List.map_set]
  have e1 : rowT (⟨r.A, r.c, r.l.set j v⟩ : RowX α) = rowT r := by unfold rowT; simp
  rw [e1]
  apply List.ext_getElem?
  intro k
  by_cases h : k = i
  · subst h
    have hk := (List.getElem?_eq_some_iff.1 hi).1
    rw [List.getElem?_set_self (by rw [List.length_map]; exact hk), List.getElem?_map, hi]; rfl
  · rw [List.getElem?_set_ne (fun e2 => h e2.symm)]
/-- An element of a row is written (no longer row has been made). -/
theorem Kb.write (h : Kb W base tl e sz enc zs x) (hsz : ∀ x, (enc x).length = sz) (ht : tl ≠ e) (hQ : x.Q = []) {i j g : Nat} {r : RowX α} (hi : x.P[i]? = some r) (hg : r.A = some ⟨g, 0, none⟩) (hj : j < r.l.length) (v : α) :
    Kb (W.setCells g (j * sz) (enc v)) base tl e sz enc zs { x with P := x.P.set i ⟨r.A, r.c, r.l.set j v⟩ } := by
  have ho := h.k.o r (List.mem_of_getElem? hi)
  have hgr : W.grownBy (W.setCells g (j * sz) (enc v)) (blk r.A) := by rw [hg]; exact grown_sets _ _ _ _
  refine ⟨h.k.write hsz hi (by rw [hQ]; exact Nat.zero_le _) hg hj v, ?_, ?_, h.lm⟩
  · dsimp only
    rw [rowT_set hi v]
    exact h.l.kept hgr (h.l.ne ho ht)
  · have hm := h.m
    dsimp only
    rw [hQ] at hm ⊢
    unfold moreT at hm ⊢
    rw [List.zip_nil_right] at hm ⊢
    exact hm.kept hgr (hm.ne ho ht)
end
structure BX where
  y : KX Int
  i : KX Int
  s : KX (Int × Int)
  f : KX Rw
  d : KX Dr
  m : KX Dr
def byM (k : Nat) : Int := 1 + ((k % 250 : Nat) : Int)
def inM (k : Nat) : Int := -1000 - (k : Int)
def slM (k : Nat) : Int × Int := (0, -1000 - (k : Int))
def flM (k : Nat) : Rw := ⟨⟨0, 0, 0, 0, -1000 - (k : Int), [], []⟩, none, 0, none, 0⟩
def daM (k : Nat) : Dr := ⟨⟨0, -1000 - (k : Int), 0, []⟩, none, 0⟩
def msM (k : Nat) : Dr := ⟨⟨0, 0, -1000 - (k : Int), []⟩, none, 0⟩
def z64 {α : Type} (m : Nat → α) (k : Nat) : List α := List.replicate 64 (m k)
def kxC {α : Type} (x : KX α) : List Value := [.slice x.L x.P.length x.cL, .slice x.M x.Q.length x.cM]
structure Bo (W : World) (base hb : Nat) (x : BX) (o : List Value) : Prop where
  y : Kb W base 52 5 1 eByte (z64 byM) x.y
  i : Kb W base 37 3 1 eInt (z64 inM) x.i
  s : Kb W base 36 66 2 eSlot (z64 slM) x.s
  f : Kb W base 22 39 7 eRw (z64 flM) x.f
  d : Kb W base 40 113 4 eDr (z64 daM) x.d
  m : Kb W base 44 54 4 eDr (z64 msM) x.m
  r : W.rangeAt hb 0 (kxC x.y ++ kxC x.i ++ kxC x.s ++ kxC x.f ++ kxC x.d ++ kxC x.m ++ o)
  t : W.there hb 0 16
  hz : hb < base
  z : base ≤ W.heap.size
section
variable {W W' : World} {base hb : Nat} {x : BX} {o : List Value}
theorem Bo.below (h : Bo W base hb x o) (hw : Below W.heap.size W W') : Bo W' base hb x o :=
  ⟨h.y.below hw, h.i.below hw, h.s.below hw, h.f.below hw, h.d.below hw, h.m.below hw, range_same h.r (hw.block hb (by have := h.hz; have := h.z; omega)), there_same h.t (hw.block hb (by have := h.hz; have := h.z; omega)), h.hz, Nat.le_trans h.z hw.size⟩
end
end Go.Proofs.Ytcffhfcjfjfokaa
/- The law's byteOf. -/
namespace Go.Proofs.Ytcffhfcjfjfokaa
open Go Go.RowKit
theorem rem250 (k : Nat) (W : World) : (binOp .rem 3 (.int .i64 k) (.int .i64 250)).run Try.prog W = .ok (.int .i64 ((k % 250 : Nat) : Int)) W := by
  have e1 : (k : Int).tmod 250 = ((k % 250 : Nat) : Int) := by rw [Int.tmod_eq_emod_of_nonneg (by omega)]; omega
  have e2 : IntKind.i64.wrap ((k % 250 : Nat) : Int) = ((k % 250 : Nat) : Int) := IntWalk.i64_in _ (by omega)
  simp [binOp, go_sem, e1, e2]
theorem u8_in (n : Int) (h0 : 0 ≤ n) (h1 : n < 256) : IntKind.u8.wrap n = n := by
  simp [IntKind.wrap, IntKind.bits, IntKind.signed]
  omega
set_option maxRecDepth 100000 in
theorem byteOf_any (k : Nat) (w : World) : Calls Try.prog 113 #[.int .i64 k] w fun e w' => e = .returned (.int .u8 (byM k)) ∧ w = w' := by
  have c5 := u8_in (1 + ((k % 250 : Nat) : Int)) (by omega) (by omega)
  refine calls_vc tab_ok Try.func113 rfl ?_
  repeat (conv => whnf
          first
          | (refine VCmp.tt (by omega) ?_)
          | (refine VCmp.ff (by omega) ?_)
          | (refine VIn.mk (IntWalk.i64_in _ (by omega)) ?_)
          | (refine VIdx.mk _ rfl (by omega) ?_)
          | (refine VIdx.mk 0 rfl (by omega) ?_))
  try (conv => whnf)
  refine VQ.mk (.int .i64 ((k % 250 : Nat) : Int)) (fun a ha W _ => ?_) ?_
  · have h3 := ha (.tmp 3) _ rfl
    have h4 := ha (.const (.int .i64 250)) _ rfl
    have := rem250 k W
    have hg : Sem.run Try.prog (eqGuard .rem 3 (.tmp 3) (.const (.int .i64 250)) (.int .i64 k) (.int .i64 250)) W = .ok () W := rfl
    simp only [execOp, h3, h4, Sem.run_bind, hg, this, Result.andThen_ok, Sem.run_pure]
  repeat (conv => whnf
          first
          | (refine VIn.mk c5 ?_)
          | (refine VCmp.tt (by omega) ?_)
          | (refine VCmp.ff (by omega) ?_)
          | (refine VIn.mk (IntWalk.i64_in _ (by omega)) ?_)
          | (refine VIdx.mk _ rfl (by omega) ?_)
          | (refine VIdx.mk 0 rfl (by omega) ?_))
  try (conv => whnf)
  exact .mk ⟨rfl, rfl⟩
end Go.Proofs.Ytcffhfcjfjfokaa
