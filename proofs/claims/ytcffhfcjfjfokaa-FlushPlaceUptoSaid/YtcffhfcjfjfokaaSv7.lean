/- Many Datas Gen Wk One2, joined. -/
import Derived.Test.YtcffhfcjfjfokaaSv4
import Derived.Test.YtcffhfcjfjfokaaSv6
set_option linter.unusedVariables false
set_option linter.unusedSimpArgs false
/- The law's many: contents of their own. -/
namespace Go.Proofs.Ytcffhfcjfjfokaa
open Go.RowKit
/-- A row in another block than B's. -/
def FarRow {α : Type} (w : World) (B : Option Addr) (sz : Nat) (enc : α → List Value) (A : Option Addr) (l : List α) : Prop :=
  0 < l.length → ∃ b off, A = some ⟨b, off, none⟩ ∧ some b ≠ blk B ∧ b < w.heap.size ∧ ∀ k x, l[k]? = some x → ∀ j u, (enc x)[j]? = some u → w.cell? ⟨b, off + k * sz + j, none⟩ = some u
section
variable {α : Type} {w w' : World} {lo sz : Nat} {enc : α → List Value} {A B B' : Option Addr} {l : List α}
theorem FarRow.row (h : FarRow w B sz enc A l) : RowAt w w.heap.size sz enc A l := fun h0 => by
  obtain ⟨b, off, e, _, hb, hc⟩ := h h0
  exact ⟨b, off, e, hb, hc⟩
theorem FarRow.of_row (h : FRow w lo sz enc A l) (hB : ∀ k, blk B = some k → k < lo) : FarRow w B sz enc A l := fun h0 => by
  obtain ⟨b, off, e, h1, h2, hc⟩ := h h0
  exact ⟨b, off, e, fun e2 => by have := hB b e2.symm; omega, h2, hc⟩
theorem FarRow.below (h : FarRow w B sz enc A l) (hb : Below w.heap.size w w') : FarRow w' B sz enc A l := fun h0 => by
  obtain ⟨b, off, e, h1, h2, hc⟩ := h h0
  exact ⟨b, off, e, h1, Nat.lt_of_lt_of_le h2 hb.size, fun k x hk j u hu => (hb.cell (p := ⟨b, _, none⟩) h2).trans (hc k x hk j u hu)⟩
theorem FarRow.grown (h : FarRow w B sz enc A l) (hg : w.grownBy w' (blk B)) (hk : blk B' = blk B ∨ blk B' = some w.heap.size) : FarRow w' B' sz enc A l := fun h0 => by
  obtain ⟨b, off, e, h1, h2, hc⟩ := h h0
  refine ⟨b, off, e, fun e2 => ?_, Nat.lt_of_lt_of_le h2 hg.size, fun k x hk j u hu => (hg.cell_far ⟨b, _, none⟩ h2 h1).trans (hc k x hk j u hu)⟩
  rcases hk with hk | hk
  · exact h1 (e2.trans hk)
  · rw [hk] at e2; injection e2 with e2; omega
end
/-- A content whose lists lie in other blocks than B's. -/
def FarFl (w : World) (B : Option Addr) (r : Rw) : Prop := FlRows w w.heap.size r.f r.X r.cX r.Y r.cY ∧ FarRow w B 2 eSlot r.X r.f.slots ∧ FarRow w B 1 eInt r.Y r.f.have_
theorem FarFl.below {w w' : World} {B : Option Addr} {r : Rw} (h : FarFl w B r) (hb : Below w.heap.size w w') : FarFl w' B r :=
  ⟨⟨(h.2.1.below hb).row, (h.2.2.below hb).row, h.1.lenS, h.1.capS, h.1.lenH, h.1.capH⟩, h.2.1.below hb, h.2.2.below hb⟩
theorem FarFl.grown {w w' : World} {B B' : Option Addr} {r : Rw} (h : FarFl w B r) (hg : w.grownBy w' (blk B)) (hk : blk B' = blk B ∨ blk B' = some w.heap.size) : FarFl w' B' r :=
  ⟨⟨(h.2.1.grown hg hk).row, (h.2.2.grown hg hk).row, h.1.lenS, h.1.capS, h.1.lenH, h.1.capH⟩, h.2.1.grown hg hk, h.2.2.grown hg hk⟩
set_option maxRecDepth 100000 in
set_option maxHeartbeats 4000000 in
theorem many_any (A : Option Addr) (cA N : Nat) (fs : List Fl) (w : World) (hN : N ≤ w.heap.size) (hA : Fls w N A fs) (hsm : Small fs) :
    Calls Try.prog 28 #[.slice A fs.length cA] w fun x w' => (∃ B c, x = .returned (.slice B fs.length c) ∧ Fls w' w'.heap.size B fs) ∧ Below w.heap.size w w' := by
  have hl : fs.length ≤ 1048576 := hsm.1
  replace hsm := Lib.hid hsm
  go_enter Try.func28, Try.ntmps28
  go_wp2
  go_loopw [3, 4] (fun a k wr => ∃ (i : Nat) (rs : List Rw) (B : Option Addr) (c : Nat), k = .int .i64 i ∧ a = .slice B i c ∧ rs.length = i ∧ i ≤ fs.length ∧ Hid (rs.map Rw.f = fs.take i) ∧ Owns wr w.heap.size 39 7 eRw B c rs ∧ (∀ r ∈ rs, FarFl wr B r) ∧ Below w.heap.size w wr) (fun _ k _ => fs.length - (intOf k).toNat)
  case atStart => exact ⟨0, [], _, 0, rfl, rfl, rfl, by omega, by show List.map _ _ = _; simp, owns_empty _ _ _ _ _ (Nat.le_refl _), by simp, (Below.refl _ _).alloc (Nat.le_refl _) _⟩
  case round =>
    obtain ⟨i, rs, B, c, rfl, rfl, hrl, hi, hrs, ho, hfar, hb⟩ := hrel
    have hrl' := Lib.hid hrl
    have hszr := hb.size
    replace hfar := Lib.hid hfar
    by_cases hlt : i < fs.length
    · obtain ⟨g, o, f, X, cX, Y, cY, rfl, hg, hf, ⟨c0, c1, c2, c3, c4, c5, c6⟩, hr⟩ := (hA.below hb hN).at_ hlt
      have hgw : g < wr.heap.size := by omega
      obtain ⟨hs1, hs2⟩ := hsm.out.2 f (List.mem_of_getElem? hf.out)
      have hlo := ho.lo
      replace ho := Lib.hid ho
      clear hrl
      go_wp2_with (first
        | (go_at_call 38; refine (one_any f X Y cX cY N wr (by omega) hr (by omega) (by omega)).mono ?_; rintro e w1 ⟨⟨X1, cX1, Y1, cY1, rfl, hfr, hX1, hY1⟩, hb1⟩; replace hX1 := Lib.hid hX1; replace hY1 := Lib.hid hY1; replace hfr := Lib.hid hfr; have hs1' := hb1.size)
        | (at_builtin; refine wpList_append_rows _ rfl (.tmp 12) (.tmp 18) 22 rfl w.heap.size 39 7 88 _ Try.underlying22 info39 rfl (by decide) eRw len_eRw one_eRw B c rs (some ⟨w1.heap.size, 0, none⟩) 1 (w1.heap.size + 1) i 1 [⟨f, X1, cX1, Y1, cY1⟩] rfl rfl hrl'.out rfl ((ho.out.keep hb1 (fun k hk => (hlo k hk).2)).alloc _) (row_new _ _ _ _ _ _ rfl) (by omega) (by omega) (by simp; omega) ?_)
        | fail)
      intro A3 cc3 w3 ho3 hg3 hk3
      replace hk3 : blk A3 = blk B ∨ blk A3 = some (w1.alloc (.cells #[.int .i64 f.e, .int .i64 f.l, .int .i64 f.i, .int .i64 f.c, .int .i64 f.base, .slice X1 f.slots.length cX1, .slice Y1 f.have_.length cY1] 39)).heap.size := by simpa using hk3
      have hb13 : Below w1.heap.size w1 (w1.alloc (.cells #[.int .i64 f.e, .int .i64 f.l, .int .i64 f.i, .int .i64 f.c, .int .i64 f.base, .slice X1 f.slots.length cX1, .slice Y1 f.have_.length cY1] 39)) := (Below.refl _ _).alloc (Nat.le_refl _) _
      have hnew : FarFl w1 B ⟨f, X1, cX1, Y1, cY1⟩ := ⟨hfr.out, FarRow.of_row hX1.out (fun k hk => (hlo k hk).2), FarRow.of_row hY1.out (fun k hk => (hlo k hk).2)⟩
      have hbw3 : Below w.heap.size w w3 := ((hb.trans (hb1.mono hszr)).alloc (by omega) _).grown hg3 (by simp only [World.size_alloc]; omega) (fun k hk => (hlo k hk).1)
      have hfar3 : ∀ r ∈ rs ++ [⟨f, X1, cX1, Y1, cY1⟩], FarFl w3 A3 r := fun r hr' => by
        rcases List.mem_append.1 hr' with h | h
        · exact (((hfar.out r h).below hb1).below hb13).grown hg3 hk3
        · obtain rfl := List.mem_singleton.1 h
          exact (hnew.below hb13).grown hg3 hk3
      replace hfar3 := Lib.hid hfar3
      replace ho3 := Lib.hid ho3
      clear hg3 hk3 hnew hb13 hlo c0 c1 c2 c3 c4 c5 c6
      have hrs3 : Hid ((rs ++ [(⟨f, X1, cX1, Y1, cY1⟩ : Rw)]).map Rw.f = fs.take (i + 1)) := by
        show List.map Rw.f (rs ++ [⟨f, X1, cX1, Y1, cY1⟩]) = _
        rw [List.map_append, hrs.out, List.take_add_one, hf.out]; rfl
      go_wp2
      go_roundw
      case rel => go_light; exact ⟨i + 1, rs ++ [⟨f, X1, cX1, Y1, cY1⟩], A3, cc3, by go_num, rfl, by rw [List.length_append, hrl'.out]; rfl, by omega, hrs3, ho3.out, hfar3.out, hbw3⟩
      case measure => go_light; simp [intOf]; omega
    · obtain rfl : i = fs.length := by omega
      have hF : Fls wr wr.heap.size B fs := by
        have := rows_fls (w := wr) (N := wr.heap.size) (A := B) (rs := rs) ⟨ho.row len_eRw, fun r hr => (hfar.out r hr).1⟩
        rw [hrs.out, List.take_length] at this; exact this
      replace ho := Lib.hid ho
      replace hF := Lib.hid hF
      clear hrl
      go_wp2
      go_ret
      exact ⟨⟨B, c, rfl, hF.out⟩, hb⟩
end Go.Proofs.Ytcffhfcjfjfokaa
/- The law's datas: messages of their own. -/
namespace Go.Proofs.Ytcffhfcjfjfokaa
open Go.RowKit
theorem info5 : (Try.prog.info? 5).map (fun i => (i.zero, i.size, i.bytes)) = some (some (.int .u8 0), 1, 1) := by kernel_rfl
theorem info113 : (Try.prog.info? 113).map (fun i => (i.zero, i.size, i.bytes)) = some (some (.agg #[.int .i64 0, .int .i64 0, .int .i64 0, .slice none 0 0]), 4, 48) := by kernel_rfl
/-- Messages that are not too many and not too long. -/
def SmallD (ds : List Dt) : Prop := ds.length ≤ 1048576 ∧ ∀ d ∈ ds, d.body.length ≤ 1048576
/-- A message whose bytes lie in another block than B's. -/
def FarDr (w : World) (B : Option Addr) (r : Dr) : Prop := (r.d.body.length ≤ r.c ∧ r.c ≤ 9223372036854775807) ∧ FarRow w B 1 eByte r.B r.d.body
theorem FarDr.below {w w' : World} {B : Option Addr} {r : Dr} (h : FarDr w B r) (hb : Below w.heap.size w w') : FarDr w' B r := ⟨h.1, h.2.below hb⟩
theorem FarDr.grown {w w' : World} {B B' : Option Addr} {r : Dr} (h : FarDr w B r) (hg : w.grownBy w' (blk B)) (hk : blk B' = blk B ∨ blk B' = some w.heap.size) : FarDr w' B' r := ⟨h.1, h.2.grown hg hk⟩
set_option maxRecDepth 100000 in
set_option maxHeartbeats 4000000 in
theorem datas_any (A : Option Addr) (cA N : Nat) (ds : List Dt) (w : World) (hN : N ≤ w.heap.size) (hA : Dts w N A ds) (hsm : SmallD ds) :
    Calls Try.prog 18 #[.slice A ds.length cA] w fun x w' => (∃ B c, x = .returned (.slice B ds.length c) ∧ Dts w' w'.heap.size B ds) ∧ Below w.heap.size w w' := by
  have hl : ds.length ≤ 1048576 := hsm.1
  replace hsm := Lib.hid hsm
  go_enter Try.func18, Try.ntmps18
  go_wp2
  go_loopw [3, 4] (fun a k wr => ∃ (i : Nat) (rs : List Dr) (B : Option Addr) (c : Nat), k = .int .i64 i ∧ a = .slice B i c ∧ rs.length = i ∧ i ≤ ds.length ∧ Hid (rs.map Dr.d = ds.take i) ∧ Owns wr w.heap.size 113 4 eDr B c rs ∧ (∀ r ∈ rs, FarDr wr B r) ∧ Below w.heap.size w wr) (fun _ k _ => ds.length - (intOf k).toNat)
  case atStart => exact ⟨0, [], _, 0, rfl, rfl, rfl, by omega, by show List.map _ _ = _; simp, owns_empty _ _ _ _ _ (Nat.le_refl _), by simp, (Below.refl _ _).alloc (Nat.le_refl _) _⟩
  case round =>
    obtain ⟨i, rs, B, c, rfl, rfl, hrl, hi, hrs, ho, hfar, hb⟩ := hrel
    have hrl' := Lib.hid hrl
    have hszr := hb.size
    replace hfar := Lib.hid hfar
    by_cases hlt : i < ds.length
    · obtain ⟨g, o, d, X, cX, hAe, hg, hd, c0, c1, c2, c3, hX⟩ := (hA.below hb hN).at_ hlt
      subst hAe
      have hgw : g < wr.heap.size := by omega
      have hs1 := hsm.out.2 d (List.mem_of_getElem? hd.out)
      have hlo := ho.lo
      replace ho := Lib.hid ho
      clear hrl
      go_wp2_with (at_builtin; refine wpList_append_rows _ rfl (.tmp 17) (.tmp 19) 52 rfl (wr.heap.size + 1) 5 1 1 _ Try.underlying52 info5 rfl (by decide) eByte len_eByte one_eByte (some ⟨wr.heap.size + 1, 0, none⟩) 0 [] X cX N 0 d.body.length d.body rfl rfl rfl rfl (owns_empty_at _ _ _ _ _ (by simp) (Nat.le_refl _)) (hX.row.below (((Below.refl wr.heap.size wr).alloc (Nat.le_refl _) _).alloc (by simp) _) (by omega)) (by omega) (by omega) (by simp) ?_)
      intro A1 cc1 w1 ho1 hg1 hk1
      have hb1 : Below (wr.heap.size + 1) (box1 wr #[.int .i64 d.s, .int .i64 d.q, .int .i64 d.b, .slice X d.body.length cX] 113) w1 := ((Below.refl _ _).alloc (by simp) _).grown hg1 (by simp) (by intro k hk; simp [blk] at hk; omega)
      obtain ⟨hb10, hc1, hf1, hsz1⟩ := box1_facts hb1
      have q0 := hc1 0
      have q1 := hc1 1
      have q2 := hc1 2
      have q3 := hc1 3
      have z3 := hf1 3
      simp at q0 q1 q2 q3
      have hlo1 := ho1.lo
      have hlen1 := ho1.len
      have hF1 := FRow.of_owns ho1 len_eByte
      replace ho1 := Lib.hid ho1
      replace hF1 := Lib.hid hF1
      clear hg1 hk1 hc1 hf1 c0 c1 c2 c3 hX
      have hb2 : Below wr.heap.size wr (w1.setCell ⟨wr.heap.size, 3, none⟩ (.slice A1 d.body.length cc1)) := hb10.setCell (by show wr.heap.size ≤ wr.heap.size; omega) _
      have hF2 : FRow (w1.setCell ⟨wr.heap.size, 3, none⟩ (.slice A1 d.body.length cc1)) (wr.heap.size + 1) 1 eByte A1 d.body := hF1.out.setCell (Nat.lt_succ_self _) _
      have hsz2 : (w1.setCell ⟨wr.heap.size, 3, none⟩ (.slice A1 d.body.length cc1)).heap.size = w1.heap.size := World.size_setCell _ _ _
      replace hF2 := Lib.hid hF2
      replace hb2 := Lib.hid hb2
      go_wp2_with (at_builtin; refine wpList_append_rows _ rfl (.tmp 22) (.tmp 24) 40 rfl w.heap.size 113 4 48 _ Try.underlying40 info113 rfl (by decide) eDr len_eDr one_eDr B c rs (some ⟨w1.heap.size, 0, none⟩) 1 (w1.heap.size + 1) i 1 [⟨d, A1, cc1⟩] rfl rfl hrl'.out rfl ((ho.out.keep hb2.out (fun k hk => (hlo k hk).2)).alloc _) (by have := row_new (w1.setCell ⟨wr.heap.size, 3, none⟩ (.slice A1 d.body.length cc1)) 113 4 eDr ⟨d, A1, cc1⟩ #[.int .i64 d.s, .int .i64 d.q, .int .i64 d.b, .slice A1 d.body.length cc1] rfl; rw [hsz2] at this; exact this) (by omega) (by omega) (by simp; omega) ?_)
      intro A3 cc3 w3 ho3 hg3 hk3
      replace hk3 : blk A3 = blk B ∨ blk A3 = some ((w1.setCell ⟨wr.heap.size, 3, none⟩ (.slice A1 d.body.length cc1)).alloc (.cells #[.int .i64 d.s, .int .i64 d.q, .int .i64 d.b, .slice A1 d.body.length cc1] 113)).heap.size := by simpa using hk3
      have hb13 : Below (w1.setCell ⟨wr.heap.size, 3, none⟩ (.slice A1 d.body.length cc1)).heap.size (w1.setCell ⟨wr.heap.size, 3, none⟩ (.slice A1 d.body.length cc1)) ((w1.setCell ⟨wr.heap.size, 3, none⟩ (.slice A1 d.body.length cc1)).alloc (.cells #[.int .i64 d.s, .int .i64 d.q, .int .i64 d.b, .slice A1 d.body.length cc1] 113)) := (Below.refl _ _).alloc (Nat.le_refl _) _
      have hnew : FarDr (w1.setCell ⟨wr.heap.size, 3, none⟩ (.slice A1 d.body.length cc1)) B ⟨d, A1, cc1⟩ := ⟨hlen1, FarRow.of_row hF2.out (fun k hk => by have := (hlo k hk).2; omega)⟩
      have hbw3 : Below w.heap.size w w3 := ((hb.trans (hb2.out.mono hszr)).alloc (by rw [hsz2]; omega) (.cells #[.int .i64 d.s, .int .i64 d.q, .int .i64 d.b, .slice A1 d.body.length cc1] 113)).grown hg3 (by simp only [World.size_alloc]; omega) (fun k hk => (hlo k hk).1)
      have hfar3 : ∀ r ∈ rs ++ [⟨d, A1, cc1⟩], FarDr w3 A3 r := fun r hr' => by
        rcases List.mem_append.1 hr' with h | h
        · exact (((hfar.out r h).below hb2.out).below hb13).grown hg3 hk3
        · obtain rfl := List.mem_singleton.1 h
          exact (hnew.below hb13).grown hg3 hk3
      have hrs3 : Hid ((rs ++ [(⟨d, A1, cc1⟩ : Dr)]).map Dr.d = ds.take (i + 1)) := by
        show List.map Dr.d (rs ++ [⟨d, A1, cc1⟩]) = _
        rw [List.map_append, hrs.out, List.take_add_one, hd.out]; rfl
      replace hfar3 := Lib.hid hfar3
      replace ho3 := Lib.hid ho3
      clear hg3 hk3 hnew hb13 hlo q0 q1 q2 q3 z3
      go_wp2
      go_roundw
      case rel => go_light; exact ⟨i + 1, rs ++ [⟨d, A1, cc1⟩], A3, cc3, by go_num, rfl, by rw [List.length_append, hrl'.out]; rfl, by omega, hrs3, ho3.out, hfar3.out, hbw3⟩
      case measure => go_light; simp [intOf]; omega
    · obtain rfl : i = ds.length := by omega
      have hF : Dts wr wr.heap.size B ds := ⟨rs, by rw [hrs.out, List.take_length], ho.row len_eDr, fun r hr => ⟨(hfar.out r hr).2.row, (hfar.out r hr).1.1, (hfar.out r hr).1.2⟩⟩
      replace ho := Lib.hid ho
      replace hF := Lib.hid hF
      clear hrl
      go_wp2
      go_ret
      exact ⟨⟨B, c, rfl, hF.out⟩, hb⟩
end Go.Proofs.Ytcffhfcjfjfokaa
/- General words and lemmas of memory, for walks by reckoning. -/
namespace Go.Proofs.Ytcffhfcjfjfokaa
open Go Go.RowKit
abbrev drA (r : Dr) : Array Value := #[.int .i64 r.d.s, .int .i64 r.d.q, .int .i64 r.d.b, .slice r.B r.d.body.length r.c]
theorem size39s : (Try.prog.info? 39).map (·.size) = some 7 := by kernel_rfl
theorem one_flc (e l i c b : Int) (A : Option Addr) (n cA : Nat) (B : Option Addr) (m cB : Nat) : (flc e l i c b A n cA B m cB).all (·.oneCell') = true := by
  refine all_oneCell_toArray (cs := [.int .i64 e, .int .i64 l, .int .i64 i, .int .i64 c, .int .i64 b, .slice A n cA, .slice B m cB]) fun y hy => ?_
  simp only [List.mem_cons, List.not_mem_nil, or_false] at hy
  rcases hy with rfl | rfl | rfl | rfl | rfl | rfl | rfl <;> rfl
theorem load39 {w : World} {b o : Nat} {e l i c u : Int} {A : Option Addr} {n cA : Nat} {B : Option Addr} {m cB : Nat} (h : w.rangeAt b o (flc e l i c u A n cA B m cB).toList) : (loadVar 39 ⟨b, o, none⟩).run Try.prog w = .ok (.agg (flc e l i c u A n cA B m cB)) w :=
  run_loadVar_mid w b o 39 (flc e l i c u A n cA B m cB).toList _ h Try.underlying39 rfl (by rw [size39s]; rfl)
theorem Owns.base {α : Type} {w : World} {base base' sz c : Nat} {e : TypeId} {enc : α → List Value} {A : Option Addr} {l : List α} (h : Owns w base e sz enc A c l) (hb : base' ≤ base) : Owns w base' e sz enc A c l := by
  refine ⟨h.1, ?_⟩
  rcases h.2 with h2 | ⟨g, cap, cur, hv, hbase, hr⟩
  · exact .inl h2
  · exact .inr ⟨g, cap, cur, hv, by omega, hr⟩
theorem Owns.same {α : Type} {w w' : World} {base sz c : Nat} {e : TypeId} {enc : α → List Value} {A : Option Addr} {l : List α} (h : Owns w base e sz enc A c l) (hb : ∀ g, blk A = some g → w'.heap[g]? = w.heap[g]?) : Owns w' base e sz enc A c l := by
  refine ⟨h.1, ?_⟩
  rcases h.2 with h2 | ⟨g, cap, cur, hv, h3, h4, h5⟩
  · exact .inl h2
  · injection hv with e1 e2 e3
    subst e1; subst e3
    exact .inr ⟨g, c, cur, rfl, h3, (hb g rfl).trans h4, h5⟩
theorem size113 : (Try.prog.info? 113).map (·.size) = some 4 := by kernel_rfl
theorem load113 {w : World} {b o : Nat} {r : Dr} (h : w.rangeAt b o (eDr r)) : (loadVar 113 ⟨b, o, none⟩).run Try.prog w = .ok (.agg (drA r)) w :=
  run_loadVar_mid w b o 113 (drA r).toList _ h Try.underlying113 rfl (by rw [size113]; rfl)
theorem load52 {w : World} {b o n c : Nat} {A : Option Addr} (h : w.cell? ⟨b, o, none⟩ = some (.slice A n c)) : (loadVar 52 ⟨b, o, none⟩).run Try.prog w = .ok (.slice A n c) w := by go_simp
def zero113 : Value := .agg #[.int .i64 0, .int .i64 0, .int .i64 0, .slice none 0 0]
theorem run_zero113 (W : World) : (zeroValue 113).run Try.prog W = .ok zero113 W := by kernel_rfl
theorem one_drA (r : Dr) : (drA r).all (·.oneCell') = true := all_oneCell_toArray (cs := eDr r) (one_eDr r)
theorem range_sub {w : World} {b o n : Nat} {l m : List Value} (h : w.rangeAt b o l) (k : Nat) (hk : (l.drop k).take n = m) : w.rangeAt b (o + k) m := fun j u hu => by
  rw [Nat.add_assoc]
  refine h (k + j) u ?_
  rw [← hk, List.getElem?_take, List.getElem?_drop] at hu
  split at hu
  · exact hu
  · cases hu
theorem bs40 (W : World) (r : Dr) : (Instr.buildSlice 40 1 #[(0, .agg (drA r))]).run Try.prog W = .ok (.slice (some ⟨W.heap.size, 0, none⟩) 1 1) (W.alloc (.cells (drA r) 113)) := by kernel_rfl
theorem bs40z (W : World) : (Instr.buildSlice 40 0 #[]).run Try.prog W = .ok (.slice (some ⟨W.heap.size, 0, none⟩) 0 0) (W.alloc (.cells #[] 113)) := by kernel_rfl
theorem bs52z (W : World) : (Instr.buildSlice 52 0 #[]).run Try.prog W = .ok (.slice (some ⟨W.heap.size, 0, none⟩) 0 0) (W.alloc (.cells #[] 5)) := by kernel_rfl
structure DS where
  k : Nat
  A : Option Addr
  c : Nat
  al : List Dr
theorem flatk_take {α : Type} {enc : α → List Value} {sz : Nat} (hsz : ∀ x, (enc x).length = sz) : ∀ (l : List α) (k : Nat), (l.flatMap enc).take (k * sz) = (l.take k).flatMap enc
  | [], k => by simp
  | x :: l, 0 => by simp
  | x :: l, k + 1 => by
    rw [List.flatMap_cons, List.take_succ_cons, List.flatMap_cons, ← flatk_take hsz l k, List.take_append, hsz, show (k + 1) * sz - sz = k * sz by rw [Nat.add_mul]; omega, List.take_of_length_le (by rw [hsz, Nat.add_mul]; omega)]
theorem flatk_drop {α : Type} {enc : α → List Value} {sz : Nat} (hsz : ∀ x, (enc x).length = sz) : ∀ (l : List α) (k : Nat), (l.flatMap enc).drop (k * sz) = (l.drop k).flatMap enc
  | [], k => by simp
  | x :: l, 0 => by simp
  | x :: l, k + 1 => by
    rw [List.flatMap_cons, List.drop_succ_cons, ← flatk_drop hsz l k, List.drop_append, hsz, show (k + 1) * sz - sz = k * sz by rw [Nat.add_mul]; omega, List.drop_eq_nil_of_le (by rw [hsz, Nat.add_mul]; omega)]; rfl
theorem stored_sets {base g n c sz : Nat} {e : TypeId} : ∀ (vs xs : List Value) (o : Nat) (w : World), w.ownsRow base e sz (.slice (some ⟨g, 0, none⟩) n c) n xs → o + vs.length ≤ xs.length → (w.setCells g o vs).ownsRow base e sz (.slice (some ⟨g, 0, none⟩) n c) n (xs.take o ++ vs ++ xs.drop (o + vs.length))
  | [], xs, o, w, h, _ => by simpa [World.setCells] using h
  | v :: vs, xs, o, w, h, hl => by
    rw [List.length_cons] at hl
    have h1 := (World.ownsRow.stored h o v).1
    have := stored_sets vs (xs.set o v) (o + 1) (w.setCell ⟨g, o, none⟩ v) h1 (by rw [List.length_set]; omega)
    have e : xs.take o ++ v :: vs ++ xs.drop (o + (v :: vs).length) = (xs.set o v).take (o + 1) ++ vs ++ (xs.set o v).drop (o + 1 + vs.length) := by
      rw [List.length_cons, List.take_add_one, List.getElem?_set_self (by omega), List.take_set_of_le (Nat.le_refl _), List.drop_set_of_lt (by omega)]
      simp [Nat.add_assoc, Nat.add_comm 1]
    rw [World.setCells, e]
    exact this
/-- One element of an own row is set. -/
theorem Owns.sets {α : Type} {w : World} {base g c k sz : Nat} {e : TypeId} {enc : α → List Value} {l : List α} (h : Owns w base e sz enc (some ⟨g, 0, none⟩) c l) (hsz : ∀ x, (enc x).length = sz) (hk : k < l.length) (x : α) : Owns (w.setCells g (k * sz) (enc x)) base e sz enc (some ⟨g, 0, none⟩) c (l.set k x) := by
  have hl := length_flat hsz l
  have hm : (k + 1) * sz ≤ l.length * sz := Nat.mul_le_mul_right _ hk
  have := stored_sets (enc x) (l.flatMap enc) (k * sz) w h (by rw [hl, hsz, ← Nat.succ_mul]; exact hm)
  have e : (l.set k x).flatMap enc = (l.flatMap enc).take (k * sz) ++ enc x ++ (l.flatMap enc).drop (k * sz + (enc x).length) := by
    rw [hsz, ← Nat.succ_mul, flatk_take hsz, flatk_drop hsz]
    have e2 : (l.set k x).flatMap enc = ((l.set k x).take k ++ (l.set k x).drop k).flatMap enc := by rw [List.take_append_drop]
    rw [e2, List.flatMap_append, List.take_set_of_le (Nat.le_refl _), List.drop_eq_getElem_cons (by rw [List.length_set]; exact hk), List.flatMap_cons, List.getElem_set_self, List.drop_set_of_lt (by omega), List.append_assoc]
  unfold Owns
  rw [List.length_set, e]
  exact this
/-- A cell of an own row. -/
theorem Owns.cell {α : Type} {w : World} {base c sz : Nat} {e : TypeId} {enc : α → List Value} {A : Option Addr} {l : List α} (h : Owns w base e sz enc A c l) (hsz : ∀ x, (enc x).length = sz) {k : Nat} {x : α} (hx : l[k]? = some x) : ∃ g, A = some ⟨g, 0, none⟩ ∧ w.rangeAt g (k * sz) (enc x) := by
  have hl : 0 < l.length := by have := (List.getElem?_eq_some_iff.1 hx).1; omega
  obtain ⟨g, cap, hv, _, _⟩ := World.ownsRow.form h hl
  have hA : A = some ⟨g, 0, none⟩ := by injection hv
  subst hA
  refine ⟨g, rfl, fun j u hu => ?_⟩
  have hu' := flatMap_at hsz l k j x u hx hu
  rw [World.ownsRow.cellAt h (k * sz + j) (by rw [← length_flat hsz l]; exact (List.getElem?_eq_some_iff.1 hu').1), ← hu']
theorem Owns.there {α : Type} {w : World} {base c sz g : Nat} {e : TypeId} {enc : α → List Value} {l : List α} (h : Owns w base e sz enc (some ⟨g, 0, none⟩) c l) (hsz : ∀ x, (enc x).length = sz) : w.there g 0 (l.length * sz) := fun j hj => by
  rw [Nat.zero_add]
  refine ⟨?_, World.ownsRow.frozenAt h j⟩
  rw [World.ownsRow.cellAt h j hj, List.getElem?_eq_getElem (by rw [length_flat hsz]; exact hj)]; rfl
end Go.Proofs.Ytcffhfcjfjfokaa
/- Rows of the call's own whose room counts only where there is some; memory that changes in some blocks alone. -/
namespace Go.Proofs.Ytcffhfcjfjfokaa
open Go Go.RowKit
/-- The block in whose room a slice may be made longer. -/
def bw (A : Option Addr) (c : Nat) : Option Nat := if c = 0 then none else blk A
theorem bw_blk {A : Option Addr} {c k : Nat} (h : bw A c = some k) : blk A = some k ∧ 0 < c := by
  unfold bw at h
  split at h
  · cases h
  · exact ⟨h, by omega⟩
/-- An own row, as far as there is room. -/
structure OwnW {α : Type} (w : World) (base : Nat) (e : TypeId) (sz : Nat) (enc : α → List Value) (A : Option Addr) (c : Nat) (l : List α) : Prop where
  len : l.length ≤ c
  own : 0 < c → Owns w base e sz enc A c l
/-- Other blocks than those of S are as they were. -/
structure Fx (S : List Nat) (w w' : World) : Prop where
  os : w'.os = w.os
  tape : w'.tape = w.tape
  output : w'.output = w.output
  size : w.heap.size ≤ w'.heap.size
  block : ∀ k, k < w.heap.size → k ∉ S → w'.heap[k]? = w.heap[k]?
section
variable {S S' : List Nat} {w w' w'' : World}
theorem Fx.refl (S : List Nat) (w : World) : Fx S w w := ⟨rfl, rfl, rfl, Nat.le_refl _, fun _ _ _ => rfl⟩
theorem Fx.trans (h : Fx S w w') (h' : Fx S' w' w'') (hs : ∀ k ∈ S', k ∈ S ∨ w.heap.size ≤ k) : Fx S w w'' :=
  ⟨h'.os.trans h.os, h'.tape.trans h.tape, h'.output.trans h.output, Nat.le_trans h.size h'.size, fun k hk hn => (h'.block k (Nat.lt_of_lt_of_le hk h.size) (fun hm => by
    rcases hs k hm with e | e
    · exact hn e
    · omega)).trans (h.block k hk hn)⟩
theorem Fx.below (hb : Below w.heap.size w w') : Fx S w w' := ⟨hb.os, hb.tape, hb.output, hb.size, fun k hk _ => hb.block k hk⟩
theorem Fx.grown {row : Option Nat} (hg : w.grownBy w' row) (hr : ∀ k, row = some k → k ∈ S) : Fx S w w' := ⟨hg.os, hg.tape, hg.output, hg.size, fun k hk hn => hg.block k hk (fun e => hn (hr k e.symm))⟩
theorem Fx.to {N : Nat} (h : Fx S w w') (hS : ∀ k ∈ S, N ≤ k) (hN : N ≤ w.heap.size) : Below N w w' := ⟨h.os, h.tape, h.output, h.size, fun k hk => h.block k (by omega) (fun hm => by have := hS k hm; omega)⟩
theorem Fx.drew (h : Fx S w w') : Fx S w w'.drew := ⟨h.os, h.tape, h.output, h.size, h.block⟩
theorem Fx.undrew (h : Fx S w.drew w') : Fx S w w' := ⟨h.os, h.tape, h.output, h.size, h.block⟩
theorem Fx.more (h : Fx S w w') (hs : ∀ k ∈ S, k ∈ S') : Fx S' w w' := ⟨h.os, h.tape, h.output, h.size, fun k hk hn => h.block k hk (fun hm => hn (hs k hm))⟩
theorem Fx.cell (h : Fx S w w') {b o : Nat} (hb : b < w.heap.size) (hn : b ∉ S) : w'.cell? ⟨b, o, none⟩ = w.cell? ⟨b, o, none⟩ := World.cell?_of_block (a := ⟨b, o, none⟩) (h.block b hb hn)
end
section
variable {α : Type} {S : List Nat} {w w' : World} {base base' sz c : Nat} {e : TypeId} {enc : α → List Value} {A : Option Addr} {l : List α}
theorem Owns.fx (h : Owns w base e sz enc A c l) (hf : Fx S w w') (hA : ∀ k, blk A = some k → k ∉ S) : Owns w' base e sz enc A c l := h.same fun g hg => hf.block g (h.lo g hg).2 (hA g hg)
theorem Owns.short (h : Owns w base e sz enc A c l) : Owns w base e sz enc A c [] := by
  refine ⟨by simp, ?_⟩
  rcases h.2 with ⟨hv, _⟩ | ⟨g, cap, cur, hv, h1, h2, h3, h4, h5, _⟩
  · injection hv with e1 _ e2
    subst e1; subst e2; exact .inl ⟨rfl, rfl⟩
  · injection hv with e1 _ e2
    subst e1; subst e2
    exact .inr ⟨g, c, cur, rfl, h1, h2, Nat.zero_le _, h4, h5, by simp⟩
theorem OwnW.of (h : Owns w base e sz enc A c l) : OwnW w base e sz enc A c l := ⟨h.len.1, fun _ => h⟩
theorem OwnW.row (h : OwnW w base e sz enc A c l) (hsz : ∀ x, (enc x).length = sz) : RowAt w w.heap.size sz enc A l := fun h0 => (h.own (by have := h.len; omega)).row hsz h0
theorem OwnW.lo (h : OwnW w base e sz enc A c l) : ∀ k, bw A c = some k → base ≤ k ∧ k < w.heap.size := fun k hk => (h.own (bw_blk hk).2).lo k (bw_blk hk).1
theorem OwnW.cap (h : OwnW w base e sz enc A c l) : c ≤ 9223372036854775807 := by
  by_cases h0 : 0 < c
  · exact (h.own h0).len.2
  · omega
theorem OwnW.fx (h : OwnW w base e sz enc A c l) (hf : Fx S w w') (hA : ∀ k, bw A c = some k → k ∉ S) : OwnW w' base e sz enc A c l :=
  ⟨h.len, fun h0 => (h.own h0).fx hf fun k hk => hA k (by unfold bw; rw [if_neg (by omega)]; exact hk)⟩
theorem OwnW.lower (h : OwnW w base e sz enc A c l) (hb : base' ≤ base) : OwnW w base' e sz enc A c l := ⟨h.len, fun h0 => (h.own h0).base hb⟩
theorem OwnW.below (h : OwnW w base e sz enc A c l) (hb : Below w.heap.size w w') : OwnW w' base e sz enc A c l := h.fx (S := []) (.below hb) fun _ _ => by simp
theorem OwnW.ne {β : Type} {w : World} {base base' sz sz' c c' : Nat} {e e' : TypeId} {enc : α → List Value} {enc' : β → List Value} {A A' : Option Addr} {l : List α} {l' : List β} (h : OwnW w base e sz enc A c l) (h' : OwnW w base' e' sz' enc' A' c' l') (he : e ≠ e') : ∀ k, bw A c = some k → bw A' c' ≠ some k := fun k h1 h2 => by
  rcases (h.own (bw_blk h1).2).ne (h'.own (bw_blk h2).2) he with e | e
  · rw [(bw_blk h1).1] at e; cases e
  · exact e ((bw_blk h1).1.trans (bw_blk h2).1.symm)
theorem OwnW.setCell {g : Nat} (h : OwnW w base e sz enc A c l) (hg : g < base) (o : Nat) (v : Value) : OwnW (w.setCell ⟨g, o, none⟩ v) base e sz enc A c l :=
  h.fx (S := [g]) (.grown (grown_cell w g o v) fun k hk => by injection hk with hk; subst hk; exact List.mem_singleton.2 rfl) fun k hk hm => by
    have := (h.lo k hk).1
    have := List.mem_singleton.1 hm
    omega
end
section
variable {P : Program}
/-- append onto an own row that has been cut to nothing. -/
theorem VApp.rowsW {α : Type} {w : World} {ty0 : TypeId} {t e : TypeId} {K : Value → World → Prop}
    (base : Nat) (sz bytes : Nat) (z : Value) (ht : P.underlying t = some (.slice e)) (hinfo : (P.info? e).map (fun i => (i.zero, i.size, i.bytes)) = some (some z, sz, bytes))
    (hzs : z.cells.size = sz) (hsz : 0 < sz) (enc : α → List Value) (henc : ∀ x, (enc x).length = sz) (hone : ∀ x, ∀ u ∈ enc x, u.oneCell' = true)
    {A : Option Addr} {c : Nat} (xs : List α) {B : Option Addr} {cB N m : Nat} (l : List α) (hm : l.length = m)
    (hown : OwnW w base e sz enc A c xs) (hr : RowAt w N sz enc B l)
    (h63 : m ≤ 9223372036854775807) (hbytes : m * bytes ≤ 140737488355328) (hbase : base ≤ w.heap.size)
    (h : ∀ A' c' w', OwnW w' base e sz enc A' c' l → w.grownBy w' (bw A c) → (∀ k, bw A' c' = some k → bw A c = some k ∨ k = w.heap.size) → K (.slice A' m c') w') : VApp P #[t, t] ty0 [.slice A 0 c, .slice B m cB] w K := by
  by_cases h0 : 0 < c
  · have hbw : bw A c = blk A := by unfold bw; rw [if_neg (by omega)]
    refine VApp.rows base sz bytes z ht hinfo hzs hsz enc henc hone [] l rfl hm (hown.own h0).short hr (by omega) (by rw [Nat.zero_add]; exact hbytes) hbase fun A' c' w' ho hg hk => ?_
    rw [Nat.zero_add]
    rw [List.nil_append] at ho
    refine h A' c' w' (.of ho) (by rw [hbw]; exact hg) fun k hk' => ?_
    rw [hbw]
    rcases hk with e1 | e1
    · left; rw [← e1]; exact (bw_blk hk').1
    · right; rw [(bw_blk hk').1] at e1; injection e1
  · have hc : c = 0 := by omega
    subst hc
    have hbw : bw A 0 = none := rfl
    subst hm
    obtain ⟨i, hi, hz, hsize, hby⟩ := info_parts hinfo
    by_cases h1 : 0 < l.length
    · have key : VApp P #[t, t] ty0 [.slice none 0 0, .slice B l.length cB] w K := by
        refine VApp.rows base sz bytes z ht hinfo hzs hsz enc henc hone [] l rfl rfl (owns_nil _ _ _ _ _) hr (by omega) (by rw [Nat.zero_add]; exact hbytes) hbase fun A' c' w' ho hg hk => ?_
        rw [Nat.zero_add]
        rw [List.nil_append] at ho
        refine h A' c' w' (.of ho) (by rw [hbw]; exact hg) fun k hk' => ?_
        rcases hk with e1 | e1
        · rw [(bw_blk hk').1] at e1; cases e1
        · right; rw [(bw_blk hk').1] at e1; injection e1
      cases A with
      | none => exact key
      | some ga =>
        obtain ⟨v, w', hrun, hk⟩ := key
        exact .mk v w' (by
          have := run_append_zero w t ty0 e i ht hi ga B l.length cB h1 (by rw [hby]; exact hbytes)
          exact this.trans hrun) hk
    · have hl : l = [] := List.eq_nil_of_length_eq_zero (by omega)
      subst hl
      exact .mk _ _ (run_append_none w t ty0 e i ht hi A B cB) (h A 0 w ⟨Nat.le_refl _, fun h2 => absurd h2 (by omega)⟩ (World.grownBy.refl w _) fun k hk => by cases hk)
end
end Go.Proofs.Ytcffhfcjfjfokaa
/- The law's one: a content of its own, with room that counts. -/
namespace Go.Proofs.Ytcffhfcjfjfokaa
open Go Go.RowKit
section
variable {P : Program}
/-- append onto an empty slice literal, at a step of a region that draws its order: a row that is owned. -/
theorem step_append_own {α : Type} {ops : Array Oper} {o : Oper} {a : Act} {w : World} {K : Act → World → Prop} {Q : Exit → Act → World → Prop} (hgd : o.guard = none) (s x : Operand) (t : TypeId)
    (ho : o.op = .call { callee := .builtin .append, args := #[s, x], argTypes := #[t, t] })
    (e : TypeId) (sz bytes : Nat) (z : Value) (ht : P.underlying t = some (.slice e)) (hinfo : (P.info? e).map (fun i => (i.zero, i.size, i.bytes)) = some (some z, sz, bytes))
    (hzs : z.cells.size = sz) (hsz : 0 < sz) (enc : α → List Value) (henc : ∀ x, (enc x).length = sz) (hone : ∀ x, ∀ u ∈ enc x, u.oneCell' = true)
    (A B : Option Addr) (cB N m : Nat) (l : List α) (hs : a.eval s = .slice A 0 0) (hx : a.eval x = .slice B m cB) (hm : l.length = m) (hr : RowAt w N sz enc B l) (hbytes : m * bytes ≤ 140737488351232) (h63 : m ≤ 9223372036854775807)
    (h : ∀ A' c' w', OwnW w' w.heap.size e sz enc A' c' l → Below w.heap.size w w' → K (a.put o.dst (.slice A' m c')) w') :
    if Region.wanted o (yielded ops a.tmps) = true then o.wp P a w K Q else K (a.put o.dst undef) w := by
  subst hm
  obtain ⟨i, hi, hz, hsize, hby⟩ := info_parts hinfo
  have hw : Region.wanted o (yielded ops a.tmps) = true := by simp [Region.wanted, hgd]
  rw [if_pos hw]
  have key : ∃ A' c' w', (Builtin.append_ #[t, t] o.type #[.slice A 0 0, .slice B l.length cB]).run P w = .ok (.slice A' l.length c') w' ∧ OwnW w' w.heap.size e sz enc A' c' l ∧ Below w.heap.size w w' := by
    by_cases h0 : 0 < l.length
    · obtain ⟨b, off, rfl, hb, hc⟩ := hr h0
      obtain ⟨v', w', h1, h2, h3, _, h5⟩ := run_append_own_at (P := P) w w.heap.size t o.type e i z sz bytes ht hi hz hsize hby hzs hsz (.slice none 0 0) 0 _ (owns_nil (α := α) w w.heap.size e sz enc) ⟨b, off, none⟩ l.length cB (l.flatMap enc)
        (length_flat henc l) (fun j u hu => by
          obtain ⟨k, r, x, hk, hr', rfl⟩ := flatMap_of henc l j u hu
          have := hc k x hk r u hr'
          by_cases hz0 : k * sz + r = 0
          · rw [hz0]; simp only [Addr.add, if_true]
            have e0 : off + k * sz + r = off := by omega
            rw [e0] at this; exact this
          · simp only [Addr.add, if_neg hz0]
            rw [← Nat.add_assoc]; exact this)
        (fun u hu => by obtain ⟨x, _, hux⟩ := List.mem_flatMap.1 hu; exact hone x u hux) (by simp only [maxLen]; omega) (by rw [Nat.zero_add]; omega) (Nat.le_refl _)
      rw [Nat.zero_add, List.flatMap_nil, List.nil_append] at h2
      obtain ⟨g, cap, rfl, hg1, hg2⟩ := World.ownsRow.form h2 h0
      have hO : Owns w' w.heap.size e sz enc (some ⟨g, 0, none⟩) cap l := h2
      refine ⟨some ⟨g, 0, none⟩, cap, w', ?_, OwnW.of hO, (Below.refl w.heap.size w).grown h3 (Nat.le_refl _) (by intro k hk; cases hk)⟩
      cases A with
      | none => exact h1
      | some ga => rw [run_append_zero w t o.type e i ht hi ga _ _ _ h0 (by rw [hby]; omega)]; exact h1
    · have hl : l = [] := List.eq_nil_of_length_eq_zero (by omega)
      subst hl
      exact ⟨A, 0, w, run_append_none w t o.type e i ht hi A B cB, ⟨Nat.le_refl _, fun h2 => absurd h2 (by omega)⟩, Below.refl _ _⟩
  obtain ⟨A', c', w', hrun, h2, h5⟩ := key
  unfold Oper.wp execOp
  simp only [ho, resolve, invoke, builtin, Sem.run_bind, Sem.run_pure, Result.andThen_ok, List.map_toArray, List.map_cons, List.map_nil, hs, hx, hrun]
  exact h A' c' w' h2 h5
end
/-- What one answers: the same content, in lists of its own. -/
def OneOwn (f : Fl) (w : World) (x : Ending) (w' : World) : Prop := (∃ X cX Y cY, x = .returned (.agg (flc f.e f.l f.i f.c f.base X f.slots.length cX Y f.have_.length cY)) ∧ OwnW w' w.heap.size 66 2 eSlot X cX f.slots ∧ OwnW w' w.heap.size 3 1 eInt Y cY f.have_) ∧ Below w.heap.size w w'
set_option maxRecDepth 100000 in
set_option maxHeartbeats 4000000 in
theorem one_own (f : Fl) (A B : Option Addr) (cA cB N : Nat) (w : World) (hN : N ≤ w.heap.size) (hr : FlRows w N f A cA B cB) (hbS : f.slots.length * 16 ≤ 140737488351232) (hbH : f.have_.length * 8 ≤ 140737488351232) :
    Calls Try.prog 38 #[.agg (flc f.e f.l f.i f.c f.base A f.slots.length cA B f.have_.length cB)] w (OneOwn f w) := by
  have h0 : OneT w (flc f.e f.l f.i f.c f.base A f.slots.length cA B f.have_.length cB) ((box1 w (flc f.e f.l f.i f.c f.base A f.slots.length cA B f.have_.length cB) 39).alloc (.cells onez 39)) := ⟨(Below.refl _ _).alloc (by simp) _, fun j hj => by
    refine ⟨?_, World.frozen?_alloc_at _ _ _ _ (by simp)⟩
    rw [World.cell?_alloc_at _ _ _ _ (by simp)]
    match j, hj with
    | 0, _ | 1, _ | 2, _ | 3, _ | 4, _ | 5, _ | 6, _ => rfl, by simp⟩
  have hall : ∀ W : World, OneT w (flc f.e f.l f.i f.c f.base A f.slots.length cA B f.have_.length cB) W → (OneT w (flc f.e f.l f.i f.c f.base A f.slots.length cA B f.have_.length cB) W ∧ W.cell? ⟨w.heap.size, 0, none⟩ = some (.int .i64 f.e) ∧ W.cell? ⟨w.heap.size, 1, none⟩ = some (.int .i64 f.l) ∧ W.cell? ⟨w.heap.size, 2, none⟩ = some (.int .i64 f.i) ∧ W.cell? ⟨w.heap.size, 3, none⟩ = some (.int .i64 f.c) ∧ W.cell? ⟨w.heap.size, 4, none⟩ = some (.int .i64 f.base) ∧ W.cell? ⟨w.heap.size, 5, none⟩ = some (.slice A f.slots.length cA) ∧ W.cell? ⟨w.heap.size, 6, none⟩ = some (.slice B f.have_.length cB) ∧ W.cell? ⟨w.heap.size + 1, 0, none⟩ = some (celOf W ⟨w.heap.size + 1, 0, none⟩) ∧ W.cell? ⟨w.heap.size + 1, 1, none⟩ = some (celOf W ⟨w.heap.size + 1, 1, none⟩) ∧ W.cell? ⟨w.heap.size + 1, 2, none⟩ = some (celOf W ⟨w.heap.size + 1, 2, none⟩) ∧ W.cell? ⟨w.heap.size + 1, 3, none⟩ = some (celOf W ⟨w.heap.size + 1, 3, none⟩) ∧ W.cell? ⟨w.heap.size + 1, 4, none⟩ = some (celOf W ⟨w.heap.size + 1, 4, none⟩) ∧ W.cell? ⟨w.heap.size + 1, 5, none⟩ = some (celOf W ⟨w.heap.size + 1, 5, none⟩) ∧ W.cell? ⟨w.heap.size + 1, 6, none⟩ = some (celOf W ⟨w.heap.size + 1, 6, none⟩) ∧ W.frozen? ⟨w.heap.size + 1, 0, none⟩ = false ∧ W.frozen? ⟨w.heap.size + 1, 1, none⟩ = false ∧ W.frozen? ⟨w.heap.size + 1, 2, none⟩ = false ∧ W.frozen? ⟨w.heap.size + 1, 3, none⟩ = false ∧ W.frozen? ⟨w.heap.size + 1, 4, none⟩ = false ∧ W.frozen? ⟨w.heap.size + 1, 5, none⟩ = false ∧ W.frozen? ⟨w.heap.size + 1, 6, none⟩ = false) := fun W h => by
    obtain ⟨-, hc, -, -⟩ := box1_facts h.bel
    exact ⟨h, hc 0, hc 1, hc 2, hc 3, hc 4, hc 5, hc 6, celOf_some (h.there 0 (by omega)).1, celOf_some (h.there 1 (by omega)).1, celOf_some (h.there 2 (by omega)).1, celOf_some (h.there 3 (by omega)).1, celOf_some (h.there 4 (by omega)).1, celOf_some (h.there 5 (by omega)).1, celOf_some (h.there 6 (by omega)).1,
      (h.there 0 (by omega)).2, (h.there 1 (by omega)).2, (h.there 2 (by omega)).2, (h.there 3 (by omega)).2, (h.there 4 (by omega)).2, (h.there 5 (by omega)).2, (h.there 6 (by omega)).2⟩
  have hS : ∀ W : World, OneT w (flc f.e f.l f.i f.c f.base A f.slots.length cA B f.have_.length cB) W → RowAt W N 2 eSlot A f.slots := fun W h => hr.slots.below (box1_facts h.bel).1 hN
  have hH : ∀ W : World, OneT w (flc f.e f.l f.i f.c f.base A f.slots.length cA B f.have_.length cB) W → RowAt W N 1 eInt B f.have_ := fun W h => hr.have_.below (box1_facts h.bel).1 hN
  obtain ⟨-, -, hlS, hcS, hlH, hcH⟩ := hr
  replace hall := Lib.hid hall
  replace hS := Lib.hid hS
  replace hH := Lib.hid hH
  have h0d := h0.drew
  go_enter Try.func38, Try.ntmps38
  go_wp2_with fail
  go_region_held3 (fun W => OneT w (flc f.e f.l f.i f.c f.base A f.slots.length cA B f.have_.length cB) W ∧ W.cell? ⟨w.heap.size, 0, none⟩ = some (.int .i64 f.e) ∧ W.cell? ⟨w.heap.size, 1, none⟩ = some (.int .i64 f.l) ∧ W.cell? ⟨w.heap.size, 2, none⟩ = some (.int .i64 f.i) ∧ W.cell? ⟨w.heap.size, 3, none⟩ = some (.int .i64 f.c) ∧ W.cell? ⟨w.heap.size, 4, none⟩ = some (.int .i64 f.base) ∧ W.cell? ⟨w.heap.size, 5, none⟩ = some (.slice A f.slots.length cA) ∧ W.cell? ⟨w.heap.size, 6, none⟩ = some (.slice B f.have_.length cB) ∧ W.cell? ⟨w.heap.size + 1, 0, none⟩ = some (celOf W ⟨w.heap.size + 1, 0, none⟩) ∧ W.cell? ⟨w.heap.size + 1, 1, none⟩ = some (celOf W ⟨w.heap.size + 1, 1, none⟩) ∧ W.cell? ⟨w.heap.size + 1, 2, none⟩ = some (celOf W ⟨w.heap.size + 1, 2, none⟩) ∧ W.cell? ⟨w.heap.size + 1, 3, none⟩ = some (celOf W ⟨w.heap.size + 1, 3, none⟩) ∧ W.cell? ⟨w.heap.size + 1, 4, none⟩ = some (celOf W ⟨w.heap.size + 1, 4, none⟩) ∧ W.cell? ⟨w.heap.size + 1, 5, none⟩ = some (celOf W ⟨w.heap.size + 1, 5, none⟩) ∧ W.cell? ⟨w.heap.size + 1, 6, none⟩ = some (celOf W ⟨w.heap.size + 1, 6, none⟩) ∧ W.frozen? ⟨w.heap.size + 1, 0, none⟩ = false ∧ W.frozen? ⟨w.heap.size + 1, 1, none⟩ = false ∧ W.frozen? ⟨w.heap.size + 1, 2, none⟩ = false ∧ W.frozen? ⟨w.heap.size + 1, 3, none⟩ = false ∧ W.frozen? ⟨w.heap.size + 1, 4, none⟩ = false ∧ W.frozen? ⟨w.heap.size + 1, 5, none⟩ = false ∧ W.frozen? ⟨w.heap.size + 1, 6, none⟩ = false)
    ((refine hall.out _ ?_; first | (have hO := (‹OneT w _ _ ∧ _›).1; simp (config := { maxDischargeDepth := 20 }) only [OneT.set_true, hO]; done) | with_reducible exact h0d | (with_reducible refine OneT.alloc ?_ _; exact (‹OneT w _ _ ∧ _›).1) | (with_reducible refine OneT.allocD ?_ _; exact (‹OneT w _ _ ∧ _›).1) | (with_reducible refine OneT.below ?_ hb1; exact (‹OneT w _ _ ∧ _›).1) | (with_reducible refine OneT.below ?_ hb2; exact (‹OneT w _ _ ∧ _›).1) | (with_reducible refine OneT.set7 ?_ _ _ _ _ _ _ _; exact (‹OneT w _ _ ∧ _›).1)))
    (first
      | (refine step_append_own rfl (.tmp 7) (.tmp 9) 36 rfl 66 2 16 _ Try.underlying36 info66 rfl (by decide) eSlot len_eSlot one_eSlot _ A cA N f.slots.length f.slots rfl rfl rfl (hS.out _ (‹OneT w _ _ ∧ _›).1) (by omega) (by omega) ?_; intro A1 c1 w1 hr1 hb1; replace hr1 := Lib.hid hr1)
      | (refine step_append_own rfl (.tmp 11) (.tmp 13) 37 rfl 3 1 8 _ Try.underlying37 info3 rfl (by decide) eInt len_eInt one_eInt _ B cB N f.have_.length f.have_ rfl rfl rfl (hH.out _ (‹OneT w _ _ ∧ _›).1) (by omega) (by omega) ?_; intro A2 c2 w2 hr2 hb2; replace hr2 := Lib.hid hr2))
  all_goals clear hall hS hH
  all_goals (first
    | (have hAll : OneT w (flc f.e f.l f.i f.c f.base A f.slots.length cA B f.have_.length cB) w2 ∧ OwnW w2 (w.heap.size + 2) 66 2 eSlot A1 c1 f.slots ∧ OwnW w2 (w.heap.size + 2) 3 1 eInt A2 c2 f.have_ := ⟨(((h0.alloc _).drew.below hb1).alloc _).below hb2, OwnW.lower ((hr1.out.below ((Below.refl _ _).alloc (Nat.le_refl _) _)).below hb2) (by have h1 := hb1.size; have h2 := hb2.size; simp at h1 h2 ⊢; try omega), OwnW.lower (hr2.out) (by have h1 := hb1.size; have h2 := hb2.size; simp at h1 h2 ⊢; try omega)⟩; obtain ⟨hO, hR1, hR2⟩ := hAll)
    | (have hAll : OneT w (flc f.e f.l f.i f.c f.base A f.slots.length cA B f.have_.length cB) w2 ∧ OwnW w2 (w.heap.size + 2) 66 2 eSlot A1 c1 f.slots ∧ OwnW w2 (w.heap.size + 2) 3 1 eInt A2 c2 f.have_ := ⟨((((h0.alloc _).alloc _).drew).below hb1).below hb2, OwnW.lower (hr1.out.below hb2) (by have h1 := hb1.size; have h2 := hb2.size; simp at h1 h2 ⊢; try omega), OwnW.lower (hr2.out) (by have h1 := hb1.size; have h2 := hb2.size; simp at h1 h2 ⊢; try omega)⟩; obtain ⟨hO, hR1, hR2⟩ := hAll)
    | (have hAll : OneT w (flc f.e f.l f.i f.c f.base A f.slots.length cA B f.have_.length cB) w1 ∧ OwnW w1 (w.heap.size + 2) 66 2 eSlot A1 c1 f.slots ∧ OwnW w1 (w.heap.size + 2) 3 1 eInt A2 c2 f.have_ := ⟨((((h0.alloc _).alloc _).drew).below hb2).below hb1, OwnW.lower (hr1.out) (by have h1 := hb1.size; have h2 := hb2.size; simp at h1 h2 ⊢; try omega), OwnW.lower (hr2.out.below hb1) (by have h1 := hb1.size; have h2 := hb2.size; simp at h1 h2 ⊢; try omega)⟩; obtain ⟨hO, hR1, hR2⟩ := hAll)
    | (have hAll : OneT w (flc f.e f.l f.i f.c f.base A f.slots.length cA B f.have_.length cB) w1 ∧ OwnW w1 (w.heap.size + 2) 66 2 eSlot A1 c1 f.slots ∧ OwnW w1 (w.heap.size + 2) 3 1 eInt A2 c2 f.have_ := ⟨(((h0.alloc _).drew.below hb2).alloc _).below hb1, OwnW.lower (hr1.out) (by have h1 := hb1.size; have h2 := hb2.size; simp at h1 h2 ⊢; try omega), OwnW.lower ((hr2.out.below ((Below.refl _ _).alloc (Nat.le_refl _) _)).below hb1) (by have h1 := hb1.size; have h2 := hb2.size; simp at h1 h2 ⊢; try omega)⟩; obtain ⟨hO, hR1, hR2⟩ := hAll))
  all_goals
    obtain ⟨r0, r1, r2, r3, r4, r5, r6⟩ := hO.read (.int .i64 f.e) (.int .i64 f.l) (.int .i64 f.i) (.int .i64 f.c) (.int .i64 f.base) (.slice A1 f.slots.length c1) (.slice A2 f.have_.length c2)
    have hO7 := hO.set7 (.int .i64 f.e) (.int .i64 f.l) (.int .i64 f.i) (.int .i64 f.c) (.int .i64 f.base) (.slice A1 f.slots.length c1) (.slice A2 f.have_.length c2)
    have hF1 := (((((((hR1.setCell (g := w.heap.size + 1) (Nat.lt_succ_self _) 0 (.int .i64 f.e)).setCell (g := w.heap.size + 1) (Nat.lt_succ_self _) 1 (.int .i64 f.l)).setCell (g := w.heap.size + 1) (Nat.lt_succ_self _) 2 (.int .i64 f.i)).setCell (g := w.heap.size + 1) (Nat.lt_succ_self _) 3 (.int .i64 f.c)).setCell (g := w.heap.size + 1) (Nat.lt_succ_self _) 4 (.int .i64 f.base)).setCell (g := w.heap.size + 1) (Nat.lt_succ_self _) 5 (.slice A1 f.slots.length c1)).setCell (g := w.heap.size + 1) (Nat.lt_succ_self _) 6 (.slice A2 f.have_.length c2))
    have hF2 := (((((((hR2.setCell (g := w.heap.size + 1) (Nat.lt_succ_self _) 0 (.int .i64 f.e)).setCell (g := w.heap.size + 1) (Nat.lt_succ_self _) 1 (.int .i64 f.l)).setCell (g := w.heap.size + 1) (Nat.lt_succ_self _) 2 (.int .i64 f.i)).setCell (g := w.heap.size + 1) (Nat.lt_succ_self _) 3 (.int .i64 f.c)).setCell (g := w.heap.size + 1) (Nat.lt_succ_self _) 4 (.int .i64 f.base)).setCell (g := w.heap.size + 1) (Nat.lt_succ_self _) 5 (.slice A1 f.slots.length c1)).setCell (g := w.heap.size + 1) (Nat.lt_succ_self _) 6 (.slice A2 f.have_.length c2))
    have hb9 := (box1_facts hO7.bel).1
    have hz9 := hO7.size
    clear hb1 hb2 hr1 hr2 hR1 hR2 hO h0 h0d
    go_wp2
    refine bodyPost_ret (v := .agg #[.int .i64 f.e, .int .i64 f.l, .int .i64 f.i, .int .i64 f.c, .int .i64 f.base, .slice A1 f.slots.length c1, .slice A2 f.have_.length c2]) (by simp [results, Try.results38, go_sem, r0, r1, r2, r3, r4, r5, r6]) rfl ?_
    exact ⟨⟨A1, c1, A2, c2, rfl, hF1.lower (by omega), hF2.lower (by omega)⟩, hb9⟩
end Go.Proofs.Ytcffhfcjfjfokaa
