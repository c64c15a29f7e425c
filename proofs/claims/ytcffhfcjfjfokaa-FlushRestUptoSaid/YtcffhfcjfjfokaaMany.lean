/- The law's many: contents of their own. -/
import Derived.Test.YtcffhfcjfjfokaaOne
import Derived.Test.YtcffhfcjfjfokaaTwL
import Derived.Test.YtcffhfcjfjfokaaRows2
namespace Go.Proofs.Ytcffhfcjfjfokaa
open Go.RowKit
/-- A row in another block than B's. -/
def FarRow {α : Type} (w : World) (B : Option Addr) (sz : Nat) (enc : α → List Value) (A : Option Addr) (l : List α) : Prop :=
  0 < l.length → ∃ b off, A = some ⟨b, off, none⟩ ∧ some b ≠ blk B ∧ b < w.heap.size ∧ ∀ k x, l[k]? = some x → ∀ j u, (enc x)[j]? = some u → w.cell? ⟨b, off + k * sz + j, none⟩ = some u
section
variable {α : Type} {w w' : World} {lo sz : Nat} {enc : α → List Value} {A B B' : Option Addr} {l : List α}
theorem FarRow.row (h : FarRow w B sz enc A l) : RowAt w w.heap.size sz enc A l := fun h0 => by
  obtain ⟨b, off, e, _, hb, hc⟩ := h h0
  exact ⟨b, off, e, hb, hc⟩
theorem FarRow.of_row (h : FRow w lo sz enc A l) (hB : ∀ k, blk B = some k → k < lo) : FarRow w B sz enc A l := fun h0 => by
  obtain ⟨b, off, e, h1, h2, hc⟩ := h h0
  exact ⟨b, off, e, fun e2 => by have := hB b e2.symm; omega, h2, hc⟩
theorem FarRow.below (h : FarRow w B sz enc A l) (hb : Below w.heap.size w w') : FarRow w' B sz enc A l := fun h0 => by
  obtain ⟨b, off, e, h1, h2, hc⟩ := h h0
  exact ⟨b, off, e, h1, Nat.lt_of_lt_of_le h2 hb.size, fun k x hk j u hu => (hb.cell (p := ⟨b, _, none⟩) h2).trans (hc k x hk j u hu)⟩
theorem FarRow.grown (h : FarRow w B sz enc A l) (hg : w.grownBy w' (blk B)) (hk : blk B' = blk B ∨ blk B' = some w.heap.size) : FarRow w' B' sz enc A l := fun h0 => by
  obtain ⟨b, off, e, h1, h2, hc⟩ := h h0
  refine ⟨b, off, e, fun e2 => ?_, Nat.lt_of_lt_of_le h2 hg.size, fun k x hk j u hu => (hg.cell_far ⟨b, _, none⟩ h2 h1).trans (hc k x hk j u hu)⟩
  rcases hk with hk | hk
  · exact h1 (e2.trans hk)
  · rw [hk] at e2; injection e2 with e2; omega
end
/-- A content whose lists lie in other blocks than B's. -/
def FarFl (w : World) (B : Option Addr) (r : Rw) : Prop := FlRows w w.heap.size r.f r.X r.cX r.Y r.cY ∧ FarRow w B 2 eSlot r.X r.f.slots ∧ FarRow w B 1 eInt r.Y r.f.have_
theorem FarFl.below {w w' : World} {B : Option Addr} {r : Rw} (h : FarFl w B r) (hb : Below w.heap.size w w') : FarFl w' B r :=
  ⟨⟨(h.2.1.below hb).row, (h.2.2.below hb).row, h.1.lenS, h.1.capS, h.1.lenH, h.1.capH⟩, h.2.1.below hb, h.2.2.below hb⟩
theorem FarFl.grown {w w' : World} {B B' : Option Addr} {r : Rw} (h : FarFl w B r) (hg : w.grownBy w' (blk B)) (hk : blk B' = blk B ∨ blk B' = some w.heap.size) : FarFl w' B' r :=
  ⟨⟨(h.2.1.grown hg hk).row, (h.2.2.grown hg hk).row, h.1.lenS, h.1.capS, h.1.lenH, h.1.capH⟩, h.2.1.grown hg hk, h.2.2.grown hg hk⟩
set_option maxRecDepth 100000 in
set_option maxHeartbeats 4000000 in
theorem many_any (A : Option Addr) (cA N : Nat) (fs : List Fl) (w : World) (hN : N ≤ w.heap.size) (hA : Fls w N A fs) (hsm : Small fs) :
    Calls Try.prog 28 #[.slice A fs.length cA] w fun x w' => (∃ B c, x = .returned (.slice B fs.length c) ∧ Fls w' w'.heap.size B fs) ∧ Below w.heap.size w w' := by
  have hl : fs.length ≤ 1048576 := hsm.1
  replace hsm := Lib.hid hsm
  go_enter Try.func28, Try.ntmps28
  go_wp2
  go_loopw [3, 4] (fun a k wr => ∃ (i : Nat) (rs : List Rw) (B : Option Addr) (c : Nat), k = .int .i64 i ∧ a = .slice B i c ∧ rs.length = i ∧ i ≤ fs.length ∧ Hid (rs.map Rw.f = fs.take i) ∧ Owns wr w.heap.size 39 7 eRw B c rs ∧ (∀ r ∈ rs, FarFl wr B r) ∧ Below w.heap.size w wr) (fun _ k _ => fs.length - (intOf k).toNat)
  case atStart => exact ⟨0, [], _, 0, rfl, rfl, rfl, by omega, by show List.map _ _ = _; simp, owns_empty _ _ _ _ _ (Nat.le_refl _), by simp, (Below.refl _ _).alloc (Nat.le_refl _) _⟩
  case round =>
    obtain ⟨i, rs, B, c, rfl, rfl, hrl, hi, hrs, ho, hfar, hb⟩ := hrel
    have hrl' := Lib.hid hrl
    have hszr := hb.size
    replace hfar := Lib.hid hfar
    by_cases hlt : i < fs.length
    · obtain ⟨g, o, f, X, cX, Y, cY, rfl, hg, hf, ⟨c0, c1, c2, c3, c4, c5, c6⟩, hr⟩ := (hA.below hb hN).at_ hlt
      have hgw : g < wr.heap.size := by omega
      obtain ⟨hs1, hs2⟩ := hsm.out.2 f (List.mem_of_getElem? hf.out)
      have hlo := ho.lo
      replace ho := Lib.hid ho
      clear hrl
      go_wp2_with (first
        | (go_at_call 38; refine (one_any f X Y cX cY N wr (by omega) hr (by omega) (by omega)).mono ?_; rintro e w1 ⟨⟨X1, cX1, Y1, cY1, rfl, hfr, hX1, hY1⟩, hb1⟩; replace hX1 := Lib.hid hX1; replace hY1 := Lib.hid hY1; replace hfr := Lib.hid hfr; have hs1' := hb1.size)
        | (at_builtin; refine wpList_append_rows _ rfl (.tmp 12) (.tmp 18) 22 rfl w.heap.size 39 7 88 _ Try.underlying22 info39 rfl (by decide) eRw len_eRw one_eRw B c rs (some ⟨w1.heap.size, 0, none⟩) 1 (w1.heap.size + 1) i 1 [⟨f, X1, cX1, Y1, cY1⟩] rfl rfl hrl'.out rfl ((ho.out.keep hb1 (fun k hk => (hlo k hk).2)).alloc _) (row_new _ _ _ _ _ _ rfl) (by omega) (by omega) (by simp; omega) ?_)
        | fail)
      intro A3 cc3 w3 ho3 hg3 hk3
      replace hk3 : blk A3 = blk B ∨ blk A3 = some (w1.alloc (.cells #[.int .i64 f.e, .int .i64 f.l, .int .i64 f.i, .int .i64 f.c, .int .i64 f.base, .slice X1 f.slots.length cX1, .slice Y1 f.have_.length cY1] 39)).heap.size := by simpa using hk3
      have hb13 : Below w1.heap.size w1 (w1.alloc (.cells #[.int .i64 f.e, .int .i64 f.l, .int .i64 f.i, .int .i64 f.c, .int .i64 f.base, .slice X1 f.slots.length cX1, .slice Y1 f.have_.length cY1] 39)) := (Below.refl _ _).alloc (Nat.le_refl _) _
      have hnew : FarFl w1 B ⟨f, X1, cX1, Y1, cY1⟩ := ⟨hfr.out, FarRow.of_row hX1.out (fun k hk => (hlo k hk).2), FarRow.of_row hY1.out (fun k hk => (hlo k hk).2)⟩
      have hbw3 : Below w.heap.size w w3 := ((hb.trans (hb1.mono hszr)).alloc (by omega) _).grown hg3 (by simp only [World.size_alloc]; omega) (fun k hk => (hlo k hk).1)
      have hfar3 : ∀ r ∈ rs ++ [⟨f, X1, cX1, Y1, cY1⟩], FarFl w3 A3 r := fun r hr' => by
        rcases List.mem_append.1 hr' with h | h
        · exact (((hfar.out r h).below hb1).below hb13).grown hg3 hk3
        · obtain rfl := List.mem_singleton.1 h
          exact (hnew.below hb13).grown hg3 hk3
      replace hfar3 := Lib.hid hfar3
      replace ho3 := Lib.hid ho3
      clear hg3 hk3 hnew hb13 hlo c0 c1 c2 c3 c4 c5 c6
      have hrs3 : Hid ((rs ++ [(⟨f, X1, cX1, Y1, cY1⟩ : Rw)]).map Rw.f = fs.take (i + 1)) := by
        show List.map Rw.f (rs ++ [⟨f, X1, cX1, Y1, cY1⟩]) = _
        rw [List.map_append, hrs.out, List.take_add_one, hf.out]; rfl
      go_wp2
      go_roundw
      case rel => go_light; exact ⟨i + 1, rs ++ [⟨f, X1, cX1, Y1, cY1⟩], A3, cc3, by go_num, rfl, by rw [List.length_append, hrl'.out]; rfl, by omega, hrs3, ho3.out, hfar3.out, hbw3⟩
      case measure => go_light; simp [intOf]; omega
    · obtain rfl : i = fs.length := by omega
      have hF : Fls wr wr.heap.size B fs := by
        have := rows_fls (w := wr) (N := wr.heap.size) (A := B) (rs := rs) ⟨ho.row len_eRw, fun r hr => (hfar.out r hr).1⟩
        rw [hrs.out, List.take_length] at this; exact this
      replace ho := Lib.hid ho
      replace hF := Lib.hid hF
      clear hrl
      go_wp2
      go_ret
      exact ⟨⟨B, c, rfl, hF.out⟩, hb⟩
end Go.Proofs.Ytcffhfcjfjfokaa
