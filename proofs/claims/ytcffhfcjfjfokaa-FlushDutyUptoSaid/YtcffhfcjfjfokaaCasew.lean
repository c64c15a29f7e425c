/- A case that came in, with the nodes' numbers. -/
import Derived.Test.YtcffhfcjfjfokaaCase
namespace Go.Proofs.Ytcffhfcjfjfokaa
open Go.RowKit Go.Deep Go.ChangeShapes Go.WideShapes
section
variable {H : Type} {enc : TypeId × Value → H} {W : World} {sp : Nat → Bool}
set_option maxRecDepth 100000 in
/-- A case that came in: its contents, its own one, how far it is, the nodes' numbers, the two nodes. -/
theorem open42w {fuel : Nat} {cs : List Value} {x : DataW H × List MemPlace} (h : DataW.trod enc Try.prog W 0 sp true fuel 42 cs = some x) :
    ∃ (A : Option Addr) (fs : List Fl) (c : Nat) (own : Fl) (X Y : Option Addr) (cX cY : Nat) (done : Int) (C : Option Addr) (who : List Int) (cC : Nat) (self q : Int) (u : Value), cs = .slice A fs.length c :: (flc own.e own.l own.i own.c own.base X own.slots.length cX Y own.have_.length cY).toList ++ [.int .i64 done, .slice C who.length cC, .int .i64 self, .int .i64 q, u] ∧
      Fls W W.heap.size A fs ∧ fs.length ≤ Rows.uptoBulk x.1 ∧ (∀ f ∈ fs, f.slots.length ≤ Rows.uptoBulk x.1 ∧ f.have_.length ≤ Rows.uptoBulk x.1) ∧ FlRows W W.heap.size own X cX Y cY ∧ own.slots.length ≤ Rows.uptoBulk x.1 ∧ own.have_.length ≤ Rows.uptoBulk x.1 ∧
      RowAt W W.heap.size 1 eInt C who ∧ who.length ≤ cC ∧ cC ≤ 9223372036854775807 ∧ who.length ≤ Rows.uptoBulk x.1 := by
  obtain ⟨ys, m, _, rfl, hlen, hyl, hf⟩ := DataW.trod_struct Try.underlying42 h
  rw [cells42] at hlen
  have hyl7 : ys.length = 7 := hyl
  match cs, hlen with
  | [u0, u1, u2, u3, u4, u5, u6, u7, u8, u9, u10, u11, u12], _ =>
    match ys, hyl7 with
    | [y0, y1, y2, y3, y4, y5, y6], _ =>
      have h0 : DataW.trod enc Try.prog W 0 sp true m 22 (([u0, u1, u2, u3, u4, u5, u6, u7, u8, u9, u10, u11, u12].drop 0).take (Try.prog.cellsOf 22)) = some y0 := hf 0 _ rfl
      have h1 : DataW.trod enc Try.prog W 0 sp true m 39 (([u0, u1, u2, u3, u4, u5, u6, u7, u8, u9, u10, u11, u12].drop 1).take (Try.prog.cellsOf 39)) = some y1 := hf 1 _ rfl
      have h2 : DataW.trod enc Try.prog W 0 sp true m 3 (([u0, u1, u2, u3, u4, u5, u6, u7, u8, u9, u10, u11, u12].drop 8).take (Try.prog.cellsOf 3)) = some y2 := hf 2 _ rfl
      have h3 : DataW.trod enc Try.prog W 0 sp true m 37 (([u0, u1, u2, u3, u4, u5, u6, u7, u8, u9, u10, u11, u12].drop 9).take (Try.prog.cellsOf 37)) = some y3 := hf 3 _ rfl
      have h4 : DataW.trod enc Try.prog W 0 sp true m 3 (([u0, u1, u2, u3, u4, u5, u6, u7, u8, u9, u10, u11, u12].drop 10).take (Try.prog.cellsOf 3)) = some y4 := hf 4 _ rfl
      have h5 : DataW.trod enc Try.prog W 0 sp true m 3 (([u0, u1, u2, u3, u4, u5, u6, u7, u8, u9, u10, u11, u12].drop 11).take (Try.prog.cellsOf 3)) = some y5 := hf 5 _ rfl
      rw [cells22'] at h0
      rw [cells39] at h1
      rw [cells3'] at h2 h4 h5
      rw [cells37] at h3
      simp only [List.drop_zero, List.drop_succ_cons, List.take_succ_cons, List.take_zero] at h0 h1 h2 h3 h4 h5
      obtain ⟨d, hd, _⟩ := DataW.trod_int Try.underlying3 h2
      obtain ⟨self, hse, _⟩ := DataW.trod_int Try.underlying3 h4
      obtain ⟨q, hqe, _⟩ := DataW.trod_int Try.underlying3 h5
      obtain ⟨r, hr, hq⟩ := elem39 m _ y1 h1
      obtain ⟨A, fs, c, hA, a1, a2, a3, a4, a5⟩ := open22 h0
      obtain ⟨C, who, cC, hC, q1, q2, q3, q4, _⟩ := open_row Try.underlying37 cells3' (by decide) eInt (fun _ _ => True) elem3 h3
      have b0 : Rows.uptoBulk y0.1 ≤ Rows.uptoBulk (.agg ([y0, y1, y2, y3, y4, y5, y6].map (·.1))) := bulks.agg_part (by simp)
      have b1 : Rows.uptoBulk y1.1 ≤ Rows.uptoBulk (.agg ([y0, y1, y2, y3, y4, y5, y6].map (·.1))) := bulks.agg_part (by simp)
      have b3 : Rows.uptoBulk y3.1 ≤ Rows.uptoBulk (.agg ([y0, y1, y2, y3, y4, y5, y6].map (·.1))) := bulks.agg_part (by simp)
      simp at hd hse hqe
      refine ⟨A, fs, c, r.f, r.X, r.Y, r.cX, r.cY, d, C, who, cC, self, q, u12, ?_, a1, Nat.le_trans a4 b0, fun f hf => ⟨Nat.le_trans (a5 f hf).1 b0, Nat.le_trans (a5 f hf).2 b0⟩, hq.1, Nat.le_trans hq.2.1 b1, Nat.le_trans hq.2.2 b1, q1, q2, q3, Nat.le_trans q4 b3⟩
      rw [hA, hd, hC, hse, hqe]
      simp [eRw] at hr
      simp [flc, hr]
end
end Go.Proofs.Ytcffhfcjfjfokaa
