/- A case that came in, with its messages. -/
import Derived.Test.YtcffhfcjfjfokaaCase
import Derived.Test.YtcffhfcjfjfokaaRest
namespace Go.Proofs.Ytcffhfcjfjfokaa
open Go.RowKit Go.Deep Go.ChangeShapes Go.WideShapes
theorem cells113 : Try.prog.cellsOf 113 = 4 := by kernel_rfl
theorem cells40 : Try.prog.cellsOf 40 = 1 := by kernel_rfl
theorem cells52 : Try.prog.cellsOf 52 = 1 := by kernel_rfl
theorem cells5 : Try.prog.cellsOf 5 = 1 := by kernel_rfl
section
variable {H : Type} {enc : TypeId × Value → H} {W : World} {sp : Nat → Bool}
theorem elem5 (n : Nat) (cs : List Value) (y : DataW H × List MemPlace) (h : DataW.trod enc Try.prog W 0 sp true n 5 cs = some y) : ∃ x, cs = eByte x ∧ True := by
  obtain ⟨z, hz, _⟩ := DataW.trod_int Try.underlying5 h
  exact ⟨z, hz, trivial⟩
def DtQ (W : World) (r : Dr) (b : Nat) : Prop := BodyAt W W.heap.size r.B r.c r.d.body ∧ r.d.body.length ≤ b ∧ (Lit.int .i64 r.d.s).wf = true ∧ (Lit.int .i64 r.d.q).wf = true
set_option maxRecDepth 100000 in
theorem elem113 (n : Nat) (cs : List Value) (y : DataW H × List MemPlace) (h : DataW.trod enc Try.prog W 0 sp true n 113 cs = some y) : ∃ r, cs = eDr r ∧ DtQ W r (Rows.uptoBulk y.1) := by
  obtain ⟨ys, m, _, rfl, hlen, hyl, hf⟩ := DataW.trod_struct Try.underlying113 h
  rw [cells113] at hlen
  have hyl4 : ys.length = 4 := hyl
  match cs, hlen with
  | [u0, u1, u2, u3], _ =>
    match ys, hyl4 with
    | [y0, y1, y2, y3], _ =>
      have h0 : DataW.trod enc Try.prog W 0 sp true m 3 (([u0, u1, u2, u3].drop 0).take (Try.prog.cellsOf 3)) = some y0 := hf 0 _ rfl
      have h1 : DataW.trod enc Try.prog W 0 sp true m 3 (([u0, u1, u2, u3].drop 1).take (Try.prog.cellsOf 3)) = some y1 := hf 1 _ rfl
      have h2 : DataW.trod enc Try.prog W 0 sp true m 3 (([u0, u1, u2, u3].drop 2).take (Try.prog.cellsOf 3)) = some y2 := hf 2 _ rfl
      have h3 : DataW.trod enc Try.prog W 0 sp true m 52 (([u0, u1, u2, u3].drop 3).take (Try.prog.cellsOf 52)) = some y3 := hf 3 _ rfl
      rw [cells3'] at h0 h1 h2
      rw [cells52] at h3
      simp only [List.drop_zero, List.drop_succ_cons, List.take_succ_cons, List.take_zero] at h0 h1 h2 h3
      obtain ⟨a, ha, _, hwa⟩ := DataW.trod_int Try.underlying3 h0
      obtain ⟨b, hb, _, hwb⟩ := DataW.trod_int Try.underlying3 h1
      obtain ⟨c, hc, _⟩ := DataW.trod_int Try.underlying3 h2
      simp at ha hb hc
      obtain ⟨X, s, cX, hX, r1, r2, r3, r4, _⟩ := open_row Try.underlying52 cells5 (by decide) eByte (fun _ _ => True) elem5 h3
      refine ⟨⟨⟨a, b, c, s⟩, X, cX⟩, by simp [eDr, ha, hb, hc, hX], ⟨r1, r2, r3⟩, Nat.le_trans r4 (bulks.agg_part (by simp)), hwa, hwb⟩
/-- A list of messages that came in. -/
theorem open40 {fuel : Nat} {v : Value} {x : DataW H × List MemPlace} (h : DataW.trod enc Try.prog W 0 sp true fuel 40 [v] = some x) :
    ∃ (A : Option Addr) (ds : List Dt) (c : Nat), v = .slice A ds.length c ∧ Dts W W.heap.size A ds ∧ ds.length ≤ Rows.uptoBulk x.1 ∧ (∀ d ∈ ds, d.body.length ≤ Rows.uptoBulk x.1) ∧ KeyD ds := by
  obtain ⟨A, rs, c, rfl, h1, h2, h3, h4, h5⟩ := open_row Try.underlying40 cells113 (by decide) eDr (DtQ W) elem113 h
  refine ⟨A, rs.map Dr.d, c, by simp, ⟨rs, rfl, h1, fun r hr => by obtain ⟨b, _, hq⟩ := h5 r hr; exact hq.1⟩, by simpa using h4, fun d hd => ?_, fun d hd => ?_⟩
  · obtain ⟨r, hr, rfl⟩ := List.mem_map.1 hd
    obtain ⟨b, hb, hq⟩ := h5 r hr
    exact Nat.le_trans hq.2.1 hb
  · obtain ⟨r, hr, rfl⟩ := List.mem_map.1 hd
    obtain ⟨b, hb, hq⟩ := h5 r hr
    exact hq.2.2
set_option maxRecDepth 100000 in
/-- A case that came in: its contents, how far it is, its messages. -/
theorem open42m {fuel : Nat} {cs : List Value} {x : DataW H × List MemPlace} (h : DataW.trod enc Try.prog W 0 sp true fuel 42 cs = some x) :
    ∃ (A : Option Addr) (fs : List Fl) (c : Nat) (done : Int) (M : Option Addr) (ds : List Dt) (cM : Nat) (u1 u2 u3 u4 u5 u6 u7 u9 u10 u11 : Value), cs = [.slice A fs.length c, u1, u2, u3, u4, u5, u6, u7, .int .i64 done, u9, u10, u11, .slice M ds.length cM] ∧
      Fls W W.heap.size A fs ∧ fs.length ≤ Rows.uptoBulk x.1 ∧ (∀ f ∈ fs, f.slots.length ≤ Rows.uptoBulk x.1 ∧ f.have_.length ≤ Rows.uptoBulk x.1) ∧
      Dts W W.heap.size M ds ∧ ds.length ≤ Rows.uptoBulk x.1 ∧ (∀ d ∈ ds, d.body.length ≤ Rows.uptoBulk x.1) ∧ KeyD ds := by
  obtain ⟨ys, m, _, rfl, hlen, hyl, hf⟩ := DataW.trod_struct Try.underlying42 h
  rw [cells42] at hlen
  have hyl7 : ys.length = 7 := hyl
  match cs, hlen with
  | [u0, u1, u2, u3, u4, u5, u6, u7, u8, u9, u10, u11, u12], _ =>
    match ys, hyl7 with
    | [y0, y1, y2, y3, y4, y5, y6], _ =>
      have h0 : DataW.trod enc Try.prog W 0 sp true m 22 (([u0, u1, u2, u3, u4, u5, u6, u7, u8, u9, u10, u11, u12].drop 0).take (Try.prog.cellsOf 22)) = some y0 := hf 0 _ rfl
      have h2 : DataW.trod enc Try.prog W 0 sp true m 3 (([u0, u1, u2, u3, u4, u5, u6, u7, u8, u9, u10, u11, u12].drop 8).take (Try.prog.cellsOf 3)) = some y2 := hf 2 _ rfl
      have h6 : DataW.trod enc Try.prog W 0 sp true m 40 (([u0, u1, u2, u3, u4, u5, u6, u7, u8, u9, u10, u11, u12].drop 12).take (Try.prog.cellsOf 40)) = some y6 := hf 6 _ rfl
      rw [cells22'] at h0
      rw [cells3'] at h2
      rw [cells40] at h6
      simp only [List.drop_zero, List.drop_succ_cons, List.take_succ_cons, List.take_zero] at h0 h2 h6
      obtain ⟨d, hd, _⟩ := DataW.trod_int Try.underlying3 h2
      obtain ⟨A, fs, c, hA, a1, a2, a3, a4, a5⟩ := open22 h0
      obtain ⟨M, ds, cM, hM, q1, q2, q3, q4⟩ := open40 h6
      have b0 : Rows.uptoBulk y0.1 ≤ Rows.uptoBulk (.agg ([y0, y1, y2, y3, y4, y5, y6].map (·.1))) := bulks.agg_part (by simp)
      have b6 : Rows.uptoBulk y6.1 ≤ Rows.uptoBulk (.agg ([y0, y1, y2, y3, y4, y5, y6].map (·.1))) := bulks.agg_part (by simp)
      simp at hd
      refine ⟨A, fs, c, d, M, ds, cM, u1, u2, u3, u4, u5, u6, u7, u9, u10, u11, ?_, a1, Nat.le_trans a4 b0, fun f hf => ⟨Nat.le_trans (a5 f hf).1 b0, Nat.le_trans (a5 f hf).2 b0⟩, q1, Nat.le_trans q2 b6, fun d hd => Nat.le_trans (q3 d hd) b6, q4⟩
      rw [hA, hd, hM]
end
end Go.Proofs.Ytcffhfcjfjfokaa
