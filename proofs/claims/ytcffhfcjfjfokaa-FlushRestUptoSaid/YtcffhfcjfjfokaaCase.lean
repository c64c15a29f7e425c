import Derived.Test.YtcffhfcjfjfokaaLackr
import Derived.Test.YtcffhfcjfjfokaaOpen
namespace Go.Proofs.Ytcffhfcjfjfokaa
open Go.RowKit Go.Deep Go.ChangeShapes Go.WideShapes
theorem more_one {fs gs : List Fl} {a b : Int} (h : ListedMore fs gs a) (k : ListedMore fs gs b) : a = b := by
  unfold ListedMore at h k
  split at h
  · rename_i hc; rw [if_pos hc] at k; exact together_one h k
  · rename_i hc; rw [if_neg hc] at k; rw [h, k]
theorem lacks_one {done : Int} {own : Fl} {fs : List Fl} {l l' : List (Int × Int)} {n n' : Int} (h : LacksIs done own fs l n) (k : LacksIs done own fs l' n') : l = l' ∧ n = n' := by
  unfold LacksIs at h k
  by_cases hd : 0 ≤ done ∧ done ≤ 4611686018427387904
  · rw [if_pos hd] at h k
    rcases h with ⟨m, hm, hL, rfl, rfl⟩ | ⟨hL, hf, hlt, rfl, rfl⟩ | ⟨hL, hf, hge, rfl, cut, F, hc, hF, rfl⟩ <;>
      rcases k with ⟨m', hm', hL', rfl, rfl⟩ | ⟨hL', hf', hlt', rfl, rfl⟩ | ⟨hL', hf', hge', rfl, cut', F', hc', hF', rfl⟩
    · exact ⟨rfl, more_one hL hL'⟩
    · exact absurd (more_one hL hL') hm
    · exact absurd (more_one hL hL') hm
    · exact absurd (more_one hL' hL) hm'
    · exact ⟨rfl, rfl⟩
    · omega
    · exact absurd (more_one hL' hL) hm'
    · omega
    · obtain rfl := cut_one hc hc'
      have : F = F' := funext fun pos => Option.ext fun s => by rw [hF pos s, hF' pos s]
      subst this
      exact ⟨rfl, rfl⟩
  · rw [if_neg hd] at h k
    exact ⟨by rw [h.2, k.2], by rw [h.1, k.1]⟩
theorem cells22' : Try.prog.cellsOf 22 = 1 := by kernel_rfl
theorem cells42 : Try.prog.cellsOf 42 = 13 := by kernel_rfl
section
variable {H : Type} {enc : TypeId × Value → H} {W : World} {sp : Nat → Bool}
set_option maxRecDepth 100000 in
/-- A case that came in: its contents, its own one, how far it is. -/
theorem open42 {fuel : Nat} {cs : List Value} {x : DataW H × List MemPlace} (h : DataW.trod enc Try.prog W 0 sp true fuel 42 cs = some x) :
    ∃ (A : Option Addr) (fs : List Fl) (c : Nat) (own : Fl) (X Y : Option Addr) (cX cY : Nat) (done : Int) (u : List Value), cs = .slice A fs.length c :: (flc own.e own.l own.i own.c own.base X own.slots.length cX Y own.have_.length cY).toList ++ .int .i64 done :: u ∧ u.length = 4 ∧
      Fls W W.heap.size A fs ∧ fs.length ≤ Rows.uptoBulk x.1 ∧ (∀ f ∈ fs, f.slots.length ≤ Rows.uptoBulk x.1 ∧ f.have_.length ≤ Rows.uptoBulk x.1) ∧ FlRows W W.heap.size own X cX Y cY ∧ own.slots.length ≤ Rows.uptoBulk x.1 ∧ own.have_.length ≤ Rows.uptoBulk x.1 := by
  obtain ⟨ys, m, _, rfl, hlen, hyl, hf⟩ := DataW.trod_struct Try.underlying42 h
  rw [cells42] at hlen
  have hyl7 : ys.length = 7 := hyl
  match cs, hlen with
  | [u0, u1, u2, u3, u4, u5, u6, u7, u8, u9, u10, u11, u12], _ =>
    match ys, hyl7 with
    | [y0, y1, y2, y3, y4, y5, y6], _ =>
      have h0 : DataW.trod enc Try.prog W 0 sp true m 22 (([u0, u1, u2, u3, u4, u5, u6, u7, u8, u9, u10, u11, u12].drop 0).take (Try.prog.cellsOf 22)) = some y0 := hf 0 _ rfl
      have h1 : DataW.trod enc Try.prog W 0 sp true m 39 (([u0, u1, u2, u3, u4, u5, u6, u7, u8, u9, u10, u11, u12].drop 1).take (Try.prog.cellsOf 39)) = some y1 := hf 1 _ rfl
      have h2 : DataW.trod enc Try.prog W 0 sp true m 3 (([u0, u1, u2, u3, u4, u5, u6, u7, u8, u9, u10, u11, u12].drop 8).take (Try.prog.cellsOf 3)) = some y2 := hf 2 _ rfl
      rw [cells22'] at h0
      rw [cells39] at h1
      rw [cells3'] at h2
      simp only [List.drop_zero, List.drop_succ_cons, List.take_succ_cons, List.take_zero] at h0 h1 h2
      obtain ⟨d, hd, _⟩ := DataW.trod_int Try.underlying3 h2
      obtain ⟨r, hr, hq⟩ := elem39 m _ y1 h1
      obtain ⟨A, fs, c, hA, a1, a2, a3, a4, a5⟩ := open22 h0
      have b0 : Rows.uptoBulk y0.1 ≤ Rows.uptoBulk (.agg ([y0, y1, y2, y3, y4, y5, y6].map (·.1))) := bulks.agg_part (by simp)
      have b1 : Rows.uptoBulk y1.1 ≤ Rows.uptoBulk (.agg ([y0, y1, y2, y3, y4, y5, y6].map (·.1))) := bulks.agg_part (by simp)
      simp at hd
      refine ⟨A, fs, c, r.f, r.X, r.Y, r.cX, r.cY, d, [u9, u10, u11, u12], ?_, rfl, a1, Nat.le_trans a4 b0, fun f hf => ⟨Nat.le_trans (a5 f hf).1 b0, Nat.le_trans (a5 f hf).2 b0⟩, hq.1, Nat.le_trans hq.2.1 b1, Nat.le_trans hq.2.2 b1⟩
      rw [hA, hd]
      simp [eRw] at hr
      simp [flc, hr]
end
end Go.Proofs.Ytcffhfcjfjfokaa
