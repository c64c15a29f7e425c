/- OrlAll OrdOpen, joined. -/
import Derived.Test.YtfbeggdbjpmppaaMw20
import Derived.Test.YtfbeggdbjpmppaaMo1
import Derived.Test.YtfbeggdbjpmppaaMo2
set_option linter.unusedVariables false
set_option linter.unusedSimpArgs false
/- MemberOrderless: whatever the case. -/
namespace Go.Proofs.Ytfbeggdbjpmppaa
open Go.RowKit
set_option maxRecDepth 100000 in
set_option maxHeartbeats 4000000 in
theorem orl_none (n s i f : Int) (A : Option Addr) (m c : Nat) (B : Option Addr) (k cB : Nat) (w : World) (h : newB n s i f = false ∨ (newB n s i f = true ∧ f = 4611686018427387904)) :
    Calls Try.prog 12 #[.agg (caseA n s i f A m c), .slice B k cB] w fun x w' => x = .returned (.bool true) ∧ Below w.heap.size w w' := by
  obtain ⟨wA, hwA⟩ : ∃ wA, wA = w.alloc (.cells (caseA n s i f A m c) 59) := ⟨_, rfl⟩
  have hbA : Below w.heap.size w wA := by rw [hwA]; exact below_box1 _ _ _
  have zA : w.heap.size < wA.heap.size := by rw [hwA]; simp
  have oA : wA.rangeAt w.heap.size 0 (caseA n s i f A m c).toList := by rw [hwA]; exact range_new w (caseA n s i f A m c) 59
  obtain ⟨v, hv⟩ : ∃ v, v = w.heap.size := ⟨_, rfl⟩
  rw [← hv] at oA
  have key : ∀ W, Calls Try.prog 26 #[.agg (caseA n s i f A m c)] W fun x w' => x = .returned (.tuple #[.pointer none, .bool true]) ∧ Below W.heap.size W w' := by
    intro W
    rcases h with h | ⟨h, hf⟩
    · exact begun_no n s i f A m c W h
    · exact begun_spent n s i f A m c W h hf
  have c0 : wA.cell? ⟨v, 0, none⟩ = some (.int .i64 n) := oA 0 _ rfl
  have c1 : wA.cell? ⟨v, 1, none⟩ = some (.int .i64 s) := oA 1 _ rfl
  have c2 : wA.cell? ⟨v, 2, none⟩ = some (.int .i64 i) := oA 2 _ rfl
  have c3 : wA.cell? ⟨v, 3, none⟩ = some (.int .i64 f) := oA 3 _ rfl
  have c4 : wA.cell? ⟨v, 4, none⟩ = some (.slice A m c) := oA 4 _ rfl
  have hvz : v < wA.heap.size := by omega
  replace hbA := Lib.hid hbA
  replace oA := Lib.hid oA
  replace hwA := Lib.hid hwA
  replace hv := Lib.hid hv
  replace h := Lib.hid h
  replace key := Lib.hid key
  have tok : True := trivial
  go_enter Try.func12, Try.ntmps12
  go_wp2_with fail
  rw [← hwA.out, ← hv.out]
  go_wp2_with (first
    | (clear tok
       go_at_call 26
       refine (key.out wA).mono ?_
       rintro e w1 ⟨rfl, hb1⟩
       have q1 := range_same oA.out (hb1.block v hvz)
       have b1 := hbA.out.trans (hb1.mono (by omega))
       clear c0 c1 c2 c3 c4 hb1
       have c0 : w1.cell? ⟨v, 0, none⟩ = some (.int .i64 n) := q1 0 _ rfl
       have c1 : w1.cell? ⟨v, 1, none⟩ = some (.int .i64 s) := q1 1 _ rfl
       have c2 : w1.cell? ⟨v, 2, none⟩ = some (.int .i64 i) := q1 2 _ rfl
       have c3 : w1.cell? ⟨v, 3, none⟩ = some (.int .i64 f) := q1 3 _ rfl
       have c4 : w1.cell? ⟨v, 4, none⟩ = some (.slice A m c) := q1 4 _ rfl
       replace b1 := Lib.hid b1
       clear q1)
    | (go_at_call 26
       refine (key.out w1).mono ?_
       rintro e w2 ⟨rfl, hb2⟩
       have b2 := Lib.hid (b1.out.trans (hb2.mono (by have := b1.out.size; omega)))
       clear hb2)
    | fail)
  go_ret
  exact ⟨rfl, b2.out⟩
theorem orl_any (n s i f : Int) (A : Option Addr) (c N : Nat) (os : List OpX) (B : Option Addr) (cB : Nat) (tl : List TellX) (w : World) (hN : N ≤ w.heap.size) (hA : OpsAt w N A os) (hB : ToldAt w N B tl) :
    Calls Try.prog 12 #[.agg (caseA n s i f A os.length c), .slice B tl.length cB] w fun x w' => x = .returned (.bool true) ∧ Below w.heap.size w w' := by
  cases h : newB n s i f with
  | false => exact orl_none n s i f A os.length c B tl.length cB w (.inl h)
  | true =>
    by_cases hf : f = 4611686018427387904
    · exact orl_none n s i f A os.length c B tl.length cB w (.inr ⟨h, hf⟩)
    · have h' := of_decide_eq_true h
      obtain ⟨n', rfl⟩ := Int.eq_ofNat_of_zero_le (show 0 ≤ n by omega)
      obtain ⟨s', rfl⟩ := Int.eq_ofNat_of_zero_le (show 0 ≤ s by omega)
      exact orl_some n' s' i f A c N os B cB tl w h hf hN hA hB
end Go.Proofs.Ytfbeggdbjpmppaa
/- MemberOrderless: what is told, as it comes in. -/
namespace Go.Proofs.Ytfbeggdbjpmppaa
open Go.RowKit Go.Deep Go.ChangeShapes Go.WideShapes Go.ChangeAt
theorem cells82 : Try.prog.cellsOf 82 = 1 := by kernel_rfl
theorem cells85 : Try.prog.cellsOf 85 = 11 := by kernel_rfl
theorem readable82 : Try.prog.readableRec 82 = true := by kernel_rfl
theorem row82 : 82 < Try.prog.types.size := of_decide_eq_true (by kernel_rfl)
section
variable {H : Type} {enc : TypeId × Value → H} {W : World} {sp : Nat → Bool}
def ToQ (W : World) (y : TellX) (b : Nat) : Prop := RowAt W W.heap.size 1 eInt y.S y.x.p.set ∧ RowAt W W.heap.size 1 eInt y.V y.x.p.vec ∧ y.x.p.set.length ≤ b ∧ y.x.p.vec.length ≤ b ∧ 2 ≤ b
set_option maxRecDepth 100000 in
theorem elem85 (n : Nat) (cs : List Value) (y : DataW H × List MemPlace) (h : DataW.trod enc Try.prog W 0 sp true n 85 cs = some y) : ∃ x, cs = eTo x ∧ ToQ W x (Rows.uptoBulk y.1) := by
  obtain ⟨ys, m, _, rfl, hlen, hyl, hf⟩ := DataW.trod_struct Try.underlying85 h
  rw [cells85] at hlen
  have hyl3 : ys.length = 3 := hyl
  match cs, hlen with
  | [u0, u1, u2, u3, u4, u5, u6, u7, u8, u9, u10], _ =>
    match ys, hyl3 with
    | [y0, y1, y2], _ =>
      have h0 : DataW.trod enc Try.prog W 0 sp true m 3 (([u0, u1, u2, u3, u4, u5, u6, u7, u8, u9, u10].drop 0).take (Try.prog.cellsOf 3)) = some y0 := hf 0 _ rfl
      have h1 : DataW.trod enc Try.prog W 0 sp true m 3 (([u0, u1, u2, u3, u4, u5, u6, u7, u8, u9, u10].drop 1).take (Try.prog.cellsOf 3)) = some y1 := hf 1 _ rfl
      have h2 : DataW.trod enc Try.prog W 0 sp true m 31 (([u0, u1, u2, u3, u4, u5, u6, u7, u8, u9, u10].drop 2).take (Try.prog.cellsOf 31)) = some y2 := hf 2 _ rfl
      rw [cells3'] at h0 h1
      rw [cells31] at h2
      simp only [List.drop_zero, List.drop_succ_cons, List.take_succ_cons, List.take_zero] at h0 h1 h2
      obtain ⟨q, hq, _⟩ := DataW.trod_int Try.underlying3 h0
      obtain ⟨i, hi, _⟩ := DataW.trod_int Try.underlying3 h1
      obtain ⟨p, S, V, cS, cV, hp, rS, rV, lS, lV⟩ := open31 h2
      simp at hq hi
      simp only [prA, List.cons.injEq, and_true] at hp
      obtain ⟨p0, p1, p2, p3, p4, p5, p6, p7, p8⟩ := hp
      have b2 : Rows.uptoBulk y2.1 ≤ Rows.uptoBulk (.agg ([y0, y1, y2].map (·.1))) := bulks.agg_part (by simp)
      refine ⟨⟨⟨q, i, p⟩, S, cS, V, cV⟩, by simp [eTo, hq, hi, p0, p1, p2, p3, p4, p5, p6, p7, p8], rS, rV, Nat.le_trans lS b2, Nat.le_trans lV b2, ?_⟩
      have h6 := bulks.length_le ([y0, y1, y2].map (·.1))
      simp only [Rows.uptoBulk, List.length_map, List.length_cons, List.length_nil] at h6 ⊢
      omega
set_option maxRecDepth 100000 in
/-- What is told, of bulk at most 1048576. -/
theorem came82 {base : Nat} {v : Value} {d : DataW H} {p : List MemPlace} (hv : Value.okWide Try.prog W .any base 82 v)
    (h : DataW.Trod enc Try.prog W 0 sp true 82 v d p) (hk : Rows.uptoBulk d ≤ 1048576) :
    ∃ (A : Option Addr) (c : Nat) (tl : List TellX), v = .slice A tl.length c ∧ ToldAt W W.heap.size A tl := by
  obtain ⟨a, len, cap, rfl⟩ := okWide_slice Try.underlying82 hv
  obtain ⟨fuel, h⟩ := h
  obtain ⟨A, tl, c, e, r, _, _, q1, q2⟩ := open_row2 (x := (d, p)) Try.underlying82 cells85 (by decide) eTo (ToQ W) (fun y b hy => hy.2.2.2.2) elem85 h
  refine ⟨A, c, tl, e, r, fun y hy => ?_, ?_⟩
  · obtain ⟨b, hb, hS, hV, lS, lV, _⟩ := q2 y hy
    have hb' : b ≤ 1048576 := Nat.le_trans hb hk
    exact ⟨hS, hV, by omega, by omega⟩
  · have hk' : Rows.uptoBulk (d, p).1 ≤ 1048576 := hk
    omega
end
end Go.Proofs.Ytfbeggdbjpmppaa
