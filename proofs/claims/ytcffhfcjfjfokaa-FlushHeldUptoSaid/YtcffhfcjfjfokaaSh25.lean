/- Still HeldW RowClose, joined. -/
import Derived.Test.YtcffhfcjfjfokaaRows
import Derived.WalkKit
import Derived.ProofKit
import Derived.OpenShut
import Derived.JoinedCond
import Derived.Below
import Derived.Carry
import Derived.ChangeSame
import Derived.Test.YtcffhfcjfjfokaaSh20
import Derived.Test.YtcffhfcjfjfokaaSh24
set_option linter.unusedVariables false
set_option linter.unusedSimpArgs false
/- The law's still: are the answers of a case what the document says? -/
namespace Go.Proofs.Ytcffhfcjfjfokaa
open Go Go.RowKit
theorem Bo.dts {w : World} {base hb : Nat} {x : BX} {o : List Value} (h : Bo w base hb x o) {r : RowX Dr} (hr : r ∈ x.m.P) (hb : ∀ s ∈ r.l, bodyR s ∈ x.y.P) : Dts w w.heap.size r.A (r.l.map Dr.d) :=
  ⟨r.l, rfl, (h.m.k.o r hr).row len_eDr, fun s hs => ⟨(h.y.k.o _ (hb s hs)).row len_eByte, (h.y.k.o _ (hb s hs)).len.1, (h.y.k.o _ (hb s hs)).len.2⟩⟩
set_option maxRecDepth 100000 in
set_option maxHeartbeats 4000000 in
theorem still_any {w : World} {base hb N i : Nat} {x : BX} {o : List Value} {xx : Cx} {r1 r2 : RowX (Int × Int)} {r3 : RowX Dr} {n1 n2 n3 : Int} (h : Bo w base hb x o) (XC : CxAt w N xx) (hN : N ≤ w.heap.size) (hi : i ≤ 1000)
    (h1 : x.s.P[2 * i]? = some r1) (h2 : x.s.P[2 * i + 1]? = some r2) (h3 : x.m.P[i]? = some r3) (hy : ∀ s ∈ r3.l, bodyR s ∈ x.y.P) (P1 : LacksIs xx.done xx.own xx.fs r1.l n1) (P2 : DutyIs xx.self xx.q xx.who xx.fs r2.l n2) (P3 : RestIs xx.done xx.fs (xx.ms.map Dr.d) (r3.l.map Dr.d) n3) :
    Calls Try.prog 50 #[.pointer (some ⟨hb, 0, none⟩), .agg (cxA xx), .int .i64 i] w fun e w' => e = .returned (.bool true) ∧ Below w.heap.size w w' := by
  refine calls_vc tab_ok Try.func50 rfl ?_
  have hz := h.hz
  have hbz := h.z
  conv => whnf
  refine .mk fun wA hwA => ?_
  have hbA : Below w.heap.size w wA := by rw [hwA.out]; exact below_box1 _ _ _
  have zA : wA.heap.size = w.heap.size + 1 := by rw [hwA.out]; simp
  have oA : wA.rangeAt w.heap.size 0 (cxA xx).toList := by rw [hwA.out]; exact range_new w (cxA xx) 42
  clear hwA
  have b0 : Below wA.heap.size wA wA := Below.refl _ _
  have hx : ∀ W, Below wA.heap.size wA W → W.rangeAt w.heap.size 0 (cxA xx).toList ∧ CxAt W N xx ∧ Bo W base hb x o ∧ Below w.heap.size w W := fun W hW =>
    have hb := hbA.trans (hW.mono (by omega))
    ⟨range_same oA (hW.block w.heap.size (by omega)), XC.below hb (by omega), h.below hb, hb⟩
  have Kall : Ld Try.prog 22 w.heap.size 0 (fun W => Below wA.heap.size wA W) (.slice xx.A xx.fs.length xx.cA) := ⟨fun W hW => load_cell (by kernel_rfl) ((hx W hW).1 0 _ rfl)⟩
  have Kown : Ld Try.prog 39 w.heap.size 1 (fun W => Below wA.heap.size wA W) (.agg (flc xx.own.e xx.own.l xx.own.i xx.own.c xx.own.base xx.X xx.own.slots.length xx.cX xx.Y xx.own.have_.length xx.cY)) := ⟨fun W hW => load39 (range_sub (n := 7) (hx W hW).1 1 rfl)⟩
  have Kdone : Ld Try.prog 3 w.heap.size 8 (fun W => Below wA.heap.size wA W) (.int .i64 xx.done) := ⟨fun W hW => load3 ((hx W hW).1 8 _ rfl)⟩
  have Kwho : Ld Try.prog 37 w.heap.size 9 (fun W => Below wA.heap.size wA W) (.slice xx.C xx.who.length xx.cC) := ⟨fun W hW => load_cell (by kernel_rfl) ((hx W hW).1 9 _ rfl)⟩
  have Kself : Ld Try.prog 3 w.heap.size 10 (fun W => Below wA.heap.size wA W) (.int .i64 xx.self) := ⟨fun W hW => load3 ((hx W hW).1 10 _ rfl)⟩
  have Kq : Ld Try.prog 3 w.heap.size 11 (fun W => Below wA.heap.size wA W) (.int .i64 xx.q) := ⟨fun W hW => load3 ((hx W hW).1 11 _ rfl)⟩
  have Kms : Ld Try.prog 40 w.heap.size 12 (fun W => Below wA.heap.size wA W) (.slice xx.M xx.ms.length xx.cM) := ⟨fun W hW => load_cell (by kernel_rfl) ((hx W hW).1 12 _ rfl)⟩
  have hfsl := XC.sm.1
  have hwl := XC.wl
  have hml : xx.ms.length ≤ 1048576 := by have := XC.sd.1; rwa [List.length_map] at this
  -- the document's answers
  repeat (conv => whnf
          first
          | (refine VLoad.mk _ (Kdone.at b0) ?_)
          | (refine VLoad.mk _ (Kown.at b0) ?_)
          | (refine VLoad.mk _ (Kall.at b0) ?_)
          | (refine VCmp.tt (by omega) ?_)
          | (refine VCmp.ff (by omega) ?_)
          | (refine VIn.mk (IntWalk.i64_in _ (by omega)) ?_)
          | (refine VIdx.mk _ rfl (by omega) ?_)
          | (refine VIdx.mk 0 rfl (by omega) ?_))
  try (conv => whnf)
  refine VCall.mk _ (rlacks_any xx.done xx.own xx.X xx.Y xx.A xx.cX xx.cY xx.cA N xx.fs wA (by omega) (hx wA b0).2.1.own (hx wA b0).2.1.fls (by omega)) ?_
  rintro _ w1 ⟨⟨B4, c4, l4, n4, rfl, Q1, own4⟩, b1⟩
  refine ⟨_, rfl, ?_⟩
  obtain ⟨e1, rfl⟩ := lacks_one Q1 P1
  subst e1
  have z1 := b1.size
  repeat (conv => whnf
          first
          | (refine VLoad.mk _ (Kself.at b1) ?_)
          | (refine VLoad.mk _ (Kq.at b1) ?_)
          | (refine VLoad.mk _ (Kwho.at b1) ?_)
          | (refine VLoad.mk _ (Kall.at b1) ?_)
          | (refine VCmp.tt (by omega) ?_)
          | (refine VCmp.ff (by omega) ?_)
          | (refine VIn.mk (IntWalk.i64_in _ (by omega)) ?_)
          | (refine VIdx.mk _ rfl (by omega) ?_)
          | (refine VIdx.mk 0 rfl (by omega) ?_))
  try (conv => whnf)
  refine VCall.mk _ (rduty_any xx.self xx.q xx.C xx.A xx.cC xx.cA N xx.who xx.fs w1 (by omega) (hx w1 b1).2.1.who (hx w1 b1).2.1.fls (by omega) (by omega)) ?_
  rintro _ w2 ⟨⟨B5, c5, l5, n5, rfl, Q2, own5⟩, b12⟩
  refine ⟨_, rfl, ?_⟩
  obtain ⟨e2, rfl⟩ := duty_one Q2 P2
  subst e2
  have b2 : Below wA.heap.size wA w2 := b1.trans (b12.mono z1)
  have z2 := b12.size
  repeat (conv => whnf
          first
          | (refine VLoad.mk _ (Kdone.at b2) ?_)
          | (refine VLoad.mk _ (Kall.at b2) ?_)
          | (refine VLoad.mk _ (Kms.at b2) ?_)
          | (refine VCmp.tt (by omega) ?_)
          | (refine VCmp.ff (by omega) ?_)
          | (refine VIn.mk (IntWalk.i64_in _ (by omega)) ?_)
          | (refine VIdx.mk _ rfl (by omega) ?_)
          | (refine VIdx.mk 0 rfl (by omega) ?_))
  try (conv => whnf)
  have C20 := rrest_any xx.done xx.A xx.M xx.cA xx.cM N xx.fs (xx.ms.map Dr.d) w2 (by omega) (hx w2 b2).2.1.fls ⟨xx.ms, rfl, (hx w2 b2).2.1.ms⟩ (by omega) XC.sd
  rw [List.length_map] at C20
  refine VCall.mk _ C20 ?_
  clear C20
  rintro _ w3 ⟨⟨B6, c6, rs6, n6, rfl, Q3, own6⟩, b23⟩
  refine ⟨_, rfl, ?_⟩
  obtain ⟨hrs, rfl⟩ := rest_one P3 Q3
  have b3 : Below wA.heap.size wA w3 := b2.trans (b23.mono (by omega))
  have z3 := b23.size
  have own4 := own4.keep (b12.trans (b23.mono z2)) fun k hk => (own4.lo k hk).2
  have own5 := own5.keep b23 fun k hk => (own5.lo k hk).2
  have hl6 : rs6.length = r3.l.length := by have := congrArg List.length hrs; simpa using this.symm
  have hrl := restIs_len P3
  rw [List.length_map] at hrl
  have hll1 := lacksIs_len P1
  have hll2 := dutyIs_len P2
  -- the book
  have B := (hx w3 b3).2.2.1
  have hlen1 := (List.getElem?_eq_some_iff.1 h2).1
  have hlen3 := (List.getElem?_eq_some_iff.1 h3).1
  obtain ⟨gL, hgL, hc1⟩ := B.s.row h1
  obtain ⟨gL', hgL', hc2⟩ := B.s.row h2
  rw [hgL] at hgL'
  injection hgL' with e1; injection e1 with e1; subst e1
  obtain ⟨gM, hgM, hc3⟩ := B.m.row h3
  have L1 : Ld Try.prog 100 hb 4 (fun W => Below w3.heap.size w3 W) (.slice (some ⟨gL, 0, none⟩) x.s.P.length x.s.cL) := ⟨fun W hW => by have := (B.below hW).r 4 _ rfl; rw [hgL] at this; exact load_cell (by kernel_rfl) this⟩
  have L2 : Ld Try.prog 103 hb 10 (fun W => Below w3.heap.size w3 W) (.slice (some ⟨gM, 0, none⟩) x.m.P.length x.m.cL) := ⟨fun W hW => by have := (B.below hW).r 10 _ rfl; rw [hgM] at this; exact load_cell (by kernel_rfl) this⟩
  have hin : gL < w3.heap.size ∧ gM < w3.heap.size := ⟨(B.s.l.lo gL (by rw [hgL]; rfl)).2, (B.m.l.lo gM (by rw [hgM]; rfl)).2⟩
  have L3 : Ld Try.prog 36 gL (0 + 2 * i) (fun W => Below w3.heap.size w3 W) (.slice r1.A r1.l.length r1.c) := ⟨fun W hW => by rw [Nat.zero_add]; exact load_cell (by kernel_rfl) ((hW.cell (p := ⟨gL, 2 * i, none⟩) hin.1).trans hc1)⟩
  have L4 : Ld Try.prog 36 gL (0 + (2 * i + 1)) (fun W => Below w3.heap.size w3 W) (.slice r2.A r2.l.length r2.c) := ⟨fun W hW => by rw [Nat.zero_add]; exact load_cell (by kernel_rfl) ((hW.cell (p := ⟨gL, 2 * i + 1, none⟩) hin.1).trans hc2)⟩
  have L5 : Ld Try.prog 44 gM (0 + i) (fun W => Below w3.heap.size w3 W) (.slice r3.A r3.l.length r3.c) := ⟨fun W hW => by rw [Nat.zero_add]; exact load_cell (by kernel_rfl) ((hW.cell (p := ⟨gM, i, none⟩) hin.2).trans hc3)⟩
  have d0 : Below w3.heap.size w3 w3 := Below.refl _ _
  have q1 := (B.s.k.o r1 (List.mem_of_getElem? h1)).row len_eSlot
  have q2 := (B.s.k.o r2 (List.mem_of_getElem? h2)).row len_eSlot
  have q3 := B.dts (List.mem_of_getElem? h3) hy
  have q6 := msOwn_dtsA own6
  rw [← hrs] at q6
  repeat (conv => whnf
          first
          | (refine VLoad.mk _ (L1.at d0) ?_)
          | (refine VLoad.mk _ (L3.at d0) ?_)
          | (refine VIdx.mk (2 * i) (by omega) (by omega) ?_)
          | (refine VCmp.tt (by omega) ?_)
          | (refine VCmp.ff (by omega) ?_)
          | (refine VIn.mk (IntWalk.i64_in _ (by omega)) ?_)
          | (refine VIdx.mk _ rfl (by omega) ?_)
          | (refine VIdx.mk 0 rfl (by omega) ?_))
  try (conv => whnf)
  refine VCall.mk _ (sameSlots_yes r1.A B4 r1.c c4 w3.heap.size r1.l w3 (Nat.le_refl _) q1 (own4.row len_eSlot) (by omega)) ?_
  rintro _ w4 ⟨rfl, d1⟩
  refine ⟨_, rfl, ?_⟩
  repeat (conv => whnf
          first
          | (refine VLoad.mk _ (L1.at d1) ?_)
          | (refine VLoad.mk _ (L4.at d1) ?_)
          | (refine VIdx.mk (2 * i + 1) (by omega) (by omega) ?_)
          | (refine VCmp.tt (by omega) ?_)
          | (refine VCmp.ff (by omega) ?_)
          | (refine VIn.mk (IntWalk.i64_in _ (by omega)) ?_)
          | (refine VIdx.mk _ rfl (by omega) ?_)
          | (refine VIdx.mk 0 rfl (by omega) ?_))
  try (conv => whnf)
  refine VCall.mk _ (sameSlots_yes r2.A B5 r2.c c5 w3.heap.size r2.l w4 d1.size (q2.below d1 (Nat.le_refl _)) ((own5.row len_eSlot).below d1 (Nat.le_refl _)) (by omega)) ?_
  rintro _ w5 ⟨rfl, d12⟩
  refine ⟨_, rfl, ?_⟩
  have d2 : Below w3.heap.size w3 w5 := d1.trans (d12.mono d1.size)
  have C21 := sameMsgs_yes r3.A B6 r3.c c6 w3.heap.size (r3.l.map Dr.d) w5 d2.size (q3.below d2 (Nat.le_refl _)) (q6.below d2 (Nat.le_refl _)) (by rw [List.length_map]; omega)
  rw [List.length_map] at C21
  repeat (conv => whnf
          first
          | (refine VLoad.mk _ (L2.at d2) ?_)
          | (refine VLoad.mk _ (L5.at d2) ?_)
          | (refine VCmp.tt (by omega) ?_)
          | (refine VCmp.ff (by omega) ?_)
          | (refine VIn.mk (IntWalk.i64_in _ (by omega)) ?_)
          | (refine VIdx.mk _ rfl (by omega) ?_)
          | (refine VIdx.mk 0 rfl (by omega) ?_))
  try (conv => whnf)
  rw [hl6]
  refine VCall.mk _ C21 ?_
  clear C21
  rintro _ w6 ⟨rfl, d23⟩
  refine ⟨_, rfl, ?_⟩
  have d3 : Below w3.heap.size w3 w6 := d2.trans (d23.mono d2.size)
  repeat (conv => whnf
          first
          | (refine VCmp.tt (by omega) ?_)
          | (refine VCmp.ff (by omega) ?_)
          | (refine VIn.mk (IntWalk.i64_in _ (by omega)) ?_)
          | (refine VIdx.mk _ rfl (by omega) ?_)
          | (refine VIdx.mk 0 rfl (by omega) ?_))
  try (conv => whnf)
  exact .mk ⟨rfl, (hx _ (b3.trans (d3.mono (by omega)))).2.2.2⟩
end Go.Proofs.Ytcffhfcjfjfokaa
/- The law FlushHeld: any two cases. -/
namespace Go.Proofs.Ytcffhfcjfjfokaa
open Go Go.RowKit
/-- The book behind k cases. -/
structure BoZ (x : BX) (k : Nat) : Prop where
  z : Bo0 x
  s : x.s.P.length = 2 * k
  m : x.m.P.length = k
  y : x.y.P.length ≤ 4096 * k
  f : x.f.P = []
  d : x.d.P = []
structure Ans (x : BX) (xx : Cx) (i : Nat) : Prop where
  ex : ∃ (r1 r2 : RowX (Int × Int)) (r3 : RowX Dr) (n1 n2 n3 : Int), x.s.P[2 * i]? = some r1 ∧ x.s.P[2 * i + 1]? = some r2 ∧ x.m.P[i]? = some r3 ∧ (∀ s ∈ r3.l, bodyR s ∈ x.y.P) ∧
    LacksIs xx.done xx.own xx.fs r1.l n1 ∧ DutyIs xx.self xx.q xx.who xx.fs r2.l n2 ∧ RestIs xx.done xx.fs (xx.ms.map Dr.d) (r3.l.map Dr.d) n3
theorem boZ0 : BoZ bx0 0 := by
  refine ⟨⟨rfl, rfl, rfl, rfl, rfl, rfl, ?_, ?_, ?_, ?_, ?_, ?_, ?_, ?_, ?_, ?_, ?_, ?_⟩, rfl, rfl, Nat.le_refl _, rfl, rfl⟩ <;> simp [bx0, kx0]
section
variable {x x' : BX} {xx yy : Cx} {k i : Nat}
theorem Ask.z (h : Ask xx x x') (hz : BoZ x k) (hk : k ≤ 100) (sd : SmallD (xx.ms.map Dr.d)) : BoZ x' (k + 1) := by
  obtain ⟨Ls, cLs, Ly, cLy, Lm, cLm, r1, r2, r3, n1, n2, n3, rfl, P1, P2, P3⟩ := h.ex
  have e1 := lacksIs_len P1
  have e2 := dutyIs_len P2
  have e3 := restIs_len P3
  rw [List.length_map] at e3
  have z := hz.z
  have hs := hz.s
  have hm := hz.m
  have hy := hz.y
  have hb : ∀ r ∈ r3.l, r.d.body.length ≤ 1048576 := fun r hr => by
    obtain ⟨d, hd, e⟩ := restIs_body P3 r.d (List.mem_map.2 ⟨r, hr, rfl⟩)
    rw [e]; exact sd.2 d hd
  refine ⟨⟨z.y, z.i, z.s, z.f, z.d, z.m, fun r hr => ?_, z.bi, fun r hr => ?_, z.bf, z.bd, fun r hr => ?_, ?_, z.li, ?_, z.lf, z.ld, ?_⟩, ?_, ?_, ?_, hz.f, hz.d⟩
  · rcases List.mem_append.1 hr with hr | hr
    · exact z.by' r hr
    · obtain ⟨s, hs, rfl⟩ := List.mem_map.1 hr; exact hb s hs
  · rcases List.mem_append.1 hr with hr | hr
    · exact z.bs r hr
    · rcases List.mem_cons.1 hr with rfl | hr
      · omega
      · obtain rfl := List.mem_singleton.1 hr; omega
  · rcases List.mem_append.1 hr with hr | hr
    · exact z.bm r hr
    · obtain rfl := List.mem_singleton.1 hr; omega
  · show (x.y.P ++ _).length ≤ _; rw [List.length_append, List.length_map]; omega
  · show (x.s.P ++ _).length ≤ _; rw [List.length_append]; show _ + 2 ≤ _; omega
  · show (x.m.P ++ _).length ≤ _; rw [List.length_append]; show _ + 1 ≤ _; omega
  · show (x.s.P ++ _).length = _; rw [List.length_append]; show _ + 2 = _; omega
  · show (x.m.P ++ _).length = _; rw [List.length_append]; show _ + 1 = _; omega
  · show (x.y.P ++ _).length ≤ _; rw [List.length_append, List.length_map]; omega
theorem Ask.new (h : Ask xx x x') (hz : BoZ x k) : Ans x' xx k := by
  obtain ⟨Ls, cLs, Ly, cLy, Lm, cLm, r1, r2, r3, n1, n2, n3, rfl, P1, P2, P3⟩ := h.ex
  have hs := hz.s
  have hm := hz.m
  refine ⟨r1, r2, r3, n1, n2, n3, ?_, ?_, ?_, fun s hs => List.mem_append.2 (.inr (List.mem_map.2 ⟨s, hs, rfl⟩)), P1, P2, P3⟩
  · show (x.s.P ++ _)[_]? = _; rw [List.getElem?_append_right (by omega), hs, Nat.sub_self]; rfl
  · show (x.s.P ++ _)[_]? = _; rw [List.getElem?_append_right (by omega), hs, Nat.add_sub_cancel_left]; rfl
  · show (x.m.P ++ _)[_]? = _; rw [List.getElem?_append_right (by omega), hm, Nat.sub_self]; rfl
theorem Ask.old (h : Ask xx x x') (ha : Ans x yy i) : Ans x' yy i := by
  obtain ⟨Ls, cLs, Ly, cLy, Lm, cLm, r1, r2, r3, n1, n2, n3, rfl, _⟩ := h.ex
  obtain ⟨q1, q2, q3, m1, m2, m3, h1, h2, h3, h4, h5⟩ := ha.ex
  refine ⟨q1, q2, q3, m1, m2, m3, ?_, ?_, ?_, fun s hs => List.mem_append.2 (.inl (h4 s hs)), h5⟩
  · show (x.s.P ++ _)[_]? = _; rw [List.getElem?_append_left (List.getElem?_eq_some_iff.1 h1).1]; exact h1
  · show (x.s.P ++ _)[_]? = _; rw [List.getElem?_append_left (List.getElem?_eq_some_iff.1 h2).1]; exact h2
  · show (x.m.P ++ _)[_]? = _; rw [List.getElem?_append_left (List.getElem?_eq_some_iff.1 h3).1]; exact h3
end
theorem ask_step {w : World} {base hb N k : Nat} {x : BX} {o : List Value} {xx : Cx} (h : Bo w base hb x o) (hol : o.length = 4) (hz : BoZ x k) (hk : k ≤ 100) (XC : CxAt w N xx) (hN : N ≤ hb) : Calls Try.prog 49 #[.pointer (some ⟨hb, 0, none⟩), .agg (cxA xx)] w fun e w' => e = .returned (.bool true) ∧ Below hb w w' ∧ ∃ x', Ask xx x x' ∧ BoZ x' (k + 1) ∧ Bo w' base hb x' o := by
  have hs := hz.s
  have hm := hz.m
  have hy := hz.y
  refine (asked_any h hol hz.z (by omega) (by omega) (by omega) XC hN).mono ?_
  rintro e w' ⟨rfl, hb', x', hA, B⟩
  exact ⟨rfl, hb', x', hA, hA.z hz hk XC.sd, B⟩
theorem still_step {w : World} {base hb N i : Nat} {x : BX} {o : List Value} {xx : Cx} (h : Bo w base hb x o) (ha : Ans x xx i) (XC : CxAt w N xx) (hN : N ≤ w.heap.size) (hi : i ≤ 1000) :
    Calls Try.prog 50 #[.pointer (some ⟨hb, 0, none⟩), .agg (cxA xx), .int .i64 i] w fun e w' => e = .returned (.bool true) ∧ Below w.heap.size w w' := by
  obtain ⟨q1, q2, q3, m1, m2, m3, h1, h2, h3, h4, h5, h6, h7⟩ := ha.ex
  exact still_any h XC hN hi h1 h2 h3 h4 h5 h6 h7
theorem asIn_none {w : World} {base hb : Nat} {x : BX} (h : Bo w base hb x o0) (hf : x.f.P = []) (hd : x.d.P = []) : AsIn w w.heap.size hb ⟨x.f.L, x.f.cL, [], none, 0, [], x.d.L, x.d.cL, [], none, 0, [], none, 0, [], none, 0, []⟩ := by
  have r6 := h.r 6 _ rfl
  have r8 := h.r 8 _ rfl
  rw [hf] at r6
  rw [hd] at r8
  have hn : ∀ {A : Option Addr}, RowAt w w.heap.size 1 eTr A [] := fun h0 => absurd h0 (Nat.lt_irrefl 0)
  exact ⟨r6, h.r 12 _ rfl, r8, h.r 13 _ rfl, h.r 15 _ rfl, h.r 14 _ rfl, Nat.lt_of_lt_of_le h.hz h.z, hn, hn, hn, hn, hn, hn, rfl, rfl, rfl, Nat.zero_le _, Nat.zero_le _, Nat.zero_le _, fun i s t hs => (by simp at hs), fun i s t hs => (by simp at hs), fun i s t hs => (by simp at hs)⟩
set_option maxRecDepth 100000 in
set_option maxHeartbeats 4000000 in
theorem held_walk (c d : Cx) {w : World} {N : Nat} (hN : N ≤ w.heap.size) (hc : CxAt w N c) (hd : CxAt w N d) : Calls Try.prog 11 #[.agg (cxA c), .agg (cxA d)] w fun e w' => e = .returned (.bool true) ∧ Below w.heap.size w w' := by
  refine calls_vc tab_ok Try.func11 rfl ?_
  conv => whnf
  refine .mk fun wA hwA => ?_
  have hbA : Below w.heap.size w wA := by rw [hwA.out]; exact below_box1 _ _ _
  have zA : wA.heap.size = w.heap.size + 1 := by rw [hwA.out]; simp
  have oA : wA.rangeAt w.heap.size 0 (cxA c).toList := by rw [hwA.out]; exact range_new w (cxA c) 42
  clear hwA
  conv => whnf
  refine .mk fun wB hwB => ?_
  have hbB : Below wA.heap.size wA wB := by rw [hwB.out]; exact below_box1 _ _ _
  have zB : wB.heap.size = w.heap.size + 2 := by rw [hwB.out]; simp [zA]
  have oB : wB.rangeAt wA.heap.size 0 (cxA d).toList := by rw [hwB.out]; exact range_new wA (cxA d) 42
  have oA2 := range_same oA (hbB.block _ (by omega))
  have bB : Below w.heap.size w wB := hbA.trans (hbB.mono (by omega))
  clear hwB oA hbA hbB
  repeat (conv => whnf
          first
          | (refine VCmp.tt (by omega) ?_)
          | (refine VCmp.ff (by omega) ?_)
          | (refine VIn.mk (IntWalk.i64_in _ (by omega)) ?_)
          | (refine VIdx.mk _ rfl (by omega) ?_)
          | (refine VIdx.mk 0 rfl (by omega) ?_))
  try (conv => whnf)
  refine VBuild.mk _ (fun W => bld105 W) ?_
  conv => whnf
  refine .mk fun wC hwC => ?_
  have B0 : Bo wC (wB.heap.size + 1) wB.heap.size bx0 o0 := by rw [hwC.out]; exact bo_new wB
  have bC : Below wB.heap.size wB wC := by rw [hwC.out]; exact (Below.refl _ _).alloc (Nat.le_refl _) _
  clear hwC
  have hx : ∀ W, Below wB.heap.size wB W → CxAt W N c ∧ CxAt W N d ∧ Ld Try.prog 42 w.heap.size 0 (Eq W) (.agg (cxA c)) ∧ Ld Try.prog 42 wA.heap.size 0 (Eq W) (.agg (cxA d)) ∧ Below w.heap.size w W := fun W hW =>
    ⟨hc.below (bB.trans (hW.mono (by omega))) hN, hd.below (bB.trans (hW.mono (by omega))) hN, .of (load_agg (by kernel_rfl) (by kernel_rfl) (range_same oA2 (hW.block _ (by omega)))), .of (load_agg (by kernel_rfl) (by kernel_rfl) (range_same oB (hW.block _ (by omega)))), bB.trans (hW.mono (by omega))⟩
  have hN2 : N ≤ wB.heap.size := by omega
  repeat (conv => whnf
          first
          | (refine VLoad.mk _ (hx wC bC).2.2.1 ?_)
          | (refine VCmp.tt (by omega) ?_)
          | (refine VCmp.ff (by omega) ?_)
          | (refine VIn.mk (IntWalk.i64_in _ (by omega)) ?_)
          | (refine VIdx.mk _ rfl (by omega) ?_)
          | (refine VIdx.mk 0 rfl (by omega) ?_))
  try (conv => whnf)
  refine VCall.mk _ (ask_step B0 rfl boZ0 (by omega) (hx wC bC).1 hN2) ?_
  rintro _ w1 ⟨rfl, b1, x1, A1, Z1, B1⟩
  refine ⟨_, rfl, ?_⟩
  have b1 := bC.trans b1
  repeat (conv => whnf
          first
          | (refine VLoad.mk _ (hx w1 b1).2.2.2.1 ?_)
          | (refine VCmp.tt (by omega) ?_)
          | (refine VCmp.ff (by omega) ?_)
          | (refine VIn.mk (IntWalk.i64_in _ (by omega)) ?_)
          | (refine VIdx.mk _ rfl (by omega) ?_)
          | (refine VIdx.mk 0 rfl (by omega) ?_))
  try (conv => whnf)
  refine VCall.mk _ (ask_step B1 rfl Z1 (by omega) (hx w1 b1).2.1 hN2) ?_
  rintro _ w2 ⟨rfl, b2, x2, A2, Z2, B2⟩
  refine ⟨_, rfl, ?_⟩
  have b2 := b1.trans b2
  repeat (conv => whnf
          first
          | (refine VLoad.mk _ (hx w2 b2).2.2.2.1 ?_)
          | (refine VCmp.tt (by omega) ?_)
          | (refine VCmp.ff (by omega) ?_)
          | (refine VIn.mk (IntWalk.i64_in _ (by omega)) ?_)
          | (refine VIdx.mk _ rfl (by omega) ?_)
          | (refine VIdx.mk 0 rfl (by omega) ?_))
  try (conv => whnf)
  refine VCall.mk _ (ask_step B2 rfl Z2 (by omega) (hx w2 b2).2.1 hN2) ?_
  rintro _ w3 ⟨rfl, b3, x3, A3, Z3, B3⟩
  refine ⟨_, rfl, ?_⟩
  have b3 := b2.trans b3
  repeat (conv => whnf
          first
          | (refine VLoad.mk _ (hx w3 b3).2.2.1 ?_)
          | (refine VCmp.tt (by omega) ?_)
          | (refine VCmp.ff (by omega) ?_)
          | (refine VIn.mk (IntWalk.i64_in _ (by omega)) ?_)
          | (refine VIdx.mk _ rfl (by omega) ?_)
          | (refine VIdx.mk 0 rfl (by omega) ?_))
  try (conv => whnf)
  refine VCall.mk _ (ask_step B3 rfl Z3 (by omega) (hx w3 b3).1 hN2) ?_
  rintro _ w4 ⟨rfl, b4, x4, A4, Z4, B4⟩
  refine ⟨_, rfl, ?_⟩
  have b4 := b3.trans b4
  repeat (conv => whnf
          first
          | (refine VLoad.mk _ (hx w4 b4).2.2.1 ?_)
          | (refine VCmp.tt (by omega) ?_)
          | (refine VCmp.ff (by omega) ?_)
          | (refine VIn.mk (IntWalk.i64_in _ (by omega)) ?_)
          | (refine VIdx.mk _ rfl (by omega) ?_)
          | (refine VIdx.mk 0 rfl (by omega) ?_))
  try (conv => whnf)
  refine VCall.mk _ (ask_step B4 rfl Z4 (by omega) (hx w4 b4).1 hN2) ?_
  rintro _ w5 ⟨rfl, b5, x5, A5, Z5, B5⟩
  refine ⟨_, rfl, ?_⟩
  have b5 := b4.trans b5
  have n0 := A5.old (A4.old (A3.old (A2.old (A1.new boZ0))))
  have n1 := A5.old (A4.old (A3.old (A2.new Z1)))
  have n2 := A5.old (A4.old (A3.new Z2))
  have n3 := A5.old (A4.new Z3)
  have n4 := A5.new Z4
  repeat (conv => whnf
          first
          | (refine VLoad.mk _ (hx w5 b5).2.2.1 ?_)
          | (refine VCmp.tt (by omega) ?_)
          | (refine VCmp.ff (by omega) ?_)
          | (refine VIn.mk (IntWalk.i64_in _ (by omega)) ?_)
          | (refine VIdx.mk _ rfl (by omega) ?_)
          | (refine VIdx.mk 0 rfl (by omega) ?_))
  try (conv => whnf)
  refine VCall.mk _ (still_step B5 n0 (hx w5 b5).1 (by have := b5.size; omega) (by decide)) ?_
  rintro _ w6 ⟨rfl, b6⟩
  refine ⟨_, rfl, ?_⟩
  have B6 := B5.below b6
  have b6 := b5.trans (b6.mono b5.size)
  repeat (conv => whnf
          first
          | (refine VLoad.mk _ (hx w6 b6).2.2.2.1 ?_)
          | (refine VCmp.tt (by omega) ?_)
          | (refine VCmp.ff (by omega) ?_)
          | (refine VIn.mk (IntWalk.i64_in _ (by omega)) ?_)
          | (refine VIdx.mk _ rfl (by omega) ?_)
          | (refine VIdx.mk 0 rfl (by omega) ?_))
  try (conv => whnf)
  refine VCall.mk _ (still_step B6 n1 (hx w6 b6).2.1 (by have := b6.size; omega) (by decide)) ?_
  rintro _ w7 ⟨rfl, b7⟩
  refine ⟨_, rfl, ?_⟩
  have B7 := B6.below b7
  have b7 := b6.trans (b7.mono b6.size)
  repeat (conv => whnf
          first
          | (refine VLoad.mk _ (hx w7 b7).2.2.2.1 ?_)
          | (refine VCmp.tt (by omega) ?_)
          | (refine VCmp.ff (by omega) ?_)
          | (refine VIn.mk (IntWalk.i64_in _ (by omega)) ?_)
          | (refine VIdx.mk _ rfl (by omega) ?_)
          | (refine VIdx.mk 0 rfl (by omega) ?_))
  try (conv => whnf)
  refine VCall.mk _ (still_step B7 n2 (hx w7 b7).2.1 (by have := b7.size; omega) (by decide)) ?_
  rintro _ w8 ⟨rfl, b8⟩
  refine ⟨_, rfl, ?_⟩
  have B8 := B7.below b8
  have b8 := b7.trans (b8.mono b7.size)
  repeat (conv => whnf
          first
          | (refine VLoad.mk _ (hx w8 b8).2.2.1 ?_)
          | (refine VCmp.tt (by omega) ?_)
          | (refine VCmp.ff (by omega) ?_)
          | (refine VIn.mk (IntWalk.i64_in _ (by omega)) ?_)
          | (refine VIdx.mk _ rfl (by omega) ?_)
          | (refine VIdx.mk 0 rfl (by omega) ?_))
  try (conv => whnf)
  refine VCall.mk _ (still_step B8 n3 (hx w8 b8).1 (by have := b8.size; omega) (by decide)) ?_
  rintro _ w9 ⟨rfl, b9⟩
  refine ⟨_, rfl, ?_⟩
  have B9 := B8.below b9
  have b9 := b8.trans (b9.mono b8.size)
  repeat (conv => whnf
          first
          | (refine VLoad.mk _ (hx w9 b9).2.2.1 ?_)
          | (refine VCmp.tt (by omega) ?_)
          | (refine VCmp.ff (by omega) ?_)
          | (refine VIn.mk (IntWalk.i64_in _ (by omega)) ?_)
          | (refine VIdx.mk _ rfl (by omega) ?_)
          | (refine VIdx.mk 0 rfl (by omega) ?_))
  try (conv => whnf)
  refine VCall.mk _ (still_step B9 n4 (hx w9 b9).1 (by have := b9.size; omega) (by decide)) ?_
  rintro _ wa ⟨rfl, ba⟩
  refine ⟨_, rfl, ?_⟩
  have Ba := B9.below ba
  have ba := b9.trans (ba.mono b9.size)
  repeat (conv => whnf
          first
          | (refine VCmp.tt (by omega) ?_)
          | (refine VCmp.ff (by omega) ?_)
          | (refine VIn.mk (IntWalk.i64_in _ (by omega)) ?_)
          | (refine VIdx.mk _ rfl (by omega) ?_)
          | (refine VIdx.mk 0 rfl (by omega) ?_))
  try (conv => whnf)
  refine VCall.mk _ (alone_any (S := bkS x5 wB.heap.size) (bkIn_bkS _ _) (List.mem_cons_self ..) Ba rfl Z5.z (asIn_none Ba Z5.f Z5.d) (Nat.le_refl _)) ?_
  rintro _ wb ⟨rfl, fb⟩
  refine ⟨_, rfl, ?_⟩
  have bb : Below wB.heap.size wB wb := ba.trans (fb.to (fun k hk => (Ba.bks k hk).1) ba.size)
  repeat (conv => whnf
          first
          | (refine VCmp.tt (by omega) ?_)
          | (refine VCmp.ff (by omega) ?_)
          | (refine VIn.mk (IntWalk.i64_in _ (by omega)) ?_)
          | (refine VIdx.mk _ rfl (by omega) ?_)
          | (refine VIdx.mk 0 rfl (by omega) ?_))
  try (conv => whnf)
  refine VBuild.mk _ (fun W => bld105 W) ?_
  conv => whnf
  refine .mk fun wc hwc => ?_
  have C0 : Bo wc (wb.heap.size + 1) wb.heap.size bx0 o0 := by rw [hwc.out]; exact bo_new wb
  have bc0 : Below wb.heap.size wb wc := by rw [hwc.out]; exact (Below.refl _ _).alloc (Nat.le_refl _) _
  clear hwc
  have zb := bb.size
  have bc : Below wB.heap.size wB wc := bb.trans (bc0.mono zb)
  repeat (conv => whnf
          first
          | (refine VLoad.mk _ (hx wc bc).2.2.1 ?_)
          | (refine VCmp.tt (by omega) ?_)
          | (refine VCmp.ff (by omega) ?_)
          | (refine VIn.mk (IntWalk.i64_in _ (by omega)) ?_)
          | (refine VIdx.mk _ rfl (by omega) ?_)
          | (refine VIdx.mk 0 rfl (by omega) ?_))
  try (conv => whnf)
  refine VCall.mk _ (ask_step C0 rfl boZ0 (by omega) (hx wc bc).1 (by omega)) ?_
  rintro _ wd ⟨rfl, e1, y1, A6, Z6, C1⟩
  refine ⟨_, rfl, ?_⟩
  have bd : Below wB.heap.size wB wd := bc.trans (e1.mono zb)
  repeat (conv => whnf
          first
          | (refine VLoad.mk _ (hx wd bd).2.2.2.1 ?_)
          | (refine VCmp.tt (by omega) ?_)
          | (refine VCmp.ff (by omega) ?_)
          | (refine VIn.mk (IntWalk.i64_in _ (by omega)) ?_)
          | (refine VIdx.mk _ rfl (by omega) ?_)
          | (refine VIdx.mk 0 rfl (by omega) ?_))
  try (conv => whnf)
  refine VCall.mk _ (ask_step C1 rfl Z6 (by omega) (hx wd bd).2.1 (by omega)) ?_
  rintro _ we ⟨rfl, e2, y2, A7, Z7, C2⟩
  refine ⟨_, rfl, ?_⟩
  have be : Below wB.heap.size wB we := bd.trans (e2.mono zb)
  repeat (conv => whnf
          first
          | (refine VCmp.tt (by omega) ?_)
          | (refine VCmp.ff (by omega) ?_)
          | (refine VIn.mk (IntWalk.i64_in _ (by omega)) ?_)
          | (refine VIdx.mk _ rfl (by omega) ?_)
          | (refine VIdx.mk 0 rfl (by omega) ?_))
  try (conv => whnf)
  exact .mk ⟨rfl, (hx we be).2.2.2.2⟩
end Go.Proofs.Ytcffhfcjfjfokaa
/- Closes the rows of this seat's statements over one list of contents. -/
namespace Go.Proofs.Ytcffhfcjfjfokaa
open Go.ChangeShapes Go.WideShapes Go.ChangeAt Go.RowKit
section
variable {H : Type} {enc : TypeId × Value → H} {P : Program}
theorem post_of_below {f : Func} {s : ChangeSpec} {apart fresh handsOn again : Bool} {W W' : World} {args : Array Value} {v : Value} {ds gs : List (DataW H)} {before pa pv : List MemPlace}
    (hW : DataW.Whole enc P f.params.toList s.vars apart W args.toList ds gs before)
    (hres : ∀ (b : Nat) (sp : Nat → Bool) (hd : Bool), DataW.TrodAll enc P W' b sp hd f.resultTypes.toList (v.resultList f.resultTypes.size) (s.fn H (ds ++ gs)).results [])
    (hargs : ∀ sp : Nat → Bool, (∀ p ∈ before, sp p.block = true) → DataW.TrodAll enc P W' 0 sp true f.params.toList args.toList (s.fn H (ds ++ gs)).args pa)
    (hvars : ∀ sp : Nat → Bool, (∀ p ∈ before, sp p.block = true) → DataW.TrodVars enc P W' sp s.vars (s.fn H (ds ++ gs)).vars pv)
    (hps : before = pa ++ pv) (hb : Below W.heap.size W W')
    (hok : ∀ (j : Nat) (t : TypeId) (r : Value), f.resultTypes[j]? = some t → (v.resultList f.resultTypes.size)[j]? = some r → Value.okWide P W' .any 0 t r) :
    s.post enc P f apart fresh handsOn again W args v W' := by
  have hlt : ∀ p ∈ before, p.block < W.heap.size := fun p hp => hW.lt p hp
  have hold : ∀ p ∈ before, (fun b => decide (b < W.heap.size)) p.block = true := fun p hp => by simpa using hlt p hp
  refine ⟨ds, gs, before, [], pa, pv, hW, hres _ _ _, hargs _ hold, hvars _ hold, World.keptBut_mono (fun p hp => ⟨hp, ?_⟩) (hb.frame (· ∈ before)), fun _ => ?_⟩
  · rw [hps, List.mem_append] at hp
    exact Or.inr hp
  · obtain ⟨_, _, _, _, _, hz, hn⟩ := hW
    refine ⟨hok, _, _, ([] ++ pa) ++ pv, ⟨[] ++ pa, pv, trodAll_append (hargs _ (fun _ _ => rfl)) (hres _ _ _), hvars _ (fun _ _ => rfl), rfl, ?_, ?_⟩, ?_⟩
    · intro b off hp
      have hin : MemPlace.cell b off ∈ before := by rw [hps]; simpa using hp
      rw [hb.frozen (hlt _ hin)]
      exact hz b off hin
    · intro ha
      have := hn ha
      rw [hps] at this
      simpa using this
    · intro p hp _
      rw [hps]
      simpa using hp
end

theorem own : ownKnob Try.prog.godebug = none := by kernel_rfl
theorem laidOut : laidOutB Try.prog = true := by kernel_rfl
theorem readable22 : Try.prog.readableRec 22 = true := by kernel_rfl
theorem row22 : 22 < Try.prog.types.size := of_decide_eq_true (by kernel_rfl)
/-- A list of contents that came in, of bulk at most 1048576. -/
theorem came22 {H : Type} {enc : TypeId × Value → H} {W : World} {sp : Nat → Bool} {v : Value} {d : DataW H} {p : List MemPlace} (hv : Value.okWide Try.prog W .any 0 22 v ∨ ∃ a len cap, v = .slice a len cap)
    (h : DataW.Trod enc Try.prog W 0 sp true 22 v d p) (hk : Rows.uptoBulk d ≤ 1048576) :
    ∃ (A : Option Addr) (fs : List Fl) (c : Nat), v = .slice A fs.length c ∧ Fls W W.heap.size A fs ∧ Small fs := by
  obtain ⟨a, len, cap, rfl⟩ : ∃ a len cap, v = .slice a len cap := hv.elim (okWide_slice Try.underlying22) id
  obtain ⟨fuel, h⟩ := h
  obtain ⟨A, fs, c, e, h1, _, _, h4, h5⟩ := open22 (x := (d, p)) h
  exact ⟨A, fs, c, e, h1, Nat.le_trans h4 hk, fun f hf => ⟨Nat.le_trans (h5 f hf).1 hk, Nat.le_trans (h5 f hf).2 hk⟩⟩
end Go.Proofs.Ytcffhfcjfjfokaa
