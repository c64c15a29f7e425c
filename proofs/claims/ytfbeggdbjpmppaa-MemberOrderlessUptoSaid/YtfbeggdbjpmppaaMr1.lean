/- Solo SightIs Holds RisLaw RisStep, joined. -/
import Derived.Test.YtfbeggdbjpmppaaMw4
import Derived.Test.YtfbeggdbjpmppaaMw11
import Derived.Test.YtfbeggdbjpmppaaMw14
import Derived.Test.YtfbeggdbjpmppaaMw20
set_option linter.unusedVariables false
set_option linter.unusedSimpArgs false
/- One agent by itself, and the law's call. -/
namespace Go.Proofs.Ytfbeggdbjpmppaa
open Go.RowKit
/-- The program's agent at block a in state s; the blocks of F are nobody's row of members. -/
structure Solo (w0 : World) (a : Nat) (F : List Nat) (s : St) (M : Option Addr) (cM : Nat) (w : World) : Prop where
  ag : AgAt w a s M cM
  rM : RowF w F 3 eMb M s.mem
  aF : a ∈ F
  lo : ∀ x ∈ F, w0.heap.size ≤ x
  hi : ∀ x ∈ F, x < w.heap.size
  inv : Inv s
  rinv : RInv s
  bel : Below w0.heap.size w0 w
section
variable {w0 w w' : World} {a : Nat} {F : List Nat} {s s' : St} {M : Option Addr} {cM : Nat}
theorem Solo.below (h : Solo w0 a F s M cM w) (hb : Below w.heap.size w w') : Solo w0 a F s M cM w' :=
  ⟨h.ag.same (hb.block a (h.hi a h.aF)), h.rM.below hb, h.aF, h.lo, fun x hx => Nat.lt_of_lt_of_le (h.hi x hx) hb.size, h.inv, h.rinv, h.bel.trans (hb.mono (by have := h.bel.size; omega))⟩
theorem Solo.add (h : Solo w0 a F s M cM w) (hb : Below w.heap.size w w') {g : Nat} (hg1 : w.heap.size ≤ g) (hg2 : g < w'.heap.size) : Solo w0 a (g :: F) s M cM w' := by
  have hz := h.bel.size
  have h2 : ∀ x ∈ g :: F, x ∈ F ∨ w.heap.size ≤ x := fun x hx => (List.mem_cons.1 hx).elim (fun e => .inr (by omega)) .inl
  refine ⟨h.ag.same (hb.block a (h.hi a h.aF)), (h.rM.more h2).below hb, List.mem_cons_of_mem _ h.aF, fun x hx => ?_, fun x hx => ?_, h.inv, h.rinv, h.bel.trans (hb.mono (by omega))⟩
  · rcases List.mem_cons.1 hx with e | e
    · omega
    · exact h.lo x e
  · rcases List.mem_cons.1 hx with e | e
    · omega
    · exact Nat.lt_of_lt_of_le (h.hi x e) hb.size
theorem Solo.prog (h : Solo w0 a F s M cM w) (hl : Left w w' a s' M cM) (hm : s'.mem = s.mem) (hi : Inv s') (hr : RInv s') : Solo w0 a F s' M cM w' := by
  have h1 := h.aF
  have hg := hl.grown
  exact ⟨hl.at_, by rw [hm]; exact h.rM.keep hg.size (fun k hk hn => hg.block k hk (by intro e; injection e with e; subst e; exact hn h1)), h.aF, h.lo, fun y hy => Nat.lt_of_lt_of_le (h.hi y hy) hg.size, hi, hr, grown_bel h.bel hg (h.lo a h1)⟩
theorem Solo.progM (h : Solo w0 a F s M cM w) {M' : Option Addr} {cM' : Nat} (hl : Left w w' a s' M' cM') (hm : RowN w' w.heap.size 3 eMb M' s'.mem) (hi : Inv s') (hr : RInv s') : Solo w0 a F s' M' cM' w' := by
  have hg := hl.grown
  exact ⟨hl.at_, hm.away (fun x hx => h.hi x hx), h.aF, h.lo, fun y hy => Nat.lt_of_lt_of_le (h.hi y hy) hg.size, hi, hr, grown_bel h.bel hg (h.lo a h.aF)⟩
end
/-- What call does, other than an install. -/
def callS (o : OpD) (s : St) : Int × St := if o.k = 1 then ((s.estimate o.ls).2.1, (s.estimate o.ls).2.2) else if o.k = 2 then ((s.take o.q o.i o.p).2.1, (s.take o.q o.i o.p).2.2) else (0, s)
set_option maxRecDepth 100000 in
set_option maxHeartbeats 4000000 in
theorem call_any (w0 : World) (a : Nat) (F : List Nat) (s : St) (M : Option Addr) (cM : Nat) (o : OpD) (P : OpP) (w : World) (h : Solo w0 a F s M cM w) (ho : OpAt w0 w0.heap.size o P) (h5 : o.k ≠ 5) :
    Calls Try.prog 32 #[.pointer (some ⟨a, 0, none⟩), .agg (opA o P)] w fun x w' => x = .returned (.int .i64 (callS o s).1) ∧ Left w w' a (callS o s).2 M cM := by
  obtain ⟨wA, hwA⟩ : ∃ wA, wA = w.alloc (.cells (opA o P) 71) := ⟨_, rfl⟩
  have hbA : Below w.heap.size w wA := by rw [hwA]; exact below_box1 _ _ _
  have zA : w.heap.size < wA.heap.size := by rw [hwA]; simp
  have oA : wA.rangeAt w.heap.size 0 (opA o P).toList := by rw [hwA]; exact range_new w (opA o P) 71
  obtain ⟨v, hv⟩ : ∃ v, v = w.heap.size := ⟨_, rfl⟩
  have DA := h.below hbA
  rw [← hv] at oA
  have c0 : wA.cell? ⟨v, 0, none⟩ = some (.int .i64 o.k) := oA 0 _ rfl
  have hx : ∀ W, Below w0.heap.size w0 W → OpAt W w0.heap.size o P ∧ w0.heap.size ≤ W.heap.size := fun W hW => ⟨ho.below hW, hW.size⟩
  have hL := Left.below h.ag (h.hi a h.aF) hbA
  have hLt : ∀ (t : St) (w2 : World), Left wA w2 a t M cM → Left w w2 a t M cM := fun t w2 hl => ⟨hl.at_, hL.grown.trans hl.grown⟩
  replace hLt := Lib.hid hLt
  replace hL := Lib.hid hL
  replace hx := Lib.hid hx
  replace hwA := Lib.hid hwA
  replace hv := Lib.hid hv
  replace DA := Lib.hid DA
  replace oA := Lib.hid oA
  replace h := Lib.hid h
  clear ho hbA
  have b5 : (o.k == 5) = false := by simp [h5]
  replace h5 := Lib.hid h5
  by_cases k1 : o.k = 1
  · have b1 : (o.k == 1) = true := by simp [k1]
    have e : callS o s = ((s.estimate o.ls).2.1, (s.estimate o.ls).2.2) := if_pos k1
    rw [e]
    replace e := Lib.hid e
    replace k1 := Lib.hid k1
    have k3 : wA.cell? ⟨v, 3, none⟩ = some (.slice P.A o.ls.length P.cA) := oA.out 3 _ rfl
    go_enter Try.func32, Try.ntmps32
    go_wp2_with fail
    rw [← hwA.out, ← hv.out]
    go_wp2_with (first
      | (go_at_call 37
         refine (estimate_any' a s M cM P.A P.cA w0.heap.size o.ls.length o.ls wA rfl DA.out.ag (DA.out.hi a DA.out.aF) DA.out.inv (hx.out _ DA.out.bel).2 (hx.out _ DA.out.bel).1.a (by have := (hx.out _ DA.out.bel).1.la; omega)).mono ?_
         rintro e w2 ⟨rfl, hl2⟩
         replace hl2 := Lib.hid hl2)
      | fail)
    go_ret
    exact ⟨rfl, hLt.out _ _ hl2.out⟩
  · have b1 : (o.k == 1) = false := by simp [k1]
    by_cases k2 : o.k = 2
    · have b2 : (o.k == 2) = true := by simp [k2]
      have e : callS o s = ((s.take o.q o.i o.p).2.1, (s.take o.q o.i o.p).2.2) := (if_neg k1).trans (if_pos k2)
      rw [e]
      replace e := Lib.hid e
      replace k1 := Lib.hid k1
      replace k2 := Lib.hid k2
      have k1' : wA.cell? ⟨v, 1, none⟩ = some (.int .i64 o.q) := oA.out 1 _ rfl
      have k2' : wA.cell? ⟨v, 2, none⟩ = some (.int .i64 o.i) := oA.out 2 _ rfl
      have k4 : wA.cell? ⟨v, 4, none⟩ = some (.slice P.S o.p.set.length P.cS) := oA.out 4 _ rfl
      have k5 : wA.cell? ⟨v, 5, none⟩ = some (.int .i64 o.p.cid) := oA.out 5 _ rfl
      have k6 : wA.cell? ⟨v, 6, none⟩ = some (.int .i64 o.p.rev) := oA.out 6 _ rfl
      have k7 : wA.cell? ⟨v, 7, none⟩ = some (.int .i64 o.p.top) := oA.out 7 _ rfl
      have k8 : wA.cell? ⟨v, 8, none⟩ = some (.int .i64 o.p.prev.e) := oA.out 8 _ rfl
      have k9 : wA.cell? ⟨v, 9, none⟩ = some (.int .i64 o.p.prev.l) := oA.out 9 _ rfl
      have k10 : wA.cell? ⟨v, 10, none⟩ = some (.int .i64 o.p.prev.i) := oA.out 10 _ rfl
      have k11 : wA.cell? ⟨v, 11, none⟩ = some (.int .i64 o.p.prev.c) := oA.out 11 _ rfl
      have k12 : wA.cell? ⟨v, 12, none⟩ = some (.slice P.V o.p.vec.length P.cV) := oA.out 12 _ rfl
      go_enter Try.func32, Try.ntmps32
      go_wp2_with fail
      rw [← hwA.out, ← hv.out]
      go_wp2_with (first
        | (go_at_call 36
           refine (take_any a s M cM P.S P.V P.cS P.cV w0.heap.size o.p o.q o.i wA DA.out.ag (DA.out.hi a DA.out.aF) DA.out.inv (hx.out _ DA.out.bel).2 (hx.out _ DA.out.bel).1.s (hx.out _ DA.out.bel).1.v (by have := (hx.out _ DA.out.bel).1.lS; omega) (by have := (hx.out _ DA.out.bel).1.lv; omega) (fun W hW => (DA.out.rM.keep hW.size (fun k hk hn => hW.block k hk (by intro e; injection e with e; subst e; exact hn DA.out.aF))).row) DA.out.rinv.len).mono ?_
           rintro e w2 ⟨rfl, hl2⟩
           replace hl2 := Lib.hid hl2)
        | fail)
      go_ret
      exact ⟨rfl, hLt.out _ _ hl2.out⟩
    · have b2 : (o.k == 2) = false := by simp [k2]
      have e : callS o s = (0, s) := (if_neg k1).trans (if_neg k2)
      rw [e]
      replace e := Lib.hid e
      replace k1 := Lib.hid k1
      replace k2 := Lib.hid k2
      go_enter Try.func32, Try.ntmps32
      go_wp2_with fail
      rw [← hwA.out, ← hv.out]
      go_wp2
      go_ret
      exact ⟨rfl, hL.out⟩
end Go.Proofs.Ytfbeggdbjpmppaa
/- The law's sight.is: two looks at one state are alike. -/
namespace Go.Proofs.Ytfbeggdbjpmppaa
open Go.RowKit
/-- A sight's content. -/
structure Si where
  p : Pr
  ls : List Int
  lv : List Int
  v : Vid
  ms : List Mb
  u : Vid
  us : List Mb
  ts : List Int
  ok : Bool
  opn : Bool
/-- Where its lists lie. -/
structure SiP where
  S : Option Addr
  cS : Nat
  V : Option Addr
  cV : Nat
  A : Option Addr
  cA : Nat
  B : Option Addr
  cB : Nat
  T : Option Addr
  cT : Nat
abbrev siA (x : Si) (P : SiP) : Array Value := #[.slice P.S x.ls.length P.cS, .int .i64 x.p.cid, .int .i64 x.p.rev, .int .i64 x.p.top, .int .i64 x.p.prev.e, .int .i64 x.p.prev.l, .int .i64 x.p.prev.i, .int .i64 x.p.prev.c, .slice P.V x.lv.length P.cV,
  .int .i64 x.v.e, .int .i64 x.v.l, .int .i64 x.v.i, .int .i64 x.v.c, .slice P.A x.ms.length P.cA,
  .int .i64 x.u.e, .int .i64 x.u.l, .int .i64 x.u.i, .int .i64 x.u.c, .slice P.B x.us.length P.cB, .slice P.T x.ts.length P.cT, .bool x.ok, .bool x.opn]
structure SiAt (w : World) (N : Nat) (x : Si) (P : SiP) : Prop where
  S : RowAt w N 1 eInt P.S x.ls
  V : RowAt w N 1 eInt P.V x.lv
  A : RowAt w N 3 eMb P.A x.ms
  B : RowAt w N 3 eMb P.B x.us
  T : RowAt w N 1 eInt P.T x.ts
  lS : x.ls.length ≤ 2000000
  lV : x.lv.length ≤ 2000000
  lA : x.ms.length ≤ 2000000
  lB : x.us.length ≤ 2000000
  lT : x.ts.length ≤ 2000000
theorem SiAt.below {w w' : World} {N : Nat} {x : Si} {P : SiP} (h : SiAt w N x P) (hb : Below N w w') : SiAt w' N x P :=
  ⟨h.S.below hb (Nat.le_refl _), h.V.below hb (Nat.le_refl _), h.A.below hb (Nat.le_refl _), h.B.below hb (Nat.le_refl _), h.T.below hb (Nat.le_refl _), h.lS, h.lV, h.lA, h.lB, h.lT⟩
set_option maxRecDepth 100000 in
set_option maxHeartbeats 4000000 in
theorem is_same (x : Si) (P Q : SiP) (N : Nat) (w : World) (hN : N ≤ w.heap.size) (hP : SiAt w N x P) (hQ : SiAt w N x Q) :
    Calls Try.prog 35 #[.agg (siA x P), .agg (siA x Q)] w fun r w' => r = .returned (.bool true) ∧ Below w.heap.size w w' := by
  obtain ⟨wA, hwA⟩ : ∃ wA, wA = (w.alloc (.cells (siA x P) 76)).alloc (.cells (siA x Q) 76) := ⟨_, rfl⟩
  have hbA : Below w.heap.size w wA := by rw [hwA]; exact below_box2 _ _ _ _ _
  have zA : wA.heap.size = w.heap.size + 2 := by rw [hwA]; simp
  have oA : wA.rangeAt w.heap.size 0 (siA x P).toList := by rw [hwA]; exact range_same (range_new w (siA x P) 76) (heap_alloc_old _ _ (by simp))
  have oB : wA.rangeAt (w.heap.size + 1) 0 (siA x Q).toList := by
    have := range_new (w.alloc (.cells (siA x P) 76)) (siA x Q) 76
    rw [hwA]; rw [World.size_alloc] at this; exact this
  have hx : ∀ W, Below w.heap.size w W → SiAt W N x P ∧ SiAt W N x Q ∧ N ≤ W.heap.size := fun W hW => ⟨hP.below (hW.mono hN), hQ.below (hW.mono hN), Nat.le_trans hN hW.size⟩
  have e1 := prSame_refl x.p x.ls x.lv
  have e2 := viSame_refl x.v x.ms
  have e3 := viSame_refl x.u x.us
  obtain ⟨g, hg⟩ : ∃ g, g = w.heap.size := ⟨_, rfl⟩
  rw [← hg] at oA oB
  have a0 : wA.cell? ⟨g, 0, none⟩ = some (.slice P.S x.ls.length P.cS) := oA 0 _ rfl
  have a1 : wA.cell? ⟨g, 1, none⟩ = some (.int .i64 x.p.cid) := oA 1 _ rfl
  have a2 : wA.cell? ⟨g, 2, none⟩ = some (.int .i64 x.p.rev) := oA 2 _ rfl
  have a3 : wA.cell? ⟨g, 3, none⟩ = some (.int .i64 x.p.top) := oA 3 _ rfl
  have a4 : wA.cell? ⟨g, 4, none⟩ = some (.int .i64 x.p.prev.e) := oA 4 _ rfl
  have a5 : wA.cell? ⟨g, 5, none⟩ = some (.int .i64 x.p.prev.l) := oA 5 _ rfl
  have a6 : wA.cell? ⟨g, 6, none⟩ = some (.int .i64 x.p.prev.i) := oA 6 _ rfl
  have a7 : wA.cell? ⟨g, 7, none⟩ = some (.int .i64 x.p.prev.c) := oA 7 _ rfl
  have a8 : wA.cell? ⟨g, 8, none⟩ = some (.slice P.V x.lv.length P.cV) := oA 8 _ rfl
  have b0 : wA.cell? ⟨g + 1, 0, none⟩ = some (.slice Q.S x.ls.length Q.cS) := oB 0 _ rfl
  have b1 : wA.cell? ⟨g + 1, 1, none⟩ = some (.int .i64 x.p.cid) := oB 1 _ rfl
  have b2 : wA.cell? ⟨g + 1, 2, none⟩ = some (.int .i64 x.p.rev) := oB 2 _ rfl
  have b3 : wA.cell? ⟨g + 1, 3, none⟩ = some (.int .i64 x.p.top) := oB 3 _ rfl
  have b4 : wA.cell? ⟨g + 1, 4, none⟩ = some (.int .i64 x.p.prev.e) := oB 4 _ rfl
  have b5 : wA.cell? ⟨g + 1, 5, none⟩ = some (.int .i64 x.p.prev.l) := oB 5 _ rfl
  have b6 : wA.cell? ⟨g + 1, 6, none⟩ = some (.int .i64 x.p.prev.i) := oB 6 _ rfl
  have b7 : wA.cell? ⟨g + 1, 7, none⟩ = some (.int .i64 x.p.prev.c) := oB 7 _ rfl
  have b8 : wA.cell? ⟨g + 1, 8, none⟩ = some (.slice Q.V x.lv.length Q.cV) := oB 8 _ rfl
  have hgz : g + 2 = wA.heap.size := by omega
  replace hbA := Lib.hid hbA
  replace oA := Lib.hid oA
  replace oB := Lib.hid oB
  replace hwA := Lib.hid hwA
  replace hg := Lib.hid hg
  replace hx := Lib.hid hx
  replace e1 := Lib.hid e1
  replace e2 := Lib.hid e2
  replace e3 := Lib.hid e3
  clear hP hQ
  have tok1 : True := trivial
  go_enter Try.func35, Try.ntmps35
  go_wp2_with fail
  rw [← hwA.out, ← hg.out]
  go_wp2_with (first
    | (go_at_call 33
       refine (proposals_any P.S P.V Q.S Q.V P.cS P.cV Q.cS Q.cV N x.ls.length x.lv.length x.ls.length x.lv.length x.p x.p x.ls x.lv x.ls x.lv wA rfl rfl rfl rfl (hx.out _ hbA.out).2.2 (hx.out _ hbA.out).1.S (hx.out _ hbA.out).1.V (hx.out _ hbA.out).2.1.S (hx.out _ hbA.out).2.1.V (by have := (hx.out _ hbA.out).1.lS; omega) (by have := (hx.out _ hbA.out).1.lV; omega) (by have := (hx.out _ hbA.out).1.lS; omega) (by have := (hx.out _ hbA.out).1.lV; omega)).mono ?_
       rintro e w1 ⟨rfl, hb1⟩
       rw [e1.out]
       have z1 := hb1.size
       have bw1 := Lib.hid (hbA.out.trans (hb1.mono (by have := hbA.out.size; omega)))
       have oA1 := Lib.hid (range_same oA.out (hb1.block g (by omega)))
       have oB1 := Lib.hid (range_same oB.out (hb1.block (g + 1) (by omega)))
       clear a0 a1 a2 a3 a4 a5 a6 a7 a8 b0 b1 b2 b3 b4 b5 b6 b7 b8 hb1
       have a0 : w1.cell? ⟨g, 9, none⟩ = some (.int .i64 x.v.e) := oA1.out 9 _ rfl
       have a1 : w1.cell? ⟨g, 10, none⟩ = some (.int .i64 x.v.l) := oA1.out 10 _ rfl
       have a2 : w1.cell? ⟨g, 11, none⟩ = some (.int .i64 x.v.i) := oA1.out 11 _ rfl
       have a3 : w1.cell? ⟨g, 12, none⟩ = some (.int .i64 x.v.c) := oA1.out 12 _ rfl
       have a4 : w1.cell? ⟨g, 13, none⟩ = some (.slice P.A x.ms.length P.cA) := oA1.out 13 _ rfl
       have b0 : w1.cell? ⟨g + 1, 9, none⟩ = some (.int .i64 x.v.e) := oB1.out 9 _ rfl
       have b1 : w1.cell? ⟨g + 1, 10, none⟩ = some (.int .i64 x.v.l) := oB1.out 10 _ rfl
       have b2 : w1.cell? ⟨g + 1, 11, none⟩ = some (.int .i64 x.v.i) := oB1.out 11 _ rfl
       have b3 : w1.cell? ⟨g + 1, 12, none⟩ = some (.int .i64 x.v.c) := oB1.out 12 _ rfl
       have b4 : w1.cell? ⟨g + 1, 13, none⟩ = some (.slice Q.A x.ms.length Q.cA) := oB1.out 13 _ rfl)
    | fail)
  go_wp2_with (first
    | (have tok2 := tok1
       clear tok1 tok2
       go_at_call 21
       refine (views_any x.v x.v P.A Q.A P.cA Q.cA N x.ms.length x.ms.length x.ms x.ms w1 rfl rfl (hx.out _ bw1.out).2.2 (hx.out _ bw1.out).1.A (hx.out _ bw1.out).2.1.A (by have := (hx.out _ bw1.out).1.lA; omega) (by have := (hx.out _ bw1.out).1.lA; omega)).mono ?_
       rintro e w2 ⟨rfl, hb2⟩
       rw [e2.out]
       have z2 := hb2.size
       have bw2 := Lib.hid (bw1.out.trans (hb2.mono (by have := bw1.out.size; omega)))
       have oA2 := Lib.hid (range_same oA1.out (hb2.block g (by omega)))
       have oB2 := Lib.hid (range_same oB1.out (hb2.block (g + 1) (by omega)))
       clear a0 a1 a2 a3 a4 b0 b1 b2 b3 b4 hb2
       have a0 : w2.cell? ⟨g, 14, none⟩ = some (.int .i64 x.u.e) := oA2.out 14 _ rfl
       have a1 : w2.cell? ⟨g, 15, none⟩ = some (.int .i64 x.u.l) := oA2.out 15 _ rfl
       have a2 : w2.cell? ⟨g, 16, none⟩ = some (.int .i64 x.u.i) := oA2.out 16 _ rfl
       have a3 : w2.cell? ⟨g, 17, none⟩ = some (.int .i64 x.u.c) := oA2.out 17 _ rfl
       have a4 : w2.cell? ⟨g, 18, none⟩ = some (.slice P.B x.us.length P.cB) := oA2.out 18 _ rfl
       have b0 : w2.cell? ⟨g + 1, 14, none⟩ = some (.int .i64 x.u.e) := oB2.out 14 _ rfl
       have b1 : w2.cell? ⟨g + 1, 15, none⟩ = some (.int .i64 x.u.l) := oB2.out 15 _ rfl
       have b2 : w2.cell? ⟨g + 1, 16, none⟩ = some (.int .i64 x.u.i) := oB2.out 16 _ rfl
       have b3 : w2.cell? ⟨g + 1, 17, none⟩ = some (.int .i64 x.u.c) := oB2.out 17 _ rfl
       have b4 : w2.cell? ⟨g + 1, 18, none⟩ = some (.slice Q.B x.us.length Q.cB) := oB2.out 18 _ rfl)
    | fail)
  go_wp2_with (first
    | (go_at_call 21
       refine (views_any x.u x.u P.B Q.B P.cB Q.cB N x.us.length x.us.length x.us x.us w2 rfl rfl (hx.out _ bw2.out).2.2 (hx.out _ bw2.out).1.B (hx.out _ bw2.out).2.1.B (by have := (hx.out _ bw2.out).1.lB; omega) (by have := (hx.out _ bw2.out).1.lB; omega)).mono ?_
       rintro e w3 ⟨rfl, hb3⟩
       rw [e3.out]
       have z3 := hb3.size
       have bw3 := Lib.hid (bw2.out.trans (hb3.mono (by have := bw2.out.size; omega)))
       have oA3 := Lib.hid (range_same oA2.out (hb3.block g (by omega)))
       have oB3 := Lib.hid (range_same oB2.out (hb3.block (g + 1) (by omega)))
       clear a0 a1 a2 a3 a4 b0 b1 b2 b3 b4 hb3
       have a0 : w3.cell? ⟨g, 19, none⟩ = some (.slice P.T x.ts.length P.cT) := oA3.out 19 _ rfl
       have b0 : w3.cell? ⟨g + 1, 19, none⟩ = some (.slice Q.T x.ts.length Q.cT) := oB3.out 19 _ rfl)
    | fail)
  go_wp2_with (first
    | (go_at_call 23
       refine (lints_two P.T Q.T P.cT Q.cT N x.ts x.ts x.ts.length x.ts.length w3 rfl rfl (hx.out _ bw3.out).2.2 (hx.out _ bw3.out).1.T (hx.out _ bw3.out).2.1.T (by have := (hx.out _ bw3.out).1.lT; omega) (by have := (hx.out _ bw3.out).1.lT; omega)).mono ?_
       rintro e w4 ⟨rfl, hb4⟩
       rw [decide_eq_true (show x.ts = x.ts from rfl)]
       have z4 := hb4.size
       have bw4 := Lib.hid (bw3.out.trans (hb4.mono (by have := bw3.out.size; omega)))
       have oA4 := Lib.hid (range_same oA3.out (hb4.block g (by omega)))
       have oB4 := Lib.hid (range_same oB3.out (hb4.block (g + 1) (by omega)))
       clear a0 b0 hb4
       have a0 : w4.cell? ⟨g, 20, none⟩ = some (.bool x.ok) := oA4.out 20 _ rfl
       have a1 : w4.cell? ⟨g, 21, none⟩ = some (.bool x.opn) := oA4.out 21 _ rfl
       have b0 : w4.cell? ⟨g + 1, 20, none⟩ = some (.bool x.ok) := oB4.out 20 _ rfl
       have b1 : w4.cell? ⟨g + 1, 21, none⟩ = some (.bool x.opn) := oB4.out 21 _ rfl)
    | fail)
  go_ret
  exact ⟨ret_bool (by simp), bw4.out⟩
end Go.Proofs.Ytfbeggdbjpmppaa
/- The law's holds: a node's Cid in a view. -/
namespace Go.Proofs.Ytfbeggdbjpmppaa
open Go.RowKit
def holdsI (ms : List Mb) (p i : Int) : Int := match ms.find? (fun m => decide (m.p = p ∧ m.i = i)) with
  | some m => m.c
  | none => 0
theorem holds_hit {ms : List Mb} {p i : Int} {k : Nat} {m : Mb} (h : upto (fun y => decide (y.p = p ∧ y.i = i) = false) ms k) (hm : ms[k]? = some m) (hp : m.p = p) (hi : m.i = i) : holdsI ms p i = m.c := by
  unfold holdsI; rw [find_here h hm (decide_eq_true ⟨hp, hi⟩)]
theorem holds_none {ms : List Mb} {p i : Int} {k : Nat} (h : upto (fun y => decide (y.p = p ∧ y.i = i) = false) ms k) (hk : ms.length ≤ k) : holdsI ms p i = 0 := by
  unfold holdsI
  rw [List.find?_eq_none.2 (fun x hx => by rw [upto_all h hk x hx]; decide)]
set_option maxRecDepth 100000 in
set_option maxHeartbeats 4000000 in
theorem holds_any (v : Vid) (A : Option Addr) (c N n : Nat) (ms : List Mb) (p i : Int) (w : World) (hn : ms.length = n) (hN : N ≤ w.heap.size) (hA : RowAt w N 3 eMb A ms) (l1 : n ≤ 9223372036854775807) :
    Calls Try.prog 28 #[.agg (viewA v A n c), .int .i64 p, .int .i64 i] w fun x w' => x = .returned (.int .i64 (holdsI ms p i)) ∧ Below w.heap.size w w' := by
  obtain ⟨w2, hw2⟩ : ∃ w2, w2 = w.alloc (.cells (viewA v A n c) 46) := ⟨_, rfl⟩
  have hb2 : Below w.heap.size w w2 := by rw [hw2]; exact below_box1 _ _ _
  have z2 : w2.heap.size = w.heap.size + 1 := by rw [hw2]; simp
  have v2 : ViAt w2 w.heap.size v A n c := by rw [hw2]; exact ViAt.new w v A n c 46
  obtain ⟨g0, hg0⟩ : ∃ g0, g0 = w.heap.size := ⟨_, rfl⟩
  rw [← hg0] at v2
  have k0 := v2.cm
  replace v2 := Lib.hid v2
  replace hb2 := Lib.hid hb2
  replace hw2 := Lib.hid hw2
  replace hn := Lib.hid hn
  replace hg0 := Lib.hid hg0
  go_enter Try.func28, Try.ntmps28
  go_wp2_with fail
  rw [← hw2.out, ← hg0.out]
  go_wp2_with fail
  go_loopw [7] (fun k wr => ∃ q : Nat, k = .int .i64 (q : Int) ∧ q ≤ n ∧ upto (fun y => decide (y.p = p ∧ y.i = i) = false) ms q ∧ Below w2.heap.size w2 wr) (fun k _ => n - (intOf k).toNat)
  case atStart => exact ⟨0, rfl, by omega, upto_zero _ _, Below.refl _ _⟩
  case round =>
    obtain ⟨q, rfl, hq, hup, hb⟩ := hrel
    have hzr := hb.size
    have vr := v2.out.same (hb.block _ (by have := hg0.out; omega))
    have br := Lib.hid (hb2.out.trans (hb.mono (by omega)))
    have c4 := vr.cm
    clear k0
    replace hup := Lib.hid hup
    replace vr := Lib.hid vr
    replace hb := Lib.hid hb
    by_cases hlt : q < n
    · obtain ⟨g, o, m, hAe, hg, hm, x0, x1, x2⟩ := (hA.below br.out hN).mb (show q < ms.length by rw [hn.out]; exact hlt)
      rw [hAe] at c4
      by_cases hp : m.p = p
      · have e1 : (m.p == p) = true := by simp [hp]
        by_cases hi : m.i = i
        · have e2 : (m.i == i) = true := by simp [hi]
          have hL := Lib.hid (holds_hit hup.out hm.out hp hi)
          replace hp := Lib.hid hp
          replace hi := Lib.hid hi
          go_wp2
          go_ret
          exact ⟨by rw [hL.out]; rfl, br.out⟩
        · have e2 : (m.i == i) = false := by simp [hi]
          have hup' := Lib.hid (upto_succ hup.out (fun z hz => by rw [hm.out] at hz; cases hz; exact decide_eq_false (fun e => hi e.2)))
          replace hp := Lib.hid hp
          replace hi := Lib.hid hi
          go_wp2
          go_roundw
          case rel => go_light; exact ⟨q + 1, by go_num, by omega, hup'.out, hb.out⟩
          case measure => go_light; simp [intOf]; omega
      · have e1 : (m.p == p) = false := by simp [hp]
        have hup' := Lib.hid (upto_succ hup.out (fun z hz => by rw [hm.out] at hz; cases hz; exact decide_eq_false (fun e => hp e.1)))
        replace hp := Lib.hid hp
        go_wp2
        go_roundw
        case rel => go_light; exact ⟨q + 1, by go_num, by omega, hup'.out, hb.out⟩
        case measure => go_light; simp [intOf]; omega
    · have hL := Lib.hid (holds_none hup.out (by have := hn.out; omega))
      go_wp2
      go_ret
      exact ⟨by rw [hL.out]; rfl, br.out⟩
end Go.Proofs.Ytfbeggdbjpmppaa
/- Layer 6: how an agent's numbers rise. No program in sight. -/
namespace Go.Proofs.Ytfbeggdbjpmppaa
theorem holds_of {ms : List Mb} {m : Mb} (hr : ∀ (i j : Nat) (x y : Mb), ms[i]? = some x → ms[j]? = some y → x.p = y.p → i = j) (hm : m ∈ ms) : holdsI ms m.p m.i = m.c := by
  obtain ⟨k, hk⟩ := List.mem_iff_getElem?.1 hm
  unfold holdsI
  have hf : ms.find? (fun x => decide (x.p = m.p ∧ x.i = m.i)) = some m := by
    refine find_here (k := k) (fun j y hj hy => ?_) hk (decide_eq_true ⟨rfl, rfl⟩)
    refine decide_eq_false fun e => ?_
    have := hr j k y m hy hk e.1; omega
  rw [hf]
/-- What holds behind the first install. -/
structure Ris (s : St) : Prop where
  inv : Inv s
  rinv : RInv s
  me : nth s.own.vec s.self = s.own.cid
  cid1 : 1 ≤ s.own.cid
  has : holdsI s.mem s.self s.inc ≤ s.own.cid
  opn : s.opn = true → holdsI s.mem s.self s.inc < s.own.cid ∧ s.vid.e ≤ s.own.top
/-- What a call makes of the own proposal. -/
structure Up (s t : St) : Prop where
  n : t.n = s.n
  self : t.self = s.self
  inc : t.inc = s.inc
  vid : t.vid = s.vid
  mem : t.mem = s.mem
  own : t.own = s.own ∨ (s.own.cid ≤ t.own.cid ∧ t.own.rev = s.own.rev + 1 ∧ (t.own.cid ≠ s.own.cid ∨ t.own.vec ≠ s.own.vec))
theorem Up.refl (s : St) : Up s s := ⟨rfl, rfl, rfl, rfl, rfl, .inl rfl⟩
theorem heard_me {s : St} (h : Inv s) : nth s.heard s.self = s.own.cid := by
  rw [nth_heard (by have := h.self; have := h.n2; omega)]
  unfold St.vecAt; rw [if_pos rfl]
theorem begin_up (s : St) (x : List Int) : Up s (s.begin_ x) := ⟨rfl, rfl, rfl, rfl, rfl, .inr ⟨by show _ ≤ s.own.cid + 1; omega, rfl, .inl (by show s.own.cid + 1 ≠ _; omega)⟩⟩
theorem begin_ris {s : St} {x : List Int} (h : Ris s) (hs : s.spent = false) (hi : Inv (s.begin_ x)) (hr : RInv (s.begin_ x)) : Ris (s.begin_ x) := by
  have hb : nth (s.begin_ x).own.vec (s.begin_ x).self = (s.begin_ x).own.cid := by
    show nth (s.beg1 x).heard (s.beg1 x).self = (s.beg1 x).own.cid
    rw [nth_heard (by have := h.inv.self; have := h.inv.n2; show s.self < 16; omega)]
    unfold St.vecAt; rw [if_pos rfl]
  have hc := h.cid1
  have hh := h.has
  refine ⟨hi, hr, hb, by show 1 ≤ s.own.cid + 1; omega, by show holdsI s.mem s.self s.inc ≤ s.own.cid + 1; omega, fun _ => ⟨by show holdsI s.mem s.self s.inc < s.own.cid + 1; omega, ?_⟩⟩
  show s.vid.e ≤ if s.vid = Vid.zero then s.own.top else s.vid.e
  split
  · rename_i e; rw [e]; have := h.inv.own.top; show (0 : Int) ≤ _; omega
  · exact Int.le_refl _
theorem estimate_ris {s : St} (h : Ris s) (l : List Int) : Ris (s.estimate l).2.2 ∧ Up s (s.estimate l).2.2 := by
  have hi := estimate_inv h.inv l
  have hr := estimate_rinv h.rinv h.inv l
  unfold St.estimate at hi hr ⊢
  split
  · exact ⟨h, Up.refl s⟩
  · rename_i h1
    rw [if_neg h1] at hi hr
    split
    · exact ⟨h, Up.refl s⟩
    · rename_i h2
      rw [if_neg h2] at hi hr
      split
      · exact ⟨h, Up.refl s⟩
      · rename_i h3
        rw [if_neg h3] at hi hr
        exact ⟨begin_ris h (by simpa using h3) hi hr, begin_up s _⟩
theorem put_ris {s : St} (h : Ris s) {q : Nat} {inc : Int} {w : Wish} (hi : Inv (s.put q inc w)) (hr : RInv (s.put q inc w)) : Ris (s.put q inc w) := ⟨hi, hr, h.me, h.cid1, h.has, h.opn⟩
theorem put_up (s : St) (q : Nat) (inc : Int) (w : Wish) : Up s (s.put q inc w) := ⟨rfl, rfl, rfl, rfl, rfl, .inl rfl⟩
theorem take_ris {s : St} (h : Ris s) (q inc : Int) (p : Pr) : Ris (s.take q inc p).2.2 ∧ Up s (s.take q inc p).2.2 := by
  have hi := take_inv h.inv q inc p
  have hr := take_rinv h.rinv h.inv q inc p
  unfold St.take at hi hr ⊢
  split
  · exact ⟨h, Up.refl s⟩
  · rename_i h1
    rw [if_neg h1] at hi hr
    split
    · exact ⟨h, Up.refl s⟩
    · rename_i h2
      rw [if_neg h2] at hi hr
      split
      · exact ⟨h, Up.refl s⟩
      · rename_i h3
        rw [if_neg h3] at hi hr
        split
        · exact ⟨h, Up.refl s⟩
        · rename_i h4
          rw [if_neg h4] at hi hr
          have hp : Inv (s.put q.toNat inc p.wish) := put_inv h.inv (good_wish h.inv.n2 (by simpa using h2))
          have hpr : RInv (s.put q.toNat inc p.wish) := put_rinv h.rinv h.inv.oth (by have := h.inv.n2; omega) (by omega)
          have hP := put_ris h hp hpr
          dsimp only at hi hr ⊢
          split
          · rename_i h5
            rw [if_pos h5] at hi hr
            split
            · exact ⟨hP, put_up s _ _ _⟩
            · rename_i h6
              rw [if_neg h6] at hi hr
              split
              · rename_i h7
                rw [if_pos h7] at hi hr
                exact ⟨⟨hi, hr, heard_me hp, h.cid1, h.has, h.opn⟩, ⟨rfl, rfl, rfl, rfl, rfl, .inr ⟨Int.le_refl _, rfl, .inr h6⟩⟩⟩
              · exact ⟨h, Up.refl s⟩
          · rename_i h5
            rw [if_neg h5] at hi hr
            split
            · exact ⟨hP, put_up s _ _ _⟩
            · rename_i h6
              rw [if_neg h6] at hi hr
              split
              · exact ⟨h, Up.refl s⟩
              · rename_i h7
                rw [if_neg h7] at hi hr
                exact ⟨begin_ris hP (by simpa using h7) hi hr, ⟨rfl, rfl, rfl, rfl, rfl, .inr ⟨by show s.own.cid ≤ s.own.cid + 1; omega, rfl, .inl (by show s.own.cid + 1 ≠ s.own.cid; omega)⟩⟩⟩
/-- The agreement has the node itself. -/
theorem agTo_self {s : St} (h : Inv s) : ∀ {k : Nat} {a : Ag}, s.self < k → s.agTo k = some a → (⟨s.self, s.inc, nth s.own.vec s.self⟩ : Mb) ∈ a.mem ∧ (s.self : Int) ∈ a.trans
  | 0, a, hk, e => by omega
  | k + 1, a, hk, e => by
    rw [St.agTo] at e
    obtain ⟨b, hb, hs⟩ := Option.bind_eq_some_iff.1 e
    unfold St.agStep at hs
    by_cases e2 : s.self = k
    · subst e2
      rw [if_neg (by rw [h.me]; have := h.inc1; omega)] at hs
      split at hs
      · cases hs
      · cases hs
        refine ⟨List.mem_append_right _ (by rw [h.me]; exact List.mem_singleton.2 rfl), ?_⟩
        dsimp only
        rw [if_pos (.inl rfl)]
        exact List.mem_append_right _ (List.mem_singleton.2 rfl)
    · have ih := agTo_self h (by omega) hb
      split at hs
      · cases hs; exact ih
      · split at hs
        · cases hs
        · cases hs
          refine ⟨List.mem_append_left _ ih.1, ?_⟩
          dsimp only
          split
          · exact List.mem_append_left _ ih.2
          · exact ih.2
theorem vid_e {a : Ag} (h : a.mem ≠ []) : a.vid.e = a.top + 1 := by
  unfold Ag.vid
  split
  · rfl
  · rename_i e; exact absurd e h
/-- What an install makes. -/
theorem install_ris {s : St} (h : Ris s) {a : Ag} (ha : s.agreed = some a) :
    Ris s.install ∧ s.vid.e < a.vid.e ∧ holdsI a.mem s.self s.inc = s.own.cid ∧ holdsI s.mem s.self s.inc < s.own.cid ∧ 0 < a.trans.length ∧ s.install.vid = a.vid ∧ s.install.mem = a.mem ∧ s.install.own = s.own ∧ s.install.opn = false ∧ s.install.n = s.n ∧ s.install.self = s.self ∧ s.install.inc = s.inc := by
  have hin : s.install = { s with vid := a.vid, mem := a.mem, opn := false } := by unfold St.install; rw [ha]
  have hi := install_inv h.inv
  have hr := install_rinv h.rinv h.inv
  have hop : s.opn = true := by
    unfold St.agreed at ha
    split at ha
    · assumption
    · cases ha
  have hag : s.agTo s.n = some a := by
    unfold St.agreed at ha
    rw [if_pos hop] at ha; exact ha
  obtain ⟨m1, m2⟩ := agTo_self h.inv h.inv.self hag
  have hrise := (agTo_rise hag).2
  have hhold : holdsI a.mem s.self s.inc = s.own.cid := by
    have := holds_of hrise m1
    rw [h.me] at this; exact this
  obtain ⟨o1, o2⟩ := h.opn hop
  have hge := agTo_ge hag
  have hne : a.mem ≠ [] := List.ne_nil_of_mem m1
  have hE := vid_e hne
  rw [hin] at hi hr ⊢
  refine ⟨⟨hi, hr, h.me, h.cid1, ?_, fun e => by cases e⟩, by omega, hhold, o1, List.length_pos_of_mem m2, rfl, rfl, rfl, rfl, rfl, rfl, rfl⟩
  show holdsI a.mem s.self s.inc ≤ s.own.cid
  rw [hhold]; exact Int.le_refl _
theorem nth_set_self {l : List Int} {i : Nat} {v : Int} (h : i < l.length) : nth (l.set i v) i = v := by unfold nth; rw [List.getElem?_set_self h]; rfl
/-- The first agreement: the node alone. -/
theorem new_agTo {n self : Nat} {inc floor : Int} (hs : self < 16) (hi : 1 ≤ inc) (hf : 0 ≤ floor) : ∀ k : Nat, (newSt n self inc floor).agTo k = some (if self < k then ⟨floor, [⟨self, inc, floor + 1⟩], [(self : Int)]⟩ else ⟨floor, [], []⟩)
  | 0 => by rw [if_neg (by omega)]; rfl
  | k + 1 => by
    rw [St.agTo, new_agTo hs hi hf k]
    show St.agStep _ _ _ = _
    unfold St.agStep
    by_cases e : self = k
    · subst e
      rw [if_neg (Nat.lt_irrefl _), if_pos (by omega : self < self + 1)]
      have h1 : nth (newSt n self inc floor).own.set self = inc := nth_set_self (by rw [len_zeros]; exact hs)
      have h2 : nth (newSt n self inc floor).own.vec self = floor + 1 := nth_set_self (by rw [len_zeros]; exact hs)
      have h3 : (newSt n self inc floor).wishOf self = (newSt n self inc floor).own := if_pos rfl
      rw [h1, h2, h3, if_neg (by omega), if_neg (by rintro (h | h); omega; exact h rfl)]
      rw [show (newSt n self inc floor).self = self from rfl, if_pos (.inl rfl)]
      rw [show (newSt n self inc floor).own.top = floor from rfl]
      simp
    · have h1 : nth (newSt n self inc floor).own.set k = 0 := by
        show nth (zeros.set self inc) k = 0
        rw [nth_set e, nth_zeros]
      rw [if_pos h1]
      by_cases h : self < k
      · rw [if_pos h, if_pos (by omega)]
      · rw [if_neg h, if_neg (by omega)]
theorem new_agreed {n self : Nat} {inc floor : Int} (h : newB n self inc floor = true) : (newSt n self inc floor).agreed = some ⟨floor, [⟨self, inc, floor + 1⟩], [(self : Int)]⟩ := by
  unfold newB at h
  simp only [decide_eq_true_eq] at h
  show (if true = true then (newSt n self inc floor).agTo n else none) = _
  rw [if_pos rfl, new_agTo (by omega) (by omega) (by omega) n, if_pos (by omega)]
theorem new_ris {n self : Nat} {inc floor : Int} (h : newB n self inc floor = true) (hf : floor ≠ 4611686018427387904) : Ris (newSt n self inc floor) := by
  have hi := new_inv h hf
  have hr := new_rinv h hf
  unfold newB at h
  simp only [decide_eq_true_eq] at h
  exact ⟨hi, hr, nth_set_self (by rw [len_zeros]; omega), by show 1 ≤ floor + 1; omega, by show (0 : Int) ≤ floor + 1; omega, fun _ => ⟨by show (0 : Int) < floor + 1; omega, by show (0 : Int) ≤ floor; omega⟩⟩
end Go.Proofs.Ytfbeggdbjpmppaa
/- MemberRises: what a call leaves; when two proposals are alike. -/
namespace Go.Proofs.Ytfbeggdbjpmppaa
theorem callS_ris {s : St} (h : Ris s) (o : OpD) : Ris (callS o s).2 ∧ Up s (callS o s).2 := by
  unfold callS
  split
  · exact estimate_ris h _
  · split
    · exact take_ris h _ _ _
    · exact ⟨h, Up.refl s⟩
theorem callS_mem (s : St) (o : OpD) : (callS o s).2.mem = s.mem := by
  unfold callS
  split
  · exact estimate_mem _ _
  · split
    · exact take_mem _ _ _ _
    · rfl
/-- A proposal as the agent hands it out. -/
def St.out (s : St) : Pr := ⟨s.own.set.take s.n, s.own.cid, s.own.rev, s.own.top, s.own.prev, s.own.vec.take s.n⟩
/-- The law's comparison of a proposal with the one before. -/
theorem out_same {s t : St} (hs : Ris s) (ht : Ris t) (hu : Up s t ∨ (t.own = s.own ∧ t.n = s.n)) (r : Pr) (hr : r = { t.out with rev := s.own.rev }) :
    (t.own.rev == s.own.rev) = prSame s.out (s.own.set.take s.n) (s.own.vec.take s.n) r (t.own.set.take t.n) (t.own.vec.take t.n) ∧ s.own.cid ≤ t.own.cid ∧ s.own.rev ≤ t.own.rev ∧ t.own.rev ≤ s.own.rev + 1 := by
  subst hr
  have hn : t.n = s.n := hu.elim (fun h => h.n) (fun h => h.2)
  have hown : t.own = s.own ∨ (s.own.cid ≤ t.own.cid ∧ t.own.rev = s.own.rev + 1 ∧ (t.own.cid ≠ s.own.cid ∨ t.own.vec ≠ s.own.vec)) := hu.elim (fun h => h.own) (fun h => .inl h.1)
  rcases hown with e | ⟨e1, e2, e3⟩
  · refine ⟨?_, by rw [e]; exact Int.le_refl _, by rw [e]; exact Int.le_refl _, by rw [e]; omega⟩
    rw [e, hn]
    simp [prSame, St.out, vidEq, e]
  · refine ⟨?_, e1, by omega, by omega⟩
    have h1 : (t.own.rev == s.own.rev) = false := beq_eq_false_iff_ne.2 (by omega)
    rw [h1]
    symm
    unfold prSame
    rcases e3 with e3 | e3
    · have : ((s.out).cid == ({ t.out with rev := s.own.rev } : Pr).cid) = false := by
        show (s.own.cid == t.own.cid) = false
        simp [Ne.symm e3]
      rw [this]; simp
    · have : decide (s.own.vec.take s.n = t.own.vec.take t.n) = false := by
        refine decide_eq_false fun he => e3 ?_
        exact ht.rinv.vec.trans ((congrArg pad he.symm).trans hs.rinv.vec.symm)
      rw [this]; simp
end Go.Proofs.Ytfbeggdbjpmppaa
