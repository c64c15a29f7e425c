/- SameIn Step Steps StoreWalk Open ScOpen, joined. -/
import Derived.Test.YtcffhfcjfjfokaaRows
import Derived.Deep.Slices
import Derived.Deep.Fields
import Derived.ChangeSame
import Derived.ProofKit
import Derived.Test.YtcffhfcjfjfokaaSw2
import Derived.Test.YtcffhfcjfjfokaaSw7
import Derived.Test.YtcffhfcjfjfokaaSw18
set_option linter.unusedVariables false
set_option linter.unusedSimpArgs false
/- The law's sameInts. -/
namespace Go.Proofs.Ytcffhfcjfjfokaa
open Go.RowKit
/-- Two rows that hold the same numbers. -/
theorem sameInts_yes (A B : Option Addr) (cA cB N : Nat) (l : List Int) (w : World) (hN : N ≤ w.heap.size) (hA : RowAt w N 1 eInt A l) (hB : RowAt w N 1 eInt B l) (hl : l.length ≤ 9223372036854775807) :
    Calls Try.prog 37 #[.slice A l.length cA, .slice B l.length cB] w fun x w' => x = .returned (.bool true) ∧ Below w.heap.size w w' := by
  go_enter Try.func37, Try.ntmps37
  go_wp2
  go_loopw [5] (fun k wr => ∃ q : Nat, k = .int .i64 q ∧ q ≤ l.length ∧ Below w.heap.size w wr) (fun k _ => l.length - (intOf k).toNat)
  case atStart => exact ⟨0, rfl, by omega, Below.refl _ _⟩
  case round =>
    obtain ⟨q, rfl, hq, hb⟩ := hrel
    have hsz := hb.size
    by_cases hlt : q < l.length
    · obtain ⟨g, o, x, rfl, hg, hx, c0⟩ := (hA.below hb hN).int hlt
      obtain ⟨g', o', x', rfl, hg', hx', d0⟩ := (hB.below hb hN).int hlt
      obtain rfl : x = x' := by have := hx'.out; rw [hx.out] at this; injection this
      go_wp2
      go_quiet (fail)
      go_wp2
      go_roundw
      case rel => go_light; exact ⟨q + 1, by go_num, by omega, below_drewN hb _⟩
      case measure => go_light; simp [intOf]; omega
    · go_wp2
      go_ret
      exact ⟨rfl, hb⟩
end Go.Proofs.Ytcffhfcjfjfokaa
/- The law's gives and step. -/
namespace Go.Proofs.Ytcffhfcjfjfokaa
open Go.RowKit
theorem OwnFs.fls {w : World} {base c : Nat} {B : Option Addr} {rs : List Rw} (h : OwnFs w base B c rs) : Fls w w.heap.size B (rs.map Rw.f) :=
  rows_fls ⟨h.own.row len_eRw, fun r hr => by
    obtain ⟨o1, o2⟩ := h.each r hr
    exact ⟨o1.row len_eSlot, o2.row len_eInt, o1.len.1, o1.len.2, o2.len.1, o2.len.2⟩⟩
theorem OwnFs.keep {w w' : World} {base c : Nat} {B : Option Addr} {rs : List Rw} (h : OwnFs w base B c rs) (hb : Below w.heap.size w w') : OwnFs w' base B c rs :=
  ⟨h.own.keep hb fun k hk => (h.own.lo k hk).2, fun r hr => ⟨(h.each r hr).1.keep hb fun k hk => ((h.each r hr).1.lo k hk).2, (h.each r hr).2.keep hb fun k hk => ((h.each r hr).2.lo k hk).2⟩, h.dis⟩
/-- Contents' answer in one form. -/
theorem CtPost.form {w w' : World} {r : Option (List Fl)} {x : Ending} (h : CtPost w r x w') : Below w.heap.size w w' ∧ ∃ B c rs, x = .returned (.tuple #[.slice B rs.length c, .int .i64 (match r with | none => 81 | some _ => 0)]) ∧ rs.map Rw.f = r.getD [] ∧ OwnFs w' w.heap.size B c rs := by
  obtain ⟨hb, h⟩ := h
  refine ⟨hb, ?_⟩
  cases r with
  | none => exact ⟨none, 0, [], h, rfl, ownFs_nil _ _⟩
  | some fs =>
    obtain ⟨B, c, rs, e, hf, ho⟩ := h
    exact ⟨B, c, rs, by rw [e, ← hf, List.length_map], hf, ho⟩
theorem contents_small {s : Sto} (hi : SInv s) {e l i c : Int} {who : List Mm} : ((s.contents e l i c who).getD []).length ≤ who.length ∧ ∀ f ∈ (s.contents e l i c who).getD [], f.slots.length ≤ 1048576 ∧ f.have_.length ≤ 1048576 := by
  unfold Sto.contents
  split
  · refine ⟨by simp, fun f hf => ?_⟩
    rw [Option.getD_some] at hf
    obtain ⟨m, _, rfl⟩ := List.mem_map.1 hf
    have := kp_small hi m.p.toNat
    omega
  · exact ⟨by simp, fun f hf => by simp at hf⟩
set_option maxRecDepth 100000 in
theorem gives_any {w : World} {F : List Nat} {b g b' g' : Nat} {s : Sto} {N : Nat} {o : Opx} (h : Two w F b g b' g' s) (hN : N ≤ w.heap.size) (ho : OpAt w N o) :
    Calls Try.prog 74 #[.pointer (some ⟨b, 0, none⟩), .pointer (some ⟨b', 0, none⟩), .agg (opA o)] w fun x w' => x = .returned (.bool true) ∧ Below w.heap.size w w' := by
  refine calls_vc tab_ok Try.func74 rfl ?_
  conv => whnf
  refine .mk fun wA hwA => ?_
  have hbA : Below w.heap.size w wA := by rw [hwA.out]; exact below_box1 _ _ _
  have zA : wA.heap.size = w.heap.size + 1 := by rw [hwA.out]; simp
  have oA : wA.rangeAt w.heap.size 0 (opA o).toList := by rw [hwA.out]; exact range_new w (opA o) 95
  clear hwA
  have hx : ∀ W, Below wA.heap.size wA W → W.rangeAt w.heap.size 0 (opA o).toList ∧ OpAt W N o ∧ Below w.heap.size w W := fun W hW =>
    ⟨range_same oA (hW.block w.heap.size (by omega)), (ho.below hbA hN).below hW (by omega), hbA.trans (hW.mono (by omega))⟩
  have b0 : Below wA.heap.size wA wA := Below.refl _ _
  have Lp : Ld Try.prog 35 w.heap.size 10 (fun W => Below wA.heap.size wA W) (.agg #[.int .i64 o.e, .int .i64 o.l, .int .i64 o.i, .int .i64 o.c]) := ⟨fun W hW => load35 (range_sub (n := 4) (hx W hW).1 10 rfl)⟩
  have Lw : Ld Try.prog 93 w.heap.size 14 (fun W => Below wA.heap.size wA W) (.slice o.wA o.who.length o.wc) := ⟨fun W hW => load_cell (by kernel_rfl) ((hx W hW).1 14 _ rfl)⟩
  obtain ⟨bg, -, -⟩ := h.pb
  obtain ⟨k1, k2, k3, k4, P⟩ := h.p
  obtain ⟨l1, l2, l3, l4, D⟩ := h.d
  have hb' := h.hi b' h.bF.2.2.1
  repeat (conv => whnf
          first
          | (refine VLoad.mk _ (Lp.at b0) ?_)
          | (refine VLoad.mk _ (Lw.at b0) ?_)
          | (refine VCmp.tt (by omega) ?_)
          | (refine VCmp.ff (by omega) ?_)
          | (refine VIn.mk (IntWalk.i64_in _ (by omega)) ?_)
          | (refine VIdx.mk _ rfl (by omega) ?_)
          | (refine VIdx.mk 0 rfl (by omega) ?_))
  try (conv => whnf)
  refine VCall.mk _ (contents_any (P.below hbA) o.e o.l o.i o.c o.wA o.wc N o.who (by omega) (hx _ b0).2.1.who ho.s3) ?_
  intro e1 x1 hp1
  obtain ⟨b1, B, c, rs, rfl, hrs, own1⟩ := hp1.form
  refine ⟨_, rfl, ?_⟩
  have z1 := b1.size
  repeat (conv => whnf
          first
          | (refine VLoad.mk _ (Lp.at b1) ?_)
          | (refine VLoad.mk _ (Lw.at b1) ?_)
          | (refine VCmp.tt (by omega) ?_)
          | (refine VCmp.ff (by omega) ?_)
          | (refine VIn.mk (IntWalk.i64_in _ (by omega)) ?_)
          | (refine VIdx.mk _ rfl (by omega) ?_)
          | (refine VIdx.mk 0 rfl (by omega) ?_))
  try (conv => whnf)
  refine VCall.mk _ (rcontents_any ((D.below hbA).below (b1.mono (Nat.le_refl _))) (by rw [b1.cell (p := ⟨b', 0, none⟩) (by show b' < _; omega), hbA.cell (p := ⟨b', 0, none⟩) hb']; exact h.dn) o.e o.l o.i o.c o.wA o.wc N o.who (by omega) (hx _ b1).2.1.who ho.s3) ?_
  intro e2 x2 hp2
  obtain ⟨b2, B2, c2, rs2, rfl, hrs2, own2⟩ := hp2.form
  refine ⟨_, rfl, ?_⟩
  have b12 : Below wA.heap.size wA x2 := b1.trans (b2.mono z1)
  have own12 := own1.keep b2
  repeat (conv => whnf
          first
          | (refine VCmp.tt (by omega) ?_)
          | (refine VCmp.ff (by omega) ?_)
          | (refine VIn.mk (IntWalk.i64_in _ (by omega)) ?_)
          | (refine VIdx.mk _ rfl (by omega) ?_)
          | (refine VIdx.mk 0 rfl (by omega) ?_))
  try (conv => whnf)
  refine VCall.mk _ (num_any _ x2) ?_
  rintro _ _ ⟨rfl, rfl⟩
  refine ⟨_, rfl, ?_⟩
  have hcs := contents_small (e := o.e) (l := o.l) (i := o.i) (c := o.c) (who := o.who) h.inv
  have hlr : rs.length = ((s.contents o.e o.l o.i o.c o.who).getD []).length := by rw [← hrs, List.length_map]
  have hlr2 : rs2.length = rs.length := by rw [hlr, ← hrs2, List.length_map]
  have hs3 := ho.s3
  have hsf := sameFls_yes B B2 c c2 x2.heap.size (rs.map Rw.f) x2 (Nat.le_refl _) own12.fls (by have := own2.fls; rwa [hrs2, ← hrs] at this) (by rw [List.length_map]; omega)
  rw [List.length_map] at hsf
  rw [hlr2]
  repeat (conv => whnf
          first
          | (refine VCmp.tt rfl ?_)
          | (refine VCmp.tt (by omega) ?_)
          | (refine VCmp.ff (by omega) ?_)
          | (refine VIn.mk (IntWalk.i64_in _ (by omega)) ?_)
          | (refine VIdx.mk _ rfl (by omega) ?_)
          | (refine VIdx.mk 0 rfl (by omega) ?_))
  try (conv => whnf)
  refine VCall.mk _ hsf ?_
  rintro _ x3 ⟨rfl, b3⟩
  refine ⟨_, rfl, ?_⟩
  repeat (conv => whnf
          first
          | (refine VCmp.tt (by omega) ?_)
          | (refine VCmp.ff (by omega) ?_)
          | (refine VIn.mk (IntWalk.i64_in _ (by omega)) ?_)
          | (refine VIdx.mk _ rfl (by omega) ?_)
          | (refine VIdx.mk 0 rfl (by omega) ?_))
  try (conv => whnf)
  refine VCall.mk _ (apart_any (own12.keep b3) (by have := b12.size; have := b3.size; omega) (by omega) (fun r hr => hcs.2 r.f (by rw [← hrs]; exact List.mem_map.2 ⟨r, hr, rfl⟩))) ?_
  rintro _ x4 ⟨rfl, b4⟩
  refine ⟨_, rfl, ?_⟩
  repeat (conv => whnf
          first
          | (refine VCmp.tt (by omega) ?_)
          | (refine VCmp.ff (by omega) ?_)
          | (refine VIn.mk (IntWalk.i64_in _ (by omega)) ?_)
          | (refine VIdx.mk _ rfl (by omega) ?_)
          | (refine VIdx.mk 0 rfl (by omega) ?_))
  try (conv => whnf)
  exact .mk ⟨rfl, hbA.trans ((b12.trans (b3.mono b12.size)).mono (by omega) |>.trans (b4.mono (by omega)))⟩
end Go.Proofs.Ytcffhfcjfjfokaa
/- The law's step: one call of both stores. -/
namespace Go.Proofs.Ytcffhfcjfjfokaa
open Go.RowKit
/-- What a step makes of a store. -/
noncomputable def Sto.step (s : Sto) (o : Opx) : Sto :=
  if o.kd = 1 then (s.take o.q o.inc o.f).2
  else if o.kd = 4 then s.begin_ o.e o.l o.i o.c
  else if o.kd = 5 then (s.addS o.e o.l o.i o.c (o.ms.map Dr.d)).2
  else s
set_option maxRecDepth 100000 in
theorem step_any {w : World} {F : List Nat} {b g b' g' : Nat} {s : Sto} {N : Nat} {o : Opx} (h : Two w F b g b' g' s) (hF : ∀ y, y ∈ F ↔ y = b ∨ y = g ∨ y = b' ∨ y = g') (hh : Hi N b g b' g') (hN : N ≤ w.heap.size) (ho : OpAt w N o) :
    Calls Try.prog 44 #[.pointer (some ⟨b, 0, none⟩), .pointer (some ⟨b', 0, none⟩), .agg (opA o)] w (StPost w N F b g b' g' (s.step o)) := by
  refine calls_vc tab_ok Try.func44 rfl ?_
  conv => whnf
  refine .mk fun wA hwA => ?_
  have hbA : Below w.heap.size w wA := by rw [hwA.out]; exact below_box1 _ _ _
  have zA : wA.heap.size = w.heap.size + 1 := by rw [hwA.out]; simp
  have oA : wA.rangeAt w.heap.size 0 (opA o).toList := by rw [hwA.out]; exact range_new w (opA o) 95
  clear hwA
  have hx : ∀ W, Below wA.heap.size wA W → W.rangeAt w.heap.size 0 (opA o).toList ∧ OpAt W N o ∧ Below w.heap.size w W := fun W hW =>
    ⟨range_same oA (hW.block w.heap.size (by omega)), (ho.below hbA hN).below hW (by omega), hbA.trans (hW.mono (by omega))⟩
  have b0 : Below wA.heap.size wA wA := Below.refl _ _
  have Lk : Ld Try.prog 3 w.heap.size 0 (fun W => Below wA.heap.size wA W) (.int .i64 o.kd) := ⟨fun W hW => load3 ((hx W hW).1 0 _ rfl)⟩
  have Lp : Ld Try.prog 35 w.heap.size 10 (fun W => Below wA.heap.size wA W) (.agg #[.int .i64 o.e, .int .i64 o.l, .int .i64 o.i, .int .i64 o.c]) := ⟨fun W hW => load35 (range_sub (n := 4) (hx W hW).1 10 rfl)⟩
  have Lw : Ld Try.prog 93 w.heap.size 14 (fun W => Below wA.heap.size wA W) (.slice o.wA o.who.length o.wc) := ⟨fun W hW => load_cell (by kernel_rfl) ((hx W hW).1 14 _ rfl)⟩
  have Lo : Ld Try.prog 95 w.heap.size 0 (Eq wA) (.agg (opA o)) := .of (load_agg (by kernel_rfl) (by kernel_rfl) oA)
  have hA := h.below hbA
  have hoA := (hx _ b0).2.1
  have hst : ∀ n : Int, o.kd = n → n ≠ 1 → n ≠ 4 → n ≠ 5 → s.step o = s := fun n e h1 h4 h5 => by
    unfold Sto.step; rw [if_neg (by omega), if_neg (by omega), if_neg (by omega)]
  obtain ⟨f1, f2, f3, f4⟩ := h.bF
  have done : ∀ W', s.step o = s → Below wA.heap.size wA W' → StPost w N F b g b' g' (s.step o) (.returned (.bool true)) W' := fun W' e hb => by
    rw [e]; exact ⟨rfl, h.below (hx _ hb).2.2, (hx _ hb).2.2.mono hN⟩
  by_cases h1 : o.kd = 1
  · repeat (conv => whnf
            first
            | (refine VLoad.mk _ (Lk.at b0) ?_)
            | (refine VLoad.mk _ Lo ?_)
            | (refine VCmp.tt (by omega) ?_)
            | (refine VCmp.ff (by omega) ?_)
            | (refine VIn.mk (IntWalk.i64_in _ (by omega)) ?_)
            | (refine VIdx.mk _ rfl (by omega) ?_)
            | (refine VIdx.mk 0 rfl (by omega) ?_))
    try (conv => whnf)
    refine VCall.mk _ (takes_any hA hF hh (by omega) hoA) ?_
    rintro _ x1 ⟨rfl, T, bb⟩
    refine ⟨_, rfl, ?_⟩
    repeat (conv => whnf
            first
            | (refine VCmp.tt (by omega) ?_)
            | (refine VCmp.ff (by omega) ?_)
            | (refine VIn.mk (IntWalk.i64_in _ (by omega)) ?_)
            | (refine VIdx.mk _ rfl (by omega) ?_)
            | (refine VIdx.mk 0 rfl (by omega) ?_))
    try (conv => whnf)
    exact .mk ⟨rfl, by unfold Sto.step; rw [if_pos h1]; exact T, (hbA.mono hN).trans bb⟩
  by_cases h2 : o.kd = 2
  · have bd : Below wA.heap.size wA wA.drew := b0.drew
    obtain ⟨k1, k2, k3, k4, P⟩ := (hA.below b0.drew).p
    repeat (conv => whnf
            first
            | (refine VLoad.mk _ (Lk.at b0) ?_)
            | (refine VCmp.tt (by omega) ?_)
            | (refine VCmp.ff (by omega) ?_)
            | (refine VIn.mk (IntWalk.i64_in _ (by omega)) ?_)
            | (refine VIdx.mk _ rfl (by omega) ?_)
            | (refine VIdx.mk 0 rfl (by omega) ?_))
    try (conv => whnf)
    refine VDraw.mk 1000 [([0, 1, 2, 3, 4, 6, 7, 8, 9, 10], 5), ([], 11), ([], 12)] [13] (fun W => Below wA.heap.size wA W) (by kernel_rfl) (by kernel_rfl) (bd) ?_
    repeat (conv => whnf
            first
            | (refine VLoad.mk _ Lp ?_)
            | (refine VLoad.mk _ Lw ?_)
            | (refine VCmp.tt (by omega) ?_)
            | (refine VCmp.ff (by omega) ?_)
            | (refine VIn.mk (IntWalk.i64_in _ (by omega)) ?_)
            | (refine VIdx.mk _ rfl (by omega) ?_)
            | (refine VIdx.mk 0 rfl (by omega) ?_))
    try (conv => whnf)
    refine VCall.mk _ (missing_any P o.e o.l o.i o.c o.wA o.wc N o.who (by show N ≤ wA.heap.size; omega) (hx _ bd).2.1.who ho.s3) ?_
    rintro _ x1 ⟨B, c, rfl, own1, b1⟩
    refine ⟨_, rfl, ?_⟩
    have c1 : Below wA.heap.size wA x1 := bd.trans b1
    have T1 := hA.below c1
    obtain ⟨l1, l2, l3, l4, D⟩ := T1.d
    repeat (conv => whnf
            first
            | (refine VS.mk c1 ?_)
            | (refine VCmp.tt (by omega) ?_)
            | (refine VCmp.ff (by omega) ?_)
            | (refine VIn.mk (IntWalk.i64_in _ (by omega)) ?_)
            | (refine VIdx.mk _ rfl (by omega) ?_)
            | (refine VIdx.mk 0 rfl (by omega) ?_))
    try (conv => whnf)
    refine VCall.mk _ (rmissing_any D T1.dn o.e o.l o.i o.c o.wA o.wc N o.who (by have := c1.size; omega) (hx _ c1).2.1.who ho.s3) ?_
    rintro _ x2 ⟨B2, c2, rfl, own2, b2⟩
    refine ⟨_, rfl, ?_⟩
    have c2' : Below wA.heap.size wA x2 := c1.trans (b2.mono c1.size)
    have hs3 := ho.s3
    have hml : (s.missing o.e o.l o.i o.c o.who).length ≤ o.who.length := by unfold Sto.missing; rw [List.length_map]; exact List.length_filter_le _ _
    repeat (conv => whnf
            first
            | (refine VS.mk c2' ?_)
            | (refine VCmp.tt (by omega) ?_)
            | (refine VCmp.ff (by omega) ?_)
            | (refine VIn.mk (IntWalk.i64_in _ (by omega)) ?_)
            | (refine VIdx.mk _ rfl (by omega) ?_)
            | (refine VIdx.mk 0 rfl (by omega) ?_))
    try (conv => whnf)
    refine VCall.mk _ (sameInts_yes B B2 c c2 x2.heap.size _ x2 (Nat.le_refl _) ((own1.keep b2 (fun q hq => (own1.lo q hq).2)).row len_eInt) (own2.row len_eInt) (by omega)) ?_
    rintro _ x3 ⟨rfl, b3⟩
    refine ⟨_, rfl, ?_⟩
    have c3 : Below wA.heap.size wA x3 := c2'.trans (b3.mono c2'.size)
    repeat (conv => whnf
            first
            | (refine VS.mk c3 ?_)
            | (refine VCmp.tt (by omega) ?_)
            | (refine VCmp.ff (by omega) ?_)
            | (refine VIn.mk (IntWalk.i64_in _ (by omega)) ?_)
            | (refine VIdx.mk _ rfl (by omega) ?_)
            | (refine VIdx.mk 0 rfl (by omega) ?_))
    try (conv => whnf)
    exact .mk (done _ (hst 2 h2 (by omega) (by omega) (by omega)) c3)
  by_cases h3 : o.kd = 3
  · repeat (conv => whnf
            first
            | (refine VLoad.mk _ (Lk.at b0) ?_)
            | (refine VLoad.mk _ Lo ?_)
            | (refine VCmp.tt (by omega) ?_)
            | (refine VCmp.ff (by omega) ?_)
            | (refine VIn.mk (IntWalk.i64_in _ (by omega)) ?_)
            | (refine VIdx.mk _ rfl (by omega) ?_)
            | (refine VIdx.mk 0 rfl (by omega) ?_))
    try (conv => whnf)
    refine VCall.mk _ (gives_any hA (by omega) hoA) ?_
    rintro _ x1 ⟨rfl, bb⟩
    refine ⟨_, rfl, ?_⟩
    repeat (conv => whnf
            first
            | (refine VCmp.tt (by omega) ?_)
            | (refine VCmp.ff (by omega) ?_)
            | (refine VIn.mk (IntWalk.i64_in _ (by omega)) ?_)
            | (refine VIdx.mk _ rfl (by omega) ?_)
            | (refine VIdx.mk 0 rfl (by omega) ?_))
    try (conv => whnf)
    exact .mk (done _ (hst 3 h3 (by omega) (by omega) (by omega)) bb)
  by_cases h4 : o.kd = 4
  · obtain ⟨k1, k2, k3, k4, P⟩ := hA.p
    obtain ⟨l1, l2, l3, l4, D⟩ := hA.d
    obtain ⟨bg, q1, q2⟩ := hA.pb
    repeat (conv => whnf
            first
            | (refine VLoad.mk _ (Lk.at b0) ?_)
            | (refine VLoad.mk _ (Lp.at b0) ?_)
            | (refine VCmp.tt (by omega) ?_)
            | (refine VCmp.ff (by omega) ?_)
            | (refine VIn.mk (IntWalk.i64_in _ (by omega)) ?_)
            | (refine VIdx.mk _ rfl (by omega) ?_)
            | (refine VIdx.mk 0 rfl (by omega) ?_))
    try (conv => whnf)
    refine VCall.mk _ (begin_any P q1 o.e o.l o.i o.c) ?_
    rintro _ x1 ⟨rfl, P1, q3, g1⟩
    refine ⟨_, rfl, ?_⟩
    have e1 : ∀ q, q < wA.heap.size → q ≠ b → x1.heap[q]? = wA.heap[q]? := fun q h1 h2 => g1.block q h1 (by intro e; injection e with e; exact h2 e)
    have D1 := D.spoil P.bF h.n1 h.n2 g1
    have r1 : x1.rangeAt w.heap.size 0 (opA o).toList := range_same oA (e1 _ (by omega) (by have := h.hi b f1; omega))
    have Lp1 : Ld Try.prog 35 w.heap.size 10 (Eq x1) (.agg #[.int .i64 o.e, .int .i64 o.l, .int .i64 o.i, .int .i64 o.c]) := .of (load35 (range_sub (n := 4) r1 10 rfl))
    have d0 : x1.cell? ⟨b', 0, none⟩ = some (.int .i64 s.n) := by
      rw [World.cell?_of_block (a := ⟨b', 0, none⟩) (e1 b' (by have := h.hi b' f3; omega) h.n1.symm)]; exact hA.dn
    repeat (conv => whnf
            first
            | (refine VLoad.mk _ Lp1 ?_)
            | (refine VCmp.tt (by omega) ?_)
            | (refine VCmp.ff (by omega) ?_)
            | (refine VIn.mk (IntWalk.i64_in _ (by omega)) ?_)
            | (refine VIdx.mk _ rfl (by omega) ?_)
            | (refine VIdx.mk 0 rfl (by omega) ?_))
    try (conv => whnf)
    refine VCall.mk _ (rbegin_any D1 d0 o.e o.l o.i o.c) ?_
    rintro _ x2 ⟨rfl, D2, q4, g2⟩
    refine ⟨_, rfl, ?_⟩
    have P2 := P1.spoil D1.bF (by intro e; exact h.n1 e.symm) (by intro e; exact h.n3 e.symm) g2
    have z1 := g1.size
    repeat (conv => whnf
            first
            | (refine VCmp.tt (by omega) ?_)
            | (refine VCmp.ff (by omega) ?_)
            | (refine VIn.mk (IntWalk.i64_in _ (by omega)) ?_)
            | (refine VIdx.mk _ rfl (by omega) ?_)
            | (refine VIdx.mk 0 rfl (by omega) ?_))
    try (conv => whnf)
    refine .mk ⟨rfl, ?_, ((hbA.mono hN).grown g1 (by omega) (by intro q hq; injection hq with hq; have := hh.h1; omega)).grown g2 (by omega) (by intro q hq; injection hq with hq; have := hh.h3; omega)⟩
    unfold Sto.step
    rw [if_neg (by omega), if_pos h4]
    refine ⟨⟨_, _, _, _, P2⟩, ⟨_, _, _, _, D2⟩, ⟨true, ?_, by simp⟩, q4, h.n1, h.n2, h.n3, h.n4⟩
    rw [World.cell?_of_block (a := ⟨b, 5, none⟩) (g2.block b (by have := h.hi b f1; omega) (by intro e; injection e with e; exact h.n1 e))]
    exact q3
  by_cases h5 : o.kd = 5
  · repeat (conv => whnf
            first
            | (refine VLoad.mk _ (Lk.at b0) ?_)
            | (refine VLoad.mk _ Lo ?_)
            | (refine VCmp.tt (by omega) ?_)
            | (refine VCmp.ff (by omega) ?_)
            | (refine VIn.mk (IntWalk.i64_in _ (by omega)) ?_)
            | (refine VIdx.mk _ rfl (by omega) ?_)
            | (refine VIdx.mk 0 rfl (by omega) ?_))
    try (conv => whnf)
    refine VCall.mk _ (adds_any hA hF hh (by omega) hoA) ?_
    rintro _ x1 ⟨rfl, T, bb⟩
    refine ⟨_, rfl, ?_⟩
    repeat (conv => whnf
            first
            | (refine VCmp.tt (by omega) ?_)
            | (refine VCmp.ff (by omega) ?_)
            | (refine VIn.mk (IntWalk.i64_in _ (by omega)) ?_)
            | (refine VIdx.mk _ rfl (by omega) ?_)
            | (refine VIdx.mk 0 rfl (by omega) ?_))
    try (conv => whnf)
    exact .mk ⟨rfl, by unfold Sto.step; rw [if_neg (by omega), if_neg (by omega), if_pos h5]; exact T, (hbA.mono hN).trans bb⟩
  have hs : s.step o = s := by unfold Sto.step; rw [if_neg h1, if_neg h4, if_neg h5]
  by_cases h6 : o.kd = 6
  · repeat (conv => whnf
            first
            | (refine VLoad.mk _ (Lk.at b0) ?_)
            | (refine VCmp.tt (by omega) ?_)
            | (refine VCmp.ff (by omega) ?_)
            | (refine VIn.mk (IntWalk.i64_in _ (by omega)) ?_)
            | (refine VIdx.mk _ rfl (by omega) ?_)
            | (refine VIdx.mk 0 rfl (by omega) ?_))
    try (conv => whnf)
    refine VCall.mk _ (tells_any hA) ?_
    rintro _ x1 ⟨rfl, bb⟩
    refine ⟨_, rfl, ?_⟩
    repeat (conv => whnf
            first
            | (refine VCmp.tt (by omega) ?_)
            | (refine VCmp.ff (by omega) ?_)
            | (refine VIn.mk (IntWalk.i64_in _ (by omega)) ?_)
            | (refine VIdx.mk _ rfl (by omega) ?_)
            | (refine VIdx.mk 0 rfl (by omega) ?_))
    try (conv => whnf)
    exact .mk (done _ hs bb)
  repeat (conv => whnf
          first
          | (refine VLoad.mk _ (Lk.at b0) ?_)
          | (refine VCmp.tt (by omega) ?_)
          | (refine VCmp.ff (by omega) ?_)
          | (refine VIn.mk (IntWalk.i64_in _ (by omega)) ?_)
          | (refine VIdx.mk _ rfl (by omega) ?_)
          | (refine VIdx.mk 0 rfl (by omega) ?_))
  try (conv => whnf)
  exact .mk (done _ hs b0)
end Go.Proofs.Ytcffhfcjfjfokaa
/- The law FlushStore: any script. -/
namespace Go.Proofs.Ytcffhfcjfjfokaa
open Go.RowKit
def eOpx (o : Opx) : List Value := (opA o).toList
theorem len_eOpx (o : Opx) : (eOpx o).length = 16 := rfl
/-- A script that came in. -/
structure ScAt (w : World) (N : Nat) (A : Option Addr) (os : List Opx) : Prop where
  row : RowAt w N 16 eOpx A os
  each : ∀ o ∈ os, OpAt w N o
  len : os.length ≤ 9223372036854775806
theorem ScAt.below {w w' : World} {N N' : Nat} {A : Option Addr} {os : List Opx} (h : ScAt w N A os) (hb : Below N' w w') (hN : N ≤ N') : ScAt w' N A os := ⟨h.row.below hb hN, fun o ho => (h.each o ho).below hb hN, h.len⟩
theorem OpAt.more {w : World} {N N' : Nat} {o : Opx} (h : OpAt w N o) (hN : N ≤ N') : OpAt w N' o :=
  ⟨h.f.more hN, h.who.more hN, ⟨h.ms.row.more hN, fun r h1 => (h.ms.each r h1).more hN⟩, h.s1, h.s2, h.s3, h.s4⟩
theorem StV.fresh {w : World} {F F' : List Nat} {b g oK oV n : Nat} {s : Sto} (h : StV w F b g oK oV s (List.replicate n KpX.zero) none 0 []) (h1 : b ∈ F') (h2 : g ∈ F') (hi : ∀ y ∈ F', y < w.heap.size) : StV w F' b g oK oV s (List.replicate n KpX.zero) none 0 [] :=
  ⟨h.ck, h.ce, h.cl, h.ci, h.cc, h.cm, h.there, h.krow, h.kthere, h.kk, fun x hx => by
    obtain rfl := List.eq_of_mem_replicate hx
    exact ⟨rowF_nil, rowF_nil, Nat.le_refl _, by simp [KpX.zero], Nat.le_refl _, by simp [KpX.zero]⟩, h.mm, rowF_nil, fun r hr => (by cases hr), h.mc, h1, h2, h.bg, hi, h.inv⟩
theorem newOk_yes {n : Int} (h : newOk n = true) : ∃ m : Nat, n = m ∧ 1 ≤ m ∧ m ≤ 16 := by
  unfold newOk at h
  have h' : 1 ≤ n ∧ n ≤ 16 := by simpa using h
  exact ⟨n.toNat, by omega, by omega, by omega⟩
set_option maxRecDepth 100000 in
theorem flushStore_walk {w : World} {A : Option Addr} {cA : Nat} {os : List Opx} (n : Int) (h : ScAt w w.heap.size A os) :
    Calls Try.prog 9 #[.agg #[.int .i64 n, .slice A os.length cA]] w fun x w' => x = .returned (.bool true) ∧ Below w.heap.size w w' := by
  refine calls_vc tab_ok Try.func9 rfl ?_
  conv => whnf
  refine .mk fun wA hwA => ?_
  have hbA : Below w.heap.size w wA := by rw [hwA.out]; exact below_box1 _ _ _
  have zA : wA.heap.size = w.heap.size + 1 := by rw [hwA.out]; simp
  have oA : wA.rangeAt w.heap.size 0 [.int .i64 n, .slice A os.length cA] := by rw [hwA.out]; exact range_new w #[.int .i64 n, .slice A os.length cA] 85
  clear hwA
  have b0 : Below wA.heap.size wA wA := Below.refl _ _
  have hx : ∀ W, Below wA.heap.size wA W → W.rangeAt w.heap.size 0 [.int .i64 n, .slice A os.length cA] ∧ ScAt W w.heap.size A os ∧ Below w.heap.size w W := fun W hW =>
    ⟨range_same oA (hW.block w.heap.size (by omega)), (h.below hbA (Nat.le_refl _)).below hW (by omega), hbA.trans (hW.mono (by omega))⟩
  have Ln : Ld Try.prog 3 w.heap.size 0 (fun W => Below wA.heap.size wA W) (.int .i64 n) := ⟨fun W hW => load3 ((hx W hW).1 0 _ rfl)⟩
  have La : Ld Try.prog 83 w.heap.size 1 (fun W => Below wA.heap.size wA W) (.slice A os.length cA) := ⟨fun W hW => load_cell (by kernel_rfl) ((hx W hW).1 1 _ rfl)⟩
  cases hok : newOk n with
  | false =>
    repeat (conv => whnf
            first
            | (refine VLoad.mk _ (Ln.at b0) ?_)
            | (refine VCmp.tt (by omega) ?_)
            | (refine VCmp.ff (by omega) ?_)
            | (refine VIn.mk (IntWalk.i64_in _ (by omega)) ?_)
            | (refine VIdx.mk _ rfl (by omega) ?_)
            | (refine VIdx.mk 0 rfl (by omega) ?_))
    try (conv => whnf)
    refine VCall.mk _ (snew_no n wA hok) ?_
    rintro _ x1 ⟨rfl, e1⟩
    refine ⟨_, rfl, ?_⟩
    rw [e1]
    repeat (conv => whnf
            first
            | (refine VLoad.mk _ (Ln.at b0) ?_)
            | (refine VCmp.tt (by omega) ?_)
            | (refine VCmp.ff (by omega) ?_)
            | (refine VIn.mk (IntWalk.i64_in _ (by omega)) ?_)
            | (refine VIdx.mk _ rfl (by omega) ?_)
            | (refine VIdx.mk 0 rfl (by omega) ?_))
    try (conv => whnf)
    refine VCall.mk _ (rsnew_no n wA hok) ?_
    rintro _ x2 ⟨rfl, e2⟩
    refine ⟨_, rfl, ?_⟩
    rw [e2]
    repeat (conv => whnf
            first
            | (refine VCmp.tt (by omega) ?_)
            | (refine VCmp.ff (by omega) ?_)
            | (refine VIn.mk (IntWalk.i64_in _ (by omega)) ?_)
            | (refine VIdx.mk _ rfl (by omega) ?_)
            | (refine VIdx.mk 0 rfl (by omega) ?_))
    try (conv => whnf)
    refine VCall.mk _ (num_any 1 wA) ?_
    rintro _ _ ⟨rfl, rfl⟩
    refine ⟨_, rfl, ?_⟩
    repeat (conv => whnf
            first
            | (refine VCmp.tt (by omega) ?_)
            | (refine VCmp.ff (by omega) ?_)
            | (refine VIn.mk (IntWalk.i64_in _ (by omega)) ?_)
            | (refine VIdx.mk _ rfl (by omega) ?_)
            | (refine VIdx.mk 0 rfl (by omega) ?_))
    try (conv => whnf)
    exact .mk ⟨rfl, hbA⟩
  | true =>
  obtain ⟨m, rfl, hm1, hm2⟩ := newOk_yes hok
  repeat (conv => whnf
          first
          | (refine VLoad.mk _ (Ln.at b0) ?_)
          | (refine VCmp.tt (by omega) ?_)
          | (refine VCmp.ff (by omega) ?_)
          | (refine VIn.mk (IntWalk.i64_in _ (by omega)) ?_)
          | (refine VIdx.mk _ rfl (by omega) ?_)
          | (refine VIdx.mk 0 rfl (by omega) ?_))
  try (conv => whnf)
  refine VCall.mk _ (snew_yes m wA hm1 hm2) ?_
  rintro _ x1 ⟨b, g, rfl, P, q1, b1, hg1, hb1⟩
  refine ⟨_, rfl, ?_⟩
  repeat (conv => whnf
          first
          | (refine VLoad.mk _ (Ln.at b1) ?_)
          | (refine VCmp.tt (by omega) ?_)
          | (refine VCmp.ff (by omega) ?_)
          | (refine VIn.mk (IntWalk.i64_in _ (by omega)) ?_)
          | (refine VIdx.mk _ rfl (by omega) ?_)
          | (refine VIdx.mk 0 rfl (by omega) ?_))
  try (conv => whnf)
  refine VCall.mk _ (rsnew_yes m x1 hm1 hm2) ?_
  rintro _ x2 ⟨b', g', rfl, D, q2, b2, hg2, hb2⟩
  refine ⟨_, rfl, ?_⟩
  have c2 : Below wA.heap.size wA x2 := b1.trans (b2.mono b1.size)
  have hP1 := P.hi b P.bF
  have hP2 := P.hi g P.gF
  have hD1 := D.hi b' D.bF
  have hD2 := D.hi g' D.gF
  have z1 := b1.size
  have T2 : Two x2 [b, g, b', g'] b g b' g' (stoNew m) := by
    refine ⟨⟨_, _, _, _, P.ext b2 (fun y hy => ?_) (by simp) (by simp) (fun y hy => ?_)⟩, ⟨List.replicate m KpX.zero, none, 0, [], ?_⟩, ⟨false, ?_, fun _ => rfl⟩, q2, by omega, by omega, by omega, by omega⟩
    · simp at hy; rcases hy with rfl | rfl | rfl | rfl
      · exact .inl (by simp)
      · exact .inl (by simp)
      · exact .inr (by omega)
      · exact .inr (by omega)
    · simp at hy; have := b2.size; rcases hy with rfl | rfl | rfl | rfl <;> omega
    · exact D.fresh (by simp) (by simp) (fun y hy => by simp at hy; have := b2.size; rcases hy with rfl | rfl | rfl | rfl <;> omega)
    · exact (b2.cell (p := ⟨b, 5, none⟩) hP1).trans q1
  repeat (conv => whnf
          first
          | (refine VCmp.tt (by omega) ?_)
          | (refine VCmp.ff (by omega) ?_)
          | (refine VIn.mk (IntWalk.i64_in _ (by omega)) ?_)
          | (refine VIdx.mk _ rfl (by omega) ?_)
          | (refine VIdx.mk 0 rfl (by omega) ?_))
  try (conv => whnf)
  refine VCall.mk _ (num_any 0 x2) ?_
  rintro _ _ ⟨rfl, rfl⟩
  refine ⟨_, rfl, ?_⟩
  repeat (conv => whnf
          first
          | (refine VCmp.tt (by omega) ?_)
          | (refine VCmp.ff (by omega) ?_)
          | (refine VIn.mk (IntWalk.i64_in _ (by omega)) ?_)
          | (refine VIdx.mk _ rfl (by omega) ?_)
          | (refine VIdx.mk 0 rfl (by omega) ?_))
  try (conv => whnf)
  refine VLoop.mk Nat (fun k => [(1, .pointer (some ⟨w.heap.size, 0, none⟩)), (3, .pointer (some ⟨b, 0, none⟩)), (5, .pointer (some ⟨b', 0, none⟩)), (7, .int .i64 k)]) (fun k W => k ≤ os.length ∧ (∃ s, Two W [b, g, b', g'] b g b' g' s) ∧ Below wA.heap.size wA W) (fun k => os.length - k) 0 ⟨rfl, rfl, rfl, rfl, trivial⟩ ⟨Nat.zero_le _, ⟨_, T2⟩, c2⟩ ?_
  rintro k wr ⟨hk, ⟨s, T⟩, br⟩
  have hlen := h.len
  by_cases hkl : k < os.length
  case neg =>
    repeat (conv => whnf
            first
            | (refine VLoad.mk _ (La.at br) ?_)
            | (refine VCmp.tt (by omega) ?_)
            | (refine VCmp.ff (by omega) ?_)
            | (refine VIn.mk (IntWalk.i64_in _ (by omega)) ?_)
            | (refine VIdx.mk _ rfl (by omega) ?_)
            | (refine VIdx.mk 0 rfl (by omega) ?_))
    try (conv => whnf)
    refine VCall.mk _ (tells_any T) ?_
    rintro _ x3 ⟨rfl, b3⟩
    refine ⟨_, rfl, ?_⟩
    repeat (conv => whnf
            first
            | (refine VCmp.tt (by omega) ?_)
            | (refine VCmp.ff (by omega) ?_)
            | (refine VIn.mk (IntWalk.i64_in _ (by omega)) ?_)
            | (refine VIdx.mk _ rfl (by omega) ?_)
            | (refine VIdx.mk 0 rfl (by omega) ?_))
    try (conv => whnf)
    refine VCall.mk _ (tells_any (T.below b3)) ?_
    rintro _ x4 ⟨rfl, b4⟩
    refine ⟨_, rfl, ?_⟩
    repeat (conv => whnf
            first
            | (refine VCmp.tt (by omega) ?_)
            | (refine VCmp.ff (by omega) ?_)
            | (refine VIn.mk (IntWalk.i64_in _ (by omega)) ?_)
            | (refine VIdx.mk _ rfl (by omega) ?_)
            | (refine VIdx.mk 0 rfl (by omega) ?_))
    try (conv => whnf)
    exact .mk ⟨rfl, (hx _ ((br.trans (b3.mono br.size)).trans (b4.mono (by have := br.size; have := b3.size; omega)))).2.2⟩
  have hsc := (hx _ br).2.1
  obtain ⟨bA, oR, rfl, hbA2, hrow⟩ := hsc.row (by omega)
  have hok' : os[k]? = some os[k] := List.getElem?_eq_getElem hkl
  have hmem : os[k] ∈ os := List.getElem_mem _
  generalize os[k] = o at hok' hmem
  have Lo : Ld Try.prog 95 bA (oR + k * 16) (Eq wr) (.agg (opA o)) := .of (load_agg (by kernel_rfl) (by kernel_rfl) (fun j u hu => hrow k o hok' j u hu))
  repeat (conv => whnf
          first
          | (refine VLoad.mk _ (La.at br) ?_)
          | (refine VLoad.mk _ Lo ?_)
          | (refine VCmp.tt (by omega) ?_)
          | (refine VCmp.ff (by omega) ?_)
          | (refine VIn.mk (IntWalk.i64_in _ (by omega)) ?_)
          | (refine VIdx.mk _ rfl (by omega) ?_)
          | (refine VIdx.mk 0 rfl (by omega) ?_))
  try (conv => whnf)
  refine VCall.mk _ (step_any (N := w.heap.size + 1) T (fun y => by simp) ⟨by omega, by omega, by omega, by omega⟩ (by have := br.size; omega) ((hsc.each o hmem).more (Nat.le_succ _))) ?_
  rintro _ x3 ⟨rfl, T3, b3⟩
  refine ⟨_, rfl, ?_⟩
  repeat (conv => whnf
          first
          | (refine VCmp.tt (by omega) ?_)
          | (refine VCmp.ff (by omega) ?_)
          | (refine VIn.mk (IntWalk.i64_in _ (by omega)) ?_)
          | (refine VIdx.mk _ rfl (by omega) ?_)
          | (refine VIdx.mk 0 rfl (by omega) ?_))
  try (conv => whnf)
  exact .mk (k + 1) ⟨rfl, rfl, rfl, rfl, trivial⟩ ⟨hkl, ⟨_, T3⟩, br.trans (b3.mono (by omega))⟩ (by omega)
end Go.Proofs.Ytcffhfcjfjfokaa
namespace Go.Proofs.Ytcffhfcjfjfokaa
open Go.RowKit Go.Deep Go.ChangeShapes Go.WideShapes
theorem exists_list {α : Type} {P : Nat → α → Prop} : ∀ n, (∀ i, i < n → ∃ x, P i x) → ∃ l : List α, l.length = n ∧ ∀ k x, l[k]? = some x → P k x
  | 0, _ => ⟨[], rfl, by intro k x h; simp at h⟩
  | n + 1, h => by
    obtain ⟨l, hl, hp⟩ := exists_list n (fun i hi => h i (by omega))
    obtain ⟨x, hx⟩ := h n (by omega)
    refine ⟨l ++ [x], by simp [hl], fun k y hy => ?_⟩
    by_cases hk : k < l.length
    · rw [List.getElem?_append_left hk] at hy; exact hp k y hy
    · rw [List.getElem?_append_right (by omega)] at hy
      have := (List.getElem?_eq_some_iff.1 hy).1
      obtain rfl : k = n := by simp at this; omega
      rw [hl] at hy; simp at hy; subst hy; exact hx
theorem cell_lt {w : World} {a : Addr} {u : Value} (h : w.cell? a = some u) : a.block < w.heap.size ∧ a.spot = none := by
  refine ⟨World.block_lt_of_cell? w a h, ?_⟩
  unfold World.cell? at h
  split at h
  · cases hs : a.spot with
    | none => rfl
    | some x => rw [hs] at h; simp at h
  · cases h
namespace bulks
theorem one_le {H : Type} (d : DataW H) : 1 ≤ Rows.uptoBulk d := by
  cases d with
  | lit l => cases l <;> simp [Rows.uptoBulk]
  | nil => simp [Rows.uptoBulk]
  | ptr d => simp [Rows.uptoBulk]
  | slice elems spare => simp [Rows.uptoBulk]
  | agg parts => simp [Rows.uptoBulk]
  | iface t d => simp [Rows.uptoBulk]
  | map entries => simp [Rows.uptoBulk]
  | held h => simp [Rows.uptoBulk]
theorem part_le {H : Type} {d : DataW H} {l : List (DataW H)} (h : d ∈ l) : Rows.uptoBulk d ≤ Rows.uptoBulkAll l := by
  induction l with
  | nil => cases h
  | cons x r ih =>
    simp only [Rows.uptoBulkAll]
    cases List.mem_cons.1 h with
    | inl e => subst e; omega
    | inr e => have := ih e; omega
theorem length_le {H : Type} (l : List (DataW H)) : l.length ≤ Rows.uptoBulkAll l := by
  induction l with
  | nil => simp [Rows.uptoBulkAll]
  | cons x r ih => have := one_le x; simp only [Rows.uptoBulkAll, List.length_cons]; omega
theorem slice_len {H : Type} (elems spare : List (DataW H)) : elems.length ≤ Rows.uptoBulk (.slice elems spare) := by
  have h1 := length_le elems
  simp only [Rows.uptoBulk]; omega
theorem slice_part {H : Type} {d : DataW H} {elems spare : List (DataW H)} (h : d ∈ elems) : Rows.uptoBulk d ≤ Rows.uptoBulk (.slice elems spare) := by
  have h1 := part_le h
  simp only [Rows.uptoBulk]; omega
theorem agg_part {H : Type} {d : DataW H} {parts : List (DataW H)} (h : d ∈ parts) : Rows.uptoBulk d ≤ Rows.uptoBulk (.agg parts) := by
  have h1 := part_le h
  simp only [Rows.uptoBulk]; omega
end bulks
section
variable {H : Type} {enc : TypeId × Value → H} {P : Program} {W : World} {sp : Nat → Bool}
/-- A slice that came in, whatever its elements: a row of what each element reads as. -/
theorem open_row {α : Type} {t e : TypeId} {sz : Nat} (ht : P.underlying t = some (.slice e)) (hc : P.cellsOf e = sz) (hsz : 0 < sz) (ec : α → List Value) (Q : α → Nat → Prop)
    (helem : ∀ (n : Nat) (cs : List Value) (y : DataW H × List MemPlace), DataW.trod enc P W 0 sp true n e cs = some y → ∃ x, cs = ec x ∧ Q x (Rows.uptoBulk y.1))
    {fuel : Nat} {v : Value} {x : DataW H × List MemPlace} (h : DataW.trod enc P W 0 sp true fuel t [v] = some x) :
    ∃ (A : Option Addr) (l : List α) (c : Nat), v = .slice A l.length c ∧ RowAt W W.heap.size sz ec A l ∧ l.length ≤ c ∧ c ≤ 9223372036854775807 ∧ l.length ≤ Rows.uptoBulk x.1 ∧ ∀ y ∈ l, ∃ b, b ≤ Rows.uptoBulk x.1 ∧ Q y b := by
  rcases open_slice ht h with ⟨h1, rfl⟩ | ⟨a, len, cap, m, n, D, Pl, h1, _, hl, hm, hmm, rfl, hi⟩
  · obtain rfl := (List.cons.inj h1).1
    exact ⟨none, [], 0, rfl, fun h => absurd h (by simp), by simp, by omega, by simp, by simp⟩
  · obtain rfl := (List.cons.inj h1).1
    obtain ⟨l, hll, hp⟩ := exists_list (P := fun i (y : α) => W.cells? 0 (a.add (i * sz)) sz = some (ec y) ∧ Q y (Rows.uptoBulk (D i))) len (fun i hil => by
      obtain ⟨cs, h2, h3⟩ := hi i (by rw [hmm]; split <;> omega)
      obtain ⟨y, rfl, hq⟩ := helem n cs _ h3
      rw [hc] at h2
      exact ⟨y, h2, hq⟩)
    refine ⟨some a, l, cap, by rw [hll], fun h0 => ?_, by omega, by unfold maxLen at hm; omega, ?_, fun y hy => ?_⟩
    · have g0 := hp 0 l[0] (List.getElem?_eq_getElem h0)
      obtain ⟨_, hlen, hcell⟩ := World.cells?_some g0.1
      have c0 := hcell 0 hsz
      have e0 : (a.add (0 * sz)).add 0 = a := by simp [Addr.add]
      rw [e0, List.getElem?_eq_getElem (by omega)] at c0
      obtain ⟨hb, hs⟩ := cell_lt c0
      have ha : a = ⟨a.block, a.off, none⟩ := by cases a; simp at hs; simp [hs]
      refine ⟨a.block, a.off, by rw [← ha], hb, fun k y hk j u hu => ?_⟩
      obtain ⟨g1, _⟩ := hp k y hk
      obtain ⟨_, hlen', hcell'⟩ := World.cells?_some g1
      have hj : j < sz := by have := (List.getElem?_eq_some_iff.1 hu).1; omega
      have := hcell' j hj
      rw [hu, ha, Addr.add_lit, Addr.add_lit] at this
      exact this
    · have := bulks.slice_len ((List.range len).map D) ((List.range (m - len)).map fun j => D (len + j))
      rw [List.length_map, List.length_range] at this
      rw [hll]; exact this
    · obtain ⟨k, hk⟩ := List.mem_iff_getElem?.1 hy
      have hkl := (List.getElem?_eq_some_iff.1 hk).1
      refine ⟨_, bulks.slice_part (List.mem_map.2 ⟨k, List.mem_range.2 (by omega), rfl⟩), (hp k y hk).2⟩
end
theorem cells39 : Try.prog.cellsOf 39 = 7 := by kernel_rfl
theorem cells35 : Try.prog.cellsOf 35 = 4 := by kernel_rfl
theorem cells36 : Try.prog.cellsOf 36 = 1 := by kernel_rfl
theorem cells37 : Try.prog.cellsOf 37 = 1 := by kernel_rfl
theorem cells66' : Try.prog.cellsOf 66 = 2 := by kernel_rfl
theorem cells3' : Try.prog.cellsOf 3 = 1 := by kernel_rfl
section
variable {H : Type} {enc : TypeId × Value → H} {W : World} {sp : Nat → Bool}
theorem elem3 (n : Nat) (cs : List Value) (y : DataW H × List MemPlace) (h : DataW.trod enc Try.prog W 0 sp true n 3 cs = some y) : ∃ x, cs = eInt x ∧ True := by
  obtain ⟨z, hz, _⟩ := DataW.trod_int Try.underlying3 h
  exact ⟨z, hz, trivial⟩
set_option maxRecDepth 100000 in
theorem elem66 (n : Nat) (cs : List Value) (y : DataW H × List MemPlace) (h : DataW.trod enc Try.prog W 0 sp true n 66 cs = some y) : ∃ x, cs = eSlot x ∧ True := by
  obtain ⟨ys, m, _, _, hlen, hyl, hf⟩ := DataW.trod_struct Try.underlying66 h
  rw [cells66'] at hlen
  match cs, hlen with
  | [u, v], _ =>
    have h0 : DataW.trod enc Try.prog W 0 sp true m 3 (([u, v].drop 0).take (Try.prog.cellsOf 3)) = ys[0]? := hf 0 _ rfl
    have h1 : DataW.trod enc Try.prog W 0 sp true m 3 (([u, v].drop 1).take (Try.prog.cellsOf 3)) = ys[1]? := hf 1 _ rfl
    rw [cells3'] at h0 h1
    rw [List.getElem?_eq_getElem (by rw [hyl]; decide)] at h0 h1
    obtain ⟨a, ha, _⟩ := DataW.trod_int Try.underlying3 h0
    obtain ⟨b, hb, _⟩ := DataW.trod_int Try.underlying3 h1
    simp at ha hb
    exact ⟨(a, b), by simp [eSlot, ha, hb], trivial⟩
def FlQ (W : World) (r : Rw) (b : Nat) : Prop := FlRows W W.heap.size r.f r.X r.cX r.Y r.cY ∧ r.f.slots.length ≤ b ∧ r.f.have_.length ≤ b
set_option maxRecDepth 100000 in
theorem elem39 (n : Nat) (cs : List Value) (y : DataW H × List MemPlace) (h : DataW.trod enc Try.prog W 0 sp true n 39 cs = some y) : ∃ r, cs = eRw r ∧ FlQ W r (Rows.uptoBulk y.1) := by
  obtain ⟨ys, m, _, rfl, hlen, hyl, hf⟩ := DataW.trod_struct Try.underlying39 h
  rw [cells39] at hlen
  have hyl4 : ys.length = 4 := hyl
  match cs, hlen with
  | [u0, u1, u2, u3, u4, u5, u6], _ =>
    match ys, hyl4 with
    | [y0, y1, y2, y3], _ =>
      have h0 : DataW.trod enc Try.prog W 0 sp true m 35 (([u0, u1, u2, u3, u4, u5, u6].drop 0).take (Try.prog.cellsOf 35)) = some y0 := hf 0 _ rfl
      have h1 : DataW.trod enc Try.prog W 0 sp true m 3 (([u0, u1, u2, u3, u4, u5, u6].drop 4).take (Try.prog.cellsOf 3)) = some y1 := hf 1 _ rfl
      have h2 : DataW.trod enc Try.prog W 0 sp true m 36 (([u0, u1, u2, u3, u4, u5, u6].drop 5).take (Try.prog.cellsOf 36)) = some y2 := hf 2 _ rfl
      have h3 : DataW.trod enc Try.prog W 0 sp true m 37 (([u0, u1, u2, u3, u4, u5, u6].drop 6).take (Try.prog.cellsOf 37)) = some y3 := hf 3 _ rfl
      rw [cells35] at h0
      rw [cells3'] at h1
      rw [cells36] at h2
      rw [cells37] at h3
      simp only [List.drop_zero, List.drop_succ_cons, List.take_succ_cons, List.take_zero] at h0 h1 h2 h3
      obtain ⟨zs, k, _, _, hl4, hzl, hg⟩ := DataW.trod_struct Try.underlying35 h0
      have hz4 : zs.length = 4 := hzl
      have g0 : DataW.trod enc Try.prog W 0 sp true k 3 (([u0, u1, u2, u3].drop 0).take (Try.prog.cellsOf 3)) = zs[0]? := hg 0 _ rfl
      have g1 : DataW.trod enc Try.prog W 0 sp true k 3 (([u0, u1, u2, u3].drop 1).take (Try.prog.cellsOf 3)) = zs[1]? := hg 1 _ rfl
      have g2 : DataW.trod enc Try.prog W 0 sp true k 3 (([u0, u1, u2, u3].drop 2).take (Try.prog.cellsOf 3)) = zs[2]? := hg 2 _ rfl
      have g3 : DataW.trod enc Try.prog W 0 sp true k 3 (([u0, u1, u2, u3].drop 3).take (Try.prog.cellsOf 3)) = zs[3]? := hg 3 _ rfl
      rw [cells3'] at g0 g1 g2 g3
      rw [List.getElem?_eq_getElem (by rw [hz4]; decide)] at g0 g1 g2 g3
      obtain ⟨e, he, _⟩ := DataW.trod_int Try.underlying3 g0
      obtain ⟨l, hl, _⟩ := DataW.trod_int Try.underlying3 g1
      obtain ⟨i, hi, _⟩ := DataW.trod_int Try.underlying3 g2
      obtain ⟨c, hc, _⟩ := DataW.trod_int Try.underlying3 g3
      obtain ⟨b, hb, _⟩ := DataW.trod_int Try.underlying3 h1
      simp at he hl hi hc hb
      obtain ⟨X, s, cX, hX, r1, r2, r3, r4, _⟩ := open_row Try.underlying36 cells66' (by decide) eSlot (fun _ _ => True) elem66 h2
      obtain ⟨Y, hh, cY, hY, q1, q2, q3, q4, _⟩ := open_row Try.underlying37 cells3' (by decide) eInt (fun _ _ => True) elem3 h3
      refine ⟨⟨⟨e, l, i, c, b, s, hh⟩, X, cX, Y, cY⟩, by simp [eRw, he, hl, hi, hc, hb, hX, hY], ⟨r1, q1, r2, r3, q2, q3⟩, ?_, ?_⟩
      · exact Nat.le_trans r4 (bulks.agg_part (by simp))
      · exact Nat.le_trans q4 (bulks.agg_part (by simp))
/-- A list of contents that came in. -/
theorem open22 {fuel : Nat} {v : Value} {x : DataW H × List MemPlace} (h : DataW.trod enc Try.prog W 0 sp true fuel 22 [v] = some x) :
    ∃ (A : Option Addr) (fs : List Fl) (c : Nat), v = .slice A fs.length c ∧ Fls W W.heap.size A fs ∧ fs.length ≤ c ∧ c ≤ 9223372036854775807 ∧ fs.length ≤ Rows.uptoBulk x.1 ∧ ∀ f ∈ fs, f.slots.length ≤ Rows.uptoBulk x.1 ∧ f.have_.length ≤ Rows.uptoBulk x.1 := by
  obtain ⟨A, rs, c, rfl, h1, h2, h3, h4, h5⟩ := open_row Try.underlying22 cells39 (by decide) eRw (FlQ W) elem39 h
  refine ⟨A, rs.map Rw.f, c, by simp, rows_fls ⟨h1, fun r hr => by obtain ⟨b, _, hq⟩ := h5 r hr; exact hq.1⟩, by simpa using h2, h3, by simpa using h4, fun f hf => ?_⟩
  obtain ⟨r, hr, rfl⟩ := List.mem_map.1 hf
  obtain ⟨b, hb, hq⟩ := h5 r hr
  exact ⟨Nat.le_trans hq.2.1 hb, Nat.le_trans hq.2.2 hb⟩
end
end Go.Proofs.Ytcffhfcjfjfokaa
/- A script that came in. -/
namespace Go.Proofs.Ytcffhfcjfjfokaa
open Go.RowKit Go.Deep Go.ChangeShapes Go.WideShapes
theorem cells113' : Try.prog.cellsOf 113 = 4 := by kernel_rfl
theorem cells40' : Try.prog.cellsOf 40 = 1 := by kernel_rfl
theorem cells52' : Try.prog.cellsOf 52 = 1 := by kernel_rfl
theorem cells5' : Try.prog.cellsOf 5 = 1 := by kernel_rfl
theorem cells168 : Try.prog.cellsOf 168 = 3 := by kernel_rfl
theorem cells93 : Try.prog.cellsOf 93 = 1 := by kernel_rfl
theorem cells83 : Try.prog.cellsOf 83 = 1 := by kernel_rfl
theorem cells95 : Try.prog.cellsOf 95 = 16 := by kernel_rfl
theorem cells85 : Try.prog.cellsOf 85 = 2 := by kernel_rfl
section
variable {H : Type} {enc : TypeId × Value → H} {W : World} {sp : Nat → Bool}
theorem elem5' (n : Nat) (cs : List Value) (y : DataW H × List MemPlace) (h : DataW.trod enc Try.prog W 0 sp true n 5 cs = some y) : ∃ x, cs = eByte x ∧ True := by
  obtain ⟨z, hz, _⟩ := DataW.trod_int Try.underlying5 h
  exact ⟨z, hz, trivial⟩
def DrQ (W : World) (r : Dr) (b : Nat) : Prop := BodyAt W W.heap.size r.B r.c r.d.body ∧ r.d.body.length ≤ b
set_option maxRecDepth 100000 in
theorem elem113' (n : Nat) (cs : List Value) (y : DataW H × List MemPlace) (h : DataW.trod enc Try.prog W 0 sp true n 113 cs = some y) : ∃ r, cs = eDr r ∧ DrQ W r (Rows.uptoBulk y.1) := by
  obtain ⟨ys, m, _, rfl, hlen, hyl, hf⟩ := DataW.trod_struct Try.underlying113 h
  rw [cells113'] at hlen
  have hyl4 : ys.length = 4 := hyl
  match cs, hlen with
  | [u0, u1, u2, u3], _ =>
    match ys, hyl4 with
    | [y0, y1, y2, y3], _ =>
      have h0 : DataW.trod enc Try.prog W 0 sp true m 3 (([u0, u1, u2, u3].drop 0).take (Try.prog.cellsOf 3)) = some y0 := hf 0 _ rfl
      have h1 : DataW.trod enc Try.prog W 0 sp true m 3 (([u0, u1, u2, u3].drop 1).take (Try.prog.cellsOf 3)) = some y1 := hf 1 _ rfl
      have h2 : DataW.trod enc Try.prog W 0 sp true m 3 (([u0, u1, u2, u3].drop 2).take (Try.prog.cellsOf 3)) = some y2 := hf 2 _ rfl
      have h3 : DataW.trod enc Try.prog W 0 sp true m 52 (([u0, u1, u2, u3].drop 3).take (Try.prog.cellsOf 52)) = some y3 := hf 3 _ rfl
      rw [cells3'] at h0 h1 h2
      rw [cells52'] at h3
      simp only [List.drop_zero, List.drop_succ_cons, List.take_succ_cons, List.take_zero] at h0 h1 h2 h3
      obtain ⟨a, ha, _⟩ := DataW.trod_int Try.underlying3 h0
      obtain ⟨b, hb, _⟩ := DataW.trod_int Try.underlying3 h1
      obtain ⟨c, hc, _⟩ := DataW.trod_int Try.underlying3 h2
      simp at ha hb hc
      obtain ⟨X, s, cX, hX, r1, r2, r3, r4, _⟩ := open_row Try.underlying52 cells5' (by decide) eByte (fun _ _ => True) elem5' h3
      exact ⟨⟨⟨a, b, c, s⟩, X, cX⟩, by simp [eDr, ha, hb, hc, hX], ⟨r1, r2, r3⟩, Nat.le_trans r4 (bulks.agg_part (by simp))⟩
set_option maxRecDepth 100000 in
theorem elem168 (n : Nat) (cs : List Value) (y : DataW H × List MemPlace) (h : DataW.trod enc Try.prog W 0 sp true n 168 cs = some y) : ∃ x, cs = eMm x ∧ True := by
  obtain ⟨ys, m, _, _, hlen, hyl, hf⟩ := DataW.trod_struct Try.underlying168 h
  rw [cells168] at hlen
  have hyl3 : ys.length = 3 := hyl
  match cs, hlen with
  | [u, v, z], _ =>
    have h0 : DataW.trod enc Try.prog W 0 sp true m 3 (([u, v, z].drop 0).take (Try.prog.cellsOf 3)) = ys[0]? := hf 0 _ rfl
    have h1 : DataW.trod enc Try.prog W 0 sp true m 3 (([u, v, z].drop 1).take (Try.prog.cellsOf 3)) = ys[1]? := hf 1 _ rfl
    have h2 : DataW.trod enc Try.prog W 0 sp true m 3 (([u, v, z].drop 2).take (Try.prog.cellsOf 3)) = ys[2]? := hf 2 _ rfl
    rw [cells3'] at h0 h1 h2
    rw [List.getElem?_eq_getElem (by rw [hyl3]; decide)] at h0 h1 h2
    obtain ⟨a, ha, _⟩ := DataW.trod_int Try.underlying3 h0
    obtain ⟨b, hb, _⟩ := DataW.trod_int Try.underlying3 h1
    obtain ⟨c, hc, _⟩ := DataW.trod_int Try.underlying3 h2
    simp at ha hb hc
    exact ⟨⟨a, b, c⟩, by simp [eMm, ha, hb, hc], trivial⟩
/-- What is known of a step that came in. -/
structure OpQ (W : World) (o : Opx) (b : Nat) : Prop where
  f : FlRows W W.heap.size o.f o.fA o.fc o.fB o.fd
  who : RowAt W W.heap.size 3 eMm o.wA o.who
  ms : Drs W W.heap.size o.mA o.ms
  s1 : o.f.slots.length ≤ b
  s2 : o.f.have_.length ≤ b
  s3 : o.who.length ≤ b
  s4 : o.ms.length ≤ b
  s5 : ∀ r ∈ o.ms, r.d.body.length ≤ b
set_option maxRecDepth 100000 in
theorem elem95 (n : Nat) (cs : List Value) (y : DataW H × List MemPlace) (h : DataW.trod enc Try.prog W 0 sp true n 95 cs = some y) : ∃ o, cs = eOpx o ∧ OpQ W o (Rows.uptoBulk y.1) := by
  obtain ⟨ys, m, _, rfl, hlen, hyl, hf⟩ := DataW.trod_struct Try.underlying95 h
  rw [cells95] at hlen
  have hyl7 : ys.length = 7 := hyl
  match cs, hlen with
  | [u0, u1, u2, u3, u4, u5, u6, u7, u8, u9, u10, u11, u12, u13, u14, u15], _ =>
    match ys, hyl7 with
    | [y0, y1, y2, y3, y4, y5, y6], _ =>
      have h0 : DataW.trod enc Try.prog W 0 sp true m 3 (([u0, u1, u2, u3, u4, u5, u6, u7, u8, u9, u10, u11, u12, u13, u14, u15].drop 0).take (Try.prog.cellsOf 3)) = some y0 := hf 0 _ rfl
      have h1 : DataW.trod enc Try.prog W 0 sp true m 3 (([u0, u1, u2, u3, u4, u5, u6, u7, u8, u9, u10, u11, u12, u13, u14, u15].drop 1).take (Try.prog.cellsOf 3)) = some y1 := hf 1 _ rfl
      have h2 : DataW.trod enc Try.prog W 0 sp true m 3 (([u0, u1, u2, u3, u4, u5, u6, u7, u8, u9, u10, u11, u12, u13, u14, u15].drop 2).take (Try.prog.cellsOf 3)) = some y2 := hf 2 _ rfl
      have h3 : DataW.trod enc Try.prog W 0 sp true m 39 (([u0, u1, u2, u3, u4, u5, u6, u7, u8, u9, u10, u11, u12, u13, u14, u15].drop 3).take (Try.prog.cellsOf 39)) = some y3 := hf 3 _ rfl
      have h4 : DataW.trod enc Try.prog W 0 sp true m 35 (([u0, u1, u2, u3, u4, u5, u6, u7, u8, u9, u10, u11, u12, u13, u14, u15].drop 10).take (Try.prog.cellsOf 35)) = some y4 := hf 4 _ rfl
      have h5 : DataW.trod enc Try.prog W 0 sp true m 93 (([u0, u1, u2, u3, u4, u5, u6, u7, u8, u9, u10, u11, u12, u13, u14, u15].drop 14).take (Try.prog.cellsOf 93)) = some y5 := hf 5 _ rfl
      have h6 : DataW.trod enc Try.prog W 0 sp true m 40 (([u0, u1, u2, u3, u4, u5, u6, u7, u8, u9, u10, u11, u12, u13, u14, u15].drop 15).take (Try.prog.cellsOf 40)) = some y6 := hf 6 _ rfl
      rw [cells3'] at h0 h1 h2
      rw [cells39] at h3
      rw [cells35] at h4
      rw [cells93] at h5
      rw [cells40'] at h6
      simp only [List.drop_zero, List.drop_succ_cons, List.take_succ_cons, List.take_zero] at h0 h1 h2 h3 h4 h5 h6
      obtain ⟨zs, k, _, _, hl4, hzl, hg⟩ := DataW.trod_struct Try.underlying35 h4
      have hz4 : zs.length = 4 := hzl
      have g0 : DataW.trod enc Try.prog W 0 sp true k 3 (([u10, u11, u12, u13].drop 0).take (Try.prog.cellsOf 3)) = zs[0]? := hg 0 _ rfl
      have g1 : DataW.trod enc Try.prog W 0 sp true k 3 (([u10, u11, u12, u13].drop 1).take (Try.prog.cellsOf 3)) = zs[1]? := hg 1 _ rfl
      have g2 : DataW.trod enc Try.prog W 0 sp true k 3 (([u10, u11, u12, u13].drop 2).take (Try.prog.cellsOf 3)) = zs[2]? := hg 2 _ rfl
      have g3 : DataW.trod enc Try.prog W 0 sp true k 3 (([u10, u11, u12, u13].drop 3).take (Try.prog.cellsOf 3)) = zs[3]? := hg 3 _ rfl
      rw [cells3'] at g0 g1 g2 g3
      rw [List.getElem?_eq_getElem (by rw [hz4]; decide)] at g0 g1 g2 g3
      obtain ⟨e, he, _⟩ := DataW.trod_int Try.underlying3 g0
      obtain ⟨l, hl, _⟩ := DataW.trod_int Try.underlying3 g1
      obtain ⟨i, hi, _⟩ := DataW.trod_int Try.underlying3 g2
      obtain ⟨c, hc, _⟩ := DataW.trod_int Try.underlying3 g3
      obtain ⟨kd, hkd, _⟩ := DataW.trod_int Try.underlying3 h0
      obtain ⟨q, hq, _⟩ := DataW.trod_int Try.underlying3 h1
      obtain ⟨inc, hinc, _⟩ := DataW.trod_int Try.underlying3 h2
      obtain ⟨r, hr, hrq⟩ := elem39 m _ y3 h3
      obtain ⟨wA, who, wc, hw, w1, w2, w3, w4, _⟩ := open_row Try.underlying93 cells168 (by decide) eMm (fun _ _ => True) elem168 h5
      obtain ⟨mA, ms, mc, hm, m1, m2, m3, m4, m5⟩ := open_row Try.underlying40 cells113' (by decide) eDr (DrQ W) elem113' h6
      have b3 : Rows.uptoBulk y3.1 ≤ Rows.uptoBulk (.agg ([y0, y1, y2, y3, y4, y5, y6].map (·.1))) := bulks.agg_part (by simp)
      have b5 : Rows.uptoBulk y5.1 ≤ Rows.uptoBulk (.agg ([y0, y1, y2, y3, y4, y5, y6].map (·.1))) := bulks.agg_part (by simp)
      have b6 : Rows.uptoBulk y6.1 ≤ Rows.uptoBulk (.agg ([y0, y1, y2, y3, y4, y5, y6].map (·.1))) := bulks.agg_part (by simp)
      simp at he hl hi hc hkd hq hinc
      simp [eRw] at hr
      refine ⟨⟨kd, q, inc, r.f, r.X, r.cX, r.Y, r.cY, e, l, i, c, who, wA, wc, ms, mA, mc⟩, by simp [eOpx, opA, he, hl, hi, hc, hkd, hq, hinc, hr, hw, hm], hrq.1, w1, ⟨m1, fun x hx => (m5 x hx).choose_spec.2.1⟩, Nat.le_trans hrq.2.1 b3, Nat.le_trans hrq.2.2 b3, Nat.le_trans w4 b5, Nat.le_trans m4 b6, fun x hx => ?_⟩
      obtain ⟨b, hb, hq2⟩ := m5 x hx
      exact Nat.le_trans hq2.2 (Nat.le_trans hb b6)
set_option maxRecDepth 100000 in
/-- A script that came in. -/
theorem open85 {fuel : Nat} {cs : List Value} {x : DataW H × List MemPlace} (h : DataW.trod enc Try.prog W 0 sp true fuel 85 cs = some x) (hk : Rows.uptoBulk x.1 ≤ 1048576) :
    ∃ (n : Int) (A : Option Addr) (os : List Opx) (c : Nat), cs = [.int .i64 n, .slice A os.length c] ∧ ScAt W W.heap.size A os := by
  obtain ⟨ys, m, _, rfl, hlen, hyl, hf⟩ := DataW.trod_struct Try.underlying85 h
  rw [cells85] at hlen
  have hyl2 : ys.length = 2 := hyl
  match cs, hlen with
  | [u0, u1], _ =>
    match ys, hyl2 with
    | [y0, y1], _ =>
      have h0 : DataW.trod enc Try.prog W 0 sp true m 3 (([u0, u1].drop 0).take (Try.prog.cellsOf 3)) = some y0 := hf 0 _ rfl
      have h1 : DataW.trod enc Try.prog W 0 sp true m 83 (([u0, u1].drop 1).take (Try.prog.cellsOf 83)) = some y1 := hf 1 _ rfl
      rw [cells3'] at h0
      rw [cells83] at h1
      simp only [List.drop_zero, List.drop_succ_cons, List.take_succ_cons, List.take_zero] at h0 h1
      obtain ⟨n, hn, _⟩ := DataW.trod_int Try.underlying3 h0
      obtain ⟨A, os, c, hA, a1, a2, a3, a4, a5⟩ := open_row Try.underlying83 cells95 (by decide) eOpx (OpQ W) elem95 h1
      have b1 : Rows.uptoBulk y1.1 ≤ Rows.uptoBulk (.agg ([y0, y1].map (·.1))) := bulks.agg_part (by simp)
      simp at hn
      refine ⟨n, A, os, c, by rw [hn, hA], a1, fun o ho => ?_, by have := Nat.le_trans a4 (Nat.le_trans b1 hk); omega⟩
      obtain ⟨b, hb, q⟩ := a5 o ho
      have hb' : b ≤ 1048576 := Nat.le_trans hb (Nat.le_trans b1 hk)
      exact ⟨q.f, q.who, q.ms, Nat.le_trans q.s1 hb', Nat.le_trans q.s2 hb', Nat.le_trans q.s3 hb', by rw [List.length_map]; exact Nat.le_trans q.s4 hb', fun d hd => by
        obtain ⟨r, hr, rfl⟩ := List.mem_map.1 hd
        exact Nat.le_trans (q.s5 r hr) hb'⟩
end
end Go.Proofs.Ytcffhfcjfjfokaa
