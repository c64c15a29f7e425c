/- Insts NodeL PlayL Starts, joined. -/
import Derived.Test.YtfbeggdbjpmppaaMg15
set_option linter.unusedVariables false
set_option linter.unusedSimpArgs false
namespace Go.Proofs.Ytfbeggdbjpmppaa
open Go Go.RowKit
def zero46 : Value := .agg #[.int .i64 0, .int .i64 0, .int .i64 0, .int .i64 0, .slice none 0 0]
theorem run_zero46 (W : World) : (zeroValue 46).run Try.prog W = .ok zero46 W := by kernel_rfl
def zero52 : Value := .agg #[.int .i64 0, .int .i64 0, .int .i64 0, .int .i64 0, .int .i64 0, .int .i64 0, .int .i64 0, .int .i64 0, .int .i64 0, .int .i64 0, .slice none 0 0, .slice none 0 0]
theorem run_zero52 (W : World) : (zeroValue 52).run Try.prog W = .ok zero52 W := by kernel_rfl
theorem build52 (W : World) (d : Dn) (M : Option Addr) (cM : Nat) (T : Option Addr) (cT : Nat) : (Instr.build 52 #[(0, .int .i64 d.pid), (1, .int .i64 d.inc), (2, .agg (vidC d.frm)), (3, .agg (viewA d.v M d.mem.length cM)), (4, .slice T d.tr.length cT)]).run Try.prog W = .ok (.agg (dnA d M cM T cT)) W := by kernel_rfl
theorem one_dnA (d : Dn) (M : Option Addr) (cM : Nat) (T : Option Addr) (cT : Nat) : (dnA d M cM T cT).all (·.oneCell') = true := all_oneCell_toArray (cs := eDn ⟨d, M, cM, T, cT⟩) (one_eDn _)
theorem bs37 (W : World) (d : Dn) (M : Option Addr) (cM : Nat) (T : Option Addr) (cT : Nat) : (Instr.buildSlice 37 1 #[(0, .agg (dnA d M cM T cT))]).run Try.prog W = .ok (.slice (some ⟨W.heap.size, 0, none⟩) 1 1) (W.alloc (.cells (dnA d M cM T cT) 52)) := by kernel_rfl
def DB (t : Tm) : Prop := ∀ d ∈ t.D, d.mem.length ≤ 16 ∧ d.tr.length ≤ 16
theorem upS_id (S : Nat → St) (i : Nat) : upS S i (S i) = S := funext fun k => by
  unfold upS; split
  · rename_i e; rw [e]
  · rfl
theorem Sm.cellv {l : List Nat} {w W : World} (h : Sm l w W) {b o : Nat} {v : Value} (hc : w.cell? ⟨b, o, none⟩ = some v) (hl : b ∈ l) : W.cell? ⟨b, o, none⟩ = some v := cell_sm hc hl h
set_option maxRecDepth 100000 in
set_option maxHeartbeats 8000000 in
theorem installs_any {w : World} {K : Nat → Nat} {h z m i : Nat} {t : Tm} {X : TX} (T : TmM w K h z m t X) (O : t.Ok m) (hi : i < m) (hmz : m ≤ z) (hz : z ≤ 16) (hl : (t.E i).length ≤ 1000000000) (hdl : t.D.length ≤ 1000000000) (hdb : DB t) :
    Calls Try.prog 20 #[.pointer (some ⟨h, 0, none⟩), .int .i64 i] w fun e w' => e = .returned (.bool true) ∧ TP w K h z m (t.inst i) w' := by
  refine calls_vc tab_ok Try.func20 rfl ?_
  have hiz : i < z := by omega
  obtain ⟨on, oR, oH, oN⟩ := O.nd i hi
  have n16 := O.n16
  obtain ⟨tb, ib, eb, B, kt, ki, ke⟩ := T.bks (by omega)
  have hla : ∀ b ∈ [h, tb, ib, eb], b < w.heap.size := fun b hb => by
    simp only [List.mem_cons, List.not_mem_nil, or_false] at hb
    rcases hb with rfl | rfl | rfl | rfl
    · exact T.hs
    · exact B.tz
    · exact B.iz
    · exact B.ez
  have La := T.l_at (l := [h, tb, ib, eb]) B (by simp)
  have Lp := T.l_ptr (l := [h, tb, ib, eb]) B (by simp) hi hiz
  have s0 := Sm.refl [h, tb, ib, eb] w
  have A0 := T.ag i hi
  conv => whnf
  repeat ((conv => whnf); first | (refine VLoad.mk _ (La.at s0) ?_) | (refine VLoad.mk _ (Lp.at s0) ?_) | (refine VCmp.tt (by omega) ?_) | (refine VCmp.ff (by omega) ?_) | (refine VIn.mk (IntWalk.i64_in _ (by omega)) ?_) | (refine VIdx.mk _ rfl (by omega) ?_) | (refine VIdx.mk 0 rfl (by omega) ?_))
  try (conv => whnf)
  refine VCall.mk _ (view_any (X.ag i) (t.S i) (X.M i) (X.cM i) w.heap.size w A0.ag A0.hb (Nat.le_refl _) A0.row.row oR.rinv.len) ?_
  rintro _ x1 ⟨VA, cVA, rfl, rVA, b1⟩
  refine ⟨_, rfl, ?_⟩
  have z1 := b1.size
  repeat ((conv => whnf); first | (refine VCmp.tt (by omega) ?_) | (refine VCmp.ff (by omega) ?_) | (refine VIn.mk (IntWalk.i64_in _ (by omega)) ?_) | (refine VIdx.mk _ rfl (by omega) ?_) | (refine VIdx.mk 0 rfl (by omega) ?_))
  try (conv => whnf)
  refine .mk _ run_zero46 ?_
  conv => whnf
  refine .mk fun x2 hx2 => ?_
  repeat ((conv => whnf); first | (refine VCmp.tt (by omega) ?_) | (refine VCmp.ff (by omega) ?_) | (refine VIn.mk (IntWalk.i64_in _ (by omega)) ?_) | (refine VIdx.mk _ rfl (by omega) ?_) | (refine VIdx.mk 0 rfl (by omega) ?_))
  try (conv => whnf)
  refine VStore.new (c' := viewA (t.S i).vid VA (t.S i).mem.length cVA) hx2 (by kernel_rfl) rfl (one_viewA _ _ _ _) fun x3 hx3 => ?_
  have c3 : Below x1.heap.size x1 x3 := by rw [hx3.out]; exact (Below.refl _ _).alloc (Nat.le_refl _) _
  have z3 : x3.heap.size = x1.heap.size + 1 := by rw [hx3.out]; simp
  have r3 : x3.rangeAt x1.heap.size 0 (viewA (t.S i).vid VA (t.S i).mem.length cVA).toList := by rw [hx3.out]; exact range_new x1 _ 46
  clear hx2 hx3 x2
  have b3 : Below w.heap.size w x3 := b1.trans (c3.mono z1)
  have T3 := T.below b3
  have s3 : Sm [h, tb, ib, eb] w x3 := .below b3 hla
  have A3 := T3.ag i hi
  repeat ((conv => whnf); first | (refine VLoad.mk _ (La.at s3) ?_) | (refine VLoad.mk _ (Lp.at s3) ?_) | (refine VCmp.tt (by omega) ?_) | (refine VCmp.ff (by omega) ?_) | (refine VIn.mk (IntWalk.i64_in _ (by omega)) ?_) | (refine VIdx.mk _ rfl (by omega) ?_) | (refine VIdx.mk 0 rfl (by omega) ?_))
  try (conv => whnf)
  cases hag : (t.S i).agreed with
  | none =>
    refine VCall.mk _ (install_none (X.ag i) (t.S i) (X.M i) (X.cM i) x3 A3.ag A3.hb oR.inv hag) ?_
    rintro _ x4 ⟨rfl, hL⟩
    refine ⟨_, rfl, ?_⟩
    obtain ⟨T4, Q4⟩ := T3.agent' hi hL rfl rfl
    rw [upS_id] at T4
    repeat ((conv => whnf); first | (refine VCmp.tt (by omega) ?_) | (refine VCmp.ff (by omega) ?_) | (refine VIn.mk (IntWalk.i64_in _ (by omega)) ?_) | (refine VIdx.mk _ rfl (by omega) ?_) | (refine VIdx.mk 0 rfl (by omega) ?_))
    try (conv => whnf)
    refine .mk _ run_zero46 ?_
    conv => whnf
    refine .mk fun x5 hx5 => ?_
    repeat ((conv => whnf); first | (refine VCmp.tt (by omega) ?_) | (refine VCmp.ff (by omega) ?_) | (refine VIn.mk (IntWalk.i64_in _ (by omega)) ?_) | (refine VIdx.mk _ rfl (by omega) ?_) | (refine VIdx.mk 0 rfl (by omega) ?_))
    try (conv => whnf)
    refine VStore.new (c' := viewA Vid.zero none 0 0) hx5 (by kernel_rfl) rfl (one_viewA _ _ _ _) fun x6 hx6 => ?_
    have c6 : Below x4.heap.size x4 x6 := by rw [hx6.out]; exact (Below.refl _ _).alloc (Nat.le_refl _) _
    repeat ((conv => whnf); first | (refine VCmp.tt (by omega) ?_) | (refine VCmp.ff (by omega) ?_) | (refine VIn.mk (IntWalk.i64_in _ (by omega)) ?_) | (refine VIdx.mk _ rfl (by omega) ?_) | (refine VIdx.mk 0 rfl (by omega) ?_))
    try (conv => whnf)
    exact .mk ⟨rfl, K, X, by rw [Tm.inst_none hag]; exact T4.below c6, ((Ro.below b3).trans (Q4.more fun r hr => by omega)).trans (Ro.below c6)⟩
  | some a =>
    obtain ⟨O', oF, oe1, oe2, oh, oi, op, orr⟩ := TI.inst O hi hag
    refine VCall.mk _ (install_some (X.ag i) (t.S i) (X.M i) (X.cM i) x3 A3.ag A3.hb oR.inv a hag) ?_
    rintro _ x4 ⟨NA, cNA, TT, cTT, M', cM', rfl, hL, rM', rNA, rTT⟩
    refine ⟨_, rfl, ?_⟩
    have hiR := install_ris oR hag
    obtain ⟨hR', -, -, -, -, hvid', hmem', hown', hopn', hn', hself', hinc'⟩ := hiR
    obtain ⟨bT, oT, rfl, -⟩ := rTT (List.length_pos_of_mem oi)
    have hK0 : ∀ b, x3.heap.size ≤ b → K b = 0 := fun b hb => T3.kz b hb
    obtain ⟨T4, Q4⟩ := T3.agent hi hL (by rw [hmem']; exact RowK.new rM' hK0) hinc'
    have z4 := Q4.size
    have q34 : Sm [h, tb, ib, eb, x1.heap.size] x3 x4 := fun b hb => by
      refine Q4.same b ?_ ?_
      · simp only [List.mem_cons, List.not_mem_nil, or_false] at hb
        rcases hb with rfl | rfl | rfl | rfl | rfl
        · exact T3.hs
        · have := B.tz; have := b3.size; omega
        · have := B.iz; have := b3.size; omega
        · have := B.ez; have := b3.size; omega
        · omega
      · simp only [List.mem_cons, List.not_mem_nil, or_false] at hb
        rcases hb with rfl | rfl | rfl | rfl | rfl
        · rw [T.hk]; omega
        · rw [kt]; omega
        · rw [ki]; omega
        · rw [ke]; omega
        · rw [T.kz _ z1]; omega
    have r4 : x4.rangeAt x1.heap.size 0 (viewA (t.S i).vid VA (t.S i).mem.length cVA).toList := range_same r3 (q34 _ (by simp))
    repeat ((conv => whnf); first | (refine VCmp.tt (by omega) ?_) | (refine VCmp.ff (by omega) ?_) | (refine VIn.mk (IntWalk.i64_in _ (by omega)) ?_) | (refine VIdx.mk _ rfl (by omega) ?_) | (refine VIdx.mk 0 rfl (by omega) ?_))
    try (conv => whnf)
    refine .mk _ run_zero46 ?_
    conv => whnf
    refine .mk fun x5 hx5 => ?_
    repeat ((conv => whnf); first | (refine VCmp.tt (by omega) ?_) | (refine VCmp.ff (by omega) ?_) | (refine VIn.mk (IntWalk.i64_in _ (by omega)) ?_) | (refine VIdx.mk _ rfl (by omega) ?_) | (refine VIdx.mk 0 rfl (by omega) ?_))
    try (conv => whnf)
    refine VStore.new (c' := viewA a.vid NA a.mem.length cNA) hx5 (by kernel_rfl) rfl (one_viewA _ _ _ _) fun x6 hx6 => ?_
    have c6 : Below x4.heap.size x4 x6 := by rw [hx6.out]; exact (Below.refl _ _).alloc (Nat.le_refl _) _
    have z6 : x6.heap.size = x4.heap.size + 1 := by rw [hx6.out]; simp
    have r6 : x6.rangeAt x4.heap.size 0 (viewA a.vid NA a.mem.length cNA).toList := by rw [hx6.out]; exact range_new x4 _ 46
    clear hx5 hx6 x5
    have r46 := range_same r4 (c6.block x1.heap.size (by omega))
    have T6 := T4.below c6
    have B6 : Bks x6 { X with M := fun k => if k = i then M' else X.M k, cM := fun k => if k = i then cM' else X.cM k } tb ib eb := ⟨B.t, B.i, B.e, by have := B.tz; have := b3.size; omega, by have := B.iz; have := b3.size; omega, by have := B.ez; have := b3.size; omega⟩
    have hinc6 : (upS t.S i (t.S i).install i).inc = (t.S i).inc := by rw [upS_same]; exact hinc'
    have Li := T6.l_inc (l := [h, tb, ib, x1.heap.size, x4.heap.size]) B6 (by simp)
    have Lv := T6.l_iv (l := [h, tb, ib, x1.heap.size, x4.heap.size]) B6 (by simp) hiz
    rw [show ({ t with S := upS t.S i (t.S i).install } : Tm).S i = upS t.S i (t.S i).install i from rfl, hinc6] at Lv
    have Lo : Ld Try.prog 29 x1.heap.size 0 (Sm [h, tb, ib, x1.heap.size, x4.heap.size] x6) (.agg (vidC (t.S i).vid)) := ⟨fun W hW => load_agg (by kernel_rfl) (by kernel_rfl) (range_sub (n := 4) (range_same r46 (hW _ (by simp))) 0 rfl)⟩
    have Lw : Ld Try.prog 46 x4.heap.size 0 (Sm [h, tb, ib, x1.heap.size, x4.heap.size] x6) (.agg (viewA a.vid NA a.mem.length cNA)) := ⟨fun W hW => load_agg (by kernel_rfl) (by kernel_rfl) (range_same r6 (hW _ (by simp)))⟩
    have sd6 : Sm [h, tb, ib, x1.heap.size, x4.heap.size] x6 x6.drew := fun _ _ => rfl
    repeat ((conv => whnf); first | (refine VCmp.tt (by omega) ?_) | (refine VCmp.ff (by omega) ?_) | (refine VIn.mk (IntWalk.i64_in _ (by omega)) ?_) | (refine VIdx.mk _ rfl (by omega) ?_) | (refine VIdx.mk 0 rfl (by omega) ?_))
    try (conv => whnf)
    refine VDraw.mk 14 [([0, 1, 2, 3, 4, 5, 6, 7, 8, 9, 10, 11, 12], 13), ([], 14)] [] (Sm [h, tb, ib, x1.heap.size, x4.heap.size] x6) (by kernel_rfl) (by kernel_rfl) (sd6) ?_
    repeat ((conv => whnf); first | (refine VLoad.mk _ Li ?_) | (refine VLoad.mk _ Lv ?_) | (refine VLoad.mk _ Lo ?_) | (refine VLoad.mk _ Lw ?_) | (refine VCmp.tt (by omega) ?_) | (refine VCmp.ff (by omega) ?_) | (refine VIn.mk (IntWalk.i64_in _ (by omega)) ?_) | (refine VIdx.mk _ rfl (by omega) ?_) | (refine VIdx.mk 0 rfl (by omega) ?_))
    try (conv => whnf)
    refine VBuild.mk _ (fun W => build52 W (t.dn i a) NA cNA (some ⟨bT, oT, none⟩) cTT) ?_
    repeat ((conv => whnf); first | (refine VCmp.tt (by omega) ?_) | (refine VCmp.ff (by omega) ?_) | (refine VIn.mk (IntWalk.i64_in _ (by omega)) ?_) | (refine VIdx.mk _ rfl (by omega) ?_) | (refine VIdx.mk 0 rfl (by omega) ?_))
    try (conv => whnf)
    have hl6 : ∀ b ∈ [h, tb, ib, x1.heap.size, x4.heap.size], b < x6.heap.size := fun b hb => by
      have := T6.hs; have := B6.tz; have := B6.iz
      simp only [List.mem_cons, List.not_mem_nil, or_false] at hb
      rcases hb with rfl | rfl | rfl | rfl | rfl <;> omega
    refine .mk _ run_zero52 ?_
    conv => whnf
    refine .mk fun x7 hx7 => ?_
    have c7 : Below x6.heap.size x6 x7 := by rw [hx7.out]; exact (Below.refl _ _).drew.alloc (Nat.le_refl _) _
    repeat ((conv => whnf); first | (refine VS.mk (Sm.below c7 hl6) ?_) | (refine VCmp.tt (by omega) ?_) | (refine VCmp.ff (by omega) ?_) | (refine VIn.mk (IntWalk.i64_in _ (by omega)) ?_) | (refine VIdx.mk _ rfl (by omega) ?_) | (refine VIdx.mk 0 rfl (by omega) ?_))
    try (conv => whnf)
    refine VStore.new (c' := dnA (t.dn i a) NA cNA (some ⟨bT, oT, none⟩) cTT) hx7 (by kernel_rfl) rfl (one_dnA _ _ _ _ _) fun x8 hx8 => ?_
    have c8 : Below x6.heap.size x6 x8 := by rw [hx8.out]; exact (Below.refl _ _).drew.alloc (Nat.le_refl _) _
    have z8 : x8.heap.size = x6.heap.size + 1 := by rw [hx8.out]; simp
    have r8 : x8.rangeAt x6.heap.size 0 (dnA (t.dn i a) NA cNA (some ⟨bT, oT, none⟩) cTT).toList := by rw [hx8.out]; exact range_new x6.drew _ 52
    clear hx7 hx8 c7 x7
    have T8 := T6.below c8
    have hl8 : ∀ b ∈ [h, tb, ib, x1.heap.size, x4.heap.size, x6.heap.size], b < x8.heap.size := fun b hb => by
      simp only [List.mem_cons, List.not_mem_nil, or_false] at hb
      rcases hb with rfl | rfl | rfl | rfl | rfl | rfl
      · exact T8.hs
      · have := B6.tz; omega
      · have := B6.iz; omega
      · omega
      · omega
      · omega
    have r48 := range_same r46 (c8.block x1.heap.size (by omega))
    have r68 := range_same r6 (c8.block x4.heap.size (by omega))
    have hsm : ∀ W, Below x8.heap.size x8 W → Sm [h, tb, ib, x1.heap.size, x4.heap.size, x6.heap.size] x8 W := fun W hW => .below hW hl8
    have B8 : Bks x8 { X with M := fun k => if k = i then M' else X.M k, cM := fun k => if k = i then cM' else X.cM k } tb ib eb := ⟨B.t, B.i, B.e, hl8 _ (by simp), hl8 _ (by simp), by have := B6.ez; omega⟩
    have Ki : Ld Try.prog 27 h 3 (Below x8.heap.size x8) (.slice (some ⟨ib, 0, none⟩) z X.ic) := (T8.l_inc (l := [h, tb, ib, x1.heap.size, x4.heap.size, x6.heap.size]) B8 (by simp)).mono hsm
    have Kv := (T8.l_iv (l := [h, tb, ib, x1.heap.size, x4.heap.size, x6.heap.size]) B8 (by simp) hiz).mono hsm
    rw [show ({ t with S := upS t.S i (t.S i).install } : Tm).S i = upS t.S i (t.S i).install i from rfl, hinc6] at Kv
    have Kf : Ld Try.prog 3 h 1 (Below x8.heap.size x8) (.int .i64 t.fl) := (T8.l_fl (l := [h, tb, ib, x1.heap.size, x4.heap.size, x6.heap.size]) (by simp)).mono hsm
    have Kn : Ld Try.prog 3 h 0 (Below x8.heap.size x8) (.int .i64 t.n) := (T8.l_n (l := [h, tb, ib, x1.heap.size, x4.heap.size, x6.heap.size]) (by simp)).mono hsm
    have Kne : Ld Try.prog 3 x4.heap.size 0 (Below x8.heap.size x8) (.int .i64 a.vid.e) := ⟨fun W hW => load3 ((hsm W hW).cellv (r68 0 _ rfl) (by simp))⟩
    have Koe : Ld Try.prog 3 x1.heap.size 0 (Below x8.heap.size x8) (.int .i64 (t.S i).vid.e) := ⟨fun W hW => load3 ((hsm W hW).cellv (r48 0 _ rfl) (by simp))⟩
    have Kw : Ld Try.prog 46 x4.heap.size 0 (Below x8.heap.size x8) (.agg (viewA a.vid NA a.mem.length cNA)) := ⟨fun W hW => load_agg (by kernel_rfl) (by kernel_rfl) (range_same r68 (hsm W hW _ (by simp)))⟩
    have Kd : Ld Try.prog 52 x6.heap.size 0 (Below x8.heap.size x8) (.agg (dnA (t.dn i a) NA cNA (some ⟨bT, oT, none⟩) cTT)) := ⟨fun W hW => load_agg (by kernel_rfl) (by kernel_rfl) (range_same r8 (hsm W hW _ (by simp)))⟩
    have Kl : Ld Try.prog 37 h 5 (Below x8.heap.size x8) (.slice X.dA X.dl.length X.dc) := (T8.l_al (l := [h, tb, ib, x1.heap.size, x4.heap.size, x6.heap.size]) (by simp)).mono hsm
    have hal := agTo_len (s := t.S i) (k := t.n) (a := a) (by
      unfold St.agreed at hag
      split at hag
      · rw [on] at hag; exact hag
      · cases hag)
    have c46 : Below x4.heap.size x4 x8 := c6.trans (c8.mono (by omega))
    have rN8 := rNA.below c46
    have rT8 := rTT.below c46
    have d0 : Below x8.heap.size x8 x8.drew := (Below.refl _ _).drew
    repeat ((conv => whnf); first | (refine VS.last rfl ?_) | (refine VCmp.tt (by omega) ?_) | (refine VCmp.ff (by omega) ?_) | (refine VIn.mk (IntWalk.i64_in _ (by omega)) ?_) | (refine VIdx.mk _ rfl (by omega) ?_) | (refine VIdx.mk 0 rfl (by omega) ?_))
    try (conv => whnf)
    refine VDraw.mk 1000 [([0, 1, 2, 3, 4, 5, 6, 7, 8, 9, 10, 11, 12, 13, 14, 15, 16, 17, 18, 19, 20, 21, 22, 23, 24, 25, 26], 27), ([28, 29, 30, 31, 32], 33)] [34, 35] (Below x8.heap.size x8) (by kernel_rfl) (by kernel_rfl) (d0) ?_
    repeat ((conv => whnf); first | (refine VLoad.mk _ Kne ?_) | (refine VLoad.mk _ Koe ?_) | (refine VLoad.mk _ Kf ?_) | (refine VLoad.mk _ Kw ?_) | (refine VLoad.mk _ Ki ?_) | (refine VLoad.mk _ Kv ?_) | (refine VCmp.tt (by omega) ?_) | (refine VCmp.ff (by omega) ?_) | (refine VIn.mk (IntWalk.i64_in _ (by omega)) ?_) | (refine VIdx.mk _ rfl (by omega) ?_) | (refine VIdx.mk 0 rfl (by omega) ?_))
    try (conv => whnf)
    refine VCall.mk _ (holds_any a.vid NA cNA x8.heap.size a.mem.length a.mem i (t.S i).inc x8.drew rfl (Nat.le_refl _) (rN8.row.below d0 (Nat.le_refl _)) (by omega)) ?_
    rintro _ x9 ⟨rfl, d9⟩
    refine ⟨_, rfl, ?_⟩
    have e9 : Below x8.heap.size x8 x9 := ⟨d9.os, d9.tape, d9.output, d9.size, d9.block⟩
    repeat ((conv => whnf); first | (refine VS.mk e9 ?_) | (refine VCmp.tt (by omega) ?_) | (refine VCmp.ff (by omega) ?_) | (refine VIn.mk (IntWalk.i64_in _ (by omega)) ?_) | (refine VIdx.mk _ rfl (by omega) ?_) | (refine VIdx.mk 0 rfl (by omega) ?_))
    try (conv => whnf)
    refine VCall.mk _ (in_any (some ⟨bT, oT, none⟩) cTT x9.heap.size a.trans.length a.trans i x9 rfl (Nat.le_refl _) ((rT8.row.below e9 (Nat.le_refl _)).more e9.size) (by omega)) ?_
    rintro _ x10 ⟨rfl, hx10⟩
    refine ⟨_, rfl, ?_⟩
    subst hx10
    rw [decide_eq_true oi]
    repeat ((conv => whnf); first | (refine VS.mk e9 ?_) | (refine VCmp.tt (by omega) ?_) | (refine VCmp.ff (by omega) ?_) | (refine VIn.mk (IntWalk.i64_in _ (by omega)) ?_) | (refine VIdx.mk _ rfl (by omega) ?_) | (refine VIdx.mk 0 rfl (by omega) ?_))
    try (conv => whnf)
    obtain ⟨len, hlen⟩ : ∃ len, len = a.trans.length := ⟨_, rfl⟩
    have hTc : ∀ k y, a.trans[k]? = some y → x8.cell? ⟨bT, oT + k, none⟩ = some (.int .i64 y) := by
      obtain ⟨b', o', e', _, _, hc⟩ := rT8 (List.length_pos_of_mem oi)
      injection e' with e'
      injection e' with e1 e2
      subst e1; subst e2
      intro k y hy
      have := hc k y hy 0 _ rfl
      rwa [Nat.mul_one] at this
    have hTz : bT < x8.heap.size := by
      obtain ⟨b', o', e', _, h2, _⟩ := rT8 (List.length_pos_of_mem oi)
      injection e' with e'
      injection e' with e1 e2
      rw [e1]; exact h2
    have hTl : ∀ k y, a.trans[k]? = some y → Ld Try.prog 3 bT (oT + k) (Below x8.heap.size x8) (.int .i64 y) := fun k y hy => ⟨fun W hW => load3 ((World.cell?_of_block (a := ⟨bT, oT + k, none⟩) (hW.block bT hTz)).trans (hTc k y hy))⟩
    rw [← hlen]
    have hlen16 : len ≤ 16 := by omega
    refine VLoop.mk Nat (fun k => [(0, .pointer (some ⟨h, 0, none⟩)), (1, .int .i64 i), (7, .slice (some ⟨bT, oT, none⟩) len cTT), (9, .pointer (some ⟨x6.heap.size, 0, none⟩)), (10, .int .i64 k)]) (fun k W => k ≤ len ∧ Below x8.heap.size x8 W) (fun k => len - k) 0 ⟨rfl, rfl, rfl, rfl, rfl, trivial⟩ ⟨Nat.zero_le _, e9⟩ ?_
    rintro k wk ⟨hk, bk⟩
    have bkd := bk.drew
    by_cases hkl : k < len
    case pos =>
      obtain ⟨y, hy⟩ : ∃ y, a.trans[k]? = some y := ⟨_, List.getElem?_eq_getElem (by omega)⟩
      have Ly := hTl k y hy
      obtain ⟨y0, yn⟩ := orr y (List.mem_of_getElem? hy)
      by_cases hk0 : k = 0
      · repeat ((conv => whnf); first | (refine VCmp.tt (by omega) ?_) | (refine VCmp.ff (by omega) ?_) | (refine VIn.mk (IntWalk.i64_in _ (by omega)) ?_) | (refine VIdx.mk _ rfl (by omega) ?_) | (refine VIdx.mk 0 rfl (by omega) ?_))
        try (conv => whnf)
        refine VDraw.mk 1000 [] [0, 1, 2, 3, 4, 5, 6, 7, 8, 9, 10, 11, 12, 13, 14, 15, 16, 17, 18, 19, 20, 21, 22, 23, 24, 25, 26, 27, 28, 29, 30, 31] (Below x8.heap.size x8) (by kernel_rfl) (by kernel_rfl) (bkd) ?_
        repeat ((conv => whnf); first | (refine VLoad.mk _ Ly ?_) | (refine VLoad.mk _ Kn ?_) | (refine VCmp.tt (by omega) ?_) | (refine VCmp.ff (by omega) ?_) | (refine VIn.mk (IntWalk.i64_in _ (by omega)) ?_) | (refine VIdx.mk _ rfl (by omega) ?_) | (refine VIdx.mk 0 rfl (by omega) ?_))
        try (conv => whnf)
        exact .mk (k + 1) ⟨rfl, rfl, rfl, rfl, rfl, trivial⟩ ⟨hkl, bkd⟩ (by show len - (k + 1) < len - k; omega)
      · obtain ⟨y', hy'⟩ : ∃ y', a.trans[k - 1]? = some y' := ⟨_, List.getElem?_eq_getElem (by omega)⟩
        have Ly' := hTl (k - 1) y' hy'
        have hlt : y' < y := by
          have h1 := (List.getElem?_eq_some_iff.1 hy').2
          have h2 := (List.getElem?_eq_some_iff.1 hy).2
          rw [← h1, ← h2]
          exact List.pairwise_iff_getElem.1 op (k - 1) k (by omega) (by omega) (by omega)
        repeat ((conv => whnf); first | (refine VCmp.tt (by omega) ?_) | (refine VCmp.ff (by omega) ?_) | (refine VIn.mk (IntWalk.i64_in _ (by omega)) ?_) | (refine VIdx.mk _ rfl (by omega) ?_) | (refine VIdx.mk 0 rfl (by omega) ?_))
        try (conv => whnf)
        refine VDraw.mk 1000 [] [0, 1, 2, 3, 4, 5, 6, 7, 8, 9, 10, 11, 12, 13, 14, 15, 16, 17, 18, 19, 20, 21, 22, 23, 24, 25, 26, 27, 28, 29, 30, 31] (Below x8.heap.size x8) (by kernel_rfl) (by kernel_rfl) (bkd) ?_
        repeat ((conv => whnf); first | (refine VLoad.mk _ Ly ?_) | (refine VLoad.mk _ Ly' ?_) | (refine VLoad.mk _ Kn ?_) | (refine VIdx.mk (k - 1) (by omega) (by omega) ?_) | (refine VCmp.tt (by omega) ?_) | (refine VCmp.ff (by omega) ?_) | (refine VIn.mk (IntWalk.i64_in _ (by omega)) ?_) | (refine VIdx.mk _ rfl (by omega) ?_) | (refine VIdx.mk 0 rfl (by omega) ?_))
        try (conv => whnf)
        exact .mk (k + 1) ⟨rfl, rfl, rfl, rfl, rfl, trivial⟩ ⟨hkl, bkd⟩ (by show len - (k + 1) < len - k; omega)
    case neg =>
      repeat ((conv => whnf); first | (refine VCmp.tt (by omega) ?_) | (refine VCmp.ff (by omega) ?_) | (refine VIn.mk (IntWalk.i64_in _ (by omega)) ?_) | (refine VIdx.mk _ rfl (by omega) ?_) | (refine VIdx.mk 0 rfl (by omega) ?_))
      try (conv => whnf)
      obtain ⟨dn, hdn⟩ : ∃ dn, dn = X.dl.length := ⟨_, rfl⟩
      have hdnl : dn = t.D.length := by rw [hdn, ← T.dm, List.length_map]
      rw [← hdn] at Kl
      refine VLoop.mk Nat (fun k => [(0, .pointer (some ⟨h, 0, none⟩)), (1, .int .i64 i), (9, .pointer (some ⟨x6.heap.size, 0, none⟩)), (11, .int .i64 k)]) (fun k W => k ≤ dn ∧ Below x8.heap.size x8 W) (fun k => dn - k) 0 ⟨rfl, rfl, rfl, rfl, trivial⟩ ⟨Nat.zero_le _, bk⟩ ?_
      clear hk hkl bk bkd
      rintro j wj ⟨hj, bj⟩
      have bjd := bj.drew
      by_cases hjl : j < dn
      case pos =>
        obtain ⟨y, hy⟩ : ∃ y, X.dl[j]? = some y := ⟨_, List.getElem?_eq_getElem (by omega)⟩
        have hym := List.mem_of_getElem? hy
        have hyD : y.d ∈ t.D := by rw [← T.dm]; exact List.mem_map_of_mem hym
        obtain ⟨db, hdb', hdz⟩ := T8.a5.own.blk_of (by show 0 < X.dl.length; omega)
        have hdb2 : X.dA = some ⟨db, 0, none⟩ := hdb'
        have Kl' : Ld Try.prog 37 h 5 (Below x8.heap.size x8) (.slice (some ⟨db, 0, none⟩) dn X.dc) := by rw [← hdb2]; exact Kl
        have a5 : OwnR x8 K 5 52 12 eDn (some ⟨db, 0, none⟩) X.dc X.dl := by have := T8.a5; rw [hdb'] at this; exact this
        have ry := own_cell a5 len_eDn hy
        have Ky : Ld Try.prog 52 db (0 + j * 12) (Below x8.heap.size x8) (.agg (dnA y.d y.M y.cM y.T y.cT)) := ⟨fun W hW => load_agg (by kernel_rfl) (by kernel_rfl) (range_same ry (hW.block db hdz))⟩
        obtain ⟨yr1, yr2⟩ := T8.dr y hym
        repeat ((conv => whnf); first | (refine VLoad.mk _ (Kl'.at bj) ?_) | (refine VCmp.tt (by omega) ?_) | (refine VCmp.ff (by omega) ?_) | (refine VIn.mk (IntWalk.i64_in _ (by omega)) ?_) | (refine VIdx.mk _ rfl (by omega) ?_) | (refine VIdx.mk 0 rfl (by omega) ?_))
        try (conv => whnf)
        refine VDraw.mk 1000 [([0, 1, 2, 3, 4, 5, 6, 7], 8)] [9] (Below x8.heap.size x8) (by kernel_rfl) (by kernel_rfl) (bjd) ?_
        repeat ((conv => whnf); first | (refine VLoad.mk _ Kl' ?_) | (refine VLoad.mk _ Ky ?_) | (refine VLoad.mk _ Kd ?_) | (refine VCmp.tt (by omega) ?_) | (refine VCmp.ff (by omega) ?_) | (refine VIn.mk (IntWalk.i64_in _ (by omega)) ?_) | (refine VIdx.mk _ rfl (by omega) ?_) | (refine VIdx.mk 0 rfl (by omega) ?_))
        try (conv => whnf)
        have zjd := bjd.size
        refine VCall.mk _ (fits_any wj.drew y.d (t.dn i a) y.M y.cM y.T y.cT NA cNA (some ⟨bT, oT, none⟩) cTT (oF y.d hyD) ((yr1.row.below bjd (Nat.le_refl _)).more zjd) ((yr2.row.below bjd (Nat.le_refl _)).more zjd) ((rN8.row.below bjd (Nat.le_refl _)).more zjd) ((rT8.row.below bjd (Nat.le_refl _)).more zjd) ⟨(hdb y.d hyD).1, (hdb y.d hyD).2, by show a.mem.length ≤ 16; omega, by show a.trans.length ≤ 16; omega⟩) ?_
        rintro _ x11 ⟨rfl, d11⟩
        refine ⟨_, rfl, ?_⟩
        have b11 : Below x8.heap.size x8 x11 := bjd.trans (d11.mono zjd)
        repeat ((conv => whnf); first | (refine VS.mk b11 ?_) | (refine VCmp.tt (by omega) ?_) | (refine VCmp.ff (by omega) ?_) | (refine VIn.mk (IntWalk.i64_in _ (by omega)) ?_) | (refine VIdx.mk _ rfl (by omega) ?_) | (refine VIdx.mk 0 rfl (by omega) ?_))
        try (conv => whnf)
        exact .mk (j + 1) ⟨rfl, rfl, rfl, rfl, trivial⟩ ⟨hjl, b11⟩ (by show dn - (j + 1) < dn - j; omega)
      case neg =>
        have T9 := T8.below bj
        have zj := bj.size
        repeat ((conv => whnf); first | (refine VLoad.mk _ (Kl.at bj) ?_) | (refine VCmp.tt (by omega) ?_) | (refine VCmp.ff (by omega) ?_) | (refine VIn.mk (IntWalk.i64_in _ (by omega)) ?_) | (refine VIdx.mk _ rfl (by omega) ?_) | (refine VIdx.mk 0 rfl (by omega) ?_))
        try (conv => whnf)
        have sj : Sm [h, x6.heap.size] wj wj.drew := fun _ _ => rfl
        have rj := range_same r8 (bj.block x6.heap.size (by omega))
        have Jl : Ld Try.prog 37 h 5 (Sm [h, x6.heap.size] wj) (.slice X.dA dn X.dc) := by rw [hdn]; exact T9.l_al (by simp)
        have Jd : Ld Try.prog 52 x6.heap.size 0 (Sm [h, x6.heap.size] wj) (.agg (dnA (t.dn i a) NA cNA (some ⟨bT, oT, none⟩) cTT)) := ⟨fun W hW => load_agg (by kernel_rfl) (by kernel_rfl) (range_same rj (hW _ (by simp)))⟩
        have hlj : ∀ b ∈ [h, x6.heap.size], b < wj.heap.size := fun b hb => by
          simp only [List.mem_cons, List.not_mem_nil, or_false] at hb
          rcases hb with rfl | rfl
          · exact T9.hs
          · omega
        refine VDraw.mk 10 [([0, 1, 2, 3, 4, 5], 6), ([], 7), ([8, 9], 10)] [] (Sm [h, x6.heap.size] wj) (by kernel_rfl) (by kernel_rfl) (sj) ?_
        repeat ((conv => whnf); first | (refine VLoad.mk _ Jl ?_) | (refine VLoad.mk _ Jd ?_) | (refine VCmp.tt (by omega) ?_) | (refine VCmp.ff (by omega) ?_) | (refine VIn.mk (IntWalk.i64_in _ (by omega)) ?_) | (refine VIdx.mk _ rfl (by omega) ?_) | (refine VIdx.mk 0 rfl (by omega) ?_))
        try (conv => whnf)
        refine VBs.mk _ _ (bs37 wj.drew (t.dn i a) NA cNA (some ⟨bT, oT, none⟩) cTT) ?_
        have c12 : Below wj.heap.size wj (wj.drew.alloc (.cells (dnA (t.dn i a) NA cNA (some ⟨bT, oT, none⟩) cTT) 52)) := (Below.refl _ _).drew.alloc (Nat.le_refl _) _
        have hnc : ∀ j u, (eDn ⟨t.dn i a, NA, cNA, some ⟨bT, oT, none⟩, cTT⟩)[j]? = some u → (wj.drew.alloc (.cells (dnA (t.dn i a) NA cNA (some ⟨bT, oT, none⟩) cTT) 52)).cell? ⟨wj.drew.heap.size, j, none⟩ = some u := fun j u hu => by
          have := range_new wj.drew (dnA (t.dn i a) NA cNA (some ⟨bT, oT, none⟩) cTT) 52 j u hu
          rwa [Nat.zero_add] at this
        generalize wj.drew.alloc (.cells (dnA (t.dn i a) NA cNA (some ⟨bT, oT, none⟩) cTT) 52) = x12 at c12 hnc ⊢
        have z12 := c12.size
        have T12 := T9.below c12
        repeat ((conv => whnf); first | (refine VS.mk (Sm.below c12 hlj) ?_) | (refine VCmp.tt (by omega) ?_) | (refine VCmp.ff (by omega) ?_) | (refine VIn.mk (IntWalk.i64_in _ (by omega)) ?_) | (refine VIdx.mk _ rfl (by omega) ?_) | (refine VIdx.mk 0 rfl (by omega) ?_))
        try (conv => whnf)
        have eo := T12.a5.own
        refine VApp.keep 0 12 128 _ Try.underlying37 info52 rfl (by decide) eDn len_eDn one_eDn X.dl ⟨t.dn i a, NA, cNA, some ⟨bT, oT, none⟩, cTT⟩ hdn.symm eo hnc (by omega) (by omega) (by omega) fun A7 c7 x13 hO hO' hg13 hk13 => ?_
        have Q13 : Ro (· = 5) K (roleN K A7 5) x12 x13 := Ro.app hg13 hk13 T12.a5.rl
        have k6 : K x6.heap.size = 0 := T6.kz _ (Nat.le_refl _)
        have q13 : Sm [h, x6.heap.size] wj x13 := (Sm.below c12 hlj).trans fun b hb => by
          have hb' := hlj b hb
          refine Q13.same b (by omega) ?_
          simp only [List.mem_cons, List.not_mem_nil, or_false] at hb
          rcases hb with rfl | rfl
          · rw [T.hk]; omega
          · rw [k6]; omega
        repeat ((conv => whnf); first | (refine VS.mk q13 ?_) | (refine VCmp.tt (by omega) ?_) | (refine VCmp.ff (by omega) ?_) | (refine VIn.mk (IntWalk.i64_in _ (by omega)) ?_) | (refine VIdx.mk _ rfl (by omega) ?_) | (refine VIdx.mk 0 rfl (by omega) ?_))
        try (conv => whnf)
        have ht13 := there_same T12.ht (Q13.same h T12.hs (by rw [T.hk]; omega))
        refine VStore.cell (by kernel_rfl) (ht13 5 (by omega)).1 (ht13 5 (by omega)).2 rfl rfl fun x14 hx14 => ?_
        have b812 : Below x8.heap.size x8 x12 := bj.trans (c12.mono zj)
        have c412 : Below x4.heap.size x4 x12 := c46.trans (b812.mono (by omega))
        have rMk : RowK x12 K 3 eMb NA a.mem := RowK.new (rNA.below c412) (fun b hb => T3.kz b hb)
        have rTk : RowK x12 K 1 eInt (some ⟨bT, oT, none⟩) a.trans := RowK.new (rTT.below c412) (fun b hb => T3.kz b hb)
        obtain ⟨T14, Q14⟩ := T12.dnpush (w2 := x14) (y := ⟨t.dn i a, NA, cNA, some ⟨bT, oT, none⟩, cTT⟩) hO hg13 hk13 rMk rTk (Nat.zero_add 5) (by rw [← hdn]; exact hx14.out)
        have hN : NoIn { t with S := upS t.S i (t.S i).install, D := t.D ++ [t.dn i a] } i := by
          refine ⟨O.n16, ?_, ?_, ?_, fun x hx => ?_, hl⟩
          · show (upS t.S i _ i).n = t.n; rw [upS_same]; exact hn'.trans on
          · show (upS t.S i _ i).own.set.length = 16; rw [upS_same]; exact hR'.inv.own.set
          · show (upS t.S i _ i).own.vec.length = 16; rw [upS_same]; exact hR'.inv.own.vec
          · have := ((O.nd i hi).2.2.2.each x hx).1.ok
            exact ⟨this.set, this.vec⟩
        have Q0 : Ro (· ≠ 0) K K w x12 := ((Ro.below b3).trans (Q4.more fun r hr => by omega)).trans (Ro.below c412)
        repeat ((conv => whnf); first | (refine VS.last rfl ?_) | (refine VCmp.tt (by omega) ?_) | (refine VCmp.ff (by omega) ?_) | (refine VIn.mk (IntWalk.i64_in _ (by omega)) ?_) | (refine VIdx.mk _ rfl (by omega) ?_) | (refine VIdx.mk 0 rfl (by omega) ?_))
        try (conv => whnf)
        refine VCall.mk _ (notes_any T14 hi hmz hz hN) ?_
        rintro _ x15 ⟨rfl, p15⟩
        refine ⟨_, rfl, ?_⟩
        repeat ((conv => whnf); first | (refine VCmp.tt (by omega) ?_) | (refine VCmp.ff (by omega) ?_) | (refine VIn.mk (IntWalk.i64_in _ (by omega)) ?_) | (refine VIdx.mk _ rfl (by omega) ?_) | (refine VIdx.mk 0 rfl (by omega) ?_))
        try (conv => whnf)
        exact .mk ⟨rfl, by
          have := TP.trans (Q0.trans (Q14.more fun r hr => by omega)) p15
          have e : ({ ({ t with S := upS t.S i (t.S i).install, D := t.D ++ [t.dn i a] } : Tm) with E := noteE t.n t.E i (upS t.S i (t.S i).install i) } : Tm) = t.inst i := by rw [Tm.inst_some hag]; unfold Tm.upd; rw [upS_same]
          rw [← e]
          exact this⟩
end Go.Proofs.Ytfbeggdbjpmppaa
namespace Go.Proofs.Ytfbeggdbjpmppaa
open Go Go.RowKit
set_option maxRecDepth 100000 in
theorem node_any {w : World} {K : Nat → Nat} {h z m : Nat} {t : Tm} {X : TX} (T : TmM w K h z m t X) (n1 : 1 ≤ t.n) (n16 : t.n ≤ 16) (x : Int) :
    Calls Try.prog 40 #[.pointer (some ⟨h, 0, none⟩), .int .i64 x] w fun e w' => e = .returned (.int .i64 (t.node x)) ∧ w' = w := by
  refine calls_vc tab_ok Try.func40 rfl ?_
  have hm1 := Int.tmod_lt_of_pos x (by omega : (0 : Int) < t.n)
  have hm2 := Int.lt_tmod_of_pos x (by omega : (0 : Int) < t.n)
  have s0 := Sm.refl [h] w
  have Ln := T.l_n (l := [h]) (by simp)
  conv => whnf
  repeat ((conv => whnf); first | (refine VLoad.mk _ (Ln.at s0) ?_) | (refine VCmp.tt (by omega) ?_) | (refine VCmp.ff (by omega) ?_) | (refine VIn.mk (IntWalk.i64_in _ (by omega)) ?_) | (refine VIdx.mk _ rfl (by omega) ?_) | (refine VIdx.mk 0 rfl (by omega) ?_))
  try (conv => whnf)
  refine VQ.mk (.int .i64 (x.tmod t.n)) (fun a ha W _ => ?_) ?_
  · have h3 := ha (.tmp 5) _ rfl
    have h4 := ha (.tmp 9) _ rfl
    have := rem_any x t.n (by omega) (IntWalk.i64_in _ (by omega)) W
    have hg : Sem.run Try.prog (eqGuard .rem 3 (.tmp 5) (.tmp 9) (.int .i64 x) (.int .i64 t.n)) W = .ok () W := rfl
    simp only [execOp, h3, h4, Sem.run_bind, hg, this, Result.andThen_ok, Sem.run_pure]
  by_cases hneg : x.tmod t.n < 0
  · have e : (t.node x : Int) = x.tmod t.n + t.n := by unfold Tm.node; rw [if_pos hneg]; omega
    repeat ((conv => whnf); first | (refine VLoad.mk _ (Ln.at s0) ?_) | (refine VCmp.tt (by omega) ?_) | (refine VCmp.ff (by omega) ?_) | (refine VIn.mk (IntWalk.i64_in _ (by omega)) ?_) | (refine VIdx.mk _ rfl (by omega) ?_) | (refine VIdx.mk 0 rfl (by omega) ?_))
    try (conv => whnf)
    exact .mk ⟨by rw [e]; rfl, rfl⟩
  · have e : (t.node x : Int) = x.tmod t.n := by unfold Tm.node; rw [if_neg hneg]; omega
    repeat ((conv => whnf); first | (refine VCmp.tt (by omega) ?_) | (refine VCmp.ff (by omega) ?_) | (refine VIn.mk (IntWalk.i64_in _ (by omega)) ?_) | (refine VIdx.mk _ rfl (by omega) ?_) | (refine VIdx.mk 0 rfl (by omega) ?_))
    try (conv => whnf)
    exact .mk ⟨by rw [e]; rfl, rfl⟩
def sizeN (n : Int) : Nat := if n < 2 then 2 else if 16 < n then 16 else n.toNat
set_option maxRecDepth 100000 in
theorem size_any (n : Int) (w : World) : Calls Try.prog 15 #[.int .i64 n] w fun e w' => e = .returned (.int .i64 (sizeN n)) ∧ w' = w := by
  refine calls_vc tab_ok Try.func15 rfl ?_
  conv => whnf
  by_cases h1 : n < 2
  · have e : (sizeN n : Int) = 2 := by unfold sizeN; rw [if_pos h1]; rfl
    repeat ((conv => whnf); first | (refine VCmp.tt (by omega) ?_) | (refine VCmp.ff (by omega) ?_) | (refine VIn.mk (IntWalk.i64_in _ (by omega)) ?_) | (refine VIdx.mk _ rfl (by omega) ?_) | (refine VIdx.mk 0 rfl (by omega) ?_))
    try (conv => whnf)
    exact .mk ⟨by rw [e]; rfl, rfl⟩
  · by_cases h2 : 16 < n
    · have e : (sizeN n : Int) = 16 := by unfold sizeN; rw [if_neg h1, if_pos h2]; rfl
      repeat ((conv => whnf); first | (refine VCmp.tt (by omega) ?_) | (refine VCmp.ff (by omega) ?_) | (refine VIn.mk (IntWalk.i64_in _ (by omega)) ?_) | (refine VIdx.mk _ rfl (by omega) ?_) | (refine VIdx.mk 0 rfl (by omega) ?_))
      try (conv => whnf)
      exact .mk ⟨by rw [e]; rfl, rfl⟩
    · have e : (sizeN n : Int) = n := by unfold sizeN; rw [if_neg h1, if_neg h2]; omega
      repeat ((conv => whnf); first | (refine VCmp.tt (by omega) ?_) | (refine VCmp.ff (by omega) ?_) | (refine VIn.mk (IntWalk.i64_in _ (by omega)) ?_) | (refine VIdx.mk _ rfl (by omega) ?_) | (refine VIdx.mk 0 rfl (by omega) ?_))
      try (conv => whnf)
      exact .mk ⟨by rw [e]; rfl, rfl⟩
end Go.Proofs.Ytfbeggdbjpmppaa
namespace Go.Proofs.Ytfbeggdbjpmppaa
open Go Go.RowKit
abbrev spA (s : Sp) : Array Value := #[.int .i64 s.kd, .int .i64 s.i, .int .i64 s.j, .int .i64 s.k, .int .i64 s.m]
structure Szs (t : Tm) : Prop where
  e : ∀ k, (t.E k).length ≤ 1000000000
  d : t.D.length ≤ 1000000000
  db : DB t
  inc : ∀ k, (t.S k).inc ≤ 1000000000
set_option maxRecDepth 100000 in
set_option maxHeartbeats 4000000 in
theorem team_plays {w : World} {K : Nat → Nat} {h : Nat} {t : Tm} {X : TX} (T : TmM w K h t.n t.n t X) (O : t.Ok t.n) (Z : Szs t) (s : Sp) :
    Calls Try.prog 24 #[.pointer (some ⟨h, 0, none⟩), .agg (spA s)] w fun e w' => e = .returned (.bool true) ∧ TP w K h t.n t.n (t.step s) w' := by
  refine calls_vc tab_ok Try.func24 rfl ?_
  have n1 := O.n1
  have n16 := O.n16
  conv => whnf
  refine .mk fun wA hwA => ?_
  have bA : Below w.heap.size w wA := by rw [hwA.out]; exact below_box1 _ _ _
  have zA : wA.heap.size = w.heap.size + 1 := by rw [hwA.out]; simp
  have oA : wA.rangeAt w.heap.size 0 (spA s).toList := by rw [hwA.out]; exact range_new w _ 55
  clear hwA
  have TA := T.below bA
  obtain ⟨tb, ib, eb, B, kt, ki, ke⟩ := TA.bks (by omega)
  have L0 : Ld Try.prog 3 w.heap.size 0 (Eq wA) (.int .i64 s.kd) := .of (load3 (oA 0 _ rfl))
  have L1 : Ld Try.prog 3 w.heap.size 1 (Eq wA) (.int .i64 s.i) := .of (load3 (oA 1 _ rfl))
  have L2 : Ld Try.prog 3 w.heap.size 2 (Eq wA) (.int .i64 s.j) := .of (load3 (oA 2 _ rfl))
  have L3 : Ld Try.prog 3 w.heap.size 3 (Eq wA) (.int .i64 s.k) := .of (load3 (oA 3 _ rfl))
  have L4 : Ld Try.prog 3 w.heap.size 4 (Eq wA) (.int .i64 s.m) := .of (load3 (oA 4 _ rfl))
  obtain ⟨i, hi⟩ : ∃ i, i = t.node s.i := ⟨_, rfl⟩
  obtain ⟨j, hj⟩ : ∃ j, j = t.node s.j := ⟨_, rfl⟩
  have hin : i < t.n := by rw [hi]; exact Tm.node_lt n1 _
  have hjn : j < t.n := by rw [hj]; exact Tm.node_lt n1 _
  have hne : t.E j ≠ [] := O.ne hjn
  have e0 := TA.ev j hjn
  have hlE : (X.ev j).l.length = (t.E j).length := by rw [← e0.mp, List.length_map]
  have hE0 : 0 < (t.E j).length := List.length_pos_iff.2 hne
  obtain ⟨gv, hgv, hgz⟩ := e0.own.own.blk_of (by rw [hlE]; exact hE0)
  obtain ⟨nl, hnl⟩ : ∃ nl, nl = (t.E j).length := ⟨_, rfl⟩
  have hnlZ := Z.e j
  have s0 := Sm.refl [h, eb] wA
  have Le := TA.l_ev (l := [h, eb]) B (by simp)
  have Ls := TA.l_es (l := [h, eb]) B (by simp) hjn
  rw [hgv, hlE, ← hnl] at Ls
  have Lx : ∀ q, q < nl → ∃ y : SaX, (t.E j)[q]? = some y.x ∧ Ld Try.prog 33 gv (0 + q * 10) (Eq wA) (.agg (saA t.n y.x y.S y.cS y.V y.cV)) ∧ RowK wA K 1 eInt y.S (y.x.w.set.take t.n) ∧ RowK wA K 1 eInt y.V (y.x.w.vec.take t.n) := fun q hq => by
    obtain ⟨y, hy⟩ : ∃ y, (X.ev j).l[q]? = some y := ⟨_, List.getElem?_eq_getElem (by omega)⟩
    have ry := e0.cells hgv hy
    exact ⟨y, by rw [← e0.mp, List.getElem?_map, hy]; rfl, (l_sa (w := wA) (l := [gv]) ry (by simp)).at (Sm.refl _ _), e0.rows y (List.mem_of_getElem? hy)⟩
  have q0 : Ro (· ≠ 0) K K w wA := .below bA
  repeat ((conv => whnf); first | (refine VLoad.mk _ L1 ?_) | (refine VCmp.tt (by omega) ?_) | (refine VCmp.ff (by omega) ?_) | (refine VIn.mk (IntWalk.i64_in _ (by omega)) ?_) | (refine VIdx.mk _ rfl (by omega) ?_) | (refine VIdx.mk 0 rfl (by omega) ?_))
  try (conv => whnf)
  refine VCall.mk _ (node_any TA n1 n16 s.i) ?_
  rintro _ _ ⟨rfl, rfl⟩
  refine ⟨_, rfl, ?_⟩
  rw [← hi]
  repeat ((conv => whnf); first | (refine VLoad.mk _ L2 ?_) | (refine VCmp.tt (by omega) ?_) | (refine VCmp.ff (by omega) ?_) | (refine VIn.mk (IntWalk.i64_in _ (by omega)) ?_) | (refine VIdx.mk _ rfl (by omega) ?_) | (refine VIdx.mk 0 rfl (by omega) ?_))
  try (conv => whnf)
  refine VCall.mk _ (node_any TA n1 n16 s.j) ?_
  rintro _ _ ⟨rfl, rfl⟩
  refine ⟨_, rfl, ?_⟩
  rw [← hj]
  by_cases k1 : s.kd = 1
  · have hst : t.step s = t.told i s.m := by unfold Tm.step; rw [if_pos k1, hi]
    rw [hst]
    repeat ((conv => whnf); first | (refine VLoad.mk _ (Le.at s0) ?_) | (refine VLoad.mk _ (Ls.at s0) ?_) | (refine VLoad.mk _ L0 ?_) | (refine VLoad.mk _ L4 ?_) | (refine VCmp.tt (by omega) ?_) | (refine VCmp.ff (by omega) ?_) | (refine VIn.mk (IntWalk.i64_in _ (by omega)) ?_) | (refine VIdx.mk _ rfl (by omega) ?_) | (refine VIdx.mk 0 rfl (by omega) ?_))
    try (conv => whnf)
    refine VCall.mk _ (told_any TA O hin (Nat.le_refl _) n16 rfl (Z.e i) s.m) ?_
    rintro _ x2 ⟨rfl, p2⟩
    refine ⟨_, rfl, ?_⟩
    repeat ((conv => whnf); first | (refine VCmp.tt (by omega) ?_) | (refine VCmp.ff (by omega) ?_) | (refine VIn.mk (IntWalk.i64_in _ (by omega)) ?_) | (refine VIdx.mk _ rfl (by omega) ?_) | (refine VIdx.mk 0 rfl (by omega) ?_))
    try (conv => whnf)
    exact .mk ⟨rfl, .trans q0 p2⟩
  by_cases k2 : s.kd = 2
  · have hst : t.step s = t.hand i j (pickK (t.E j) s.k) := by unfold Tm.step; rw [if_neg k1, if_pos k2, hi, hj]
    rw [hst]
    have hm1 := Int.tmod_lt_of_pos s.k (by omega : (0 : Int) < nl)
    have hm2 := Int.lt_tmod_of_pos s.k (by omega : (0 : Int) < nl)
    have hq := pickK_lt (n := nl) (by omega) s.k
    obtain ⟨q, hqe⟩ : ∃ q, q = (if s.k.tmod nl < 0 then s.k.tmod nl + nl else s.k.tmod nl).toNat := ⟨_, rfl⟩
    rw [← hqe] at hq
    obtain ⟨y, hy, Ly, yS, yV⟩ := Lx q hq
    have hpk : pickK (t.E j) s.k = y.x := by unfold pickK; rw [← hnl, ← hqe, hy]; rfl
    rw [hpk]
    repeat ((conv => whnf); first | (refine VLoad.mk _ (Le.at s0) ?_) | (refine VLoad.mk _ (Ls.at s0) ?_) | (refine VLoad.mk _ L0 ?_) | (refine VLoad.mk _ L3 ?_) | (refine VCmp.tt (by omega) ?_) | (refine VCmp.ff (by omega) ?_) | (refine VIn.mk (IntWalk.i64_in _ (by omega)) ?_) | (refine VIdx.mk _ rfl (by omega) ?_) | (refine VIdx.mk 0 rfl (by omega) ?_))
    try (conv => whnf)
    refine VQ.mk (.int .i64 (s.k.tmod nl)) (fun a ha W _ => ?_) ?_
    · have h3 := ha (.tmp 36) _ rfl
      have h4 := ha (.tmp 38) _ rfl
      have := rem_any s.k nl (by omega) (IntWalk.i64_in _ (by omega)) W
      have hg : Sem.run Try.prog (eqGuard .rem 3 (.tmp 36) (.tmp 38) (.int .i64 s.k) (.int .i64 nl)) W = .ok () W := rfl
      simp only [execOp, h3, h4, Sem.run_bind, hg, this, Result.andThen_ok, Sem.run_pure]
    by_cases hneg : s.k.tmod nl < 0
    · rw [if_pos hneg] at hqe
      repeat ((conv => whnf); first | (refine VIdx.mk q (by omega) (by omega) ?_) | (refine VLoad.mk _ Ly ?_) | (refine VCmp.tt (by omega) ?_) | (refine VCmp.ff (by omega) ?_) | (refine VIn.mk (IntWalk.i64_in _ (by omega)) ?_) | (refine VIdx.mk _ rfl (by omega) ?_) | (refine VIdx.mk 0 rfl (by omega) ?_))
      try (conv => whnf)
      refine VCall.mk _ (hands_any (j := j) TA O hin (Nat.le_refl _) n16 (Z.e i) (List.mem_of_getElem? hy) yS yV) ?_
      rintro _ x2 ⟨rfl, p2⟩
      refine ⟨_, rfl, ?_⟩
      repeat ((conv => whnf); first | (refine VCmp.tt (by omega) ?_) | (refine VCmp.ff (by omega) ?_) | (refine VIn.mk (IntWalk.i64_in _ (by omega)) ?_) | (refine VIdx.mk _ rfl (by omega) ?_) | (refine VIdx.mk 0 rfl (by omega) ?_))
      try (conv => whnf)
      exact .mk ⟨rfl, .trans q0 p2⟩
    · rw [if_neg hneg] at hqe
      repeat ((conv => whnf); first | (refine VIdx.mk q (by omega) (by omega) ?_) | (refine VLoad.mk _ Ly ?_) | (refine VCmp.tt (by omega) ?_) | (refine VCmp.ff (by omega) ?_) | (refine VIn.mk (IntWalk.i64_in _ (by omega)) ?_) | (refine VIdx.mk _ rfl (by omega) ?_) | (refine VIdx.mk 0 rfl (by omega) ?_))
      try (conv => whnf)
      refine VCall.mk _ (hands_any (j := j) TA O hin (Nat.le_refl _) n16 (Z.e i) (List.mem_of_getElem? hy) yS yV) ?_
      rintro _ x2 ⟨rfl, p2⟩
      refine ⟨_, rfl, ?_⟩
      repeat ((conv => whnf); first | (refine VCmp.tt (by omega) ?_) | (refine VCmp.ff (by omega) ?_) | (refine VIn.mk (IntWalk.i64_in _ (by omega)) ?_) | (refine VIdx.mk _ rfl (by omega) ?_) | (refine VIdx.mk 0 rfl (by omega) ?_))
      try (conv => whnf)
      exact .mk ⟨rfl, .trans q0 p2⟩
  by_cases k3 : s.kd = 3
  · have hst : t.step s = t.hand i j (lastK (t.E j)) := by unfold Tm.step; rw [if_neg k1, if_neg k2, if_pos k3, hi, hj]
    rw [hst]
    obtain ⟨y, hy, Ly, yS, yV⟩ := Lx (nl - 1) (by omega)
    have hpk : lastK (t.E j) = y.x := by unfold lastK; rw [List.getLast?_eq_getElem?, ← hnl, hy]; rfl
    rw [hpk]
    repeat ((conv => whnf); first | (refine VLoad.mk _ (Le.at s0) ?_) | (refine VLoad.mk _ (Ls.at s0) ?_) | (refine VLoad.mk _ L0 ?_) | (refine VIdx.mk (nl - 1) (by omega) (by omega) ?_) | (refine VLoad.mk _ Ly ?_) | (refine VCmp.tt (by omega) ?_) | (refine VCmp.ff (by omega) ?_) | (refine VIn.mk (IntWalk.i64_in _ (by omega)) ?_) | (refine VIdx.mk _ rfl (by omega) ?_) | (refine VIdx.mk 0 rfl (by omega) ?_))
    try (conv => whnf)
    refine VCall.mk _ (hands_any (j := j) TA O hin (Nat.le_refl _) n16 (Z.e i) (List.mem_of_getElem? hy) yS yV) ?_
    rintro _ x2 ⟨rfl, p2⟩
    refine ⟨_, rfl, ?_⟩
    repeat ((conv => whnf); first | (refine VCmp.tt (by omega) ?_) | (refine VCmp.ff (by omega) ?_) | (refine VIn.mk (IntWalk.i64_in _ (by omega)) ?_) | (refine VIdx.mk _ rfl (by omega) ?_) | (refine VIdx.mk 0 rfl (by omega) ?_))
    try (conv => whnf)
    exact .mk ⟨rfl, .trans q0 p2⟩
  by_cases k4 : s.kd = 4
  · have hst : t.step s = t.inst i := by unfold Tm.step; rw [if_neg k1, if_neg k2, if_neg k3, if_pos k4, hi]
    rw [hst]
    repeat ((conv => whnf); first | (refine VLoad.mk _ (Le.at s0) ?_) | (refine VLoad.mk _ (Ls.at s0) ?_) | (refine VLoad.mk _ L0 ?_) | (refine VCmp.tt (by omega) ?_) | (refine VCmp.ff (by omega) ?_) | (refine VIn.mk (IntWalk.i64_in _ (by omega)) ?_) | (refine VIdx.mk _ rfl (by omega) ?_) | (refine VIdx.mk 0 rfl (by omega) ?_))
    try (conv => whnf)
    refine VCall.mk _ (installs_any TA O hin (Nat.le_refl _) n16 (Z.e i) Z.d Z.db) ?_
    rintro _ x2 ⟨rfl, p2⟩
    refine ⟨_, rfl, ?_⟩
    repeat ((conv => whnf); first | (refine VCmp.tt (by omega) ?_) | (refine VCmp.ff (by omega) ?_) | (refine VIn.mk (IntWalk.i64_in _ (by omega)) ?_) | (refine VIdx.mk _ rfl (by omega) ?_) | (refine VIdx.mk 0 rfl (by omega) ?_))
    try (conv => whnf)
    exact .mk ⟨rfl, .trans q0 p2⟩
  by_cases k5 : s.kd = 5
  · have hst : t.step s = t.boot i := by unfold Tm.step; rw [if_neg k1, if_neg k2, if_neg k3, if_neg k4, if_pos k5, hi]
    rw [hst]
    repeat ((conv => whnf); first | (refine VLoad.mk _ (Le.at s0) ?_) | (refine VLoad.mk _ (Ls.at s0) ?_) | (refine VLoad.mk _ L0 ?_) | (refine VCmp.tt (by omega) ?_) | (refine VCmp.ff (by omega) ?_) | (refine VIn.mk (IntWalk.i64_in _ (by omega)) ?_) | (refine VIdx.mk _ rfl (by omega) ?_) | (refine VIdx.mk 0 rfl (by omega) ?_))
    try (conv => whnf)
    refine VCall.mk _ (boots_any TA O hin (Nat.le_of_lt hin) (Nat.le_refl _) n16 rfl (Z.e i) (Z.inc i)) ?_
    rintro _ x2 ⟨rfl, p2⟩
    rw [Nat.max_eq_left (by omega)] at p2
    refine ⟨_, rfl, ?_⟩
    repeat ((conv => whnf); first | (refine VCmp.tt (by omega) ?_) | (refine VCmp.ff (by omega) ?_) | (refine VIn.mk (IntWalk.i64_in _ (by omega)) ?_) | (refine VIdx.mk _ rfl (by omega) ?_) | (refine VIdx.mk 0 rfl (by omega) ?_))
    try (conv => whnf)
    exact .mk ⟨rfl, .trans q0 p2⟩
  · have hst : t.step s = t := by unfold Tm.step; rw [if_neg k1, if_neg k2, if_neg k3, if_neg k4, if_neg k5]
    rw [hst]
    repeat ((conv => whnf); first | (refine VLoad.mk _ (Le.at s0) ?_) | (refine VLoad.mk _ (Ls.at s0) ?_) | (refine VLoad.mk _ L0 ?_) | (refine VCmp.tt (by omega) ?_) | (refine VCmp.ff (by omega) ?_) | (refine VIn.mk (IntWalk.i64_in _ (by omega)) ?_) | (refine VIdx.mk _ rfl (by omega) ?_) | (refine VIdx.mk 0 rfl (by omega) ?_))
    try (conv => whnf)
    exact .mk ⟨rfl, K, X, TA, q0⟩
end Go.Proofs.Ytfbeggdbjpmppaa
namespace Go.Proofs.Ytfbeggdbjpmppaa
open Go Go.RowKit
theorem Owns.beside {α β : Type} {w w' : World} {base base' sz sz' c c' : Nat} {e e' : TypeId} {enc : α → List Value} {enc' : β → List Value} {A A' : Option Addr} {l : List α} {l' : List β} (h : Owns w base e sz enc A c l) (ho : Owns w base' e' sz' enc' A' c' l') (he : e ≠ e') (hg : w.grownBy w' (blk A')) : Owns w' base e sz enc A c l := h.kept hg (h.ne ho he)
theorem rep_snoc {α : Type} (k : Nat) (x : α) : List.replicate (k + 1) x = List.replicate k x ++ [x] := List.replicate_succ'
theorem rep_range {α : Type} (k : Nat) (x : α) : List.replicate k x = (List.range k).map fun _ => x := by
  apply List.ext_getElem?
  intro j
  rw [List.getElem?_replicate, List.getElem?_map]
  by_cases h : j < k
  · rw [if_pos h, List.getElem?_range h]; rfl
  · rw [if_neg h, List.getElem?_eq_none (by simp; omega)]; rfl
theorem build39 (W : World) (n f : Int) : (Instr.build 39 #[(0, .int .i64 n), (1, .int .i64 f)]).run Try.prog W = .ok (.agg #[.int .i64 n, .int .i64 f, .slice none 0 0, .slice none 0 0, .slice none 0 0, .slice none 0 0, .bool false]) W := by kernel_rfl
theorem bs35 (W : World) : (Instr.buildSlice 35 1 #[(0, .pointer none)]).run Try.prog W = .ok (.slice (some ⟨W.heap.size, 0, none⟩) 1 1) (W.alloc (.cells #[.pointer none] 48)) := by kernel_rfl
theorem bs36 (W : World) : (Instr.buildSlice 36 1 #[(0, .slice none 0 0)]).run Try.prog W = .ok (.slice (some ⟨W.heap.size, 0, none⟩) 1 1) (W.alloc (.cells #[.slice none 0 0] 34)) := by kernel_rfl
def St0 : St := newSt 0 0 0 0
def tm0 (n : Nat) (fl : Int) : Tm := ⟨n, fl, fun _ => [], fun _ => St0, [], false⟩
def ev0 : EvX := ⟨none, 0, []⟩
structure Mk (w W : World) (n : Nat) (fl : Int) (k l m : Nat) (u : Option Addr × Nat × Option Addr × Nat × Option Addr × Nat) : Prop where
  b : Below w.heap.size w W
  z : w.heap.size < W.heap.size
  hr : W.rangeAt w.heap.size 0 [.int .i64 n, .int .i64 fl, .slice u.1 k u.2.1, .slice u.2.2.1 l u.2.2.2.1, .slice u.2.2.2.2.1 m u.2.2.2.2.2, .slice none 0 0, .bool false]
  ht : W.there w.heap.size 0 7
  o1 : Owns W (w.heap.size + 1) 48 1 ePtr u.1 u.2.1 (List.replicate k none)
  o2 : Owns W (w.heap.size + 1) 3 1 eInt u.2.2.1 u.2.2.2.1 (List.replicate l 0)
  o3 : Owns W (w.heap.size + 1) 34 1 eSl u.2.2.2.2.1 u.2.2.2.2.2 (List.replicate m ev0)
def roleM (g : Nat) (a b c : Option Addr) : Nat → Nat := fun k => if k = g then 1 else if blk a = some k then 2 else if blk b = some k then 3 else if blk c = some k then 4 else 0
theorem Mk.team {w W : World} {n : Nat} {fl : Int} {u : Option Addr × Nat × Option Addr × Nat × Option Addr × Nat} (M : Mk w W n fl n n n u) :
    TmM W (roleM w.heap.size u.1 u.2.2.1 u.2.2.2.2.1) w.heap.size n 0 (tm0 n fl) ⟨u.1, u.2.1, u.2.2.1, u.2.2.2.1, u.2.2.2.2.1, u.2.2.2.2.2, none, 0, fun _ => 0, fun _ => none, fun _ => 0, fun _ => ev0, []⟩ ∧ ∀ b, b < w.heap.size → roleM w.heap.size u.1 u.2.2.1 u.2.2.2.2.1 b = 0 := by
  obtain ⟨a, ca, b, cb, c, cc⟩ := u
  obtain ⟨hb, hz, hr, ht, o1, o2, o3⟩ := M
  dsimp only at hr o1 o2 o3 ⊢
  have n12 := o1.ne o2 (by decide)
  have n13 := o1.ne o3 (by decide)
  have n23 := o2.ne o3 (by decide)
  have z1 := o1.lo
  have z2 := o2.lo
  have z3 := o3.lo
  have k2 : ∀ q, blk a = some q → roleM w.heap.size a b c q = 2 := fun q hq => by
    unfold roleM; rw [if_neg (by have := (z1 q hq).1; omega), if_pos hq]
  have k3 : ∀ q, blk b = some q → roleM w.heap.size a b c q = 3 := fun q hq => by
    unfold roleM
    rw [if_neg (by have := (z2 q hq).1; omega), if_neg (fun e => by rcases n12 with h | h; rw [h] at e; cases e; exact h (e.trans hq.symm)), if_pos hq]
  have k4 : ∀ q, blk c = some q → roleM w.heap.size a b c q = 4 := fun q hq => by
    unfold roleM
    rw [if_neg (by have := (z3 q hq).1; omega), if_neg (fun e => by rcases n13 with h | h; rw [h] at e; cases e; exact h (e.trans hq.symm)), if_neg (fun e => by rcases n23 with h | h; rw [h] at e; cases e; exact h (e.trans hq.symm)), if_pos hq]
  have far : ∀ q, (q < w.heap.size ∨ W.heap.size ≤ q) → roleM w.heap.size a b c q = 0 := fun q hq => by
    unfold roleM
    rw [if_neg (by omega), if_neg (fun e => by have := z1 q e; omega), if_neg (fun e => by have := z2 q e; omega), if_neg (fun e => by have := z3 q e; omega)]
  refine ⟨⟨fun q hq => far q (.inr hq), hz, by unfold roleM; rw [if_pos rfl], hr, ht, ⟨?_, k2⟩, ⟨?_, k3⟩, ⟨?_, k4⟩, ⟨⟨rfl, .inl ⟨rfl, rfl⟩⟩, fun q hq => by cases hq⟩, rfl, fun y hy => absurd hy (by simp), fun i hi => absurd hi (by omega), fun i _ => rfl, fun i _ => ⟨⟨⟨rfl, .inl ⟨rfl, rfl⟩⟩, fun q hq => by cases hq⟩, rfl, fun y hy => absurd hy (by simp [ev0])⟩⟩, fun q hq => far q (.inl hq)⟩
  · have e : ptrs n 0 (fun _ => 0) = List.replicate n none := by
      rw [rep_range]; unfold ptrs
      exact List.map_congr_left fun k _ => if_neg (by omega)
    rw [e]; exact o1.base (by omega)
  · have e : incs n (tm0 n fl).S = List.replicate n 0 := by rw [rep_range]; rfl
    rw [e]; exact o2.base (by omega)
  · have e : (List.range n).map (fun _ => ev0) = List.replicate n ev0 := by rw [rep_range]
    show Owns W 0 34 1 eSl c cc ((List.range n).map fun _ => ev0)
    rw [e]; exact o3.base (by omega)
section
variable {w W W1 W2 W3 : World} {n k l m : Nat} {fl : Int} {a b c A' : Option Addr} {ca cb cc c' o : Nat}
theorem Mk.below (M : Mk w W n fl k l m (a, ca, b, cb, c, cc)) (h : Below W.heap.size W W1) : Mk w W1 n fl k l m (a, ca, b, cb, c, cc) :=
  ⟨M.b.trans (h.mono M.b.size), by have := M.z; have := h.size; omega, range_same M.hr (h.block _ M.z), there_same M.ht (h.block _ M.z), M.o1.keep h (fun q hq => (M.o1.lo q hq).2), M.o2.keep h (fun q hq => (M.o2.lo q hq).2), M.o3.keep h (fun q hq => (M.o3.lo q hq).2)⟩
theorem Mk.push1 (M : Mk w W1 n fl k l m (a, ca, b, cb, c, cc)) (hO : Owns W2 (w.heap.size + 1) 48 1 ePtr A' c' (List.replicate k none ++ [none])) (hg : W1.grownBy W2 (blk a)) (ho : o = 2) (hW : W3 = W2.setCell ⟨w.heap.size, o, none⟩ (.slice A' (k + 1) c')) : Mk w W3 n fl (k + 1) l m (A', c', b, cb, c, cc) := by
  subst ho
  have hb : ∀ q, blk a = some q → w.heap.size + 1 ≤ q := fun q hq => (M.o1.lo q hq).1
  have h0 := hg.block w.heap.size M.z (fun e => by have := hb _ e.symm; omega)
  have hr2 := range_same M.hr h0
  have ht2 := there_same M.ht h0
  have g3 := grown_cell W2 w.heap.size 2 (.slice A' (k + 1) c')
  rw [← hW] at g3
  have ne : ∀ {A : Option Addr}, (∀ q, blk A = some q → w.heap.size + 1 ≤ q) → blk A = none ∨ blk A ≠ some w.heap.size := fun h => .inr fun e => by have := h _ e; omega
  refine ⟨(M.b.grown hg M.b.size (fun q hq => by have := hb q hq; omega)).grown g3 (by have := M.b.size; have := hg.size; omega) (fun q hq => by injection hq with hq; omega), by have := M.z; have := hg.size; have := g3.size; omega, ?_, by rw [hW]; exact there_set ht2 _ _, ?_, ?_, ?_⟩
  · have := rngPut (o := 2) (vs := [.slice A' (k + 1) c']) hr2 ht2 rfl (by simp)
    rw [hW]; exact this
  · show Owns W3 _ 48 1 ePtr A' c' (List.replicate (k + 1) none)
    rw [rep_snoc]
    exact hO.kept g3 (ne fun q hq => (hO.lo q hq).1)
  · exact (M.o2.beside M.o1 (by decide) hg).kept g3 (ne fun q hq => (M.o2.lo q hq).1)
  · exact (M.o3.beside M.o1 (by decide) hg).kept g3 (ne fun q hq => (M.o3.lo q hq).1)
theorem Mk.push2 (M : Mk w W1 n fl k l m (a, ca, b, cb, c, cc)) (hO : Owns W2 (w.heap.size + 1) 3 1 eInt A' c' (List.replicate l 0 ++ [0])) (hg : W1.grownBy W2 (blk b)) (ho : o = 3) (hW : W3 = W2.setCell ⟨w.heap.size, o, none⟩ (.slice A' (l + 1) c')) : Mk w W3 n fl k (l + 1) m (a, ca, A', c', c, cc) := by
  subst ho
  have hb : ∀ q, blk b = some q → w.heap.size + 1 ≤ q := fun q hq => (M.o2.lo q hq).1
  have h0 := hg.block w.heap.size M.z (fun e => by have := hb _ e.symm; omega)
  have hr2 := range_same M.hr h0
  have ht2 := there_same M.ht h0
  have g3 := grown_cell W2 w.heap.size 3 (.slice A' (l + 1) c')
  rw [← hW] at g3
  have ne : ∀ {A : Option Addr}, (∀ q, blk A = some q → w.heap.size + 1 ≤ q) → blk A = none ∨ blk A ≠ some w.heap.size := fun h => .inr fun e => by have := h _ e; omega
  refine ⟨(M.b.grown hg M.b.size (fun q hq => by have := hb q hq; omega)).grown g3 (by have := M.b.size; have := hg.size; omega) (fun q hq => by injection hq with hq; omega), by have := M.z; have := hg.size; have := g3.size; omega, ?_, by rw [hW]; exact there_set ht2 _ _, ?_, ?_, ?_⟩
  · have := rngPut (o := 3) (vs := [.slice A' (l + 1) c']) hr2 ht2 rfl (by simp)
    rw [hW]; exact this
  · exact (M.o1.beside M.o2 (by decide) hg).kept g3 (ne fun q hq => (M.o1.lo q hq).1)
  · show Owns W3 _ 3 1 eInt A' c' (List.replicate (l + 1) 0)
    rw [rep_snoc]
    exact hO.kept g3 (ne fun q hq => (hO.lo q hq).1)
  · exact (M.o3.beside M.o2 (by decide) hg).kept g3 (ne fun q hq => (M.o3.lo q hq).1)
theorem Mk.push3 (M : Mk w W1 n fl k l m (a, ca, b, cb, c, cc)) (hO : Owns W2 (w.heap.size + 1) 34 1 eSl A' c' (List.replicate m ev0 ++ [ev0])) (hg : W1.grownBy W2 (blk c)) (ho : o = 4) (hW : W3 = W2.setCell ⟨w.heap.size, o, none⟩ (.slice A' (m + 1) c')) : Mk w W3 n fl k l (m + 1) (a, ca, b, cb, A', c') := by
  subst ho
  have hb : ∀ q, blk c = some q → w.heap.size + 1 ≤ q := fun q hq => (M.o3.lo q hq).1
  have h0 := hg.block w.heap.size M.z (fun e => by have := hb _ e.symm; omega)
  have hr2 := range_same M.hr h0
  have ht2 := there_same M.ht h0
  have g3 := grown_cell W2 w.heap.size 4 (.slice A' (m + 1) c')
  rw [← hW] at g3
  have ne : ∀ {A : Option Addr}, (∀ q, blk A = some q → w.heap.size + 1 ≤ q) → blk A = none ∨ blk A ≠ some w.heap.size := fun h => .inr fun e => by have := h _ e; omega
  refine ⟨(M.b.grown hg M.b.size (fun q hq => by have := hb q hq; omega)).grown g3 (by have := M.b.size; have := hg.size; omega) (fun q hq => by injection hq with hq; omega), by have := M.z; have := hg.size; have := g3.size; omega, ?_, by rw [hW]; exact there_set ht2 _ _, ?_, ?_, ?_⟩
  · have := rngPut (o := 4) (vs := [.slice A' (m + 1) c']) hr2 ht2 rfl (by simp)
    rw [hW]; exact this
  · exact (M.o1.beside M.o3 (by decide) hg).kept g3 (ne fun q hq => (M.o1.lo q hq).1)
  · exact (M.o2.beside M.o3 (by decide) hg).kept g3 (ne fun q hq => (M.o2.lo q hq).1)
  · show Owns W3 _ 34 1 eSl A' c' (List.replicate (m + 1) ev0)
    rw [rep_snoc]
    exact hO.kept g3 (ne fun q hq => (hO.lo q hq).1)
end
end Go.Proofs.Ytfbeggdbjpmppaa
