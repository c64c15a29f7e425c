/- Told Boots InL FitsL, joined. -/
import Derived.Test.YtfbeggdbjpmppaaMg14
set_option linter.unusedVariables false
set_option linter.unusedSimpArgs false
namespace Go.Proofs.Ytfbeggdbjpmppaa
open Go Go.RowKit
def setTo (t : Tm) (i : Nat) (mask : Int) (k : Nat) : List Int := (List.range k).map fun q => if q = i ∨ mbit mask q = true then (t.S q).inc else 0
theorem setTo_succ (t : Tm) (i : Nat) (mask : Int) (k : Nat) : setTo t i mask (k + 1) = setTo t i mask k ++ [if k = i ∨ mbit mask k = true then (t.S k).inc else 0] := by
  unfold setTo; rw [List.range_succ, List.map_append]; rfl
theorem setTo_len (t : Tm) (i : Nat) (mask : Int) (k : Nat) : (setTo t i mask k).length = k := by unfold setTo; simp
theorem rem_any (a b : Int) (hb : b ≠ 0) (h : IntKind.i64.wrap (a.tmod b) = a.tmod b) (W : World) : (binOp .rem 3 (.int .i64 a) (.int .i64 b)).run Try.prog W = .ok (.int .i64 (a.tmod b)) W := by
  simp [binOp, go_sem, hb, h]
theorem shr_any (a : Int) (k : Nat) (hk : k ≤ 64) (W : World) : (binOp .shr 3 (.int .i64 a) (.int .i64 k)).run Try.prog W = .ok (.int .i64 (a / 2 ^ k)) W := by
  have e : binOp .shr 3 (.int .i64 a) (.int .i64 k) = Op.shift .shr .i64 a .i64 k := by simp [binOp]
  rw [e, shift_shr .i64 .i64 a k (by omega) (by show (k : Int) ≤ 64; omega)]
  rfl
theorem bs27 (W : World) (a : Int) : (Instr.buildSlice 27 1 #[(0, .int .i64 a)]).run Try.prog W = .ok (.slice (some ⟨W.heap.size, 0, none⟩) 1 1) (W.alloc (.cells #[.int .i64 a] 3)) := by kernel_rfl
set_option maxRecDepth 100000 in
set_option maxHeartbeats 4000000 in
theorem told_any {w : World} {K : Nat → Nat} {h z m i : Nat} {t : Tm} {X : TX} (T : TmM w K h z m t X) (O : t.Ok m) (hi : i < m) (hmz : m ≤ z) (hz : z ≤ 16) (hzn : z = t.n) (hl : (t.E i).length ≤ 1000000000) (mask : Int) :
    Calls Try.prog 18 #[.pointer (some ⟨h, 0, none⟩), .int .i64 i, .int .i64 mask] w fun e w' => e = .returned (.tuple #[]) ∧ TP w K h z m (t.told i mask) w' := by
  refine calls_vc tab_ok Try.func18 rfl ?_
  have hiz : i < z := by omega
  obtain ⟨on, oR, oH, oN⟩ := O.nd i hi
  have n16 := O.n16
  obtain ⟨tb, ib, eb, B, kt, ki, ke⟩ := T.bks (by omega)
  have hla : ∀ b ∈ [h, tb, ib, eb], b < w.heap.size := fun b hb => by
    simp only [List.mem_cons, List.not_mem_nil, or_false] at hb
    rcases hb with rfl | rfl | rfl | rfl
    · exact T.hs
    · exact B.tz
    · exact B.iz
    · exact B.ez
  have La := T.l_at (l := [h, tb, ib, eb]) B (by simp)
  have Lp := T.l_ptr (l := [h, tb, ib, eb]) B (by simp) hi hiz
  have Ln := T.l_n (l := [h, tb, ib, eb]) (by simp)
  have Li := T.l_inc (l := [h, tb, ib, eb]) B (by simp)
  conv => whnf
  repeat ((conv => whnf); first | (refine VCmp.tt (by omega) ?_) | (refine VCmp.ff (by omega) ?_) | (refine VIn.mk (IntWalk.i64_in _ (by omega)) ?_) | (refine VIdx.mk _ rfl (by omega) ?_) | (refine VIdx.mk 0 rfl (by omega) ?_))
  try (conv => whnf)
  refine VLoop.mk (Nat × Option Addr × Nat) (fun u => [(0, .pointer (some ⟨h, 0, none⟩)), (1, .int .i64 i), (2, .int .i64 mask), (6, .slice u.2.1 u.1 u.2.2), (7, .int .i64 u.1)]) (fun u W => u.1 ≤ z ∧ Below w.heap.size w W ∧ Owns W w.heap.size 3 1 eInt u.2.1 u.2.2 (setTo t i mask u.1)) (fun u => z - u.1) (0, none, 0) ⟨rfl, rfl, rfl, rfl, rfl, trivial⟩ ⟨Nat.zero_le _, Below.refl _ _, ⟨rfl, .inl ⟨rfl, rfl⟩⟩⟩ ?_
  rintro ⟨k, A, c⟩ wk ⟨hk, bk, own⟩
  dsimp only at hk own ⊢
  have zk := bk.size
  have hO := own.len
  rw [setTo_len] at hO
  have sk : Sm [h, tb, ib, eb] w wk := .below bk hla
  by_cases hkz : k < z
  case pos =>
    have Lk := T.l_iv (l := [h, tb, ib, eb]) B (by simp) hkz
    by_cases hki : k = i
    · repeat ((conv => whnf); first | (refine VLoad.mk _ (Ln.at sk) ?_) | (refine VLoad.mk _ (Li.at sk) ?_) | (refine VLoad.mk _ (Lk.at sk) ?_) | (refine VCmp.tt (by omega) ?_) | (refine VCmp.ff (by omega) ?_) | (refine VIn.mk (IntWalk.i64_in _ (by omega)) ?_) | (refine VIdx.mk _ rfl (by omega) ?_) | (refine VIdx.mk 0 rfl (by omega) ?_))
      try (conv => whnf)
      have hv : (if k = i ∨ mbit mask k = true then (t.S k).inc else 0) = (t.S k).inc := if_pos (.inl hki)
      refine VBs.mk _ _ (bs27 wk ((t.S k).inc)) ?_
      have d1 : Below wk.heap.size wk (wk.alloc (.cells #[.int .i64 ((t.S k).inc)] 3)) := (Below.refl _ _).alloc (Nat.le_refl _) _
      have hnc : ∀ j u, (eInt ((t.S k).inc))[j]? = some u → (wk.alloc (.cells #[.int .i64 ((t.S k).inc)] 3)).cell? ⟨wk.heap.size, j, none⟩ = some u := fun j u hu => by
        have := range_new wk #[.int .i64 ((t.S k).inc)] 3 j u hu
        rwa [Nat.zero_add] at this
      generalize wk.alloc (.cells #[.int .i64 ((t.S k).inc)] 3) = x1 at d1 hnc ⊢
      have z1 := d1.size
      have o1 := own.keep d1 (fun q hq => (own.lo q hq).2)
      repeat ((conv => whnf); first | (refine VCmp.tt (by omega) ?_) | (refine VCmp.ff (by omega) ?_) | (refine VIn.mk (IntWalk.i64_in _ (by omega)) ?_) | (refine VIdx.mk _ rfl (by omega) ?_) | (refine VIdx.mk 0 rfl (by omega) ?_))
      try (conv => whnf)
      refine VApp.keep w.heap.size 1 8 _ Try.underlying27 info3 rfl (by decide) eInt (fun _ => rfl) one_eInt (setTo t i mask k) ((t.S k).inc) (setTo_len _ _ _ _) o1 hnc (by omega) (by omega) (by omega) fun A2 c2 x2 oA oB hg hA => ?_
      have b2 : Below w.heap.size w x2 := (bk.trans (d1.mono zk)).grown hg (by omega) (fun q hq => (o1.lo q hq).1)
      repeat ((conv => whnf); first | (refine VCmp.tt (by omega) ?_) | (refine VCmp.ff (by omega) ?_) | (refine VIn.mk (IntWalk.i64_in _ (by omega)) ?_) | (refine VIdx.mk _ rfl (by omega) ?_) | (refine VIdx.mk 0 rfl (by omega) ?_))
      try (conv => whnf)
      exact .mk (k + 1, A2, c2) ⟨rfl, rfl, rfl, rfl, rfl, trivial⟩ ⟨hkz, b2, by dsimp only; rw [setTo_succ, hv]; exact oA⟩ (by show z - (k + 1) < z - k; omega)
    · have hm1 := Int.tmod_lt_of_pos (mask / 2 ^ k) (by decide : (0 : Int) < 2)
      have hm2 := Int.lt_tmod_of_pos (mask / 2 ^ k) (by decide : (0 : Int) < 2)
      repeat ((conv => whnf); first | (refine VLoad.mk _ (Ln.at sk) ?_) | (refine VLoad.mk _ (Li.at sk) ?_) | (refine VLoad.mk _ (Lk.at sk) ?_) | (refine VCmp.tt (by omega) ?_) | (refine VCmp.ff (by omega) ?_) | (refine VIn.mk (IntWalk.i64_in _ (by omega)) ?_) | (refine VIdx.mk _ rfl (by omega) ?_) | (refine VIdx.mk 0 rfl (by omega) ?_))
      try (conv => whnf)
      refine VQ.mk (.int .i64 (mask / 2 ^ k)) (fun a ha W _ => ?_) ?_
      · have h3 := ha (.tmp 22) _ rfl
        have h4 := ha (.tmp 23) _ rfl
        have := shr_any mask k (by omega) W
        have hg : Sem.run Try.prog (eqGuard .shr 3 (.tmp 22) (.tmp 23) (.int .i64 mask) (.int .i64 k)) W = .ok () W := rfl
        simp only [execOp, h3, h4, Sem.run_bind, hg, this, Result.andThen_ok, Sem.run_pure]
      repeat ((conv => whnf); first | (refine VCmp.tt (by omega) ?_) | (refine VCmp.ff (by omega) ?_) | (refine VIn.mk (IntWalk.i64_in _ (by omega)) ?_) | (refine VIdx.mk _ rfl (by omega) ?_) | (refine VIdx.mk 0 rfl (by omega) ?_))
      try (conv => whnf)
      refine VQ.mk (.int .i64 ((mask / 2 ^ k).tmod 2)) (fun a ha W _ => ?_) ?_
      · have h3 := ha (.tmp 24) _ rfl
        have h4 := ha (.const (.int .i64 2)) _ rfl
        have := rem_any (mask / 2 ^ k) 2 (by decide) (IntWalk.i64_in _ (by omega)) W
        have hg : Sem.run Try.prog (eqGuard .rem 3 (.tmp 24) (.const (.int .i64 2)) (.int .i64 (mask / 2 ^ k)) (.int .i64 2)) W = .ok () W := rfl
        simp only [execOp, h3, h4, Sem.run_bind, hg, this, Result.andThen_ok, Sem.run_pure]
      cases hb : mbit mask k with
      | true =>
        have hbt : (mask / 2 ^ k).tmod 2 = 1 := of_decide_eq_true hb
        have hv : (if k = i ∨ mbit mask k = true then (t.S k).inc else 0) = (t.S k).inc := if_pos (.inr hb)
        repeat ((conv => whnf); first | (refine VLoad.mk _ (Ln.at sk) ?_) | (refine VLoad.mk _ (Li.at sk) ?_) | (refine VLoad.mk _ (Lk.at sk) ?_) | (refine VCmp.tt (by omega) ?_) | (refine VCmp.ff (by omega) ?_) | (refine VIn.mk (IntWalk.i64_in _ (by omega)) ?_) | (refine VIdx.mk _ rfl (by omega) ?_) | (refine VIdx.mk 0 rfl (by omega) ?_))
        try (conv => whnf)
        refine VBs.mk _ _ (bs27 wk ((t.S k).inc)) ?_
        have d1 : Below wk.heap.size wk (wk.alloc (.cells #[.int .i64 ((t.S k).inc)] 3)) := (Below.refl _ _).alloc (Nat.le_refl _) _
        have hnc : ∀ j u, (eInt ((t.S k).inc))[j]? = some u → (wk.alloc (.cells #[.int .i64 ((t.S k).inc)] 3)).cell? ⟨wk.heap.size, j, none⟩ = some u := fun j u hu => by
          have := range_new wk #[.int .i64 ((t.S k).inc)] 3 j u hu
          rwa [Nat.zero_add] at this
        generalize wk.alloc (.cells #[.int .i64 ((t.S k).inc)] 3) = x1 at d1 hnc ⊢
        have z1 := d1.size
        have o1 := own.keep d1 (fun q hq => (own.lo q hq).2)
        repeat ((conv => whnf); first | (refine VCmp.tt (by omega) ?_) | (refine VCmp.ff (by omega) ?_) | (refine VIn.mk (IntWalk.i64_in _ (by omega)) ?_) | (refine VIdx.mk _ rfl (by omega) ?_) | (refine VIdx.mk 0 rfl (by omega) ?_))
        try (conv => whnf)
        refine VApp.keep w.heap.size 1 8 _ Try.underlying27 info3 rfl (by decide) eInt (fun _ => rfl) one_eInt (setTo t i mask k) ((t.S k).inc) (setTo_len _ _ _ _) o1 hnc (by omega) (by omega) (by omega) fun A2 c2 x2 oA oB hg hA => ?_
        have b2 : Below w.heap.size w x2 := (bk.trans (d1.mono zk)).grown hg (by omega) (fun q hq => (o1.lo q hq).1)
        repeat ((conv => whnf); first | (refine VCmp.tt (by omega) ?_) | (refine VCmp.ff (by omega) ?_) | (refine VIn.mk (IntWalk.i64_in _ (by omega)) ?_) | (refine VIdx.mk _ rfl (by omega) ?_) | (refine VIdx.mk 0 rfl (by omega) ?_))
        try (conv => whnf)
        exact .mk (k + 1, A2, c2) ⟨rfl, rfl, rfl, rfl, rfl, trivial⟩ ⟨hkz, b2, by dsimp only; rw [setTo_succ, hv]; exact oA⟩ (by show z - (k + 1) < z - k; omega)
      | false =>
        have hbt : ¬ (mask / 2 ^ k).tmod 2 = 1 := of_decide_eq_false hb
        have hv : (if k = i ∨ mbit mask k = true then (t.S k).inc else 0) = 0 := if_neg (by rintro (e | e); exact hki e; rw [hb] at e; cases e)
        repeat ((conv => whnf); first | (refine VCmp.tt (by omega) ?_) | (refine VCmp.ff (by omega) ?_) | (refine VIn.mk (IntWalk.i64_in _ (by omega)) ?_) | (refine VIdx.mk _ rfl (by omega) ?_) | (refine VIdx.mk 0 rfl (by omega) ?_))
        try (conv => whnf)
        refine VBs.mk _ _ (bs27 wk ((0 : Int))) ?_
        have d1 : Below wk.heap.size wk (wk.alloc (.cells #[.int .i64 ((0 : Int))] 3)) := (Below.refl _ _).alloc (Nat.le_refl _) _
        have hnc : ∀ j u, (eInt ((0 : Int)))[j]? = some u → (wk.alloc (.cells #[.int .i64 ((0 : Int))] 3)).cell? ⟨wk.heap.size, j, none⟩ = some u := fun j u hu => by
          have := range_new wk #[.int .i64 ((0 : Int))] 3 j u hu
          rwa [Nat.zero_add] at this
        generalize wk.alloc (.cells #[.int .i64 ((0 : Int))] 3) = x1 at d1 hnc ⊢
        have z1 := d1.size
        have o1 := own.keep d1 (fun q hq => (own.lo q hq).2)
        repeat ((conv => whnf); first | (refine VCmp.tt (by omega) ?_) | (refine VCmp.ff (by omega) ?_) | (refine VIn.mk (IntWalk.i64_in _ (by omega)) ?_) | (refine VIdx.mk _ rfl (by omega) ?_) | (refine VIdx.mk 0 rfl (by omega) ?_))
        try (conv => whnf)
        refine VApp.keep w.heap.size 1 8 _ Try.underlying27 info3 rfl (by decide) eInt (fun _ => rfl) one_eInt (setTo t i mask k) ((0 : Int)) (setTo_len _ _ _ _) o1 hnc (by omega) (by omega) (by omega) fun A2 c2 x2 oA oB hg hA => ?_
        have b2 : Below w.heap.size w x2 := (bk.trans (d1.mono zk)).grown hg (by omega) (fun q hq => (o1.lo q hq).1)
        repeat ((conv => whnf); first | (refine VCmp.tt (by omega) ?_) | (refine VCmp.ff (by omega) ?_) | (refine VIn.mk (IntWalk.i64_in _ (by omega)) ?_) | (refine VIdx.mk _ rfl (by omega) ?_) | (refine VIdx.mk 0 rfl (by omega) ?_))
        try (conv => whnf)
        exact .mk (k + 1, A2, c2) ⟨rfl, rfl, rfl, rfl, rfl, trivial⟩ ⟨hkz, b2, by dsimp only; rw [setTo_succ, hv]; exact oA⟩ (by show z - (k + 1) < z - k; omega)
  case neg =>
    obtain rfl : k = z := by omega
    repeat ((conv => whnf); first | (refine VLoad.mk _ (Ln.at sk) ?_) | (refine VLoad.mk _ (La.at sk) ?_) | (refine VLoad.mk _ (Lp.at sk) ?_) | (refine VCmp.tt (by omega) ?_) | (refine VCmp.ff (by omega) ?_) | (refine VIn.mk (IntWalk.i64_in _ (by omega)) ?_) | (refine VIdx.mk _ rfl (by omega) ?_) | (refine VIdx.mk 0 rfl (by omega) ?_))
    try (conv => whnf)
    have Tk := T.below bk
    have ak := Tk.ag i hi
    have hset : setTo t i mask k = t.setOf i mask := by unfold setTo Tm.setOf; rw [hzn]
    refine VCall.mk _ (estimate_any' (X.ag i) (t.S i) (X.M i) (X.cM i) A c wk.heap.size k (t.setOf i mask) wk (by rw [← hset]; exact setTo_len _ _ _ _) ak.ag ak.hb oR.inv (Nat.le_refl _) (by rw [← hset]; exact own.row fun _ => rfl) (by omega)) ?_
    rintro _ x2 ⟨rfl, hL⟩
    refine ⟨_, rfl, ?_⟩
    obtain ⟨s, hs⟩ : ∃ s, s = ((t.S i).estimate (t.setOf i mask)).2.2 := ⟨_, rfl⟩
    obtain ⟨e, he⟩ : ∃ e, e = ((t.S i).estimate (t.setOf i mask)).2.1 := ⟨_, rfl⟩
    have hup := (estimate_ris oR (t.setOf i mask)).2
    have hinv := (estimate_ris oR (t.setOf i mask)).1.inv
    rw [← hs] at hL hup hinv
    rw [← he]
    obtain ⟨T2, Q2⟩ := Tk.agent' hi hL hup.mem hup.inc
    repeat ((conv => whnf); first | (refine VCmp.tt (by omega) ?_) | (refine VCmp.ff (by omega) ?_) | (refine VIn.mk (IntWalk.i64_in _ (by omega)) ?_) | (refine VIdx.mk _ rfl (by omega) ?_) | (refine VIdx.mk 0 rfl (by omega) ?_))
    try (conv => whnf)
    have hans : t.told i mask = { t.upd i s with sp := t.sp || decide (e = 3) } := by unfold Tm.told; rw [← hs, ← he]
    rw [hans]
    have hsn : s.n = t.n := hup.n.trans on
    have q02 : Ro (· ≠ 0) K K w x2 := (Ro.below bk).trans (Q2.more fun r hr => by omega)
    -- the mark, then notes: x2, T2 : the team with s at i
    have s2 := Sm.refl [h] x2
    cases hsp : t.sp with
    | true =>
      have Ls : Ld Try.prog 4 h 6 (Sm [h] x2) (.bool true) := by have := T2.l_sp (l := [h]) (by simp); rwa [show ({ t with S := upS t.S i s } : Tm).sp = t.sp from rfl, hsp] at this
      repeat ((conv => whnf); first | (refine VLoad.mk _ (Ls.at s2) ?_) | (refine VCmp.tt (by omega) ?_) | (refine VCmp.ff (by omega) ?_) | (refine VIn.mk (IntWalk.i64_in _ (by omega)) ?_) | (refine VIdx.mk _ rfl (by omega) ?_) | (refine VIdx.mk 0 rfl (by omega) ?_))
      try (conv => whnf)
      refine VStore.cell (by kernel_rfl) (T2.ht 6 (by omega)).1 (T2.ht 6 (by omega)).2 rfl rfl fun x3 hx3 => ?_
      obtain ⟨T3, Q3⟩ := T2.spset rfl true hx3.out
      repeat ((conv => whnf); first | (refine VCmp.tt (by omega) ?_) | (refine VCmp.ff (by omega) ?_) | (refine VIn.mk (IntWalk.i64_in _ (by omega)) ?_) | (refine VIdx.mk _ rfl (by omega) ?_) | (refine VIdx.mk 0 rfl (by omega) ?_))
      try (conv => whnf)
      refine VCall.mk _ (notes_any T3 hi hmz hz (NoIn.of O hi hinv hsn hl true)) ?_
      rintro _ x4 ⟨rfl, p4⟩
      refine ⟨_, rfl, ?_⟩
      repeat ((conv => whnf); first | (refine VCmp.tt (by omega) ?_) | (refine VCmp.ff (by omega) ?_) | (refine VIn.mk (IntWalk.i64_in _ (by omega)) ?_) | (refine VIdx.mk _ rfl (by omega) ?_) | (refine VIdx.mk 0 rfl (by omega) ?_))
      try (conv => whnf)
      have ac := after_call (t := t) (i := i) (s := s) (b := true)
      exact .mk ⟨rfl, by
        have := TP.trans (q02.trans (Q3.more fun r hr => by omega)) p4
        rw [ac] at this
        exact this⟩
    | false =>
      have Ls : Ld Try.prog 4 h 6 (Sm [h] x2) (.bool false) := by have := T2.l_sp (l := [h]) (by simp); rwa [show ({ t with S := upS t.S i s } : Tm).sp = t.sp from rfl, hsp] at this
      by_cases he3 : e = 3
      · rw [decide_eq_true he3]
        repeat ((conv => whnf); first | (refine VLoad.mk _ (Ls.at s2) ?_) | (refine VCmp.tt (by omega) ?_) | (refine VCmp.ff (by omega) ?_) | (refine VIn.mk (IntWalk.i64_in _ (by omega)) ?_) | (refine VIdx.mk _ rfl (by omega) ?_) | (refine VIdx.mk 0 rfl (by omega) ?_))
        try (conv => whnf)
        refine VStore.cell (by kernel_rfl) (T2.ht 6 (by omega)).1 (T2.ht 6 (by omega)).2 rfl rfl fun x3 hx3 => ?_
        obtain ⟨T3, Q3⟩ := T2.spset rfl true hx3.out
        repeat ((conv => whnf); first | (refine VCmp.tt (by omega) ?_) | (refine VCmp.ff (by omega) ?_) | (refine VIn.mk (IntWalk.i64_in _ (by omega)) ?_) | (refine VIdx.mk _ rfl (by omega) ?_) | (refine VIdx.mk 0 rfl (by omega) ?_))
        try (conv => whnf)
        refine VCall.mk _ (notes_any T3 hi hmz hz (NoIn.of O hi hinv hsn hl true)) ?_
        rintro _ x4 ⟨rfl, p4⟩
        refine ⟨_, rfl, ?_⟩
        repeat ((conv => whnf); first | (refine VCmp.tt (by omega) ?_) | (refine VCmp.ff (by omega) ?_) | (refine VIn.mk (IntWalk.i64_in _ (by omega)) ?_) | (refine VIdx.mk _ rfl (by omega) ?_) | (refine VIdx.mk 0 rfl (by omega) ?_))
        try (conv => whnf)
        have ac := after_call (t := t) (i := i) (s := s) (b := true)
        exact .mk ⟨rfl, by
          have := TP.trans (q02.trans (Q3.more fun r hr => by omega)) p4
          rw [ac] at this
          exact this⟩
      · rw [decide_eq_false he3]
        repeat ((conv => whnf); first | (refine VLoad.mk _ (Ls.at s2) ?_) | (refine VCmp.tt (by omega) ?_) | (refine VCmp.ff (by omega) ?_) | (refine VIn.mk (IntWalk.i64_in _ (by omega)) ?_) | (refine VIdx.mk _ rfl (by omega) ?_) | (refine VIdx.mk 0 rfl (by omega) ?_))
        try (conv => whnf)
        refine VStore.cell (by kernel_rfl) (T2.ht 6 (by omega)).1 (T2.ht 6 (by omega)).2 rfl rfl fun x3 hx3 => ?_
        obtain ⟨T3, Q3⟩ := T2.spset rfl false hx3.out
        repeat ((conv => whnf); first | (refine VCmp.tt (by omega) ?_) | (refine VCmp.ff (by omega) ?_) | (refine VIn.mk (IntWalk.i64_in _ (by omega)) ?_) | (refine VIdx.mk _ rfl (by omega) ?_) | (refine VIdx.mk 0 rfl (by omega) ?_))
        try (conv => whnf)
        refine VCall.mk _ (notes_any T3 hi hmz hz (NoIn.of O hi hinv hsn hl false)) ?_
        rintro _ x4 ⟨rfl, p4⟩
        refine ⟨_, rfl, ?_⟩
        repeat ((conv => whnf); first | (refine VCmp.tt (by omega) ?_) | (refine VCmp.ff (by omega) ?_) | (refine VIn.mk (IntWalk.i64_in _ (by omega)) ?_) | (refine VIdx.mk _ rfl (by omega) ?_) | (refine VIdx.mk 0 rfl (by omega) ?_))
        try (conv => whnf)
        have ac := after_call (t := t) (i := i) (s := s) (b := false)
        exact .mk ⟨rfl, by
          have := TP.trans (q02.trans (Q3.more fun r hr => by omega)) p4
          rw [ac] at this
          exact this⟩
end Go.Proofs.Ytfbeggdbjpmppaa
namespace Go.Proofs.Ytfbeggdbjpmppaa
open Go Go.RowKit
theorem cell_ltB {w : World} {b o : Nat} {v : Value} (h : w.cell? ⟨b, o, none⟩ = some v) : b < w.heap.size := Classical.byContradiction fun hc => by
  unfold World.cell? at h
  rw [Array.getElem?_eq_none (by show w.heap.size ≤ b; omega)] at h
  cases h
set_option maxRecDepth 100000 in
set_option maxHeartbeats 4000000 in
theorem boots_any {w : World} {K : Nat → Nat} {h z m i : Nat} {t : Tm} {X : TX} (T : TmM w K h z m t X) (O : t.Ok m) (hi : i < z) (him : i ≤ m) (hmz : m ≤ z) (hz : z ≤ 16) (hzn : z = t.n) (hl : (t.E i).length ≤ 1000000000) (hinc : (t.S i).inc ≤ 1000000000) :
    Calls Try.prog 42 #[.pointer (some ⟨h, 0, none⟩), .int .i64 i] w fun e w' => e = .returned (.bool true) ∧ TP w K h z (max m (i + 1)) (t.boot i) w' := by
  refine calls_vc tab_ok Try.func42 rfl ?_
  have n16 := O.n16
  have n1 := O.n1
  have f0 := O.f0
  have f1 := O.f1
  have hi0 : 0 ≤ (t.S i).inc := by
    by_cases hm : i < m
    · have := (O.nd i hm).2.1.inv.inc1; omega
    · rw [T.de i (by omega)]; omega
  obtain ⟨tb, ib, eb, B, kt, ki, ke⟩ := T.bks (by omega)
  have hla : ∀ b ∈ [h, tb, ib, eb], b < w.heap.size := fun b hb => by
    simp only [List.mem_cons, List.not_mem_nil, or_false] at hb
    rcases hb with rfl | rfl | rfl | rfl
    · exact T.hs
    · exact B.tz
    · exact B.iz
    · exact B.ez
  have La := T.l_at (l := [h, tb, ib, eb]) B (by simp)
  have Ln := T.l_n (l := [h, tb, ib, eb]) (by simp)
  have Lf := T.l_fl (l := [h, tb, ib, eb]) (by simp)
  have Li := T.l_inc (l := [h, tb, ib, eb]) B (by simp)
  have Lv := T.l_iv (l := [h, tb, ib, eb]) B (by simp) hi
  have sd : Sm [h, tb, ib, eb] w w.drew := fun _ _ => rfl
  conv => whnf
  repeat ((conv => whnf); first | (refine VCmp.tt (by omega) ?_) | (refine VCmp.ff (by omega) ?_) | (refine VIn.mk (IntWalk.i64_in _ (by omega)) ?_) | (refine VIdx.mk _ rfl (by omega) ?_) | (refine VIdx.mk 0 rfl (by omega) ?_))
  try (conv => whnf)
  refine VDraw.mk 1000 [([0, 1, 2, 3, 4, 5, 6, 7, 8, 9, 10, 11, 12, 13, 14, 15, 16], 17)] [18, 19, 20, 21, 22] (Sm [h, tb, ib, eb] w) (by kernel_rfl) (by kernel_rfl) (sd) ?_
  repeat ((conv => whnf); first | (refine VLoad.mk _ Ln ?_) | (refine VLoad.mk _ Lf ?_) | (refine VLoad.mk _ Li ?_) | (refine VLoad.mk _ Lv ?_) | (refine VCmp.tt (by omega) ?_) | (refine VCmp.ff (by omega) ?_) | (refine VIn.mk (IntWalk.i64_in _ (by omega)) ?_) | (refine VIdx.mk _ rfl (by omega) ?_) | (refine VIdx.mk 0 rfl (by omega) ?_))
  try (conv => whnf)
  have hb : newB t.n i ((t.S i).inc + 1) t.fl = true := newB_yes (by omega)
  refine VCall.mk _ (new_yes t.n i ((t.S i).inc + 1) t.fl w.drew hb (by omega)) ?_
  rintro _ x1 ⟨rfl, hag, b1⟩
  refine ⟨_, rfl, ?_⟩
  have b01 : Below w.heap.size w x1 := ⟨b1.os, b1.tape, b1.output, b1.size, b1.block⟩
  have z1 := b01.size
  have T1 := T.below b01
  have s1 : Sm [h, tb, ib, eb] w x1 := .below b01 hla
  have hg2 : w.heap.size < x1.heap.size := cell_ltB hag.n
  have ht1 : x1.there tb 0 z := by
    have h2 := T1.a2.own
    rw [B.t] at h2
    have := Owns.thereN h2 len_ePtr
    unfold ptrs at this
    rwa [Nat.mul_one, List.length_map, List.length_range] at this
  have hi1 : x1.there ib 0 z := by
    have h2 := T1.a3.own
    rw [B.i] at h2
    have := Owns.thereN h2 (sz := 1) (fun _ => rfl)
    unfold incs at this
    rwa [Nat.mul_one, List.length_map, List.length_range] at this
  repeat ((conv => whnf); first | (refine VS.mk s1 ?_) | (refine VCmp.tt (by omega) ?_) | (refine VCmp.ff (by omega) ?_) | (refine VIn.mk (IntWalk.i64_in _ (by omega)) ?_) | (refine VIdx.mk _ rfl (by omega) ?_) | (refine VIdx.mk 0 rfl (by omega) ?_))
  try (conv => whnf)
  repeat ((conv => whnf); first | (refine VLoad.mk _ (La.at s1) ?_) | (refine VCmp.tt (by omega) ?_) | (refine VCmp.ff (by omega) ?_) | (refine VIn.mk (IntWalk.i64_in _ (by omega)) ?_) | (refine VIdx.mk _ rfl (by omega) ?_) | (refine VIdx.mk 0 rfl (by omega) ?_))
  try (conv => whnf)
  refine VStore.cell (by kernel_rfl) (ht1 i hi).1 (ht1 i hi).2 rfl rfl fun x2 hx2 => ?_
  have Li' := T.l_inc (l := [h, ib]) B (by simp)
  have Lv' := T.l_iv (l := [h, ib]) B (by simp) hi
  have hne : h ≠ tb ∧ ib ≠ tb := ⟨fun e => by rw [← e, T.hk] at kt; omega, fun e => by rw [e] at ki; omega⟩
  have q2 : Sm [h, ib] x1 x2 := fun b hb => by
    have hg := (grown_cell x1 tb (0 + i) (.pointer (some ⟨w.heap.size, 0, none⟩))).block b (by
      have h1 := T.hs; have h2 := B.iz
      simp only [List.mem_cons, List.not_mem_nil, or_false] at hb
      rcases hb with rfl | rfl <;> omega) (by
      simp only [List.mem_cons, List.not_mem_nil, or_false] at hb
      intro e
      injection e with e
      rcases hb with rfl | rfl
      · exact hne.1 e
      · exact hne.2 e)
    rw [hx2.out]
    exact hg
  have s2 : Sm [h, ib] w x2 := fun b hb => (q2 b hb).trans (s1 b (by
    simp only [List.mem_cons, List.not_mem_nil, or_false] at hb ⊢
    rcases hb with rfl | rfl <;> simp))
  have hi2 : x2.there ib 0 z := by rw [hx2.out]; exact there_set hi1 _ _
  repeat ((conv => whnf); first | (refine VLoad.mk _ (Li'.at s2) ?_) | (refine VLoad.mk _ (Lv'.at s2) ?_) | (refine VCmp.tt (by omega) ?_) | (refine VCmp.ff (by omega) ?_) | (refine VIn.mk (IntWalk.i64_in _ (by omega)) ?_) | (refine VIdx.mk _ rfl (by omega) ?_) | (refine VIdx.mk 0 rfl (by omega) ?_))
  try (conv => whnf)
  refine VStore.cell (by kernel_rfl) (hi2 i hi).1 (hi2 i hi).2 rfl rfl fun x3 hx3 => ?_
  have hr : Inv (newSt t.n i ((t.S i).inc + 1) t.fl) := new_inv hb (by omega)
  obtain ⟨K', T3, Q3⟩ := T.bootm (w' := x3) (o := 0 + i) (o' := 0 + i) (s := newSt t.n i ((t.S i).inc + 1) t.fl) hi him b01 (Nat.le_refl _) hg2 hag rfl rfl B.t B.i (Nat.zero_add i) (Nat.zero_add i) hx2.out hx3.out
  have hN : NoIn { t with S := upS t.S i (newSt t.n i ((t.S i).inc + 1) t.fl) } i := by
    refine ⟨O.n16, ?_, ?_, ?_, fun x hx => ?_, hl⟩
    · show (upS t.S i _ i).n = t.n; rw [upS_same]; rfl
    · show (upS t.S i _ i).own.set.length = 16; rw [upS_same]; exact hr.own.set
    · show (upS t.S i _ i).own.vec.length = 16; rw [upS_same]; exact hr.own.vec
    · have := ((O.nd i (O.lt hx)).2.2.2.each x hx).1.ok
      exact ⟨this.set, this.vec⟩
  repeat ((conv => whnf); first | (refine VCmp.tt (by omega) ?_) | (refine VCmp.ff (by omega) ?_) | (refine VIn.mk (IntWalk.i64_in _ (by omega)) ?_) | (refine VIdx.mk _ rfl (by omega) ?_) | (refine VIdx.mk 0 rfl (by omega) ?_))
  try (conv => whnf)
  refine VCall.mk _ (notes_any T3 (by omega) (by omega) hz hN) ?_
  rintro _ x4 ⟨rfl, p4⟩
  refine ⟨_, rfl, ?_⟩
  repeat ((conv => whnf); first | (refine VCmp.tt (by omega) ?_) | (refine VCmp.ff (by omega) ?_) | (refine VIn.mk (IntWalk.i64_in _ (by omega)) ?_) | (refine VIdx.mk _ rfl (by omega) ?_) | (refine VIdx.mk 0 rfl (by omega) ?_))
  try (conv => whnf)
  exact .mk ⟨rfl, by
    have := TP.trans (Q3.more fun r hr => by omega) p4
    have e : ({ ({ t with S := upS t.S i (newSt t.n i ((t.S i).inc + 1) t.fl) } : Tm) with E := noteE t.n t.E i (upS t.S i (newSt t.n i ((t.S i).inc + 1) t.fl) i) } : Tm) = t.boot i := by unfold Tm.boot Tm.upd; rw [upS_same]
    rw [← e]
    exact this⟩
end Go.Proofs.Ytfbeggdbjpmppaa
namespace Go.Proofs.Ytfbeggdbjpmppaa
open Go Go.RowKit
set_option maxRecDepth 100000 in
theorem in_any (A : Option Addr) (c N n : Nat) (l : List Int) (x : Int) (w : World) (hn : l.length = n) (hN : N ≤ w.heap.size) (hA : RowAt w N 1 eInt A l) (h1 : n ≤ 2000000) :
    Calls Try.prog 44 #[.slice A n c, .int .i64 x] w fun e w' => e = .returned (.bool (decide (x ∈ l))) ∧ w' = w := by
  refine calls_vc tab_ok Try.func44 rfl ?_
  conv => whnf
  repeat ((conv => whnf); first | (refine VCmp.tt (by omega) ?_) | (refine VCmp.ff (by omega) ?_) | (refine VIn.mk (IntWalk.i64_in _ (by omega)) ?_) | (refine VIdx.mk _ rfl (by omega) ?_) | (refine VIdx.mk 0 rfl (by omega) ?_))
  try (conv => whnf)
  refine VLoop.mk Nat (fun k => [(0, .slice A n c), (1, .int .i64 x), (5, .int .i64 k)]) (fun k W => k ≤ n ∧ W = w ∧ x ∉ l.take k) (fun k => n - k) 0 ⟨rfl, rfl, rfl, trivial⟩ ⟨Nat.zero_le _, rfl, by simp⟩ ?_
  rintro k W ⟨hk, rfl, hno⟩
  by_cases hkn : k < n
  · obtain ⟨y, hy⟩ : ∃ y, l[k]? = some y := ⟨_, List.getElem?_eq_getElem (by omega)⟩
    obtain ⟨b, off, rfl, hb, hc⟩ := hA (by omega)
    have Ly : Ld Try.prog 3 b (off + k) (Eq W) (.int .i64 y) := .of (load3 (by have := hc k y hy 0 _ rfl; rwa [Nat.mul_one] at this))
    by_cases hxy : y = x
    · repeat ((conv => whnf); first | (refine VLoad.mk _ Ly ?_) | (refine VCmp.tt (by omega) ?_) | (refine VCmp.ff (by omega) ?_) | (refine VIn.mk (IntWalk.i64_in _ (by omega)) ?_) | (refine VIdx.mk _ rfl (by omega) ?_) | (refine VIdx.mk 0 rfl (by omega) ?_))
      try (conv => whnf)
      have : x ∈ l := by rw [← hxy]; exact List.mem_of_getElem? hy
      exact .mk ⟨by rw [decide_eq_true this]; rfl, rfl⟩
    · repeat ((conv => whnf); first | (refine VLoad.mk _ Ly ?_) | (refine VCmp.tt (by omega) ?_) | (refine VCmp.ff (by omega) ?_) | (refine VIn.mk (IntWalk.i64_in _ (by omega)) ?_) | (refine VIdx.mk _ rfl (by omega) ?_) | (refine VIdx.mk 0 rfl (by omega) ?_))
      try (conv => whnf)
      refine .mk (k + 1) ⟨rfl, rfl, rfl, trivial⟩ ⟨hkn, rfl, ?_⟩ (by show n - (k + 1) < n - k; omega)
      rw [List.take_add_one, hy]
      simp only [Option.toList_some, List.mem_append, List.mem_singleton, not_or]
      exact ⟨hno, fun e => hxy e.symm⟩
  · obtain rfl : k = n := by omega
    repeat ((conv => whnf); first | (refine VCmp.tt (by omega) ?_) | (refine VCmp.ff (by omega) ?_) | (refine VIn.mk (IntWalk.i64_in _ (by omega)) ?_) | (refine VIdx.mk _ rfl (by omega) ?_) | (refine VIdx.mk 0 rfl (by omega) ?_))
    try (conv => whnf)
    have : x ∉ l := by rw [List.take_of_length_le (by omega)] at hno; exact hno
    exact .mk ⟨by rw [decide_eq_false this]; rfl, rfl⟩
end Go.Proofs.Ytfbeggdbjpmppaa
namespace Go.Proofs.Ytfbeggdbjpmppaa
open Go Go.RowKit
theorem dn_ld (w : World) (d : Dn) (M : Option Addr) (cM : Nat) (T : Option Addr) (cT : Nat) {b : Nat} (hr : w.rangeAt b 0 (dnA d M cM T cT).toList) :
    Ld Try.prog 29 b 6 (Sm [b] w) (.agg (vidC d.v)) ∧ Ld Try.prog 46 b 6 (Sm [b] w) (.agg (viewA d.v M d.mem.length cM)) ∧ Ld Try.prog 3 b 0 (Sm [b] w) (.int .i64 d.pid) ∧ Ld Try.prog 29 b 2 (Sm [b] w) (.agg (vidC d.frm)) ∧ Ld Try.prog 3 b 2 (Sm [b] w) (.int .i64 d.frm.e) ∧ Ld Try.prog 27 b 11 (Sm [b] w) (.slice T d.tr.length cT) :=
  ⟨⟨fun W hW => load_agg (by kernel_rfl) (by kernel_rfl) (range_sub (n := 4) (range_same hr (hW b (by simp))) 6 rfl)⟩,
   ⟨fun W hW => load_agg (by kernel_rfl) (by kernel_rfl) (range_sub (n := 5) (range_same hr (hW b (by simp))) 6 rfl)⟩,
   ⟨fun W hW => load3 (cell_sm (hr 0 _ rfl) (by simp) hW)⟩,
   ⟨fun W hW => load_agg (by kernel_rfl) (by kernel_rfl) (range_sub (n := 4) (range_same hr (hW b (by simp))) 2 rfl)⟩,
   ⟨fun W hW => load3 (cell_sm (hr 2 _ rfl) (by simp) hW)⟩,
   ⟨fun W hW => load27 (cell_sm (hr 11 _ rfl) (by simp) hW)⟩⟩
set_option maxRecDepth 100000 in
set_option maxHeartbeats 4000000 in
theorem fits_any (w : World) (a b : Dn) (M : Option Addr) (cM : Nat) (T : Option Addr) (cT : Nat) (M' : Option Addr) (cM' : Nat) (T' : Option Addr) (cT' : Nat) (F : Fit a b) (rM : RowAt w w.heap.size 3 eMb M a.mem) (rT : RowAt w w.heap.size 1 eInt T a.tr) (rM' : RowAt w w.heap.size 3 eMb M' b.mem) (rT' : RowAt w w.heap.size 1 eInt T' b.tr)
    (l1 : a.mem.length ≤ 16 ∧ a.tr.length ≤ 16 ∧ b.mem.length ≤ 16 ∧ b.tr.length ≤ 16) :
    Calls Try.prog 45 #[.agg (dnA a M cM T cT), .agg (dnA b M' cM' T' cT')] w fun e w' => e = .returned (.bool true) ∧ Below w.heap.size w w' := by
  refine calls_vc tab_ok Try.func45 rfl ?_
  conv => whnf
  refine .mk fun w1 hw1 => ?_
  have c1 : Below w.heap.size w w1 := by rw [hw1.out]; exact below_box1 _ _ _
  have z1 : w1.heap.size = w.heap.size + 1 := by rw [hw1.out]; simp
  have r1 : w1.rangeAt w.heap.size 0 (dnA a M cM T cT).toList := by rw [hw1.out]; exact range_new w _ 52
  clear hw1
  conv => whnf
  repeat ((conv => whnf); first | (refine VCmp.tt (by omega) ?_) | (refine VCmp.ff (by omega) ?_) | (refine VIn.mk (IntWalk.i64_in _ (by omega)) ?_) | (refine VIdx.mk _ rfl (by omega) ?_) | (refine VIdx.mk 0 rfl (by omega) ?_))
  try (conv => whnf)
  refine .mk fun w2 hw2 => ?_
  have c2 : Below w1.heap.size w1 w2 := by rw [hw2.out]; exact below_box1 _ _ _
  have z2 : w2.heap.size = w1.heap.size + 1 := by rw [hw2.out]; simp
  have r2 : w2.rangeAt w1.heap.size 0 (dnA b M' cM' T' cT').toList := by rw [hw2.out]; exact range_new w1 _ 52
  clear hw2
  have r12 : w2.rangeAt w.heap.size 0 (dnA a M cM T cT).toList := range_same r1 (c2.block _ (by omega))
  have c02 : Below w.heap.size w w2 := c1.trans (c2.mono (by omega))
  obtain ⟨a1, a2, a3, a4, a5, a6⟩ := dn_ld w2 a M cM T cT r12
  obtain ⟨b1, b2, b3, b4, b5, b6⟩ := dn_ld w2 b M' cM' T' cT' r2
  have sa : Sm [w.heap.size] w2 w2 := Sm.refl _ _
  have sb : Sm [w1.heap.size] w2 w2 := Sm.refl _ _
  have hsm : ∀ W, Below w2.heap.size w2 W → Sm [w.heap.size] w2 W ∧ Sm [w1.heap.size] w2 W := fun W hW => ⟨.below hW (by simp; omega), .below hW (by simp; omega)⟩
  repeat ((conv => whnf); first | (refine VLoad.mk _ (a1.at sa) ?_) | (refine VLoad.mk _ (b1.at sb) ?_) | (refine VCmp.tt (by omega) ?_) | (refine VCmp.ff (by omega) ?_) | (refine VIn.mk (IntWalk.i64_in _ (by omega)) ?_) | (refine VIdx.mk _ rfl (by omega) ?_) | (refine VIdx.mk 0 rfl (by omega) ?_))
  try (conv => whnf)
  refine VCall.mk _ (lsame_any a.v b.v w2) ?_
  rintro _ x3 ⟨rfl, d3⟩
  refine ⟨_, rfl, ?_⟩
  have c03 : Below w.heap.size w x3 := c02.trans (d3.mono (by omega))
  by_cases hv : a.v = b.v
  · rw [show vidEq a.v b.v = true from decide_eq_true hv]
    obtain ⟨f1, f2, f3, f4⟩ := F hv
    obtain ⟨sa3, sb3⟩ := hsm x3 d3
    repeat ((conv => whnf); first | (refine VLoad.mk _ (a2.at sa3) ?_) | (refine VLoad.mk _ (b2.at sb3) ?_) | (refine VCmp.tt (by omega) ?_) | (refine VCmp.ff (by omega) ?_) | (refine VIn.mk (IntWalk.i64_in _ (by omega)) ?_) | (refine VIdx.mk _ rfl (by omega) ?_) | (refine VIdx.mk 0 rfl (by omega) ?_))
    try (conv => whnf)
    refine VCall.mk _ (views_any a.v b.v M M' cM cM' x3.heap.size a.mem.length b.mem.length a.mem b.mem x3 rfl rfl (Nat.le_refl _) (rM.below c03 (Nat.le_refl _) |>.more c03.size) (rM'.below c03 (Nat.le_refl _) |>.more c03.size) (by omega) (by omega)) ?_
    rintro _ x4 ⟨rfl, d4⟩
    refine ⟨_, rfl, ?_⟩
    rw [show viSame a.v a.mem b.v b.mem = true from by rw [hv, f1]; exact viSame_refl _ _]
    have d24 : Below w2.heap.size w2 x4 := d3.trans (d4.mono d3.size)
    have c04 : Below w.heap.size w x4 := c02.trans (d24.mono (by omega))
    obtain ⟨sa4, sb4⟩ := hsm x4 d24
    have hpid : ¬ ((a.pid : Int) = b.pid) := by omega
    repeat ((conv => whnf); first | (refine VLoad.mk _ (a3.at sa4) ?_) | (refine VLoad.mk _ (b3.at sb4) ?_) | (refine VLoad.mk _ (a4.at sa4) ?_) | (refine VLoad.mk _ (b4.at sb4) ?_) | (refine VCmp.tt (by omega) ?_) | (refine VCmp.ff (by omega) ?_) | (refine VIn.mk (IntWalk.i64_in _ (by omega)) ?_) | (refine VIdx.mk _ rfl (by omega) ?_) | (refine VIdx.mk 0 rfl (by omega) ?_))
    try (conv => whnf)
    refine VCall.mk _ (lsame_any a.frm b.frm x4) ?_
    rintro _ x5 ⟨rfl, d5⟩
    refine ⟨_, rfl, ?_⟩
    have d25 : Below w2.heap.size w2 x5 := d24.trans (d5.mono d24.size)
    have c05 : Below w.heap.size w x5 := c02.trans (d25.mono (by omega))
    obtain ⟨sa5, sb5⟩ := hsm x5 d25
    obtain ⟨tg, htg⟩ : ∃ tg : Bool, tg = decide (a.frm = b.frm ∧ 0 < a.frm.e) := ⟨_, rfl⟩
    have i1 : decide ((b.pid : Int) ∈ a.tr) = tg := by rw [htg]; exact decide_eq_decide.2 f3
    have i2 : decide ((a.pid : Int) ∈ b.tr) = tg := by rw [htg]; exact decide_eq_decide.2 f4
    have in1 := in_any T cT x5.heap.size a.tr.length a.tr b.pid x5 rfl (Nat.le_refl _) (rT.below c05 (Nat.le_refl _) |>.more c05.size) (by omega)
    have in2 := in_any T' cT' x5.heap.size b.tr.length b.tr a.pid x5 rfl (Nat.le_refl _) (rT'.below c05 (Nat.le_refl _) |>.more c05.size) (by omega)
    rw [i1] at in1
    rw [i2] at in2
    clear i1 i2
    by_cases hf : a.frm = b.frm
    · rw [show vidEq a.frm b.frm = true from decide_eq_true hf]
      by_cases he : 0 < a.frm.e
      · have ht : tg = true := by rw [htg]; exact decide_eq_true ⟨hf, he⟩
        subst ht
        repeat ((conv => whnf); first | (refine VLoad.mk _ (a5.at sa5) ?_) | (refine VLoad.mk _ (a6.at sa5) ?_) | (refine VLoad.mk _ (b3.at sb5) ?_) | (refine VCmp.tt (by omega) ?_) | (refine VCmp.ff (by omega) ?_) | (refine VIn.mk (IntWalk.i64_in _ (by omega)) ?_) | (refine VIdx.mk _ rfl (by omega) ?_) | (refine VIdx.mk 0 rfl (by omega) ?_))
        try (conv => whnf)
        refine VCall.mk _ in1 ?_
        rintro _ _ ⟨rfl, rfl⟩
        refine ⟨_, rfl, ?_⟩
        repeat ((conv => whnf); first | (refine VLoad.mk _ (b6.at sb5) ?_) | (refine VLoad.mk _ (a3.at sa5) ?_) | (refine VCmp.tt (by omega) ?_) | (refine VCmp.ff (by omega) ?_) | (refine VIn.mk (IntWalk.i64_in _ (by omega)) ?_) | (refine VIdx.mk _ rfl (by omega) ?_) | (refine VIdx.mk 0 rfl (by omega) ?_))
        try (conv => whnf)
        refine VCall.mk _ in2 ?_
        rintro _ _ ⟨rfl, rfl⟩
        refine ⟨_, rfl, ?_⟩
        repeat ((conv => whnf); first | (refine VCmp.tt (by omega) ?_) | (refine VCmp.ff (by omega) ?_) | (refine VIn.mk (IntWalk.i64_in _ (by omega)) ?_) | (refine VIdx.mk _ rfl (by omega) ?_) | (refine VIdx.mk 0 rfl (by omega) ?_))
        try (conv => whnf)
        exact .mk ⟨rfl, c05⟩
      · have ht : tg = false := by rw [htg]; exact decide_eq_false fun h => he h.2
        subst ht
        repeat ((conv => whnf); first | (refine VLoad.mk _ (a5.at sa5) ?_) | (refine VLoad.mk _ (a6.at sa5) ?_) | (refine VLoad.mk _ (b3.at sb5) ?_) | (refine VCmp.tt (by omega) ?_) | (refine VCmp.ff (by omega) ?_) | (refine VIn.mk (IntWalk.i64_in _ (by omega)) ?_) | (refine VIdx.mk _ rfl (by omega) ?_) | (refine VIdx.mk 0 rfl (by omega) ?_))
        try (conv => whnf)
        refine VCall.mk _ in1 ?_
        rintro _ _ ⟨rfl, rfl⟩
        refine ⟨_, rfl, ?_⟩
        repeat ((conv => whnf); first | (refine VLoad.mk _ (b6.at sb5) ?_) | (refine VLoad.mk _ (a3.at sa5) ?_) | (refine VCmp.tt (by omega) ?_) | (refine VCmp.ff (by omega) ?_) | (refine VIn.mk (IntWalk.i64_in _ (by omega)) ?_) | (refine VIdx.mk _ rfl (by omega) ?_) | (refine VIdx.mk 0 rfl (by omega) ?_))
        try (conv => whnf)
        refine VCall.mk _ in2 ?_
        rintro _ _ ⟨rfl, rfl⟩
        refine ⟨_, rfl, ?_⟩
        repeat ((conv => whnf); first | (refine VCmp.tt (by omega) ?_) | (refine VCmp.ff (by omega) ?_) | (refine VIn.mk (IntWalk.i64_in _ (by omega)) ?_) | (refine VIdx.mk _ rfl (by omega) ?_) | (refine VIdx.mk 0 rfl (by omega) ?_))
        try (conv => whnf)
        exact .mk ⟨rfl, c05⟩
    · rw [show vidEq a.frm b.frm = false from decide_eq_false hf]
      have ht : tg = false := by rw [htg]; exact decide_eq_false fun h => hf h.1
      subst ht
      repeat ((conv => whnf); first | (refine VLoad.mk _ (a5.at sa5) ?_) | (refine VLoad.mk _ (a6.at sa5) ?_) | (refine VLoad.mk _ (b3.at sb5) ?_) | (refine VCmp.tt (by omega) ?_) | (refine VCmp.ff (by omega) ?_) | (refine VIn.mk (IntWalk.i64_in _ (by omega)) ?_) | (refine VIdx.mk _ rfl (by omega) ?_) | (refine VIdx.mk 0 rfl (by omega) ?_))
      try (conv => whnf)
      refine VCall.mk _ in1 ?_
      rintro _ _ ⟨rfl, rfl⟩
      refine ⟨_, rfl, ?_⟩
      repeat ((conv => whnf); first | (refine VLoad.mk _ (b6.at sb5) ?_) | (refine VLoad.mk _ (a3.at sa5) ?_) | (refine VCmp.tt (by omega) ?_) | (refine VCmp.ff (by omega) ?_) | (refine VIn.mk (IntWalk.i64_in _ (by omega)) ?_) | (refine VIdx.mk _ rfl (by omega) ?_) | (refine VIdx.mk 0 rfl (by omega) ?_))
      try (conv => whnf)
      refine VCall.mk _ in2 ?_
      rintro _ _ ⟨rfl, rfl⟩
      refine ⟨_, rfl, ?_⟩
      repeat ((conv => whnf); first | (refine VCmp.tt (by omega) ?_) | (refine VCmp.ff (by omega) ?_) | (refine VIn.mk (IntWalk.i64_in _ (by omega)) ?_) | (refine VIdx.mk _ rfl (by omega) ?_) | (refine VIdx.mk 0 rfl (by omega) ?_))
      try (conv => whnf)
      exact .mk ⟨rfl, c05⟩
  · rw [show vidEq a.v b.v = false from decide_eq_false hv]
    repeat ((conv => whnf); first | (refine VCmp.tt (by omega) ?_) | (refine VCmp.ff (by omega) ?_) | (refine VIn.mk (IntWalk.i64_in _ (by omega)) ?_) | (refine VIdx.mk _ rfl (by omega) ?_) | (refine VIdx.mk 0 rfl (by omega) ?_))
    try (conv => whnf)
    exact .mk ⟨rfl, c03⟩
end Go.Proofs.Ytfbeggdbjpmppaa
