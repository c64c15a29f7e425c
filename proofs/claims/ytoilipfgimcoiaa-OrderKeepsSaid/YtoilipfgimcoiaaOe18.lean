/- CrT, joined. -/
import Derived.Test.YtoilipfgimcoiaaOe17
set_option linter.unusedVariables false
set_option linter.unusedSimpArgs false
namespace Go.Proofs.Ytoilipfgimcoiaa
open Go Go.RowKit
def Crw.dlv (v : Crw) (i : Nat) (ms : List Mg) (o' : Os) : Crw := { v with o := upN v.o i o', log := upN v.log i (v.log i ++ ms), long := growS v.long (v.o i).done ms }
theorem LogOk.pre {G : List Sl} {l m : List Mg} (h : LogOk G (l ++ m)) (k : Nat) : LogOk G (l ++ m.take k) := fun p x hx => h p x (by
  by_cases hp : p < l.length
  · rw [List.getElem?_append_left hp] at hx ⊢; exact hx
  · rw [List.getElem?_append_right (by omega)] at hx ⊢
    rw [List.getElem?_take] at hx
    split at hx
    · exact hx
    · cases hx)
theorem quo_any (a b : Int) (hb : b ≠ 0) (h : IntKind.i64.wrap (a.tdiv b) = a.tdiv b) (W : World) : (binOp .quo 3 (.int .i64 a) (.int .i64 b)).run Try.prog W = .ok (.int .i64 (a.tdiv b)) W := by
  simp [binOp, go_sem, hb, h]
theorem VQ.third {o : Oper} {fr : Fr} {S : World → Prop} {K : Value → Prop} {x : Nat} {a : Int} (m : Nat) (ho : o.op = .binOp .quo 3 (.tmp x) (.const (.int .i64 3)) 3) (hx : fev fr (.tmp x) = some (.int .i64 a)) (hm : a = 3 * (m : Int)) (hmm : m < 1000000000) (hk : K (.int .i64 m)) : VQ Try.prog o fr S K := by
  refine VQ.mk (.int .i64 m) (fun A hA W _ => ?_) hk
  have h3 := hA (.tmp x) _ hx
  have h4 : A.eval (.const (.int .i64 3)) = .int .i64 3 := rfl
  have e : a.tdiv 3 = m := by rw [hm]; exact Int.mul_tdiv_cancel_left _ (by decide)
  have := quo_any a 3 (by decide) (by rw [e]; exact IntWalk.i64_in _ (by omega)) W
  rw [e] at this
  have hg : Sem.run Try.prog (eqGuard .quo 3 (.tmp x) (.const (.int .i64 3)) (.int .i64 a) (.int .i64 3)) W = .ok () W := rfl
  simp only [ho, execOp, h3, h4, Sem.run_bind, hg, this, Result.andThen_ok, Sem.run_pure]
section
variable {w : World} {K : Nat → Nat} {b : Nat} {v : Crw} {X : CwX} {G : List Sl} {T : Nat}
set_option maxRecDepth 100000 in
set_option maxHeartbeats 16000000 in
theorem cdeliver_any (C : CrwAt w K b v X) (I : CI v G T) (hT : T ≤ 100000) {i : Nat} (hi : i < v.n) (n : Int) (h1n : -9223372036854775808 ≤ n) (h2n : n ≤ 9223372036854775807) :
    Calls Try.prog 35 #[.pointer (some ⟨b, 0, none⟩), .int .i64 i, .int .i64 n] w fun e w' => e = .returned (.bool true) ∧ ∃ K' X' ms o', DvAns (v.o i) n ms o' ∧ CrwAt w' K' b (v.dlv i ms o') X' ∧ Ro (fun z => 0 < z ∧ z < 400) K K' w w' := by
  refine calls_vc tab_ok Try.func35 rfl ?_
  have hn4 := C.n
  have hbz := C.hb
  have hkb := C.kb
  obtain ⟨gO, oO, bj, Y, eO, gO1, kO, hbj, cO, AO⟩ := C.ord hi
  obtain ⟨gP, oP, eP, gP1, kP, cP, fP⟩ := C.stp hi
  have M2 := C.l_O (l := [b, gO, gP]) (by simp)
  have M3 := C.l_stop (l := [b, gO, gP]) (by simp)
  rw [eO] at M2
  rw [eP] at M3
  have N2 : Ld Try.prog 42 gO (oO + i) (Sm [b, gO, gP] w) (.pointer (some ⟨bj, 0, none⟩)) := ⟨fun W hW => load42 (cell_sm cO (by simp) hW)⟩
  have N3 : Ld Try.prog 4 gP (oP + i) (Sm [b, gO, gP] w) (.bool (v.stop i)) := ⟨fun W hW => load4 (cell_sm cP (by simp) hW)⟩
  have s0 := Sm.refl [b, gO, gP] w
  conv => whnf
  repeat ((conv => whnf); first | (refine VLoad.mk _ (M2.at s0) ?_) | (refine VLoad.mk _ (N2.at s0) ?_) | (refine VCmp.tt (by omega) ?_) | (refine VCmp.ff (by omega) ?_) | (refine VIn.mk (IntWalk.i64_in _ (by omega)) ?_) | (refine VIdx.mk _ rfl (by omega) ?_) | (refine VIdx.mk 0 rfl (by omega) ?_))
  try (conv => whnf)
  refine VCall.mk _ (deliver_any AO (I.dvI hT hi) (I.mi i hi).dk n) ?_
  rintro _ w1 ⟨ms, o', xs, A1, c1, K1, Y1, rfl, hD, A1', q1, R1, hxs, hxb⟩
  refine ⟨_, rfl, ?_⟩
  have C1 := C.setO hi hbj A1' q1
  have q01 : Ro (fun z => 0 < z ∧ z < 400) K K1 w w1 := q1.more fun z hz => by unfold inR at hz; omega
  have s1 : Sm [b, gO, gP] w w1 := .ro q1 fun g hg => by
    simp only [List.mem_cons, List.not_mem_nil, or_false] at hg
    unfold inR
    rcases hg with rfl | rfl | rfl <;> omega
  obtain ⟨CF, hdone, hfz, hNl, hmg⟩ := I.deliver hi hD
  have hlen := CF.len
  have hlg := (CF.lg i hi).2
  have hlgl := I.lg i hi
  have hlog : LogOk G (v.log i ++ ms) := by
    have : (upN v.log i (v.log i ++ ms)) i = v.log i ++ ms := upN_same _ _ _
    rw [← this]; exact hlg
  have hml : ms.length ≤ 400000 := by
    have h1 := (CF.mi i hi).dk
    have h2 := (CF.mi i hi).kg
    have h3 : ((upN v.o i o') i) = o' := upN_same _ _ _
    have h4 : o'.done ≤ o'.known := by rw [← h3]; exact h1
    have h5 : o'.known ≤ G.length := by rw [← h3]; exact h2
    rw [List.length_append] at hlen
    omega
  have hxl : xs.length = ms.length := by rw [← hxs, List.length_map]
  obtain ⟨vk, hvk⟩ : ∃ vk : Nat → Crw, vk = fun k => v.dlv i (ms.take k) o' := ⟨_, rfl⟩
  have hkn : ∀ k, (vk k).n = v.n := fun k => by rw [hvk]; rfl
  have hklog : ∀ k, (vk k).log i = v.log i ++ ms.take k := fun k => by rw [hvk]; exact upN_same v.log i (v.log i ++ ms.take k)
  have hklong : ∀ k, (vk k).long = growS v.long (v.o i).done (ms.take k) := fun k => by rw [hvk]; rfl
  have hksent : ∀ k, (vk k).sent = v.sent := fun k => by rw [hvk]; rfl
  have hstep : ∀ (k : Nat) (m : Mg), ms[k]? = some m → vk (k + 1) = { vk k with log := upN (vk k).log i ((vk k).log i ++ [m]), long := grow1 (vk k).long ((v.o i).done + k) m } := fun k m hm => by
    have hkl := (List.getElem?_eq_some_iff.1 hm).1
    rw [hvk]
    simp only [Crw.dlv, upN_upN, upN_same, take_one hm, List.append_assoc, growS_snoc, List.length_take, Nat.min_eq_left (Nat.le_of_lt hkl)]
  have hkend : vk ms.length = v.dlv i ms o' := by rw [hvk]; simp only [List.take_length]
  have C1' : CrwAt w1 K1 b (vk 0) X := by
    rw [hvk]
    show CrwAt w1 K1 b { v with o := _, log := upN v.log i (v.log i ++ []), long := _ } X
    rw [List.append_nil, upN_id]; exact C1
  by_cases hst : ms.length = 0
  · repeat ((conv => whnf); first | (refine VLoad.mk _ (M3.at s1) ?_) | (refine VLoad.mk _ (N3.at s1) ?_) | (refine VCmp.tt (by omega) ?_) | (refine VCmp.ff (by omega) ?_) | (refine VIn.mk (IntWalk.i64_in _ (by omega)) ?_) | (refine VIdx.mk _ rfl (by omega) ?_) | (refine VIdx.mk 0 rfl (by omega) ?_))
    try (conv => whnf)
    refine VLoop.mk Nat (fun k => [(0, .pointer (some ⟨b, 0, none⟩)), (1, .int .i64 i), (2, .int .i64 n), (7, .slice A1 ms.length c1), (8, .int .i64 k)]) (fun k W => k ≤ ms.length ∧ ∃ Kk Xk, CrwAt W Kk b (vk k) Xk ∧ Ro (fun z => 0 < z ∧ z < 400) K Kk w W ∧ RowK W Kk 4 eMg A1 xs ∧ ∀ x ∈ xs, RowK W Kk 1 eByte x.A x.m.b) (fun k => ms.length - k) 0 ⟨rfl, rfl, rfl, rfl, rfl, trivial⟩ ⟨Nat.zero_le _, K1, X, C1', q01, R1, hxb⟩ ?_
    rintro k W ⟨hk, Kk, Xk, Ck, qk, Rk, Bk⟩
    obtain rfl : k = ms.length := by omega
    rw [hkend] at Ck
    have hiE : i < (v.dlv i ms o').n := hi
    obtain ⟨gE, oE, bE, YE, eE, gE1, kE, hbE, cE, AE⟩ := Ck.ord hiE
    obtain ⟨gL, oL, xL, aL⟩ := Ck.log.get hiE
    have eo : (v.dlv i ms o').o i = o' := upN_same _ _ _
    have el : (v.dlv i ms o').log i = v.log i ++ ms := upN_same _ _ _
    rw [eo] at AE
    rw [el] at aL
    have ML := Ck.l_log (l := [b, gE, gL]) (by simp)
    have MO := Ck.l_O (l := [b, gE, gL]) (by simp)
    have en : (v.dlv i ms o').n = v.n := rfl
    rw [eE, en] at MO
    rw [aL.eA, en] at ML
    have NO : Ld Try.prog 42 gE (oE + i) (Sm [b, gE, gL] W) (.pointer (some ⟨bE, 0, none⟩)) := ⟨fun W' hW => load42 (cell_sm cE (by simp) hW)⟩
    have NL : Ld Try.prog 38 gL (oL + i) (Sm [b, gE, gL] W) (.slice xL.A (v.log i ++ ms).length xL.c) := ⟨fun W' hW => load38 (cell_sm aL.hc (by simp) hW)⟩
    have sE := Sm.refl [b, gE, gL] W
    have hle : (o'.done : Int) = ((v.log i ++ ms).length : Nat) := by rw [hdone, List.length_append, hlgl.1]
    repeat ((conv => whnf); first | (refine VCmp.tt (by omega) ?_) | (refine VCmp.ff (by omega) ?_) | (refine VIn.mk (IntWalk.i64_in _ (by omega)) ?_) | (refine VIdx.mk _ rfl (by omega) ?_) | (refine VIdx.mk 0 rfl (by omega) ?_))
    try (conv => whnf)
    refine VDraw.pl 1000 (.one [0, 1, 2, 3, 4, 5, 6, 8, 9, 10, 11, 12, 13, 14, 15] 7 (.stop [16, 17])) (Sm [b, gE, gL] W) (by kernel_rfl) (sE) ?_
    repeat ((conv => whnf); first | (refine VLoad.mk _ ML ?_) | (refine VLoad.mk _ MO ?_) | (refine VLoad.mk _ NO ?_) | (refine VLoad.mk _ NL ?_) | (refine VCmp.tt (by omega) ?_) | (refine VCmp.ff (by omega) ?_) | (refine VIn.mk (IntWalk.i64_in _ (by omega)) ?_) | (refine VIdx.mk _ rfl (by omega) ?_) | (refine VIdx.mk 0 rfl (by omega) ?_))
    try (conv => whnf)
    have hdW : Below W.heap.size W W.drew := (Below.refl _ W).drew
    refine VCall.mk _ (done_any (AE.below hdW)) ?_
    rintro _ x6 ⟨rfl, e6⟩
    subst x6
    refine ⟨_, rfl, ?_⟩
    repeat ((conv => whnf); first | (refine VS.mk sE ?_) | (refine VCmp.tt (by omega) ?_) | (refine VCmp.ff (by omega) ?_) | (refine VIn.mk (IntWalk.i64_in _ (by omega)) ?_) | (refine VIdx.mk _ rfl (by omega) ?_) | (refine VIdx.mk 0 rfl (by omega) ?_))
    try (conv => whnf)
    exact .mk ⟨rfl, Kk, Xk, ms, o', hD, Ck.below hdW, qk.drew⟩
  have hstop : v.stop i = false := by
    cases hs : v.stop i with
    | false => rfl
    | true => exact absurd (by rw [hfz (by rw [I.frz i hi]; exact hs)]; rfl) hst
  have hNl' := hNl (by omega)
  rw [hstop] at N3
  repeat ((conv => whnf); first | (refine VLoad.mk _ (M3.at s1) ?_) | (refine VLoad.mk _ (N3.at s1) ?_) | (refine VCmp.tt (by omega) ?_) | (refine VCmp.ff (by omega) ?_) | (refine VIn.mk (IntWalk.i64_in _ (by omega)) ?_) | (refine VIdx.mk _ rfl (by omega) ?_) | (refine VIdx.mk 0 rfl (by omega) ?_))
  try (conv => whnf)
  refine VLoop.mk Nat (fun k => [(0, .pointer (some ⟨b, 0, none⟩)), (1, .int .i64 i), (2, .int .i64 n), (7, .slice A1 ms.length c1), (8, .int .i64 k)]) (fun k W => k ≤ ms.length ∧ ∃ Kk Xk, CrwAt W Kk b (vk k) Xk ∧ Ro (fun z => 0 < z ∧ z < 400) K Kk w W ∧ RowK W Kk 4 eMg A1 xs ∧ ∀ x ∈ xs, RowK W Kk 1 eByte x.A x.m.b) (fun k => ms.length - k) 0 ⟨rfl, rfl, rfl, rfl, rfl, trivial⟩ ⟨Nat.zero_le _, K1, X, C1', q01, R1, hxb⟩ ?_
  rintro k W ⟨hk, Kk, Xk, Ck, qk, Rk, Bk⟩
  by_cases hkl : k < ms.length
  case neg =>
    obtain rfl : k = ms.length := by omega
    rw [hkend] at Ck
    have hiE : i < (v.dlv i ms o').n := hi
    obtain ⟨gE, oE, bE, YE, eE, gE1, kE, hbE, cE, AE⟩ := Ck.ord hiE
    obtain ⟨gL, oL, xL, aL⟩ := Ck.log.get hiE
    have eo : (v.dlv i ms o').o i = o' := upN_same _ _ _
    have el : (v.dlv i ms o').log i = v.log i ++ ms := upN_same _ _ _
    rw [eo] at AE
    rw [el] at aL
    have ML := Ck.l_log (l := [b, gE, gL]) (by simp)
    have MO := Ck.l_O (l := [b, gE, gL]) (by simp)
    have en : (v.dlv i ms o').n = v.n := rfl
    rw [eE, en] at MO
    rw [aL.eA, en] at ML
    have NO : Ld Try.prog 42 gE (oE + i) (Sm [b, gE, gL] W) (.pointer (some ⟨bE, 0, none⟩)) := ⟨fun W' hW => load42 (cell_sm cE (by simp) hW)⟩
    have NL : Ld Try.prog 38 gL (oL + i) (Sm [b, gE, gL] W) (.slice xL.A (v.log i ++ ms).length xL.c) := ⟨fun W' hW => load38 (cell_sm aL.hc (by simp) hW)⟩
    have sE := Sm.refl [b, gE, gL] W
    have hle : (o'.done : Int) = ((v.log i ++ ms).length : Nat) := by rw [hdone, List.length_append, hlgl.1]
    repeat ((conv => whnf); first | (refine VCmp.tt (by omega) ?_) | (refine VCmp.ff (by omega) ?_) | (refine VIn.mk (IntWalk.i64_in _ (by omega)) ?_) | (refine VIdx.mk _ rfl (by omega) ?_) | (refine VIdx.mk 0 rfl (by omega) ?_))
    try (conv => whnf)
    refine VDraw.pl 1000 (.one [0, 1, 2, 3, 4, 5, 6, 8, 9, 10, 11, 12, 13, 14, 15] 7 (.stop [16, 17])) (Sm [b, gE, gL] W) (by kernel_rfl) (sE) ?_
    repeat ((conv => whnf); first | (refine VLoad.mk _ ML ?_) | (refine VLoad.mk _ MO ?_) | (refine VLoad.mk _ NO ?_) | (refine VLoad.mk _ NL ?_) | (refine VCmp.tt (by omega) ?_) | (refine VCmp.ff (by omega) ?_) | (refine VIn.mk (IntWalk.i64_in _ (by omega)) ?_) | (refine VIdx.mk _ rfl (by omega) ?_) | (refine VIdx.mk 0 rfl (by omega) ?_))
    try (conv => whnf)
    have hdW : Below W.heap.size W W.drew := (Below.refl _ W).drew
    refine VCall.mk _ (done_any (AE.below hdW)) ?_
    rintro _ x6 ⟨rfl, e6⟩
    subst x6
    refine ⟨_, rfl, ?_⟩
    repeat ((conv => whnf); first | (refine VS.mk sE ?_) | (refine VCmp.tt (by omega) ?_) | (refine VCmp.ff (by omega) ?_) | (refine VIn.mk (IntWalk.i64_in _ (by omega)) ?_) | (refine VIdx.mk _ rfl (by omega) ?_) | (refine VIdx.mk 0 rfl (by omega) ?_))
    try (conv => whnf)
    exact .mk ⟨rfl, Kk, Xk, ms, o', hD, Ck.below hdW, qk.drew⟩
  obtain ⟨x, hx⟩ : ∃ x, xs[k]? = some x := ⟨_, List.getElem?_eq_getElem (by omega)⟩
  have hmk : ms[k]? = some x.m := by rw [← hxs, List.getElem?_map, hx]; rfl
  have hMg := hmg k x.m hmk
  obtain ⟨ga, oa, rfl, hga, kga, cla⟩ := Rk (by omega)
  have hik : i < (vk k).n := by rw [hkn]; exact hi
  obtain ⟨gL, oL, xL, aL⟩ := Ck.log.get hik
  have N4 : Ld Try.prog 83 ga (oa + mulO k 4) (Eq W) (.agg (mgA x.m x.A x.c x.m.b.length)) := .of (load_agg (cs := eMg x) (by kernel_rfl) (by kernel_rfl) fun j u hu => by rw [mulO_eq]; exact cla k x hx j u hu)
  have kkb := Ck.kb
  have hbW := Ck.hb
  have kL := aL.hk
  have hLW := aL.hg
  repeat ((conv => whnf); first | (refine VLoad.mk _ N4 ?_) | (refine VCmp.tt (by omega) ?_) | (refine VCmp.ff (by omega) ?_) | (refine VIn.mk (IntWalk.i64_in _ (by omega)) ?_) | (refine VIdx.mk _ rfl (by omega) ?_) | (refine VIdx.mk 0 rfl (by omega) ?_))
  try (conv => whnf)
  refine .mk _ run_zero83 ?_
  conv => whnf
  refine .mk fun u1 hu1 => ?_
  repeat ((conv => whnf); first | (refine VCmp.tt (by omega) ?_) | (refine VCmp.ff (by omega) ?_) | (refine VIn.mk (IntWalk.i64_in _ (by omega)) ?_) | (refine VIdx.mk _ rfl (by omega) ?_) | (refine VIdx.mk 0 rfl (by omega) ?_))
  try (conv => whnf)
  obtain ⟨bt, hbt⟩ : ∃ bt, bt = W.heap.size := ⟨_, rfl⟩
  refine VStore.new (c' := mgA x.m x.A x.c x.m.b.length) hu1 (by kernel_rfl) rfl (one_mgA _ _ _ _) fun y1 hy1 => ?_
  have b1 : Below W.heap.size W y1 := by rw [hy1.out]; exact (Below.refl _ _).alloc (Nat.le_refl _) _
  have z1 : y1.heap.size = W.heap.size + 1 := by rw [hy1.out]; exact World.size_alloc _ _
  have r1 : y1.rangeAt bt 0 (mgA x.m x.A x.c x.m.b.length).toList := by rw [hy1.out, hbt]; exact range_new W _ 83
  rw [← hbt]
  clear hu1 hy1
  clear u1
  obtain ⟨at_, hat⟩ : ∃ at_, at_ = ((vk k).log i).length := ⟨_, rfl⟩
  have hat' : at_ = (v.o i).done + k := by rw [hat, hklog, List.length_append, hlgl.1, List.length_take]; omega
  have hatb : at_ ≤ 1000000 := by
    have h1 := (I.mi i hi).dk
    have h2 := (I.mi i hi).kg
    have h3 := I.len
    rw [List.length_append] at h3
    omega
  have M0 := Ck.l_log (l := [b, gL, bt]) (by simp)
  rw [aL.eA, hkn] at M0
  have C1k := Ck.below b1
  have sy : Sm [b, gL] W y1 := .below b1 fun g hg => by
    simp only [List.mem_cons, List.not_mem_nil, or_false] at hg
    rcases hg with rfl | rfl <;> assumption
  have a1 := C1k.log.at hik aL.eA aL.hx
  -- the list of what came, and each of it
  have LL : Ld Try.prog 35 b 5 (Sm [b, gL] y1) (.slice (some ⟨gL, oL, none⟩) v.n Xk.log.c) := by
    have := C1k.l_log (l := [b, gL]) (by simp)
    rw [aL.eA, hkn] at this
    exact this
  have LM : Ld Try.prog 38 gL (oL + i) (Sm [b, gL] y1) (.slice xL.A at_ xL.c) := ⟨fun W' hW' => load38 (cell_sm (by rw [hat]; exact a1.hc) (by simp) hW')⟩
  have s2 := Sm.refl [b, gL] y1
  have TS : Ld Try.prog 3 bt 1 (Sm [bt] y1) (.int .i64 x.m.s) := ⟨fun W' hW' => load3 (cell_sm (r1 1 _ rfl) (by simp) hW')⟩
  have TP : Ld Try.prog 3 bt 0 (Sm [bt] y1) (.int .i64 x.m.p) := ⟨fun W' hW' => load3 (cell_sm (r1 0 _ rfl) (by simp) hW')⟩
  have TQ : Ld Try.prog 3 bt 2 (Sm [bt] y1) (.int .i64 x.m.q) := ⟨fun W' hW' => load3 (cell_sm (r1 2 _ rfl) (by simp) hW')⟩
  have TB : Ld Try.prog 27 bt 3 (Sm [bt] y1) (.slice x.A x.m.b.length x.c) := ⟨fun W' hW' => load27 (cell_sm (r1 3 _ rfl) (by simp) hW')⟩
  have hbtz : bt < y1.heap.size := by omega
  have hLz : ∀ g ∈ [b, gL], g < y1.heap.size := fun g hg => by
    simp only [List.mem_cons, List.not_mem_nil, or_false] at hg
    rcases hg with rfl | rfl <;> omega
  repeat ((conv => whnf); first | (refine VLoad.mk _ (LL.at s2) ?_) | (refine VLoad.mk _ (LM.at s2) ?_) | (refine VCmp.tt (by omega) ?_) | (refine VCmp.ff (by omega) ?_) | (refine VIn.mk (IntWalk.i64_in _ (by omega)) ?_) | (refine VIdx.mk _ rfl (by omega) ?_) | (refine VIdx.mk 0 rfl (by omega) ?_))
  try (conv => whnf)
  refine VLoop.mk Nat (fun p => [(0, .pointer (some ⟨b, 0, none⟩)), (1, .int .i64 i), (2, .int .i64 n), (7, .slice (some ⟨ga, oa, none⟩) ms.length c1), (8, .int .i64 k), (9, .pointer (some ⟨bt, 0, none⟩)), (10, .int .i64 at_), (11, .int .i64 ((((vk k).log i).take p).countP (fun m => decide (m.s = x.m.s)) + 1 : Nat)), (12, .int .i64 p)]) (fun p V => p ≤ at_ ∧ Below y1.heap.size y1 V) (fun p => at_ - p) 0 ⟨rfl, rfl, rfl, rfl, rfl, rfl, rfl, rfl, rfl, trivial⟩ ⟨Nat.zero_le _, Below.refl _ _⟩ ?_
  rintro p V ⟨hp, bV⟩
  have sV : Sm [b, gL] y1 V := .below bV hLz
  have sbV : Sm [bt] y1 V := .below bV fun g hg => by rw [List.mem_singleton.1 hg]; exact hbtz
  by_cases hpl : p < at_
  · obtain ⟨e, he⟩ : ∃ e, xL.l[p]? = some e := ⟨_, List.getElem?_eq_getElem (by rw [aL.ln, ← hat]; exact hpl)⟩
    have hem : ((vk k).log i)[p]? = some e.m := by rw [← aL.vl, List.getElem?_map, he]; rfl
    obtain ⟨gE, oE, eE, gE1, cE⟩ : ∃ g off, xL.A = some ⟨g, off, none⟩ ∧ g < y1.heap.size ∧ y1.cell? ⟨g, off + p * 4 + 1, none⟩ = some (.int .i64 e.m.s) := by
      rcases a1.ow with ⟨-, e0, -⟩ | ⟨g, off, e0, k1, k2, k3, k4, k5⟩
      · rw [e0] at he; simp at he
      · exact ⟨g, off, e0, k1, k5 p e he 1 _ rfl⟩
    have sE : Sm [gE] y1 V := .below bV fun g hg => by rw [List.mem_singleton.1 hg]; exact gE1
    have LE : Ld Try.prog 3 gE (addO (oE + mulO p 4) 1) (Sm [gE] y1) (.int .i64 e.m.s) := ⟨fun W' hW' => load3 (by rw [show addO (oE + mulO p 4) 1 = oE + p * 4 + 1 by rw [mulO_eq]; rfl]; exact cell_sm cE (by simp) hW')⟩
    rw [eE] at LM
    repeat ((conv => whnf); first | (refine VCmp.tt (by omega) ?_) | (refine VCmp.ff (by omega) ?_) | (refine VIn.mk (IntWalk.i64_in _ (by omega)) ?_) | (refine VIdx.mk _ rfl (by omega) ?_) | (refine VIdx.mk 0 rfl (by omega) ?_))
    try (conv => whnf)
    refine VDraw.pl 1000 (.stop [0, 1, 2, 3, 4, 5, 6, 7, 8, 9, 10, 11, 12, 13]) (fun W' => Sm [b, gL] y1 W' ∧ Sm [bt] y1 W' ∧ Sm [gE] y1 W') (by kernel_rfl) (⟨sV, sbV, sE⟩) ?_
    repeat ((conv => whnf); first | (refine VLoad.mk _ (LL.mono fun _ h => h.1) ?_) | (refine VLoad.mk _ (LM.mono fun _ h => h.1) ?_) | (refine VLoad.mk _ (TS.mono fun _ h => h.2.1) ?_) | (refine VLoad.mk _ (LE.mono fun _ h => h.2.2) ?_) | (refine VCmp.tt (by omega) ?_) | (refine VCmp.ff (by omega) ?_) | (refine VIn.mk (IntWalk.i64_in _ (by omega)) ?_) | (refine VIdx.mk _ rfl (by omega) ?_) | (refine VIdx.mk 0 rfl (by omega) ?_))
    try (conv => whnf)
    have hcl : ((((vk k).log i).take p).countP (fun m => decide (m.s = x.m.s))) ≤ p := Nat.le_trans List.countP_le_length (by rw [List.length_take]; omega)
    by_cases hes : e.m.s = x.m.s
    · have hc : (((vk k).log i).take (p + 1)).countP (fun m => decide (m.s = x.m.s)) = (((vk k).log i).take p).countP (fun m => decide (m.s = x.m.s)) + 1 := by
        rw [take_one hem, List.countP_append]; simp [hes]
      repeat ((conv => whnf); first | (refine VCmp.tt (by omega) ?_) | (refine VCmp.ff (by omega) ?_) | (refine VIn.mk (IntWalk.i64_in _ (by omega)) ?_) | (refine VIdx.mk _ rfl (by omega) ?_) | (refine VIdx.mk 0 rfl (by omega) ?_))
      try (conv => whnf)
      exact .mk (p + 1) ⟨rfl, rfl, rfl, rfl, rfl, rfl, rfl, congrArg (fun z : Nat => some (Value.int .i64 (z : Int))) (show _ = _ by rw [hc]), rfl, trivial⟩ ⟨hpl, bV.drew⟩ (by show at_ - (p + 1) < at_ - p; omega)
    · have hc : (((vk k).log i).take (p + 1)).countP (fun m => decide (m.s = x.m.s)) = (((vk k).log i).take p).countP (fun m => decide (m.s = x.m.s)) := by
        rw [take_one hem, List.countP_append]; simp [hes]
      repeat ((conv => whnf); first | (refine VCmp.tt (by omega) ?_) | (refine VCmp.ff (by omega) ?_) | (refine VIn.mk (IntWalk.i64_in _ (by omega)) ?_) | (refine VIdx.mk _ rfl (by omega) ?_) | (refine VIdx.mk 0 rfl (by omega) ?_))
      try (conv => whnf)
      exact .mk (p + 1) ⟨rfl, rfl, rfl, rfl, rfl, rfl, rfl, congrArg (fun z : Nat => some (Value.int .i64 (z : Int))) (show _ = _ by rw [hc]), rfl, trivial⟩ ⟨hpl, bV.drew⟩ (by show at_ - (p + 1) < at_ - p; omega)
  obtain rfl : p = at_ := by omega
  have hlogk : LogOk G ((vk k).log i) := by rw [hklog]; exact hlog.pre k
  have hseq : (((vk k).log i).take p).countP (fun m => decide (m.s = x.m.s)) + 1 = x.m.q := by
    rw [List.take_of_length_le (by omega), hlogk.cnt, ← hat, hat']
    exact hMg.seq.symm
  obtain ⟨xg, j, hG, hj, hs, hs', hq', hq1, hq2, hqb⟩ := hMg.ex
  have hsI : (x.m.s : Int) = 3 * j + 1 := by rw [hs]; unfold pidN; omega
  rw [hseq]
  have hse := I.se j hj
  -- the message is as it was sent
  have CV := C1k.below bV
  have hjk : j < (vk k).n := by rw [hkn]; exact hj
  obtain ⟨gS, oS, xS, aS⟩ := CV.sent.get hjk
  rw [hksent] at aS
  obtain ⟨y, hy⟩ : ∃ y, xS.l[x.m.q - 1]? = some y := ⟨_, List.getElem?_eq_getElem (by rw [aS.ln]; omega)⟩
  have hyb : y.b = x.m.b := by
    have := hqb
    rw [← aS.vl, List.getElem?_map, hy] at this
    exact Option.some.inj this
  obtain ⟨gq, oq, eq_, gq1, cq⟩ : ∃ g off, xS.A = some ⟨g, off, none⟩ ∧ g < V.heap.size ∧ V.cell? ⟨g, off + (x.m.q - 1), none⟩ = some (.slice y.A y.b.length y.c) := by
    rcases aS.ow with ⟨-, e0, -⟩ | ⟨g, off, e0, k1, k2, k3, k4, k5⟩
    · rw [e0] at hy; simp at hy
    · refine ⟨g, off, e0, k1, ?_⟩
      have := k5 _ y hy 0 _ rfl
      rwa [Nat.mul_one, Nat.add_zero] at this
  have hyR := aS.hb y (List.mem_of_getElem? hy)
  have hb9 := I.sb j hj x.m.b (List.mem_of_getElem? hqb)
  have zV := bV.size
  obtain ⟨L, hL⟩ : ∃ L, L = [b, bt, gS, gq] := ⟨_, rfl⟩
  have hLV : ∀ g ∈ L, g < V.heap.size := fun g hg => by
    rw [hL] at hg
    simp only [List.mem_cons, List.not_mem_nil, or_false] at hg
    have h1 := aS.hg
    have h2 := CV.hb
    rcases hg with rfl | rfl | rfl | rfl <;> omega
  have LO := CV.l_O (l := L) (by simp [hL])
  have LS := CV.l_sent (l := L) (by simp [hL])
  rw [hkn] at LO LS
  rw [aS.eA] at LS
  have LSj : Ld Try.prog 41 gS (oS + j) (Sm L V) (.slice (some ⟨gq, oq, none⟩) (v.sent j).length xS.c) := ⟨fun W' hW' => load41s (cell_sm (by rw [← eq_]; exact aS.hc) (by simp [hL]) hW')⟩
  have LSq : Ld Try.prog 27 gq (oq + (x.m.q - 1)) (Sm L V) (.slice y.A y.b.length y.c) := ⟨fun W' hW' => load27 (cell_sm cq (by simp [hL]) hW')⟩
  have up : ∀ {ty oo val}, Ld Try.prog ty bt oo (Sm [bt] y1) val → Ld Try.prog ty bt oo (Sm L V) val := fun {ty oo val} h => h.mono fun W' hW' => sbV.trans fun g hg => hW' g (by rw [List.mem_singleton.1 hg, hL]; simp)
  have sLV := Sm.refl L V
  have hpp : x.m.p = p + 1 := by rw [hMg.pos]; omega
  repeat ((conv => whnf); first | (refine VLoad.mk _ (TS.at sbV) ?_) | (refine VCmp.tt (by omega) ?_) | (refine VCmp.ff (by omega) ?_) | (refine VIn.mk (IntWalk.i64_in _ (by omega)) ?_) | (refine VIdx.mk _ rfl (by omega) ?_) | (refine VIdx.mk 0 rfl (by omega) ?_))
  try (conv => whnf)
  refine VQ.third j rfl rfl (by omega) (by omega) ?_
  repeat ((conv => whnf); first | (refine VCmp.tt (by omega) ?_) | (refine VCmp.ff (by omega) ?_) | (refine VIn.mk (IntWalk.i64_in _ (by omega)) ?_) | (refine VIdx.mk _ rfl (by omega) ?_) | (refine VIdx.mk 0 rfl (by omega) ?_))
  try (conv => whnf)
  refine VDraw.pl 1000 (.one [0, 1, 2, 3, 4, 5, 6, 7, 8, 9, 10, 11, 12, 13, 14, 15, 16, 17, 18, 19, 20, 21, 22, 23, 24, 25, 27, 28] 26 (.one [29, 30, 31, 32, 33, 34, 35, 36, 37, 38, 39, 40, 41, 42, 43, 44, 45, 46, 47, 48, 49, 50, 51, 52, 53, 54, 55, 56] 57 (.stop [58, 59]))) (Sm L V) (by kernel_rfl) (sLV) ?_
  repeat ((conv => whnf); first | (refine VLoad.mk _ (up TS) ?_) | (refine VLoad.mk _ (up TP) ?_) | (refine VLoad.mk _ (up TQ) ?_) | (refine VLoad.mk _ LO ?_) | (refine VCmp.tt (by omega) ?_) | (refine VCmp.ff (by omega) ?_) | (refine VIn.mk (IntWalk.i64_in _ (by omega)) ?_) | (refine VIdx.mk _ rfl (by omega) ?_) | (refine VIdx.mk 0 rfl (by omega) ?_))
  try (conv => whnf)
  refine VCall.mk _ (pid_any j V.drew (by omega) (by omega)) ?_
  rintro _ x6 ⟨rfl, e6⟩
  subst x6
  refine ⟨_, rfl, ?_⟩
  repeat ((conv => whnf); first | (refine VS.mk sLV ?_) | (refine VLoad.mk _ (up TS) ?_) | (refine VLoad.mk _ (up TP) ?_) | (refine VLoad.mk _ (up TQ) ?_) | (refine VLoad.mk _ (up TB) ?_) | (refine VLoad.mk _ LS ?_) | (refine VLoad.mk _ LSj ?_) | (refine VLoad.mk _ LSq ?_) | (refine VIdx.mk (x.m.q - 1) (by omega) (by omega) ?_) | (refine VCmp.tt (by omega) ?_) | (refine VCmp.ff (by omega) ?_) | (refine VIn.mk (IntWalk.i64_in _ (by omega)) ?_) | (refine VIdx.mk _ rfl (by omega) ?_) | (refine VIdx.mk 0 rfl (by omega) ?_))
  try (conv => whnf)
  have hVd : Below V.heap.size V V.drew := (Below.refl _ V).drew
  have bWV : Below W.heap.size W V := b1.trans (bV.mono b1.size)
  have RkV : RowK V Kk 4 eMg (some ⟨ga, oa, none⟩) xs := Rk.ro (Ro.below (R := fun _ => False) bWV) id
  have BkV : ∀ z ∈ xs, RowK V Kk 1 eByte z.A z.m.b := fun z hz => (Bk z hz).ro (Ro.below (R := fun _ => False) bWV) id
  have hxR := (BkV x (List.mem_of_getElem? hx)).ro (Ro.below (R := fun _ => False) hVd) id
  have hyRd := hyR.ro (Ro.below (R := fun _ => False) hVd) id
  have hyb' : y.b.length ≤ 9 := by rw [hyb]; exact hb9
  refine VCall.mk _ (sameBytes_any x.A y.A x.c y.c _ _ V.drew.heap.size x.m.b y.b V.drew rfl rfl (Nat.le_refl _) hxR.row hyRd.row (by omega)) ?_
  rintro _ V2 ⟨rfl, bV2⟩
  refine ⟨_, rfl, ?_⟩
  rw [decide_eq_true hyb.symm]
  have b2 : Below V.heap.size V V2 := hVd.trans bV2
  have s2L : Sm L V V2 := .below b2 hLV
  have C2 := CV.below b2
  have zV2 := b2.size
  have hlongk : LogOk G ((vk k).long) := by
    rw [hklong]
    refine (growS_ok (ms.take k) v.long (v.o i).done I.lo (I.ln i hi) fun a m hm => ?_).1
    rw [List.getElem?_take] at hm
    split at hm
    · obtain ⟨x', j', h1, -, -, h2, h3, -⟩ := (hmg a m hm).ex
      exact ⟨x', h1, h2, h3⟩
    · cases hm
  have hlongl : (vk k).long.length ≤ 2000000 := by
    have h1 : ∀ (ms : List Mg) (l : List Mg) (p : Nat), (growS l p ms).length ≤ l.length + ms.length := fun ms => by
      induction ms with
      | nil => intro l p; exact Nat.le_refl _
      | cons a ms ih =>
        intro l p
        rw [growS]
        have h2 := ih (grow1 l p a) (p + 1)
        have h3 : (grow1 l p a).length ≤ l.length + 1 := by unfold grow1; split <;> simp
        rw [List.length_cons]; omega
    rw [hklong]
    have h2 := h1 (ms.take k) v.long (v.o i).done
    have h3 : v.long.length ≤ G.length := by
      rcases Nat.lt_or_ge G.length v.long.length with h | h
      · obtain ⟨z, hz⟩ : ∃ z, v.long[G.length]? = some z := ⟨_, List.getElem?_eq_getElem h⟩
        obtain ⟨x', h4, -⟩ := I.lo _ z hz
        have := (List.getElem?_eq_some_iff.1 h4).1
        omega
      · exact h
    have h4 := I.len
    rw [List.length_append] at h4
    rw [List.length_take] at h2
    omega
  have hlol := C2.lv
  have hlll : Xk.long.l.length = (vk k).long.length := by rw [← hlol, List.length_map]
  have LG := C2.l_long (l := [b]) (by simp)
  have bt2 : bt < V2.heap.size := by omega
  have sb2 : Sm [bt] y1 V2 := sbV.trans (.below b2 fun g hg => by rw [List.mem_singleton.1 hg]; omega)
  have hpb2 : p ≤ (vk k).long.length := by
    rw [hklong, hat']
    have h2 := (growS_ok (ms.take k) v.long (v.o i).done I.lo (I.ln i hi) fun a m hm => by
      rw [List.getElem?_take] at hm
      split at hm
      · obtain ⟨x', j', h1, -, -, h2, h3, -⟩ := (hmg a m hm).ex
        exact ⟨x', h1, h2, h3⟩
      · cases hm).2.1
    rw [List.length_take] at h2
    omega
  clear hpl
  repeat ((conv => whnf); first | (refine VS.mk s2L ?_) | (refine VCmp.tt (by omega) ?_) | (refine VCmp.ff (by omega) ?_) | (refine VIn.mk (IntWalk.i64_in _ (by omega)) ?_) | (refine VIdx.mk _ rfl (by omega) ?_) | (refine VIdx.mk 0 rfl (by omega) ?_))
  try (conv => whnf)
  by_cases hpl : p < (vk k).long.length
  · obtain ⟨z, hz⟩ : ∃ z, Xk.long.l[p]? = some z := ⟨_, List.getElem?_eq_getElem (by omega)⟩
    have hzm : (vk k).long[p]? = some z.m := by rw [← hlol, List.getElem?_map, hz]; rfl
    obtain ⟨x', hx1, hx2, hx3⟩ := hlongk p z.m hzm
    have hxx : x' = xg := by rw [← hat'] at hG; rw [hG] at hx1; exact (Option.some.inj hx1).symm
    rw [hxx] at hx2 hx3
    have hz1 : z.m.s = x.m.s := by rw [hx2, hs']
    have hz2 : z.m.q = x.m.q := by rw [hx3, hq']
    obtain ⟨gG, oG, eG, gG1, cG⟩ : ∃ g off, Xk.long.A = some ⟨g, off, none⟩ ∧ g < V2.heap.size ∧ ∀ q u, (eMg z)[q]? = some u → V2.cell? ⟨g, off + p * 4 + q, none⟩ = some u := by
      rcases C2.long with ⟨-, e0, -⟩ | ⟨g, off, e0, k1, k2, k3, k4, k5⟩
      · rw [e0] at hz; simp at hz
      · exact ⟨g, off, e0, k1, k5 p z hz⟩
    rw [eG] at LG
    have sG := Sm.refl [b, bt, gG] V2
    have upG : ∀ {ty oo val}, Ld Try.prog ty bt oo (Sm [bt] y1) val → Ld Try.prog ty bt oo (Sm [b, bt, gG] V2) val := fun {ty oo val} h => h.mono fun W' hW' => sb2.trans fun g hg => hW' g (by rw [List.mem_singleton.1 hg]; simp)
    have LG' : Ld Try.prog 38 b 8 (Sm [b, bt, gG] V2) (.slice (some ⟨gG, oG, none⟩) (vk k).long.length Xk.long.c) := LG.mono fun W' hW' g hg => hW' g (by rw [List.mem_singleton.1 hg]; simp)
    have LZ1 : Ld Try.prog 3 gG (addO (oG + mulO p 4) 1) (Sm [b, bt, gG] V2) (.int .i64 z.m.s) := ⟨fun W' hW' => load3 (by rw [show addO (oG + mulO p 4) 1 = oG + p * 4 + 1 by rw [mulO_eq]; rfl]; exact cell_sm (cG 1 _ rfl) (by simp) hW')⟩
    have LZ2 : Ld Try.prog 3 gG (addO (oG + mulO p 4) 2) (Sm [b, bt, gG] V2) (.int .i64 z.m.q) := ⟨fun W' hW' => load3 (by rw [show addO (oG + mulO p 4) 2 = oG + p * 4 + 2 by rw [mulO_eq]; rfl]; exact cell_sm (cG 2 _ rfl) (by simp) hW')⟩
    refine VDraw.pl 1000 (.stop [0, 1, 2, 3, 4, 5, 6, 7, 8, 9, 10, 11, 12, 13, 14, 15, 16, 17, 18, 19, 20, 21, 22, 23, 24, 25, 26, 27, 28, 29, 30, 31, 32]) (Sm [b, bt, gG] V2) (by kernel_rfl) (sG) ?_
    repeat ((conv => whnf); first | (refine VLoad.mk _ LG' ?_) | (refine VLoad.mk _ LZ1 ?_) | (refine VLoad.mk _ LZ2 ?_) | (refine VLoad.mk _ (upG TS) ?_) | (refine VLoad.mk _ (upG TQ) ?_) | (refine VCmp.tt (by omega) ?_) | (refine VCmp.ff (by omega) ?_) | (refine VIn.mk (IntWalk.i64_in _ (by omega)) ?_) | (refine VIdx.mk _ rfl (by omega) ?_) | (refine VIdx.mk 0 rfl (by omega) ?_))
    try (conv => whnf)
    have L5 := C2.l_log (l := [b, gL]) (by simp)
    rw [aL.eA, hkn] at L5
    have a2 := C2.log.at hik aL.eA aL.hx
    have L6 : Ld Try.prog 38 gL (oL + i) (Sm [b, gL] V2) (.slice xL.A p xL.c) := ⟨fun W' hW' => load38 (cell_sm (by rw [hat]; exact a2.hc) (by simp) hW')⟩
    have TM : Ld Try.prog 83 bt 0 (Sm [bt] y1) (.agg (mgA x.m x.A x.c x.m.b.length)) := ⟨fun W' hW' => load_agg (by kernel_rfl) (by kernel_rfl) (range_same r1 (hW' bt (by simp)))⟩
    have sd2 : Sm [b, gL] V2 V2.drew ∧ Sm [bt] y1 V2.drew := ⟨Sm.refl [b, gL] V2, sb2⟩
    have bL2 : ∀ g ∈ [b, gL], g < V2.heap.size := fun g hg => by
      simp only [List.mem_cons, List.not_mem_nil, or_false] at hg
      rcases hg with rfl | rfl <;> omega
    have kbt : Kk bt = 0 := Ck.kz bt (by omega)
    refine VDraw.pl 16 (.one [0, 1, 2, 3, 4, 5, 6, 7, 8, 9, 10, 11, 12] 13 (.one [] 14 (.one [15] 16 (.stop [])))) (fun W' => Sm [b, gL] V2 W' ∧ Sm [bt] y1 W') (by kernel_rfl) (sd2) ?_
    repeat ((conv => whnf); first | (refine VLoad.mk _ (L5.mono fun _ h => h.1) ?_) | (refine VLoad.mk _ (L6.mono fun _ h => h.1) ?_) | (refine VLoad.mk _ (TM.mono fun _ h => h.2) ?_) | (refine VCmp.tt (by omega) ?_) | (refine VCmp.ff (by omega) ?_) | (refine VIn.mk (IntWalk.i64_in _ (by omega)) ?_) | (refine VIdx.mk _ rfl (by omega) ?_) | (refine VIdx.mk 0 rfl (by omega) ?_))
    try (conv => whnf)
    refine VBs.mk _ _ (bs38 V2.drew.drew x.m.p x.m.s x.m.q x.A x.m.b.length x.c) ?_
    have ba3 : Below V2.heap.size V2 (V2.drew.drew.alloc (.cells (mgA x.m x.A x.c x.m.b.length) 83)) := (Below.refl _ V2).drew.drew.alloc (Nat.le_refl _) _
    have hnc3 : ∀ j u, (eMg x)[j]? = some u → (V2.drew.drew.alloc (.cells (mgA x.m x.A x.c x.m.b.length) 83)).cell? ⟨V2.heap.size, j, none⟩ = some u := fun j u hu => by
      have := range_new V2.drew.drew (mgA x.m x.A x.c x.m.b.length) 83 j u (by rw [← hu]; rfl)
      rwa [Nat.zero_add] at this
    have za3 : (V2.drew.drew.alloc (.cells (mgA x.m x.A x.c x.m.b.length) 83)).heap.size = V2.heap.size + 1 := World.size_alloc _ _
    show VS _ _ _ (V2.drew.drew.alloc (.cells (mgA x.m x.A x.c x.m.b.length) 83)) _
    rw [show V2.drew.drew.heap.size = V2.heap.size from rfl]
    generalize V2.drew.drew.alloc (.cells (mgA x.m x.A x.c x.m.b.length) 83) = V3 at ba3 hnc3 za3 ⊢
    have C3 := C2.below ba3
    have s3 : Sm [b, gL] V2 V3 := .below ba3 bL2
    have sb3 : Sm [bt] y1 V3 := sb2.trans (.below ba3 fun g hg => by rw [List.mem_singleton.1 hg]; omega)
    repeat ((conv => whnf); first | (refine VS.mk ⟨s3, sb3⟩ ?_) | (refine VCmp.tt (by omega) ?_) | (refine VCmp.ff (by omega) ?_) | (refine VIn.mk (IntWalk.i64_in _ (by omega)) ?_) | (refine VIdx.mk _ rfl (by omega) ?_) | (refine VIdx.mk 0 rfl (by omega) ?_))
    try (conv => whnf)
    have a3 := C3.log.at hik aL.eA aL.hx
    have b03 : Below V.heap.size V V3 := b2.trans (ba3.mono b2.size)
    have xR3 : RowK V3 Kk 1 eByte x.A x.m.b := (BkV x (List.mem_of_getElem? hx)).ro (Ro.below (R := fun _ => False) b03) id
    refine VApp.off 4 48 _ Try.underlying38 info83 rfl (by decide) eMg (fun _ => rfl) one_eMg xL.l x (by rw [aL.ln]; exact hat.symm) a3.ow hnc3 C3.kz (by omega) (by omega) fun A4 c4 K4 V4 o4 q4 kz4 => ?_
    have s4 : Sm [b, gL] V2 V4 := s3.trans (.ro q4 fun g hg => by
      have := bL2 g hg
      refine ⟨by omega, ?_⟩
      simp only [List.mem_cons, List.not_mem_nil, or_false] at hg
      rcases hg with rfl | rfl <;> omega)
    have sb4 : Sm [bt] y1 V4 := sb3.trans (.ro q4 fun g hg => by rw [List.mem_singleton.1 hg]; exact ⟨by omega, by omega⟩)
    repeat ((conv => whnf); first | (refine VS.mk ⟨s4, sb4⟩ ?_) | (refine VCmp.tt (by omega) ?_) | (refine VCmp.ff (by omega) ?_) | (refine VIn.mk (IntWalk.i64_in _ (by omega)) ?_) | (refine VIdx.mk _ rfl (by omega) ?_) | (refine VIdx.mk 0 rfl (by omega) ?_))
    try (conv => whnf)
    refine VStore.cell (by kernel_rfl) (by rw [show oL + mulO i 1 = oL + i from rfl, cell_sm a2.hc (by simp) s4]; rfl) ((World.frozen?_of_block (a := ⟨gL, _, none⟩) (s4 gL (by simp))).trans a2.hf) rfl rfl fun V5 hV5 => ?_
    obtain ⟨C5, q5⟩ := C3.push_log hik a3 x o4 (xR3.ro q4 (by omega)) q4 kz4 (w2 := V5) (by rw [hV5.out, hat]; rfl)
    have z5 := q5.size
    have kbt4 : K4 bt = 0 := (q5.kk bt (by omega)).trans kbt
    have sb5 : Sm [bt] y1 V5 := sb3.trans (.ro q5 fun g hg => by rw [List.mem_singleton.1 hg]; exact ⟨by omega, by omega⟩)
    have R5 : RowK V5 K4 4 eMg (some ⟨ga, oa, none⟩) xs := (RkV.ro (Ro.below (R := fun _ => False) b03) id).ro q5 (by omega)
    have B5 : ∀ z ∈ xs, RowK V5 K4 1 eByte z.A z.m.b := fun z hz => ((BkV z hz).ro (Ro.below (R := fun _ => False) b03) id).ro q5 (by omega)
    have qW5 : Ro (fun z => 0 < z ∧ z < 400) K K4 w V5 := (qk.trans (Ro.below (bWV.trans (b03.mono bWV.size)))).trans (q5.more fun z hz => by omega)
    have L8 : Ld Try.prog 38 b 8 (Sm [b] V5) (.slice Xk.long.A (vk k).long.length Xk.long.c) := C5.l_long (by simp)
    have sz5 := Sm.refl [b] V5
    clear hV5 hnc3 o4 q4
    repeat ((conv => whnf); first | (refine VS.last rfl ?_) | (refine VLoad.mk _ (L8.at sz5) ?_) | (refine VCmp.tt (by omega) ?_) | (refine VCmp.ff (by omega) ?_) | (refine VIn.mk (IntWalk.i64_in _ (by omega)) ?_) | (refine VIdx.mk _ rfl (by omega) ?_) | (refine VIdx.mk 0 rfl (by omega) ?_))
    try (conv => whnf)
    have ek := hstep k x.m hmk
    rw [← hat'] at ek
    have eg : grow1 (vk k).long p x.m = (vk k).long := by unfold grow1; rw [if_pos hpl]
    rw [eg] at ek
    obtain ⟨Z, hZ⟩ : ∃ Z, CrwAt V5 K4 b (vk (k + 1)) Z := by rw [ek]; exact ⟨_, C5⟩
    exact .mk (k + 1) ⟨rfl, rfl, rfl, rfl, rfl, trivial⟩ ⟨hkl, K4, Z, hZ, qW5, R5, B5⟩ (by show ms.length - (k + 1) < ms.length - k; omega)
  · have sG := Sm.refl [b] V2
    refine VDraw.pl 1000 (.stop [0, 1, 2, 3, 4, 5, 6, 7, 8, 9, 10, 11, 12, 13, 14, 15, 16, 17, 18, 19, 20, 21, 22, 23, 24, 25, 26, 27, 28, 29, 30, 31, 32]) (Sm [b] V2) (by kernel_rfl) (sG) ?_
    repeat ((conv => whnf); first | (refine VLoad.mk _ LG ?_) | (refine VCmp.tt (by omega) ?_) | (refine VCmp.ff (by omega) ?_) | (refine VIn.mk (IntWalk.i64_in _ (by omega)) ?_) | (refine VIdx.mk _ rfl (by omega) ?_) | (refine VIdx.mk 0 rfl (by omega) ?_))
    try (conv => whnf)
    have L5 := C2.l_log (l := [b, gL]) (by simp)
    rw [aL.eA, hkn] at L5
    have a2 := C2.log.at hik aL.eA aL.hx
    have L6 : Ld Try.prog 38 gL (oL + i) (Sm [b, gL] V2) (.slice xL.A p xL.c) := ⟨fun W' hW' => load38 (cell_sm (by rw [hat]; exact a2.hc) (by simp) hW')⟩
    have TM : Ld Try.prog 83 bt 0 (Sm [bt] y1) (.agg (mgA x.m x.A x.c x.m.b.length)) := ⟨fun W' hW' => load_agg (by kernel_rfl) (by kernel_rfl) (range_same r1 (hW' bt (by simp)))⟩
    have sd2 : Sm [b, gL] V2 V2.drew ∧ Sm [bt] y1 V2.drew := ⟨Sm.refl [b, gL] V2, sb2⟩
    have bL2 : ∀ g ∈ [b, gL], g < V2.heap.size := fun g hg => by
      simp only [List.mem_cons, List.not_mem_nil, or_false] at hg
      rcases hg with rfl | rfl <;> omega
    have kbt : Kk bt = 0 := Ck.kz bt (by omega)
    refine VDraw.pl 16 (.one [0, 1, 2, 3, 4, 5, 6, 7, 8, 9, 10, 11, 12] 13 (.one [] 14 (.one [15] 16 (.stop [])))) (fun W' => Sm [b, gL] V2 W' ∧ Sm [bt] y1 W') (by kernel_rfl) (sd2) ?_
    repeat ((conv => whnf); first | (refine VLoad.mk _ (L5.mono fun _ h => h.1) ?_) | (refine VLoad.mk _ (L6.mono fun _ h => h.1) ?_) | (refine VLoad.mk _ (TM.mono fun _ h => h.2) ?_) | (refine VCmp.tt (by omega) ?_) | (refine VCmp.ff (by omega) ?_) | (refine VIn.mk (IntWalk.i64_in _ (by omega)) ?_) | (refine VIdx.mk _ rfl (by omega) ?_) | (refine VIdx.mk 0 rfl (by omega) ?_))
    try (conv => whnf)
    refine VBs.mk _ _ (bs38 V2.drew.drew x.m.p x.m.s x.m.q x.A x.m.b.length x.c) ?_
    have ba3 : Below V2.heap.size V2 (V2.drew.drew.alloc (.cells (mgA x.m x.A x.c x.m.b.length) 83)) := (Below.refl _ V2).drew.drew.alloc (Nat.le_refl _) _
    have hnc3 : ∀ j u, (eMg x)[j]? = some u → (V2.drew.drew.alloc (.cells (mgA x.m x.A x.c x.m.b.length) 83)).cell? ⟨V2.heap.size, j, none⟩ = some u := fun j u hu => by
      have := range_new V2.drew.drew (mgA x.m x.A x.c x.m.b.length) 83 j u (by rw [← hu]; rfl)
      rwa [Nat.zero_add] at this
    have za3 : (V2.drew.drew.alloc (.cells (mgA x.m x.A x.c x.m.b.length) 83)).heap.size = V2.heap.size + 1 := World.size_alloc _ _
    show VS _ _ _ (V2.drew.drew.alloc (.cells (mgA x.m x.A x.c x.m.b.length) 83)) _
    rw [show V2.drew.drew.heap.size = V2.heap.size from rfl]
    generalize V2.drew.drew.alloc (.cells (mgA x.m x.A x.c x.m.b.length) 83) = V3 at ba3 hnc3 za3 ⊢
    have C3 := C2.below ba3
    have s3 : Sm [b, gL] V2 V3 := .below ba3 bL2
    have sb3 : Sm [bt] y1 V3 := sb2.trans (.below ba3 fun g hg => by rw [List.mem_singleton.1 hg]; omega)
    repeat ((conv => whnf); first | (refine VS.mk ⟨s3, sb3⟩ ?_) | (refine VCmp.tt (by omega) ?_) | (refine VCmp.ff (by omega) ?_) | (refine VIn.mk (IntWalk.i64_in _ (by omega)) ?_) | (refine VIdx.mk _ rfl (by omega) ?_) | (refine VIdx.mk 0 rfl (by omega) ?_))
    try (conv => whnf)
    have a3 := C3.log.at hik aL.eA aL.hx
    have b03 : Below V.heap.size V V3 := b2.trans (ba3.mono b2.size)
    have xR3 : RowK V3 Kk 1 eByte x.A x.m.b := (BkV x (List.mem_of_getElem? hx)).ro (Ro.below (R := fun _ => False) b03) id
    refine VApp.off 4 48 _ Try.underlying38 info83 rfl (by decide) eMg (fun _ => rfl) one_eMg xL.l x (by rw [aL.ln]; exact hat.symm) a3.ow hnc3 C3.kz (by omega) (by omega) fun A4 c4 K4 V4 o4 q4 kz4 => ?_
    have s4 : Sm [b, gL] V2 V4 := s3.trans (.ro q4 fun g hg => by
      have := bL2 g hg
      refine ⟨by omega, ?_⟩
      simp only [List.mem_cons, List.not_mem_nil, or_false] at hg
      rcases hg with rfl | rfl <;> omega)
    have sb4 : Sm [bt] y1 V4 := sb3.trans (.ro q4 fun g hg => by rw [List.mem_singleton.1 hg]; exact ⟨by omega, by omega⟩)
    repeat ((conv => whnf); first | (refine VS.mk ⟨s4, sb4⟩ ?_) | (refine VCmp.tt (by omega) ?_) | (refine VCmp.ff (by omega) ?_) | (refine VIn.mk (IntWalk.i64_in _ (by omega)) ?_) | (refine VIdx.mk _ rfl (by omega) ?_) | (refine VIdx.mk 0 rfl (by omega) ?_))
    try (conv => whnf)
    refine VStore.cell (by kernel_rfl) (by rw [show oL + mulO i 1 = oL + i from rfl, cell_sm a2.hc (by simp) s4]; rfl) ((World.frozen?_of_block (a := ⟨gL, _, none⟩) (s4 gL (by simp))).trans a2.hf) rfl rfl fun V5 hV5 => ?_
    obtain ⟨C5, q5⟩ := C3.push_log hik a3 x o4 (xR3.ro q4 (by omega)) q4 kz4 (w2 := V5) (by rw [hV5.out, hat]; rfl)
    have z5 := q5.size
    have kbt4 : K4 bt = 0 := (q5.kk bt (by omega)).trans kbt
    have sb5 : Sm [bt] y1 V5 := sb3.trans (.ro q5 fun g hg => by rw [List.mem_singleton.1 hg]; exact ⟨by omega, by omega⟩)
    have R5 : RowK V5 K4 4 eMg (some ⟨ga, oa, none⟩) xs := (RkV.ro (Ro.below (R := fun _ => False) b03) id).ro q5 (by omega)
    have B5 : ∀ z ∈ xs, RowK V5 K4 1 eByte z.A z.m.b := fun z hz => ((BkV z hz).ro (Ro.below (R := fun _ => False) b03) id).ro q5 (by omega)
    have qW5 : Ro (fun z => 0 < z ∧ z < 400) K K4 w V5 := (qk.trans (Ro.below (bWV.trans (b03.mono bWV.size)))).trans (q5.more fun z hz => by omega)
    have L8 : Ld Try.prog 38 b 8 (Sm [b] V5) (.slice Xk.long.A (vk k).long.length Xk.long.c) := C5.l_long (by simp)
    have sz5 := Sm.refl [b] V5
    clear hV5 hnc3 o4 q4
    repeat ((conv => whnf); first | (refine VS.last rfl ?_) | (refine VLoad.mk _ (L8.at sz5) ?_) | (refine VCmp.tt (by omega) ?_) | (refine VCmp.ff (by omega) ?_) | (refine VIn.mk (IntWalk.i64_in _ (by omega)) ?_) | (refine VIdx.mk _ rfl (by omega) ?_) | (refine VIdx.mk 0 rfl (by omega) ?_))
    try (conv => whnf)
    have hL0 : p = (vk k).long.length := by omega
    have sdt : Sm [b] V5 V5 ∧ Sm [bt] y1 V5 := ⟨sz5, sb5⟩
    refine VDraw.pl 10 (.one [0, 1, 2, 3, 4, 5] 6 (.one [] 7 (.one [8, 9] 10 (.stop [])))) (fun W' => Sm [b] V5 W' ∧ Sm [bt] y1 W') (by kernel_rfl) (sdt) ?_
    repeat ((conv => whnf); first | (refine VLoad.mk _ (L8.mono fun _ h => h.1) ?_) | (refine VLoad.mk _ (TM.mono fun _ h => h.2) ?_) | (refine VCmp.tt (by omega) ?_) | (refine VCmp.ff (by omega) ?_) | (refine VIn.mk (IntWalk.i64_in _ (by omega)) ?_) | (refine VIdx.mk _ rfl (by omega) ?_) | (refine VIdx.mk 0 rfl (by omega) ?_))
    try (conv => whnf)
    refine VBs.mk _ _ (bs38 V5.drew x.m.p x.m.s x.m.q x.A x.m.b.length x.c) ?_
    have ba6 : Below V5.heap.size V5 (V5.drew.alloc (.cells (mgA x.m x.A x.c x.m.b.length) 83)) := (Below.refl _ V5).drew.alloc (Nat.le_refl _) _
    have hnc6 : ∀ j u, (eMg x)[j]? = some u → (V5.drew.alloc (.cells (mgA x.m x.A x.c x.m.b.length) 83)).cell? ⟨V5.heap.size, j, none⟩ = some u := fun j u hu => by
      have := range_new V5.drew (mgA x.m x.A x.c x.m.b.length) 83 j u (by rw [← hu]; rfl)
      rwa [Nat.zero_add] at this
    have za6 : (V5.drew.alloc (.cells (mgA x.m x.A x.c x.m.b.length) 83)).heap.size = V5.heap.size + 1 := World.size_alloc _ _
    show VS _ _ _ (V5.drew.alloc (.cells (mgA x.m x.A x.c x.m.b.length) 83)) _
    rw [show V5.drew.heap.size = V5.heap.size from rfl]
    generalize V5.drew.alloc (.cells (mgA x.m x.A x.c x.m.b.length) 83) = V6 at ba6 hnc6 za6 ⊢
    have C6 := C5.below ba6
    have hb5 := C5.hb
    have bt5 : bt < V5.heap.size := by omega
    have s6 : Sm [b] V5 V6 := .below ba6 fun g hg => by rw [List.mem_singleton.1 hg]; exact hb5
    have sb6 : Sm [bt] y1 V6 := sb5.trans (.below ba6 fun g hg => by rw [List.mem_singleton.1 hg]; exact bt5)
    repeat ((conv => whnf); first | (refine VS.mk ⟨s6, sb6⟩ ?_) | (refine VCmp.tt (by omega) ?_) | (refine VCmp.ff (by omega) ?_) | (refine VIn.mk (IntWalk.i64_in _ (by omega)) ?_) | (refine VIdx.mk _ rfl (by omega) ?_) | (refine VIdx.mk 0 rfl (by omega) ?_))
    try (conv => whnf)
    have xR6 : RowK V6 K4 1 eByte x.A x.m.b := (B5 x (List.mem_of_getElem? hx)).ro (Ro.below (R := fun _ => False) ba6) id
    have hlong6 := C6.long
    have kb6 := C6.kb
    refine VApp.off 4 48 _ Try.underlying38 info83 rfl (by decide) eMg (fun _ => rfl) one_eMg Xk.long.l x hlll hlong6 hnc6 C6.kz (by omega) (by omega) fun A7 c7 K7 V7 o7 q7 kz7 => ?_
    have hb6 := C6.hb
    have s7 : Sm [b] V5 V7 := s6.trans (.ro q7 fun g hg => by rw [List.mem_singleton.1 hg]; exact ⟨hb6, by omega⟩)
    have sb7 : Sm [bt] y1 V7 := sb6.trans (.ro q7 fun g hg => by rw [List.mem_singleton.1 hg]; exact ⟨by omega, by omega⟩)
    repeat ((conv => whnf); first | (refine VS.mk ⟨s7, sb7⟩ ?_) | (refine VCmp.tt (by omega) ?_) | (refine VCmp.ff (by omega) ?_) | (refine VIn.mk (IntWalk.i64_in _ (by omega)) ?_) | (refine VIdx.mk _ rfl (by omega) ?_) | (refine VIdx.mk 0 rfl (by omega) ?_))
    try (conv => whnf)
    have t7 := there_ro C6.th hb6 q7 (by omega)
    refine VStore.cell (by kernel_rfl) (by have := (t7 8 (by omega)).1; rwa [Nat.zero_add] at this) (by have := (t7 8 (by omega)).2; rwa [Nat.zero_add] at this) rfl rfl fun V8 hV8 => ?_
    obtain ⟨C8, q8⟩ := C6.push_long x o7 (xR6.ro q7 (by omega)) q7 kz7 (w2 := V8) (by rw [hV8.out]; rfl)
    clear hV8 hnc6 o7 q7
    repeat ((conv => whnf); first | (refine VS.last rfl ?_) | (refine VCmp.tt (by omega) ?_) | (refine VCmp.ff (by omega) ?_) | (refine VIn.mk (IntWalk.i64_in _ (by omega)) ?_) | (refine VIdx.mk _ rfl (by omega) ?_) | (refine VIdx.mk 0 rfl (by omega) ?_))
    try (conv => whnf)
    have ek := hstep k x.m hmk
    rw [← hat'] at ek
    have eg : grow1 (vk k).long p x.m = (vk k).long ++ [x.m] := by unfold grow1; rw [if_neg hpl]
    rw [eg] at ek
    have R8 : RowK V8 K7 4 eMg (some ⟨ga, oa, none⟩) xs := (R5.ro (Ro.below (R := fun _ => False) ba6) id).ro q8 (by omega)
    have B8 : ∀ z ∈ xs, RowK V8 K7 1 eByte z.A z.m.b := fun z hz => ((B5 z hz).ro (Ro.below (R := fun _ => False) ba6) id).ro q8 (by omega)
    have qW8 : Ro (fun z => 0 < z ∧ z < 400) K K7 w V8 := (qW5.trans (Ro.below ba6)).trans (q8.more fun z hz => by omega)
    obtain ⟨Z, hZ⟩ : ∃ Z, CrwAt V8 K7 b (vk (k + 1)) Z := by rw [ek]; exact ⟨_, C8⟩
    exact .mk (k + 1) ⟨rfl, rfl, rfl, rfl, rfl, trivial⟩ ⟨hkl, K7, Z, hZ, qW8, R8, B8⟩ (by show ms.length - (k + 1) < ms.length - k; omega)
end
end Go.Proofs.Ytoilipfgimcoiaa
