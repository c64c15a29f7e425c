/- CrKp CrKe, joined. -/
import Derived.Test.YtoilipfgimcoiaaOe22
set_option linter.unusedVariables false
set_option linter.unusedSimpArgs false
namespace Go.Proofs.Ytoilipfgimcoiaa
open Go Go.RowKit
def allB (v : Crw) (s : Nat) (q : Int) (j : Nat) : Bool := (List.range j).all fun a => hadB (v.log a) (pidN s) q
theorem allB_succ (v : Crw) (s : Nat) (q : Int) (j : Nat) : allB v s q (j + 1) = (allB v s q j && hadB (v.log j) (pidN s) q) := by
  unfold allB; rw [List.range_succ, List.all_append]; simp
def fndB (l : List Dt) (s : Nat) (q : Nat) (b : List Int) : Bool := l.any fun d => decide (d.s = pidN s ∧ d.q = q ∧ d.b = b)
theorem fndB_take {l : List Dt} {s q : Nat} {b : List Int} {k : Nat} {d : Dt} (hd : l[k]? = some d) : fndB (l.take (k + 1)) s q b = (fndB (l.take k) s q b || decide (d.s = pidN s ∧ d.q = q ∧ d.b = b)) := by
  unfold fndB
  rw [take_one hd, List.any_append]; simp
section
variable {v : Crw} {G : List Sl} {T : Nat}
theorem CI.kept (h : CI v G T) {i s q : Nat} (hi : i < v.n) (hs : s < v.n) (h1 : 1 ≤ q) (h2 : q ≤ (v.o i).taken (pidN s)) {b : List Int} (hb : (v.sent s)[q - 1]? = some b) {ds : List Dt} (hM : MsgOf (v.o i).held ds) : allB v s q v.n = true ∨ fndB ds s q b = true := by
  have m := h.mi i hi
  by_cases hg : (⟨pidN s, q⟩ : Sl) ∈ G.take (v.o i).pre
  · left
    obtain ⟨p, hp⟩ := List.mem_iff_getElem?.1 hg
    have hpl := (List.getElem?_eq_some_iff.1 hp).1
    rw [List.length_take] at hpl
    rw [List.getElem?_take_of_lt (by omega)] at hp
    refine List.all_eq_true.2 fun j hj => ?_
    have hj : j < v.n := List.mem_range.1 hj
    obtain ⟨l1, l2⟩ := h.lg j hj
    have hk := h.key i j hi hj
    obtain ⟨m', hm'⟩ : ∃ m', (v.log j)[p]? = some m' := ⟨_, List.getElem?_eq_getElem (by omega)⟩
    obtain ⟨x, hx, e1, e2⟩ := l2 p m' hm'
    rw [hp] at hx
    injection hx with hx
    subst hx
    exact List.any_eq_true.2 ⟨m', List.mem_of_getElem? hm', decide_eq_true ⟨e1, by rw [e2]⟩⟩
  · right
    obtain ⟨d, hd, he⟩ := m.hh s q hs h1 h2 hg
    have e1 : d.s = pidN s := congrArg Sl.s he
    have e2 : d.q = q := congrArg Sl.q he
    obtain ⟨-, j, hj, h3, h4, h5, h6⟩ := m.he d hd
    have hjs : j = s := pidN_inj (h3.symm.trans e1)
    subst hjs
    rw [e2, hb] at h6
    injection h6 with h6
    exact List.any_eq_true.2 ⟨d, hM.perm.mem_iff.2 hd, decide_eq_true ⟨e1, e2, h6.symm⟩⟩
end
section
variable {w : World} {K : Nat → Nat} {b : Nat} {v : Crw} {X : CwX} {G : List Sl} {T : Nat}
set_option maxRecDepth 100000 in
set_option maxHeartbeats 16000000 in
theorem keeps_any (C : CrwAt w K b v X) (I : CI v G T) (hT : T ≤ 90000) {i : Nat} (hi : i < v.n) : Calls Try.prog 21 #[.pointer (some ⟨b, 0, none⟩), .int .i64 i] w fun e w' => e = .returned (.bool true) ∧ Below w.heap.size w w' := by
  refine calls_vc tab_ok Try.func21 rfl ?_
  have n1 := I.n1
  have n4 := I.n4
  have w4 := I.w4
  have hbz := C.hb
  obtain ⟨gO, oO, bi, Y, eO, gO1, kO, hbi, cO, AO⟩ := C.ord hi
  have M0 := C.l_O (l := [b, gO]) (by simp)
  rw [eO] at M0
  have N0 : Ld Try.prog 42 gO (oO + i) (Sm [b, gO] w) (.pointer (some ⟨bi, 0, none⟩)) := ⟨fun W hW => load42 (cell_sm cO (by simp) hW)⟩
  have s0 := Sm.refl [b, gO] w
  have hLw : ∀ g ∈ [b, gO], g < w.heap.size := fun g hg => by
    simp only [List.mem_cons, List.not_mem_nil, or_false] at hg
    rcases hg with rfl | rfl <;> assumption
  have WO := I.wf (by omega) hi
  have hhl := I.heldLen (by omega) hi
  have hsr := I.sr i hi
  have hprod : v.n * v.win ≤ 16 := Nat.mul_le_mul (show v.n ≤ 4 from n4) (show v.win ≤ 4 from w4)
  have hb9 : ∀ d ∈ (v.o i).held, d.b.length ≤ 9 := fun d hd => by
    obtain ⟨-, j, hj, -, -, -, h5⟩ := (I.mi i hi).he d hd
    exact I.sb j hj d.b (List.mem_of_getElem? h5)
  conv => whnf
  repeat ((conv => whnf); first | (refine VLoad.mk _ (M0.at s0) ?_) | (refine VLoad.mk _ (N0.at s0) ?_) | (refine VCmp.tt (by omega) ?_) | (refine VCmp.ff (by omega) ?_) | (refine VIn.mk (IntWalk.i64_in _ (by omega)) ?_) | (refine VIdx.mk _ rfl (by omega) ?_) | (refine VIdx.mk 0 rfl (by omega) ?_))
  try (conv => whnf)
  refine VCall.mk _ (messages_any AO WO (fun d hd => by have := hb9 d hd; omega) hhl) ?_
  rintro _ w1 ⟨A1, c1, xs, rfl, R1, B1, hM, b1⟩
  refine ⟨_, rfl, ?_⟩
  have s1 : Sm [b, gO] w w1 := .below b1 hLw
  have hxl : xs.length = (v.o i).held.length := by have := hM.perm.length_eq; simpa using this
  repeat ((conv => whnf); first | (refine VLoad.mk _ (M0.at s1) ?_) | (refine VLoad.mk _ (N0.at s1) ?_) | (refine VCmp.tt (by omega) ?_) | (refine VCmp.ff (by omega) ?_) | (refine VIn.mk (IntWalk.i64_in _ (by omega)) ?_) | (refine VIdx.mk _ rfl (by omega) ?_) | (refine VIdx.mk 0 rfl (by omega) ?_))
  try (conv => whnf)
  refine VCall.mk _ (content_any (AO.below b1) (by omega)) ?_
  rintro _ w2 ⟨A2, c2, H2, rfl, -, RH, b2⟩
  refine ⟨_, rfl, ?_⟩
  have bw2 : Below w.heap.size w w2 := b1.trans (b2.mono b1.size)
  repeat ((conv => whnf); first | (refine VCmp.tt (by omega) ?_) | (refine VCmp.ff (by omega) ?_) | (refine VIn.mk (IntWalk.i64_in _ (by omega)) ?_) | (refine VIdx.mk _ rfl (by omega) ?_) | (refine VIdx.mk 0 rfl (by omega) ?_))
  try (conv => whnf)
  refine .mk _ run_zero51 ?_
  conv => whnf
  refine .mk fun u3 hu3 => ?_
  repeat ((conv => whnf); first | (refine VCmp.tt (by omega) ?_) | (refine VCmp.ff (by omega) ?_) | (refine VIn.mk (IntWalk.i64_in _ (by omega)) ?_) | (refine VIdx.mk _ rfl (by omega) ?_) | (refine VIdx.mk 0 rfl (by omega) ?_))
  try (conv => whnf)
  obtain ⟨bt, hbt⟩ : ∃ bt, bt = w2.heap.size := ⟨_, rfl⟩
  refine VStore.new (c' := flA (v.o i) A2 c2 H2) hu3 (by kernel_rfl) rfl (one_flA _ _ _ _) fun w3 hw3 => ?_
  have b3 : Below w2.heap.size w2 w3 := by rw [hw3.out]; exact (Below.refl _ _).alloc (Nat.le_refl _) _
  have z3 : w3.heap.size = w2.heap.size + 1 := by rw [hw3.out]; exact World.size_alloc _ _
  have r3 : w3.rangeAt bt 0 (flA (v.o i) A2 c2 H2).toList := by rw [hw3.out, hbt]; exact range_new w2 _ 51
  rw [← hbt]
  clear hu3 hw3
  clear u3
  have bw3 : Below w.heap.size w w3 := bw2.trans (b3.mono bw2.size)
  have b13 : Below w1.heap.size w1 w3 := b2.trans (b3.mono b2.size)
  have C3 := C.below bw3
  have hb3 := C3.hb
  have hbt3 : bt < w3.heap.size := by omega
  have R3 := R1.below b13
  have B3 : ∀ x ∈ xs, NewRow w3 w.heap.size 1 eByte x.A x.d.b := fun x hx => (B1 x hx).below b13
  obtain ⟨gH, oH, rfl, -, gH1, cH⟩ := (RH.below b3) (by simp)
  have rH : w3.cell? ⟨bt, 6, none⟩ = some (.slice (some ⟨gH, oH, none⟩) 16 16) := r3 6 _ rfl
  clear r3
  have cH' : ∀ s, s < v.n → w3.cell? ⟨gH, oH + pidN s, none⟩ = some (.int .i64 ((v.o i).taken (pidN s))) := fun s hs => by
    have := cH (pidN s) ((v.o i).taken (pidN s)) (by rw [List.getElem?_map, List.getElem?_range (by unfold pidN; omega)]; rfl) 0 _ rfl
    rwa [Nat.mul_one, Nat.add_zero] at this
  clear cH
  repeat ((conv => whnf); first | (refine VCmp.tt (by omega) ?_) | (refine VCmp.ff (by omega) ?_) | (refine VIn.mk (IntWalk.i64_in _ (by omega)) ?_) | (refine VIdx.mk _ rfl (by omega) ?_) | (refine VIdx.mk 0 rfl (by omega) ?_))
  try (conv => whnf)
  refine VLoop.mk Nat (fun s => [(0, .pointer (some ⟨b, 0, none⟩)), (1, .int .i64 i), (5, .slice A1 xs.length c1), (6, .pointer (some ⟨bt, 0, none⟩)), (7, .int .i64 s)]) (fun s W => s ≤ v.n ∧ Below w3.heap.size w3 W) (fun s => v.n - s) 0 ⟨rfl, rfl, rfl, rfl, rfl, trivial⟩ ⟨Nat.zero_le _, Below.refl _ _⟩ ?_
  rintro s W ⟨hs, bW⟩
  by_cases hsn : s < v.n
  case neg =>
    have M3 := C3.l_O (l := [b]) (by simp)
    have sW : Sm [b] w3 W := .below bW fun g hg => by rw [List.mem_singleton.1 hg]; exact hb3
    repeat ((conv => whnf); first | (refine VLoad.mk _ (M3.at sW) ?_) | (refine VCmp.tt (by omega) ?_) | (refine VCmp.ff (by omega) ?_) | (refine VIn.mk (IntWalk.i64_in _ (by omega)) ?_) | (refine VIdx.mk _ rfl (by omega) ?_) | (refine VIdx.mk 0 rfl (by omega) ?_))
    try (conv => whnf)
    exact .mk ⟨rfl, bw3.trans (bW.mono bw3.size)⟩
  obtain ⟨gS, oS, xS, aS⟩ := C3.sent.get hsn
  have hgS := aS.hg
  obtain ⟨L, hL⟩ : ∃ L, L = [b, bt, gS, gH] := ⟨_, rfl⟩
  have hLw3 : ∀ g ∈ L, g < w3.heap.size := fun g hg => by
    rw [hL] at hg
    simp only [List.mem_cons, List.not_mem_nil, or_false] at hg
    rcases hg with rfl | rfl | rfl | rfl <;> assumption
  have LO := C3.l_O (l := L) (by simp [hL])
  have LS := C3.l_sent (l := L) (by simp [hL])
  rw [aS.eA] at LS
  have LSj : Ld Try.prog 41 gS (oS + s) (Sm L w3) (.slice xS.A (v.sent s).length xS.c) := ⟨fun W' hW' => load41s (cell_sm aS.hc (by simp [hL]) hW')⟩
  have LF : Ld Try.prog 49 bt 6 (Sm L w3) (.slice (some ⟨gH, oH, none⟩) 16 16) := ⟨fun W' hW' => load49 (cell_sm rH (by simp [hL]) hW')⟩
  have LH : Ld Try.prog 3 gH (oH + pidN s) (Sm L w3) (.int .i64 ((v.o i).taken (pidN s))) := ⟨fun W' hW' => load3 (cell_sm (cH' s hsn) (by simp [hL]) hW')⟩
  have htk := (I.mi i hi).tk s hsn
  have hown := I.own i hi
  have hse := I.se s hsn
  have hpid : (3 * (s : Int) + 1) = ((pidN s : Nat) : Int) := by unfold pidN; omega
  have hp10 : pidN s < 16 := by unfold pidN; omega
  have hkept := fun q h1 h2 bb hbb => I.kept (q := q) hi hsn h1 h2 (b := bb) hbb hM
  obtain ⟨t, ht⟩ : ∃ t, t = (v.o i).taken (pidN s) := ⟨_, rfl⟩
  rw [← ht] at LH htk hkept
  have hti : s = i → t = (v.sent s).length := fun e => by rw [ht, ← e]; rw [← e] at hown; exact hown
  clear ht
  have sW : Sm L w3 W := .below bW hLw3
  have sd : Sm L w3 W.drew := sW
  repeat ((conv => whnf); first | (refine VLoad.mk _ (LO.at sW) ?_) | (refine VCmp.tt (by omega) ?_) | (refine VCmp.ff (by omega) ?_) | (refine VIn.mk (IntWalk.i64_in _ (by omega)) ?_) | (refine VIdx.mk _ rfl (by omega) ?_) | (refine VIdx.mk 0 rfl (by omega) ?_))
  try (conv => whnf)
  refine VDraw.pl 1000 (.one [0, 1, 2] 3 (.stop [4, 5, 6])) (Sm L w3) (by kernel_rfl) (sd) ?_
  repeat ((conv => whnf); first | (refine VLoad.mk _ LF ?_) | (refine VCmp.tt (by omega) ?_) | (refine VCmp.ff (by omega) ?_) | (refine VIn.mk (IntWalk.i64_in _ (by omega)) ?_) | (refine VIdx.mk _ rfl (by omega) ?_) | (refine VIdx.mk 0 rfl (by omega) ?_))
  try (conv => whnf)
  refine VCall.mk _ (pid_any s W.drew (by omega) (by omega)) ?_
  rintro _ x5 ⟨rfl, e5⟩
  subst x5
  refine ⟨_, rfl, ?_⟩
  rw [hpid]
  repeat ((conv => whnf); first | (refine VS.mk sd ?_) | (refine VLoad.mk _ LH ?_) | (refine VIdx.mk (pidN s) (by omega) (by omega) ?_) | (refine VLoad.mk _ (LS.at sd) ?_) | (refine VLoad.mk _ (LSj.at sd) ?_) | (refine VCmp.tt (by omega) ?_) | (refine VCmp.ff (by omega) ?_) | (refine VIn.mk (IntWalk.i64_in _ (by omega)) ?_) | (refine VIdx.mk _ rfl (by omega) ?_) | (refine VIdx.mk 0 rfl (by omega) ?_))
  try (conv => whnf)
  apply share (σ := Nat) (F := fun q => [(0, .pointer (some ⟨b, 0, none⟩)), (1, .int .i64 i), (5, .slice A1 xs.length c1), (6, .pointer (some ⟨bt, 0, none⟩)), (7, .int .i64 s), (8, .int .i64 t), (9, .int .i64 q)]) (I := fun q U => 1 ≤ q ∧ q ≤ t + 1 ∧ Below w3.heap.size w3 U) (μ := fun q => t + 1 - q)
  case main =>
    intro hr
    by_cases hsi : s = i
    · have hti' := hti hsi
      have hsI : (s : Int) = i := by rw [hsi]
      repeat ((conv => whnf); first | (refine VS.mk sd ?_) | (refine VLoad.mk _ (LS.at sd) ?_) | (refine VLoad.mk _ (LSj.at sd) ?_) | (refine VCmp.tt (by omega) ?_) | (refine VCmp.ff (by omega) ?_) | (refine VIn.mk (IntWalk.i64_in _ (by omega)) ?_) | (refine VIdx.mk _ rfl (by omega) ?_) | (refine VIdx.mk 0 rfl (by omega) ?_))
      try (conv => whnf)
      exact vloop_at hr 1 ⟨rfl, rfl, rfl, rfl, rfl, rfl, rfl, trivial⟩ ⟨Nat.le_refl _, by omega, bW.drew⟩
    · have hsI : ¬ (s : Int) = i := by omega
      repeat ((conv => whnf); first | (refine VS.mk sd ?_) | (refine VLoad.mk _ (LS.at sd) ?_) | (refine VLoad.mk _ (LSj.at sd) ?_) | (refine VCmp.tt (by omega) ?_) | (refine VCmp.ff (by omega) ?_) | (refine VIn.mk (IntWalk.i64_in _ (by omega)) ?_) | (refine VIdx.mk _ rfl (by omega) ?_) | (refine VIdx.mk 0 rfl (by omega) ?_))
      try (conv => whnf)
      exact vloop_at hr 1 ⟨rfl, rfl, rfl, rfl, rfl, rfl, rfl, trivial⟩ ⟨Nat.le_refl _, by omega, bW.drew⟩
  case rest =>
    rintro q U ⟨hq1, hq2, bU⟩
    by_cases hqt : q ≤ t
    case neg =>
      repeat ((conv => whnf); first | (refine VCmp.tt (by omega) ?_) | (refine VCmp.ff (by omega) ?_) | (refine VIn.mk (IntWalk.i64_in _ (by omega)) ?_) | (refine VIdx.mk _ rfl (by omega) ?_) | (refine VIdx.mk 0 rfl (by omega) ?_))
      try (conv => whnf)
      exact .mk (s + 1) ⟨rfl, rfl, rfl, rfl, rfl, trivial⟩ ⟨hsn, bU⟩ (by show v.n - (s + 1) < v.n - s; omega)
    obtain ⟨y, hy⟩ : ∃ y, xS.l[q - 1]? = some y := ⟨_, List.getElem?_eq_getElem (by rw [aS.ln]; omega)⟩
    have hyb : (v.sent s)[q - 1]? = some y.b := by rw [← aS.vl, List.getElem?_map, hy]; rfl
    have hk2 := hkept q hq1 hqt y.b hyb
    have hy9 := I.sb s hsn y.b (List.mem_of_getElem? hyb)
    repeat ((conv => whnf); first | (refine VCmp.tt (by omega) ?_) | (refine VCmp.ff (by omega) ?_) | (refine VIn.mk (IntWalk.i64_in _ (by omega)) ?_) | (refine VIdx.mk _ rfl (by omega) ?_) | (refine VIdx.mk 0 rfl (by omega) ?_))
    try (conv => whnf)
    refine VLoop.mk Nat (fun j => [(0, .pointer (some ⟨b, 0, none⟩)), (1, .int .i64 i), (5, .slice A1 xs.length c1), (6, .pointer (some ⟨bt, 0, none⟩)), (7, .int .i64 s), (8, .int .i64 t), (9, .int .i64 q), (10, .bool (allB v s q j)), (11, .int .i64 j)]) (fun j V => j ≤ v.n ∧ Below w3.heap.size w3 V) (fun j => v.n - j) 0 ⟨rfl, rfl, rfl, rfl, rfl, rfl, rfl, rfl, rfl, trivial⟩ ⟨Nat.zero_le _, bU⟩ ?_
    rintro j V ⟨hj, bV⟩
    have sV : Sm L w3 V := .below bV hLw3
    by_cases hjn : j < v.n
    · have hsucc := allB_succ v s q j
      cases hall : allB v s q j with
      | false =>
        rw [hall, Bool.false_and] at hsucc
        repeat ((conv => whnf); first | (refine VLoad.mk _ (LO.at sV) ?_) | (refine VCmp.tt (by omega) ?_) | (refine VCmp.ff (by omega) ?_) | (refine VIn.mk (IntWalk.i64_in _ (by omega)) ?_) | (refine VIdx.mk _ rfl (by omega) ?_) | (refine VIdx.mk 0 rfl (by omega) ?_))
        try (conv => whnf)
        exact .mk (j + 1) ⟨rfl, rfl, rfl, rfl, rfl, rfl, rfl, by rw [hsucc]; rfl, rfl, trivial⟩ ⟨hjn, bV⟩ (by show v.n - (j + 1) < v.n - j; omega)
      | true =>
        rw [hall, Bool.true_and] at hsucc
        have hlg := (I.lg j hjn).1
        have hlen := I.len
        rw [List.length_append] at hlen
        have mj := I.mi j hjn
        have mj1 := mj.dk
        have mj2 := mj.kg
        repeat ((conv => whnf); first | (refine VLoad.mk _ (LO.at sV) ?_) | (refine VCmp.tt (by omega) ?_) | (refine VCmp.ff (by omega) ?_) | (refine VIn.mk (IntWalk.i64_in _ (by omega)) ?_) | (refine VIdx.mk _ rfl (by omega) ?_) | (refine VIdx.mk 0 rfl (by omega) ?_))
        try (conv => whnf)
        refine VCall.mk _ (had_any (C3.below bV) hjn (by omega) q (by omega)) ?_
        rintro _ V2 ⟨rfl, bV2⟩
        refine ⟨_, rfl, ?_⟩
        repeat ((conv => whnf); first | (refine VCmp.tt (by omega) ?_) | (refine VCmp.ff (by omega) ?_) | (refine VIn.mk (IntWalk.i64_in _ (by omega)) ?_) | (refine VIdx.mk _ rfl (by omega) ?_) | (refine VIdx.mk 0 rfl (by omega) ?_))
        try (conv => whnf)
        exact .mk (j + 1) ⟨rfl, rfl, rfl, rfl, rfl, rfl, rfl, by rw [hsucc]; rfl, rfl, trivial⟩ ⟨hjn, bV.trans (bV2.mono bV.size)⟩ (by show v.n - (j + 1) < v.n - j; omega)
    obtain rfl : j = v.n := by omega
    obtain ⟨al, hal⟩ : ∃ al, al = allB v s q v.n := ⟨_, rfl⟩
    rw [← hal] at hk2 ⊢
    clear hal
    repeat ((conv => whnf); first | (refine VLoad.mk _ (LO.at sV) ?_) | (refine VCmp.tt (by omega) ?_) | (refine VCmp.ff (by omega) ?_) | (refine VIn.mk (IntWalk.i64_in _ (by omega)) ?_) | (refine VIdx.mk _ rfl (by omega) ?_) | (refine VIdx.mk 0 rfl (by omega) ?_))
    try (conv => whnf)
    refine VLoop.mk Nat (fun k => [(0, .pointer (some ⟨b, 0, none⟩)), (1, .int .i64 i), (5, .slice A1 xs.length c1), (6, .pointer (some ⟨bt, 0, none⟩)), (7, .int .i64 s), (8, .int .i64 t), (9, .int .i64 q), (10, .bool al), (12, .bool (fndB ((xs.map (·.d)).take k) s q y.b)), (13, .int .i64 k)]) (fun k V => k ≤ xs.length ∧ Below w3.heap.size w3 V) (fun k => xs.length - k) 0 ⟨rfl, rfl, rfl, rfl, rfl, rfl, rfl, rfl, rfl, rfl, trivial⟩ ⟨Nat.zero_le _, bV⟩ ?_
    rintro k Z ⟨hk, bZ⟩
    by_cases hkx : k < xs.length
    case neg =>
      obtain rfl : k = xs.length := by omega
      rw [List.take_of_length_le (by simp)]
      have sZ0 : Sm L w3 Z := .below bZ hLw3
      cases al with
      | true =>
        repeat ((conv => whnf); first | (refine VCmp.tt (by omega) ?_) | (refine VCmp.ff (by omega) ?_) | (refine VIn.mk (IntWalk.i64_in _ (by omega)) ?_) | (refine VIdx.mk _ rfl (by omega) ?_) | (refine VIdx.mk 0 rfl (by omega) ?_))
        try (conv => whnf)
        exact .mk (q + 1) ⟨rfl, rfl, rfl, rfl, rfl, rfl, rfl, trivial⟩ ⟨by omega, by omega, bZ⟩ (by show t + 1 - (q + 1) < t + 1 - q; omega)
      | false =>
        have hf : fndB (xs.map (·.d)) s q y.b = true := hk2.resolve_left (by simp)
        rw [hf]
        repeat ((conv => whnf); first | (refine VCmp.tt (by omega) ?_) | (refine VCmp.ff (by omega) ?_) | (refine VIn.mk (IntWalk.i64_in _ (by omega)) ?_) | (refine VIdx.mk _ rfl (by omega) ?_) | (refine VIdx.mk 0 rfl (by omega) ?_))
        try (conv => whnf)
        exact .mk (q + 1) ⟨rfl, rfl, rfl, rfl, rfl, rfl, rfl, trivial⟩ ⟨by omega, by omega, bZ⟩ (by show t + 1 - (q + 1) < t + 1 - q; omega)
    obtain ⟨gA, oA, rfl, gA1, gA2, cA⟩ := R3 (by omega)
    obtain ⟨x, hx⟩ : ∃ x, xs[k]? = some x := ⟨_, List.getElem?_eq_getElem hkx⟩
    have hxd : (xs.map (·.d))[k]? = some x.d := by rw [List.getElem?_map, hx]; rfl
    have hxm := List.mem_of_getElem? hx
    have hft := fndB_take (s := s) (q := q) (b := y.b) hxd
    obtain ⟨gq, oq, eq_, gq1, cq⟩ : ∃ g off, xS.A = some ⟨g, off, none⟩ ∧ g < w3.heap.size ∧ w3.cell? ⟨g, off + (q - 1), none⟩ = some (.slice y.A y.b.length y.c) := by
      rcases aS.ow with ⟨-, e0, -⟩ | ⟨g, off, e0, k1, k2, k3, k4, k5⟩
      · rw [e0] at hy; simp at hy
      · refine ⟨g, off, e0, k1, ?_⟩
        have := k5 _ y hy 0 _ rfl
        rwa [Nat.mul_one, Nat.add_zero] at this
    obtain ⟨L2, hL2⟩ : ∃ L2, L2 = [b, gS, gq, gA] := ⟨_, rfl⟩
    have hL2w : ∀ g ∈ L2, g < w3.heap.size := fun g hg => by
      rw [hL2] at hg
      simp only [List.mem_cons, List.not_mem_nil, or_false] at hg
      rcases hg with rfl | rfl | rfl | rfl <;> assumption
    have s3Z : Sm L2 w3 Z := .below bZ hL2w
    have cz : ∀ g o u, g ∈ L2 → w3.cell? ⟨g, o, none⟩ = some u → Z.cell? ⟨g, o, none⟩ = some u := fun g o u hg hc => cell_sm hc hg s3Z
    have CZ := C3.below bZ
    have ZS := CZ.l_sent (l := L2) (by simp [hL2])
    rw [aS.eA] at ZS
    have ZSj : Ld Try.prog 41 gS (oS + s) (Sm L2 Z) (.slice (some ⟨gq, oq, none⟩) (v.sent s).length xS.c) := ⟨fun W' hW' => load41s (cell_sm (cz _ _ _ (by simp [hL2]) (by rw [← eq_]; exact aS.hc)) (by simp [hL2]) hW')⟩
    have LY : Ld Try.prog 27 gq (oq + (q - 1)) (Sm L2 Z) (.slice y.A y.b.length y.c) := ⟨fun W' hW' => load27 (cell_sm (cz _ _ _ (by simp [hL2]) cq) (by simp [hL2]) hW')⟩
    have LX : Ld Try.prog 3 gA (addO (oA + mulO k 4) 0) (Sm L2 Z) (.int .i64 x.d.s) := ⟨fun W' hW' => load3 (by rw [show addO (oA + mulO k 4) 0 = oA + k * 4 + 0 by rw [mulO_eq]; rfl]; exact cell_sm (cz _ _ _ (by simp [hL2]) (cA k x hx 0 _ rfl)) (by simp [hL2]) hW')⟩
    have LQ : Ld Try.prog 3 gA (addO (oA + mulO k 4) 1) (Sm L2 Z) (.int .i64 x.d.q) := ⟨fun W' hW' => load3 (by rw [show addO (oA + mulO k 4) 1 = oA + k * 4 + 1 by rw [mulO_eq]; rfl]; exact cell_sm (cz _ _ _ (by simp [hL2]) (cA k x hx 1 _ rfl)) (by simp [hL2]) hW')⟩
    have LB : Ld Try.prog 27 gA (addO (oA + mulO k 4) 3) (Sm L2 Z) (.slice x.A x.d.b.length x.c) := ⟨fun W' hW' => load27 (by rw [show addO (oA + mulO k 4) 3 = oA + k * 4 + 3 by rw [mulO_eq]; rfl]; exact cell_sm (cz _ _ _ (by simp [hL2]) (cA k x hx 3 _ rfl)) (by simp [hL2]) hW')⟩
    have sZ := Sm.refl L2 Z
    have hx9 := hb9 x.d (hM.perm.mem_iff.1 (List.mem_map_of_mem hxm))
    cases hf : fndB ((xs.map (·.d)).take k) s q y.b with
    | true =>
      rw [hf, Bool.true_or] at hft
      repeat ((conv => whnf); first | (refine VCmp.tt (by omega) ?_) | (refine VCmp.ff (by omega) ?_) | (refine VIn.mk (IntWalk.i64_in _ (by omega)) ?_) | (refine VIdx.mk _ rfl (by omega) ?_) | (refine VIdx.mk 0 rfl (by omega) ?_))
      try (conv => whnf)
      refine VDraw.pl 1000 (.one [0, 1, 2, 3, 4, 5, 6, 7] 8 (.one [9, 10, 11, 12, 13, 14, 15, 16, 17, 18, 19, 20, 21, 22, 23, 24, 25, 26, 27, 28, 29, 30, 31, 32, 33, 34, 35] 36 (.stop [37, 38, 39]))) (Sm L2 Z) (by kernel_rfl) (sZ) ?_
      repeat ((conv => whnf); first | (refine VLoad.mk _ LX ?_) | (refine VLoad.mk _ LQ ?_) | (refine VLoad.mk _ LB ?_) | (refine VLoad.mk _ ZS ?_) | (refine VLoad.mk _ ZSj ?_) | (refine VLoad.mk _ LY ?_) | (refine VIdx.mk (q - 1) (by omega) (by omega) ?_) | (refine VS.mk sZ ?_) | (refine VCmp.tt (by omega) ?_) | (refine VCmp.ff (by omega) ?_) | (refine VIn.mk (IntWalk.i64_in _ (by omega)) ?_) | (refine VIdx.mk _ rfl (by omega) ?_) | (refine VIdx.mk 0 rfl (by omega) ?_))
      try (conv => whnf)
      exact .mk (k + 1) ⟨rfl, rfl, rfl, rfl, rfl, rfl, rfl, rfl, by rw [hft]; rfl, rfl, trivial⟩ ⟨hkx, bZ.drew⟩ (by show xs.length - (k + 1) < xs.length - k; omega)
    | false =>
      rw [hf, Bool.false_or] at hft
      repeat ((conv => whnf); first | (refine VCmp.tt (by omega) ?_) | (refine VCmp.ff (by omega) ?_) | (refine VIn.mk (IntWalk.i64_in _ (by omega)) ?_) | (refine VIdx.mk _ rfl (by omega) ?_) | (refine VIdx.mk 0 rfl (by omega) ?_))
      try (conv => whnf)
      refine VDraw.pl 1000 (.one [0, 1, 2, 3, 4, 5, 6, 7] 8 (.one [9, 10, 11, 12, 13, 14, 15, 16, 17, 18, 19, 20, 21, 22, 23, 24, 25, 26, 27, 28, 29, 30, 31, 32, 33, 34, 35] 36 (.stop [37, 38, 39]))) (Sm L2 Z) (by kernel_rfl) (sZ) ?_
      repeat ((conv => whnf); first | (refine VLoad.mk _ LX ?_) | (refine VLoad.mk _ LQ ?_) | (refine VLoad.mk _ LB ?_) | (refine VLoad.mk _ ZS ?_) | (refine VLoad.mk _ ZSj ?_) | (refine VLoad.mk _ LY ?_) | (refine VIdx.mk (q - 1) (by omega) (by omega) ?_) | (refine VCmp.tt (by omega) ?_) | (refine VCmp.ff (by omega) ?_) | (refine VIn.mk (IntWalk.i64_in _ (by omega)) ?_) | (refine VIdx.mk _ rfl (by omega) ?_) | (refine VIdx.mk 0 rfl (by omega) ?_))
      try (conv => whnf)
      refine VCall.mk _ (pid_any s Z.drew (by omega) (by omega)) ?_
      rintro _ x5 ⟨rfl, e5⟩
      subst x5
      refine ⟨_, rfl, ?_⟩
      rw [hpid]
      by_cases h1 : x.d.s = pidN s
      case neg =>
        rw [decide_eq_false (fun h => h1 h.1)] at hft
        repeat ((conv => whnf); first | (refine VS.mk sZ ?_) | (refine VLoad.mk _ LX ?_) | (refine VLoad.mk _ LQ ?_) | (refine VLoad.mk _ LB ?_) | (refine VLoad.mk _ ZS ?_) | (refine VLoad.mk _ ZSj ?_) | (refine VLoad.mk _ LY ?_) | (refine VIdx.mk (q - 1) (by omega) (by omega) ?_) | (refine VCmp.tt (by omega) ?_) | (refine VCmp.ff (by omega) ?_) | (refine VIn.mk (IntWalk.i64_in _ (by omega)) ?_) | (refine VIdx.mk _ rfl (by omega) ?_) | (refine VIdx.mk 0 rfl (by omega) ?_))
        try (conv => whnf)
        exact .mk (k + 1) ⟨rfl, rfl, rfl, rfl, rfl, rfl, rfl, rfl, by rw [hft]; rfl, rfl, trivial⟩ ⟨hkx, bZ.drew⟩ (by show xs.length - (k + 1) < xs.length - k; omega)
      by_cases h2 : x.d.q = q
      case neg =>
        rw [decide_eq_false (fun h => h2 h.2.1)] at hft
        repeat ((conv => whnf); first | (refine VS.mk sZ ?_) | (refine VLoad.mk _ LX ?_) | (refine VLoad.mk _ LQ ?_) | (refine VLoad.mk _ LB ?_) | (refine VLoad.mk _ ZS ?_) | (refine VLoad.mk _ ZSj ?_) | (refine VLoad.mk _ LY ?_) | (refine VIdx.mk (q - 1) (by omega) (by omega) ?_) | (refine VCmp.tt (by omega) ?_) | (refine VCmp.ff (by omega) ?_) | (refine VIn.mk (IntWalk.i64_in _ (by omega)) ?_) | (refine VIdx.mk _ rfl (by omega) ?_) | (refine VIdx.mk 0 rfl (by omega) ?_))
        try (conv => whnf)
        exact .mk (k + 1) ⟨rfl, rfl, rfl, rfl, rfl, rfl, rfl, rfl, by rw [hft]; rfl, rfl, trivial⟩ ⟨hkx, bZ.drew⟩ (by show xs.length - (k + 1) < xs.length - k; omega)
      repeat ((conv => whnf); first | (refine VS.mk sZ ?_) | (refine VLoad.mk _ LX ?_) | (refine VLoad.mk _ LQ ?_) | (refine VLoad.mk _ LB ?_) | (refine VLoad.mk _ ZS ?_) | (refine VLoad.mk _ ZSj ?_) | (refine VLoad.mk _ LY ?_) | (refine VIdx.mk (q - 1) (by omega) (by omega) ?_) | (refine VCmp.tt (by omega) ?_) | (refine VCmp.ff (by omega) ?_) | (refine VIn.mk (IntWalk.i64_in _ (by omega)) ?_) | (refine VIdx.mk _ rfl (by omega) ?_) | (refine VIdx.mk 0 rfl (by omega) ?_))
      try (conv => whnf)
      have hZd : Below Z.heap.size Z Z.drew := (Below.refl _ Z).drew
      have hxR : RowAt Z.drew Z.drew.heap.size 1 eByte x.A x.d.b := ((B3 x hxm).below bZ).row
      have hyR : RowAt Z.drew Z.drew.heap.size 1 eByte y.A y.b := ((aS.hb y (List.mem_of_getElem? hy)).ro (Ro.below (R := fun _ => False) bZ) id).row
      refine VCall.mk _ (sameBytes_any x.A y.A x.c y.c _ _ Z.drew.heap.size x.d.b y.b Z.drew rfl rfl (Nat.le_refl _) hxR hyR (by omega)) ?_
      rintro _ Z2 ⟨rfl, bZ2⟩
      refine ⟨_, rfl, ?_⟩
      have bZ3 : Below Z.heap.size Z Z2 := hZd.trans bZ2
      have sZ2 : Sm L2 Z Z2 := .below bZ3 fun g hg => Nat.lt_of_lt_of_le (hL2w g hg) bZ.size
      have bw4 : Below w3.heap.size w3 Z2 := bZ.trans (bZ3.mono bZ.size)
      by_cases h3 : x.d.b = y.b
      · rw [decide_eq_true (⟨h1, h2, h3⟩ : _ ∧ _ ∧ _)] at hft
        rw [decide_eq_true h3]
        repeat ((conv => whnf); first | (refine VS.mk sZ2 ?_) | (refine VCmp.tt (by omega) ?_) | (refine VCmp.ff (by omega) ?_) | (refine VIn.mk (IntWalk.i64_in _ (by omega)) ?_) | (refine VIdx.mk _ rfl (by omega) ?_) | (refine VIdx.mk 0 rfl (by omega) ?_))
        try (conv => whnf)
        exact .mk (k + 1) ⟨rfl, rfl, rfl, rfl, rfl, rfl, rfl, rfl, by rw [hft]; rfl, rfl, trivial⟩ ⟨hkx, bw4⟩ (by show xs.length - (k + 1) < xs.length - k; omega)
      · rw [decide_eq_false (fun h => h3 h.2.2)] at hft
        rw [decide_eq_false h3]
        repeat ((conv => whnf); first | (refine VS.mk sZ2 ?_) | (refine VCmp.tt (by omega) ?_) | (refine VCmp.ff (by omega) ?_) | (refine VIn.mk (IntWalk.i64_in _ (by omega)) ?_) | (refine VIdx.mk _ rfl (by omega) ?_) | (refine VIdx.mk 0 rfl (by omega) ?_))
        try (conv => whnf)
        exact .mk (k + 1) ⟨rfl, rfl, rfl, rfl, rfl, rfl, rfl, rfl, by rw [hft]; rfl, rfl, trivial⟩ ⟨hkx, bw4⟩ (by show xs.length - (k + 1) < xs.length - k; omega)
end
end Go.Proofs.Ytoilipfgimcoiaa
namespace Go.Proofs.Ytoilipfgimcoiaa
open Go Go.RowKit
theorem OwnO.setN {α : Type} {w w' : World} {K : Nat → Nat} {r sz c g off : Nat} {enc : α → List Value} {l : List α} (h : OwnO w K r sz enc (some ⟨g, off, none⟩) c l) (henc : ∀ x, (enc x).length = sz) {i : Nat} (hi : i < l.length) (y : α) (hw : w' = w.setCells g (off + i * sz) (enc y)) :
    OwnO w' K r sz enc (some ⟨g, off, none⟩) c (l.set i y) ∧ Ro (· = r) K K w w' := by
  rcases h with ⟨e, -, -⟩ | ⟨g', off', e, h1, h2, h3, h4, h5⟩
  · cases e
  injection e with e
  injection e with e1 e2 _
  subst e1 e2 hw
  have hc : i * sz + sz ≤ c * sz := by
    have : (i + 1) * sz ≤ c * sz := Nat.mul_le_mul_right _ (by omega)
    rwa [Nat.add_mul, Nat.one_mul] at this
  refine ⟨.inr ⟨g, off, rfl, Nat.lt_of_lt_of_le h1 (grown_sets g (enc y) _ w).size, h2, by rw [List.length_set]; exact h3, World.there_setCells h4 _ _ _, fun k x hx j u hu => ?_⟩, Ro.grown (grown_sets _ _ _ _) fun b hb => by injection hb with hb; rw [← hb]; exact h2⟩
  have hj := (List.getElem?_eq_some_iff.1 hu).1
  by_cases e : k = i
  · subst e
    rw [List.getElem?_set_self hi] at hx
    injection hx with hx
    subst hx
    rw [World.cell?_setCells_in g (enc y) (off + k * sz) w (fun q hq => by have := (h4 (k * sz + q) (by rw [henc] at hq; omega)).1; rwa [← Nat.add_assoc] at this) j hj, ← hu, List.getElem?_eq_getElem hj]
  · rw [List.getElem?_set_ne (fun e2 => e e2.symm)] at hx
    refine cell_out (h5 k x hx j u hu) ?_
    rw [henc] at hj ⊢
    rcases Nat.lt_or_gt_of_ne e with h | h
    · left
      have : (k + 1) * sz ≤ i * sz := Nat.mul_le_mul_right _ h
      rw [Nat.add_mul, Nat.one_mul] at this
      omega
    · right
      have : (i + 1) * sz ≤ k * sz := Nat.mul_le_mul_right _ h
      rw [Nat.add_mul, Nat.one_mul] at this
      omega
structure FlX where
  f : FlO
  A : Option Addr
  c : Nat
  H : Option Addr
  k : Nat
def eFl (x : FlX) : List Value := (flV x.f x.A x.c x.f.slots.length x.H x.k x.f.have_.length).toList
theorem eFl_len (x : FlX) : (eFl x).length = 7 := rfl
theorem one_eFl (x : FlX) : ∀ u ∈ eFl x, u.oneCell' = true := by
  intro u hu
  simp [eFl] at hu
  rcases hu with rfl | rfl | rfl | rfl | rfl | rfl | rfl <;> rfl
abbrev flO (o : Os) : FlO := ⟨o.id, o.pre, o.slots, (List.range 16).map o.taken⟩
def fl0 : FlX := ⟨⟨⟨0, 0, 0, 0⟩, 0, [], []⟩, none, 0, none, 0⟩
theorem eFl_of (o : Os) (A : Option Addr) (c : Nat) (H : Option Addr) : eFl ⟨flO o, A, c, H, 16⟩ = (flA o A c H).toList := rfl
theorem flA_of (o : Os) (A : Option Addr) (c : Nat) (H : Option Addr) : flA o A c H = flV (flO o) A c o.slots.length H 16 16 := rfl
theorem build51z (W : World) : (Instr.build 51 #[]).run Try.prog W = .ok zero51 W := by kernel_rfl
theorem bs55 (W : World) : (Instr.buildSlice 55 1 #[(0, zero51)]).run Try.prog W = .ok (.slice (some ⟨W.heap.size, 0, none⟩) 1 1) (W.alloc (.cells #[.int .i64 0, .int .i64 0, .int .i64 0, .int .i64 0, .int .i64 0, .slice none 0 0, .slice none 0 0] 51)) := by kernel_rfl
theorem bs56 (W : World) : (Instr.buildSlice 56 1 #[(0, .slice none 0 0)]).run Try.prog W = .ok (.slice (some ⟨W.heap.size, 0, none⟩) 1 1) (W.alloc (.cells #[.slice none 0 0] 57)) := by kernel_rfl
theorem info51 : (Try.prog.info? 51).map (fun i => (i.zero, i.size, i.bytes)) = some (some zero51, 7, 88) := by kernel_rfl
theorem info57 : (Try.prog.info? 57).map (fun i => (i.zero, i.size, i.bytes)) = some (some (.slice none 0 0), 1, 24) := by kernel_rfl
theorem load57s {w : World} {b j n c : Nat} {A : Option Addr} (h : w.cell? ⟨b, j, none⟩ = some (.slice A n c)) : (loadVar 57 ⟨b, j, none⟩).run Try.prog w = .ok (.slice A n c) w := by go_simp
structure KpS (W : World) (K : Nat → Nat) (tl : List FlX) (ml : List (Rw DtX)) (a : Nat) (o : Os) : Prop where
  ex : ∃ x, tl[a]? = some x ∧ x.f = flO o ∧ RowK W K 2 eSl x.A x.f.slots ∧ RowK W K 1 eNat x.H x.f.have_
  ey : ∃ y, ml[a]? = some y ∧ MsgOf o.held (y.l.map (·.d)) ∧ RowK W K 4 eDx y.A y.l ∧ ∀ z ∈ y.l, RowK W K 1 eByte z.A z.d.b
theorem KpS.ro {W W' : World} {K K' : Nat → Nat} {tl : List FlX} {ml : List (Rw DtX)} {a : Nat} {o : Os} {Q : Nat → Prop} (h : KpS W K tl ml a o) (r : Ro Q K K' W W') (h0 : ¬ Q 0) : KpS W' K' tl ml a o := by
  obtain ⟨x, e1, e2, e3, e4⟩ := h.ex
  obtain ⟨y, f1, f2, f3, f4⟩ := h.ey
  exact ⟨⟨x, e1, e2, e3.ro r h0, e4.ro r h0⟩, ⟨y, f1, f2, f3.ro r h0, fun z hz => (f4 z hz).ro r h0⟩⟩
theorem KpS.other {W : World} {K : Nat → Nat} {tl : List FlX} {ml : List (Rw DtX)} {a i : Nat} {o : Os} (h : KpS W K tl ml a o) (hne : a ≠ i) (x : FlX) (y : Rw DtX) : KpS W K (tl.set i x) (ml.set i y) a o :=
  ⟨by rw [List.getElem?_set_ne (fun e => hne e.symm)]; exact h.ex, by rw [List.getElem?_set_ne (fun e => hne e.symm)]; exact h.ey⟩
structure KpR (W : World) (K : Nat → Nat) (n : Nat) (A8 : Option Addr) (c8 : Nat) (A9 : Option Addr) (c9 : Nat) (tl : List FlX) (ml : List (Rw DtX)) : Prop where
  own8 : OwnO W K 500 7 eFl A8 c8 tl
  own9 : OwnO W K 501 1 eRw A9 c9 ml
  l8 : tl.length = n
  l9 : ml.length = n
theorem KpR.ro {W W' : World} {K K' : Nat → Nat} {n : Nat} {A8 A9 : Option Addr} {c8 c9 : Nat} {tl : List FlX} {ml : List (Rw DtX)} {Q : Nat → Prop} (h : KpR W K n A8 c8 A9 c9 tl ml) (r : Ro Q K K' W W') (h8 : ¬ Q 500) (h9 : ¬ Q 501) : KpR W' K' n A8 c8 A9 c9 tl ml :=
  ⟨h.own8.ro r h8, h.own9.ro r h9, h.l8, h.l9⟩
theorem KpR.at8 {W : World} {K : Nat → Nat} {n : Nat} {A8 A9 : Option Addr} {c8 c9 : Nat} {tl : List FlX} {ml : List (Rw DtX)} (h : KpR W K n A8 c8 A9 c9 tl ml) (hn : 0 < n) : ∃ g off, A8 = some ⟨g, off, none⟩ ∧ g < W.heap.size ∧ K g = 500 ∧ (∀ k, k < n → W.there g (off + k * 7) 7) ∧ ∀ k x, tl[k]? = some x → W.rangeAt g (off + k * 7) (eFl x) := by
  rcases h.own8 with ⟨-, e, -⟩ | ⟨g, off, e, h1, h2, h3, h4, h5⟩
  · have := h.l8; rw [e] at this; simp at this; omega
  · refine ⟨g, off, e, h1, h2, fun k hk j hj => ?_, fun k x hx => h5 k x hx⟩
    have hl := h.l8
    have := h4 (k * 7 + j) (by omega)
    rwa [← Nat.add_assoc] at this
theorem KpR.at9 {W : World} {K : Nat → Nat} {n : Nat} {A8 A9 : Option Addr} {c8 c9 : Nat} {tl : List FlX} {ml : List (Rw DtX)} (h : KpR W K n A8 c8 A9 c9 tl ml) (hn : 0 < n) : ∃ g off, A9 = some ⟨g, off, none⟩ ∧ g < W.heap.size ∧ K g = 501 ∧ (∀ k, k < n → W.there g (off + k) 1) ∧ ∀ k x, ml[k]? = some x → W.cell? ⟨g, off + k, none⟩ = some (.slice x.A x.l.length x.c) := by
  rcases h.own9 with ⟨-, e, -⟩ | ⟨g, off, e, h1, h2, h3, h4, h5⟩
  · have := h.l9; rw [e] at this; simp at this; omega
  · refine ⟨g, off, e, h1, h2, fun k hk j hj => ?_, fun k x hx => ?_⟩
    · have hl := h.l9
      have := h4 (k + j) (by omega)
      rwa [← Nat.add_assoc] at this
    · have := h5 k x hx 0 _ rfl
      rwa [Nat.mul_one, Nat.add_zero] at this
theorem KpR.g8 {W : World} {K : Nat → Nat} {n : Nat} {A9 : Option Addr} {c8 c9 g off : Nat} {tl : List FlX} {ml : List (Rw DtX)} (h : KpR W K n (some ⟨g, off, none⟩) c8 A9 c9 tl ml) : (∀ k, k < n → W.there g (off + k * 7) 7) ∧ ∀ k x, tl[k]? = some x → W.rangeAt g (off + k * 7) (eFl x) := by
  rcases h.own8 with ⟨e, -⟩ | ⟨g', off', e, h1, h2, h3, h4, h5⟩
  · cases e
  injection e with e
  injection e with e1 e2 _
  subst e1 e2
  refine ⟨fun k hk j hj => ?_, fun k x hx => h5 k x hx⟩
  have hl := h.l8
  have := h4 (k * 7 + j) (by omega)
  rwa [← Nat.add_assoc] at this
theorem KpR.b8 {W : World} {K : Nat → Nat} {n : Nat} {A9 : Option Addr} {c8 c9 g off : Nat} {tl : List FlX} {ml : List (Rw DtX)} (h : KpR W K n (some ⟨g, off, none⟩) c8 A9 c9 tl ml) : g < W.heap.size := (h.own8.rl g rfl).1
theorem KpR.b9 {W : World} {K : Nat → Nat} {n : Nat} {A8 : Option Addr} {c8 c9 g off : Nat} {tl : List FlX} {ml : List (Rw DtX)} (h : KpR W K n A8 c8 (some ⟨g, off, none⟩) c9 tl ml) : g < W.heap.size := (h.own9.rl g rfl).1
theorem KpR.g9 {W : World} {K : Nat → Nat} {n : Nat} {A8 : Option Addr} {c8 c9 g off : Nat} {tl : List FlX} {ml : List (Rw DtX)} (h : KpR W K n A8 c8 (some ⟨g, off, none⟩) c9 tl ml) : (∀ k, k < n → W.there g (off + k) 1) ∧ ∀ k x, ml[k]? = some x → W.cell? ⟨g, off + k, none⟩ = some (.slice x.A x.l.length x.c) := by
  rcases h.own9 with ⟨e, -⟩ | ⟨g', off', e, h1, h2, h3, h4, h5⟩
  · cases e
  injection e with e
  injection e with e1 e2 _
  subst e1 e2
  refine ⟨fun k hk j hj => ?_, fun k x hx => ?_⟩
  · have hl := h.l9
    have := h4 (k + j) (by omega)
    rwa [← Nat.add_assoc] at this
  · have := h5 k x hx 0 _ rfl
    rwa [Nat.mul_one, Nat.add_zero] at this
theorem Ro.toBelow' {w w' : World} {K' : Nat → Nat} (r : Ro (fun z => 0 < z) (fun _ => 0) K' w w') : Below w.heap.size w w' := ⟨r.os, r.tape, r.output, r.size, fun k hk => r.same k hk (by omega)⟩
end Go.Proofs.Ytoilipfgimcoiaa
