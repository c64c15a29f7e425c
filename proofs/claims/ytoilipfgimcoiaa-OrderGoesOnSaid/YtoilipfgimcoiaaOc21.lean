/- CrCa CrGo, joined. -/
import Derived.Test.YtoilipfgimcoiaaOc20
set_option linter.unusedVariables false
set_option linter.unusedSimpArgs false
namespace Go.Proofs.Ytoilipfgimcoiaa
open Go Go.RowKit
theorem Fin1.tell {v : Crw} {G : List Sl} {T : Nat} (f : Fin1 v G T) {i : Nat} (hi : i < v.n) : Fin1 (v.tell i) G T := ⟨f.I.tell hi, f.gl, f.kn, f.tk, f.st⟩
section
variable {w : World} {K : Nat → Nat} {b : Nat} {v : Crw} {X : CwX} {G : List Sl} {T : Nat}
set_option maxRecDepth 100000 in
set_option maxHeartbeats 16000000 in
theorem calm_any (C : CrwAt w K b v X) (I : CI v G T) (hT : T ≤ 90000) (hst : ∀ i, i < v.n → v.stop i = false) (htl : ∀ k, (v.told k).length ≤ 500000) :
    Calls Try.prog 12 #[.pointer (some ⟨b, 0, none⟩)] w fun e w' => e = .returned (.bool true) ∧ ∃ K' u X' G', CrwAt w' K' b u X' ∧ Fin1 u G' T ∧ (∀ i, i < u.n → (u.o i).done = G'.length ∧ (u.o i).pre = G'.length) ∧ u.n = v.n ∧ u.win = v.win ∧ Ro (0 < ·) K K' w w' := by
  refine calls_vc tab_ok Try.func12 rfl ?_
  have n1 := I.n1
  have n4 := I.n4
  have L0 := C.l_O (l := [b]) (by simp)
  have s0 := Sm.refl [b] w
  conv => whnf
  repeat ((conv => whnf); first | (refine VLoad.mk _ (L0.at s0) ?_) | (refine VCmp.tt (by omega) ?_) | (refine VCmp.ff (by omega) ?_) | (refine VIn.mk (IntWalk.i64_in _ (by omega)) ?_) | (refine VIdx.mk _ rfl (by omega) ?_) | (refine VIdx.mk 0 rfl (by omega) ?_))
  try (conv => whnf)
  refine VLoop.mk Nat (fun k => [(0, .pointer (some ⟨b, 0, none⟩)), (3, .int .i64 v.n), (4, .int .i64 k)]) (fun k W => k ≤ 2 ∧ ∃ Kk vk Xk Gk, CrwAt W Kk b vk Xk ∧ CI vk Gk T ∧ (∀ i, i < vk.n → vk.stop i = false) ∧ vk.n = v.n ∧ vk.win = v.win ∧ vk.told = v.told ∧ (1 ≤ k → Gk.length = allS vk) ∧ (k = 2 → Full vk) ∧ Ro (0 < ·) K Kk w W) (fun k => 2 - k) 0 ⟨rfl, rfl, rfl, trivial⟩ ⟨by omega, K, v, X, G, C, I, hst, rfl, rfl, rfl, fun h => absurd h (by omega), fun h => absurd h (by omega), Ro.refl _ _ _⟩ ?_
  rintro k W ⟨hk, Kk, vk, Xk, Gk, Ck, Ik, hstk, en, ewin, etold, hgl, hfull, qk⟩
  by_cases hk2 : k < 2
  · repeat ((conv => whnf); first | (refine VCmp.tt (by omega) ?_) | (refine VCmp.ff (by omega) ?_) | (refine VIn.mk (IntWalk.i64_in _ (by omega)) ?_) | (refine VIdx.mk _ rfl (by omega) ?_) | (refine VIdx.mk 0 rfl (by omega) ?_))
    try (conv => whnf)
    refine VLoop.mk Nat (fun i => [(0, .pointer (some ⟨b, 0, none⟩)), (3, .int .i64 v.n), (4, .int .i64 k), (5, .int .i64 i)]) (fun i V => i ≤ v.n ∧ ∃ Ki u Xi, CrwAt V Ki b u Xi ∧ CI u Gk T ∧ Cc vk u ∧ (∀ a c, a < i → c < v.n → FullP u a c) ∧ Ro (0 < ·) K Ki w V) (fun i => v.n - i) 0 ⟨rfl, rfl, rfl, rfl, trivial⟩ ⟨Nat.zero_le _, Kk, vk, Xk, Ck, Ik, .refl _, fun a c h => absurd h (by omega), qk⟩ ?_
    rintro i V ⟨hi, Ki, u, Xi, Ci, Ii, cc, hFi, qi⟩
    by_cases hin : i < v.n
    · repeat ((conv => whnf); first | (refine VCmp.tt (by omega) ?_) | (refine VCmp.ff (by omega) ?_) | (refine VIn.mk (IntWalk.i64_in _ (by omega)) ?_) | (refine VIdx.mk _ rfl (by omega) ?_) | (refine VIdx.mk 0 rfl (by omega) ?_))
      try (conv => whnf)
      refine VLoop.mk Nat (fun j => [(0, .pointer (some ⟨b, 0, none⟩)), (3, .int .i64 v.n), (4, .int .i64 k), (5, .int .i64 i), (6, .int .i64 j)]) (fun j V => j ≤ v.n ∧ ∃ Ki u Xi, CrwAt V Ki b u Xi ∧ CI u Gk T ∧ Cc vk u ∧ (∀ a c, a < i → c < v.n → FullP u a c) ∧ (∀ c, c < j → FullP u i c) ∧ Ro (0 < ·) K Ki w V) (fun j => v.n - j) 0 ⟨rfl, rfl, rfl, rfl, rfl, trivial⟩ ⟨Nat.zero_le _, Ki, u, Xi, Ci, Ii, cc, hFi, fun c h => absurd h (by omega), qi⟩ ?_
      clear Ci Ii cc hFi qi
      clear u Xi Ki V
      rintro j V ⟨hj, Ki, u, Xi, Ci, Ii, cc, hFi, hFj, qi⟩
      by_cases hjn : j < v.n
      · repeat ((conv => whnf); first | (refine VCmp.tt (by omega) ?_) | (refine VCmp.ff (by omega) ?_) | (refine VIn.mk (IntWalk.i64_in _ (by omega)) ?_) | (refine VIdx.mk _ rfl (by omega) ?_) | (refine VIdx.mk 0 rfl (by omega) ?_))
        try (conv => whnf)
        refine VLoop.mk Nat (fun m => [(0, .pointer (some ⟨b, 0, none⟩)), (3, .int .i64 v.n), (4, .int .i64 k), (5, .int .i64 i), (6, .int .i64 j)]) (fun m V => ∃ Ki u Xi, CrwAt V Ki b u Xi ∧ CI u Gk T ∧ Cc vk u ∧ (∀ a c, a < i → c < v.n → FullP u a c) ∧ (∀ c, c < j → FullP u i c) ∧ u.had i j = m ∧ Ro (0 < ·) K Ki w V) (fun m => (vk.made i).length - m) (u.had i j) ⟨rfl, rfl, rfl, rfl, rfl, trivial⟩ ⟨Ki, u, Xi, Ci, Ii, cc, hFi, hFj, rfl, qi⟩ ?_
        clear Ci Ii cc hFi hFj qi
        clear u Xi Ki V
        rintro m V ⟨Ki, u, Xi, Ci, Ii, cc, hFi, hFj, hm, qi⟩
        have enu : u.n = v.n := cc.n.trans en
        have hiu : i < u.n := by omega
        have hju : j < u.n := by omega
        obtain ⟨gH, oH, xH, aH⟩ := Ci.had.get hiu
        obtain ⟨gM, oM, xM, aM⟩ := Ci.made.get hiu
        have xHl : xH.l = hadL u i := by have := aH.vl; rwa [List.map_id] at this
        have hHlen : (hadL u i).length = u.n := by unfold hadL; simp
        obtain ⟨gR, oR, eR, cR⟩ : ∃ g off, xH.A = some ⟨g, off, none⟩ ∧ V.cell? ⟨g, off + j, none⟩ = some (.int .i64 (u.had i j : Nat)) := by
          rcases aH.ow with ⟨-, e, -⟩ | ⟨g, off, e, k1, k2, k3, k4, k5⟩
          · rw [xHl] at e; have := congrArg List.length e; rw [hHlen] at this; simp at this; omega
          · refine ⟨g, off, e, ?_⟩
            have := k5 j (u.had i j) (by rw [xHl]; exact map_range _ hju) 0 _ rfl
            rwa [Nat.mul_one, Nat.add_zero] at this
        have M0 := Ci.l_had (l := [b, gH, gM, gR]) (by simp)
        have M1 := Ci.l_made (l := [b, gH, gM, gR]) (by simp)
        rw [aH.eA, enu] at M0
        rw [aM.eA, enu] at M1
        have N0 : Ld Try.prog 49 gH (oH + i) (Sm [b, gH, gM, gR] V) (.slice (some ⟨gR, oR, none⟩) v.n xH.c) := ⟨fun W hW => load49 (cell_sm (by rw [aH.hc, hHlen, eR, enu]) (by simp) hW)⟩
        have N1 : Ld Try.prog 74 gM (oM + i) (Sm [b, gH, gM, gR] V) (.slice xM.A (u.made i).length xM.c) := ⟨fun W hW => load74s (cell_sm aM.hc (by simp) hW)⟩
        have N4 : Ld Try.prog 3 gR (oR + j) (Sm [b, gH, gM, gR] V) (.int .i64 (u.had i j : Nat)) := ⟨fun W hW => load3 (cell_sm cR (by simp) hW)⟩
        have sd : Sm [b, gH, gM, gR] V V := Sm.refl _ _
        have hdV : Below V.heap.size V V.drew := (Below.refl _ V).drew
        have qd : Ro (0 < ·) K Ki w V.drew := qi.drew
        have Cd := Ci.below hdV
        repeat ((conv => whnf); first | (refine VCmp.tt (by omega) ?_) | (refine VCmp.ff (by omega) ?_) | (refine VIn.mk (IntWalk.i64_in _ (by omega)) ?_) | (refine VIdx.mk _ rfl (by omega) ?_) | (refine VIdx.mk 0 rfl (by omega) ?_))
        try (conv => whnf)
        refine VDraw.pl 1000 (.stop [0, 1, 2, 3, 4, 5, 6, 7, 8, 9, 10, 11, 12, 13, 14, 15, 16, 17, 18, 19, 20, 21, 22, 23]) (Sm [b, gH, gM, gR] V) (by kernel_rfl) (sd) ?_
        by_cases hij : i = j
        · repeat ((conv => whnf); first | (refine VLoad.mk _ M0 ?_) | (refine VLoad.mk _ M1 ?_) | (refine VLoad.mk _ N0 ?_) | (refine VLoad.mk _ N1 ?_) | (refine VLoad.mk _ N4 ?_) | (refine VCmp.tt (by omega) ?_) | (refine VCmp.ff (by omega) ?_) | (refine VIn.mk (IntWalk.i64_in _ (by omega)) ?_) | (refine VIdx.mk _ rfl (by omega) ?_) | (refine VIdx.mk 0 rfl (by omega) ?_))
          try (conv => whnf)
          exact .mk (j + 1) ⟨rfl, rfl, rfl, rfl, rfl, trivial⟩ ⟨hjn, Ki, u, Xi, Cd, Ii, cc, hFi, fun c hc => by
            by_cases e : c = j
            · exact fun hne => absurd (hij.trans e.symm) hne
            · exact hFj c (by omega), qd⟩ (by show v.n - (j + 1) < v.n - j; omega)
        by_cases hlt : u.had i j < (u.made i).length
        case neg =>
          repeat ((conv => whnf); first | (refine VLoad.mk _ M0 ?_) | (refine VLoad.mk _ M1 ?_) | (refine VLoad.mk _ N0 ?_) | (refine VLoad.mk _ N1 ?_) | (refine VLoad.mk _ N4 ?_) | (refine VCmp.tt (by omega) ?_) | (refine VCmp.ff (by omega) ?_) | (refine VIn.mk (IntWalk.i64_in _ (by omega)) ?_) | (refine VIdx.mk _ rfl (by omega) ?_) | (refine VIdx.mk 0 rfl (by omega) ?_))
          try (conv => whnf)
          exact .mk (j + 1) ⟨rfl, rfl, rfl, rfl, rfl, trivial⟩ ⟨hjn, Ki, u, Xi, Cd, Ii, cc, hFi, fun c hc => by
            by_cases e : c = j
            · subst e; intro _; have := Ii.hd i c hiu hju; omega
            · exact hFj c (by omega), qd⟩ (by show v.n - (j + 1) < v.n - j; omega)
        repeat ((conv => whnf); first | (refine VLoad.mk _ M0 ?_) | (refine VLoad.mk _ M1 ?_) | (refine VLoad.mk _ N0 ?_) | (refine VLoad.mk _ N1 ?_) | (refine VLoad.mk _ N4 ?_) | (refine VCmp.tt (by omega) ?_) | (refine VCmp.ff (by omega) ?_) | (refine VIn.mk (IntWalk.i64_in _ (by omega)) ?_) | (refine VIdx.mk _ rfl (by omega) ?_) | (refine VIdx.mk 0 rfl (by omega) ?_))
        try (conv => whnf)
        refine VCall.mk _ (carry_any Cd Ii (by omega) hiu hju) ?_
        rintro _ V2 ⟨rfl, K2, X2, C2, q2⟩
        refine ⟨_, rfl, ?_⟩
        repeat ((conv => whnf); first | (refine VCmp.tt (by omega) ?_) | (refine VCmp.ff (by omega) ?_) | (refine VIn.mk (IntWalk.i64_in _ (by omega)) ?_) | (refine VIdx.mk _ rfl (by omega) ?_) | (refine VIdx.mk 0 rfl (by omega) ?_))
        try (conv => whnf)
        have hsu : u.stop j = false := by rw [cc.stop]; exact hstk j (by omega)
        have hup := carry_up hij hsu hlt
        have cc2 := carry_cc u i j
        have I2 := Ii.carry' (by omega) hiu hju
        have mk_ : (vk.made i).length = (u.made i).length := by rw [cc.made]
        have fp : ∀ a c, a < v.n → c < v.n → FullP u a c → FullP (u.carry i j) a c := fun a c ha hc h => cc2.full I2 (by rw [cc2.n]; omega) (by rw [cc2.n]; omega) h
        exact .mk (m + 1) ⟨rfl, rfl, rfl, rfl, rfl, trivial⟩ ⟨K2, _, X2, C2, I2, cc.trans cc2, fun a c ha hc => fp a c (by omega) hc (hFi a c ha hc), fun c hc => fp i c hin (by omega) (hFj c hc), by rw [hup, hm], qd.trans q2⟩ (by show (vk.made i).length - (m + 1) < (vk.made i).length - m; omega)
      · obtain rfl : j = v.n := by omega
        repeat ((conv => whnf); first | (refine VCmp.tt (by omega) ?_) | (refine VCmp.ff (by omega) ?_) | (refine VIn.mk (IntWalk.i64_in _ (by omega)) ?_) | (refine VIdx.mk _ rfl (by omega) ?_) | (refine VIdx.mk 0 rfl (by omega) ?_))
        try (conv => whnf)
        exact .mk (i + 1) ⟨rfl, rfl, rfl, rfl, trivial⟩ ⟨hin, Ki, u, Xi, Ci, Ii, cc, fun a c ha hc => by
          by_cases e : a = i
          · subst e; exact hFj c hc
          · exact hFi a c (by omega) hc, qi⟩ (by show v.n - (i + 1) < v.n - i; omega)
    · obtain rfl : i = v.n := by omega
      have enu : u.n = v.n := cc.n.trans en
      have hF : Full u := fun a c ha hc => hFi a c (by omega) (by omega)
      have hstu : ∀ a, a < u.n → u.stop a = false := fun a ha => by rw [cc.stop]; exact hstk a (by rw [en]; omega)
      by_cases hk0 : k = 0
      · subst hk0
        repeat ((conv => whnf); first | (refine VCmp.tt (by omega) ?_) | (refine VCmp.ff (by omega) ?_) | (refine VIn.mk (IntWalk.i64_in _ (by omega)) ?_) | (refine VIdx.mk _ rfl (by omega) ?_) | (refine VIdx.mk 0 rfl (by omega) ?_))
        try (conv => whnf)
        refine VCall.mk _ (cassign_any Ci Ii (by omega) (i := 0) (by omega) 4611686018427387904 (by decide) (by decide)) ?_
        rintro _ V2 ⟨rfl, K2, X2, C2, q2⟩
        refine ⟨_, rfl, ?_⟩
        repeat ((conv => whnf); first | (refine VCmp.tt (by omega) ?_) | (refine VCmp.ff (by omega) ?_) | (refine VIn.mk (IntWalk.i64_in _ (by omega)) ?_) | (refine VIdx.mk _ rfl (by omega) ?_) | (refine VIdx.mk 0 rfl (by omega) ?_))
        try (conv => whnf)
        obtain ⟨G', I2, hG'⟩ := Ii.assignAll (by omega) hF (hstu 0 (by omega))
        exact .mk 1 ⟨rfl, rfl, rfl, trivial⟩ ⟨by omega, K2, _, X2, G', C2, I2, hstu, enu, cc.win.trans ewin, cc.told.trans etold, fun _ => hG', fun h => absurd h (by decide), qi.trans q2⟩ (by decide)
      · obtain rfl : k = 1 := by omega
        repeat ((conv => whnf); first | (refine VCmp.tt (by omega) ?_) | (refine VCmp.ff (by omega) ?_) | (refine VIn.mk (IntWalk.i64_in _ (by omega)) ?_) | (refine VIdx.mk _ rfl (by omega) ?_) | (refine VIdx.mk 0 rfl (by omega) ?_))
        try (conv => whnf)
        exact .mk 2 ⟨rfl, rfl, rfl, trivial⟩ ⟨by omega, Ki, u, Xi, Gk, Ci, Ii, hstu, enu, cc.win.trans ewin, cc.told.trans etold, fun _ => by rw [hgl (by omega)]; unfold allS; rw [cc.n, cc.sent], fun _ => hF, qi⟩ (by decide)
  · obtain rfl : k = 2 := by omega
    have F0 := Ik.fin1 (hfull rfl) (hgl (by omega)) hstk
    repeat ((conv => whnf); first | (refine VCmp.tt (by omega) ?_) | (refine VCmp.ff (by omega) ?_) | (refine VIn.mk (IntWalk.i64_in _ (by omega)) ?_) | (refine VIdx.mk _ rfl (by omega) ?_) | (refine VIdx.mk 0 rfl (by omega) ?_))
    try (conv => whnf)
    -- all deliver
    refine VLoop.mk Nat (fun m => [(0, .pointer (some ⟨b, 0, none⟩)), (3, .int .i64 v.n), (7, .int .i64 m)]) (fun m V => m ≤ v.n ∧ ∃ Ki u Xi, CrwAt V Ki b u Xi ∧ Fin1 u Gk T ∧ (∀ a, a < m → FinE u Gk a) ∧ u.n = v.n ∧ u.win = v.win ∧ u.told = v.told ∧ Ro (0 < ·) K Ki w V) (fun m => v.n - m) 0 ⟨rfl, rfl, rfl, trivial⟩ ⟨Nat.zero_le _, Kk, vk, Xk, Ck, F0, fun a h => absurd h (by omega), en, ewin, etold, qk⟩ ?_
    clear F0 Ck Ik hstk hgl hfull qk
    rintro m V ⟨hm, Ki, u, Xi, Ci, Fi, hE, enu, ewu, etu, qi⟩
    by_cases hmn : m < v.n
    · have hmu : m < u.n := by omega
      repeat ((conv => whnf); first | (refine VCmp.tt (by omega) ?_) | (refine VCmp.ff (by omega) ?_) | (refine VIn.mk (IntWalk.i64_in _ (by omega)) ?_) | (refine VIdx.mk _ rfl (by omega) ?_) | (refine VIdx.mk 0 rfl (by omega) ?_))
      try (conv => whnf)
      refine VCall.mk _ (cdeliver_any Ci Fi.I (by omega) hmu 4611686018427387904 (by decide) (by decide)) ?_
      rintro _ V2 ⟨rfl, K2, X2, ms, o', hD, C2, q2⟩
      refine ⟨_, rfl, ?_⟩
      repeat ((conv => whnf); first | (refine VCmp.tt (by omega) ?_) | (refine VCmp.ff (by omega) ?_) | (refine VIn.mk (IntWalk.i64_in _ (by omega)) ?_) | (refine VIdx.mk _ rfl (by omega) ?_) | (refine VIdx.mk 0 rfl (by omega) ?_))
      try (conv => whnf)
      obtain ⟨F2, d2, l2⟩ := Fi.dlv (by omega) hmu hD
      exact .mk (m + 1) ⟨rfl, rfl, rfl, trivial⟩ ⟨hmn, K2, _, X2, C2, F2, fun a ha => by
        by_cases e : a = m
        · subst e
          exact ⟨by show (upN u.o a o' a).done = _; rw [upN_same]; exact d2, by show (upN u.o a o' a).least ≤ (upN u.o a o' a).pre; rw [upN_same]; exact l2⟩
        · have h := hE a (by omega)
          exact ⟨by show (upN u.o m o' a).done = _; rw [upN_ne _ _ e]; exact h.dn, by show (upN u.o m o' a).least ≤ (upN u.o m o' a).pre; rw [upN_ne _ _ e]; exact h.le⟩, enu, ewu, etu, qi.trans q2⟩ (by show v.n - (m + 1) < v.n - m; omega)
    obtain rfl : m = v.n := by omega
    repeat ((conv => whnf); first | (refine VCmp.tt (by omega) ?_) | (refine VCmp.ff (by omega) ?_) | (refine VIn.mk (IntWalk.i64_in _ (by omega)) ?_) | (refine VIdx.mk _ rfl (by omega) ?_) | (refine VIdx.mk 0 rfl (by omega) ?_))
    try (conv => whnf)
    -- all tell
    refine VLoop.mk Nat (fun m => [(0, .pointer (some ⟨b, 0, none⟩)), (3, .int .i64 v.n), (8, .int .i64 m)]) (fun m V => m ≤ v.n ∧ ∃ Ki u Xi, CrwAt V Ki b u Xi ∧ Fin1 u Gk T ∧ (∀ a, a < v.n → FinE u Gk a) ∧ u.n = v.n ∧ u.win = v.win ∧ (∀ a, a < m → ∃ t, (u.told a)[(u.told a).length - 1]? = some t ∧ t.d = Gk.length ∧ 0 < (u.told a).length) ∧ (∀ a, (u.told a).length ≤ 500001) ∧ (∀ a, m ≤ a → (u.told a).length ≤ 500000) ∧ Ro (0 < ·) K Ki w V) (fun m => v.n - m) 0 ⟨rfl, rfl, rfl, trivial⟩ ⟨Nat.zero_le _, Ki, u, Xi, Ci, Fi, hE, enu, ewu, fun a h => absurd h (by omega), fun a => by rw [etu]; have := htl a; omega, fun a _ => by rw [etu]; exact htl a, qi⟩ ?_
    clear Ci Fi hE enu ewu etu qi
    clear Ki u Xi V
    rintro m V ⟨hm, Ki, u, Xi, Ci, Fi, hE, enu, ewu, hto, htb, htb2, qi⟩
    by_cases hmn : m < v.n
    · have hi : m < u.n := by omega
      obtain ⟨gT, oT, xT, aT⟩ := Ci.told.get hi
      obtain ⟨gO, oO, bi, Y, eO, gO1, kO, hbi, cO, AO⟩ := Ci.ord hi
      have M0 := Ci.l_told (l := [b, gT, gO]) (by simp)
      have M1 := Ci.l_O (l := [b, gT, gO]) (by simp)
      rw [aT.eA] at M0
      rw [eO] at M1
      have N0 : Ld Try.prog 86 gT (oT + m) (Sm [b, gT, gO] V) (.slice xT.A (u.told m).length xT.c) := ⟨fun W hW => load86s (cell_sm aT.hc (by simp) hW)⟩
      have N1 : Ld Try.prog 42 gO (oO + m) (Sm [b, gT, gO] V) (.pointer (some ⟨bi, 0, none⟩)) := ⟨fun W hW => load42 (cell_sm cO (by simp) hW)⟩
      have sd : Sm [b, gT, gO] V V.drew := fun _ _ => rfl
      have hbB := Ci.hb
      have kbB := Ci.kb
      have kT := aT.hk
      have hTB := aT.hg
      have hLB : ∀ g ∈ [b, gT, gO], g < V.heap.size := fun g hg => by
        simp only [List.mem_cons, List.not_mem_nil, or_false] at hg
        rcases hg with rfl | rfl | rfl <;> assumption
      repeat ((conv => whnf); first | (refine VCmp.tt (by omega) ?_) | (refine VCmp.ff (by omega) ?_) | (refine VIn.mk (IntWalk.i64_in _ (by omega)) ?_) | (refine VIdx.mk _ rfl (by omega) ?_) | (refine VIdx.mk 0 rfl (by omega) ?_))
      try (conv => whnf)
      refine VDraw.pl 23 (.one [0, 1, 2, 3, 4, 5, 6, 7, 8, 9, 10, 11, 12, 13, 14, 15, 16, 17, 18] 19 (.one [] 20 (.one [] 21 (.one [22] 23 (.stop []))))) (Sm [b, gT, gO] V) (by kernel_rfl) (sd) ?_
      repeat ((conv => whnf); first | (refine VLoad.mk _ M0 ?_) | (refine VLoad.mk _ M1 ?_) | (refine VLoad.mk _ N0 ?_) | (refine VLoad.mk _ N1 ?_) | (refine VCmp.tt (by omega) ?_) | (refine VCmp.ff (by omega) ?_) | (refine VIn.mk (IntWalk.i64_in _ (by omega)) ?_) | (refine VIdx.mk _ rfl (by omega) ?_) | (refine VIdx.mk 0 rfl (by omega) ?_))
      try (conv => whnf)
      have hd : Below V.heap.size V V.drew := (Below.refl _ V).drew
      refine VCall.mk _ (told_any (AO.below hd)) ?_
      rintro _ w2 ⟨rfl, b2⟩
      refine ⟨_, rfl, ?_⟩
      have b2' : Below V.heap.size V w2 := hd.trans b2
      have s2 : Sm [b, gT, gO] V w2 := .below b2' hLB
      obtain ⟨t, ht⟩ : ∃ t : Stb, t = ⟨(u.o m).id, (u.o m).done, (u.o m).pre⟩ := ⟨_, rfl⟩
      have est : stA (u.o m) = sbA t := by rw [ht]; rfl
      rw [est]
      repeat ((conv => whnf); first | (refine VS.mk s2 ?_) | (refine VCmp.tt (by omega) ?_) | (refine VCmp.ff (by omega) ?_) | (refine VIn.mk (IntWalk.i64_in _ (by omega)) ?_) | (refine VIdx.mk _ rfl (by omega) ?_) | (refine VIdx.mk 0 rfl (by omega) ?_))
      try (conv => whnf)
      refine VBs.mk _ _ (bs86 w2 t) ?_
      have ba : Below w2.heap.size w2 (w2.alloc (.cells (sbA t) 88)) := (Below.refl _ _).alloc (Nat.le_refl _) _
      have hnc : ∀ j u, (eSb t)[j]? = some u → (w2.alloc (.cells (sbA t) 88)).cell? ⟨w2.heap.size, j, none⟩ = some u := fun j u hu => by
        have := range_new w2 (sbA t) 88 j u hu
        rwa [Nat.zero_add] at this
      have za : (w2.alloc (.cells (sbA t) 88)).heap.size = w2.heap.size + 1 := World.size_alloc _ _
      generalize w2.alloc (.cells (sbA t) 88) = w3 at ba hnc za ⊢
      have b3' : Below V.heap.size V w3 := b2'.trans (ba.mono b2'.size)
      have C3 := Ci.below b3'
      have s3 : Sm [b, gT, gO] V w3 := .below b3' hLB
      repeat ((conv => whnf); first | (refine VS.mk s3 ?_) | (refine VCmp.tt (by omega) ?_) | (refine VCmp.ff (by omega) ?_) | (refine VIn.mk (IntWalk.i64_in _ (by omega)) ?_) | (refine VIdx.mk _ rfl (by omega) ?_) | (refine VIdx.mk 0 rfl (by omega) ?_))
      try (conv => whnf)
      have a3 := C3.told.at hi aT.eA aT.hx
      have hti := htb2 m (Nat.le_refl _)
      refine VApp.off 6 48 _ Try.underlying86 info88 rfl (by decide) eSb (fun _ => rfl) one_eSb xT.l t aT.ln a3.ow hnc C3.kz (by omega) (by omega) fun A4 c4 K4 w4 o4 q4 kz4 => ?_
      have s4 : Sm [b, gT, gO] V w4 := s3.trans (.ro q4 fun g hg => by
        refine ⟨Nat.lt_of_lt_of_le (hLB g hg) b3'.size, ?_⟩
        simp only [List.mem_cons, List.not_mem_nil, or_false] at hg
        rcases hg with rfl | rfl | rfl <;> omega)
      repeat ((conv => whnf); first | (refine VS.mk s4 ?_) | (refine VCmp.tt (by omega) ?_) | (refine VCmp.ff (by omega) ?_) | (refine VIn.mk (IntWalk.i64_in _ (by omega)) ?_) | (refine VIdx.mk _ rfl (by omega) ?_) | (refine VIdx.mk 0 rfl (by omega) ?_))
      try (conv => whnf)
      refine VStore.cell (by kernel_rfl) (by rw [show oT + mulO m 1 = oT + m from rfl, cell_sm aT.hc (by simp) s4]; rfl) ((World.frozen?_of_block (a := ⟨gT, _, none⟩) (s4 gT (by simp))).trans aT.hf) rfl rfl fun w5 hw5 => ?_
      obtain ⟨C5, q5⟩ := C3.push_told hi a3 t o4 q4 kz4 (w2 := w5) (by rw [hw5.out]; rfl)
      clear hw5
      repeat ((conv => whnf); first | (refine VS.last rfl ?_) | (refine VCmp.tt (by omega) ?_) | (refine VCmp.ff (by omega) ?_) | (refine VIn.mk (IntWalk.i64_in _ (by omega)) ?_) | (refine VIdx.mk _ rfl (by omega) ?_) | (refine VIdx.mk 0 rfl (by omega) ?_))
      try (conv => whnf)
      rw [ht] at C5
      have tm : (u.tell m).told m = u.told m ++ [t] := by rw [ht]; exact upN_same _ _ _
      have tn : ∀ a, a ≠ m → (u.tell m).told a = u.told a := fun a ha => upN_ne _ _ ha
      obtain ⟨X5, C5⟩ : ∃ X5, CrwAt w5 K4 b (u.tell m) X5 := ⟨_, C5⟩
      exact .mk (m + 1) ⟨rfl, rfl, rfl, trivial⟩ ⟨hmn, K4, u.tell m, X5, C5, Fi.tell hi, fun a ha => ⟨(hE a ha).dn, (hE a ha).le⟩, enu, ewu, fun a ha => by
        by_cases e : a = m
        · subst e
          rw [tm]
          refine ⟨t, by rw [List.length_append, List.length_singleton, Nat.add_sub_cancel, List.getElem?_append_right (Nat.le_refl _), Nat.sub_self]; rfl, ?_, by simp⟩
          rw [ht]
          show (((u.o a).done : Nat) : Int) = _
          rw [(hE a (by omega)).dn]
        · rw [tn a e]; exact hto a (by omega), fun a => by
        by_cases e : a = m
        · subst e; rw [tm, List.length_append]; simp; omega
        · rw [tn a e]; exact htb a, fun a ha => by rw [tn a (by omega)]; exact htb2 a (by omega), (qi.trans (Ro.below b3')).trans (q5.more fun z hz => by omega)⟩ (by show v.n - (m + 1) < v.n - m; omega)
    obtain rfl : m = v.n := by omega
    repeat ((conv => whnf); first | (refine VCmp.tt (by omega) ?_) | (refine VCmp.ff (by omega) ?_) | (refine VIn.mk (IntWalk.i64_in _ (by omega)) ?_) | (refine VIdx.mk _ rfl (by omega) ?_) | (refine VIdx.mk 0 rfl (by omega) ?_))
    try (conv => whnf)
    -- all hear
    have hto' := hto
    refine VLoop.mk Nat (fun i => [(0, .pointer (some ⟨b, 0, none⟩)), (3, .int .i64 v.n), (9, .int .i64 i)]) (fun i V => i ≤ v.n ∧ ∃ Ki u Xi, CrwAt V Ki b u Xi ∧ Fin1 u Gk T ∧ (∀ a, a < v.n → FinE u Gk a) ∧ u.n = v.n ∧ u.win = v.win ∧ (∀ a, a < v.n → ∃ t, (u.told a)[(u.told a).length - 1]? = some t ∧ t.d = Gk.length ∧ 0 < (u.told a).length) ∧ (∀ a, (u.told a).length ≤ 500001) ∧ (∀ a c, a < i → c < v.n → c ≠ a → Gk.length ≤ (u.o c).told (pidN a)) ∧ Ro (0 < ·) K Ki w V) (fun i => v.n - i) 0 ⟨rfl, rfl, rfl, trivial⟩ ⟨Nat.zero_le _, Ki, u, Xi, Ci, Fi, hE, enu, ewu, hto, htb, fun a c h => absurd h (by omega), qi⟩ ?_
    clear Ci Fi hE enu ewu hto htb htb2 qi hto'
    clear Ki u Xi V
    rintro i V ⟨hi, Ki, u, Xi, Ci, Fi, hE, enu, ewu, hto, htb, hh, qi⟩
    by_cases hin : i < v.n
    case neg =>
      obtain rfl : i = v.n := by omega
      repeat ((conv => whnf); first | (refine VCmp.tt (by omega) ?_) | (refine VCmp.ff (by omega) ?_) | (refine VIn.mk (IntWalk.i64_in _ (by omega)) ?_) | (refine VIdx.mk _ rfl (by omega) ?_) | (refine VIdx.mk 0 rfl (by omega) ?_))
      try (conv => whnf)
      exact .mk ⟨rfl, Ki, u, Xi, Gk, Ci, Fi, fun a ha => ⟨(hE a (by omega)).dn, Fi.preAll ha (hE a (by omega)) fun c hc hne => hh c a (by omega) (by omega) fun e => hne e.symm⟩, enu, ewu, qi⟩
    repeat ((conv => whnf); first | (refine VCmp.tt (by omega) ?_) | (refine VCmp.ff (by omega) ?_) | (refine VIn.mk (IntWalk.i64_in _ (by omega)) ?_) | (refine VIdx.mk _ rfl (by omega) ?_) | (refine VIdx.mk 0 rfl (by omega) ?_))
    try (conv => whnf)
    refine VLoop.mk Nat (fun j => [(0, .pointer (some ⟨b, 0, none⟩)), (3, .int .i64 v.n), (9, .int .i64 i), (10, .int .i64 j)]) (fun j V => j ≤ v.n ∧ ∃ Ki u Xi, CrwAt V Ki b u Xi ∧ Fin1 u Gk T ∧ (∀ a, a < v.n → FinE u Gk a) ∧ u.n = v.n ∧ u.win = v.win ∧ (∀ a, a < v.n → ∃ t, (u.told a)[(u.told a).length - 1]? = some t ∧ t.d = Gk.length ∧ 0 < (u.told a).length) ∧ (∀ a, (u.told a).length ≤ 500001) ∧ (∀ a c, a < i → c < v.n → c ≠ a → Gk.length ≤ (u.o c).told (pidN a)) ∧ (∀ c, c < j → c ≠ i → Gk.length ≤ (u.o c).told (pidN i)) ∧ Ro (0 < ·) K Ki w V) (fun j => v.n - j) 0 ⟨rfl, rfl, rfl, rfl, trivial⟩ ⟨Nat.zero_le _, Ki, u, Xi, Ci, Fi, hE, enu, ewu, hto, htb, hh, fun c h => absurd h (by omega), qi⟩ ?_
    clear Ci Fi hE enu ewu hto htb hh qi
    clear Ki u Xi V
    rintro j V ⟨hj, Ki, u, Xi, Ci, Fi, hE, enu, ewu, hto, htb, hh, hhj, qi⟩
    by_cases hjn : j < v.n
    case neg =>
      obtain rfl : j = v.n := by omega
      repeat ((conv => whnf); first | (refine VCmp.tt (by omega) ?_) | (refine VCmp.ff (by omega) ?_) | (refine VIn.mk (IntWalk.i64_in _ (by omega)) ?_) | (refine VIdx.mk _ rfl (by omega) ?_) | (refine VIdx.mk 0 rfl (by omega) ?_))
      try (conv => whnf)
      exact .mk (i + 1) ⟨rfl, rfl, rfl, trivial⟩ ⟨hin, Ki, u, Xi, Ci, Fi, hE, enu, ewu, hto, htb, fun a c ha hc hne => by
        by_cases e : a = i
        · subst e; exact hhj c hc hne
        · exact hh a c (by omega) hc hne, qi⟩ (by show v.n - (i + 1) < v.n - i; omega)
    have hiu : i < u.n := by omega
    have hju : j < u.n := by omega
    obtain ⟨gT, oT, xT, aT⟩ := Ci.told.get hiu
    have M0 := Ci.l_told (l := [b, gT]) (by simp)
    rw [aT.eA, enu] at M0
    have N0 : Ld Try.prog 86 gT (oT + i) (Sm [b, gT] V) (.slice xT.A (u.told i).length xT.c) := ⟨fun W hW => load86s (cell_sm aT.hc (by simp) hW)⟩
    have sz := Sm.refl [b, gT] V
    obtain ⟨t, ht, htd, hpos⟩ := hto i hin
    have hti := htb i
    repeat ((conv => whnf); first | (refine VLoad.mk _ (M0.at sz) ?_) | (refine VLoad.mk _ (N0.at sz) ?_) | (refine VCmp.tt (by omega) ?_) | (refine VCmp.ff (by omega) ?_) | (refine VIn.mk (IntWalk.i64_in _ (by omega)) ?_) | (refine VIdx.mk _ rfl (by omega) ?_) | (refine VIdx.mk 0 rfl (by omega) ?_))
    try (conv => whnf)
    refine VCall.mk _ (chear_any Ci Fi.I (by omega) hiu hju (((u.told i).length : Int) - 1) (by omega) (by omega) (by omega)) ?_
    rintro _ V2 ⟨rfl, K2, X2, C2, q2⟩
    refine ⟨_, rfl, ?_⟩
    have em : (absL (((u.told i).length : Int) - 1) % ((u.told i).length : Int)).toNat = (u.told i).length - 1 := by
      unfold absL
      rw [if_neg (by omega), Int.emod_eq_of_lt (by omega) (by omega)]
      omega
    rw [em] at C2
    repeat ((conv => whnf); first | (refine VCmp.tt (by omega) ?_) | (refine VCmp.ff (by omega) ?_) | (refine VIn.mk (IntWalk.i64_in _ (by omega)) ?_) | (refine VIdx.mk _ rfl (by omega) ?_) | (refine VIdx.mk 0 rfl (by omega) ?_))
    try (conv => whnf)
    by_cases hij : i = j
    · have ev : u.hear i j ((u.told i).length - 1) = u := by unfold Crw.hear; rw [if_pos hij]
      rw [ev] at C2
      exact .mk (j + 1) ⟨rfl, rfl, rfl, rfl, trivial⟩ ⟨hjn, K2, u, X2, C2, Fi, hE, enu, ewu, hto, htb, hh, fun c hc hne => hhj c (by omega) hne, qi.trans q2⟩ (by show v.n - (j + 1) < v.n - j; omega)
    obtain ⟨F2, E2, d2, mono2, oth2, told2, n2⟩ := Fi.hear (by omega) hiu hju hij ht (hE j hjn)
    have up : ∀ c k, (u.o c).told k ≤ ((u.hear i j ((u.told i).length - 1)).o c).told k := fun c k => by
      by_cases e : c = j
      · subst e; exact mono2 k
      · rw [oth2 c e]; exact Nat.le_refl _
    have ewin2 : (u.hear i j ((u.told i).length - 1)).win = u.win := (stp_hear i j _ 0).win
    exact .mk (j + 1) ⟨rfl, rfl, rfl, rfl, trivial⟩ ⟨hjn, K2, _, X2, C2, F2, fun a ha => by
      by_cases e : a = j
      · rw [e]; exact E2
      · exact ⟨by rw [oth2 a e]; exact (hE a ha).dn, by rw [oth2 a e]; exact (hE a ha).le⟩, n2.trans enu, ewin2.trans ewu, by rw [told2]; exact hto, by rw [told2]; exact htb, fun a c ha hc hne => Nat.le_trans (hh a c ha hc hne) (up c _), fun c hc hne => by
      by_cases e : c = j
      · subst e; omega
      · exact Nat.le_trans (hhj c (by omega) hne) (up c _), qi.trans q2⟩ (by show v.n - (j + 1) < v.n - j; omega)
end
end Go.Proofs.Ytoilipfgimcoiaa
namespace Go.Proofs.Ytoilipfgimcoiaa
open Go Go.RowKit
set_option maxRecDepth 100000 in
set_option maxHeartbeats 16000000 in
theorem orderGoesOn_walk (m0 w0 : Int) (A : Option Addr) (cA nA : Nat) (l : List AcX) (w : World) (hm1 : -9223372036854775808 ≤ m0) (hm2 : m0 ≤ 9223372036854775807) (hw1 : -9223372036854775808 ≤ w0) (hw2 : w0 ≤ 9223372036854775807) (hn : l.length = nA) (hl : ActsAt w A l) :
    Calls Try.prog 5 #[.int .i64 m0, .int .i64 w0, .slice A nA cA] w fun e w' => e = .returned (.bool true) ∧ Below w.heap.size w w' := by
  refine calls_vc tab_ok Try.func5 rfl ?_
  conv => whnf
  refine VCall.mk _ (gathered_any m0 w0 hm1 hm2 hw1 hw2 w (n := memsOf m0) (win := memsOf w0) rfl rfl) ?_
  rintro _ w1 ⟨b, K1, X1, rfl, C1, q1⟩
  refine ⟨_, rfl, ?_⟩
  have hmem : ∀ m, 1 ≤ memsOf m ∧ memsOf m ≤ 4 := fun m => by have := absL_nonneg m; unfold memsOf; omega
  have I1 := CI.new (hmem m0).1 (hmem m0).2 (hmem w0).1 (hmem w0).2
  repeat ((conv => whnf); first | (refine VCmp.tt (by omega) ?_) | (refine VCmp.ff (by omega) ?_) | (refine VIn.mk (IntWalk.i64_in _ (by omega)) ?_) | (refine VIdx.mk _ rfl (by omega) ?_) | (refine VIdx.mk 0 rfl (by omega) ?_))
  try (conv => whnf)
  refine VCall.mk _ (first_any w1) ?_
  rintro _ w2 ⟨rfl, b2⟩
  refine ⟨_, rfl, ?_⟩
  have C2 := C1.below b2
  have q2 : Ro (0 < ·) zK K1 w w2 := q1.trans (Ro.below b2)
  obtain ⟨D, hD⟩ : ∃ D : World → Prop, D = fun W => ∃ Kk vk Xk Gk T, CrwAt W Kk b vk Xk ∧ CI vk Gk T ∧ T ≤ 300 ∧ (∀ i, (vk.told i).length ≤ 300) ∧ (∀ i, i < vk.n → vk.stop i = false) ∧ Ro (0 < ·) zK Kk w W := ⟨_, rfl⟩
  repeat ((conv => whnf); first | (refine VCmp.tt (by omega) ?_) | (refine VCmp.ff (by omega) ?_) | (refine VIn.mk (IntWalk.i64_in _ (by omega)) ?_) | (refine VIdx.mk _ rfl (by omega) ?_) | (refine VIdx.mk 0 rfl (by omega) ?_))
  try (conv => whnf)
  refine VLoop.mk Nat (fun k => [(0, .int .i64 m0), (1, .int .i64 w0), (2, .slice A nA cA), (7, .pointer (some ⟨b, 0, none⟩)), (8, .int .i64 k)]) (fun k W => k ≤ nA ∧ k ≤ 300 ∧ ∃ Kk vk Xk Gk, CrwAt W Kk b vk Xk ∧ CI vk Gk k ∧ (∀ i, (vk.told i).length ≤ k) ∧ (∀ i, i < vk.n → vk.stop i = false) ∧ Ro (0 < ·) zK Kk w W) (fun k => nA - k) 0 ⟨rfl, rfl, rfl, rfl, rfl, trivial⟩ ⟨Nat.zero_le _, by omega, K1, _, X1, [], C2, I1, fun i => Nat.le_refl _, fun _ _ => rfl, q2⟩ ?_
  rintro k W ⟨hk, hk3, Kk, vk, Xk, Gk, Ck, Ik, hT, hs, qk⟩
  by_cases hkn : k < nA
  case neg =>
    repeat ((conv => whnf); first | (refine VCmp.tt (by omega) ?_) | (refine VCmp.ff (by omega) ?_) | (refine VIn.mk (IntWalk.i64_in _ (by omega)) ?_) | (refine VIdx.mk _ rfl (by omega) ?_) | (refine VIdx.mk 0 rfl (by omega) ?_))
    try (conv => whnf)
    refine VCall.mk _ (calm_any Ck Ik (by omega) hs fun i => by have := hT i; omega) ?_
    rintro _ W2 ⟨rfl, K2, u, X2, G2, C2', F2, hE, enu, ewu, q2'⟩
    refine ⟨_, rfl, ?_⟩
    have qa := qk.trans q2'
    have n4 := F2.I.n4
    have n1 := F2.I.n1
    repeat ((conv => whnf); first | (refine VCmp.tt (by omega) ?_) | (refine VCmp.ff (by omega) ?_) | (refine VIn.mk (IntWalk.i64_in _ (by omega)) ?_) | (refine VIdx.mk _ rfl (by omega) ?_) | (refine VIdx.mk 0 rfl (by omega) ?_))
    try (conv => whnf)
    have hse := F2.I.se
    have htb : ∀ p, p ≤ u.n → tot (fun j => (u.sent j).length) p ≤ 4 * 300 := fun p hp => by
      have h1 := tot_le (f := fun j => (u.sent j).length) (g := fun _ => 0) (c := 300) p fun j hj => by have := hse j (by omega); omega
      have h2 : ∀ p, tot (fun _ => 0) p = 0 := fun p => by
        induction p with
        | zero => rfl
        | succ p ih => rw [tot, ih]
      rw [h2] at h1
      have : p * 300 ≤ 4 * 300 := Nat.mul_le_mul_right 300 (by omega)
      omega
    refine VLoop.mk Nat (fun p => [(0, .int .i64 m0), (1, .int .i64 w0), (2, .slice A nA cA), (7, .pointer (some ⟨b, 0, none⟩)), (10, .int .i64 (tot (fun j => (u.sent j).length) p : Nat)), (11, .int .i64 p)]) (fun p V => p ≤ u.n ∧ V = W2) (fun p => u.n - p) 0 ⟨rfl, rfl, rfl, rfl, rfl, rfl, trivial⟩ ⟨Nat.zero_le _, rfl⟩ ?_
    rintro p V ⟨hp, rfl⟩
    have L0 := C2'.l_O (l := [b]) (by simp)
    have s0 := Sm.refl [b] V
    by_cases hpn : p < u.n
    · obtain ⟨gS, oS, xS, aS⟩ := C2'.sent.get hpn
      have M0 := C2'.l_sent (l := [b, gS]) (by simp)
      rw [aS.eA] at M0
      have N0 : Ld Try.prog 41 gS (oS + p) (Sm [b, gS] V) (.slice xS.A (u.sent p).length xS.c) := ⟨fun W hW => load41s (cell_sm aS.hc (by simp) hW)⟩
      have s1 := Sm.refl [b, gS] V
      have h1 := htb (p + 1) hpn
      have h2 : tot (fun j => (u.sent j).length) (p + 1) = tot (fun j => (u.sent j).length) p + (u.sent p).length := rfl
      repeat ((conv => whnf); first | (refine VLoad.mk _ (L0.at s0) ?_) | (refine VLoad.mk _ (M0.at s1) ?_) | (refine VLoad.mk _ (N0.at s1) ?_) | (refine VCmp.tt (by omega) ?_) | (refine VCmp.ff (by omega) ?_) | (refine VIn.mk (IntWalk.i64_in _ (by omega)) ?_) | (refine VIdx.mk _ rfl (by omega) ?_) | (refine VIdx.mk 0 rfl (by omega) ?_))
      try (conv => whnf)
      exact .mk (p + 1) ⟨rfl, rfl, rfl, rfl, by rw [h2]; rfl, rfl, trivial⟩ ⟨hpn, rfl⟩ (by show u.n - (p + 1) < u.n - p; omega)
    obtain rfl : p = u.n := by omega
    have hG2 : tot (fun j => (u.sent j).length) u.n = G2.length := F2.gl.symm
    have hGb := htb u.n (Nat.le_refl _)
    rw [hG2] at hGb ⊢
    repeat ((conv => whnf); first | (refine VLoad.mk _ (L0.at s0) ?_) | (refine VCmp.tt (by omega) ?_) | (refine VCmp.ff (by omega) ?_) | (refine VIn.mk (IntWalk.i64_in _ (by omega)) ?_) | (refine VIdx.mk _ rfl (by omega) ?_) | (refine VIdx.mk 0 rfl (by omega) ?_))
    try (conv => whnf)
    refine VLoop.mk Nat (fun i => [(0, .int .i64 m0), (1, .int .i64 w0), (2, .slice A nA cA), (7, .pointer (some ⟨b, 0, none⟩)), (10, .int .i64 (G2.length : Nat)), (12, .int .i64 i)]) (fun i Z => i ≤ u.n ∧ Below V.heap.size V Z) (fun i => u.n - i) 0 ⟨rfl, rfl, rfl, rfl, rfl, rfl, trivial⟩ ⟨Nat.zero_le _, Below.refl _ _⟩ ?_
    rintro i Z ⟨hi, bZ⟩
    have CZ := C2'.below bZ
    have LZ := CZ.l_O (l := [b]) (by simp)
    have sZ := Sm.refl [b] Z
    by_cases hin : i < u.n
    case neg =>
      repeat ((conv => whnf); first | (refine VLoad.mk _ (LZ.at sZ) ?_) | (refine VCmp.tt (by omega) ?_) | (refine VCmp.ff (by omega) ?_) | (refine VIn.mk (IntWalk.i64_in _ (by omega)) ?_) | (refine VIdx.mk _ rfl (by omega) ?_) | (refine VIdx.mk 0 rfl (by omega) ?_))
      try (conv => whnf)
      exact .mk ⟨rfl, (qa.trans (Ro.below bZ)).toBelow⟩
    obtain ⟨gO, oO, bi, Y, eO, gO1, kO, hbi, cO, AO⟩ := CZ.ord hin
    obtain ⟨gS, oS, xS, aS⟩ := CZ.sent.get hin
    have hbZ := CZ.hb
    have M0 := CZ.l_O (l := [b, gO, gS]) (by simp)
    have M1 := CZ.l_win (l := [b, gO, gS]) (by simp)
    have M2 := CZ.l_sent (l := [b, gO, gS]) (by simp)
    rw [eO] at M0
    rw [aS.eA] at M2
    have N0 : Ld Try.prog 42 gO (oO + i) (Sm [b, gO, gS] Z) (.pointer (some ⟨bi, 0, none⟩)) := ⟨fun W hW => load42 (cell_sm cO (by simp) hW)⟩
    have N2 : Ld Try.prog 41 gS (oS + i) (Sm [b, gO, gS] Z) (.slice xS.A (u.sent i).length xS.c) := ⟨fun W hW => load41s (cell_sm aS.hc (by simp) hW)⟩
    have hLZ : ∀ g ∈ [b, gO, gS], g < Z.heap.size := fun g hg => by
      have := aS.hg
      simp only [List.mem_cons, List.not_mem_nil, or_false] at hg
      rcases hg with rfl | rfl | rfl <;> assumption
    have sd : Sm [b, gO, gS] Z Z.drew := fun _ _ => rfl
    have hdZ : Below Z.heap.size Z Z.drew := (Below.refl _ Z).drew
    have WO := F2.I.wf (by omega) hin
    obtain ⟨hdn, hpr⟩ := hE i hin
    have hhd := F2.held hin hpr
    have hfr := F2.freeAll hin hpr
    have hmi := F2.mineAll hin hdn
    have hsl := F2.slotsAll hin hpr
    have htk := F2.tk i i hin hin
    have hsf := (F2.I.mi i hin).self
    have hw4 := F2.I.w4
    have hsei := hse i hin
    repeat ((conv => whnf); first | (refine VLoad.mk _ (LZ.at sZ) ?_) | (refine VCmp.tt (by omega) ?_) | (refine VCmp.ff (by omega) ?_) | (refine VIn.mk (IntWalk.i64_in _ (by omega)) ?_) | (refine VIdx.mk _ rfl (by omega) ?_) | (refine VIdx.mk 0 rfl (by omega) ?_))
    try (conv => whnf)
    refine VDraw.pl 1000 (.one [0, 1, 2, 3, 4, 5, 6, 8] 7 (.one [9, 10, 11, 12, 13, 14, 15, 16, 17, 19] 18 (.one [20, 21, 22, 23, 24, 25, 26, 27, 28, 29] 30 (.one [31, 32, 33, 34, 35, 36, 37, 38, 39, 40, 42, 43, 44, 45] 41 (.stop [46, 47]))))) (Sm [b, gO, gS] Z) (by kernel_rfl) (sd) ?_
    repeat ((conv => whnf); first | (refine VLoad.mk _ M0 ?_) | (refine VLoad.mk _ N0 ?_) | (refine VLoad.mk _ M1 ?_) | (refine VCmp.tt (by omega) ?_) | (refine VCmp.ff (by omega) ?_) | (refine VIn.mk (IntWalk.i64_in _ (by omega)) ?_) | (refine VIdx.mk _ rfl (by omega) ?_) | (refine VIdx.mk 0 rfl (by omega) ?_))
    try (conv => whnf)
    refine VCall.mk _ (done_any (AO.below hdZ)) ?_
    rintro _ x5 ⟨rfl, e5⟩
    subst x5
    refine ⟨_, rfl, ?_⟩
    rw [hdn]
    repeat ((conv => whnf); first | (refine VS.mk sd ?_) | (refine VLoad.mk _ M0 ?_) | (refine VLoad.mk _ N0 ?_) | (refine VLoad.mk _ M1 ?_) | (refine VCmp.tt (by omega) ?_) | (refine VCmp.ff (by omega) ?_) | (refine VIn.mk (IntWalk.i64_in _ (by omega)) ?_) | (refine VIdx.mk _ rfl (by omega) ?_) | (refine VIdx.mk 0 rfl (by omega) ?_))
    try (conv => whnf)
    refine VCall.mk _ (prefix_any (AO.below hdZ)) ?_
    rintro _ x5 ⟨rfl, e5⟩
    subst x5
    refine ⟨_, rfl, ?_⟩
    rw [hpr]
    repeat ((conv => whnf); first | (refine VS.mk sd ?_) | (refine VLoad.mk _ M0 ?_) | (refine VLoad.mk _ N0 ?_) | (refine VLoad.mk _ M1 ?_) | (refine VCmp.tt (by omega) ?_) | (refine VCmp.ff (by omega) ?_) | (refine VIn.mk (IntWalk.i64_in _ (by omega)) ?_) | (refine VIdx.mk _ rfl (by omega) ?_) | (refine VIdx.mk 0 rfl (by omega) ?_))
    try (conv => whnf)
    refine VCall.mk _ (held_any (AO.below hdZ)) ?_
    rintro _ x5 ⟨rfl, e5⟩
    subst x5
    refine ⟨_, rfl, ?_⟩
    rw [hhd]
    have e00 : ([] : List Dt).length = 0 := rfl
    rw [e00]
    repeat ((conv => whnf); first | (refine VS.mk sd ?_) | (refine VLoad.mk _ M0 ?_) | (refine VLoad.mk _ N0 ?_) | (refine VLoad.mk _ M1 ?_) | (refine VCmp.tt (by omega) ?_) | (refine VCmp.ff (by omega) ?_) | (refine VIn.mk (IntWalk.i64_in _ (by omega)) ?_) | (refine VIdx.mk _ rfl (by omega) ?_) | (refine VIdx.mk 0 rfl (by omega) ?_))
    try (conv => whnf)
    refine VCall.mk _ (free_any (AO.below hdZ) WO.self (by rw [hsf, htk]; omega) (by have := WO.gn (u.o i).self; omega) WO.win) ?_
    rintro _ Z2 ⟨rfl, b2z⟩
    refine ⟨_, rfl, ?_⟩
    rw [hfr]
    have b02 : Below Z.heap.size Z Z2 := hdZ.trans b2z
    have s2 : Sm [b, gO, gS] Z Z2 := .below b02 hLZ
    repeat ((conv => whnf); first | (refine VS.mk s2 ?_) | (refine VLoad.mk _ (M0.at s2) ?_) | (refine VLoad.mk _ (N0.at s2) ?_) | (refine VCmp.tt (by omega) ?_) | (refine VCmp.ff (by omega) ?_) | (refine VIn.mk (IntWalk.i64_in _ (by omega)) ?_) | (refine VIdx.mk _ rfl (by omega) ?_) | (refine VIdx.mk 0 rfl (by omega) ?_))
    try (conv => whnf)
    refine VCall.mk _ (own_any (AO.below b02) WO.self) ?_
    rintro _ Z3 ⟨rfl, b3z⟩
    refine ⟨_, rfl, ?_⟩
    rw [hsf, htk, hmi]
    have b03 : Below Z.heap.size Z Z3 := b02.trans (b3z.mono b02.size)
    have s3 : Sm [b, gO, gS] Z Z3 := .below b03 hLZ
    repeat ((conv => whnf); first | (refine VLoad.mk _ (M0.at s3) ?_) | (refine VLoad.mk _ (N0.at s3) ?_) | (refine VLoad.mk _ (M2.at s3) ?_) | (refine VLoad.mk _ (N2.at s3) ?_) | (refine VCmp.tt (by omega) ?_) | (refine VCmp.ff (by omega) ?_) | (refine VIn.mk (IntWalk.i64_in _ (by omega)) ?_) | (refine VIdx.mk _ rfl (by omega) ?_) | (refine VIdx.mk 0 rfl (by omega) ?_))
    try (conv => whnf)
    refine VCall.mk _ (content_any (AO.below b03) (by rw [hsl]; decide)) ?_
    rintro _ Z4 ⟨A4, c4, H4, rfl, -, -, b4z⟩
    refine ⟨_, rfl, ?_⟩
    have hl0 : (u.o i).slots.length = 0 := by rw [hsl]; rfl
    repeat ((conv => whnf); first | (refine VCmp.tt (by omega) ?_) | (refine VCmp.ff (by omega) ?_) | (refine VIn.mk (IntWalk.i64_in _ (by omega)) ?_) | (refine VIdx.mk _ rfl (by omega) ?_) | (refine VIdx.mk 0 rfl (by omega) ?_))
    try (conv => whnf)
    have b04 : Below Z.heap.size Z Z4 := b03.trans (b4z.mono b03.size)
    exact .mk (i + 1) ⟨rfl, rfl, rfl, rfl, rfl, rfl, trivial⟩ ⟨hin, bZ.trans (b04.mono bZ.size)⟩ (by show u.n - (i + 1) < u.n - i; omega)
  by_cases hk4 : k < 300
  case neg =>
    repeat ((conv => whnf); first | (refine VCmp.tt (by omega) ?_) | (refine VCmp.ff (by omega) ?_) | (refine VIn.mk (IntWalk.i64_in _ (by omega)) ?_) | (refine VIdx.mk _ rfl (by omega) ?_) | (refine VIdx.mk 0 rfl (by omega) ?_))
    try (conv => whnf)
    refine VCall.mk _ (calm_any Ck Ik (by omega) hs fun i => by have := hT i; omega) ?_
    rintro _ W2 ⟨rfl, K2, u, X2, G2, C2', F2, hE, enu, ewu, q2'⟩
    refine ⟨_, rfl, ?_⟩
    have qa := qk.trans q2'
    have n4 := F2.I.n4
    have n1 := F2.I.n1
    repeat ((conv => whnf); first | (refine VCmp.tt (by omega) ?_) | (refine VCmp.ff (by omega) ?_) | (refine VIn.mk (IntWalk.i64_in _ (by omega)) ?_) | (refine VIdx.mk _ rfl (by omega) ?_) | (refine VIdx.mk 0 rfl (by omega) ?_))
    try (conv => whnf)
    have hse := F2.I.se
    have htb : ∀ p, p ≤ u.n → tot (fun j => (u.sent j).length) p ≤ 4 * 300 := fun p hp => by
      have h1 := tot_le (f := fun j => (u.sent j).length) (g := fun _ => 0) (c := 300) p fun j hj => by have := hse j (by omega); omega
      have h2 : ∀ p, tot (fun _ => 0) p = 0 := fun p => by
        induction p with
        | zero => rfl
        | succ p ih => rw [tot, ih]
      rw [h2] at h1
      have : p * 300 ≤ 4 * 300 := Nat.mul_le_mul_right 300 (by omega)
      omega
    refine VLoop.mk Nat (fun p => [(0, .int .i64 m0), (1, .int .i64 w0), (2, .slice A nA cA), (7, .pointer (some ⟨b, 0, none⟩)), (10, .int .i64 (tot (fun j => (u.sent j).length) p : Nat)), (11, .int .i64 p)]) (fun p V => p ≤ u.n ∧ V = W2) (fun p => u.n - p) 0 ⟨rfl, rfl, rfl, rfl, rfl, rfl, trivial⟩ ⟨Nat.zero_le _, rfl⟩ ?_
    rintro p V ⟨hp, rfl⟩
    have L0 := C2'.l_O (l := [b]) (by simp)
    have s0 := Sm.refl [b] V
    by_cases hpn : p < u.n
    · obtain ⟨gS, oS, xS, aS⟩ := C2'.sent.get hpn
      have M0 := C2'.l_sent (l := [b, gS]) (by simp)
      rw [aS.eA] at M0
      have N0 : Ld Try.prog 41 gS (oS + p) (Sm [b, gS] V) (.slice xS.A (u.sent p).length xS.c) := ⟨fun W hW => load41s (cell_sm aS.hc (by simp) hW)⟩
      have s1 := Sm.refl [b, gS] V
      have h1 := htb (p + 1) hpn
      have h2 : tot (fun j => (u.sent j).length) (p + 1) = tot (fun j => (u.sent j).length) p + (u.sent p).length := rfl
      repeat ((conv => whnf); first | (refine VLoad.mk _ (L0.at s0) ?_) | (refine VLoad.mk _ (M0.at s1) ?_) | (refine VLoad.mk _ (N0.at s1) ?_) | (refine VCmp.tt (by omega) ?_) | (refine VCmp.ff (by omega) ?_) | (refine VIn.mk (IntWalk.i64_in _ (by omega)) ?_) | (refine VIdx.mk _ rfl (by omega) ?_) | (refine VIdx.mk 0 rfl (by omega) ?_))
      try (conv => whnf)
      exact .mk (p + 1) ⟨rfl, rfl, rfl, rfl, by rw [h2]; rfl, rfl, trivial⟩ ⟨hpn, rfl⟩ (by show u.n - (p + 1) < u.n - p; omega)
    obtain rfl : p = u.n := by omega
    have hG2 : tot (fun j => (u.sent j).length) u.n = G2.length := F2.gl.symm
    have hGb := htb u.n (Nat.le_refl _)
    rw [hG2] at hGb ⊢
    repeat ((conv => whnf); first | (refine VLoad.mk _ (L0.at s0) ?_) | (refine VCmp.tt (by omega) ?_) | (refine VCmp.ff (by omega) ?_) | (refine VIn.mk (IntWalk.i64_in _ (by omega)) ?_) | (refine VIdx.mk _ rfl (by omega) ?_) | (refine VIdx.mk 0 rfl (by omega) ?_))
    try (conv => whnf)
    refine VLoop.mk Nat (fun i => [(0, .int .i64 m0), (1, .int .i64 w0), (2, .slice A nA cA), (7, .pointer (some ⟨b, 0, none⟩)), (10, .int .i64 (G2.length : Nat)), (12, .int .i64 i)]) (fun i Z => i ≤ u.n ∧ Below V.heap.size V Z) (fun i => u.n - i) 0 ⟨rfl, rfl, rfl, rfl, rfl, rfl, trivial⟩ ⟨Nat.zero_le _, Below.refl _ _⟩ ?_
    rintro i Z ⟨hi, bZ⟩
    have CZ := C2'.below bZ
    have LZ := CZ.l_O (l := [b]) (by simp)
    have sZ := Sm.refl [b] Z
    by_cases hin : i < u.n
    case neg =>
      repeat ((conv => whnf); first | (refine VLoad.mk _ (LZ.at sZ) ?_) | (refine VCmp.tt (by omega) ?_) | (refine VCmp.ff (by omega) ?_) | (refine VIn.mk (IntWalk.i64_in _ (by omega)) ?_) | (refine VIdx.mk _ rfl (by omega) ?_) | (refine VIdx.mk 0 rfl (by omega) ?_))
      try (conv => whnf)
      exact .mk ⟨rfl, (qa.trans (Ro.below bZ)).toBelow⟩
    obtain ⟨gO, oO, bi, Y, eO, gO1, kO, hbi, cO, AO⟩ := CZ.ord hin
    obtain ⟨gS, oS, xS, aS⟩ := CZ.sent.get hin
    have hbZ := CZ.hb
    have M0 := CZ.l_O (l := [b, gO, gS]) (by simp)
    have M1 := CZ.l_win (l := [b, gO, gS]) (by simp)
    have M2 := CZ.l_sent (l := [b, gO, gS]) (by simp)
    rw [eO] at M0
    rw [aS.eA] at M2
    have N0 : Ld Try.prog 42 gO (oO + i) (Sm [b, gO, gS] Z) (.pointer (some ⟨bi, 0, none⟩)) := ⟨fun W hW => load42 (cell_sm cO (by simp) hW)⟩
    have N2 : Ld Try.prog 41 gS (oS + i) (Sm [b, gO, gS] Z) (.slice xS.A (u.sent i).length xS.c) := ⟨fun W hW => load41s (cell_sm aS.hc (by simp) hW)⟩
    have hLZ : ∀ g ∈ [b, gO, gS], g < Z.heap.size := fun g hg => by
      have := aS.hg
      simp only [List.mem_cons, List.not_mem_nil, or_false] at hg
      rcases hg with rfl | rfl | rfl <;> assumption
    have sd : Sm [b, gO, gS] Z Z.drew := fun _ _ => rfl
    have hdZ : Below Z.heap.size Z Z.drew := (Below.refl _ Z).drew
    have WO := F2.I.wf (by omega) hin
    obtain ⟨hdn, hpr⟩ := hE i hin
    have hhd := F2.held hin hpr
    have hfr := F2.freeAll hin hpr
    have hmi := F2.mineAll hin hdn
    have hsl := F2.slotsAll hin hpr
    have htk := F2.tk i i hin hin
    have hsf := (F2.I.mi i hin).self
    have hw4 := F2.I.w4
    have hsei := hse i hin
    repeat ((conv => whnf); first | (refine VLoad.mk _ (LZ.at sZ) ?_) | (refine VCmp.tt (by omega) ?_) | (refine VCmp.ff (by omega) ?_) | (refine VIn.mk (IntWalk.i64_in _ (by omega)) ?_) | (refine VIdx.mk _ rfl (by omega) ?_) | (refine VIdx.mk 0 rfl (by omega) ?_))
    try (conv => whnf)
    refine VDraw.pl 1000 (.one [0, 1, 2, 3, 4, 5, 6, 8] 7 (.one [9, 10, 11, 12, 13, 14, 15, 16, 17, 19] 18 (.one [20, 21, 22, 23, 24, 25, 26, 27, 28, 29] 30 (.one [31, 32, 33, 34, 35, 36, 37, 38, 39, 40, 42, 43, 44, 45] 41 (.stop [46, 47]))))) (Sm [b, gO, gS] Z) (by kernel_rfl) (sd) ?_
    repeat ((conv => whnf); first | (refine VLoad.mk _ M0 ?_) | (refine VLoad.mk _ N0 ?_) | (refine VLoad.mk _ M1 ?_) | (refine VCmp.tt (by omega) ?_) | (refine VCmp.ff (by omega) ?_) | (refine VIn.mk (IntWalk.i64_in _ (by omega)) ?_) | (refine VIdx.mk _ rfl (by omega) ?_) | (refine VIdx.mk 0 rfl (by omega) ?_))
    try (conv => whnf)
    refine VCall.mk _ (done_any (AO.below hdZ)) ?_
    rintro _ x5 ⟨rfl, e5⟩
    subst x5
    refine ⟨_, rfl, ?_⟩
    rw [hdn]
    repeat ((conv => whnf); first | (refine VS.mk sd ?_) | (refine VLoad.mk _ M0 ?_) | (refine VLoad.mk _ N0 ?_) | (refine VLoad.mk _ M1 ?_) | (refine VCmp.tt (by omega) ?_) | (refine VCmp.ff (by omega) ?_) | (refine VIn.mk (IntWalk.i64_in _ (by omega)) ?_) | (refine VIdx.mk _ rfl (by omega) ?_) | (refine VIdx.mk 0 rfl (by omega) ?_))
    try (conv => whnf)
    refine VCall.mk _ (prefix_any (AO.below hdZ)) ?_
    rintro _ x5 ⟨rfl, e5⟩
    subst x5
    refine ⟨_, rfl, ?_⟩
    rw [hpr]
    repeat ((conv => whnf); first | (refine VS.mk sd ?_) | (refine VLoad.mk _ M0 ?_) | (refine VLoad.mk _ N0 ?_) | (refine VLoad.mk _ M1 ?_) | (refine VCmp.tt (by omega) ?_) | (refine VCmp.ff (by omega) ?_) | (refine VIn.mk (IntWalk.i64_in _ (by omega)) ?_) | (refine VIdx.mk _ rfl (by omega) ?_) | (refine VIdx.mk 0 rfl (by omega) ?_))
    try (conv => whnf)
    refine VCall.mk _ (held_any (AO.below hdZ)) ?_
    rintro _ x5 ⟨rfl, e5⟩
    subst x5
    refine ⟨_, rfl, ?_⟩
    rw [hhd]
    have e00 : ([] : List Dt).length = 0 := rfl
    rw [e00]
    repeat ((conv => whnf); first | (refine VS.mk sd ?_) | (refine VLoad.mk _ M0 ?_) | (refine VLoad.mk _ N0 ?_) | (refine VLoad.mk _ M1 ?_) | (refine VCmp.tt (by omega) ?_) | (refine VCmp.ff (by omega) ?_) | (refine VIn.mk (IntWalk.i64_in _ (by omega)) ?_) | (refine VIdx.mk _ rfl (by omega) ?_) | (refine VIdx.mk 0 rfl (by omega) ?_))
    try (conv => whnf)
    refine VCall.mk _ (free_any (AO.below hdZ) WO.self (by rw [hsf, htk]; omega) (by have := WO.gn (u.o i).self; omega) WO.win) ?_
    rintro _ Z2 ⟨rfl, b2z⟩
    refine ⟨_, rfl, ?_⟩
    rw [hfr]
    have b02 : Below Z.heap.size Z Z2 := hdZ.trans b2z
    have s2 : Sm [b, gO, gS] Z Z2 := .below b02 hLZ
    repeat ((conv => whnf); first | (refine VS.mk s2 ?_) | (refine VLoad.mk _ (M0.at s2) ?_) | (refine VLoad.mk _ (N0.at s2) ?_) | (refine VCmp.tt (by omega) ?_) | (refine VCmp.ff (by omega) ?_) | (refine VIn.mk (IntWalk.i64_in _ (by omega)) ?_) | (refine VIdx.mk _ rfl (by omega) ?_) | (refine VIdx.mk 0 rfl (by omega) ?_))
    try (conv => whnf)
    refine VCall.mk _ (own_any (AO.below b02) WO.self) ?_
    rintro _ Z3 ⟨rfl, b3z⟩
    refine ⟨_, rfl, ?_⟩
    rw [hsf, htk, hmi]
    have b03 : Below Z.heap.size Z Z3 := b02.trans (b3z.mono b02.size)
    have s3 : Sm [b, gO, gS] Z Z3 := .below b03 hLZ
    repeat ((conv => whnf); first | (refine VLoad.mk _ (M0.at s3) ?_) | (refine VLoad.mk _ (N0.at s3) ?_) | (refine VLoad.mk _ (M2.at s3) ?_) | (refine VLoad.mk _ (N2.at s3) ?_) | (refine VCmp.tt (by omega) ?_) | (refine VCmp.ff (by omega) ?_) | (refine VIn.mk (IntWalk.i64_in _ (by omega)) ?_) | (refine VIdx.mk _ rfl (by omega) ?_) | (refine VIdx.mk 0 rfl (by omega) ?_))
    try (conv => whnf)
    refine VCall.mk _ (content_any (AO.below b03) (by rw [hsl]; decide)) ?_
    rintro _ Z4 ⟨A4, c4, H4, rfl, -, -, b4z⟩
    refine ⟨_, rfl, ?_⟩
    have hl0 : (u.o i).slots.length = 0 := by rw [hsl]; rfl
    repeat ((conv => whnf); first | (refine VCmp.tt (by omega) ?_) | (refine VCmp.ff (by omega) ?_) | (refine VIn.mk (IntWalk.i64_in _ (by omega)) ?_) | (refine VIdx.mk _ rfl (by omega) ?_) | (refine VIdx.mk 0 rfl (by omega) ?_))
    try (conv => whnf)
    have b04 : Below Z.heap.size Z Z4 := b03.trans (b4z.mono b03.size)
    exact .mk (i + 1) ⟨rfl, rfl, rfl, rfl, rfl, rfl, trivial⟩ ⟨hin, bZ.trans (b04.mono bZ.size)⟩ (by show u.n - (i + 1) < u.n - i; omega)
  obtain ⟨gA, oA, rfl, hgA, cl⟩ := hl.row (by omega)
  obtain ⟨x, hx⟩ : ∃ x, l[k]? = some x := ⟨_, List.getElem?_eq_getElem (by omega)⟩
  obtain ⟨hxb, hxc, hxw⟩ := hl.bod x (List.mem_of_getElem? hx)
  have hcell : ∀ j u, (eAc x)[j]? = some u → W.cell? ⟨gA, oA + k * 5 + j, none⟩ = some u := fun j u hu => (World.cell?_of_block (a := ⟨gA, _, none⟩) (qk.same gA hgA (by show ¬ 0 < zK gA; unfold zK; omega))).trans (cl k x hx j u hu)
  have LA : Ld Try.prog 29 gA (oA + mulO k 5) (Eq W) (.agg (acA x.a x.B x.c x.a.b.length)) := .of (load_agg (cs := eAc x) (by kernel_rfl) (by kernel_rfl) fun j u hu => by rw [mulO_eq]; exact hcell j u hu)
  have LK : Ld Try.prog 3 gA (oA + mulO k 5) (Eq W) (.int .i64 x.a.kd) := .of (load3 (by rw [mulO_eq]; exact hcell 0 _ rfl))
  have hxR : RowK W Kk 1 eByte x.B x.a.b := (RowK.at_ (K := zK) hxb fun _ _ => rfl).ro qk (by omega)
  by_cases h7 : x.a.kd = 7
  · repeat ((conv => whnf); first | (refine VLoad.mk _ LK ?_) | (refine VCmp.tt (by omega) ?_) | (refine VCmp.ff (by omega) ?_) | (refine VIn.mk (IntWalk.i64_in _ (by omega)) ?_) | (refine VIdx.mk _ rfl (by omega) ?_) | (refine VIdx.mk 0 rfl (by omega) ?_))
    try (conv => whnf)
    exact .mk (k + 1) ⟨rfl, rfl, rfl, rfl, rfl, trivial⟩ ⟨hkn, hk4, Kk, vk, Xk, Gk, Ck, Ik.mono (by omega), fun i => by have := hT i; omega, hs, qk⟩ (by show nA - (k + 1) < nA - k; omega)
  repeat ((conv => whnf); first | (refine VLoad.mk _ LK ?_) | (refine VLoad.mk _ LA ?_) | (refine VCmp.tt (by omega) ?_) | (refine VCmp.ff (by omega) ?_) | (refine VIn.mk (IntWalk.i64_in _ (by omega)) ?_) | (refine VIdx.mk _ rfl (by omega) ?_) | (refine VIdx.mk 0 rfl (by omega) ?_))
  try (conv => whnf)
  refine VCall.mk _ (act_any Ck Ik (by omega) (fun i => by have := hT i; omega) x.a hxw rfl hxc hxR) ?_
  rintro _ W2 ⟨rfl, K3, v3, X3, G3, C3, I3, S3, q3⟩
  refine ⟨_, rfl, ?_⟩
  repeat ((conv => whnf); first | (refine VCmp.tt (by omega) ?_) | (refine VCmp.ff (by omega) ?_) | (refine VIn.mk (IntWalk.i64_in _ (by omega)) ?_) | (refine VIdx.mk _ rfl (by omega) ?_) | (refine VIdx.mk 0 rfl (by omega) ?_))
  try (conv => whnf)
  exact .mk (k + 1) ⟨rfl, rfl, rfl, rfl, rfl, trivial⟩ ⟨hkn, hk4, K3, v3, X3, G3, C3, I3, fun i => by have h1 := S3.tl i; have h2 := hT i; omega, fun i hi => by rw [S3.st h7]; exact hs i (by rw [← S3.n]; exact hi), qk.trans q3⟩ (by show nA - (k + 1) < nA - k; omega)
end Go.Proofs.Ytoilipfgimcoiaa
