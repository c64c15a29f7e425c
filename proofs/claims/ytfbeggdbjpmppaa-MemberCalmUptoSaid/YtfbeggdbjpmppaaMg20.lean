/- CalmW MOpen MClose OneOpen, joined. -/
import Derived.Test.YtfbeggdbjpmppaaRows
import Derived.Deep.Slices
import Derived.Deep.Fields
import Derived.ChangeSame
import Derived.ProofKit
import Derived.WalkKit
import Derived.OpenShut
import Derived.JoinedCond
import Derived.Below
import Derived.Carry
import Derived.Test.YtfbeggdbjpmppaaMg11
import Derived.Test.YtfbeggdbjpmppaaMg17
import Derived.Test.YtfbeggdbjpmppaaMg19
set_option linter.unusedVariables false
set_option linter.unusedSimpArgs false
namespace Go.Proofs.Ytfbeggdbjpmppaa
open Go Go.RowKit
theorem share {P : Prop} {body : Fr → World → (Exit → Fr → World → Prop) → Prop} {Q : Exit → Fr → World → Prop} {σ : Type} {F : σ → Fr} {I : σ → World → Prop} {μ : σ → Nat}
    (main : (∀ s w, I s w → body (F s) w (kLoop F I μ s Q)) → P) (rest : ∀ s w, I s w → body (F s) w (kLoop F I μ s Q)) : P := main rest
theorem vloop_at {body : Fr → World → (Exit → Fr → World → Prop) → Prop} {Q : Exit → Fr → World → Prop} {σ : Type} {F : σ → Fr} {I : σ → World → Prop} {μ : σ → Nat} (hr : ∀ s w, I s w → body (F s) w (kLoop F I μ s Q)) (s0 : σ) {fr : Fr} {w : World} (h1 : agr (F s0) fr) (h0 : I s0 w) : VLoop body fr w Q := .mk σ F I μ s0 h1 h0 hr
def whoTo (mask : Int) (k : Nat) : List Nat := (List.range k).filter (mbit mask)
theorem whoTo_yes {mask : Int} {k : Nat} (h : mbit mask k = true) : whoTo mask (k + 1) = whoTo mask k ++ [k] := by
  unfold whoTo; rw [List.range_succ, List.filter_append]; simp [h]
theorem whoTo_no {mask : Int} {k : Nat} (h : mbit mask k = false) : whoTo mask (k + 1) = whoTo mask k := by
  unfold whoTo; rw [List.range_succ, List.filter_append]; simp [h]
theorem whoTo_len (mask : Int) (k : Nat) : (whoTo mask k).length ≤ k := by
  have := List.length_filter_le (mbit mask) (List.range k)
  rw [List.length_range] at this
  exact this
theorem whoI_app (l : List Nat) (k : Nat) : whoI (l ++ [k]) = whoI l ++ [(k : Int)] := by unfold whoI; rw [List.map_append]; rfl
set_option maxRecDepth 100000 in
set_option maxHeartbeats 16000000 in
theorem calm_walk (nodes mask turn : Int) (A : Option Addr) (cA len : Nat) (play : List Sp) (w : World) (hlen : play.length = len) (hA : RowAt w w.heap.size 5 eSp A play) (hl : len ≤ 100000000) :
    Calls Try.prog 13 #[.int .i64 nodes, .slice A len cA, .int .i64 mask, .int .i64 turn] w fun e w' => e = .returned (.bool true) ∧ Below w.heap.size w w' := by
  refine calls_vc tab_ok Try.func13 rfl ?_
  obtain ⟨n2, n16⟩ := sizeN_in nodes
  conv => whnf
  repeat ((conv => whnf); first | (refine VCmp.tt (by omega) ?_) | (refine VCmp.ff (by omega) ?_) | (refine VIn.mk (IntWalk.i64_in _ (by omega)) ?_) | (refine VIdx.mk _ rfl (by omega) ?_) | (refine VIdx.mk 0 rfl (by omega) ?_))
  try (conv => whnf)
  refine VCall.mk _ (size_any nodes w) ?_
  rintro _ _ ⟨rfl, rfl⟩
  refine ⟨_, rfl, ?_⟩
  generalize sizeN nodes = n at n2 n16 ⊢
  rename_i w
  repeat ((conv => whnf); first | (refine VCmp.tt (by omega) ?_) | (refine VCmp.ff (by omega) ?_) | (refine VIn.mk (IntWalk.i64_in _ (by omega)) ?_) | (refine VIdx.mk _ rfl (by omega) ?_) | (refine VIdx.mk 0 rfl (by omega) ?_))
  try (conv => whnf)
  refine VCall.mk _ (starts_any (fl := 0) w (by omega) n16 (by decide) (by decide)) ?_
  rintro _ x1 ⟨g, rfl, hg, K1, X1, T1, k1, b1⟩
  refine ⟨_, rfl, ?_⟩
  have P0 := Cal.start (n := n) (by omega) n16
  have M0 : TmS w x1 g n (bootTo (tm0 n 0) n) K1 X1 := ⟨hg, P0.p.nn, T1, k1, b1⟩
  repeat ((conv => whnf); first | (refine VCmp.tt (by omega) ?_) | (refine VCmp.ff (by omega) ?_) | (refine VIn.mk (IntWalk.i64_in _ (by omega)) ?_) | (refine VIdx.mk _ rfl (by omega) ?_) | (refine VIdx.mk 0 rfl (by omega) ?_))
  try (conv => whnf)
  refine VLoop.mk Nat (fun k => [(1, .slice A len cA), (2, .int .i64 mask), (3, .int .i64 turn), (9, .int .i64 n), (10, .pointer (some ⟨g, 0, none⟩)), (11, .int .i64 k)]) (fun k W => k ≤ len ∧ ∃ t K X, Cal n k t ∧ TmS w W g n t K X) (fun k => len - k) 0 ⟨rfl, rfl, rfl, rfl, rfl, rfl, trivial⟩ ⟨Nat.zero_le _, _, K1, X1, P0, M0⟩ ?_
  rintro k wk ⟨hk, t, K, X, C, M⟩
  by_cases hkl : k < len
  · obtain ⟨s, hs⟩ : ∃ s, play[k]? = some s := ⟨_, List.getElem?_eq_getElem (by omega)⟩
    obtain ⟨b, o, rfl, hb, hc⟩ := hA (by omega)
    have rs : wk.rangeAt b (o + k * 5) (spA s).toList := fun j u hu => (World.cell?_of_block (a := ⟨b, o + k * 5 + j, none⟩) (M.be.block b hb)).trans (hc k s hs j u hu)
    have Ls : Ld Try.prog 55 b (o + k * 5) (Eq wk) (.agg (spA s)) := .of (load_agg (by kernel_rfl) (by kernel_rfl) rs)
    have Tk := M.tm
    have Ok' := C.p.ok
    have nn := M.nn
    rw [← nn] at Tk Ok'
    have pl := team_plays Tk Ok' (C.p.cnt.szs (by omega) C.p.db) s
    rw [nn] at pl
    repeat ((conv => whnf); first | (refine VLoad.mk _ Ls ?_) | (refine VCmp.tt (by omega) ?_) | (refine VCmp.ff (by omega) ?_) | (refine VIn.mk (IntWalk.i64_in _ (by omega)) ?_) | (refine VIdx.mk _ rfl (by omega) ?_) | (refine VIdx.mk 0 rfl (by omega) ?_))
    try (conv => whnf)
    refine VCall.mk _ pl ?_
    rintro _ x9 ⟨rfl, p9⟩
    refine ⟨_, rfl, ?_⟩
    obtain ⟨K9, X9, M9, -⟩ := M.step (t' := t.step s) ((step_n t s).trans nn) p9
    repeat ((conv => whnf); first | (refine VCmp.tt (by omega) ?_) | (refine VCmp.ff (by omega) ?_) | (refine VIn.mk (IntWalk.i64_in _ (by omega)) ?_) | (refine VIdx.mk _ rfl (by omega) ?_) | (refine VIdx.mk 0 rfl (by omega) ?_))
    try (conv => whnf)
    exact .mk (k + 1) ⟨rfl, rfl, rfl, rfl, rfl, rfl, trivial⟩ ⟨hkl, t.step s, K9, X9, C.step (by omega) s, M9⟩ (by show len - (k + 1) < len - k; omega)
  · obtain rfl : len = k := by omega
    clear hk hkl hA hlen
    have zw := M.be.size
    repeat ((conv => whnf); first | (refine VCmp.tt (by omega) ?_) | (refine VCmp.ff (by omega) ?_) | (refine VIn.mk (IntWalk.i64_in _ (by omega)) ?_) | (refine VIdx.mk _ rfl (by omega) ?_) | (refine VIdx.mk 0 rfl (by omega) ?_))
    try (conv => whnf)
    refine VLoop.mk (Nat × Option Addr × Nat) (fun u => [(2, .int .i64 mask), (3, .int .i64 turn), (9, .int .i64 n), (10, .pointer (some ⟨g, 0, none⟩)), (12, .slice u.2.1 (whoTo mask u.1).length u.2.2), (13, .int .i64 u.1)]) (fun u W => u.1 ≤ n ∧ Below wk.heap.size wk W ∧ Owns W wk.heap.size 3 1 eInt u.2.1 u.2.2 (whoI (whoTo mask u.1))) (fun u => n - u.1) (0, none, 0) ⟨rfl, rfl, rfl, rfl, rfl, rfl, trivial⟩ ⟨Nat.zero_le _, Below.refl _ _, ⟨rfl, .inl ⟨rfl, rfl⟩⟩⟩ ?_
    rintro ⟨q, B, cB⟩ wq ⟨hq, bq, own⟩
    dsimp only at hq own ⊢
    have zq := bq.size
    have hwl := whoTo_len mask q
    by_cases hqn : q < n
    case pos =>
      have hm1 := Int.tmod_lt_of_pos (mask / 2 ^ q) (by decide : (0 : Int) < 2)
      have hm2 := Int.lt_tmod_of_pos (mask / 2 ^ q) (by decide : (0 : Int) < 2)
      repeat ((conv => whnf); first | (refine VCmp.tt (by omega) ?_) | (refine VCmp.ff (by omega) ?_) | (refine VIn.mk (IntWalk.i64_in _ (by omega)) ?_) | (refine VIdx.mk _ rfl (by omega) ?_) | (refine VIdx.mk 0 rfl (by omega) ?_))
      try (conv => whnf)
      refine VQ.mk (.int .i64 (mask / 2 ^ q)) (fun a ha W _ => ?_) ?_
      · have h3 := ha (.tmp 42) _ rfl
        have h4 := ha (.tmp 43) _ rfl
        have := shr_any mask q (by omega) W
        have hg : Sem.run Try.prog (eqGuard .shr 3 (.tmp 42) (.tmp 43) (.int .i64 mask) (.int .i64 q)) W = .ok () W := rfl
        simp only [execOp, h3, h4, Sem.run_bind, hg, this, Result.andThen_ok, Sem.run_pure]
      repeat ((conv => whnf); first | (refine VCmp.tt (by omega) ?_) | (refine VCmp.ff (by omega) ?_) | (refine VIn.mk (IntWalk.i64_in _ (by omega)) ?_) | (refine VIdx.mk _ rfl (by omega) ?_) | (refine VIdx.mk 0 rfl (by omega) ?_))
      try (conv => whnf)
      refine VQ.mk (.int .i64 ((mask / 2 ^ q).tmod 2)) (fun a ha W _ => ?_) ?_
      · have h3 := ha (.tmp 44) _ rfl
        have h4 := ha (.const (.int .i64 2)) _ rfl
        have := rem_any (mask / 2 ^ q) 2 (by decide) (IntWalk.i64_in _ (by omega)) W
        have hg : Sem.run Try.prog (eqGuard .rem 3 (.tmp 44) (.const (.int .i64 2)) (.int .i64 (mask / 2 ^ q)) (.int .i64 2)) W = .ok () W := rfl
        simp only [execOp, h3, h4, Sem.run_bind, hg, this, Result.andThen_ok, Sem.run_pure]
      cases hb : mbit mask q with
      | true =>
        have hbt : (mask / 2 ^ q).tmod 2 = 1 := of_decide_eq_true hb
        repeat ((conv => whnf); first | (refine VCmp.tt (by omega) ?_) | (refine VCmp.ff (by omega) ?_) | (refine VIn.mk (IntWalk.i64_in _ (by omega)) ?_) | (refine VIdx.mk _ rfl (by omega) ?_) | (refine VIdx.mk 0 rfl (by omega) ?_))
        try (conv => whnf)
        refine VBs.mk _ _ (bs27 wq ((q : Int))) ?_
        have d1 : Below wq.heap.size wq (wq.alloc (.cells #[.int .i64 ((q : Int))] 3)) := (Below.refl _ _).alloc (Nat.le_refl _) _
        have hnc : ∀ j u, (eInt ((q : Int)))[j]? = some u → (wq.alloc (.cells #[.int .i64 ((q : Int))] 3)).cell? ⟨wq.heap.size, j, none⟩ = some u := fun j u hu => by
          have := range_new wq #[.int .i64 ((q : Int))] 3 j u hu
          rwa [Nat.zero_add] at this
        generalize wq.alloc (.cells #[.int .i64 ((q : Int))] 3) = xb at d1 hnc ⊢
        have z1 := d1.size
        have o1 := own.keep d1 (fun q hq => (own.lo q hq).2)
        repeat ((conv => whnf); first | (refine VCmp.tt (by omega) ?_) | (refine VCmp.ff (by omega) ?_) | (refine VIn.mk (IntWalk.i64_in _ (by omega)) ?_) | (refine VIdx.mk _ rfl (by omega) ?_) | (refine VIdx.mk 0 rfl (by omega) ?_))
        try (conv => whnf)
        refine VApp.keep wk.heap.size 1 8 _ Try.underlying27 info3 rfl (by decide) eInt (fun _ => rfl) one_eInt _ ((q : Int)) (whoI_len _) o1 hnc (by omega) (by omega) (by omega) fun A2 c2 x2 oA oB hg hA => ?_
        have b2 : Below wk.heap.size wk x2 := (bq.trans (d1.mono bq.size)).grown hg (by omega) (fun q hq => (o1.lo q hq).1)
        repeat ((conv => whnf); first | (refine VCmp.tt (by omega) ?_) | (refine VCmp.ff (by omega) ?_) | (refine VIn.mk (IntWalk.i64_in _ (by omega)) ?_) | (refine VIdx.mk _ rfl (by omega) ?_) | (refine VIdx.mk 0 rfl (by omega) ?_))
        try (conv => whnf)
        exact .mk (q + 1, A2, c2) ⟨rfl, rfl, rfl, rfl, by dsimp only; rw [whoTo_yes hb, List.length_append]; rfl, rfl, trivial⟩ ⟨hqn, b2, by dsimp only; rw [whoTo_yes hb, whoI_app]; exact oA⟩ (by show n - (q + 1) < n - q; omega)
      | false =>
        have hbt : ¬ (mask / 2 ^ q).tmod 2 = 1 := of_decide_eq_false hb
        repeat ((conv => whnf); first | (refine VCmp.tt (by omega) ?_) | (refine VCmp.ff (by omega) ?_) | (refine VIn.mk (IntWalk.i64_in _ (by omega)) ?_) | (refine VIdx.mk _ rfl (by omega) ?_) | (refine VIdx.mk 0 rfl (by omega) ?_))
        try (conv => whnf)
        exact .mk (q + 1, B, cB) ⟨rfl, rfl, rfl, rfl, by dsimp only; rw [whoTo_no hb]; rfl, rfl, trivial⟩ ⟨hqn, bq, by dsimp only; rw [whoTo_no hb]; exact own⟩ (by show n - (q + 1) < n - q; omega)
    case neg =>
      obtain rfl : n = q := by omega
      obtain ⟨msk, hmsk⟩ : ∃ msk, msk = maskOf n mask := ⟨_, rfl⟩
      obtain ⟨who, hwho⟩ : ∃ who, who = whoOf n msk := ⟨_, rfl⟩
      obtain ⟨L, hL⟩ : ∃ L, who.length = L := ⟨_, rfl⟩
      have hwM := whoM n mask (by omega) n16
      rw [← hmsk, ← hwho, hL] at hwM
      have rowk : ∀ {W : World} {A : Option Addr} {c : Nat} {l : List Int}, Owns W wk.heap.size 3 1 eInt A c l → RowK W K 1 eInt A l := fun {W A c l} o => .at_ (o.row fun _ => rfl) fun b hb => M.tm.kz b (o.lo b hb).1
      apply share (σ := Nat × Nat × Option Addr × Nat) (F := fun s => [(2, .int .i64 msk), (3, .int .i64 s.2.1), (10, .pointer (some ⟨g, 0, none⟩)), (12, .slice s.2.2.1 L s.2.2.2), (14, .int .i64 s.1)]) (I := fun s W => s.1 ≤ L ∧ s.2.1 ≤ 1000 ∧ ∃ K' X', TmS w W g n (tAll who msk t s.1) K' X' ∧ RowK W K' 1 eInt s.2.2.1 (whoI who)) (μ := fun s => L - s.1)
      case main =>
        intro hr
        by_cases hz : whoOf n mask = []
        · have e1 : msk = 1 := by rw [hmsk]; unfold maskOf; rw [if_pos hz]
          have e2 : who = [0] := by rw [hwho, e1]; exact who_one (by omega) n16
          have e3 : L = 1 := by rw [← hL, e2]; rfl
          have hz' : whoTo mask n = [] := hz
          rw [hz'] at own hwl ⊢
          have hlen0 : (([] : List Nat).length) = 0 := rfl
          repeat ((conv => whnf); first | (refine VCmp.tt (by omega) ?_) | (refine VCmp.ff (by omega) ?_) | (refine VIn.mk (IntWalk.i64_in _ (by omega)) ?_) | (refine VIdx.mk _ rfl (by omega) ?_) | (refine VIdx.mk 0 rfl (by omega) ?_))
          try (conv => whnf)
          refine VBs.mk _ _ (bs27 wq ((0 : Int))) ?_
          have d1 : Below wq.heap.size wq (wq.alloc (.cells #[.int .i64 ((0 : Int))] 3)) := (Below.refl _ _).alloc (Nat.le_refl _) _
          have hnc : ∀ j u, (eInt ((0 : Int)))[j]? = some u → (wq.alloc (.cells #[.int .i64 ((0 : Int))] 3)).cell? ⟨wq.heap.size, j, none⟩ = some u := fun j u hu => by
            have := range_new wq #[.int .i64 ((0 : Int))] 3 j u hu
            rwa [Nat.zero_add] at this
          generalize wq.alloc (.cells #[.int .i64 ((0 : Int))] 3) = xb at d1 hnc ⊢
          have z1 := d1.size
          have o1 := own.keep d1 (fun q hq => (own.lo q hq).2)
          repeat ((conv => whnf); first | (refine VCmp.tt (by omega) ?_) | (refine VCmp.ff (by omega) ?_) | (refine VIn.mk (IntWalk.i64_in _ (by omega)) ?_) | (refine VIdx.mk _ rfl (by omega) ?_) | (refine VIdx.mk 0 rfl (by omega) ?_))
          try (conv => whnf)
          refine VApp.keep wk.heap.size 1 8 _ Try.underlying27 info3 rfl (by decide) eInt (fun _ => rfl) one_eInt _ ((0 : Int)) (whoI_len _) o1 hnc (by omega) (by omega) (by omega) fun A2 c2 x2 oA oB hg hA => ?_
          have b2 : Below wk.heap.size wk x2 := (bq.trans (d1.mono bq.size)).grown hg (by omega) (fun q hq => (o1.lo q hq).1)
          repeat ((conv => whnf); first | (refine VCmp.tt (by omega) ?_) | (refine VCmp.ff (by omega) ?_) | (refine VIn.mk (IntWalk.i64_in _ (by omega)) ?_) | (refine VIdx.mk _ rfl (by omega) ?_) | (refine VIdx.mk 0 rfl (by omega) ?_))
          try (conv => whnf)
          have rk := rowk oA
          have rk2 : RowK x2 K 1 eInt A2 (whoI who) := by rw [e2]; exact rk
          by_cases ht1 : turn < 0
          · repeat ((conv => whnf); first | (refine VCmp.tt (by omega) ?_) | (refine VCmp.ff (by omega) ?_) | (refine VIn.mk (IntWalk.i64_in _ (by omega)) ?_) | (refine VIdx.mk _ rfl (by omega) ?_) | (refine VIdx.mk 0 rfl (by omega) ?_))
            try (conv => whnf)
            exact vloop_at hr (0, 0, A2, c2) ⟨by rw [e1]; rfl, rfl, rfl, by rw [e3]; rfl, rfl, trivial⟩ ⟨Nat.zero_le _, by dsimp only; omega, K, X, M.below b2, rk2⟩
          · by_cases ht2 : 1000 < turn
            · repeat ((conv => whnf); first | (refine VCmp.tt (by omega) ?_) | (refine VCmp.ff (by omega) ?_) | (refine VIn.mk (IntWalk.i64_in _ (by omega)) ?_) | (refine VIdx.mk _ rfl (by omega) ?_) | (refine VIdx.mk 0 rfl (by omega) ?_))
              try (conv => whnf)
              exact vloop_at hr (0, 0, A2, c2) ⟨by rw [e1]; rfl, rfl, rfl, by rw [e3]; rfl, rfl, trivial⟩ ⟨Nat.zero_le _, by dsimp only; omega, K, X, M.below b2, rk2⟩
            · obtain ⟨tn, rfl⟩ := Int.eq_ofNat_of_zero_le (Int.not_lt.1 ht1)
              repeat ((conv => whnf); first | (refine VCmp.tt (by omega) ?_) | (refine VCmp.ff (by omega) ?_) | (refine VIn.mk (IntWalk.i64_in _ (by omega)) ?_) | (refine VIdx.mk _ rfl (by omega) ?_) | (refine VIdx.mk 0 rfl (by omega) ?_))
              try (conv => whnf)
              exact vloop_at hr (0, tn, A2, c2) ⟨by rw [e1]; rfl, rfl, rfl, by rw [e3]; rfl, rfl, trivial⟩ ⟨Nat.zero_le _, by dsimp only; omega, K, X, M.below b2, rk2⟩
        · have e1 : msk = mask := by rw [hmsk]; unfold maskOf; rw [if_neg hz]
          have e2 : who = whoTo mask n := by rw [hwho, e1]; rfl
          have e3 : L = (whoTo mask n).length := by rw [← hL, e2]
          have hlp : 0 < (whoTo mask n).length := List.length_pos_iff.2 hz
          have rk2 : RowK wq K 1 eInt B (whoI who) := by rw [e2]; exact rowk own
          by_cases ht1 : turn < 0
          · repeat ((conv => whnf); first | (refine VCmp.tt (by omega) ?_) | (refine VCmp.ff (by omega) ?_) | (refine VIn.mk (IntWalk.i64_in _ (by omega)) ?_) | (refine VIdx.mk _ rfl (by omega) ?_) | (refine VIdx.mk 0 rfl (by omega) ?_))
            try (conv => whnf)
            exact vloop_at hr (0, 0, B, cB) ⟨by rw [e1]; rfl, rfl, rfl, by rw [e3]; rfl, rfl, trivial⟩ ⟨Nat.zero_le _, by dsimp only; omega, K, X, M.below bq, rk2⟩
          · by_cases ht2 : 1000 < turn
            · repeat ((conv => whnf); first | (refine VCmp.tt (by omega) ?_) | (refine VCmp.ff (by omega) ?_) | (refine VIn.mk (IntWalk.i64_in _ (by omega)) ?_) | (refine VIdx.mk _ rfl (by omega) ?_) | (refine VIdx.mk 0 rfl (by omega) ?_))
              try (conv => whnf)
              exact vloop_at hr (0, 0, B, cB) ⟨by rw [e1]; rfl, rfl, rfl, by rw [e3]; rfl, rfl, trivial⟩ ⟨Nat.zero_le _, by dsimp only; omega, K, X, M.below bq, rk2⟩
            · obtain ⟨tn, rfl⟩ := Int.eq_ofNat_of_zero_le (Int.not_lt.1 ht1)
              repeat ((conv => whnf); first | (refine VCmp.tt (by omega) ?_) | (refine VCmp.ff (by omega) ?_) | (refine VIn.mk (IntWalk.i64_in _ (by omega)) ?_) | (refine VIdx.mk _ rfl (by omega) ?_) | (refine VIdx.mk 0 rfl (by omega) ?_))
              try (conv => whnf)
              exact vloop_at hr (0, tn, B, cB) ⟨by rw [e1]; rfl, rfl, rfl, by rw [e3]; rfl, rfl, trivial⟩ ⟨Nat.zero_le _, by dsimp only; omega, K, X, M.below bq, rk2⟩
      case rest =>
        clear own bq zq hwl rowk
        rintro ⟨k, tu, B', cB'⟩ wr ⟨hk, htu, Kr, Xr, Mr, rw_⟩
        dsimp only at hk htu Mr rw_ ⊢
        have hln : L ≤ 16 := hwM.2
        have hwf : who = (List.range n).filter (mbit msk) := hwho
        have w0 : 0 < who.length := by omega
        obtain ⟨wb, wo, rfl, wz, wk0, wc⟩ := rw_ (by rw [whoI_len]; exact w0)
        by_cases hkL : k < L
        · have L1 : Ld Try.prog 3 wb (wo + k) (Eq wr) (.int .i64 (who.getD k 0)) := .of (load3 (by have := wc k _ (whoI_at (by omega)) 0 _ rfl; rw [Nat.mul_one] at this; exact this))
          obtain ⟨Ck, -, -⟩ := tAll_gd C hwf w0 (by omega) k (by omega)
          have hi : who.getD k 0 < n := by
            have h1 : who.getD k 0 ∈ who := getD_mem (by omega)
            generalize who.getD k 0 = i at h1 ⊢
            rw [hwf, List.mem_filter, List.mem_range] at h1
            exact h1.1
          have he := Ck.p.cnt.e (who.getD k 0)
          repeat ((conv => whnf); first | (refine VLoad.mk _ L1 ?_) | (refine VCmp.tt (by omega) ?_) | (refine VCmp.ff (by omega) ?_) | (refine VIn.mk (IntWalk.i64_in _ (by omega)) ?_) | (refine VIdx.mk _ rfl (by omega) ?_) | (refine VIdx.mk 0 rfl (by omega) ?_))
          try (conv => whnf)
          refine VCall.mk _ (told_any Mr.tm Ck.p.ok hi (Nat.le_refl _) n16 Ck.p.nn.symm (by omega) msk) ?_
          rintro _ x5 ⟨rfl, p5⟩
          refine ⟨_, rfl, ?_⟩
          obtain ⟨K5, X5, M5, q5⟩ := Mr.step (t' := tAll who msk t (k + 1)) Ck.p.nn p5
          repeat ((conv => whnf); first | (refine VCmp.tt (by omega) ?_) | (refine VCmp.ff (by omega) ?_) | (refine VIn.mk (IntWalk.i64_in _ (by omega)) ?_) | (refine VIdx.mk _ rfl (by omega) ?_) | (refine VIdx.mk 0 rfl (by omega) ?_))
          try (conv => whnf)
          exact .mk (k + 1, tu, some ⟨wb, wo, none⟩, cB') ⟨rfl, rfl, rfl, rfl, rfl, trivial⟩ ⟨hkL, htu, K5, X5, M5, rw_.ro q5 (by simp)⟩ (by show L - (k + 1) < L - k; omega)
        · obtain rfl : L = k := by omega
          obtain ⟨Xs, G⟩ := told_gd C hwf w0 (by omega)
          obtain ⟨t1, ht1⟩ : ∃ t1, t1 = tAll who msk t L := ⟨_, rfl⟩
          rw [hL] at G
          rw [← ht1] at G Mr
          clear ht1
          have hL16 : who.length ≤ 16 := by omega
          repeat ((conv => whnf); first | (refine VCmp.tt (by omega) ?_) | (refine VCmp.ff (by omega) ?_) | (refine VIn.mk (IntWalk.i64_in _ (by omega)) ?_) | (refine VIdx.mk _ rfl (by omega) ?_) | (refine VIdx.mk 0 rfl (by omega) ?_))
          try (conv => whnf)
          refine VLoop.mk Nat (fun r => [(3, .int .i64 tu), (10, .pointer (some ⟨g, 0, none⟩)), (12, .slice (some ⟨wb, wo, none⟩) L cB'), (15, .int .i64 r)]) (fun r W => r ≤ 4 ∧ ∃ K' X', TmS w W g n (rdTo who tu t1 r) K' X' ∧ RowK W K' 1 eInt (some ⟨wb, wo, none⟩) (whoI who)) (fun r => 4 - r) 0 ⟨rfl, rfl, rfl, rfl, trivial⟩ ⟨Nat.zero_le _, Kr, Xr, Mr, rw_⟩ ?_
          rintro r wv ⟨hr4, Kv, Xv, Mv, rv⟩
          by_cases hr5 : r < 4
          · have Gr := G.rds hL16 tu (by omega) r (by omega)
            repeat ((conv => whnf); first | (refine VCmp.tt (by omega) ?_) | (refine VCmp.ff (by omega) ?_) | (refine VIn.mk (IntWalk.i64_in _ (by omega)) ?_) | (refine VIdx.mk _ rfl (by omega) ?_) | (refine VIdx.mk 0 rfl (by omega) ?_))
            try (conv => whnf)
            refine VCall.mk _ (round_any Mv.tm Gr hL16 hL rv tu (by omega) (by omega)) ?_
            rintro _ x5 ⟨rfl, p5⟩
            refine ⟨_, rfl, ?_⟩
            have Gn : (rdTo who tu t1 (r + 1)).n = n := (G.rds hL16 tu (by omega) (r + 1) (by omega)).cal.p.nn
            obtain ⟨K5, X5, M5, q5⟩ := Mv.step (t' := rdTo who tu t1 (r + 1)) Gn p5
            repeat ((conv => whnf); first | (refine VCmp.tt (by omega) ?_) | (refine VCmp.ff (by omega) ?_) | (refine VIn.mk (IntWalk.i64_in _ (by omega)) ?_) | (refine VIdx.mk _ rfl (by omega) ?_) | (refine VIdx.mk 0 rfl (by omega) ?_))
            try (conv => whnf)
            exact .mk (r + 1) ⟨rfl, rfl, rfl, rfl, trivial⟩ ⟨hr5, K5, X5, M5, rv.ro q5 (by simp)⟩ (by show 4 - (r + 1) < 4 - r; omega)
          · obtain rfl : r = 4 := by omega
            obtain ⟨F, V, D4, D6⟩ := calm_rounds G hwf hL16 tu (tu + 1) (by omega)
            have G4 := G.rds hL16 tu (by omega) 4 (by omega)
            obtain ⟨t4, ht4⟩ : ∃ t4, t4 = rdTo who tu t1 4 := ⟨_, rfl⟩
            rw [← ht4] at D4 D6 G4 Mv
            clear ht4
            have sp4 := G4.cal.sp
            have Lsp := Mv.tm.l_sp (l := [g]) (by simp)
            rw [sp4] at Lsp
            repeat ((conv => whnf); first | (refine VLoad.mk _ (Lsp.at (Sm.refl _ _)) ?_) | (refine VCmp.tt (by omega) ?_) | (refine VCmp.ff (by omega) ?_) | (refine VIn.mk (IntWalk.i64_in _ (by omega)) ?_) | (refine VIdx.mk _ rfl (by omega) ?_) | (refine VIdx.mk 0 rfl (by omega) ?_))
            try (conv => whnf)
            refine VCall.mk _ (settled_any Mv.tm G4 D4 hL16 hL rv) ?_
            rintro _ ws ⟨rfl, bs⟩
            refine ⟨_, rfl, ?_⟩
            have Ms := Mv.below bs
            have rs := rv.ro (Ro.below (R := fun _ => False) (K := Kv) bs) id
            obtain ⟨wb', wo', e', wz', wk0', wc'⟩ := rs (by rw [whoI_len]; exact w0)
            injection e' with e'
            injection e' with e1' e2'
            subst e1'; subst e2'
            obtain ⟨tb, ib, eb, Bs, kt, ki, ke⟩ := Ms.tm.bks (by omega)
            have hla : ∀ b ∈ [g, tb, ib, eb, wb], b < ws.heap.size := fun b hb => by
              simp only [List.mem_cons, List.not_mem_nil, or_false] at hb
              rcases hb with rfl | rfl | rfl | rfl | rfl
              · exact Ms.tm.hs
              · exact Bs.tz
              · exact Bs.iz
              · exact Bs.ez
              · exact wz'
            have hs0 : Sm [g, tb, ib, eb, wb] ws ws.drew := fun _ _ => rfl
            repeat ((conv => whnf); first | (refine VCmp.tt (by omega) ?_) | (refine VCmp.ff (by omega) ?_) | (refine VIn.mk (IntWalk.i64_in _ (by omega)) ?_) | (refine VIdx.mk _ rfl (by omega) ?_) | (refine VIdx.mk 0 rfl (by omega) ?_))
            try (conv => whnf)
            refine VDraw.pl 1000 (.two [0, 1, 2, 3, 4, 5, 6, 7, 8] 9 (.one [] 10 (.one [] 11 (.stop []))) 10 (.one [] 9 (.one [] 11 (.stop [])))) (Sm [g, tb, ib, eb, wb] ws) (by kernel_rfl) (hs0) ?_
            obtain ⟨i0, hi0e⟩ : ∃ i0, i0 = who.getD 0 0 := ⟨_, rfl⟩
            have hi0w : i0 ∈ who := by rw [hi0e]; exact getD_mem w0
            have hi0 := G4.wn i0 hi0w
            have T0 := Ms.tm.below (Below.refl _ ws).drew
            have be0 : Below ws.heap.size ws ws.drew := (Below.refl _ ws).drew
            have VM0 : Ld Try.prog 3 wb (wo + 0) (Sm [g, tb, ib, eb, wb] ws) (.int .i64 (i0 : Int)) := ⟨fun W hW => load3 (by
              have := wc' 0 _ (whoI_at w0) 0 _ rfl
              rw [hi0e]
              exact cell_sm this (by simp) hW)⟩
            have VM1 := Ms.tm.l_at (l := [g, tb, ib, eb, wb]) Bs (by simp)
            have VM2 := Ms.tm.l_ptr (l := [g, tb, ib, eb, wb]) Bs (by simp) hi0 hi0
            have C0 := G4.cal.p.ok
            -- world ws (in front of the region: ws.drew), T0 : TmM ws.drew K .., node i0 (hi0), be0 : Below ws.heap.size ws ws.drew; both orders, then CaR.i with xa, bv, Va, cVa
            have A0 := T0.ag i0 hi0
            have hR0 := (C0.nd i0 hi0).2.1.rinv.len
            repeat ((conv => whnf); first | (refine VLoad.mk _ VM0 ?_) | (refine VLoad.mk _ VM1 ?_) | (refine VLoad.mk _ VM2 ?_) | (refine VCmp.tt (by omega) ?_) | (refine VCmp.ff (by omega) ?_) | (refine VIn.mk (IntWalk.i64_in _ (by omega)) ?_) | (refine VIdx.mk _ rfl (by omega) ?_) | (refine VIdx.mk 0 rfl (by omega) ?_))
            try (conv => whnf)
            refine ⟨?_, ?_⟩
            · repeat ((conv => whnf); first | (refine VCmp.tt (by omega) ?_) | (refine VCmp.ff (by omega) ?_) | (refine VIn.mk (IntWalk.i64_in _ (by omega)) ?_) | (refine VIdx.mk _ rfl (by omega) ?_) | (refine VIdx.mk 0 rfl (by omega) ?_))
              try (conv => whnf)
              refine VCall.mk _ (view_any (Xv.ag i0) (t4.S i0) (Xv.M i0) (Xv.cM i0) ws.heap.size ws.drew A0.ag A0.hb (Nat.le_refl _) A0.row.row hR0) ?_
              rintro _ x1 ⟨Va, cVa, rfl, rVa, b1⟩
              refine ⟨_, rfl, ?_⟩
              have z1 := b1.size
              have be1 : Below ws.heap.size ws x1 := be0.trans (b1.mono be0.size)
              repeat ((conv => whnf); first | (refine VS.mk (.below be1 hla) ?_) | (refine VCmp.tt (by omega) ?_) | (refine VCmp.ff (by omega) ?_) | (refine VIn.mk (IntWalk.i64_in _ (by omega)) ?_) | (refine VIdx.mk _ rfl (by omega) ?_) | (refine VIdx.mk 0 rfl (by omega) ?_))
              try (conv => whnf)
              refine .mk _ run_zero46 ?_
              conv => whnf
              refine .mk fun u2 hu2 => ?_
              have be2 : Below ws.heap.size ws u2 := be1.trans (Below.mono (by rw [hu2.out]; exact (Below.refl _ _).alloc (Nat.le_refl _) _ : Below x1.heap.size x1 u2) be1.size)
              repeat ((conv => whnf); first | (refine VS.mk (.below be2 hla) ?_) | (refine VCmp.tt (by omega) ?_) | (refine VCmp.ff (by omega) ?_) | (refine VIn.mk (IntWalk.i64_in _ (by omega)) ?_) | (refine VIdx.mk _ rfl (by omega) ?_) | (refine VIdx.mk 0 rfl (by omega) ?_))
              try (conv => whnf)
              refine VStore.new (c' := viewA (t4.S i0).vid Va (t4.S i0).mem.length cVa) hu2 (by kernel_rfl) rfl (one_viewA _ _ _ _) fun xa hxa => ?_
              have c3 : Below x1.heap.size x1 xa := by rw [hxa.out]; exact (Below.refl _ _).alloc (Nat.le_refl _) _
              have z3 : xa.heap.size = x1.heap.size + 1 := by rw [hxa.out]; simp
              obtain ⟨bv, hbv⟩ : ∃ bv, bv = x1.heap.size := ⟨_, rfl⟩
              rw [← hbv]
              have rbv : xa.rangeAt bv 0 (viewA (t4.S i0).vid Va (t4.S i0).mem.length cVa).toList := by rw [hxa.out, hbv]; exact range_new x1 _ 46
              have bea : Below ws.heap.size ws xa := be1.trans (c3.mono be1.size)
              have bwa : Below ws.heap.size ws xa := Below.trans (Below.drew (Below.refl _ ws)) (b1.trans (c3.mono z1))
              have rVa' : RowN xa ws.heap.size 3 eMb Va (t4.S i0).mem := rVa.below c3
              have zbv : ws.heap.size ≤ bv ∧ bv < xa.heap.size := ⟨by rw [hbv]; exact z1, by omega⟩
              clear hu2 hxa be2 c3 z3 hbv
              clear u2
              clear rVa b1 z1 be1
              clear x1
              repeat ((conv => whnf); first | (refine VS.mk (.below bea hla) ?_) | (refine VCmp.tt (by omega) ?_) | (refine VCmp.ff (by omega) ?_) | (refine VIn.mk (IntWalk.i64_in _ (by omega)) ?_) | (refine VIdx.mk _ rfl (by omega) ?_) | (refine VIdx.mk 0 rfl (by omega) ?_))
              try (conv => whnf)
              have Ma := Ms.below bea
              have ra := rs.ro (Ro.below (R := fun _ => False) (K := Kv) bea) id
              have hkb : Kv bv = 0 := Ms.tm.kz bv zbv.1
              have kVa : RowK xa Kv 3 eMb Va (t4.S i0).mem := RowK.new rVa' fun b hb => Ms.tm.kz b hb
              refine VLoop.mk Nat (fun r => [(3, .int .i64 tu), (10, .pointer (some ⟨g, 0, none⟩)), (12, .slice (some ⟨wb, wo, none⟩) L cB'), (16, .pointer (some ⟨bv, 0, none⟩)), (17, .int .i64 r)]) (fun r W => r ≤ 2 ∧ ∃ K' X', TmS w W g n (rdTo who (tu + 1) t4 r) K' X' ∧ Ro (· ≠ 0) Kv K' xa W) (fun r => 2 - r) 0 ⟨rfl, rfl, rfl, rfl, rfl, trivial⟩ ⟨Nat.zero_le _, Kv, Xv, Ma, Ro.refl _ _ _⟩ ?_
              rintro r wy ⟨hr2, Ky, Xy, My, qy⟩
              have ry := ra.ro qy (by simp)
              by_cases hr3 : r < 2
              · have Gr := G4.rds hL16 (tu + 1) (by omega) r (by omega)
                have rr := round_any My.tm Gr hL16 (cA := cB') hL ry (tu + 1) (by omega) (by omega)
                rw [Int.natCast_add, show ((1 : Nat) : Int) = 1 from rfl] at rr
                repeat ((conv => whnf); first | (refine VCmp.tt (by omega) ?_) | (refine VCmp.ff (by omega) ?_) | (refine VIn.mk (IntWalk.i64_in _ (by omega)) ?_) | (refine VIdx.mk _ rfl (by omega) ?_) | (refine VIdx.mk 0 rfl (by omega) ?_))
                try (conv => whnf)
                refine VCall.mk _ rr ?_
                rintro _ x5 ⟨rfl, p5⟩
                refine ⟨_, rfl, ?_⟩
                have Gn : (rdTo who (tu + 1) t4 (r + 1)).n = n := (G4.rds hL16 (tu + 1) (by omega) (r + 1) (by omega)).cal.p.nn
                obtain ⟨K5, X5, M5, q5⟩ := My.step (t' := rdTo who (tu + 1) t4 (r + 1)) Gn p5
                repeat ((conv => whnf); first | (refine VCmp.tt (by omega) ?_) | (refine VCmp.ff (by omega) ?_) | (refine VIn.mk (IntWalk.i64_in _ (by omega)) ?_) | (refine VIdx.mk _ rfl (by omega) ?_) | (refine VIdx.mk 0 rfl (by omega) ?_))
                try (conv => whnf)
                exact .mk (r + 1) ⟨rfl, rfl, rfl, rfl, rfl, trivial⟩ ⟨hr3, K5, X5, M5, qy.trans q5⟩ (by show 2 - (r + 1) < 2 - r; omega)
              · obtain rfl : r = 2 := by omega
                have G6 := G4.rds hL16 (tu + 1) (by omega) 2 (by omega)
                have hinc : ∀ q ∈ who, (t4.S q).inc = ((rdTo who (tu + 1) t4 2).S q).inc := fun q hq => (G4.xi hq).1.symm.trans (G6.xi hq).1
                obtain ⟨t6, ht6⟩ : ∃ t6, t6 = rdTo who (tu + 1) t4 2 := ⟨_, rfl⟩
                rw [← ht6] at D6 G6 My hinc
                clear ht6
                have wyd : Below wy.heap.size wy wy.drew := (Below.refl _ wy).drew
                have Myd := My.below wyd
                have ryd := ry.ro (Ro.below (R := fun _ => False) (K := Ky) wyd) id
                obtain ⟨tb2, ib2, eb2, By, kt2, ki2, ke2⟩ := My.tm.bks (by omega)
                have hzs := qy.size
                have hly : ∀ b ∈ [g, tb2, ib2, eb2, wb, bv], b < wy.heap.size := fun b hb => by
                  have h1 := bea.size
                  have h2 := zbv.2
                  simp only [List.mem_cons, List.not_mem_nil, or_false] at hb
                  rcases hb with rfl | rfl | rfl | rfl | rfl | rfl
                  · exact My.tm.hs
                  · exact By.tz
                  · exact By.iz
                  · exact By.ez
                  · omega
                  · omega
                have hsy : ∀ W, Below wy.heap.size wy W → Sm [g, tb2, ib2, eb2, wb, bv] wy W := fun W hW => .below hW hly
                have S1 : Ld Try.prog 3 wb (wo + 0) (Below wy.heap.size wy) (.int .i64 (i0 : Int)) := ⟨fun W hW => load3 (by
                  obtain ⟨wb3, wo3, e3, wz3, wk3, wc3⟩ := ry (by rw [whoI_len]; exact w0)
                  injection e3 with e3
                  injection e3 with e31 e32
                  subst e31; subst e32
                  have := wc3 0 _ (whoI_at w0) 0 _ rfl
                  rw [hi0e]
                  exact cell_sm this (by simp) (hsy W hW))⟩
                have S2 := (My.tm.l_at (l := [g, tb2, ib2, eb2, wb, bv]) By (by simp)).mono hsy
                have S3 := (My.tm.l_ptr (l := [g, tb2, ib2, eb2, wb, bv]) By (by simp) hi0 hi0).mono hsy
                have ryb := range_same rbv (qy.same bv zbv.2 (by rw [hkb]; simp))
                have S4 : Ld Try.prog 46 bv 0 (Below wy.heap.size wy) (.agg (viewA (t4.S i0).vid Va (t4.S i0).mem.length cVa)) := ⟨fun W hW => load_agg (by kernel_rfl) (by kernel_rfl) (range_same ryb (hsy W hW _ (by simp)))⟩
                repeat ((conv => whnf); first | (refine VCmp.tt (by omega) ?_) | (refine VCmp.ff (by omega) ?_) | (refine VIn.mk (IntWalk.i64_in _ (by omega)) ?_) | (refine VIdx.mk _ rfl (by omega) ?_) | (refine VIdx.mk 0 rfl (by omega) ?_))
                try (conv => whnf)
                refine VDraw.mk 1000 [([0, 1], 2), ([3, 4, 5, 6, 7, 8, 9, 10, 11, 12, 14], 13), ([], 15)] [16, 17] (Below wy.heap.size wy) (by kernel_rfl) (by kernel_rfl) (wyd) ?_
                repeat ((conv => whnf); first | (refine VCmp.tt (by omega) ?_) | (refine VCmp.ff (by omega) ?_) | (refine VIn.mk (IntWalk.i64_in _ (by omega)) ?_) | (refine VIdx.mk _ rfl (by omega) ?_) | (refine VIdx.mk 0 rfl (by omega) ?_))
                try (conv => whnf)
                refine VCall.mk _ (settled_any Myd.tm G6 D6 hL16 hL ryd) ?_
                rintro _ wp ⟨rfl, bp⟩
                refine ⟨_, rfl, ?_⟩
                have bp1 : Below wy.heap.size wy wp := wyd.trans bp
                have Mp := My.below bp1
                have Ap := Mp.tm.ag i0 hi0
                repeat ((conv => whnf); first | (refine VS.mk bp1 ?_) | (refine VLoad.mk _ S1 ?_) | (refine VLoad.mk _ S2 ?_) | (refine VLoad.mk _ S3 ?_) | (refine VLoad.mk _ S4 ?_) | (refine VCmp.tt (by omega) ?_) | (refine VCmp.ff (by omega) ?_) | (refine VIn.mk (IntWalk.i64_in _ (by omega)) ?_) | (refine VIdx.mk _ rfl (by omega) ?_) | (refine VIdx.mk 0 rfl (by omega) ?_))
                try (conv => whnf)
                refine VCall.mk _ (view_any (Xy.ag i0) (t6.S i0) (Xy.M i0) (Xy.cM i0) wp.heap.size wp Ap.ag Ap.hb (Nat.le_refl _) Ap.row.row (G6.cal.p.ok.nd i0 hi0).2.1.rinv.len) ?_
                rintro _ xv ⟨Vb, cVb, rfl, rVb, bvv⟩
                refine ⟨_, rfl, ?_⟩
                have bp2 : Below wy.heap.size wy xv := bp1.trans (bvv.mono bp1.size)
                have kVv : RowK xv Ky 3 eMb Va (t4.S i0).mem := (kVa.ro qy (by simp)).ro (Ro.below (R := fun _ => False) (K := Ky) bp2) id
                have hm6 : (t6.S i0).mem = (t4.S i0).mem := by
                  rw [D6.mem i0 hi0w, D4.mem i0 hi0w]
                  exact List.map_congr_left fun q hq => by rw [hinc q hq]
                have hml : (t4.S i0).mem.length ≤ 16 := (G4.cal.p.ok.nd i0 hi0).2.1.rinv.len
                repeat ((conv => whnf); first | (refine VS.mk bp2 ?_) | (refine VCmp.tt (by omega) ?_) | (refine VCmp.ff (by omega) ?_) | (refine VIn.mk (IntWalk.i64_in _ (by omega)) ?_) | (refine VIdx.mk _ rfl (by omega) ?_) | (refine VIdx.mk 0 rfl (by omega) ?_))
                try (conv => whnf)
                have vv := views_any (t6.S i0).vid (t4.S i0).vid Vb Va cVb cVa xv.heap.size (t6.S i0).mem.length (t4.S i0).mem.length (t6.S i0).mem (t4.S i0).mem xv rfl rfl (Nat.le_refl _) rVb.row kVv.row (by rw [hm6]; omega) (by omega)
                rw [show viSame (t6.S i0).vid (t6.S i0).mem (t4.S i0).vid (t4.S i0).mem = true from by rw [D6.vid i0 hi0w, D4.vid i0 hi0w, hm6]; exact viSame_refl _ _] at vv
                refine VCall.mk _ vv ?_
                rintro _ x6 ⟨rfl, b6⟩
                refine ⟨_, rfl, ?_⟩
                have bp3 : Below wy.heap.size wy x6 := bp2.trans (b6.mono bp2.size)
                repeat ((conv => whnf); first | (refine VS.mk bp3 ?_) | (refine VCmp.tt (by omega) ?_) | (refine VCmp.ff (by omega) ?_) | (refine VIn.mk (IntWalk.i64_in _ (by omega)) ?_) | (refine VIdx.mk _ rfl (by omega) ?_) | (refine VIdx.mk 0 rfl (by omega) ?_))
                try (conv => whnf)
                exact .mk ⟨rfl, My.be.trans (bp3.mono My.be.size)⟩
            · refine .mk _ run_zero46 ?_
              conv => whnf
              refine .mk fun u2 hu2 => ?_
              have c2 : Below ws.drew.heap.size ws.drew u2 := by rw [hu2.out]; exact (Below.refl _ _).alloc (Nat.le_refl _) _
              have be2 : Below ws.heap.size ws u2 := be0.trans (c2.mono be0.size)
              have z2 : u2.heap.size = ws.heap.size + 1 := by rw [hu2.out]; exact World.size_alloc _ _
              obtain ⟨bv, hbv⟩ : ∃ bv, bv = ws.drew.heap.size := ⟨_, rfl⟩
              have hbv' : bv = ws.heap.size := hbv
              rw [← hbv]
              have tbv : u2.there bv 0 5 := by rw [hu2.out, hbv]; exact there_new _ _ _
              repeat ((conv => whnf); first | (refine VS.mk (.below be2 hla) ?_) | (refine VCmp.tt (by omega) ?_) | (refine VCmp.ff (by omega) ?_) | (refine VIn.mk (IntWalk.i64_in _ (by omega)) ?_) | (refine VIdx.mk _ rfl (by omega) ?_) | (refine VIdx.mk 0 rfl (by omega) ?_))
              try (conv => whnf)
              have A2 := (T0.below c2).ag i0 hi0
              refine VCall.mk _ (view_any (Xv.ag i0) (t4.S i0) (Xv.M i0) (Xv.cM i0) u2.heap.size u2 A2.ag A2.hb (Nat.le_refl _) A2.row.row hR0) ?_
              rintro _ x3 ⟨Va, cVa, rfl, rVa, b3⟩
              refine ⟨_, rfl, ?_⟩
              have z3 := b3.size
              have be3 : Below ws.heap.size ws x3 := be2.trans (b3.mono be2.size)
              have t3 : x3.there bv 0 5 := there_same tbv (b3.block bv (by omega))
              repeat ((conv => whnf); first | (refine VS.mk (.below be3 hla) ?_) | (refine VCmp.tt (by omega) ?_) | (refine VCmp.ff (by omega) ?_) | (refine VIn.mk (IntWalk.i64_in _ (by omega)) ?_) | (refine VIdx.mk _ rfl (by omega) ?_) | (refine VIdx.mk 0 rfl (by omega) ?_))
              try (conv => whnf)
              refine VStore.mid (c := viewA (t4.S i0).vid Va (t4.S i0).mem.length cVa) t3 (by kernel_rfl) (one_viewA _ _ _ _) fun xa hxa => ?_
              have hg : x3.grownBy xa (some bv) := by rw [hxa.out]; exact grown_sets _ _ _ _
              have rbv : xa.rangeAt bv 0 (viewA (t4.S i0).vid Va (t4.S i0).mem.length cVa).toList := by rw [hxa.out]; exact rng_in t3 (by simp)
              have zd : ws.drew.heap.size = ws.heap.size := rfl
              have bea : Below ws.heap.size ws xa := be3.grown hg be3.size (fun q hq => by injection hq with hq; have := be0.size; omega)
              have bwa : Below ws.heap.size ws xa := Below.grown (Below.trans (Below.drew (Below.refl _ ws)) (c2.trans (b3.mono (by omega)))) hg (by omega) (fun q hq => by injection hq with hq; omega)
              have rVa' : RowN xa ws.heap.size 3 eMb Va (t4.S i0).mem := fun hl => by
                obtain ⟨g, off, e, h1, h2, h3⟩ := rVa hl
                exact ⟨g, off, e, by omega, Nat.lt_of_lt_of_le h2 hg.size, fun k x hx j u hu => (World.cell?_of_block (a := ⟨g, _, none⟩) (hg.block g h2 (fun e => by injection e with e; omega))).trans (h3 k x hx j u hu)⟩
              have zbv : ws.heap.size ≤ bv ∧ bv < xa.heap.size := ⟨by omega, by have := hg.size; omega⟩
              clear hu2 hxa be2 c2 z3 hbv hbv' hg tbv t3 be3 z2 A2 zd
              clear rVa b3
              clear x3
              clear u2
              repeat ((conv => whnf); first | (refine VS.mk (.below bea hla) ?_) | (refine VCmp.tt (by omega) ?_) | (refine VCmp.ff (by omega) ?_) | (refine VIn.mk (IntWalk.i64_in _ (by omega)) ?_) | (refine VIdx.mk _ rfl (by omega) ?_) | (refine VIdx.mk 0 rfl (by omega) ?_))
              try (conv => whnf)
              have Ma := Ms.below bea
              have ra := rs.ro (Ro.below (R := fun _ => False) (K := Kv) bea) id
              have hkb : Kv bv = 0 := Ms.tm.kz bv zbv.1
              have kVa : RowK xa Kv 3 eMb Va (t4.S i0).mem := RowK.new rVa' fun b hb => Ms.tm.kz b hb
              refine VLoop.mk Nat (fun r => [(3, .int .i64 tu), (10, .pointer (some ⟨g, 0, none⟩)), (12, .slice (some ⟨wb, wo, none⟩) L cB'), (16, .pointer (some ⟨bv, 0, none⟩)), (17, .int .i64 r)]) (fun r W => r ≤ 2 ∧ ∃ K' X', TmS w W g n (rdTo who (tu + 1) t4 r) K' X' ∧ Ro (· ≠ 0) Kv K' xa W) (fun r => 2 - r) 0 ⟨rfl, rfl, rfl, rfl, rfl, trivial⟩ ⟨Nat.zero_le _, Kv, Xv, Ma, Ro.refl _ _ _⟩ ?_
              rintro r wy ⟨hr2, Ky, Xy, My, qy⟩
              have ry := ra.ro qy (by simp)
              by_cases hr3 : r < 2
              · have Gr := G4.rds hL16 (tu + 1) (by omega) r (by omega)
                have rr := round_any My.tm Gr hL16 (cA := cB') hL ry (tu + 1) (by omega) (by omega)
                rw [Int.natCast_add, show ((1 : Nat) : Int) = 1 from rfl] at rr
                repeat ((conv => whnf); first | (refine VCmp.tt (by omega) ?_) | (refine VCmp.ff (by omega) ?_) | (refine VIn.mk (IntWalk.i64_in _ (by omega)) ?_) | (refine VIdx.mk _ rfl (by omega) ?_) | (refine VIdx.mk 0 rfl (by omega) ?_))
                try (conv => whnf)
                refine VCall.mk _ rr ?_
                rintro _ x5 ⟨rfl, p5⟩
                refine ⟨_, rfl, ?_⟩
                have Gn : (rdTo who (tu + 1) t4 (r + 1)).n = n := (G4.rds hL16 (tu + 1) (by omega) (r + 1) (by omega)).cal.p.nn
                obtain ⟨K5, X5, M5, q5⟩ := My.step (t' := rdTo who (tu + 1) t4 (r + 1)) Gn p5
                repeat ((conv => whnf); first | (refine VCmp.tt (by omega) ?_) | (refine VCmp.ff (by omega) ?_) | (refine VIn.mk (IntWalk.i64_in _ (by omega)) ?_) | (refine VIdx.mk _ rfl (by omega) ?_) | (refine VIdx.mk 0 rfl (by omega) ?_))
                try (conv => whnf)
                exact .mk (r + 1) ⟨rfl, rfl, rfl, rfl, rfl, trivial⟩ ⟨hr3, K5, X5, M5, qy.trans q5⟩ (by show 2 - (r + 1) < 2 - r; omega)
              · obtain rfl : r = 2 := by omega
                have G6 := G4.rds hL16 (tu + 1) (by omega) 2 (by omega)
                have hinc : ∀ q ∈ who, (t4.S q).inc = ((rdTo who (tu + 1) t4 2).S q).inc := fun q hq => (G4.xi hq).1.symm.trans (G6.xi hq).1
                obtain ⟨t6, ht6⟩ : ∃ t6, t6 = rdTo who (tu + 1) t4 2 := ⟨_, rfl⟩
                rw [← ht6] at D6 G6 My hinc
                clear ht6
                have wyd : Below wy.heap.size wy wy.drew := (Below.refl _ wy).drew
                have Myd := My.below wyd
                have ryd := ry.ro (Ro.below (R := fun _ => False) (K := Ky) wyd) id
                obtain ⟨tb2, ib2, eb2, By, kt2, ki2, ke2⟩ := My.tm.bks (by omega)
                have hzs := qy.size
                have hly : ∀ b ∈ [g, tb2, ib2, eb2, wb, bv], b < wy.heap.size := fun b hb => by
                  have h1 := bea.size
                  have h2 := zbv.2
                  simp only [List.mem_cons, List.not_mem_nil, or_false] at hb
                  rcases hb with rfl | rfl | rfl | rfl | rfl | rfl
                  · exact My.tm.hs
                  · exact By.tz
                  · exact By.iz
                  · exact By.ez
                  · omega
                  · omega
                have hsy : ∀ W, Below wy.heap.size wy W → Sm [g, tb2, ib2, eb2, wb, bv] wy W := fun W hW => .below hW hly
                have S1 : Ld Try.prog 3 wb (wo + 0) (Below wy.heap.size wy) (.int .i64 (i0 : Int)) := ⟨fun W hW => load3 (by
                  obtain ⟨wb3, wo3, e3, wz3, wk3, wc3⟩ := ry (by rw [whoI_len]; exact w0)
                  injection e3 with e3
                  injection e3 with e31 e32
                  subst e31; subst e32
                  have := wc3 0 _ (whoI_at w0) 0 _ rfl
                  rw [hi0e]
                  exact cell_sm this (by simp) (hsy W hW))⟩
                have S2 := (My.tm.l_at (l := [g, tb2, ib2, eb2, wb, bv]) By (by simp)).mono hsy
                have S3 := (My.tm.l_ptr (l := [g, tb2, ib2, eb2, wb, bv]) By (by simp) hi0 hi0).mono hsy
                have ryb := range_same rbv (qy.same bv zbv.2 (by rw [hkb]; simp))
                have S4 : Ld Try.prog 46 bv 0 (Below wy.heap.size wy) (.agg (viewA (t4.S i0).vid Va (t4.S i0).mem.length cVa)) := ⟨fun W hW => load_agg (by kernel_rfl) (by kernel_rfl) (range_same ryb (hsy W hW _ (by simp)))⟩
                repeat ((conv => whnf); first | (refine VCmp.tt (by omega) ?_) | (refine VCmp.ff (by omega) ?_) | (refine VIn.mk (IntWalk.i64_in _ (by omega)) ?_) | (refine VIdx.mk _ rfl (by omega) ?_) | (refine VIdx.mk 0 rfl (by omega) ?_))
                try (conv => whnf)
                refine VDraw.mk 1000 [([0, 1], 2), ([3, 4, 5, 6, 7, 8, 9, 10, 11, 12, 14], 13), ([], 15)] [16, 17] (Below wy.heap.size wy) (by kernel_rfl) (by kernel_rfl) (wyd) ?_
                repeat ((conv => whnf); first | (refine VCmp.tt (by omega) ?_) | (refine VCmp.ff (by omega) ?_) | (refine VIn.mk (IntWalk.i64_in _ (by omega)) ?_) | (refine VIdx.mk _ rfl (by omega) ?_) | (refine VIdx.mk 0 rfl (by omega) ?_))
                try (conv => whnf)
                refine VCall.mk _ (settled_any Myd.tm G6 D6 hL16 hL ryd) ?_
                rintro _ wp ⟨rfl, bp⟩
                refine ⟨_, rfl, ?_⟩
                have bp1 : Below wy.heap.size wy wp := wyd.trans bp
                have Mp := My.below bp1
                have Ap := Mp.tm.ag i0 hi0
                repeat ((conv => whnf); first | (refine VS.mk bp1 ?_) | (refine VLoad.mk _ S1 ?_) | (refine VLoad.mk _ S2 ?_) | (refine VLoad.mk _ S3 ?_) | (refine VLoad.mk _ S4 ?_) | (refine VCmp.tt (by omega) ?_) | (refine VCmp.ff (by omega) ?_) | (refine VIn.mk (IntWalk.i64_in _ (by omega)) ?_) | (refine VIdx.mk _ rfl (by omega) ?_) | (refine VIdx.mk 0 rfl (by omega) ?_))
                try (conv => whnf)
                refine VCall.mk _ (view_any (Xy.ag i0) (t6.S i0) (Xy.M i0) (Xy.cM i0) wp.heap.size wp Ap.ag Ap.hb (Nat.le_refl _) Ap.row.row (G6.cal.p.ok.nd i0 hi0).2.1.rinv.len) ?_
                rintro _ xv ⟨Vb, cVb, rfl, rVb, bvv⟩
                refine ⟨_, rfl, ?_⟩
                have bp2 : Below wy.heap.size wy xv := bp1.trans (bvv.mono bp1.size)
                have kVv : RowK xv Ky 3 eMb Va (t4.S i0).mem := (kVa.ro qy (by simp)).ro (Ro.below (R := fun _ => False) (K := Ky) bp2) id
                have hm6 : (t6.S i0).mem = (t4.S i0).mem := by
                  rw [D6.mem i0 hi0w, D4.mem i0 hi0w]
                  exact List.map_congr_left fun q hq => by rw [hinc q hq]
                have hml : (t4.S i0).mem.length ≤ 16 := (G4.cal.p.ok.nd i0 hi0).2.1.rinv.len
                repeat ((conv => whnf); first | (refine VS.mk bp2 ?_) | (refine VCmp.tt (by omega) ?_) | (refine VCmp.ff (by omega) ?_) | (refine VIn.mk (IntWalk.i64_in _ (by omega)) ?_) | (refine VIdx.mk _ rfl (by omega) ?_) | (refine VIdx.mk 0 rfl (by omega) ?_))
                try (conv => whnf)
                have vv := views_any (t6.S i0).vid (t4.S i0).vid Vb Va cVb cVa xv.heap.size (t6.S i0).mem.length (t4.S i0).mem.length (t6.S i0).mem (t4.S i0).mem xv rfl rfl (Nat.le_refl _) rVb.row kVv.row (by rw [hm6]; omega) (by omega)
                rw [show viSame (t6.S i0).vid (t6.S i0).mem (t4.S i0).vid (t4.S i0).mem = true from by rw [D6.vid i0 hi0w, D4.vid i0 hi0w, hm6]; exact viSame_refl _ _] at vv
                refine VCall.mk _ vv ?_
                rintro _ x6 ⟨rfl, b6⟩
                refine ⟨_, rfl, ?_⟩
                have bp3 : Below wy.heap.size wy x6 := bp2.trans (b6.mono bp2.size)
                repeat ((conv => whnf); first | (refine VS.mk bp3 ?_) | (refine VCmp.tt (by omega) ?_) | (refine VCmp.ff (by omega) ?_) | (refine VIn.mk (IntWalk.i64_in _ (by omega)) ?_) | (refine VIdx.mk _ rfl (by omega) ?_) | (refine VIdx.mk 0 rfl (by omega) ?_))
                try (conv => whnf)
                exact .mk ⟨rfl, My.be.trans (bp3.mono My.be.size)⟩
end Go.Proofs.Ytfbeggdbjpmppaa
namespace Go.Proofs.Ytfbeggdbjpmppaa
open Go.RowKit Go.Deep Go.ChangeShapes Go.WideShapes
theorem exists_list {α : Type} {P : Nat → α → Prop} : ∀ n, (∀ i, i < n → ∃ x, P i x) → ∃ l : List α, l.length = n ∧ ∀ k x, l[k]? = some x → P k x
  | 0, _ => ⟨[], rfl, by intro k x h; simp at h⟩
  | n + 1, h => by
    obtain ⟨l, hl, hp⟩ := exists_list n (fun i hi => h i (by omega))
    obtain ⟨x, hx⟩ := h n (by omega)
    refine ⟨l ++ [x], by simp [hl], fun k y hy => ?_⟩
    by_cases hk : k < l.length
    · rw [List.getElem?_append_left hk] at hy; exact hp k y hy
    · rw [List.getElem?_append_right (by omega)] at hy
      have := (List.getElem?_eq_some_iff.1 hy).1
      obtain rfl : k = n := by simp at this; omega
      rw [hl] at hy; simp at hy; subst hy; exact hx
theorem cell_lt {w : World} {a : Addr} {u : Value} (h : w.cell? a = some u) : a.block < w.heap.size ∧ a.spot = none := by
  refine ⟨World.block_lt_of_cell? w a h, ?_⟩
  unfold World.cell? at h
  split at h
  · cases hs : a.spot with
    | none => rfl
    | some x => rw [hs] at h; simp at h
  · cases h
namespace bulks
theorem one_le {H : Type} (d : DataW H) : 1 ≤ Rows.uptoBulk d := by
  cases d with
  | lit l => cases l <;> simp [Rows.uptoBulk]
  | nil => simp [Rows.uptoBulk]
  | ptr d => simp [Rows.uptoBulk]
  | slice elems spare => simp [Rows.uptoBulk]
  | agg parts => simp [Rows.uptoBulk]
  | iface t d => simp [Rows.uptoBulk]
  | map entries => simp [Rows.uptoBulk]
  | held h => simp [Rows.uptoBulk]
theorem part_le {H : Type} {d : DataW H} {l : List (DataW H)} (h : d ∈ l) : Rows.uptoBulk d ≤ Rows.uptoBulkAll l := by
  induction l with
  | nil => cases h
  | cons x r ih =>
    simp only [Rows.uptoBulkAll]
    cases List.mem_cons.1 h with
    | inl e => subst e; omega
    | inr e => have := ih e; omega
theorem two_le {H : Type} : ∀ (l : List (DataW H)), (∀ d ∈ l, 2 ≤ Rows.uptoBulk d) → l.length * 2 ≤ Rows.uptoBulkAll l
  | [], _ => by simp
  | d :: l, h => by
    have h1 := h d (List.mem_cons_self ..)
    have h2 := two_le l (fun x hx => h x (List.mem_cons_of_mem _ hx))
    simp only [Rows.uptoBulkAll, List.length_cons]; omega
theorem length_le {H : Type} (l : List (DataW H)) : l.length ≤ Rows.uptoBulkAll l := by
  induction l with
  | nil => simp [Rows.uptoBulkAll]
  | cons x r ih => have := one_le x; simp only [Rows.uptoBulkAll, List.length_cons]; omega
theorem slice_part {H : Type} {d : DataW H} {elems spare : List (DataW H)} (h : d ∈ elems) : Rows.uptoBulk d ≤ Rows.uptoBulk (.slice elems spare) := by
  have h1 := part_le h
  simp only [Rows.uptoBulk]; omega
end bulks
section
variable {H : Type} {enc : TypeId × Value → H} {P : Program} {W : World} {sp : Nat → Bool}
theorem open_row2 {α : Type} {t e : TypeId} {sz : Nat} (ht : P.underlying t = some (.slice e)) (hc : P.cellsOf e = sz) (hsz : 0 < sz) (ec : α → List Value) (Q : α → Nat → Prop)
    (hq2 : ∀ y b, Q y b → 2 ≤ b) (helem : ∀ (n : Nat) (cs : List Value) (y : DataW H × List MemPlace), DataW.trod enc P W 0 sp true n e cs = some y → ∃ x, cs = ec x ∧ Q x (Rows.uptoBulk y.1))
    {fuel : Nat} {v : Value} {x : DataW H × List MemPlace} (h : DataW.trod enc P W 0 sp true fuel t [v] = some x) :
    ∃ (A : Option Addr) (l : List α) (c : Nat), v = .slice A l.length c ∧ RowAt W W.heap.size sz ec A l ∧ l.length ≤ c ∧ c ≤ 9223372036854775807 ∧ l.length * 2 ≤ Rows.uptoBulk x.1 ∧ ∀ y ∈ l, ∃ b, b ≤ Rows.uptoBulk x.1 ∧ Q y b := by
  rcases open_slice ht h with ⟨h1, rfl⟩ | ⟨a, len, cap, m, n, D, Pl, h1, _, hl, hm, hmm, rfl, hi⟩
  · obtain rfl := (List.cons.inj h1).1
    exact ⟨none, [], 0, rfl, fun h => absurd h (by simp), by simp, by omega, by simp, by simp⟩
  · obtain rfl := (List.cons.inj h1).1
    obtain ⟨l, hll, hp⟩ := exists_list (P := fun i (y : α) => W.cells? 0 (a.add (i * sz)) sz = some (ec y) ∧ Q y (Rows.uptoBulk (D i))) len (fun i hil => by
      obtain ⟨cs, h2, h3⟩ := hi i (by rw [hmm]; split <;> omega)
      obtain ⟨y, rfl, hq⟩ := helem n cs _ h3
      rw [hc] at h2
      exact ⟨y, h2, hq⟩)
    refine ⟨some a, l, cap, by rw [hll], fun h0 => ?_, by omega, by unfold maxLen at hm; omega, ?_, fun y hy => ?_⟩
    · have g0 := hp 0 l[0] (List.getElem?_eq_getElem h0)
      obtain ⟨_, hlen, hcell⟩ := World.cells?_some g0.1
      have c0 := hcell 0 hsz
      have e0 : (a.add (0 * sz)).add 0 = a := by simp [Addr.add]
      rw [e0, List.getElem?_eq_getElem (by omega)] at c0
      obtain ⟨hb, hs⟩ := cell_lt c0
      have ha : a = ⟨a.block, a.off, none⟩ := by cases a; simp at hs; simp [hs]
      refine ⟨a.block, a.off, by rw [← ha], hb, fun k y hk j u hu => ?_⟩
      obtain ⟨g1, _⟩ := hp k y hk
      obtain ⟨_, hlen', hcell'⟩ := World.cells?_some g1
      have hj : j < sz := by have := (List.getElem?_eq_some_iff.1 hu).1; omega
      have := hcell' j hj
      rw [hu, ha, Addr.add_lit, Addr.add_lit] at this
      exact this
    · have := bulks.two_le ((List.range len).map D) (fun d hd => by
        obtain ⟨k, hk, rfl⟩ := List.mem_map.1 hd
        have hkl := List.mem_range.1 hk
        exact hq2 _ _ (hp k l[k] (List.getElem?_eq_getElem (by omega))).2)
      rw [List.length_map, List.length_range] at this
      rw [hll]
      simp only [Rows.uptoBulk]; omega
    · obtain ⟨k, hk⟩ := List.mem_iff_getElem?.1 hy
      have hkl := (List.getElem?_eq_some_iff.1 hk).1
      refine ⟨_, bulks.slice_part (List.mem_map.2 ⟨k, List.mem_range.2 (by omega), rfl⟩), (hp k y hk).2⟩
end
theorem cells3' : Try.prog.cellsOf 3 = 1 := by kernel_rfl
section
variable {H : Type} {enc : TypeId × Value → H} {W : World} {sp : Nat → Bool}
end
end Go.Proofs.Ytfbeggdbjpmppaa
namespace Go.Proofs.Ytfbeggdbjpmppaa
open Go.ChangeShapes Go.WideShapes Go.ChangeAt Go.RowKit
section
variable {H : Type} {enc : TypeId × Value → H} {P : Program}
theorem post_of_below {f : Func} {s : ChangeSpec} {apart fresh handsOn again : Bool} {W W' : World} {args : Array Value} {v : Value} {ds gs : List (DataW H)} {before pa pv : List MemPlace}
    (hW : DataW.Whole enc P f.params.toList s.vars apart W args.toList ds gs before)
    (hres : ∀ (b : Nat) (sp : Nat → Bool) (hd : Bool), DataW.TrodAll enc P W' b sp hd f.resultTypes.toList (v.resultList f.resultTypes.size) (s.fn H (ds ++ gs)).results [])
    (hargs : ∀ sp : Nat → Bool, (∀ p ∈ before, sp p.block = true) → DataW.TrodAll enc P W' 0 sp true f.params.toList args.toList (s.fn H (ds ++ gs)).args pa)
    (hvars : ∀ sp : Nat → Bool, (∀ p ∈ before, sp p.block = true) → DataW.TrodVars enc P W' sp s.vars (s.fn H (ds ++ gs)).vars pv)
    (hps : before = pa ++ pv) (hb : Below W.heap.size W W')
    (hok : ∀ (j : Nat) (t : TypeId) (r : Value), f.resultTypes[j]? = some t → (v.resultList f.resultTypes.size)[j]? = some r → Value.okWide P W' .any 0 t r) :
    s.post enc P f apart fresh handsOn again W args v W' := by
  have hlt : ∀ p ∈ before, p.block < W.heap.size := fun p hp => hW.lt p hp
  have hold : ∀ p ∈ before, (fun b => decide (b < W.heap.size)) p.block = true := fun p hp => by simpa using hlt p hp
  refine ⟨ds, gs, before, [], pa, pv, hW, hres _ _ _, hargs _ hold, hvars _ hold, World.keptBut_mono (fun p hp => ⟨hp, ?_⟩) (hb.frame (· ∈ before)), fun _ => ?_⟩
  · rw [hps, List.mem_append] at hp
    exact Or.inr hp
  · obtain ⟨_, _, _, _, _, hz, hn⟩ := hW
    refine ⟨hok, _, _, ([] ++ pa) ++ pv, ⟨[] ++ pa, pv, trodAll_append (hargs _ (fun _ _ => rfl)) (hres _ _ _), hvars _ (fun _ _ => rfl), rfl, ?_, ?_⟩, ?_⟩
    · intro b off hp
      have hin : MemPlace.cell b off ∈ before := by rw [hps]; simpa using hp
      rw [hb.frozen (hlt _ hin)]
      exact hz b off hin
    · intro ha
      have := hn ha
      rw [hps] at this
      simpa using this
    · intro p hp _
      rw [hps]
      simpa using hp
end
theorem own : ownKnob Try.prog.godebug = none := by kernel_rfl
theorem laidOut : laidOutB Try.prog = true := by kernel_rfl
end Go.Proofs.Ytfbeggdbjpmppaa
namespace Go.Proofs.Ytfbeggdbjpmppaa
open Go.RowKit Go.Deep Go.ChangeShapes Go.WideShapes Go.ChangeAt
theorem cells55 : Try.prog.cellsOf 55 = 5 := by kernel_rfl
theorem readable22 : Try.prog.readableRec 22 = true := by kernel_rfl
theorem row22 : 22 < Try.prog.types.size := of_decide_eq_true (by kernel_rfl)
theorem readable3 : Try.prog.readableRec 3 = true := by kernel_rfl
theorem row3 : 3 < Try.prog.types.size := of_decide_eq_true (by kernel_rfl)
section
variable {H : Type} {enc : TypeId × Value → H} {W : World} {sp : Nat → Bool}
set_option maxRecDepth 100000 in
theorem elem55 (n : Nat) (cs : List Value) (y : DataW H × List MemPlace) (h : DataW.trod enc Try.prog W 0 sp true n 55 cs = some y) : ∃ x, cs = eSp x ∧ 2 ≤ Rows.uptoBulk y.1 := by
  obtain ⟨ys, m, _, rfl, hlen, hyl, hf⟩ := DataW.trod_struct Try.underlying55 h
  rw [cells55] at hlen
  have hyl5 : ys.length = 5 := hyl
  match cs, hlen with
  | [u0, u1, u2, u3, u4], _ =>
    match ys, hyl5 with
    | [y0, y1, y2, y3, y4], _ =>
      have h0 : DataW.trod enc Try.prog W 0 sp true m 3 (([u0, u1, u2, u3, u4].drop 0).take (Try.prog.cellsOf 3)) = some y0 := hf 0 _ rfl
      have h1 : DataW.trod enc Try.prog W 0 sp true m 3 (([u0, u1, u2, u3, u4].drop 1).take (Try.prog.cellsOf 3)) = some y1 := hf 1 _ rfl
      have h2 : DataW.trod enc Try.prog W 0 sp true m 3 (([u0, u1, u2, u3, u4].drop 2).take (Try.prog.cellsOf 3)) = some y2 := hf 2 _ rfl
      have h3 : DataW.trod enc Try.prog W 0 sp true m 3 (([u0, u1, u2, u3, u4].drop 3).take (Try.prog.cellsOf 3)) = some y3 := hf 3 _ rfl
      have h4 : DataW.trod enc Try.prog W 0 sp true m 3 (([u0, u1, u2, u3, u4].drop 4).take (Try.prog.cellsOf 3)) = some y4 := hf 4 _ rfl
      rw [cells3'] at h0 h1 h2 h3 h4
      simp only [List.drop_zero, List.drop_succ_cons, List.take_succ_cons, List.take_zero] at h0 h1 h2 h3 h4
      obtain ⟨a, ha, _⟩ := DataW.trod_int Try.underlying3 h0
      obtain ⟨b, hb, _⟩ := DataW.trod_int Try.underlying3 h1
      obtain ⟨c, hc, _⟩ := DataW.trod_int Try.underlying3 h2
      obtain ⟨d, hd, _⟩ := DataW.trod_int Try.underlying3 h3
      obtain ⟨e, he, _⟩ := DataW.trod_int Try.underlying3 h4
      simp at ha hb hc hd he
      refine ⟨⟨a, b, c, d, e⟩, by simp [eSp, ha, hb, hc, hd, he], ?_⟩
      have h6 := bulks.length_le ([y0, y1, y2, y3, y4].map (·.1))
      simp only [Rows.uptoBulk, List.length_map, List.length_cons, List.length_nil] at h6 ⊢
      omega
set_option maxRecDepth 100000 in
theorem came22 {base : Nat} {v : Value} {d : DataW H} {p : List MemPlace} (hv : Value.okWide Try.prog W .any base 22 v)
    (h : DataW.Trod enc Try.prog W 0 sp true 22 v d p) (hk : Rows.uptoBulk d ≤ 1048576) :
    ∃ (A : Option Addr) (c : Nat) (l : List Sp), v = .slice A l.length c ∧ RowAt W W.heap.size 5 eSp A l ∧ l.length ≤ 100000000 := by
  obtain ⟨a, len, cap, rfl⟩ := okWide_slice Try.underlying22 hv
  obtain ⟨fuel, h⟩ := h
  obtain ⟨A, l, c, e, r, _, _, q1, q2⟩ := open_row2 (x := (d, p)) Try.underlying22 cells55 (by decide) eSp (fun _ b => 2 ≤ b) (fun y b hy => hy) elem55 h
  refine ⟨A, c, l, e, r, ?_⟩
  have hk' : Rows.uptoBulk (d, p).1 ≤ 1048576 := hk
  omega
end
end Go.Proofs.Ytfbeggdbjpmppaa
