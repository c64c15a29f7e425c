/- CrKw, joined. -/
import Derived.Test.YtoilipfgimcoiaaOe23
set_option linter.unusedVariables false
set_option linter.unusedSimpArgs false
namespace Go.Proofs.Ytoilipfgimcoiaa
open Go Go.RowKit
set_option maxRecDepth 100000 in
set_option maxHeartbeats 40000000 in
theorem orderKeeps_walk (m0 w0 : Int) (A : Option Addr) (cA nA : Nat) (l : List AcX) (w : World) (hm1 : -9223372036854775808 ≤ m0) (hm2 : m0 ≤ 9223372036854775807) (hw1 : -9223372036854775808 ≤ w0) (hw2 : w0 ≤ 9223372036854775807) (hn : l.length = nA) (hl : ActsAt w A l) :
    Calls Try.prog 7 #[.int .i64 m0, .int .i64 w0, .slice A nA cA] w fun e w' => e = .returned (.bool true) ∧ Below w.heap.size w w' := by
  refine calls_vc tab_ok Try.func7 rfl ?_
  conv => whnf
  refine VCall.mk _ (gathered_any m0 w0 hm1 hm2 hw1 hw2 w (n := memsOf m0) (win := memsOf w0) rfl rfl) ?_
  rintro _ w1 ⟨b, K1, X1, rfl, C1, q1⟩
  refine ⟨_, rfl, ?_⟩
  have hmem : ∀ m, 1 ≤ memsOf m ∧ memsOf m ≤ 4 := fun m => by have := absL_nonneg m; unfold memsOf; omega
  have I1 := CI.new (hmem m0).1 (hmem m0).2 (hmem w0).1 (hmem w0).2
  repeat ((conv => whnf); first | (refine VCmp.tt (by omega) ?_) | (refine VCmp.ff (by omega) ?_) | (refine VIn.mk (IntWalk.i64_in _ (by omega)) ?_) | (refine VIdx.mk _ rfl (by omega) ?_) | (refine VIdx.mk 0 rfl (by omega) ?_))
  try (conv => whnf)
  refine VCall.mk _ (first_any w1) ?_
  rintro _ w2 ⟨rfl, b2⟩
  refine ⟨_, rfl, ?_⟩
  have C2 := C1.below b2
  have q2 : Ro (fun z => 0 < z) zK K1 w w2 := (q1.trans (Ro.below b2)).more fun z hz => hz.1
  obtain ⟨n, hnn⟩ : ∃ n, n = memsOf m0 := ⟨_, rfl⟩
  have hn1 : 1 ≤ n := by rw [hnn]; exact (hmem m0).1
  have hn4 : n ≤ 4 := by rw [hnn]; exact (hmem m0).2
  obtain ⟨v0, hv0⟩ : ∃ v0, v0 = Crw.new (memsOf m0) (memsOf w0) := ⟨_, rfl⟩
  rw [← hv0] at C2 I1
  have hv0n : v0.n = n := by rw [hv0, hnn]; rfl
  have hv0s : ∀ a, v0.stop a = false := fun a => by rw [hv0]; rfl
  have hv0t : ∀ a, (v0.told a).length ≤ 0 := fun a => by rw [hv0]; exact Nat.le_refl _
  clear hv0 hnn
  repeat ((conv => whnf); first | (refine VCmp.tt (by omega) ?_) | (refine VCmp.ff (by omega) ?_) | (refine VIn.mk (IntWalk.i64_in _ (by omega)) ?_) | (refine VIdx.mk _ rfl (by omega) ?_) | (refine VIdx.mk 0 rfl (by omega) ?_))
  try (conv => whnf)
  refine VLoop.mk (Nat × Option Addr × Nat × Option Addr × Nat) (fun s => [(0, .int .i64 m0), (1, .int .i64 w0), (2, .slice A nA cA), (7, .pointer (some ⟨b, 0, none⟩)), (8, .slice s.2.1 s.1 s.2.2.1), (9, .slice s.2.2.2.1 s.1 s.2.2.2.2), (10, .int .i64 s.1)]) (fun s W => s.1 ≤ n ∧ ∃ Kk, CrwAt W Kk b v0 X1 ∧ KpR W Kk s.1 s.2.1 s.2.2.1 s.2.2.2.1 s.2.2.2.2 (List.replicate s.1 fl0) (List.replicate s.1 ⟨none, 0, []⟩) ∧ Ro (fun z => 0 < z) zK Kk w W) (fun s => n - s.1) (0, none, 0, none, 0) ⟨rfl, rfl, rfl, rfl, rfl, rfl, rfl, trivial⟩ ⟨Nat.zero_le _, K1, C2, ⟨OwnO.nil _ _ _ _ _, OwnO.nil _ _ _ _ _, rfl, rfl⟩, q2⟩ ?_
  rintro ⟨k, A8, c8, A9, c9⟩ W ⟨hk, Kk, Ck, Rk, qk⟩
  have M0 := Ck.l_O (l := [b]) (by simp)
  rw [hv0n] at M0
  have s0 := Sm.refl [b] W
  have hbW := Ck.hb
  have hkb := Ck.kb
  by_cases hkn : k < n
  · repeat ((conv => whnf); first | (refine VLoad.mk _ (M0.at s0) ?_) | (refine VCmp.tt (by omega) ?_) | (refine VCmp.ff (by omega) ?_) | (refine VIn.mk (IntWalk.i64_in _ (by omega)) ?_) | (refine VIdx.mk _ rfl (by omega) ?_) | (refine VIdx.mk 0 rfl (by omega) ?_))
    try (conv => whnf)
    refine VBuild.mk _ (fun W => build51z W) ?_
    repeat ((conv => whnf); first | (refine VCmp.tt (by omega) ?_) | (refine VCmp.ff (by omega) ?_) | (refine VIn.mk (IntWalk.i64_in _ (by omega)) ?_) | (refine VIdx.mk _ rfl (by omega) ?_) | (refine VIdx.mk 0 rfl (by omega) ?_))
    try (conv => whnf)
    refine VBs.mk _ _ (bs55 W) ?_
    have ba : Below W.heap.size W (W.alloc (.cells #[.int .i64 0, .int .i64 0, .int .i64 0, .int .i64 0, .int .i64 0, .slice none 0 0, .slice none 0 0] 51)) := (Below.refl _ _).alloc (Nat.le_refl _) _
    have hnc : ∀ j u, (eFl fl0)[j]? = some u → (W.alloc (.cells #[.int .i64 0, .int .i64 0, .int .i64 0, .int .i64 0, .int .i64 0, .slice none 0 0, .slice none 0 0] 51)).cell? ⟨W.heap.size, j, none⟩ = some u := fun j u hu => by
      have := range_new W #[.int .i64 0, .int .i64 0, .int .i64 0, .int .i64 0, .int .i64 0, .slice none 0 0, .slice none 0 0] 51 j u (by rw [← hu]; rfl)
      rwa [Nat.zero_add] at this
    have za : (W.alloc (.cells #[.int .i64 0, .int .i64 0, .int .i64 0, .int .i64 0, .int .i64 0, .slice none 0 0, .slice none 0 0] 51)).heap.size = W.heap.size + 1 := World.size_alloc _ _
    generalize W.alloc (.cells #[.int .i64 0, .int .i64 0, .int .i64 0, .int .i64 0, .int .i64 0, .slice none 0 0, .slice none 0 0] 51) = W1 at ba hnc za ⊢
    have D1 := Ck.below ba
    have R1 := Rk.ro (Ro.below (R := fun _ => False) ba) id id
    repeat ((conv => whnf); first | (refine VCmp.tt (by omega) ?_) | (refine VCmp.ff (by omega) ?_) | (refine VIn.mk (IntWalk.i64_in _ (by omega)) ?_) | (refine VIdx.mk _ rfl (by omega) ?_) | (refine VIdx.mk 0 rfl (by omega) ?_))
    try (conv => whnf)
    refine VApp.off 7 88 _ Try.underlying55 info51 rfl (by decide) eFl eFl_len one_eFl (List.replicate k fl0) fl0 R1.l8 R1.own8 hnc D1.kz (by omega) (by omega) fun A2 c2 K2 W2 o2 q2' kz2 => ?_
    have D2 := D1.ro q2' kz2 fun x hx => by omega
    have R2 := R1.own9.ro q2' (by omega)
    repeat ((conv => whnf); first | (refine VCmp.tt (by omega) ?_) | (refine VCmp.ff (by omega) ?_) | (refine VIn.mk (IntWalk.i64_in _ (by omega)) ?_) | (refine VIdx.mk _ rfl (by omega) ?_) | (refine VIdx.mk 0 rfl (by omega) ?_))
    try (conv => whnf)
    refine VBs.mk _ _ (bs56 W2) ?_
    have bc : Below W2.heap.size W2 (W2.alloc (.cells #[.slice none 0 0] 57)) := (Below.refl _ _).alloc (Nat.le_refl _) _
    have hnd : ∀ j u, (eRw (⟨none, 0, []⟩ : Rw DtX))[j]? = some u → (W2.alloc (.cells #[.slice none 0 0] 57)).cell? ⟨W2.heap.size, j, none⟩ = some u := fun j u hu => by
      have := range_new W2 #[.slice none 0 0] 57 j u (by rw [← hu]; rfl)
      rwa [Nat.zero_add] at this
    generalize W2.alloc (.cells #[.slice none 0 0] 57) = W3 at bc hnd ⊢
    have D3 := D2.below bc
    have o3 := o2.ro (Ro.below (R := fun _ => False) bc) id
    have R3 := R2.ro (Ro.below (R := fun _ => False) bc) id
    repeat ((conv => whnf); first | (refine VCmp.tt (by omega) ?_) | (refine VCmp.ff (by omega) ?_) | (refine VIn.mk (IntWalk.i64_in _ (by omega)) ?_) | (refine VIdx.mk _ rfl (by omega) ?_) | (refine VIdx.mk 0 rfl (by omega) ?_))
    try (conv => whnf)
    refine VApp.off 1 24 _ Try.underlying56 info57 rfl (by decide) eRw (fun _ => rfl) one_eRw (List.replicate k (⟨none, 0, []⟩ : Rw DtX)) ⟨none, 0, []⟩ R1.l9 R3 hnd D3.kz (by omega) (by omega) fun A4 c4 K4 W4 o4 q4 kz4 => ?_
    have D4 := D3.ro q4 kz4 fun x hx => by omega
    have o8 := o3.ro q4 (by omega)
    repeat ((conv => whnf); first | (refine VCmp.tt (by omega) ?_) | (refine VCmp.ff (by omega) ?_) | (refine VIn.mk (IntWalk.i64_in _ (by omega)) ?_) | (refine VIdx.mk _ rfl (by omega) ?_) | (refine VIdx.mk 0 rfl (by omega) ?_))
    try (conv => whnf)
    exact .mk (k + 1, A2, c2, A4, c4) ⟨rfl, rfl, rfl, rfl, rfl, rfl, rfl, trivial⟩ ⟨hkn, K4, D4, ⟨by rw [List.replicate_succ']; exact o8, by rw [List.replicate_succ']; exact o4, by simp, by simp⟩, (((qk.trans (Ro.below ba)).trans (q2'.more fun z hz => by omega)).trans (Ro.below bc)).trans (q4.more fun z hz => by omega)⟩ (by show n - (k + 1) < n - k; omega)
  obtain rfl : k = n := by omega
  repeat ((conv => whnf); first | (refine VLoad.mk _ (M0.at s0) ?_) | (refine VCmp.tt (by omega) ?_) | (refine VCmp.ff (by omega) ?_) | (refine VIn.mk (IntWalk.i64_in _ (by omega)) ?_) | (refine VIdx.mk _ rfl (by omega) ?_) | (refine VIdx.mk 0 rfl (by omega) ?_))
  try (conv => whnf)
  obtain ⟨tl0, htl0⟩ : ∃ tl0, tl0 = List.replicate k fl0 := ⟨_, rfl⟩
  obtain ⟨ml0, hml0⟩ : ∃ ml0 : List (Rw DtX), ml0 = List.replicate k ⟨none, 0, []⟩ := ⟨_, rfl⟩
  have Rk : KpR W Kk k A8 c8 A9 c9 tl0 ml0 := by rw [htl0, hml0]; exact Rk
  clear htl0 hml0 M0 s0
  refine VLoop.mk Nat (fun m => [(0, .int .i64 m0), (1, .int .i64 w0), (2, .slice A nA cA), (7, .pointer (some ⟨b, 0, none⟩)), (8, .slice A8 k c8), (9, .slice A9 k c9), (11, .int .i64 m)]) (fun m W => m ≤ nA ∧ m ≤ 300 ∧ ∃ Km vm Xm Gm tl ml, CrwAt W Km b vm Xm ∧ CI vm Gm m ∧ (∀ i, (vm.told i).length ≤ m) ∧ vm.n = k ∧ KpR W Km k A8 c8 A9 c9 tl ml ∧ (∀ a, a < k → vm.stop a = true → KpS W Km tl ml a (vm.o a)) ∧ Ro (fun z => 0 < z) zK Km w W) (fun m => nA - m) 0 ⟨rfl, rfl, rfl, rfl, rfl, rfl, rfl, trivial⟩ ⟨Nat.zero_le _, by omega, Kk, v0, X1, [], tl0, ml0, Ck, I1, hv0t, hv0n, Rk, fun a _ h => (by rw [hv0s a] at h; cases h), qk⟩ ?_
  clear Ck Rk qk hbW hkb
  clear I1 C2 hv0s hv0t q2 hv0n C1 q1 b2
  rintro m W ⟨hm, hm3, Km, vm, Xm, Gm, tl, ml, Cm, Im, hT, hvn, Rm, hS, qm⟩
  by_cases hmn : m < nA
  case neg =>
    repeat ((conv => whnf); first | (refine VCmp.tt (by omega) ?_) | (refine VCmp.ff (by omega) ?_) | (refine VIn.mk (IntWalk.i64_in _ (by omega)) ?_) | (refine VIdx.mk _ rfl (by omega) ?_) | (refine VIdx.mk 0 rfl (by omega) ?_))
    try (conv => whnf)
    exact .mk ⟨rfl, qm.toBelow'⟩
  by_cases hm4 : m < 300
  case neg =>
    repeat ((conv => whnf); first | (refine VCmp.tt (by omega) ?_) | (refine VCmp.ff (by omega) ?_) | (refine VIn.mk (IntWalk.i64_in _ (by omega)) ?_) | (refine VIdx.mk _ rfl (by omega) ?_) | (refine VIdx.mk 0 rfl (by omega) ?_))
    try (conv => whnf)
    exact .mk ⟨rfl, qm.toBelow'⟩
  obtain ⟨gA, oA, rfl, hgA, cl⟩ := hl.row (by omega)
  obtain ⟨x, hx⟩ : ∃ x, l[m]? = some x := ⟨_, List.getElem?_eq_getElem (by omega)⟩
  obtain ⟨hxb, hxc, hxw⟩ := hl.bod x (List.mem_of_getElem? hx)
  obtain ⟨⟨who1, who2⟩, -, -⟩ := id hxw
  have p1 := absL_nonneg x.a.who
  have n1 := Im.n1
  have n4 := Im.n4
  obtain ⟨i, hi'⟩ : ∃ i : Nat, absL x.a.who % (vm.n : Int) = i := ⟨(absL x.a.who % (vm.n : Int)).toNat, by have := Int.emod_nonneg (absL x.a.who) (show (vm.n : Int) ≠ 0 by omega); omega⟩
  have hi : i < vm.n := by have := Int.emod_lt_of_pos (absL x.a.who) (show (0 : Int) < (vm.n : Int) by omega); omega
  have hcA : ∀ V, Ro (fun z => 0 < z) zK Km w V → True := fun _ _ => trivial
  clear hcA
  have hcell : ∀ {V KV}, Ro (fun z => 0 < z) zK KV w V → ∀ j u, (eAc x)[j]? = some u → V.cell? ⟨gA, oA + m * 5 + j, none⟩ = some u := fun {V KV} q j u hu => (World.cell?_of_block (a := ⟨gA, _, none⟩) (q.same gA hgA (by show ¬ 0 < zK gA; unfold zK; omega))).trans (cl m x hx j u hu)
  have LW : Ld Try.prog 3 gA (addO (oA + mulO m 5) 1) (Sm [b, gA] W) (.int .i64 x.a.who) := ⟨fun W' hW' => load3 (by rw [show addO (oA + mulO m 5) 1 = oA + m * 5 + 1 by rw [mulO_eq]; rfl]; exact cell_sm (hcell qm 1 _ rfl) (by simp) hW')⟩
  obtain ⟨gP, oP, eP, gP1, kP, cP, fP⟩ := Cm.stp hi
  have LO := Cm.l_O (l := [b, gA, gP]) (by simp)
  have LP := Cm.l_stop (l := [b, gA, gP]) (by simp)
  rw [eP] at LP
  rw [hvn] at LO LP
  have LC : Ld Try.prog 4 gP (oP + i) (Sm [b, gA, gP] W) (.bool (vm.stop i)) := ⟨fun W' hW' => load4 (cell_sm cP (by simp) hW')⟩
  have LW3 : Ld Try.prog 3 gA (addO (oA + mulO m 5) 1) (Sm [b, gA, gP] W) (.int .i64 x.a.who) := LW.mono fun W' hW' g hg => hW' g (by simp at hg ⊢; omega)
  have sd : Sm [b, gA, gP] W W.drew := fun _ _ => rfl
  rw [hvn] at hi' hi
  have hdW : Below W.heap.size W W.drew := (Below.refl _ W).drew
  repeat ((conv => whnf); first | (refine VCmp.tt (by omega) ?_) | (refine VCmp.ff (by omega) ?_) | (refine VIn.mk (IntWalk.i64_in _ (by omega)) ?_) | (refine VIdx.mk _ rfl (by omega) ?_) | (refine VIdx.mk 0 rfl (by omega) ?_))
  try (conv => whnf)
  refine VDraw.pl 1000 (.one [0, 1, 2, 3, 4, 5, 6, 7, 8, 10, 11, 12, 13, 14] 9 (.stop [15, 16, 17, 18])) (Sm [b, gA, gP] W) (by kernel_rfl) (sd) ?_
  repeat ((conv => whnf); first | (refine VLoad.mk _ LO ?_) | (refine VLoad.mk _ LP ?_) | (refine VLoad.mk _ LW3 ?_) | (refine VCmp.tt (by omega) ?_) | (refine VCmp.ff (by omega) ?_) | (refine VIn.mk (IntWalk.i64_in _ (by omega)) ?_) | (refine VIdx.mk _ rfl (by omega) ?_) | (refine VIdx.mk 0 rfl (by omega) ?_))
  try (conv => whnf)
  refine VCall.mk _ (abs_any x.a.who W.drew who1 who2) ?_
  rintro _ x5 ⟨rfl, e5⟩
  subst x5
  refine ⟨_, rfl, ?_⟩
  repeat ((conv => whnf); first | (refine VS.mk sd ?_) | (refine VLoad.mk _ LC ?_) | (refine VCmp.tt (by omega) ?_) | (refine VCmp.ff (by omega) ?_) | (refine VIn.mk (IntWalk.i64_in _ (by omega)) ?_) | (refine VIdx.mk _ rfl (by omega) ?_) | (refine VIdx.mk 0 rfl (by omega) ?_))
  try (conv => whnf)
  refine VQ.rem i rfl rfl rfl p1 (by omega) hi' (by omega) ?_
  repeat ((conv => whnf); first | (refine VS.mk sd ?_) | (refine VLoad.mk _ LC ?_) | (refine VCmp.tt (by omega) ?_) | (refine VCmp.ff (by omega) ?_) | (refine VIn.mk (IntWalk.i64_in _ (by omega)) ?_) | (refine VIdx.mk _ rfl (by omega) ?_) | (refine VIdx.mk 0 rfl (by omega) ?_))
  try (conv => whnf)
  have q0d : Ro (fun z => 0 < z) zK Km w W.drew := qm.trans (Ro.below hdW)
  have LA : Ld Try.prog 29 gA (oA + mulO m 5) (Eq W.drew) (.agg (acA x.a x.B x.c x.a.b.length)) := .of (load_agg (cs := eAc x) (by kernel_rfl) (by kernel_rfl) fun j u hu => by rw [mulO_eq]; exact hcell q0d j u hu)
  have hxR : RowK W.drew Km 1 eByte x.B x.a.b := (RowK.at_ (K := zK) hxb fun _ _ => rfl).ro q0d (by omega)
  refine VLoad.mk _ LA ?_
  repeat ((conv => whnf); first | (refine VCmp.tt (by omega) ?_) | (refine VCmp.ff (by omega) ?_) | (refine VIn.mk (IntWalk.i64_in _ (by omega)) ?_) | (refine VIdx.mk _ rfl (by omega) ?_) | (refine VIdx.mk 0 rfl (by omega) ?_))
  try (conv => whnf)
  refine VCall.mk _ (act_any (Cm.below hdW) Im (by omega) (fun i => by have := hT i; omega) x.a hxw rfl hxc hxR) ?_
  rintro _ W2 ⟨rfl, K3, v3, X3, G3, C3, I3, S3, q3⟩
  refine ⟨_, rfl, ?_⟩
  rw [hvn, show (absL x.a.who % (k : Int)).toNat = i by omega] at S3
  have h3n : v3.n = k := S3.n.trans hvn
  have q03 : Ro (fun z => 0 < z) zK K3 w W2 := q0d.trans (q3.more fun z hz => hz.1)
  have R3 := (Rm.ro (Ro.below (R := fun _ => False) hdW) id id).ro q3 (by omega) (by omega)
  have hS3 : ∀ a, a < k → vm.stop a = true → KpS W2 K3 tl ml a (v3.o a) := fun a ha h => by
    have := ((hS a ha h).ro (Ro.below (R := fun _ => False) hdW) id).ro q3 (by omega)
    rwa [← (S3.fz a (by omega) h).1] at this
  have hT3 : ∀ j, (v3.told j).length ≤ m + 1 := fun j => by have h1 := S3.tl j; have h2 := hT j; omega
  have hsk := S3.sk
  have hst := S3.st
  obtain ⟨was, hwas⟩ : ∃ was, was = vm.stop i := ⟨_, rfl⟩
  rw [← hwas]
  clear S3 q3 LA hxR q0d qm Rm hS LC LP LO LW LW3 sd hdW Cm hT cP fP
  repeat ((conv => whnf); first | (refine VCmp.tt (by omega) ?_) | (refine VCmp.ff (by omega) ?_) | (refine VIn.mk (IntWalk.i64_in _ (by omega)) ?_) | (refine VIdx.mk _ rfl (by omega) ?_) | (refine VIdx.mk 0 rfl (by omega) ?_))
  try (conv => whnf)
  refine VLoop.mk Nat (fun a => [(0, .int .i64 m0), (1, .int .i64 w0), (2, .slice (some ⟨gA, oA, none⟩) nA cA), (7, .pointer (some ⟨b, 0, none⟩)), (8, .slice A8 k c8), (9, .slice A9 k c9), (11, .int .i64 m), (12, .bool was), (14, .int .i64 a)]) (fun a V => a ≤ k ∧ ∃ Ka tla mla, CrwAt V Ka b v3 X3 ∧ KpR V Ka k A8 c8 A9 c9 tla mla ∧ (∀ c, c < k → v3.stop c = true → (c < a ∨ vm.stop c = true) → KpS V Ka tla mla c (v3.o c)) ∧ Ro (fun z => 0 < z) zK Ka w V) (fun a => k - a) 0 ⟨rfl, rfl, rfl, rfl, rfl, rfl, rfl, rfl, rfl, trivial⟩ ⟨Nat.zero_le _, K3, tl, ml, C3, R3, fun c hc _ h => hS3 c hc (h.resolve_left (by omega)), q03⟩ ?_
  clear C3 R3 hS3 q03
  rintro a V ⟨ha, Ka, tla, mla, Ca, Ra, hSa, qa⟩
  by_cases hak : a < k
  case neg =>
    obtain rfl : a = k := by omega
    have M3 := Ca.l_O (l := [b]) (by simp)
    rw [h3n] at M3
    have sV := Sm.refl [b] V
    repeat ((conv => whnf); first | (refine VLoad.mk _ (M3.at sV) ?_) | (refine VCmp.tt (by omega) ?_) | (refine VCmp.ff (by omega) ?_) | (refine VIn.mk (IntWalk.i64_in _ (by omega)) ?_) | (refine VIdx.mk _ rfl (by omega) ?_) | (refine VIdx.mk 0 rfl (by omega) ?_))
    try (conv => whnf)
    exact .mk (m + 1) ⟨rfl, rfl, rfl, rfl, rfl, rfl, rfl, trivial⟩ ⟨hmn, hm4, Ka, v3, X3, G3, tla, mla, Ca, I3, hT3, h3n, Ra, fun c hc h => hSa c hc h (.inl hc), qa⟩ (by show nA - (m + 1) < nA - m; omega)
  have hav : a < v3.n := by omega
  obtain ⟨gO, oO, bi, Y, eO, gO1, kO, hbi, cO, AO⟩ := Ca.ord hav
  have hbV := Ca.hb
  obtain ⟨gQ, oQ, eQ, gQ1, kQ, cQ, fQ⟩ := Ca.stp hav
  have I3w := I3.w4
  have hsr := I3.sr a hav
  have hprod : v3.n * v3.win ≤ 16 := Nat.mul_le_mul (show v3.n ≤ 4 by omega) (show v3.win ≤ 4 from I3w)
  have WO := I3.wf (by omega) hav
  have hhl := I3.heldLen (by omega) hav
  have hb9 : ∀ d ∈ (v3.o a).held, d.b.length ≤ 9 := fun d hd => by
    obtain ⟨-, j, hj, -, -, -, h5⟩ := (I3.mi a hav).he d hd
    exact I3.sb j hj d.b (List.mem_of_getElem? h5)
  have M0 := Ca.l_O (l := [b, gO, gQ, gA]) (by simp)
  have MQ := Ca.l_stop (l := [b, gO, gQ, gA]) (by simp)
  rw [h3n] at M0 MQ
  have M00 := M0
  rw [eO] at M0
  rw [eQ] at MQ
  have N0 : Ld Try.prog 42 gO (oO + a) (Sm [b, gO, gQ, gA] V) (.pointer (some ⟨bi, 0, none⟩)) := ⟨fun W hW => load42 (cell_sm cO (by simp) hW)⟩
  have NQ : Ld Try.prog 4 gQ (oQ + a) (Sm [b, gO, gQ, gA] V) (.bool (v3.stop a)) := ⟨fun W hW => load4 (cell_sm cQ (by simp) hW)⟩
  have gA1 : gA < V.heap.size := Nat.lt_of_lt_of_le hgA qa.size
  have hL : ∀ g ∈ [b, gO, gQ, gA], g < V.heap.size := fun g hg => by
    simp only [List.mem_cons, List.not_mem_nil, or_false] at hg
    rcases hg with rfl | rfl | rfl | rfl <;> assumption
  have hcV := hcell qa
  have LK : Ld Try.prog 3 gA (addO (oA + mulO m 5) 0) (Sm [b, gO, gQ, gA] V) (.int .i64 x.a.kd) := ⟨fun W' hW' => load3 (by rw [show addO (oA + mulO m 5) 0 = oA + m * 5 + 0 by rw [mulO_eq]; rfl]; exact cell_sm (hcV 0 _ rfl) (by simp) hW')⟩
  have LW : Ld Try.prog 3 gA (addO (oA + mulO m 5) 1) (Sm [b, gO, gQ, gA] V) (.int .i64 x.a.who) := ⟨fun W' hW' => load3 (by rw [show addO (oA + mulO m 5) 1 = oA + m * 5 + 1 by rw [mulO_eq]; rfl]; exact cell_sm (hcV 1 _ rfl) (by simp) hW')⟩
  have s0 := Sm.refl [b, gO, gQ, gA] V
  repeat ((conv => whnf); first | (refine VLoad.mk _ (M0.at s0) ?_) | (refine VLoad.mk _ (N0.at s0) ?_) | (refine VCmp.tt (by omega) ?_) | (refine VCmp.ff (by omega) ?_) | (refine VIn.mk (IntWalk.i64_in _ (by omega)) ?_) | (refine VIdx.mk _ rfl (by omega) ?_) | (refine VIdx.mk 0 rfl (by omega) ?_))
  try (conv => whnf)
  refine VCall.mk _ (content_any AO (by omega)) ?_
  rintro _ V1 ⟨A2, c2, H2, rfl, -, -, b1⟩
  refine ⟨_, rfl, ?_⟩
  have s1 : Sm [b, gO, gQ, gA] V V1 := .below b1 hL
  repeat ((conv => whnf); first | (refine VLoad.mk _ (M0.at s1) ?_) | (refine VLoad.mk _ (N0.at s1) ?_) | (refine VCmp.tt (by omega) ?_) | (refine VCmp.ff (by omega) ?_) | (refine VIn.mk (IntWalk.i64_in _ (by omega)) ?_) | (refine VIdx.mk _ rfl (by omega) ?_) | (refine VIdx.mk 0 rfl (by omega) ?_))
  try (conv => whnf)
  refine VCall.mk _ (keeps_any (Ca.below b1) I3 (by omega) hav) ?_
  rintro _ V2 ⟨rfl, b2⟩
  refine ⟨_, rfl, ?_⟩
  have b02 : Below V.heap.size V V2 := b1.trans (b2.mono b1.size)
  have s2 : Sm [b, gO, gQ, gA] V V2 := .below b02 hL
  have s2d : Sm [b, gO, gQ, gA] V V2.drew := s2
  have b02d : Below V.heap.size V V2.drew := b02.drew
  have C2 := Ca.below b02d
  obtain ⟨g8, o8, rfl, g81, k8, -, -⟩ := Ra.at8 (by omega)
  obtain ⟨g9, o9, rfl, g91, k9, -, -⟩ := Ra.at9 (by omega)
  have R2 := Ra.ro (Ro.below (R := fun _ => False) b02d) id id
  have q2 := qa.trans (Ro.below b02d)
  cases hsta : v3.stop a with
  | false =>
    rw [hsta] at NQ
    repeat ((conv => whnf); first | (refine VLoad.mk _ (M0.at s2) ?_) | (refine VCmp.tt (by omega) ?_) | (refine VCmp.ff (by omega) ?_) | (refine VIn.mk (IntWalk.i64_in _ (by omega)) ?_) | (refine VIdx.mk _ rfl (by omega) ?_) | (refine VIdx.mk 0 rfl (by omega) ?_))
    try (conv => whnf)
    refine VDraw.pl 1000 (.one [0, 1, 2, 3, 4, 5, 6, 7, 8, 9, 10, 11, 12, 13, 14, 15, 16, 17, 18, 19, 20, 21, 22, 23, 24, 25, 27, 28, 29, 30, 31] 26 (.stop [32, 33, 34])) (Sm [b, gO, gQ, gA] V) (by kernel_rfl) (s2) ?_
    repeat ((conv => whnf); first | (refine VLoad.mk _ M0 ?_) | (refine VLoad.mk _ N0 ?_) | (refine VLoad.mk _ MQ ?_) | (refine VLoad.mk _ NQ ?_) | (refine VLoad.mk _ LK ?_) | (refine VLoad.mk _ LW ?_) | (refine VS.mk s2d ?_) | (refine VCmp.tt (by omega) ?_) | (refine VCmp.ff (by omega) ?_) | (refine VIn.mk (IntWalk.i64_in _ (by omega)) ?_) | (refine VIdx.mk _ rfl (by omega) ?_) | (refine VIdx.mk 0 rfl (by omega) ?_))
    try (conv => whnf)
    refine VDraw.pl 1000 (.one [0, 1, 2, 3, 4, 5, 6, 7, 8, 9, 10, 11, 12, 13, 14, 15, 16, 17, 18] 19 (.one [] 20 (.one [21, 22, 23, 24, 25, 26, 27, 28, 29, 30, 31, 32, 33] 34 (.one [] 35 (.stop [36, 37, 38]))))) (Sm [b, gO, gQ, gA] V) (by kernel_rfl) (s2d) ?_
    repeat ((conv => whnf); first | (refine VLoad.mk _ M0 ?_) | (refine VLoad.mk _ N0 ?_) | (refine VLoad.mk _ MQ ?_) | (refine VLoad.mk _ NQ ?_) | (refine VLoad.mk _ LK ?_) | (refine VLoad.mk _ LW ?_) | (refine VS.mk s2d ?_) | (refine VCmp.tt (by omega) ?_) | (refine VCmp.ff (by omega) ?_) | (refine VIn.mk (IntWalk.i64_in _ (by omega)) ?_) | (refine VIdx.mk _ rfl (by omega) ?_) | (refine VIdx.mk 0 rfl (by omega) ?_))
    try (conv => whnf)
    exact .mk (a + 1) ⟨rfl, rfl, rfl, rfl, rfl, rfl, rfl, rfl, rfl, trivial⟩ ⟨hak, Ka, tla, mla, C2.below (Below.refl _ _).drew, R2.ro (Ro.below (R := fun _ => False) (Below.refl _ _).drew) id id, fun c hc h hor => by
      have hca : c ≠ a := fun e => by rw [e, hsta] at h; cases h
      exact ((hSa c hc h (hor.imp (fun h => by omega) id)).ro (Ro.below (R := fun _ => False) b02d) id).ro (Ro.below (R := fun _ => False) (Below.refl _ _).drew) id, q2.trans (Ro.below (Below.refl _ _).drew)⟩ (by show k - (a + 1) < k - a; omega)
  | true =>
    rw [hsta] at NQ
    have S2 : vm.stop a = true → ∀ c, c < k → v3.stop c = true → (c < a + 1 ∨ vm.stop c = true) → KpS V2.drew Ka tla mla c (v3.o c) := fun hv c hc h hor => by
      refine (hSa c hc h ?_).ro (Ro.below (R := fun _ => False) b02d) id
      by_cases e : c = a
      · exact .inr (by rw [e]; exact hv)
      · exact hor.imp (fun h => by omega) id
    repeat ((conv => whnf); first | (refine VLoad.mk _ (M0.at s2) ?_) | (refine VCmp.tt (by omega) ?_) | (refine VCmp.ff (by omega) ?_) | (refine VIn.mk (IntWalk.i64_in _ (by omega)) ?_) | (refine VIdx.mk _ rfl (by omega) ?_) | (refine VIdx.mk 0 rfl (by omega) ?_))
    try (conv => whnf)
    by_cases k7 : x.a.kd = 7
    case neg =>
      replace S2 := S2 (by rw [← hst k7]; exact hsta)
      refine VDraw.pl 1000 (.one [0, 1, 2, 3, 4, 5, 6, 7, 8, 9, 10, 11, 12, 13, 14, 15, 16, 17, 18, 19, 20, 21, 22, 23, 24, 25, 27, 28, 29, 30, 31] 26 (.stop [32, 33, 34])) (Sm [b, gO, gQ, gA] V) (by kernel_rfl) (s2) ?_
      repeat ((conv => whnf); first | (refine VLoad.mk _ M0 ?_) | (refine VLoad.mk _ N0 ?_) | (refine VLoad.mk _ MQ ?_) | (refine VLoad.mk _ NQ ?_) | (refine VLoad.mk _ LK ?_) | (refine VLoad.mk _ LW ?_) | (refine VS.mk s2d ?_) | (refine VCmp.tt (by omega) ?_) | (refine VCmp.ff (by omega) ?_) | (refine VIn.mk (IntWalk.i64_in _ (by omega)) ?_) | (refine VIdx.mk _ rfl (by omega) ?_) | (refine VIdx.mk 0 rfl (by omega) ?_))
      try (conv => whnf)
      obtain ⟨fx, fx1, fx2, fx3, fx4⟩ := (S2 a hak hsta (.inl (by omega))).ex
      obtain ⟨my, my1, my2, my3, my4⟩ := (S2 a hak hsta (.inl (by omega))).ey
      have r8 := (R2.g8).2 a fx fx1
      have r9 := (R2.g9).2 a my my1
      have g8W : g8 < V2.drew.heap.size := R2.b8
      have g9W : g9 < V2.drew.heap.size := R2.b9
      obtain ⟨gO', oO', bi', Y', eO', gO1', kO', hbi', cO', AO'⟩ := C2.ord hav
      rw [hbi] at hbi'
      injection hbi' with hbi'
      subst hbi'
      have F8 : Ld Try.prog 51 g8 (o8 + mulO a 7) (Sm [g8, g9] V2.drew) (.agg (flV fx.f fx.A fx.c fx.f.slots.length fx.H fx.k fx.f.have_.length)) := ⟨fun W' hW' => load_agg (cs := eFl fx) (by kernel_rfl) (by kernel_rfl) fun j u hu => cell_sm (by rw [mulO_eq]; exact r8 j u hu) (by simp) hW'⟩
      have F9 : Ld Try.prog 57 g9 (o9 + a) (Sm [g8, g9] V2.drew) (.slice my.A my.l.length my.c) := ⟨fun W' hW' => load57s (cell_sm r9 (by simp) hW')⟩
      have hdT : Below V2.drew.heap.size V2.drew V2.drew.drew := (Below.refl _ V2.drew).drew
      have sT0 : Sm [b, gO, gQ, gA] V V2.drew.drew ∧ Sm [g8, g9] V2.drew V2.drew.drew := ⟨s2d, fun _ _ => rfl⟩
      have hL8 : ∀ g ∈ [g8, g9], g < V2.drew.heap.size := fun g hg => by
        simp only [List.mem_cons, List.not_mem_nil, or_false] at hg
        rcases hg with rfl | rfl <;> assumption
      have hLT : ∀ g ∈ [b, gO, gQ, gA], g < V2.drew.heap.size := fun g hg => Nat.lt_of_lt_of_le (hL g hg) b02d.size
      have sTx : ∀ {Z}, Below V2.drew.heap.size V2.drew Z → Sm [b, gO, gQ, gA] V Z ∧ Sm [g8, g9] V2.drew Z := fun {Z} hb => ⟨Sm.trans s2d (.below hb hLT), .below hb hL8⟩
      repeat ((conv => whnf); first | (refine VCmp.tt (by omega) ?_) | (refine VCmp.ff (by omega) ?_) | (refine VIn.mk (IntWalk.i64_in _ (by omega)) ?_) | (refine VIdx.mk _ rfl (by omega) ?_) | (refine VIdx.mk 0 rfl (by omega) ?_))
      try (conv => whnf)
      refine VDraw.pl 1000 (.one [0, 1, 2, 3, 4, 5, 6, 7, 8, 9, 10, 11, 12, 13, 14, 15, 16, 17, 18] 19 (.one [] 20 (.one [21, 22, 23, 24, 25, 26, 27, 28, 29, 30, 31, 32, 33] 34 (.one [] 35 (.stop [36, 37, 38]))))) (fun Z => Sm [b, gO, gQ, gA] V Z ∧ Sm [g8, g9] V2.drew Z) (by kernel_rfl) (sT0) ?_
      repeat ((conv => whnf); first | (refine VLoad.mk _ (M0.mono fun _ h => h.1) ?_) | (refine VLoad.mk _ (N0.mono fun _ h => h.1) ?_) | (refine VLoad.mk _ (MQ.mono fun _ h => h.1) ?_) | (refine VLoad.mk _ (NQ.mono fun _ h => h.1) ?_) | (refine VLoad.mk _ (F8.mono fun _ h => h.2) ?_) | (refine VLoad.mk _ (F9.mono fun _ h => h.2) ?_) | (refine VCmp.tt (by omega) ?_) | (refine VCmp.ff (by omega) ?_) | (refine VIn.mk (IntWalk.i64_in _ (by omega)) ?_) | (refine VIdx.mk _ rfl (by omega) ?_) | (refine VIdx.mk 0 rfl (by omega) ?_))
      try (conv => whnf)
      refine VCall.mk _ (content_any (AO'.below hdT) (by omega)) ?_
      rintro _ V3 ⟨A3, c3, H3, rfl, RS3, RH3, b3⟩
      refine ⟨_, rfl, ?_⟩
      have bT3 : Below V2.drew.heap.size V2.drew V3 := hdT.trans b3
      repeat ((conv => whnf); first | (refine VS.mk (sTx bT3) ?_) | (refine VLoad.mk _ (M0.mono fun _ h => h.1) ?_) | (refine VLoad.mk _ (N0.mono fun _ h => h.1) ?_) | (refine VLoad.mk _ (F8.mono fun _ h => h.2) ?_) | (refine VLoad.mk _ (F9.mono fun _ h => h.2) ?_) | (refine VCmp.tt (by omega) ?_) | (refine VCmp.ff (by omega) ?_) | (refine VIn.mk (IntWalk.i64_in _ (by omega)) ?_) | (refine VIdx.mk _ rfl (by omega) ?_) | (refine VIdx.mk 0 rfl (by omega) ?_))
      try (conv => whnf)
      rw [flA_of]
      refine VCall.mk _ (sameFlush_any fx.f (flO (v3.o a)) fx.A A3 fx.H H3 fx.c c3 fx.k 16 _ _ _ 16 V3 rfl rfl rfl (by simp) (fx3.ro (Ro.below (R := fun _ => False) bT3) id).row RS3.row (fx4.ro (Ro.below (R := fun _ => False) bT3) id).row RH3.row (by rw [fx2]; show (v3.o a).slots.length ≤ _; omega) (by rw [fx2]; simp)) ?_
      rintro _ V4 ⟨rfl, b4⟩
      refine ⟨_, rfl, ?_⟩
      rw [decide_eq_true fx2]
      have bT4 : Below V2.drew.heap.size V2.drew V4 := bT3.trans (b4.mono bT3.size)
      repeat ((conv => whnf); first | (refine VS.mk (sTx bT4) ?_) | (refine VLoad.mk _ (M0.mono fun _ h => h.1) ?_) | (refine VLoad.mk _ (N0.mono fun _ h => h.1) ?_) | (refine VLoad.mk _ (F8.mono fun _ h => h.2) ?_) | (refine VLoad.mk _ (F9.mono fun _ h => h.2) ?_) | (refine VCmp.tt (by omega) ?_) | (refine VCmp.ff (by omega) ?_) | (refine VIn.mk (IntWalk.i64_in _ (by omega)) ?_) | (refine VIdx.mk _ rfl (by omega) ?_) | (refine VIdx.mk 0 rfl (by omega) ?_))
      try (conv => whnf)
      refine VCall.mk _ (messages_any (AO'.below bT4) WO (fun d hd => by have := hb9 d hd; omega) hhl) ?_
      rintro _ V5 ⟨A5, c5, xs, rfl, R5, B5, hM5, b5⟩
      refine ⟨_, rfl, ?_⟩
      have bT5 : Below V2.drew.heap.size V2.drew V5 := bT4.trans (b5.mono bT4.size)
      have hml : my.l.length = (v3.o a).held.length := by have := my2.perm.length_eq; simpa using this
      repeat ((conv => whnf); first | (refine VS.mk (sTx bT5) ?_) | (refine VLoad.mk _ (M0.mono fun _ h => h.1) ?_) | (refine VLoad.mk _ (N0.mono fun _ h => h.1) ?_) | (refine VLoad.mk _ (F8.mono fun _ h => h.2) ?_) | (refine VLoad.mk _ (F9.mono fun _ h => h.2) ?_) | (refine VCmp.tt (by omega) ?_) | (refine VCmp.ff (by omega) ?_) | (refine VIn.mk (IntWalk.i64_in _ (by omega)) ?_) | (refine VIdx.mk _ rfl (by omega) ?_) | (refine VIdx.mk 0 rfl (by omega) ?_))
      try (conv => whnf)
      refine VCall.mk _ (sameDatas_any my.A A5 my.c c5 _ _ V5.heap.size my.l xs V5 rfl rfl (Nat.le_refl _) (my3.ro (Ro.below (R := fun _ => False) bT5) id).row R5.row (fun z hz => ((my4 z hz).ro (Ro.below (R := fun _ => False) bT5) id).row) (fun z hz => (B5 z hz).row) (fun z hz => by have := hb9 z.d (my2.perm.mem_iff.1 (List.mem_map_of_mem hz)); omega) (by omega)) ?_
      rintro _ V6 ⟨rfl, b6⟩
      refine ⟨_, rfl, ?_⟩
      rw [decide_eq_true (my2.uniq hM5)]
      have bT6 : Below V2.drew.heap.size V2.drew V6 := bT5.trans (b6.mono bT5.size)
      repeat ((conv => whnf); first | (refine VS.mk (sTx bT6) ?_) | (refine VCmp.tt (by omega) ?_) | (refine VCmp.ff (by omega) ?_) | (refine VIn.mk (IntWalk.i64_in _ (by omega)) ?_) | (refine VIdx.mk _ rfl (by omega) ?_) | (refine VIdx.mk 0 rfl (by omega) ?_))
      try (conv => whnf)
      exact .mk (a + 1) ⟨rfl, rfl, rfl, rfl, rfl, rfl, rfl, rfl, rfl, trivial⟩ ⟨hak, Ka, tla, mla, C2.below bT6, R2.ro (Ro.below (R := fun _ => False) bT6) id id, fun c hc h hor => (S2 c hc h hor).ro (Ro.below (R := fun _ => False) bT6) id, q2.trans (Ro.below bT6)⟩ (by show k - (a + 1) < k - a; omega)
    cases was with
    | true =>
      replace S2 := S2 (by
        rcases hsk a hsta with h | h
        · exact h
        · rw [h]; exact hwas.symm)
      refine VDraw.pl 1000 (.one [0, 1, 2, 3, 4, 5, 6, 7, 8, 9, 10, 11, 12, 13, 14, 15, 16, 17, 18, 19, 20, 21, 22, 23, 24, 25, 27, 28, 29, 30, 31] 26 (.stop [32, 33, 34])) (Sm [b, gO, gQ, gA] V) (by kernel_rfl) (s2) ?_
      repeat ((conv => whnf); first | (refine VLoad.mk _ M0 ?_) | (refine VLoad.mk _ N0 ?_) | (refine VLoad.mk _ MQ ?_) | (refine VLoad.mk _ NQ ?_) | (refine VLoad.mk _ LK ?_) | (refine VLoad.mk _ LW ?_) | (refine VS.mk s2d ?_) | (refine VCmp.tt (by omega) ?_) | (refine VCmp.ff (by omega) ?_) | (refine VIn.mk (IntWalk.i64_in _ (by omega)) ?_) | (refine VIdx.mk _ rfl (by omega) ?_) | (refine VIdx.mk 0 rfl (by omega) ?_))
      try (conv => whnf)
      obtain ⟨fx, fx1, fx2, fx3, fx4⟩ := (S2 a hak hsta (.inl (by omega))).ex
      obtain ⟨my, my1, my2, my3, my4⟩ := (S2 a hak hsta (.inl (by omega))).ey
      have r8 := (R2.g8).2 a fx fx1
      have r9 := (R2.g9).2 a my my1
      have g8W : g8 < V2.drew.heap.size := R2.b8
      have g9W : g9 < V2.drew.heap.size := R2.b9
      obtain ⟨gO', oO', bi', Y', eO', gO1', kO', hbi', cO', AO'⟩ := C2.ord hav
      rw [hbi] at hbi'
      injection hbi' with hbi'
      subst hbi'
      have F8 : Ld Try.prog 51 g8 (o8 + mulO a 7) (Sm [g8, g9] V2.drew) (.agg (flV fx.f fx.A fx.c fx.f.slots.length fx.H fx.k fx.f.have_.length)) := ⟨fun W' hW' => load_agg (cs := eFl fx) (by kernel_rfl) (by kernel_rfl) fun j u hu => cell_sm (by rw [mulO_eq]; exact r8 j u hu) (by simp) hW'⟩
      have F9 : Ld Try.prog 57 g9 (o9 + a) (Sm [g8, g9] V2.drew) (.slice my.A my.l.length my.c) := ⟨fun W' hW' => load57s (cell_sm r9 (by simp) hW')⟩
      have hdT : Below V2.drew.heap.size V2.drew V2.drew.drew := (Below.refl _ V2.drew).drew
      have sT0 : Sm [b, gO, gQ, gA] V V2.drew.drew ∧ Sm [g8, g9] V2.drew V2.drew.drew := ⟨s2d, fun _ _ => rfl⟩
      have hL8 : ∀ g ∈ [g8, g9], g < V2.drew.heap.size := fun g hg => by
        simp only [List.mem_cons, List.not_mem_nil, or_false] at hg
        rcases hg with rfl | rfl <;> assumption
      have hLT : ∀ g ∈ [b, gO, gQ, gA], g < V2.drew.heap.size := fun g hg => Nat.lt_of_lt_of_le (hL g hg) b02d.size
      have sTx : ∀ {Z}, Below V2.drew.heap.size V2.drew Z → Sm [b, gO, gQ, gA] V Z ∧ Sm [g8, g9] V2.drew Z := fun {Z} hb => ⟨Sm.trans s2d (.below hb hLT), .below hb hL8⟩
      repeat ((conv => whnf); first | (refine VCmp.tt (by omega) ?_) | (refine VCmp.ff (by omega) ?_) | (refine VIn.mk (IntWalk.i64_in _ (by omega)) ?_) | (refine VIdx.mk _ rfl (by omega) ?_) | (refine VIdx.mk 0 rfl (by omega) ?_))
      try (conv => whnf)
      refine VDraw.pl 1000 (.one [0, 1, 2, 3, 4, 5, 6, 7, 8, 9, 10, 11, 12, 13, 14, 15, 16, 17, 18] 19 (.one [] 20 (.one [21, 22, 23, 24, 25, 26, 27, 28, 29, 30, 31, 32, 33] 34 (.one [] 35 (.stop [36, 37, 38]))))) (fun Z => Sm [b, gO, gQ, gA] V Z ∧ Sm [g8, g9] V2.drew Z) (by kernel_rfl) (sT0) ?_
      repeat ((conv => whnf); first | (refine VLoad.mk _ (M0.mono fun _ h => h.1) ?_) | (refine VLoad.mk _ (N0.mono fun _ h => h.1) ?_) | (refine VLoad.mk _ (MQ.mono fun _ h => h.1) ?_) | (refine VLoad.mk _ (NQ.mono fun _ h => h.1) ?_) | (refine VLoad.mk _ (F8.mono fun _ h => h.2) ?_) | (refine VLoad.mk _ (F9.mono fun _ h => h.2) ?_) | (refine VCmp.tt (by omega) ?_) | (refine VCmp.ff (by omega) ?_) | (refine VIn.mk (IntWalk.i64_in _ (by omega)) ?_) | (refine VIdx.mk _ rfl (by omega) ?_) | (refine VIdx.mk 0 rfl (by omega) ?_))
      try (conv => whnf)
      refine VCall.mk _ (content_any (AO'.below hdT) (by omega)) ?_
      rintro _ V3 ⟨A3, c3, H3, rfl, RS3, RH3, b3⟩
      refine ⟨_, rfl, ?_⟩
      have bT3 : Below V2.drew.heap.size V2.drew V3 := hdT.trans b3
      repeat ((conv => whnf); first | (refine VS.mk (sTx bT3) ?_) | (refine VLoad.mk _ (M0.mono fun _ h => h.1) ?_) | (refine VLoad.mk _ (N0.mono fun _ h => h.1) ?_) | (refine VLoad.mk _ (F8.mono fun _ h => h.2) ?_) | (refine VLoad.mk _ (F9.mono fun _ h => h.2) ?_) | (refine VCmp.tt (by omega) ?_) | (refine VCmp.ff (by omega) ?_) | (refine VIn.mk (IntWalk.i64_in _ (by omega)) ?_) | (refine VIdx.mk _ rfl (by omega) ?_) | (refine VIdx.mk 0 rfl (by omega) ?_))
      try (conv => whnf)
      rw [flA_of]
      refine VCall.mk _ (sameFlush_any fx.f (flO (v3.o a)) fx.A A3 fx.H H3 fx.c c3 fx.k 16 _ _ _ 16 V3 rfl rfl rfl (by simp) (fx3.ro (Ro.below (R := fun _ => False) bT3) id).row RS3.row (fx4.ro (Ro.below (R := fun _ => False) bT3) id).row RH3.row (by rw [fx2]; show (v3.o a).slots.length ≤ _; omega) (by rw [fx2]; simp)) ?_
      rintro _ V4 ⟨rfl, b4⟩
      refine ⟨_, rfl, ?_⟩
      rw [decide_eq_true fx2]
      have bT4 : Below V2.drew.heap.size V2.drew V4 := bT3.trans (b4.mono bT3.size)
      repeat ((conv => whnf); first | (refine VS.mk (sTx bT4) ?_) | (refine VLoad.mk _ (M0.mono fun _ h => h.1) ?_) | (refine VLoad.mk _ (N0.mono fun _ h => h.1) ?_) | (refine VLoad.mk _ (F8.mono fun _ h => h.2) ?_) | (refine VLoad.mk _ (F9.mono fun _ h => h.2) ?_) | (refine VCmp.tt (by omega) ?_) | (refine VCmp.ff (by omega) ?_) | (refine VIn.mk (IntWalk.i64_in _ (by omega)) ?_) | (refine VIdx.mk _ rfl (by omega) ?_) | (refine VIdx.mk 0 rfl (by omega) ?_))
      try (conv => whnf)
      refine VCall.mk _ (messages_any (AO'.below bT4) WO (fun d hd => by have := hb9 d hd; omega) hhl) ?_
      rintro _ V5 ⟨A5, c5, xs, rfl, R5, B5, hM5, b5⟩
      refine ⟨_, rfl, ?_⟩
      have bT5 : Below V2.drew.heap.size V2.drew V5 := bT4.trans (b5.mono bT4.size)
      have hml : my.l.length = (v3.o a).held.length := by have := my2.perm.length_eq; simpa using this
      repeat ((conv => whnf); first | (refine VS.mk (sTx bT5) ?_) | (refine VLoad.mk _ (M0.mono fun _ h => h.1) ?_) | (refine VLoad.mk _ (N0.mono fun _ h => h.1) ?_) | (refine VLoad.mk _ (F8.mono fun _ h => h.2) ?_) | (refine VLoad.mk _ (F9.mono fun _ h => h.2) ?_) | (refine VCmp.tt (by omega) ?_) | (refine VCmp.ff (by omega) ?_) | (refine VIn.mk (IntWalk.i64_in _ (by omega)) ?_) | (refine VIdx.mk _ rfl (by omega) ?_) | (refine VIdx.mk 0 rfl (by omega) ?_))
      try (conv => whnf)
      refine VCall.mk _ (sameDatas_any my.A A5 my.c c5 _ _ V5.heap.size my.l xs V5 rfl rfl (Nat.le_refl _) (my3.ro (Ro.below (R := fun _ => False) bT5) id).row R5.row (fun z hz => ((my4 z hz).ro (Ro.below (R := fun _ => False) bT5) id).row) (fun z hz => (B5 z hz).row) (fun z hz => by have := hb9 z.d (my2.perm.mem_iff.1 (List.mem_map_of_mem hz)); omega) (by omega)) ?_
      rintro _ V6 ⟨rfl, b6⟩
      refine ⟨_, rfl, ?_⟩
      rw [decide_eq_true (my2.uniq hM5)]
      have bT6 : Below V2.drew.heap.size V2.drew V6 := bT5.trans (b6.mono bT5.size)
      repeat ((conv => whnf); first | (refine VS.mk (sTx bT6) ?_) | (refine VCmp.tt (by omega) ?_) | (refine VCmp.ff (by omega) ?_) | (refine VIn.mk (IntWalk.i64_in _ (by omega)) ?_) | (refine VIdx.mk _ rfl (by omega) ?_) | (refine VIdx.mk 0 rfl (by omega) ?_))
      try (conv => whnf)
      exact .mk (a + 1) ⟨rfl, rfl, rfl, rfl, rfl, rfl, rfl, rfl, rfl, trivial⟩ ⟨hak, Ka, tla, mla, C2.below bT6, R2.ro (Ro.below (R := fun _ => False) bT6) id id, fun c hc h hor => (S2 c hc h hor).ro (Ro.below (R := fun _ => False) bT6) id, q2.trans (Ro.below bT6)⟩ (by show k - (a + 1) < k - a; omega)
    | false =>
      have hiI : (i : Int) = absL x.a.who % (k : Int) := hi'.symm
      refine VDraw.pl 1000 (.one [0, 1, 2, 3, 4, 5, 6, 7, 8, 9, 10, 11, 12, 13, 14, 15, 16, 17, 18, 19, 20, 21, 22, 23, 24, 25, 27, 28, 29, 30, 31] 26 (.stop [32, 33, 34])) (Sm [b, gO, gQ, gA] V) (by kernel_rfl) (s2) ?_
      repeat ((conv => whnf); first | (refine VLoad.mk _ M0 ?_) | (refine VLoad.mk _ N0 ?_) | (refine VLoad.mk _ MQ ?_) | (refine VLoad.mk _ NQ ?_) | (refine VLoad.mk _ LK ?_) | (refine VLoad.mk _ LW ?_) | (refine VS.mk s2d ?_) | (refine VCmp.tt (by omega) ?_) | (refine VCmp.ff (by omega) ?_) | (refine VIn.mk (IntWalk.i64_in _ (by omega)) ?_) | (refine VIdx.mk _ rfl (by omega) ?_) | (refine VIdx.mk 0 rfl (by omega) ?_))
      try (conv => whnf)
      refine VCall.mk _ (abs_any x.a.who V2.drew who1 who2) ?_
      rintro _ x5 ⟨rfl, e5⟩
      subst x5
      refine ⟨_, rfl, ?_⟩
      repeat ((conv => whnf); first | (refine VS.mk s2d ?_) | (refine VLoad.mk _ M0 ?_) | (refine VLoad.mk _ N0 ?_) | (refine VLoad.mk _ MQ ?_) | (refine VLoad.mk _ NQ ?_) | (refine VLoad.mk _ LK ?_) | (refine VLoad.mk _ LW ?_) | (refine VCmp.tt (by omega) ?_) | (refine VCmp.ff (by omega) ?_) | (refine VIn.mk (IntWalk.i64_in _ (by omega)) ?_) | (refine VIdx.mk _ rfl (by omega) ?_) | (refine VIdx.mk 0 rfl (by omega) ?_))
      try (conv => whnf)
      refine VQ.rem i rfl rfl rfl p1 (by omega) hi' (by omega) ?_
      by_cases hai : a = i
      case neg =>
        replace S2 := S2 (by
          rcases hsk a hsta with h | h
          · exact h
          · exact absurd h hai)
        have haI : ¬ (a : Int) = i := by omega
        repeat ((conv => whnf); first | (refine VS.mk s2d ?_) | (refine VLoad.mk _ M0 ?_) | (refine VLoad.mk _ N0 ?_) | (refine VLoad.mk _ MQ ?_) | (refine VLoad.mk _ NQ ?_) | (refine VLoad.mk _ LK ?_) | (refine VLoad.mk _ LW ?_) | (refine VCmp.tt (by omega) ?_) | (refine VCmp.ff (by omega) ?_) | (refine VIn.mk (IntWalk.i64_in _ (by omega)) ?_) | (refine VIdx.mk _ rfl (by omega) ?_) | (refine VIdx.mk 0 rfl (by omega) ?_))
        try (conv => whnf)
        obtain ⟨fx, fx1, fx2, fx3, fx4⟩ := (S2 a hak hsta (.inl (by omega))).ex
        obtain ⟨my, my1, my2, my3, my4⟩ := (S2 a hak hsta (.inl (by omega))).ey
        have r8 := (R2.g8).2 a fx fx1
        have r9 := (R2.g9).2 a my my1
        have g8W : g8 < V2.drew.heap.size := R2.b8
        have g9W : g9 < V2.drew.heap.size := R2.b9
        obtain ⟨gO', oO', bi', Y', eO', gO1', kO', hbi', cO', AO'⟩ := C2.ord hav
        rw [hbi] at hbi'
        injection hbi' with hbi'
        subst hbi'
        have F8 : Ld Try.prog 51 g8 (o8 + mulO a 7) (Sm [g8, g9] V2.drew) (.agg (flV fx.f fx.A fx.c fx.f.slots.length fx.H fx.k fx.f.have_.length)) := ⟨fun W' hW' => load_agg (cs := eFl fx) (by kernel_rfl) (by kernel_rfl) fun j u hu => cell_sm (by rw [mulO_eq]; exact r8 j u hu) (by simp) hW'⟩
        have F9 : Ld Try.prog 57 g9 (o9 + a) (Sm [g8, g9] V2.drew) (.slice my.A my.l.length my.c) := ⟨fun W' hW' => load57s (cell_sm r9 (by simp) hW')⟩
        have hdT : Below V2.drew.heap.size V2.drew V2.drew.drew := (Below.refl _ V2.drew).drew
        have sT0 : Sm [b, gO, gQ, gA] V V2.drew.drew ∧ Sm [g8, g9] V2.drew V2.drew.drew := ⟨s2d, fun _ _ => rfl⟩
        have hL8 : ∀ g ∈ [g8, g9], g < V2.drew.heap.size := fun g hg => by
          simp only [List.mem_cons, List.not_mem_nil, or_false] at hg
          rcases hg with rfl | rfl <;> assumption
        have hLT : ∀ g ∈ [b, gO, gQ, gA], g < V2.drew.heap.size := fun g hg => Nat.lt_of_lt_of_le (hL g hg) b02d.size
        have sTx : ∀ {Z}, Below V2.drew.heap.size V2.drew Z → Sm [b, gO, gQ, gA] V Z ∧ Sm [g8, g9] V2.drew Z := fun {Z} hb => ⟨Sm.trans s2d (.below hb hLT), .below hb hL8⟩
        repeat ((conv => whnf); first | (refine VCmp.tt (by omega) ?_) | (refine VCmp.ff (by omega) ?_) | (refine VIn.mk (IntWalk.i64_in _ (by omega)) ?_) | (refine VIdx.mk _ rfl (by omega) ?_) | (refine VIdx.mk 0 rfl (by omega) ?_))
        try (conv => whnf)
        refine VDraw.pl 1000 (.one [0, 1, 2, 3, 4, 5, 6, 7, 8, 9, 10, 11, 12, 13, 14, 15, 16, 17, 18] 19 (.one [] 20 (.one [21, 22, 23, 24, 25, 26, 27, 28, 29, 30, 31, 32, 33] 34 (.one [] 35 (.stop [36, 37, 38]))))) (fun Z => Sm [b, gO, gQ, gA] V Z ∧ Sm [g8, g9] V2.drew Z) (by kernel_rfl) (sT0) ?_
        repeat ((conv => whnf); first | (refine VLoad.mk _ (M0.mono fun _ h => h.1) ?_) | (refine VLoad.mk _ (N0.mono fun _ h => h.1) ?_) | (refine VLoad.mk _ (MQ.mono fun _ h => h.1) ?_) | (refine VLoad.mk _ (NQ.mono fun _ h => h.1) ?_) | (refine VLoad.mk _ (F8.mono fun _ h => h.2) ?_) | (refine VLoad.mk _ (F9.mono fun _ h => h.2) ?_) | (refine VCmp.tt (by omega) ?_) | (refine VCmp.ff (by omega) ?_) | (refine VIn.mk (IntWalk.i64_in _ (by omega)) ?_) | (refine VIdx.mk _ rfl (by omega) ?_) | (refine VIdx.mk 0 rfl (by omega) ?_))
        try (conv => whnf)
        refine VCall.mk _ (content_any (AO'.below hdT) (by omega)) ?_
        rintro _ V3 ⟨A3, c3, H3, rfl, RS3, RH3, b3⟩
        refine ⟨_, rfl, ?_⟩
        have bT3 : Below V2.drew.heap.size V2.drew V3 := hdT.trans b3
        repeat ((conv => whnf); first | (refine VS.mk (sTx bT3) ?_) | (refine VLoad.mk _ (M0.mono fun _ h => h.1) ?_) | (refine VLoad.mk _ (N0.mono fun _ h => h.1) ?_) | (refine VLoad.mk _ (F8.mono fun _ h => h.2) ?_) | (refine VLoad.mk _ (F9.mono fun _ h => h.2) ?_) | (refine VCmp.tt (by omega) ?_) | (refine VCmp.ff (by omega) ?_) | (refine VIn.mk (IntWalk.i64_in _ (by omega)) ?_) | (refine VIdx.mk _ rfl (by omega) ?_) | (refine VIdx.mk 0 rfl (by omega) ?_))
        try (conv => whnf)
        rw [flA_of]
        refine VCall.mk _ (sameFlush_any fx.f (flO (v3.o a)) fx.A A3 fx.H H3 fx.c c3 fx.k 16 _ _ _ 16 V3 rfl rfl rfl (by simp) (fx3.ro (Ro.below (R := fun _ => False) bT3) id).row RS3.row (fx4.ro (Ro.below (R := fun _ => False) bT3) id).row RH3.row (by rw [fx2]; show (v3.o a).slots.length ≤ _; omega) (by rw [fx2]; simp)) ?_
        rintro _ V4 ⟨rfl, b4⟩
        refine ⟨_, rfl, ?_⟩
        rw [decide_eq_true fx2]
        have bT4 : Below V2.drew.heap.size V2.drew V4 := bT3.trans (b4.mono bT3.size)
        repeat ((conv => whnf); first | (refine VS.mk (sTx bT4) ?_) | (refine VLoad.mk _ (M0.mono fun _ h => h.1) ?_) | (refine VLoad.mk _ (N0.mono fun _ h => h.1) ?_) | (refine VLoad.mk _ (F8.mono fun _ h => h.2) ?_) | (refine VLoad.mk _ (F9.mono fun _ h => h.2) ?_) | (refine VCmp.tt (by omega) ?_) | (refine VCmp.ff (by omega) ?_) | (refine VIn.mk (IntWalk.i64_in _ (by omega)) ?_) | (refine VIdx.mk _ rfl (by omega) ?_) | (refine VIdx.mk 0 rfl (by omega) ?_))
        try (conv => whnf)
        refine VCall.mk _ (messages_any (AO'.below bT4) WO (fun d hd => by have := hb9 d hd; omega) hhl) ?_
        rintro _ V5 ⟨A5, c5, xs, rfl, R5, B5, hM5, b5⟩
        refine ⟨_, rfl, ?_⟩
        have bT5 : Below V2.drew.heap.size V2.drew V5 := bT4.trans (b5.mono bT4.size)
        have hml : my.l.length = (v3.o a).held.length := by have := my2.perm.length_eq; simpa using this
        repeat ((conv => whnf); first | (refine VS.mk (sTx bT5) ?_) | (refine VLoad.mk _ (M0.mono fun _ h => h.1) ?_) | (refine VLoad.mk _ (N0.mono fun _ h => h.1) ?_) | (refine VLoad.mk _ (F8.mono fun _ h => h.2) ?_) | (refine VLoad.mk _ (F9.mono fun _ h => h.2) ?_) | (refine VCmp.tt (by omega) ?_) | (refine VCmp.ff (by omega) ?_) | (refine VIn.mk (IntWalk.i64_in _ (by omega)) ?_) | (refine VIdx.mk _ rfl (by omega) ?_) | (refine VIdx.mk 0 rfl (by omega) ?_))
        try (conv => whnf)
        refine VCall.mk _ (sameDatas_any my.A A5 my.c c5 _ _ V5.heap.size my.l xs V5 rfl rfl (Nat.le_refl _) (my3.ro (Ro.below (R := fun _ => False) bT5) id).row R5.row (fun z hz => ((my4 z hz).ro (Ro.below (R := fun _ => False) bT5) id).row) (fun z hz => (B5 z hz).row) (fun z hz => by have := hb9 z.d (my2.perm.mem_iff.1 (List.mem_map_of_mem hz)); omega) (by omega)) ?_
        rintro _ V6 ⟨rfl, b6⟩
        refine ⟨_, rfl, ?_⟩
        rw [decide_eq_true (my2.uniq hM5)]
        have bT6 : Below V2.drew.heap.size V2.drew V6 := bT5.trans (b6.mono bT5.size)
        repeat ((conv => whnf); first | (refine VS.mk (sTx bT6) ?_) | (refine VCmp.tt (by omega) ?_) | (refine VCmp.ff (by omega) ?_) | (refine VIn.mk (IntWalk.i64_in _ (by omega)) ?_) | (refine VIdx.mk _ rfl (by omega) ?_) | (refine VIdx.mk 0 rfl (by omega) ?_))
        try (conv => whnf)
        exact .mk (a + 1) ⟨rfl, rfl, rfl, rfl, rfl, rfl, rfl, rfl, rfl, trivial⟩ ⟨hak, Ka, tla, mla, C2.below bT6, R2.ro (Ro.below (R := fun _ => False) bT6) id id, fun c hc h hor => (S2 c hc h hor).ro (Ro.below (R := fun _ => False) bT6) id, q2.trans (Ro.below bT6)⟩ (by show k - (a + 1) < k - a; omega)
      have haI : (a : Int) = i := by omega
      repeat ((conv => whnf); first | (refine VS.mk s2d ?_) | (refine VLoad.mk _ M0 ?_) | (refine VLoad.mk _ N0 ?_) | (refine VLoad.mk _ MQ ?_) | (refine VLoad.mk _ NQ ?_) | (refine VLoad.mk _ LK ?_) | (refine VLoad.mk _ LW ?_) | (refine VLoad.mk _ (M0.at s2d) ?_) | (refine VLoad.mk _ (N0.at s2d) ?_) | (refine VCmp.tt (by omega) ?_) | (refine VCmp.ff (by omega) ?_) | (refine VIn.mk (IntWalk.i64_in _ (by omega)) ?_) | (refine VIdx.mk _ rfl (by omega) ?_) | (refine VIdx.mk 0 rfl (by omega) ?_))
      try (conv => whnf)
      have AO2 := AO.below b02d
      refine VCall.mk _ (content_any AO2 (by omega)) ?_
      rintro _ Y1 ⟨A6, c6, H6, rfl, RS6, RH6, b6'⟩
      refine ⟨_, rfl, ?_⟩
      have bY1 : Below V.heap.size V Y1 := b02d.trans (b6'.mono b02d.size)
      have RY := Ra.ro (Ro.below (R := fun _ => False) bY1) id id
      obtain ⟨fN, hfN⟩ : ∃ fN : FlX, fN = ⟨flO (v3.o a), A6, c6, H6, 16⟩ := ⟨_, rfl⟩
      have hfl : (flA (v3.o a) A6 c6 H6).toList = eFl fN := by rw [hfN]; exact (eFl_of _ _ _ _).symm
      have thY := RY.g8.1 a hak
      repeat ((conv => whnf); first | (refine VCmp.tt (by omega) ?_) | (refine VCmp.ff (by omega) ?_) | (refine VIn.mk (IntWalk.i64_in _ (by omega)) ?_) | (refine VIdx.mk _ rfl (by omega) ?_) | (refine VIdx.mk 0 rfl (by omega) ?_))
      try (conv => whnf)
      refine VStore.mid (c := flA (v3.o a) A6 c6 H6) (by rw [mulO_eq]; exact thY) (by kernel_rfl) (one_flA _ _ _ _) fun Y2 hY2 => ?_
      obtain ⟨own8, qY2⟩ := RY.own8.setN eFl_len (i := a) (by rw [RY.l8]; exact hak) fN (w' := Y2) (by rw [hY2.out, mulO_eq, hfl])
      clear hY2
      have CY1 := Ca.below bY1
      have CY2 := CY1.ro qY2 (fun y hy => CY1.kz y (Nat.le_trans qY2.size hy)) fun x hx => by omega
      have own9 := RY.own9.ro qY2 (by omega)
      have sY1 : Sm [b, gO, gQ, gA] V Y1 := .below bY1 hL
      have hbk : Ka b = 1 := Ca.kb
      have zA : zK gA = 0 := rfl
      have kA : Ka gA = 0 := by rw [qa.kk gA hgA]; rfl
      have sY2 : Sm [b, gO, gQ, gA] V Y2 := sY1.trans (.ro qY2 fun g hg => by
        refine ⟨Nat.lt_of_lt_of_le (hL g hg) bY1.size, ?_⟩
        simp only [List.mem_cons, List.not_mem_nil, or_false] at hg
        rcases hg with rfl | rfl | rfl | rfl <;> omega)
      have qVY2 : Ro (fun z => 500 ≤ z) Ka Ka V Y2 := (Ro.below bY1).trans (qY2.more fun z hz => by omega)
      have AOY : OrdAt Y2 Ka (100 + 4 * a) bi (v3.o a) Y := AO.ro qVY2 (fun y hy => Ca.kz y (Nat.le_trans qVY2.size hy)) (by omega) fun y hy => by unfold inR at hy; omega
      repeat ((conv => whnf); first | (refine VLoad.mk _ (M0.at sY2) ?_) | (refine VLoad.mk _ (N0.at sY2) ?_) | (refine VCmp.tt (by omega) ?_) | (refine VCmp.ff (by omega) ?_) | (refine VIn.mk (IntWalk.i64_in _ (by omega)) ?_) | (refine VIdx.mk _ rfl (by omega) ?_) | (refine VIdx.mk 0 rfl (by omega) ?_))
      try (conv => whnf)
      refine VCall.mk _ (messages_any AOY WO (fun d hd => by have := hb9 d hd; omega) hhl) ?_
      rintro _ Y3 ⟨A7, c7, ys, rfl, R7, B7, hM7, b7⟩
      refine ⟨_, rfl, ?_⟩
      have own9' := own9.ro (Ro.below (R := fun _ => False) b7) id
      have own8' := own8.ro (Ro.below (R := fun _ => False) b7) id
      have CY3 := CY2.below b7
      obtain ⟨mN, hmN⟩ : ∃ mN : Rw DtX, mN = ⟨A7, c7, ys⟩ := ⟨_, rfl⟩
      have RY3 : KpR Y3 Ka k (some ⟨g8, o8, none⟩) c8 (some ⟨g9, o9, none⟩) c9 (tla.set a fN) mla := ⟨own8', own9', by rw [List.length_set]; exact Ra.l8, Ra.l9⟩
      have th9 := RY3.g9.1 a hak 0 (by omega)
      rw [Nat.add_zero] at th9
      repeat ((conv => whnf); first | (refine VCmp.tt (by omega) ?_) | (refine VCmp.ff (by omega) ?_) | (refine VIn.mk (IntWalk.i64_in _ (by omega)) ?_) | (refine VIdx.mk _ rfl (by omega) ?_) | (refine VIdx.mk 0 rfl (by omega) ?_))
      try (conv => whnf)
      refine VStore.cell (by kernel_rfl) th9.1 th9.2 rfl rfl fun V8 hV8 => ?_
      obtain ⟨own9w, qY8⟩ := own9'.set1 (fun _ => rfl) (i := a) (by rw [Ra.l9]; exact hak) (y := mN) (v := .slice A7 ys.length c7) (by rw [hmN]; rfl) (w' := V8) (by rw [hV8.out]; rfl)
      clear hV8
      have C8 := CY3.ro qY8 (fun y hy => CY3.kz y (Nat.le_trans qY8.size hy)) fun x hx => by omega
      have own8w := own8'.ro qY8 (by omega)
      have R8 : KpR V8 Ka k (some ⟨g8, o8, none⟩) c8 (some ⟨g9, o9, none⟩) c9 (tla.set a fN) (mla.set a mN) := ⟨own8w, own9w, by rw [List.length_set]; exact Ra.l8, by rw [List.length_set]; exact Ra.l9⟩
      have qV8 : Ro (fun z => 500 ≤ z) Ka Ka V V8 := (qVY2.trans (Ro.below b7)).trans (qY8.more fun z hz => by omega)
      have z8 := qV8.size
      have q8 := qa.trans (qV8.more (R' := fun z => 0 < z) fun z hz => by omega)
      have s8 : Sm [b, gO, gQ, gA] V V8 := .ro qV8 fun g hg => by
        refine ⟨hL g hg, ?_⟩
        simp only [List.mem_cons, List.not_mem_nil, or_false] at hg
        rcases hg with rfl | rfl | rfl | rfl <;> omega
      have qY18 : Ro (fun z => 500 ≤ z) Ka Ka Y1 V8 := ((qY2.more fun z hz => by omega).trans (Ro.below b7)).trans (qY8.more fun z hz => by omega)
      have S8 : ∀ c, c < k → v3.stop c = true → (c < a + 1 ∨ vm.stop c = true) → KpS V8 Ka (tla.set a fN) (mla.set a mN) c (v3.o c) := fun c hc h hor => by
        by_cases e : c = a
        · subst e
          refine ⟨⟨fN, List.getElem?_set_self (by rw [Ra.l8]; exact hak), by rw [hfN], ?_, ?_⟩, ⟨mN, List.getElem?_set_self (by rw [Ra.l9]; exact hak), by rw [hmN]; exact hM7, ?_, ?_⟩⟩
          · rw [hfN]; exact (RS6.rowK fun y hy => Ca.kz y (Nat.le_trans b02d.size hy)).ro qY18 (by omega)
          · rw [hfN]; exact (RH6.rowK fun y hy => Ca.kz y (Nat.le_trans b02d.size hy)).ro qY18 (by omega)
          · rw [hmN]; exact (R7.rowK fun y hy => Ca.kz y (Nat.le_trans qVY2.size hy)).ro qY8 (by omega)
          · rw [hmN]; exact fun z hz => ((B7 z hz).rowK fun y hy => Ca.kz y (Nat.le_trans qVY2.size hy)).ro qY8 (by omega)
        · exact ((hSa c hc h (hor.imp (fun h => by omega) id)).ro qV8 (by omega)).other e _ _
      obtain ⟨fx, fx1, fx2, fx3, fx4⟩ := (S8 a hak hsta (.inl (by omega))).ex
      obtain ⟨my, my1, my2, my3, my4⟩ := (S8 a hak hsta (.inl (by omega))).ey
      have r8 := (R8.g8).2 a fx fx1
      have r9 := (R8.g9).2 a my my1
      have g8W : g8 < V8.heap.size := R8.b8
      have g9W : g9 < V8.heap.size := R8.b9
      obtain ⟨gO', oO', bi', Y', eO', gO1', kO', hbi', cO', AO'⟩ := C8.ord hav
      rw [hbi] at hbi'
      injection hbi' with hbi'
      subst hbi'
      have F8 : Ld Try.prog 51 g8 (o8 + mulO a 7) (Sm [g8, g9] V8) (.agg (flV fx.f fx.A fx.c fx.f.slots.length fx.H fx.k fx.f.have_.length)) := ⟨fun W' hW' => load_agg (cs := eFl fx) (by kernel_rfl) (by kernel_rfl) fun j u hu => cell_sm (by rw [mulO_eq]; exact r8 j u hu) (by simp) hW'⟩
      have F9 : Ld Try.prog 57 g9 (o9 + a) (Sm [g8, g9] V8) (.slice my.A my.l.length my.c) := ⟨fun W' hW' => load57s (cell_sm r9 (by simp) hW')⟩
      have hdT : Below V8.heap.size V8 V8.drew := (Below.refl _ V8).drew
      have sT0 : Sm [b, gO, gQ, gA] V V8.drew ∧ Sm [g8, g9] V8 V8.drew := ⟨s8, fun _ _ => rfl⟩
      have hL8 : ∀ g ∈ [g8, g9], g < V8.heap.size := fun g hg => by
        simp only [List.mem_cons, List.not_mem_nil, or_false] at hg
        rcases hg with rfl | rfl <;> assumption
      have hLT : ∀ g ∈ [b, gO, gQ, gA], g < V8.heap.size := fun g hg => Nat.lt_of_lt_of_le (hL g hg) z8
      have sTx : ∀ {Z}, Below V8.heap.size V8 Z → Sm [b, gO, gQ, gA] V Z ∧ Sm [g8, g9] V8 Z := fun {Z} hb => ⟨Sm.trans s8 (.below hb hLT), .below hb hL8⟩
      repeat ((conv => whnf); first | (refine VCmp.tt (by omega) ?_) | (refine VCmp.ff (by omega) ?_) | (refine VIn.mk (IntWalk.i64_in _ (by omega)) ?_) | (refine VIdx.mk _ rfl (by omega) ?_) | (refine VIdx.mk 0 rfl (by omega) ?_))
      try (conv => whnf)
      refine VDraw.pl 1000 (.one [0, 1, 2, 3, 4, 5, 6, 7, 8, 9, 10, 11, 12, 13, 14, 15, 16, 17, 18] 19 (.one [] 20 (.one [21, 22, 23, 24, 25, 26, 27, 28, 29, 30, 31, 32, 33] 34 (.one [] 35 (.stop [36, 37, 38]))))) (fun Z => Sm [b, gO, gQ, gA] V Z ∧ Sm [g8, g9] V8 Z) (by kernel_rfl) (sT0) ?_
      repeat ((conv => whnf); first | (refine VLoad.mk _ (M0.mono fun _ h => h.1) ?_) | (refine VLoad.mk _ (N0.mono fun _ h => h.1) ?_) | (refine VLoad.mk _ (MQ.mono fun _ h => h.1) ?_) | (refine VLoad.mk _ (NQ.mono fun _ h => h.1) ?_) | (refine VLoad.mk _ (F8.mono fun _ h => h.2) ?_) | (refine VLoad.mk _ (F9.mono fun _ h => h.2) ?_) | (refine VCmp.tt (by omega) ?_) | (refine VCmp.ff (by omega) ?_) | (refine VIn.mk (IntWalk.i64_in _ (by omega)) ?_) | (refine VIdx.mk _ rfl (by omega) ?_) | (refine VIdx.mk 0 rfl (by omega) ?_))
      try (conv => whnf)
      refine VCall.mk _ (content_any (AO'.below hdT) (by omega)) ?_
      rintro _ V3 ⟨A3, c3, H3, rfl, RS3, RH3, b3⟩
      refine ⟨_, rfl, ?_⟩
      have bT3 : Below V8.heap.size V8 V3 := hdT.trans b3
      repeat ((conv => whnf); first | (refine VS.mk (sTx bT3) ?_) | (refine VLoad.mk _ (M0.mono fun _ h => h.1) ?_) | (refine VLoad.mk _ (N0.mono fun _ h => h.1) ?_) | (refine VLoad.mk _ (F8.mono fun _ h => h.2) ?_) | (refine VLoad.mk _ (F9.mono fun _ h => h.2) ?_) | (refine VCmp.tt (by omega) ?_) | (refine VCmp.ff (by omega) ?_) | (refine VIn.mk (IntWalk.i64_in _ (by omega)) ?_) | (refine VIdx.mk _ rfl (by omega) ?_) | (refine VIdx.mk 0 rfl (by omega) ?_))
      try (conv => whnf)
      rw [flA_of]
      refine VCall.mk _ (sameFlush_any fx.f (flO (v3.o a)) fx.A A3 fx.H H3 fx.c c3 fx.k 16 _ _ _ 16 V3 rfl rfl rfl (by simp) (fx3.ro (Ro.below (R := fun _ => False) bT3) id).row RS3.row (fx4.ro (Ro.below (R := fun _ => False) bT3) id).row RH3.row (by rw [fx2]; show (v3.o a).slots.length ≤ _; omega) (by rw [fx2]; simp)) ?_
      rintro _ V4 ⟨rfl, b4⟩
      refine ⟨_, rfl, ?_⟩
      rw [decide_eq_true fx2]
      have bT4 : Below V8.heap.size V8 V4 := bT3.trans (b4.mono bT3.size)
      repeat ((conv => whnf); first | (refine VS.mk (sTx bT4) ?_) | (refine VLoad.mk _ (M0.mono fun _ h => h.1) ?_) | (refine VLoad.mk _ (N0.mono fun _ h => h.1) ?_) | (refine VLoad.mk _ (F8.mono fun _ h => h.2) ?_) | (refine VLoad.mk _ (F9.mono fun _ h => h.2) ?_) | (refine VCmp.tt (by omega) ?_) | (refine VCmp.ff (by omega) ?_) | (refine VIn.mk (IntWalk.i64_in _ (by omega)) ?_) | (refine VIdx.mk _ rfl (by omega) ?_) | (refine VIdx.mk 0 rfl (by omega) ?_))
      try (conv => whnf)
      refine VCall.mk _ (messages_any (AO'.below bT4) WO (fun d hd => by have := hb9 d hd; omega) hhl) ?_
      rintro _ V5 ⟨A5, c5, xs, rfl, R5, B5, hM5, b5⟩
      refine ⟨_, rfl, ?_⟩
      have bT5 : Below V8.heap.size V8 V5 := bT4.trans (b5.mono bT4.size)
      have hml : my.l.length = (v3.o a).held.length := by have := my2.perm.length_eq; simpa using this
      repeat ((conv => whnf); first | (refine VS.mk (sTx bT5) ?_) | (refine VLoad.mk _ (M0.mono fun _ h => h.1) ?_) | (refine VLoad.mk _ (N0.mono fun _ h => h.1) ?_) | (refine VLoad.mk _ (F8.mono fun _ h => h.2) ?_) | (refine VLoad.mk _ (F9.mono fun _ h => h.2) ?_) | (refine VCmp.tt (by omega) ?_) | (refine VCmp.ff (by omega) ?_) | (refine VIn.mk (IntWalk.i64_in _ (by omega)) ?_) | (refine VIdx.mk _ rfl (by omega) ?_) | (refine VIdx.mk 0 rfl (by omega) ?_))
      try (conv => whnf)
      refine VCall.mk _ (sameDatas_any my.A A5 my.c c5 _ _ V5.heap.size my.l xs V5 rfl rfl (Nat.le_refl _) (my3.ro (Ro.below (R := fun _ => False) bT5) id).row R5.row (fun z hz => ((my4 z hz).ro (Ro.below (R := fun _ => False) bT5) id).row) (fun z hz => (B5 z hz).row) (fun z hz => by have := hb9 z.d (my2.perm.mem_iff.1 (List.mem_map_of_mem hz)); omega) (by omega)) ?_
      rintro _ V6 ⟨rfl, b6⟩
      refine ⟨_, rfl, ?_⟩
      rw [decide_eq_true (my2.uniq hM5)]
      have bT6 : Below V8.heap.size V8 V6 := bT5.trans (b6.mono bT5.size)
      repeat ((conv => whnf); first | (refine VS.mk (sTx bT6) ?_) | (refine VCmp.tt (by omega) ?_) | (refine VCmp.ff (by omega) ?_) | (refine VIn.mk (IntWalk.i64_in _ (by omega)) ?_) | (refine VIdx.mk _ rfl (by omega) ?_) | (refine VIdx.mk 0 rfl (by omega) ?_))
      try (conv => whnf)
      exact .mk (a + 1) ⟨rfl, rfl, rfl, rfl, rfl, rfl, rfl, rfl, rfl, trivial⟩ ⟨hak, Ka, (tla.set a fN), (mla.set a mN), C8.below bT6, R8.ro (Ro.below (R := fun _ => False) bT6) id id, fun c hc h hor => (S8 c hc h hor).ro (Ro.below (R := fun _ => False) bT6) id, q8.trans (Ro.below bT6)⟩ (by show k - (a + 1) < k - a; omega)
end Go.Proofs.Ytoilipfgimcoiaa
