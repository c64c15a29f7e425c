/- CrR CrS, joined. -/
import Derived.Test.YtoilipfgimcoiaaOe16
set_option linter.unusedVariables false
set_option linter.unusedSimpArgs false
namespace Go.Proofs.Ytoilipfgimcoiaa
open Go Go.RowKit
def Crw.assign (v : Crw) (i : Nat) (n : Int) : Crw := { v with o := upN v.o i ((v.o i).assign n).2, made := upN v.made i (v.made i ++ ((v.o i).assign n).1.map isI) }
theorem CI.rmA' {v : Crw} {G : List Sl} {T : Nat} (h : CI v G T) (hT : T ≤ 100000) {i : Nat} (hi : i < v.n) : RmA (v.o i) := by
  by_cases h0 : i = 0
  · subst h0; exact h.rmA hT
  · have m := h.mi i hi
    have hq := h.qe i hi h0
    have hl := h.len
    rw [List.length_append] at hl
    have k1 := m.kg
    refine ⟨fun s => ?_, by rw [hq]; simp; omega, fun s => ?_⟩
    · rw [m.pl, hq]; have := cnt_le s (G.take (v.o i).known); rw [List.length_take] at this; simp; omega
    · rw [m.gn, hq]; have := cnt_le s (G.take (v.o i).pre); rw [List.length_take] at this; unfold Os.known at k1; simp; omega
theorem CI.assign_nil {v : Crw} {G : List Sl} {T : Nat} (h : CI v G T) {i : Nat} (hi : i < v.n) {n : Int} (hc : i ≠ 0 ∨ v.stop i = true ∨ n ≤ 0) : (v.o i).assign n = ([], v.o i) := by
  have hs := seq_iff h.n1 (h.mi i hi).mem (h.mi i hi).self
  have hf := h.frz i hi
  unfold Os.assign
  by_cases e : (v.o i).seq = false ∨ (v.o i).frz = true
  · rw [if_pos e]
  · rw [if_neg e]
    have hn : n ≤ 0 := by
      rcases hc with h1 | h1 | h1
      · exact absurd (.inl (by rw [hs, decide_eq_false h1])) e
      · exact absurd (.inr (by rw [hf]; exact h1)) e
      · exact h1
    have : (v.o i).asgN n = 0 := by unfold Os.asgN; omega
    rw [this]; rfl
theorem Crw.assign_nil {v : Crw} {i : Nat} {n : Int} (h : (v.o i).assign n = ([], v.o i)) : v.assign i n = v := by
  unfold Crw.assign
  rw [h]
  show { v with o := upN v.o i (v.o i), made := upN v.made i (v.made i ++ []) } = v
  rw [upN_id, List.append_nil, upN_id]
theorem CI.most {v : Crw} {G : List Sl} {T : Nat} (h : CI v G T) {i : Nat} (hi : i < v.n) : (v.o i).most = v.n * v.win := by
  unfold Os.most; rw [(h.mi i hi).mem, (h.mi i hi).win]; unfold pidsN; simp
theorem CI.assign' {v : Crw} {G : List Sl} {T : Nat} (h : CI v G T) (hT : T ≤ 100000) {i : Nat} (hi : i < v.n) (n : Int) : ∃ G', CI (v.assign i n) G' T := by
  by_cases hc : i ≠ 0 ∨ v.stop i = true ∨ n ≤ 0
  · rw [Crw.assign_nil (h.assign_nil hi hc)]; exact ⟨G, h⟩
  · have h0 : i = 0 := Classical.byContradiction fun e => hc (.inl e)
    subst h0
    have hs := seq_iff h.n1 (h.mi 0 hi).mem (h.mi 0 hi).self
    have hf := h.frz 0 hi
    have hm := h.most hi
    have hsr := h.sr 0 hi
    have e : (v.o 0).assign n = ((v.o 0).asgL ((v.o 0).asgN n), (v.o 0).asgK ((v.o 0).asgN n)) := by
      unfold Os.assign
      rw [if_neg]
      rw [hs, hf]
      rintro (e | e)
      · simp at e
      · exact hc (.inr (.inl e))
    unfold Crw.assign
    rw [e]
    have h1 : (v.o 0).asgN n ≤ (v.o 0).queue.length ∧ (v.o 0).asgN n ≤ (v.o 0).most - (v.o 0).slots.length := by unfold Os.asgN; omega
    exact ⟨_, h.assign hT _ h1.1 (by omega)⟩
section
variable {w : World} {K : Nat → Nat} {b : Nat} {v : Crw} {X : CwX} {G : List Sl} {T : Nat}
set_option maxRecDepth 100000 in
set_option maxHeartbeats 8000000 in
theorem cassign_any (C : CrwAt w K b v X) (I : CI v G T) (hT : T ≤ 100000) {i : Nat} (hi : i < v.n) (n : Int) (h1n : -9223372036854775808 ≤ n) (h2n : n ≤ 9223372036854775807) :
    Calls Try.prog 34 #[.pointer (some ⟨b, 0, none⟩), .int .i64 i, .int .i64 n] w fun e w' => e = .returned (.bool true) ∧ ∃ K' X', CrwAt w' K' b (v.assign i n) X' ∧ Ro (fun z => 0 < z ∧ z < 400) K K' w w' := by
  refine calls_vc tab_ok Try.func34 rfl ?_
  have hn4 := C.n
  have hbz := C.hb
  have hkb := C.kb
  obtain ⟨gM, oM, xM, aM⟩ := C.made.get hi
  obtain ⟨gO, oO, bj, Y, eO, gO1, kO, hbj, cO, AO⟩ := C.ord hi
  obtain ⟨gP, oP, eP, gP1, kP, cP, fP⟩ := C.stp hi
  have M2 := C.l_O (l := [b, gO, gP]) (by simp)
  have M3 := C.l_stop (l := [b, gO, gP]) (by simp)
  rw [eO] at M2
  rw [eP] at M3
  have N2 : Ld Try.prog 42 gO (oO + i) (Sm [b, gO, gP] w) (.pointer (some ⟨bj, 0, none⟩)) := ⟨fun W hW => load42 (cell_sm cO (by simp) hW)⟩
  have N3 : Ld Try.prog 4 gP (oP + i) (Sm [b, gO, gP] w) (.bool (v.stop i)) := ⟨fun W hW => load4 (cell_sm cP (by simp) hW)⟩
  have s0 := Sm.refl [b, gO, gP] w
  conv => whnf
  repeat ((conv => whnf); first | (refine VLoad.mk _ (M2.at s0) ?_) | (refine VLoad.mk _ (N2.at s0) ?_) | (refine VCmp.tt (by omega) ?_) | (refine VCmp.ff (by omega) ?_) | (refine VIn.mk (IntWalk.i64_in _ (by omega)) ?_) | (refine VIdx.mk _ rfl (by omega) ?_) | (refine VIdx.mk 0 rfl (by omega) ?_))
  try (conv => whnf)
  refine VCall.mk _ (assign_any AO (I.wf hT hi) (I.rmA' hT hi) n) ?_
  rintro _ w1 ⟨A1, c1, rfl, own1, K1, Y1, A1', q1, z1⟩
  refine ⟨_, rfl, ?_⟩
  obtain ⟨l, hl⟩ : ∃ l, l = ((v.o i).assign n).1 := ⟨_, rfl⟩
  rw [← hl] at own1 ⊢
  have R1 : RowK w1 K1 9 eIS A1 l := RowK.at_ (own1.row fun _ => rfl) z1
  have C1 := C.setO hi hbj A1' q1
  have q01 : Ro (fun z => 0 < z ∧ z < 400) K K1 w w1 := q1.more fun z hz => by unfold inR at hz; omega
  have s1 : Sm [b, gO, gP] w w1 := .ro q1 fun g hg => by
    simp only [List.mem_cons, List.not_mem_nil, or_false] at hg
    unfold inR
    rcases hg with rfl | rfl | rfl <;> omega
  have nil : (i ≠ 0 ∨ v.stop i = true ∨ n ≤ 0) → l = [] ∧ v.assign i n = v ∧ ((v.o i).assign n).2 = v.o i := fun hc => by
    have := I.assign_nil hi hc
    exact ⟨by rw [hl, this], Crw.assign_nil this, by rw [this]⟩
  have fin : (i ≠ 0 ∨ v.stop i = true ∨ n ≤ 0) → ∃ K' X', CrwAt w1 K' b (v.assign i n) X' ∧ Ro (fun z => 0 < z ∧ z < 400) K K' w w1 := fun hc => by
    obtain ⟨-, h2, h3⟩ := nil hc
    rw [h3, upN_id] at C1
    rw [h2]
    exact ⟨K1, X, C1, q01⟩
  by_cases hi0 : 0 < i
  · have h1 : l.length = 0 := by rw [(nil (.inl (by omega))).1]; rfl
    have f1 := fin (.inl (by omega))
    repeat ((conv => whnf); first | (refine VLoad.mk _ (M3.at s1) ?_) | (refine VLoad.mk _ (N3.at s1) ?_) | (refine VCmp.tt (by omega) ?_) | (refine VCmp.ff (by omega) ?_) | (refine VIn.mk (IntWalk.i64_in _ (by omega)) ?_) | (refine VIdx.mk _ rfl (by omega) ?_) | (refine VIdx.mk 0 rfl (by omega) ?_))
    try (conv => whnf)
    exact .mk ⟨rfl, f1⟩
  obtain rfl : i = 0 := by omega
  cases hst : v.stop 0 with
  | true =>
    rw [hst] at N3
    have h1 : l.length = 0 := by rw [(nil (.inr (.inl hst))).1]; rfl
    have f1 := fin (.inr (.inl hst))
    repeat ((conv => whnf); first | (refine VLoad.mk _ (M3.at s1) ?_) | (refine VLoad.mk _ (N3.at s1) ?_) | (refine VCmp.tt (by omega) ?_) | (refine VCmp.ff (by omega) ?_) | (refine VIn.mk (IntWalk.i64_in _ (by omega)) ?_) | (refine VIdx.mk _ rfl (by omega) ?_) | (refine VIdx.mk 0 rfl (by omega) ?_))
    try (conv => whnf)
    exact .mk ⟨rfl, f1⟩
  | false =>
    rw [hst] at N3
    by_cases hn0 : n ≤ 0
    · have h1 : l.length = 0 := by rw [(nil (.inr (.inr hn0))).1]; rfl
      have f1 := fin (.inr (.inr hn0))
      repeat ((conv => whnf); first | (refine VLoad.mk _ (M3.at s1) ?_) | (refine VLoad.mk _ (N3.at s1) ?_) | (refine VCmp.tt (by omega) ?_) | (refine VCmp.ff (by omega) ?_) | (refine VIn.mk (IntWalk.i64_in _ (by omega)) ?_) | (refine VIdx.mk _ rfl (by omega) ?_) | (refine VIdx.mk 0 rfl (by omega) ?_))
      try (conv => whnf)
      exact .mk ⟨rfl, f1⟩
    · clear nil fin
      have hln : (l.length : Int) ≤ n := by
        rw [hl]
        unfold Os.assign
        split
        · simp; omega
        · rw [asgL_len]; unfold Os.asgN; omega
      have hl4 : l.length ≤ 400000 := by
        rw [hl]
        unfold Os.assign
        split
        · simp
        · rw [asgL_len]
          have := I.len
          rw [List.length_append] at this
          unfold Os.asgN; omega
      obtain ⟨vk, hvk⟩ : ∃ vk : Nat → Crw, vk = fun k => { v with o := upN v.o 0 ((v.o 0).assign n).2, made := upN v.made 0 (v.made 0 ++ (l.take k).map isI) } := ⟨_, rfl⟩
      have hstep : ∀ (k : Nat) (y : ISl), l[k]? = some y → vk (k + 1) = { vk k with made := upN (vk k).made 0 ((vk k).made 0 ++ [isI y]) } := fun k y hy => by
        rw [hvk]
        simp only [upN_upN, upN_same, take_one hy, List.map_append, List.append_assoc, List.map_cons, List.map_nil]
      have hend : vk l.length = v.assign 0 n := by
        rw [hvk]
        unfold Crw.assign
        simp only [List.take_length, hl]
      have hn0 : ∀ k, (vk k).n = v.n := fun k => by rw [hvk]
      have hmade : ∀ k, (vk k).made 0 = v.made 0 ++ (l.take k).map isI := fun k => by rw [hvk]; simp only [upN_same]
      repeat ((conv => whnf); first | (refine VLoad.mk _ (M3.at s1) ?_) | (refine VLoad.mk _ (N3.at s1) ?_) | (refine VCmp.tt (by omega) ?_) | (refine VCmp.ff (by omega) ?_) | (refine VIn.mk (IntWalk.i64_in _ (by omega)) ?_) | (refine VIdx.mk _ rfl (by omega) ?_) | (refine VIdx.mk 0 rfl (by omega) ?_))
      try (conv => whnf)
      refine VLoop.mk Nat (fun k => [(0, .pointer (some ⟨b, 0, none⟩)), (1, .int .i64 (0 : Nat)), (2, .int .i64 n), (7, .slice A1 l.length c1), (8, .int .i64 k)]) (fun k W => k ≤ l.length ∧ ∃ Kk Xk, CrwAt W Kk b (vk k) Xk ∧ Ro (fun z => 0 < z ∧ z < 400) K Kk w W ∧ RowK W Kk 9 eIS A1 l) (fun k => l.length - k) 0 ⟨rfl, rfl, rfl, rfl, rfl, trivial⟩ ⟨Nat.zero_le _, K1, X, ?_, q01, R1⟩ ?_
      · rw [hvk]
        show CrwAt w1 K1 b { v with o := _, made := upN v.made 0 (v.made 0 ++ []) } X
        rw [List.append_nil, upN_id]; exact C1
      rintro k W ⟨hk, Kk, Xk, Ck, qk, Rk⟩
      by_cases hkl : k < l.length
      case neg =>
        repeat ((conv => whnf); first | (refine VCmp.tt (by omega) ?_) | (refine VCmp.ff (by omega) ?_) | (refine VIn.mk (IntWalk.i64_in _ (by omega)) ?_) | (refine VIdx.mk _ rfl (by omega) ?_) | (refine VIdx.mk 0 rfl (by omega) ?_))
        try (conv => whnf)
        obtain rfl : k = l.length := by omega
        rw [← hend]
        exact .mk ⟨rfl, Kk, Xk, Ck, qk⟩
      obtain ⟨y, hy⟩ : ∃ y, l[k]? = some y := ⟨_, List.getElem?_eq_getElem (by omega)⟩
      obtain ⟨gl, ol, rfl, hgl, kgl, cl⟩ := Rk (by omega)
      have hik : 0 < (vk k).n := by rw [hn0]; exact hi
      obtain ⟨gM, oM, xM, aM⟩ := Ck.made.get hik
      have M1 := Ck.l_made (l := [b, gM, gl]) (by simp)
      rw [aM.eA, hn0] at M1
      have N1 : Ld Try.prog 74 gM (oM + mulO 0 1) (Sm [b, gM, gl] W) (.slice xM.A ((vk k).made 0).length xM.c) := ⟨fun W' hW => load74s (cell_sm aM.hc (by simp) hW)⟩
      have N4 : Ld Try.prog 80 gl (ol + mulO k 9) (Sm [b, gM, gl] W) (.agg (isA y)) := ⟨fun W' hW => load_agg (cs := eIS y) (by kernel_rfl) (by kernel_rfl) fun j u hu => cell_sm (by rw [mulO_eq]; exact cl k y hy j u hu) (by simp) hW⟩
      have hsd : Sm [b, gM, gl] W W.drew := fun _ _ => rfl
      have kkb := Ck.kb
      have hbW := Ck.hb
      have kM := aM.hk
      have hMW := aM.hg
      repeat ((conv => whnf); first | (refine VCmp.tt (by omega) ?_) | (refine VCmp.ff (by omega) ?_) | (refine VIn.mk (IntWalk.i64_in _ (by omega)) ?_) | (refine VIdx.mk _ rfl (by omega) ?_) | (refine VIdx.mk 0 rfl (by omega) ?_))
      try (conv => whnf)
      refine VDraw.pl 19 (.one [0, 1, 2, 3, 4, 5, 6, 7, 8, 9, 10, 11, 12, 13, 14, 15] 16 (.one [] 17 (.one [18] 19 (.stop [])))) (Sm [b, gM, gl] W) (by kernel_rfl) (hsd) ?_
      repeat ((conv => whnf); first | (refine VLoad.mk _ M1 ?_) | (refine VLoad.mk _ N1 ?_) | (refine VLoad.mk _ N4 ?_) | (refine VCmp.tt (by omega) ?_) | (refine VCmp.ff (by omega) ?_) | (refine VIn.mk (IntWalk.i64_in _ (by omega)) ?_) | (refine VIdx.mk _ rfl (by omega) ?_) | (refine VIdx.mk 0 rfl (by omega) ?_))
      try (conv => whnf)
      refine VBs.mk _ _ (bs74 W.drew y) ?_
      have ba : Below W.heap.size W (W.drew.alloc (.cells (isA y) 80)) := (Below.refl _ W).drew.alloc (Nat.le_refl _) _
      have hnc : ∀ j u, (eIx ⟨isI y, none, 0⟩)[j]? = some u → (W.drew.alloc (.cells (isA y) 80)).cell? ⟨W.heap.size, j, none⟩ = some u := fun j u hu => by
        have := range_new W.drew (isA y) 80 j u hu
        rwa [Nat.zero_add] at this
      have za : (W.drew.alloc (.cells (isA y) 80)).heap.size = W.heap.size + 1 := World.size_alloc _ _
      show VS _ _ _ _ _
      rw [show W.drew.heap.size = W.heap.size from rfl]
      generalize W.drew.alloc (.cells (isA y) 80) = W1 at ba hnc za ⊢
      have C1k := Ck.below ba
      have hLW : ∀ g ∈ [b, gM, gl], g < W.heap.size := fun g hg => by
        simp only [List.mem_cons, List.not_mem_nil, or_false] at hg
        rcases hg with rfl | rfl | rfl <;> assumption
      have sW1 : Sm [b, gM, gl] W W1 := .below ba hLW
      repeat ((conv => whnf); first | (refine VS.mk sW1 ?_) | (refine VCmp.tt (by omega) ?_) | (refine VCmp.ff (by omega) ?_) | (refine VIn.mk (IntWalk.i64_in _ (by omega)) ?_) | (refine VIdx.mk _ rfl (by omega) ?_) | (refine VIdx.mk 0 rfl (by omega) ?_))
      try (conv => whnf)
      have a1 := C1k.made.at hik aM.eA aM.hx
      have hml : ((vk k).made 0).length ≤ 900000 := by
        have h1 := I.madeLen hi
        rw [hmade, List.length_append, List.length_map, List.length_take]
        omega
      refine VApp.off 9 88 _ Try.underlying74 info80 rfl (by decide) eIx (fun _ => rfl) one_eIx xM.l ⟨isI y, none, 0⟩ aM.ln a1.ow hnc C1k.kz (by omega) (by omega) fun A2 c2 K2 W2 o2 q2 kz2 => ?_
      have sW2 : Sm [b, gM, gl] W W2 := sW1.trans (.ro q2 fun g hg => by
        refine ⟨Nat.lt_of_lt_of_le (hLW g hg) ba.size, ?_⟩
        simp only [List.mem_cons, List.not_mem_nil, or_false] at hg
        rcases hg with rfl | rfl | rfl <;> omega)
      repeat ((conv => whnf); first | (refine VS.mk sW2 ?_) | (refine VCmp.tt (by omega) ?_) | (refine VCmp.ff (by omega) ?_) | (refine VIn.mk (IntWalk.i64_in _ (by omega)) ?_) | (refine VIdx.mk _ rfl (by omega) ?_) | (refine VIdx.mk 0 rfl (by omega) ?_))
      try (conv => whnf)
      refine VStore.cell (by kernel_rfl) (by rw [show oM + mulO 0 1 = oM + 0 from rfl, cell_sm aM.hc (by simp) sW2]; rfl) ((World.frozen?_of_block (a := ⟨gM, _, none⟩) (sW2 gM (by simp))).trans aM.hf) rfl rfl fun W3 hW3 => ?_
      obtain ⟨C3, q3⟩ := C1k.push_made hik a1 ⟨isI y, none, 0⟩ o2 (fun h => absurd (show 0 < ([] : List Int).length from h) (by decide)) q2 kz2 (w2 := W3) (by rw [hW3.out]; rfl)
      clear hW3
      repeat ((conv => whnf); first | (refine VS.last rfl ?_) | (refine VCmp.tt (by omega) ?_) | (refine VCmp.ff (by omega) ?_) | (refine VIn.mk (IntWalk.i64_in _ (by omega)) ?_) | (refine VIdx.mk _ rfl (by omega) ?_) | (refine VIdx.mk 0 rfl (by omega) ?_))
      try (conv => whnf)
      have qW : Ro (fun z => 0 < z ∧ z < 400) K K2 w W3 := (qk.trans (Ro.below ba)).trans (q3.more fun z hz => by omega)
      have R3 : RowK W3 K2 9 eIS (some ⟨gl, ol, none⟩) l := (Rk.ro (Ro.below (R := fun _ => False) ba) id).ro q3 (by omega)
      rw [← hstep k y hy] at C3
      exact .mk (k + 1) ⟨rfl, rfl, rfl, rfl, rfl, trivial⟩ ⟨hkl, K2, _, C3, qW, R3⟩ (by show l.length - (k + 1) < l.length - k; omega)
end
end Go.Proofs.Ytoilipfgimcoiaa
namespace Go.Proofs.Ytoilipfgimcoiaa
open Go Go.RowKit
def Crw.hear (v : Crw) (i j m : Nat) : Crw := if i = j then v else match (v.told i)[m]? with
  | none => v
  | some t => if v.stop j = true then v else { v with o := upN v.o j ((v.o j).hear (pidN i) t).2 }
theorem CI.hear' {v : Crw} {G : List Sl} {T : Nat} (h : CI v G T) (hT : T ≤ 100000) {i j : Nat} (hi : i < v.n) (hj : j < v.n) (m : Nat) : CI (v.hear i j m) G T := by
  unfold Crw.hear
  by_cases e : i = j
  · rw [if_pos e]; exact h
  rw [if_neg e]
  cases hit : (v.told i)[m]? with
  | none => exact h
  | some t =>
    show CI (if v.stop j = true then v else _) G T
    by_cases hs : v.stop j = true
    · rw [if_pos hs]; exact h
    · rw [if_neg hs]
      obtain ⟨o', h1, h2, -⟩ := h.hear hT hi hj e (List.mem_of_getElem? hit) (by rw [h.frz j hj]; simpa using hs)
      rw [h1]; exact h2
theorem CI.hearF {v : Crw} {G : List Sl} {T : Nat} (h : CI v G T) (hT : T ≤ 100000) {i j : Nat} (hi : i < v.n) (hj : j < v.n) (hne : i ≠ j) {t : Stb} (ht : t ∈ v.told i) (hf : (v.o j).frz = true) : (v.o j).hear (pidN i) t = (70, v.o j) := by
  obtain ⟨h1, d, p, h2, h3, h4, h5, h6⟩ := h.tr i hi t ht
  have hmi := h.mi j hj
  have h5 : d ≤ (v.o i).done := h5
  have hl := h.len
  rw [List.length_append] at hl
  have k1 := (h.mi i hi).kg
  have k2 := (h.mi i hi).dk
  unfold Os.hear
  rw [if_neg (by rw [h.isMem hi hj, hmi.self]; rintro (e | e); exact absurd e (by simp); exact hne (pidN_inj (by exact_mod_cast e))), if_neg (by rw [h2, h3]; omega), if_neg (by rw [h1, hmi.id]; simp), if_pos hf]
theorem rem_any (a b : Int) (hb : b ≠ 0) (h : IntKind.i64.wrap (a.tmod b) = a.tmod b) (W : World) : (binOp .rem 3 (.int .i64 a) (.int .i64 b)).run Try.prog W = .ok (.int .i64 (a.tmod b)) W := by
  simp [binOp, go_sem, hb, h]
theorem VQ.rem {o : Oper} {fr : Fr} {S : World → Prop} {K : Value → Prop} {x y : Nat} {a N : Int} (m : Nat) (ho : o.op = .binOp .rem 3 (.tmp x) (.tmp y) 3) (hx : fev fr (.tmp x) = some (.int .i64 a)) (hy : fev fr (.tmp y) = some (.int .i64 N)) (h0 : 0 ≤ a) (h1 : 0 < N) (hm : a % N = m) (hmm : m < 1000000000) (hk : K (.int .i64 m)) : VQ Try.prog o fr S K := by
  refine VQ.mk (.int .i64 m) (fun A hA W _ => ?_) hk
  have h3 := hA (.tmp x) _ hx
  have h4 := hA (.tmp y) _ hy
  have e : a.tmod N = m := by rw [Int.tmod_eq_emod_of_nonneg h0]; exact hm
  have := rem_any a N (by omega) (by rw [e]; exact IntWalk.i64_in _ (by omega)) W
  rw [e] at this
  have hg : Sem.run Try.prog (eqGuard .rem 3 (.tmp x) (.tmp y) (.int .i64 a) (.int .i64 N)) W = .ok () W := rfl
  simp only [ho, execOp, h3, h4, Sem.run_bind, hg, this, Result.andThen_ok, Sem.run_pure]
section
variable {w : World} {K : Nat → Nat} {b : Nat} {v : Crw} {X : CwX} {G : List Sl} {T : Nat}
set_option maxRecDepth 100000 in
set_option maxHeartbeats 8000000 in
theorem chear_any (C : CrwAt w K b v X) (I : CI v G T) (hT : T ≤ 100000) {i j : Nat} (hi : i < v.n) (hj : j < v.n) (n : Int) (h1n : -9223372036854775808 ≤ n) (h2n : n ≤ 9223372036854775807) (htl : (v.told i).length ≤ 1000000) :
    Calls Try.prog 37 #[.pointer (some ⟨b, 0, none⟩), .int .i64 i, .int .i64 j, .int .i64 n] w fun e w' => e = .returned (.bool true) ∧ ∃ K' X', CrwAt w' K' b (v.hear i j (absL n % ((v.told i).length : Int)).toNat) X' ∧ Ro (fun z => 0 < z ∧ z < 400) K K' w w' := by
  refine calls_vc tab_ok Try.func37 rfl ?_
  have hn4 := C.n
  have hbz := C.hb
  have hkb := C.kb
  obtain ⟨gT, oT, xT, aT⟩ := C.told.get hi
  obtain ⟨gO, oO, bj, Y, eO, gO1, kO, hbj, cO, AO⟩ := C.ord hj
  obtain ⟨gP, oP, eP, gP1, kP, cP, fP⟩ := C.stp hj
  obtain ⟨L, hL⟩ : ∃ L, L = [b, gT, gO, gP] := ⟨_, rfl⟩
  have M0 := C.l_told (l := L) (by simp [hL])
  have M2 := C.l_O (l := L) (by simp [hL])
  have M3 := C.l_stop (l := L) (by simp [hL])
  rw [aT.eA] at M0
  rw [eO] at M2
  rw [eP] at M3
  have N0 : Ld Try.prog 86 gT (oT + i) (Sm L w) (.slice xT.A (v.told i).length xT.c) := ⟨fun W hW => load86s (cell_sm aT.hc (by simp [hL]) hW)⟩
  have N2 : Ld Try.prog 42 gO (oO + j) (Sm L w) (.pointer (some ⟨bj, 0, none⟩)) := ⟨fun W hW => load42 (cell_sm cO (by simp [hL]) hW)⟩
  have N3 : Ld Try.prog 4 gP (oP + j) (Sm L w) (.bool (v.stop j)) := ⟨fun W hW => load4 (cell_sm cP (by simp [hL]) hW)⟩
  have s0 := Sm.refl L w
  have hd0 : Below w.heap.size w w.drew := (Below.refl _ w).drew
  have hlt : ∀ g ∈ L, g < w.heap.size := fun g hg => by
    rw [hL] at hg
    simp only [List.mem_cons, List.not_mem_nil, or_false] at hg
    have q1 := aT.hg
    rcases hg with rfl | rfl | rfl | rfl <;> assumption
  conv => whnf
  by_cases hij : i = j
  · repeat ((conv => whnf); first | (refine VLoad.mk _ (M0.at s0) ?_) | (refine VLoad.mk _ (N0.at s0) ?_) | (refine VCmp.tt (by omega) ?_) | (refine VCmp.ff (by omega) ?_) | (refine VIn.mk (IntWalk.i64_in _ (by omega)) ?_) | (refine VIdx.mk _ rfl (by omega) ?_) | (refine VIdx.mk 0 rfl (by omega) ?_))
    try (conv => whnf)
    refine .mk ⟨rfl, K, X, ?_, Ro.refl _ _ _⟩
    unfold Crw.hear
    rw [if_pos hij]; exact C
  by_cases hl0 : (v.told i).length = 0
  · repeat ((conv => whnf); first | (refine VLoad.mk _ (M0.at s0) ?_) | (refine VLoad.mk _ (N0.at s0) ?_) | (refine VCmp.tt (by omega) ?_) | (refine VCmp.ff (by omega) ?_) | (refine VIn.mk (IntWalk.i64_in _ (by omega)) ?_) | (refine VIdx.mk _ rfl (by omega) ?_) | (refine VIdx.mk 0 rfl (by omega) ?_))
    try (conv => whnf)
    refine .mk ⟨rfl, K, X, ?_, Ro.refl _ _ _⟩
    unfold Crw.hear
    rw [if_neg hij, List.getElem?_eq_none (by omega)]; exact C
  obtain ⟨m, hm⟩ : ∃ m, m = (absL n % ((v.told i).length : Int)).toNat := ⟨_, rfl⟩
  have hm0 := Int.emod_nonneg (absL n) (show ((v.told i).length : Int) ≠ 0 by omega)
  have hm1 := Int.emod_lt_of_pos (absL n) (show (0 : Int) < ((v.told i).length : Int) by omega)
  have hmm : (absL n % ((v.told i).length : Int)) = (m : Int) := by omega
  have hmlt : m < (v.told i).length := by omega
  have habs := absL_nonneg n
  have hTl := aT.ln
  obtain ⟨t, ht⟩ : ∃ t, xT.l[m]? = some t := ⟨_, List.getElem?_eq_getElem (by omega)⟩
  have hit : (v.told i)[m]? = some t := by rw [← aT.vl, List.map_id]; exact ht
  obtain ⟨gI, oI, eI, gI1, kI, cI⟩ : ∃ g off, xT.A = some ⟨g, off, none⟩ ∧ g < w.heap.size ∧ K g = 60 + i ∧ w.rangeAt g (off + m * 6) (eSb t) := by
    rcases aT.ow with ⟨-, e, -⟩ | ⟨g, off, e, k1, k2, k3, k4, k5⟩
    · rw [e] at ht; simp at ht
    · exact ⟨g, off, e, k1, k2, fun q u hu => k5 _ t ht q u hu⟩
  rw [eI] at N0
  have up : ∀ {ty bb oo val}, Ld Try.prog ty bb oo (Sm L w) val → Ld Try.prog ty bb oo (Sm (gI :: L) w) val := fun {ty bb oo val} h => h.mono fun W hW g hg => hW g (List.mem_cons_of_mem _ hg)
  have P5 : Ld Try.prog 88 gI (oI + mulO m 6) (Sm (gI :: L) w) (.agg (sbA t)) := ⟨fun W hW => load_agg (cs := eSb t) (by kernel_rfl) (by kernel_rfl) (range_same (by rw [mulO_eq]; exact cI) (hW gI (by simp)))⟩
  have sd : Sm (gI :: L) w w := Sm.refl _ _
  repeat ((conv => whnf); first | (refine VLoad.mk _ (M0.at s0) ?_) | (refine VLoad.mk _ (N0.at s0) ?_) | (refine VCmp.tt (by omega) ?_) | (refine VCmp.ff (by omega) ?_) | (refine VIn.mk (IntWalk.i64_in _ (by omega)) ?_) | (refine VIdx.mk _ rfl (by omega) ?_) | (refine VIdx.mk 0 rfl (by omega) ?_))
  try (conv => whnf)
  refine VDraw.pl 1000 (.one [0, 1, 2, 3, 4, 5, 6, 7, 9, 10, 11, 12, 13, 14, 15, 16, 18, 19, 20, 21, 22, 23, 24, 25] 8 (.one [] 17 (.one [26, 27, 28] 29 (.one [] 30 (.stop [31]))))) (Sm (gI :: L) w) (by kernel_rfl) (sd) ?_
  repeat ((conv => whnf); first | (refine VLoad.mk _ (up M0) ?_) | (refine VLoad.mk _ (up M2) ?_) | (refine VLoad.mk _ (up N0) ?_) | (refine VLoad.mk _ (up N2) ?_) | (refine VCmp.tt (by omega) ?_) | (refine VCmp.ff (by omega) ?_) | (refine VIn.mk (IntWalk.i64_in _ (by omega)) ?_) | (refine VIdx.mk _ rfl (by omega) ?_) | (refine VIdx.mk 0 rfl (by omega) ?_))
  try (conv => whnf)
  refine VCall.mk _ (pid_any i w.drew (by omega) (by omega)) ?_
  rintro _ x6 ⟨rfl, e6⟩
  subst x6
  refine ⟨_, rfl, ?_⟩
  have epid : (3 * (i : Int) + 1) = ((pidN i : Nat) : Int) := by unfold pidN; omega
  rw [epid]
  repeat ((conv => whnf); first | (refine VS.mk sd ?_) | (refine VCmp.tt (by omega) ?_) | (refine VCmp.ff (by omega) ?_) | (refine VIn.mk (IntWalk.i64_in _ (by omega)) ?_) | (refine VIdx.mk _ rfl (by omega) ?_) | (refine VIdx.mk 0 rfl (by omega) ?_))
  try (conv => whnf)
  refine VCall.mk _ (abs_any n w.drew h1n h2n) ?_
  rintro _ x6 ⟨rfl, e6⟩
  subst x6
  refine ⟨_, rfl, ?_⟩
  repeat ((conv => whnf); first | (refine VS.mk sd ?_) | (refine VCmp.tt (by omega) ?_) | (refine VCmp.ff (by omega) ?_) | (refine VIn.mk (IntWalk.i64_in _ (by omega)) ?_) | (refine VIdx.mk _ rfl (by omega) ?_) | (refine VIdx.mk 0 rfl (by omega) ?_))
  try (conv => whnf)
  refine VQ.rem m rfl rfl rfl habs (by omega) hmm (by omega) ?_
  repeat ((conv => whnf); first | (refine VS.mk sd ?_) | (refine VLoad.mk _ P5 ?_) | (refine VCmp.tt (by omega) ?_) | (refine VCmp.ff (by omega) ?_) | (refine VIn.mk (IntWalk.i64_in _ (by omega)) ?_) | (refine VIdx.mk _ rfl (by omega) ?_) | (refine VIdx.mk 0 rfl (by omega) ?_))
  try (conv => whnf)
  have Ad := AO.below hd0
  refine VCall.mk _ (hear_any Ad (I.wf hT hj) (I.mi j hj).dk (pidN i) t) ?_
  rintro _ w4 ⟨rfl, K4, Y4, A4, q4⟩
  refine ⟨_, rfl, ?_⟩
  have q4' : Ro (inR (100 + 4 * j)) K K4 w w4 := (Ro.below hd0).trans q4
  have s4 : Sm (gI :: L) w w4 := .ro q4' fun g hg => by
    rw [hL] at hg
    simp only [List.mem_cons, List.not_mem_nil, or_false] at hg
    have q1 := aT.hk
    have q2 := aT.hg
    unfold inR
    rcases hg with rfl | rfl | rfl | rfl | rfl <;> omega
  repeat ((conv => whnf); first | (refine VS.mk s4 ?_) | (refine VCmp.tt (by omega) ?_) | (refine VCmp.ff (by omega) ?_) | (refine VIn.mk (IntWalk.i64_in _ (by omega)) ?_) | (refine VIdx.mk _ rfl (by omega) ?_) | (refine VIdx.mk 0 rfl (by omega) ?_))
  try (conv => whnf)
  refine VCall.mk _ (num_any _ w4) ?_
  rintro _ x5 ⟨rfl, e5⟩
  subst x5
  refine ⟨_, rfl, ?_⟩
  have q04 : Ro (fun z => 0 < z ∧ z < 400) K K4 w w4 := q4'.more fun z hz => by unfold inR at hz; omega
  have C4 := C.setO hj hbj A4 q4'
  have etm : (absL n % ((v.told i).length : Int)).toNat = m := hm.symm
  rw [etm]
  cases hst : v.stop j with
  | true =>
    have hpl := I.hearF hT hi hj hij (List.mem_of_getElem? hit) (by rw [I.frz j hj]; exact hst)
    rw [hpl]
    rw [hst] at N3
    repeat ((conv => whnf); first | (refine VS.mk s4 ?_) | (refine VLoad.mk _ ((up M3).at s4) ?_) | (refine VLoad.mk _ ((up N3).at s4) ?_) | (refine VCmp.tt (by omega) ?_) | (refine VCmp.ff (by omega) ?_) | (refine VIn.mk (IntWalk.i64_in _ (by omega)) ?_) | (refine VIdx.mk _ rfl (by omega) ?_) | (refine VIdx.mk 0 rfl (by omega) ?_))
    try (conv => whnf)
    refine .mk ⟨rfl, K4, X, ?_, q04⟩
    rw [hpl, upN_id] at C4
    have e : v.hear i j m = v := by unfold Crw.hear; rw [if_neg hij, hit]; exact if_pos hst
    rw [e]
    exact C4
  | false =>
    obtain ⟨o', hpl, -, hseen⟩ := I.hear hT hi hj hij (List.mem_of_getElem? hit) (by rw [I.frz j hj]; exact hst)
    have e : v.hear i j m = { v with o := upN v.o j o' } := by
      unfold Crw.hear; rw [if_neg hij, hit]
      show (if v.stop j = true then v else _) = _
      rw [if_neg (by rw [hst]; simp), hpl]
    rw [hpl] at C4 A4 ⊢
    rw [hst] at N3
    rw [e]
    have sd4 : Sm (gI :: L) w w4.drew := s4
    repeat ((conv => whnf); first | (refine VS.mk s4 ?_) | (refine VLoad.mk _ ((up M3).at s4) ?_) | (refine VLoad.mk _ ((up N3).at s4) ?_) | (refine VCmp.tt (by omega) ?_) | (refine VCmp.ff (by omega) ?_) | (refine VIn.mk (IntWalk.i64_in _ (by omega)) ?_) | (refine VIdx.mk _ rfl (by omega) ?_) | (refine VIdx.mk 0 rfl (by omega) ?_))
    try (conv => whnf)
    refine VDraw.pl 1000 (.one [0, 1, 2, 3, 4, 5, 6, 7, 8, 9, 10] 11 (.one [] 12 (.stop [13, 14]))) (Sm (gI :: L) w) (by kernel_rfl) (sd4) ?_
    repeat ((conv => whnf); first | (refine VLoad.mk _ (up M2) ?_) | (refine VLoad.mk _ (up N2) ?_) | (refine VCmp.tt (by omega) ?_) | (refine VCmp.ff (by omega) ?_) | (refine VIn.mk (IntWalk.i64_in _ (by omega)) ?_) | (refine VIdx.mk _ rfl (by omega) ?_) | (refine VIdx.mk 0 rfl (by omega) ?_))
    try (conv => whnf)
    refine VCall.mk _ (pid_any i w4.drew (by omega) (by omega)) ?_
    rintro _ x6 ⟨rfl, e6⟩
    subst x6
    refine ⟨_, rfl, ?_⟩
    rw [epid]
    repeat ((conv => whnf); first | (refine VS.mk sd4 ?_) | (refine VCmp.tt (by omega) ?_) | (refine VCmp.ff (by omega) ?_) | (refine VIn.mk (IntWalk.i64_in _ (by omega)) ?_) | (refine VIdx.mk _ rfl (by omega) ?_) | (refine VIdx.mk 0 rfl (by omega) ?_))
    try (conv => whnf)
    have hd4 : Below w4.heap.size w4 w4.drew := (Below.refl _ w4).drew
    refine VCall.mk _ (seen_any (A4.below hd4) (pidN i)) ?_
    rintro _ x6 ⟨rfl, e6⟩
    subst x6
    refine ⟨_, rfl, ?_⟩
    have hsb : o'.seenB (pidN i) = true := by
      unfold Os.seenB
      rw [decide_eq_true (by unfold pidN; omega), show ((pidN i : Nat) : Int).toNat = pidN i from Int.toNat_natCast _, hseen]; rfl
    rw [hsb]
    repeat ((conv => whnf); first | (refine VS.mk sd4 ?_) | (refine VCmp.tt (by omega) ?_) | (refine VCmp.ff (by omega) ?_) | (refine VIn.mk (IntWalk.i64_in _ (by omega)) ?_) | (refine VIdx.mk _ rfl (by omega) ?_) | (refine VIdx.mk 0 rfl (by omega) ?_))
    try (conv => whnf)
    exact .mk ⟨rfl, K4, X, C4.below hd4, q04.drew⟩
end
end Go.Proofs.Ytoilipfgimcoiaa
