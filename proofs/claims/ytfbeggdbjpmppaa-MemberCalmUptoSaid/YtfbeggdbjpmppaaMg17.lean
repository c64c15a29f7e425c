/- Starts2 Team6 Team8 OneW Fol1 FolP Calm1, joined. -/
import Derived.Test.YtfbeggdbjpmppaaMg16
set_option linter.unusedVariables false
set_option linter.unusedSimpArgs false
namespace Go.Proofs.Ytfbeggdbjpmppaa
open Go Go.RowKit
def bootTo (t : Tm) : Nat → Tm
  | 0 => t
  | k + 1 => (bootTo t k).boot k
theorem noteE_len (n : Nat) (E : Nat → List Lt) (i k : Nat) (s : St) : (noteE n E i s k).length ≤ (E k).length + 1 := by
  unfold noteE
  split
  · omega
  · unfold addE
    split
    · rename_i e; subst e; rw [List.length_append]; simp
    · omega
theorem upS_inc (S : Nat → St) (i k : Nat) (s : St) : (upS S i s k).inc ≤ max (S k).inc s.inc := by
  unfold upS; split <;> omega
structure Cnt (t : Tm) (c : Nat) : Prop where
  e : ∀ k, (t.E k).length ≤ c
  d : t.D.length ≤ c
  inc : ∀ k, (t.S k).inc ≤ c
theorem Cnt.boot {t : Tm} {c : Nat} (h : Cnt t c) (i : Nat) : Cnt (t.boot i) (c + 1) := by
  refine ⟨fun k => ?_, ?_, fun k => ?_⟩
  · have := noteE_len t.n t.E i k (newSt t.n i ((t.S i).inc + 1) t.fl)
    have := h.e k
    show (noteE t.n t.E i _ k).length ≤ _; omega
  · show t.D.length ≤ _; have := h.d; omega
  · have h1 := upS_inc t.S i k (newSt t.n i ((t.S i).inc + 1) t.fl)
    have h2 := h.inc k
    have h3 := h.inc i
    show (upS t.S i _ k).inc ≤ _
    have h4 : (newSt t.n i ((t.S i).inc + 1) t.fl).inc = (t.S i).inc + 1 := rfl
    omega
theorem Cnt.zero (n : Nat) (fl : Int) : Cnt (tm0 n fl) 0 := ⟨fun _ => Nat.le_refl _, Nat.le_refl _, fun _ => Int.le_refl _⟩
theorem bootTo_cnt {t : Tm} {c : Nat} (h : Cnt t c) : ∀ k, Cnt (bootTo t k) (c + k)
  | 0 => h
  | k + 1 => (bootTo_cnt h k).boot k
theorem bootTo_n (t : Tm) : ∀ k, (bootTo t k).n = t.n ∧ (bootTo t k).fl = t.fl ∧ (bootTo t k).D = t.D ∧ (bootTo t k).sp = t.sp
  | 0 => ⟨rfl, rfl, rfl, rfl⟩
  | k + 1 => bootTo_n t k
theorem tm0_ok {n : Nat} {fl : Int} (h1 : 1 ≤ n) (h2 : n ≤ 16) (f0 : 0 ≤ fl) (f1 : fl ≤ 4611686018427387902) : (tm0 n fl).Ok 0 :=
  ⟨h1, h2, Nat.zero_le _, f0, f1, fun i hi => absurd hi (by omega), fun _ _ => rfl, fun d hd => absurd hd (by simp [tm0])⟩
theorem bootTo_S (n : Nat) (fl : Int) : ∀ k i, k ≤ i → (bootTo (tm0 n fl) k).S i = St0
  | 0, i, _ => rfl
  | k + 1, i, h => by
    show upS (bootTo (tm0 n fl) k).S k _ i = St0
    rw [upS_ne _ _ (by omega)]
    exact bootTo_S n fl k i (by omega)
theorem bootTo_ok {n : Nat} {fl : Int} (h1 : 1 ≤ n) (h2 : n ≤ 16) (f0 : 0 ≤ fl) (f1 : fl ≤ 4611686018427387902) : ∀ k, k ≤ n → (bootTo (tm0 n fl) k).Ok k
  | 0, _ => tm0_ok h1 h2 f0 f1
  | k + 1, hk => by
    have ih := bootTo_ok h1 h2 f0 f1 k (by omega)
    have hs := bootTo_S n fl k k (Nat.le_refl _)
    have hi0 : ((bootTo (tm0 n fl) k).S k).inc = 0 := by rw [hs]; rfl
    have := ih.boot (i := k) (by rw [(bootTo_n _ k).1]; exact hk) (Nat.le_refl _) (by omega) (by omega)
    rw [Nat.max_eq_right (by omega)] at this
    exact this
def StP (w : World) (n : Nat) (t : Tm) (w' : World) (h : Nat) : Prop := w.heap.size ≤ h ∧ ∃ K X, TmM w' K h n n t X ∧ (∀ b, b < w.heap.size → K b = 0) ∧ Below w.heap.size w w'
theorem ro_below {w w1 w' : World} {K K' : Nat → Nat} (hK : ∀ b, b < w.heap.size → K b = 0) (hb : Below w.heap.size w w1) (q : Ro (· ≠ 0) K K' w1 w') : (∀ b, b < w.heap.size → K' b = 0) ∧ Below w.heap.size w w' := by
  have z := hb.size
  refine ⟨fun b h => (q.kk b (by omega)).trans (hK b h), q.os.trans hb.os, q.tape.trans hb.tape, q.output.trans hb.output, Nat.le_trans z q.size, fun b h => (q.same b (by omega) (by rw [hK b h]; simp)).trans (hb.block b h)⟩
set_option maxRecDepth 100000 in
set_option maxHeartbeats 4000000 in
theorem starts_any (w : World) {n : Nat} {fl : Int} (h1 : 1 ≤ n) (h2 : n ≤ 16) (f0 : 0 ≤ fl) (f1 : fl ≤ 4611686018427387902) :
    Calls Try.prog 17 #[.int .i64 n, .int .i64 fl] w fun e w' => ∃ g, e = .returned (.pointer (some ⟨g, 0, none⟩)) ∧ StP w n (bootTo (tm0 n fl) n) w' g := by
  refine calls_vc tab_ok Try.func17 rfl ?_
  conv => whnf
  repeat ((conv => whnf); first | (refine VBuild.mk _ (fun W => build39 W n fl) ?_) | (refine VCmp.tt (by omega) ?_) | (refine VCmp.ff (by omega) ?_) | (refine VIn.mk (IntWalk.i64_in _ (by omega)) ?_) | (refine VIdx.mk _ rfl (by omega) ?_) | (refine VIdx.mk 0 rfl (by omega) ?_))
  try (conv => whnf)
  refine .mk fun wA hwA => ?_
  have bA : Below w.heap.size w wA := by rw [hwA.out]; exact below_box1 _ _ _
  have zA : wA.heap.size = w.heap.size + 1 := by rw [hwA.out]; simp
  have oA : wA.rangeAt w.heap.size 0 [.int .i64 n, .int .i64 fl, .slice none 0 0, .slice none 0 0, .slice none 0 0, .slice none 0 0, .bool false] := by rw [hwA.out]; exact range_new w _ 39
  have tA : wA.there w.heap.size 0 7 := by rw [hwA.out]; exact there_new w _ 39
  clear hwA
  have M0 : Mk w wA n fl 0 0 0 (none, 0, none, 0, none, 0) := ⟨bA, by omega, oA, tA, ⟨rfl, .inl ⟨rfl, rfl⟩⟩, ⟨rfl, .inl ⟨rfl, rfl⟩⟩, ⟨rfl, .inl ⟨rfl, rfl⟩⟩⟩
  repeat ((conv => whnf); first | (refine VCmp.tt (by omega) ?_) | (refine VCmp.ff (by omega) ?_) | (refine VIn.mk (IntWalk.i64_in _ (by omega)) ?_) | (refine VIdx.mk _ rfl (by omega) ?_) | (refine VIdx.mk 0 rfl (by omega) ?_))
  try (conv => whnf)
  refine VLoop.mk (Nat × Option Addr × Nat × Option Addr × Nat × Option Addr × Nat) (fun u => [(0, .int .i64 n), (5, .pointer (some ⟨w.heap.size, 0, none⟩)), (6, .int .i64 u.1)]) (fun u W => u.1 ≤ n ∧ Mk w W n fl u.1 u.1 u.1 u.2) (fun u => n - u.1) (0, none, 0, none, 0, none, 0) ⟨rfl, rfl, rfl, trivial⟩ ⟨Nat.zero_le _, M0⟩ ?_
  rintro ⟨k, a, ca, b, cb, c, cc⟩ wk ⟨hk, M⟩
  dsimp only at hk M ⊢
  by_cases hkn : k < n
  case pos =>
    have La : Ld Try.prog 35 w.heap.size 2 (Eq wk) (.slice a k ca) := .of (load35 (M.hr 2 _ rfl))
    repeat ((conv => whnf); first | (refine VLoad.mk _ La ?_) | (refine VCmp.tt (by omega) ?_) | (refine VCmp.ff (by omega) ?_) | (refine VIn.mk (IntWalk.i64_in _ (by omega)) ?_) | (refine VIdx.mk _ rfl (by omega) ?_) | (refine VIdx.mk 0 rfl (by omega) ?_))
    try (conv => whnf)
    refine VBs.mk _ _ (bs35 wk) ?_
    have d1 : Below wk.heap.size wk (wk.alloc (.cells #[.pointer none] 48)) := (Below.refl _ _).alloc (Nat.le_refl _) _
    have n1 : ∀ j u, (ePtr none)[j]? = some u → (wk.alloc (.cells #[.pointer none] 48)).cell? ⟨wk.heap.size, j, none⟩ = some u := fun j u hu => by
      have := range_new wk #[.pointer none] 48 j u hu
      rwa [Nat.zero_add] at this
    generalize wk.alloc (.cells #[.pointer none] 48) = x1 at d1 n1 ⊢
    have M1 := M.below d1
    have z1 := M1.z
    have l1 := M1.o1.len
    repeat ((conv => whnf); first | (refine VCmp.tt (by omega) ?_) | (refine VCmp.ff (by omega) ?_) | (refine VIn.mk (IntWalk.i64_in _ (by omega)) ?_) | (refine VIdx.mk _ rfl (by omega) ?_) | (refine VIdx.mk 0 rfl (by omega) ?_))
    try (conv => whnf)
    refine VApp.keep (w.heap.size + 1) 1 8 _ Try.underlying35 info48 rfl (by decide) ePtr len_ePtr one_ePtr (List.replicate k none) none (by simp) M1.o1 n1 (by omega) (by omega) (by omega) fun A2 c2 x2 hO2 _ hg2 _ => ?_
    have t2 := there_same M1.ht (hg2.block w.heap.size M1.z (fun e => by have := (M1.o1.lo _ e.symm).1; omega))
    repeat ((conv => whnf); first | (refine VCmp.tt (by omega) ?_) | (refine VCmp.ff (by omega) ?_) | (refine VIn.mk (IntWalk.i64_in _ (by omega)) ?_) | (refine VIdx.mk _ rfl (by omega) ?_) | (refine VIdx.mk 0 rfl (by omega) ?_))
    try (conv => whnf)
    refine VStore.cell (by kernel_rfl) (t2 2 (by omega)).1 (t2 2 (by omega)).2 rfl rfl fun x3 hx3 => ?_
    have M3 := M1.push1 hO2 hg2 (Nat.zero_add 2) hx3.out
    have Lb : Ld Try.prog 27 w.heap.size 3 (Eq x3) (.slice b k cb) := .of (load27 (M3.hr 3 _ rfl))
    repeat ((conv => whnf); first | (refine VLoad.mk _ Lb ?_) | (refine VCmp.tt (by omega) ?_) | (refine VCmp.ff (by omega) ?_) | (refine VIn.mk (IntWalk.i64_in _ (by omega)) ?_) | (refine VIdx.mk _ rfl (by omega) ?_) | (refine VIdx.mk 0 rfl (by omega) ?_))
    try (conv => whnf)
    refine VBs.mk _ _ (bs27 x3 0) ?_
    have d4 : Below x3.heap.size x3 (x3.alloc (.cells #[.int .i64 0] 3)) := (Below.refl _ _).alloc (Nat.le_refl _) _
    have n4 : ∀ j u, (eInt 0)[j]? = some u → (x3.alloc (.cells #[.int .i64 0] 3)).cell? ⟨x3.heap.size, j, none⟩ = some u := fun j u hu => by
      have := range_new x3 #[.int .i64 0] 3 j u hu
      rwa [Nat.zero_add] at this
    generalize x3.alloc (.cells #[.int .i64 0] 3) = x4 at d4 n4 ⊢
    have M4 := M3.below d4
    have z4 := M4.z
    repeat ((conv => whnf); first | (refine VCmp.tt (by omega) ?_) | (refine VCmp.ff (by omega) ?_) | (refine VIn.mk (IntWalk.i64_in _ (by omega)) ?_) | (refine VIdx.mk _ rfl (by omega) ?_) | (refine VIdx.mk 0 rfl (by omega) ?_))
    try (conv => whnf)
    refine VApp.keep (w.heap.size + 1) 1 8 _ Try.underlying27 info3 rfl (by decide) eInt (fun _ => rfl) one_eInt (List.replicate k 0) 0 (by simp) M4.o2 n4 (by omega) (by omega) (by omega) fun A5 c5 x5 hO5 _ hg5 _ => ?_
    have t5 := there_same M4.ht (hg5.block w.heap.size M4.z (fun e => by have := (M4.o2.lo _ e.symm).1; omega))
    repeat ((conv => whnf); first | (refine VCmp.tt (by omega) ?_) | (refine VCmp.ff (by omega) ?_) | (refine VIn.mk (IntWalk.i64_in _ (by omega)) ?_) | (refine VIdx.mk _ rfl (by omega) ?_) | (refine VIdx.mk 0 rfl (by omega) ?_))
    try (conv => whnf)
    refine VStore.cell (by kernel_rfl) (t5 3 (by omega)).1 (t5 3 (by omega)).2 rfl rfl fun x6 hx6 => ?_
    have M6 := M4.push2 hO5 hg5 (Nat.zero_add 3) hx6.out
    have Lc : Ld Try.prog 36 w.heap.size 4 (Eq x6) (.slice c k cc) := .of (load36 (M6.hr 4 _ rfl))
    repeat ((conv => whnf); first | (refine VLoad.mk _ Lc ?_) | (refine VCmp.tt (by omega) ?_) | (refine VCmp.ff (by omega) ?_) | (refine VIn.mk (IntWalk.i64_in _ (by omega)) ?_) | (refine VIdx.mk _ rfl (by omega) ?_) | (refine VIdx.mk 0 rfl (by omega) ?_))
    try (conv => whnf)
    refine VBs.mk _ _ (bs36 x6) ?_
    have d7 : Below x6.heap.size x6 (x6.alloc (.cells #[.slice none 0 0] 34)) := (Below.refl _ _).alloc (Nat.le_refl _) _
    have n7 : ∀ j u, (eSl ev0)[j]? = some u → (x6.alloc (.cells #[.slice none 0 0] 34)).cell? ⟨x6.heap.size, j, none⟩ = some u := fun j u hu => by
      have := range_new x6 #[.slice none 0 0] 34 j u hu
      rwa [Nat.zero_add] at this
    generalize x6.alloc (.cells #[.slice none 0 0] 34) = x7 at d7 n7 ⊢
    have M7 := M6.below d7
    have z7 := M7.z
    repeat ((conv => whnf); first | (refine VCmp.tt (by omega) ?_) | (refine VCmp.ff (by omega) ?_) | (refine VIn.mk (IntWalk.i64_in _ (by omega)) ?_) | (refine VIdx.mk _ rfl (by omega) ?_) | (refine VIdx.mk 0 rfl (by omega) ?_))
    try (conv => whnf)
    refine VApp.keep (w.heap.size + 1) 1 24 _ Try.underlying36 info34 rfl (by decide) eSl len_eSl one_eSl (List.replicate k ev0) ev0 (by simp) M7.o3 n7 (by omega) (by omega) (by omega) fun A8 c8 x8 hO8 _ hg8 _ => ?_
    have t8 := there_same M7.ht (hg8.block w.heap.size M7.z (fun e => by have := (M7.o3.lo _ e.symm).1; omega))
    repeat ((conv => whnf); first | (refine VCmp.tt (by omega) ?_) | (refine VCmp.ff (by omega) ?_) | (refine VIn.mk (IntWalk.i64_in _ (by omega)) ?_) | (refine VIdx.mk _ rfl (by omega) ?_) | (refine VIdx.mk 0 rfl (by omega) ?_))
    try (conv => whnf)
    refine VStore.cell (by kernel_rfl) (t8 4 (by omega)).1 (t8 4 (by omega)).2 rfl rfl fun x9 hx9 => ?_
    have M9 := M7.push3 hO8 hg8 (Nat.zero_add 4) hx9.out
    repeat ((conv => whnf); first | (refine VCmp.tt (by omega) ?_) | (refine VCmp.ff (by omega) ?_) | (refine VIn.mk (IntWalk.i64_in _ (by omega)) ?_) | (refine VIdx.mk _ rfl (by omega) ?_) | (refine VIdx.mk 0 rfl (by omega) ?_))
    try (conv => whnf)
    exact .mk (k + 1, A2, c2, A5, c5, A8, c8) ⟨rfl, rfl, rfl, trivial⟩ ⟨hkn, M9⟩ (by show n - (k + 1) < n - k; omega)
  case neg =>
    obtain rfl : k = n := by omega
    obtain ⟨T0, K0⟩ := M.team
    have bk := M.b
    have hz := M.z
    repeat ((conv => whnf); first | (refine VCmp.tt (by omega) ?_) | (refine VCmp.ff (by omega) ?_) | (refine VIn.mk (IntWalk.i64_in _ (by omega)) ?_) | (refine VIdx.mk _ rfl (by omega) ?_) | (refine VIdx.mk 0 rfl (by omega) ?_))
    try (conv => whnf)
    refine VLoop.mk Nat (fun q => [(0, .int .i64 k), (5, .pointer (some ⟨w.heap.size, 0, none⟩)), (7, .int .i64 q)]) (fun q W => q ≤ k ∧ ∃ K X, TmM W K w.heap.size k q (bootTo (tm0 k fl) q) X ∧ (∀ b, b < w.heap.size → K b = 0) ∧ Below w.heap.size w W) (fun q => k - q) 0 ⟨rfl, rfl, rfl, trivial⟩ ⟨Nat.zero_le _, _, _, T0, K0, bk⟩ ?_
    rintro q wq ⟨hq, K, X, T, hK, bq⟩
    by_cases hqk : q < k
    · repeat ((conv => whnf); first | (refine VCmp.tt (by omega) ?_) | (refine VCmp.ff (by omega) ?_) | (refine VIn.mk (IntWalk.i64_in _ (by omega)) ?_) | (refine VIdx.mk _ rfl (by omega) ?_) | (refine VIdx.mk 0 rfl (by omega) ?_))
      try (conv => whnf)
      have C := bootTo_cnt (Cnt.zero k fl) q
      have C1 := C.e q
      have C2 := C.inc q
      refine VCall.mk _ (boots_any T (bootTo_ok h1 h2 f0 f1 q hq) hqk (Nat.le_refl _) hq h2 (bootTo_n (tm0 k fl) q).1.symm (by omega) (by omega)) ?_
      rintro _ x2 ⟨rfl, K2, X2, T2, Q2⟩
      refine ⟨_, rfl, ?_⟩
      rw [Nat.max_eq_right (by omega)] at T2
      obtain ⟨hK2, b2⟩ := ro_below hK bq Q2
      repeat ((conv => whnf); first | (refine VCmp.tt (by omega) ?_) | (refine VCmp.ff (by omega) ?_) | (refine VIn.mk (IntWalk.i64_in _ (by omega)) ?_) | (refine VIdx.mk _ rfl (by omega) ?_) | (refine VIdx.mk 0 rfl (by omega) ?_))
      try (conv => whnf)
      exact .mk (q + 1) ⟨rfl, rfl, rfl, trivial⟩ ⟨hqk, K2, X2, T2, hK2, b2⟩ (by show k - (q + 1) < k - q; omega)
    · obtain rfl : q = k := by omega
      repeat ((conv => whnf); first | (refine VCmp.tt (by omega) ?_) | (refine VCmp.ff (by omega) ?_) | (refine VIn.mk (IntWalk.i64_in _ (by omega)) ?_) | (refine VIdx.mk _ rfl (by omega) ?_) | (refine VIdx.mk 0 rfl (by omega) ?_))
      try (conv => whnf)
      exact .mk ⟨_, rfl, Nat.le_refl _, K, X, T, hK, bq⟩
end Go.Proofs.Ytfbeggdbjpmppaa
namespace Go.Proofs.Ytfbeggdbjpmppaa
def X2 : List Int := (List.range 16).map fun q => if q < 2 then 1 else 0
def V2 (a b : Int) : List Int := (List.range 16).map fun q => if q = 0 then a else if q = 1 then b else 0
theorem nth_map16 (g : Nat → Int) {q : Nat} (hq : q < 16) : nth ((List.range 16).map g) q = g q := by
  unfold nth; rw [List.getElem?_map, List.getElem?_range hq]; rfl
theorem nth_padA {l : List Int} {q : Nat} : nth (pad l) q = nth l q := by
  by_cases h : q < l.length
  · unfold nth pad; rw [List.getElem?_append_left h]
  · rw [nth_pad_over (by omega)]
    unfold nth; rw [List.getElem?_eq_none (by omega)]; rfl
theorem ext16 {a b : List Int} (ha : a.length = 16) (hb : b.length = 16) (h : ∀ q, q < 16 → nth a q = nth b q) : a = b := by
  refine ext_nth ha hb fun q => ?_
  by_cases hq : q < 16
  · exact h q hq
  · rw [nth_over (by omega), nth_over (by omega)]
theorem bootTo_at (n : Nat) (fl : Int) : ∀ k i, i < k → (bootTo (tm0 n fl) k).S i = newSt n i 1 fl
  | 0, i, h => absurd h (by omega)
  | k + 1, i, h => by
    show upS (bootTo (tm0 n fl) k).S k (newSt (bootTo (tm0 n fl) k).n k (((bootTo (tm0 n fl) k).S k).inc + 1) (bootTo (tm0 n fl) k).fl) i = _
    obtain ⟨e1, e2, -, -⟩ := bootTo_n (tm0 n fl) k
    rw [bootTo_S n fl k k (Nat.le_refl _), e1, e2]
    by_cases e : i = k
    · subst e; rw [upS_same]; rfl
    · rw [upS_ne _ _ e]; exact bootTo_at n fl k i (by omega)
section
variable {n : Nat} {fl : Int}
def wA (fl : Int) (i : Nat) : Wish := ⟨X2, if i = 0 then V2 (fl + 2) 0 else V2 0 (fl + 2), fl + 2, 2, fl, Vid.zero⟩
end
end Go.Proofs.Ytfbeggdbjpmppaa
namespace Go.Proofs.Ytfbeggdbjpmppaa
theorem noteE_mem {n : Nat} {E : Nat → List Lt} {i k : Nat} {s : St} {x : Lt} (h : x ∈ E k) : x ∈ noteE n E i s k := by
  unfold noteE; split
  · exact h
  · exact addE_mono h
theorem hand_mem {t : Tm} {i j k : Nat} {y x : Lt} (h : x ∈ t.E k) : x ∈ (t.hand i j y).E k := by
  unfold Tm.hand; split
  · exact h
  · exact noteE_mem h
section
variable {n : Nat} {fl : Int}
theorem hand_S {t : Tm} {i j : Nat} {x : Lt} (hij : i ≠ j) : (t.hand i j x).S = upS t.S i ((t.S i).take j x.inc (prW t.n x.w)).2.2 ∧ (t.hand i j x).n = t.n ∧ (t.hand i j x).fl = t.fl ∧ (t.hand i j x).D = t.D ∧ (t.hand i j x).sp = (t.sp || decide (((t.S i).take j x.inc (prW t.n x.w)).2.1 = 3)) := by
  unfold Tm.hand; rw [if_neg hij]; exact ⟨rfl, rfl, rfl, rfl, rfl⟩
end
theorem Cnt.upd {t : Tm} {c : Nat} (h : Cnt t c) (i : Nat) {s : St} (hs : s.inc ≤ (c : Int) + 1) {b : Bool} : Cnt { t.upd i s with sp := b } (c + 1) := by
  refine ⟨fun k => ?_, ?_, fun k => ?_⟩
  · have := noteE_len t.n t.E i k s
    have := h.e k
    show (noteE t.n t.E i s k).length ≤ _; omega
  · show t.D.length ≤ _; have := h.d; omega
  · have h1 := upS_inc t.S i k s
    have h2 := h.inc k
    show (upS t.S i s k).inc ≤ _
    omega
theorem Cnt.more {t : Tm} {c c' : Nat} (h : Cnt t c) (hc : c ≤ c') : Cnt t c' := ⟨fun k => Nat.le_trans (h.e k) hc, Nat.le_trans h.d hc, fun k => by have := h.inc k; omega⟩
theorem Cnt.told {t : Tm} {c m i : Nat} (h : Cnt t c) (T : t.Ok m) (hi : i < m) (mask : Int) : Cnt (t.told i mask) (c + 1) := by
  have h1 := (estimate_ris (T.nd i hi).2.1 (t.setOf i mask)).2.inc
  have h2 := h.inc i
  exact h.upd i (by omega)
theorem Cnt.hand {t : Tm} {c m i j : Nat} (h : Cnt t c) (T : t.Ok m) (hi : i < m) (x : Lt) : Cnt (t.hand i j x) (c + 1) := by
  unfold Tm.hand
  split
  · exact h.more (by omega)
  · have h1 := (take_ris (T.nd i hi).2.1 j x.inc (prW t.n x.w)).2.inc
    have h2 := h.inc i
    exact h.upd i (by omega)
theorem Cnt.inst {t : Tm} {c m i : Nat} (h : Cnt t c) (T : t.Ok m) (hi : i < m) : Cnt (t.inst i) (c + 1) := by
  cases ha : (t.S i).agreed with
  | none => rw [Tm.inst_none ha]; exact h.more (by omega)
  | some a =>
    rw [Tm.inst_some ha]
    have h1 := (install_ris (T.nd i hi).2.1 ha).2.2.2.2.2.2.2.2.2.2.2
    have h2 := h.inc i
    have := h.upd i (s := (t.S i).install) (b := t.sp) (by omega)
    refine ⟨this.e, ?_, this.inc⟩
    have h3 := h.d
    show (t.D ++ [t.dn i a]).length ≤ c + 1
    rw [List.length_append]; simp; omega
theorem DB.inst {t : Tm} {m i : Nat} (h : DB t) (T : t.Ok m) (hi : i < m) : DB (t.inst i) := by
  cases ha : (t.S i).agreed with
  | none => rw [Tm.inst_none ha]; exact h
  | some a =>
    rw [Tm.inst_some ha]
    intro d hd
    rcases List.mem_append.1 hd with hd | hd
    · exact h d hd
    · rw [List.mem_singleton.1 hd]
      have h1 := agTo_len (s := t.S i) (k := (t.S i).n) (a := a) (by
        unfold St.agreed at ha
        split at ha
        · exact ha
        · cases ha)
      have h2 := (T.nd i hi).2.1.inv.n2
      exact ⟨Nat.le_trans h1.1 h2, Nat.le_trans h1.2 h2⟩
theorem DB.step {t : Tm} (h : DB t) (T : t.Ok t.n) (s : Sp) : DB (t.step s) := by
  have hn : ∀ x, t.node x < t.n := Tm.node_lt T.n1
  have hh : ∀ i j x, DB (t.hand i j x) := fun i j x => by
    unfold Tm.hand; split
    · exact h
    · exact h
  unfold Tm.step
  split
  · exact h
  · split
    · exact hh _ _ _
    · split
      · exact hh _ _ _
      · split
        · exact h.inst T (hn _)
        · split
          · exact h
          · exact h
theorem Cnt.step {t : Tm} {c : Nat} (h : Cnt t c) (T : t.Ok t.n) (s : Sp) : Cnt (t.step s) (c + 1) := by
  have hn : ∀ x, t.node x < t.n := Tm.node_lt T.n1
  unfold Tm.step
  split
  · exact h.told T (hn _) _
  · split
    · exact h.hand T (hn _) _
    · split
      · exact h.hand T (hn _) _
      · split
        · exact h.inst T (hn _)
        · split
          · exact h.boot _
          · exact h.more (by omega)
end Go.Proofs.Ytfbeggdbjpmppaa
namespace Go.Proofs.Ytfbeggdbjpmppaa
open Go Go.RowKit
def eSp (s : Sp) : List Value := [.int .i64 s.kd, .int .i64 s.i, .int .i64 s.j, .int .i64 s.k, .int .i64 s.m]
theorem sizeN_in (n : Int) : 2 ≤ sizeN n ∧ sizeN n ≤ 16 := by unfold sizeN; split; omega; split <;> omega
structure TmS (w W : World) (g n : Nat) (t : Tm) (K : Nat → Nat) (X : TX) : Prop where
  lo : w.heap.size ≤ g
  nn : t.n = n
  tm : TmM W K g n n t X
  k0 : ∀ b, b < w.heap.size → K b = 0
  be : Below w.heap.size w W
theorem TmS.below {w W W' : World} {g n : Nat} {t : Tm} {K : Nat → Nat} {X : TX} (T : TmS w W g n t K X) (h : Below W.heap.size W W') : TmS w W' g n t K X := ⟨T.lo, T.nn, T.tm.below h, T.k0, T.be.trans (h.mono T.be.size)⟩
theorem TmS.step {w W W' : World} {g n : Nat} {t t' : Tm} {K : Nat → Nat} {X : TX} (T : TmS w W g n t K X) (hn : t'.n = n) (p : TP W K g n n t' W') : ∃ K' X', TmS w W' g n t' K' X' ∧ Ro (· ≠ 0) K K' W W' := by
  obtain ⟨K', X', a, q⟩ := p
  obtain ⟨h1, h2⟩ := ro_below T.k0 T.be q
  exact ⟨K', X', ⟨T.lo, hn, a, h1, h2⟩, q⟩
theorem step_n (t : Tm) (s : Sp) : (t.step s).n = t.n := by
  have hh : ∀ i j x, (t.hand i j x).n = t.n := fun i j x => by unfold Tm.hand; split <;> rfl
  have hi : ∀ i, (t.inst i).n = t.n := fun i => by unfold Tm.inst; split <;> rfl
  unfold Tm.step
  split
  · rfl
  · split
    · exact hh _ _ _
    · split
      · exact hh _ _ _
      · split
        · exact hi _
        · split <;> rfl
theorem Cnt.szs {t : Tm} {c : Nat} (h : Cnt t c) (hc : c ≤ 1000000000) (hd : DB t) : Szs t := ⟨fun k => Nat.le_trans (h.e k) hc, Nat.le_trans h.d hc, hd, fun k => by have := h.inc k; omega⟩
end Go.Proofs.Ytfbeggdbjpmppaa
namespace Go.Proofs.Ytfbeggdbjpmppaa
structure Bd (t : Tm) (k : Int) : Prop where
  s : ∀ i, (t.S i).own.cid ≤ k ∧ (t.S i).own.rev ≤ k ∧ (t.S i).own.top ≤ k ∧ (t.S i).vid.e ≤ k
  e : ∀ q, ∀ x ∈ t.E q, x.w.top ≤ k
def MemC (t : Tm) : Prop := ∀ i, ∀ m ∈ (t.S i).mem, m.c ≠ 0
theorem noteE_all {n : Nat} {E : Nat → List Lt} {i : Nat} {s : St} {P : Lt → Prop} (h : ∀ q, ∀ x ∈ E q, P x) (hs : P ⟨s.inc, s.own⟩) : ∀ q, ∀ x ∈ noteE n E i s q, P x := fun q x hx => by
  unfold noteE at hx
  split at hx
  · exact h q x hx
  · unfold addE at hx
    split at hx
    · rcases List.mem_append.1 hx with hx | hx
      · exact h i x hx
      · rw [List.mem_singleton.1 hx]; exact hs
    · exact h q x hx
theorem Bd.upd {t : Tm} {k k' : Int} (h : Bd t k) (hk : k ≤ k') (i : Nat) {s : St} (hs : s.own.cid ≤ k' ∧ s.own.rev ≤ k' ∧ s.own.top ≤ k' ∧ s.vid.e ≤ k') {b : Bool} : Bd { t.upd i s with sp := b } k' := by
  refine ⟨fun j => ?_, ?_⟩
  · show (upS t.S i s j).own.cid ≤ k' ∧ (upS t.S i s j).own.rev ≤ k' ∧ (upS t.S i s j).own.top ≤ k' ∧ (upS t.S i s j).vid.e ≤ k'
    unfold upS
    split
    · exact hs
    · have := h.s j; omega
  · exact noteE_all (fun q x hx => Int.le_trans (h.e q x hx) hk) hs.2.2.1
theorem begin_bd {s : St} {x : List Int} {k : Int} (h : s.own.cid ≤ k ∧ s.own.rev ≤ k ∧ s.own.top ≤ k ∧ s.vid.e ≤ k) : (s.begin_ x).own.cid ≤ k + 1 ∧ (s.begin_ x).own.rev ≤ k + 1 ∧ (s.begin_ x).own.top ≤ k + 1 ∧ (s.begin_ x).vid.e ≤ k + 1 := by
  refine ⟨by show s.own.cid + 1 ≤ _; omega, by show s.own.rev + 1 ≤ _; omega, ?_, by show s.vid.e ≤ _; omega⟩
  show (if s.vid = Vid.zero then s.own.top else s.vid.e) ≤ k + 1
  split <;> omega
theorem estimate_bd {s : St} {k : Int} (h : s.own.cid ≤ k ∧ s.own.rev ≤ k ∧ s.own.top ≤ k ∧ s.vid.e ≤ k) (l : List Int) : (s.estimate l).2.2.own.cid ≤ k + 1 ∧ (s.estimate l).2.2.own.rev ≤ k + 1 ∧ (s.estimate l).2.2.own.top ≤ k + 1 ∧ (s.estimate l).2.2.vid.e ≤ k + 1 := by
  have h1 : s.own.cid ≤ k + 1 ∧ s.own.rev ≤ k + 1 ∧ s.own.top ≤ k + 1 ∧ s.vid.e ≤ k + 1 := by omega
  unfold St.estimate
  split
  · exact h1
  · split
    · exact h1
    · split
      · exact h1
      · exact begin_bd h
theorem take_bd {s : St} {k : Int} (h : s.own.cid ≤ k ∧ s.own.rev ≤ k ∧ s.own.top ≤ k ∧ s.vid.e ≤ k) (q inc : Int) (p : Pr) : (s.take q inc p).2.2.own.cid ≤ k + 1 ∧ (s.take q inc p).2.2.own.rev ≤ k + 1 ∧ (s.take q inc p).2.2.own.top ≤ k + 1 ∧ (s.take q inc p).2.2.vid.e ≤ k + 1 := by
  have h1 : s.own.cid ≤ k + 1 ∧ s.own.rev ≤ k + 1 ∧ s.own.top ≤ k + 1 ∧ s.vid.e ≤ k + 1 := by omega
  have ht : (s.put q.toNat inc p.wish).own.cid ≤ k ∧ (s.put q.toNat inc p.wish).own.rev ≤ k ∧ (s.put q.toNat inc p.wish).own.top ≤ k ∧ (s.put q.toNat inc p.wish).vid.e ≤ k := h
  have ht1 : (s.put q.toNat inc p.wish).own.cid ≤ k + 1 ∧ (s.put q.toNat inc p.wish).own.rev ≤ k + 1 ∧ (s.put q.toNat inc p.wish).own.top ≤ k + 1 ∧ (s.put q.toNat inc p.wish).vid.e ≤ k + 1 := h1
  unfold St.take
  split
  · exact h1
  · split
    · exact h1
    · split
      · exact h1
      · split
        · exact h1
        · dsimp only
          split
          · split
            · exact ht1
            · split
              · exact ⟨h1.1, by show s.own.rev + 1 ≤ _; omega, h1.2.2.1, h1.2.2.2⟩
              · exact h1
          · split
            · exact ht1
            · split
              · exact h1
              · exact begin_bd ht
theorem agTo_topLe {s : St} {k : Int} (h0 : s.own.top ≤ k) (hw : ∀ q, nth s.own.vec q ≠ 0 → (s.wishOf q).top ≤ k) : ∀ {m : Nat} {a : Ag}, s.agTo m = some a → a.top ≤ k
  | 0, a, e => by cases e; exact h0
  | m + 1, a, e => by
    rw [St.agTo] at e
    obtain ⟨b, hb, hs⟩ := Option.bind_eq_some_iff.1 e
    have ih := agTo_topLe h0 hw hb
    unfold St.agStep at hs
    split at hs
    · cases hs; exact ih
    · split at hs
      · cases hs
      · rename_i hv
        cases hs
        have := hw m (fun e => hv (.inl e))
        show max _ _ ≤ k
        omega
section
variable {t : Tm} {m i j : Nat} {k : Int}
theorem Bd.more (h : Bd t k) {k' : Int} (hk : k ≤ k') : Bd t k' := ⟨fun i => by have := h.s i; omega, fun q x hx => Int.le_trans (h.e q x hx) hk⟩
theorem Bd.told (h : Bd t k) (mask : Int) : Bd (t.told i mask) (k + 1) := h.upd (by omega) i (estimate_bd (h.s i) _)
theorem Bd.hand (h : Bd t k) (x : Lt) : Bd (t.hand i j x) (k + 1) := by
  unfold Tm.hand; split
  · exact h.more (by omega)
  · exact h.upd (by omega) i (take_bd (h.s i) _ _ _)
theorem Bd.boot (h : Bd t k) (hf : t.fl = 0) (hk : 0 ≤ k) : Bd (t.boot i) (k + 1) := by
  have := h.upd (k' := k + 1) (by omega) i (s := newSt t.n i ((t.S i).inc + 1) t.fl) (by
    show t.fl + 1 ≤ k + 1 ∧ (1 : Int) ≤ k + 1 ∧ t.fl ≤ k + 1 ∧ (0 : Int) ≤ k + 1
    omega) (b := t.sp)
  exact this
theorem Bd.inst (h : Bd t k) (T : t.Ok m) (hi : i < m) : Bd (t.inst i) (k + 1) := by
  cases ha : (t.S i).agreed with
  | none => rw [Tm.inst_none ha]; exact h.more (by omega)
  | some a =>
    rw [Tm.inst_some ha]
    obtain ⟨hn, hr, hh, hN⟩ := T.nd i hi
    obtain ⟨r1, r2, r3, r4, r5, r6, r7, r8, -⟩ := install_ris hr ha
    have hs := h.s i
    have hag : (t.S i).agTo (t.S i).n = some a := by
      unfold St.agreed at ha
      split at ha
      · exact ha
      · cases ha
    have htop : a.top ≤ k := agTo_topLe hs.2.2.1 (fun q hq => by
      unfold St.wishOf
      split
      · exact hs.2.2.1
      · rename_i hne
        exact h.e q _ (hN.kn q (hr.rinv.seen q hne hq))) hag
    have hne : a.mem ≠ [] := agTo_me hr.inv hr.inv.self hag
    have hE := vid_e hne
    have := h.upd (k' := k + 1) (by omega) i (s := (t.S i).install) (by rw [r8, r6]; omega) (b := t.sp)
    exact ⟨this.s, this.e⟩
theorem Bd.step (h : Bd t k) (T : t.Ok t.n) (hf : t.fl = 0) (hk : 0 ≤ k) (s : Sp) : Bd (t.step s) (k + 1) := by
  have hn : ∀ x, t.node x < t.n := Tm.node_lt T.n1
  unfold Tm.step
  split
  · exact h.told _
  · split
    · exact h.hand _
    · split
      · exact h.hand _
      · split
        · exact h.inst T (hn _)
        · split
          · exact h.boot hf hk
          · exact h.more (by omega)
theorem MemC.upd (h : MemC t) (i : Nat) {s : St} (hs : ∀ m ∈ s.mem, m.c ≠ 0) {b : Bool} : MemC { t.upd i s with sp := b } := fun j m hm => by
  have hm' : m ∈ (upS t.S i s j).mem := hm
  unfold upS at hm'
  split at hm'
  · exact hs m hm'
  · exact h j m hm'
theorem MemC.told (h : MemC t) (T : t.Ok m) (hi : i < m) (mask : Int) : MemC (t.told i mask) := h.upd i (by rw [(estimate_ris (T.nd i hi).2.1 _).2.mem]; exact h i)
theorem MemC.hand (h : MemC t) (T : t.Ok m) (hi : i < m) (x : Lt) : MemC (t.hand i j x) := by
  unfold Tm.hand; split
  · exact h
  · exact h.upd i (by rw [(take_ris (T.nd i hi).2.1 _ _ _).2.mem]; exact h i)
theorem MemC.boot (h : MemC t) : MemC (t.boot i) := by
  have := h.upd i (s := newSt t.n i ((t.S i).inc + 1) t.fl) (fun m hm => absurd (show m ∈ ([] : List Mb) from hm) (by simp)) (b := t.sp)
  exact this
theorem MemC.inst (h : MemC t) (T : t.Ok m) (hi : i < m) : MemC (t.inst i) := by
  cases ha : (t.S i).agreed with
  | none => rw [Tm.inst_none ha]; exact h
  | some a =>
    rw [Tm.inst_some ha]
    obtain ⟨hn, hr, hh, hN⟩ := T.nd i hi
    have hag : (t.S i).agTo (t.S i).n = some a := by
      unfold St.agreed at ha
      split at ha
      · exact ha
      · cases ha
    obtain ⟨f1, -, f3, -⟩ := agTo_facts hag
    have := h.upd i (s := (t.S i).install) (b := t.sp) (fun y hy => by
      rw [(install_ris hr ha).2.2.2.2.2.2.1, f1] at hy
      obtain ⟨q, q1, q2, rfl⟩ := memOf_mem hy
      exact (f3 q q1 q2).1)
    exact this
theorem MemC.step (h : MemC t) (T : t.Ok t.n) (s : Sp) : MemC (t.step s) := by
  have hn : ∀ x, t.node x < t.n := Tm.node_lt T.n1
  unfold Tm.step
  split
  · exact h.told T (hn _) _
  · split
    · exact h.hand T (hn _) _
    · split
      · exact h.hand T (hn _) _
      · split
        · exact h.inst T (hn _)
        · split
          · exact h.boot
          · exact h
end
end Go.Proofs.Ytfbeggdbjpmppaa
namespace Go.Proofs.Ytfbeggdbjpmppaa
open Go Go.RowKit
theorem step_fl (t : Tm) (s : Sp) : (t.step s).fl = t.fl := by
  have hh : ∀ i j x, (t.hand i j x).fl = t.fl := fun i j x => by unfold Tm.hand; split <;> rfl
  have hi : ∀ i, (t.inst i).fl = t.fl := fun i => by unfold Tm.inst; split <;> rfl
  unfold Tm.step
  split
  · rfl
  · split
    · exact hh _ _ _
    · split
      · exact hh _ _ _
      · split
        · exact hi _
        · split <;> rfl
structure Ply (n c : Nat) (t : Tm) : Prop where
  ok : t.Ok n
  nn : t.n = n
  fl : t.fl = 0
  cnt : Cnt t (n + c)
  db : DB t
  bd : Bd t ((n : Int) + 1 + c)
  mc : MemC t
theorem Ply.start {n : Nat} (h1 : 1 ≤ n) (h2 : n ≤ 16) : Ply n 0 (bootTo (tm0 n 0) n) := by
  obtain ⟨e1, e2, e3, e4⟩ := bootTo_n (tm0 n 0) n
  have hb : ∀ k, Bd (bootTo (tm0 n 0) k) ((k : Int) + 1) ∧ MemC (bootTo (tm0 n 0) k) := fun k => by
    induction k with
    | zero => exact ⟨⟨fun i => by show (1 : Int) ≤ 0 + 1 ∧ (1 : Int) ≤ 0 + 1 ∧ (0 : Int) ≤ 0 + 1 ∧ (0 : Int) ≤ 0 + 1; omega, fun q x hx => absurd hx (by simp [bootTo, tm0])⟩, fun i m hm => absurd (show m ∈ ([] : List Mb) from hm) (by simp)⟩
    | succ k ih =>
      have := ih.1.boot (i := k) (bootTo_n (tm0 n 0) k).2.1 (by omega)
      exact ⟨this.more (by omega), ih.2.boot⟩
  have hc := bootTo_cnt (Cnt.zero n 0) n
  exact ⟨bootTo_ok h1 h2 (by decide) (by decide) n (Nat.le_refl _), e1, e2, hc.more (by omega), fun d hd => by rw [e3] at hd; exact absurd hd (by simp [tm0]), (hb n).1.more (by omega), (hb n).2⟩
theorem Ply.step {n c : Nat} {t : Tm} (P : Ply n c t) (hc : n + c ≤ 1000000000) (s : Sp) : Ply n (c + 1) (t.step s) := by
  have ok := P.ok
  rw [← P.nn] at ok
  have cn := P.cnt
  have o := Tm.Ok.step ok (b := 1000000000) (fun i _ => by have := cn.inc i; omega) (by decide) s
  rw [P.nn] at o
  exact ⟨o, (step_n t s).trans P.nn, (step_fl t s).trans P.fl, (cn.step ok s).more (by omega), P.db.step ok s, (P.bd.step ok P.fl (by omega) s).more (by omega), P.mc.step ok s⟩
theorem Ply.inst {n c i : Nat} {t : Tm} (P : Ply n c t) (hi : i < n) : Ply n (c + 1) (t.inst i) := by
  have hn : (t.inst i).n = t.n ∧ (t.inst i).fl = t.fl := by unfold Tm.inst; split <;> exact ⟨rfl, rfl⟩
  exact ⟨P.ok.inst hi, hn.1.trans P.nn, hn.2.trans P.fl, (P.cnt.inst P.ok hi).more (by omega), P.db.inst P.ok hi, (P.bd.inst P.ok hi).more (by omega), P.mc.inst P.ok hi⟩
def Tm.two (t : Tm) (i j : Int) : Nat := if t.node i = t.node j then t.node (t.node i + 1) else t.node j
end Go.Proofs.Ytfbeggdbjpmppaa
namespace Go.Proofs.Ytfbeggdbjpmppaa
structure Vw (E : Nat → List Lt) (n : Nat) (s : St) : Prop where
  mem : s.mem = memOf n s.own
  hd : ∃ m r, s.mem = m :: r ∧ s.vid.l = m.p ∧ s.vid.i = m.i ∧ s.vid.c = m.c
  nz : ∀ q, q < n → nth s.own.set q ≠ 0 → nth s.own.vec q ≠ 0
  lt : ∀ q, q < n → nth s.own.set q ≠ 0 → ∃ x ∈ E q, x.inc = nth s.own.set q ∧ x.w.cid = nth s.own.vec q ∧ x.w.top < s.vid.e
  eq : ∃ q, q < n ∧ nth s.own.set q ≠ 0 ∧ ∃ x ∈ E q, x.inc = nth s.own.set q ∧ x.w.cid = nth s.own.vec q ∧ x.w.top + 1 = s.vid.e
  lv : ∀ q, q < n → q ≠ s.self → s.matB q = true → (s.lt q).w.cid ≤ nth s.own.vec q
def VwT (t : Tm) (m : Nat) : Prop := ∀ i, i < m → (t.S i).opn = false → Vw t.E t.n (t.S i)
theorem Vw.mono {E E' : Nat → List Lt} {n : Nat} {s : St} (h : Vw E n s) (hE : ∀ q x, x ∈ E q → x ∈ E' q) : Vw E' n s := by
  refine ⟨h.mem, h.hd, h.nz, fun q hq hz => ?_, ?_, h.lv⟩
  · obtain ⟨x, hx, r⟩ := h.lt q hq hz; exact ⟨x, hE q x hx, r⟩
  · obtain ⟨q, hq, hz, x, hx, r⟩ := h.eq; exact ⟨q, hq, hz, x, hE q x hx, r⟩
theorem agTo_att {s : St} : ∀ {k : Nat} {a : Ag}, s.agTo k = some a → a.top = s.own.top ∨ ∃ q, q < k ∧ nth s.own.set q ≠ 0 ∧ (s.wishOf q).top = a.top
  | 0, a, e => by cases e; exact .inl rfl
  | k + 1, a, e => by
    rw [St.agTo] at e
    obtain ⟨b, hb, hs⟩ := Option.bind_eq_some_iff.1 e
    have ih := agTo_att hb
    unfold St.agStep at hs
    split at hs
    · cases hs
      rcases ih with h | ⟨q, h1, h2⟩
      · exact .inl h
      · exact .inr ⟨q, by omega, h2⟩
    · rename_i hz
      split at hs
      · cases hs
      · cases hs
        show max b.top (s.wishOf k).top = _ ∨ ∃ q, q < k + 1 ∧ _ ∧ _ = max b.top (s.wishOf k).top
        by_cases hm : b.top ≤ (s.wishOf k).top
        · rw [Int.max_eq_right hm]
          exact .inr ⟨k, by omega, hz, rfl⟩
        · rw [Int.max_eq_left (by omega)]
          rcases ih with h | ⟨q, h1, h2⟩
          · exact .inl h
          · exact .inr ⟨q, by omega, h2⟩
theorem vw_install {E : Nat → List Lt} {n i : Nat} {fl : Int} {s : St} {a : Ag} (hN : NI E n fl i s) (hr : Ris s) (hH : Hrd s) (hn : s.n = n) (ha : s.agreed = some a) : Vw E n s.install := by
  have hin : s.install = { s with vid := a.vid, mem := a.mem, opn := false } := by unfold St.install; rw [ha]
  have hop : s.opn = true ∧ s.agTo s.n = some a := by
    unfold St.agreed at ha
    split at ha
    · rename_i h; exact ⟨h, ha⟩
    · cases ha
  obtain ⟨ho, hag⟩ := hop
  obtain ⟨f1, f2, f3, -⟩ := agTo_facts hag
  have hne := agTo_me hr.inv hr.inv.self hag
  have hE := vid_e hne
  have hv := hH ho
  have ent : ∀ q, q < n → nth s.own.set q ≠ 0 → ∃ x ∈ E q, x.inc = nth s.own.set q ∧ x.w.cid = nth s.own.vec q ∧ x.w.top = (s.wishOf q).top := fun q hq hz => by
    unfold St.wishOf
    by_cases e : q = s.self
    · rw [if_pos e, e]
      refine ⟨⟨s.inc, s.own⟩, by rw [hN.self]; exact hN.here, hr.inv.me.symm, hr.me.symm, rfl⟩
    · rw [if_neg e]
      have h1 := (f3 q (by rw [hn]; exact hq) hz).1
      rw [hv] at h1
      obtain ⟨s1, s2, s3, s4⟩ := heard_src e h1
      exact ⟨s.lt q, hN.kn q s1, s2, by rw [s4, ← hv], rfl⟩
  rw [hn] at f1 f3
  have f1' := f1
  rw [hin]
  refine ⟨?_, ?_, fun q hq hz => (f3 q hq hz).1, fun q hq hz => ?_, ?_, fun q hq hqs hm => ?_⟩
  · have e := (agTo_facts hag).1
    rw [hn] at e; exact e
  · show ∃ m r, a.mem = m :: r ∧ a.vid.l = m.p ∧ a.vid.i = m.i ∧ a.vid.c = m.c
    cases hm : a.mem with
    | nil => exact absurd hm hne
    | cons m r =>
      refine ⟨m, r, rfl, ?_⟩
      unfold Ag.vid
      rw [hm]
      exact ⟨rfl, rfl, rfl⟩
  · obtain ⟨x, hx, x1, x2, x3⟩ := ent q hq hz
    refine ⟨x, hx, x1, x2, ?_⟩
    have := (f3 q hq hz).2.2
    show x.w.top < a.vid.e
    omega
  · rcases agTo_att hag with h | ⟨q, h1, h2, h3⟩
    · refine ⟨i, ?_, ?_, ?_⟩
      · rw [← hn, ← hN.self]; exact hr.inv.self
      · show nth s.own.set i ≠ 0
        have := hr.inv.me; have := hr.inv.inc1
        rw [← hN.self]; omega
      · refine ⟨⟨s.inc, s.own⟩, hN.here, ?_, ?_, ?_⟩
        · rw [← hN.self]; exact hr.inv.me.symm
        · rw [← hN.self]; exact hr.me.symm
        · show s.own.top + 1 = a.vid.e; omega
    · obtain ⟨x, hx, x1, x2, x3⟩ := ent q (by omega) h2
      exact ⟨q, by omega, h2, x, hx, x1, x2, by show x.w.top + 1 = a.vid.e; omega⟩
  · show (s.lt q).w.cid ≤ nth s.own.vec q
    have hm' : s.matB q = true := hm
    have hqs' : ¬ q = s.self := hqs
    have n16 := hr.inv.n2
    rw [hv, nth_heard (by omega)]
    unfold St.vecAt
    rw [if_neg hqs', if_pos ⟨by omega, hm'⟩]
    exact Int.le_refl _
theorem leaves_memOf {n q : Nat} {w : Wish} {inc cid : Int} (hq : q < n) (hz : nth w.set q ≠ 0) : leavesB (memOf n w) q inc cid = decide (nth w.set q = inc ∧ nth w.vec q < cid) := by
  unfold leavesB
  cases hf : (memOf n w).find? (fun m => decide (m.p = (q : Int))) with
  | none =>
    have := List.find?_eq_none.1 hf _ (memOf_in hq hz)
    simp at this
  | some m =>
    have hm := List.mem_of_find?_eq_some hf
    have hp : m.p = q := by have := List.find?_some hf; simpa using this
    obtain ⟨r, r1, r2, rfl⟩ := memOf_mem hm
    obtain rfl : r = q := by have : (r : Int) = q := hp; omega
    rfl
theorem vw_take {E : Nat → List Lt} {n : Nat} {s : St} (h : Vw E n s) (hi : Inv s) (hn : s.n = n) (ho : s.opn = false) (q inc : Int) (p : Pr) :
    ((s.take q inc p).2.2.opn = true ∧ (s.take q inc p).2.2 = (s.put q.toNat inc p.wish).begin_ s.own.set ∧ leavesB s.mem q inc p.cid = true) ∨ (Vw E n (s.take q inc p).2.2 ∧ (s.take q inc p).2.2.opn = false ∧ (s.take q inc p).2.2.own = s.own) := by
  unfold St.take
  split
  · exact .inr ⟨h, ho, rfl⟩
  · rename_i g1
    split
    · exact .inr ⟨h, ho, rfl⟩
    · split
      · exact .inr ⟨h, ho, rfl⟩
      · split
        · exact .inr ⟨h, ho, rfl⟩
        · dsimp only
          rw [if_neg (by rw [ho]; decide)]
          split
          · rename_i hl
            have hl' : leavesB s.mem q inc p.cid = false := hl
            refine .inr ⟨⟨h.mem, h.hd, h.nz, h.lt, h.eq, fun r hr hrs hm => ?_⟩, ho, rfl⟩
            have n16 := hi.n2
            have o16 := hi.oth
            have hrs' : r ≠ s.self := hrs
            have hm' := hm
            unfold St.matB at hm'
            rw [lt_put (by omega)] at hm' ⊢
            by_cases e : r = q.toNat
            · rw [if_pos e] at hm' ⊢
              simp only [decide_eq_true_eq] at hm'
              obtain ⟨m1, m2, m3⟩ := hm'
              have m2' : inc = nth s.own.set r := m2
              have hq : ((q.toNat : Nat) : Int) = q := by omega
              rw [h.mem, ← hq, ← e, leaves_memOf hr (by omega)] at hl'
              have := of_decide_eq_false hl'
              show p.wish.cid ≤ nth s.own.vec r
              have e3 : p.wish.cid = p.cid := rfl
              omega
            · rw [if_neg e] at hm' ⊢
              exact h.lv r hr hrs' (by unfold St.matB; exact hm')
          · rename_i hl
            split
            · exact .inr ⟨h, ho, rfl⟩
            · refine .inl ⟨rfl, rfl, ?_⟩
              cases hb : leavesB s.mem q inc p.cid with
              | true => rfl
              | false => exact absurd hb hl
theorem take_open {s : St} (ho : s.opn = true) (q inc : Int) (p : Pr) : (s.take q inc p).2.2.opn = true ∧ (s.take q inc p).2.2.own.cid = s.own.cid ∧ (s.take q inc p).2.2.own.set = s.own.set := by
  unfold St.take
  split
  · exact ⟨ho, rfl, rfl⟩
  · split
    · exact ⟨ho, rfl, rfl⟩
    · split
      · exact ⟨ho, rfl, rfl⟩
      · split
        · exact ⟨ho, rfl, rfl⟩
        · dsimp only
          try rw [if_pos ho]
          split
          · exact ⟨ho, rfl, rfl⟩
          · split
            · exact ⟨ho, rfl, rfl⟩
            · exact ⟨ho, rfl, rfl⟩
theorem est_opn {s : St} (l : List Int) : (s.estimate l).2.2 = s ∨ (s.estimate l).2.2.opn = true := by
  unfold St.estimate
  split
  · exact .inl rfl
  · split
    · exact .inl rfl
    · split
      · exact .inl rfl
      · exact .inr rfl
theorem spent_no {s : St} {k : Int} (h : s.own.cid ≤ k ∧ s.own.rev ≤ k ∧ s.own.top ≤ k ∧ s.vid.e ≤ k) (hk : k < 4611686018427387904) : s.spent = false := by
  unfold St.spent
  exact decide_eq_false (by omega)
theorem est_no3 {s : St} {k : Int} (h : s.own.cid ≤ k ∧ s.own.rev ≤ k ∧ s.own.top ≤ k ∧ s.vid.e ≤ k) (hk : k < 4611686018427387904) (l : List Int) : decide ((s.estimate l).2.1 = 3) = false := by
  unfold St.estimate
  split
  · rfl
  · split
    · rfl
    · rw [spent_no h hk, if_neg (by decide)]; rfl
theorem take_no3 {s : St} {k : Int} (h : s.own.cid ≤ k ∧ s.own.rev ≤ k ∧ s.own.top ≤ k ∧ s.vid.e ≤ k) (hk : k < 4611686018427387904) (q inc : Int) (p : Pr) : decide ((s.take q inc p).2.1 = 3) = false := by
  unfold St.take
  split
  · rfl
  · split
    · rfl
    · split
      · rfl
      · split
        · rfl
        · dsimp only
          split
          · split
            · rfl
            · rw [if_pos (by show s.own.rev < _; omega)]; rfl
          · split
            · rfl
            · rw [show (s.put q.toNat inc p.wish).spent = false from spent_no (k := k) h hk, if_neg (by decide)]; rfl
section
variable {t : Tm} {m i j : Nat}
theorem VwT.upd (h : VwT t m) (i : Nat) {s : St} (hs : s.opn = false → Vw t.E t.n s) {b : Bool} : VwT { t.upd i s with sp := b } m := fun j hj ho => by
  have ho' : (upS t.S i s j).opn = false := ho
  show Vw (noteE t.n t.E i s) t.n (upS t.S i s j)
  refine Vw.mono (E := t.E) ?_ fun q x hx => noteE_mem hx
  unfold upS at ho' ⊢
  split at ho'
  · rename_i e; rw [if_pos e]; exact hs ho'
  · rename_i e; rw [if_neg e]; exact h j hj ho'
theorem VwT.told (h : VwT t m) (hi : i < m) (mask : Int) : VwT (t.told i mask) m := h.upd i fun ho => by
  rcases est_opn (s := t.S i) (t.setOf i mask) with e | e
  · rw [e] at ho ⊢; exact h i hi ho
  · rw [e] at ho; cases ho
theorem VwT.hand (h : VwT t m) (T : t.Ok m) (hi : i < m) (x : Lt) : VwT (t.hand i j x) m := by
  unfold Tm.hand; split
  · exact h
  · refine h.upd i fun ho => ?_
    cases hop : (t.S i).opn with
    | true => rw [(take_open hop _ _ _).1] at ho; cases ho
    | false =>
      rcases vw_take (h i hi hop) (T.nd i hi).2.1.inv (T.nd i hi).1 hop j x.inc (prW t.n x.w) with ⟨e, -⟩ | ⟨e, -⟩
      · rw [e] at ho; cases ho
      · exact e
theorem VwT.boot (h : VwT t m) : VwT (t.boot i) m := by
  have := h.upd i (s := newSt t.n i ((t.S i).inc + 1) t.fl) (fun ho => by cases ho) (b := t.sp)
  exact this
theorem VwT.inst (h : VwT t m) (T : t.Ok m) (hi : i < m) : VwT (t.inst i) m := by
  cases ha : (t.S i).agreed with
  | none => rw [Tm.inst_none ha]; exact h
  | some a =>
    rw [Tm.inst_some ha]
    obtain ⟨hn, hr, hh, hN⟩ := T.nd i hi
    have := h.upd i (s := (t.S i).install) (fun _ => vw_install hN hr hh hn ha) (b := t.sp)
    exact this
theorem VwT.step (h : VwT t t.n) (T : t.Ok t.n) (s : Sp) : VwT (t.step s) t.n := by
  have hn : ∀ x, t.node x < t.n := Tm.node_lt T.n1
  unfold Tm.step
  split
  · exact h.told (hn _) _
  · split
    · exact h.hand T (hn _) _
    · split
      · exact h.hand T (hn _) _
      · split
        · exact h.inst T (hn _)
        · split
          · exact h.boot
          · exact h
end
structure Cal (n c : Nat) (t : Tm) : Prop where
  p : Ply n c t
  vw : VwT t n
  sp : t.sp = false
theorem Cal.start {n : Nat} (h1 : 1 ≤ n) (h2 : n ≤ 16) : Cal n 0 (bootTo (tm0 n 0) n) := by
  obtain ⟨e1, e2, e3, e4⟩ := bootTo_n (tm0 n 0) n
  refine ⟨.start h1 h2, fun i hi ho => ?_, e4⟩
  rw [bootTo_at n 0 n i hi] at ho
  cases ho
section
variable {n c i j : Nat} {t : Tm}
theorem Ply.told (P : Ply n c t) (hi : i < n) (mask : Int) : Ply n (c + 1) (t.told i mask) :=
  ⟨P.ok.told hi mask, P.nn, P.fl, (P.cnt.told P.ok hi mask).more (by omega), P.db, (P.bd.told mask).more (by omega), P.mc.told P.ok hi mask⟩
theorem hand_n (t : Tm) (i j : Nat) (x : Lt) : (t.hand i j x).n = t.n ∧ (t.hand i j x).fl = t.fl ∧ (t.hand i j x).D = t.D := by unfold Tm.hand; split <;> exact ⟨rfl, rfl, rfl⟩
theorem Ply.hand (P : Ply n c t) (hi : i < n) {x : Lt} (hx : x ∈ t.E j) : Ply n (c + 1) (t.hand i j x) :=
  ⟨P.ok.hand hi hx, (hand_n t i j x).1.trans P.nn, (hand_n t i j x).2.1.trans P.fl, (P.cnt.hand P.ok hi x).more (by omega), fun d hd => P.db d (by rw [(hand_n t i j x).2.2] at hd; exact hd), (P.bd.hand x).more (by omega), P.mc.hand P.ok hi x⟩
theorem told_sp (P : Ply n c t) (hc : n + c ≤ 1000000000) (hs : t.sp = false) (i : Nat) (mask : Int) : (t.told i mask).sp = false := by
  show (t.sp || decide (((t.S i).estimate (t.setOf i mask)).2.1 = 3)) = false
  rw [hs, est_no3 (P.bd.s i) (by omega)]; rfl
theorem hand_sp (P : Ply n c t) (hc : n + c ≤ 1000000000) (hs : t.sp = false) (i j : Nat) (x : Lt) : (t.hand i j x).sp = false := by
  unfold Tm.hand
  split
  · exact hs
  · show (t.sp || decide (((t.S i).take j x.inc (prW t.n x.w)).2.1 = 3)) = false
    rw [hs, take_no3 (P.bd.s i) (by omega)]; rfl
theorem inst_sp (t : Tm) (i : Nat) : (t.inst i).sp = t.sp := by unfold Tm.inst; split <;> rfl
theorem Cal.told (C : Cal n c t) (hc : n + c ≤ 1000000000) (hi : i < n) (mask : Int) : Cal n (c + 1) (t.told i mask) := ⟨C.p.told hi mask, C.vw.told hi mask, told_sp C.p hc C.sp i mask⟩
theorem Cal.hand (C : Cal n c t) (hc : n + c ≤ 1000000000) (hi : i < n) {x : Lt} (hx : x ∈ t.E j) : Cal n (c + 1) (t.hand i j x) := ⟨C.p.hand hi hx, C.vw.hand C.p.ok hi x, hand_sp C.p hc C.sp i j x⟩
theorem Cal.inst (C : Cal n c t) (hi : i < n) : Cal n (c + 1) (t.inst i) := ⟨C.p.inst hi, C.vw.inst C.p.ok hi, (inst_sp t i).trans C.sp⟩
theorem Cal.step (C : Cal n c t) (hc : n + c ≤ 1000000000) (s : Sp) : Cal n (c + 1) (t.step s) := by
  have T := C.p.ok
  have V := C.vw
  rw [← C.p.nn] at T V
  refine ⟨C.p.step hc s, by have := V.step T s; rw [C.p.nn] at this; exact this, ?_⟩
  unfold Tm.step
  split
  · exact told_sp C.p hc C.sp _ _
  · split
    · exact hand_sp C.p hc C.sp _ _ _
    · split
      · exact hand_sp C.p hc C.sp _ _ _
      · split
        · exact (inst_sp t _).trans C.sp
        · split
          · exact C.sp
          · exact C.sp
end
end Go.Proofs.Ytfbeggdbjpmppaa
