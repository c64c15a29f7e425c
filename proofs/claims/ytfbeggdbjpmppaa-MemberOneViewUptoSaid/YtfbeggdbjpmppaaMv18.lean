/- Starts2 Team6 Team7 Team8, joined. -/
import Derived.Test.YtfbeggdbjpmppaaMv17
set_option linter.unusedVariables false
set_option linter.unusedSimpArgs false
namespace Go.Proofs.Ytfbeggdbjpmppaa
open Go Go.RowKit
def bootTo (t : Tm) : Nat → Tm
  | 0 => t
  | k + 1 => (bootTo t k).boot k
theorem noteE_len (n : Nat) (E : Nat → List Lt) (i k : Nat) (s : St) : (noteE n E i s k).length ≤ (E k).length + 1 := by
  unfold noteE
  split
  · omega
  · unfold addE
    split
    · rename_i e; subst e; rw [List.length_append]; simp
    · omega
theorem upS_inc (S : Nat → St) (i k : Nat) (s : St) : (upS S i s k).inc ≤ max (S k).inc s.inc := by
  unfold upS; split <;> omega
structure Cnt (t : Tm) (c : Nat) : Prop where
  e : ∀ k, (t.E k).length ≤ c
  d : t.D.length ≤ c
  inc : ∀ k, (t.S k).inc ≤ c
theorem Cnt.boot {t : Tm} {c : Nat} (h : Cnt t c) (i : Nat) : Cnt (t.boot i) (c + 1) := by
  refine ⟨fun k => ?_, ?_, fun k => ?_⟩
  · have := noteE_len t.n t.E i k (newSt t.n i ((t.S i).inc + 1) t.fl)
    have := h.e k
    show (noteE t.n t.E i _ k).length ≤ _; omega
  · show t.D.length ≤ _; have := h.d; omega
  · have h1 := upS_inc t.S i k (newSt t.n i ((t.S i).inc + 1) t.fl)
    have h2 := h.inc k
    have h3 := h.inc i
    show (upS t.S i _ k).inc ≤ _
    have h4 : (newSt t.n i ((t.S i).inc + 1) t.fl).inc = (t.S i).inc + 1 := rfl
    omega
theorem Cnt.zero (n : Nat) (fl : Int) : Cnt (tm0 n fl) 0 := ⟨fun _ => Nat.le_refl _, Nat.le_refl _, fun _ => Int.le_refl _⟩
theorem bootTo_cnt {t : Tm} {c : Nat} (h : Cnt t c) : ∀ k, Cnt (bootTo t k) (c + k)
  | 0 => h
  | k + 1 => (bootTo_cnt h k).boot k
theorem bootTo_n (t : Tm) : ∀ k, (bootTo t k).n = t.n ∧ (bootTo t k).fl = t.fl ∧ (bootTo t k).D = t.D ∧ (bootTo t k).sp = t.sp
  | 0 => ⟨rfl, rfl, rfl, rfl⟩
  | k + 1 => bootTo_n t k
theorem tm0_ok {n : Nat} {fl : Int} (h1 : 1 ≤ n) (h2 : n ≤ 16) (f0 : 0 ≤ fl) (f1 : fl ≤ 4611686018427387902) : (tm0 n fl).Ok 0 :=
  ⟨h1, h2, Nat.zero_le _, f0, f1, fun i hi => absurd hi (by omega), fun _ _ => rfl, fun d hd => absurd hd (by simp [tm0])⟩
theorem bootTo_S (n : Nat) (fl : Int) : ∀ k i, k ≤ i → (bootTo (tm0 n fl) k).S i = St0
  | 0, i, _ => rfl
  | k + 1, i, h => by
    show upS (bootTo (tm0 n fl) k).S k _ i = St0
    rw [upS_ne _ _ (by omega)]
    exact bootTo_S n fl k i (by omega)
theorem bootTo_ok {n : Nat} {fl : Int} (h1 : 1 ≤ n) (h2 : n ≤ 16) (f0 : 0 ≤ fl) (f1 : fl ≤ 4611686018427387902) : ∀ k, k ≤ n → (bootTo (tm0 n fl) k).Ok k
  | 0, _ => tm0_ok h1 h2 f0 f1
  | k + 1, hk => by
    have ih := bootTo_ok h1 h2 f0 f1 k (by omega)
    have hs := bootTo_S n fl k k (Nat.le_refl _)
    have hi0 : ((bootTo (tm0 n fl) k).S k).inc = 0 := by rw [hs]; rfl
    have := ih.boot (i := k) (by rw [(bootTo_n _ k).1]; exact hk) (Nat.le_refl _) (by omega) (by omega)
    rw [Nat.max_eq_right (by omega)] at this
    exact this
def StP (w : World) (n : Nat) (t : Tm) (w' : World) (h : Nat) : Prop := w.heap.size ≤ h ∧ ∃ K X, TmM w' K h n n t X ∧ (∀ b, b < w.heap.size → K b = 0) ∧ Below w.heap.size w w'
theorem ro_below {w w1 w' : World} {K K' : Nat → Nat} (hK : ∀ b, b < w.heap.size → K b = 0) (hb : Below w.heap.size w w1) (q : Ro (· ≠ 0) K K' w1 w') : (∀ b, b < w.heap.size → K' b = 0) ∧ Below w.heap.size w w' := by
  have z := hb.size
  refine ⟨fun b h => (q.kk b (by omega)).trans (hK b h), q.os.trans hb.os, q.tape.trans hb.tape, q.output.trans hb.output, Nat.le_trans z q.size, fun b h => (q.same b (by omega) (by rw [hK b h]; simp)).trans (hb.block b h)⟩
set_option maxRecDepth 100000 in
set_option maxHeartbeats 4000000 in
theorem starts_any (w : World) {n : Nat} {fl : Int} (h1 : 1 ≤ n) (h2 : n ≤ 16) (f0 : 0 ≤ fl) (f1 : fl ≤ 4611686018427387902) :
    Calls Try.prog 17 #[.int .i64 n, .int .i64 fl] w fun e w' => ∃ g, e = .returned (.pointer (some ⟨g, 0, none⟩)) ∧ StP w n (bootTo (tm0 n fl) n) w' g := by
  refine calls_vc tab_ok Try.func17 rfl ?_
  conv => whnf
  repeat ((conv => whnf); first | (refine VBuild.mk _ (fun W => build39 W n fl) ?_) | (refine VCmp.tt (by omega) ?_) | (refine VCmp.ff (by omega) ?_) | (refine VIn.mk (IntWalk.i64_in _ (by omega)) ?_) | (refine VIdx.mk _ rfl (by omega) ?_) | (refine VIdx.mk 0 rfl (by omega) ?_))
  try (conv => whnf)
  refine .mk fun wA hwA => ?_
  have bA : Below w.heap.size w wA := by rw [hwA.out]; exact below_box1 _ _ _
  have zA : wA.heap.size = w.heap.size + 1 := by rw [hwA.out]; simp
  have oA : wA.rangeAt w.heap.size 0 [.int .i64 n, .int .i64 fl, .slice none 0 0, .slice none 0 0, .slice none 0 0, .slice none 0 0, .bool false] := by rw [hwA.out]; exact range_new w _ 39
  have tA : wA.there w.heap.size 0 7 := by rw [hwA.out]; exact there_new w _ 39
  clear hwA
  have M0 : Mk w wA n fl 0 0 0 (none, 0, none, 0, none, 0) := ⟨bA, by omega, oA, tA, ⟨rfl, .inl ⟨rfl, rfl⟩⟩, ⟨rfl, .inl ⟨rfl, rfl⟩⟩, ⟨rfl, .inl ⟨rfl, rfl⟩⟩⟩
  repeat ((conv => whnf); first | (refine VCmp.tt (by omega) ?_) | (refine VCmp.ff (by omega) ?_) | (refine VIn.mk (IntWalk.i64_in _ (by omega)) ?_) | (refine VIdx.mk _ rfl (by omega) ?_) | (refine VIdx.mk 0 rfl (by omega) ?_))
  try (conv => whnf)
  refine VLoop.mk (Nat × Option Addr × Nat × Option Addr × Nat × Option Addr × Nat) (fun u => [(0, .int .i64 n), (5, .pointer (some ⟨w.heap.size, 0, none⟩)), (6, .int .i64 u.1)]) (fun u W => u.1 ≤ n ∧ Mk w W n fl u.1 u.1 u.1 u.2) (fun u => n - u.1) (0, none, 0, none, 0, none, 0) ⟨rfl, rfl, rfl, trivial⟩ ⟨Nat.zero_le _, M0⟩ ?_
  rintro ⟨k, a, ca, b, cb, c, cc⟩ wk ⟨hk, M⟩
  dsimp only at hk M ⊢
  by_cases hkn : k < n
  case pos =>
    have La : Ld Try.prog 35 w.heap.size 2 (Eq wk) (.slice a k ca) := .of (load35 (M.hr 2 _ rfl))
    repeat ((conv => whnf); first | (refine VLoad.mk _ La ?_) | (refine VCmp.tt (by omega) ?_) | (refine VCmp.ff (by omega) ?_) | (refine VIn.mk (IntWalk.i64_in _ (by omega)) ?_) | (refine VIdx.mk _ rfl (by omega) ?_) | (refine VIdx.mk 0 rfl (by omega) ?_))
    try (conv => whnf)
    refine VBs.mk _ _ (bs35 wk) ?_
    have d1 : Below wk.heap.size wk (wk.alloc (.cells #[.pointer none] 48)) := (Below.refl _ _).alloc (Nat.le_refl _) _
    have n1 : ∀ j u, (ePtr none)[j]? = some u → (wk.alloc (.cells #[.pointer none] 48)).cell? ⟨wk.heap.size, j, none⟩ = some u := fun j u hu => by
      have := range_new wk #[.pointer none] 48 j u hu
      rwa [Nat.zero_add] at this
    generalize wk.alloc (.cells #[.pointer none] 48) = x1 at d1 n1 ⊢
    have M1 := M.below d1
    have z1 := M1.z
    have l1 := M1.o1.len
    repeat ((conv => whnf); first | (refine VCmp.tt (by omega) ?_) | (refine VCmp.ff (by omega) ?_) | (refine VIn.mk (IntWalk.i64_in _ (by omega)) ?_) | (refine VIdx.mk _ rfl (by omega) ?_) | (refine VIdx.mk 0 rfl (by omega) ?_))
    try (conv => whnf)
    refine VApp.keep (w.heap.size + 1) 1 8 _ Try.underlying35 info48 rfl (by decide) ePtr len_ePtr one_ePtr (List.replicate k none) none (by simp) M1.o1 n1 (by omega) (by omega) (by omega) fun A2 c2 x2 hO2 _ hg2 _ => ?_
    have t2 := there_same M1.ht (hg2.block w.heap.size M1.z (fun e => by have := (M1.o1.lo _ e.symm).1; omega))
    repeat ((conv => whnf); first | (refine VCmp.tt (by omega) ?_) | (refine VCmp.ff (by omega) ?_) | (refine VIn.mk (IntWalk.i64_in _ (by omega)) ?_) | (refine VIdx.mk _ rfl (by omega) ?_) | (refine VIdx.mk 0 rfl (by omega) ?_))
    try (conv => whnf)
    refine VStore.cell (by kernel_rfl) (t2 2 (by omega)).1 (t2 2 (by omega)).2 rfl rfl fun x3 hx3 => ?_
    have M3 := M1.push1 hO2 hg2 (Nat.zero_add 2) hx3.out
    have Lb : Ld Try.prog 27 w.heap.size 3 (Eq x3) (.slice b k cb) := .of (load27 (M3.hr 3 _ rfl))
    repeat ((conv => whnf); first | (refine VLoad.mk _ Lb ?_) | (refine VCmp.tt (by omega) ?_) | (refine VCmp.ff (by omega) ?_) | (refine VIn.mk (IntWalk.i64_in _ (by omega)) ?_) | (refine VIdx.mk _ rfl (by omega) ?_) | (refine VIdx.mk 0 rfl (by omega) ?_))
    try (conv => whnf)
    refine VBs.mk _ _ (bs27 x3 0) ?_
    have d4 : Below x3.heap.size x3 (x3.alloc (.cells #[.int .i64 0] 3)) := (Below.refl _ _).alloc (Nat.le_refl _) _
    have n4 : ∀ j u, (eInt 0)[j]? = some u → (x3.alloc (.cells #[.int .i64 0] 3)).cell? ⟨x3.heap.size, j, none⟩ = some u := fun j u hu => by
      have := range_new x3 #[.int .i64 0] 3 j u hu
      rwa [Nat.zero_add] at this
    generalize x3.alloc (.cells #[.int .i64 0] 3) = x4 at d4 n4 ⊢
    have M4 := M3.below d4
    have z4 := M4.z
    repeat ((conv => whnf); first | (refine VCmp.tt (by omega) ?_) | (refine VCmp.ff (by omega) ?_) | (refine VIn.mk (IntWalk.i64_in _ (by omega)) ?_) | (refine VIdx.mk _ rfl (by omega) ?_) | (refine VIdx.mk 0 rfl (by omega) ?_))
    try (conv => whnf)
    refine VApp.keep (w.heap.size + 1) 1 8 _ Try.underlying27 info3 rfl (by decide) eInt (fun _ => rfl) one_eInt (List.replicate k 0) 0 (by simp) M4.o2 n4 (by omega) (by omega) (by omega) fun A5 c5 x5 hO5 _ hg5 _ => ?_
    have t5 := there_same M4.ht (hg5.block w.heap.size M4.z (fun e => by have := (M4.o2.lo _ e.symm).1; omega))
    repeat ((conv => whnf); first | (refine VCmp.tt (by omega) ?_) | (refine VCmp.ff (by omega) ?_) | (refine VIn.mk (IntWalk.i64_in _ (by omega)) ?_) | (refine VIdx.mk _ rfl (by omega) ?_) | (refine VIdx.mk 0 rfl (by omega) ?_))
    try (conv => whnf)
    refine VStore.cell (by kernel_rfl) (t5 3 (by omega)).1 (t5 3 (by omega)).2 rfl rfl fun x6 hx6 => ?_
    have M6 := M4.push2 hO5 hg5 (Nat.zero_add 3) hx6.out
    have Lc : Ld Try.prog 36 w.heap.size 4 (Eq x6) (.slice c k cc) := .of (load36 (M6.hr 4 _ rfl))
    repeat ((conv => whnf); first | (refine VLoad.mk _ Lc ?_) | (refine VCmp.tt (by omega) ?_) | (refine VCmp.ff (by omega) ?_) | (refine VIn.mk (IntWalk.i64_in _ (by omega)) ?_) | (refine VIdx.mk _ rfl (by omega) ?_) | (refine VIdx.mk 0 rfl (by omega) ?_))
    try (conv => whnf)
    refine VBs.mk _ _ (bs36 x6) ?_
    have d7 : Below x6.heap.size x6 (x6.alloc (.cells #[.slice none 0 0] 34)) := (Below.refl _ _).alloc (Nat.le_refl _) _
    have n7 : ∀ j u, (eSl ev0)[j]? = some u → (x6.alloc (.cells #[.slice none 0 0] 34)).cell? ⟨x6.heap.size, j, none⟩ = some u := fun j u hu => by
      have := range_new x6 #[.slice none 0 0] 34 j u hu
      rwa [Nat.zero_add] at this
    generalize x6.alloc (.cells #[.slice none 0 0] 34) = x7 at d7 n7 ⊢
    have M7 := M6.below d7
    have z7 := M7.z
    repeat ((conv => whnf); first | (refine VCmp.tt (by omega) ?_) | (refine VCmp.ff (by omega) ?_) | (refine VIn.mk (IntWalk.i64_in _ (by omega)) ?_) | (refine VIdx.mk _ rfl (by omega) ?_) | (refine VIdx.mk 0 rfl (by omega) ?_))
    try (conv => whnf)
    refine VApp.keep (w.heap.size + 1) 1 24 _ Try.underlying36 info34 rfl (by decide) eSl len_eSl one_eSl (List.replicate k ev0) ev0 (by simp) M7.o3 n7 (by omega) (by omega) (by omega) fun A8 c8 x8 hO8 _ hg8 _ => ?_
    have t8 := there_same M7.ht (hg8.block w.heap.size M7.z (fun e => by have := (M7.o3.lo _ e.symm).1; omega))
    repeat ((conv => whnf); first | (refine VCmp.tt (by omega) ?_) | (refine VCmp.ff (by omega) ?_) | (refine VIn.mk (IntWalk.i64_in _ (by omega)) ?_) | (refine VIdx.mk _ rfl (by omega) ?_) | (refine VIdx.mk 0 rfl (by omega) ?_))
    try (conv => whnf)
    refine VStore.cell (by kernel_rfl) (t8 4 (by omega)).1 (t8 4 (by omega)).2 rfl rfl fun x9 hx9 => ?_
    have M9 := M7.push3 hO8 hg8 (Nat.zero_add 4) hx9.out
    repeat ((conv => whnf); first | (refine VCmp.tt (by omega) ?_) | (refine VCmp.ff (by omega) ?_) | (refine VIn.mk (IntWalk.i64_in _ (by omega)) ?_) | (refine VIdx.mk _ rfl (by omega) ?_) | (refine VIdx.mk 0 rfl (by omega) ?_))
    try (conv => whnf)
    exact .mk (k + 1, A2, c2, A5, c5, A8, c8) ⟨rfl, rfl, rfl, trivial⟩ ⟨hkn, M9⟩ (by show n - (k + 1) < n - k; omega)
  case neg =>
    obtain rfl : k = n := by omega
    obtain ⟨T0, K0⟩ := M.team
    have bk := M.b
    have hz := M.z
    repeat ((conv => whnf); first | (refine VCmp.tt (by omega) ?_) | (refine VCmp.ff (by omega) ?_) | (refine VIn.mk (IntWalk.i64_in _ (by omega)) ?_) | (refine VIdx.mk _ rfl (by omega) ?_) | (refine VIdx.mk 0 rfl (by omega) ?_))
    try (conv => whnf)
    refine VLoop.mk Nat (fun q => [(0, .int .i64 k), (5, .pointer (some ⟨w.heap.size, 0, none⟩)), (7, .int .i64 q)]) (fun q W => q ≤ k ∧ ∃ K X, TmM W K w.heap.size k q (bootTo (tm0 k fl) q) X ∧ (∀ b, b < w.heap.size → K b = 0) ∧ Below w.heap.size w W) (fun q => k - q) 0 ⟨rfl, rfl, rfl, trivial⟩ ⟨Nat.zero_le _, _, _, T0, K0, bk⟩ ?_
    rintro q wq ⟨hq, K, X, T, hK, bq⟩
    by_cases hqk : q < k
    · repeat ((conv => whnf); first | (refine VCmp.tt (by omega) ?_) | (refine VCmp.ff (by omega) ?_) | (refine VIn.mk (IntWalk.i64_in _ (by omega)) ?_) | (refine VIdx.mk _ rfl (by omega) ?_) | (refine VIdx.mk 0 rfl (by omega) ?_))
      try (conv => whnf)
      have C := bootTo_cnt (Cnt.zero k fl) q
      have C1 := C.e q
      have C2 := C.inc q
      refine VCall.mk _ (boots_any T (bootTo_ok h1 h2 f0 f1 q hq) hqk (Nat.le_refl _) hq h2 (bootTo_n (tm0 k fl) q).1.symm (by omega) (by omega)) ?_
      rintro _ x2 ⟨rfl, K2, X2, T2, Q2⟩
      refine ⟨_, rfl, ?_⟩
      rw [Nat.max_eq_right (by omega)] at T2
      obtain ⟨hK2, b2⟩ := ro_below hK bq Q2
      repeat ((conv => whnf); first | (refine VCmp.tt (by omega) ?_) | (refine VCmp.ff (by omega) ?_) | (refine VIn.mk (IntWalk.i64_in _ (by omega)) ?_) | (refine VIdx.mk _ rfl (by omega) ?_) | (refine VIdx.mk 0 rfl (by omega) ?_))
      try (conv => whnf)
      exact .mk (q + 1) ⟨rfl, rfl, rfl, trivial⟩ ⟨hqk, K2, X2, T2, hK2, b2⟩ (by show k - (q + 1) < k - q; omega)
    · obtain rfl : q = k := by omega
      repeat ((conv => whnf); first | (refine VCmp.tt (by omega) ?_) | (refine VCmp.ff (by omega) ?_) | (refine VIn.mk (IntWalk.i64_in _ (by omega)) ?_) | (refine VIdx.mk _ rfl (by omega) ?_) | (refine VIdx.mk 0 rfl (by omega) ?_))
      try (conv => whnf)
      exact .mk ⟨_, rfl, Nat.le_refl _, K, X, T, hK, bq⟩
end Go.Proofs.Ytfbeggdbjpmppaa
namespace Go.Proofs.Ytfbeggdbjpmppaa
def X2 : List Int := (List.range 16).map fun q => if q < 2 then 1 else 0
def V2 (a b : Int) : List Int := (List.range 16).map fun q => if q = 0 then a else if q = 1 then b else 0
theorem nth_map16 (g : Nat → Int) {q : Nat} (hq : q < 16) : nth ((List.range 16).map g) q = g q := by
  unfold nth; rw [List.getElem?_map, List.getElem?_range hq]; rfl
theorem nth_padA {l : List Int} {q : Nat} : nth (pad l) q = nth l q := by
  by_cases h : q < l.length
  · unfold nth pad; rw [List.getElem?_append_left h]
  · rw [nth_pad_over (by omega)]
    unfold nth; rw [List.getElem?_eq_none (by omega)]; rfl
theorem ext16 {a b : List Int} (ha : a.length = 16) (hb : b.length = 16) (h : ∀ q, q < 16 → nth a q = nth b q) : a = b := by
  refine ext_nth ha hb fun q => ?_
  by_cases hq : q < 16
  · exact h q hq
  · rw [nth_over (by omega), nth_over (by omega)]
theorem mbit3 : ∀ q, q < 16 → (mbit 3 q = true ↔ q < 2) := by decide
theorem bootTo_at (n : Nat) (fl : Int) : ∀ k i, i < k → (bootTo (tm0 n fl) k).S i = newSt n i 1 fl
  | 0, i, h => absurd h (by omega)
  | k + 1, i, h => by
    show upS (bootTo (tm0 n fl) k).S k (newSt (bootTo (tm0 n fl) k).n k (((bootTo (tm0 n fl) k).S k).inc + 1) (bootTo (tm0 n fl) k).fl) i = _
    obtain ⟨e1, e2, -, -⟩ := bootTo_n (tm0 n fl) k
    rw [bootTo_S n fl k k (Nat.le_refl _), e1, e2]
    by_cases e : i = k
    · subst e; rw [upS_same]; rfl
    · rw [upS_ne _ _ e]; exact bootTo_at n fl k i (by omega)
section
variable {n : Nat} {fl : Int}
theorem set2 (h2 : 2 ≤ n) (h16 : n ≤ 16) {t : Tm} (hn : t.n = n) (hinc : ∀ q, q < n → (t.S q).inc = 1) {i : Nat} (hi : i < 2) : pad (t.setOf i 3) = X2 ∧ packB (t.setOf i 3) n = true := by
  have hlen : (t.setOf i 3).length = n := by unfold Tm.setOf; simp [hn]
  have hv : ∀ q, q < n → (t.setOf i 3)[q]? = some (if q < 2 then 1 else 0) := fun q hq => by
    unfold Tm.setOf
    rw [hn, List.getElem?_map, List.getElem?_range hq]
    show some (if q = i ∨ mbit 3 q = true then (t.S q).inc else 0) = _
    rw [hinc q hq]
    congr 1
    by_cases h : q < 2
    · rw [if_pos (.inr ((mbit3 q (by omega)).2 h)), if_pos h]
    · rw [if_neg (fun e => by rcases e with e | e; omega; exact h ((mbit3 q (by omega)).1 e)), if_neg h]
  constructor
  · refine ext16 (len_pad (by omega)) (by simp [X2]) fun q hq => ?_
    rw [nth_padA]
    unfold X2
    rw [nth_map16 _ hq]
    by_cases h : q < n
    · unfold nth; rw [hv q h]; rfl
    · unfold nth; rw [List.getElem?_eq_none (by omega), if_neg (by omega)]; rfl
  · unfold packB
    rw [hlen]
    simp only [decide_true, Bool.true_and, List.all_eq_true]
    intro v hm
    obtain ⟨q, hq⟩ := List.mem_iff_getElem?.1 hm
    have hqn : q < n := by have := (List.getElem?_eq_some_iff.1 hq).1; omega
    rw [hv q hqn] at hq
    injection hq with hq
    unfold okB
    rw [← hq]
    split <;> decide
def wA (fl : Int) (i : Nat) : Wish := ⟨X2, if i = 0 then V2 (fl + 2) 0 else V2 0 (fl + 2), fl + 2, 2, fl, Vid.zero⟩
def wB (fl : Int) : Wish := ⟨X2, V2 (fl + 2) (fl + 2), fl + 2, 3, fl, Vid.zero⟩
def stA (n i : Nat) (fl : Int) : St := { newSt n i 1 fl with own := wA fl i }
theorem X2_ne (i : Nat) (hi : i < 2) : zeros.set i 1 ≠ X2 := fun e => by
  have h := congrArg (fun l => nth l (1 - i)) e
  have h1 : nth (zeros.set i 1) (1 - i) = 0 := by rw [nth_set (by omega), nth_zeros]
  have h2 : nth X2 (1 - i) = 1 := by unfold X2; rw [nth_map16 _ (by omega), if_pos (by omega)]
  have h' : nth (zeros.set i 1) (1 - i) = nth X2 (1 - i) := h
  omega
theorem estA (h2 : 2 ≤ n) (h16 : n ≤ 16) (f0 : 0 ≤ fl) (f1 : fl ≤ 4611686018427387902) {i : Nat} (hi : i < 2) {l : List Int} (hl : pad l = X2) (hp : packB l n = true) : (newSt n i 1 fl).estimate l = (true, 0, stA n i fl) := by
  have hx : nth X2 i = 1 := by unfold X2; rw [nth_map16 _ (by omega), if_pos hi]
  unfold St.estimate
  rw [if_neg (by rintro (h | h); rw [show (newSt n i 1 fl).n = n from rfl, hp] at h; cases h; rw [hl] at h; exact h hx), if_neg (by rw [hl]; exact fun e => X2_ne i hi e.symm)]
  have hs : (newSt n i 1 fl).spent = false := by
    unfold St.spent
    refine decide_eq_false ?_
    show ¬ (fl + 1 = 4611686018427387904 ∨ (1 : Int) = 4611686018427387904 ∨ (0 : Int) = 4611686018427387904)
    omega
  rw [if_neg (by rw [hs]; simp), hl]
  have hh : ((newSt n i 1 fl).beg1 X2).heard = if i = 0 then V2 (fl + 2) 0 else V2 0 (fl + 2) := by
    refine ext16 (len_heard _) (by split <;> simp [V2]) fun q hq => ?_
    rw [nth_heard hq]
    unfold St.vecAt
    have hlt : ((newSt n i 1 fl).beg1 X2).lt q = Lt.zero := new_lt (n := n) (self := i) (inc := 1) (floor := fl) q
    have hm : ((newSt n i 1 fl).beg1 X2).matB q = false := by unfold St.matB; rw [hlt]; exact decide_eq_false fun h => h.1 rfl
    have hcid : ((newSt n i 1 fl).beg1 X2).own.cid = fl + 2 := by show fl + 1 + 1 = fl + 2; omega
    have hself : ((newSt n i 1 fl).beg1 X2).self = i := rfl
    rw [hself, hcid, hm]
    by_cases h0 : i = 0
    · rw [if_pos h0]; unfold V2; rw [nth_map16 _ hq]
      by_cases hq0 : q = 0
      · rw [if_pos (by omega), if_pos hq0]
      · rw [if_neg (by omega), if_neg hq0, if_neg (by simp)]; split <;> rfl
    · rw [if_neg h0]; unfold V2; rw [nth_map16 _ hq]
      by_cases hq1 : q = 1
      · rw [if_pos (by omega), if_neg (by omega), if_pos hq1]
      · rw [if_neg (by omega), if_neg (by simp), if_neg hq1]; split <;> rfl
  have : (newSt n i 1 fl).begin_ X2 = stA n i fl := by
    unfold St.begin_
    rw [hh]
    unfold stA wA St.beg1
    show St.mk _ _ _ _ _ _ _ _ = St.mk _ _ _ _ _ _ _ _
    congr 1
    show Wish.mk _ _ _ _ _ _ = Wish.mk _ _ _ _ _ _
    congr 1
    show fl + 1 + 1 = fl + 2; omega
  rw [this]
end
end Go.Proofs.Ytfbeggdbjpmppaa
namespace Go.Proofs.Ytfbeggdbjpmppaa
section
variable {n : Nat} {fl : Int}
def stB (n i : Nat) (fl : Int) : St := { newSt n i 1 fl with own := wB fl, oth := (List.replicate 16 Lt.zero).set (1 - i) ⟨1, wA fl (1 - i)⟩ }
def stC (n i : Nat) (fl : Int) : St := { newSt n i 1 fl with own := wB fl, oth := (List.replicate 16 Lt.zero).set (1 - i) ⟨1, wB fl⟩ }
theorem nth_V2 (a b : Int) {q : Nat} (hq : q < 16) : nth (V2 a b) q = if q = 0 then a else if q = 1 then b else 0 := by unfold V2; rw [nth_map16 _ hq]
theorem nth_X2 {q : Nat} (hq : q < 16) : nth X2 q = if q < 2 then 1 else 0 := by unfold X2; rw [nth_map16 _ hq]
theorem lt_set {s : St} {i : Nat} {x : Lt} (ho : s.oth = (List.replicate 16 Lt.zero).set (1 - i) x) (q : Nat) : s.lt q = if q = 1 - i then x else Lt.zero := by
  unfold St.lt
  rw [ho]
  by_cases e : q = 1 - i
  · subst e; rw [if_pos rfl, List.getElem?_set_self (by simp; omega)]; rfl
  · rw [if_neg e, List.getElem?_set_ne (fun e2 => e e2.symm), List.getElem?_replicate]; split <;> rfl
theorem heard2 {s : St} {i : Nat} (h2 : 2 ≤ n) (hi : i < 2) (hn : s.n = n) (hs : s.self = i) (hx : s.own.set = X2) (hc : s.own.cid = fl + 2) {w : Wish} (ho : s.oth = (List.replicate 16 Lt.zero).set (1 - i) ⟨1, w⟩) (hw : w.set = X2) (hwc : w.cid = fl + 2) : s.heard = V2 (fl + 2) (fl + 2) := by
  refine ext16 (len_heard _) (by simp [V2]) fun q hq => ?_
  rw [nth_heard hq, nth_V2 _ _ hq]
  unfold St.vecAt
  rw [hs, hn, hc]
  have hl := lt_set ho q
  by_cases h1 : q = i
  · rw [if_pos h1]
    by_cases h0 : q = 0
    · rw [if_pos h0]
    · rw [if_neg h0, if_pos (by omega)]
  · rw [if_neg h1]
    by_cases h3 : q = 1 - i
    · rw [if_pos h3] at hl
      have hm : s.matB q = true := by
        unfold St.matB
        rw [hl, hx, nth_X2 hq, if_pos (by omega)]
        exact decide_eq_true ⟨(by show (1 : Int) ≠ 0; omega), rfl, hw⟩
      rw [if_pos ⟨by omega, hm⟩, hl]
      show w.cid = _
      rw [hwc]
      by_cases h0 : q = 0
      · rw [if_pos h0]
      · rw [if_neg h0, if_pos (by omega)]
    · rw [if_neg h3] at hl
      have hm : s.matB q = false := by unfold St.matB; rw [hl]; exact decide_eq_false fun h => h.1 rfl
      rw [if_neg (by rw [hm]; simp), if_neg (by omega), if_neg (by omega)]
theorem take1 (h2 : 2 ≤ n) (f0 : 0 ≤ fl) {i : Nat} (hi : i < 2) (hg : (prW n (wA fl (1 - i))).goodB (1 - i) 1 n = true) (hw : (prW n (wA fl (1 - i))).wish = wA fl (1 - i)) :
    (stA n i fl).take ((1 - i : Nat) : Int) 1 (prW n (wA fl (1 - i))) = (false, 0, stB n i fl) := by
  have hlt : (stA n i fl).lt (1 - i) = Lt.zero := new_lt (n := n) (self := i) (inc := 1) (floor := fl) (1 - i)
  unfold St.take
  rw [Int.toNat_natCast, if_neg (by show ¬ (((1 - i : Nat) : Int) < 0 ∨ (n : Int) ≤ ((1 - i : Nat) : Int) ∨ ((1 - i : Nat) : Int) = (i : Int) ∨ (1 : Int) < 1 ∨ (4611686018427387904 : Int) < 1); omega), if_neg (by rw [show (stA n i fl).n = n from rfl, hg]; simp), hlt, if_neg (by decide), if_neg (by rintro ⟨h, -⟩; exact absurd h (by decide)), hw]
  have hh : ((stA n i fl).put (1 - i) 1 (wA fl (1 - i))).heard = V2 (fl + 2) (fl + 2) := heard2 (n := n) (fl := fl) (w := wA fl (1 - i)) h2 hi rfl rfl rfl rfl rfl rfl rfl
  dsimp only
  rw [hh]
  have hne : ¬ V2 (fl + 2) (fl + 2) = ((stA n i fl).put (1 - i) 1 (wA fl (1 - i))).own.vec := fun e => by
    have h1 := congrArg (fun l => nth l (1 - i)) e
    have h3 : nth (V2 (fl + 2) (fl + 2)) (1 - i) = fl + 2 := by
      rw [nth_V2 _ _ (by omega)]
      by_cases h0 : 1 - i = 0
      · rw [if_pos h0]
      · rw [if_neg h0, if_pos (by omega)]
    have h4 : nth ((stA n i fl).put (1 - i) 1 (wA fl (1 - i))).own.vec (1 - i) = 0 := by
      show nth (if i = 0 then V2 (fl + 2) 0 else V2 0 (fl + 2)) (1 - i) = 0
      by_cases h0 : i = 0
      · rw [if_pos h0, nth_V2 _ _ (by omega), if_neg (by omega), if_pos (by omega)]
      · rw [if_neg h0, nth_V2 _ _ (by omega), if_pos (by omega)]
    have h5 : nth (V2 (fl + 2) (fl + 2)) (1 - i) = nth ((stA n i fl).put (1 - i) 1 (wA fl (1 - i))).own.vec (1 - i) := h1
    omega
  rw [if_pos (show (stA n i fl).opn = true from rfl), if_neg hne, if_pos (show ((stA n i fl).put (1 - i) 1 (wA fl (1 - i))).own.rev < 4611686018427387904 by show (2 : Int) < 4611686018427387904; decide)]
  rfl
theorem take2 (h2 : 2 ≤ n) {i : Nat} (hi : i < 2) (hg : (prW n (wB fl)).goodB (1 - i) 1 n = true) (hw : (prW n (wB fl)).wish = wB fl) :
    (stB n i fl).take ((1 - i : Nat) : Int) 1 (prW n (wB fl)) = (false, 0, stC n i fl) := by
  have hlt : (stB n i fl).lt (1 - i) = ⟨1, wA fl (1 - i)⟩ := by rw [lt_set (i := i) (x := ⟨1, wA fl (1 - i)⟩) rfl, if_pos rfl]
  unfold St.take
  rw [Int.toNat_natCast, if_neg (by show ¬ (((1 - i : Nat) : Int) < 0 ∨ (n : Int) ≤ ((1 - i : Nat) : Int) ∨ ((1 - i : Nat) : Int) = (i : Int) ∨ (1 : Int) < 1 ∨ (4611686018427387904 : Int) < 1); omega), if_neg (by rw [show (stB n i fl).n = n from rfl, hg]; simp), hlt, if_neg (by show ¬ ((1 : Int) < 1); omega), if_neg (by rintro ⟨-, h⟩; exact absurd (show (3 : Int) ≤ 2 from h) (by decide)), hw]
  have hput : (stB n i fl).put (1 - i) 1 (wB fl) = stC n i fl := by
    unfold St.put stB stC
    show St.mk _ _ _ _ _ _ _ _ = St.mk _ _ _ _ _ _ _ _
    congr 1
    show ((List.replicate 16 Lt.zero).set (1 - i) _).set (1 - i) _ = _
    rw [List.set_set]
  have hh : (stC n i fl).heard = V2 (fl + 2) (fl + 2) := heard2 (n := n) (fl := fl) (w := wB fl) h2 hi rfl rfl rfl rfl rfl rfl rfl
  dsimp only
  rw [hput, if_pos (show (stB n i fl).opn = true from rfl), if_pos (by rw [hh]; rfl)]
theorem agC (f0 : 0 ≤ fl) {i : Nat} (hi : i < 2) : ∀ k, k ≤ 16 → (stC n i fl).agTo k = some ⟨fl, memOf k (wB fl), if i < k then [(i : Int)] else []⟩
  | 0, _ => rfl
  | k + 1, hk => by
    rw [St.agTo, agC f0 hi k (by omega)]
    obtain ⟨tr, htr⟩ : ∃ tr, tr = (if i < k then [(i : Int)] else []) := ⟨_, rfl⟩
    obtain ⟨tr', htr'⟩ : ∃ tr, tr = (if i < k + 1 then [(i : Int)] else []) := ⟨_, rfl⟩
    rw [← htr, ← htr']
    show St.agStep _ _ _ = _
    unfold St.agStep
    have hx : nth (stC n i fl).own.set k = if k < 2 then 1 else 0 := nth_X2 (by omega)
    rw [hx, memOf_succ]
    by_cases h : k < 2
    · have hv : nth (stC n i fl).own.vec k = fl + 2 := by
        show nth (V2 (fl + 2) (fl + 2)) k = _
        rw [nth_V2 _ _ (by omega)]
        by_cases h0 : k = 0
        · rw [if_pos h0]
        · rw [if_neg h0, if_pos (by omega)]
      have hw : (stC n i fl).wishOf k = wB fl := by
        unfold St.wishOf
        by_cases h1 : k = i
        · rw [if_pos (show k = (stC n i fl).self from h1)]; rfl
        · rw [if_neg (show ¬ k = (stC n i fl).self from h1), lt_set (i := i) (x := ⟨1, wB fl⟩) rfl, if_pos (by omega)]
      have hx2 : nth (wB fl).set k = 1 := by show nth X2 k = 1; rw [nth_X2 (by omega), if_pos h]
      have hv2 : nth (wB fl).vec k = fl + 2 := hv
      rw [if_pos h, if_neg (show ¬ ((1 : Int) = 0) by omega), hv, hw, if_neg (show ¬ (fl + 2 = 0 ∨ (wB fl).vec ≠ (stC n i fl).own.vec) by rintro (e | e); omega; exact e rfl), hx2, if_neg (show ¬ ((1 : Int) = 0) by omega), hv2]
      by_cases h1 : k = i
      · rw [if_pos (.inl (show k = (stC n i fl).self from h1))]
        show some (Ag.mk (max fl fl) _ _) = _
        rw [Int.max_self, htr, htr', if_neg (by omega), if_pos (by omega), h1]; rfl
      · rw [if_neg (by rintro (e | ⟨e, -⟩); exact h1 e; exact e rfl)]
        show some (Ag.mk (max fl fl) _ _) = _
        have e : tr = tr' := by
          rw [htr, htr']
          by_cases h3 : i < k
          · rw [if_pos h3, if_pos (by omega)]
          · rw [if_neg h3, if_neg (by omega)]
        rw [Int.max_self, e]
    · have hx2 : nth (wB fl).set k = 0 := by show nth X2 k = 0; rw [nth_X2 (by omega), if_neg h]
      rw [if_neg h, if_pos rfl, if_pos hx2, List.append_nil, htr, htr', if_pos (by omega), if_pos (by omega)]
theorem memB : ∀ k, 2 ≤ k → k ≤ 16 → memOf k (wB fl) = [⟨0, 1, fl + 2⟩, ⟨1, 1, fl + 2⟩]
  | 0, h, _ => absurd h (by omega)
  | 1, h, _ => absurd h (by omega)
  | 2, _, _ => by
    rw [memOf_succ, memOf_succ]
    have e0 : nth (wB fl).set 0 = 1 := by show nth X2 0 = 1; rw [nth_X2 (by omega)]; rfl
    have e1 : nth (wB fl).set 1 = 1 := by show nth X2 1 = 1; rw [nth_X2 (by omega)]; rfl
    have v0 : nth (wB fl).vec 0 = fl + 2 := by show nth (V2 _ _) 0 = _; rw [nth_V2 _ _ (by omega)]; rfl
    have v1 : nth (wB fl).vec 1 = fl + 2 := by show nth (V2 _ _) 1 = _; rw [nth_V2 _ _ (by omega)]; rfl
    rw [e0, e1, v0, v1]
    rfl
  | k + 3, _, hk => by
    rw [memOf_succ, memB (k + 2) (by omega) (by omega)]
    have e0 : nth (wB fl).set (k + 2) = 0 := by show nth X2 (k + 2) = 0; rw [nth_X2 (by omega), if_neg (by omega)]
    rw [if_pos e0, List.append_nil]
theorem agreedC (h2 : 2 ≤ n) (h16 : n ≤ 16) (f0 : 0 ≤ fl) {i : Nat} (hi : i < 2) : (stC n i fl).agreed = some ⟨fl, [⟨0, 1, fl + 2⟩, ⟨1, 1, fl + 2⟩], [(i : Int)]⟩ := by
  unfold St.agreed
  rw [if_pos (show (stC n i fl).opn = true from rfl)]
  show (stC n i fl).agTo n = _
  rw [agC f0 hi n h16, memB n h2 h16, if_pos (by omega)]
end
end Go.Proofs.Ytfbeggdbjpmppaa
namespace Go.Proofs.Ytfbeggdbjpmppaa
def rnd (t : Tm) : Tm := (t.hand 0 1 (lastK (t.E 1))).hand 1 0 (lastK (t.E 0))
def rndTo (t : Tm) : Nat → Tm
  | 0 => t
  | k + 1 => rnd (rndTo t k)
theorem lastK_ok {t : Tm} {m i : Nat} (T : t.Ok m) (hi : i < m) : lastK (t.E i) = ⟨(t.S i).inc, (t.S i).own⟩ := by
  unfold lastK; rw [TI.last T hi]; rfl
theorem noteE_mem {n : Nat} {E : Nat → List Lt} {i k : Nat} {s : St} {x : Lt} (h : x ∈ E k) : x ∈ noteE n E i s k := by
  unfold noteE; split
  · exact h
  · exact addE_mono h
theorem hand_mem {t : Tm} {i j k : Nat} {y x : Lt} (h : x ∈ t.E k) : x ∈ (t.hand i j y).E k := by
  unfold Tm.hand; split
  · exact h
  · exact noteE_mem h
structure P2 (n : Nat) (fl : Int) (t : Tm) (a b : St) : Prop where
  ok : t.Ok n
  n : t.n = n
  fl : t.fl = fl
  a : t.S 0 = a
  b : t.S 1 = b
  d : t.D = []
  sp : t.sp = false
section
variable {n : Nat} {fl : Int}
theorem hand_S {t : Tm} {i j : Nat} {x : Lt} (hij : i ≠ j) : (t.hand i j x).S = upS t.S i ((t.S i).take j x.inc (prW t.n x.w)).2.2 ∧ (t.hand i j x).n = t.n ∧ (t.hand i j x).fl = t.fl ∧ (t.hand i j x).D = t.D ∧ (t.hand i j x).sp = (t.sp || decide (((t.S i).take j x.inc (prW t.n x.w)).2.1 = 3)) := by
  unfold Tm.hand; rw [if_neg hij]; exact ⟨rfl, rfl, rfl, rfl, rfl⟩
theorem rnd_P2 (h2 : 2 ≤ n) {t : Tm} {a b a' b' : St} (P : P2 n fl t a b) (ia : a.inc = 1) (ib : b.inc = 1)
    (ha : (prW n b.own).goodB 1 1 n = true → (prW n b.own).wish = b.own → a.take ((1 : Nat) : Int) 1 (prW n b.own) = (false, 0, a'))
    (hb : (prW n a.own).goodB 0 1 n = true → (prW n a.own).wish = a.own → b.take ((0 : Nat) : Int) 1 (prW n a.own) = (false, 0, b')) : P2 n fl (rnd t) a' b' := by
  have l1 := lastK_ok P.ok (i := 1) (by omega)
  have l0 := lastK_ok P.ok (i := 0) (by omega)
  rw [P.b, ib] at l1
  rw [P.a, ia] at l0
  have m1 : (⟨1, b.own⟩ : Lt) ∈ t.E 1 := by rw [← l1]; exact lastK_mem (P.ok.ne (by omega))
  have m0 : (⟨1, a.own⟩ : Lt) ∈ t.E 0 := by rw [← l0]; exact lastK_mem (P.ok.ne (by omega))
  have g1 := TI.good P.ok m1
  have g0 := TI.good P.ok m0
  have w1 := wish_prW ((P.ok.nd 1 (by omega)).2.2.2.each _ m1).1
  have w0 := wish_prW ((P.ok.nd 0 (by omega)).2.2.2.each _ m0).1
  rw [P.n] at g1 g0 w1 w0
  have ea := ha g1 w1
  have eb := hb g0 w0
  unfold rnd
  rw [l1, l0]
  obtain ⟨s1, s2, s3, s4, s5⟩ := hand_S (t := t) (i := 0) (j := 1) (x := ⟨1, b.own⟩) (by decide)
  have ok1 := P.ok.hand (i := 0) (j := 1) (by omega) m1
  have m0' := hand_mem (i := 0) (j := 1) (y := ⟨1, b.own⟩) m0
  obtain ⟨t1, t2, t3, t4, t5⟩ := hand_S (t := t.hand 0 1 ⟨1, b.own⟩) (i := 1) (j := 0) (x := ⟨1, a.own⟩) (by decide)
  rw [P.a, P.n] at s1 s5
  rw [show (⟨1, b.own⟩ : Lt).inc = 1 from rfl, show (⟨1, b.own⟩ : Lt).w = b.own from rfl, ea] at s1 s5
  have hS1 : (t.hand 0 1 ⟨1, b.own⟩).S 1 = b := by rw [s1, upS_ne _ _ (by decide), P.b]
  rw [hS1, s2, P.n] at t1 t5
  rw [show (⟨1, a.own⟩ : Lt).inc = 1 from rfl, show (⟨1, a.own⟩ : Lt).w = a.own from rfl, eb] at t1 t5
  refine ⟨ok1.hand (by omega) m0', t2.trans (s2.trans P.n), t3.trans (s3.trans P.fl), ?_, ?_, t4.trans (s4.trans P.d), ?_⟩
  · rw [t1, upS_ne _ _ (by decide), s1, upS_same]
  · rw [t1, upS_same]
  · rw [t5, s5, P.sp]; rfl
theorem start_P2 (h2 : 2 ≤ n) (h16 : n ≤ 16) (f0 : 0 ≤ fl) (f1 : fl ≤ 4611686018427387902) :
    (bootTo (tm0 n fl) n).Ok n ∧ ((bootTo (tm0 n fl) n).told 0 3).Ok n ∧ P2 n fl (((bootTo (tm0 n fl) n).told 0 3).told 1 3) (stA n 0 fl) (stA n 1 fl) := by
  have O0 := bootTo_ok (n := n) (fl := fl) (by omega) h16 f0 f1 n (Nat.le_refl _)
  obtain ⟨e1, e2, e3, e4⟩ := bootTo_n (tm0 n fl) n
  have S0 := bootTo_at n fl n
  have O1 := O0.told (i := 0) (by omega) 3
  have i0 : ∀ q, q < n → ((bootTo (tm0 n fl) n).S q).inc = 1 := fun q hq => by rw [S0 q hq]; rfl
  obtain ⟨x0, p0⟩ := set2 h2 h16 (t := bootTo (tm0 n fl) n) e1 i0 (i := 0) (by decide)
  have q0 := estA h2 h16 f0 f1 (i := 0) (by decide) x0 p0
  have s1 : ((bootTo (tm0 n fl) n).told 0 3).S = upS (bootTo (tm0 n fl) n).S 0 (stA n 0 fl) := by
    show upS _ 0 (((bootTo (tm0 n fl) n).S 0).estimate _).2.2 = _
    rw [S0 0 (by omega), q0]
  have i1 : ∀ q, q < n → (((bootTo (tm0 n fl) n).told 0 3).S q).inc = 1 := fun q hq => by
    rw [s1]; unfold upS; split
    · rfl
    · exact i0 q hq
  obtain ⟨x1, p1⟩ := set2 h2 h16 (t := (bootTo (tm0 n fl) n).told 0 3) e1 i1 (i := 1) (by decide)
  have q1 := estA h2 h16 f0 f1 (i := 1) (by decide) x1 p1
  have hS1 : ((bootTo (tm0 n fl) n).told 0 3).S 1 = newSt n 1 1 fl := by rw [s1, upS_ne _ _ (by decide)]; exact S0 1 (by omega)
  have s2 : (((bootTo (tm0 n fl) n).told 0 3).told 1 3).S = upS ((bootTo (tm0 n fl) n).told 0 3).S 1 (stA n 1 fl) := by
    show upS _ 1 ((((bootTo (tm0 n fl) n).told 0 3).S 1).estimate _).2.2 = _
    rw [hS1, q1]
  refine ⟨O0, O1, O1.told (by omega) 3, e1, e2, ?_, ?_, e3, ?_⟩
  · rw [s2, upS_ne _ _ (by decide), s1, upS_same]
  · rw [s2, upS_same]
  · show (((bootTo (tm0 n fl) n).sp || decide ((((bootTo (tm0 n fl) n).S 0).estimate _).2.1 = 3)) || decide (((((bootTo (tm0 n fl) n).told 0 3).S 1).estimate _).2.1 = 3)) = false
    rw [hS1, q1, S0 0 (by omega), q0, e4]; rfl
theorem open_P2 (h2 : 2 ≤ n) (h16 : n ≤ 16) (f0 : 0 ≤ fl) (f1 : fl ≤ 4611686018427387902) :
    P2 n fl (rndTo (((bootTo (tm0 n fl) n).told 0 3).told 1 3) 1) (stB n 0 fl) (stB n 1 fl) ∧ P2 n fl (rndTo (((bootTo (tm0 n fl) n).told 0 3).told 1 3) 2) (stC n 0 fl) (stC n 1 fl) := by
  obtain ⟨-, -, P⟩ := start_P2 (n := n) (fl := fl) h2 h16 f0 f1
  have Q : P2 n fl (rndTo (((bootTo (tm0 n fl) n).told 0 3).told 1 3) 1) (stB n 0 fl) (stB n 1 fl) :=
    rnd_P2 h2 P rfl rfl (fun g w => take1 (i := 0) h2 f0 (by decide) g w) (fun g w => take1 (i := 1) h2 f0 (by decide) g w)
  exact ⟨Q, rnd_P2 h2 Q rfl rfl (fun g w => take2 (i := 0) h2 (by decide) g w) (fun g w => take2 (i := 1) h2 (by decide) g w)⟩
end
theorem Cnt.upd {t : Tm} {c : Nat} (h : Cnt t c) (i : Nat) {s : St} (hs : s.inc ≤ (c : Int) + 1) {b : Bool} : Cnt { t.upd i s with sp := b } (c + 1) := by
  refine ⟨fun k => ?_, ?_, fun k => ?_⟩
  · have := noteE_len t.n t.E i k s
    have := h.e k
    show (noteE t.n t.E i s k).length ≤ _; omega
  · show t.D.length ≤ _; have := h.d; omega
  · have h1 := upS_inc t.S i k s
    have h2 := h.inc k
    show (upS t.S i s k).inc ≤ _
    omega
theorem Cnt.more {t : Tm} {c c' : Nat} (h : Cnt t c) (hc : c ≤ c') : Cnt t c' := ⟨fun k => Nat.le_trans (h.e k) hc, Nat.le_trans h.d hc, fun k => by have := h.inc k; omega⟩
theorem Cnt.told {t : Tm} {c m i : Nat} (h : Cnt t c) (T : t.Ok m) (hi : i < m) (mask : Int) : Cnt (t.told i mask) (c + 1) := by
  have h1 := (estimate_ris (T.nd i hi).2.1 (t.setOf i mask)).2.inc
  have h2 := h.inc i
  exact h.upd i (by omega)
theorem Cnt.hand {t : Tm} {c m i j : Nat} (h : Cnt t c) (T : t.Ok m) (hi : i < m) (x : Lt) : Cnt (t.hand i j x) (c + 1) := by
  unfold Tm.hand
  split
  · exact h.more (by omega)
  · have h1 := (take_ris (T.nd i hi).2.1 j x.inc (prW t.n x.w)).2.inc
    have h2 := h.inc i
    exact h.upd i (by omega)
theorem Cnt.inst {t : Tm} {c m i : Nat} (h : Cnt t c) (T : t.Ok m) (hi : i < m) : Cnt (t.inst i) (c + 1) := by
  cases ha : (t.S i).agreed with
  | none => rw [Tm.inst_none ha]; exact h.more (by omega)
  | some a =>
    rw [Tm.inst_some ha]
    have h1 := (install_ris (T.nd i hi).2.1 ha).2.2.2.2.2.2.2.2.2.2.2
    have h2 := h.inc i
    have := h.upd i (s := (t.S i).install) (b := t.sp) (by omega)
    refine ⟨this.e, ?_, this.inc⟩
    have h3 := h.d
    show (t.D ++ [t.dn i a]).length ≤ c + 1
    rw [List.length_append]; simp; omega
theorem DB.inst {t : Tm} {m i : Nat} (h : DB t) (T : t.Ok m) (hi : i < m) : DB (t.inst i) := by
  cases ha : (t.S i).agreed with
  | none => rw [Tm.inst_none ha]; exact h
  | some a =>
    rw [Tm.inst_some ha]
    intro d hd
    rcases List.mem_append.1 hd with hd | hd
    · exact h d hd
    · rw [List.mem_singleton.1 hd]
      have h1 := agTo_len (s := t.S i) (k := (t.S i).n) (a := a) (by
        unfold St.agreed at ha
        split at ha
        · exact ha
        · cases ha)
      have h2 := (T.nd i hi).2.1.inv.n2
      exact ⟨Nat.le_trans h1.1 h2, Nat.le_trans h1.2 h2⟩
theorem DB.step {t : Tm} (h : DB t) (T : t.Ok t.n) (s : Sp) : DB (t.step s) := by
  have hn : ∀ x, t.node x < t.n := Tm.node_lt T.n1
  have hh : ∀ i j x, DB (t.hand i j x) := fun i j x => by
    unfold Tm.hand; split
    · exact h
    · exact h
  unfold Tm.step
  split
  · exact h
  · split
    · exact hh _ _ _
    · split
      · exact hh _ _ _
      · split
        · exact h.inst T (hn _)
        · split
          · exact h
          · exact h
theorem Cnt.step {t : Tm} {c : Nat} (h : Cnt t c) (T : t.Ok t.n) (s : Sp) : Cnt (t.step s) (c + 1) := by
  have hn : ∀ x, t.node x < t.n := Tm.node_lt T.n1
  unfold Tm.step
  split
  · exact h.told T (hn _) _
  · split
    · exact h.hand T (hn _) _
    · split
      · exact h.hand T (hn _) _
      · split
        · exact h.inst T (hn _)
        · split
          · exact h.boot _
          · exact h.more (by omega)
end Go.Proofs.Ytfbeggdbjpmppaa
