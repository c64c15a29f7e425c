/- CrH, joined. -/
import Derived.Test.YtoilipfgimcoiaaOe19
set_option linter.unusedVariables false
set_option linter.unusedSimpArgs false
namespace Go.Proofs.Ytoilipfgimcoiaa
open Go Go.RowKit
theorem VQ.remC {o : Oper} {fr : Fr} {S : World → Prop} {K : Value → Prop} {x : Nat} {a N : Int} (m : Nat) (ho : o.op = .binOp .rem 3 (.tmp x) (.const (.int .i64 N)) 3) (hx : fev fr (.tmp x) = some (.int .i64 a)) (h0 : 0 ≤ a) (h1 : 0 < N) (hm : a % N = m) (hmm : m < 1000000000) (hk : K (.int .i64 m)) : VQ Try.prog o fr S K := by
  refine VQ.mk (.int .i64 m) (fun A hA W _ => ?_) hk
  have h3 := hA (.tmp x) _ hx
  have h4 : A.eval (.const (.int .i64 N)) = .int .i64 N := rfl
  have e : a.tmod N = m := by rw [Int.tmod_eq_emod_of_nonneg h0]; exact hm
  have := rem_any a N (by omega) (by rw [e]; exact IntWalk.i64_in _ (by omega)) W
  rw [e] at this
  have hg : Sem.run Try.prog (eqGuard .rem 3 (.tmp x) (.const (.int .i64 N)) (.int .i64 a) (.int .i64 N)) W = .ok () W := rfl
  simp only [ho, execOp, h3, h4, Sem.run_bind, hg, this, Result.andThen_ok, Sem.run_pure]
def msG (k : Nat) : List Mbr := (List.range k).map fun i : Nat => ⟨3 * (i : Int) + 1, 2 + (i : Int), 3 + (i : Int)⟩
theorem msG_succ (k : Nat) : msG (k + 1) = msG k ++ [⟨3 * (k : Int) + 1, 2 + (k : Int), 3 + (k : Int)⟩] := by unfold msG; rw [List.range_succ, List.map_append]; rfl
theorem msG_len (k : Nat) : (msG k).length = k := by unfold msG; simp
theorem pidsG {n k : Nat} (n4 : n ≤ 4) (hk : k < n) : pidsOf vdC (msG n) ((pidN k : Nat) : Int) = some (pidsN n) := by
  obtain rfl | rfl | rfl | rfl : n = 1 ∨ n = 2 ∨ n = 3 ∨ n = 4 := by omega
  · obtain rfl : k = 0 := by omega
    kernel_rfl
  · obtain rfl | rfl : k = 0 ∨ k = 1 := by omega
    · kernel_rfl
    · kernel_rfl
  · obtain rfl | rfl | rfl : k = 0 ∨ k = 1 ∨ k = 2 := by omega
    · kernel_rfl
    · kernel_rfl
    · kernel_rfl
  · obtain rfl | rfl | rfl | rfl : k = 0 ∨ k = 1 ∨ k = 2 ∨ k = 3 := by omega
    · kernel_rfl
    · kernel_rfl
    · kernel_rfl
    · kernel_rfl
theorem load61s {w : World} {b j n c : Nat} {A : Option Addr} (h : w.cell? ⟨b, j, none⟩ = some (.slice A n c)) : (loadVar 61 ⟨b, j, none⟩).run Try.prog w = .ok (.slice A n c) w := by go_simp
def crewA (win : Int) : Array Value := #[.slice none 0 0, .int .i64 win, .slice none 0 0, .slice none 0 0, .slice none 0 0, .slice none 0 0, .slice none 0 0, .slice none 0 0, .slice none 0 0]
theorem build40 (W : World) (a : Int) : (Instr.build 40 #[(1, .int .i64 a)]).run Try.prog W = .ok (.agg (crewA a)) W := by kernel_rfl
theorem build63z (W : World) (a b c d : Int) : (Instr.build 63 #[(0, .agg #[.int .i64 a, .int .i64 b, .int .i64 c, .int .i64 d])]).run Try.prog W = .ok (.agg #[.int .i64 a, .int .i64 b, .int .i64 c, .int .i64 d, .slice none 0 0]) W := by kernel_rfl
theorem info65 : (Try.prog.info? 65).map (fun i => (i.zero, i.size, i.bytes)) = some (some (.agg #[.int .i64 0, .int .i64 0, .int .i64 0]), 3, 24) := by kernel_rfl
theorem made_zero (k : Nat) (hk : k ≤ 4) : (madeCells #[.int .i64 0] k).toList = List.replicate k (.int .i64 0) := by
  obtain rfl | rfl | rfl | rfl | rfl : k = 0 ∨ k = 1 ∨ k = 2 ∨ k = 3 ∨ k = 4 := by omega
  all_goals kernel_rfl
theorem bs31 (W : World) (A : Option Addr) : (Instr.buildSlice 31 1 #[(0, .pointer A)]).run Try.prog W = .ok (.slice (some ⟨W.heap.size, 0, none⟩) 1 1) (W.alloc (.cells #[.pointer A] 42)) := by kernel_rfl
theorem bs32 (W : World) (A : Option Addr) : (Instr.buildSlice 32 1 #[(0, .slice A 0 0)]).run Try.prog W = .ok (.slice (some ⟨W.heap.size, 0, none⟩) 1 1) (W.alloc (.cells #[.slice A 0 0] 41)) := by kernel_rfl
theorem bs33 (W : World) (A : Option Addr) : (Instr.buildSlice 33 1 #[(0, .slice A 0 0)]).run Try.prog W = .ok (.slice (some ⟨W.heap.size, 0, none⟩) 1 1) (W.alloc (.cells #[.slice A 0 0] 74)) := by kernel_rfl
theorem bs34 (W : World) (A : Option Addr) (n c : Nat) : (Instr.buildSlice 34 1 #[(0, .slice A n c)]).run Try.prog W = .ok (.slice (some ⟨W.heap.size, 0, none⟩) 1 1) (W.alloc (.cells #[.slice A n c] 49)) := by kernel_rfl
theorem bs35 (W : World) (A : Option Addr) : (Instr.buildSlice 35 1 #[(0, .slice A 0 0)]).run Try.prog W = .ok (.slice (some ⟨W.heap.size, 0, none⟩) 1 1) (W.alloc (.cells #[.slice A 0 0] 38)) := by kernel_rfl
theorem bs36 (W : World) (A : Option Addr) : (Instr.buildSlice 36 1 #[(0, .slice A 0 0)]).run Try.prog W = .ok (.slice (some ⟨W.heap.size, 0, none⟩) 1 1) (W.alloc (.cells #[.slice A 0 0] 86)) := by kernel_rfl
theorem bs37 (W : World) (x : Bool) : (Instr.buildSlice 37 1 #[(0, .bool x)]).run Try.prog W = .ok (.slice (some ⟨W.heap.size, 0, none⟩) 1 1) (W.alloc (.cells #[.bool x] 4)) := by kernel_rfl
theorem info42 : (Try.prog.info? 42).map (fun i => (i.zero, i.size, i.bytes)) = some (some (.pointer none), 1, 8) := by kernel_rfl
theorem info4 : (Try.prog.info? 4).map (fun i => (i.zero, i.size, i.bytes)) = some (some (.bool false), 1, 1) := by kernel_rfl
theorem info41 : (Try.prog.info? 41).map (fun i => (i.zero, i.size, i.bytes)) = some (some (.slice none 0 0), 1, 24) := by kernel_rfl
theorem info74 : (Try.prog.info? 74).map (fun i => (i.zero, i.size, i.bytes)) = some (some (.slice none 0 0), 1, 24) := by kernel_rfl
theorem info49 : (Try.prog.info? 49).map (fun i => (i.zero, i.size, i.bytes)) = some (some (.slice none 0 0), 1, 24) := by kernel_rfl
theorem info38 : (Try.prog.info? 38).map (fun i => (i.zero, i.size, i.bytes)) = some (some (.slice none 0 0), 1, 24) := by kernel_rfl
theorem info86 : (Try.prog.info? 86).map (fun i => (i.zero, i.size, i.bytes)) = some (some (.slice none 0 0), 1, 24) := by kernel_rfl
structure VwAt (W : World) (K : Nat → Nat) (bv k : Nat) (A : Option Addr) (c : Nat) : Prop where
  hb : bv < W.heap.size
  kb : K bv = 300
  rg : W.rangeAt bv 0 (vwA vdC A k c).toList
  th : W.there bv 0 5
  row : OwnO W K 301 3 eMbr A c (msG k)
theorem VwAt.ro {W W' : World} {K K' : Nat → Nat} {bv k c : Nat} {A : Option Addr} {Q : Nat → Prop} (h : VwAt W K bv k A c) (r : Ro Q K K' W W') (h1 : ¬ Q 300) (h2 : ¬ Q 301) : VwAt W' K' bv k A c :=
  ⟨Nat.lt_of_lt_of_le h.hb r.size, (r.kk bv h.hb).trans h.kb, range_ro h.rg h.hb r (by rw [h.kb]; exact h1), there_ro h.th h.hb r (by rw [h.kb]; exact h1), h.row.ro r h2⟩
set_option maxRecDepth 100000 in
set_option maxHeartbeats 8000000 in
theorem gathered_any (m0 w0 : Int) (hm1 : -9223372036854775808 ≤ m0) (hm2 : m0 ≤ 9223372036854775807) (hw1 : -9223372036854775808 ≤ w0) (hw2 : w0 ≤ 9223372036854775807) (w : World) {n win : Nat} (hn : n = (1 + absL m0 % 4).toNat) (hwin : win = (1 + absL w0 % 4).toNat) :
    Calls Try.prog 8 #[.int .i64 m0, .int .i64 w0] w fun e w' => ∃ b K' X', e = .returned (.pointer (some ⟨b, 0, none⟩)) ∧ CrwAt w' K' b (Crw.new n win) X' ∧ Ro (fun z => 0 < z ∧ z < 400) (fun _ => 0) K' w w' := by
  refine calls_vc tab_ok Try.func8 rfl ?_
  have a1 := absL_nonneg m0
  have a2 := absL_nonneg w0
  have n4 : n ≤ 4 := by omega
  have n1 : 1 ≤ n := by omega
  have w4 : win ≤ 4 := by omega
  have w1' : 1 ≤ win := by omega
  obtain ⟨n', hn'⟩ : ∃ n', absL m0 % 4 = ((n' : Nat) : Int) := ⟨(absL m0 % 4).toNat, by omega⟩
  obtain ⟨q', hq'⟩ : ∃ q', absL w0 % 4 = ((q' : Nat) : Int) := ⟨(absL w0 % 4).toNat, by omega⟩
  conv => whnf
  refine VCall.mk _ (abs_any w0 w hw1 hw2) ?_
  rintro _ x5 ⟨rfl, e5⟩
  subst x5
  refine ⟨_, rfl, ?_⟩
  repeat ((conv => whnf); first | (refine VCmp.tt (by omega) ?_) | (refine VCmp.ff (by omega) ?_) | (refine VIn.mk (IntWalk.i64_in _ (by omega)) ?_) | (refine VIdx.mk _ rfl (by omega) ?_) | (refine VIdx.mk 0 rfl (by omega) ?_))
  try (conv => whnf)
  refine VQ.remC q' rfl rfl a2 (by decide) hq' (by omega) ?_
  repeat ((conv => whnf); first | (refine VCmp.tt (by omega) ?_) | (refine VCmp.ff (by omega) ?_) | (refine VIn.mk (IntWalk.i64_in _ (by omega)) ?_) | (refine VIdx.mk _ rfl (by omega) ?_) | (refine VIdx.mk 0 rfl (by omega) ?_))
  try (conv => whnf)
  rw [show (1 + (q' : Int)) = ((win : Nat) : Int) by omega]
  refine VBuild.mk _ (fun W => build40 W win) ?_
  repeat ((conv => whnf); first | (refine VCmp.tt (by omega) ?_) | (refine VCmp.ff (by omega) ?_) | (refine VIn.mk (IntWalk.i64_in _ (by omega)) ?_) | (refine VIdx.mk _ rfl (by omega) ?_) | (refine VIdx.mk 0 rfl (by omega) ?_))
  try (conv => whnf)
  refine .mk fun wA hwA => ?_
  obtain ⟨b, hb⟩ : ∃ b, b = w.heap.size := ⟨_, rfl⟩
  rw [← hb]
  have bA : Below w.heap.size w wA := by rw [hwA.out]; exact (Below.refl _ _).alloc (Nat.le_refl _) _
  have zA : wA.heap.size = w.heap.size + 1 := by rw [hwA.out]; exact World.size_alloc _ _
  have rA : wA.rangeAt b 0 (crewA win).toList := by rw [hwA.out, hb]; exact range_new w _ 40
  have tA : wA.there b 0 9 := by rw [hwA.out, hb]; exact there_new w _ _
  clear hwA
  repeat ((conv => whnf); first | (refine VCmp.tt (by omega) ?_) | (refine VCmp.ff (by omega) ?_) | (refine VIn.mk (IntWalk.i64_in _ (by omega)) ?_) | (refine VIdx.mk _ rfl (by omega) ?_) | (refine VIdx.mk 0 rfl (by omega) ?_))
  try (conv => whnf)
  refine VCall.mk _ (abs_any m0 wA hm1 hm2) ?_
  rintro _ x5 ⟨rfl, e5⟩
  subst x5
  refine ⟨_, rfl, ?_⟩
  repeat ((conv => whnf); first | (refine VCmp.tt (by omega) ?_) | (refine VCmp.ff (by omega) ?_) | (refine VIn.mk (IntWalk.i64_in _ (by omega)) ?_) | (refine VIdx.mk _ rfl (by omega) ?_) | (refine VIdx.mk 0 rfl (by omega) ?_))
  try (conv => whnf)
  refine VQ.remC n' rfl rfl a1 (by decide) hn' (by omega) ?_
  repeat ((conv => whnf); first | (refine VCmp.tt (by omega) ?_) | (refine VCmp.ff (by omega) ?_) | (refine VIn.mk (IntWalk.i64_in _ (by omega)) ?_) | (refine VIdx.mk _ rfl (by omega) ?_) | (refine VIdx.mk 0 rfl (by omega) ?_))
  try (conv => whnf)
  rw [show (1 + (n' : Int)) = ((n : Nat) : Int) by omega]
  refine VBuild.mk _ (fun W => build47 W 5 1 2 3) ?_
  repeat ((conv => whnf); first | (refine VCmp.tt (by omega) ?_) | (refine VCmp.ff (by omega) ?_) | (refine VIn.mk (IntWalk.i64_in _ (by omega)) ?_) | (refine VIdx.mk _ rfl (by omega) ?_) | (refine VIdx.mk 0 rfl (by omega) ?_))
  try (conv => whnf)
  refine VBuild.mk _ (fun W => build63z W 5 1 2 3) ?_
  repeat ((conv => whnf); first | (refine VCmp.tt (by omega) ?_) | (refine VCmp.ff (by omega) ?_) | (refine VIn.mk (IntWalk.i64_in _ (by omega)) ?_) | (refine VIdx.mk _ rfl (by omega) ?_) | (refine VIdx.mk 0 rfl (by omega) ?_))
  try (conv => whnf)
  refine .mk _ run_zero63 ?_
  conv => whnf
  refine .mk fun uB hu => ?_
  repeat ((conv => whnf); first | (refine VCmp.tt (by omega) ?_) | (refine VCmp.ff (by omega) ?_) | (refine VIn.mk (IntWalk.i64_in _ (by omega)) ?_) | (refine VIdx.mk _ rfl (by omega) ?_) | (refine VIdx.mk 0 rfl (by omega) ?_))
  try (conv => whnf)
  obtain ⟨bv, hbv⟩ : ∃ bv, bv = wA.heap.size := ⟨_, rfl⟩
  refine VStore.new (c' := vwA vdC none 0 0) hu (by kernel_rfl) rfl (one_vwA _ _ _ _) fun wB hwB => ?_
  rw [← hbv]
  have bB : Below wA.heap.size wA wB := by rw [hwB.out]; exact (Below.refl _ _).alloc (Nat.le_refl _) _
  have zB : wB.heap.size = wA.heap.size + 1 := by rw [hwB.out]; exact World.size_alloc _ _
  have rB : wB.rangeAt bv 0 (vwA vdC none 0 0).toList := by rw [hwB.out, hbv]; exact range_new wA _ 63
  have tB : wB.there bv 0 5 := by rw [hwB.out, hbv]; exact there_new wA _ _
  clear hu hwB
  clear uB
  obtain ⟨K0, hK0⟩ : ∃ K0 : Nat → Nat, K0 = fun y => if y = b then 1 else if y = bv then 300 else 0 := ⟨_, rfl⟩
  have kb0 : K0 b = 1 := by rw [hK0]; exact if_pos rfl
  have kv0 : K0 bv = 300 := by rw [hK0]; show (if bv = b then 1 else if bv = bv then 300 else 0) = 300; rw [if_neg (by omega), if_pos rfl]
  have ko0 : ∀ y, y ≠ b → y ≠ bv → K0 y = 0 := fun y h1 h2 => by rw [hK0]; show (if y = b then 1 else if y = bv then 300 else 0) = 0; rw [if_neg h1, if_neg h2]
  have bwB : Below w.heap.size w wB := bA.trans (bB.mono bA.size)
  have q0 : Ro (fun z => 0 < z ∧ z < 400) (fun _ => 0) K0 w wB := (Ro.below bwB).role fun y hy => ko0 y (by omega) (by omega)
  obtain ⟨X0, hX0⟩ : ∃ X0 : CwX, X0 = ⟨⟨none, 0, []⟩, ⟨none, 0, []⟩, ⟨none, 0, []⟩, ⟨none, 0, []⟩, ⟨none, 0, []⟩, ⟨none, 0, []⟩, ⟨none, 0, []⟩, ⟨none, 0, []⟩⟩ := ⟨_, rfl⟩
  have lz : ∀ {α β : Type} (q base sz : Nat) (enc : α → List Value) (val : α → β) (bd : α → Option Addr × List Int) (f : Nat → List β), LstAt wB K0 q base 0 sz enc val bd ⟨none, 0, []⟩ f := fun {α β} q base sz enc val bd f => ⟨rfl, OwnO.nil _ _ _ _ _, fun i x hx => by simp at hx⟩
  have G0 : GAt wB K0 b n win X0 := by
    rw [hX0]
    refine ⟨kb0, by omega, fun y hy => ko0 y (by omega) (by omega), range_same rA (bB.block b (by omega)), there_same tA (bB.block b (by omega)), Nat.zero_le _, OwnO.nil _ _ _ _ _, fun i x hx => by simp at hx, Nat.zero_le _, lz _ _ _ _ _ _ _, Nat.zero_le _, lz _ _ _ _ _ _ _, Nat.zero_le _, lz _ _ _ _ _ _ _, Nat.zero_le _, lz _ _ _ _ _ _ _, Nat.zero_le _, lz _ _ _ _ _ _ _, OwnO.nil _ _ _ _ _, rfl⟩
  have V0 : VwAt wB K0 bv 0 none 0 := ⟨by omega, kv0, rB, tB, OwnO.nil _ _ _ _ _⟩
  repeat ((conv => whnf); first | (refine VCmp.tt (by omega) ?_) | (refine VCmp.ff (by omega) ?_) | (refine VIn.mk (IntWalk.i64_in _ (by omega)) ?_) | (refine VIdx.mk _ rfl (by omega) ?_) | (refine VIdx.mk 0 rfl (by omega) ?_))
  try (conv => whnf)
  refine VLoop.mk Nat (fun k => [(0, .int .i64 m0), (1, .int .i64 w0), (4, .pointer none), (5, .pointer (some ⟨b, 0, none⟩)), (6, .int .i64 n), (7, .pointer (some ⟨bv, 0, none⟩)), (8, .int .i64 k)]) (fun k W => k ≤ n ∧ ∃ Kk A c, GAt W Kk b n win X0 ∧ VwAt W Kk bv k A c ∧ Ro (fun z => 0 < z ∧ z < 400) (fun _ => 0) Kk w W) (fun k => n - k) 0 ⟨rfl, rfl, rfl, rfl, rfl, rfl, rfl, trivial⟩ ⟨Nat.zero_le _, K0, none, 0, G0, V0, q0⟩ ?_
  rintro k W ⟨hk, Kk, A, c, Gk, Vk, qk⟩
  by_cases hkn : k < n
  · have LV : Ld Try.prog 61 bv 4 (Sm [bv] W) (.slice A k c) := ⟨fun W' hW' => load61s (cell_sm (Vk.rg 4 _ rfl) (by simp) hW')⟩
    have sd : Sm [bv] W W.drew := fun _ _ => rfl
    repeat ((conv => whnf); first | (refine VCmp.tt (by omega) ?_) | (refine VCmp.ff (by omega) ?_) | (refine VIn.mk (IntWalk.i64_in _ (by omega)) ?_) | (refine VIdx.mk _ rfl (by omega) ?_) | (refine VIdx.mk 0 rfl (by omega) ?_))
    try (conv => whnf)
    refine VDraw.pl 12 (.one [0, 1, 2, 4, 5, 6, 7] 3 (.one [8] 9 (.one [] 10 (.one [11] 12 (.stop []))))) (Sm [bv] W) (by kernel_rfl) (sd) ?_
    repeat ((conv => whnf); first | (refine VLoad.mk _ LV ?_) | (refine VCmp.tt (by omega) ?_) | (refine VCmp.ff (by omega) ?_) | (refine VIn.mk (IntWalk.i64_in _ (by omega)) ?_) | (refine VIdx.mk _ rfl (by omega) ?_) | (refine VIdx.mk 0 rfl (by omega) ?_))
    try (conv => whnf)
    refine VCall.mk _ (pid_any k W.drew (by omega) (by omega)) ?_
    rintro _ x5 ⟨rfl, e5⟩
    subst x5
    refine ⟨_, rfl, ?_⟩
    repeat ((conv => whnf); first | (refine VS.mk sd ?_) | (refine VCmp.tt (by omega) ?_) | (refine VCmp.ff (by omega) ?_) | (refine VIn.mk (IntWalk.i64_in _ (by omega)) ?_) | (refine VIdx.mk _ rfl (by omega) ?_) | (refine VIdx.mk 0 rfl (by omega) ?_))
    try (conv => whnf)
    refine VBuild.mk _ (fun W => build65 W (3 * (k : Int) + 1) (2 + (k : Int)) (3 + (k : Int))) ?_
    repeat ((conv => whnf); first | (refine VS.mk sd ?_) | (refine VCmp.tt (by omega) ?_) | (refine VCmp.ff (by omega) ?_) | (refine VIn.mk (IntWalk.i64_in _ (by omega)) ?_) | (refine VIdx.mk _ rfl (by omega) ?_) | (refine VIdx.mk 0 rfl (by omega) ?_))
    try (conv => whnf)
    refine VBs.mk _ _ (bs61 W.drew (3 * (k : Int) + 1) (2 + (k : Int)) (3 + (k : Int))) ?_
    obtain ⟨mk, hmk⟩ : ∃ mk : Mbr, mk = ⟨3 * (k : Int) + 1, 2 + (k : Int), 3 + (k : Int)⟩ := ⟨_, rfl⟩
    have ba : Below W.heap.size W (W.drew.alloc (.cells #[.int .i64 (3 * (k : Int) + 1), .int .i64 (2 + (k : Int)), .int .i64 (3 + (k : Int))] 65)) := (Below.refl _ W).drew.alloc (Nat.le_refl _) _
    have hnc : ∀ j u, (eMbr mk)[j]? = some u → (W.drew.alloc (.cells #[.int .i64 (3 * (k : Int) + 1), .int .i64 (2 + (k : Int)), .int .i64 (3 + (k : Int))] 65)).cell? ⟨W.heap.size, j, none⟩ = some u := fun j u hu => by
      have := range_new W.drew #[.int .i64 (3 * (k : Int) + 1), .int .i64 (2 + (k : Int)), .int .i64 (3 + (k : Int))] 65 j u (by rw [← hu, hmk]; rfl)
      rwa [Nat.zero_add] at this
    have za : (W.drew.alloc (.cells #[.int .i64 (3 * (k : Int) + 1), .int .i64 (2 + (k : Int)), .int .i64 (3 + (k : Int))] 65)).heap.size = W.heap.size + 1 := World.size_alloc _ _
    show VS _ _ _ (W.drew.alloc (.cells #[.int .i64 (3 * (k : Int) + 1), .int .i64 (2 + (k : Int)), .int .i64 (3 + (k : Int))] 65)) _
    rw [show W.drew.heap.size = W.heap.size from rfl]
    generalize W.drew.alloc (.cells #[.int .i64 (3 * (k : Int) + 1), .int .i64 (2 + (k : Int)), .int .i64 (3 + (k : Int))] 65) = W1 at ba hnc za ⊢
    have G1 := Gk.below ba
    have V1 := Vk.ro (Ro.below (R := fun _ => False) ba) id id
    have hbvW := Vk.hb
    have s1 : Sm [bv] W W1 := .below ba fun g hg => by rw [List.mem_singleton.1 hg]; exact hbvW
    repeat ((conv => whnf); first | (refine VS.mk s1 ?_) | (refine VCmp.tt (by omega) ?_) | (refine VCmp.ff (by omega) ?_) | (refine VIn.mk (IntWalk.i64_in _ (by omega)) ?_) | (refine VIdx.mk _ rfl (by omega) ?_) | (refine VIdx.mk 0 rfl (by omega) ?_))
    try (conv => whnf)
    refine VApp.off 3 24 _ Try.underlying61 info65 rfl (by decide) eMbr (fun _ => rfl) one_eMbr (msG k) mk (msG_len k) V1.row hnc G1.kz (by omega) (by omega) fun A2 c2 K2 W2 o2 q2 kz2 => ?_
    have s2 : Sm [bv] W W2 := s1.trans (.ro q2 fun g hg => by rw [List.mem_singleton.1 hg]; exact ⟨V1.hb, by rw [V1.kb]; decide⟩)
    have t2 := there_ro V1.th V1.hb q2 (by rw [V1.kb]; decide)
    have r2 := range_ro V1.rg V1.hb q2 (by rw [V1.kb]; decide)
    have k2 := (q2.kk bv V1.hb).trans V1.kb
    repeat ((conv => whnf); first | (refine VS.mk s2 ?_) | (refine VCmp.tt (by omega) ?_) | (refine VCmp.ff (by omega) ?_) | (refine VIn.mk (IntWalk.i64_in _ (by omega)) ?_) | (refine VIdx.mk _ rfl (by omega) ?_) | (refine VIdx.mk 0 rfl (by omega) ?_))
    try (conv => whnf)
    refine VStore.cell (by kernel_rfl) (by have := (t2 4 (by omega)).1; rwa [Nat.zero_add] at this) (by have := (t2 4 (by omega)).2; rwa [Nat.zero_add] at this) rfl rfl fun W3 hW3 => ?_
    obtain ⟨r3, t3⟩ := rng_cell (l' := (vwA vdC A2 (k + 1) c2).toList) (j := 4) r2 t2 rfl (by omega) hW3.out rfl
    have q3 : Ro (· = 300) K2 K2 W2 W3 := by rw [hW3.out]; exact Ro.cell k2 _ _
    have G2 := G1.ro q2 kz2 (fun x hx => by omega)
    have G3 := G2.ro q3 (fun y hy => kz2 y (Nat.le_trans q3.size hy)) (fun x hx => by omega)
    have V3 : VwAt W3 K2 bv (k + 1) A2 c2 := ⟨Nat.lt_of_lt_of_le V1.hb (Nat.le_trans q2.size q3.size), k2, r3, t3, by rw [msG_succ, ← hmk]; exact o2.ro q3 (by decide)⟩
    clear hW3
    repeat ((conv => whnf); first | (refine VS.last rfl ?_) | (refine VCmp.tt (by omega) ?_) | (refine VCmp.ff (by omega) ?_) | (refine VIn.mk (IntWalk.i64_in _ (by omega)) ?_) | (refine VIdx.mk _ rfl (by omega) ?_) | (refine VIdx.mk 0 rfl (by omega) ?_))
    try (conv => whnf)
    exact .mk (k + 1) ⟨rfl, rfl, rfl, rfl, rfl, rfl, rfl, trivial⟩ ⟨hkn, K2, A2, c2, G3, V3, ((qk.trans (Ro.below ba)).trans (q2.more fun z hz => by omega)).trans (q3.more fun z hz => by omega)⟩ (by show n - (k + 1) < n - k; omega)
  obtain rfl : k = n := by omega
  repeat ((conv => whnf); first | (refine VCmp.tt (by omega) ?_) | (refine VCmp.ff (by omega) ?_) | (refine VIn.mk (IntWalk.i64_in _ (by omega)) ?_) | (refine VIdx.mk _ rfl (by omega) ?_) | (refine VIdx.mk 0 rfl (by omega) ?_))
  try (conv => whnf)
  refine VLoop.mk Nat (fun p => [(0, .int .i64 m0), (1, .int .i64 w0), (4, .pointer none), (5, .pointer (some ⟨b, 0, none⟩)), (6, .int .i64 k), (7, .pointer (some ⟨bv, 0, none⟩)), (9, .int .i64 p)]) (fun p W => p ≤ k ∧ ∃ Kp Xp, GAt W Kp b k win Xp ∧ Xp.O.l.length = p ∧ Xp.sent.l.length = p ∧ Xp.made.l.length = p ∧ Xp.had.l.length = p ∧ Xp.log.l.length = p ∧ Xp.told.l.length = p ∧ Xp.stop.l.length = p ∧ VwAt W Kp bv k A c ∧ Ro (fun z => 0 < z ∧ z < 400) (fun _ => 0) Kp w W) (fun p => k - p) 0 ⟨rfl, rfl, rfl, rfl, rfl, rfl, rfl, trivial⟩ ⟨Nat.zero_le _, Kk, X0, Gk, by rw [hX0]; rfl, by rw [hX0]; rfl, by rw [hX0]; rfl, by rw [hX0]; rfl, by rw [hX0]; rfl, by rw [hX0]; rfl, by rw [hX0]; rfl, Vk, qk⟩ ?_
  clear Gk Vk qk
  rintro p W ⟨hp, Kp, Xp, Gp, e0, e1, e2, e3, e4, e5, e6, Vp, qp⟩
  by_cases hpk : p < k
  case neg =>
    obtain rfl : p = k := by omega
    repeat ((conv => whnf); first | (refine VCmp.tt (by omega) ?_) | (refine VCmp.ff (by omega) ?_) | (refine VIn.mk (IntWalk.i64_in _ (by omega)) ?_) | (refine VIdx.mk _ rfl (by omega) ?_) | (refine VIdx.mk 0 rfl (by omega) ?_))
    try (conv => whnf)
    exact .mk ⟨b, Kp, _, rfl, Gp.all (by omega) e0 e1 e2 e3 e4 e5 e6, qp⟩
  have LV : Ld Try.prog 63 bv 0 (Sm [b, bv] W) (.agg (vwA vdC A k c)) := ⟨fun W' hW' => load_agg (by kernel_rfl) (by kernel_rfl) (range_same Vp.rg (hW' bv (by simp)))⟩
  have LW := Gp.l_win (l := [b, bv]) (by simp)
  have sd : Sm [b, bv] W W.drew := fun _ _ => rfl
  repeat ((conv => whnf); first | (refine VCmp.tt (by omega) ?_) | (refine VCmp.ff (by omega) ?_) | (refine VIn.mk (IntWalk.i64_in _ (by omega)) ?_) | (refine VIdx.mk _ rfl (by omega) ?_) | (refine VIdx.mk 0 rfl (by omega) ?_))
  try (conv => whnf)
  refine VDraw.pl 1000 (.one [0, 1, 3, 4, 5, 6] 2 (.one [] 7 (.stop [8, 9, 10, 11, 12]))) (Sm [b, bv] W) (by kernel_rfl) (sd) ?_
  repeat ((conv => whnf); first | (refine VLoad.mk _ LV ?_) | (refine VLoad.mk _ LW ?_) | (refine VCmp.tt (by omega) ?_) | (refine VCmp.ff (by omega) ?_) | (refine VIn.mk (IntWalk.i64_in _ (by omega)) ?_) | (refine VIdx.mk _ rfl (by omega) ?_) | (refine VIdx.mk 0 rfl (by omega) ?_))
  try (conv => whnf)
  refine VCall.mk _ (pid_any p W.drew (by omega) (by omega)) ?_
  rintro _ x5 ⟨rfl, e5'⟩
  subst x5
  refine ⟨_, rfl, ?_⟩
  rw [show (3 * (p : Int) + 1) = ((pidN p : Nat) : Int) by unfold pidN; omega]
  repeat ((conv => whnf); first | (refine VS.mk sd ?_) | (refine VCmp.tt (by omega) ?_) | (refine VCmp.ff (by omega) ?_) | (refine VIn.mk (IntWalk.i64_in _ (by omega)) ?_) | (refine VIdx.mk _ rfl (by omega) ?_) | (refine VIdx.mk 0 rfl (by omega) ?_))
  try (conv => whnf)
  have hdW : Below W.heap.size W W.drew := (Below.refl _ W).drew
  have Gd := Gp.below hdW
  have Vd_ := Vp.ro (Ro.below (R := fun _ => False) hdW) id id
  refine VCall.mk _ (new_any vdC (msG k) ((pidN p : Nat) : Int) win W.drew (msG_len k) Vd_.row.row (by omega) Kp Gd.kz (100 + 4 * p) (by omega)) ?_
  rintro _ W1 ⟨b1, ⟨hbad, -⟩ | ⟨-, hbad, -⟩ | ⟨-, l, bo, K1, Y1, hl, rfl, A1, q1, hb1⟩⟩
  · omega
  · rw [pidsG (by omega) hpk] at hbad; cases hbad
  obtain rfl : l = pidsN k := by rw [pidsG (by omega) hpk] at hl; exact (Option.some.inj hl).symm
  refine ⟨_, rfl, ?_⟩
  have A1 : OrdAt W1 K1 (100 + 4 * p) bo (Os.new vdC (pidsN k) (pidN p) win) Y1 := A1
  have G1 := Gd.ro q1 A1.kz (fun x hx => hx.elim)
  have V1 := Vd_.ro q1 id id
  have s1 : Sm [b, bv] W W1 := .below (hdW.trans b1) fun g hg => by
    have h1 := Gp.hb
    have h2 := Vp.hb
    simp only [List.mem_cons, List.not_mem_nil, or_false] at hg
    rcases hg with rfl | rfl <;> assumption
  have Q1 : Ro (fun z => 0 < z ∧ z < 400) (fun _ => 0) K1 w W1 := (qp.trans (Ro.below hdW)).trans (q1.more fun z hz => hz.elim)
  repeat ((conv => whnf); first | (refine VS.mk s1 ?_) | (refine VCmp.tt (by omega) ?_) | (refine VCmp.ff (by omega) ?_) | (refine VIn.mk (IntWalk.i64_in _ (by omega)) ?_) | (refine VIdx.mk _ rfl (by omega) ?_) | (refine VIdx.mk 0 rfl (by omega) ?_))
  try (conv => whnf)
  refine VCall.mk _ (num_any 0 W1) ?_
  rintro _ x5 ⟨rfl, e5'⟩
  subst x5
  refine ⟨_, rfl, ?_⟩
  repeat ((conv => whnf); first | (refine VCmp.tt (by omega) ?_) | (refine VCmp.ff (by omega) ?_) | (refine VIn.mk (IntWalk.i64_in _ (by omega)) ?_) | (refine VIdx.mk _ rfl (by omega) ?_) | (refine VIdx.mk 0 rfl (by omega) ?_))
  try (conv => whnf)
  have LD_O := G1.ld_O (l := [b]) (by simp)
  have sz_O := Sm.refl [b] W1
  repeat ((conv => whnf); first | (refine VLoad.mk _ (LD_O.at sz_O) ?_) | (refine VCmp.tt (by omega) ?_) | (refine VCmp.ff (by omega) ?_) | (refine VIn.mk (IntWalk.i64_in _ (by omega)) ?_) | (refine VIdx.mk _ rfl (by omega) ?_) | (refine VIdx.mk 0 rfl (by omega) ?_))
  try (conv => whnf)
  refine VBs.mk _ _ (bs31 W1 (some ⟨bo, 0, none⟩)) ?_
  have ba_O : Below W1.heap.size W1 (W1.alloc (.cells #[.pointer (some ⟨bo, 0, none⟩)] 42)) := (Below.refl _ _).alloc (Nat.le_refl _) _
  have hnc_O : ∀ j u, (ePt bo)[j]? = some u → (W1.alloc (.cells #[.pointer (some ⟨bo, 0, none⟩)] 42)).cell? ⟨W1.heap.size, j, none⟩ = some u := fun j u hu => by
    have := range_new W1 #[.pointer (some ⟨bo, 0, none⟩)] 42 j u hu
    rwa [Nat.zero_add] at this
  have za_O : (W1.alloc (.cells #[.pointer (some ⟨bo, 0, none⟩)] 42)).heap.size = W1.heap.size + 1 := World.size_alloc _ _
  generalize W1.alloc (.cells #[.pointer (some ⟨bo, 0, none⟩)] 42) = WA_O at ba_O hnc_O za_O ⊢
  have GA_O := G1.below ba_O
  have VA_O := V1.ro (Ro.below (R := fun _ => False) ba_O) id id
  repeat ((conv => whnf); first | (refine VCmp.tt (by omega) ?_) | (refine VCmp.ff (by omega) ?_) | (refine VIn.mk (IntWalk.i64_in _ (by omega)) ?_) | (refine VIdx.mk _ rfl (by omega) ?_) | (refine VIdx.mk 0 rfl (by omega) ?_))
  try (conv => whnf)
  refine VApp.off 1 8 _ Try.underlying31 info42 rfl (by decide) ePt (fun _ => rfl) one_ePt Xp.O.l bo rfl GA_O.O hnc_O GA_O.kz (show Xp.O.l.length + 1 ≤ 9223372036854775807 by omega) (show (Xp.O.l.length + 1) * 8 ≤ 140737488355328 by omega) fun A2_O c2_O K2_O W2_O o2_O q2_O kz2_O => ?_
  have t2_O := there_ro GA_O.th GA_O.hb q2_O (by have := GA_O.kb; omega)
  repeat ((conv => whnf); first | (refine VCmp.tt (by omega) ?_) | (refine VCmp.ff (by omega) ?_) | (refine VIn.mk (IntWalk.i64_in _ (by omega)) ?_) | (refine VIdx.mk _ rfl (by omega) ?_) | (refine VIdx.mk 0 rfl (by omega) ?_))
  try (conv => whnf)
  refine VStore.cell (by kernel_rfl) (by have := (t2_O 0 (by omega)).1; rwa [Nat.zero_add] at this) (by have := (t2_O 0 (by omega)).2; rwa [Nat.zero_add] at this) rfl rfl fun W4 hW3_O => ?_
  obtain ⟨G4, q3_O⟩ := GA_O.push_O bo (by omega) o2_O (by rw [e0]; exact ⟨Y1, (A1.below ba_O).ro q2_O kz2_O (by omega) fun y hy => by unfold inR at hy; omega⟩) q2_O kz2_O (w2 := W4) (by rw [hW3_O.out]; rfl)
  have V4 := VA_O.ro q3_O (by omega) (by omega)
  have Q4 : Ro (fun z => 0 < z ∧ z < 400) (fun _ => 0) K2_O w W4 := (Q1.trans (Ro.below ba_O)).trans (q3_O.more fun z hz => by omega)
  clear hW3_O t2_O q2_O o2_O hnc_O LD_O sz_O
  have LD_sent := G4.ld_sent (l := [b]) (by simp)
  have sz_sent := Sm.refl [b] W4
  repeat ((conv => whnf); first | (refine VLoad.mk _ (LD_sent.at sz_sent) ?_) | (refine VCmp.tt (by omega) ?_) | (refine VCmp.ff (by omega) ?_) | (refine VIn.mk (IntWalk.i64_in _ (by omega)) ?_) | (refine VIdx.mk _ rfl (by omega) ?_) | (refine VIdx.mk 0 rfl (by omega) ?_))
  try (conv => whnf)
  refine VBs.mk _ _ (bs32 W4 none) ?_
  have ba_sent : Below W4.heap.size W4 (W4.alloc (.cells #[.slice none 0 0] 41)) := (Below.refl _ _).alloc (Nat.le_refl _) _
  have hnc_sent : ∀ j u, ((eRw (⟨none, 0, []⟩ : Rw Bx)))[j]? = some u → (W4.alloc (.cells #[.slice none 0 0] 41)).cell? ⟨W4.heap.size, j, none⟩ = some u := fun j u hu => by
    have := range_new W4 #[.slice none 0 0] 41 j u hu
    rwa [Nat.zero_add] at this
  have za_sent : (W4.alloc (.cells #[.slice none 0 0] 41)).heap.size = W4.heap.size + 1 := World.size_alloc _ _
  generalize W4.alloc (.cells #[.slice none 0 0] 41) = WA_sent at ba_sent hnc_sent za_sent ⊢
  have GA_sent := G4.below ba_sent
  have VA_sent := V4.ro (Ro.below (R := fun _ => False) ba_sent) id id
  repeat ((conv => whnf); first | (refine VCmp.tt (by omega) ?_) | (refine VCmp.ff (by omega) ?_) | (refine VIn.mk (IntWalk.i64_in _ (by omega)) ?_) | (refine VIdx.mk _ rfl (by omega) ?_) | (refine VIdx.mk 0 rfl (by omega) ?_))
  try (conv => whnf)
  refine VApp.off 1 24 _ Try.underlying32 info41 rfl (by decide) (eRw (α := Bx)) (fun _ => rfl) one_eRw Xp.sent.l (⟨none, 0, []⟩ : Rw Bx) rfl GA_sent.sent.row hnc_sent GA_sent.kz (show Xp.sent.l.length + 1 ≤ 9223372036854775807 by omega) (show (Xp.sent.l.length + 1) * 24 ≤ 140737488355328 by omega) fun A2_sent c2_sent K2_sent W2_sent o2_sent q2_sent kz2_sent => ?_
  have t2_sent := there_ro GA_sent.th GA_sent.hb q2_sent (by have := GA_sent.kb; omega)
  repeat ((conv => whnf); first | (refine VCmp.tt (by omega) ?_) | (refine VCmp.ff (by omega) ?_) | (refine VIn.mk (IntWalk.i64_in _ (by omega)) ?_) | (refine VIdx.mk _ rfl (by omega) ?_) | (refine VIdx.mk 0 rfl (by omega) ?_))
  try (conv => whnf)
  refine VStore.cell (by kernel_rfl) (by have := (t2_sent 2 (by omega)).1; rwa [Nat.zero_add] at this) (by have := (t2_sent 2 (by omega)).2; rwa [Nat.zero_add] at this) rfl rfl fun W5 hW3_sent => ?_
  obtain ⟨G5, q3_sent⟩ := GA_sent.push_sent (by show Xp.sent.l.length + 1 ≤ 4; omega) o2_sent  q2_sent kz2_sent (w2 := W5) (by rw [hW3_sent.out]; rfl)
  have V5 := VA_sent.ro q3_sent (by omega) (by omega)
  have Q5 : Ro (fun z => 0 < z ∧ z < 400) (fun _ => 0) K2_sent w W5 := (Q4.trans (Ro.below ba_sent)).trans (q3_sent.more fun z hz => by omega)
  clear hW3_sent t2_sent q2_sent o2_sent hnc_sent LD_sent sz_sent
  have LD_made := G5.ld_made (l := [b]) (by simp)
  have sz_made := Sm.refl [b] W5
  repeat ((conv => whnf); first | (refine VLoad.mk _ (LD_made.at sz_made) ?_) | (refine VCmp.tt (by omega) ?_) | (refine VCmp.ff (by omega) ?_) | (refine VIn.mk (IntWalk.i64_in _ (by omega)) ?_) | (refine VIdx.mk _ rfl (by omega) ?_) | (refine VIdx.mk 0 rfl (by omega) ?_))
  try (conv => whnf)
  refine VBs.mk _ _ (bs33 W5 none) ?_
  have ba_made : Below W5.heap.size W5 (W5.alloc (.cells #[.slice none 0 0] 74)) := (Below.refl _ _).alloc (Nat.le_refl _) _
  have hnc_made : ∀ j u, ((eRw (⟨none, 0, []⟩ : Rw Ix)))[j]? = some u → (W5.alloc (.cells #[.slice none 0 0] 74)).cell? ⟨W5.heap.size, j, none⟩ = some u := fun j u hu => by
    have := range_new W5 #[.slice none 0 0] 74 j u hu
    rwa [Nat.zero_add] at this
  have za_made : (W5.alloc (.cells #[.slice none 0 0] 74)).heap.size = W5.heap.size + 1 := World.size_alloc _ _
  generalize W5.alloc (.cells #[.slice none 0 0] 74) = WA_made at ba_made hnc_made za_made ⊢
  have GA_made := G5.below ba_made
  have VA_made := V5.ro (Ro.below (R := fun _ => False) ba_made) id id
  repeat ((conv => whnf); first | (refine VCmp.tt (by omega) ?_) | (refine VCmp.ff (by omega) ?_) | (refine VIn.mk (IntWalk.i64_in _ (by omega)) ?_) | (refine VIdx.mk _ rfl (by omega) ?_) | (refine VIdx.mk 0 rfl (by omega) ?_))
  try (conv => whnf)
  refine VApp.off 1 24 _ Try.underlying33 info74 rfl (by decide) (eRw (α := Ix)) (fun _ => rfl) one_eRw Xp.made.l (⟨none, 0, []⟩ : Rw Ix) rfl GA_made.made.row hnc_made GA_made.kz (show Xp.made.l.length + 1 ≤ 9223372036854775807 by omega) (show (Xp.made.l.length + 1) * 24 ≤ 140737488355328 by omega) fun A2_made c2_made K2_made W2_made o2_made q2_made kz2_made => ?_
  have t2_made := there_ro GA_made.th GA_made.hb q2_made (by have := GA_made.kb; omega)
  repeat ((conv => whnf); first | (refine VCmp.tt (by omega) ?_) | (refine VCmp.ff (by omega) ?_) | (refine VIn.mk (IntWalk.i64_in _ (by omega)) ?_) | (refine VIdx.mk _ rfl (by omega) ?_) | (refine VIdx.mk 0 rfl (by omega) ?_))
  try (conv => whnf)
  refine VStore.cell (by kernel_rfl) (by have := (t2_made 3 (by omega)).1; rwa [Nat.zero_add] at this) (by have := (t2_made 3 (by omega)).2; rwa [Nat.zero_add] at this) rfl rfl fun W6 hW3_made => ?_
  obtain ⟨G6, q3_made⟩ := GA_made.push_made (by show Xp.made.l.length + 1 ≤ 4; omega) o2_made  q2_made kz2_made (w2 := W6) (by rw [hW3_made.out]; rfl)
  have V6 := VA_made.ro q3_made (by omega) (by omega)
  have Q6 : Ro (fun z => 0 < z ∧ z < 400) (fun _ => 0) K2_made w W6 := (Q5.trans (Ro.below ba_made)).trans (q3_made.more fun z hz => by omega)
  clear hW3_made t2_made q2_made o2_made hnc_made LD_made sz_made
  have LDH := G6.ld_had (l := [b]) (by simp)
  have sh6 := Sm.refl [b] W6
  repeat ((conv => whnf); first | (refine VCmp.tt (by omega) ?_) | (refine VCmp.ff (by omega) ?_) | (refine VIn.mk (IntWalk.i64_in _ (by omega)) ?_) | (refine VIdx.mk _ rfl (by omega) ?_) | (refine VIdx.mk 0 rfl (by omega) ?_))
  try (conv => whnf)
  refine VDraw.pl 11 (.one [0, 1, 2, 3, 4, 5] 6 (.one [] 7 (.one [] 8 (.one [9, 10] 11 (.stop []))))) (Sm [b] W6) (by kernel_rfl) (sh6) ?_
  repeat ((conv => whnf); first | (refine VLoad.mk _ LDH ?_) | (refine VCmp.tt (by omega) ?_) | (refine VCmp.ff (by omega) ?_) | (refine VIn.mk (IntWalk.i64_in _ (by omega)) ?_) | (refine VIdx.mk _ rfl (by omega) ?_) | (refine VIdx.mk 0 rfl (by omega) ?_))
  try (conv => whnf)
  refine VW.run (v := .slice (some ⟨W6.heap.size, 0, none⟩) k k) (w' := W6.drew.alloc (.cells (madeCells #[.int .i64 0] k) 3)) (fun a ha => ?_) ?_
  · have h3 := ha (.tmp 97) _ rfl
    have := run_mk49 W6.drew k (by omega)
    simp only [execOp, h3, Sem.run_bind, Sem.run_pure, Result.andThen_ok]
    exact congrArg (fun z => Result.andThen z fun v w' => Result.ok (Next.value v) w') this
  have bh1 : Below W6.heap.size W6 (W6.drew.alloc (.cells (madeCells #[.int .i64 0] k) 3)) := (Below.refl _ W6).drew.alloc (Nat.le_refl _) _
  have zh1 : (W6.drew.alloc (.cells (madeCells #[.int .i64 0] k) 3)).heap.size = W6.heap.size + 1 := World.size_alloc _ _
  have eh := made_zero k (by omega)
  have th1 : (W6.drew.alloc (.cells (madeCells #[.int .i64 0] k) 3)).there W6.heap.size 0 k := by
    have := there_new W6.drew (madeCells #[.int .i64 0] k) 3
    have e : (madeCells #[Value.int .i64 0] k).size = k := by rw [← Array.length_toList, eh, List.length_replicate]
    rwa [e] at this
  have rh1 : (W6.drew.alloc (.cells (madeCells #[.int .i64 0] k) 3)).rangeAt W6.heap.size 0 (List.replicate k (.int .i64 0)) := by
    have := range_new W6.drew (madeCells #[.int .i64 0] k) 3
    rwa [eh] at this
  generalize W6.drew.alloc (.cells (madeCells #[.int .i64 0] k) 3) = Wh1 at bh1 zh1 th1 rh1 ⊢
  obtain ⟨gh, hgh⟩ : ∃ gh, gh = W6.heap.size := ⟨_, rfl⟩
  rw [← hgh] at th1 rh1 ⊢
  obtain ⟨Kh, hKh⟩ : ∃ Kh, Kh = upN K2_made gh (40 + p) := ⟨_, rfl⟩
  have kgh : Kh gh = 40 + p := by rw [hKh]; exact upN_same _ _ _
  have qh1 : Ro (fun _ => False) K2_made Kh W6 Wh1 := (Ro.below bh1).role fun y hy => by rw [hKh]; exact upN_ne _ _ (by omega)
  have kzh : ∀ y, Wh1.heap.size ≤ y → Kh y = 0 := fun y hy => by rw [hKh, upN_ne _ _ (by omega)]; exact G6.kz y (by omega)
  have Gh1 := G6.ro qh1 kzh (fun x hx => hx.elim)
  have Vh1 := V6.ro qh1 id id
  have hb6 := G6.hb
  have sh1 : Sm [b] W6 Wh1 := .below bh1 fun g hg => by rw [List.mem_singleton.1 hg]; exact hb6
  have own1 : OwnO Wh1 Kh (40 + p) 1 eNat (some ⟨gh, 0, none⟩) k (List.replicate k 0) := .inr ⟨gh, 0, rfl, by omega, kgh, by rw [List.length_replicate]; omega, by rw [Nat.mul_one]; exact th1, fun q x hx j u hu => by
    have hq : q < k := by have := (List.getElem?_eq_some_iff.1 hx).1; rwa [List.length_replicate] at this
    have hx0 : x = 0 := by rw [List.getElem?_replicate, if_pos hq] at hx; exact (Option.some.inj hx).symm
    have hj : j = 0 := by have := (List.getElem?_eq_some_iff.1 hu).1; simp [eNat] at this; exact this
    subst hx0 hj
    injection hu with hu
    subst hu
    have := rh1 q (.int .i64 0) (by rw [List.getElem?_replicate, if_pos hq])
    rwa [show 0 + q * 1 + 0 = 0 + q by omega]⟩
  repeat ((conv => whnf); first | (refine VS.mk sh1 ?_) | (refine VCmp.tt (by omega) ?_) | (refine VCmp.ff (by omega) ?_) | (refine VIn.mk (IntWalk.i64_in _ (by omega)) ?_) | (refine VIdx.mk _ rfl (by omega) ?_) | (refine VIdx.mk 0 rfl (by omega) ?_))
  try (conv => whnf)
  refine VBs.mk _ _ (bs34 Wh1 (some ⟨gh, 0, none⟩) k k) ?_
  obtain ⟨xh, hxh⟩ : ∃ xh : Rw Nat, xh = ⟨some ⟨gh, 0, none⟩, k, List.replicate k 0⟩ := ⟨_, rfl⟩
  have bh2 : Below Wh1.heap.size Wh1 (Wh1.alloc (.cells #[.slice (some ⟨gh, 0, none⟩) k k] 49)) := (Below.refl _ _).alloc (Nat.le_refl _) _
  have hnch : ∀ j u, (eRw xh)[j]? = some u → (Wh1.alloc (.cells #[.slice (some ⟨gh, 0, none⟩) k k] 49)).cell? ⟨Wh1.heap.size, j, none⟩ = some u := fun j u hu => by
    have := range_new Wh1 #[.slice (some ⟨gh, 0, none⟩) k k] 49 j u (by rw [← hu, hxh]; unfold eRw; rw [List.length_replicate])
    rwa [Nat.zero_add] at this
  have zh2 : (Wh1.alloc (.cells #[.slice (some ⟨gh, 0, none⟩) k k] 49)).heap.size = Wh1.heap.size + 1 := World.size_alloc _ _
  generalize Wh1.alloc (.cells #[.slice (some ⟨gh, 0, none⟩) k k] 49) = Wh2 at bh2 hnch zh2 ⊢
  have Gh2 := Gh1.below bh2
  have Vh2 := Vh1.ro (Ro.below (R := fun _ => False) bh2) id id
  have own2 := own1.ro (Ro.below (R := fun _ => False) bh2) id
  have sh2 : Sm [b] W6 Wh2 := sh1.trans (.below bh2 fun g hg => by rw [List.mem_singleton.1 hg]; omega)
  repeat ((conv => whnf); first | (refine VS.mk sh2 ?_) | (refine VCmp.tt (by omega) ?_) | (refine VCmp.ff (by omega) ?_) | (refine VIn.mk (IntWalk.i64_in _ (by omega)) ?_) | (refine VIdx.mk _ rfl (by omega) ?_) | (refine VIdx.mk 0 rfl (by omega) ?_))
  try (conv => whnf)
  refine VApp.off 1 24 _ Try.underlying34 info49 rfl (by decide) (eRw (α := Nat)) (fun _ => rfl) one_eRw Xp.had.l xh rfl Gh2.had.row hnch Gh2.kz (show Xp.had.l.length + 1 ≤ 9223372036854775807 by omega) (show (Xp.had.l.length + 1) * 24 ≤ 140737488355328 by omega) fun Ah3 ch3 Kh3 Wh3 oh3 qh3 kzh3 => ?_
  have kbh := Gh2.kb
  have hbh := Gh2.hb
  have sh3 : Sm [b] W6 Wh3 := sh2.trans (.ro qh3 fun g hg => by rw [List.mem_singleton.1 hg]; exact ⟨hbh, by omega⟩)
  have th3 := there_ro Gh2.th Gh2.hb qh3 (by omega)
  repeat ((conv => whnf); first | (refine VS.mk sh3 ?_) | (refine VCmp.tt (by omega) ?_) | (refine VCmp.ff (by omega) ?_) | (refine VIn.mk (IntWalk.i64_in _ (by omega)) ?_) | (refine VIdx.mk _ rfl (by omega) ?_) | (refine VIdx.mk 0 rfl (by omega) ?_))
  try (conv => whnf)
  refine VStore.cell (by kernel_rfl) (by have := (th3 4 (by omega)).1; rwa [Nat.zero_add] at this) (by have := (th3 4 (by omega)).2; rwa [Nat.zero_add] at this) rfl rfl fun W7 hW7 => ?_
  obtain ⟨G7, q7⟩ := Gh2.push_had xh (by show Xp.had.l.length + 1 ≤ 4; omega) oh3 (by rw [show (40 + Xp.had.l.length) = 40 + p by omega, hxh]; exact own2.ro qh3 (by omega)) (by rw [hxh]) qh3 kzh3 (w2 := W7) (by rw [hW7.out]; rfl)
  have V7 := Vh2.ro q7 (by omega) (by omega)
  have Q7 : Ro (fun z => 0 < z ∧ z < 400) (fun _ => 0) Kh3 w W7 := ((Q6.trans (qh1.more fun z hz => hz.elim)).trans (Ro.below bh2)).trans (q7.more fun z hz => by omega)
  clear hW7 th3 qh3 oh3 hnch
  repeat ((conv => whnf); first | (refine VS.last rfl ?_) | (refine VCmp.tt (by omega) ?_) | (refine VCmp.ff (by omega) ?_) | (refine VIn.mk (IntWalk.i64_in _ (by omega)) ?_) | (refine VIdx.mk _ rfl (by omega) ?_) | (refine VIdx.mk 0 rfl (by omega) ?_))
  try (conv => whnf)
  have LD_log := G7.ld_log (l := [b]) (by simp)
  have sz_log := Sm.refl [b] W7
  repeat ((conv => whnf); first | (refine VLoad.mk _ (LD_log.at sz_log) ?_) | (refine VCmp.tt (by omega) ?_) | (refine VCmp.ff (by omega) ?_) | (refine VIn.mk (IntWalk.i64_in _ (by omega)) ?_) | (refine VIdx.mk _ rfl (by omega) ?_) | (refine VIdx.mk 0 rfl (by omega) ?_))
  try (conv => whnf)
  refine VBs.mk _ _ (bs35 W7 none) ?_
  have ba_log : Below W7.heap.size W7 (W7.alloc (.cells #[.slice none 0 0] 38)) := (Below.refl _ _).alloc (Nat.le_refl _) _
  have hnc_log : ∀ j u, ((eRw (⟨none, 0, []⟩ : Rw MgX)))[j]? = some u → (W7.alloc (.cells #[.slice none 0 0] 38)).cell? ⟨W7.heap.size, j, none⟩ = some u := fun j u hu => by
    have := range_new W7 #[.slice none 0 0] 38 j u hu
    rwa [Nat.zero_add] at this
  have za_log : (W7.alloc (.cells #[.slice none 0 0] 38)).heap.size = W7.heap.size + 1 := World.size_alloc _ _
  generalize W7.alloc (.cells #[.slice none 0 0] 38) = WA_log at ba_log hnc_log za_log ⊢
  have GA_log := G7.below ba_log
  have VA_log := V7.ro (Ro.below (R := fun _ => False) ba_log) id id
  repeat ((conv => whnf); first | (refine VCmp.tt (by omega) ?_) | (refine VCmp.ff (by omega) ?_) | (refine VIn.mk (IntWalk.i64_in _ (by omega)) ?_) | (refine VIdx.mk _ rfl (by omega) ?_) | (refine VIdx.mk 0 rfl (by omega) ?_))
  try (conv => whnf)
  refine VApp.off 1 24 _ Try.underlying35 info38 rfl (by decide) (eRw (α := MgX)) (fun _ => rfl) one_eRw Xp.log.l (⟨none, 0, []⟩ : Rw MgX) rfl GA_log.log.row hnc_log GA_log.kz (show Xp.log.l.length + 1 ≤ 9223372036854775807 by omega) (show (Xp.log.l.length + 1) * 24 ≤ 140737488355328 by omega) fun A2_log c2_log K2_log W2_log o2_log q2_log kz2_log => ?_
  have t2_log := there_ro GA_log.th GA_log.hb q2_log (by have := GA_log.kb; omega)
  repeat ((conv => whnf); first | (refine VCmp.tt (by omega) ?_) | (refine VCmp.ff (by omega) ?_) | (refine VIn.mk (IntWalk.i64_in _ (by omega)) ?_) | (refine VIdx.mk _ rfl (by omega) ?_) | (refine VIdx.mk 0 rfl (by omega) ?_))
  try (conv => whnf)
  refine VStore.cell (by kernel_rfl) (by have := (t2_log 5 (by omega)).1; rwa [Nat.zero_add] at this) (by have := (t2_log 5 (by omega)).2; rwa [Nat.zero_add] at this) rfl rfl fun W8 hW3_log => ?_
  obtain ⟨G8, q3_log⟩ := GA_log.push_log (by show Xp.log.l.length + 1 ≤ 4; omega) o2_log  q2_log kz2_log (w2 := W8) (by rw [hW3_log.out]; rfl)
  have V8 := VA_log.ro q3_log (by omega) (by omega)
  have Q8 : Ro (fun z => 0 < z ∧ z < 400) (fun _ => 0) K2_log w W8 := (Q7.trans (Ro.below ba_log)).trans (q3_log.more fun z hz => by omega)
  clear hW3_log t2_log q2_log o2_log hnc_log LD_log sz_log
  have LD_told := G8.ld_told (l := [b]) (by simp)
  have sz_told := Sm.refl [b] W8
  repeat ((conv => whnf); first | (refine VLoad.mk _ (LD_told.at sz_told) ?_) | (refine VCmp.tt (by omega) ?_) | (refine VCmp.ff (by omega) ?_) | (refine VIn.mk (IntWalk.i64_in _ (by omega)) ?_) | (refine VIdx.mk _ rfl (by omega) ?_) | (refine VIdx.mk 0 rfl (by omega) ?_))
  try (conv => whnf)
  refine VBs.mk _ _ (bs36 W8 none) ?_
  have ba_told : Below W8.heap.size W8 (W8.alloc (.cells #[.slice none 0 0] 86)) := (Below.refl _ _).alloc (Nat.le_refl _) _
  have hnc_told : ∀ j u, ((eRw (⟨none, 0, []⟩ : Rw Stb)))[j]? = some u → (W8.alloc (.cells #[.slice none 0 0] 86)).cell? ⟨W8.heap.size, j, none⟩ = some u := fun j u hu => by
    have := range_new W8 #[.slice none 0 0] 86 j u hu
    rwa [Nat.zero_add] at this
  have za_told : (W8.alloc (.cells #[.slice none 0 0] 86)).heap.size = W8.heap.size + 1 := World.size_alloc _ _
  generalize W8.alloc (.cells #[.slice none 0 0] 86) = WA_told at ba_told hnc_told za_told ⊢
  have GA_told := G8.below ba_told
  have VA_told := V8.ro (Ro.below (R := fun _ => False) ba_told) id id
  repeat ((conv => whnf); first | (refine VCmp.tt (by omega) ?_) | (refine VCmp.ff (by omega) ?_) | (refine VIn.mk (IntWalk.i64_in _ (by omega)) ?_) | (refine VIdx.mk _ rfl (by omega) ?_) | (refine VIdx.mk 0 rfl (by omega) ?_))
  try (conv => whnf)
  refine VApp.off 1 24 _ Try.underlying36 info86 rfl (by decide) (eRw (α := Stb)) (fun _ => rfl) one_eRw Xp.told.l (⟨none, 0, []⟩ : Rw Stb) rfl GA_told.told.row hnc_told GA_told.kz (show Xp.told.l.length + 1 ≤ 9223372036854775807 by omega) (show (Xp.told.l.length + 1) * 24 ≤ 140737488355328 by omega) fun A2_told c2_told K2_told W2_told o2_told q2_told kz2_told => ?_
  have t2_told := there_ro GA_told.th GA_told.hb q2_told (by have := GA_told.kb; omega)
  repeat ((conv => whnf); first | (refine VCmp.tt (by omega) ?_) | (refine VCmp.ff (by omega) ?_) | (refine VIn.mk (IntWalk.i64_in _ (by omega)) ?_) | (refine VIdx.mk _ rfl (by omega) ?_) | (refine VIdx.mk 0 rfl (by omega) ?_))
  try (conv => whnf)
  refine VStore.cell (by kernel_rfl) (by have := (t2_told 6 (by omega)).1; rwa [Nat.zero_add] at this) (by have := (t2_told 6 (by omega)).2; rwa [Nat.zero_add] at this) rfl rfl fun W9 hW3_told => ?_
  obtain ⟨G9, q3_told⟩ := GA_told.push_told (by show Xp.told.l.length + 1 ≤ 4; omega) o2_told  q2_told kz2_told (w2 := W9) (by rw [hW3_told.out]; rfl)
  have V9 := VA_told.ro q3_told (by omega) (by omega)
  have Q9 : Ro (fun z => 0 < z ∧ z < 400) (fun _ => 0) K2_told w W9 := (Q8.trans (Ro.below ba_told)).trans (q3_told.more fun z hz => by omega)
  clear hW3_told t2_told q2_told o2_told hnc_told LD_told sz_told
  have LD_stop := G9.ld_stop (l := [b]) (by simp)
  have sz_stop := Sm.refl [b] W9
  repeat ((conv => whnf); first | (refine VLoad.mk _ (LD_stop.at sz_stop) ?_) | (refine VCmp.tt (by omega) ?_) | (refine VCmp.ff (by omega) ?_) | (refine VIn.mk (IntWalk.i64_in _ (by omega)) ?_) | (refine VIdx.mk _ rfl (by omega) ?_) | (refine VIdx.mk 0 rfl (by omega) ?_))
  try (conv => whnf)
  refine VBs.mk _ _ (bs37 W9 false) ?_
  have ba_stop : Below W9.heap.size W9 (W9.alloc (.cells #[.bool false] 4)) := (Below.refl _ _).alloc (Nat.le_refl _) _
  have hnc_stop : ∀ j u, ((eBo false))[j]? = some u → (W9.alloc (.cells #[.bool false] 4)).cell? ⟨W9.heap.size, j, none⟩ = some u := fun j u hu => by
    have := range_new W9 #[.bool false] 4 j u hu
    rwa [Nat.zero_add] at this
  have za_stop : (W9.alloc (.cells #[.bool false] 4)).heap.size = W9.heap.size + 1 := World.size_alloc _ _
  generalize W9.alloc (.cells #[.bool false] 4) = WA_stop at ba_stop hnc_stop za_stop ⊢
  have GA_stop := G9.below ba_stop
  have VA_stop := V9.ro (Ro.below (R := fun _ => False) ba_stop) id id
  repeat ((conv => whnf); first | (refine VCmp.tt (by omega) ?_) | (refine VCmp.ff (by omega) ?_) | (refine VIn.mk (IntWalk.i64_in _ (by omega)) ?_) | (refine VIdx.mk _ rfl (by omega) ?_) | (refine VIdx.mk 0 rfl (by omega) ?_))
  try (conv => whnf)
  refine VApp.off 1 1 _ Try.underlying37 info4 rfl (by decide) eBo (fun _ => rfl) one_eBo Xp.stop.l false rfl GA_stop.stop hnc_stop GA_stop.kz (show Xp.stop.l.length + 1 ≤ 9223372036854775807 by omega) (show (Xp.stop.l.length + 1) * 1 ≤ 140737488355328 by omega) fun A2_stop c2_stop K2_stop W2_stop o2_stop q2_stop kz2_stop => ?_
  have t2_stop := there_ro GA_stop.th GA_stop.hb q2_stop (by have := GA_stop.kb; omega)
  repeat ((conv => whnf); first | (refine VCmp.tt (by omega) ?_) | (refine VCmp.ff (by omega) ?_) | (refine VIn.mk (IntWalk.i64_in _ (by omega)) ?_) | (refine VIdx.mk _ rfl (by omega) ?_) | (refine VIdx.mk 0 rfl (by omega) ?_))
  try (conv => whnf)
  refine VStore.cell (by kernel_rfl) (by have := (t2_stop 7 (by omega)).1; rwa [Nat.zero_add] at this) (by have := (t2_stop 7 (by omega)).2; rwa [Nat.zero_add] at this) rfl rfl fun W10 hW3_stop => ?_
  obtain ⟨G10, q3_stop⟩ := GA_stop.push_stop  o2_stop  q2_stop kz2_stop (w2 := W10) (by rw [hW3_stop.out]; rfl)
  have V10 := VA_stop.ro q3_stop (by omega) (by omega)
  have Q10 : Ro (fun z => 0 < z ∧ z < 400) (fun _ => 0) K2_stop w W10 := (Q9.trans (Ro.below ba_stop)).trans (q3_stop.more fun z hz => by omega)
  clear hW3_stop t2_stop q2_stop o2_stop hnc_stop LD_stop sz_stop
  repeat ((conv => whnf); first | (refine VCmp.tt (by omega) ?_) | (refine VCmp.ff (by omega) ?_) | (refine VIn.mk (IntWalk.i64_in _ (by omega)) ?_) | (refine VIdx.mk _ rfl (by omega) ?_) | (refine VIdx.mk 0 rfl (by omega) ?_))
  try (conv => whnf)
  exact .mk (p + 1) ⟨rfl, rfl, rfl, rfl, rfl, rfl, rfl, trivial⟩ ⟨hpk, K2_stop, _, G10, by show (Xp.O.l ++ [bo]).length = p + 1; rw [List.length_append, e0]; rfl, by show (Xp.sent.l ++ [_]).length = p + 1; rw [List.length_append, e1]; rfl, by show (Xp.made.l ++ [_]).length = p + 1; rw [List.length_append, e2]; rfl, by show (Xp.had.l ++ [_]).length = p + 1; rw [List.length_append, e3]; rfl, by show (Xp.log.l ++ [_]).length = p + 1; rw [List.length_append, e4]; rfl, by show (Xp.told.l ++ [_]).length = p + 1; rw [List.length_append, e5]; rfl, by show (Xp.stop.l ++ [_]).length = p + 1; rw [List.length_append, e6]; rfl, V10, Q10⟩ (by show k - (p + 1) < k - p; omega)
end Go.Proofs.Ytoilipfgimcoiaa
