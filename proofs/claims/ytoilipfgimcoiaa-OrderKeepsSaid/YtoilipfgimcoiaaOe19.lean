/- OdFi CrG, joined. -/
import Derived.Test.YtoilipfgimcoiaaOe18
set_option linter.unusedVariables false
set_option linter.unusedSimpArgs false
namespace Go.Proofs.Ytoilipfgimcoiaa
open Go Go.RowKit
def vd1 : Vd := ⟨1, 3, 1, 1⟩
def ms1 : List Mbr := [⟨3, 1, 1⟩]
theorem build47 (W : World) (a b c d : Int) : (Instr.build 47 #[(0, .int .i64 a), (1, .int .i64 b), (2, .int .i64 c), (3, .int .i64 d)]).run Try.prog W = .ok (.agg #[.int .i64 a, .int .i64 b, .int .i64 c, .int .i64 d]) W := by kernel_rfl
theorem build65 (W : World) (a b c : Int) : (Instr.build 65 #[(0, .int .i64 a), (1, .int .i64 b), (2, .int .i64 c)]).run Try.prog W = .ok (.agg #[.int .i64 a, .int .i64 b, .int .i64 c]) W := by kernel_rfl
theorem bs61 (W : World) (a b c : Int) : (Instr.buildSlice 61 1 #[(0, .agg #[.int .i64 a, .int .i64 b, .int .i64 c])]).run Try.prog W = .ok (.slice (some ⟨W.heap.size, 0, none⟩) 1 1) (W.alloc (.cells #[.int .i64 a, .int .i64 b, .int .i64 c] 65)) := by kernel_rfl
theorem build63 (W : World) (a b c d : Int) (A : Option Addr) (n m : Nat) : (Instr.build 63 #[(0, .agg #[.int .i64 a, .int .i64 b, .int .i64 c, .int .i64 d]), (1, .slice A n m)]).run Try.prog W = .ok (.agg #[.int .i64 a, .int .i64 b, .int .i64 c, .int .i64 d, .slice A n m]) W := by kernel_rfl
abbrev zero63 : Value := .agg #[.int .i64 0, .int .i64 0, .int .i64 0, .int .i64 0, .slice none 0 0]
theorem run_zero63 (W : World) : (zeroValue 63).run Try.prog W = .ok zero63 W := by kernel_rfl
theorem one_vwA (v : Vd) (A : Option Addr) (n c : Nat) : (vwA v A n c).all (·.oneCell') = true := by
  have : ∀ u ∈ [Value.int .i64 v.e, .int .i64 v.l, .int .i64 v.i, .int .i64 v.c, .slice A n c], u.oneCell' = true := fun u hu => by
    simp only [List.mem_cons, List.not_mem_nil, or_false] at hu
    rcases hu with rfl | rfl | rfl | rfl | rfl <;> rfl
  exact all_oneCell_toArray this
theorem pids1 : pidsOf vd1 ms1 3 = some [3] := by kernel_rfl
theorem bsB (W : World) (x : Int) : (Instr.buildSlice 27 1 #[(0, .int .u8 x)]).run Try.prog W = .ok (.slice (some ⟨W.heap.size, 0, none⟩) 1 1) (W.alloc (.cells #[.int .u8 x] 5)) := by kernel_rfl
def of0 : Os := Os.new vd1 [3] 3 1
def of1 : Os := of0.keep ⟨3, 1, 0, [5]⟩
def of2 : Os := of1.asgK 1
def of3 : Os := { of2 with done := 1, mine := 1 }
def of4 : Os := of3.rise of3.least
theorem wf_small {o : Os} (h1 : o.mem = [3]) (h2 : o.self = 3) (h3 : o.win = 1) (hs : o.slots = [] ∨ o.slots = [⟨3, 1⟩]) (hq : o.queue = [] ∨ o.queue = [⟨3, 1⟩]) (hh : o.held = [] ∨ o.held = [⟨3, 1, 0, [5]⟩]) (ht : ∀ s, o.taken s ≤ 1) (hp : ∀ s, o.placed s ≤ 1) (hg : ∀ s, o.gone s ≤ 1) (h4 : o.taken 3 = 1 ∨ o.held = []) (h5 : o.pre ≤ 1) (h6 : o.done ≤ 1) (h7 : o.mine ≤ 1) : WfO o := by
  have sl : ∀ l : List Sl, (l = [] ∨ l = [⟨3, 1⟩]) → (∀ x ∈ l, x.s < 16 ∧ x.q ≤ 1000000000) ∧ l.length ≤ 1 := fun l hl => by
    rcases hl with rfl | rfl
    · exact ⟨fun x hx => (List.not_mem_nil hx).elim, by simp⟩
    · exact ⟨fun x hx => by rw [List.mem_singleton.1 hx]; decide, by simp⟩
  obtain ⟨s1, s2⟩ := sl _ hs
  obtain ⟨q1, q2⟩ := sl _ hq
  have hd : (∀ d ∈ o.held, d.s < 16 ∧ d.q ≤ 1000000000) ∧ (o.held.map Dt.sl).Nodup ∧ ∀ d ∈ o.held, d.q ≤ o.taken d.s := by
    rcases hh with e | e
    · rw [e]; exact ⟨fun x hx => (List.not_mem_nil hx).elim, by simp, fun x hx => (List.not_mem_nil hx).elim⟩
    · have h4' : o.taken 3 = 1 := by
        rcases h4 with h4 | h4
        · exact h4
        · rw [e] at h4; cases h4
      rw [e]
      exact ⟨fun x hx => by rw [List.mem_singleton.1 hx]; decide, by simp, fun x hx => by rw [List.mem_singleton.1 hx]; show 1 ≤ o.taken 3; omega⟩
  refine ⟨by rw [h1]; decide, by rw [h1]; decide, fun q hq => by rw [h1] at hq; rw [List.mem_singleton.1 hq]; decide, by omega, by omega, s1, q1, by omega, hd.1, hd.2.1, hd.2.2, fun s => by have := ht s; omega, fun s => by have := hp s; omega, fun s => by have := hg s; omega, by unfold Os.known; omega, by omega, by omega⟩
theorem up3 (k v s : Nat) (h : v ≤ 1) : upN (fun _ => 0) k v s ≤ 1 := by unfold upN; split; exact h; exact Nat.zero_le _
theorem wf0 : WfO of0 := wf_small rfl rfl rfl (.inl rfl) (.inl rfl) (.inl rfl) (fun _ => Nat.zero_le _) (fun _ => Nat.zero_le _) (fun _ => Nat.zero_le _) (.inr rfl) (Nat.zero_le _) (Nat.zero_le _) (Nat.zero_le _)
theorem wf1 : WfO of1 := wf_small rfl rfl rfl (.inl rfl) (.inr rfl) (.inr rfl) (fun s => up3 3 1 s (by omega)) (fun _ => Nat.zero_le _) (fun _ => Nat.zero_le _) (.inl rfl) (Nat.zero_le _) (Nat.zero_le _) (Nat.zero_le _)
theorem wf2 : WfO of2 := wf_small rfl rfl rfl (.inr rfl) (.inl rfl) (.inr rfl) (fun s => up3 3 1 s (by omega)) (fun s => up3 3 1 s (by omega)) (fun _ => Nat.zero_le _) (.inl rfl) (Nat.zero_le _) (Nat.zero_le _) (Nat.zero_le _)
theorem send1 : of0.send [5] = (⟨3, 1, 0, [5]⟩, 0, of1) := by kernel_rfl
theorem send2 : of1.send [6] = (dt0, 71, of1) := by kernel_rfl
theorem assign1 : of1.assign 2 = ([⟨1, 0, ⟨3, 1⟩⟩], of2) := by kernel_rfl
theorem next1 : of2.next = some (⟨1, 3, 1, [5]⟩, of3) := by kernel_rfl
theorem next2 : of3.next = none := by kernel_rfl
theorem rma1 : RmA of1 := ⟨fun _ => by show 0 + 1 ≤ _; omega, by decide, fun _ => by show 0 + 0 + 1 ≤ _; omega⟩
theorem dvi2 : DvI of2 := ⟨wf2, Nat.le_refl _, Nat.le_refl _, fun d hd => by
  have hd : d ∈ [(⟨3, 1, 0, [5]⟩ : Dt)] := hd
  rw [List.mem_singleton.1 hd]; decide⟩
theorem deliver1 {ms : List Mg} {o' : Os} (h : DvAns of2 2 ms o') : ms = [⟨1, 3, 1, [5]⟩] ∧ o' = of4 := by
  rcases h with ⟨h, -⟩ | ⟨-, -, o1, hd, hl, -, rfl⟩
  · rcases h with h | h
    · exact absurd h (by decide)
    · exact absurd h (by decide)
  have inv : ∀ {ms : List Mg} {o1 : Os}, Dlv of2 ms o1 → (ms = [] ∧ o1 = of2) ∨ (ms = [⟨1, 3, 1, [5]⟩] ∧ o1 = of3) := fun {ms o1} hd => by
    induction hd with
    | nil => exact .inl ⟨rfl, rfl⟩
    | snoc h hn ih =>
      rcases ih with ⟨rfl, rfl⟩ | ⟨rfl, rfl⟩
      · rw [next1] at hn
        injection hn with hn
        injection hn with h1 h2
        rw [← h1, ← h2]
        exact .inr ⟨rfl, rfl⟩
      · rw [next2] at hn; cases hn
  rcases inv hd with ⟨rfl, rfl⟩ | ⟨rfl, rfl⟩
  · rcases hl with hl | ⟨-, hl⟩
    · simp at hl
    · rw [next1] at hl; cases hl
  · exact ⟨rfl, rfl⟩
set_option maxRecDepth 100000 in
set_option maxHeartbeats 8000000 in
theorem first_any (w : World) : Calls Try.prog 9 #[] w fun e w' => e = .returned (.bool true) ∧ Below w.heap.size w w' := by
  refine calls_vc (args := []) tab_ok Try.func9 rfl ?_
  conv => whnf
  refine VBuild.mk _ (fun W => build47 W 1 3 1 1) ?_
  repeat ((conv => whnf); first | (refine VCmp.tt (by omega) ?_) | (refine VCmp.ff (by omega) ?_) | (refine VIn.mk (IntWalk.i64_in _ (by omega)) ?_) | (refine VIdx.mk _ rfl (by omega) ?_) | (refine VIdx.mk 0 rfl (by omega) ?_))
  try (conv => whnf)
  refine VBuild.mk _ (fun W => build65 W 3 1 1) ?_
  repeat ((conv => whnf); first | (refine VCmp.tt (by omega) ?_) | (refine VCmp.ff (by omega) ?_) | (refine VIn.mk (IntWalk.i64_in _ (by omega)) ?_) | (refine VIdx.mk _ rfl (by omega) ?_) | (refine VIdx.mk 0 rfl (by omega) ?_))
  try (conv => whnf)
  refine VBs.mk _ _ (bs61 w 3 1 1) ?_
  have b1 : Below w.heap.size w (w.alloc (.cells #[.int .i64 3, .int .i64 1, .int .i64 1] 65)) := (Below.refl _ _).alloc (Nat.le_refl _) _
  have z1 : (w.alloc (.cells #[.int .i64 3, .int .i64 1, .int .i64 1] 65)).heap.size = w.heap.size + 1 := World.size_alloc _ _
  have r1 := range_new w #[.int .i64 3, .int .i64 1, .int .i64 1] 65
  generalize w.alloc (.cells #[.int .i64 3, .int .i64 1, .int .i64 1] 65) = w1 at b1 z1 r1 ⊢
  repeat ((conv => whnf); first | (refine VCmp.tt (by omega) ?_) | (refine VCmp.ff (by omega) ?_) | (refine VIn.mk (IntWalk.i64_in _ (by omega)) ?_) | (refine VIdx.mk _ rfl (by omega) ?_) | (refine VIdx.mk 0 rfl (by omega) ?_))
  try (conv => whnf)
  refine VBuild.mk _ (fun W => build63 W 1 3 1 1 (some ⟨w.heap.size, 0, none⟩) 1 1) ?_
  repeat ((conv => whnf); first | (refine VCmp.tt (by omega) ?_) | (refine VCmp.ff (by omega) ?_) | (refine VIn.mk (IntWalk.i64_in _ (by omega)) ?_) | (refine VIdx.mk _ rfl (by omega) ?_) | (refine VIdx.mk 0 rfl (by omega) ?_))
  try (conv => whnf)
  refine .mk _ run_zero63 ?_
  conv => whnf
  refine .mk fun u2 hu2 => ?_
  repeat ((conv => whnf); first | (refine VCmp.tt (by omega) ?_) | (refine VCmp.ff (by omega) ?_) | (refine VIn.mk (IntWalk.i64_in _ (by omega)) ?_) | (refine VIdx.mk _ rfl (by omega) ?_) | (refine VIdx.mk 0 rfl (by omega) ?_))
  try (conv => whnf)
  refine VStore.new (c' := vwA vd1 (some ⟨w.heap.size, 0, none⟩) 1 1) hu2 (by kernel_rfl) rfl (one_vwA _ _ _ _) fun w2 hw2 => ?_
  have b2 : Below w1.heap.size w1 w2 := by rw [hw2.out]; exact (Below.refl _ _).alloc (Nat.le_refl _) _
  have r2 : w2.rangeAt w1.heap.size 0 (vwA vd1 (some ⟨w.heap.size, 0, none⟩) 1 1).toList := by rw [hw2.out]; exact range_new w1 _ 63
  have z2 : w2.heap.size = w1.heap.size + 1 := by rw [hw2.out]; exact World.size_alloc _ _
  clear hu2 hw2 u2
  have bw2 : Below w.heap.size w w2 := b1.trans (b2.mono (by omega))
  have LV : Ld Try.prog 63 w1.heap.size 0 (Eq w2) (.agg (vwA vd1 (some ⟨w.heap.size, 0, none⟩) 1 1)) := .of (load_agg (by kernel_rfl) (by kernel_rfl) r2)
  have rM : RowAt w2 w2.heap.size 3 eMbr (some ⟨w.heap.size, 0, none⟩) ms1 := fun _ => ⟨w.heap.size, 0, rfl, by omega, fun k x hx j u hu => by
    match k, hx with
    | 0, hx =>
      injection hx with hx
      subst hx
      have := r1 j u hu
      exact (World.cell?_of_block (a := ⟨w.heap.size, _, none⟩) (b2.block w.heap.size (by omega))).trans (by rw [show 0 + 0 * 3 + j = 0 + j by omega]; exact this)
    | k + 1, hx => simp [ms1] at hx⟩
  repeat ((conv => whnf); first | (refine VLoad.mk _ LV ?_) | (refine VCmp.tt (by omega) ?_) | (refine VCmp.ff (by omega) ?_) | (refine VIn.mk (IntWalk.i64_in _ (by omega)) ?_) | (refine VIdx.mk _ rfl (by omega) ?_) | (refine VIdx.mk 0 rfl (by omega) ?_))
  try (conv => whnf)
  refine VCall.mk _ (new_any vd1 ms1 3 1 w2 rfl rM (by decide) (fun _ => 0) (fun _ _ => rfl) 1 (by omega)) ?_
  rintro _ w3 ⟨b3, ⟨hbad, -⟩ | ⟨-, hbad, -⟩ | ⟨-, l, b, K3, X3, hl, rfl, A3, q3, hb3⟩⟩
  · omega
  · rw [pids1] at hbad; cases hbad
  obtain rfl : l = [3] := by rw [pids1] at hl; exact (Option.some.inj hl).symm
  refine ⟨_, rfl, ?_⟩
  repeat ((conv => whnf); first | (refine VCmp.tt (by omega) ?_) | (refine VCmp.ff (by omega) ?_) | (refine VIn.mk (IntWalk.i64_in _ (by omega)) ?_) | (refine VIdx.mk _ rfl (by omega) ?_) | (refine VIdx.mk 0 rfl (by omega) ?_))
  try (conv => whnf)
  refine VCall.mk _ (num_any 0 w3) ?_
  rintro _ x5 ⟨rfl, e5⟩
  subst x5
  refine ⟨_, rfl, ?_⟩
  have A3 : OrdAt w3 K3 1 b of0 X3 := A3
  have bw3 : Below w.heap.size w w3 := bw2.trans (b3.mono bw2.size)
  have hbw : w.heap.size ≤ b := Nat.le_trans bw2.size hb3
  repeat ((conv => whnf); first | (refine VCmp.tt (by omega) ?_) | (refine VCmp.ff (by omega) ?_) | (refine VIn.mk (IntWalk.i64_in _ (by omega)) ?_) | (refine VIdx.mk _ rfl (by omega) ?_) | (refine VIdx.mk 0 rfl (by omega) ?_))
  try (conv => whnf)
  refine VBs.mk _ _ (bsB w3 5) ?_
  have b4 : Below w3.heap.size w3 (w3.alloc (.cells #[.int .u8 5] 5)) := (Below.refl _ _).alloc (Nat.le_refl _) _
  have z4 : (w3.alloc (.cells #[.int .u8 5] 5)).heap.size = w3.heap.size + 1 := World.size_alloc _ _
  have r4 := range_new w3 #[.int .u8 5] 5
  generalize w3.alloc (.cells #[.int .u8 5] 5) = w4 at b4 z4 r4 ⊢
  have row4 : RowAt w4 w4.heap.size 1 eByte (some ⟨w3.heap.size, 0, none⟩) [5] := fun _ => ⟨w3.heap.size, 0, rfl, by omega, fun k x hx j u hu => by
    match k, hx with
    | 0, hx =>
      injection hx with hx
      subst hx
      have := r4 j u hu
      rwa [show 0 + 0 * 1 + j = 0 + j by omega]
    | k + 1, hx => simp at hx⟩
  repeat ((conv => whnf); first | (refine VCmp.tt (by omega) ?_) | (refine VCmp.ff (by omega) ?_) | (refine VIn.mk (IntWalk.i64_in _ (by omega)) ?_) | (refine VIdx.mk _ rfl (by omega) ?_) | (refine VIdx.mk 0 rfl (by omega) ?_))
  try (conv => whnf)
  refine VCall.mk _ (send_any (A3.below b4) wf0 [5] (by decide) (fun e he => (List.not_mem_nil he).elim) (by decide) rfl row4) ?_
  rintro _ w5 ⟨B5, c5, rfl, -, K5, X5, A5, q5, -⟩
  refine ⟨_, rfl, ?_⟩
  rw [send1] at A5 ⊢
  have A5 : OrdAt w5 K5 1 b of1 X5 := A5
  repeat ((conv => whnf); first | (refine VCmp.tt (by omega) ?_) | (refine VCmp.ff (by omega) ?_) | (refine VIn.mk (IntWalk.i64_in _ (by omega)) ?_) | (refine VIdx.mk _ rfl (by omega) ?_) | (refine VIdx.mk 0 rfl (by omega) ?_))
  try (conv => whnf)
  refine .mk _ run_zero71 ?_
  conv => whnf
  refine .mk fun u6 hu6 => ?_
  repeat ((conv => whnf); first | (refine VCmp.tt (by omega) ?_) | (refine VCmp.ff (by omega) ?_) | (refine VIn.mk (IntWalk.i64_in _ (by omega)) ?_) | (refine VIdx.mk _ rfl (by omega) ?_) | (refine VIdx.mk 0 rfl (by omega) ?_))
  try (conv => whnf)
  refine VStore.new (c' := dtA ⟨3, 1, 0, [5]⟩ B5 c5 1) hu6 (by kernel_rfl) rfl (one_dtA _ _ _ _) fun w6 hw6 => ?_
  have b6 : Below w5.heap.size w5 w6 := by rw [hw6.out]; exact (Below.refl _ _).alloc (Nat.le_refl _) _
  have r6 : w6.rangeAt w5.heap.size 0 (dtA ⟨3, 1, 0, [5]⟩ B5 c5 1).toList := by rw [hw6.out]; exact range_new w5 _ 71
  have z6 : w6.heap.size = w5.heap.size + 1 := by rw [hw6.out]; exact World.size_alloc _ _
  obtain ⟨bd, hbd⟩ : ∃ bd, bd = w5.heap.size := ⟨_, rfl⟩
  rw [← hbd] at r6
  rw [← hbd]
  clear hu6 hw6
  clear u6
  have A6 := A5.below b6
  repeat ((conv => whnf); first | (refine VCmp.tt (by omega) ?_) | (refine VCmp.ff (by omega) ?_) | (refine VIn.mk (IntWalk.i64_in _ (by omega)) ?_) | (refine VIdx.mk _ rfl (by omega) ?_) | (refine VIdx.mk 0 rfl (by omega) ?_))
  try (conv => whnf)
  refine VBs.mk _ _ (bsB w6 6) ?_
  have b7 : Below w6.heap.size w6 (w6.alloc (.cells #[.int .u8 6] 5)) := (Below.refl _ _).alloc (Nat.le_refl _) _
  have z7 : (w6.alloc (.cells #[.int .u8 6] 5)).heap.size = w6.heap.size + 1 := World.size_alloc _ _
  have r7 := range_new w6 #[.int .u8 6] 5
  generalize w6.alloc (.cells #[.int .u8 6] 5) = w7 at b7 z7 r7 ⊢
  have row7 : RowAt w7 w7.heap.size 1 eByte (some ⟨w6.heap.size, 0, none⟩) [6] := fun _ => ⟨w6.heap.size, 0, rfl, by omega, fun k x hx j u hu => by
    match k, hx with
    | 0, hx =>
      injection hx with hx
      subst hx
      have := r7 j u hu
      rwa [show 0 + 0 * 1 + j = 0 + j by omega]
    | k + 1, hx => simp at hx⟩
  repeat ((conv => whnf); first | (refine VCmp.tt (by omega) ?_) | (refine VCmp.ff (by omega) ?_) | (refine VIn.mk (IntWalk.i64_in _ (by omega)) ?_) | (refine VIdx.mk _ rfl (by omega) ?_) | (refine VIdx.mk 0 rfl (by omega) ?_))
  try (conv => whnf)
  refine VCall.mk _ (send_any (A6.below b7) wf1 [6] (by decide) (wf1.new (by decide)) (by decide) rfl row7) ?_
  rintro _ w8 ⟨B8, c8, rfl, -, K8, X8, A8, q8, -⟩
  refine ⟨_, rfl, ?_⟩
  rw [send2] at A8 ⊢
  have A8 : OrdAt w8 K8 1 b of1 X8 := A8
  have q68 : Ro (inR 1) K5 K8 w6 w8 := (Ro.below b7).trans q8
  have kbd : K5 bd = 0 := A5.kz bd (by omega)
  have r8 : w8.rangeAt bd 0 (dtA ⟨3, 1, 0, [5]⟩ B5 c5 1).toList := range_same r6 (q68.same bd (by omega) (by rw [kbd]; unfold inR; omega))
  have z8 := q68.size
  repeat ((conv => whnf); first | (refine VCmp.tt (by omega) ?_) | (refine VCmp.ff (by omega) ?_) | (refine VIn.mk (IntWalk.i64_in _ (by omega)) ?_) | (refine VIdx.mk _ rfl (by omega) ?_) | (refine VIdx.mk 0 rfl (by omega) ?_))
  try (conv => whnf)
  refine .mk _ run_zero71 ?_
  conv => whnf
  refine .mk fun u9 hu9 => ?_
  repeat ((conv => whnf); first | (refine VCmp.tt (by omega) ?_) | (refine VCmp.ff (by omega) ?_) | (refine VIn.mk (IntWalk.i64_in _ (by omega)) ?_) | (refine VIdx.mk _ rfl (by omega) ?_) | (refine VIdx.mk 0 rfl (by omega) ?_))
  try (conv => whnf)
  refine VStore.new (c' := dtA dt0 B8 c8 0) hu9 (by kernel_rfl) rfl (one_dtA _ _ _ _) fun w9 hw9 => ?_
  have b9 : Below w8.heap.size w8 w9 := by rw [hw9.out]; exact (Below.refl _ _).alloc (Nat.le_refl _) _
  clear hu9 hw9
  clear u9
  have A9 := A8.below b9
  have r9 := range_same r8 (b9.block bd (by omega))
  have TS : Ld Try.prog 3 bd 0 (Eq w9) (.int .i64 3) := .of (load3 (r9 0 _ rfl))
  have TQ : Ld Try.prog 3 bd 1 (Eq w9) (.int .i64 1) := .of (load3 (r9 1 _ rfl))
  repeat ((conv => whnf); first | (refine VCmp.tt (by omega) ?_) | (refine VCmp.ff (by omega) ?_) | (refine VIn.mk (IntWalk.i64_in _ (by omega)) ?_) | (refine VIdx.mk _ rfl (by omega) ?_) | (refine VIdx.mk 0 rfl (by omega) ?_))
  try (conv => whnf)
  refine VCall.mk _ (num_any 0 w9) ?_
  rintro _ x5 ⟨rfl, e5⟩
  subst x5
  refine ⟨_, rfl, ?_⟩
  repeat ((conv => whnf); first | (refine VCmp.tt (by omega) ?_) | (refine VCmp.ff (by omega) ?_) | (refine VIn.mk (IntWalk.i64_in _ (by omega)) ?_) | (refine VIdx.mk _ rfl (by omega) ?_) | (refine VIdx.mk 0 rfl (by omega) ?_))
  try (conv => whnf)
  refine VCall.mk _ (num_any 71 w9) ?_
  rintro _ x5 ⟨rfl, e5⟩
  subst x5
  refine ⟨_, rfl, ?_⟩
  repeat ((conv => whnf); first | (refine VLoad.mk _ TS ?_) | (refine VLoad.mk _ TQ ?_) | (refine VCmp.tt (by omega) ?_) | (refine VCmp.ff (by omega) ?_) | (refine VIn.mk (IntWalk.i64_in _ (by omega)) ?_) | (refine VIdx.mk _ rfl (by omega) ?_) | (refine VIdx.mk 0 rfl (by omega) ?_))
  try (conv => whnf)
  refine VCall.mk _ (held_any A9) ?_
  rintro _ x5 ⟨rfl, e5⟩
  subst x5
  refine ⟨_, rfl, ?_⟩
  have eh : of1.held.length = 1 := rfl
  rw [eh]
  repeat ((conv => whnf); first | (refine VCmp.tt (by omega) ?_) | (refine VCmp.ff (by omega) ?_) | (refine VIn.mk (IntWalk.i64_in _ (by omega)) ?_) | (refine VIdx.mk _ rfl (by omega) ?_) | (refine VIdx.mk 0 rfl (by omega) ?_))
  try (conv => whnf)
  refine VCall.mk _ (assign_any A9 wf1 rma1 2) ?_
  rintro _ w10 ⟨A10, c10, rfl, own10, K10, X10, A10', q10, k10⟩
  refine ⟨_, rfl, ?_⟩
  have e10 : (of1.assign 2).1.length = 1 := by rw [assign1]; rfl
  rw [e10]
  rw [assign1] at own10 A10'
  have A10' : OrdAt w10 K10 1 b of2 X10 := A10'
  have R10 : RowK w10 K10 9 eIS A10 [⟨1, 0, ⟨3, 1⟩⟩] := RowK.at_ (own10.row fun _ => rfl) k10
  obtain ⟨gI, oI, rfl, gI1, kI, cI⟩ := R10 (by decide)
  repeat ((conv => whnf); first | (refine VCmp.tt (by omega) ?_) | (refine VCmp.ff (by omega) ?_) | (refine VIn.mk (IntWalk.i64_in _ (by omega)) ?_) | (refine VIdx.mk _ rfl (by omega) ?_) | (refine VIdx.mk 0 rfl (by omega) ?_))
  try (conv => whnf)
  refine VCall.mk _ (deliver_any A10' dvi2 (by decide) 2) ?_
  rintro _ w11 ⟨ms, o', xs, A11, c11, K11, X11, rfl, hD, A11', q11, R11, hxs, hxb⟩
  refine ⟨_, rfl, ?_⟩
  obtain ⟨rfl, rfl⟩ := deliver1 hD
  obtain ⟨x, rfl⟩ : ∃ x, xs = [x] := by
    cases xs with
    | nil => cases hxs
    | cons x t => cases t with
      | nil => exact ⟨x, rfl⟩
      | cons y t => simp at hxs
  have hxm : x.m = ⟨1, 3, 1, [5]⟩ := by injection hxs
  obtain ⟨gM, oM, rfl, gM1, kM, cM⟩ := R11 (by simp)
  have hx0 : RowK w11 K11 1 eByte x.A [5] := by have := hxb x List.mem_cons_self; rwa [hxm] at this
  have cI' : w11.cell? ⟨gI, oI + 5, none⟩ = some (.int .i64 1) := (World.cell?_of_block (a := ⟨gI, _, none⟩) (q11.same gI gI1 (by rw [kI]; unfold inR; omega))).trans (by have := cI 0 _ rfl 5 _ rfl; simpa using this)
  have cM' : w11.cell? ⟨gM, oM + 3, none⟩ = some (.slice x.A 1 x.c) := by
    have := cM 0 _ rfl 3 (.slice x.A x.m.b.length x.c) rfl
    rw [hxm] at this
    simpa using this
  have TI : Ld Try.prog 3 gI (oI + 5) (Eq w11) (.int .i64 1) := .of (load3 cI')
  have TM : Ld Try.prog 27 gM (oM + 3) (Eq w11) (.slice x.A 1 x.c) := .of (load27 cM')
  have em : ([⟨1, 3, 1, [5]⟩] : List Mg).length = 1 := rfl
  rw [em]
  repeat ((conv => whnf); first | (refine VLoad.mk _ TI ?_) | (refine VLoad.mk _ TM ?_) | (refine VCmp.tt (by omega) ?_) | (refine VCmp.ff (by omega) ?_) | (refine VIn.mk (IntWalk.i64_in _ (by omega)) ?_) | (refine VIdx.mk _ rfl (by omega) ?_) | (refine VIdx.mk 0 rfl (by omega) ?_))
  try (conv => whnf)
  refine VBs.mk _ _ (bsB w11 5) ?_
  have b12 : Below w11.heap.size w11 (w11.alloc (.cells #[.int .u8 5] 5)) := (Below.refl _ _).alloc (Nat.le_refl _) _
  have z12 : (w11.alloc (.cells #[.int .u8 5] 5)).heap.size = w11.heap.size + 1 := World.size_alloc _ _
  have r12 := range_new w11 #[.int .u8 5] 5
  generalize w11.alloc (.cells #[.int .u8 5] 5) = w12 at b12 z12 r12 ⊢
  have row12 : RowAt w12 w12.heap.size 1 eByte (some ⟨w11.heap.size, 0, none⟩) [5] := fun _ => ⟨w11.heap.size, 0, rfl, by omega, fun k x hx j u hu => by
    match k, hx with
    | 0, hx =>
      injection hx with hx
      subst hx
      have := r12 j u hu
      rwa [show 0 + 0 * 1 + j = 0 + j by omega]
    | k + 1, hx => simp at hx⟩
  have hx12 := (hx0.ro (Ro.below (R := fun _ => False) b12) id).row
  repeat ((conv => whnf); first | (refine VCmp.tt (by omega) ?_) | (refine VCmp.ff (by omega) ?_) | (refine VIn.mk (IntWalk.i64_in _ (by omega)) ?_) | (refine VIdx.mk _ rfl (by omega) ?_) | (refine VIdx.mk 0 rfl (by omega) ?_))
  try (conv => whnf)
  refine VCall.mk _ (sameBytes_any x.A (some ⟨w11.heap.size, 0, none⟩) x.c 1 1 1 w12.heap.size [5] [5] w12 rfl rfl (Nat.le_refl _) hx12 row12 (by decide)) ?_
  rintro _ w13 ⟨rfl, b13⟩
  refine ⟨_, rfl, ?_⟩
  rw [decide_eq_true rfl]
  have A13 : OrdAt w13 K11 1 b of4 X11 := (A11'.below b12).below b13
  repeat ((conv => whnf); first | (refine VCmp.tt (by omega) ?_) | (refine VCmp.ff (by omega) ?_) | (refine VIn.mk (IntWalk.i64_in _ (by omega)) ?_) | (refine VIdx.mk _ rfl (by omega) ?_) | (refine VIdx.mk 0 rfl (by omega) ?_))
  try (conv => whnf)
  refine VCall.mk _ (done_any A13) ?_
  rintro _ x5 ⟨rfl, e5⟩
  subst x5
  refine ⟨_, rfl, ?_⟩
  rw [show of4.done = 1 by kernel_rfl]
  repeat ((conv => whnf); first | (refine VCmp.tt (by omega) ?_) | (refine VCmp.ff (by omega) ?_) | (refine VIn.mk (IntWalk.i64_in _ (by omega)) ?_) | (refine VIdx.mk _ rfl (by omega) ?_) | (refine VIdx.mk 0 rfl (by omega) ?_))
  try (conv => whnf)
  refine VCall.mk _ (prefix_any A13) ?_
  rintro _ x5 ⟨rfl, e5⟩
  subst x5
  refine ⟨_, rfl, ?_⟩
  rw [show of4.pre = 1 by kernel_rfl]
  repeat ((conv => whnf); first | (refine VCmp.tt (by omega) ?_) | (refine VCmp.ff (by omega) ?_) | (refine VIn.mk (IntWalk.i64_in _ (by omega)) ?_) | (refine VIdx.mk _ rfl (by omega) ?_) | (refine VIdx.mk 0 rfl (by omega) ?_))
  try (conv => whnf)
  refine VCall.mk _ (held_any A13) ?_
  rintro _ x5 ⟨rfl, e5⟩
  subst x5
  refine ⟨_, rfl, ?_⟩
  rw [show of4.held.length = 0 by kernel_rfl]
  repeat ((conv => whnf); first | (refine VCmp.tt (by omega) ?_) | (refine VCmp.ff (by omega) ?_) | (refine VIn.mk (IntWalk.i64_in _ (by omega)) ?_) | (refine VIdx.mk _ rfl (by omega) ?_) | (refine VIdx.mk 0 rfl (by omega) ?_))
  try (conv => whnf)
  refine VCall.mk _ (free_any A13 (by decide) (by decide) (by decide) (by decide)) ?_
  rintro _ w14 ⟨rfl, b14⟩
  refine ⟨_, rfl, ?_⟩
  rw [show of4.free = 1 by kernel_rfl]
  repeat ((conv => whnf); first | (refine VCmp.tt (by omega) ?_) | (refine VCmp.ff (by omega) ?_) | (refine VIn.mk (IntWalk.i64_in _ (by omega)) ?_) | (refine VIdx.mk _ rfl (by omega) ?_) | (refine VIdx.mk 0 rfl (by omega) ?_))
  try (conv => whnf)
  have qA : Ro (inR 1) K3 K11 w3 w14 := ((((((((Ro.below b4).trans q5).trans (Ro.below b6)).trans q68).trans (Ro.below b9)).trans q10).trans q11).trans (Ro.below b12)).trans ((Ro.below b13).trans (Ro.below b14))
  exact .mk ⟨rfl, ⟨qA.os.trans bw3.os, qA.tape.trans bw3.tape, qA.output.trans bw3.output, Nat.le_trans bw3.size qA.size, fun k hk => (qA.same k (Nat.lt_of_lt_of_le hk bw3.size) (by rw [q3.kk k (Nat.lt_of_lt_of_le hk bw2.size)]; unfold inR; omega)).trans (bw3.block k hk)⟩⟩
end Go.Proofs.Ytoilipfgimcoiaa
namespace Go.Proofs.Ytoilipfgimcoiaa
open Go Go.RowKit
theorem LstAt.grow {α β : Type} {w w' : World} {K K' : Nat → Nat} {q base n sz : Nat} {enc : α → List Value} {val : α → β} {bd : α → Option Addr × List Int} {R : Rw (Rw α)} {f : Nat → List β} (h : LstAt w K q base n sz enc val bd R f) {x : Rw α} {A' : Option Addr} {c' : Nat} (own : OwnO w' K' q 1 eRw A' c' (R.l ++ [x])) (r : Ro (· = q) K K' w w')
    (hx : OwnO w' K' (base + n) sz enc x.A x.c x.l) (hv : x.l.map val = f n) (hb : ∀ y ∈ x.l, RowK w' K' 1 eByte (bd y).1 (bd y).2) (q0 : q ≠ 0) (hq : ∀ i, i < n → q ≠ base + i) : LstAt w' K' q base (n + 1) sz enc val bd ⟨A', c', R.l ++ [x]⟩ f := by
  have hl := h.len
  refine ⟨by rw [List.length_append, hl]; rfl, own, fun i y hy => ?_⟩
  have hy : (R.l ++ [x])[i]? = some y := hy
  by_cases hi : i < n
  · rw [List.getElem?_append_left (by omega)] at hy
    obtain ⟨a1, a2, a3⟩ := h.el i y hy
    exact ⟨a1.ro r (hq i hi).symm, a2, fun z hz => (a3 z hz).ro r fun e => q0 e.symm⟩
  · rw [List.getElem?_append_right (by omega)] at hy
    have hp0 := (List.getElem?_eq_some_iff.1 hy).1
    simp at hp0
    obtain rfl : i = n := by omega
    rw [hl, Nat.sub_self] at hy
    injection hy with hy
    subst hy
    exact ⟨hx, hv, hb⟩
def cellsG (win : Nat) (X : CwX) : List Value := [.slice X.O.A X.O.l.length X.O.c, .int .i64 win, .slice X.sent.A X.sent.l.length X.sent.c, .slice X.made.A X.made.l.length X.made.c, .slice X.had.A X.had.l.length X.had.c, .slice X.log.A X.log.l.length X.log.c, .slice X.told.A X.told.l.length X.told.c, .slice X.stop.A X.stop.l.length X.stop.c, .slice none 0 0]
structure GAt (w : World) (K : Nat → Nat) (b n win : Nat) (X : CwX) : Prop where
  kb : K b = 1
  hb : b < w.heap.size
  kz : ∀ y, w.heap.size ≤ y → K y = 0
  rg : w.rangeAt b 0 (cellsG win X)
  th : w.there b 0 9
  ol : X.O.l.length ≤ 4
  O : OwnO w K 2 1 ePt X.O.A X.O.c X.O.l
  os : ∀ i x, X.O.l[i]? = some x → ∃ Y, OrdAt w K (100 + 4 * i) x (Os.new vdC (pidsN n) (pidN i) win) Y
  l_sent : X.sent.l.length ≤ 4
  sent : SentAt w K X.sent.l.length X.sent (fun _ => [])
  l_made : X.made.l.length ≤ 4
  made : MadeAt w K X.made.l.length X.made (fun _ => [])
  l_had : X.had.l.length ≤ 4
  had : HadAt w K X.had.l.length X.had (fun _ => List.replicate n 0)
  l_log : X.log.l.length ≤ 4
  log : LogAt w K X.log.l.length X.log (fun _ => [])
  l_told : X.told.l.length ≤ 4
  told : ToldAt w K X.told.l.length X.told (fun _ => [])
  stop : OwnO w K 8 1 eBo X.stop.A X.stop.c X.stop.l
  sv : X.stop.l = List.replicate X.stop.l.length false
section
variable {w w' w2 : World} {K K' : Nat → Nat} {b n win : Nat} {X : CwX} {Q : Nat → Prop}
theorem GAt.ro (C : GAt w K b n win X) (r : Ro Q K K' w w') (kz : ∀ y, w'.heap.size ≤ y → K' y = 0) (hq : ∀ x, Q x → 200 < x) : GAt w' K' b n win X := by
  have nq : ∀ x, x ≤ 200 → x ≤ 200 → ¬ Q x := fun x hx _ h => by have := hq x h; omega
  have hkb := C.kb
  exact ⟨(r.kk b C.hb).trans C.kb, Nat.lt_of_lt_of_le C.hb r.size, kz, range_ro C.rg C.hb r (nq _ (by omega) (by omega)), there_ro C.th C.hb r (nq _ (by omega) (by omega)), C.ol, C.O.ro r (nq _ (by omega) (by omega)), fun k z hz => by
    have hk : k < X.O.l.length := (List.getElem?_eq_some_iff.1 hz).1
    have hol := C.ol
    obtain ⟨Y, hY⟩ := C.os k z hz
    exact ⟨Y, hY.ro r kz (nq _ (by omega) (by omega)) fun y hy => nq _ (by unfold inR at hy; omega) (by unfold inR at hy; omega)⟩, C.l_sent, C.sent.ro r (nq _ (by omega) (by omega)) (nq _ (by omega) (by omega)) (fun j hj => by have := C.l_sent; exact nq _ (by omega) (by omega)), C.l_made, C.made.ro r (nq _ (by omega) (by omega)) (nq _ (by omega) (by omega)) (fun j hj => by have := C.l_made; exact nq _ (by omega) (by omega)), C.l_had, C.had.ro r (nq _ (by omega) (by omega)) (nq _ (by omega) (by omega)) (fun j hj => by have := C.l_had; exact nq _ (by omega) (by omega)), C.l_log, C.log.ro r (nq _ (by omega) (by omega)) (nq _ (by omega) (by omega)) (fun j hj => by have := C.l_log; exact nq _ (by omega) (by omega)), C.l_told, C.told.ro r (nq _ (by omega) (by omega)) (nq _ (by omega) (by omega)) (fun j hj => by have := C.l_told; exact nq _ (by omega) (by omega)), C.stop.ro r (nq _ (by omega) (by omega)), C.sv⟩
theorem GAt.below (C : GAt w K b n win X) (h : Below w.heap.size w w') : GAt w' K b n win X := C.ro (Q := fun _ => False) (.below h) (fun y hy => C.kz y (Nat.le_trans h.size hy)) fun _ h => h.elim
theorem GAt.push_O (C : GAt w K b n win X) (x : Nat) (hlen : X.O.l.length + 1 ≤ 4) {A' : Option Addr} {c' : Nat} (own : OwnO w' K' 2 1 ePt A' c' (X.O.l ++ [x])) (hx : ∃ Y, OrdAt w' K' (100 + 4 * X.O.l.length) x (Os.new vdC (pidsN n) (pidN X.O.l.length) win) Y) (r0 : Ro (· = 2) K K' w w') (kz0 : ∀ z, w'.heap.size ≤ z → K' z = 0) (hw : w2 = w'.setCell ⟨b, 0, none⟩ (.slice A' (X.O.l.length + 1) c')) :
    GAt w2 K' b n win { X with O := ⟨A', c', X.O.l ++ [x]⟩ } ∧ Ro (fun z => z = 2 ∨ z = 1) K K' w w2 := by
  have hkb := C.kb
  have hb' := Nat.lt_of_lt_of_le C.hb r0.size
  have kb' := (r0.kk b C.hb).trans C.kb
  obtain ⟨g1, g2⟩ := rng_cell (range_ro C.rg C.hb r0 (by omega)) (there_ro C.th C.hb r0 (by omega)) rfl (j := 0) (by omega) hw rfl
  have r1 : Ro (· = 1) K' K' w' w2 := by rw [hw]; exact Ro.cell kb' _ _
  have r := (r0.more (R' := fun z => z = 2 ∨ z = 1) fun z e => .inl e).trans (r1.more fun z e => .inr e)
  have kz : ∀ z, w2.heap.size ≤ z → K' z = 0 := fun z hz => kz0 z (by rw [hw, World.size_setCell] at hz; exact hz)
  have nq : ∀ z, z ≠ 2 → z ≠ 1 → ¬ (z = 2 ∨ z = 1) := fun z a b h => h.elim a b
  have hol := C.ol
  refine ⟨⟨(r.kk b C.hb).trans C.kb, Nat.lt_of_lt_of_le C.hb r.size, kz, ?_, g2, by show (X.O.l ++ [x]).length ≤ 4; rw [List.length_append]; exact hlen, own.ro r1 (by omega), fun k z hz => by
    have hz : (X.O.l ++ [x])[k]? = some z := hz
    by_cases hk : k < X.O.l.length
    · rw [List.getElem?_append_left hk] at hz
      obtain ⟨Y, hY⟩ := C.os k z hz
      exact ⟨Y, hY.ro r kz (nq _ (by omega) (by omega)) fun y hy => nq _ (by unfold inR at hy; omega) (by unfold inR at hy; omega)⟩
    · rw [List.getElem?_append_right (by omega)] at hz
      have hp0 := (List.getElem?_eq_some_iff.1 hz).1
      simp at hp0
      obtain rfl : k = X.O.l.length := by omega
      rw [Nat.sub_self] at hz
      injection hz with hz
      subst hz
      obtain ⟨Y, hY⟩ := hx
      exact ⟨Y, hY.ro r1 kz (by omega) fun y hy => by unfold inR at hy; omega⟩, C.l_sent, C.sent.ro r (nq _ (by omega) (by omega)) (nq _ (by omega) (by omega)) (fun j hj => by have := C.l_sent; exact nq _ (by omega) (by omega)), C.l_made, C.made.ro r (nq _ (by omega) (by omega)) (nq _ (by omega) (by omega)) (fun j hj => by have := C.l_made; exact nq _ (by omega) (by omega)), C.l_had, C.had.ro r (nq _ (by omega) (by omega)) (nq _ (by omega) (by omega)) (fun j hj => by have := C.l_had; exact nq _ (by omega) (by omega)), C.l_log, C.log.ro r (nq _ (by omega) (by omega)) (nq _ (by omega) (by omega)) (fun j hj => by have := C.l_log; exact nq _ (by omega) (by omega)), C.l_told, C.told.ro r (nq _ (by omega) (by omega)) (nq _ (by omega) (by omega)) (fun j hj => by have := C.l_told; exact nq _ (by omega) (by omega)), C.stop.ro r (nq _ (by omega) (by omega)), C.sv⟩, r⟩
  show w2.rangeAt b 0 [.slice A' (X.O.l ++ [x]).length c', .int .i64 win, .slice X.sent.A X.sent.l.length X.sent.c, .slice X.made.A X.made.l.length X.made.c, .slice X.had.A X.had.l.length X.had.c, .slice X.log.A X.log.l.length X.log.c, .slice X.told.A X.told.l.length X.told.c, .slice X.stop.A X.stop.l.length X.stop.c, .slice none 0 0]
  rw [List.length_append]; exact g1
theorem GAt.ld_O {l : List Nat} (C : GAt w K b n win X) (hl : b ∈ l) : Ld Try.prog 31 b 0 (Sm l w) (.slice X.O.A X.O.l.length X.O.c) := ⟨fun W hW => load31s (cell_sm (C.rg 0 _ rfl) hl hW)⟩
theorem GAt.push_sent (C : GAt w K b n win X) (hlen : X.sent.l.length + 1 ≤ 4) {A' : Option Addr} {c' : Nat} (own : OwnO w' K' 3 1 eRw A' c' (X.sent.l ++ [(⟨none, 0, []⟩ : Rw Bx)])) (r0 : Ro (· = 3) K K' w w') (kz0 : ∀ z, w'.heap.size ≤ z → K' z = 0) (hw : w2 = w'.setCell ⟨b, 2, none⟩ (.slice A' (X.sent.l.length + 1) c')) :
    GAt w2 K' b n win { X with sent := ⟨A', c', X.sent.l ++ [(⟨none, 0, []⟩ : Rw Bx)]⟩ } ∧ Ro (fun z => z = 3 ∨ z = 1) K K' w w2 := by
  have hkb := C.kb
  have hb' := Nat.lt_of_lt_of_le C.hb r0.size
  have kb' := (r0.kk b C.hb).trans C.kb
  obtain ⟨g1, g2⟩ := rng_cell (range_ro C.rg C.hb r0 (by omega)) (there_ro C.th C.hb r0 (by omega)) rfl (j := 2) (by omega) hw rfl
  have r1 : Ro (· = 1) K' K' w' w2 := by rw [hw]; exact Ro.cell kb' _ _
  have r := (r0.more (R' := fun z => z = 3 ∨ z = 1) fun z e => .inl e).trans (r1.more fun z e => .inr e)
  have kz : ∀ z, w2.heap.size ≤ z → K' z = 0 := fun z hz => kz0 z (by rw [hw, World.size_setCell] at hz; exact hz)
  have nq : ∀ z, z ≠ 3 → z ≠ 1 → ¬ (z = 3 ∨ z = 1) := fun z a b h => h.elim a b
  have hol := C.ol
  refine ⟨⟨(r.kk b C.hb).trans C.kb, Nat.lt_of_lt_of_le C.hb r.size, kz, ?_, g2, C.ol, C.O.ro r (nq _ (by omega) (by omega)), fun k z hz => by
    have hk : k < X.O.l.length := (List.getElem?_eq_some_iff.1 hz).1
    have hol := C.ol
    obtain ⟨Y, hY⟩ := C.os k z hz
    exact ⟨Y, hY.ro r kz (nq _ (by omega) (by omega)) fun y hy => nq _ (by unfold inR at hy; omega) (by unfold inR at hy; omega)⟩, by show (X.sent.l ++ [(⟨none, 0, []⟩ : Rw Bx)]).length ≤ 4; rw [List.length_append]; exact hlen, by
    have h1 := (C.sent.grow own r0 (OwnO.nil _ _ _ _ _) rfl (fun y hy => (List.not_mem_nil hy).elim) (by decide) (fun i hi => by omega)).ro r1 (by omega) (by omega) (fun j hj => by omega)
    show SentAt w2 K' (X.sent.l ++ [(⟨none, 0, []⟩ : Rw Bx)]).length _ _
    rw [List.length_append]; exact h1, C.l_made, C.made.ro r (nq _ (by omega) (by omega)) (nq _ (by omega) (by omega)) (fun j hj => by have := C.l_made; exact nq _ (by omega) (by omega)), C.l_had, C.had.ro r (nq _ (by omega) (by omega)) (nq _ (by omega) (by omega)) (fun j hj => by have := C.l_had; exact nq _ (by omega) (by omega)), C.l_log, C.log.ro r (nq _ (by omega) (by omega)) (nq _ (by omega) (by omega)) (fun j hj => by have := C.l_log; exact nq _ (by omega) (by omega)), C.l_told, C.told.ro r (nq _ (by omega) (by omega)) (nq _ (by omega) (by omega)) (fun j hj => by have := C.l_told; exact nq _ (by omega) (by omega)), C.stop.ro r (nq _ (by omega) (by omega)), C.sv⟩, r⟩
  show w2.rangeAt b 0 [.slice X.O.A X.O.l.length X.O.c, .int .i64 win, .slice A' (X.sent.l ++ [(⟨none, 0, []⟩ : Rw Bx)]).length c', .slice X.made.A X.made.l.length X.made.c, .slice X.had.A X.had.l.length X.had.c, .slice X.log.A X.log.l.length X.log.c, .slice X.told.A X.told.l.length X.told.c, .slice X.stop.A X.stop.l.length X.stop.c, .slice none 0 0]
  rw [List.length_append]; exact g1
theorem GAt.ld_sent {l : List Nat} (C : GAt w K b n win X) (hl : b ∈ l) : Ld Try.prog 32 b 2 (Sm l w) (.slice X.sent.A X.sent.l.length X.sent.c) := ⟨fun W hW => load32s (cell_sm (C.rg 2 _ rfl) hl hW)⟩
theorem GAt.push_made (C : GAt w K b n win X) (hlen : X.made.l.length + 1 ≤ 4) {A' : Option Addr} {c' : Nat} (own : OwnO w' K' 4 1 eRw A' c' (X.made.l ++ [(⟨none, 0, []⟩ : Rw Ix)])) (r0 : Ro (· = 4) K K' w w') (kz0 : ∀ z, w'.heap.size ≤ z → K' z = 0) (hw : w2 = w'.setCell ⟨b, 3, none⟩ (.slice A' (X.made.l.length + 1) c')) :
    GAt w2 K' b n win { X with made := ⟨A', c', X.made.l ++ [(⟨none, 0, []⟩ : Rw Ix)]⟩ } ∧ Ro (fun z => z = 4 ∨ z = 1) K K' w w2 := by
  have hkb := C.kb
  have hb' := Nat.lt_of_lt_of_le C.hb r0.size
  have kb' := (r0.kk b C.hb).trans C.kb
  obtain ⟨g1, g2⟩ := rng_cell (range_ro C.rg C.hb r0 (by omega)) (there_ro C.th C.hb r0 (by omega)) rfl (j := 3) (by omega) hw rfl
  have r1 : Ro (· = 1) K' K' w' w2 := by rw [hw]; exact Ro.cell kb' _ _
  have r := (r0.more (R' := fun z => z = 4 ∨ z = 1) fun z e => .inl e).trans (r1.more fun z e => .inr e)
  have kz : ∀ z, w2.heap.size ≤ z → K' z = 0 := fun z hz => kz0 z (by rw [hw, World.size_setCell] at hz; exact hz)
  have nq : ∀ z, z ≠ 4 → z ≠ 1 → ¬ (z = 4 ∨ z = 1) := fun z a b h => h.elim a b
  have hol := C.ol
  refine ⟨⟨(r.kk b C.hb).trans C.kb, Nat.lt_of_lt_of_le C.hb r.size, kz, ?_, g2, C.ol, C.O.ro r (nq _ (by omega) (by omega)), fun k z hz => by
    have hk : k < X.O.l.length := (List.getElem?_eq_some_iff.1 hz).1
    have hol := C.ol
    obtain ⟨Y, hY⟩ := C.os k z hz
    exact ⟨Y, hY.ro r kz (nq _ (by omega) (by omega)) fun y hy => nq _ (by unfold inR at hy; omega) (by unfold inR at hy; omega)⟩, C.l_sent, C.sent.ro r (nq _ (by omega) (by omega)) (nq _ (by omega) (by omega)) (fun j hj => by have := C.l_sent; exact nq _ (by omega) (by omega)), by show (X.made.l ++ [(⟨none, 0, []⟩ : Rw Ix)]).length ≤ 4; rw [List.length_append]; exact hlen, by
    have h1 := (C.made.grow own r0 (OwnO.nil _ _ _ _ _) rfl (fun y hy => (List.not_mem_nil hy).elim) (by decide) (fun i hi => by omega)).ro r1 (by omega) (by omega) (fun j hj => by omega)
    show MadeAt w2 K' (X.made.l ++ [(⟨none, 0, []⟩ : Rw Ix)]).length _ _
    rw [List.length_append]; exact h1, C.l_had, C.had.ro r (nq _ (by omega) (by omega)) (nq _ (by omega) (by omega)) (fun j hj => by have := C.l_had; exact nq _ (by omega) (by omega)), C.l_log, C.log.ro r (nq _ (by omega) (by omega)) (nq _ (by omega) (by omega)) (fun j hj => by have := C.l_log; exact nq _ (by omega) (by omega)), C.l_told, C.told.ro r (nq _ (by omega) (by omega)) (nq _ (by omega) (by omega)) (fun j hj => by have := C.l_told; exact nq _ (by omega) (by omega)), C.stop.ro r (nq _ (by omega) (by omega)), C.sv⟩, r⟩
  show w2.rangeAt b 0 [.slice X.O.A X.O.l.length X.O.c, .int .i64 win, .slice X.sent.A X.sent.l.length X.sent.c, .slice A' (X.made.l ++ [(⟨none, 0, []⟩ : Rw Ix)]).length c', .slice X.had.A X.had.l.length X.had.c, .slice X.log.A X.log.l.length X.log.c, .slice X.told.A X.told.l.length X.told.c, .slice X.stop.A X.stop.l.length X.stop.c, .slice none 0 0]
  rw [List.length_append]; exact g1
theorem GAt.ld_made {l : List Nat} (C : GAt w K b n win X) (hl : b ∈ l) : Ld Try.prog 33 b 3 (Sm l w) (.slice X.made.A X.made.l.length X.made.c) := ⟨fun W hW => load33s (cell_sm (C.rg 3 _ rfl) hl hW)⟩
theorem GAt.push_had (C : GAt w K b n win X) (x : Rw Nat) (hlen : X.had.l.length + 1 ≤ 4) {A' : Option Addr} {c' : Nat} (own : OwnO w' K' 5 1 eRw A' c' (X.had.l ++ [x])) (hx : OwnO w' K' (40 + X.had.l.length) 1 eNat x.A x.c x.l) (hv : x.l = List.replicate n 0) (r0 : Ro (· = 5) K K' w w') (kz0 : ∀ z, w'.heap.size ≤ z → K' z = 0) (hw : w2 = w'.setCell ⟨b, 4, none⟩ (.slice A' (X.had.l.length + 1) c')) :
    GAt w2 K' b n win { X with had := ⟨A', c', X.had.l ++ [x]⟩ } ∧ Ro (fun z => z = 5 ∨ z = 1) K K' w w2 := by
  have hkb := C.kb
  have hb' := Nat.lt_of_lt_of_le C.hb r0.size
  have kb' := (r0.kk b C.hb).trans C.kb
  obtain ⟨g1, g2⟩ := rng_cell (range_ro C.rg C.hb r0 (by omega)) (there_ro C.th C.hb r0 (by omega)) rfl (j := 4) (by omega) hw rfl
  have r1 : Ro (· = 1) K' K' w' w2 := by rw [hw]; exact Ro.cell kb' _ _
  have r := (r0.more (R' := fun z => z = 5 ∨ z = 1) fun z e => .inl e).trans (r1.more fun z e => .inr e)
  have kz : ∀ z, w2.heap.size ≤ z → K' z = 0 := fun z hz => kz0 z (by rw [hw, World.size_setCell] at hz; exact hz)
  have nq : ∀ z, z ≠ 5 → z ≠ 1 → ¬ (z = 5 ∨ z = 1) := fun z a b h => h.elim a b
  have hol := C.ol
  refine ⟨⟨(r.kk b C.hb).trans C.kb, Nat.lt_of_lt_of_le C.hb r.size, kz, ?_, g2, C.ol, C.O.ro r (nq _ (by omega) (by omega)), fun k z hz => by
    have hk : k < X.O.l.length := (List.getElem?_eq_some_iff.1 hz).1
    have hol := C.ol
    obtain ⟨Y, hY⟩ := C.os k z hz
    exact ⟨Y, hY.ro r kz (nq _ (by omega) (by omega)) fun y hy => nq _ (by unfold inR at hy; omega) (by unfold inR at hy; omega)⟩, C.l_sent, C.sent.ro r (nq _ (by omega) (by omega)) (nq _ (by omega) (by omega)) (fun j hj => by have := C.l_sent; exact nq _ (by omega) (by omega)), C.l_made, C.made.ro r (nq _ (by omega) (by omega)) (nq _ (by omega) (by omega)) (fun j hj => by have := C.l_made; exact nq _ (by omega) (by omega)), by show (X.had.l ++ [x]).length ≤ 4; rw [List.length_append]; exact hlen, by
    have h1 := (C.had.grow own r0 hx (by rw [List.map_id]; exact hv) (fun _ _ h => absurd h (by simp)) (by decide) (fun i hi => by omega)).ro r1 (by omega) (by omega) (fun j hj => by omega)
    show HadAt w2 K' (X.had.l ++ [x]).length _ _
    rw [List.length_append]; exact h1, C.l_log, C.log.ro r (nq _ (by omega) (by omega)) (nq _ (by omega) (by omega)) (fun j hj => by have := C.l_log; exact nq _ (by omega) (by omega)), C.l_told, C.told.ro r (nq _ (by omega) (by omega)) (nq _ (by omega) (by omega)) (fun j hj => by have := C.l_told; exact nq _ (by omega) (by omega)), C.stop.ro r (nq _ (by omega) (by omega)), C.sv⟩, r⟩
  show w2.rangeAt b 0 [.slice X.O.A X.O.l.length X.O.c, .int .i64 win, .slice X.sent.A X.sent.l.length X.sent.c, .slice X.made.A X.made.l.length X.made.c, .slice A' (X.had.l ++ [x]).length c', .slice X.log.A X.log.l.length X.log.c, .slice X.told.A X.told.l.length X.told.c, .slice X.stop.A X.stop.l.length X.stop.c, .slice none 0 0]
  rw [List.length_append]; exact g1
theorem GAt.ld_had {l : List Nat} (C : GAt w K b n win X) (hl : b ∈ l) : Ld Try.prog 34 b 4 (Sm l w) (.slice X.had.A X.had.l.length X.had.c) := ⟨fun W hW => load34s (cell_sm (C.rg 4 _ rfl) hl hW)⟩
theorem GAt.push_log (C : GAt w K b n win X) (hlen : X.log.l.length + 1 ≤ 4) {A' : Option Addr} {c' : Nat} (own : OwnO w' K' 6 1 eRw A' c' (X.log.l ++ [(⟨none, 0, []⟩ : Rw MgX)])) (r0 : Ro (· = 6) K K' w w') (kz0 : ∀ z, w'.heap.size ≤ z → K' z = 0) (hw : w2 = w'.setCell ⟨b, 5, none⟩ (.slice A' (X.log.l.length + 1) c')) :
    GAt w2 K' b n win { X with log := ⟨A', c', X.log.l ++ [(⟨none, 0, []⟩ : Rw MgX)]⟩ } ∧ Ro (fun z => z = 6 ∨ z = 1) K K' w w2 := by
  have hkb := C.kb
  have hb' := Nat.lt_of_lt_of_le C.hb r0.size
  have kb' := (r0.kk b C.hb).trans C.kb
  obtain ⟨g1, g2⟩ := rng_cell (range_ro C.rg C.hb r0 (by omega)) (there_ro C.th C.hb r0 (by omega)) rfl (j := 5) (by omega) hw rfl
  have r1 : Ro (· = 1) K' K' w' w2 := by rw [hw]; exact Ro.cell kb' _ _
  have r := (r0.more (R' := fun z => z = 6 ∨ z = 1) fun z e => .inl e).trans (r1.more fun z e => .inr e)
  have kz : ∀ z, w2.heap.size ≤ z → K' z = 0 := fun z hz => kz0 z (by rw [hw, World.size_setCell] at hz; exact hz)
  have nq : ∀ z, z ≠ 6 → z ≠ 1 → ¬ (z = 6 ∨ z = 1) := fun z a b h => h.elim a b
  have hol := C.ol
  refine ⟨⟨(r.kk b C.hb).trans C.kb, Nat.lt_of_lt_of_le C.hb r.size, kz, ?_, g2, C.ol, C.O.ro r (nq _ (by omega) (by omega)), fun k z hz => by
    have hk : k < X.O.l.length := (List.getElem?_eq_some_iff.1 hz).1
    have hol := C.ol
    obtain ⟨Y, hY⟩ := C.os k z hz
    exact ⟨Y, hY.ro r kz (nq _ (by omega) (by omega)) fun y hy => nq _ (by unfold inR at hy; omega) (by unfold inR at hy; omega)⟩, C.l_sent, C.sent.ro r (nq _ (by omega) (by omega)) (nq _ (by omega) (by omega)) (fun j hj => by have := C.l_sent; exact nq _ (by omega) (by omega)), C.l_made, C.made.ro r (nq _ (by omega) (by omega)) (nq _ (by omega) (by omega)) (fun j hj => by have := C.l_made; exact nq _ (by omega) (by omega)), C.l_had, C.had.ro r (nq _ (by omega) (by omega)) (nq _ (by omega) (by omega)) (fun j hj => by have := C.l_had; exact nq _ (by omega) (by omega)), by show (X.log.l ++ [(⟨none, 0, []⟩ : Rw MgX)]).length ≤ 4; rw [List.length_append]; exact hlen, by
    have h1 := (C.log.grow own r0 (OwnO.nil _ _ _ _ _) rfl (fun y hy => (List.not_mem_nil hy).elim) (by decide) (fun i hi => by omega)).ro r1 (by omega) (by omega) (fun j hj => by omega)
    show LogAt w2 K' (X.log.l ++ [(⟨none, 0, []⟩ : Rw MgX)]).length _ _
    rw [List.length_append]; exact h1, C.l_told, C.told.ro r (nq _ (by omega) (by omega)) (nq _ (by omega) (by omega)) (fun j hj => by have := C.l_told; exact nq _ (by omega) (by omega)), C.stop.ro r (nq _ (by omega) (by omega)), C.sv⟩, r⟩
  show w2.rangeAt b 0 [.slice X.O.A X.O.l.length X.O.c, .int .i64 win, .slice X.sent.A X.sent.l.length X.sent.c, .slice X.made.A X.made.l.length X.made.c, .slice X.had.A X.had.l.length X.had.c, .slice A' (X.log.l ++ [(⟨none, 0, []⟩ : Rw MgX)]).length c', .slice X.told.A X.told.l.length X.told.c, .slice X.stop.A X.stop.l.length X.stop.c, .slice none 0 0]
  rw [List.length_append]; exact g1
theorem GAt.ld_log {l : List Nat} (C : GAt w K b n win X) (hl : b ∈ l) : Ld Try.prog 35 b 5 (Sm l w) (.slice X.log.A X.log.l.length X.log.c) := ⟨fun W hW => load35s (cell_sm (C.rg 5 _ rfl) hl hW)⟩
theorem GAt.push_told (C : GAt w K b n win X) (hlen : X.told.l.length + 1 ≤ 4) {A' : Option Addr} {c' : Nat} (own : OwnO w' K' 7 1 eRw A' c' (X.told.l ++ [(⟨none, 0, []⟩ : Rw Stb)])) (r0 : Ro (· = 7) K K' w w') (kz0 : ∀ z, w'.heap.size ≤ z → K' z = 0) (hw : w2 = w'.setCell ⟨b, 6, none⟩ (.slice A' (X.told.l.length + 1) c')) :
    GAt w2 K' b n win { X with told := ⟨A', c', X.told.l ++ [(⟨none, 0, []⟩ : Rw Stb)]⟩ } ∧ Ro (fun z => z = 7 ∨ z = 1) K K' w w2 := by
  have hkb := C.kb
  have hb' := Nat.lt_of_lt_of_le C.hb r0.size
  have kb' := (r0.kk b C.hb).trans C.kb
  obtain ⟨g1, g2⟩ := rng_cell (range_ro C.rg C.hb r0 (by omega)) (there_ro C.th C.hb r0 (by omega)) rfl (j := 6) (by omega) hw rfl
  have r1 : Ro (· = 1) K' K' w' w2 := by rw [hw]; exact Ro.cell kb' _ _
  have r := (r0.more (R' := fun z => z = 7 ∨ z = 1) fun z e => .inl e).trans (r1.more fun z e => .inr e)
  have kz : ∀ z, w2.heap.size ≤ z → K' z = 0 := fun z hz => kz0 z (by rw [hw, World.size_setCell] at hz; exact hz)
  have nq : ∀ z, z ≠ 7 → z ≠ 1 → ¬ (z = 7 ∨ z = 1) := fun z a b h => h.elim a b
  have hol := C.ol
  refine ⟨⟨(r.kk b C.hb).trans C.kb, Nat.lt_of_lt_of_le C.hb r.size, kz, ?_, g2, C.ol, C.O.ro r (nq _ (by omega) (by omega)), fun k z hz => by
    have hk : k < X.O.l.length := (List.getElem?_eq_some_iff.1 hz).1
    have hol := C.ol
    obtain ⟨Y, hY⟩ := C.os k z hz
    exact ⟨Y, hY.ro r kz (nq _ (by omega) (by omega)) fun y hy => nq _ (by unfold inR at hy; omega) (by unfold inR at hy; omega)⟩, C.l_sent, C.sent.ro r (nq _ (by omega) (by omega)) (nq _ (by omega) (by omega)) (fun j hj => by have := C.l_sent; exact nq _ (by omega) (by omega)), C.l_made, C.made.ro r (nq _ (by omega) (by omega)) (nq _ (by omega) (by omega)) (fun j hj => by have := C.l_made; exact nq _ (by omega) (by omega)), C.l_had, C.had.ro r (nq _ (by omega) (by omega)) (nq _ (by omega) (by omega)) (fun j hj => by have := C.l_had; exact nq _ (by omega) (by omega)), C.l_log, C.log.ro r (nq _ (by omega) (by omega)) (nq _ (by omega) (by omega)) (fun j hj => by have := C.l_log; exact nq _ (by omega) (by omega)), by show (X.told.l ++ [(⟨none, 0, []⟩ : Rw Stb)]).length ≤ 4; rw [List.length_append]; exact hlen, by
    have h1 := (C.told.grow own r0 (OwnO.nil _ _ _ _ _) rfl (fun y hy => (List.not_mem_nil hy).elim) (by decide) (fun i hi => by omega)).ro r1 (by omega) (by omega) (fun j hj => by omega)
    show ToldAt w2 K' (X.told.l ++ [(⟨none, 0, []⟩ : Rw Stb)]).length _ _
    rw [List.length_append]; exact h1, C.stop.ro r (nq _ (by omega) (by omega)), C.sv⟩, r⟩
  show w2.rangeAt b 0 [.slice X.O.A X.O.l.length X.O.c, .int .i64 win, .slice X.sent.A X.sent.l.length X.sent.c, .slice X.made.A X.made.l.length X.made.c, .slice X.had.A X.had.l.length X.had.c, .slice X.log.A X.log.l.length X.log.c, .slice A' (X.told.l ++ [(⟨none, 0, []⟩ : Rw Stb)]).length c', .slice X.stop.A X.stop.l.length X.stop.c, .slice none 0 0]
  rw [List.length_append]; exact g1
theorem GAt.ld_told {l : List Nat} (C : GAt w K b n win X) (hl : b ∈ l) : Ld Try.prog 36 b 6 (Sm l w) (.slice X.told.A X.told.l.length X.told.c) := ⟨fun W hW => load36s (cell_sm (C.rg 6 _ rfl) hl hW)⟩
theorem GAt.push_stop (C : GAt w K b n win X) {A' : Option Addr} {c' : Nat} (own : OwnO w' K' 8 1 eBo A' c' (X.stop.l ++ [false])) (r0 : Ro (· = 8) K K' w w') (kz0 : ∀ z, w'.heap.size ≤ z → K' z = 0) (hw : w2 = w'.setCell ⟨b, 7, none⟩ (.slice A' (X.stop.l.length + 1) c')) :
    GAt w2 K' b n win { X with stop := ⟨A', c', X.stop.l ++ [false]⟩ } ∧ Ro (fun z => z = 8 ∨ z = 1) K K' w w2 := by
  have hkb := C.kb
  have hb' := Nat.lt_of_lt_of_le C.hb r0.size
  have kb' := (r0.kk b C.hb).trans C.kb
  obtain ⟨g1, g2⟩ := rng_cell (range_ro C.rg C.hb r0 (by omega)) (there_ro C.th C.hb r0 (by omega)) rfl (j := 7) (by omega) hw rfl
  have r1 : Ro (· = 1) K' K' w' w2 := by rw [hw]; exact Ro.cell kb' _ _
  have r := (r0.more (R' := fun z => z = 8 ∨ z = 1) fun z e => .inl e).trans (r1.more fun z e => .inr e)
  have kz : ∀ z, w2.heap.size ≤ z → K' z = 0 := fun z hz => kz0 z (by rw [hw, World.size_setCell] at hz; exact hz)
  have nq : ∀ z, z ≠ 8 → z ≠ 1 → ¬ (z = 8 ∨ z = 1) := fun z a b h => h.elim a b
  have hol := C.ol
  refine ⟨⟨(r.kk b C.hb).trans C.kb, Nat.lt_of_lt_of_le C.hb r.size, kz, ?_, g2, C.ol, C.O.ro r (nq _ (by omega) (by omega)), fun k z hz => by
    have hk : k < X.O.l.length := (List.getElem?_eq_some_iff.1 hz).1
    have hol := C.ol
    obtain ⟨Y, hY⟩ := C.os k z hz
    exact ⟨Y, hY.ro r kz (nq _ (by omega) (by omega)) fun y hy => nq _ (by unfold inR at hy; omega) (by unfold inR at hy; omega)⟩, C.l_sent, C.sent.ro r (nq _ (by omega) (by omega)) (nq _ (by omega) (by omega)) (fun j hj => by have := C.l_sent; exact nq _ (by omega) (by omega)), C.l_made, C.made.ro r (nq _ (by omega) (by omega)) (nq _ (by omega) (by omega)) (fun j hj => by have := C.l_made; exact nq _ (by omega) (by omega)), C.l_had, C.had.ro r (nq _ (by omega) (by omega)) (nq _ (by omega) (by omega)) (fun j hj => by have := C.l_had; exact nq _ (by omega) (by omega)), C.l_log, C.log.ro r (nq _ (by omega) (by omega)) (nq _ (by omega) (by omega)) (fun j hj => by have := C.l_log; exact nq _ (by omega) (by omega)), C.l_told, C.told.ro r (nq _ (by omega) (by omega)) (nq _ (by omega) (by omega)) (fun j hj => by have := C.l_told; exact nq _ (by omega) (by omega)), own.ro r1 (by omega), by show X.stop.l ++ [false] = List.replicate (X.stop.l ++ [false]).length false; rw [List.length_append, List.length_singleton, List.replicate_succ']; rw [← C.sv]⟩, r⟩
  show w2.rangeAt b 0 [.slice X.O.A X.O.l.length X.O.c, .int .i64 win, .slice X.sent.A X.sent.l.length X.sent.c, .slice X.made.A X.made.l.length X.made.c, .slice X.had.A X.had.l.length X.had.c, .slice X.log.A X.log.l.length X.log.c, .slice X.told.A X.told.l.length X.told.c, .slice A' (X.stop.l ++ [false]).length c', .slice none 0 0]
  rw [List.length_append]; exact g1
theorem GAt.ld_stop {l : List Nat} (C : GAt w K b n win X) (hl : b ∈ l) : Ld Try.prog 37 b 7 (Sm l w) (.slice X.stop.A X.stop.l.length X.stop.c) := ⟨fun W hW => load37s (cell_sm (C.rg 7 _ rfl) hl hW)⟩
theorem GAt.all (C : GAt w K b n win X) (hn : n ≤ 4) (hO : X.O.l.length = n) (h1 : X.sent.l.length = n) (h2 : X.made.l.length = n) (h3 : X.had.l.length = n) (h4 : X.log.l.length = n) (h5 : X.told.l.length = n) (h6 : X.stop.l.length = n) : CrwAt w K b (Crw.new n win) { X with long := ⟨none, 0, []⟩ } := by
  have hr := C.rg
  unfold cellsG at hr
  rw [hO, h1, h2, h3, h4, h5, h6] at hr
  have c1 := C.sent
  have c2 := C.made
  have c3 := C.had
  have c4 := C.log
  have c5 := C.told
  rw [h1] at c1
  rw [h2] at c2
  rw [h3] at c3
  rw [h4] at c4
  rw [h5] at c5
  have e3 : hadL (Crw.new n win) = fun _ => List.replicate n 0 := by
    funext i
    show (List.range n).map (fun _ => 0) = _
    rw [List.map_const', List.length_range]
  refine ⟨hn, C.kb, C.hb, C.kz, hr, C.th, C.O, hO, C.os, c1, c2, by rw [e3]; exact c3, c4, c5, C.stop, ?_, OwnO.nil _ _ _ _ _, rfl, fun x hx => (List.not_mem_nil hx).elim⟩
  rw [C.sv, h6]
  show _ = (List.range n).map (fun _ => false)
  rw [List.map_const', List.length_range]
theorem GAt.l_win {l : List Nat} (C : GAt w K b n win X) (hl : b ∈ l) : Ld Try.prog 3 b 1 (Sm l w) (.int .i64 win) := ⟨fun W hW => load3 (cell_sm (C.rg 1 _ rfl) hl hW)⟩
end
end Go.Proofs.Ytoilipfgimcoiaa
