/- CrAc CrOne OrClose CrE, joined. -/
import Derived.Test.YtoilipfgimcoiaaRows
import Derived.Deep.Slices
import Derived.Deep.Fields
import Derived.WalkKit
import Derived.ProofKit
import Derived.OpenShut
import Derived.JoinedCond
import Derived.Below
import Derived.Carry
import Derived.ChangeSame
import Derived.Test.YtoilipfgimcoiaaOc19
set_option linter.unusedVariables false
set_option linter.unusedSimpArgs false
namespace Go.Proofs.Ytoilipfgimcoiaa
open Go Go.RowKit
structure Acn where
  kd : Int
  who : Int
  to : Int
  n : Int
  b : List Int
abbrev acA (a : Acn) (B : Option Addr) (c n : Nat) : Array Value := #[.int .i64 a.kd, .int .i64 a.who, .int .i64 a.to, .int .i64 a.n, .slice B n c]
def Acn.wf (a : Acn) : Prop := (-9223372036854775808 ≤ a.who ∧ a.who ≤ 9223372036854775807) ∧ (-9223372036854775808 ≤ a.to ∧ a.to ≤ 9223372036854775807) ∧ (-9223372036854775808 ≤ a.n ∧ a.n ≤ 9223372036854775807)
structure Stp (v v' : Crw) (kd : Int) : Prop where
  n : v'.n = v.n
  win : v'.win = v.win
  fz : ∀ k, k < v.n → v.stop k = true → v'.o k = v.o k ∧ v'.stop k = true
  st : kd ≠ 7 → v'.stop = v.stop
  tl : ∀ k, (v'.told k).length ≤ (v.told k).length + 1
theorem Stp.refl (v : Crw) (kd : Int) : Stp v v kd := ⟨rfl, rfl, fun _ _ h => ⟨rfl, h⟩, fun _ => rfl, fun _ => Nat.le_succ _⟩
section
variable {v : Crw} {G : List Sl} {T : Nat}
theorem stp_send (h : CI v G T) {i : Nat} (hi : i < v.n) (b : List Int) (kd : Int) : Stp v (v.send i b) kd := by
  unfold Crw.send
  by_cases e : (v.o i).free = 0
  · rw [if_pos e]; exact .refl v kd
  · rw [if_neg e]
    have hf := h.free hi
    refine ⟨rfl, rfl, fun k hk hs => ⟨upN_ne _ _ fun e2 => ?_, hs⟩, fun _ => rfl, fun _ => Nat.le_succ _⟩
    subst e2
    rw [hs] at hf
    exact e hf
theorem stp_carry (i j : Nat) (kd : Int) : Stp v (v.carry i j) kd := by
  unfold Crw.carry
  by_cases e : i = j
  · rw [if_pos e]; exact .refl v kd
  rw [if_neg e]
  cases hit : (v.made i)[v.had i j]? with
  | none => exact .refl v kd
  | some it =>
    show Stp v (if v.stop j = true then v else _) kd
    by_cases hs : v.stop j = true
    · rw [if_pos hs]; exact .refl v kd
    · rw [if_neg hs]
      exact ⟨rfl, rfl, fun k hk hk2 => ⟨upN_ne _ _ fun e2 => hs (by rw [← e2]; exact hk2), hk2⟩, fun _ => rfl, fun _ => Nat.le_succ _⟩
theorem stp_assign (h : CI v G T) {i : Nat} (hi : i < v.n) (n : Int) (kd : Int) : Stp v (v.assign i n) kd := by
  by_cases hs : v.stop i = true
  · rw [Crw.assign_nil (h.assign_nil hi (.inr (.inl hs)))]; exact .refl v kd
  · exact ⟨rfl, rfl, fun k hk hk2 => ⟨upN_ne _ _ fun e2 => hs (by rw [← e2]; exact hk2), hk2⟩, fun _ => rfl, fun _ => Nat.le_succ _⟩
theorem stp_dlv (h : CI v G T) {i : Nat} (hi : i < v.n) {N : Int} {ms : List Mg} {o' : Os} (hd : DvAns (v.o i) N ms o') (kd : Int) : Stp v (v.dlv i ms o') kd := by
  refine ⟨rfl, rfl, fun k hk hk2 => ⟨?_, hk2⟩, fun _ => rfl, fun _ => Nat.le_succ _⟩
  show upN v.o i o' k = _
  by_cases e : k = i
  · subst e
    rw [upN_same]
    rcases hd with ⟨-, -, e⟩ | ⟨hf, -⟩
    · exact e
    · rw [h.frz k hi, hk2] at hf; cases hf
  · exact upN_ne _ _ e
theorem stp_hear (i j m : Nat) (kd : Int) : Stp v (v.hear i j m) kd := by
  unfold Crw.hear
  by_cases e : i = j
  · rw [if_pos e]; exact .refl v kd
  rw [if_neg e]
  cases hit : (v.told i)[m]? with
  | none => exact .refl v kd
  | some t =>
    show Stp v (if v.stop j = true then v else _) kd
    by_cases hs : v.stop j = true
    · rw [if_pos hs]; exact .refl v kd
    · rw [if_neg hs]
      exact ⟨rfl, rfl, fun k hk hk2 => ⟨upN_ne _ _ fun e2 => hs (by rw [← e2]; exact hk2), hk2⟩, fun _ => rfl, fun _ => Nat.le_succ _⟩
def Crw.tell (v : Crw) (i : Nat) : Crw := { v with told := upN v.told i (v.told i ++ [⟨(v.o i).id, (v.o i).done, (v.o i).pre⟩]) }
def Crw.freeze (v : Crw) (i : Nat) : Crw := { v with o := upN v.o i { v.o i with frz := true }, stop := upN v.stop i true }
theorem stp_tell (i : Nat) (kd : Int) : Stp v (v.tell i) kd := ⟨rfl, rfl, fun _ _ h => ⟨rfl, h⟩, fun _ => rfl, fun k => by
  show (upN v.told i _ k).length ≤ _
  exact upN_case (p := fun k (l : List Stb) => l.length ≤ (v.told k).length + 1) k (fun _ => Nat.le_succ _) fun _ => by rw [List.length_append]; simp⟩
theorem stp_freeze (h : CI v G T) {i : Nat} (hi : i < v.n) : Stp v (v.freeze i) 7 := by
  refine ⟨rfl, rfl, fun k hk hk2 => ⟨?_, ?_⟩, fun e => absurd rfl e, fun _ => Nat.le_succ _⟩
  · show upN v.o i _ k = _
    by_cases e : k = i
    · subst e
      rw [upN_same]
      have hf := h.frz k hi
      rw [hk2] at hf
      cases ho : v.o k with
      | mk id mem self win frz seen taken placed gone told held queue slots pre done mine => rw [ho] at hf; simp at hf; rw [hf]
    · exact upN_ne _ _ e
  · show upN v.stop i true k = true
    exact upN_case (p := fun _ (t : Bool) => t = true) k (fun _ => hk2) fun _ => rfl
end
def ActP (w : World) (K : Nat → Nat) (b : Nat) (v : Crw) (T : Nat) (kd : Int) (w' : World) : Prop := ∃ K' v' X' G', CrwAt w' K' b v' X' ∧ CI v' G' (T + 1) ∧ Stp v v' kd ∧ Ro (0 < ·) K K' w w'
theorem bs86 (W : World) (s : Stb) : (Instr.buildSlice 86 1 #[(0, .agg (sbA s))]).run Try.prog W = .ok (.slice (some ⟨W.heap.size, 0, none⟩) 1 1) (W.alloc (.cells (sbA s) 88)) := by kernel_rfl
theorem info88 : (Try.prog.info? 88).map (fun i => (i.zero, i.size, i.bytes)) = some (some (.agg #[.int .i64 0, .int .i64 0, .int .i64 0, .int .i64 0, .int .i64 0, .int .i64 0]), 6, 48) := by kernel_rfl
section
variable {w : World} {K : Nat → Nat} {b : Nat} {v : Crw} {X : CwX} {G : List Sl} {T : Nat}
set_option maxRecDepth 100000 in
set_option maxHeartbeats 16000000 in
theorem act_any (C : CrwAt w K b v X) (I : CI v G T) (hT : T ≤ 90000) (htl : ∀ k, (v.told k).length ≤ 500000) (a : Acn) (hwf : a.wf) {B : Option Addr} {cB nB : Nat} (hnB : a.b.length = nB) (hcB : nB ≤ cB) (hB : RowK w K 1 eByte B a.b) :
    Calls Try.prog 10 #[.pointer (some ⟨b, 0, none⟩), .agg (acA a B cB nB)] w fun e w' => e = .returned (.bool true) ∧ ActP w K b v T a.kd w' := by
  refine calls_vc tab_ok Try.func10 rfl ?_
  have n1 := I.n1
  have n4 := I.n4
  have hbz := C.hb
  have hkb := C.kb
  obtain ⟨⟨who1, who2⟩, ⟨to1, to2⟩, ⟨nn1, nn2⟩⟩ := hwf
  have p1 := absL_nonneg a.who
  have p2 := absL_nonneg a.to
  obtain ⟨i, hi'⟩ : ∃ i : Nat, absL a.who % (v.n : Int) = i := ⟨(absL a.who % (v.n : Int)).toNat, by have := Int.emod_nonneg (absL a.who) (show (v.n : Int) ≠ 0 by omega); omega⟩
  obtain ⟨j, hj'⟩ : ∃ j : Nat, absL a.to % (v.n : Int) = j := ⟨(absL a.to % (v.n : Int)).toNat, by have := Int.emod_nonneg (absL a.to) (show (v.n : Int) ≠ 0 by omega); omega⟩
  have hi : i < v.n := by have := Int.emod_lt_of_pos (absL a.who) (show (0 : Int) < (v.n : Int) by omega); omega
  have hj : j < v.n := by have := Int.emod_lt_of_pos (absL a.to) (show (0 : Int) < (v.n : Int) by omega); omega
  conv => whnf
  refine .mk fun wA hwA => ?_
  obtain ⟨bt, hbt⟩ : ∃ bt, bt = w.heap.size := ⟨_, rfl⟩
  rw [← hbt]
  have bA : Below w.heap.size w wA := by rw [hwA.out]; exact below_box1 _ _ _
  have zA : wA.heap.size = w.heap.size + 1 := by rw [hwA.out]; simp
  have oA : wA.rangeAt bt 0 (acA a B cB nB).toList := by rw [hwA.out, hbt]; exact range_new w _ 29
  clear hwA
  have CA := C.below bA
  have L1 := CA.l_O (l := [b, bt]) (by simp)
  have T0 : Ld Try.prog 3 bt 0 (Sm [b, bt] wA) (.int .i64 a.kd) := ⟨fun W hW => load3 (cell_sm (oA 0 _ rfl) (by simp) hW)⟩
  have T1 : Ld Try.prog 3 bt 1 (Sm [b, bt] wA) (.int .i64 a.who) := ⟨fun W hW => load3 (cell_sm (oA 1 _ rfl) (by simp) hW)⟩
  have T2 : Ld Try.prog 3 bt 2 (Sm [b, bt] wA) (.int .i64 a.to) := ⟨fun W hW => load3 (cell_sm (oA 2 _ rfl) (by simp) hW)⟩
  have T3 : Ld Try.prog 3 bt 3 (Sm [b, bt] wA) (.int .i64 a.n) := ⟨fun W hW => load3 (cell_sm (oA 3 _ rfl) (by simp) hW)⟩
  have T4 : Ld Try.prog 27 bt 4 (Sm [b, bt] wA) (.slice B nB cB) := ⟨fun W hW => load27 (cell_sm (oA 4 _ rfl) (by simp) hW)⟩
  have s0 := Sm.refl [b, bt] wA
  have sd : Sm [b, bt] wA wA.drew := s0
  have sdd : Sm [b, bt] wA wA.drew.drew := s0
  have hdA : Below wA.heap.size wA wA.drew := (Below.refl _ wA).drew
  have hddA : Below wA.heap.size wA wA.drew.drew := hdA.drew
  repeat ((conv => whnf); first | (refine VCmp.tt (by omega) ?_) | (refine VCmp.ff (by omega) ?_) | (refine VIn.mk (IntWalk.i64_in _ (by omega)) ?_) | (refine VIdx.mk _ rfl (by omega) ?_) | (refine VIdx.mk 0 rfl (by omega) ?_))
  try (conv => whnf)
  refine VDraw.pl 1000 (.one [0, 1, 3, 4, 5, 6, 7] 2 (.stop [8, 9])) (Sm [b, bt] wA) (by kernel_rfl) (sd) ?_
  repeat ((conv => whnf); first | (refine VLoad.mk _ T1 ?_) | (refine VLoad.mk _ L1 ?_) | (refine VCmp.tt (by omega) ?_) | (refine VCmp.ff (by omega) ?_) | (refine VIn.mk (IntWalk.i64_in _ (by omega)) ?_) | (refine VIdx.mk _ rfl (by omega) ?_) | (refine VIdx.mk 0 rfl (by omega) ?_))
  try (conv => whnf)
  refine VCall.mk _ (abs_any a.who wA.drew who1 who2) ?_
  rintro _ x5 ⟨rfl, e5⟩
  subst x5
  refine ⟨_, rfl, ?_⟩
  repeat ((conv => whnf); first | (refine VS.mk sd ?_) | (refine VCmp.tt (by omega) ?_) | (refine VCmp.ff (by omega) ?_) | (refine VIn.mk (IntWalk.i64_in _ (by omega)) ?_) | (refine VIdx.mk _ rfl (by omega) ?_) | (refine VIdx.mk 0 rfl (by omega) ?_))
  try (conv => whnf)
  refine VQ.rem i rfl rfl rfl p1 (by omega) hi' (by omega) ?_
  repeat ((conv => whnf); first | (refine VS.mk sd ?_) | (refine VCmp.tt (by omega) ?_) | (refine VCmp.ff (by omega) ?_) | (refine VIn.mk (IntWalk.i64_in _ (by omega)) ?_) | (refine VIdx.mk _ rfl (by omega) ?_) | (refine VIdx.mk 0 rfl (by omega) ?_))
  try (conv => whnf)
  refine VDraw.pl 1000 (.one [0, 1, 3, 4, 5, 6, 7] 2 (.stop [8, 9])) (Sm [b, bt] wA) (by kernel_rfl) (sdd) ?_
  repeat ((conv => whnf); first | (refine VLoad.mk _ T2 ?_) | (refine VLoad.mk _ L1 ?_) | (refine VCmp.tt (by omega) ?_) | (refine VCmp.ff (by omega) ?_) | (refine VIn.mk (IntWalk.i64_in _ (by omega)) ?_) | (refine VIdx.mk _ rfl (by omega) ?_) | (refine VIdx.mk 0 rfl (by omega) ?_))
  try (conv => whnf)
  refine VCall.mk _ (abs_any a.to wA.drew.drew to1 to2) ?_
  rintro _ x5 ⟨rfl, e5⟩
  subst x5
  refine ⟨_, rfl, ?_⟩
  repeat ((conv => whnf); first | (refine VS.mk sdd ?_) | (refine VCmp.tt (by omega) ?_) | (refine VCmp.ff (by omega) ?_) | (refine VIn.mk (IntWalk.i64_in _ (by omega)) ?_) | (refine VIdx.mk _ rfl (by omega) ?_) | (refine VIdx.mk 0 rfl (by omega) ?_))
  try (conv => whnf)
  refine VQ.rem j rfl rfl rfl p2 (by omega) hj' (by omega) ?_
  obtain ⟨wB, hwB⟩ : ∃ wB, wB = wA.drew.drew := ⟨_, rfl⟩
  have bB : Below w.heap.size w wB := by rw [hwB]; exact bA.trans (hddA.mono (by omega))
  have CB : CrwAt wB K b v X := by rw [hwB]; exact CA.below hddA
  have sB : Sm [b, bt] wA wB := by rw [hwB]; exact sdd
  repeat ((conv => whnf); first | (refine VS.mk sdd ?_) | (refine VLoad.mk _ (T0.at sdd) ?_) | (refine VCmp.tt (by omega) ?_) | (refine VCmp.ff (by omega) ?_) | (refine VIn.mk (IntWalk.i64_in _ (by omega)) ?_) | (refine VIdx.mk _ rfl (by omega) ?_) | (refine VIdx.mk 0 rfl (by omega) ?_))
  try (conv => whnf)
  rw [← hwB]
  have hBB : RowK wB K 1 eByte B a.b := hB.ro (Ro.below (R := fun _ => False) bB) id
  have qB : Ro (0 < ·) K K w wB := Ro.below bB
  clear hwB L1 sd sdd hdA hddA bA CA
  by_cases k1 : a.kd = 1
  · repeat ((conv => whnf); first | (refine VLoad.mk _ (T4.at sB) ?_) | (refine VCmp.tt (by omega) ?_) | (refine VCmp.ff (by omega) ?_) | (refine VIn.mk (IntWalk.i64_in _ (by omega)) ?_) | (refine VIdx.mk _ rfl (by omega) ?_) | (refine VIdx.mk 0 rfl (by omega) ?_))
    try (conv => whnf)
    refine VCall.mk _ (csend_any CB I (by omega) hi a.b hnB hcB hBB) ?_
    rintro _ w2 ⟨rfl, K2, X2, C2, q2⟩
    refine ⟨_, rfl, ?_⟩
    repeat ((conv => whnf); first | (refine VCmp.tt (by omega) ?_) | (refine VCmp.ff (by omega) ?_) | (refine VIn.mk (IntWalk.i64_in _ (by omega)) ?_) | (refine VIdx.mk _ rfl (by omega) ?_) | (refine VIdx.mk 0 rfl (by omega) ?_))
    try (conv => whnf)
    exact .mk ⟨rfl, K2, _, X2, G, C2, I.send' hi _ (by rw [List.length_take]; omega), stp_send I hi _ _, qB.trans q2⟩
  by_cases k2 : a.kd = 2
  · repeat ((conv => whnf); first | (refine VCmp.tt (by omega) ?_) | (refine VCmp.ff (by omega) ?_) | (refine VIn.mk (IntWalk.i64_in _ (by omega)) ?_) | (refine VIdx.mk _ rfl (by omega) ?_) | (refine VIdx.mk 0 rfl (by omega) ?_))
    try (conv => whnf)
    refine VCall.mk _ (carry_any CB I (by omega) hi hj) ?_
    rintro _ w2 ⟨rfl, K2, X2, C2, q2⟩
    refine ⟨_, rfl, ?_⟩
    repeat ((conv => whnf); first | (refine VCmp.tt (by omega) ?_) | (refine VCmp.ff (by omega) ?_) | (refine VIn.mk (IntWalk.i64_in _ (by omega)) ?_) | (refine VIdx.mk _ rfl (by omega) ?_) | (refine VIdx.mk 0 rfl (by omega) ?_))
    try (conv => whnf)
    exact .mk ⟨rfl, K2, _, X2, G, C2, (I.carry' (by omega) hi hj).mono (by omega), stp_carry i j _, qB.trans q2⟩
  by_cases k3 : a.kd = 3
  · repeat ((conv => whnf); first | (refine VLoad.mk _ (T3.at sB) ?_) | (refine VCmp.tt (by omega) ?_) | (refine VCmp.ff (by omega) ?_) | (refine VIn.mk (IntWalk.i64_in _ (by omega)) ?_) | (refine VIdx.mk _ rfl (by omega) ?_) | (refine VIdx.mk 0 rfl (by omega) ?_))
    try (conv => whnf)
    refine VCall.mk _ (cassign_any CB I (by omega) hi a.n nn1 nn2) ?_
    rintro _ w2 ⟨rfl, K2, X2, C2, q2⟩
    refine ⟨_, rfl, ?_⟩
    repeat ((conv => whnf); first | (refine VCmp.tt (by omega) ?_) | (refine VCmp.ff (by omega) ?_) | (refine VIn.mk (IntWalk.i64_in _ (by omega)) ?_) | (refine VIdx.mk _ rfl (by omega) ?_) | (refine VIdx.mk 0 rfl (by omega) ?_))
    try (conv => whnf)
    obtain ⟨G', I'⟩ := I.assign' (by omega) hi a.n
    exact .mk ⟨rfl, K2, _, X2, G', C2, I'.mono (by omega), stp_assign I hi _ _, qB.trans q2⟩
  by_cases k4 : a.kd = 4
  · repeat ((conv => whnf); first | (refine VLoad.mk _ (T3.at sB) ?_) | (refine VCmp.tt (by omega) ?_) | (refine VCmp.ff (by omega) ?_) | (refine VIn.mk (IntWalk.i64_in _ (by omega)) ?_) | (refine VIdx.mk _ rfl (by omega) ?_) | (refine VIdx.mk 0 rfl (by omega) ?_))
    try (conv => whnf)
    refine VCall.mk _ (cdeliver_any CB I (by omega) hi a.n nn1 nn2) ?_
    rintro _ w2 ⟨rfl, K2, X2, ms, o', hD, C2, q2⟩
    refine ⟨_, rfl, ?_⟩
    repeat ((conv => whnf); first | (refine VCmp.tt (by omega) ?_) | (refine VCmp.ff (by omega) ?_) | (refine VIn.mk (IntWalk.i64_in _ (by omega)) ?_) | (refine VIdx.mk _ rfl (by omega) ?_) | (refine VIdx.mk 0 rfl (by omega) ?_))
    try (conv => whnf)
    exact .mk ⟨rfl, K2, _, X2, G, C2, (I.deliver hi hD).1.mono (by omega), stp_dlv I hi hD _, qB.trans q2⟩
  by_cases k6 : a.kd = 6
  · repeat ((conv => whnf); first | (refine VLoad.mk _ (T3.at sB) ?_) | (refine VCmp.tt (by omega) ?_) | (refine VCmp.ff (by omega) ?_) | (refine VIn.mk (IntWalk.i64_in _ (by omega)) ?_) | (refine VIdx.mk _ rfl (by omega) ?_) | (refine VIdx.mk 0 rfl (by omega) ?_))
    try (conv => whnf)
    refine VCall.mk _ (chear_any CB I (by omega) hi hj a.n nn1 nn2 (by have := htl i; omega)) ?_
    rintro _ w2 ⟨rfl, K2, X2, C2, q2⟩
    refine ⟨_, rfl, ?_⟩
    repeat ((conv => whnf); first | (refine VCmp.tt (by omega) ?_) | (refine VCmp.ff (by omega) ?_) | (refine VIn.mk (IntWalk.i64_in _ (by omega)) ?_) | (refine VIdx.mk _ rfl (by omega) ?_) | (refine VIdx.mk 0 rfl (by omega) ?_))
    try (conv => whnf)
    exact .mk ⟨rfl, K2, _, X2, G, C2, (I.hear' (by omega) hi hj _).mono (by omega), stp_hear i j _ _, qB.trans q2⟩
  by_cases k5 : a.kd = 5
  · obtain ⟨gT, oT, xT, aT⟩ := CB.told.get hi
    obtain ⟨gO, oO, bi, Y, eO, gO1, kO, hbi, cO, AO⟩ := CB.ord hi
    have M0 := CB.l_told (l := [b, gT, gO]) (by simp)
    have M1 := CB.l_O (l := [b, gT, gO]) (by simp)
    rw [aT.eA] at M0
    rw [eO] at M1
    have N0 : Ld Try.prog 86 gT (oT + i) (Sm [b, gT, gO] wB) (.slice xT.A (v.told i).length xT.c) := ⟨fun W hW => load86s (cell_sm aT.hc (by simp) hW)⟩
    have N1 : Ld Try.prog 42 gO (oO + i) (Sm [b, gT, gO] wB) (.pointer (some ⟨bi, 0, none⟩)) := ⟨fun W hW => load42 (cell_sm cO (by simp) hW)⟩
    have sd : Sm [b, gT, gO] wB wB.drew := fun _ _ => rfl
    have hbB := CB.hb
    have kbB := CB.kb
    have kT := aT.hk
    have hTB := aT.hg
    have hLB : ∀ g ∈ [b, gT, gO], g < wB.heap.size := fun g hg => by
      simp only [List.mem_cons, List.not_mem_nil, or_false] at hg
      rcases hg with rfl | rfl | rfl <;> assumption
    repeat ((conv => whnf); first | (refine VCmp.tt (by omega) ?_) | (refine VCmp.ff (by omega) ?_) | (refine VIn.mk (IntWalk.i64_in _ (by omega)) ?_) | (refine VIdx.mk _ rfl (by omega) ?_) | (refine VIdx.mk 0 rfl (by omega) ?_))
    try (conv => whnf)
    refine VDraw.pl 23 (.one [0, 1, 2, 3, 4, 5, 6, 7, 8, 9, 10, 11, 12, 13, 14, 15, 16, 17, 18] 19 (.one [] 20 (.one [] 21 (.one [22] 23 (.stop []))))) (Sm [b, gT, gO] wB) (by kernel_rfl) (sd) ?_
    repeat ((conv => whnf); first | (refine VLoad.mk _ M0 ?_) | (refine VLoad.mk _ M1 ?_) | (refine VLoad.mk _ N0 ?_) | (refine VLoad.mk _ N1 ?_) | (refine VCmp.tt (by omega) ?_) | (refine VCmp.ff (by omega) ?_) | (refine VIn.mk (IntWalk.i64_in _ (by omega)) ?_) | (refine VIdx.mk _ rfl (by omega) ?_) | (refine VIdx.mk 0 rfl (by omega) ?_))
    try (conv => whnf)
    have hd : Below wB.heap.size wB wB.drew := (Below.refl _ wB).drew
    refine VCall.mk _ (told_any (AO.below hd)) ?_
    rintro _ w2 ⟨rfl, b2⟩
    refine ⟨_, rfl, ?_⟩
    have b2' : Below wB.heap.size wB w2 := hd.trans b2
    have s2 : Sm [b, gT, gO] wB w2 := .below b2' hLB
    obtain ⟨t, ht⟩ : ∃ t : Stb, t = ⟨(v.o i).id, (v.o i).done, (v.o i).pre⟩ := ⟨_, rfl⟩
    have est : stA (v.o i) = sbA t := by rw [ht]; rfl
    rw [est]
    repeat ((conv => whnf); first | (refine VS.mk s2 ?_) | (refine VCmp.tt (by omega) ?_) | (refine VCmp.ff (by omega) ?_) | (refine VIn.mk (IntWalk.i64_in _ (by omega)) ?_) | (refine VIdx.mk _ rfl (by omega) ?_) | (refine VIdx.mk 0 rfl (by omega) ?_))
    try (conv => whnf)
    refine VBs.mk _ _ (bs86 w2 t) ?_
    have ba : Below w2.heap.size w2 (w2.alloc (.cells (sbA t) 88)) := (Below.refl _ _).alloc (Nat.le_refl _) _
    have hnc : ∀ j u, (eSb t)[j]? = some u → (w2.alloc (.cells (sbA t) 88)).cell? ⟨w2.heap.size, j, none⟩ = some u := fun j u hu => by
      have := range_new w2 (sbA t) 88 j u hu
      rwa [Nat.zero_add] at this
    have za : (w2.alloc (.cells (sbA t) 88)).heap.size = w2.heap.size + 1 := World.size_alloc _ _
    generalize w2.alloc (.cells (sbA t) 88) = w3 at ba hnc za ⊢
    have b3' : Below wB.heap.size wB w3 := b2'.trans (ba.mono b2'.size)
    have C3 := CB.below b3'
    have s3 : Sm [b, gT, gO] wB w3 := .below b3' hLB
    repeat ((conv => whnf); first | (refine VS.mk s3 ?_) | (refine VCmp.tt (by omega) ?_) | (refine VCmp.ff (by omega) ?_) | (refine VIn.mk (IntWalk.i64_in _ (by omega)) ?_) | (refine VIdx.mk _ rfl (by omega) ?_) | (refine VIdx.mk 0 rfl (by omega) ?_))
    try (conv => whnf)
    have a3 := C3.told.at hi aT.eA aT.hx
    have hti := htl i
    refine VApp.off 6 48 _ Try.underlying86 info88 rfl (by decide) eSb (fun _ => rfl) one_eSb xT.l t aT.ln a3.ow hnc C3.kz (by omega) (by omega) fun A4 c4 K4 w4 o4 q4 kz4 => ?_
    have s4 : Sm [b, gT, gO] wB w4 := s3.trans (.ro q4 fun g hg => by
      refine ⟨Nat.lt_of_lt_of_le (hLB g hg) b3'.size, ?_⟩
      simp only [List.mem_cons, List.not_mem_nil, or_false] at hg
      rcases hg with rfl | rfl | rfl <;> omega)
    repeat ((conv => whnf); first | (refine VS.mk s4 ?_) | (refine VCmp.tt (by omega) ?_) | (refine VCmp.ff (by omega) ?_) | (refine VIn.mk (IntWalk.i64_in _ (by omega)) ?_) | (refine VIdx.mk _ rfl (by omega) ?_) | (refine VIdx.mk 0 rfl (by omega) ?_))
    try (conv => whnf)
    refine VStore.cell (by kernel_rfl) (by rw [show oT + mulO i 1 = oT + i from rfl, cell_sm aT.hc (by simp) s4]; rfl) ((World.frozen?_of_block (a := ⟨gT, _, none⟩) (s4 gT (by simp))).trans aT.hf) rfl rfl fun w5 hw5 => ?_
    obtain ⟨C5, q5⟩ := C3.push_told hi a3 t o4 q4 kz4 (w2 := w5) (by rw [hw5.out]; rfl)
    clear hw5
    repeat ((conv => whnf); first | (refine VS.last rfl ?_) | (refine VCmp.tt (by omega) ?_) | (refine VCmp.ff (by omega) ?_) | (refine VIn.mk (IntWalk.i64_in _ (by omega)) ?_) | (refine VIdx.mk _ rfl (by omega) ?_) | (refine VIdx.mk 0 rfl (by omega) ?_))
    try (conv => whnf)
    rw [ht] at C5
    exact .mk ⟨rfl, K4, v.tell i, _, G, C5, (I.tell hi).mono (by omega), stp_tell i _, (qB.trans (Ro.below b3')).trans (q5.more fun z hz => by omega)⟩
  by_cases k7 : a.kd = 7
  · obtain ⟨gP, oP, eP, gP1, kP, cP, fP⟩ := CB.stp hi
    obtain ⟨gO, oO, bi, Y, eO, gO1, kO, hbi, cO, AO⟩ := CB.ord hi
    have M0 := CB.l_stop (l := [b, gP, gO]) (by simp)
    have M1 := CB.l_O (l := [b, gP, gO]) (by simp)
    rw [eP] at M0
    rw [eO] at M1
    have N1 : Ld Try.prog 42 gO (oO + i) (Sm [b, gP, gO] wB) (.pointer (some ⟨bi, 0, none⟩)) := ⟨fun W hW => load42 (cell_sm cO (by simp) hW)⟩
    have sz := Sm.refl [b, gP, gO] wB
    have hbB := CB.hb
    have kbB := CB.kb
    repeat ((conv => whnf); first | (refine VLoad.mk _ (M1.at sz) ?_) | (refine VLoad.mk _ (N1.at sz) ?_) | (refine VCmp.tt (by omega) ?_) | (refine VCmp.ff (by omega) ?_) | (refine VIn.mk (IntWalk.i64_in _ (by omega)) ?_) | (refine VIdx.mk _ rfl (by omega) ?_) | (refine VIdx.mk 0 rfl (by omega) ?_))
    try (conv => whnf)
    refine VCall.mk _ (freeze_any AO) ?_
    rintro _ w2 ⟨rfl, K2, Y2, A2, q2⟩
    refine ⟨_, rfl, ?_⟩
    have s2 : Sm [b, gP, gO] wB w2 := .ro q2 fun g hg => by
      simp only [List.mem_cons, List.not_mem_nil, or_false] at hg
      unfold inR
      rcases hg with rfl | rfl | rfl <;> omega
    have C2 := CB.setO hi hbi A2 q2
    repeat ((conv => whnf); first | (refine VLoad.mk _ (M0.at s2) ?_) | (refine VCmp.tt (by omega) ?_) | (refine VCmp.ff (by omega) ?_) | (refine VIn.mk (IntWalk.i64_in _ (by omega)) ?_) | (refine VIdx.mk _ rfl (by omega) ?_) | (refine VIdx.mk 0 rfl (by omega) ?_))
    try (conv => whnf)
    refine VStore.cell (by kernel_rfl) (by rw [show oP + mulO i 1 = oP + i from rfl, cell_sm cP (by simp) s2]; rfl) ((World.frozen?_of_block (a := ⟨gP, _, none⟩) (s2 gP (by simp))).trans fP) rfl rfl fun w3 hw3 => ?_
    obtain ⟨C3, q3⟩ := C2.set_stop hi eP (w2 := w3) (by rw [hw3.out]; rfl)
    clear hw3
    obtain ⟨X3, C3⟩ : ∃ X3, CrwAt w3 K2 b (v.freeze i) X3 := ⟨_, C3⟩
    obtain ⟨gO', oO', bi', Y', eO', gO1', kO', hbi', cO', AO'⟩ := C3.ord hi
    have M2 := C3.l_O (l := [b, gO']) (by simp)
    rw [eO', show (v.freeze i).n = v.n from rfl] at M2
    have N2 : Ld Try.prog 42 gO' (oO' + i) (Sm [b, gO'] w3) (.pointer (some ⟨bi', 0, none⟩)) := ⟨fun W hW => load42 (cell_sm cO' (by simp) hW)⟩
    have s3 := Sm.refl [b, gO'] w3
    repeat ((conv => whnf); first | (refine VLoad.mk _ (M2.at s3) ?_) | (refine VLoad.mk _ (N2.at s3) ?_) | (refine VCmp.tt (by omega) ?_) | (refine VCmp.ff (by omega) ?_) | (refine VIn.mk (IntWalk.i64_in _ (by omega)) ?_) | (refine VIdx.mk _ rfl (by omega) ?_) | (refine VIdx.mk 0 rfl (by omega) ?_))
    try (conv => whnf)
    refine VCall.mk _ (frozen_any AO') ?_
    rintro _ x5 ⟨rfl, e5⟩
    subst x5
    refine ⟨_, rfl, ?_⟩
    have efz : (upN v.o i { v.o i with frz := true } i).frz = true := by rw [upN_same]
    rw [show ((v.freeze i).o i).frz = true from efz]
    repeat ((conv => whnf); first | (refine VCmp.tt (by omega) ?_) | (refine VCmp.ff (by omega) ?_) | (refine VIn.mk (IntWalk.i64_in _ (by omega)) ?_) | (refine VIdx.mk _ rfl (by omega) ?_) | (refine VIdx.mk 0 rfl (by omega) ?_))
    try (conv => whnf)
    rw [k7]
    exact .mk ⟨rfl, K2, v.freeze i, _, G, C3, (I.freeze hi).mono (by omega), stp_freeze I hi, (qB.trans (q2.more fun z hz => by unfold inR at hz; omega)).trans (q3.more fun z hz => by omega)⟩
  repeat ((conv => whnf); first | (refine VCmp.tt (by omega) ?_) | (refine VCmp.ff (by omega) ?_) | (refine VIn.mk (IntWalk.i64_in _ (by omega)) ?_) | (refine VIdx.mk _ rfl (by omega) ?_) | (refine VIdx.mk 0 rfl (by omega) ?_))
  try (conv => whnf)
  exact .mk ⟨rfl, K, v, X, G, CB, I.mono (by omega), .refl v _, qB⟩
end
end Go.Proofs.Ytoilipfgimcoiaa
namespace Go.Proofs.Ytoilipfgimcoiaa
open Go Go.RowKit
structure AcX where
  a : Acn
  B : Option Addr
  c : Nat
def eAc (x : AcX) : List Value := (acA x.a x.B x.c x.a.b.length).toList
structure ActsAt (w : World) (A : Option Addr) (l : List AcX) : Prop where
  row : RowAt w w.heap.size 5 eAc A l
  bod : ∀ x ∈ l, RowAt w w.heap.size 1 eByte x.B x.a.b ∧ x.a.b.length ≤ x.c ∧ x.a.wf
theorem Ro.toBelow {w w' : World} {K' : Nat → Nat} (r : Ro (0 < ·) (fun _ => 0) K' w w') : Below w.heap.size w w' := ⟨r.os, r.tape, r.output, r.size, fun k hk => r.same k hk (by omega)⟩
def zK : Nat → Nat := fun _ => 0
def memsOf (m : Int) : Nat := (1 + absL m % 4).toNat
end Go.Proofs.Ytoilipfgimcoiaa
namespace Go.Proofs.Ytoilipfgimcoiaa
open Go.RowKit Go.Deep Go.ChangeShapes Go.WideShapes Go.ChangeAt
theorem exists_list {α : Type} {P : Nat → α → Prop} : ∀ n, (∀ i, i < n → ∃ x, P i x) → ∃ l : List α, l.length = n ∧ ∀ k x, l[k]? = some x → P k x
  | 0, _ => ⟨[], rfl, by intro k x h; simp at h⟩
  | n + 1, h => by
    obtain ⟨l, hl, hp⟩ := exists_list n (fun i hi => h i (by omega))
    obtain ⟨x, hx⟩ := h n (by omega)
    refine ⟨l ++ [x], by simp [hl], fun k y hy => ?_⟩
    by_cases hk : k < l.length
    · rw [List.getElem?_append_left hk] at hy; exact hp k y hy
    · rw [List.getElem?_append_right (by omega)] at hy
      have := (List.getElem?_eq_some_iff.1 hy).1
      obtain rfl : k = n := by simp at this; omega
      rw [hl] at hy; simp at hy; subst hy; exact hx
theorem cell_lt {w : World} {a : Addr} {u : Value} (h : w.cell? a = some u) : a.block < w.heap.size ∧ a.spot = none := by
  refine ⟨World.block_lt_of_cell? w a h, ?_⟩
  unfold World.cell? at h
  split at h
  · cases hs : a.spot with
    | none => rfl
    | some x => rw [hs] at h; simp at h
  · cases h
section
variable {H : Type} {enc : TypeId × Value → H} {P : Program} {W : World} {sp : Nat → Bool}
theorem open_row {α : Type} {t e : TypeId} {sz : Nat} (ht : P.underlying t = some (.slice e)) (hc : P.cellsOf e = sz) (hsz : 0 < sz) (ec : α → List Value) (Q : α → Prop)
    (helem : ∀ (n : Nat) (cs : List Value) (y : DataW H × List MemPlace), DataW.trod enc P W 0 sp true n e cs = some y → ∃ x, cs = ec x ∧ Q x)
    {fuel : Nat} {v : Value} {x : DataW H × List MemPlace} (h : DataW.trod enc P W 0 sp true fuel t [v] = some x) :
    ∃ (A : Option Addr) (l : List α) (c : Nat), v = .slice A l.length c ∧ RowAt W W.heap.size sz ec A l ∧ l.length ≤ c ∧ c ≤ 9223372036854775807 ∧ ∀ y ∈ l, Q y := by
  rcases open_slice ht h with ⟨h1, rfl⟩ | ⟨a, len, cap, m, n, D, Pl, h1, _, hl, hm, hmm, rfl, hi⟩
  · obtain rfl := (List.cons.inj h1).1
    exact ⟨none, [], 0, rfl, fun h => absurd h (by simp), by simp, by omega, by simp⟩
  · obtain rfl := (List.cons.inj h1).1
    obtain ⟨l, hll, hp⟩ := exists_list (P := fun i (y : α) => W.cells? 0 (a.add (i * sz)) sz = some (ec y) ∧ Q y) len (fun i hil => by
      obtain ⟨cs, h2, h3⟩ := hi i (by rw [hmm]; split <;> omega)
      obtain ⟨y, rfl, hq⟩ := helem n cs _ h3
      rw [hc] at h2
      exact ⟨y, h2, hq⟩)
    refine ⟨some a, l, cap, by rw [hll], fun h0 => ?_, by omega, by unfold maxLen at hm; omega, fun y hy => ?_⟩
    · have g0 := hp 0 l[0] (List.getElem?_eq_getElem h0)
      obtain ⟨_, hlen, hcell⟩ := World.cells?_some g0.1
      have c0 := hcell 0 hsz
      have e0 : (a.add (0 * sz)).add 0 = a := by simp [Addr.add]
      rw [e0, List.getElem?_eq_getElem (by omega)] at c0
      obtain ⟨hb, hs⟩ := cell_lt c0
      have ha : a = ⟨a.block, a.off, none⟩ := by cases a; simp at hs; simp [hs]
      refine ⟨a.block, a.off, by rw [← ha], hb, fun k y hk j u hu => ?_⟩
      obtain ⟨g1, _⟩ := hp k y hk
      obtain ⟨_, hlen', hcell'⟩ := World.cells?_some g1
      have hj : j < sz := by have := (List.getElem?_eq_some_iff.1 hu).1; omega
      have := hcell' j hj
      rw [hu, ha, Addr.add_lit, Addr.add_lit] at this
      exact this
    · obtain ⟨k, hk⟩ := List.mem_iff_getElem?.1 hy
      exact (hp k y hk).2
theorem post_of_below {f : Func} {s : ChangeSpec} {apart fresh handsOn again : Bool} {W W' : World} {args : Array Value} {v : Value} {ds gs : List (DataW H)} {before pa pv : List MemPlace}
    (hW : DataW.Whole enc P f.params.toList s.vars apart W args.toList ds gs before)
    (hres : ∀ (b : Nat) (sp : Nat → Bool) (hd : Bool), DataW.TrodAll enc P W' b sp hd f.resultTypes.toList (v.resultList f.resultTypes.size) (s.fn H (ds ++ gs)).results [])
    (hargs : ∀ sp : Nat → Bool, (∀ p ∈ before, sp p.block = true) → DataW.TrodAll enc P W' 0 sp true f.params.toList args.toList (s.fn H (ds ++ gs)).args pa)
    (hvars : ∀ sp : Nat → Bool, (∀ p ∈ before, sp p.block = true) → DataW.TrodVars enc P W' sp s.vars (s.fn H (ds ++ gs)).vars pv)
    (hps : before = pa ++ pv) (hb : Below W.heap.size W W')
    (hok : ∀ (j : Nat) (t : TypeId) (r : Value), f.resultTypes[j]? = some t → (v.resultList f.resultTypes.size)[j]? = some r → Value.okWide P W' .any 0 t r) :
    s.post enc P f apart fresh handsOn again W args v W' := by
  have hlt : ∀ p ∈ before, p.block < W.heap.size := fun p hp => hW.lt p hp
  have hold : ∀ p ∈ before, (fun b => decide (b < W.heap.size)) p.block = true := fun p hp => by simpa using hlt p hp
  refine ⟨ds, gs, before, [], pa, pv, hW, hres _ _ _, hargs _ hold, hvars _ hold, World.keptBut_mono (fun p hp => ⟨hp, ?_⟩) (hb.frame (· ∈ before)), fun _ => ?_⟩
  · rw [hps, List.mem_append] at hp
    exact Or.inr hp
  · obtain ⟨_, _, _, _, _, hz, hn⟩ := hW
    refine ⟨hok, _, _, ([] ++ pa) ++ pv, ⟨[] ++ pa, pv, trodAll_append (hargs _ (fun _ _ => rfl)) (hres _ _ _), hvars _ (fun _ _ => rfl), rfl, ?_, ?_⟩, ?_⟩
    · intro b off hp
      have hin : MemPlace.cell b off ∈ before := by rw [hps]; simpa using hp
      rw [hb.frozen (hlt _ hin)]
      exact hz b off hin
    · intro ha
      have := hn ha
      rw [hps] at this
      simpa using this
    · intro p hp _
      rw [hps]
      simpa using hp
end
theorem own : ownKnob Try.prog.godebug = none := by kernel_rfl
theorem laidOut : laidOutB Try.prog = true := by kernel_rfl
theorem cells27' : Try.prog.cellsOf 27 = 1 := by kernel_rfl
theorem cells29 : Try.prog.cellsOf 29 = 5 := by kernel_rfl
theorem cells5' : Try.prog.cellsOf 5 = 1 := by kernel_rfl
theorem readable22 : Try.prog.readableRec 22 = true := by kernel_rfl
theorem row22 : 22 < Try.prog.types.size := of_decide_eq_true (by kernel_rfl)
theorem readable3 : Try.prog.readableRec 3 = true := by kernel_rfl
theorem row3 : 3 < Try.prog.types.size := of_decide_eq_true (by kernel_rfl)
section
variable {H : Type} {enc : TypeId × Value → H} {W : World} {sp : Nat → Bool}
theorem wf_i64 {n : Int} (h : (Lit.int .i64 n).wf = true) : -9223372036854775808 ≤ n ∧ n ≤ 9223372036854775807 := by
  have e : IntKind.i64.min = -9223372036854775808 := by decide
  have e2 : IntKind.i64.max = 9223372036854775807 := by decide
  simp [Lit.wf, e, e2] at h
  omega
theorem elem5 (n : Nat) (cs : List Value) (y : DataW H × List MemPlace) (h : DataW.trod enc Try.prog W 0 sp true n 5 cs = some y) : ∃ x, cs = eByte x ∧ True := by
  obtain ⟨z, hz, _⟩ := DataW.trod_int Try.underlying5 h
  exact ⟨z, hz, trivial⟩
def AcQ (W : World) (x : AcX) : Prop := RowAt W W.heap.size 1 eByte x.B x.a.b ∧ x.a.b.length ≤ x.c ∧ x.a.wf
set_option maxRecDepth 100000 in
theorem elem29 (n : Nat) (cs : List Value) (y : DataW H × List MemPlace) (h : DataW.trod enc Try.prog W 0 sp true n 29 cs = some y) : ∃ x, cs = eAc x ∧ AcQ W x := by
  obtain ⟨ys, m, _, rfl, hlen, hyl, hf⟩ := DataW.trod_struct Try.underlying29 h
  rw [cells29] at hlen
  have hyl5 : ys.length = 5 := hyl
  match cs, hlen with
  | [u0, u1, u2, u3, u4], _ =>
    match ys, hyl5 with
    | [y0, y1, y2, y3, y4], _ =>
      have h0 : DataW.trod enc Try.prog W 0 sp true m 3 (([u0, u1, u2, u3, u4].drop 0).take (Try.prog.cellsOf 3)) = some y0 := hf 0 _ rfl
      have h1 : DataW.trod enc Try.prog W 0 sp true m 3 (([u0, u1, u2, u3, u4].drop 1).take (Try.prog.cellsOf 3)) = some y1 := hf 1 _ rfl
      have h2 : DataW.trod enc Try.prog W 0 sp true m 3 (([u0, u1, u2, u3, u4].drop 2).take (Try.prog.cellsOf 3)) = some y2 := hf 2 _ rfl
      have h3 : DataW.trod enc Try.prog W 0 sp true m 3 (([u0, u1, u2, u3, u4].drop 3).take (Try.prog.cellsOf 3)) = some y3 := hf 3 _ rfl
      have h4 : DataW.trod enc Try.prog W 0 sp true m 27 (([u0, u1, u2, u3, u4].drop 4).take (Try.prog.cellsOf 27)) = some y4 := hf 4 _ rfl
      rw [cells3] at h0 h1 h2 h3
      rw [cells27'] at h4
      simp only [List.drop_zero, List.drop_succ_cons, List.take_succ_cons, List.take_zero] at h0 h1 h2 h3 h4
      obtain ⟨a, ha, _, wa⟩ := DataW.trod_int Try.underlying3 h0
      obtain ⟨b, hb, _, wb⟩ := DataW.trod_int Try.underlying3 h1
      obtain ⟨c, hc, _, wc⟩ := DataW.trod_int Try.underlying3 h2
      obtain ⟨d, hd, _, wd⟩ := DataW.trod_int Try.underlying3 h3
      simp at ha hb hc hd
      obtain ⟨X, s, cX, hX, r1, r2, r3, r4⟩ := open_row Try.underlying27 cells5' (by decide) eByte (fun _ => True) elem5 h4
      exact ⟨⟨⟨a, b, c, d, s⟩, X, cX⟩, by simp [eAc, ha, hb, hc, hd, hX], r1, r2, wf_i64 wb, wf_i64 wc, wf_i64 wd⟩
set_option maxRecDepth 100000 in
theorem came22 {base : Nat} {v : Value} {d : DataW H} {p : List MemPlace} (hv : Value.okWide Try.prog W .any base 22 v) (h : DataW.Trod enc Try.prog W 0 sp true 22 v d p) :
    ∃ (A : Option Addr) (c : Nat) (l : List AcX), v = .slice A l.length c ∧ ActsAt W A l ∧ l.length ≤ 9223372036854775807 := by
  obtain ⟨a, len, cap, rfl⟩ := okWide_slice Try.underlying22 hv
  obtain ⟨fuel, h⟩ := h
  obtain ⟨A, l, c, e, r, r2, r3, q⟩ := open_row (x := (d, p)) Try.underlying22 cells29 (by decide) eAc (AcQ W) elem29 h
  exact ⟨A, c, l, e, ⟨r, q⟩, by omega⟩
set_option maxRecDepth 100000 in
theorem came3 {base : Nat} {v : Value} {d : DataW H} {p : List MemPlace} (hv : Value.okWide Try.prog W .any base 3 v) (h : DataW.Trod enc Try.prog W 0 sp true 3 v d p) : ∃ n : Int, v = .int .i64 n ∧ -9223372036854775808 ≤ n ∧ n ≤ 9223372036854775807 := by
  obtain ⟨n, rfl⟩ := okWide_int Try.underlying3 hv
  obtain ⟨fuel, h⟩ := h
  obtain ⟨m, hm, _, hw⟩ := DataW.trod_int Try.underlying3 h
  injection hm with hm
  injection hm with _ hm
  subst hm
  exact ⟨n, rfl, wf_i64 hw⟩
end
end Go.Proofs.Ytoilipfgimcoiaa
namespace Go.Proofs.Ytoilipfgimcoiaa
open Go Go.RowKit
def tot (f : Nat → Nat) : Nat → Nat
  | 0 => 0
  | k + 1 => tot f k + f k
theorem tot_le {f g : Nat → Nat} {c : Nat} : ∀ n, (∀ j, j < n → f j ≤ c + g j) → tot f n ≤ n * c + tot g n
  | 0, _ => by simp [tot]
  | n + 1, h => by
    have ih := tot_le n fun j hj => h j (by omega)
    have := h n (by omega)
    rw [tot, tot, Nat.add_mul, Nat.one_mul]; omega
theorem tot_eq {f g : Nat → Nat} : ∀ n, (∀ j, j < n → f j = g j) → tot f n = tot g n
  | 0, _ => rfl
  | n + 1, h => by rw [tot, tot, tot_eq n fun j hj => h j (by omega), h n (by omega)]
theorem len_tot {n : Nat} (n1 : 1 ≤ n) (n4 : n ≤ 4) {L : List Sl} (h : ∀ x ∈ L, ∃ j, j < n ∧ x.s = pidN j) : L.length = tot (fun j => cnt (pidN j) L) n := by
  have hs := SeqOk.sum n4 L h
  have hz : ∀ s, (∀ j, j < n → s ≠ pidN j) → cnt s L = 0 := fun s hs => by
    refine List.countP_eq_zero.2 fun x hx => ?_
    obtain ⟨j, hj, e⟩ := h x hx
    simp only [decide_eq_true_eq]
    exact fun e2 => hs j hj (e2.symm.trans e)
  have z : ∀ j, n ≤ j → cnt (pidN j) L = 0 := fun j hj => hz _ fun k hk e => by have := pidN_inj e; omega
  have e0 : cnt (pidN 0) L = cnt 1 L := rfl
  have e1 : cnt (pidN 1) L = cnt 4 L := rfl
  have e2 : cnt (pidN 2) L = cnt 7 L := rfl
  have e3 : cnt (pidN 3) L = cnt 10 L := rfl
  obtain rfl | rfl | rfl | rfl : n = 1 ∨ n = 2 ∨ n = 3 ∨ n = 4 := by omega
  · have h1 := z 1 (by omega)
    have h2 := z 2 (by omega)
    have h3 := z 3 (by omega)
    simp only [tot]; omega
  · have h2 := z 2 (by omega)
    have h3 := z 3 (by omega)
    simp only [tot]; omega
  · have h3 := z 3 (by omega)
    simp only [tot]; omega
  · simp only [tot]; omega
def allS (v : Crw) : Nat := tot (fun j => (v.sent j).length) v.n
theorem RiK.least {o p : Os} (K : RiK o p) : p.least = o.least := by
  have key : ∀ (l : List Nat) (m : Nat), leastTo p l m = leastTo o l m := fun l => by
    induction l with
    | nil => intro m; rfl
    | cons q l ih => intro m; rw [leastTo, leastTo, K.self, K.told, ih]
  show leastTo p p.mem p.done = leastTo o o.mem o.done
  rw [K.mem, K.done]
  exact key _ _
def FullP (v : Crw) (i j : Nat) : Prop := i ≠ j → v.had i j = (v.made i).length
def Full (v : Crw) : Prop := ∀ i j, i < v.n → j < v.n → FullP v i j
structure Cc (v v' : Crw) : Prop where
  n : v'.n = v.n
  win : v'.win = v.win
  sent : v'.sent = v.sent
  made : v'.made = v.made
  told : v'.told = v.told
  stop : v'.stop = v.stop
  had : ∀ a b, v.had a b ≤ v'.had a b
theorem Cc.refl (v : Crw) : Cc v v := ⟨rfl, rfl, rfl, rfl, rfl, rfl, fun _ _ => Nat.le_refl _⟩
theorem Cc.trans {u v x : Crw} (a : Cc u v) (b : Cc v x) : Cc u x := ⟨b.n.trans a.n, b.win.trans a.win, b.sent.trans a.sent, b.made.trans a.made, b.told.trans a.told, b.stop.trans a.stop, fun i j => Nat.le_trans (a.had i j) (b.had i j)⟩
section
variable {v : Crw} {G : List Sl} {T : Nat}
theorem carry_cc (v : Crw) (i j : Nat) : Cc v (v.carry i j) := by
  unfold Crw.carry
  by_cases e : i = j
  · rw [if_pos e]; exact .refl v
  rw [if_neg e]
  cases hit : (v.made i)[v.had i j]? with
  | none => exact .refl v
  | some it =>
    show Cc v (if v.stop j = true then v else _)
    by_cases hs : v.stop j = true
    · rw [if_pos hs]; exact .refl v
    · rw [if_neg hs]
      refine ⟨rfl, rfl, rfl, rfl, rfl, rfl, fun a b => ?_⟩
      show _ ≤ hadN v.had i j a b
      by_cases e2 : a = i ∧ b = j
      · obtain ⟨rfl, rfl⟩ := e2; rw [hadN_same]; omega
      · rw [hadN_ne _ e2]; exact Nat.le_refl _
theorem carry_up {i j : Nat} (hne : i ≠ j) (hs : v.stop j = false) (hlt : v.had i j < (v.made i).length) : (v.carry i j).had i j = v.had i j + 1 := by
  unfold Crw.carry
  rw [if_neg hne, List.getElem?_eq_getElem hlt]
  show (if v.stop j = true then v else _ : Crw).had i j = _
  rw [if_neg (by rw [hs]; simp)]
  exact hadN_same _ _ _
theorem CI.cap (h : CI v G T) (i j : Nat) (hi : i < v.n) (hj : j < v.n) : v.had i j ≤ (v.made i).length := h.hd i j hi hj
theorem Cc.full {u v : Crw} (c : Cc u v) (h : CI v G T) {i j : Nat} (hi : i < v.n) (hj : j < v.n) (hf : FullP u i j) : FullP v i j := fun hne => by
  have h1 := c.had i j
  have h2 := h.hd i j hi hj
  rw [c.made] at *
  have := hf hne
  omega
theorem CI.takenAll (h : CI v G T) (hF : Full v) {i j : Nat} (hi : i < v.n) (hj : j < v.n) : (v.o i).taken (pidN j) = (v.sent j).length := by
  by_cases e : i = j
  · subst e; exact h.own i hi
  · rw [h.tk i j hi hj e, hF j i hj hi fun e2 => e e2.symm, List.take_length, h.dc j hj]
theorem CI.knownAll (h : CI v G T) (hF : Full v) {i : Nat} (hi : i < v.n) : (v.o i).known = G.length := by
  by_cases e : i = 0
  · subst e; exact h.k0
  · rw [h.kn i hi e, hF 0 i h.n1 hi fun e2 => e e2.symm, List.take_length, h.sc]
theorem CI.allGiven (h : CI v G T) (hF : Full v) : (G ++ (v.o 0).queue).length = allS v ∧ (v.o 0).queue.length ≤ (v.o 0).most - (v.o 0).slots.length := by
  have n1 := h.n1
  have hlen : (G ++ (v.o 0).queue).length = allS v := by
    rw [len_tot h.n1 h.n4 h.gq.s]
    exact tot_eq _ fun j hj => by rw [h.gt j hj, h.takenAll hF n1 hj]
  refine ⟨hlen, ?_⟩
  have m := h.mi 0 n1
  have hk := h.k0
  have hpre : (G.take (v.o 0).pre).length = (v.o 0).pre := by
    rw [List.length_take]; have := m.pd; have := m.dk; have := m.kg; omega
  have h1 : allS v ≤ v.n * v.win + (v.o 0).pre := by
    have h2 := tot_le (f := fun j => (v.sent j).length) (g := fun j => cnt (pidN j) (G.take (v.o 0).pre)) (c := v.win) v.n fun j hj => by
      have := h.fr 0 j n1 hj
      rwa [h.takenAll hF n1 hj, m.gn] at this
    have h3 := len_tot h.n1 h.n4 (L := G.take (v.o 0).pre) fun x hx => h.gq.left.s x (List.mem_of_mem_take hx)
    rw [hpre] at h3
    unfold allS
    omega
  rw [h.most n1]
  rw [List.length_append] at hlen
  unfold Os.known at hk
  omega
theorem CI.assignAll (h : CI v G T) (hT : T ≤ 100000) (hF : Full v) (hs : v.stop 0 = false) : ∃ G', CI (v.assign 0 4611686018427387904) G' T ∧ G'.length = allS v := by
  obtain ⟨h1, h2⟩ := h.allGiven hF
  have n1 := h.n1
  have hl := h.len
  rw [List.length_append] at hl
  have hsq := seq_iff h.n1 (h.mi 0 n1).mem (h.mi 0 n1).self
  have hN : (v.o 0).asgN 4611686018427387904 = (v.o 0).queue.length := by unfold Os.asgN; omega
  have e : (v.o 0).assign 4611686018427387904 = ((v.o 0).asgL (v.o 0).queue.length, (v.o 0).asgK (v.o 0).queue.length) := by
    unfold Os.assign
    rw [if_neg, hN]
    rw [hsq, h.frz 0 n1, hs]
    simp
  unfold Crw.assign
  rw [e]
  have hm := h.most n1
  have hsr := h.sr 0 n1
  refine ⟨_, h.assign hT _ (Nat.le_refl _) (by omega), ?_⟩
  rw [List.take_length]; exact h1
structure Fin1 (v : Crw) (G : List Sl) (T : Nat) : Prop where
  I : CI v G T
  gl : G.length = allS v
  kn : ∀ i, i < v.n → (v.o i).known = G.length
  tk : ∀ i j, i < v.n → j < v.n → (v.o i).taken (pidN j) = (v.sent j).length
  st : ∀ i, i < v.n → v.stop i = false
theorem CI.fin1 (h : CI v G T) (hF : Full v) (hl : G.length = allS v) (hs : ∀ i, i < v.n → v.stop i = false) : Fin1 v G T := ⟨h, hl, fun _ hi => h.knownAll hF hi, fun _ _ hi hj => h.takenAll hF hi hj, hs⟩
theorem MI.nextAll {n win : Nat} {G : List Sl} {sent : Nat → List (List Int)} {i : Nat} {o : Os} (m : MI n win G sent i o) (hG : SeqOk n G) (hk : o.known = G.length) (ht : ∀ j, j < n → ∀ q, q ≤ cnt (pidN j) G → q ≤ o.taken (pidN j)) (hn : o.next = none) : o.done = G.length := by
  have h1 := m.dk
  have h2 := m.pd
  rcases Nat.lt_or_ge o.done o.known with hlt | hge
  · exfalso
    have hs := m.slot (o.done - o.pre) (by omega)
    rw [show o.pre + (o.done - o.pre) = o.done by omega] at hs
    obtain ⟨x, hx⟩ : ∃ x, G[o.done]? = some x := ⟨_, List.getElem?_eq_getElem (by omega)⟩
    rw [hx] at hs
    have hxm := List.mem_of_getElem? hx
    obtain ⟨j, hj, hxs⟩ := hG.s x hxm
    obtain ⟨q1, q2, -⟩ := hG.qle hxm
    have hxe : x = ⟨pidN j, x.q⟩ := by cases x; simp at hxs; simp [hxs]
    rw [hxs] at q2
    have hnot : (⟨pidN j, x.q⟩ : Sl) ∉ G.take o.pre := fun hm => by
      rw [← hxe] at hm
      obtain ⟨p, hp⟩ := List.mem_iff_getElem?.1 hm
      have hp0 := (List.getElem?_eq_some_iff.1 hp).1
      rw [List.length_take] at hp0
      rw [List.getElem?_take_of_lt (by omega)] at hp
      have := hG.at hp hx
      omega
    obtain ⟨d, hd, he⟩ := m.hh j x.q hj q1 (ht j hj _ q2) hnot
    rw [← hxe] at he
    cases hf : o.held.find? (fun d => decide (d.sl = x)) with
    | none => have := List.find?_eq_none.1 hf d hd; simp [he] at this
    | some d' => rw [next_some hlt hs hf] at hn; cases hn
  · omega
theorem cnt_all {n : Nat} {G : List Sl} (hG : SeqOk n G) (h : CI v (G) T) (hq : (v.o 0).queue = []) {j : Nat} (hj : j < v.n) : cnt (pidN j) G = (v.o 0).taken (pidN j) := by
  have := h.gt j hj
  rwa [hq, List.append_nil] at this
theorem Fin1.queue (f : Fin1 v G T) : (v.o 0).queue = [] := by
  have h := f.I
  have hlen : (G ++ (v.o 0).queue).length = allS v := by
    rw [len_tot h.n1 h.n4 h.gq.s]
    exact tot_eq _ fun j hj => by rw [h.gt j hj, f.tk 0 j h.n1 hj]
  rw [List.length_append, f.gl] at hlen
  exact List.eq_nil_of_length_eq_zero (by omega)
theorem Fin1.cnt (f : Fin1 v G T) {j : Nat} (hj : j < v.n) : cnt (pidN j) G = (v.sent j).length := by
  rw [cnt_all f.I.gq.left f.I f.queue hj, f.tk 0 j f.I.n1 hj]
theorem Fin1.dlv (f : Fin1 v G T) (hT : T ≤ 100000) {i : Nat} (hi : i < v.n) {ms : List Mg} {o' : Os} (hd : DvAns (v.o i) 4611686018427387904 ms o') : Fin1 (v.dlv i ms o') G T ∧ o'.done = G.length ∧ o'.least ≤ o'.pre := by
  obtain ⟨c, hdone, -, -, -⟩ := f.I.deliver hi hd
  have hl := f.I.len
  rw [List.length_append] at hl
  rcases hd with ⟨hf, -⟩ | ⟨-, -, o1, hd, hl1, -, rfl⟩
  · rw [f.I.frz i hi, f.st i hi] at hf
    rcases hf with hf | hf
    · cases hf
    · omega
  obtain ⟨a1, a2, a3, a4, a5, a6, a7, a8, -⟩ := f.I.dlv hi hd
  have hkn := f.kn i hi
  have hnone : o1.next = none := by
    rcases hl1 with hl1 | ⟨-, hl1⟩
    · have h1 := a1.dk
      rw [a4, hkn, a2] at h1
      omega
    · exact hl1
  have h1 := a1.nextAll f.I.gq.left (a4.trans hkn) (fun j hj q hq => by rw [a5, f.tk i j hi hj, ← f.cnt hj]; exact hq) hnone
  have K := rise_keeps o1 o1.least
  have hle : (o1.rise o1.least).least = o1.least := K.least
  have hri := (a1.rise (least_le o1)).2.1
  refine ⟨⟨c, f.gl, fun k hk => ?_, fun k j hk hj => ?_, f.st⟩, by rw [K.done]; exact h1, by rw [hle, hri]; omega⟩
  · show (upN v.o i (o1.rise o1.least) k).known = G.length
    exact upN_case (p := fun k (o : Os) => o.known = G.length) k (fun _ => f.kn k hk) fun _ => by rw [(a1.rise (least_le o1)).2.2, a4]; exact hkn
  · show (upN v.o i (o1.rise o1.least) k).taken (pidN j) = (v.sent j).length
    exact upN_case (p := fun _ (o : Os) => o.taken (pidN j) = (v.sent j).length) k (fun _ => f.tk k j hk hj) fun _ => by rw [K.taken, a5]; exact f.tk i j hi hj
structure FinE (v : Crw) (G : List Sl) (i : Nat) : Prop where
  dn : (v.o i).done = G.length
  le : (v.o i).least ≤ (v.o i).pre
theorem leastTo_ge {o : Os} {N : Nat} : ∀ (l : List Nat) (m : Nat), N ≤ m → (∀ q ∈ l, q ≠ o.self → N ≤ o.told q) → N ≤ leastTo o l m
  | [], m, h, _ => h
  | q :: l, m, h, ht => by
    rw [leastTo]
    refine leastTo_ge l _ ?_ fun p hp => ht p (List.mem_cons_of_mem _ hp)
    split
    · exact h
    · rename_i e; have := ht q List.mem_cons_self e; omega
theorem Fin1.preAll (f : Fin1 v G T) {i : Nat} (hi : i < v.n) (e : FinE v G i) (ht : ∀ j, j < v.n → j ≠ i → G.length ≤ (v.o i).told (pidN j)) : (v.o i).pre = G.length := by
  have m := f.I.mi i hi
  have h1 := e.le
  have h2 : G.length ≤ (v.o i).least := by
    unfold Os.least
    refine leastTo_ge _ _ (by rw [e.dn]; exact Nat.le_refl _) fun q hq hne => ?_
    rw [m.mem] at hq
    unfold pidsN at hq
    obtain ⟨j, hj, rfl⟩ := List.mem_map.1 hq
    exact ht j (List.mem_range.1 hj) fun e2 => hne (by rw [e2, m.self])
  have h3 := m.pd
  have h4 := e.dn
  omega
theorem Fin1.held (f : Fin1 v G T) {i : Nat} (hi : i < v.n) (hp : (v.o i).pre = G.length) : (v.o i).held = [] := by
  have m := f.I.mi i hi
  cases hh : (v.o i).held with
  | nil => rfl
  | cons d l =>
    obtain ⟨h1, j, hj, h2, h3, h4, -⟩ := m.he d (by rw [hh]; exact List.mem_cons_self)
    exfalso
    refine h1 ?_
    rw [hp, List.take_length]
    rw [h2, f.tk i j hi hj, ← f.cnt hj] at h4
    have := f.I.gq.left.all G.length d.q (Nat.le_refl _) h3 (by rw [List.take_length]; exact h4)
    rw [List.take_length] at this
    have e : d.sl = ⟨pidN j, d.q⟩ := by unfold Dt.sl; rw [h2]
    rw [e]; exact this
theorem Fin1.freeAll (f : Fin1 v G T) {i : Nat} (hi : i < v.n) (hp : (v.o i).pre = G.length) : (v.o i).free = v.win := by
  have m := f.I.mi i hi
  rw [f.I.free hi, f.st i hi, if_neg (by decide), f.tk i i hi hi, m.gn, hp, List.take_length, f.cnt hi]
  omega
theorem Fin1.mineAll (f : Fin1 v G T) {i : Nat} (hi : i < v.n) (hd : (v.o i).done = G.length) : (v.o i).mine = (v.sent i).length := by
  rw [(f.I.mi i hi).mine, hd, List.take_length, f.cnt hi]
theorem Fin1.slotsAll (f : Fin1 v G T) {i : Nat} (hi : i < v.n) (hp : (v.o i).pre = G.length) : (v.o i).slots = [] := by
  rw [(f.I.mi i hi).sl, f.kn i hi, hp, List.take_length, List.drop_length]
theorem Fin1.hear (f : Fin1 v G T) (hT : T ≤ 100000) {i j m : Nat} (hi : i < v.n) (hj : j < v.n) (hne : i ≠ j) {t : Stb} (ht : (v.told i)[m]? = some t) (hE : FinE v G j) : Fin1 (v.hear i j m) G T ∧ FinE (v.hear i j m) G j ∧ t.d ≤ (((v.hear i j m).o j).told (pidN i) : Int) ∧ (∀ k, (v.o j).told k ≤ ((v.hear i j m).o j).told k) ∧ (∀ k, k ≠ j → (v.hear i j m).o k = v.o k) ∧ (v.hear i j m).told = v.told ∧ (v.hear i j m).n = v.n := by
  have hfz : (v.o j).frz = false := by rw [f.I.frz j hj]; exact f.st j hj
  have hmem := List.mem_of_getElem? ht
  obtain ⟨o', hh, c, -⟩ := f.I.hear hT hi hj hne hmem hfz
  have ev : v.hear i j m = { v with o := upN v.o j o' } := by
    unfold Crw.hear
    rw [if_neg hne, ht]
    show (if v.stop j = true then v else _) = _
    rw [if_neg (by rw [f.st j hj]; simp), hh]
  -- what o' is
  obtain ⟨h1, d, p, h2, h3, h4, h5, h6⟩ := f.I.tr i hi t hmem
  have hmi := f.I.mi j hj
  have hpd : p ≤ (v.o j).done := h6 j hj
  have ho : o' = (((v.o j).heard (pidN i) d).rise p).rise (((v.o j).heard (pidN i) d).rise p).least := by
    have hl := f.I.len
    rw [List.length_append] at hl
    have k1 := (f.I.mi i hi).kg
    have k2 := (f.I.mi i hi).dk
    have h5 : d ≤ (v.o i).done := h5
    have hme := f.I.isMem hi hj
    have := hh
    unfold Os.hear at this
    rw [if_neg (by rw [hme, hmi.self]; rintro (e | e); exact absurd e (by simp); exact hne (pidN_inj (by exact_mod_cast e))), if_neg (by rw [h2, h3]; omega), if_neg (by rw [h1, hmi.id]; simp), if_neg (by rw [hfz]; simp), if_neg (by rw [h3]; omega), h2, h3] at this
    injection this with _ this
    exact this.symm
  obtain ⟨oh, hoh⟩ : ∃ oh, oh = ((v.o j).heard (pidN i) d).rise p := ⟨_, rfl⟩
  rw [← hoh] at ho
  have K1 := rise_keeps ((v.o j).heard (pidN i) d) p
  rw [← hoh] at K1
  have K2 := rise_keeps oh oh.least
  rw [← ho] at K2
  have hM : MI v.n v.win G v.sent j oh := by
    have hmh : MI v.n v.win G v.sent j ((v.o j).heard (pidN i) d) := ⟨hmi.id, hmi.mem, hmi.self, hmi.win, hmi.kg, hmi.pd, hmi.dk, hmi.sl, hmi.pl, hmi.gn, hmi.tk, hmi.tz, hmi.he, hmi.hh, hmi.nd, hmi.mine, hmi.dl⟩
    rw [hoh]; exact (hmh.rise (m := p) hpd).1
  have hkn1 : oh.known = (v.o j).known := by
    have hmh : MI v.n v.win G v.sent j ((v.o j).heard (pidN i) d) := ⟨hmi.id, hmi.mem, hmi.self, hmi.win, hmi.kg, hmi.pd, hmi.dk, hmi.sl, hmi.pl, hmi.gn, hmi.tk, hmi.tz, hmi.he, hmi.hh, hmi.nd, hmi.mine, hmi.dl⟩
    rw [hoh]; exact (hmh.rise (m := p) hpd).2.2
  obtain ⟨r1, r2, r3⟩ := hM.rise (least_le oh)
  rw [← ho] at r1 r2 r3
  have hle : o'.least = oh.least := K2.least
  have htold : o'.told = upN (v.o j).told (pidN i) (max ((v.o j).told (pidN i)) d) := by rw [K2.told, K1.told]; rfl
  have hdone : o'.done = (v.o j).done := by rw [K2.done, K1.done]; rfl
  have htaken : o'.taken = (v.o j).taken := by rw [K2.taken, K1.taken]; rfl
  rw [ev]
  refine ⟨⟨c, f.gl, fun k hk => ?_, fun k a hk ha => ?_, f.st⟩, ⟨?_, ?_⟩, ?_, fun k => ?_, fun k hk => upN_ne _ _ hk, rfl, rfl⟩
  · show (upN v.o j o' k).known = G.length
    exact upN_case (p := fun k (o : Os) => o.known = G.length) k (fun _ => f.kn k hk) fun _ => by rw [r3, hkn1]; exact f.kn j hj
  · show (upN v.o j o' k).taken (pidN a) = (v.sent a).length
    exact upN_case (p := fun _ (o : Os) => o.taken (pidN a) = (v.sent a).length) k (fun _ => f.tk k a hk ha) fun _ => by rw [htaken]; exact f.tk j a hj ha
  · show (upN v.o j o' j).done = _
    rw [upN_same, hdone]; exact hE.dn
  · show (upN v.o j o' j).least ≤ (upN v.o j o' j).pre
    rw [upN_same, hle, r2]; omega
  · show t.d ≤ (((upN v.o j o' j).told (pidN i) : Nat) : Int)
    rw [upN_same, htold, upN_same, h2]; omega
  · show _ ≤ (upN v.o j o' j).told k
    rw [upN_same, htold]
    unfold upN
    split
    · rename_i e; rw [e]; omega
    · exact Nat.le_refl _
end
end Go.Proofs.Ytoilipfgimcoiaa
