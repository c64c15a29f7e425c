/- CrAc CrOne OrClose OdMp OdMl, joined. -/
import Derived.Test.YtoilipfgimcoiaaRows
import Derived.Deep.Slices
import Derived.Deep.Fields
import Derived.WalkKit
import Derived.ProofKit
import Derived.OpenShut
import Derived.JoinedCond
import Derived.Below
import Derived.Carry
import Derived.ChangeSame
import Derived.Test.YtoilipfgimcoiaaProg
import Derived.Shelf.SlLaysF0
import Derived.Shelf.SlGeneric
import Derived.Test.YtoilipfgimcoiaaOe3
import Derived.Test.YtoilipfgimcoiaaOe12
import Derived.Test.YtoilipfgimcoiaaOe20
set_option linter.unusedVariables false
set_option linter.unusedSimpArgs false
namespace Go.Proofs.Ytoilipfgimcoiaa
open Go Go.RowKit
structure Acn where
  kd : Int
  who : Int
  to : Int
  n : Int
  b : List Int
abbrev acA (a : Acn) (B : Option Addr) (c n : Nat) : Array Value := #[.int .i64 a.kd, .int .i64 a.who, .int .i64 a.to, .int .i64 a.n, .slice B n c]
def Acn.wf (a : Acn) : Prop := (-9223372036854775808 ≤ a.who ∧ a.who ≤ 9223372036854775807) ∧ (-9223372036854775808 ≤ a.to ∧ a.to ≤ 9223372036854775807) ∧ (-9223372036854775808 ≤ a.n ∧ a.n ≤ 9223372036854775807)
structure Stp (v v' : Crw) (kd : Int) (wh : Nat) : Prop where
  n : v'.n = v.n
  win : v'.win = v.win
  fz : ∀ k, k < v.n → v.stop k = true → v'.o k = v.o k ∧ v'.stop k = true
  st : kd ≠ 7 → v'.stop = v.stop
  tl : ∀ k, (v'.told k).length ≤ (v.told k).length + 1
  sk : ∀ k, v'.stop k = true → v.stop k = true ∨ k = wh
theorem Stp.refl (v : Crw) (kd : Int) (wh : Nat) : Stp v v kd wh := ⟨rfl, rfl, fun _ _ h => ⟨rfl, h⟩, fun _ => rfl, fun _ => Nat.le_succ _, fun _ h => .inl h⟩
section
variable {v : Crw} {G : List Sl} {T : Nat}
theorem stp_send (h : CI v G T) {i : Nat} (hi : i < v.n) (b : List Int) (kd : Int) (wh : Nat) : Stp v (v.send i b) kd wh := by
  unfold Crw.send
  by_cases e : (v.o i).free = 0
  · rw [if_pos e]; exact .refl v kd wh
  · rw [if_neg e]
    have hf := h.free hi
    refine ⟨rfl, rfl, fun k hk hs => ⟨upN_ne _ _ fun e2 => ?_, hs⟩, fun _ => rfl, fun _ => Nat.le_succ _, fun _ h => .inl h⟩
    subst e2
    rw [hs] at hf
    exact e hf
theorem stp_carry (i j : Nat) (kd : Int) (wh : Nat) : Stp v (v.carry i j) kd wh := by
  unfold Crw.carry
  by_cases e : i = j
  · rw [if_pos e]; exact .refl v kd wh
  rw [if_neg e]
  cases hit : (v.made i)[v.had i j]? with
  | none => exact .refl v kd wh
  | some it =>
    show Stp v (if v.stop j = true then v else _) kd wh
    by_cases hs : v.stop j = true
    · rw [if_pos hs]; exact .refl v kd wh
    · rw [if_neg hs]
      exact ⟨rfl, rfl, fun k hk hk2 => ⟨upN_ne _ _ fun e2 => hs (by rw [← e2]; exact hk2), hk2⟩, fun _ => rfl, fun _ => Nat.le_succ _, fun _ h => .inl h⟩
theorem stp_assign (h : CI v G T) {i : Nat} (hi : i < v.n) (n : Int) (kd : Int) (wh : Nat) : Stp v (v.assign i n) kd wh := by
  by_cases hs : v.stop i = true
  · rw [Crw.assign_nil (h.assign_nil hi (.inr (.inl hs)))]; exact .refl v kd wh
  · exact ⟨rfl, rfl, fun k hk hk2 => ⟨upN_ne _ _ fun e2 => hs (by rw [← e2]; exact hk2), hk2⟩, fun _ => rfl, fun _ => Nat.le_succ _, fun _ h => .inl h⟩
theorem stp_dlv (h : CI v G T) {i : Nat} (hi : i < v.n) {N : Int} {ms : List Mg} {o' : Os} (hd : DvAns (v.o i) N ms o') (kd : Int) (wh : Nat) : Stp v (v.dlv i ms o') kd wh := by
  refine ⟨rfl, rfl, fun k hk hk2 => ⟨?_, hk2⟩, fun _ => rfl, fun _ => Nat.le_succ _, fun _ h => .inl h⟩
  show upN v.o i o' k = _
  by_cases e : k = i
  · subst e
    rw [upN_same]
    rcases hd with ⟨-, -, e⟩ | ⟨hf, -⟩
    · exact e
    · rw [h.frz k hi, hk2] at hf; cases hf
  · exact upN_ne _ _ e
theorem stp_hear (i j m : Nat) (kd : Int) (wh : Nat) : Stp v (v.hear i j m) kd wh := by
  unfold Crw.hear
  by_cases e : i = j
  · rw [if_pos e]; exact .refl v kd wh
  rw [if_neg e]
  cases hit : (v.told i)[m]? with
  | none => exact .refl v kd wh
  | some t =>
    show Stp v (if v.stop j = true then v else _) kd wh
    by_cases hs : v.stop j = true
    · rw [if_pos hs]; exact .refl v kd wh
    · rw [if_neg hs]
      exact ⟨rfl, rfl, fun k hk hk2 => ⟨upN_ne _ _ fun e2 => hs (by rw [← e2]; exact hk2), hk2⟩, fun _ => rfl, fun _ => Nat.le_succ _, fun _ h => .inl h⟩
def Crw.tell (v : Crw) (i : Nat) : Crw := { v with told := upN v.told i (v.told i ++ [⟨(v.o i).id, (v.o i).done, (v.o i).pre⟩]) }
def Crw.freeze (v : Crw) (i : Nat) : Crw := { v with o := upN v.o i { v.o i with frz := true }, stop := upN v.stop i true }
theorem stp_tell (i : Nat) (kd : Int) (wh : Nat) : Stp v (v.tell i) kd wh := ⟨rfl, rfl, fun _ _ h => ⟨rfl, h⟩, fun _ => rfl, fun k => by
  show (upN v.told i _ k).length ≤ _
  exact upN_case (p := fun k (l : List Stb) => l.length ≤ (v.told k).length + 1) k (fun _ => Nat.le_succ _) fun _ => by rw [List.length_append]; simp, fun _ h => .inl h⟩
theorem stp_freeze (h : CI v G T) {i : Nat} (hi : i < v.n) : Stp v (v.freeze i) 7 i := by
  refine ⟨rfl, rfl, fun k hk hk2 => ⟨?_, ?_⟩, fun e => absurd rfl e, fun _ => Nat.le_succ _, fun k hk => ?_⟩
  · show upN v.o i _ k = _
    by_cases e : k = i
    · subst e
      rw [upN_same]
      have hf := h.frz k hi
      rw [hk2] at hf
      cases ho : v.o k with
      | mk id mem self win frz seen taken placed gone told held queue slots pre done mine => rw [ho] at hf; simp at hf; rw [hf]
    · exact upN_ne _ _ e
  · show upN v.stop i true k = true
    exact upN_case (p := fun _ (t : Bool) => t = true) k (fun _ => hk2) fun _ => rfl
  · have hk : upN v.stop i true k = true := hk
    by_cases e : k = i
    · exact .inr e
    · rw [upN_ne _ _ e] at hk; exact .inl hk
end
def ActP (w : World) (K : Nat → Nat) (b : Nat) (v : Crw) (T : Nat) (kd : Int) (wh : Nat) (w' : World) : Prop := ∃ K' v' X' G', CrwAt w' K' b v' X' ∧ CI v' G' (T + 1) ∧ Stp v v' kd wh ∧ Ro (fun z => 0 < z ∧ z < 400) K K' w w'
theorem bs86 (W : World) (s : Stb) : (Instr.buildSlice 86 1 #[(0, .agg (sbA s))]).run Try.prog W = .ok (.slice (some ⟨W.heap.size, 0, none⟩) 1 1) (W.alloc (.cells (sbA s) 88)) := by kernel_rfl
theorem info88 : (Try.prog.info? 88).map (fun i => (i.zero, i.size, i.bytes)) = some (some (.agg #[.int .i64 0, .int .i64 0, .int .i64 0, .int .i64 0, .int .i64 0, .int .i64 0]), 6, 48) := by kernel_rfl
section
variable {w : World} {K : Nat → Nat} {b : Nat} {v : Crw} {X : CwX} {G : List Sl} {T : Nat}
set_option maxRecDepth 100000 in
set_option maxHeartbeats 16000000 in
theorem act_any (C : CrwAt w K b v X) (I : CI v G T) (hT : T ≤ 90000) (htl : ∀ k, (v.told k).length ≤ 500000) (a : Acn) (hwf : a.wf) {B : Option Addr} {cB nB : Nat} (hnB : a.b.length = nB) (hcB : nB ≤ cB) (hB : RowK w K 1 eByte B a.b) :
    Calls Try.prog 10 #[.pointer (some ⟨b, 0, none⟩), .agg (acA a B cB nB)] w fun e w' => e = .returned (.bool true) ∧ ActP w K b v T a.kd (absL a.who % (v.n : Int)).toNat w' := by
  refine calls_vc tab_ok Try.func10 rfl ?_
  have n1 := I.n1
  have n4 := I.n4
  have hbz := C.hb
  have hkb := C.kb
  obtain ⟨⟨who1, who2⟩, ⟨to1, to2⟩, ⟨nn1, nn2⟩⟩ := hwf
  have p1 := absL_nonneg a.who
  have p2 := absL_nonneg a.to
  obtain ⟨i, hi'⟩ : ∃ i : Nat, absL a.who % (v.n : Int) = i := ⟨(absL a.who % (v.n : Int)).toNat, by have := Int.emod_nonneg (absL a.who) (show (v.n : Int) ≠ 0 by omega); omega⟩
  obtain ⟨j, hj'⟩ : ∃ j : Nat, absL a.to % (v.n : Int) = j := ⟨(absL a.to % (v.n : Int)).toNat, by have := Int.emod_nonneg (absL a.to) (show (v.n : Int) ≠ 0 by omega); omega⟩
  have hi : i < v.n := by have := Int.emod_lt_of_pos (absL a.who) (show (0 : Int) < (v.n : Int) by omega); omega
  have hj : j < v.n := by have := Int.emod_lt_of_pos (absL a.to) (show (0 : Int) < (v.n : Int) by omega); omega
  rw [show (absL a.who % (v.n : Int)).toNat = i by omega]
  conv => whnf
  refine .mk fun wA hwA => ?_
  obtain ⟨bt, hbt⟩ : ∃ bt, bt = w.heap.size := ⟨_, rfl⟩
  rw [← hbt]
  have bA : Below w.heap.size w wA := by rw [hwA.out]; exact below_box1 _ _ _
  have zA : wA.heap.size = w.heap.size + 1 := by rw [hwA.out]; simp
  have oA : wA.rangeAt bt 0 (acA a B cB nB).toList := by rw [hwA.out, hbt]; exact range_new w _ 29
  clear hwA
  have CA := C.below bA
  have L1 := CA.l_O (l := [b, bt]) (by simp)
  have T0 : Ld Try.prog 3 bt 0 (Sm [b, bt] wA) (.int .i64 a.kd) := ⟨fun W hW => load3 (cell_sm (oA 0 _ rfl) (by simp) hW)⟩
  have T1 : Ld Try.prog 3 bt 1 (Sm [b, bt] wA) (.int .i64 a.who) := ⟨fun W hW => load3 (cell_sm (oA 1 _ rfl) (by simp) hW)⟩
  have T2 : Ld Try.prog 3 bt 2 (Sm [b, bt] wA) (.int .i64 a.to) := ⟨fun W hW => load3 (cell_sm (oA 2 _ rfl) (by simp) hW)⟩
  have T3 : Ld Try.prog 3 bt 3 (Sm [b, bt] wA) (.int .i64 a.n) := ⟨fun W hW => load3 (cell_sm (oA 3 _ rfl) (by simp) hW)⟩
  have T4 : Ld Try.prog 27 bt 4 (Sm [b, bt] wA) (.slice B nB cB) := ⟨fun W hW => load27 (cell_sm (oA 4 _ rfl) (by simp) hW)⟩
  have s0 := Sm.refl [b, bt] wA
  have sd : Sm [b, bt] wA wA.drew := s0
  have sdd : Sm [b, bt] wA wA.drew.drew := s0
  have hdA : Below wA.heap.size wA wA.drew := (Below.refl _ wA).drew
  have hddA : Below wA.heap.size wA wA.drew.drew := hdA.drew
  repeat ((conv => whnf); first | (refine VCmp.tt (by omega) ?_) | (refine VCmp.ff (by omega) ?_) | (refine VIn.mk (IntWalk.i64_in _ (by omega)) ?_) | (refine VIdx.mk _ rfl (by omega) ?_) | (refine VIdx.mk 0 rfl (by omega) ?_))
  try (conv => whnf)
  refine VDraw.pl 1000 (.one [0, 1, 3, 4, 5, 6, 7] 2 (.stop [8, 9])) (Sm [b, bt] wA) (by kernel_rfl) (sd) ?_
  repeat ((conv => whnf); first | (refine VLoad.mk _ T1 ?_) | (refine VLoad.mk _ L1 ?_) | (refine VCmp.tt (by omega) ?_) | (refine VCmp.ff (by omega) ?_) | (refine VIn.mk (IntWalk.i64_in _ (by omega)) ?_) | (refine VIdx.mk _ rfl (by omega) ?_) | (refine VIdx.mk 0 rfl (by omega) ?_))
  try (conv => whnf)
  refine VCall.mk _ (abs_any a.who wA.drew who1 who2) ?_
  rintro _ x5 ⟨rfl, e5⟩
  subst x5
  refine ⟨_, rfl, ?_⟩
  repeat ((conv => whnf); first | (refine VS.mk sd ?_) | (refine VCmp.tt (by omega) ?_) | (refine VCmp.ff (by omega) ?_) | (refine VIn.mk (IntWalk.i64_in _ (by omega)) ?_) | (refine VIdx.mk _ rfl (by omega) ?_) | (refine VIdx.mk 0 rfl (by omega) ?_))
  try (conv => whnf)
  refine VQ.rem i rfl rfl rfl p1 (by omega) hi' (by omega) ?_
  repeat ((conv => whnf); first | (refine VS.mk sd ?_) | (refine VCmp.tt (by omega) ?_) | (refine VCmp.ff (by omega) ?_) | (refine VIn.mk (IntWalk.i64_in _ (by omega)) ?_) | (refine VIdx.mk _ rfl (by omega) ?_) | (refine VIdx.mk 0 rfl (by omega) ?_))
  try (conv => whnf)
  refine VDraw.pl 1000 (.one [0, 1, 3, 4, 5, 6, 7] 2 (.stop [8, 9])) (Sm [b, bt] wA) (by kernel_rfl) (sdd) ?_
  repeat ((conv => whnf); first | (refine VLoad.mk _ T2 ?_) | (refine VLoad.mk _ L1 ?_) | (refine VCmp.tt (by omega) ?_) | (refine VCmp.ff (by omega) ?_) | (refine VIn.mk (IntWalk.i64_in _ (by omega)) ?_) | (refine VIdx.mk _ rfl (by omega) ?_) | (refine VIdx.mk 0 rfl (by omega) ?_))
  try (conv => whnf)
  refine VCall.mk _ (abs_any a.to wA.drew.drew to1 to2) ?_
  rintro _ x5 ⟨rfl, e5⟩
  subst x5
  refine ⟨_, rfl, ?_⟩
  repeat ((conv => whnf); first | (refine VS.mk sdd ?_) | (refine VCmp.tt (by omega) ?_) | (refine VCmp.ff (by omega) ?_) | (refine VIn.mk (IntWalk.i64_in _ (by omega)) ?_) | (refine VIdx.mk _ rfl (by omega) ?_) | (refine VIdx.mk 0 rfl (by omega) ?_))
  try (conv => whnf)
  refine VQ.rem j rfl rfl rfl p2 (by omega) hj' (by omega) ?_
  obtain ⟨wB, hwB⟩ : ∃ wB, wB = wA.drew.drew := ⟨_, rfl⟩
  have bB : Below w.heap.size w wB := by rw [hwB]; exact bA.trans (hddA.mono (by omega))
  have CB : CrwAt wB K b v X := by rw [hwB]; exact CA.below hddA
  have sB : Sm [b, bt] wA wB := by rw [hwB]; exact sdd
  repeat ((conv => whnf); first | (refine VS.mk sdd ?_) | (refine VLoad.mk _ (T0.at sdd) ?_) | (refine VCmp.tt (by omega) ?_) | (refine VCmp.ff (by omega) ?_) | (refine VIn.mk (IntWalk.i64_in _ (by omega)) ?_) | (refine VIdx.mk _ rfl (by omega) ?_) | (refine VIdx.mk 0 rfl (by omega) ?_))
  try (conv => whnf)
  rw [← hwB]
  have hBB : RowK wB K 1 eByte B a.b := hB.ro (Ro.below (R := fun _ => False) bB) id
  have qB : Ro (fun z => 0 < z ∧ z < 400) K K w wB := Ro.below bB
  clear hwB L1 sd sdd hdA hddA bA CA
  by_cases k1 : a.kd = 1
  · repeat ((conv => whnf); first | (refine VLoad.mk _ (T4.at sB) ?_) | (refine VCmp.tt (by omega) ?_) | (refine VCmp.ff (by omega) ?_) | (refine VIn.mk (IntWalk.i64_in _ (by omega)) ?_) | (refine VIdx.mk _ rfl (by omega) ?_) | (refine VIdx.mk 0 rfl (by omega) ?_))
    try (conv => whnf)
    refine VCall.mk _ (csend_any CB I (by omega) hi a.b hnB hcB hBB) ?_
    rintro _ w2 ⟨rfl, K2, X2, C2, q2⟩
    refine ⟨_, rfl, ?_⟩
    repeat ((conv => whnf); first | (refine VCmp.tt (by omega) ?_) | (refine VCmp.ff (by omega) ?_) | (refine VIn.mk (IntWalk.i64_in _ (by omega)) ?_) | (refine VIdx.mk _ rfl (by omega) ?_) | (refine VIdx.mk 0 rfl (by omega) ?_))
    try (conv => whnf)
    exact .mk ⟨rfl, K2, _, X2, G, C2, I.send' hi _ (by rw [List.length_take]; omega), stp_send I hi _ _ _, qB.trans q2⟩
  by_cases k2 : a.kd = 2
  · repeat ((conv => whnf); first | (refine VCmp.tt (by omega) ?_) | (refine VCmp.ff (by omega) ?_) | (refine VIn.mk (IntWalk.i64_in _ (by omega)) ?_) | (refine VIdx.mk _ rfl (by omega) ?_) | (refine VIdx.mk 0 rfl (by omega) ?_))
    try (conv => whnf)
    refine VCall.mk _ (carry_any CB I (by omega) hi hj) ?_
    rintro _ w2 ⟨rfl, K2, X2, C2, q2⟩
    refine ⟨_, rfl, ?_⟩
    repeat ((conv => whnf); first | (refine VCmp.tt (by omega) ?_) | (refine VCmp.ff (by omega) ?_) | (refine VIn.mk (IntWalk.i64_in _ (by omega)) ?_) | (refine VIdx.mk _ rfl (by omega) ?_) | (refine VIdx.mk 0 rfl (by omega) ?_))
    try (conv => whnf)
    exact .mk ⟨rfl, K2, _, X2, G, C2, (I.carry' (by omega) hi hj).mono (by omega), stp_carry i j _ _, qB.trans q2⟩
  by_cases k3 : a.kd = 3
  · repeat ((conv => whnf); first | (refine VLoad.mk _ (T3.at sB) ?_) | (refine VCmp.tt (by omega) ?_) | (refine VCmp.ff (by omega) ?_) | (refine VIn.mk (IntWalk.i64_in _ (by omega)) ?_) | (refine VIdx.mk _ rfl (by omega) ?_) | (refine VIdx.mk 0 rfl (by omega) ?_))
    try (conv => whnf)
    refine VCall.mk _ (cassign_any CB I (by omega) hi a.n nn1 nn2) ?_
    rintro _ w2 ⟨rfl, K2, X2, C2, q2⟩
    refine ⟨_, rfl, ?_⟩
    repeat ((conv => whnf); first | (refine VCmp.tt (by omega) ?_) | (refine VCmp.ff (by omega) ?_) | (refine VIn.mk (IntWalk.i64_in _ (by omega)) ?_) | (refine VIdx.mk _ rfl (by omega) ?_) | (refine VIdx.mk 0 rfl (by omega) ?_))
    try (conv => whnf)
    obtain ⟨G', I'⟩ := I.assign' (by omega) hi a.n
    exact .mk ⟨rfl, K2, _, X2, G', C2, I'.mono (by omega), stp_assign I hi _ _ _, qB.trans q2⟩
  by_cases k4 : a.kd = 4
  · repeat ((conv => whnf); first | (refine VLoad.mk _ (T3.at sB) ?_) | (refine VCmp.tt (by omega) ?_) | (refine VCmp.ff (by omega) ?_) | (refine VIn.mk (IntWalk.i64_in _ (by omega)) ?_) | (refine VIdx.mk _ rfl (by omega) ?_) | (refine VIdx.mk 0 rfl (by omega) ?_))
    try (conv => whnf)
    refine VCall.mk _ (cdeliver_any CB I (by omega) hi a.n nn1 nn2) ?_
    rintro _ w2 ⟨rfl, K2, X2, ms, o', hD, C2, q2⟩
    refine ⟨_, rfl, ?_⟩
    repeat ((conv => whnf); first | (refine VCmp.tt (by omega) ?_) | (refine VCmp.ff (by omega) ?_) | (refine VIn.mk (IntWalk.i64_in _ (by omega)) ?_) | (refine VIdx.mk _ rfl (by omega) ?_) | (refine VIdx.mk 0 rfl (by omega) ?_))
    try (conv => whnf)
    exact .mk ⟨rfl, K2, _, X2, G, C2, (I.deliver hi hD).1.mono (by omega), stp_dlv I hi hD _ _, qB.trans q2⟩
  by_cases k6 : a.kd = 6
  · repeat ((conv => whnf); first | (refine VLoad.mk _ (T3.at sB) ?_) | (refine VCmp.tt (by omega) ?_) | (refine VCmp.ff (by omega) ?_) | (refine VIn.mk (IntWalk.i64_in _ (by omega)) ?_) | (refine VIdx.mk _ rfl (by omega) ?_) | (refine VIdx.mk 0 rfl (by omega) ?_))
    try (conv => whnf)
    refine VCall.mk _ (chear_any CB I (by omega) hi hj a.n nn1 nn2 (by have := htl i; omega)) ?_
    rintro _ w2 ⟨rfl, K2, X2, C2, q2⟩
    refine ⟨_, rfl, ?_⟩
    repeat ((conv => whnf); first | (refine VCmp.tt (by omega) ?_) | (refine VCmp.ff (by omega) ?_) | (refine VIn.mk (IntWalk.i64_in _ (by omega)) ?_) | (refine VIdx.mk _ rfl (by omega) ?_) | (refine VIdx.mk 0 rfl (by omega) ?_))
    try (conv => whnf)
    exact .mk ⟨rfl, K2, _, X2, G, C2, (I.hear' (by omega) hi hj _).mono (by omega), stp_hear i j _ _ _, qB.trans q2⟩
  by_cases k5 : a.kd = 5
  · obtain ⟨gT, oT, xT, aT⟩ := CB.told.get hi
    obtain ⟨gO, oO, bi, Y, eO, gO1, kO, hbi, cO, AO⟩ := CB.ord hi
    have M0 := CB.l_told (l := [b, gT, gO]) (by simp)
    have M1 := CB.l_O (l := [b, gT, gO]) (by simp)
    rw [aT.eA] at M0
    rw [eO] at M1
    have N0 : Ld Try.prog 86 gT (oT + i) (Sm [b, gT, gO] wB) (.slice xT.A (v.told i).length xT.c) := ⟨fun W hW => load86s (cell_sm aT.hc (by simp) hW)⟩
    have N1 : Ld Try.prog 42 gO (oO + i) (Sm [b, gT, gO] wB) (.pointer (some ⟨bi, 0, none⟩)) := ⟨fun W hW => load42 (cell_sm cO (by simp) hW)⟩
    have sd : Sm [b, gT, gO] wB wB.drew := fun _ _ => rfl
    have hbB := CB.hb
    have kbB := CB.kb
    have kT := aT.hk
    have hTB := aT.hg
    have hLB : ∀ g ∈ [b, gT, gO], g < wB.heap.size := fun g hg => by
      simp only [List.mem_cons, List.not_mem_nil, or_false] at hg
      rcases hg with rfl | rfl | rfl <;> assumption
    repeat ((conv => whnf); first | (refine VCmp.tt (by omega) ?_) | (refine VCmp.ff (by omega) ?_) | (refine VIn.mk (IntWalk.i64_in _ (by omega)) ?_) | (refine VIdx.mk _ rfl (by omega) ?_) | (refine VIdx.mk 0 rfl (by omega) ?_))
    try (conv => whnf)
    refine VDraw.pl 23 (.one [0, 1, 2, 3, 4, 5, 6, 7, 8, 9, 10, 11, 12, 13, 14, 15, 16, 17, 18] 19 (.one [] 20 (.one [] 21 (.one [22] 23 (.stop []))))) (Sm [b, gT, gO] wB) (by kernel_rfl) (sd) ?_
    repeat ((conv => whnf); first | (refine VLoad.mk _ M0 ?_) | (refine VLoad.mk _ M1 ?_) | (refine VLoad.mk _ N0 ?_) | (refine VLoad.mk _ N1 ?_) | (refine VCmp.tt (by omega) ?_) | (refine VCmp.ff (by omega) ?_) | (refine VIn.mk (IntWalk.i64_in _ (by omega)) ?_) | (refine VIdx.mk _ rfl (by omega) ?_) | (refine VIdx.mk 0 rfl (by omega) ?_))
    try (conv => whnf)
    have hd : Below wB.heap.size wB wB.drew := (Below.refl _ wB).drew
    refine VCall.mk _ (told_any (AO.below hd)) ?_
    rintro _ w2 ⟨rfl, b2⟩
    refine ⟨_, rfl, ?_⟩
    have b2' : Below wB.heap.size wB w2 := hd.trans b2
    have s2 : Sm [b, gT, gO] wB w2 := .below b2' hLB
    obtain ⟨t, ht⟩ : ∃ t : Stb, t = ⟨(v.o i).id, (v.o i).done, (v.o i).pre⟩ := ⟨_, rfl⟩
    have est : stA (v.o i) = sbA t := by rw [ht]; rfl
    rw [est]
    repeat ((conv => whnf); first | (refine VS.mk s2 ?_) | (refine VCmp.tt (by omega) ?_) | (refine VCmp.ff (by omega) ?_) | (refine VIn.mk (IntWalk.i64_in _ (by omega)) ?_) | (refine VIdx.mk _ rfl (by omega) ?_) | (refine VIdx.mk 0 rfl (by omega) ?_))
    try (conv => whnf)
    refine VBs.mk _ _ (bs86 w2 t) ?_
    have ba : Below w2.heap.size w2 (w2.alloc (.cells (sbA t) 88)) := (Below.refl _ _).alloc (Nat.le_refl _) _
    have hnc : ∀ j u, (eSb t)[j]? = some u → (w2.alloc (.cells (sbA t) 88)).cell? ⟨w2.heap.size, j, none⟩ = some u := fun j u hu => by
      have := range_new w2 (sbA t) 88 j u hu
      rwa [Nat.zero_add] at this
    have za : (w2.alloc (.cells (sbA t) 88)).heap.size = w2.heap.size + 1 := World.size_alloc _ _
    generalize w2.alloc (.cells (sbA t) 88) = w3 at ba hnc za ⊢
    have b3' : Below wB.heap.size wB w3 := b2'.trans (ba.mono b2'.size)
    have C3 := CB.below b3'
    have s3 : Sm [b, gT, gO] wB w3 := .below b3' hLB
    repeat ((conv => whnf); first | (refine VS.mk s3 ?_) | (refine VCmp.tt (by omega) ?_) | (refine VCmp.ff (by omega) ?_) | (refine VIn.mk (IntWalk.i64_in _ (by omega)) ?_) | (refine VIdx.mk _ rfl (by omega) ?_) | (refine VIdx.mk 0 rfl (by omega) ?_))
    try (conv => whnf)
    have a3 := C3.told.at hi aT.eA aT.hx
    have hti := htl i
    refine VApp.off 6 48 _ Try.underlying86 info88 rfl (by decide) eSb (fun _ => rfl) one_eSb xT.l t aT.ln a3.ow hnc C3.kz (by omega) (by omega) fun A4 c4 K4 w4 o4 q4 kz4 => ?_
    have s4 : Sm [b, gT, gO] wB w4 := s3.trans (.ro q4 fun g hg => by
      refine ⟨Nat.lt_of_lt_of_le (hLB g hg) b3'.size, ?_⟩
      simp only [List.mem_cons, List.not_mem_nil, or_false] at hg
      rcases hg with rfl | rfl | rfl <;> omega)
    repeat ((conv => whnf); first | (refine VS.mk s4 ?_) | (refine VCmp.tt (by omega) ?_) | (refine VCmp.ff (by omega) ?_) | (refine VIn.mk (IntWalk.i64_in _ (by omega)) ?_) | (refine VIdx.mk _ rfl (by omega) ?_) | (refine VIdx.mk 0 rfl (by omega) ?_))
    try (conv => whnf)
    refine VStore.cell (by kernel_rfl) (by rw [show oT + mulO i 1 = oT + i from rfl, cell_sm aT.hc (by simp) s4]; rfl) ((World.frozen?_of_block (a := ⟨gT, _, none⟩) (s4 gT (by simp))).trans aT.hf) rfl rfl fun w5 hw5 => ?_
    obtain ⟨C5, q5⟩ := C3.push_told hi a3 t o4 q4 kz4 (w2 := w5) (by rw [hw5.out]; rfl)
    clear hw5
    repeat ((conv => whnf); first | (refine VS.last rfl ?_) | (refine VCmp.tt (by omega) ?_) | (refine VCmp.ff (by omega) ?_) | (refine VIn.mk (IntWalk.i64_in _ (by omega)) ?_) | (refine VIdx.mk _ rfl (by omega) ?_) | (refine VIdx.mk 0 rfl (by omega) ?_))
    try (conv => whnf)
    rw [ht] at C5
    exact .mk ⟨rfl, K4, v.tell i, _, G, C5, (I.tell hi).mono (by omega), stp_tell i _ _, (qB.trans (Ro.below b3')).trans (q5.more fun z hz => by omega)⟩
  by_cases k7 : a.kd = 7
  · obtain ⟨gP, oP, eP, gP1, kP, cP, fP⟩ := CB.stp hi
    obtain ⟨gO, oO, bi, Y, eO, gO1, kO, hbi, cO, AO⟩ := CB.ord hi
    have M0 := CB.l_stop (l := [b, gP, gO]) (by simp)
    have M1 := CB.l_O (l := [b, gP, gO]) (by simp)
    rw [eP] at M0
    rw [eO] at M1
    have N1 : Ld Try.prog 42 gO (oO + i) (Sm [b, gP, gO] wB) (.pointer (some ⟨bi, 0, none⟩)) := ⟨fun W hW => load42 (cell_sm cO (by simp) hW)⟩
    have sz := Sm.refl [b, gP, gO] wB
    have hbB := CB.hb
    have kbB := CB.kb
    repeat ((conv => whnf); first | (refine VLoad.mk _ (M1.at sz) ?_) | (refine VLoad.mk _ (N1.at sz) ?_) | (refine VCmp.tt (by omega) ?_) | (refine VCmp.ff (by omega) ?_) | (refine VIn.mk (IntWalk.i64_in _ (by omega)) ?_) | (refine VIdx.mk _ rfl (by omega) ?_) | (refine VIdx.mk 0 rfl (by omega) ?_))
    try (conv => whnf)
    refine VCall.mk _ (freeze_any AO) ?_
    rintro _ w2 ⟨rfl, K2, Y2, A2, q2⟩
    refine ⟨_, rfl, ?_⟩
    have s2 : Sm [b, gP, gO] wB w2 := .ro q2 fun g hg => by
      simp only [List.mem_cons, List.not_mem_nil, or_false] at hg
      unfold inR
      rcases hg with rfl | rfl | rfl <;> omega
    have C2 := CB.setO hi hbi A2 q2
    repeat ((conv => whnf); first | (refine VLoad.mk _ (M0.at s2) ?_) | (refine VCmp.tt (by omega) ?_) | (refine VCmp.ff (by omega) ?_) | (refine VIn.mk (IntWalk.i64_in _ (by omega)) ?_) | (refine VIdx.mk _ rfl (by omega) ?_) | (refine VIdx.mk 0 rfl (by omega) ?_))
    try (conv => whnf)
    refine VStore.cell (by kernel_rfl) (by rw [show oP + mulO i 1 = oP + i from rfl, cell_sm cP (by simp) s2]; rfl) ((World.frozen?_of_block (a := ⟨gP, _, none⟩) (s2 gP (by simp))).trans fP) rfl rfl fun w3 hw3 => ?_
    obtain ⟨C3, q3⟩ := C2.set_stop hi eP (w2 := w3) (by rw [hw3.out]; rfl)
    clear hw3
    obtain ⟨X3, C3⟩ : ∃ X3, CrwAt w3 K2 b (v.freeze i) X3 := ⟨_, C3⟩
    obtain ⟨gO', oO', bi', Y', eO', gO1', kO', hbi', cO', AO'⟩ := C3.ord hi
    have M2 := C3.l_O (l := [b, gO']) (by simp)
    rw [eO', show (v.freeze i).n = v.n from rfl] at M2
    have N2 : Ld Try.prog 42 gO' (oO' + i) (Sm [b, gO'] w3) (.pointer (some ⟨bi', 0, none⟩)) := ⟨fun W hW => load42 (cell_sm cO' (by simp) hW)⟩
    have s3 := Sm.refl [b, gO'] w3
    repeat ((conv => whnf); first | (refine VLoad.mk _ (M2.at s3) ?_) | (refine VLoad.mk _ (N2.at s3) ?_) | (refine VCmp.tt (by omega) ?_) | (refine VCmp.ff (by omega) ?_) | (refine VIn.mk (IntWalk.i64_in _ (by omega)) ?_) | (refine VIdx.mk _ rfl (by omega) ?_) | (refine VIdx.mk 0 rfl (by omega) ?_))
    try (conv => whnf)
    refine VCall.mk _ (frozen_any AO') ?_
    rintro _ x5 ⟨rfl, e5⟩
    subst x5
    refine ⟨_, rfl, ?_⟩
    have efz : (upN v.o i { v.o i with frz := true } i).frz = true := by rw [upN_same]
    rw [show ((v.freeze i).o i).frz = true from efz]
    repeat ((conv => whnf); first | (refine VCmp.tt (by omega) ?_) | (refine VCmp.ff (by omega) ?_) | (refine VIn.mk (IntWalk.i64_in _ (by omega)) ?_) | (refine VIdx.mk _ rfl (by omega) ?_) | (refine VIdx.mk 0 rfl (by omega) ?_))
    try (conv => whnf)
    rw [k7]
    exact .mk ⟨rfl, K2, v.freeze i, _, G, C3, (I.freeze hi).mono (by omega), stp_freeze I hi, (qB.trans (q2.more fun z hz => by unfold inR at hz; omega)).trans (q3.more fun z hz => by omega)⟩
  repeat ((conv => whnf); first | (refine VCmp.tt (by omega) ?_) | (refine VCmp.ff (by omega) ?_) | (refine VIn.mk (IntWalk.i64_in _ (by omega)) ?_) | (refine VIdx.mk _ rfl (by omega) ?_) | (refine VIdx.mk 0 rfl (by omega) ?_))
  try (conv => whnf)
  exact .mk ⟨rfl, K, v, X, G, CB, I.mono (by omega), .refl v _ _, qB⟩
end
end Go.Proofs.Ytoilipfgimcoiaa
namespace Go.Proofs.Ytoilipfgimcoiaa
open Go Go.RowKit
structure AcX where
  a : Acn
  B : Option Addr
  c : Nat
def eAc (x : AcX) : List Value := (acA x.a x.B x.c x.a.b.length).toList
structure ActsAt (w : World) (A : Option Addr) (l : List AcX) : Prop where
  row : RowAt w w.heap.size 5 eAc A l
  bod : ∀ x ∈ l, RowAt w w.heap.size 1 eByte x.B x.a.b ∧ x.a.b.length ≤ x.c ∧ x.a.wf
def zK : Nat → Nat := fun _ => 0
def memsOf (m : Int) : Nat := (1 + absL m % 4).toNat
end Go.Proofs.Ytoilipfgimcoiaa
namespace Go.Proofs.Ytoilipfgimcoiaa
open Go.RowKit Go.Deep Go.ChangeShapes Go.WideShapes Go.ChangeAt
theorem exists_list {α : Type} {P : Nat → α → Prop} : ∀ n, (∀ i, i < n → ∃ x, P i x) → ∃ l : List α, l.length = n ∧ ∀ k x, l[k]? = some x → P k x
  | 0, _ => ⟨[], rfl, by intro k x h; simp at h⟩
  | n + 1, h => by
    obtain ⟨l, hl, hp⟩ := exists_list n (fun i hi => h i (by omega))
    obtain ⟨x, hx⟩ := h n (by omega)
    refine ⟨l ++ [x], by simp [hl], fun k y hy => ?_⟩
    by_cases hk : k < l.length
    · rw [List.getElem?_append_left hk] at hy; exact hp k y hy
    · rw [List.getElem?_append_right (by omega)] at hy
      have := (List.getElem?_eq_some_iff.1 hy).1
      obtain rfl : k = n := by simp at this; omega
      rw [hl] at hy; simp at hy; subst hy; exact hx
theorem cell_lt {w : World} {a : Addr} {u : Value} (h : w.cell? a = some u) : a.block < w.heap.size ∧ a.spot = none := by
  refine ⟨World.block_lt_of_cell? w a h, ?_⟩
  unfold World.cell? at h
  split at h
  · cases hs : a.spot with
    | none => rfl
    | some x => rw [hs] at h; simp at h
  · cases h
section
variable {H : Type} {enc : TypeId × Value → H} {P : Program} {W : World} {sp : Nat → Bool}
theorem open_row {α : Type} {t e : TypeId} {sz : Nat} (ht : P.underlying t = some (.slice e)) (hc : P.cellsOf e = sz) (hsz : 0 < sz) (ec : α → List Value) (Q : α → Prop)
    (helem : ∀ (n : Nat) (cs : List Value) (y : DataW H × List MemPlace), DataW.trod enc P W 0 sp true n e cs = some y → ∃ x, cs = ec x ∧ Q x)
    {fuel : Nat} {v : Value} {x : DataW H × List MemPlace} (h : DataW.trod enc P W 0 sp true fuel t [v] = some x) :
    ∃ (A : Option Addr) (l : List α) (c : Nat), v = .slice A l.length c ∧ RowAt W W.heap.size sz ec A l ∧ l.length ≤ c ∧ c ≤ 9223372036854775807 ∧ ∀ y ∈ l, Q y := by
  rcases open_slice ht h with ⟨h1, rfl⟩ | ⟨a, len, cap, m, n, D, Pl, h1, _, hl, hm, hmm, rfl, hi⟩
  · obtain rfl := (List.cons.inj h1).1
    exact ⟨none, [], 0, rfl, fun h => absurd h (by simp), by simp, by omega, by simp⟩
  · obtain rfl := (List.cons.inj h1).1
    obtain ⟨l, hll, hp⟩ := exists_list (P := fun i (y : α) => W.cells? 0 (a.add (i * sz)) sz = some (ec y) ∧ Q y) len (fun i hil => by
      obtain ⟨cs, h2, h3⟩ := hi i (by rw [hmm]; split <;> omega)
      obtain ⟨y, rfl, hq⟩ := helem n cs _ h3
      rw [hc] at h2
      exact ⟨y, h2, hq⟩)
    refine ⟨some a, l, cap, by rw [hll], fun h0 => ?_, by omega, by unfold maxLen at hm; omega, fun y hy => ?_⟩
    · have g0 := hp 0 l[0] (List.getElem?_eq_getElem h0)
      obtain ⟨_, hlen, hcell⟩ := World.cells?_some g0.1
      have c0 := hcell 0 hsz
      have e0 : (a.add (0 * sz)).add 0 = a := by simp [Addr.add]
      rw [e0, List.getElem?_eq_getElem (by omega)] at c0
      obtain ⟨hb, hs⟩ := cell_lt c0
      have ha : a = ⟨a.block, a.off, none⟩ := by cases a; simp at hs; simp [hs]
      refine ⟨a.block, a.off, by rw [← ha], hb, fun k y hk j u hu => ?_⟩
      obtain ⟨g1, _⟩ := hp k y hk
      obtain ⟨_, hlen', hcell'⟩ := World.cells?_some g1
      have hj : j < sz := by have := (List.getElem?_eq_some_iff.1 hu).1; omega
      have := hcell' j hj
      rw [hu, ha, Addr.add_lit, Addr.add_lit] at this
      exact this
    · obtain ⟨k, hk⟩ := List.mem_iff_getElem?.1 hy
      exact (hp k y hk).2
theorem post_of_below {f : Func} {s : ChangeSpec} {apart fresh handsOn again : Bool} {W W' : World} {args : Array Value} {v : Value} {ds gs : List (DataW H)} {before pa pv : List MemPlace}
    (hW : DataW.Whole enc P f.params.toList s.vars apart W args.toList ds gs before)
    (hres : ∀ (b : Nat) (sp : Nat → Bool) (hd : Bool), DataW.TrodAll enc P W' b sp hd f.resultTypes.toList (v.resultList f.resultTypes.size) (s.fn H (ds ++ gs)).results [])
    (hargs : ∀ sp : Nat → Bool, (∀ p ∈ before, sp p.block = true) → DataW.TrodAll enc P W' 0 sp true f.params.toList args.toList (s.fn H (ds ++ gs)).args pa)
    (hvars : ∀ sp : Nat → Bool, (∀ p ∈ before, sp p.block = true) → DataW.TrodVars enc P W' sp s.vars (s.fn H (ds ++ gs)).vars pv)
    (hps : before = pa ++ pv) (hb : Below W.heap.size W W')
    (hok : ∀ (j : Nat) (t : TypeId) (r : Value), f.resultTypes[j]? = some t → (v.resultList f.resultTypes.size)[j]? = some r → Value.okWide P W' .any 0 t r) :
    s.post enc P f apart fresh handsOn again W args v W' := by
  have hlt : ∀ p ∈ before, p.block < W.heap.size := fun p hp => hW.lt p hp
  have hold : ∀ p ∈ before, (fun b => decide (b < W.heap.size)) p.block = true := fun p hp => by simpa using hlt p hp
  refine ⟨ds, gs, before, [], pa, pv, hW, hres _ _ _, hargs _ hold, hvars _ hold, World.keptBut_mono (fun p hp => ⟨hp, ?_⟩) (hb.frame (· ∈ before)), fun _ => ?_⟩
  · rw [hps, List.mem_append] at hp
    exact Or.inr hp
  · obtain ⟨_, _, _, _, _, hz, hn⟩ := hW
    refine ⟨hok, _, _, ([] ++ pa) ++ pv, ⟨[] ++ pa, pv, trodAll_append (hargs _ (fun _ _ => rfl)) (hres _ _ _), hvars _ (fun _ _ => rfl), rfl, ?_, ?_⟩, ?_⟩
    · intro b off hp
      have hin : MemPlace.cell b off ∈ before := by rw [hps]; simpa using hp
      rw [hb.frozen (hlt _ hin)]
      exact hz b off hin
    · intro ha
      have := hn ha
      rw [hps] at this
      simpa using this
    · intro p hp _
      rw [hps]
      simpa using hp
end
theorem own : ownKnob Try.prog.godebug = none := by kernel_rfl
theorem laidOut : laidOutB Try.prog = true := by kernel_rfl
theorem cells27' : Try.prog.cellsOf 27 = 1 := by kernel_rfl
theorem cells29 : Try.prog.cellsOf 29 = 5 := by kernel_rfl
theorem cells5' : Try.prog.cellsOf 5 = 1 := by kernel_rfl
theorem readable22 : Try.prog.readableRec 22 = true := by kernel_rfl
theorem row22 : 22 < Try.prog.types.size := of_decide_eq_true (by kernel_rfl)
theorem readable3 : Try.prog.readableRec 3 = true := by kernel_rfl
theorem row3 : 3 < Try.prog.types.size := of_decide_eq_true (by kernel_rfl)
section
variable {H : Type} {enc : TypeId × Value → H} {W : World} {sp : Nat → Bool}
theorem wf_i64 {n : Int} (h : (Lit.int .i64 n).wf = true) : -9223372036854775808 ≤ n ∧ n ≤ 9223372036854775807 := by
  have e : IntKind.i64.min = -9223372036854775808 := by decide
  have e2 : IntKind.i64.max = 9223372036854775807 := by decide
  simp [Lit.wf, e, e2] at h
  omega
theorem elem5 (n : Nat) (cs : List Value) (y : DataW H × List MemPlace) (h : DataW.trod enc Try.prog W 0 sp true n 5 cs = some y) : ∃ x, cs = eByte x ∧ True := by
  obtain ⟨z, hz, _⟩ := DataW.trod_int Try.underlying5 h
  exact ⟨z, hz, trivial⟩
def AcQ (W : World) (x : AcX) : Prop := RowAt W W.heap.size 1 eByte x.B x.a.b ∧ x.a.b.length ≤ x.c ∧ x.a.wf
set_option maxRecDepth 100000 in
theorem elem29 (n : Nat) (cs : List Value) (y : DataW H × List MemPlace) (h : DataW.trod enc Try.prog W 0 sp true n 29 cs = some y) : ∃ x, cs = eAc x ∧ AcQ W x := by
  obtain ⟨ys, m, _, rfl, hlen, hyl, hf⟩ := DataW.trod_struct Try.underlying29 h
  rw [cells29] at hlen
  have hyl5 : ys.length = 5 := hyl
  match cs, hlen with
  | [u0, u1, u2, u3, u4], _ =>
    match ys, hyl5 with
    | [y0, y1, y2, y3, y4], _ =>
      have h0 : DataW.trod enc Try.prog W 0 sp true m 3 (([u0, u1, u2, u3, u4].drop 0).take (Try.prog.cellsOf 3)) = some y0 := hf 0 _ rfl
      have h1 : DataW.trod enc Try.prog W 0 sp true m 3 (([u0, u1, u2, u3, u4].drop 1).take (Try.prog.cellsOf 3)) = some y1 := hf 1 _ rfl
      have h2 : DataW.trod enc Try.prog W 0 sp true m 3 (([u0, u1, u2, u3, u4].drop 2).take (Try.prog.cellsOf 3)) = some y2 := hf 2 _ rfl
      have h3 : DataW.trod enc Try.prog W 0 sp true m 3 (([u0, u1, u2, u3, u4].drop 3).take (Try.prog.cellsOf 3)) = some y3 := hf 3 _ rfl
      have h4 : DataW.trod enc Try.prog W 0 sp true m 27 (([u0, u1, u2, u3, u4].drop 4).take (Try.prog.cellsOf 27)) = some y4 := hf 4 _ rfl
      rw [cells3] at h0 h1 h2 h3
      rw [cells27'] at h4
      simp only [List.drop_zero, List.drop_succ_cons, List.take_succ_cons, List.take_zero] at h0 h1 h2 h3 h4
      obtain ⟨a, ha, _, wa⟩ := DataW.trod_int Try.underlying3 h0
      obtain ⟨b, hb, _, wb⟩ := DataW.trod_int Try.underlying3 h1
      obtain ⟨c, hc, _, wc⟩ := DataW.trod_int Try.underlying3 h2
      obtain ⟨d, hd, _, wd⟩ := DataW.trod_int Try.underlying3 h3
      simp at ha hb hc hd
      obtain ⟨X, s, cX, hX, r1, r2, r3, r4⟩ := open_row Try.underlying27 cells5' (by decide) eByte (fun _ => True) elem5 h4
      exact ⟨⟨⟨a, b, c, d, s⟩, X, cX⟩, by simp [eAc, ha, hb, hc, hd, hX], r1, r2, wf_i64 wb, wf_i64 wc, wf_i64 wd⟩
set_option maxRecDepth 100000 in
theorem came22 {base : Nat} {v : Value} {d : DataW H} {p : List MemPlace} (hv : Value.okWide Try.prog W .any base 22 v) (h : DataW.Trod enc Try.prog W 0 sp true 22 v d p) :
    ∃ (A : Option Addr) (c : Nat) (l : List AcX), v = .slice A l.length c ∧ ActsAt W A l ∧ l.length ≤ 9223372036854775807 := by
  obtain ⟨a, len, cap, rfl⟩ := okWide_slice Try.underlying22 hv
  obtain ⟨fuel, h⟩ := h
  obtain ⟨A, l, c, e, r, r2, r3, q⟩ := open_row (x := (d, p)) Try.underlying22 cells29 (by decide) eAc (AcQ W) elem29 h
  exact ⟨A, c, l, e, ⟨r, q⟩, by omega⟩
set_option maxRecDepth 100000 in
theorem came3 {base : Nat} {v : Value} {d : DataW H} {p : List MemPlace} (hv : Value.okWide Try.prog W .any base 3 v) (h : DataW.Trod enc Try.prog W 0 sp true 3 v d p) : ∃ n : Int, v = .int .i64 n ∧ -9223372036854775808 ≤ n ∧ n ≤ 9223372036854775807 := by
  obtain ⟨n, rfl⟩ := okWide_int Try.underlying3 hv
  obtain ⟨fuel, h⟩ := h
  obtain ⟨m, hm, _, hw⟩ := DataW.trod_int Try.underlying3 h
  injection hm with hm
  injection hm with _ hm
  subst hm
  exact ⟨n, rfl, wf_i64 hw⟩
end
end Go.Proofs.Ytoilipfgimcoiaa
namespace Go.Proofs.Ytoilipfgimcoiaa
open Go Go.RowKit
def ltD (x y : Dt) : Prop := x.s < y.s ∨ (x.s = y.s ∧ x.q < y.q)
theorem cmpD_lt (x y : Dt) : cmpD x y < 0 ↔ ltD x y := by
  unfold cmpD cmpI ltD
  by_cases h1 : x.s < y.s
  · simp [h1]
  · by_cases h2 : y.s < x.s
    · have : ¬ x.s = y.s := by omega
      simp [h1, h2, this]
    · have h3 : x.s = y.s := by omega
      by_cases h4 : x.q < y.q
      · simp [h3, h4]
      · by_cases h5 : y.q < x.q <;> simp [h3, h4, h5]
theorem ltD_tri {x y : Dt} (h : ¬ ltD y x) (hne : x.sl ≠ y.sl) : ltD x y := by
  unfold ltD at *
  have : ¬ (x.s = y.s ∧ x.q = y.q) := fun ⟨a, b⟩ => hne (by unfold Dt.sl; rw [a, b])
  omega
theorem ltD_irrefl (x : Dt) : ¬ ltD x x := by unfold ltD; omega
theorem ltD_trans {x y z : Dt} (h : ltD x y) (h' : ltD y z) : ltD x z := by unfold ltD at *; omega
structure MsgOf (held ds : List Dt) : Prop where
  perm : ds.Perm held
  srt : ds.Pairwise ltD
theorem perm_nodup {α : Type} : ∀ (l m : List α), l.Nodup → m.Nodup → (∀ a, a ∈ l ↔ a ∈ m) → l.Perm m
  | [], m, _, _, h => by
    cases m with
    | nil => exact .nil
    | cons b m => exact absurd ((h b).2 List.mem_cons_self) List.not_mem_nil
  | a :: l, m, hl, hm, h => by
    obtain ⟨m1, m2, rfl⟩ := List.append_of_mem ((h a).1 List.mem_cons_self)
    obtain ⟨hl1, hl2⟩ := List.nodup_cons.1 hl
    have hm' : (a :: (m1 ++ m2)).Nodup := (List.perm_middle.nodup_iff).1 hm
    obtain ⟨hm1, hm2⟩ := List.nodup_cons.1 hm'
    refine (List.Perm.cons a (perm_nodup l (m1 ++ m2) hl2 hm2 fun b => ⟨fun hb => ?_, fun hb => ?_⟩)).trans List.perm_middle.symm
    · have h1 := (h b).1 (List.mem_cons_of_mem _ hb)
      have h2 : b ≠ a := fun e => hl1 (e ▸ hb)
      rcases List.mem_append.1 h1 with h3 | h3
      · exact List.mem_append_left _ h3
      · rcases List.mem_cons.1 h3 with h3 | h3
        · exact absurd h3 h2
        · exact List.mem_append_right _ h3
    · have h2 : b ≠ a := fun e => hm1 (e ▸ hb)
      have h1 : b ∈ m1 ++ a :: m2 := by
        rcases List.mem_append.1 hb with h3 | h3
        · exact List.mem_append_left _ h3
        · exact List.mem_append_right _ (List.mem_cons_of_mem _ h3)
      rcases List.mem_cons.1 ((h b).2 h1) with h3 | h3
      · exact absurd h3 h2
      · exact h3
theorem MsgOf.uniq {h a b : List Dt} (ha : MsgOf h a) (hb : MsgOf h b) : a = b := by
  have key : ∀ (a b : List Dt), a.Perm b → a.Pairwise ltD → b.Pairwise ltD → a = b := fun a => by
    induction a with
    | nil => intro b hp _ _; exact (List.nil_perm.1 hp).symm
    | cons x a ih =>
      intro b hp h1 h2
      cases b with
      | nil => exact absurd (hp.length_eq) (by simp)
      | cons y b =>
        obtain ⟨x1, x2⟩ := List.pairwise_cons.1 h1
        obtain ⟨y1, y2⟩ := List.pairwise_cons.1 h2
        have hxy : x = y := by
          rcases List.mem_cons.1 (hp.mem_iff.1 (List.mem_cons_self (a := x) (l := a))) with e | e
          · exact e
          · rcases List.mem_cons.1 (hp.mem_iff.2 (List.mem_cons_self (a := y) (l := b))) with e' | e'
            · exact e'.symm
            · exact absurd (ltD_trans (x1 y e') (y1 x e)) (ltD_irrefl x)
        subst hxy
        rw [ih b ((List.perm_cons x).1 hp) x2 y2]
  exact key a b (ha.perm.trans hb.perm.symm) ha.srt hb.srt
def dAt (l : List DtX) (j : Nat) : Dt := ((l[j]?).map (·.d)).getD dt0
theorem dAt_all (l : List DtX) : (List.range l.length).map (dAt l) = l.map (·.d) := by
  apply List.ext_getElem?
  intro k
  rw [List.getElem?_map, List.getElem?_map]
  by_cases hk : k < l.length
  · rw [List.getElem?_range hk]
    show some (dAt l k) = _
    unfold dAt
    rw [List.getElem?_eq_getElem hk]; rfl
  · rw [List.getElem?_eq_none (by simp; omega), List.getElem?_eq_none (by omega)]; rfl
end Go.Proofs.Ytoilipfgimcoiaa
namespace Go.Proofs.Ytoilipfgimcoiaa
open Go.Shelf
def sortD_ren : Go.Shelf.Ren := ⟨fun | 6 => 41 | 15 => 62 | 14 => 61 | 28 => 78 | 29 => 79 | 20 => 70 | 21 => 71 | 22 => 72 | 23 => 73 | 24 => 74 | 25 => 75 | 26 => 76 | 27 => 77 | 46 => 81 | 47 => 82 | 48 => 83 | 49 => 84 | 50 => 85 | 57 => 86 | n => n, fun | 22 => 57 | 24 => 71 | 25 => 100 | 3 => 3 | 39 => 114 | 0 => 0 | 53 => 129 | 55 => 131 | 4 => 4 | 46 => 122 | 45 => 121 | 50 => 126 | 5 => 5 | 9 => 9 | 66 => 133 | 70 => 137 | 76 => 139 | 77 => 44 | n => n, fun | n => n⟩
theorem sortD : Go.Proofs.SlLaysF0.n6 Try.prog sortD_ren := {
  mixed := by kernel_rfl
  f6 := ⟨Try.f41.name, by decide, Try.func41.trans (congrArg some (by kernel_rfl))⟩
  f14 := ⟨Try.f61.name, by decide, Try.func61.trans (congrArg some (by kernel_rfl))⟩
  f15 := Try.func62.trans (congrArg some (by kernel_rfl))
  f20 := ⟨Try.f70.name, by decide, Try.func70.trans (congrArg some (by kernel_rfl))⟩
  f21 := ⟨Try.f71.name, by decide, Try.func71.trans (congrArg some (by kernel_rfl))⟩
  f22 := ⟨Try.f72.name, by decide, Try.func72.trans (congrArg some (by kernel_rfl))⟩
  f23 := ⟨Try.f73.name, by decide, Try.func73.trans (congrArg some (by kernel_rfl))⟩
  f24 := ⟨Try.f74.name, by decide, Try.func74.trans (congrArg some (by kernel_rfl))⟩
  f25 := ⟨Try.f75.name, by decide, Try.func75.trans (congrArg some (by kernel_rfl))⟩
  f26 := ⟨Try.f76.name, by decide, Try.func76.trans (congrArg some (by kernel_rfl))⟩
  f27 := ⟨Try.f77.name, by decide, Try.func77.trans (congrArg some (by kernel_rfl))⟩
  f28 := Try.func78.trans (congrArg some (by kernel_rfl))
  f29 := Try.func79.trans (congrArg some (by kernel_rfl))
  f46 := ⟨Try.f81.name, by decide, Try.func81.trans (congrArg some (by kernel_rfl))⟩
  f47 := Try.func82.trans (congrArg some (by kernel_rfl))
  f48 := Try.func83.trans (congrArg some (by kernel_rfl))
  f49 := ⟨Try.f84.name, by decide, Try.func84.trans (congrArg some (by kernel_rfl))⟩
  f50 := ⟨Try.f85.name, by decide, Try.func85.trans (congrArg some (by kernel_rfl))⟩
  f57 := ⟨Try.f86.name, by decide, Try.func86.trans (congrArg some (by kernel_rfl))⟩
  t0 := Try.underlying0
  a0 := Try.isAgg0
  z0 := Try.sizeOf0
  v0 := Try.zeroValue0
  t3 := Try.underlying3
  a3 := Try.isAgg3
  z3 := Try.sizeOf3
  v3 := Try.zeroValue3
  t4 := Try.underlying4
  a4 := Try.isAgg4
  z4 := Try.sizeOf4
  v4 := Try.zeroValue4
  t5 := Try.underlying5
  a5 := Try.isAgg5
  z5 := Try.sizeOf5
  v5 := Try.zeroValue5
  t9 := Try.underlying9
  a9 := Try.isAgg9
  z9 := Try.sizeOf9
  v9 := Try.zeroValue9
  t22 := Try.underlying57
  a22 := Try.isAgg57
  z22 := Try.sizeOf57
  v22 := Try.zeroValue57
  t25 := Try.underlying100
  a25 := Try.isAgg100
  z25 := Try.sizeOf100
  v25 := Try.zeroValue100
  t39 := Try.underlying114
  a39 := Try.isAgg114
  z39 := Try.sizeOf114
  v39 := Try.zeroValue114
  t45 := Try.underlying121
  a45 := Try.isAgg121
  z45 := Try.sizeOf121
  v45 := Try.zeroValue121
  t46 := Try.underlying122
  a46 := Try.isAgg122
  z46 := Try.sizeOf122
  v46 := Try.zeroValue122
  t50 := Try.underlying126
  a50 := Try.isAgg126
  z50 := Try.sizeOf126
  v50 := Try.zeroValue126
  t53 := Try.underlying129
  a53 := Try.isAgg129
  z53 := Try.sizeOf129
  v53 := Try.zeroValue129
  t55 := Try.underlying131
  a55 := Try.isAgg131
  z55 := Try.sizeOf131
  v55 := Try.zeroValue131
  t66 := Try.underlying133
  a66 := Try.isAgg133
  z66 := Try.sizeOf133
  v66 := Try.zeroValue133
  t70 := Try.underlying137
  a70 := Try.isAgg137
  z70 := Try.sizeOf137
  v70 := Try.zeroValue137
  t76 := Try.underlying139
  a76 := Try.isAgg139
  z76 := Try.sizeOf139
  v76 := Try.zeroValue139
  t77 := Try.underlying44
  a77 := Try.isAgg44
  z77 := Try.sizeOf44
  v77 := Try.zeroValue44 }
end Go.Proofs.Ytoilipfgimcoiaa
