/- SzJ SzK, joined. -/
import Derived.Test.YtoilipfgimcoiaaGreatOz14
set_option linter.unusedVariables false
set_option linter.unusedSimpArgs false
namespace Go.Proofs.YtoilipfgimcoiaaGreat
open Go Go.RowKit
section
variable {K K' : Nat → Nat} {w w' : World} {r b T : Nat} {f : Rf} {X : RfX} {o : Os}
set_option maxRecDepth 100000 in
set_option maxHeartbeats 8000000 in
theorem rplaceD_any (A : RefAt w K r b f X) (hp : PosOk f X) (h : Sim T o f) (F : FrO o) (hT : T + 1 ≤ 100000) (frm : Nat) (hfm : frm ∈ f.mem) (hne : frm ≠ f.self) (d : Dt) (hbl : d.b.length ≤ 256) {B : Option Addr} {cB nB : Nat} (hnB : d.b.length = nB) (hB : RowK w K 1 eByte B d.b) :
   Calls Tryz.prog 104 #[.pointer (some ⟨b, 0, none⟩), .int .i64 frm, .agg (dtA d B cB nB)] w fun e w' => e = .returned (.int .i64 (o.placeD frm d).1) ∧ OPF (T + 1) w K r b (o.placeD frm d).2 w' := by
 subst hnB
 refine calls_vc tab_ok Tryz.func104 rfl ?_
 have hbz := A.hb
 have r0 := A.r0
 have t1 := h.T1
 have t2 := h.T2
 have w8 := h.w8
 conv => whnf
 refine .mk fun wA hwA => ?_
 obtain ⟨ba, hba⟩ : ∃ ba, ba = w.heap.size := ⟨_, rfl⟩
 rw [← hba]
 have bA : Below w.heap.size w wA := by rw [hwA.out]; exact below_box1 _ _ _
 have zA : wA.heap.size = w.heap.size + 1 := by rw [hwA.out]; simp
 have oA : wA.rangeAt ba 0 (dtA d B cB d.b.length).toList := by rw [hwA.out, hba]; exact range_new w _ 44
 clear hwA
 have AA := A.below bA
 have kA : K ba = 0 := A.kz _ (by omega)
 have L0 : Ld Tryz.prog 3 ba 0 (Sm [b, ba] wA) (.int .i64 d.s) := ⟨fun W' hW => load3 (cell_sm (oA 0 _ rfl) (by simp) hW)⟩
 have L1 : Ld Tryz.prog 3 ba 1 (Sm [b, ba] wA) (.int .i64 d.q) := ⟨fun W' hW => load3 (cell_sm (oA 1 _ rfl) (by simp) hW)⟩
 have L2 : Ld Tryz.prog 3 ba 2 (Sm [b, ba] wA) (.int .i64 d.st) := ⟨fun W' hW => load3 (cell_sm (oA 2 _ rfl) (by simp) hW)⟩
 have M2 := AA.l_upto (l := [b, ba]) (by simp)
 have s0 := Sm.refl [b, ba] wA
 have sd : Sm [b, ba] wA wA.drew := fun _ _ => rfl
 have sdd : Sm [b, ba] wA wA.drew.drew := fun _ _ => rfl
 have opA : ∀ x, Below wA.heap.size wA x → OPF (T + 1) w K r b o x := fun x hx => (AA.below hx).opf hp (h.more (by omega)) F (.below (bA.trans (hx.mono bA.size)))
 by_cases e1 : d.s = frm
 case neg =>
   have hp1 : o.placeD frm d = (72, o) := by unfold Os.placeD; rw [if_pos e1]
   rw [hp1]
   repeat ((conv => whnf); first | refine Xl (L0.at s0) ?_ | refine Xt ?_ | refine Xq ?_ | refine Xn ?_ | refine Xj ?_ | refine Xo ?_); try (conv => whnf)
   exact .mk ⟨rfl, opA _ (Below.refl _ _)⟩
 have htk : (tkI f.came (frm : Int) : Nat) = o.taken frm := by rw [tkI_nat, h.tk]
 have htl : o.taken frm ≤ T := by rw [h.tk]; have := cnt_le frm f.C; have := C_len f; omega
 repeat ((conv => whnf); first | refine Xl (L0.at s0) ?_ | refine Xt ?_ | refine Xq ?_ | refine Xn ?_ | refine Xj ?_ | refine Xo ?_); try (conv => whnf)
 refine VDraw.pl 1000 (.one [0, 1, 2, 3] 4 (.stop [5, 6])) (Sm [b, ba] wA) (by kernel_rfl) (sd) ?_
 repeat ((conv => whnf); first | refine Xl L1 ?_ | refine Xt ?_ | refine Xq ?_ | refine Xn ?_ | refine Xj ?_ | refine Xo ?_); try (conv => whnf)
 refine VCall.mk _ (rtaken_any (AA.below (Below.refl _ wA).drew) frm (by omega)) ?_
 rintro _ _ ⟨rfl, rfl⟩
 refine ⟨_, rfl, ?_⟩
 rw [htk]
 by_cases e2 : d.q = o.taken frm + 1
 case neg =>
   have hp1 : o.placeD frm d = (73, o) := by unfold Os.placeD; rw [if_neg (by simpa using e1), if_pos e2]
   rw [hp1]
   repeat ((conv => whnf); first | (refine VS.mk sd ?_) | refine Xt ?_ | refine Xq ?_ | refine Xn ?_ | refine Xj ?_ | refine Xo ?_); try (conv => whnf)
   exact .mk ⟨rfl, opA _ (Below.refl _ _).drew⟩
 by_cases e3 : f.upto < d.st
 case pos =>
   have hp1 : o.placeD frm d = (43, o) := by unfold Os.placeD; rw [if_neg (by simpa using e1), if_neg (by simpa using e2), if_pos (by rw [h.done]; exact e3)]
   rw [hp1]
   repeat ((conv => whnf); first | (refine VS.mk sd ?_) | refine Xt ?_ | refine Xq ?_ | refine Xn ?_ | refine Xj ?_ | refine Xo ?_); try (conv => whnf)
   refine VDraw.pl 1000 (.stop [0, 1, 2, 3, 4, 5, 6]) (Sm [b, ba] wA) (by kernel_rfl) (sdd) ?_
   repeat ((conv => whnf); first | refine Xl L2 ?_ | refine Xl M2 ?_ | refine Xt ?_ | refine Xq ?_ | refine Xn ?_ | refine Xj ?_ | refine Xo ?_); try (conv => whnf)
   exact .mk ⟨rfl, opA _ (Below.refl _ _).drew.drew⟩
 have hp1 : o.placeD frm d = if (o.win : Int) ≤ ((o.rise d.st).taken frm : Int) - ((o.rise d.st).gone frm : Int) then (71, o.rise d.st) else (0, (o.rise d.st).keep d) := by unfold Os.placeD; rw [if_neg (by simpa using e1), if_neg (by simpa using e2), if_neg (by rw [h.done]; exact e3)]
 rw [hp1]
 clear hp1
 have h2 := h.rise (n := d.st) (by omega)
 have k2 := rise_keeps o d.st
 have F2 := F.rise d.st
 have hh := h2.heldOf frm
 have hwin := h.win
 obtain ⟨o2, ho2⟩ : ∃ o2, o2 = o.rise d.st := ⟨_, rfl⟩
 rw [← ho2] at h2 k2 F2 hh ⊢
 repeat ((conv => whnf); first | (refine VS.mk sd ?_) | refine Xt ?_ | refine Xq ?_ | refine Xn ?_ | refine Xj ?_ | refine Xo ?_); try (conv => whnf)
 refine VDraw.pl 1000 (.stop [0, 1, 2, 3, 4, 5, 6]) (Sm [b, ba] wA) (by kernel_rfl) (sdd) ?_
 repeat ((conv => whnf); first | refine Xl L2 ?_ | refine Xl M2 ?_ | refine Xl (L2.at sdd) ?_ | refine Xt ?_ | refine Xq ?_ | refine Xn ?_ | refine Xj ?_ | refine Xo ?_); try (conv => whnf)
 refine VCall.mk _ (rrise_any (AA.below (Below.refl _ wA).drew.drew) d.st) ?_
 rintro _ w2 ⟨rfl, A2, q2⟩
 refine ⟨_, rfl, ?_⟩
 have q02 : Ro (inF r) K K w w2 := ((Ro.below bA).drew.drew).trans (q2.more fun y hy => by unfold inF; omega)
 have z2 : wA.heap.size ≤ w2.heap.size := q2.size
 have o2A := range_same oA (q2.same ba (show ba < wA.heap.size by omega) (by rw [kA]; omega))
 have N3 := A2.l_win (l := [b, ba]) (by simp)
 have s2d : Sm [b, ba] w2 w2.drew := fun _ _ => rfl
 have hl2 : ∀ g ∈ [b, ba], g < w2.heap.size := fun g hg => by
   simp only [List.mem_cons, List.not_mem_nil, or_false] at hg
   rcases hg with rfl | rfl <;> omega
 repeat ((conv => whnf); first | refine Xt ?_ | refine Xq ?_ | refine Xn ?_ | refine Xj ?_ | refine Xo ?_); try (conv => whnf)
 refine VDraw.pl 1000 (.one [0, 1, 3, 4, 5, 6] 2 (.stop [7])) (Sm [b, ba] w2) (by kernel_rfl) (s2d) ?_
 repeat ((conv => whnf); first | refine Xl N3 ?_ | refine Xt ?_ | refine Xq ?_ | refine Xn ?_ | refine Xj ?_ | refine Xo ?_); try (conv => whnf)
 refine VCall.mk _ (heldOf_any (A2.below (Below.refl _ w2).drew) hp h2.sq frm (by show f.came.length ≤ _; omega)) ?_
 rintro _ w3 ⟨rfl, b3⟩
 refine ⟨_, rfl, ?_⟩
 rw [hdI_nat]
 have b23 : Below w2.heap.size w2 w3 := (Below.refl _ w2).drew.trans b3
 have s3 : Sm [b, ba] w2 w3 := .below b23 hl2
 have A3 := A2.below b23
 have q03 : Ro (inF r) K K w w3 := q02.trans (.below b23)
 have hw2 : (f.rise d.st).win = f.win := rfl
 by_cases e4 : (f.rise d.st).win ≤ (f.rise d.st).heldOf frm
 · rw [if_pos (by omega)]
   repeat ((conv => whnf); first | (refine VS.mk s3 ?_) | refine Xl N3 ?_ | refine Xt ?_ | refine Xq ?_ | refine Xn ?_ | refine Xj ?_ | refine Xo ?_); try (conv => whnf)
   exact .mk ⟨rfl, A3.opf hp (h2.more (by omega)) F2 q03⟩
 · rw [if_neg (by omega)]
   have o3A := range_same o2A (b23.block ba (by omega))
   have L5 : Ld Tryz.prog 44 ba 0 (Eq w3) (.agg (dtA d B cB d.b.length)) := .of (load_agg (by kernel_rfl) (by kernel_rfl) o3A)
   repeat ((conv => whnf); first | (refine VS.mk s3 ?_) | refine Xl N3 ?_ | refine Xl L5 ?_ | refine Xt ?_ | refine Xq ?_ | refine Xn ?_ | refine Xj ?_ | refine Xo ?_); try (conv => whnf)
   refine VCall.mk _ (come_any A3 hp d (by show f.came.length ≤ _; omega) (by show f.slots.length ≤ _; omega) (B := B) (cB := cB) rfl (hB.ro q03 (by unfold inF; omega)).row (by omega)) ?_
   rintro _ w4 ⟨rfl, K4, X4, A4, hp4, q4⟩
   refine ⟨_, rfl, ?_⟩
   repeat ((conv => whnf); first | refine Xt ?_ | refine Xq ?_ | refine Xn ?_ | refine Xj ?_ | refine Xo ?_); try (conv => whnf)
   exact .mk ⟨rfl, A4.opf hp4 ((h2.more (T' := T + 1) (by omega)).keep (by rw [e1]; exact hfm) (by rw [k2.taken, e1]; exact e2) hbl (by show f.came.length + 1 ≤ _; omega)) (F2.keepO (by rw [k2.self, h.self, e1]; exact hne)) (q03.trans q4)⟩
set_option maxRecDepth 100000 in
set_option maxHeartbeats 8000000 in
theorem rplaceS_any (A : RefAt w K r b f X) (hp : PosOk f X) (h : Sim T o f) (F : FrO o) (hT : T + 1 ≤ 100000) (frm : Nat) (hfm : frm ∈ f.mem) (hne : frm ≠ f.self) (it : Itm) (pos sb : Nat) (x : Sl) (e1 : it.pos = pos) (e2 : it.sb = sb) (e3 : it.ss = x.s) (e4 : it.sq = x.q) {B : Option Addr} {cB nB : Nat} :
   Calls Tryz.prog 105 #[.pointer (some ⟨b, 0, none⟩), .int .i64 frm, .agg (itA it B cB nB)] w fun e w' => e = .returned (.int .i64 (o.placeS frm pos sb x).1) ∧ OPF (T + 1) w K r b (o.placeS frm pos sb x).2 w' := by
 refine calls_vc tab_ok Tryz.func105 rfl ?_
 have hbz := A.hb
 have r0 := A.r0
 have t1 := h.T1
 have t2 := h.T2
 have w8 := h.w8
 have m0 := h.m0
 have m16 := h.m16
 conv => whnf
 refine .mk fun wA hwA => ?_
 obtain ⟨ba, hba⟩ : ∃ ba, ba = w.heap.size := ⟨_, rfl⟩
 rw [← hba]
 have bA : Below w.heap.size w wA := by rw [hwA.out]; exact below_box1 _ _ _
 have zA : wA.heap.size = w.heap.size + 1 := by rw [hwA.out]; simp
 have oA : wA.rangeAt ba 0 (itA it B cB nB).toList := by rw [hwA.out, hba]; exact range_new w _ 48
 clear hwA
 have AA := A.below bA
 have kA : K ba = 0 := A.kz _ (by omega)
 have hba1 : ba < wA.heap.size := by omega
 have opA : ∀ y, Below wA.heap.size wA y → OPF (T + 1) w K r b o y := fun y hy => (AA.below hy).opf hp (h.more (by omega)) F (.below (bA.trans (hy.mono bA.size)))
 obtain ⟨m, hm0⟩ : ∃ m, f.mem[0]? = some m := ⟨_, List.getElem?_eq_getElem m0⟩
 have hhead : o.mem.head? = some m := by rw [h.mem, List.head?_eq_getElem?]; exact hm0
 obtain ⟨g, off, eA, g1, -, -, -, g5⟩ := AA.pr.get m0
 have LM := AA.l_mem (l := [b, ba, g]) (by simp)
 rw [eA] at LM
 have LQ : Ld Tryz.prog 3 g off (Sm [b, ba, g] wA) (.int .i64 m) := ⟨fun W' hW => load3 (cell_sm (by have := g5 0 m hm0 0 _ rfl; rwa [Nat.zero_mul] at this) (by simp) hW)⟩
 have I4 : Ld Tryz.prog 3 ba 7 (Sm [b, ba, g] wA) (.int .i64 x.s) := ⟨fun W' hW => load3 (by rw [← e3]; exact cell_sm (oA 7 _ rfl) (by simp) hW)⟩
 have s0 := Sm.refl [b, ba, g] wA
 by_cases e5 : frm = m
 case neg =>
   have hp1 : o.placeS frm pos sb x = (72, o) := by unfold Os.placeS; rw [if_pos (.inl (by rw [hhead]; intro e; injection e with e; exact e5 e.symm))]
   rw [hp1]
   repeat ((conv => whnf); first | refine Xl (LM.at s0) ?_ | refine Xl (LQ.at s0) ?_ | refine Xt ?_ | refine Xq ?_ | refine Xn ?_ | refine Xj ?_ | refine Xo ?_); try (conv => whnf)
   exact .mk ⟨rfl, opA _ (Below.refl _ _)⟩
 subst e5
 repeat ((conv => whnf); first | refine Xl (LM.at s0) ?_ | refine Xl (LQ.at s0) ?_ | refine Xl (I4.at s0) ?_ | refine Xt ?_ | refine Xq ?_ | refine Xn ?_ | refine Xj ?_ | refine Xo ?_); try (conv => whnf)
 refine VCall.mk _ (ridx_any AA x.s (by omega)) ?_
 rintro _ _ ⟨rfl, rfl⟩
 refine ⟨_, rfl, ?_⟩
 rename_i wA
 rcases idxI_cases f.mem x.s with ⟨i1, i2⟩ | ⟨ix, y, i1, hix, i3, i2⟩
 · rw [i1]
   have hp1 : o.placeS frm pos sb x = (72, o) := by unfold Os.placeS; rw [if_pos (.inr (by rw [h.mem]; exact i2))]
   rw [hp1]
   repeat ((conv => whnf); first | refine Xt ?_ | refine Xq ?_ | refine Xn ?_ | refine Xj ?_ | refine Xo ?_); try (conv => whnf)
   exact .mk ⟨rfl, opA _ (Below.refl _ _)⟩
 rw [i1]
 obtain rfl : y = x.s := by omega
 have hxm := List.mem_of_getElem? hix
 have hpre : o.placeS frm pos sb x = if pos ≠ o.known + 1 ∨ x.q ≠ o.placed x.s + 1 then (73, o) else if o.done < sb then (43, o) else if o.most ≤ (o.rise sb).slots.length then (71, o.rise sb) else (0, (o.rise sb).stand x) := by unfold Os.placeS; rw [if_neg (by rw [hhead, h.mem, i2]; simp)]
 rw [hpre]
 clear hpre
 have hkn := h.known
 have hpl := h.pl x.s
 have hdn := h.done
 have hcl : cnt x.s f.slots ≤ f.slots.length := cnt_le _ _
 repeat ((conv => whnf); first | refine Xt ?_ | refine Xq ?_ | refine Xn ?_ | refine Xj ?_ | refine Xo ?_); try (conv => whnf)
 refine VLoop.mk Nat (fun i => [(0, .pointer (some ⟨b, 0, none⟩)), (1, .int .i64 frm), (5, .pointer (some ⟨ba, 0, none⟩)), (7, .int .i64 (cnt x.s (f.slots.take i) : Nat)), (8, .int .i64 i)]) (fun i W => i ≤ f.slots.length ∧ Below wA.heap.size wA W) (fun i => f.slots.length - i) 0 ⟨rfl, rfl, rfl, rfl, rfl, trivial⟩ ⟨Nat.zero_le _, Below.refl _ _⟩ ?_
 rintro i W ⟨hi, bW⟩
 have AW := AA.below bW
 have oW := range_same oA (bW.block ba hba1)
 have L0 := AW.l_slots (l := [b]) (by simp)
 have s0 := Sm.refl [b] W
 have hle : cnt x.s (f.slots.take i) ≤ i := Nat.le_trans (cnt_le _ _) (by rw [List.length_take]; omega)
 by_cases hin : i < f.slots.length
 case pos =>
   obtain ⟨g', off', eB, -, -, -, -, g5'⟩ := AW.sr.get (by omega)
   obtain ⟨z, hz⟩ : ∃ z, f.slots[i]? = some z := ⟨_, List.getElem?_eq_getElem hin⟩
   have M0 := AW.l_slots (l := [b, ba, g']) (by simp)
   rw [eB] at M0
   have MZ : Ld Tryz.prog 3 g' (addO (off' + mulO i 2) 0) (Sm [b, ba, g'] W) (.int .i64 z.s) := ⟨fun W' hW => load3 (by rw [show addO (off' + mulO i 2) 0 = off' + i * 2 + 0 by rw [mulO_eq]; rfl]; exact cell_sm (g5' i z hz 0 _ rfl) (by simp) hW)⟩
   have MI : Ld Tryz.prog 3 ba 7 (Sm [b, ba, g'] W) (.int .i64 x.s) := ⟨fun W' hW => load3 (by rw [← e3]; exact cell_sm (oW 7 _ rfl) (by simp) hW)⟩
   have sd : Sm [b, ba, g'] W W.drew := fun _ _ => rfl
   have ht := cnt_take_one (s := x.s) hz
   by_cases he : z.s = x.s
   · rw [if_pos he] at ht
     repeat ((conv => whnf); first | refine Xl (L0.at s0) ?_ | refine Xt ?_ | refine Xq ?_ | refine Xn ?_ | refine Xj ?_ | refine Xo ?_); try (conv => whnf)
     refine VDraw.pl 1000 (.stop [0, 1, 2, 3, 4, 5, 6, 7, 8, 9, 10, 11]) (Sm [b, ba, g'] W) (by kernel_rfl) (sd) ?_
     repeat ((conv => whnf); first | refine Xl M0 ?_ | refine Xl MZ ?_ | refine Xl MI ?_ | refine Xt ?_ | refine Xq ?_ | refine Xn ?_ | refine Xj ?_ | refine Xo ?_); try (conv => whnf)
     exact .mk (i + 1) ⟨rfl, rfl, rfl, congrArg (fun z : Nat => some (Value.int .i64 (z : Int))) ht.symm, rfl, trivial⟩ ⟨hin, bW.drew⟩ (by show f.slots.length - (i + 1) < f.slots.length - i; omega)
   · rw [if_neg he, Nat.add_zero] at ht
     repeat ((conv => whnf); first | refine Xl (L0.at s0) ?_ | refine Xt ?_ | refine Xq ?_ | refine Xn ?_ | refine Xj ?_ | refine Xo ?_); try (conv => whnf)
     refine VDraw.pl 1000 (.stop [0, 1, 2, 3, 4, 5, 6, 7, 8, 9, 10, 11]) (Sm [b, ba, g'] W) (by kernel_rfl) (sd) ?_
     repeat ((conv => whnf); first | refine Xl M0 ?_ | refine Xl MZ ?_ | refine Xl MI ?_ | refine Xt ?_ | refine Xq ?_ | refine Xn ?_ | refine Xj ?_ | refine Xo ?_); try (conv => whnf)
     exact .mk (i + 1) ⟨rfl, rfl, rfl, congrArg (fun z : Nat => some (Value.int .i64 (z : Int))) ht.symm, rfl, trivial⟩ ⟨hin, bW.drew⟩ (by show f.slots.length - (i + 1) < f.slots.length - i; omega)
 obtain rfl : i = f.slots.length := by omega
 rw [List.take_length]
 have J2 : Ld Tryz.prog 3 ba 5 (Sm [b, ba] W) (.int .i64 pos) := ⟨fun W' hW => load3 (by rw [← e1]; exact cell_sm (oW 5 _ rfl) (by simp) hW)⟩
 have J3 : Ld Tryz.prog 3 ba 6 (Sm [b, ba] W) (.int .i64 sb) := ⟨fun W' hW => load3 (by rw [← e2]; exact cell_sm (oW 6 _ rfl) (by simp) hW)⟩
 have J4 : Ld Tryz.prog 3 ba 8 (Sm [b, ba] W) (.int .i64 x.q) := ⟨fun W' hW => load3 (by rw [← e4]; exact cell_sm (oW 8 _ rfl) (by simp) hW)⟩
 have JS := AW.l_slots (l := [b, ba]) (by simp)
 have JU := AW.l_upto (l := [b, ba]) (by simp)
 have sd : Sm [b, ba] W W.drew := fun _ _ => rfl
 have sdd : Sm [b, ba] W W.drew.drew := fun _ _ => rfl
 by_cases e6 : pos = f.slots.length + 1
 case neg =>
   rw [if_pos (.inl (by omega))]
   repeat ((conv => whnf); first | refine Xl (L0.at s0) ?_ | refine Xt ?_ | refine Xq ?_ | refine Xn ?_ | refine Xj ?_ | refine Xo ?_); try (conv => whnf)
   refine VDraw.pl 1000 (.stop [0, 1, 2, 3, 4, 5, 6, 7, 8, 9, 10, 11, 12, 13, 14, 15, 16]) (Sm [b, ba] W) (by kernel_rfl) (sd) ?_
   repeat ((conv => whnf); first | refine Xl J2 ?_ | refine Xl JS ?_ | refine Xl J4 ?_ | refine Xt ?_ | refine Xq ?_ | refine Xn ?_ | refine Xj ?_ | refine Xo ?_); try (conv => whnf)
   exact .mk ⟨rfl, opA _ bW.drew⟩
 by_cases e7 : x.q = cnt x.s f.slots + 1
 case neg =>
   rw [if_pos (.inr (by omega))]
   repeat ((conv => whnf); first | refine Xl (L0.at s0) ?_ | refine Xt ?_ | refine Xq ?_ | refine Xn ?_ | refine Xj ?_ | refine Xo ?_); try (conv => whnf)
   refine VDraw.pl 1000 (.stop [0, 1, 2, 3, 4, 5, 6, 7, 8, 9, 10, 11, 12, 13, 14, 15, 16]) (Sm [b, ba] W) (by kernel_rfl) (sd) ?_
   repeat ((conv => whnf); first | refine Xl J2 ?_ | refine Xl JS ?_ | refine Xl J4 ?_ | refine Xt ?_ | refine Xq ?_ | refine Xn ?_ | refine Xj ?_ | refine Xo ?_); try (conv => whnf)
   exact .mk ⟨rfl, opA _ bW.drew⟩
 rw [if_neg (by omega)]
 by_cases e8 : f.upto < sb
 case pos =>
   rw [if_pos (by omega)]
   repeat ((conv => whnf); first | refine Xl (L0.at s0) ?_ | refine Xt ?_ | refine Xq ?_ | refine Xn ?_ | refine Xj ?_ | refine Xo ?_); try (conv => whnf)
   refine VDraw.pl 1000 (.stop [0, 1, 2, 3, 4, 5, 6, 7, 8, 9, 10, 11, 12, 13, 14, 15, 16]) (Sm [b, ba] W) (by kernel_rfl) (sd) ?_
   repeat ((conv => whnf); first | refine Xl J2 ?_ | refine Xl JS ?_ | refine Xl J4 ?_ | refine Xt ?_ | refine Xq ?_ | refine Xn ?_ | refine Xj ?_ | refine Xo ?_); try (conv => whnf)
   refine VDraw.pl 1000 (.stop [0, 1, 2, 3, 4, 5, 6]) (Sm [b, ba] W) (by kernel_rfl) (sdd) ?_
   repeat ((conv => whnf); first | refine Xl J3 ?_ | refine Xl JU ?_ | refine Xt ?_ | refine Xq ?_ | refine Xn ?_ | refine Xj ?_ | refine Xo ?_); try (conv => whnf)
   exact .mk ⟨rfl, opA _ bW.drew.drew⟩
 rw [if_neg (by omega)]
 have h2 := h.rise (n := sb) (by omega)
 have k2 := rise_keeps o sb
 have F2 := F.rise sb
 have hsl : (o.rise sb).slots.length = f.slots.length - (f.rise sb).known := by rw [h2.sl, List.length_drop]; rfl
 have hkr : (f.rise sb).known ≤ f.slots.length := Nat.le_trans h2.kn h2.ul
 have hmost : o.most = f.mem.length * f.win := by unfold Os.most; rw [h.mem, h.win]
 have hprod : f.mem.length * f.win ≤ 16 * 8 := Nat.mul_le_mul m16 w8
 obtain ⟨o2, ho2⟩ : ∃ o2, o2 = o.rise sb := ⟨_, rfl⟩
 rw [← ho2] at h2 k2 F2 hsl ⊢
 repeat ((conv => whnf); first | refine Xl (L0.at s0) ?_ | refine Xt ?_ | refine Xq ?_ | refine Xn ?_ | refine Xj ?_ | refine Xo ?_); try (conv => whnf)
 refine VDraw.pl 1000 (.stop [0, 1, 2, 3, 4, 5, 6, 7, 8, 9, 10, 11, 12, 13, 14, 15, 16]) (Sm [b, ba] W) (by kernel_rfl) (sd) ?_
 repeat ((conv => whnf); first | refine Xl J2 ?_ | refine Xl JS ?_ | refine Xl J4 ?_ | refine Xt ?_ | refine Xq ?_ | refine Xn ?_ | refine Xj ?_ | refine Xo ?_); try (conv => whnf)
 refine VDraw.pl 1000 (.stop [0, 1, 2, 3, 4, 5, 6]) (Sm [b, ba] W) (by kernel_rfl) (sdd) ?_
 repeat ((conv => whnf); first | refine Xl J3 ?_ | refine Xl JU ?_ | refine Xl (J3.at sdd) ?_ | refine Xt ?_ | refine Xq ?_ | refine Xn ?_ | refine Xj ?_ | refine Xo ?_); try (conv => whnf)
 refine VCall.mk _ (rrise_any (AW.below (Below.refl _ W).drew.drew) sb) ?_
 rintro _ w2 ⟨rfl, A2, q2⟩
 refine ⟨_, rfl, ?_⟩
 have bwW : Below w.heap.size w W := bA.trans (bW.mono bA.size)
 have q02 : Ro (inF r) K K w w2 := ((Ro.below bwW).drew.drew).trans (q2.more fun y hy => by unfold inF; omega)
 have zW := bW.size
 have z2 : W.heap.size ≤ w2.heap.size := q2.size
 have o2A := range_same oW (q2.same ba (show ba < W.heap.size by omega) (by rw [kA]; omega))
 have N1 := A2.l_slots (l := [b, ba]) (by simp)
 have N2 := A2.l_known (l := [b, ba]) (by simp)
 have N3 := A2.l_mem (l := [b, ba]) (by simp)
 have N4 := A2.l_win (l := [b, ba]) (by simp)
 rw [show (f.rise sb).slots = f.slots from rfl] at N1
 rw [show (f.rise sb).mem = f.mem from rfl] at N3
 rw [show (f.rise sb).win = f.win from rfl] at N4
 have s2d : Sm [b, ba] w2 w2.drew := fun _ _ => rfl
 have A3 := A2.below (Below.refl _ w2).drew
 have q03 : Ro (inF r) K K w w2.drew := q02.drew
 repeat ((conv => whnf); first | refine Xt ?_ | refine Xq ?_ | refine Xn ?_ | refine Xj ?_ | refine Xo ?_); try (conv => whnf)
 refine VDraw.pl 1000 (.stop [0, 1, 2, 3, 4, 5, 6, 7, 8, 9, 10, 11, 12, 13, 14, 15, 16, 17, 18, 19, 20]) (Sm [b, ba] w2) (by kernel_rfl) (s2d) ?_
 have hmc : ((f.mem.length * f.win : Nat) : Int) = (f.mem.length : Int) * (f.win : Int) := by simp
 by_cases e9 : f.mem.length * f.win ≤ f.slots.length - (f.rise sb).known
 · rw [if_pos (by omega)]
   generalize hgk : (f.rise sb).known = gk at N2 hkr hsl e9
   have e9' : (f.mem.length : Int) * (f.win : Int) ≤ (f.slots.length : Int) - (gk : Int) := by omega
   generalize hgm : (f.mem.length : Int) * (f.win : Int) = gm at e9' hmc
   repeat ((conv => whnf); first | refine Xl N1 ?_ | refine Xl N2 ?_ | refine Xl N3 ?_ | refine Xl N4 ?_ | refine Xt ?_ | refine Xq ?_ | refine Xn ?_ | refine Xj ?_ | refine Xo ?_); try (conv => whnf)
   exact .mk ⟨rfl, A3.opf hp (h2.more (by omega)) F2 q03⟩
 · rw [if_neg (by omega)]
   have o3A := range_same o2A (show w2.drew.heap[ba]? = w2.heap[ba]? from rfl)
   have L5 : Ld Tryz.prog 46 ba 7 (Eq w2.drew) (.agg #[.int .i64 x.s, .int .i64 x.q]) := .of (by rw [← e3, ← e4]; exact load_agg (cs := [.int .i64 it.ss, .int .i64 it.sq]) (by kernel_rfl) (by kernel_rfl) (range_sub (n := 2) o3A 7 rfl))
   repeat ((conv => whnf); first | refine Xl N1 ?_ | refine Xl N2 ?_ | refine Xl N3 ?_ | refine Xl N4 ?_ | refine Xl L5 ?_ | refine Xt ?_ | refine Xq ?_ | refine Xn ?_ | refine Xj ?_ | refine Xo ?_); try (conv => whnf)
   have hxn : x ∉ f.slots := fun hm => by have := (h.sq.mem.1 hm).2; omega
   refine VCall.mk _ (rstand_any A3 hp x hxn (by show f.came.length ≤ _; omega) (by show f.slots.length ≤ _; omega)) ?_
   rintro _ w4 ⟨rfl, K4, X4, A4, hp4, q4⟩
   refine ⟨_, rfl, ?_⟩
   repeat ((conv => whnf); first | refine Xt ?_ | refine Xq ?_ | refine Xn ?_ | refine Xj ?_ | refine Xo ?_); try (conv => whnf)
   have hse : o2.seq = false := by
     unfold Os.seq
     rw [k2.mem, k2.self, hhead]
     refine decide_eq_false fun e => ?_
     injection e with e
     exact hne (e.trans h.self)
   exact .mk ⟨rfl, A4.opf hp4 ((h2.more (T' := T + 1) (by omega)).stand hse hxm (by rw [k2.placed, hpl]; exact e7) (by show f.slots.length + 1 ≤ _; omega)) F2 (q03.trans q4)⟩
end
end Go.Proofs.YtoilipfgimcoiaaGreat
namespace Go.Proofs.YtoilipfgimcoiaaGreat
open Go Go.RowKit
section
variable {K K' : Nat → Nat} {w w' : World} {r b T : Nat} {f : Rf} {X : RfX} {o : Os}
theorem RefAt.s_saw (h : RefAt w K r b f X) {i g off : Nat} (hi : i < f.saw.length) (v : Bool) (eA : X.wA = some ⟨g, off, none⟩) (hw : w' = w.setCell ⟨g, off + i, none⟩ (.bool v)) : RefAt w' K r b { f with saw := f.saw.set i v } X ∧ Ro (· = r + 5) K K w w' := by
 have r0 := h.r0
 obtain ⟨x, hx⟩ : ∃ x, f.saw[i]? = some x := ⟨_, List.getElem?_eq_getElem hi⟩
 have hwr := h.wr
 rw [eA] at hwr
 obtain ⟨o1, q⟩ := hwr.setC (fun _ => rfl) hx (y := v) (k := 0) (v := .bool v) (by omega) rfl (w' := w') (by rw [hw, Nat.mul_one]; rfl)
 have e : cellsR { f with saw := f.saw.set i v } X = cellsR f X := by unfold cellsR; simp only [List.length_set]
 exact ⟨⟨h.r0, h.kb, Nat.lt_of_lt_of_le h.hb q.size, fun y hy => h.kz y (Nat.le_trans q.size hy), by rw [e]; exact range_roF h.rg h.hb q (by rw [h.kb]; omega), there_roF h.th h.hb q (by rw [h.kb]; omega), h.pr.ro q (by omega), h.cr.ro q (by omega), h.cv, fun y hy => (h.cb y hy).ro q (by omega), h.sr.ro q (by omega), h.tr.ro q (by omega), by show OwnO w' K (r + 5) 1 eBo X.wA X.wc _; rw [eA]; exact o1⟩, q⟩
theorem RefAt.s_told (h : RefAt w K r b f X) {i g off : Nat} (hi : i < f.told.length) (v : Nat) (eA : X.tA = some ⟨g, off, none⟩) (hw : w' = w.setCell ⟨g, off + i, none⟩ (.int .i64 v)) : RefAt w' K r b { f with told := f.told.set i v } X ∧ Ro (· = r + 4) K K w w' := by
 have r0 := h.r0
 obtain ⟨x, hx⟩ : ∃ x, f.told[i]? = some x := ⟨_, List.getElem?_eq_getElem hi⟩
 have hwr := h.tr
 rw [eA] at hwr
 obtain ⟨o1, q⟩ := hwr.setC (fun _ => rfl) hx (y := v) (k := 0) (v := .int .i64 v) (by omega) rfl (w' := w') (by rw [hw, Nat.mul_one]; rfl)
 have e : cellsR { f with told := f.told.set i v } X = cellsR f X := by unfold cellsR; simp only [List.length_set]
 exact ⟨⟨h.r0, h.kb, Nat.lt_of_lt_of_le h.hb q.size, fun y hy => h.kz y (Nat.le_trans q.size hy), by rw [e]; exact range_roF h.rg h.hb q (by rw [h.kb]; omega), there_roF h.th h.hb q (by rw [h.kb]; omega), h.pr.ro q (by omega), h.cr.ro q (by omega), h.cv, fun y hy => (h.cb y hy).ro q (by omega), h.sr.ro q (by omega), by show OwnO w' K (r + 4) 1 eNat X.tA X.tc _; rw [eA]; exact o1, h.wr.ro q (by omega)⟩, q⟩
set_option maxRecDepth 100000 in
set_option maxHeartbeats 8000000 in
theorem rhear_any (A : RefAt w K r b f X) (hp : PosOk f X) (h : Sim T o f) (F : FrO o) (hT : T ≤ 100000) (q : Int) (s : Stb) :
   Calls Tryz.prog 54 #[.pointer (some ⟨b, 0, none⟩), .int .i64 q, .agg (sbA s)] w fun e w' => e = .returned (.int .i64 (o.hear q s).1) ∧ OPF T w K r b (o.hear q s).2 w' := by
 refine calls_vc tab_ok Tryz.func54 rfl ?_
 have r0 := A.r0
 have hbz := A.hb
 have m16 := h.m16
 have t2 := h.T2
 have hul := h.ul
 conv => whnf
 refine .mk fun wA hwA => ?_
 obtain ⟨ba, hba⟩ : ∃ ba, ba = w.heap.size := ⟨_, rfl⟩
 rw [← hba]
 have bA : Below w.heap.size w wA := by rw [hwA.out]; exact below_box1 _ _ _
 have zA : wA.heap.size = w.heap.size + 1 := by rw [hwA.out]; simp
 have oA : wA.rangeAt ba 0 (sbA s).toList := by rw [hwA.out, hba]; exact range_new w _ 50
 clear hwA
 have AA := A.below bA
 have kA : K ba = 0 := A.kz _ (by omega)
 have hba1 : ba < wA.heap.size := by omega
 have L1 := AA.l_self (l := [b, ba]) (by simp)
 have L2 := AA.l_stop (l := [b, ba]) (by simp)
 have L3 := AA.l_id (l := [b, ba]) (by simp)
 have L4 := AA.l_upto (l := [b, ba]) (by simp)
 rw [← h.frz] at L2
 rw [← h.id] at L3
 have s0 := Sm.refl [b, ba] wA
 have sd : Sm [b, ba] wA wA.drew := fun _ _ => rfl
 have sdd : Sm [b, ba] wA wA.drew.drew := fun _ _ => rfl
 have S0 : Ld Tryz.prog 38 ba 0 (Sm [b, ba] wA) (.agg #[.int .i64 s.v.e, .int .i64 s.v.l, .int .i64 s.v.i, .int .i64 s.v.c]) := ⟨fun W' hW => load_agg (by kernel_rfl) (by kernel_rfl) (range_sub (n := 4) (range_same oA (hW _ (by simp))) 0 rfl)⟩
 have S1 : Ld Tryz.prog 3 ba 4 (Sm [b, ba] wA) (.int .i64 s.d) := ⟨fun W' hW => load3 (cell_sm (oA 4 _ rfl) (by simp) hW)⟩
 have S2 : Ld Tryz.prog 3 ba 5 (Sm [b, ba] wA) (.int .i64 s.p) := ⟨fun W' hW => load3 (cell_sm (oA 5 _ rfl) (by simp) hW)⟩
 have opA : ∀ y, Below wA.heap.size wA y → OPF T w K r b o y := fun y hy => (AA.below hy).opf hp h F (.below (bA.trans (hy.mono bA.size)))
 repeat ((conv => whnf); first | refine Xt ?_ | refine Xq ?_ | refine Xn ?_ | refine Xj ?_ | refine Xo ?_); try (conv => whnf)
 refine VCall.mk _ (ridx_any AA q (by omega)) ?_
 rintro _ _ ⟨rfl, rfl⟩
 refine ⟨_, rfl, ?_⟩
 rename_i wA
 rcases idxI_cases f.mem q with ⟨i1, i2⟩ | ⟨i, x, i1, hix, i3, i2⟩
 · rw [i1]
   have hp1 : o.hear q s = (72, o) := by unfold Os.hear; rw [if_pos (.inl (by rw [h.mem]; exact i2))]
   rw [hp1]
   repeat ((conv => whnf); first | refine Xt ?_ | refine Xq ?_ | refine Xn ?_ | refine Xj ?_ | refine Xo ?_); try (conv => whnf)
   exact .mk ⟨rfl, opA _ (Below.refl _ _)⟩
 rw [i1]
 subst i3
 have hil := (List.getElem?_eq_some_iff.1 hix).1
 by_cases h2 : x = f.self
 · have hp1 : o.hear x s = (72, o) := by unfold Os.hear; rw [if_pos (.inr (by rw [h2, h.self]))]
   rw [hp1]
   repeat ((conv => whnf); first | refine Xl (L1.at s0) ?_ | refine Xt ?_ | refine Xq ?_ | refine Xn ?_ | refine Xj ?_ | refine Xo ?_); try (conv => whnf)
   exact .mk ⟨rfl, opA _ (Below.refl _ _)⟩
 have h2' : ¬ ((x : Int) = (o.self : Int)) := by rw [h.self]; omega
 have hp1 : o.hear x s = if ¬ (0 ≤ s.d ∧ s.d ≤ 4611686018427387904) ∨ s.p < 0 ∨ s.d < s.p then (1, o) else if s.v ≠ o.id then (40, o) else if o.frz = true then (70, o) else if (o.done : Int) < s.p then (43, o) else (0, ((o.heard x s.d.toNat).rise s.p.toNat).rise ((o.heard x s.d.toNat).rise s.p.toNat).least) := by
   unfold Os.hear; rw [if_neg (by rw [h.mem, i2]; simp; exact h2'), Int.toNat_natCast]
 rw [hp1]
 clear hp1
 by_cases h3 : ¬ (0 ≤ s.d ∧ s.d ≤ 4611686018427387904) ∨ s.p < 0 ∨ s.d < s.p
 · rw [if_pos h3]
   have fin : OPF T w K r b o wA := opA _ (Below.refl _ _)
   by_cases c1 : s.d < 0
   · repeat ((conv => whnf); first | refine Xl (L1.at s0) ?_ | refine Xl (S1.at s0) ?_ | refine Xl (S2.at s0) ?_ | refine Xt ?_ | refine Xq ?_ | refine Xn ?_ | refine Xj ?_ | refine Xo ?_); try (conv => whnf)
     exact .mk ⟨rfl, fin⟩
   by_cases c2 : 4611686018427387904 < s.d
   · repeat ((conv => whnf); first | refine Xl (L1.at s0) ?_ | refine Xl (S1.at s0) ?_ | refine Xl (S2.at s0) ?_ | refine Xt ?_ | refine Xq ?_ | refine Xn ?_ | refine Xj ?_ | refine Xo ?_); try (conv => whnf)
     exact .mk ⟨rfl, fin⟩
   by_cases c3 : s.p < 0
   · repeat ((conv => whnf); first | refine Xl (L1.at s0) ?_ | refine Xl (S1.at s0) ?_ | refine Xl (S2.at s0) ?_ | refine Xt ?_ | refine Xq ?_ | refine Xn ?_ | refine Xj ?_ | refine Xo ?_); try (conv => whnf)
     exact .mk ⟨rfl, fin⟩
   have c4 : s.d < s.p := by omega
   repeat ((conv => whnf); first | refine Xl (L1.at s0) ?_ | refine Xl (S1.at s0) ?_ | refine Xl (S2.at s0) ?_ | refine Xt ?_ | refine Xq ?_ | refine Xn ?_ | refine Xj ?_ | refine Xo ?_); try (conv => whnf)
   exact .mk ⟨rfl, fin⟩
 rw [if_neg h3]
 obtain ⟨dn, hdn⟩ := Int.eq_ofNat_of_zero_le (show 0 ≤ s.d by omega)
 obtain ⟨pn, hpn⟩ := Int.eq_ofNat_of_zero_le (show 0 ≤ s.p by omega)
 rw [hdn, hpn] at h3 ⊢
 rw [hdn] at S1
 rw [hpn] at S2
 rw [Int.toNat_natCast, Int.toNat_natCast]
 repeat ((conv => whnf); first | refine Xl (L1.at s0) ?_ | refine Xl (S1.at s0) ?_ | refine Xl (S2.at s0) ?_ | refine Xt ?_ | refine Xq ?_ | refine Xn ?_ | refine Xj ?_ | refine Xo ?_); try (conv => whnf)
 refine VDraw.pl 1000 (.stop [0, 1, 2, 3, 4, 5, 6]) (Sm [b, ba] wA) (by kernel_rfl) (sd) ?_
 repeat ((conv => whnf); first | refine Xl S0 ?_ | refine Xl L3 ?_ | refine Xt ?_ | refine Xq ?_ | refine Xn ?_ | refine Xj ?_ | refine Xo ?_); try (conv => whnf)
 refine VBin.mk _ (Bn.of fun W' => run_neq_vd W' s.v.e s.v.l s.v.i s.v.c o.id.e o.id.l o.id.i o.id.c) ?_
 by_cases h4 : s.v = o.id
 case neg =>
   rw [if_pos h4, decide_eq_false h4]
   repeat ((conv => whnf); first | refine Xt ?_ | refine Xq ?_ | refine Xn ?_ | refine Xj ?_ | refine Xo ?_); try (conv => whnf)
   exact .mk ⟨rfl, opA _ (Below.refl _ _).drew⟩
 rw [if_neg (by simpa using h4), decide_eq_true h4]
 cases h5 : o.frz with
 | true =>
   rw [h5] at L2
   rw [if_pos rfl]
   repeat ((conv => whnf); first | refine Xl (L2.at sd) ?_ | refine Xt ?_ | refine Xq ?_ | refine Xn ?_ | refine Xj ?_ | refine Xo ?_); try (conv => whnf)
   exact .mk ⟨rfl, opA _ (Below.refl _ _).drew⟩
 | false =>
   rw [h5] at L2
   rw [if_neg (by simp)]
   have hdone := h.done
   repeat ((conv => whnf); first | refine Xl (L2.at sd) ?_ | refine Xt ?_ | refine Xq ?_ | refine Xn ?_ | refine Xj ?_ | refine Xo ?_); try (conv => whnf)
   refine VDraw.pl 1000 (.stop [0, 1, 2, 3, 4, 5, 6]) (Sm [b, ba] wA) (by kernel_rfl) (sdd) ?_
   by_cases h6 : (f.upto : Int) < (pn : Int)
   · rw [if_pos (by rw [hdone]; exact h6)]
     repeat ((conv => whnf); first | refine Xl S2 ?_ | refine Xl L4 ?_ | refine Xt ?_ | refine Xq ?_ | refine Xn ?_ | refine Xj ?_ | refine Xo ?_); try (conv => whnf)
     exact .mk ⟨rfl, opA _ (Below.refl _ _).drew.drew⟩
   rw [if_neg (by rw [hdone]; exact h6)]
   have b02 : Below wA.heap.size wA wA.drew.drew := (Below.refl _ wA).drew.drew
   have A0 := AA.below b02
   have q0 : Ro (inF r) K K w wA.drew.drew := (Ro.below bA).drew.drew
   obtain ⟨gw, ow, eW, gw1, gwk, -, gw4, gw5⟩ := A0.wr.get (by rw [h.wl]; omega)
   have LW := A0.l_saw (l := [b, ba]) (by simp)
   rw [eW, h.wl] at LW
   have s00 := Sm.refl [b, ba] wA.drew.drew
   repeat ((conv => whnf); first | refine Xl S2 ?_ | refine Xl L4 ?_ | refine Xl (LW.at s00) ?_ | refine Xt ?_ | refine Xq ?_ | refine Xn ?_ | refine Xj ?_ | refine Xo ?_); try (conv => whnf)
   have hcw : f.saw.length ≤ X.wc := by
     obtain ⟨gw', ow', eW', -, -, hc, -⟩ := A0.wr.get (by rw [h.wl]; omega)
     exact hc
   have twi := gw4 i (by rw [h.wl] at hcw; omega)
   refine VStore.cell (by kernel_rfl) (by rw [show ow + mulO i 1 = ow + i from rfl]; exact twi.1) (by rw [show ow + mulO i 1 = ow + i from rfl]; exact twi.2) rfl rfl fun w1 hw1 => ?_
   obtain ⟨A1, q1⟩ := A0.s_saw (i := i) (by rw [h.wl]; exact hil) true eW (w' := w1) hw1.out
   clear hw1
   have z1 : wA.drew.drew.heap.size ≤ w1.heap.size := q1.size
   have z00 : wA.drew.drew.heap.size = wA.heap.size := rfl
   have o1 := range_same oA (q1.same ba hba1 (by rw [kA]; omega))
   have hti := h.tt i x hix h2
   have htl : i < f.told.length := by rw [h.tl]; exact hil
   obtain ⟨gt, ot, eT, gt1, gtk, -, gt4, gt5⟩ := A1.tr.get (by show 0 < f.told.length; rw [h.tl]; omega)
   have LT := A1.l_told (l := [b, ba, gt]) (by simp)
   rw [eT, show ({ f with saw := f.saw.set i true } : Rf).told.length = f.told.length from rfl, h.tl] at LT
   have TV : Ld Tryz.prog 3 gt (ot + i) (Sm [b, ba, gt] w1) (.int .i64 (o.told x)) := ⟨fun W' hW => load3 (cell_sm (by have := gt5 i _ hti 0 _ rfl; rwa [Nat.mul_one] at this) (by simp) hW)⟩
   have D1 : Ld Tryz.prog 3 ba 4 (Sm [b, ba, gt] w1) (.int .i64 dn) := ⟨fun W' hW => load3 (by rw [← hdn]; exact cell_sm (o1 4 _ rfl) (by simp) hW)⟩
   have s1 : Sm [b, ba, gt] w1 w1.drew := fun _ _ => rfl
   have s1d : Sm [b, ba, gt] w1 w1.drew.drew := fun _ _ => rfl
   have h7 := h.heard hix h2 dn
   have F7 : FrO (o.heard x dn) := F
   have hgt : (f.told[i]?).getD 0 = o.told x := by rw [hti]; rfl
   -- what follows, once the told number stands
   have key : ∀ w3 : World, RefAt w3 K r b (f.heard i dn) X → Ro (inF r) K K w w3 → (w3.rangeAt ba 0 (sbA s).toList) → True := fun _ _ _ _ => trivial
   by_cases h8 : o.told x < dn
   · repeat ((conv => whnf); first | refine Xt ?_ | refine Xq ?_ | refine Xn ?_ | refine Xj ?_ | refine Xo ?_); try (conv => whnf)
     refine VDraw.pl 1000 (.stop [0, 1, 2, 3, 4, 5, 6, 7, 8, 9]) (Sm [b, ba, gt] w1) (by kernel_rfl) (s1) ?_
     repeat ((conv => whnf); first | refine Xl D1 ?_ | refine Xl LT ?_ | refine Xl TV ?_ | refine Xt ?_ | refine Xq ?_ | refine Xn ?_ | refine Xj ?_ | refine Xo ?_); try (conv => whnf)
     refine VDraw.pl 8 (.one [0, 1, 2, 3, 4, 5, 6, 7] 8 (.stop [])) (Sm [b, ba, gt] w1) (by kernel_rfl) (s1d) ?_
     repeat ((conv => whnf); first | refine Xl D1 ?_ | refine Xl LT ?_ | refine Xl TV ?_ | refine Xt ?_ | refine Xq ?_ | refine Xn ?_ | refine Xj ?_ | refine Xo ?_); try (conv => whnf)
     have hct : f.told.length ≤ X.tc := by
       obtain ⟨gt', ot', eT', -, -, hc, -⟩ := A1.tr.get (by show 0 < f.told.length; rw [h.tl]; omega)
       exact hc
     have A1d := A1.below (Below.refl _ w1).drew.drew
     have tti := gt4 i (by rw [h.tl] at hct; omega)
     refine VStore.cell (by kernel_rfl) (by rw [show ot + mulO i 1 = ot + i from rfl]; exact tti.1) (by rw [show ot + mulO i 1 = ot + i from rfl]; exact tti.2) rfl rfl fun w3 hw3 => ?_
     obtain ⟨A3, q3⟩ := A1d.s_told (i := i) htl dn eT (w' := w3) hw3.out
     clear hw3
     have A3' : RefAt w3 K r b (f.heard i dn) X := by
       unfold Rf.heard
       rw [hgt, show max (o.told x) dn = dn by omega]
       exact A3
     have q03 : Ro (inF r) K K w w3 := (((q0.trans (q1.more fun y hy => by unfold inF; omega)).drew).drew).trans (q3.more fun y hy => by unfold inF; omega)
     have z3 : w1.drew.drew.heap.size ≤ w3.heap.size := q3.size
     have z11 : w1.drew.drew.heap.size = w1.heap.size := rfl
     have o3 : w3.rangeAt ba 0 (sbA s).toList := range_same o1 (q3.same ba (by omega) (by rw [kA]; omega))
     repeat ((conv => whnf); first | (refine VS.last rfl ?_) | refine Xt ?_ | refine Xq ?_ | refine Xn ?_ | refine Xj ?_ | refine Xo ?_); try (conv => whnf)
     have hD : Ld Tryz.prog 3 ba 5 (Eq w3) (.int .i64 pn) := .of (load3 (by rw [← hpn]; exact o3 5 _ rfl))
     have hz3 : ba < w3.heap.size := by omega
     repeat ((conv => whnf); first | refine Xl hD ?_ | refine Xt ?_ | refine Xq ?_ | refine Xn ?_ | refine Xj ?_ | refine Xo ?_); try (conv => whnf)
     refine VCall.mk _ (rrise_any A3' pn) ?_
     rintro _ w4 ⟨rfl, A4, q4⟩
     refine ⟨_, rfl, ?_⟩
     have h8' := h7.rise (n := pn) (by show pn ≤ f.upto; omega)
     have F8 := F7.rise pn
     repeat ((conv => whnf); first | refine Xt ?_ | refine Xq ?_ | refine Xn ?_ | refine Xj ?_ | refine Xo ?_); try (conv => whnf)
     refine VCall.mk _ (rleast_any A4 h8') ?_
     rintro _ w5 ⟨rfl, b5⟩
     refine ⟨_, rfl, ?_⟩
     have A5 := A4.below b5
     have hll := least_le ((o.heard x dn).rise pn)
     have h9 := h8'.rise (n := ((o.heard x dn).rise pn).least) (by rw [← h8'.done]; exact hll)
     repeat ((conv => whnf); first | refine Xt ?_ | refine Xq ?_ | refine Xn ?_ | refine Xj ?_ | refine Xo ?_); try (conv => whnf)
     refine VCall.mk _ (rrise_any A5 ((o.heard x dn).rise pn).least) ?_
     rintro _ w6 ⟨rfl, A6, q6⟩
     refine ⟨_, rfl, ?_⟩
     repeat ((conv => whnf); first | refine Xt ?_ | refine Xq ?_ | refine Xn ?_ | refine Xj ?_ | refine Xo ?_); try (conv => whnf)
     exact .mk ⟨rfl, A6.opf hp h9 (F8.rise _) (((q03.trans (q4.more fun y hy => by unfold inF; omega)).trans (.below b5)).trans (q6.more fun y hy => by unfold inF; omega))⟩
   · repeat ((conv => whnf); first | refine Xt ?_ | refine Xq ?_ | refine Xn ?_ | refine Xj ?_ | refine Xo ?_); try (conv => whnf)
     refine VDraw.pl 1000 (.stop [0, 1, 2, 3, 4, 5, 6, 7, 8, 9]) (Sm [b, ba, gt] w1) (by kernel_rfl) (s1) ?_
     have A3' : RefAt w1.drew K r b (f.heard i dn) X := by
       unfold Rf.heard
       rw [hgt, show max (o.told x) dn = o.told x by omega, show f.told.set i (o.told x) = f.told by
         obtain ⟨e1, e2⟩ := List.getElem?_eq_some_iff.1 hti
         rw [← e2, List.set_getElem_self]]
       exact A1.below (Below.refl _ w1).drew
     have q03 : Ro (inF r) K K w w1.drew := (q0.trans (q1.more fun y hy => by unfold inF; omega)).drew
     have o3 : w1.drew.rangeAt ba 0 (sbA s).toList := range_same o1 rfl
     have z3 : w1.heap.size ≤ w1.drew.heap.size := Nat.le_refl _
     have hD : Ld Tryz.prog 3 ba 5 (Eq w1.drew) (.int .i64 pn) := .of (load3 (by rw [← hpn]; exact o3 5 _ rfl))
     have hz3 : ba < w1.drew.heap.size := by omega
     repeat ((conv => whnf); first | refine Xl D1 ?_ | refine Xl LT ?_ | refine Xl TV ?_ | refine Xl hD ?_ | refine Xt ?_ | refine Xq ?_ | refine Xn ?_ | refine Xj ?_ | refine Xo ?_); try (conv => whnf)
     generalize w1.drew = w3 at A3' q03 o3 hD hz3 ⊢
     refine VCall.mk _ (rrise_any A3' pn) ?_
     rintro _ w4 ⟨rfl, A4, q4⟩
     refine ⟨_, rfl, ?_⟩
     have h8' := h7.rise (n := pn) (by show pn ≤ f.upto; omega)
     have F8 := F7.rise pn
     repeat ((conv => whnf); first | refine Xt ?_ | refine Xq ?_ | refine Xn ?_ | refine Xj ?_ | refine Xo ?_); try (conv => whnf)
     refine VCall.mk _ (rleast_any A4 h8') ?_
     rintro _ w5 ⟨rfl, b5⟩
     refine ⟨_, rfl, ?_⟩
     have A5 := A4.below b5
     have hll := least_le ((o.heard x dn).rise pn)
     have h9 := h8'.rise (n := ((o.heard x dn).rise pn).least) (by rw [← h8'.done]; exact hll)
     repeat ((conv => whnf); first | refine Xt ?_ | refine Xq ?_ | refine Xn ?_ | refine Xj ?_ | refine Xo ?_); try (conv => whnf)
     refine VCall.mk _ (rrise_any A5 ((o.heard x dn).rise pn).least) ?_
     rintro _ w6 ⟨rfl, A6, q6⟩
     refine ⟨_, rfl, ?_⟩
     repeat ((conv => whnf); first | refine Xt ?_ | refine Xq ?_ | refine Xn ?_ | refine Xj ?_ | refine Xo ?_); try (conv => whnf)
     exact .mk ⟨rfl, A6.opf hp h9 (F8.rise _) (((q03.trans (q4.more fun y hy => by unfold inF; omega)).trans (.below b5)).trans (q6.more fun y hy => by unfold inF; omega))⟩
end
end Go.Proofs.YtoilipfgimcoiaaGreat
