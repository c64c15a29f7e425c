/- OdH OdI OdJ OdL, joined. -/
import Derived.Test.YtoilipfgimcoiaaGreatOz5
set_option linter.unusedVariables false
set_option linter.unusedSimpArgs false
namespace Go.Proofs.YtoilipfgimcoiaaGreat
open Go Go.RowKit
structure RiK (o p : Os) : Prop where
 id : p.id = o.id
 mem : p.mem = o.mem
 self : p.self = o.self
 win : p.win = o.win
 frz : p.frz = o.frz
 seen : p.seen = o.seen
 taken : p.taken = o.taken
 placed : p.placed = o.placed
 told : p.told = o.told
 queue : p.queue = o.queue
 done : p.done = o.done
 mine : p.mine = o.mine
theorem rise1_keeps (o : Os) : RiK o o.rise1 := by
 cases h : o.slots with
 | nil => rw [rise1_nil h]; exact ⟨rfl, rfl, rfl, rfl, rfl, rfl, rfl, rfl, rfl, rfl, rfl, rfl⟩
 | cons s l => rw [rise1_cons h]; exact ⟨rfl, rfl, rfl, rfl, rfl, rfl, rfl, rfl, rfl, rfl, rfl, rfl⟩
theorem riseK_keeps (o : Os) : ∀ k, RiK o (o.riseK k)
 | 0 => ⟨rfl, rfl, rfl, rfl, rfl, rfl, rfl, rfl, rfl, rfl, rfl, rfl⟩
 | k + 1 => by
   have a := riseK_keeps o k
   have b := rise1_keeps (o.riseK k)
   exact ⟨b.id.trans a.id, b.mem.trans a.mem, b.self.trans a.self, b.win.trans a.win, b.frz.trans a.frz, b.seen.trans a.seen, b.taken.trans a.taken, b.placed.trans a.placed, b.told.trans a.told, b.queue.trans a.queue, b.done.trans a.done, b.mine.trans a.mine⟩
theorem rise_keeps (o : Os) (n : Nat) : RiK o (o.rise n) := riseK_keeps o _
def Os.placeD (o : Os) (frm : Nat) (d : Dt) : Int × Os :=
 if d.s ≠ frm then (72, o) else if d.q ≠ o.taken frm + 1 then (73, o) else if o.done < d.st then (43, o)
 else if (o.win : Int) ≤ ((o.rise d.st).taken frm : Int) - ((o.rise d.st).gone frm : Int) then (71, o.rise d.st) else (0, (o.rise d.st).keep d)
def Os.placeS (o : Os) (frm : Nat) (pos sb : Nat) (x : Sl) : Int × Os :=
 if o.mem.head? ≠ some frm ∨ hasB o.mem x.s = false then (72, o) else if pos ≠ o.known + 1 ∨ x.q ≠ o.placed x.s + 1 then (73, o) else if o.done < sb then (43, o)
 else if o.most ≤ (o.rise sb).slots.length then (71, o.rise sb) else (0, (o.rise sb).stand x)
section
variable {w w' : World} {K K' : Nat → Nat} {r b : Nat} {o : Os} {X : OsX}
set_option maxRecDepth 100000 in
set_option maxHeartbeats 8000000 in
theorem placeD_any (A : OrdAt w K r b o X) (W : WfO o) (frm : Nat) (hf : frm < 16) (d : Dt) (hdk : o.done ≤ o.known) (htk : o.taken frm + 1 ≤ 1000000000) (hql : o.queue.length + 1 ≤ 1000000000) {B : Option Addr} {cB nB : Nat} (hnB : d.b.length = nB) (hB : RowK w K 1 eByte B d.b) (hbl : nB ≤ 1000000000) :
   Calls Tryz.prog 101 #[.pointer (some ⟨b, 0, none⟩), .int .i64 frm, .agg (dtA d B cB nB)] w fun e w' => e = .returned (.int .i64 (o.placeD frm d).1) ∧ OP w K r b (o.placeD frm d).2 w' := by
 refine calls_vc tab_ok Tryz.func101 rfl ?_
 have hbz := A.cs.hb
 conv => whnf
 refine .mk fun wA hwA => ?_
 have bA : Below w.heap.size w wA := by rw [hwA.out]; exact below_box1 _ _ _
 have zA : wA.heap.size = w.heap.size + 1 := by rw [hwA.out]; simp
 have oA : wA.rangeAt w.heap.size 0 (dtA d B cB nB).toList := by rw [hwA.out]; exact range_new w _ 44
 clear hwA
 have AA := A.below bA
 have kA : K w.heap.size = 0 := A.kz _ (Nat.le_refl _)
 have L0 : Ld Tryz.prog 3 w.heap.size 0 (Sm [b, w.heap.size] wA) (.int .i64 d.s) := ⟨fun W' hW => load3 (cell_sm (oA 0 _ rfl) (by simp) hW)⟩
 have L1 : Ld Tryz.prog 3 w.heap.size 1 (Sm [b, w.heap.size] wA) (.int .i64 d.q) := ⟨fun W' hW => load3 (cell_sm (oA 1 _ rfl) (by simp) hW)⟩
 have L2 : Ld Tryz.prog 3 w.heap.size 2 (Sm [b, w.heap.size] wA) (.int .i64 d.st) := ⟨fun W' hW => load3 (cell_sm (oA 2 _ rfl) (by simp) hW)⟩
 have M1 := AA.l_taken (l := [b, w.heap.size]) (by simp) hf
 have M2 := AA.l_done (l := [b, w.heap.size]) (by simp)
 have s0 := Sm.refl [b, w.heap.size] wA
 have sd : Sm [b, w.heap.size] wA wA.drew := fun _ _ => rfl
 have sdd : Sm [b, w.heap.size] wA wA.drew.drew := fun _ _ => rfl
 have opA : ∀ x, Below wA.heap.size wA x → OP w K r b o x := fun x hx => ⟨K, X, AA.below hx, .below (bA.trans (hx.mono (by omega)))⟩
 by_cases h1 : d.s = frm
 case neg =>
   repeat ((conv => whnf); first | refine Xl (L0.at s0) ?_ | refine Xt ?_ | refine Xq ?_ | refine Xn ?_ | refine Xj ?_ | refine Xo ?_); try (conv => whnf)
   exact .mk ⟨by unfold Os.placeD; rw [if_pos h1]; rfl, by unfold Os.placeD; rw [if_pos h1]; exact opA _ (Below.refl _ _)⟩
 by_cases h2 : d.q = o.taken frm + 1
 case neg =>
   repeat ((conv => whnf); first | refine Xl (L0.at s0) ?_ | refine Xt ?_ | refine Xq ?_ | refine Xn ?_ | refine Xj ?_ | refine Xo ?_); try (conv => whnf)
   refine VDraw.pl 1000 (.stop [0, 1, 2, 3, 4, 5, 6, 7, 8, 9, 10]) (Sm [b, w.heap.size] wA) (by kernel_rfl) (sd) ?_
   repeat ((conv => whnf); first | refine Xl L1 ?_ | refine Xl M1 ?_ | refine Xt ?_ | refine Xq ?_ | refine Xn ?_ | refine Xj ?_ | refine Xo ?_); try (conv => whnf)
   exact .mk ⟨by unfold Os.placeD; rw [if_neg (by simpa using h1), if_pos h2]; rfl, by unfold Os.placeD; rw [if_neg (by simpa using h1), if_pos h2]; exact opA _ (Below.refl _ _).drew⟩
 by_cases h3 : o.done < d.st
 case pos =>
   repeat ((conv => whnf); first | refine Xl (L0.at s0) ?_ | refine Xt ?_ | refine Xq ?_ | refine Xn ?_ | refine Xj ?_ | refine Xo ?_); try (conv => whnf)
   refine VDraw.pl 1000 (.stop [0, 1, 2, 3, 4, 5, 6, 7, 8, 9, 10]) (Sm [b, w.heap.size] wA) (by kernel_rfl) (sd) ?_
   repeat ((conv => whnf); first | refine Xl L1 ?_ | refine Xl M1 ?_ | refine Xt ?_ | refine Xq ?_ | refine Xn ?_ | refine Xj ?_ | refine Xo ?_); try (conv => whnf)
   refine VDraw.pl 1000 (.stop [0, 1, 2, 3, 4, 5, 6, 7]) (Sm [b, w.heap.size] wA) (by kernel_rfl) (sdd) ?_
   repeat ((conv => whnf); first | refine Xl L2 ?_ | refine Xl M2 ?_ | refine Xt ?_ | refine Xq ?_ | refine Xn ?_ | refine Xj ?_ | refine Xo ?_); try (conv => whnf)
   exact .mk ⟨by unfold Os.placeD; rw [if_neg (by simpa using h1), if_neg (by simpa using h2), if_pos h3]; rfl, by unfold Os.placeD; rw [if_neg (by simpa using h1), if_neg (by simpa using h2), if_pos h3]; exact opA _ (Below.refl _ _).drew.drew⟩
 have hp : o.placeD frm d = if (o.win : Int) ≤ ((o.rise d.st).taken frm : Int) - ((o.rise d.st).gone frm : Int) then (71, o.rise d.st) else (0, (o.rise d.st).keep d) := by unfold Os.placeD; rw [if_neg (by simpa using h1), if_neg (by simpa using h2), if_neg h3]
 rw [hp]
 repeat ((conv => whnf); first | refine Xl (L0.at s0) ?_ | refine Xt ?_ | refine Xq ?_ | refine Xn ?_ | refine Xj ?_ | refine Xo ?_); try (conv => whnf)
 refine VDraw.pl 1000 (.stop [0, 1, 2, 3, 4, 5, 6, 7, 8, 9, 10]) (Sm [b, w.heap.size] wA) (by kernel_rfl) (sd) ?_
 repeat ((conv => whnf); first | refine Xl L1 ?_ | refine Xl M1 ?_ | refine Xt ?_ | refine Xq ?_ | refine Xn ?_ | refine Xj ?_ | refine Xo ?_); try (conv => whnf)
 refine VDraw.pl 1000 (.stop [0, 1, 2, 3, 4, 5, 6, 7]) (Sm [b, w.heap.size] wA) (by kernel_rfl) (sdd) ?_
 repeat ((conv => whnf); first | refine Xl L2 ?_ | refine Xl M2 ?_ | refine Xl (L2.at sdd) ?_ | refine Xt ?_ | refine Xq ?_ | refine Xn ?_ | refine Xj ?_ | refine Xo ?_); try (conv => whnf)
 have Add := AA.below (Below.drew (Below.drew (Below.refl _ wA)))
 refine VCall.mk _ (rise_any Add W d.st (by omega)) ?_
 rintro _ w2 ⟨rfl, K2, X2, A2, q2⟩
 refine ⟨_, rfl, ?_⟩
 have W2 := W.rise d.st
 have k2 := rise_keeps o d.st
 obtain ⟨o2, ho2⟩ : ∃ o2, o2 = o.rise d.st := ⟨_, rfl⟩
 rw [← ho2] at W2 k2 A2 ⊢
 have z2 : wA.heap.size ≤ w2.heap.size := q2.size
 have e2 : Ro (inR r) K K2 w w2 := ((Ro.below bA).trans (Ro.drew (Ro.drew (Ro.refl _ _ _)))).trans q2
 have o2A := range_same oA (q2.same w.heap.size (show w.heap.size < wA.heap.size by omega) (by rw [kA]; unfold inR; have := A.r0; omega))
 have N1 : Ld Tryz.prog 3 b (24 + frm) (Sm [b] w2) (.int .i64 (o2.taken frm)) := A2.l_taken (by simp) hf
 have N2 : Ld Tryz.prog 3 b (56 + frm) (Sm [b] w2) (.int .i64 (o2.gone frm)) := A2.l_gone (by simp) hf
 have N3 : Ld Tryz.prog 3 b 6 (Sm [b] w2) (.int .i64 o.win) := by have := A2.l_win (l := [b]) (by simp); rwa [k2.win] at this
 have t9 := W2.tk frm
 have g9 := W2.gn frm
 have s2d : Sm [b] w2 w2.drew := fun _ _ => rfl
 repeat ((conv => whnf); first | refine Xt ?_ | refine Xq ?_ | refine Xn ?_ | refine Xj ?_ | refine Xo ?_); try (conv => whnf)
 refine VDraw.pl 1000 (.stop [0, 1, 2, 3, 4, 5, 6, 7, 8, 9, 10, 11, 12, 13, 14, 15, 16, 17]) (Sm [b] w2) (by kernel_rfl) (s2d) ?_
 have A2d := A2.below (Below.refl _ w2).drew
 have e2d : Ro (inR r) K K2 w w2.drew := e2.drew
 by_cases h4 : (o.win : Int) ≤ (o2.taken frm : Int) - (o2.gone frm : Int)
 · rw [if_pos h4]
   repeat ((conv => whnf); first | refine Xl N1 ?_ | refine Xl N2 ?_ | refine Xl N3 ?_ | refine Xt ?_ | refine Xq ?_ | refine Xn ?_ | refine Xj ?_ | refine Xo ?_); try (conv => whnf)
   exact .mk ⟨rfl, K2, X2, A2d, e2d⟩
 · rw [if_neg h4]
   have L5 : Ld Tryz.prog 44 w.heap.size 0 (Eq w2.drew) (.agg (dtA d B cB nB)) := .of (load_agg (by kernel_rfl) (by kernel_rfl) o2A)
   repeat ((conv => whnf); first | refine Xl N1 ?_ | refine Xl N2 ?_ | refine Xl N3 ?_ | refine Xl L5 ?_ | refine Xt ?_ | refine Xq ?_ | refine Xn ?_ | refine Xj ?_ | refine Xo ?_); try (conv => whnf)
   have r0 := A.r0
   have hq2 : d.q = o2.taken d.s + 1 := by rw [k2.taken, h1]; exact h2
   have kp := keep_any A2d W2 d (by rw [h1]; exact hf) (by omega) (fun e he => W2.new hq2 e he) (by rw [k2.queue]; exact hql) (B := B) (cB := cB) hnB (hB.ro e2d (by unfold inR; omega)).row hbl
   refine VCall.mk _ kp ?_
   rintro _ w3 ⟨rfl, p3⟩
   refine ⟨_, rfl, ?_⟩
   repeat ((conv => whnf); first | refine Xt ?_ | refine Xq ?_ | refine Xn ?_ | refine Xj ?_ | refine Xo ?_); try (conv => whnf)
   exact .mk ⟨rfl, p3.trans e2d⟩
set_option maxRecDepth 100000 in
set_option maxHeartbeats 8000000 in
theorem placeS_any (A : OrdAt w K r b o X) (W : WfO o) (frm : Nat) (it : Itm) (pos sb : Nat) (x : Sl) (hx : x.s < 16) (e1 : it.pos = pos) (e2 : it.sb = sb) (e3 : it.ss = x.s) (e4 : it.sq = x.q) (hdk : o.done ≤ o.known) (hpl : o.placed x.s + 1 ≤ 1000000000) {B : Option Addr} {cB nB : Nat} :
   Calls Tryz.prog 102 #[.pointer (some ⟨b, 0, none⟩), .int .i64 frm, .agg (itA it B cB nB)] w fun e w' => e = .returned (.int .i64 (o.placeS frm pos sb x).1) ∧ OP w K r b (o.placeS frm pos sb x).2 w' := by
 refine calls_vc tab_ok Tryz.func102 rfl ?_
 have r0 := A.r0
 have hbz := A.cs.hb
 have m16 := W.m16
 have hm0 := W.m0
 have hkn := W.kn
 conv => whnf
 refine .mk fun wA hwA => ?_
 have bA : Below w.heap.size w wA := by rw [hwA.out]; exact below_box1 _ _ _
 have zA : wA.heap.size = w.heap.size + 1 := by rw [hwA.out]; simp
 have oA : wA.rangeAt w.heap.size 0 (itA it B cB nB).toList := by rw [hwA.out]; exact range_new w _ 48
 clear hwA
 have LA : Ld Tryz.prog 46 w.heap.size 7 (Eq wA) (kSl x) := .of (load78 (by have := range_sub (n := 2) (m := [.int .i64 it.ss, .int .i64 it.sq]) oA 7 rfl; rw [e3, e4] at this; exact this))
 repeat ((conv => whnf); first | refine Xl LA ?_ | refine Xt ?_ | refine Xq ?_ | refine Xn ?_ | refine Xj ?_ | refine Xo ?_); try (conv => whnf)
 refine .mk _ run_zero78 ?_
 conv => whnf
 refine .mk fun u1 hu1 => ?_
 repeat ((conv => whnf); first | refine Xt ?_ | refine Xq ?_ | refine Xn ?_ | refine Xj ?_ | refine Xo ?_); try (conv => whnf)
 refine VStore.new (c' := #[.int .i64 x.s, .int .i64 x.q]) hu1 (by kernel_rfl) rfl (one_sl x) fun w1 hw1 => ?_
 have c1 : Below wA.heap.size wA w1 := by rw [hw1.out]; exact (Below.refl _ _).alloc (Nat.le_refl _) _
 have z1 : w1.heap.size = wA.heap.size + 1 := by rw [hw1.out]; simp
 have r1 : w1.rangeAt wA.heap.size 0 (eSl x) := by rw [hw1.out]; exact range_new wA _ 46
 clear hu1 hw1 u1
 have b1 : Below w.heap.size w w1 := bA.trans (c1.mono (by omega))
 have o1 := range_same oA (c1.block _ (show w.heap.size < wA.heap.size by omega))
 have A1 := A.below b1
 have kA : K w.heap.size = 0 := A.kz _ (Nat.le_refl _)
 have kB : K wA.heap.size = 0 := A.kz _ (by omega)
 obtain ⟨m0, hm00⟩ : ∃ m0, o.mem[0]? = some m0 := ⟨_, List.getElem?_eq_getElem hm0⟩
 obtain ⟨mb, mo, hmA, mz, mk, mc⟩ := A1.rs.mem hm0
 have L1 := A1.l_mem (l := [b, mb]) (by simp)
 rw [hmA] at L1
 have L3 : Ld Tryz.prog 3 mb (mo + 0) (Sm [b, mb] w1) (.int .i64 m0) := ⟨fun W hW => load3 (cell_sm (by have := mc 0 m0 hm00 0 _ rfl; rwa [Nat.zero_mul] at this) (by simp) hW)⟩
 have L4 : Ld Tryz.prog 3 wA.heap.size 0 (Sm [wA.heap.size] w1) (.int .i64 x.s) := ⟨fun W hW => load3 (cell_sm (r1 0 _ rfl) (by simp) hW)⟩
 have hh : o.mem.head? = some m0 := by rw [List.head?_eq_getElem?]; exact hm00
 have s1 := Sm.refl [b, mb] w1
 have s1' := Sm.refl [wA.heap.size] w1
 have op1 : ∀ y, Below w1.heap.size w1 y → OP w K r b o y := fun y hy => ⟨K, X, A1.below hy, .below (b1.trans (hy.mono b1.size))⟩
 by_cases h1 : m0 = frm
 case neg =>
   have hpS : o.placeS frm pos sb x = (72, o) := by unfold Os.placeS; rw [if_pos (.inl (by rw [hh]; intro e; injection e with e; exact h1 e))]
   rw [hpS]
   repeat ((conv => whnf); first | refine Xl (L1.at s1) ?_ | refine Xl (L3.at s1) ?_ | refine Xt ?_ | refine Xq ?_ | refine Xn ?_ | refine Xj ?_ | refine Xo ?_); try (conv => whnf)
   exact .mk ⟨rfl, op1 _ (Below.refl _ _)⟩
 cases h2 : hasB o.mem x.s with
 | false =>
   have hpS : o.placeS frm pos sb x = (72, o) := by unfold Os.placeS; rw [if_pos (.inr h2)]
   rw [hpS]
   repeat ((conv => whnf); first | refine Xl (L1.at s1) ?_ | refine Xl (L3.at s1) ?_ | refine Xl (L4.at s1') ?_ | refine Xt ?_ | refine Xq ?_ | refine Xn ?_ | refine Xj ?_ | refine Xo ?_); try (conv => whnf)
   refine VCall.mk _ (member_any A1 m16 x.s) ?_
   rintro _ _ ⟨rfl, rfl⟩
   refine ⟨_, rfl, ?_⟩
   rw [h2]
   repeat ((conv => whnf); first | refine Xt ?_ | refine Xq ?_ | refine Xn ?_ | refine Xj ?_ | refine Xo ?_); try (conv => whnf)
   exact .mk ⟨rfl, op1 _ (Below.refl _ _)⟩
 | true =>
   repeat ((conv => whnf); first | refine Xl (L1.at s1) ?_ | refine Xl (L3.at s1) ?_ | refine Xl (L4.at s1') ?_ | refine Xt ?_ | refine Xq ?_ | refine Xn ?_ | refine Xj ?_ | refine Xo ?_); try (conv => whnf)
   refine VCall.mk _ (member_any A1 m16 x.s) ?_
   rintro _ _ ⟨rfl, rfl⟩
   refine ⟨_, rfl, ?_⟩
   rw [h2]
   rename_i w1
   have hbw : w.heap.size < w1.heap.size := by omega
   have hbA : wA.heap.size < w1.heap.size := by omega
   have P1 : Ld Tryz.prog 3 w.heap.size 5 (Below w1.heap.size w1) (.int .i64 pos) := ⟨fun W' hW => load3 (by have := (World.cell?_of_block (a := ⟨w.heap.size, 5, none⟩) (hW.block _ hbw)).trans (o1 5 _ rfl); rw [← e1]; exact this)⟩
   have P2 : Ld Tryz.prog 3 w.heap.size 6 (Below w1.heap.size w1) (.int .i64 sb) := ⟨fun W' hW => load3 (by have := (World.cell?_of_block (a := ⟨w.heap.size, 6, none⟩) (hW.block _ hbw)).trans (o1 6 _ rfl); rw [← e2]; exact this)⟩
   have P3 : Ld Tryz.prog 3 wA.heap.size 0 (Below w1.heap.size w1) (.int .i64 x.s) := ⟨fun W' hW => load3 ((World.cell?_of_block (a := ⟨wA.heap.size, 0, none⟩) (hW.block _ hbA)).trans (r1 0 _ rfl))⟩
   have P4 : Ld Tryz.prog 3 wA.heap.size 1 (Below w1.heap.size w1) (.int .i64 x.q) := ⟨fun W' hW => load3 ((World.cell?_of_block (a := ⟨wA.heap.size, 1, none⟩) (hW.block _ hbA)).trans (r1 1 _ rfl))⟩
   have hsm : ∀ W', Below w1.heap.size w1 W' → Sm [b] w1 W' := fun W' hW => .below hW fun y hy => by rw [List.mem_singleton.1 hy]; omega
   have P5 : Ld Tryz.prog 3 b (40 + x.s) (Below w1.heap.size w1) (.int .i64 (o.placed x.s)) := (A1.l_placed (l := [b]) (by simp) hx).mono hsm
   have P6 : Ld Tryz.prog 3 b 92 (Below w1.heap.size w1) (.int .i64 o.done) := (A1.l_done (l := [b]) (by simp)).mono hsm
   have sd : Below w1.heap.size w1 w1.drew := (Below.refl _ _).drew
   repeat ((conv => whnf); first | refine Xt ?_ | refine Xq ?_ | refine Xn ?_ | refine Xj ?_ | refine Xo ?_); try (conv => whnf)
   refine VDraw.pl 1000 (.one [0, 1, 2] 3 (.stop [4, 5, 6, 7, 8, 9, 10, 11, 12, 13, 14, 15, 16, 17, 18, 19])) (Below w1.heap.size w1) (by kernel_rfl) (sd) ?_
   repeat ((conv => whnf); first | refine Xl P1 ?_ | refine Xt ?_ | refine Xq ?_ | refine Xn ?_ | refine Xj ?_ | refine Xo ?_); try (conv => whnf)
   refine VCall.mk _ (known_any (A1.below sd) (by omega)) ?_
   rintro _ w2 ⟨rfl, b2⟩
   refine ⟨_, rfl, ?_⟩
   have s2 : Below w1.heap.size w1 w2 := sd.trans b2
   have hgap : ∀ (v : Int × Os), (¬ (pos ≠ o.known + 1 ∨ x.q ≠ o.placed x.s + 1) → (if o.done < sb then (43, o) else if o.most ≤ (o.rise sb).slots.length then ((71 : Int), o.rise sb) else (0, (o.rise sb).stand x)) = v) → (pos ≠ o.known + 1 ∨ x.q ≠ o.placed x.s + 1 → ((73 : Int), o) = v) → o.placeS frm pos sb x = v := fun v hv1 hv2 => by
     unfold Os.placeS
     rw [if_neg (by rw [hh, h1, h2]; simp)]
     split
     · rename_i h; exact hv2 h
     · rename_i h; exact hv1 h
   by_cases h3 : pos = o.known + 1
   case neg =>
     rw [hgap (73, o) (fun h => absurd (.inl h3) h) (fun _ => rfl)]
     repeat ((conv => whnf); first | (refine VS.mk s2 ?_) | refine Xl P1 ?_ | refine Xl P3 ?_ | refine Xl P4 ?_ | refine Xl P5 ?_ | refine Xt ?_ | refine Xq ?_ | refine Xn ?_ | refine Xj ?_ | refine Xo ?_); try (conv => whnf)
     exact .mk ⟨rfl, op1 _ s2⟩
   by_cases h4 : x.q = o.placed x.s + 1
   case neg =>
     rw [hgap (73, o) (fun h => absurd (.inr h4) h) (fun _ => rfl)]
     repeat ((conv => whnf); first | (refine VS.mk s2 ?_) | refine Xl P1 ?_ | refine Xl P3 ?_ | refine Xl P4 ?_ | refine Xl P5 ?_ | refine Xt ?_ | refine Xq ?_ | refine Xn ?_ | refine Xj ?_ | refine Xo ?_); try (conv => whnf)
     exact .mk ⟨rfl, op1 _ s2⟩
   have hpl2 : o.placeS frm pos sb x = if o.done < sb then (43, o) else if o.most ≤ (o.rise sb).slots.length then ((71 : Int), o.rise sb) else (0, (o.rise sb).stand x) := hgap _ (fun _ => rfl) (fun h => absurd h (by simp [h3, h4]))
   rw [hpl2]
   clear hgap hpl2
   repeat ((conv => whnf); first | (refine VS.mk s2 ?_) | refine Xl P1 ?_ | refine Xl P3 ?_ | refine Xl P4 ?_ | refine Xl P5 ?_ | refine Xt ?_ | refine Xq ?_ | refine Xn ?_ | refine Xj ?_ | refine Xo ?_); try (conv => whnf)
   have s2d := s2.drew
   refine VDraw.pl 1000 (.stop [0, 1, 2, 3, 4, 5, 6, 7]) (Below w1.heap.size w1) (by kernel_rfl) (s2d) ?_
   by_cases h5 : o.done < sb
   case pos =>
     rw [if_pos h5]
     repeat ((conv => whnf); first | refine Xl P2 ?_ | refine Xl P6 ?_ | refine Xt ?_ | refine Xq ?_ | refine Xn ?_ | refine Xj ?_ | refine Xo ?_); try (conv => whnf)
     exact .mk ⟨rfl, op1 _ s2d⟩
   rw [if_neg h5]
   repeat ((conv => whnf); first | refine Xl P2 ?_ | refine Xl P6 ?_ | refine Xl (P2.at s2d) ?_ | refine Xt ?_ | refine Xq ?_ | refine Xn ?_ | refine Xj ?_ | refine Xo ?_); try (conv => whnf)
   refine VCall.mk _ (rise_any (A1.below s2d) W sb (by omega)) ?_
   rintro _ w3 ⟨rfl, K3, X3, A3, q3⟩
   refine ⟨_, rfl, ?_⟩
   have W3 := W.rise sb
   have k3 := rise_keeps o sb
   have e3' : Ro (inR r) K K3 w w3 := (Ro.below (b1.trans (s2d.mono b1.size))).trans q3
   have zw := s2.size
   have zwd : w2.drew.heap.size = w2.heap.size := rfl
   have z3 : w2.heap.size ≤ w3.heap.size := q3.size
   have r3 := range_same r1 ((q3.same wA.heap.size (by omega) (by rw [kB]; unfold inR; omega)).trans (s2d.block _ (by omega)))
   obtain ⟨o3, ho3⟩ : ∃ o3, o3 = o.rise sb := ⟨_, rfl⟩
   rw [← ho3] at W3 k3 A3 ⊢
   have kBb : K3 wA.heap.size = 0 := (q3.kk _ (by omega)).trans kB
   have hb3 : b < w3.heap.size := by omega
   have hsm3 : ∀ W', Below w3.heap.size w3 W' → Sm [b] w3 W' := fun W' hW => .below hW fun y hy => by rw [List.mem_singleton.1 hy]; exact hb3
   have N1 : Ld Tryz.prog 57 b 90 (Below w3.heap.size w3) (.slice X3.sA o3.slots.length X3.sc) := (A3.l_slots (l := [b]) (by simp)).mono hsm3
   have N2 : Ld Tryz.prog 46 wA.heap.size 0 (Below w3.heap.size w3) (kSl x) := ⟨fun W' hW => load78 (range_same r3 (hW.block _ (by omega)))⟩
   have s3 : Below w3.heap.size w3 w3.drew := (Below.refl _ _).drew
   have hk3 := W3.kn
   unfold Os.known at hk3
   repeat ((conv => whnf); first | refine Xt ?_ | refine Xq ?_ | refine Xn ?_ | refine Xj ?_ | refine Xo ?_); try (conv => whnf)
   refine VDraw.pl 1000 (.one [0, 1, 2, 3, 4, 5] 6 (.stop [7])) (Below w3.heap.size w3) (by kernel_rfl) (s3) ?_
   repeat ((conv => whnf); first | refine Xl N1 ?_ | refine Xt ?_ | refine Xq ?_ | refine Xn ?_ | refine Xj ?_ | refine Xo ?_); try (conv => whnf)
   refine VCall.mk _ (most_any (A3.below s3) (by rw [k3.mem]; exact m16) (by rw [k3.win]; exact W.win)) ?_
   rintro _ w4 ⟨rfl, b4⟩
   refine ⟨_, rfl, ?_⟩
   have s4 : Below w3.heap.size w3 w4 := s3.trans b4
   have hmost : o3.most = o.most := by unfold Os.most; rw [k3.mem, k3.win]
   rw [hmost]
   by_cases h6 : o.most ≤ o3.slots.length
   · rw [if_pos h6]
     repeat ((conv => whnf); first | (refine VS.mk s4 ?_) | refine Xl N1 ?_ | refine Xt ?_ | refine Xq ?_ | refine Xn ?_ | refine Xj ?_ | refine Xo ?_); try (conv => whnf)
     exact .mk ⟨rfl, K3, X3, A3.below s4, e3'.trans (.below s4)⟩
   · rw [if_neg h6]
     repeat ((conv => whnf); first | (refine VS.mk s4 ?_) | refine Xl N1 ?_ | refine Xl (N2.at s4) ?_ | refine Xt ?_ | refine Xq ?_ | refine Xn ?_ | refine Xj ?_ | refine Xo ?_); try (conv => whnf)
     refine VCall.mk _ (stand_any (A3.below s4) W3 x hx) ?_
     rintro _ w5 ⟨rfl, p5⟩
     refine ⟨_, rfl, ?_⟩
     repeat ((conv => whnf); first | refine Xt ?_ | refine Xq ?_ | refine Xn ?_ | refine Xj ?_ | refine Xo ?_); try (conv => whnf)
     exact .mk ⟨rfl, p5.trans (e3'.trans (.below s4))⟩
end
end Go.Proofs.YtoilipfgimcoiaaGreat
namespace Go.Proofs.YtoilipfgimcoiaaGreat
open Go Go.RowKit
def Os.place (o : Os) (frm : Int) (it : Itm) : Int × Os :=
 if hasB o.mem frm = false ∨ frm = o.self then (72, o) else if it.ok = false then (1, o) else if o.frz = true then (70, o)
 else if it.kd = 1 then o.placeD frm.toNat ⟨it.s.toNat, it.q.toNat, it.st.toNat, it.b⟩ else o.placeS frm.toNat it.pos.toNat it.sb.toNat ⟨it.ss.toNat, it.sq.toNat⟩
structure Rm (o : Os) : Prop where
 dk : o.done ≤ o.known
 tk : ∀ s, o.taken s + 1 ≤ 1000000000
 pl : ∀ s, o.placed s + 1 ≤ 1000000000
 ql : o.queue.length + 1 ≤ 1000000000
section
variable {w w' : World} {K K' : Nat → Nat} {r b : Nat} {o : Os} {X : OsX}
set_option maxRecDepth 100000 in
set_option maxHeartbeats 8000000 in
theorem place_any (A : OrdAt w K r b o X) (W : WfO o) (M : Rm o) (frm : Int) (it : Itm) {B : Option Addr} {cB nB : Nat} (hnB : it.b.length = nB) (hB : RowK w K 1 eByte B it.b) :
   Calls Tryz.prog 46 #[.pointer (some ⟨b, 0, none⟩), .int .i64 frm, .agg (itA it B cB nB)] w fun e w' => e = .returned (.int .i64 (o.place frm it).1) ∧ OP w K r b (o.place frm it).2 w' := by
 refine calls_vc tab_ok Tryz.func46 rfl ?_
 have r0 := A.r0
 have hbz := A.cs.hb
 conv => whnf
 refine .mk fun wA hwA => ?_
 have bA : Below w.heap.size w wA := by rw [hwA.out]; exact below_box1 _ _ _
 have zA : wA.heap.size = w.heap.size + 1 := by rw [hwA.out]; simp
 have oA : wA.rangeAt w.heap.size 0 (itA it B cB nB).toList := by rw [hwA.out]; exact range_new w _ 48
 clear hwA
 have AA := A.below bA
 have hba : w.heap.size < wA.heap.size := by omega
 have L1 := AA.l_self (l := [b]) (by simp)
 have L2 := AA.l_frz (l := [b]) (by simp)
 have s0 := Sm.refl [b] wA
 have LI : Ld Tryz.prog 48 w.heap.size 0 (Below wA.heap.size wA) (.agg (itA it B cB nB)) := ⟨fun W' hW => load_agg (by kernel_rfl) (by kernel_rfl) (range_same oA (hW.block _ hba))⟩
 have LK : Ld Tryz.prog 3 w.heap.size 0 (Below wA.heap.size wA) (.int .i64 it.kd) := ⟨fun W' hW => load3 ((World.cell?_of_block (a := ⟨w.heap.size, 0, none⟩) (hW.block _ hba)).trans (oA 0 _ rfl))⟩
 have opA : ∀ y, Below wA.heap.size wA y → OP w K r b o y := fun y hy => ⟨K, X, AA.below hy, .below (bA.trans (hy.mono bA.size))⟩
 have hsm : ∀ W', Below wA.heap.size wA W' → Sm [b] wA W' := fun W' hW => .below hW fun y hy => by rw [List.mem_singleton.1 hy]; omega
 repeat ((conv => whnf); first | refine Xt ?_ | refine Xq ?_ | refine Xn ?_ | refine Xj ?_ | refine Xo ?_); try (conv => whnf)
 refine VCall.mk _ (member_any AA W.m16 frm) ?_
 rintro _ _ ⟨rfl, rfl⟩
 refine ⟨_, rfl, ?_⟩
 rename_i wA
 cases h1 : hasB o.mem frm with
 | false =>
   have hp : o.place frm it = (72, o) := by unfold Os.place; rw [if_pos (.inl h1)]
   rw [hp]
   repeat ((conv => whnf); first | refine Xt ?_ | refine Xq ?_ | refine Xn ?_ | refine Xj ?_ | refine Xo ?_); try (conv => whnf)
   exact .mk ⟨rfl, opA _ (Below.refl _ _)⟩
 | true =>
   obtain ⟨f, hfm, hff⟩ : ∃ f ∈ o.mem, (f : Int) = frm := of_decide_eq_true h1
   subst hff
   have hf16 := W.mlt f hfm
   by_cases h2 : f = o.self
   · have hp : o.place f it = (72, o) := by unfold Os.place; rw [if_pos (.inr (by rw [h2]))]
     rw [hp]
     repeat ((conv => whnf); first | refine Xl (L1.at s0) ?_ | refine Xt ?_ | refine Xq ?_ | refine Xn ?_ | refine Xj ?_ | refine Xo ?_); try (conv => whnf)
     exact .mk ⟨rfl, opA _ (Below.refl _ _)⟩
   · repeat ((conv => whnf); first | refine Xl (L1.at s0) ?_ | refine Xl (LI.at (Below.refl _ _)) ?_ | refine Xt ?_ | refine Xq ?_ | refine Xn ?_ | refine Xj ?_ | refine Xo ?_); try (conv => whnf)
     refine VCall.mk _ (valid_any it B cB nB wA hnB) ?_
     rintro _ w2 ⟨rfl, b2⟩
     refine ⟨_, rfl, ?_⟩
     have h2' : ¬ ((f : Int) = (o.self : Int)) := by omega
     cases h3 : it.ok with
     | false =>
       have hp : o.place f it = (1, o) := by unfold Os.place; rw [if_neg (by rw [h1]; simp; exact h2'), if_pos h3]
       rw [hp]
       repeat ((conv => whnf); first | refine Xt ?_ | refine Xq ?_ | refine Xn ?_ | refine Xj ?_ | refine Xo ?_); try (conv => whnf)
       exact .mk ⟨rfl, opA _ b2⟩
     | true =>
       cases h4 : o.frz with
       | true =>
         have hp : o.place f it = (70, o) := by unfold Os.place; rw [if_neg (by rw [h1]; simp; exact h2'), if_neg (by rw [h3]; simp), if_pos h4]
         rw [hp]
         rw [h4] at L2
         repeat ((conv => whnf); first | refine Xl (L2.at (hsm _ b2)) ?_ | refine Xt ?_ | refine Xq ?_ | refine Xn ?_ | refine Xj ?_ | refine Xo ?_); try (conv => whnf)
         exact .mk ⟨rfl, opA _ b2⟩
       | false =>
         rw [h4] at L2
         have A2 := AA.below b2
         have hB2 : RowK w2 K 1 eByte B it.b := hB.ro (R := fun _ => False) (Ro.below (bA.trans (b2.mono bA.size))) id
         have hor : it.isD ∨ it.isS := of_decide_eq_true h3
         by_cases h5 : it.kd = 1
         · have hD : it.isD := by
             rcases hor with h | h
             · exact h
             · unfold Itm.isS at h; omega
           unfold Itm.isD at hD
           obtain ⟨d, hd⟩ : ∃ d : Dt, d = ⟨it.s.toNat, it.q.toNat, it.st.toNat, it.b⟩ := ⟨_, rfl⟩
           have hp : o.place f it = o.placeD f d := by unfold Os.place; rw [if_neg (by rw [h1]; simp; exact h2'), if_neg (by rw [h3]; simp), if_neg (by rw [h4]; simp), if_pos h5, Int.toNat_natCast, hd]
           rw [hp]
           have hdA : (#[.int .i64 it.s, .int .i64 it.q, .int .i64 it.st, .slice B nB cB] : Array Value) = dtA d B cB nB := by
             rw [hd]
             show _ = (#[.int .i64 (it.s.toNat : Int), .int .i64 (it.q.toNat : Int), .int .i64 (it.st.toNat : Int), .slice B nB cB] : Array Value)
             rw [Int.toNat_of_nonneg (by omega), Int.toNat_of_nonneg (by omega), Int.toNat_of_nonneg (by omega)]
           have LD : Ld Tryz.prog 44 w.heap.size 1 (Below wA.heap.size wA) (.agg (dtA d B cB nB)) := ⟨fun W' hW => by rw [← hdA]; exact load_agg (by kernel_rfl) (by kernel_rfl) (range_sub (n := 4) (range_same oA (hW.block _ hba)) 1 rfl)⟩
           repeat ((conv => whnf); first | refine Xl (L2.at (hsm _ b2)) ?_ | refine Xl (LK.at b2) ?_ | refine Xl (LD.at b2) ?_ | refine Xt ?_ | refine Xq ?_ | refine Xn ?_ | refine Xj ?_ | refine Xo ?_); try (conv => whnf)
           refine VCall.mk _ (placeD_any A2 W f hf16 d M.dk (M.tk f) M.ql (B := B) (cB := cB) (by rw [hd]; exact hnB) (by rw [hd]; exact hB2) (by omega)) ?_
           rintro _ w3 ⟨rfl, p3⟩
           refine ⟨_, rfl, ?_⟩
           repeat ((conv => whnf); first | refine Xt ?_ | refine Xq ?_ | refine Xn ?_ | refine Xj ?_ | refine Xo ?_); try (conv => whnf)
           exact .mk ⟨rfl, p3.trans (.below (bA.trans (b2.mono bA.size)))⟩
         · have hS : it.isS := by
             rcases hor with h | h
             · unfold Itm.isD at h; omega
             · exact h
           unfold Itm.isS at hS
           have hp : o.place f it = o.placeS f it.pos.toNat it.sb.toNat ⟨it.ss.toNat, it.sq.toNat⟩ := by unfold Os.place; rw [if_neg (by rw [h1]; simp; exact h2'), if_neg (by rw [h3]; simp), if_neg (by rw [h4]; simp), if_neg h5, Int.toNat_natCast]
           rw [hp]
           repeat ((conv => whnf); first | refine Xl (L2.at (hsm _ b2)) ?_ | refine Xl (LK.at b2) ?_ | refine Xl (LI.at b2) ?_ | refine Xt ?_ | refine Xq ?_ | refine Xn ?_ | refine Xj ?_ | refine Xo ?_); try (conv => whnf)
           refine VCall.mk _ (placeS_any A2 W f it it.pos.toNat it.sb.toNat ⟨it.ss.toNat, it.sq.toNat⟩ (by show it.ss.toNat < 16; omega) (by omega) (by omega) (by show it.ss = (it.ss.toNat : Int); omega) (by show it.sq = (it.sq.toNat : Int); omega) M.dk (M.pl _) (B := B) (cB := cB) (nB := nB)) ?_
           rintro _ w3 ⟨rfl, p3⟩
           refine ⟨_, rfl, ?_⟩
           repeat ((conv => whnf); first | refine Xt ?_ | refine Xq ?_ | refine Xn ?_ | refine Xj ?_ | refine Xo ?_); try (conv => whnf)
           exact .mk ⟨rfl, p3.trans (.below (bA.trans (b2.mono bA.size)))⟩
set_option maxRecDepth 100000 in
theorem freeze_any (A : OrdAt w K r b o X) : Calls Tryz.prog 55 #[.pointer (some ⟨b, 0, none⟩)] w fun e w' => e = .returned (.tuple #[]) ∧ OP w K r b { o with frz := true } w' := by
 refine calls_vc tab_ok Tryz.func55 rfl ?_
 conv => whnf
 repeat ((conv => whnf); first | refine Xt ?_ | refine Xq ?_ | refine Xn ?_ | refine Xj ?_ | refine Xo ?_); try (conv => whnf)
 have cq := A.cs.cell 7 (by omega)
 refine VStore.cell (by kernel_rfl) (by rw [show addO 0 7 = 7 from rfl, cq.1]; rfl) cq.2 rfl rfl fun w1 hw1 => ?_
 obtain ⟨A1, q1⟩ := A.s_frz true (j := addO 0 7) rfl hw1.out
 repeat ((conv => whnf); first | refine Xt ?_ | refine Xq ?_ | refine Xn ?_ | refine Xj ?_ | refine Xo ?_); try (conv => whnf)
 exact .mk ⟨rfl, K, X, A1, q1.more fun y hy => by unfold inR; omega⟩
set_option maxRecDepth 100000 in
theorem frozen_any (A : OrdAt w K r b o X) : Calls Tryz.prog 67 #[.pointer (some ⟨b, 0, none⟩)] w fun e w' => e = .returned (.bool o.frz) ∧ w' = w := by
 refine calls_vc tab_ok Tryz.func67 rfl ?_
 conv => whnf
 have L1 := A.l_frz (l := [b]) (by simp)
 repeat ((conv => whnf); first | refine Xl (L1.at (Sm.refl _ _)) ?_ | refine Xt ?_ | refine Xq ?_ | refine Xn ?_ | refine Xj ?_ | refine Xo ?_); try (conv => whnf)
 exact .mk ⟨rfl, rfl⟩
def Os.seenB (o : Os) (q : Int) : Bool := decide (0 ≤ q ∧ q < 16) && o.seen q.toNat
set_option maxRecDepth 100000 in
theorem seen_any (A : OrdAt w K r b o X) (q : Int) : Calls Tryz.prog 64 #[.pointer (some ⟨b, 0, none⟩), .int .i64 q] w fun e w' => e = .returned (.bool (o.seenB q)) ∧ w' = w := by
 refine calls_vc tab_ok Tryz.func64 rfl ?_
 conv => whnf
 by_cases h1 : 0 ≤ q
 · obtain ⟨n, rfl⟩ := Int.eq_ofNat_of_zero_le h1
   by_cases h2 : n < 16
   · have L1 := A.l_seen (l := [b]) (by simp) h2
     repeat ((conv => whnf); first | refine Xl (L1.at (Sm.refl _ _)) ?_ | refine Xt ?_ | refine Xq ?_ | refine Xn ?_ | refine Xj ?_ | refine Xo ?_); try (conv => whnf)
     exact .mk ⟨by unfold Os.seenB; rw [decide_eq_true (by omega), Int.toNat_natCast]; rfl, rfl⟩
   · repeat ((conv => whnf); first | refine Xt ?_ | refine Xq ?_ | refine Xn ?_ | refine Xj ?_ | refine Xo ?_); try (conv => whnf)
     exact .mk ⟨by unfold Os.seenB; rw [decide_eq_false (by omega)]; rfl, rfl⟩
 · repeat ((conv => whnf); first | refine Xt ?_ | refine Xq ?_ | refine Xn ?_ | refine Xj ?_ | refine Xo ?_); try (conv => whnf)
   exact .mk ⟨by unfold Os.seenB; rw [decide_eq_false (by omega)]; rfl, rfl⟩
def stA (o : Os) : Array Value := #[.int .i64 o.id.e, .int .i64 o.id.l, .int .i64 o.id.i, .int .i64 o.id.c, .int .i64 o.done, .int .i64 o.pre]
theorem run_zero88 (W : World) : (zeroValue 50).run Tryz.prog W = .ok (.agg #[.int .i64 0, .int .i64 0, .int .i64 0, .int .i64 0, .int .i64 0, .int .i64 0]) W := by kernel_rfl
theorem build88 (W : World) (e l i c d p : Int) : (Instr.build 50 #[(0, .agg #[.int .i64 e, .int .i64 l, .int .i64 i, .int .i64 c]), (1, .int .i64 d), (2, .int .i64 p)]).run Tryz.prog W = .ok (.agg #[.int .i64 e, .int .i64 l, .int .i64 i, .int .i64 c, .int .i64 d, .int .i64 p]) W := by kernel_rfl
theorem OrdAt.l_id (h : OrdAt w K r b o X) {l : List Nat} (hl : b ∈ l) : Ld Tryz.prog 38 b 0 (Sm l w) (.agg #[.int .i64 o.id.e, .int .i64 o.id.l, .int .i64 o.id.i, .int .i64 o.id.c]) := ⟨fun W hW => by
 refine load_agg (by kernel_rfl) (by kernel_rfl) fun j u hu => ?_
 have hj : j < 4 := (List.getElem?_eq_some_iff.1 hu).1
 rw [Nat.zero_add, h.c hl (by omega) hW, ← hu]
 match j, hj with
 | 0, _ => rfl
 | 1, _ => rfl
 | 2, _ => rfl
 | 3, _ => rfl⟩
theorem one_stA (o : Os) : (stA o).all (·.oneCell') = true := by
 have : ∀ u ∈ [Value.int .i64 o.id.e, .int .i64 o.id.l, .int .i64 o.id.i, .int .i64 o.id.c, .int .i64 o.done, .int .i64 o.pre], u.oneCell' = true := fun u hu => by
   simp only [List.mem_cons, List.not_mem_nil, or_false] at hu
   rcases hu with rfl | rfl | rfl | rfl | rfl | rfl <;> rfl
 exact all_oneCell_toArray this
set_option maxRecDepth 100000 in
theorem told_any (A : OrdAt w K r b o X) : Calls Tryz.prog 61 #[.pointer (some ⟨b, 0, none⟩)] w fun e w' => e = .returned (.agg (stA o)) ∧ Below w.heap.size w w' := by
 refine calls_vc tab_ok Tryz.func61 rfl ?_
 have hbz := A.cs.hb
 conv => whnf
 refine .mk _ run_zero88 ?_
 conv => whnf
 refine .mk fun u1 hu1 => ?_
 have c1 : Below w.heap.size w u1 := by rw [hu1.out]; exact (Below.refl _ _).alloc (Nat.le_refl _) _
 have t1 : u1.there w.heap.size 0 6 := by rw [hu1.out]; exact there_new _ _ _
 have A1 := A.below c1
 have L1 := A1.l_id (l := [b]) (by simp)
 have L2 := A1.l_done (l := [b]) (by simp)
 have L3 := A1.l_pre (l := [b]) (by simp)
 have s1 : Sm [b] u1 u1.drew := fun _ _ => rfl
 clear hu1
 repeat ((conv => whnf); first | refine Xt ?_ | refine Xq ?_ | refine Xn ?_ | refine Xj ?_ | refine Xo ?_); try (conv => whnf)
 refine VDraw.pl 13 (.one [0, 1, 2, 3, 4, 5, 6, 7, 8, 9, 10, 11, 12] 13 (.stop [])) (Sm [b] u1) (by kernel_rfl) (s1) ?_
 repeat ((conv => whnf); first | refine Xl L1 ?_ | refine Xl L2 ?_ | refine Xl L3 ?_ | refine Xt ?_ | refine Xq ?_ | refine Xn ?_ | refine Xj ?_ | refine Xo ?_); try (conv => whnf)
 refine VBuild.mk (.agg (stA o)) (fun W' => build88 W' o.id.e o.id.l o.id.i o.id.c o.done o.pre) ?_
 repeat ((conv => whnf); first | refine Xt ?_ | refine Xq ?_ | refine Xn ?_ | refine Xj ?_ | refine Xo ?_); try (conv => whnf)
 refine VStore.mid (c := stA o) t1 (by kernel_rfl) (one_stA o) fun w2 hw2 => ?_
 have r2 : w2.rangeAt w.heap.size 0 (stA o).toList := by rw [hw2.out]; exact rng_in (w := u1.drew) t1 (by simp [stA])
 have b2 : Below w.heap.size w w2 := by rw [hw2.out]; exact Below.grown (Below.trans c1 (Below.drew (Below.refl _ u1))) (grown_sets _ _ _ _) c1.size (fun k hk => by injection hk with hk; omega)
 have LR : Ld Tryz.prog 50 w.heap.size 0 (Eq w2) (.agg (stA o)) := .of (load_agg (by kernel_rfl) (by kernel_rfl) r2)
 repeat ((conv => whnf); first | (refine VS.last rfl ?_) | refine Xl LR ?_ | refine Xt ?_ | refine Xq ?_ | refine Xn ?_ | refine Xj ?_ | refine Xo ?_); try (conv => whnf)
 exact .mk ⟨rfl, b2⟩
end
end Go.Proofs.YtoilipfgimcoiaaGreat
namespace Go.Proofs.YtoilipfgimcoiaaGreat
open Go Go.RowKit
structure Mbr where
 p : Int
 i : Int
 c : Int
def eMbr (m : Mbr) : List Value := [.int .i64 m.p, .int .i64 m.i, .int .i64 m.c]
theorem one_eMbr (m : Mbr) : ∀ u ∈ eMbr m, u.oneCell' = true := by intro u hu; simp [eMbr] at hu; rcases hu with rfl | rfl | rfl <;> rfl
abbrev vwA (v : Vd) (A : Option Addr) (n c : Nat) : Array Value := #[.int .i64 v.e, .int .i64 v.l, .int .i64 v.i, .int .i64 v.c, .slice A n c]
def Vd.ok (v : Vd) : Prop := 1 ≤ v.e ∧ v.e ≤ 4611686018427387904 ∧ 0 ≤ v.l ∧ v.l < 16 ∧ 1 ≤ v.i ∧ v.i ≤ 4611686018427387904 ∧ 1 ≤ v.c ∧ v.c ≤ 4611686018427387904
instance (v : Vd) : Decidable v.ok := by unfold Vd.ok; exact inferInstance
def Mbr.ok (m : Mbr) (last : Int) : Prop := last < m.p ∧ m.p < 16 ∧ 1 ≤ m.i ∧ m.i ≤ 4611686018427387904 ∧ 1 ≤ m.c ∧ m.c ≤ 4611686018427387904
instance (m : Mbr) (last : Int) : Decidable (m.ok last) := by unfold Mbr.ok; exact inferInstance
def msOk : Int → List Mbr → Bool
 | _, [] => true
 | last, m :: r => decide (m.ok last) && msOk m.p r
def pidL (ms : List Mbr) : List Nat := ms.map fun m => m.p.toNat
def pidsOf (v : Vd) (ms : List Mbr) (self : Int) : Option (List Nat) := if decide v.ok && msOk (-1) ms && hasB (pidL ms) self then some (pidL ms) else none
def zero65 : Value := .agg #[.int .i64 0, .int .i64 0, .int .i64 0]
theorem run_zero65 (W : World) : (zeroValue 70).run Tryz.prog W = .ok zero65 W := by kernel_rfl
theorem info3 : (Tryz.prog.info? 3).map (fun i => (i.zero, i.size, i.bytes)) = some (some (.int .i64 0), 1, 8) := by kernel_rfl
theorem bs49 (W : World) (a : Int) : (Instr.buildSlice 56 1 #[(0, .int .i64 a)]).run Tryz.prog W = .ok (.slice (some ⟨W.heap.size, 0, none⟩) 1 1) (W.alloc (.cells #[.int .i64 a] 3)) := by kernel_rfl
theorem load61 {w : World} {b j n c : Nat} {A : Option Addr} (h : w.cell? ⟨b, j, none⟩ = some (.slice A n c)) : (loadVar 39 ⟨b, j, none⟩).run Tryz.prog w = .ok (.slice A n c) w := by go_simp
def lastP (ms : List Mbr) (k : Nat) : Int := match k with
 | 0 => -1
 | k + 1 => ((ms[k]?).map (·.p)).getD 0
theorem lastP_ge {ms : List Mbr} (h : msOk (-1) ms = true) : ∀ {l : Int} {r : List Mbr}, msOk l r = true → -1 ≤ l → ∀ m ∈ r, 0 ≤ m.p ∧ m.p < 16
 | _, [], _, _, m, hm => by cases hm
 | l, x :: r, h2, hl, m, hm => by
   unfold msOk at h2
   rw [Bool.and_eq_true] at h2
   have h3 := of_decide_eq_true h2.1
   unfold Mbr.ok at h3
   rcases List.mem_cons.1 hm with rfl | hm
   · omega
   · exact lastP_ge h h2.2 (by omega) m hm
theorem msOk_drop {ms : List Mbr} : ∀ {k : Nat} {m : Mbr}, ms[k]? = some m → msOk (lastP ms k) (ms.drop k) = (decide (m.ok (lastP ms k)) && msOk (lastP ms (k + 1)) (ms.drop (k + 1))) := fun {k m} hm => by
 have hk := (List.getElem?_eq_some_iff.1 hm).1
 have e : ms.drop k = m :: ms.drop (k + 1) := by
   rw [List.drop_eq_getElem_cons hk]
   congr 1
   exact (List.getElem?_eq_some_iff.1 hm).2
 have e2 : lastP ms (k + 1) = m.p := by show ((ms[k]?).map (·.p)).getD 0 = _; rw [hm]; rfl
 rw [e, msOk, e2]
set_option maxRecDepth 100000 in
set_option maxHeartbeats 8000000 in
theorem pids_any (v : Vd) (ms : List Mbr) (self : Int) {B : Option Addr} {cB nB : Nat} (w : World) (hn : ms.length = nB) (hB : RowAt w w.heap.size 3 eMbr B ms) (h1 : nB ≤ 2000000) :
   Calls Tryz.prog 85 #[.agg (vwA v B nB cB), .int .i64 self] w fun e w' => ∃ A c, e = .returned (.slice A (match pidsOf v ms self with | some l => l.length | none => 0) c) ∧ Owns w' w.heap.size 3 1 eNat A c ((pidsOf v ms self).getD []) ∧ (A = none ↔ pidsOf v ms self = none) ∧ Below w.heap.size w w' := by
 refine calls_vc tab_ok Tryz.func85 rfl ?_
 conv => whnf
 refine .mk fun wA hwA => ?_
 have bA : Below w.heap.size w wA := by rw [hwA.out]; exact below_box1 _ _ _
 have zA : wA.heap.size = w.heap.size + 1 := by rw [hwA.out]; simp
 have oA : wA.rangeAt w.heap.size 0 (vwA v B nB cB).toList := by rw [hwA.out]; exact range_new w _ 41
 clear hwA
 have none_ : pidsOf v ms self = none → ∀ x, Below w.heap.size w x → ∃ A c, Ending.returned (Value.slice none 0 0) = .returned (.slice A (match pidsOf v ms self with | some l => l.length | none => 0) c) ∧ Owns x w.heap.size 3 1 eNat A c ((pidsOf v ms self).getD []) ∧ (A = none ↔ pidsOf v ms self = none) ∧ Below w.heap.size w x := fun hp x hx => by
   rw [hp]
   exact ⟨none, 0, rfl, owns_nil _ _ _ _ _, ⟨fun _ => rfl, fun _ => rfl⟩, hx⟩
 have L0 : Ld Tryz.prog 3 w.heap.size 0 (Eq wA) (.int .i64 v.e) := .of (load3 (oA 0 _ rfl))
 have L1 : Ld Tryz.prog 3 w.heap.size 1 (Eq wA) (.int .i64 v.l) := .of (load3 (oA 1 _ rfl))
 have L2 : Ld Tryz.prog 3 w.heap.size 2 (Eq wA) (.int .i64 v.i) := .of (load3 (oA 2 _ rfl))
 have L3 : Ld Tryz.prog 3 w.heap.size 3 (Eq wA) (.int .i64 v.c) := .of (load3 (oA 3 _ rfl))
 have L4 : Ld Tryz.prog 39 w.heap.size 4 (Eq wA) (.slice B nB cB) := .of (load61 (oA 4 _ rfl))
 by_cases hv : v.ok
 case neg =>
   have hp : pidsOf v ms self = none := by unfold pidsOf; rw [decide_eq_false hv]; rfl
   have fin := none_ hp wA bA
   unfold Vd.ok at hv
   clear none_ hp
   repeat' (conv => whnf
            first
            | (refine VLoad.mk _ L0 ?_)
            | (refine VLoad.mk _ L1 ?_)
            | (refine VLoad.mk _ L2 ?_)
            | (refine VLoad.mk _ L3 ?_)
            | (refine VCall.count (fun _ _ => ?_) (fun _ => ?_))
            | refine Xt ?_
            | refine Xq ?_
            | refine Xn ?_
            | refine Xj ?_
            | refine Xo ?_
            | (refine VCmp.split (fun _ => ?_) (fun _ => ?_)))
   all_goals try (conv => whnf)
   all_goals first
     | exact absurd (by omega) hv
     | exact .mk fin
 case pos =>
   have hv' := hv
   unfold Vd.ok at hv'
   repeat ((conv => whnf); first | refine Xl L0 ?_ | refine Xl L1 ?_ | refine Xl L2 ?_ | refine Xl L3 ?_ | refine Xl L4 ?_ | (refine VCall.count (fun _ _ => ?_) (fun hc => absurd (by omega) hc)) | refine Xt ?_ | refine Xq ?_ | refine Xn ?_ | refine Xj ?_ | refine Xo ?_); try (conv => whnf)
   refine VLoop.mk (Nat × Option Addr × Nat) (fun u => [(1, .int .i64 self), (5, .slice u.2.1 u.1 u.2.2), (6, .int .i64 (lastP ms u.1)), (41, .slice B nB cB), (42, .int .i64 nB), (43, .int .i64 u.1)]) (fun u W => u.1 ≤ nB ∧ Below w.heap.size w W ∧ Owns W w.heap.size 3 1 eNat u.2.1 u.2.2 (pidL (ms.take u.1)) ∧ msOk (-1) ms = msOk (lastP ms u.1) (ms.drop u.1) ∧ -1 ≤ lastP ms u.1) (fun u => nB - u.1) (0, none, 0) ⟨rfl, rfl, rfl, rfl, rfl, rfl, trivial⟩ ⟨Nat.zero_le _, bA, ⟨rfl, .inl ⟨rfl, rfl⟩⟩, rfl, Int.le_refl _⟩ ?_
   rintro ⟨k, A, c⟩ wk ⟨hk, bk, own, hok, hp0⟩
   dsimp only at hk own hok hp0 ⊢
   have zk := bk.size
   by_cases hkn : k < nB
   · obtain ⟨m, hm⟩ : ∃ m, ms[k]? = some m := ⟨_, List.getElem?_eq_getElem (by omega)⟩
     rw [msOk_drop hm] at hok
     obtain ⟨g, off, hBA, hg, hc⟩ := hB (by omega)
     have rm : wk.rangeAt g (off + k * 3) (eMbr m) := fun j u hu => (World.cell?_of_block (a := ⟨g, off + k * 3 + j, none⟩) (bk.block g hg)).trans (hc k m hm j u hu)
     have LM : Ld Tryz.prog 70 g (off + k * 3) (Eq wk) (.agg #[.int .i64 m.p, .int .i64 m.i, .int .i64 m.c]) := .of (load_agg (by kernel_rfl) (by kernel_rfl) rm)
     rw [hBA]
     repeat ((conv => whnf); first | refine Xl LM ?_ | refine Xt ?_ | refine Xq ?_ | refine Xn ?_ | refine Xj ?_ | refine Xo ?_); try (conv => whnf)
     refine .mk _ run_zero65 ?_
     conv => whnf
     refine .mk fun u1 hu1 => ?_
     repeat ((conv => whnf); first | refine Xt ?_ | refine Xq ?_ | refine Xn ?_ | refine Xj ?_ | refine Xo ?_); try (conv => whnf)
     refine VStore.new (c' := #[.int .i64 m.p, .int .i64 m.i, .int .i64 m.c]) hu1 (by kernel_rfl) rfl (all_oneCell_toArray (cs := eMbr m) (one_eMbr m)) fun w1 hw1 => ?_
     have c1 : Below wk.heap.size wk w1 := by rw [hw1.out]; exact (Below.refl _ _).alloc (Nat.le_refl _) _
     have r1 : w1.rangeAt wk.heap.size 0 (eMbr m) := by rw [hw1.out]; exact range_new wk _ 70
     clear hu1 hw1 u1
     have bw1 : Below w.heap.size w w1 := bk.trans (c1.mono zk)
     have M0 : Ld Tryz.prog 3 wk.heap.size 0 (Eq w1) (.int .i64 m.p) := .of (load3 (r1 0 _ rfl))
     have M1 : Ld Tryz.prog 3 wk.heap.size 1 (Eq w1) (.int .i64 m.i) := .of (load3 (r1 1 _ rfl))
     have M2 : Ld Tryz.prog 3 wk.heap.size 2 (Eq w1) (.int .i64 m.c) := .of (load3 (r1 2 _ rfl))
     by_cases hmo : m.ok (lastP ms k)
     case neg =>
       rw [decide_eq_false hmo, Bool.false_and] at hok
       have hp : pidsOf v ms self = none := by unfold pidsOf; rw [hok]; simp
       have fin := none_ hp w1 bw1
       unfold Mbr.ok at hmo
       clear none_ hp hok own
       repeat' (conv => whnf
                first
                | (refine VLoad.mk _ M0 ?_)
                | (refine VLoad.mk _ M1 ?_)
                | (refine VLoad.mk _ M2 ?_)
                | (refine VCall.count (fun _ _ => ?_) (fun _ => ?_))
                | refine Xt ?_
                | refine Xq ?_
                | refine Xn ?_
                | refine Xj ?_
                | refine Xo ?_
                | (refine VCmp.split (fun _ => ?_) (fun _ => ?_)))
       all_goals try (conv => whnf)
       all_goals first
         | exact absurd (by omega) hmo
         | exact .mk fin
     case pos =>
       rw [decide_eq_true hmo, Bool.true_and] at hok
       unfold Mbr.ok at hmo
       repeat ((conv => whnf); first | refine Xl M0 ?_ | refine Xl M1 ?_ | refine Xl M2 ?_ | (refine VCall.count (fun _ _ => ?_) (fun hc => absurd (by omega) hc)) | refine Xt ?_ | refine Xq ?_ | refine Xn ?_ | refine Xj ?_ | refine Xo ?_); try (conv => whnf)
       refine VBs.mk _ _ (bs49 w1 m.p) ?_
       have d1 : Below w1.heap.size w1 (w1.alloc (.cells #[.int .i64 m.p] 3)) := (Below.refl _ _).alloc (Nat.le_refl _) _
       have hpn : (m.p.toNat : Int) = m.p := Int.toNat_of_nonneg (by omega)
       have hnc : ∀ j u, (eNat m.p.toNat)[j]? = some u → (w1.alloc (.cells #[.int .i64 m.p] 3)).cell? ⟨w1.heap.size, j, none⟩ = some u := fun j u hu => by
         have := range_new w1 #[.int .i64 m.p] 3 j u (by unfold eNat at hu; rw [hpn] at hu; exact hu)
         rwa [Nat.zero_add] at this
       generalize w1.alloc (.cells #[.int .i64 m.p] 3) = x1 at d1 hnc ⊢
       have z1 := d1.size
       have hc1 := c1.size
       have o1 := (own.keep c1 (fun q hq => (own.lo q hq).2)).keep d1 (fun q hq => by have := (own.lo q hq).2; omega)
       have hlen : (pidL (ms.take k)).length = k := by unfold pidL; rw [List.length_map, List.length_take_of_le (by omega)]
       repeat ((conv => whnf); first | refine Xt ?_ | refine Xq ?_ | refine Xn ?_ | refine Xj ?_ | refine Xo ?_); try (conv => whnf)
       refine VApp.keep w.heap.size 1 8 _ Tryz.underlying56 info3 rfl (by decide) eNat (fun _ => rfl) one_eNat _ m.p.toNat hlen o1 hnc (by omega) (by omega) (by omega) fun A2 c2 x2 oA2 oB hg hA => ?_
       have b2 : Below w.heap.size w x2 := (bw1.trans (d1.mono (by omega))).grown hg (by omega) (fun q hq => (o1.lo q hq).1)
       have e2 : lastP ms (k + 1) = m.p := by show ((ms[k]?).map (·.p)).getD 0 = _; rw [hm]; rfl
       repeat ((conv => whnf); first | refine Xt ?_ | refine Xq ?_ | refine Xn ?_ | refine Xj ?_ | refine Xo ?_); try (conv => whnf)
       exact .mk (k + 1, A2, c2) ⟨rfl, rfl, by dsimp only; rw [e2]; rfl, rfl, rfl, rfl, trivial⟩ ⟨hkn, b2, by
         dsimp only
         have : pidL (ms.take (k + 1)) = pidL (ms.take k) ++ [m.p.toNat] := by unfold pidL; rw [List.take_add_one, hm, List.map_append]; rfl
         rw [this]; exact oA2, hok, by dsimp only; rw [e2]; omega⟩ (by show nB - (k + 1) < nB - k; omega)
   · obtain rfl : k = nB := by omega
     rw [List.drop_of_length_le (by omega), msOk] at hok
     rw [List.take_of_length_le (by omega)] at own
     have hlen : (pidL ms).length = k := by unfold pidL; rw [List.length_map]; exact hn
     repeat ((conv => whnf); first | refine Xt ?_ | refine Xq ?_ | refine Xn ?_ | refine Xj ?_ | refine Xo ?_); try (conv => whnf)
     refine VCall.mk _ (contains_any A c k wk.heap.size (pidL ms) self wk hlen (own.row fun _ => rfl) h1) ?_
     rintro _ _ ⟨rfl, rfl⟩
     refine ⟨_, rfl, ?_⟩
     rename_i wk
     cases hs : hasB (pidL ms) self with
     | false =>
       have hp : pidsOf v ms self = none := by unfold pidsOf; rw [hs]; simp
       repeat ((conv => whnf); first | refine Xt ?_ | refine Xq ?_ | refine Xn ?_ | refine Xj ?_ | refine Xo ?_); try (conv => whnf)
       exact .mk (none_ hp wk bk)
     | true =>
       have hp : pidsOf v ms self = some (pidL ms) := by unfold pidsOf; rw [hs, hok, decide_eq_true hv]; rfl
       repeat ((conv => whnf); first | refine Xt ?_ | refine Xq ?_ | refine Xn ?_ | refine Xj ?_ | refine Xo ?_); try (conv => whnf)
       refine .mk ⟨A, c, by rw [hp]; show _ = Ending.returned (.slice A (pidL ms).length c); rw [hlen]; rfl, by rw [hp]; exact own, ?_, bk⟩
       rw [hp]
       refine ⟨fun e => ?_, fun e => by cases e⟩
       subst e
       rcases own.2 with ⟨-, h0⟩ | ⟨g, cap, cur, hv, _⟩
       · obtain ⟨x, hx, -⟩ := of_decide_eq_true hs
         rw [List.eq_nil_of_length_eq_zero h0] at hx
         cases hx
       · cases hv
end Go.Proofs.YtoilipfgimcoiaaGreat
namespace Go.Proofs.YtoilipfgimcoiaaGreat
open Go Go.RowKit
def falses : List Value := List.replicate 16 (.bool false)
def zeros16 : List Value := List.replicate 16 (.int .i64 0)
def osA (v : Vd) (A : Option Addr) (n c : Nat) (self win : Int) (h : Nat) : Array Value :=
 #[.int .i64 v.e, .int .i64 v.l, .int .i64 v.i, .int .i64 v.c, .slice A n c, .int .i64 self, .int .i64 win, .bool false] ++ (falses ++ zeros16 ++ zeros16 ++ zeros16 ++ zeros16).toArray ++ #[.map (some h), .slice none 0 0, .slice none 0 0, .int .i64 0, .int .i64 0, .int .i64 0]
set_option maxRecDepth 100000 in
theorem build96 (W : World) (v : Vd) (A : Option Addr) (n c : Nat) (self win : Int) (h : Nat) : (Instr.build 115 #[(0, .agg #[.int .i64 v.e, .int .i64 v.l, .int .i64 v.i, .int .i64 v.c]), (1, .slice A n c), (2, .int .i64 self), (3, .int .i64 win), (10, .map (some h))]).run Tryz.prog W = .ok (.agg (osA v A n c self win h)) W := by kernel_rfl
def Os.new0 (id : Vd) (mem : List Nat) (self win : Nat) : Os := ⟨id, mem, self, win, false, fun _ => false, fun _ => 0, fun _ => 0, fun _ => 0, fun _ => 0, [], [], [], 0, 0, 0⟩
set_option maxRecDepth 100000 in
theorem osA_cells (v : Vd) (mem : List Nat) (self win : Nat) (A : Option Addr) (c h : Nat) : (osA v A mem.length c self win h).toList = (List.range 94).map (cellO (Os.new0 v mem self win) ⟨A, c, h, none, 0, none, 0, []⟩) := by kernel_rfl
set_option maxRecDepth 100000 in
theorem osA_size (v : Vd) (A : Option Addr) (n c : Nat) (self win : Int) (h : Nat) : (osA v A n c self win h).size = 94 := by kernel_rfl
set_option maxRecDepth 100000 in
set_option maxHeartbeats 8000000 in
theorem new_any (v : Vd) (ms : List Mbr) (self win : Int) {B : Option Addr} {cB nB : Nat} (w : World) (hn : ms.length = nB) (hB : RowAt w w.heap.size 3 eMbr B ms) (h1 : nB ≤ 2000000) (K : Nat → Nat) (kz : ∀ b, w.heap.size ≤ b → K b = 0) (r : Nat) (r0 : 0 < r) :
   Calls Tryz.prog 28 #[.agg (vwA v B nB cB), .int .i64 self, .int .i64 win] w fun e w' => Below w.heap.size w w' ∧
     ((¬ (1 ≤ win ∧ win ≤ 8) ∧ e = .returned (.tuple #[.pointer none, .int .i64 1])) ∨ ((1 ≤ win ∧ win ≤ 8) ∧ pidsOf v ms self = none ∧ e = .returned (.tuple #[.pointer none, .int .i64 74])) ∨
     ((1 ≤ win ∧ win ≤ 8) ∧ ∃ l b K' X', pidsOf v ms self = some l ∧ e = .returned (.tuple #[.pointer (some ⟨b, 0, none⟩), .int .i64 0]) ∧ OrdAt w' K' r b (Os.new v l self.toNat win.toNat) X' ∧ Ro (fun _ => False) K K' w w' ∧ w.heap.size ≤ b)) := by
 refine calls_vc tab_ok Tryz.func28 rfl ?_
 conv => whnf
 refine .mk fun wA hwA => ?_
 have bA : Below w.heap.size w wA := by rw [hwA.out]; exact below_box1 _ _ _
 have zA : wA.heap.size = w.heap.size + 1 := by rw [hwA.out]; simp
 have oA : wA.rangeAt w.heap.size 0 (vwA v B nB cB).toList := by rw [hwA.out]; exact range_new w _ 41
 clear hwA
 by_cases h2 : win < 1
 · repeat ((conv => whnf); first | refine Xt ?_ | refine Xq ?_ | refine Xn ?_ | refine Xj ?_ | refine Xo ?_); try (conv => whnf)
   exact .mk ⟨bA, .inl ⟨by omega, rfl⟩⟩
 by_cases h3 : 8 < win
 · repeat ((conv => whnf); first | refine Xt ?_ | refine Xq ?_ | refine Xn ?_ | refine Xj ?_ | refine Xo ?_); try (conv => whnf)
   exact .mk ⟨bA, .inl ⟨by omega, rfl⟩⟩
 have LV : Ld Tryz.prog 41 w.heap.size 0 (Eq wA) (.agg (vwA v B nB cB)) := .of (load_agg (by kernel_rfl) (by kernel_rfl) oA)
 repeat ((conv => whnf); first | refine Xl LV ?_ | refine Xt ?_ | refine Xq ?_ | refine Xn ?_ | refine Xj ?_ | refine Xo ?_); try (conv => whnf)
 refine VCall.mk _ (pids_any v ms self wA hn (hB.below bA (Nat.le_refl _) |>.more (by omega)) h1) ?_
 rintro _ w1 ⟨A, c, rfl, own, hnil, b1⟩
 refine ⟨_, rfl, ?_⟩
 have z1 := b1.size
 have bw1 : Below w.heap.size w w1 := bA.trans (b1.mono (by omega))
 cases hp : pidsOf v ms self with
 | none =>
   rw [hp] at own hnil
   obtain rfl := hnil.2 rfl
   repeat ((conv => whnf); first | refine Xt ?_ | refine Xq ?_ | refine Xn ?_ | refine Xj ?_ | refine Xo ?_); try (conv => whnf)
   exact .mk ⟨bw1, .inr (.inl ⟨by omega, rfl, rfl⟩)⟩
 | some l =>
   rw [hp] at own hnil
   have own' : Owns w1 wA.heap.size 3 1 eNat A c l := own
   obtain ⟨a, ha⟩ : ∃ a, A = some a := by
     cases A with
     | none => have := hnil.1 rfl; cases this
     | some a => exact ⟨a, rfl⟩
   subst ha
   have hself : ∃ x ∈ l, (x : Int) = self := by
     unfold pidsOf at hp
     split at hp
     · rename_i hc
       injection hp with hp
       rw [Bool.and_eq_true] at hc
       have := hc.2
       rw [hp] at this
       exact of_decide_eq_true this
     · cases hp
   have hlt : ∀ q ∈ l, q < 16 := by
     unfold pidsOf at hp
     split at hp
     · rename_i hc
       injection hp with hp
       rw [Bool.and_eq_true, Bool.and_eq_true] at hc
       intro q hq
       rw [← hp] at hq
       unfold pidL at hq
       obtain ⟨m, hm, rfl⟩ := List.mem_map.1 hq
       have := lastP_ge hc.1.2 hc.1.2 (Int.le_refl _) m hm
       omega
     · cases hp
   obtain ⟨sn, hsl, hsn⟩ := hself
   subst hsn
   have hs16 := hlt sn hsl
   have LI : Ld Tryz.prog 38 w.heap.size 0 (Eq w1) (.agg #[.int .i64 v.e, .int .i64 v.l, .int .i64 v.i, .int .i64 v.c]) := .of (load_agg (by kernel_rfl) (by kernel_rfl) (range_sub (n := 4) (range_same oA (b1.block _ (show w.heap.size < wA.heap.size by omega))) 0 rfl))
   repeat ((conv => whnf); first | refine Xl LI ?_ | refine Xt ?_ | refine Xq ?_ | refine Xn ?_ | refine Xj ?_ | refine Xo ?_); try (conv => whnf)
   refine VW.run (v := .map (some w1.heap.size)) (w' := w1.alloc (.map #[] 0)) (fun a ha => ?_) ?_
   · simp only [execOp, Option.map_none, Sem.run_bind, run_makeMap, Result.andThen_ok, Sem.run_pure]
   have c2 : Below w1.heap.size w1 (w1.alloc (.map #[] 0)) := (Below.refl _ _).alloc (Nat.le_refl _) _
   have hM : HMap (w1.alloc (.map #[] 0)) w1.heap.size [] := ⟨#[], 0, (MapKept.heap_alloc w1 _).1, rfl, ⟨List.nodup_nil, fun _ h => (List.not_mem_nil h).elim⟩⟩
   have z2 : (w1.alloc (.map #[] 0)).heap.size = w1.heap.size + 1 := World.size_alloc _ _
   generalize w1.alloc (.map #[] 0) = w2 at c2 hM z2 ⊢
   obtain ⟨wn, hwn⟩ := Int.eq_ofNat_of_zero_le (show 0 ≤ win by omega)
   subst hwn
   repeat ((conv => whnf); first | refine Xt ?_ | refine Xq ?_ | refine Xn ?_ | refine Xj ?_ | refine Xo ?_); try (conv => whnf)
   refine VBuild.mk (.agg (osA v (some a) l.length c sn wn w1.heap.size)) (fun W' => build96 W' v (some a) l.length c sn wn w1.heap.size) ?_
   repeat ((conv => whnf); first | refine Xt ?_ | refine Xq ?_ | refine Xn ?_ | refine Xj ?_ | refine Xo ?_); try (conv => whnf)
   refine .mk fun w3 hw3 => ?_
   have c3 : Below w2.heap.size w2 w3 := by rw [hw3.out]; exact (Below.refl _ _).alloc (Nat.le_refl _) _
   have z3 : w3.heap.size = w2.heap.size + 1 := by rw [hw3.out]; exact World.size_alloc _ _
   have r3 : w3.rangeAt w2.heap.size 0 (osA v (some a) l.length c sn wn w1.heap.size).toList := by have := range_new w2 (osA v (some a) l.length c sn wn w1.heap.size) 115; rw [hw3.out]; exact this
   have t3 : w3.there w2.heap.size 0 94 := by have := there_new w2 (osA v (some a) l.length c sn wn w1.heap.size) 115; rw [osA_size] at this; rw [hw3.out]; exact this
   clear hw3
   obtain ⟨X, hX⟩ : ∃ X : OsX, X = ⟨some a, c, w1.heap.size, none, 0, none, 0, []⟩ := ⟨_, rfl⟩
   obtain ⟨K3, hK3⟩ : ∃ K3 : Nat → Nat, K3 = fun y => if y = w2.heap.size then r else if y = w1.heap.size then r + 1 else if y = a.block then r + 4 else K y := ⟨_, rfl⟩
   have hab := own'.lo a.block rfl
   have k3a : K3 w2.heap.size = r := by rw [hK3]; exact if_pos rfl
   have k3b : K3 w1.heap.size = r + 1 := by rw [hK3]; show (if w1.heap.size = w2.heap.size then _ else _) = _; rw [if_neg (by omega), if_pos rfl]
   have k3d : K3 a.block = r + 4 := by rw [hK3]; show (if a.block = w2.heap.size then _ else _) = _; rw [if_neg (by omega), if_neg (by omega), if_pos rfl]
   have k3c : ∀ y, y ≠ w2.heap.size → y ≠ w1.heap.size → y ≠ a.block → K3 y = K y := fun y e1 e2 e3 => by rw [hK3]; show (if y = w2.heap.size then _ else _) = _; rw [if_neg e1, if_neg e2, if_neg e3]
   have cells : ∀ j, j < 94 → w3.cell? ⟨w2.heap.size, j, none⟩ = some (cellO (Os.new0 v l sn wn) X j) ∧ w3.frozen? ⟨w2.heap.size, j, none⟩ = false := fun j hj => by
     refine ⟨?_, by have := (t3 j hj).2; rwa [Nat.zero_add] at this⟩
     have := r3 j (cellO (Os.new0 v l sn wn) X j) (by rw [osA_cells, List.getElem?_map, List.getElem?_range hj, hX]; rfl)
     rwa [Nat.zero_add] at this
   have b13 : Below w1.heap.size w1 w3 := c2.trans (c3.mono c2.size)
   have own3 := own'.keep b13 (fun q hq => (own'.lo q hq).2)
   have bw3 : Below w.heap.size w w3 := bw1.trans (b13.mono bw1.size)
   have A3 : OrdAt w3 K3 r w2.heap.size (Os.new0 v l sn wn) X := by
     refine ⟨r0, k3a, fun y hy => (k3c y (by omega) (by omega) (by omega)).trans (kz y (by omega)), ⟨by omega, cells⟩, ⟨?_, ?_, ?_, ?_, ?_, ?_, ?_⟩⟩
     · rw [hX]
       exact .at_ (own3.row fun _ => rfl) fun y hy => by
         injection hy with hy
         rw [← hy]; exact k3d
     · rw [hX]; exact hM.same (c3.block _ (by omega))
     · rw [hX]; exact k3b
     · rw [hX]; rfl
     · rw [hX]; intro y hy; cases hy
     · rw [hX]; exact .inl ⟨rfl, rfl, rfl⟩
     · rw [hX]; exact .inl ⟨rfl, rfl, rfl⟩
   have cq := A3.cs.cell (8 + sn) (by omega)
   repeat ((conv => whnf); first | refine Xt ?_ | refine Xq ?_ | refine Xn ?_ | refine Xj ?_ | refine Xo ?_); try (conv => whnf)
   refine VStore.cell (by kernel_rfl) (by rw [show addO 0 8 + mulO sn 1 = 8 + sn from rfl, cq.1]; rfl) cq.2 rfl rfl fun w4 hw4 => ?_
   obtain ⟨A4, q4⟩ := A3.s_seen hs16 true (j := addO 0 8 + mulO sn 1) rfl hw4.out
   repeat ((conv => whnf); first | refine Xt ?_ | refine Xq ?_ | refine Xn ?_ | refine Xj ?_ | refine Xo ?_); try (conv => whnf)
   have g4 : w3.grownBy w4 (some w2.heap.size) := by rw [hw4.out]; exact grown_cell _ _ _ _
   have bw4 : Below w.heap.size w w4 := bw3.grown g4 (by omega) fun k hk => by injection hk with hk; omega
   refine .mk ⟨bw4, .inr (.inr ⟨by omega, l, w2.heap.size, K3, X, rfl, rfl, ?_, (Ro.below bw4).role fun y hy => k3c y (by omega) (by omega) (by omega), by omega⟩)⟩
   rw [Int.toNat_natCast]
   exact A4
end Go.Proofs.YtoilipfgimcoiaaGreat
