/- SzM SzO, joined. -/
import Derived.Test.YtoilipfgimcoiaaGreatOz14
set_option linter.unusedVariables false
set_option linter.unusedSimpArgs false
namespace Go.Proofs.YtoilipfgimcoiaaGreat
open Go Go.RowKit
theorem Ro.less {Q Q' : Nat → Prop} {K K' : Nat → Nat} {w w' : World} (q : Ro Q K K' w w') (h : ∀ y, y < w.heap.size → ¬ Q' (K y) → ¬ Q (K y)) : Ro Q' K K' w w' := ⟨q.os, q.tape, q.output, q.size, fun y hy hn => q.same y hy (h y hy hn), q.kk⟩
theorem nd_len {α : Type} [DecidableEq α] : ∀ (l m : List α), l.Nodup → (∀ x ∈ l, x ∈ m) → l.length ≤ m.length
 | [], m, _, _ => Nat.zero_le _
 | x :: l, m, hn, hs => by
   obtain ⟨h1, h2⟩ := List.nodup_cons.1 hn
   have hx := hs x List.mem_cons_self
   have := nd_len l (m.erase x) h2 fun y hy => (List.mem_erase_of_ne (fun e : y = x => h1 (by rw [← e]; exact hy))).2 (hs y (List.mem_cons_of_mem _ hy))
   rw [List.length_erase_of_mem hx] at this
   have := List.length_pos_of_mem hx
   rw [List.length_cons]; omega
section
variable {K K' : Nat → Nat} {w w' : World} {r b T : Nat} {f : Rf} {X : RfX} {o : Os}
theorem Sim.room (h : Sim T o f) (hse : o.seq = true) {x : Sl} (h1 : x ∈ f.C) (h2 : x ∉ f.slots) : f.slots.length + 1 ≤ T := by
 have := nd_len (x :: f.slots) f.C (List.nodup_cons.2 ⟨h2, h.sq.nodup⟩) fun y hy => by
   rcases List.mem_cons.1 hy with rfl | hy
   · exact h1
   · exact h.sc hse y hy
 have t1 := h.T1
 have := C_len f
 rw [List.length_cons] at *
 omega
structure AsI (T : Nat) (w : World) (K : Nat → Nat) (r b p : Nat) (o : Os) (f : Rf) (m : Int) (A : Option Addr) (c k i : Nat) (fk : Rf) (Xk : RfX) (Kk : Nat → Nat) (W : World) : Prop where
 ra : RefAt W Kk r b fk Xk
 po : PosOk fk Xk
 si : Sim T (o.asgK k) fk
 ca : fk.came = f.came
 kn : fk.known = f.known
 hm : fk.mem = f.mem
 hw : fk.win = f.win
 le : k ≤ o.asgN m
 il : i ≤ f.came.length
 pl : ∀ (j : Nat) (d : Dt), j < i → f.came[j]? = some d → d.sl ∈ fk.slots
 ow : OwnO W Kk p 9 eIS A c (o.asgL k)
 ro : Ro (fun z => inF r z ∨ z = p) K Kk w W
set_option maxRecDepth 100000 in
set_option maxHeartbeats 8000000 in
theorem rassign_any (A : RefAt w K r b f X) (hp : PosOk f X) (h : Sim T o f) (F : FrO o) (hT : T ≤ 100000) (m : Int) :
   Calls Tryz.prog 48 #[.pointer (some ⟨b, 0, none⟩), .int .i64 m] w fun e w' => ∃ A' c', e = .returned (.slice A' (o.assign m).1.length c') ∧ RowAt w' w'.heap.size 9 eIS A' (o.assign m).1 ∧ OPF T w K r b (o.assign m).2 w' := by
 refine calls_vc tab_ok Tryz.func48 rfl ?_
 have hbz := A.hb
 have r0 := A.r0
 have t1 := h.T1
 have t2 := h.T2
 have w8 := h.w8
 have m0 := h.m0
 have m16 := h.m16
 have hfrz := h.frz
 conv => whnf
 obtain ⟨q0, hm0⟩ : ∃ q, f.mem[0]? = some q := ⟨_, List.getElem?_eq_getElem m0⟩
 have hhead : o.mem.head? = some q0 := by rw [h.mem, List.head?_eq_getElem?]; exact hm0
 obtain ⟨g, off, eA, g1, -, -, -, g5⟩ := A.pr.get m0
 have LM := A.l_mem (l := [b, g]) (by simp)
 rw [eA] at LM
 have LQ : Ld Tryz.prog 3 g off (Sm [b, g] w) (.int .i64 q0) := ⟨fun W' hW => load3 (cell_sm (by have := g5 0 q0 hm0 0 _ rfl; rwa [Nat.zero_mul] at this) (by simp) hW)⟩
 have LS := A.l_self (l := [b, g]) (by simp)
 have LF := A.l_stop (l := [b, g]) (by simp)
 rw [← hfrz] at LF
 have sd : Sm [b, g] w w.drew := fun _ _ => rfl
 have none_ : (o.seq = false ∨ o.frz = true) → ∃ A' c', Ending.returned (Value.slice none 0 0) = .returned (.slice A' (o.assign m).1.length c') ∧ RowAt w.drew w.drew.heap.size 9 eIS A' (o.assign m).1 ∧ OPF T w K r b (o.assign m).2 w.drew := fun hc => by
   have hp1 : o.assign m = ([], o) := by unfold Os.assign; rw [if_pos hc]
   rw [hp1]
   exact ⟨none, 0, rfl, fun hl => absurd hl (by simp), (A.below (Below.refl _ w).drew).opf hp h F (.below (Below.refl _ w).drew)⟩
 cases h1 : o.frz with
 | true =>
   rw [h1] at LF
   repeat ((conv => whnf); first | refine Xt ?_ | refine Xq ?_ | refine Xn ?_ | refine Xj ?_ | refine Xo ?_); try (conv => whnf)
   refine VDraw.pl 1000 (.stop [0, 1, 2, 3, 4, 5, 6, 7, 8, 9, 10, 11, 12, 13, 14, 15, 16]) (Sm [b, g] w) (by kernel_rfl) (sd) ?_
   repeat ((conv => whnf); first | refine Xl LF ?_ | refine Xl LS ?_ | refine Xl LM ?_ | refine Xl LQ ?_ | refine Xt ?_ | refine Xq ?_ | refine Xn ?_ | refine Xj ?_ | refine Xo ?_); try (conv => whnf)
   exact .mk (none_ (.inr h1))
 | false =>
 rw [h1] at LF
 by_cases h2 : f.self = q0
 case neg =>
   repeat ((conv => whnf); first | refine Xt ?_ | refine Xq ?_ | refine Xn ?_ | refine Xj ?_ | refine Xo ?_); try (conv => whnf)
   refine VDraw.pl 1000 (.stop [0, 1, 2, 3, 4, 5, 6, 7, 8, 9, 10, 11, 12, 13, 14, 15, 16]) (Sm [b, g] w) (by kernel_rfl) (sd) ?_
   repeat ((conv => whnf); first | refine Xl LF ?_ | refine Xl LS ?_ | refine Xl LM ?_ | refine Xl LQ ?_ | refine Xt ?_ | refine Xq ?_ | refine Xn ?_ | refine Xj ?_ | refine Xo ?_); try (conv => whnf)
   exact .mk (none_ (.inl (by unfold Os.seq; rw [hhead, h.self]; exact decide_eq_false fun e => h2 (by injection e with e; exact e.symm))))
 have hse : o.seq = true := by unfold Os.seq; rw [hhead, h.self, h2]; exact decide_eq_true rfl
 have hp1 : o.assign m = (o.asgL (o.asgN m), o.asgK (o.asgN m)) := by unfold Os.assign; rw [if_neg (by rw [hse, h1]; simp)]
 rw [hp1]
 clear none_ hp1
 have W0 := h.wf hT
 have M0 := h.rmA hT
 have hmost : o.most = f.mem.length * f.win := by unfold Os.most; rw [h.mem, h.win]
 have hprod : f.mem.length * f.win ≤ 16 * 8 := Nat.mul_le_mul m16 w8
 obtain ⟨N, hN⟩ : ∃ N, N = o.asgN m := ⟨_, rfl⟩
 have hNdef : N = min m.toNat (min o.queue.length (o.most - o.slots.length)) := by rw [hN]; rfl
 rw [← hN]
 obtain ⟨p0, hp0⟩ := hiRole K w.heap.size A.kz
 obtain ⟨p, hpp⟩ : ∃ p, p = p0 + r + 7 := ⟨_, rfl⟩
 have hpK : ∀ y, K y ≠ p := fun y => by have := hp0 y; omega
 repeat ((conv => whnf); first | refine Xt ?_ | refine Xq ?_ | refine Xn ?_ | refine Xj ?_ | refine Xo ?_); try (conv => whnf)
 refine VDraw.pl 1000 (.stop [0, 1, 2, 3, 4, 5, 6, 7, 8, 9, 10, 11, 12, 13, 14, 15, 16]) (Sm [b, g] w) (by kernel_rfl) (sd) ?_
 repeat ((conv => whnf); first | refine Xl LF ?_ | refine Xl LS ?_ | refine Xl LM ?_ | refine Xl LQ ?_ | refine Xt ?_ | refine Xq ?_ | refine Xn ?_ | refine Xj ?_ | refine Xo ?_); try (conv => whnf)
 have I0 : AsI T w K r b p o f m none 0 0 0 f X K w.drew := ⟨A.below (Below.refl _ w).drew, hp, h, rfl, rfl, rfl, rfl, Nat.zero_le _, Nat.zero_le _, fun j d hj => absurd hj (by omega), OwnO.nil _ _ _ _ _, .below (Below.refl _ w).drew⟩
 refine VLoop.mk (Option Addr × Nat × Nat × Nat) (fun u => [(0, .pointer (some ⟨b, 0, none⟩)), (1, .int .i64 m), (5, .slice u.1 u.2.2.1 u.2.1), (6, .int .i64 u.2.2.2)]) (fun u W => ∃ fk Xk Kk, AsI T w K r b p o f m u.1 u.2.1 u.2.2.1 u.2.2.2 fk Xk Kk W) (fun u => f.came.length - u.2.2.2) (none, 0, 0, 0) ⟨rfl, rfl, rfl, rfl, trivial⟩ ⟨f, X, K, I0⟩ ?_
 rintro ⟨A1, c1, k, i⟩ W ⟨fk, Xk, Kk, I⟩
 have I : AsI T w K r b p o f m A1 c1 k i fk Xk Kk W := I
 dsimp only
 have hkN : k ≤ N := by rw [hN]; exact I.le
 obtain ⟨Wk, Mk, Fk⟩ := asgK_facts W0 M0 k (by omega)
 have hil := I.il
 have hcl : Xk.cl.length = f.came.length := by rw [I.ra.clen, I.ca]
 have L0 := I.ra.l_came (l := [b]) (by simp)
 rw [show fk.came.length = f.came.length by rw [I.ca]] at L0
 have s0 := Sm.refl [b] W
 have hseK : (o.asgK k).seq = true := by unfold Os.seq; rw [Fk.mem, Fk.self]; exact hse
 have hCk : fk.C = f.C := by unfold Rf.C; rw [I.ca]
 have hqk : (o.asgK k).queue = f.C.filter (fun x => decide (x ∉ fk.slots)) := by rw [I.si.qu, if_pos hseK, hCk]
 have hpre := Fk.pre
 have fin : k = N → ∃ A' c', Ending.returned (Value.slice A1 k c1) = .returned (.slice A' (o.asgL N).length c') ∧ RowAt W W.heap.size 9 eIS A' (o.asgL N) ∧ OPF T w K r b (o.asgK N) W := fun e => by
   subst e
   exact ⟨A1, c1, by rw [asgL_len], I.ow.row, I.ra.opf I.po I.si (F.asgK k) (I.ro.less fun y _ hn hq => hq.elim hn (hpK y))⟩
 by_cases hin : i < f.came.length
 case neg =>
   have hkq : k = N := by
     have hnil : (o.asgK k).queue = [] := by
       rw [hqk]
       refine List.filter_eq_nil_iff.2 fun x hx => ?_
       obtain ⟨d, hd, rfl⟩ := List.mem_map.1 hx
       obtain ⟨j, hj⟩ := List.mem_iff_getElem?.1 hd
       have := I.pl j d (by have := (List.getElem?_eq_some_iff.1 hj).1; omega) hj
       simp [this]
     rw [Fk.q] at hnil
     have := congrArg List.length hnil
     rw [List.length_drop] at this
     simp at this
     omega
   repeat ((conv => whnf); first | refine Xl (L0.at s0) ?_ | refine Xt ?_ | refine Xq ?_ | refine Xn ?_ | refine Xj ?_ | refine Xo ?_); try (conv => whnf)
   exact .mk (fin hkq)
 by_cases hkm : (k : Int) < m
 case neg =>
   have hkq : k = N := by omega
   repeat ((conv => whnf); first | refine Xl (L0.at s0) ?_ | refine Xt ?_ | refine Xq ?_ | refine Xn ?_ | refine Xj ?_ | refine Xo ?_); try (conv => whnf)
   exact .mk (fin hkq)
 obtain ⟨ga, oa, eC, ga1, gak, -, ga4, ga5⟩ := I.ra.cr.get (by omega)
 obtain ⟨x, hx⟩ : ∃ x, Xk.cl[i]? = some x := ⟨_, List.getElem?_eq_getElem (by omega)⟩
 have hd : f.came[i]? = some x.d := by rw [← I.ca, ← I.ra.cv, List.getElem?_map, hx]; rfl
 have hpx := I.po x (List.mem_of_getElem? hx)
 rw [eC] at L0
 have LP : Ld Tryz.prog 3 ga (addO (oa + mulO i 5) 4) (Eq W) (.int .i64 x.p) := .of (load3 (by rw [show addO (oa + mulO i 5) 4 = oa + i * 5 + 4 by rw [mulO_eq]; rfl]; exact ga5 i x hx 4 _ rfl))
 by_cases hpos : x.p = 0
 case neg =>
   have hmem : x.d.sl ∈ fk.slots := Classical.byContradiction fun hn => hpos (by rw [hpx]; exact psn_zero.2 hn)
   repeat ((conv => whnf); first | refine Xl (L0.at s0) ?_ | refine Xl LP ?_ | refine Xt ?_ | refine Xq ?_ | refine Xn ?_ | refine Xj ?_ | refine Xo ?_); try (conv => whnf)
   exact .mk (A1, c1, k, i + 1) ⟨rfl, rfl, rfl, rfl, trivial⟩ ⟨fk, Xk, Kk, I.ra, I.po, I.si, I.ca, I.kn, I.hm, I.hw, I.le, hin, fun j d (hj : j < i + 1) hd2 => by
     by_cases e : j = i
     · subst e; rw [hd] at hd2; injection hd2 with hd2; rw [← hd2]; exact hmem
     · exact I.pl j d (by omega) hd2, I.ow, I.ro⟩ (by show f.came.length - (i + 1) < f.came.length - i; omega)
 have hnot : x.d.sl ∉ fk.slots := psn_zero.1 (by rw [← hpx]; exact hpos)
 have hCi : f.C[i]? = some x.d.sl := by unfold Rf.C; rw [List.getElem?_map, hd]; rfl
 have hqc : (o.asgK k).queue = x.d.sl :: (f.C.drop (i + 1)).filter (fun y => decide (y ∉ fk.slots)) := by
   rw [hqk]
   have e1 : f.C = f.C.take i ++ x.d.sl :: f.C.drop (i + 1) := by
     conv => lhs; rw [← List.take_append_drop i f.C]
     congr 1
     rw [List.drop_eq_getElem_cons (by rw [C_len]; exact hin)]
     congr 1
     exact (List.getElem?_eq_some_iff.1 hCi).2
   conv => lhs; rw [e1]
   rw [List.filter_append, List.filter_eq_nil_iff.2 fun y hy => ?_, List.nil_append, List.filter_cons, if_pos (decide_eq_true hnot)]
   obtain ⟨j, hj⟩ := List.mem_iff_getElem?.1 hy
   have hji := (List.getElem?_eq_some_iff.1 hj).1
   rw [List.length_take] at hji
   rw [List.getElem?_take_of_lt (show j < i by omega)] at hj
   unfold Rf.C at hj
   rw [List.getElem?_map] at hj
   obtain ⟨d, hd2, rfl⟩ := Option.map_eq_some_iff.1 hj
   have := I.pl j d (by omega) hd2
   simp [this]
 have hkq : k < o.queue.length := by
   have := congrArg List.length hqc
   rw [Fk.q, List.length_drop, List.length_cons] at this
   omega
 have hqe : o.queue[k]? = some x.d.sl := by
   have := congrArg (fun l : List Sl => l[0]?) hqc
   simp only [Fk.q, List.getElem?_drop, Nat.add_zero, List.getElem?_cons_zero] at this
   exact this
 have hslk : fk.slots.length - fk.known = o.slots.length + k := by
   have := I.si.sl
   rw [Fk.s] at this
   have := congrArg List.length this
   rw [List.length_append, List.length_take, List.length_drop] at this
   omega
 have hkf : fk.known ≤ fk.slots.length := Nat.le_trans I.si.kn I.si.ul
 have u2 := I.si.T2
 have u1 := I.si.T1
 have M1 := I.ra.l_slots (l := [b, ga]) (by simp)
 have M2 := I.ra.l_known (l := [b, ga]) (by simp)
 have M3 := I.ra.l_mem (l := [b, ga]) (by simp)
 have M4 := I.ra.l_win (l := [b, ga]) (by simp)
 rw [I.hm] at M3
 rw [I.hw] at M4
 have sW : Sm [b, ga] W W.drew := fun _ _ => rfl
 have hmc : ((f.mem.length * f.win : Nat) : Int) = (f.mem.length : Int) * (f.win : Int) := by simp
 by_cases hfull : f.mem.length * f.win ≤ fk.slots.length - fk.known
 · have hkN2 : k = N := by omega
   have fin2 := fin hkN2
   have e9' : (f.mem.length : Int) * (f.win : Int) ≤ (fk.slots.length : Int) - (fk.known : Int) := by omega
   generalize hgm : (f.mem.length : Int) * (f.win : Int) = gm at e9' hmc
   repeat ((conv => whnf); first | refine Xl (L0.at s0) ?_ | refine Xl LP ?_ | refine Xt ?_ | refine Xq ?_ | refine Xn ?_ | refine Xj ?_ | refine Xo ?_); try (conv => whnf)
   refine VDraw.pl 1000 (.stop [0, 1, 2, 3, 4, 5, 6, 7, 8, 9, 10, 11, 12, 13, 14, 15, 16, 17, 18, 19, 20]) (Sm [b, ga] W) (by kernel_rfl) (sW) ?_
   repeat ((conv => whnf); first | refine Xl M1 ?_ | refine Xl M2 ?_ | refine Xl M3 ?_ | refine Xl M4 ?_ | refine Xt ?_ | refine Xq ?_ | refine Xn ?_ | refine Xj ?_ | refine Xo ?_); try (conv => whnf)
   refine .mk ?_
   obtain ⟨A', c', e, hr, hO⟩ := fin2
   obtain ⟨K2, ho, q2, kz2⟩ := hO
   exact ⟨A', c', e, hr.below (Below.refl _ W).drew (Nat.le_refl _), K2, ho.below (Below.refl _ W).drew, q2.drew, kz2⟩
 have M5 := I.ra.l_came (l := [b, ga]) (by simp)
 rw [eC, show fk.came.length = f.came.length by rw [I.ca]] at M5
 have hmW : ¬ ((f.mem.length : Int) * (f.win : Int) ≤ (fk.slots.length : Int) - (fk.known : Int)) := by omega
 have Ad := I.ra.below (Below.refl _ W).drew.drew
 have C0 : Ld Tryz.prog 3 ga (addO (addO (oa + mulO i 5) 0) 0) (Sm [b, ga] W) (.int .i64 x.d.s) := ⟨fun W' hW => load3 (by rw [show addO (addO (oa + mulO i 5) 0) 0 = oa + i * 5 + 0 by rw [mulO_eq]; rfl]; exact cell_sm (ga5 i x hx 0 _ rfl) (by simp) hW)⟩
 have C1 : Ld Tryz.prog 3 ga (addO (addO (oa + mulO i 5) 0) 1) (Sm [b, ga] W) (.int .i64 x.d.q) := ⟨fun W' hW => load3 (by rw [show addO (addO (oa + mulO i 5) 0) 1 = oa + i * 5 + 1 by rw [mulO_eq]; rfl]; exact cell_sm (ga5 i x hx 1 _ rfl) (by simp) hW)⟩
 have sWd : Sm [b, ga] W W.drew.drew := fun _ _ => rfl
 have hl0 : ∀ y ∈ [b, ga], y < W.heap.size := fun y hy => by
   simp only [List.mem_cons, List.not_mem_nil, or_false] at hy
   rcases hy with rfl | rfl
   · exact I.ra.hb
   · exact ga1
 generalize hgm : (f.mem.length : Int) * (f.win : Int) = gm at hmW hmc
 repeat ((conv => whnf); first | refine Xl (L0.at s0) ?_ | refine Xl LP ?_ | refine Xt ?_ | refine Xq ?_ | refine Xn ?_ | refine Xj ?_ | refine Xo ?_); try (conv => whnf)
 refine VDraw.pl 1000 (.stop [0, 1, 2, 3, 4, 5, 6, 7, 8, 9, 10, 11, 12, 13, 14, 15, 16, 17, 18, 19, 20]) (Sm [b, ga] W) (by kernel_rfl) (sW) ?_
 repeat ((conv => whnf); first | refine Xl M1 ?_ | refine Xl M2 ?_ | refine Xl M3 ?_ | refine Xl M4 ?_ | refine Xt ?_ | refine Xq ?_ | refine Xn ?_ | refine Xj ?_ | refine Xo ?_); try (conv => whnf)
 refine VDraw.pl 1000 (.one [0, 1, 2, 3, 4, 5, 6, 7, 8, 9, 10, 11, 12, 13, 14, 15, 16, 17, 18] 19 (.one [] 20 (.stop []))) (Sm [b, ga] W) (by kernel_rfl) (sWd) ?_
 repeat ((conv => whnf); first | refine Xl M5 ?_ | refine Xl C0 ?_ | refine Xl C1 ?_ | refine Xt ?_ | refine Xq ?_ | refine Xn ?_ | refine Xj ?_ | refine Xo ?_); try (conv => whnf)
 refine VBuild.mk _ (fun W' => build78 W' x.d.s x.d.q) ?_
 repeat ((conv => whnf); first | refine Xt ?_ | refine Xq ?_ | refine Xn ?_ | refine Xj ?_ | refine Xo ?_); try (conv => whnf)
 refine .mk _ run_zero78 ?_
 conv => whnf
 refine .mk fun u3 hu3 => ?_
 obtain ⟨bt, hbt⟩ : ∃ bt, bt = W.drew.drew.heap.size := ⟨_, rfl⟩
 have cu : Below W.heap.size W u3 := by rw [hu3.out]; exact (Below.refl _ W).drew.drew.trans ((Below.refl W.drew.drew.heap.size W.drew.drew).alloc (Nat.le_refl _) _)
 have zu : u3.heap.size = W.heap.size + 1 := by rw [hu3.out]; exact World.size_alloc _ _
 have tu : u3.there bt 0 2 := by rw [hu3.out, hbt]; exact there_new _ _ _
 have hbt' : bt = W.heap.size := hbt
 rw [← hbt]
 have su : Sm [b, ga] W u3 := .below cu hl0
 clear hu3
 repeat ((conv => whnf); first | (refine VS.mk su ?_) | refine Xt ?_ | refine Xq ?_ | refine Xn ?_ | refine Xj ?_ | refine Xo ?_); try (conv => whnf)
 refine VStore.mid (c := (eSl x.d.sl).toArray) tu (by kernel_rfl) (all_oneCell_toArray (one_eSl x.d.sl)) fun w4 hw4 => ?_
 have g4 : u3.grownBy w4 (some bt) := by rw [hw4.out]; exact grown_sets _ _ _ _
 have r4 : w4.rangeAt bt 0 (eSl x.d.sl) := by rw [hw4.out]; exact rng_in tu (by simp [eSl])
 clear hw4
 have z4 := g4.size
 have b4 : Below W.heap.size W w4 := cu.grown g4 (by omega) fun k hk => by injection hk with hk; omega
 have s4 : Sm [b, ga] W w4 := .below b4 hl0
 have A4 := I.ra.below b4
 have LS4 : Ld Tryz.prog 46 bt 0 (Eq w4) (.agg #[.int .i64 x.d.s, .int .i64 x.d.q]) := .of (load_agg (cs := eSl x.d.sl) (by kernel_rfl) (by kernel_rfl) r4)
 repeat ((conv => whnf); first | (refine VS.mk s4 ?_) | refine Xl LS4 ?_ | refine Xt ?_ | refine Xq ?_ | refine Xn ?_ | refine Xj ?_ | refine Xo ?_); try (conv => whnf)
 refine VCall.mk _ (rstand_any A4 I.po x.d.sl hnot (by rw [I.ca]; omega) (by omega)) ?_
 rintro _ w5 ⟨rfl, K5, X5, A5, po5, q5⟩
 refine ⟨_, rfl, ?_⟩
 obtain ⟨si5, -, -⟩ := I.si.asg1 hseK hqc (I.si.room hseK (by rw [hCk]; exact List.mem_of_getElem? hCi) hnot)
 have hnp : ¬ inF r p := by unfold inF; omega
 have q05 : Ro (fun z => inF r z ∨ z = p) K K5 w w5 := (I.ro.trans (.below b4)).trans (q5.more fun z hz => .inl hz)
 have ow5 : OwnO w5 K5 p 9 eIS A1 c1 (o.asgL k) := (I.ow.ro (Ro.below (R := fun _ => False) b4) id).ro q5 hnp
 have z5 : w4.heap.size ≤ w5.heap.size := q5.size
 have kbt : Kk bt = 0 := I.ra.kz _ (by omega)
 have kbt5 : K5 bt = 0 := (q5.kk bt (by omega)).trans kbt
 have r5 := range_same r4 (q5.same bt (by omega) (by rw [kbt]; unfold inF; omega))
 have N1 := A5.l_slots (l := [b, bt]) (by simp)
 have N2 := A5.l_known (l := [b, bt]) (by simp)
 rw [show (fk.place x.d.sl).slots.length = fk.slots.length + 1 by show (fk.slots ++ [x.d.sl]).length = _; rw [List.length_append]; rfl] at N1
 rw [show (fk.place x.d.sl).known = fk.known from rfl] at N2
 have N3 : Ld Tryz.prog 46 bt 0 (Sm [b, bt] w5) (.agg #[.int .i64 x.d.s, .int .i64 x.d.q]) := ⟨fun W' hW => load_agg (cs := eSl x.d.sl) (by kernel_rfl) (by kernel_rfl) (range_same r5 (hW bt (by simp)))⟩
 have hl5 : ∀ y ∈ [b, bt], y < w5.heap.size ∧ K5 y ≠ p := fun y hy => by
   simp only [List.mem_cons, List.not_mem_nil, or_false] at hy
   rcases hy with rfl | rfl
   · exact ⟨A5.hb, by rw [A5.kb]; omega⟩
   · exact ⟨by omega, by rw [kbt5]; omega⟩
 have s5 : Sm [b, bt] w5 w5.drew := fun _ _ => rfl
 repeat ((conv => whnf); first | refine Xt ?_ | refine Xq ?_ | refine Xn ?_ | refine Xj ?_ | refine Xo ?_); try (conv => whnf)
 refine VDraw.pl 1000 (.one [0, 1, 2, 3, 4, 5, 6, 7, 8, 9, 10, 11] 12 (.one [] 13 (.stop [14]))) (Sm [b, bt] w5) (by kernel_rfl) (s5) ?_
 repeat ((conv => whnf); first | refine Xl N1 ?_ | refine Xl N2 ?_ | refine Xl N3 ?_ | refine Xt ?_ | refine Xq ?_ | refine Xn ?_ | refine Xj ?_ | refine Xo ?_); try (conv => whnf)
 refine VBuild.mk _ (fun W' => build80s W' ((fk.slots.length + 1 : Nat) : Int) fk.known x.d.s x.d.q) ?_
 repeat ((conv => whnf); first | refine Xt ?_ | refine Xq ?_ | refine Xn ?_ | refine Xj ?_ | refine Xo ?_); try (conv => whnf)
 refine VBs.mk _ _ (bs74 w5.drew ⟨fk.slots.length + 1, fk.known, x.d.sl⟩) ?_
 have c6 : Below w5.heap.size w5 (w5.drew.alloc (.cells (isA ⟨fk.slots.length + 1, fk.known, x.d.sl⟩) 48)) := Below.trans (Below.drew (Below.refl _ w5)) ((Below.refl w5.drew.heap.size w5.drew).alloc (Nat.le_refl _) _)
 have hnc : ∀ j u, (eIS ⟨fk.slots.length + 1, fk.known, x.d.sl⟩)[j]? = some u → (w5.drew.alloc (.cells (isA ⟨fk.slots.length + 1, fk.known, x.d.sl⟩) 48)).cell? ⟨w5.drew.heap.size, j, none⟩ = some u := fun j u hu => by
   have := range_new w5.drew (isA ⟨fk.slots.length + 1, fk.known, x.d.sl⟩) 48 j u hu
   rwa [Nat.zero_add] at this
 generalize w5.drew.alloc (.cells (isA ⟨fk.slots.length + 1, fk.known, x.d.sl⟩) 48) = w6 at c6 hnc ⊢
 have A6 := A5.below c6
 have ow6 := ow5.ro (Ro.below (R := fun _ => False) c6) id
 have z6 := c6.size
 have s6 : Sm [b, bt] w5 w6 := .below c6 fun y hy => (hl5 y hy).1
 repeat ((conv => whnf); first | (refine VS.mk s6 ?_) | refine Xt ?_ | refine Xq ?_ | refine Xn ?_ | refine Xj ?_ | refine Xo ?_); try (conv => whnf)
 refine VApp.off 9 88 _ Tryz.underlying58 info80 rfl (by decide) eIS (fun _ => rfl) one_eIS (o.asgL k) ⟨fk.slots.length + 1, fk.known, x.d.sl⟩ (asgL_len o k) ow6 hnc A6.kz (by omega) (by omega) fun A8 c8 K8 w8 oA8 q8 kz8 => ?_
 have s8 : Sm [b, bt] w5 w8 := s6.trans fun y hy => q8.same y (by have := (hl5 y hy).1; omega) (hl5 y hy).2
 have A8' := A6.ro (Q := (· = p)) q8 kz8 (fun z hz => by unfold inFB at hz; omega)
 have hkno : fk.slots.length = o.known + k := by rw [← I.si.known, Fk.kn]
 have hkpr : fk.known = o.pre := by rw [← I.si.pre]; exact hpre
 have hasg : o.asgL (k + 1) = o.asgL k ++ [⟨fk.slots.length + 1, fk.known, x.d.sl⟩] := by
   rw [Os.asgL, hqe, hkno, hkpr]; rfl
 have hkN3 : k + 1 ≤ N := by omega
 repeat ((conv => whnf); first | (refine VS.mk s8 ?_) | refine Xt ?_ | refine Xq ?_ | refine Xn ?_ | refine Xj ?_ | refine Xo ?_); try (conv => whnf)
 refine .mk (A8, c8, k + 1, i + 1) ⟨rfl, rfl, rfl, rfl, trivial⟩ ⟨fk.place x.d.sl, X5, K8, ⟨A8', po5, si5, I.ca, I.kn, I.hm, I.hw, by rw [← hN]; exact hkN3, hin, fun j d (hj : j < i + 1) hd2 => ?_, by rw [hasg]; exact oA8, (q05.trans (.below c6)).trans (q8.more fun z hz => .inr hz)⟩⟩ (by show f.came.length - (i + 1) < f.came.length - i; omega)
 by_cases e : j = i
 · subst e; rw [hd] at hd2; injection hd2 with hd2; rw [← hd2]; exact List.mem_append_right _ List.mem_cons_self
 · exact List.mem_append_left _ (I.pl j d (by omega) hd2)
end
end Go.Proofs.YtoilipfgimcoiaaGreat
namespace Go.Proofs.YtoilipfgimcoiaaGreat
open Go Go.RowKit
theorem Ro.toBelow {Q : Nat → Prop} {K K' : Nat → Nat} {w0 w w' : World} {n : Nat} (q : Ro Q K K' w w') (hb : Below n w0 w) (hn : n ≤ w.heap.size) (h : ∀ y, y < n → ¬ Q (K y)) : Below n w0 w' :=
 ⟨q.os.trans hb.os, q.tape.trans hb.tape, q.output.trans hb.output, Nat.le_trans hb.size q.size, fun k hk => (q.same k (Nat.lt_of_lt_of_le hk hn) (h k hk)).trans (hb.block k hk)⟩
abbrev flB (o : Os) (A : Option Addr) (n c : Nat) (H : Option Addr) (m h : Nat) : Array Value := #[.int .i64 o.id.e, .int .i64 o.id.l, .int .i64 o.id.i, .int .i64 o.id.c, .int .i64 o.pre, .slice A n c, .slice H m h]
theorem one_flB (o : Os) (A : Option Addr) (n c : Nat) (H : Option Addr) (m h : Nat) : (flB o A n c H m h).all (·.oneCell') = true := by
 have : ∀ u ∈ [Value.int .i64 o.id.e, .int .i64 o.id.l, .int .i64 o.id.i, .int .i64 o.id.c, .int .i64 o.pre, .slice A n c, .slice H m h], u.oneCell' = true := fun u hu => by
   simp only [List.mem_cons, List.not_mem_nil, or_false] at hu
   rcases hu with rfl | rfl | rfl | rfl | rfl | rfl | rfl <;> rfl
 exact all_oneCell_toArray this
theorem build51b (W : World) (a b c d e : Int) : (Instr.build 65 #[(0, .agg #[.int .i64 a, .int .i64 b, .int .i64 c, .int .i64 d]), (1, .int .i64 e)]).run Tryz.prog W = .ok (.agg #[.int .i64 a, .int .i64 b, .int .i64 c, .int .i64 d, .int .i64 e, .slice none 0 0, .slice none 0 0]) W := by kernel_rfl
structure CtI (w : World) (bf : Nat) (o : Os) (A : Option Addr) (c : Nat) (l : List Sl) (H : Option Addr) (hc : Nat) (hl : List Nat) (κ : Nat → Nat) (W : World) : Prop where
 be : Below w.heap.size w W
 hb : w.heap.size ≤ bf ∧ bf < W.heap.size
 rg : W.rangeAt bf 0 (flB o A l.length c H hl.length hc).toList
 th : W.there bf 0 7
 kf : κ bf = 1
 os_ : OwnO W κ 2 2 eSl A c l
 oh : OwnO W κ 3 1 eNat H hc hl
 old : ∀ y, y < w.heap.size → κ y = 0
 kz : ∀ y, W.heap.size ≤ y → κ y = 0
section
variable {K K' : Nat → Nat} {w w' : World} {r b T : Nat} {f : Rf} {X : RfX} {o : Os}
theorem CtI.step {bf : Nat} {A H : Option Addr} {c hc : Nat} {l : List Sl} {hl : List Nat} {κ : Nat → Nat} {W W' : World} (I : CtI w bf o A c l H hc hl κ W) (h : Below W.heap.size W W') : CtI w bf o A c l H hc hl κ W' :=
 ⟨I.be.trans (h.mono I.be.size), ⟨I.hb.1, Nat.lt_of_lt_of_le I.hb.2 h.size⟩, range_same I.rg (h.block _ I.hb.2), there_same I.th (h.block _ I.hb.2), I.kf, I.os_.ro (Ro.below (R := fun _ => False) h) id, I.oh.ro (Ro.below (R := fun _ => False) h) id, I.old, fun y hy => I.kz y (Nat.le_trans h.size hy)⟩
set_option maxRecDepth 100000 in
set_option maxHeartbeats 8000000 in
theorem rcontent_any (A : RefAt w K r b f X) (h : Sim T o f) (hT : T ≤ 100000) (n : Int) :
   Calls Tryz.prog 24 #[.pointer (some ⟨b, 0, none⟩), .int .i64 n] w fun e w' => ∃ A' c' H hc, e = .returned (.agg (flB o A' o.slots.length c' H (clampN n) hc)) ∧ RowAt w' w'.heap.size 2 eSl A' o.slots ∧ RowAt w' w'.heap.size 1 eNat H ((List.range (clampN n)).map o.taken) ∧ Below w.heap.size w w' := by
 refine calls_vc tab_ok Tryz.func24 rfl ?_
 have hbz := A.hb
 have t1 := h.T1
 have t2 := h.T2
 have m16 := h.m16
 have hkn := h.kn
 have hul := h.ul
 conv => whnf
 refine .mk _ run_zero51 ?_
 conv => whnf
 refine .mk fun wA hwA => ?_
 obtain ⟨bx, hbx⟩ : ∃ bx, bx = w.heap.size := ⟨_, rfl⟩
 rw [← hbx]
 have bA : Below w.heap.size w wA := by rw [hwA.out]; exact below_box1 _ _ _
 have zA : wA.heap.size = w.heap.size + 1 := by rw [hwA.out]; exact World.size_alloc _ _
 have tA : wA.there bx 0 7 := by rw [hwA.out, hbx]; exact there_new w _ _
 clear hwA
 have AA := A.below bA
 have L0 := AA.l_id (l := [b]) (by simp)
 have L1 := AA.l_known (l := [b]) (by simp)
 rw [← h.id] at L0
 rw [← h.pre] at L1
 have sA : Sm [b] wA wA.drew := fun _ _ => rfl
 repeat ((conv => whnf); first | refine Xt ?_ | refine Xq ?_ | refine Xn ?_ | refine Xj ?_ | refine Xo ?_); try (conv => whnf)
 refine VDraw.pl 1000 (.one [0, 1, 2, 3, 4, 5, 6, 7, 8] 9 (.one [] 10 (.stop []))) (Sm [b] wA) (by kernel_rfl) (sA) ?_
 repeat ((conv => whnf); first | refine Xl L0 ?_ | refine Xl L1 ?_ | refine Xt ?_ | refine Xq ?_ | refine Xn ?_ | refine Xj ?_ | refine Xo ?_); try (conv => whnf)
 refine VBuild.mk (.agg (flB o none 0 0 none 0 0)) (fun W' => build51b W' o.id.e o.id.l o.id.i o.id.c o.pre) ?_
 repeat ((conv => whnf); first | refine Xt ?_ | refine Xq ?_ | refine Xn ?_ | refine Xj ?_ | refine Xo ?_); try (conv => whnf)
 refine .mk _ run_zero51 ?_
 conv => whnf
 refine .mk fun u3 hu3 => ?_
 obtain ⟨bf, hbf⟩ : ∃ bf, bf = wA.drew.heap.size := ⟨_, rfl⟩
 have hbf' : bf = wA.heap.size := hbf
 have cu : Below wA.heap.size wA u3 := by rw [hu3.out]; exact (Below.refl _ wA).drew.trans ((Below.refl wA.drew.heap.size wA.drew).alloc (Nat.le_refl _) _)
 have zu : u3.heap.size = wA.heap.size + 1 := by rw [hu3.out]; exact World.size_alloc _ _
 have tu : u3.there bf 0 7 := by rw [hu3.out, hbf]; exact there_new _ _ _
 rw [← hbf]
 clear hu3
 have hlA : ∀ y ∈ [b], y < wA.heap.size := fun y hy => by rw [List.mem_singleton.1 hy]; exact AA.hb
 repeat ((conv => whnf); first | (refine VS.mk (Sm.below cu hlA) ?_) | refine Xt ?_ | refine Xq ?_ | refine Xn ?_ | refine Xj ?_ | refine Xo ?_); try (conv => whnf)
 refine VStore.mid (c := flB o none 0 0 none 0 0) tu (by kernel_rfl) (one_flB _ _ _ _ _ _ _) fun w4 hw4 => ?_
 have g4 : u3.grownBy w4 (some bf) := by rw [hw4.out]; exact grown_sets _ _ _ _
 have r4 : w4.rangeAt bf 0 (flB o none 0 0 none 0 0).toList := by rw [hw4.out]; exact rng_in tu (by simp)
 have t4 : w4.there bf 0 7 := by rw [hw4.out]; exact World.there_setCells tu _ _ _
 clear hw4
 have z4 := g4.size
 have b4 : Below wA.heap.size wA w4 := cu.grown g4 (by omega) fun k hk => by injection hk with hk; omega
 obtain ⟨κ0, hκ0⟩ : ∃ κ0 : Nat → Nat, κ0 = fun y => if y = bf then 1 else 0 := ⟨_, rfl⟩
 have I0 : CtI wA bf o none 0 [] none 0 [] κ0 w4 := ⟨b4, by omega, r4, t4, by rw [hκ0]; exact if_pos rfl, OwnO.nil _ _ _ _ _, OwnO.nil _ _ _ _ _, fun y hy => by rw [hκ0]; exact if_neg (by omega), fun y hy => by rw [hκ0]; exact if_neg (by omega)⟩
 have LK4 := (AA.below b4).l_known (l := [b]) (by simp)
 repeat ((conv => whnf); first | (refine VS.mk (Sm.below b4 hlA) ?_) | refine Xl (LK4.at (Sm.refl _ _)) ?_ | refine Xt ?_ | refine Xq ?_ | refine Xn ?_ | refine Xj ?_ | refine Xo ?_); try (conv => whnf)
 refine VLoop.mk (Option Addr × Nat × Nat) (fun u => [(0, .pointer (some ⟨b, 0, none⟩)), (1, .int .i64 n), (4, .pointer (some ⟨bx, 0, none⟩)), (5, .pointer (some ⟨bf, 0, none⟩)), (6, .int .i64 u.2.2)]) (fun u W => ∃ κ, f.known ≤ u.2.2 ∧ u.2.2 ≤ f.slots.length ∧ CtI wA bf o u.1 u.2.1 ((f.slots.take u.2.2).drop f.known) none 0 [] κ W) (fun u => f.slots.length - u.2.2) (none, 0, f.known) ⟨rfl, rfl, rfl, rfl, rfl, trivial⟩ ⟨κ0, Nat.le_refl _, by show f.known ≤ f.slots.length; omega, by
   show CtI wA bf o none 0 ((f.slots.take f.known).drop f.known) none 0 [] κ0 w4
   rw [List.drop_eq_nil_of_le (by rw [List.length_take]; omega)]; exact I0⟩ ?_
 clear I0 LK4
 rintro ⟨A1, c1, i⟩ W ⟨κ, hki, hil, I0⟩
 have hki : f.known ≤ i := hki
 have hil : i ≤ f.slots.length := hil
 have I : CtI wA bf o A1 c1 ((f.slots.take i).drop f.known) none 0 [] κ W := I0
 clear I0
 dsimp only
 have AW := AA.below I.be
 have M0 := AW.l_slots (l := [b]) (by simp)
 have s0 := Sm.refl [b] W
 have hlen : ((f.slots.take i).drop f.known).length = i - f.known := by rw [List.length_drop, List.length_take]; omega
 by_cases hin : i < f.slots.length
 case pos =>
   obtain ⟨g, off, eA, g1, -, -, -, g5⟩ := AW.sr.get (by omega)
   obtain ⟨y, hy⟩ : ∃ y, f.slots[i]? = some y := ⟨_, List.getElem?_eq_getElem hin⟩
   obtain ⟨g', off', eA', g1', -, -, -, -⟩ := AA.sr.get (by omega)
   have hgg : g = g' := by rw [eA] at eA'; injection eA' with e; injection e
   have gA : g < wA.heap.size := by omega
   have N0 := AW.l_slots (l := [b, bf, g]) (by simp)
   rw [eA] at M0 N0
   have N1 : Ld Tryz.prog 57 bf 5 (Sm [b, bf, g] W) (.slice A1 (i - f.known) c1) := ⟨fun W' hW => load48 (by rw [← hlen]; exact cell_sm (I.rg 5 _ rfl) (by simp) hW)⟩
   have N2 : Ld Tryz.prog 46 g (off + mulO i 2) (Sm [b, bf, g] W) (.agg #[.int .i64 y.s, .int .i64 y.q]) := ⟨fun W' hW => load_agg (cs := eSl y) (by kernel_rfl) (by kernel_rfl) fun j u hu => cell_sm (by rw [mulO_eq]; exact g5 i y hy j u hu) (by simp) hW⟩
   have sW : Sm [b, bf, g] W W.drew := fun _ _ => rfl
   have zW := I.be.size
   have hl5 : ∀ z ∈ [b, bf, g], z < W.heap.size ∧ κ z ≠ 2 := fun z hz => by
     simp only [List.mem_cons, List.not_mem_nil, or_false] at hz
     rcases hz with rfl | rfl | rfl
     · exact ⟨AW.hb, by rw [I.old _ AA.hb]; omega⟩
     · exact ⟨I.hb.2, by rw [I.kf]; omega⟩
     · exact ⟨g1, by rw [I.old _ gA]; omega⟩
   repeat ((conv => whnf); first | refine Xl (M0.at s0) ?_ | refine Xt ?_ | refine Xq ?_ | refine Xn ?_ | refine Xj ?_ | refine Xo ?_); try (conv => whnf)
   refine VDraw.pl 12 (.one [0, 1, 2, 3, 4, 5, 6, 7, 8] 9 (.one [] 10 (.one [11] 12 (.stop [])))) (Sm [b, bf, g] W) (by kernel_rfl) (sW) ?_
   repeat ((conv => whnf); first | refine Xl N0 ?_ | refine Xl N1 ?_ | refine Xl N2 ?_ | refine Xt ?_ | refine Xq ?_ | refine Xn ?_ | refine Xj ?_ | refine Xo ?_); try (conv => whnf)
   refine VBs.mk _ _ (bs48 W.drew y.s y.q) ?_
   have c6 : Below W.heap.size W (W.drew.alloc (.cells #[.int .i64 y.s, .int .i64 y.q] 46)) := Below.trans (Below.drew (Below.refl _ W)) ((Below.refl W.drew.heap.size W.drew).alloc (Nat.le_refl _) _)
   have hnc : ∀ j u, (eSl y)[j]? = some u → (W.drew.alloc (.cells #[.int .i64 y.s, .int .i64 y.q] 46)).cell? ⟨W.drew.heap.size, j, none⟩ = some u := fun j u hu => by
     have := range_new W.drew #[.int .i64 y.s, .int .i64 y.q] 46 j u hu
     rwa [Nat.zero_add] at this
   generalize W.drew.alloc (.cells #[.int .i64 y.s, .int .i64 y.q] 46) = w6 at c6 hnc ⊢
   have I6 := I.step c6
   have z6 := c6.size
   have s6 : Sm [b, bf, g] W w6 := .below c6 fun z hz => (hl5 z hz).1
   repeat ((conv => whnf); first | (refine VS.mk s6 ?_) | refine Xt ?_ | refine Xq ?_ | refine Xn ?_ | refine Xj ?_ | refine Xo ?_); try (conv => whnf)
   refine VApp.off 2 16 _ Tryz.underlying57 info78 rfl (by decide) eSl (fun _ => rfl) one_eSl _ y hlen I6.os_ hnc I6.kz (by omega) (by omega) fun A8 c8 κ8 w8 oA8 q8 kz8 => ?_
   have s8 : Sm [b, bf, g] W w8 := s6.trans fun z hz => q8.same z (by have := (hl5 z hz).1; omega) (hl5 z hz).2
   have r8 := range_same I6.rg (q8.same bf I6.hb.2 (by rw [I.kf]; omega))
   have t8 := there_same I6.th (q8.same bf I6.hb.2 (by rw [I.kf]; omega))
   have z8 := q8.size
   repeat ((conv => whnf); first | (refine VS.mk s8 ?_) | refine Xt ?_ | refine Xq ?_ | refine Xn ?_ | refine Xj ?_ | refine Xo ?_); try (conv => whnf)
   refine VStore.cell (by kernel_rfl) (by have := (t8 5 (by omega)).1; rwa [Nat.zero_add] at this) (by have := (t8 5 (by omega)).2; rwa [Nat.zero_add] at this) rfl rfl fun w9 hw9 => ?_
   obtain ⟨r9, t9⟩ := rng_cell (l' := (flB o A8 (i - f.known + 1) c8 none 0 0).toList) (j := 5) r8 t8 rfl (by omega) hw9.out rfl
   have kf8 : κ8 bf = 1 := (q8.kk bf I6.hb.2).trans I.kf
   have q9 : Ro (· = 1) κ8 κ8 w8 w9 := by rw [hw9.out]; exact Ro.cell kf8 _ _
   clear hw9
   have b8 : Below wA.heap.size wA w8 := q8.toBelow I6.be I6.be.size fun z hz => by rw [I.old z hz]; omega
   have old8 : ∀ z, z < wA.heap.size → κ8 z = 0 := fun z hz => (q8.kk z (Nat.lt_of_lt_of_le hz I6.be.size)).trans (I.old z hz)
   have b9 : Below wA.heap.size wA w9 := q9.toBelow b8 b8.size fun z hz => by rw [old8 z hz]; omega
   have hx : (f.slots.take (i + 1)).drop f.known = (f.slots.take i).drop f.known ++ [y] := by
     rw [take_one hy, List.drop_append_of_le_length (by rw [List.length_take]; omega)]
   have z9 := q9.size
   repeat ((conv => whnf); first | (refine VS.last rfl ?_) | refine Xt ?_ | refine Xq ?_ | refine Xn ?_ | refine Xj ?_ | refine Xo ?_); try (conv => whnf)
   refine .mk (A8, c8, i + 1) ⟨rfl, rfl, rfl, rfl, rfl, trivial⟩ ⟨κ8, by show f.known ≤ i + 1; omega, hin, ?_⟩ (by show f.slots.length - (i + 1) < f.slots.length - i; omega)
   show CtI wA bf o A8 c8 ((f.slots.take (i + 1)).drop f.known) none 0 [] κ8 w9
   rw [hx]
   exact ⟨b9, ⟨I.hb.1, by have := I6.hb.2; omega⟩, by rw [List.length_append, hlen]; exact r9, t9, kf8, oA8.ro q9 (by omega), OwnO.nil _ _ _ _ _, old8, fun z hz => kz8 z (by omega)⟩
 obtain rfl : i = f.slots.length := by omega
 rw [List.take_length] at I hlen
 have hsl : o.slots = f.slots.drop f.known := h.sl
 rw [← hsl] at I hlen
 repeat ((conv => whnf); first | refine Xl (M0.at s0) ?_ | refine Xt ?_ | refine Xq ?_ | refine Xn ?_ | refine Xj ?_ | refine Xo ?_); try (conv => whnf)
 refine VLoop.mk (Option Addr × Nat × Nat) (fun u => [(0, .pointer (some ⟨b, 0, none⟩)), (1, .int .i64 n), (4, .pointer (some ⟨bx, 0, none⟩)), (5, .pointer (some ⟨bf, 0, none⟩)), (7, .int .i64 u.2.2)]) (fun u W => ∃ κ, u.2.2 ≤ clampN n ∧ CtI wA bf o A1 c1 o.slots u.1 u.2.1 ((List.range u.2.2).map o.taken) κ W) (fun u => clampN n - u.2.2) (none, 0, 0) ⟨rfl, rfl, rfl, rfl, rfl, trivial⟩ ⟨κ, Nat.zero_le _, I⟩ ?_
 clear I M0 s0 AW hlen
 clear κ
 clear W
 rintro ⟨H, hc, p⟩ W ⟨κ, hpc, I0⟩
 have hpc : p ≤ clampN n := hpc
 have I : CtI wA bf o A1 c1 o.slots H hc ((List.range p).map o.taken) κ W := I0
 clear I0
 dsimp only
 have AW := AA.below I.be
 have hlen : ((List.range p).map o.taken).length = p := by rw [List.length_map, List.length_range]
 have hcl : (clampN n : Int) ≤ 16 := by have := clampN_le n; omega
 have hcn : p < clampN n ↔ (p : Int) < n ∧ p < 16 := by
   unfold clampN
   split
   · omega
   · split <;> omega
 by_cases hin : p < clampN n
 case neg =>
   obtain rfl : p = clampN n := by omega
   have LF : Ld Tryz.prog 65 bf 0 (Eq W) (.agg (flB o A1 o.slots.length c1 H (clampN n) hc)) := .of (load_agg (by kernel_rfl) (by kernel_rfl) (by have := I.rg; rw [hlen] at this; exact this))
   have hlo : w.heap.size ≤ bx ∧ bx < wA.heap.size := by omega
   have tW := there_same tA (I.be.block bx hlo.2)
   by_cases hpn : ((clampN n : Nat) : Int) < n
   · have h16 : ¬ ((clampN n : Nat) : Int) < 16 := by omega
     repeat ((conv => whnf); first | refine Xl LF ?_ | refine Xt ?_ | refine Xq ?_ | refine Xn ?_ | refine Xj ?_ | refine Xo ?_); try (conv => whnf)
     refine VStore.mid (c := flB o A1 o.slots.length c1 H (clampN n) hc) tW (by kernel_rfl) (one_flB _ _ _ _ _ _ _) fun w9 hw9 => ?_
     have g9 : W.grownBy w9 (some bx) := by rw [hw9.out]; exact grown_sets _ _ _ _
     have r9 : w9.rangeAt bx 0 (flB o A1 o.slots.length c1 H (clampN n) hc).toList := by rw [hw9.out]; exact rng_in tW (by simp)
     clear hw9
     have LR : Ld Tryz.prog 65 bx 0 (Eq w9) (.agg (flB o A1 o.slots.length c1 H (clampN n) hc)) := .of (load_agg (by kernel_rfl) (by kernel_rfl) r9)
     have q9 : Ro (· = 0) κ κ W w9 := Ro.grown g9 fun y hy => by injection hy with hy; rw [← hy]; exact I.old bx hlo.2
     have b9 : Below w.heap.size w w9 := (bA.trans (I.be.mono bA.size)).grown g9 (by have := bA.size; have := I.be.size; omega) fun k hk => by injection hk with hk; omega
     repeat ((conv => whnf); first | refine Xl LR ?_ | refine Xt ?_ | refine Xq ?_ | refine Xn ?_ | refine Xj ?_ | refine Xo ?_); try (conv => whnf)
     exact .mk ⟨A1, c1, H, hc, rfl, (I.os_.ro q9 (by omega)).row, (I.oh.ro q9 (by omega)).row, by rw [hbx]; exact b9⟩
   · repeat ((conv => whnf); first | refine Xl LF ?_ | refine Xt ?_ | refine Xq ?_ | refine Xn ?_ | refine Xj ?_ | refine Xo ?_); try (conv => whnf)
     refine VStore.mid (c := flB o A1 o.slots.length c1 H (clampN n) hc) tW (by kernel_rfl) (one_flB _ _ _ _ _ _ _) fun w9 hw9 => ?_
     have g9 : W.grownBy w9 (some bx) := by rw [hw9.out]; exact grown_sets _ _ _ _
     have r9 : w9.rangeAt bx 0 (flB o A1 o.slots.length c1 H (clampN n) hc).toList := by rw [hw9.out]; exact rng_in tW (by simp)
     clear hw9
     have LR : Ld Tryz.prog 65 bx 0 (Eq w9) (.agg (flB o A1 o.slots.length c1 H (clampN n) hc)) := .of (load_agg (by kernel_rfl) (by kernel_rfl) r9)
     have q9 : Ro (· = 0) κ κ W w9 := Ro.grown g9 fun y hy => by injection hy with hy; rw [← hy]; exact I.old bx hlo.2
     have b9 : Below w.heap.size w w9 := (bA.trans (I.be.mono bA.size)).grown g9 (by have := bA.size; have := I.be.size; omega) fun k hk => by injection hk with hk; omega
     repeat ((conv => whnf); first | refine Xl LR ?_ | refine Xt ?_ | refine Xq ?_ | refine Xn ?_ | refine Xj ?_ | refine Xo ?_); try (conv => whnf)
     exact .mk ⟨A1, c1, H, hc, rfl, (I.os_.ro q9 (by omega)).row, (I.oh.ro q9 (by omega)).row, by rw [hbx]; exact b9⟩
 obtain ⟨hp1, hp2⟩ := hcn.1 hin
 have tkv : ∀ v : Nat, v = o.taken p → (List.range (p + 1)).map o.taken = (List.range p).map o.taken ++ [v] := fun v hv => by
   rw [List.range_succ, List.map_append, hv]; rfl
 have zW := I.be.size
 repeat ((conv => whnf); first | refine Xt ?_ | refine Xq ?_ | refine Xn ?_ | refine Xj ?_ | refine Xo ?_); try (conv => whnf)
 refine VCall.mk _ (ridx_any AW p (by omega)) ?_
 rintro _ _ ⟨rfl, rfl⟩
 refine ⟨_, rfl, ?_⟩
 rename_i W
 rcases idxI_cases f.mem p with ⟨i1, i2⟩ | ⟨ix, y, i1, hix, i3, i2⟩
 · rw [i1]
   obtain ⟨v, hv⟩ : ∃ v : Nat, v = 0 := ⟨_, rfl⟩
   have hvt : v = o.taken p := by
     rw [hv, h.tk]
     refine (List.countP_eq_zero.2 fun x hx e => ?_).symm
     obtain ⟨d, hd, rfl⟩ := List.mem_map.1 hx
     have h1 := h.cm d hd
     have h2 : hasB f.mem p = true := hasB_iff.2 ⟨d.s, h1, by have := of_decide_eq_true e; exact congrArg Nat.cast this⟩
     rw [i2] at h2; cases h2
   have hvl : v ≤ 100000 := by omega
   have N1 : Ld Tryz.prog 56 bf 6 (Eq W) (.slice H p hc) := .of (load49 (by have := I.rg 6 _ rfl; rw [hlen] at this; exact this))
   repeat ((conv => whnf); first | refine Xl N1 ?_ | refine Xt ?_ | refine Xq ?_ | refine Xn ?_ | refine Xj ?_ | refine Xo ?_); try (conv => whnf)
   refine VBs.mk _ _ (bs49 W 0) ?_
   rw [show (0 : Int) = ((v : Nat) : Int) by rw [hv]; rfl]
   have c6 : Below W.heap.size W (W.alloc (.cells #[.int .i64 ((v : Nat) : Int)] 3)) := (Below.refl _ _).alloc (Nat.le_refl _) _
   have hnc : ∀ j u, (eNat v)[j]? = some u → (W.alloc (.cells #[.int .i64 ((v : Nat) : Int)] 3)).cell? ⟨W.heap.size, j, none⟩ = some u := fun j u hu => by
     have := range_new W #[.int .i64 ((v : Nat) : Int)] 3 j u hu
     rwa [Nat.zero_add] at this
   generalize W.alloc (.cells #[.int .i64 ((v : Nat) : Int)] 3) = w6 at c6 hnc ⊢
   have I6 := I.step c6
   have z6 := c6.size
   repeat ((conv => whnf); first | refine Xt ?_ | refine Xq ?_ | refine Xn ?_ | refine Xj ?_ | refine Xo ?_); try (conv => whnf)
   refine VApp.off 1 8 _ Tryz.underlying56 info3 rfl (by decide) eNat (fun _ => rfl) one_eNat _ v hlen I6.oh hnc I6.kz (by omega) (by omega) fun A8 c8 κ8 w8 oA8 q8 kz8 => ?_
   have r8 := range_same I6.rg (q8.same bf I6.hb.2 (by rw [I.kf]; omega))
   have t8 := there_same I6.th (q8.same bf I6.hb.2 (by rw [I.kf]; omega))
   have z8 := q8.size
   repeat ((conv => whnf); first | refine Xt ?_ | refine Xq ?_ | refine Xn ?_ | refine Xj ?_ | refine Xo ?_); try (conv => whnf)
   refine VStore.cell (by kernel_rfl) (by have := (t8 6 (by omega)).1; rwa [Nat.zero_add] at this) (by have := (t8 6 (by omega)).2; rwa [Nat.zero_add] at this) rfl rfl fun w9 hw9 => ?_
   obtain ⟨r9, t9⟩ := rng_cell (l' := (flB o A1 o.slots.length c1 A8 (p + 1) c8).toList) (j := 6) r8 t8 rfl (by omega) hw9.out rfl
   have kf8 : κ8 bf = 1 := (q8.kk bf I6.hb.2).trans I.kf
   have q9 : Ro (· = 1) κ8 κ8 w8 w9 := by rw [hw9.out]; exact Ro.cell kf8 _ _
   clear hw9
   have b8 : Below wA.heap.size wA w8 := q8.toBelow I6.be I6.be.size fun z hz => by rw [I.old z hz]; omega
   have old8 : ∀ z, z < wA.heap.size → κ8 z = 0 := fun z hz => (q8.kk z (Nat.lt_of_lt_of_le hz I6.be.size)).trans (I.old z hz)
   have b9 : Below wA.heap.size wA w9 := q9.toBelow b8 b8.size fun z hz => by rw [old8 z hz]; omega
   have z9 := q9.size
   have hx := tkv v hvt
   repeat ((conv => whnf); first | refine Xt ?_ | refine Xq ?_ | refine Xn ?_ | refine Xj ?_ | refine Xo ?_); try (conv => whnf)
   refine .mk (A8, c8, p + 1) ⟨rfl, rfl, rfl, rfl, rfl, trivial⟩ ⟨κ8, hin, ?_⟩ (by show clampN n - (p + 1) < clampN n - p; omega)
   show CtI wA bf o A1 c1 o.slots A8 c8 ((List.range (p + 1)).map o.taken) κ8 w9
   rw [hx]
   exact ⟨b9, ⟨I.hb.1, by have := I6.hb.2; omega⟩, by rw [List.length_append, hlen]; exact r9, t9, kf8, (I6.os_.ro q8 (by omega)).ro q9 (by omega), oA8.ro q9 (by omega), old8, fun z hz => kz8 z (by omega)⟩
 · rw [i1]
   have N1 : Ld Tryz.prog 56 bf 6 (Eq W) (.slice H p hc) := .of (load49 (by have := I.rg 6 _ rfl; rw [hlen] at this; exact this))
   repeat ((conv => whnf); first | refine Xt ?_ | refine Xq ?_ | refine Xn ?_ | refine Xj ?_ | refine Xo ?_); try (conv => whnf)
   refine VCall.mk _ (rtaken_any AW p (by omega)) ?_
   rintro _ _ ⟨rfl, rfl⟩
   refine ⟨_, rfl, ?_⟩
   rename_i W
   obtain ⟨v, hv⟩ : ∃ v : Nat, v = tkI f.came (p : Int) := ⟨_, rfl⟩
   have hvt : v = o.taken p := by rw [hv, tkI_nat, h.tk]
   have hvl : v ≤ 100000 := by
     rw [hvt, h.tk]
     have := cnt_le p f.C
     have := C_len f
     omega
   rw [← hv]
   repeat ((conv => whnf); first | refine Xl N1 ?_ | refine Xt ?_ | refine Xq ?_ | refine Xn ?_ | refine Xj ?_ | refine Xo ?_); try (conv => whnf)
   refine VBs.mk _ _ (bs49 W v) ?_
   have c6 : Below W.heap.size W (W.alloc (.cells #[.int .i64 ((v : Nat) : Int)] 3)) := (Below.refl _ _).alloc (Nat.le_refl _) _
   have hnc : ∀ j u, (eNat v)[j]? = some u → (W.alloc (.cells #[.int .i64 ((v : Nat) : Int)] 3)).cell? ⟨W.heap.size, j, none⟩ = some u := fun j u hu => by
     have := range_new W #[.int .i64 ((v : Nat) : Int)] 3 j u hu
     rwa [Nat.zero_add] at this
   generalize W.alloc (.cells #[.int .i64 ((v : Nat) : Int)] 3) = w6 at c6 hnc ⊢
   have I6 := I.step c6
   have z6 := c6.size
   repeat ((conv => whnf); first | refine Xt ?_ | refine Xq ?_ | refine Xn ?_ | refine Xj ?_ | refine Xo ?_); try (conv => whnf)
   refine VApp.off 1 8 _ Tryz.underlying56 info3 rfl (by decide) eNat (fun _ => rfl) one_eNat _ v hlen I6.oh hnc I6.kz (by omega) (by omega) fun A8 c8 κ8 w8 oA8 q8 kz8 => ?_
   have r8 := range_same I6.rg (q8.same bf I6.hb.2 (by rw [I.kf]; omega))
   have t8 := there_same I6.th (q8.same bf I6.hb.2 (by rw [I.kf]; omega))
   have z8 := q8.size
   repeat ((conv => whnf); first | refine Xt ?_ | refine Xq ?_ | refine Xn ?_ | refine Xj ?_ | refine Xo ?_); try (conv => whnf)
   refine VStore.cell (by kernel_rfl) (by have := (t8 6 (by omega)).1; rwa [Nat.zero_add] at this) (by have := (t8 6 (by omega)).2; rwa [Nat.zero_add] at this) rfl rfl fun w9 hw9 => ?_
   obtain ⟨r9, t9⟩ := rng_cell (l' := (flB o A1 o.slots.length c1 A8 (p + 1) c8).toList) (j := 6) r8 t8 rfl (by omega) hw9.out rfl
   have kf8 : κ8 bf = 1 := (q8.kk bf I6.hb.2).trans I.kf
   have q9 : Ro (· = 1) κ8 κ8 w8 w9 := by rw [hw9.out]; exact Ro.cell kf8 _ _
   clear hw9
   have b8 : Below wA.heap.size wA w8 := q8.toBelow I6.be I6.be.size fun z hz => by rw [I.old z hz]; omega
   have old8 : ∀ z, z < wA.heap.size → κ8 z = 0 := fun z hz => (q8.kk z (Nat.lt_of_lt_of_le hz I6.be.size)).trans (I.old z hz)
   have b9 : Below wA.heap.size wA w9 := q9.toBelow b8 b8.size fun z hz => by rw [old8 z hz]; omega
   have z9 := q9.size
   have hx := tkv v hvt
   repeat ((conv => whnf); first | refine Xt ?_ | refine Xq ?_ | refine Xn ?_ | refine Xj ?_ | refine Xo ?_); try (conv => whnf)
   refine .mk (A8, c8, p + 1) ⟨rfl, rfl, rfl, rfl, rfl, trivial⟩ ⟨κ8, hin, ?_⟩ (by show clampN n - (p + 1) < clampN n - p; omega)
   show CtI wA bf o A1 c1 o.slots A8 c8 ((List.range (p + 1)).map o.taken) κ8 w9
   rw [hx]
   exact ⟨b9, ⟨I.hb.1, by have := I6.hb.2; omega⟩, by rw [List.length_append, hlen]; exact r9, t9, kf8, (I6.os_.ro q8 (by omega)).ro q9 (by omega), oA8.ro q9 (by omega), old8, fun z hz => kz8 z (by omega)⟩
end
end Go.Proofs.YtoilipfgimcoiaaGreat
