/- RgF RgY, joined. -/
import Derived.RangeFuncRecord
import Derived.RangeFuncSeq
import Derived.Test.YtoilipfgimcoiaaGreatOz7
set_option linter.unusedVariables false
set_option linter.unusedSimpArgs false
namespace Go.Proofs.YtoilipfgimcoiaaGreat
open Go Go.RowKit
def noDefer (o : Oper) : Bool := match o.op with
 | .defer _ => false
 | _ => true
def roundB : Code → Bool
 | .skip => true
 | .exit _ => true
 | .ret => true
 | .region _ ops d => !d && ops.toList.all noDefer
 | .seq a b => roundB a && roundB b
 | .cond _ a b => roundB a && roundB b
 | .block _ c => roundB c
 | _ => false
section
variable {P : Program} {T : Tab} {D : List Deferred}
theorem Oper.wp_round {o : Oper} {a : Act} {w : World} {next : Act → World → Prop} {Q' : Exit → Act → World → Prop} (l : Nat) (hd : noDefer o = true) (h : o.wp P a w next (fun _ _ _ => False)) : o.wpIn (Fence.wide.inRound l) 0 P a w next Q' := by
 have e : o.semAt (Fence.wide.inRound l).round a.eval = execOp a.eval o := Oper.semAt_some l _ o (fun c hc => by unfold noDefer at hd; rw [hc] at hd; cases hd)
 have e0 : o.semAt Fence.wide.round a.eval = execOp a.eval o := Oper.semAt_none _ _
 have h2 := (Oper.wp_wide (Q' := Q') (fun _ _ _ h => h.elim) h).2
 refine ⟨fun _ _ => trivial, ?_⟩
 rw [e]
 rw [e0] at h2
 exact h2
theorem vcOps_round (hT : TabOk P T) (lp : Nat) {n : Nat} {l0 : List Oper} {Q : Exit → Act → World → Prop} : ∀ {l : List Oper} {fr : Fr} {a : Act} {w : World} {K : Fr → World → Prop}, l.all noDefer = true → vcOps T P n l0 l fr w K → RepE D n fr a → (∀ fr' a' w', RepE D n fr' a' → K fr' w' → Q .normal a' w') → wpListIn (Fence.wide.inRound lp) 0 P l0.toArray Q l a w
 | [], fr, a, w, K, _, h, hr, hq => hq _ _ _ hr h
 | o :: r, fr, a, w, K, hd, h, hr, hq => by
   unfold vcOps at h
   unfold wpListIn
   rw [List.all_cons, Bool.and_eq_true] at hd
   rcases gd_ok h hr with ⟨hw, h⟩ | ⟨hw, h⟩
   · rw [if_pos hw]
     refine Oper.wp_round lp hd.1 (rv_ok hT hr.ag h _ _ fun v w' hk => ?_)
     obtain ⟨fr', hr', hk'⟩ := putK_ok hk hr
     exact vcOps_round hT lp hd.2 hk' hr' hq
   · rw [if_neg (by simp [hw])]
     obtain ⟨fr', hr', hk'⟩ := putK_ok h hr
     exact ⟨fun _ _ => trivial, vcOps_round hT lp hd.2 hk' hr' hq⟩
theorem vcC_round (hT : TabOk P T) (lp : Nat) {n : Nat} : ∀ (c : Code) (fr : Fr) (a : Act) (w : World) (Q : Exit → Fr → World → Prop), roundB c = true → vcC T P n c fr w Q → RepE D n fr a → c.wpIn (Fence.wide.inRound lp) 0 P (Lift D n Q) a w := by
 intro c
 induction c with
 | skip => intro fr a w Q _ h hr; unfold vcC at h; exact wpIn_skip ⟨fr, hr, h⟩
 | region id ops draw =>
   intro fr a w Q hb h hr
   unfold roundB at hb
   cases draw with
   | false =>
     unfold vcC at h
     exact wpIn_region_lit (vcOps_round hT lp (by simpa using hb) h hr fun fr' a' w' hr' hk => ⟨fr', hr', hk⟩)
   | true => simp at hb
 | seq x y ihx ihy =>
   intro fr a w Q hb h hr
   unfold roundB at hb
   rw [Bool.and_eq_true] at hb
   unfold vcC at h
   refine wpIn_seq (wpIn_mono (ihx fr a w _ hb.1 h hr) fun e a' w' hq => ?_)
   obtain ⟨fr', hr', hq⟩ := hq
   unfold kSeq at hq
   cases e with
   | normal => exact ihy fr' a' w' Q hb.2 hq hr'
   | exit id => exact ⟨fr', hr', hq⟩
   | goto l => exact ⟨fr', hr', hq⟩
   | ret => exact ⟨fr', hr', hq⟩
   | panic ch => exact ⟨fr', hr', hq⟩
   | outgrown => exact ⟨fr', hr', hq⟩
 | cond c x y ihx ihy =>
   intro fr a w Q hb h hr
   unfold roundB at hb
   rw [Bool.and_eq_true] at hb
   unfold vcC at h
   split at h
   · rename_i t hc
     cases t with
     | true => exact wpIn_cond_true (hr.ag _ _ hc) (ihx fr a w Q hb.1 h hr)
     | false => exact wpIn_cond_false (hr.ag _ _ hc) (ihy fr a w Q hb.2 h hr)
   · exact h.elim
 | block id c ih =>
   intro fr a w Q hb h hr
   unfold roundB at hb
   unfold vcC at h
   refine wpIn_block (wpIn_mono (ih fr a w _ hb h hr) fun e a' w' hq => ?_)
   obtain ⟨fr', hr', hq⟩ := hq
   unfold kBlk at hq
   cases e with
   | normal => exact ⟨fr', hr', hq⟩
   | exit id' =>
     dsimp only at hq
     unfold Exit.inBlock
     by_cases hid : id' = id
     · subst hid
       rw [show Nat.beq id' id' = true by simp] at hq
       dsimp only
       rw [if_pos rfl]
       exact ⟨fr', hr', hq⟩
     · rw [show Nat.beq id' id = false by cases hb : Nat.beq id' id with | false => rfl | true => exact absurd (Nat.eq_of_beq_eq_true hb) hid] at hq
       dsimp only
       rw [if_neg hid]
       exact ⟨fr', hr', hq⟩
   | goto l => exact ⟨fr', hr', hq⟩
   | ret => exact ⟨fr', hr', hq⟩
   | panic ch => exact ⟨fr', hr', hq⟩
   | outgrown => exact ⟨fr', hr', hq⟩
 | exit id => intro fr a w Q _ h hr; unfold vcC at h; exact wpIn_exit ⟨fr, hr, h⟩
 | ret => intro fr a w Q _ h hr; unfold vcC at h; exact wpIn_ret ⟨fr, hr, h⟩
 | loop c ih => intro fr a w Q hb; cases hb
 | _ => intro fr a w Q _ h hr; unfold vcC at h; exact h.elim
def kR2 (lp : Nat) (q : Loop) (R : Bool → World → Prop) : Exit → Fr → World → Prop := fun e _ W => match e with
 | .normal => VDone (W.heap[lp]? = some (.loop { q with state := .busy }) ∧ R true (W.putObj lp (.loop { q with state := .ready, pending := none })))
 | .exit id => VDone (W.heap[lp]? = some (.loop { q with state := .busy }) ∧ R false (W.putObj lp (.loop { q with state := .done, pending := some (.exit id) })))
 | _ => False
inductive VRound (T : Tab) (P : Program) (n : Nat) (lp : Nat) (q : Loop) (R : Bool → World → Prop) (fr : Fr) (W : World) : Prop
 | mk (h : W.heap[lp]? = some (.loop q)) (hk : ∀ W', Hid (W' = W.putObj lp (.loop { q with state := .busy })) → vcC T P n q.body fr W' (kR2 lp q R))
def kR1 (T : Tab) (P : Program) (n : Nat) (lp : Nat) (q : Loop) (R : Bool → World → Prop) : Exit → Fr → World → Prop := fun e fr W => match e with
 | .normal => VRound T P n lp q R fr W
 | _ => False
theorem round_vc (hT : tabB P T = true) {lp n : Nat} {q : Loop} {args : Array Value} {W : World} {fr : Fr} {R : Bool → World → Prop} (hl : W.heap[lp]? = some (.loop q)) (hst : q.state = .ready) (hs : args.size = q.params.size)
   (hr : RepE [] n fr { tmps := (q.params.zip args).foldl (fun tmps (t, a) => tmps.setIfInBounds t a) q.tmps, defers := [] }) (h1 : roundB q.assign = true) (h2 : roundB q.body = true)
   (h : vcC T P n q.assign fr W (kR1 T P n lp q R)) : YieldAt Fence.wide 0 P lp args W fun e W' => ∃ t, e = .returned (.bool t) ∧ R t W' := by
 have hT := tab_of hT
 refine ⟨_, _, _, _, run_yield hl hs, roundIn_of_wpIn trivial (wpIn_mono (vcC_round hT lp _ _ _ _ _ h1 h hr) fun e a1 W1 hq => ?_)⟩
 obtain ⟨fr1, hr1, hq⟩ := hq
 unfold kR1 at hq
 cases e with
 | normal =>
   cases hq with
   | mk hl1 hk =>
     refine ⟨_, run_beginRound hl1 hst, wpIn_mono (vcC_round hT lp _ _ _ _ _ h2 (hk _ (Lib.hid rfl)) hr1) fun e a2 W2 hq => ?_⟩
     obtain ⟨fr2, hr2, hq⟩ := hq
     unfold kR2 at hq
     cases e with
     | normal =>
       cases hq with
       | mk hq => exact ⟨_, _, run_endRound none hq.1, _, rfl, hq.2⟩
     | exit id =>
       cases hq with
       | mk hq => exact ⟨_, _, run_endRound (some (.exit id)) hq.1, _, rfl, hq.2⟩
     | goto l => exact hq.elim
     | ret => exact hq.elim
     | panic ch => exact hq.elim
     | outgrown => exact hq.elim
 | exit id => exact hq.elim
 | goto l => exact hq.elim
 | ret => exact hq.elim
 | panic ch => exact hq.elim
 | outgrown => exact hq.elim
def recOf (fn : FuncId) (a : Act) (ps : Array Tmp) (assign body : Code) (w : World) : Loop := { state := .ready, pending := none, fn, tmps := a.tmps, params := ps, assign, body, defers := w.heap.size }
def markA (a : Act) (w : World) : Act := { a with defers := { target := .collected w.heap.size, args := #[] } :: a.defers }
theorem range_vc {g : Operand} {ps : Array Tmp} {assign body : Code} {Q : Exit → Act → World → Prop} {a : Act} {w : World} {gf : Nat} {first cap : Array Value}
   (hg : a.eval g = .func (.func gf) first cap) (eg : ∀ args w, (callFunc gf args).run P w = .ok (.enter gf args) w)
   (h : ∀ fn W0, Hid (W0 = (w.alloc (.deferred (some []))).alloc (.loop (recOf fn a ps assign body w))) → Calls P gf (first ++ #[.func (.yield (w.heap.size + 1)) #[] #[]] ++ cap) W0 fun e W => ∃ v, e = .returned v ∧ ∃ q : Loop, W.heap[w.heap.size + 1]? = some (.loop q) ∧ q.state ≠ .busy ∧
     ((q.pending = none ∧ Q .normal (markA a w) (W.putObj (w.heap.size + 1) (.loop { q with state := .exhausted }))) ∨ ∃ id, q.pending = some (.exit id) ∧ Q (.exit id) (markA a w) (W.putObj (w.heap.size + 1) (.loop { q with state := .exhausted })))) :
   (Code.rangeFunc g ps assign body).wp P Q a w := by
 refine (wpIn_wide (n := 0)).1 (wpIn_rangeFunc fun fn _ => ?_)
 obtain ⟨W0, hW0⟩ : ∃ W0, W0 = (w.alloc (.deferred (some []))).alloc (.loop (recOf fn a ps assign body w)) := ⟨_, rfl⟩
 have he : (Instr.enterLoop fn a.tmps ps assign body Fence.wide.round).run P w = .ok (w.heap.size + 1, [{ target := .collected w.heap.size, args := #[] }]) W0 := by
   rw [hW0]; exact run_enterLoop_outer (P := P) (w := w) fn a.tmps ps assign body
 have hc := h fn W0 (Lib.hid hW0)
 clear h
 obtain ⟨y, hy⟩ : ∃ y : Value, y = .func (.yield (w.heap.size + 1)) #[] #[] := ⟨_, rfl⟩
 rw [← hy] at hc
 have hres : (resolve a.eval (rangeCall g (w.heap.size + 1)) 0).run P W0 = .ok { target := .fn (.func gf) cap, args := first ++ #[y] } W0 := by
   simp only [resolve, hg]
   simp [go_sem, Act.eval, hy]
 have hinv : (invoke (.fn (.func gf) cap) (first ++ #[y])).run P W0 = .ok (.enter gf (first ++ #[y] ++ cap)) W0 := by
   simp [invoke, go_sem, eg]
 refine ⟨w.heap.size + 1, [{ target := .collected w.heap.size, args := #[] }], W0, { target := .fn (.func gf) cap, args := first ++ #[y] }, W0, gf, first ++ #[y] ++ cap, W0, he, hres, fun _ _ => trivial, hinv, fun hh => by simp [Fence.wide] at hh, callsIn_wide.2 (hc.mono ?_)⟩
 rintro e W ⟨v, rfl, q, hl, hb, hc⟩
 refine ⟨q.pending, _, run_endLoop hl hb, ?_⟩
 rcases hc with ⟨hp, hq⟩ | ⟨id, hp, hq⟩
 · rw [hp] at hq ⊢; exact hq
 · rw [hp] at hq ⊢; exact wpIn_exit hq
theorem rep_init {args : List Value} {n : Nat} (hn : Nat.ble args.length n = true) : RepE [] n (frI 0 args) { tmps := args.toArray ++ Array.replicate (n - args.toArray.size) undef, defers := [] } := by
 refine ⟨rfl, ?_, ?_⟩
 · have := Nat.le_of_ble_eq_true hn
   simp; omega
 · intro i v hi
   obtain ⟨_, h2⟩ := frI_get _ _ _ _ hi
   rw [Nat.sub_zero] at h2
   have hl := (List.getElem?_eq_some_iff.1 h2).1
   rw [Array.getD_eq_getD_getElem?, Array.getElem?_append_left (by simpa using hl)]
   simp [h2]
theorem calls_marks {f : FuncId} {fn : Func} {c : Code} {args : Array Value} {w : World} {R : Ending → World → Prop} (hf : P.funcs[f]? = some fn) (hb : fn.body = some c)
   (h : c.wp P (bodyPostM Fence.wide 0 P fn R) { tmps := args ++ Array.replicate (fn.ntmps - args.size) undef, defers := [] } w) : Calls P f args w R :=
 callsIn_wide.1 (callsIn_of_wp_marks (n := 0) hf hb trivial (wpIn_wide.2 h))
theorem res_vc {fn : Func} {fr : Fr} {n : Nat} {a : Act} {w : World} {R : Ending → World → Prop} (hr : RepE D n fr a) (h : vcRes P fn.results.toList fr w (kDone R w)) : ∃ v, (results fn a.tmps).run P w = .ok v w ∧ R (.returned v) w := by
 obtain ⟨vs, hk, hv⟩ := res_ok hr h
 cases hk with
 | mk hk =>
   refine ⟨_, ?_, hk⟩
   rw [results_eq, Sem.run_bind, Array.mapM_eq_mapM_toList]
   have : (List.toArray <$> List.mapM (resOf a.tmps) fn.results.toList : Sem (Array Value)).run P w = .ok vs.toArray w := by
     rw [map_eq_pure_bind, Sem.run_bind, hv]; rfl
   rw [this]
   simp only [Result.andThen_ok, Sem.run_pure, one_eq]
theorem leave_plain {fn : Func} {fr : Fr} {n : Nat} {a : Act} {w : World} {R : Ending → World → Prop} (hr : RepE [] n fr a) (h : vcRes P fn.results.toList fr w (kDone R w)) : LeavesInM Fence.wide 0 P fn a.tmps R a.defers .returning w := by
 rw [hr.d]
 exact res_vc hr h
theorem leave_mark {fn : Func} {fr : Fr} {n Db : Nat} {a : Act} {w : World} {R : Ending → World → Prop} (hr : RepE [{ target := .collected Db, args := #[] }] n fr a) (hD : w.heap[Db]? = some (.deferred (some [])))
   (h : vcRes P fn.results.toList fr (w.putObj Db (.deferred none)) (kDone R (w.putObj Db (.deferred none)))) : LeavesInM Fence.wide 0 P fn a.tmps R a.defers .returning w := by
 rw [hr.d]
 exact ⟨by simp, .inl ⟨_, _, rfl, run_takeDeferred hD, res_vc hr h⟩⟩
end
end Go.Proofs.YtoilipfgimcoiaaGreat
namespace Go.Proofs.YtoilipfgimcoiaaGreat
open Go Go.RowKit
section
variable {P : Program} {T : Tab} {D : List Deferred}
theorem yield_tail (hT : tabB P T = true) {l : List Oper} {z n f x d1 d2 lp : Nat} {Lf : Array Bool} {o1 o2 : Oper} {c : Call} {fr : Fr} {a : Act} {w : World} {v : Value} {Q : Exit → Act → World → Prop}
   (r1 : Region.ready .any l.toArray Lf = [z]) (r2 : Region.ready .any l.toArray (Lf.setIfInBounds z true) = [z + 1]) (r3 : Region.ready .any l.toArray ((Lf.setIfInBounds z true).setIfInBounds (z + 1) true) = [])
   (h1 : l[z]? = some o1) (e1 : o1.op = .call c) (c1 : c.callee = .value (.tmp f)) (c2 : c.args = #[.tmp x]) (g1 : o1.guard = none) (k1 : o1.dst = some d1) (n1 : Nat.blt d1 n = true)
   (h2 : l[z + 1]? = some o2) (e2 : o2.op = .unOp .not 4 (.tmp d1)) (g2 : o2.guard = none) (k2 : o2.dst = some d2) (n2 : Nat.blt d2 n = true) (hp : plainBE o2 = true)
   (hr : RepE D n fr a) (hf : aget fr f = some (.func (.yield lp) #[] #[])) (hx : aget fr x = some v)
   (hY : YieldAt Fence.wide 0 P lp #[v] w fun e W => ∃ t, e = .returned (.bool t) ∧ ∀ a2, RepE D n ((d2, .bool !t) :: (d1, .bool t) :: fr) a2 → Q .normal a2 W) :
   wpAnyIn Fence.wide 0 P .any l.toArray Q 2 Lf a w := by
 have hT := tab_of hT
 refine ⟨fun e => (by rw [r1] at e; cases e), fun i hi => ?_⟩
 rw [r1, List.mem_singleton] at hi
 subst hi
 have a1 : l.toArray[i]? = some o1 := by simpa using h1
 have a2 : l.toArray[i + 1]? = some o2 := by simpa using h2
 unfold wpOpIn
 simp only [a1]
 rw [if_pos (by unfold Region.wanted; rw [g1])]
 refine ⟨fun _ _ => trivial, ?_⟩
 have s0 : o1.semAt Fence.wide.round a.eval = execOp a.eval o1 := Oper.semAt_none _ _
 rw [s0]
 obtain ⟨fn, tmps, assign, body, hy, hR⟩ := hY
 have hrun : (execOp a.eval o1).run P w = .ok (.round lp fn tmps assign body) w := by
   have q1 := hr.ag (.tmp f) _ hf
   have q2 := hr.ag (.tmp x) _ hx
   unfold execOp
   rw [e1]
   dsimp only
   simp only [resolve, c1, q1, Deferred.ofValue, Sem.run_bind, Sem.run_pure, Result.andThen_ok, invoke, c2]
   simpa [q2] using hy
 rw [hrun, Oper.uponIn_round]
 refine ⟨fun hh => by simp [Fence.wide] at hh, hR.mono ?_⟩
 rintro e W ⟨t, rfl, hq⟩
 rw [k1]
 have hr1 := hr.put (v := .bool t) n1
 refine ⟨fun e => (by rw [r2] at e; cases e), fun j hj => ?_⟩
 rw [r2, List.mem_singleton] at hj
 subst hj
 unfold wpOpIn
 simp only [a2]
 rw [if_pos (by unfold Region.wanted; rw [g2])]
 refine Oper.wp_wide (Q := fun _ _ _ => False) (fun _ _ _ h => h.elim) (rv_ok hT hr1.ag (K := fun u W' => u = .bool !t ∧ W' = W) ?_ _ _ fun u W' hu => ?_)
 · unfold rv
   rw [hp]
   dsimp only
   unfold qv
   rw [e2]
   simp [fev, aget, kW]
 · obtain ⟨rfl, rfl⟩ := hu
   rw [k2]
   exact ⟨r3, hq _ (hr1.put n2)⟩
end
end Go.Proofs.YtoilipfgimcoiaaGreat
