/- OdR OdT, joined. -/
import Derived.RangeFuncOwn
import Derived.Test.YtoilipfgimcoiaaGreatOz7
import Derived.Test.YtoilipfgimcoiaaGreatOz8
set_option linter.unusedVariables false
set_option linter.unusedSimpArgs false
namespace Go.Proofs.YtoilipfgimcoiaaGreat
open Go Go.RowKit
structure Mg where
 p : Nat
 s : Nat
 q : Nat
 b : List Int
def Os.next (o : Os) : Option (Mg × Os) :=
 if o.done < o.known then match o.slots[o.done - o.pre]? with
   | none => none
   | some x => match o.held.find? (fun d => decide (d.sl = x)) with
     | none => none
     | some d => some (⟨o.done + 1, x.s, x.q, d.b⟩, { o with done := o.done + 1, mine := if x.s = o.self then o.mine + 1 else o.mine })
 else none
inductive Dlv (o : Os) : List Mg → Os → Prop
 | nil : Dlv o [] o
 | snoc {ms : List Mg} {o' o'' : Os} {m : Mg} (h : Dlv o ms o') (hn : o'.next = some (m, o'')) : Dlv o (ms ++ [m]) o''
structure DvI (o : Os) : Prop where
 wf : WfO o
 pd : o.pre ≤ o.done
 md : o.mine ≤ o.done
 bl : ∀ d ∈ o.held, d.b.length ≤ 1000000
theorem next_facts {o o' : Os} {m : Mg} (h : o.next = some (m, o')) : o.done < o.known ∧ ∃ x d, o.slots[o.done - o.pre]? = some x ∧ o.held.find? (fun d => decide (d.sl = x)) = some d ∧ m = ⟨o.done + 1, x.s, x.q, d.b⟩ ∧ o' = { o with done := o.done + 1, mine := if x.s = o.self then o.mine + 1 else o.mine } := by
 unfold Os.next at h
 split at h
 · rename_i hk
   split at h
   · cases h
   · rename_i x hx
     split at h
     · cases h
     · rename_i d hd
       cases h
       exact ⟨hk, x, d, hx, hd, rfl, rfl⟩
 · cases h
theorem next_some {o : Os} (hk : o.done < o.known) {x : Sl} {d : Dt} (hx : o.slots[o.done - o.pre]? = some x) (hd : o.held.find? (fun d => decide (d.sl = x)) = some d) : o.next = some (⟨o.done + 1, x.s, x.q, d.b⟩, { o with done := o.done + 1, mine := if x.s = o.self then o.mine + 1 else o.mine }) := by
 unfold Os.next
 rw [if_pos hk]
 simp only [hx, hd]
theorem next_done {o : Os} (hk : ¬ o.done < o.known) : o.next = none := by unfold Os.next; rw [if_neg hk]
theorem next_lack {o : Os} {x : Sl} (hx : o.slots[o.done - o.pre]? = some x) (hd : o.held.find? (fun d => decide (d.sl = x)) = none) : o.next = none := by
 unfold Os.next
 split
 · simp only [hx, hd]
 · rfl
theorem Dlv.done {o o' : Os} {ms : List Mg} (h : Dlv o ms o') : o'.done = o.done + ms.length := by
 induction h with
 | nil => rfl
 | snoc h hn ih =>
   obtain ⟨-, x, d, -, -, -, rfl⟩ := next_facts hn
   rw [List.length_append, ← Nat.add_assoc, ← ih]
   rfl
theorem Dlv.known {o o' : Os} {ms : List Mg} (h : Dlv o ms o') (hk : o.done ≤ o.known) : o'.known = o.known ∧ o'.done ≤ o'.known := by
 induction h with
 | nil => exact ⟨rfl, hk⟩
 | snoc h hn ih =>
   obtain ⟨h1, x, d, -, -, -, rfl⟩ := next_facts hn
   exact ⟨ih.1, h1⟩
theorem DvI.step {o : Os} (h : DvI o) (hk : o.done < o.known) (c : Nat) (hc : c ≤ o.mine + 1) : DvI { o with done := o.done + 1, mine := c } := by
 have h1 := h.wf.kn
 have h2 := h.md
 have h3 := h.pd
 exact ⟨⟨h.wf.m0, h.wf.m16, h.wf.mlt, h.wf.win, h.wf.self, h.wf.sl, h.wf.qu, h.wf.ql, h.wf.ke, h.wf.nd, h.wf.hq, h.wf.tk, h.wf.pl, h.wf.gn, h.wf.kn, by show o.done + 1 ≤ _; omega, by show c ≤ _; omega⟩, by show o.pre ≤ o.done + 1; omega, by show c ≤ o.done + 1; omega, h.bl⟩
theorem build83 (W : World) (a b c : Int) (A : Option Addr) (n m : Nat) : (Instr.build 82 #[(0, .int .i64 a), (1, .int .i64 b), (2, .int .i64 c), (3, .slice A n m)]).run Tryz.prog W = .ok (.agg #[.int .i64 a, .int .i64 b, .int .i64 c, .slice A n m]) W := by kernel_rfl
abbrev mgA (m : Mg) (A : Option Addr) (c n : Nat) : Array Value := #[.int .i64 m.p, .int .i64 m.s, .int .i64 m.q, .slice A n c]
section
variable {w w' : World} {K K' : Nat → Nat} {r b : Nat} {o : Os} {X : OsX}
set_option maxRecDepth 100000 in
set_option maxHeartbeats 8000000 in
theorem ready_any {lp lo : Nat} (o0 : Os) {J Jx : Os → List Mg → (Nat → Nat) → World → Prop} (hJ : ∀ o ms K W, J o ms K W → DvI o ∧ ∃ X, OrdAt W K r b o X)
   (hJl : ∀ o ms K W, J o ms K W → lo ≤ W.heap.size)
   (hJs : ∀ o ms K W, J o ms K W → ∀ o' X' K' W', DvI o' → OrdAt W' K' r b o' X' → Ro (inR r) K K' W W' → J o' ms K' W')
   (hY : ∀ o ms K W, J o ms K W → ∀ m B c n, Dlv o0 (ms ++ [m]) o → m.b.length = n → OwnO W K 0 1 eByte B c m.b → (∀ g, blk B = some g → lo ≤ g) → YieldAt Fence.wide 0 Tryz.prog lp #[.agg (mgA m B c n)] W fun e W' => ∃ t, e = .returned (.bool t) ∧ ∃ K', (t = true ∧ J o (ms ++ [m]) K' W') ∨ (t = false ∧ Jx o (ms ++ [m]) K' W'))
   (w : World) (h0 : J o0 [] K w) :
   Calls Tryz.prog 91 #[.pointer (some ⟨b, 0, none⟩), .func (.yield lp) #[] #[]] w fun e w' => (∃ v, e = .returned v) ∧ ∃ o' ms K', Dlv o0 ms o' ∧ ((J o' ms K' w' ∧ o'.next = none) ∨ Jx o' ms K' w') := by
 refine calls_vc tab_ok Tryz.func91 rfl ?_
 conv => whnf
 refine VLoop.mk (Os × List Mg × (Nat → Nat)) (fun _ => [(0, .pointer (some ⟨b, 0, none⟩)), (1, .func (.yield lp) #[] #[])]) (fun s W => Dlv o0 s.2.1 s.1 ∧ J s.1 s.2.1 s.2.2 W) (fun s => s.1.known - s.1.done) (o0, [], K) ⟨rfl, rfl, trivial⟩ ⟨.nil, h0⟩ ?_
 rintro ⟨o, ms, K1⟩ w1 ⟨hd, hj⟩
 dsimp only at hd hj ⊢
 obtain ⟨I, X, A⟩ := hJ _ _ _ _ hj
 have hjl := hJl _ _ _ _ hj
 have hbz := A.cs.hb
 have r0 := A.r0
 have hkn := I.wf.kn
 have hdn := I.wf.dn
 have L0 := A.l_done (l := [b]) (by simp)
 have hs1 : Sm [b] w1 w1.drew := fun _ _ => rfl
 repeat ((conv => whnf); first | refine Xt ?_ | refine Xq ?_ | refine Xn ?_ | refine Xj ?_ | refine Xo ?_); try (conv => whnf)
 refine VDraw.pl 1000 (.one [0, 1, 2, 3, 4] 5 (.stop [6])) (Sm [b] w1) (by kernel_rfl) (hs1) ?_
 repeat ((conv => whnf); first | refine Xl L0 ?_ | refine Xt ?_ | refine Xq ?_ | refine Xn ?_ | refine Xj ?_ | refine Xo ?_); try (conv => whnf)
 have A1 := A.below (Below.refl _ w1).drew
 refine VCall.mk _ (known_any A1 (by omega)) ?_
 rintro _ w2 ⟨rfl, b2⟩
 refine ⟨_, rfl, ?_⟩
 have c2 : Below w1.heap.size w1 w2 := Below.trans (Below.refl _ w1).drew b2
 have hs2 : Sm [b] w1 w2 := .below c2 fun y hy => by rw [List.mem_singleton.1 hy]; omega
 have A2 := A.below c2
 have q2 : Ro (inR r) K1 K1 w1 w2 := .below c2
 have j2 : J o ms K1 w2 := hJs _ _ _ _ hj _ _ _ _ I A2 q2
 clear A1
 by_cases hk : o.done < o.known
 case neg =>
   repeat ((conv => whnf); first | (refine VS.mk hs2 ?_) | refine Xl L0 ?_ | refine Xt ?_ | refine Xq ?_ | refine Xn ?_ | refine Xj ?_ | refine Xo ?_); try (conv => whnf)
   exact .mk ⟨⟨_, rfl⟩, o, ms, K1, hd, .inl ⟨j2, next_done hk⟩⟩
 obtain ⟨x, hx⟩ : ∃ x, o.slots[o.done - o.pre]? = some x := ⟨_, List.getElem?_eq_getElem (by unfold Os.known at hk; have := I.pd; omega)⟩
 have hxl := (List.getElem?_eq_some_iff.1 hx).1
 have hpd := I.pd
 obtain ⟨hx1, hx2⟩ := I.wf.sl x (List.mem_of_getElem? hx)
 obtain ⟨sb, so, hsA, sz, scell⟩ := A2.rs.s.row (by omega)
 obtain ⟨k, hkd⟩ : ∃ k, k = o.done - o.pre := ⟨_, rfl⟩
 rw [← hkd] at hx hxl
 have M0 := A2.l_slots (l := [b, sb]) (by simp)
 have M1 := A2.l_done (l := [b, sb]) (by simp)
 have M2 := A2.l_pre (l := [b, sb]) (by simp)
 rw [hsA] at M0
 have M3 : Ld Tryz.prog 46 sb (so + mulO k 2) (Sm [b, sb] w2) (kSl x) := ⟨fun W' hW => load78 fun j u hu => (World.cell?_of_block (a := ⟨sb, _, none⟩) (hW sb (by simp))).trans (scell k x hx j u hu)⟩
 have hs3 : Sm [b, sb] w2 w2.drew := fun _ _ => rfl
 repeat ((conv => whnf); first | (refine VS.mk hs2 ?_) | refine Xl L0 ?_ | refine Xt ?_ | refine Xq ?_ | refine Xn ?_ | refine Xj ?_ | refine Xo ?_); try (conv => whnf)
 refine VDraw.pl 1000 (.one [0, 1, 2, 3, 4, 5, 6, 7, 8, 9, 10, 11, 12, 13, 14] 15 (.one [] 16 (.stop []))) (Sm [b, sb] w2) (by kernel_rfl) (hs3) ?_
 repeat ((conv => whnf); first | refine Xl M0 ?_ | refine Xl M1 ?_ | refine Xl M2 ?_ | (refine VIdx.mk k (by omega) (by omega) ?_) | refine Xl M3 ?_ | refine Xt ?_ | refine Xq ?_ | refine Xn ?_ | refine Xj ?_ | refine Xo ?_); try (conv => whnf)
 have hin : ∀ y ∈ [b, sb], y < w2.heap.size := fun y hy => by
   simp only [List.mem_cons, List.not_mem_nil, or_false] at hy
   rcases hy with rfl | rfl
   · exact A2.cs.hb
   · exact sz
 refine .mk _ run_zero78 ?_
 conv => whnf
 refine .mk fun u3 hu3 => ?_
 have hs3u : Sm [b, sb] w2 u3 := by rw [hu3.out]; exact .below ((Below.refl _ w2).drew.trans ((Below.refl _ w2.drew).alloc (Nat.le_refl _) _)) hin
 repeat ((conv => whnf); first | (refine VS.mk hs3u ?_) | refine Xt ?_ | refine Xq ?_ | refine Xn ?_ | refine Xj ?_ | refine Xo ?_); try (conv => whnf)
 refine VStore.new (c' := #[.int .i64 x.s, .int .i64 x.q]) hu3 (by kernel_rfl) rfl (one_sl x) fun w3 hw3 => ?_
 have c3 : Below w2.heap.size w2 w3 := by rw [hw3.out]; exact (Below.refl _ w2).drew.trans ((Below.refl _ w2.drew).alloc (Nat.le_refl _) _)
 have z3 : w3.heap.size = w2.heap.size + 1 := by rw [hw3.out]; exact World.size_alloc _ _
 obtain ⟨x4, hx4⟩ : ∃ x4, x4 = w2.drew.heap.size := ⟨_, rfl⟩
 have hx4' : x4 = w2.heap.size := hx4
 have r3 : w3.rangeAt x4 0 (eSl x) := by rw [hw3.out, hx4]; exact range_new w2.drew _ 46
 rw [← hx4]
 have hs3w : Sm [b, sb] w2 w3 := .below c3 hin
 clear hu3 hw3 hs3u u3
 have A3 := A2.below c3
 have q3 : Ro (inR r) K1 K1 w1 w3 := q2.trans (.below c3)
 have hbz3 := A3.cs.hb
 have hmb := A3.rs.map.lt
 have N0 := A3.l_held (l := [b, x4, X.hb]) (by simp)
 have N1 : Ld Tryz.prog 46 x4 0 (Sm [b, x4, X.hb] w3) (kSl x) := ⟨fun W' hW => load78 (range_same r3 (hW x4 (by simp)))⟩
 have hs4 : Sm [b, x4, X.hb] w3 w3.drew := fun _ _ => rfl
 repeat ((conv => whnf); first | (refine VS.mk hs3w ?_) | refine Xt ?_ | refine Xq ?_ | refine Xn ?_ | refine Xj ?_ | refine Xo ?_); try (conv => whnf)
 refine VDraw.pl 1000 (.two [0, 1, 2, 3, 4] 5 (.one [6, 7, 8] 9 (.one [] 10 (.stop [11]))) 9 (.one [] 5 (.one [6, 7, 8] 10 (.stop [11])))) (Sm [b, x4, X.hb] w3) (by kernel_rfl) (hs4) ?_
 repeat ((conv => whnf); first | refine Xl N0 ?_ | refine Xl N1 ?_ | refine Xt ?_ | refine Xq ?_ | refine Xn ?_ | refine Xj ?_ | refine Xo ?_); try (conv => whnf)
 obtain ⟨dd, DA, dc, dn, t, hlook, ht1, ht0⟩ : ∃ dd DA dc dn t, (∀ W : World, W.heap[X.hb]? = w3.heap[X.hb]? → (Instr.lookup 113 (.map (some X.hb)) (kSl x) true).run Tryz.prog W = .ok (.tuple #[.agg (dtA dd DA dc dn), .bool t]) W) ∧ (t = true → o.held.find? (fun d => decide (d.sl = x)) = some dd ∧ dd.b.length = dn ∧ RowB w3 K1 (r + 4) 1 eByte DA dd.b) ∧ (t = false → o.held.find? (fun d => decide (d.sl = x)) = none) := by
   have hfm : o.held.find? (fun d => decide (d.sl = x)) = (X.hl.find? (fun y => decide (y.d.sl = x))).map (·.d) := by rw [← A3.rs.hd, List.find?_map]; rfl
   have hkeys : Keys X.hl := fun y hy => by
     have := I.wf.ke y.d (by rw [← A3.rs.hd]; exact List.mem_map_of_mem hy)
     exact ⟨by omega, by omega⟩
   have hnd : (X.hl.map (·.d.sl)).Nodup := by
     have := I.wf.nd
     rw [← A3.rs.hd, List.map_map] at this
     exact this
   have hl := fun (W : World) (hW : W.heap[X.hb]? = w3.heap[X.hb]?) => (A3.rs.map.same hW).look hkeys hnd (x := x) (by omega) (by omega) (run_zero71 W)
   cases hf : X.hl.find? (fun y => decide (y.d.sl = x)) with
   | none =>
     rw [hf] at hl hfm
     exact ⟨dt0, none, 0, 0, false, hl, (fun e => (by cases e)), fun _ => hfm⟩
   | some y =>
     rw [hf] at hl hfm
     exact ⟨y.d, y.A, y.c, _, true, hl, fun _ => ⟨hfm, rfl, A3.rs.bod y (List.mem_of_find?_eq_some hf)⟩, fun e => by cases e⟩
 have hin4 : ∀ y ∈ [b, x4, X.hb], y < w3.heap.size := fun y hy => by
   simp only [List.mem_cons, List.not_mem_nil, or_false] at hy
   rcases hy with rfl | rfl | rfl <;> omega
 refine ⟨?_, ?_⟩
 · skip
   repeat ((conv => whnf); first | refine Xt ?_ | refine Xq ?_ | refine Xn ?_ | refine Xj ?_ | refine Xo ?_); try (conv => whnf)
   refine VW.run (v := .tuple #[.agg (dtA dd DA dc dn), .bool t]) (w' := w3.drew) (fun a ha => ?_) ?_
   · have h3 := ha (.tmp 33) _ rfl
     have h4 := ha (.tmp 34) _ rfl
     simp only [execOp, h3, h4, Sem.run_bind, Sem.run_pure, Result.andThen_ok, hlook w3.drew rfl]
   repeat ((conv => whnf); first | (refine VS.mk hs4 ?_) | refine Xt ?_ | refine Xq ?_ | refine Xn ?_ | refine Xj ?_ | refine Xo ?_); try (conv => whnf)
   refine .mk _ run_zero71 ?_
   conv => whnf
   refine .mk fun u5 hu5 => ?_
   have hs5u : Sm [b, x4, X.hb] w3 u5 := by rw [hu5.out]; exact .below ((Below.refl _ w3).drew.trans ((Below.refl _ w3.drew).alloc (Nat.le_refl _) _)) hin4
   repeat ((conv => whnf); first | (refine VS.mk hs5u ?_) | refine Xt ?_ | refine Xq ?_ | refine Xn ?_ | refine Xj ?_ | refine Xo ?_); try (conv => whnf)
   refine VStore.new (c' := dtA dd DA dc dn) hu5 (by kernel_rfl) rfl (one_dtA _ _ _ _) fun w5 hw5 => ?_
   have c5 : Below w3.heap.size w3 w5 := by rw [hw5.out]; exact (Below.refl _ w3).drew.trans ((Below.refl _ w3.drew).alloc (Nat.le_refl _) _)
   have z5 : w5.heap.size = w3.heap.size + 1 := by rw [hw5.out]; exact World.size_alloc _ _
   obtain ⟨x5, hx5⟩ : ∃ x5, x5 = w3.drew.heap.size := ⟨_, rfl⟩
   have hx5' : x5 = w3.heap.size := hx5
   have r5 : w5.rangeAt x5 0 (dtA dd DA dc dn).toList := by rw [hw5.out, hx5]; exact range_new w3.drew _ 44
   rw [← hx5]
   have hs5 : Sm [b, x4, X.hb] w3 w5 := .below c5 hin4
   clear hu5 hw5 hs5u u5
   repeat ((conv => whnf); first | (refine VS.mk hs5 ?_) | refine Xt ?_ | refine Xq ?_ | refine Xn ?_ | refine Xj ?_ | refine Xo ?_); try (conv => whnf)
   have A5 := A3.below c5
   have q5 : Ro (inR r) K1 K1 w1 w5 := q3.trans (.below c5)
   have j5 : J o ms K1 w5 := hJs _ _ _ _ hj _ _ _ _ I A5 q5
   cases t with
   | false =>
     repeat ((conv => whnf); first | (refine VS.mk hs5 ?_) | refine Xt ?_ | refine Xq ?_ | refine Xn ?_ | refine Xj ?_ | refine Xo ?_); try (conv => whnf)
     exact .mk ⟨⟨_, rfl⟩, o, ms, K1, hd, .inl ⟨j5, next_lack (hkd ▸ hx) (ht0 rfl)⟩⟩
   | true =>
     obtain ⟨hfd, hdl, hrow⟩ := ht1 rfl
     have hdb := I.bl dd (List.mem_of_find?_eq_some hfd)
     have hmd := I.md
     have k4 : K1 x4 = 0 := A2.kz _ (by omega)
     have k5 : K1 x5 = 0 := A3.kz _ (by omega)
     have P0 := A5.l_done (l := [b]) (by simp)
     repeat ((conv => whnf); first | (refine VS.mk hs5 ?_) | refine Xl (P0.at (Sm.refl _ _)) ?_ | refine Xt ?_ | refine Xq ?_ | refine Xn ?_ | refine Xj ?_ | refine Xo ?_); try (conv => whnf)
     have cp := A5.cs.cell 92 (by omega)
     refine VStore.cell (by kernel_rfl) (by rw [show addO 0 92 = 92 from rfl, cp.1]; rfl) cp.2 rfl rfl fun w6 hw6 => ?_
     obtain ⟨A6, q6⟩ := A5.s_done (o.done + 1) (show addO 0 92 = 92 from rfl) hw6.out
     have z6 := q6.size
     have h46 : w6.heap[x4]? = w3.heap[x4]? := (q6.same x4 (by omega) (by omega)).trans (c5.block x4 (by omega))
     have h56 : w6.heap[x5]? = w5.heap[x5]? := q6.same x5 (by omega) (by omega)
     have R0 : Ld Tryz.prog 3 b 5 (Sm [b, x4] w6) (.int .i64 o.self) := A6.l_self (by simp)
     have R1 : Ld Tryz.prog 3 x4 0 (Sm [b, x4] w6) (.int .i64 x.s) := ⟨fun W' hW => load3 ((World.cell?_of_block (a := ⟨x4, 0, none⟩) ((hW _ (by simp)).trans h46)).trans (r3 0 _ rfl))⟩
     have hs6 : Sm [b, x4] w6 w6.drew := fun _ _ => rfl
     repeat ((conv => whnf); first | refine Xt ?_ | refine Xq ?_ | refine Xn ?_ | refine Xj ?_ | refine Xo ?_); try (conv => whnf)
     refine VDraw.pl 1000 (.stop [0, 1, 2, 3, 4, 5, 6]) (Sm [b, x4] w6) (by kernel_rfl) (hs6) ?_
     have q6' : Ro (inR r) K1 K1 w1 w6 := q5.trans (q6.more fun y hy => by unfold inR; omega)
     have A6d := A6.below (Below.refl _ w6).drew
     by_cases hself : x.s = o.self
     · skip
       repeat ((conv => whnf); first | refine Xl R0 ?_ | refine Xl R1 ?_ | refine Xt ?_ | refine Xq ?_ | refine Xn ?_ | refine Xj ?_ | refine Xo ?_); try (conv => whnf)
       have R2 : Ld Tryz.prog 3 b 93 (Sm [b] w6.drew) (.int .i64 o.mine) := A6d.l_mine (by simp)
       repeat ((conv => whnf); first | refine Xl (R2.at (Sm.refl _ _)) ?_ | refine Xt ?_ | refine Xq ?_ | refine Xn ?_ | refine Xj ?_ | refine Xo ?_); try (conv => whnf)
       have cp7 := A6d.cs.cell 93 (by omega)
       refine VStore.cell (by kernel_rfl) (by rw [show addO 0 93 = 93 from rfl, cp7.1]; rfl) cp7.2 rfl rfl fun w7 hw7 => ?_
       obtain ⟨A7, q7⟩ := A6d.s_mine (o.mine + 1) (show addO 0 93 = 93 from rfl) hw7.out
       have z7 : w6.heap.size ≤ w7.heap.size := q7.size
       have q7' : Ro (inR r) K1 K1 w1 w7 := q6'.drew.trans (q7.more fun y hy => by unfold inR; omega)
       have h47 : w7.heap[x4]? = w3.heap[x4]? := (q7.same x4 (show x4 < w6.heap.size by omega) (by omega)).trans h46
       have h57 : w7.heap[x5]? = w5.heap[x5]? := (q7.same x5 (show x5 < w6.heap.size by omega) (by omega)).trans h56
       have hnext : o.next = some (⟨o.done + 1, x.s, x.q, dd.b⟩, { o with done := o.done + 1, mine := o.mine + 1 }) := by rw [next_some hk (hkd ▸ hx) hfd, if_pos hself]
       have I7 : DvI { o with done := o.done + 1, mine := o.mine + 1 } := I.step hk _ (Nat.le_refl _)
       have q57 : Ro (inR r) K1 K1 w5 w7 := (q6.more (R' := inR r) fun y hy => by unfold inR; omega).drew.trans (q7.more fun y hy => by unfold inR; omega)
       have hrow7 : RowB w7 K1 (r + 4) 1 eByte DA dd.b := (hrow.ro (Ro.below (R := inR r) c5) (by unfold inR; omega)).ro q57 (by unfold inR; omega)
       generalize ho7 : ({ o with done := o.done + 1, mine := o.mine + 1 } : Os) = o7 at A7 hnext I7
       obtain ⟨hd7, hk7⟩ : o7.done = o.done + 1 ∧ o7.known = o.known := by rw [← ho7]; exact ⟨rfl, rfl⟩
       clear ho7
       repeat ((conv => whnf); first | refine Xt ?_ | refine Xq ?_ | refine Xn ?_ | refine Xj ?_ | refine Xo ?_); try (conv => whnf)
       obtain ⟨m, hm⟩ : ∃ m : Mg, m = ⟨o.done + 1, x.s, x.q, dd.b⟩ := ⟨_, rfl⟩
       rw [← hm] at hnext
       have V0 : Ld Tryz.prog 3 b 92 (Sm [b, x4, x5] w7) (.int .i64 o7.done) := A7.l_done (by simp)
       have V1 : Ld Tryz.prog 3 x4 0 (Sm [b, x4, x5] w7) (.int .i64 x.s) := ⟨fun W' hW => load3 ((World.cell?_of_block (a := ⟨x4, 0, none⟩) ((hW _ (by simp)).trans h47)).trans (r3 0 _ rfl))⟩
       have V2 : Ld Tryz.prog 3 x4 1 (Sm [b, x4, x5] w7) (.int .i64 x.q) := ⟨fun W' hW => load3 ((World.cell?_of_block (a := ⟨x4, 1, none⟩) ((hW _ (by simp)).trans h47)).trans (r3 1 _ rfl))⟩
       have V3 : Ld Tryz.prog 42 x5 3 (Sm [b, x4, x5] w7) (.slice DA dn dc) := ⟨fun W' hW => load27 ((World.cell?_of_block (a := ⟨x5, 3, none⟩) ((hW _ (by simp)).trans h57)).trans (r5 3 _ rfl))⟩
       have hs7 : Sm [b, x4, x5] w7 w7.drew := fun _ _ => rfl
       have hin7 : ∀ y ∈ [b, x4, x5], y < w7.heap.size := fun y hy => by
         simp only [List.mem_cons, List.not_mem_nil, or_false] at hy
         rcases hy with rfl | rfl | rfl <;> omega
       refine VDraw.esc fun Df a id Q hr hkk => wp_region_M 13 2 #[true, true, true, true, true, true, true, true, true, true, true, true, true, false, false] (.one [0, 1, 2, 3, 4, 5, 6, 7, 8, 9, 10] 11 (.stop [12])) (Sm [b, x4, x5] w7) (tab_of tab_ok).mo (by kernel_rfl) hs7 (K := fun a' w' => ∃ fr', RepE Df _ fr' a' ∧ (aget fr' 61 = some (.func (.yield lp) #[] #[]) ∧ ∃ B cB, aget fr' 73 = some (.agg (mgA m B cB dn)) ∧ Below w7.heap.size w7 w' ∧ (OwnO w' K1 0 1 eByte B cB dd.b ∧ ∀ g, blk B = some g → w7.heap.size ≤ g) ∧ aget fr' 0 = some (.pointer (some ⟨b, 0, none⟩)) ∧ aget fr' 1 = some (.func (.yield lp) #[] #[]))) (vcPl_ok (tab_of tab_ok) (K := fun fr' w' => aget fr' 61 = some (.func (.yield lp) #[] #[]) ∧ ∃ B cB, aget fr' 73 = some (.agg (mgA m B cB dn)) ∧ Below w7.heap.size w7 w' ∧ (OwnO w' K1 0 1 eByte B cB dd.b ∧ ∀ g, blk B = some g → w7.heap.size ≤ g) ∧ aget fr' 0 = some (.pointer (some ⟨b, 0, none⟩)) ∧ aget fr' 1 = some (.func (.yield lp) #[] #[])) (fun fr' a' w' hr' hk' => ⟨rfl, fr', hr', hk'⟩) _ (by kernel_rfl) ?_ hr) ?_
       · skip
         repeat ((conv => whnf); first | refine Xl V0 ?_ | refine Xl V1 ?_ | refine Xl V2 ?_ | refine Xl V3 ?_ | refine Xt ?_ | refine Xq ?_ | refine Xn ?_ | refine Xj ?_ | refine Xo ?_); try (conv => whnf)
         refine VApp.rows w7.heap.size 1 1 _ Tryz.underlying42 info5 rfl (by decide) eByte (fun _ => rfl) one_eByte [] dd.b rfl hdl (owns_nil _ _ _ _ _) (N := w7.heap.size) (fun hl => (by obtain ⟨g, off, e, g1, -, g3⟩ := hrow7 hl; exact ⟨g, off, e, g1, g3⟩)) (by omega) (by omega) (Nat.le_refl _) fun B' cB' w8 oB hg8 _ => ?_
         rw [Nat.zero_add]
         rw [List.nil_append] at oB
         have c8 : Below w7.heap.size w7 w8 := Below.trans (Below.refl _ w7).drew ((Below.refl _ w7.drew).grown hg8 (Nat.le_refl _) fun k hk => by cases hk)
         have hs8 : Sm [b, x4, x5] w7 w8 := .below c8 hin7
         have hrow8 : OwnO w8 K1 0 1 eByte B' cB' dd.b := (NewO.owns oB fun _ => rfl).own fun g hg => A7.kz g (oB.lo g hg).1
         repeat ((conv => whnf); first | (refine VS.mk hs8 ?_) | refine Xt ?_ | refine Xq ?_ | refine Xn ?_ | refine Xj ?_ | refine Xo ?_); try (conv => whnf)
         refine VBuild.mk (.agg (mgA m B' cB' dn)) (fun W' => by rw [build83 W' o7.done x.s x.q B' dn cB', hm, hd7]) ?_
         repeat ((conv => whnf); first | refine Xt ?_ | refine Xq ?_ | refine Xn ?_ | refine Xj ?_ | refine Xo ?_); try (conv => whnf)
         exact ⟨rfl, B', cB', rfl, c8, ⟨hrow8, fun g hg => (oB.lo g hg).1⟩, rfl, rfl⟩
       · rintro a' w' ⟨fr', hr', h61, B, cB, h73, hb7, ⟨hrow', hlo'⟩, hf0, hf1⟩
         have jw : J o7 ms K1 w' := hJs _ _ _ _ hj _ X K1 w' I7 (A7.below hb7) (q7'.trans (.below hb7))
         obtain ⟨fn, tmps, assign, body, hy, hR⟩ := hY _ _ _ _ jw m B cB dn (.snoc hd hnext) (by rw [hm]; exact hdl) (by rw [hm]; exact hrow') fun g hg => Nat.le_trans hjl (Nat.le_trans q7'.size (hlo' g hg))
         refine yield_tail tab_ok (d1 := 74) (d2 := 75) (f := 61) (x := 73) (lp := lp) (z := 13) (by kernel_rfl) (by kernel_rfl) (by kernel_rfl) rfl rfl rfl rfl rfl rfl (by kernel_rfl) rfl rfl rfl rfl (by kernel_rfl) (by kernel_rfl) hr' h61 h73 ⟨fn, tmps, assign, body, hy, hR.mono ?_⟩
         rintro e W ⟨t, he, K', hh⟩
         refine ⟨t, he, fun a2 hr2 => hkk _ a2 W hr2 ?_⟩
         rcases hh with ⟨rfl, hh⟩ | ⟨rfl, hh⟩
         · conv => whnf
           exact .mk (o7, ms ++ [m], K') ⟨hf0, hf1, trivial⟩ ⟨.snoc hd hnext, hh⟩ (by show o7.known - o7.done < o.known - o.done; omega)
         · conv => whnf
           exact .mk ⟨⟨_, rfl⟩, o7, ms ++ [m], K', .snoc hd hnext, .inr hh⟩
     · skip
       repeat ((conv => whnf); first | refine Xl R0 ?_ | refine Xl R1 ?_ | refine Xt ?_ | refine Xq ?_ | refine Xn ?_ | refine Xj ?_ | refine Xo ?_); try (conv => whnf)
       obtain ⟨w7, hw7⟩ : ∃ w7, w7 = w6.drew := ⟨_, rfl⟩
       have A7 : OrdAt w7 K1 r b { o with done := o.done + 1 } X := by rw [hw7]; exact A6d
       have z7 : w6.heap.size ≤ w7.heap.size := by rw [hw7]; exact Nat.le_refl _
       have q7' : Ro (inR r) K1 K1 w1 w7 := by rw [hw7]; exact q6'.drew
       have h47 : w7.heap[x4]? = w3.heap[x4]? := by rw [hw7]; exact h46
       have h57 : w7.heap[x5]? = w5.heap[x5]? := by rw [hw7]; exact h56
       have hnext : o.next = some (⟨o.done + 1, x.s, x.q, dd.b⟩, { o with done := o.done + 1, mine := o.mine }) := by rw [next_some hk (hkd ▸ hx) hfd, if_neg hself]
       have I7 : DvI { o with done := o.done + 1, mine := o.mine } := I.step hk _ (by omega)
       have q57 : Ro (inR r) K1 K1 w5 w7 := by rw [hw7]; exact (q6.more (R' := inR r) fun y hy => by unfold inR; omega).drew
       have hrow7 : RowB w7 K1 (r + 4) 1 eByte DA dd.b := (hrow.ro (Ro.below (R := inR r) c5) (by unfold inR; omega)).ro q57 (by unfold inR; omega)
       rw [← hw7]
       clear hw7
       generalize ho7 : ({ o with done := o.done + 1 } : Os) = o7 at A7 hnext I7
       obtain ⟨hd7, hk7⟩ : o7.done = o.done + 1 ∧ o7.known = o.known := by rw [← ho7]; exact ⟨rfl, rfl⟩
       clear ho7
       repeat ((conv => whnf); first | refine Xt ?_ | refine Xq ?_ | refine Xn ?_ | refine Xj ?_ | refine Xo ?_); try (conv => whnf)
       obtain ⟨m, hm⟩ : ∃ m : Mg, m = ⟨o.done + 1, x.s, x.q, dd.b⟩ := ⟨_, rfl⟩
       rw [← hm] at hnext
       have V0 : Ld Tryz.prog 3 b 92 (Sm [b, x4, x5] w7) (.int .i64 o7.done) := A7.l_done (by simp)
       have V1 : Ld Tryz.prog 3 x4 0 (Sm [b, x4, x5] w7) (.int .i64 x.s) := ⟨fun W' hW => load3 ((World.cell?_of_block (a := ⟨x4, 0, none⟩) ((hW _ (by simp)).trans h47)).trans (r3 0 _ rfl))⟩
       have V2 : Ld Tryz.prog 3 x4 1 (Sm [b, x4, x5] w7) (.int .i64 x.q) := ⟨fun W' hW => load3 ((World.cell?_of_block (a := ⟨x4, 1, none⟩) ((hW _ (by simp)).trans h47)).trans (r3 1 _ rfl))⟩
       have V3 : Ld Tryz.prog 42 x5 3 (Sm [b, x4, x5] w7) (.slice DA dn dc) := ⟨fun W' hW => load27 ((World.cell?_of_block (a := ⟨x5, 3, none⟩) ((hW _ (by simp)).trans h57)).trans (r5 3 _ rfl))⟩
       have hs7 : Sm [b, x4, x5] w7 w7.drew := fun _ _ => rfl
       have hin7 : ∀ y ∈ [b, x4, x5], y < w7.heap.size := fun y hy => by
         simp only [List.mem_cons, List.not_mem_nil, or_false] at hy
         rcases hy with rfl | rfl | rfl <;> omega
       refine VDraw.esc fun Df a id Q hr hkk => wp_region_M 13 2 #[true, true, true, true, true, true, true, true, true, true, true, true, true, false, false] (.one [0, 1, 2, 3, 4, 5, 6, 7, 8, 9, 10] 11 (.stop [12])) (Sm [b, x4, x5] w7) (tab_of tab_ok).mo (by kernel_rfl) hs7 (K := fun a' w' => ∃ fr', RepE Df _ fr' a' ∧ (aget fr' 61 = some (.func (.yield lp) #[] #[]) ∧ ∃ B cB, aget fr' 73 = some (.agg (mgA m B cB dn)) ∧ Below w7.heap.size w7 w' ∧ (OwnO w' K1 0 1 eByte B cB dd.b ∧ ∀ g, blk B = some g → w7.heap.size ≤ g) ∧ aget fr' 0 = some (.pointer (some ⟨b, 0, none⟩)) ∧ aget fr' 1 = some (.func (.yield lp) #[] #[]))) (vcPl_ok (tab_of tab_ok) (K := fun fr' w' => aget fr' 61 = some (.func (.yield lp) #[] #[]) ∧ ∃ B cB, aget fr' 73 = some (.agg (mgA m B cB dn)) ∧ Below w7.heap.size w7 w' ∧ (OwnO w' K1 0 1 eByte B cB dd.b ∧ ∀ g, blk B = some g → w7.heap.size ≤ g) ∧ aget fr' 0 = some (.pointer (some ⟨b, 0, none⟩)) ∧ aget fr' 1 = some (.func (.yield lp) #[] #[])) (fun fr' a' w' hr' hk' => ⟨rfl, fr', hr', hk'⟩) _ (by kernel_rfl) ?_ hr) ?_
       · skip
         repeat ((conv => whnf); first | refine Xl V0 ?_ | refine Xl V1 ?_ | refine Xl V2 ?_ | refine Xl V3 ?_ | refine Xt ?_ | refine Xq ?_ | refine Xn ?_ | refine Xj ?_ | refine Xo ?_); try (conv => whnf)
         refine VApp.rows w7.heap.size 1 1 _ Tryz.underlying42 info5 rfl (by decide) eByte (fun _ => rfl) one_eByte [] dd.b rfl hdl (owns_nil _ _ _ _ _) (N := w7.heap.size) (fun hl => (by obtain ⟨g, off, e, g1, -, g3⟩ := hrow7 hl; exact ⟨g, off, e, g1, g3⟩)) (by omega) (by omega) (Nat.le_refl _) fun B' cB' w8 oB hg8 _ => ?_
         rw [Nat.zero_add]
         rw [List.nil_append] at oB
         have c8 : Below w7.heap.size w7 w8 := Below.trans (Below.refl _ w7).drew ((Below.refl _ w7.drew).grown hg8 (Nat.le_refl _) fun k hk => by cases hk)
         have hs8 : Sm [b, x4, x5] w7 w8 := .below c8 hin7
         have hrow8 : OwnO w8 K1 0 1 eByte B' cB' dd.b := (NewO.owns oB fun _ => rfl).own fun g hg => A7.kz g (oB.lo g hg).1
         repeat ((conv => whnf); first | (refine VS.mk hs8 ?_) | refine Xt ?_ | refine Xq ?_ | refine Xn ?_ | refine Xj ?_ | refine Xo ?_); try (conv => whnf)
         refine VBuild.mk (.agg (mgA m B' cB' dn)) (fun W' => by rw [build83 W' o7.done x.s x.q B' dn cB', hm, hd7]) ?_
         repeat ((conv => whnf); first | refine Xt ?_ | refine Xq ?_ | refine Xn ?_ | refine Xj ?_ | refine Xo ?_); try (conv => whnf)
         exact ⟨rfl, B', cB', rfl, c8, ⟨hrow8, fun g hg => (oB.lo g hg).1⟩, rfl, rfl⟩
       · rintro a' w' ⟨fr', hr', h61, B, cB, h73, hb7, ⟨hrow', hlo'⟩, hf0, hf1⟩
         have jw : J o7 ms K1 w' := hJs _ _ _ _ hj _ X K1 w' I7 (A7.below hb7) (q7'.trans (.below hb7))
         obtain ⟨fn, tmps, assign, body, hy, hR⟩ := hY _ _ _ _ jw m B cB dn (.snoc hd hnext) (by rw [hm]; exact hdl) (by rw [hm]; exact hrow') fun g hg => Nat.le_trans hjl (Nat.le_trans q7'.size (hlo' g hg))
         refine yield_tail tab_ok (d1 := 74) (d2 := 75) (f := 61) (x := 73) (lp := lp) (z := 13) (by kernel_rfl) (by kernel_rfl) (by kernel_rfl) rfl rfl rfl rfl rfl rfl (by kernel_rfl) rfl rfl rfl rfl (by kernel_rfl) (by kernel_rfl) hr' h61 h73 ⟨fn, tmps, assign, body, hy, hR.mono ?_⟩
         rintro e W ⟨t, he, K', hh⟩
         refine ⟨t, he, fun a2 hr2 => hkk _ a2 W hr2 ?_⟩
         rcases hh with ⟨rfl, hh⟩ | ⟨rfl, hh⟩
         · conv => whnf
           exact .mk (o7, ms ++ [m], K') ⟨hf0, hf1, trivial⟩ ⟨.snoc hd hnext, hh⟩ (by show o7.known - o7.done < o.known - o.done; omega)
         · conv => whnf
           exact .mk ⟨⟨_, rfl⟩, o7, ms ++ [m], K', .snoc hd hnext, .inr hh⟩
 · skip
   repeat ((conv => whnf); first | refine Xt ?_ | refine Xq ?_ | refine Xn ?_ | refine Xj ?_ | refine Xo ?_); try (conv => whnf)
   refine .mk _ run_zero71 ?_
   conv => whnf
   refine .mk fun u5 hu5 => ?_
   have hs5u : Sm [b, x4, X.hb] w3 u5 := by rw [hu5.out]; exact .below ((Below.refl _ w3).drew.trans ((Below.refl _ w3.drew).alloc (Nat.le_refl _) _)) hin4
   repeat ((conv => whnf); first | (refine VS.mk hs5u ?_) | refine Xt ?_ | refine Xq ?_ | refine Xn ?_ | refine Xj ?_ | refine Xo ?_); try (conv => whnf)
   refine VW.run (v := .tuple #[.agg (dtA dd DA dc dn), .bool t]) (w' := u5) (fun a ha => ?_) ?_
   · have h3 := ha (.tmp 33) _ rfl
     have h4 := ha (.tmp 34) _ rfl
     simp only [execOp, h3, h4, Sem.run_bind, Sem.run_pure, Result.andThen_ok, hlook u5 (hs5u X.hb (by simp))]
   repeat ((conv => whnf); first | (refine VS.mk hs5u ?_) | refine Xt ?_ | refine Xq ?_ | refine Xn ?_ | refine Xj ?_ | refine Xo ?_); try (conv => whnf)
   refine VStore.new (c' := dtA dd DA dc dn) hu5 (by kernel_rfl) rfl (one_dtA _ _ _ _) fun w5 hw5 => ?_
   have c5 : Below w3.heap.size w3 w5 := by rw [hw5.out]; exact (Below.refl _ w3).drew.trans ((Below.refl _ w3.drew).alloc (Nat.le_refl _) _)
   have z5 : w5.heap.size = w3.heap.size + 1 := by rw [hw5.out]; exact World.size_alloc _ _
   obtain ⟨x5, hx5⟩ : ∃ x5, x5 = w3.drew.heap.size := ⟨_, rfl⟩
   have hx5' : x5 = w3.heap.size := hx5
   have r5 : w5.rangeAt x5 0 (dtA dd DA dc dn).toList := by rw [hw5.out, hx5]; exact range_new w3.drew _ 44
   rw [← hx5]
   have hs5 : Sm [b, x4, X.hb] w3 w5 := .below c5 hin4
   clear hu5 hw5 hs5u u5
   repeat ((conv => whnf); first | (refine VS.mk hs5 ?_) | refine Xt ?_ | refine Xq ?_ | refine Xn ?_ | refine Xj ?_ | refine Xo ?_); try (conv => whnf)
   have A5 := A3.below c5
   have q5 : Ro (inR r) K1 K1 w1 w5 := q3.trans (.below c5)
   have j5 : J o ms K1 w5 := hJs _ _ _ _ hj _ _ _ _ I A5 q5
   cases t with
   | false =>
     repeat ((conv => whnf); first | (refine VS.mk hs5 ?_) | refine Xt ?_ | refine Xq ?_ | refine Xn ?_ | refine Xj ?_ | refine Xo ?_); try (conv => whnf)
     exact .mk ⟨⟨_, rfl⟩, o, ms, K1, hd, .inl ⟨j5, next_lack (hkd ▸ hx) (ht0 rfl)⟩⟩
   | true =>
     obtain ⟨hfd, hdl, hrow⟩ := ht1 rfl
     have hdb := I.bl dd (List.mem_of_find?_eq_some hfd)
     have hmd := I.md
     have k4 : K1 x4 = 0 := A2.kz _ (by omega)
     have k5 : K1 x5 = 0 := A3.kz _ (by omega)
     have P0 := A5.l_done (l := [b]) (by simp)
     repeat ((conv => whnf); first | (refine VS.mk hs5 ?_) | refine Xl (P0.at (Sm.refl _ _)) ?_ | refine Xt ?_ | refine Xq ?_ | refine Xn ?_ | refine Xj ?_ | refine Xo ?_); try (conv => whnf)
     have cp := A5.cs.cell 92 (by omega)
     refine VStore.cell (by kernel_rfl) (by rw [show addO 0 92 = 92 from rfl, cp.1]; rfl) cp.2 rfl rfl fun w6 hw6 => ?_
     obtain ⟨A6, q6⟩ := A5.s_done (o.done + 1) (show addO 0 92 = 92 from rfl) hw6.out
     have z6 := q6.size
     have h46 : w6.heap[x4]? = w3.heap[x4]? := (q6.same x4 (by omega) (by omega)).trans (c5.block x4 (by omega))
     have h56 : w6.heap[x5]? = w5.heap[x5]? := q6.same x5 (by omega) (by omega)
     have R0 : Ld Tryz.prog 3 b 5 (Sm [b, x4] w6) (.int .i64 o.self) := A6.l_self (by simp)
     have R1 : Ld Tryz.prog 3 x4 0 (Sm [b, x4] w6) (.int .i64 x.s) := ⟨fun W' hW => load3 ((World.cell?_of_block (a := ⟨x4, 0, none⟩) ((hW _ (by simp)).trans h46)).trans (r3 0 _ rfl))⟩
     have hs6 : Sm [b, x4] w6 w6.drew := fun _ _ => rfl
     repeat ((conv => whnf); first | refine Xt ?_ | refine Xq ?_ | refine Xn ?_ | refine Xj ?_ | refine Xo ?_); try (conv => whnf)
     refine VDraw.pl 1000 (.stop [0, 1, 2, 3, 4, 5, 6]) (Sm [b, x4] w6) (by kernel_rfl) (hs6) ?_
     have q6' : Ro (inR r) K1 K1 w1 w6 := q5.trans (q6.more fun y hy => by unfold inR; omega)
     have A6d := A6.below (Below.refl _ w6).drew
     by_cases hself : x.s = o.self
     · skip
       repeat ((conv => whnf); first | refine Xl R0 ?_ | refine Xl R1 ?_ | refine Xt ?_ | refine Xq ?_ | refine Xn ?_ | refine Xj ?_ | refine Xo ?_); try (conv => whnf)
       have R2 : Ld Tryz.prog 3 b 93 (Sm [b] w6.drew) (.int .i64 o.mine) := A6d.l_mine (by simp)
       repeat ((conv => whnf); first | refine Xl (R2.at (Sm.refl _ _)) ?_ | refine Xt ?_ | refine Xq ?_ | refine Xn ?_ | refine Xj ?_ | refine Xo ?_); try (conv => whnf)
       have cp7 := A6d.cs.cell 93 (by omega)
       refine VStore.cell (by kernel_rfl) (by rw [show addO 0 93 = 93 from rfl, cp7.1]; rfl) cp7.2 rfl rfl fun w7 hw7 => ?_
       obtain ⟨A7, q7⟩ := A6d.s_mine (o.mine + 1) (show addO 0 93 = 93 from rfl) hw7.out
       have z7 : w6.heap.size ≤ w7.heap.size := q7.size
       have q7' : Ro (inR r) K1 K1 w1 w7 := q6'.drew.trans (q7.more fun y hy => by unfold inR; omega)
       have h47 : w7.heap[x4]? = w3.heap[x4]? := (q7.same x4 (show x4 < w6.heap.size by omega) (by omega)).trans h46
       have h57 : w7.heap[x5]? = w5.heap[x5]? := (q7.same x5 (show x5 < w6.heap.size by omega) (by omega)).trans h56
       have hnext : o.next = some (⟨o.done + 1, x.s, x.q, dd.b⟩, { o with done := o.done + 1, mine := o.mine + 1 }) := by rw [next_some hk (hkd ▸ hx) hfd, if_pos hself]
       have I7 : DvI { o with done := o.done + 1, mine := o.mine + 1 } := I.step hk _ (Nat.le_refl _)
       have q57 : Ro (inR r) K1 K1 w5 w7 := (q6.more (R' := inR r) fun y hy => by unfold inR; omega).drew.trans (q7.more fun y hy => by unfold inR; omega)
       have hrow7 : RowB w7 K1 (r + 4) 1 eByte DA dd.b := (hrow.ro (Ro.below (R := inR r) c5) (by unfold inR; omega)).ro q57 (by unfold inR; omega)
       generalize ho7 : ({ o with done := o.done + 1, mine := o.mine + 1 } : Os) = o7 at A7 hnext I7
       obtain ⟨hd7, hk7⟩ : o7.done = o.done + 1 ∧ o7.known = o.known := by rw [← ho7]; exact ⟨rfl, rfl⟩
       clear ho7
       repeat ((conv => whnf); first | refine Xt ?_ | refine Xq ?_ | refine Xn ?_ | refine Xj ?_ | refine Xo ?_); try (conv => whnf)
       obtain ⟨m, hm⟩ : ∃ m : Mg, m = ⟨o.done + 1, x.s, x.q, dd.b⟩ := ⟨_, rfl⟩
       rw [← hm] at hnext
       have V0 : Ld Tryz.prog 3 b 92 (Sm [b, x4, x5] w7) (.int .i64 o7.done) := A7.l_done (by simp)
       have V1 : Ld Tryz.prog 3 x4 0 (Sm [b, x4, x5] w7) (.int .i64 x.s) := ⟨fun W' hW => load3 ((World.cell?_of_block (a := ⟨x4, 0, none⟩) ((hW _ (by simp)).trans h47)).trans (r3 0 _ rfl))⟩
       have V2 : Ld Tryz.prog 3 x4 1 (Sm [b, x4, x5] w7) (.int .i64 x.q) := ⟨fun W' hW => load3 ((World.cell?_of_block (a := ⟨x4, 1, none⟩) ((hW _ (by simp)).trans h47)).trans (r3 1 _ rfl))⟩
       have V3 : Ld Tryz.prog 42 x5 3 (Sm [b, x4, x5] w7) (.slice DA dn dc) := ⟨fun W' hW => load27 ((World.cell?_of_block (a := ⟨x5, 3, none⟩) ((hW _ (by simp)).trans h57)).trans (r5 3 _ rfl))⟩
       have hs7 : Sm [b, x4, x5] w7 w7.drew := fun _ _ => rfl
       have hin7 : ∀ y ∈ [b, x4, x5], y < w7.heap.size := fun y hy => by
         simp only [List.mem_cons, List.not_mem_nil, or_false] at hy
         rcases hy with rfl | rfl | rfl <;> omega
       refine VDraw.esc fun Df a id Q hr hkk => wp_region_M 13 2 #[true, true, true, true, true, true, true, true, true, true, true, true, true, false, false] (.one [0, 1, 2, 3, 4, 5, 6, 7, 8, 9, 10] 11 (.stop [12])) (Sm [b, x4, x5] w7) (tab_of tab_ok).mo (by kernel_rfl) hs7 (K := fun a' w' => ∃ fr', RepE Df _ fr' a' ∧ (aget fr' 61 = some (.func (.yield lp) #[] #[]) ∧ ∃ B cB, aget fr' 73 = some (.agg (mgA m B cB dn)) ∧ Below w7.heap.size w7 w' ∧ (OwnO w' K1 0 1 eByte B cB dd.b ∧ ∀ g, blk B = some g → w7.heap.size ≤ g) ∧ aget fr' 0 = some (.pointer (some ⟨b, 0, none⟩)) ∧ aget fr' 1 = some (.func (.yield lp) #[] #[]))) (vcPl_ok (tab_of tab_ok) (K := fun fr' w' => aget fr' 61 = some (.func (.yield lp) #[] #[]) ∧ ∃ B cB, aget fr' 73 = some (.agg (mgA m B cB dn)) ∧ Below w7.heap.size w7 w' ∧ (OwnO w' K1 0 1 eByte B cB dd.b ∧ ∀ g, blk B = some g → w7.heap.size ≤ g) ∧ aget fr' 0 = some (.pointer (some ⟨b, 0, none⟩)) ∧ aget fr' 1 = some (.func (.yield lp) #[] #[])) (fun fr' a' w' hr' hk' => ⟨rfl, fr', hr', hk'⟩) _ (by kernel_rfl) ?_ hr) ?_
       · skip
         repeat ((conv => whnf); first | refine Xl V0 ?_ | refine Xl V1 ?_ | refine Xl V2 ?_ | refine Xl V3 ?_ | refine Xt ?_ | refine Xq ?_ | refine Xn ?_ | refine Xj ?_ | refine Xo ?_); try (conv => whnf)
         refine VApp.rows w7.heap.size 1 1 _ Tryz.underlying42 info5 rfl (by decide) eByte (fun _ => rfl) one_eByte [] dd.b rfl hdl (owns_nil _ _ _ _ _) (N := w7.heap.size) (fun hl => (by obtain ⟨g, off, e, g1, -, g3⟩ := hrow7 hl; exact ⟨g, off, e, g1, g3⟩)) (by omega) (by omega) (Nat.le_refl _) fun B' cB' w8 oB hg8 _ => ?_
         rw [Nat.zero_add]
         rw [List.nil_append] at oB
         have c8 : Below w7.heap.size w7 w8 := Below.trans (Below.refl _ w7).drew ((Below.refl _ w7.drew).grown hg8 (Nat.le_refl _) fun k hk => by cases hk)
         have hs8 : Sm [b, x4, x5] w7 w8 := .below c8 hin7
         have hrow8 : OwnO w8 K1 0 1 eByte B' cB' dd.b := (NewO.owns oB fun _ => rfl).own fun g hg => A7.kz g (oB.lo g hg).1
         repeat ((conv => whnf); first | (refine VS.mk hs8 ?_) | refine Xt ?_ | refine Xq ?_ | refine Xn ?_ | refine Xj ?_ | refine Xo ?_); try (conv => whnf)
         refine VBuild.mk (.agg (mgA m B' cB' dn)) (fun W' => by rw [build83 W' o7.done x.s x.q B' dn cB', hm, hd7]) ?_
         repeat ((conv => whnf); first | refine Xt ?_ | refine Xq ?_ | refine Xn ?_ | refine Xj ?_ | refine Xo ?_); try (conv => whnf)
         exact ⟨rfl, B', cB', rfl, c8, ⟨hrow8, fun g hg => (oB.lo g hg).1⟩, rfl, rfl⟩
       · rintro a' w' ⟨fr', hr', h61, B, cB, h73, hb7, ⟨hrow', hlo'⟩, hf0, hf1⟩
         have jw : J o7 ms K1 w' := hJs _ _ _ _ hj _ X K1 w' I7 (A7.below hb7) (q7'.trans (.below hb7))
         obtain ⟨fn, tmps, assign, body, hy, hR⟩ := hY _ _ _ _ jw m B cB dn (.snoc hd hnext) (by rw [hm]; exact hdl) (by rw [hm]; exact hrow') fun g hg => Nat.le_trans hjl (Nat.le_trans q7'.size (hlo' g hg))
         refine yield_tail tab_ok (d1 := 74) (d2 := 75) (f := 61) (x := 73) (lp := lp) (z := 13) (by kernel_rfl) (by kernel_rfl) (by kernel_rfl) rfl rfl rfl rfl rfl rfl (by kernel_rfl) rfl rfl rfl rfl (by kernel_rfl) (by kernel_rfl) hr' h61 h73 ⟨fn, tmps, assign, body, hy, hR.mono ?_⟩
         rintro e W ⟨t, he, K', hh⟩
         refine ⟨t, he, fun a2 hr2 => hkk _ a2 W hr2 ?_⟩
         rcases hh with ⟨rfl, hh⟩ | ⟨rfl, hh⟩
         · conv => whnf
           exact .mk (o7, ms ++ [m], K') ⟨hf0, hf1, trivial⟩ ⟨.snoc hd hnext, hh⟩ (by show o7.known - o7.done < o.known - o.done; omega)
         · conv => whnf
           exact .mk ⟨⟨_, rfl⟩, o7, ms ++ [m], K', .snoc hd hnext, .inr hh⟩
     · skip
       repeat ((conv => whnf); first | refine Xl R0 ?_ | refine Xl R1 ?_ | refine Xt ?_ | refine Xq ?_ | refine Xn ?_ | refine Xj ?_ | refine Xo ?_); try (conv => whnf)
       obtain ⟨w7, hw7⟩ : ∃ w7, w7 = w6.drew := ⟨_, rfl⟩
       have A7 : OrdAt w7 K1 r b { o with done := o.done + 1 } X := by rw [hw7]; exact A6d
       have z7 : w6.heap.size ≤ w7.heap.size := by rw [hw7]; exact Nat.le_refl _
       have q7' : Ro (inR r) K1 K1 w1 w7 := by rw [hw7]; exact q6'.drew
       have h47 : w7.heap[x4]? = w3.heap[x4]? := by rw [hw7]; exact h46
       have h57 : w7.heap[x5]? = w5.heap[x5]? := by rw [hw7]; exact h56
       have hnext : o.next = some (⟨o.done + 1, x.s, x.q, dd.b⟩, { o with done := o.done + 1, mine := o.mine }) := by rw [next_some hk (hkd ▸ hx) hfd, if_neg hself]
       have I7 : DvI { o with done := o.done + 1, mine := o.mine } := I.step hk _ (by omega)
       have q57 : Ro (inR r) K1 K1 w5 w7 := by rw [hw7]; exact (q6.more (R' := inR r) fun y hy => by unfold inR; omega).drew
       have hrow7 : RowB w7 K1 (r + 4) 1 eByte DA dd.b := (hrow.ro (Ro.below (R := inR r) c5) (by unfold inR; omega)).ro q57 (by unfold inR; omega)
       rw [← hw7]
       clear hw7
       generalize ho7 : ({ o with done := o.done + 1 } : Os) = o7 at A7 hnext I7
       obtain ⟨hd7, hk7⟩ : o7.done = o.done + 1 ∧ o7.known = o.known := by rw [← ho7]; exact ⟨rfl, rfl⟩
       clear ho7
       repeat ((conv => whnf); first | refine Xt ?_ | refine Xq ?_ | refine Xn ?_ | refine Xj ?_ | refine Xo ?_); try (conv => whnf)
       obtain ⟨m, hm⟩ : ∃ m : Mg, m = ⟨o.done + 1, x.s, x.q, dd.b⟩ := ⟨_, rfl⟩
       rw [← hm] at hnext
       have V0 : Ld Tryz.prog 3 b 92 (Sm [b, x4, x5] w7) (.int .i64 o7.done) := A7.l_done (by simp)
       have V1 : Ld Tryz.prog 3 x4 0 (Sm [b, x4, x5] w7) (.int .i64 x.s) := ⟨fun W' hW => load3 ((World.cell?_of_block (a := ⟨x4, 0, none⟩) ((hW _ (by simp)).trans h47)).trans (r3 0 _ rfl))⟩
       have V2 : Ld Tryz.prog 3 x4 1 (Sm [b, x4, x5] w7) (.int .i64 x.q) := ⟨fun W' hW => load3 ((World.cell?_of_block (a := ⟨x4, 1, none⟩) ((hW _ (by simp)).trans h47)).trans (r3 1 _ rfl))⟩
       have V3 : Ld Tryz.prog 42 x5 3 (Sm [b, x4, x5] w7) (.slice DA dn dc) := ⟨fun W' hW => load27 ((World.cell?_of_block (a := ⟨x5, 3, none⟩) ((hW _ (by simp)).trans h57)).trans (r5 3 _ rfl))⟩
       have hs7 : Sm [b, x4, x5] w7 w7.drew := fun _ _ => rfl
       have hin7 : ∀ y ∈ [b, x4, x5], y < w7.heap.size := fun y hy => by
         simp only [List.mem_cons, List.not_mem_nil, or_false] at hy
         rcases hy with rfl | rfl | rfl <;> omega
       refine VDraw.esc fun Df a id Q hr hkk => wp_region_M 13 2 #[true, true, true, true, true, true, true, true, true, true, true, true, true, false, false] (.one [0, 1, 2, 3, 4, 5, 6, 7, 8, 9, 10] 11 (.stop [12])) (Sm [b, x4, x5] w7) (tab_of tab_ok).mo (by kernel_rfl) hs7 (K := fun a' w' => ∃ fr', RepE Df _ fr' a' ∧ (aget fr' 61 = some (.func (.yield lp) #[] #[]) ∧ ∃ B cB, aget fr' 73 = some (.agg (mgA m B cB dn)) ∧ Below w7.heap.size w7 w' ∧ (OwnO w' K1 0 1 eByte B cB dd.b ∧ ∀ g, blk B = some g → w7.heap.size ≤ g) ∧ aget fr' 0 = some (.pointer (some ⟨b, 0, none⟩)) ∧ aget fr' 1 = some (.func (.yield lp) #[] #[]))) (vcPl_ok (tab_of tab_ok) (K := fun fr' w' => aget fr' 61 = some (.func (.yield lp) #[] #[]) ∧ ∃ B cB, aget fr' 73 = some (.agg (mgA m B cB dn)) ∧ Below w7.heap.size w7 w' ∧ (OwnO w' K1 0 1 eByte B cB dd.b ∧ ∀ g, blk B = some g → w7.heap.size ≤ g) ∧ aget fr' 0 = some (.pointer (some ⟨b, 0, none⟩)) ∧ aget fr' 1 = some (.func (.yield lp) #[] #[])) (fun fr' a' w' hr' hk' => ⟨rfl, fr', hr', hk'⟩) _ (by kernel_rfl) ?_ hr) ?_
       · skip
         repeat ((conv => whnf); first | refine Xl V0 ?_ | refine Xl V1 ?_ | refine Xl V2 ?_ | refine Xl V3 ?_ | refine Xt ?_ | refine Xq ?_ | refine Xn ?_ | refine Xj ?_ | refine Xo ?_); try (conv => whnf)
         refine VApp.rows w7.heap.size 1 1 _ Tryz.underlying42 info5 rfl (by decide) eByte (fun _ => rfl) one_eByte [] dd.b rfl hdl (owns_nil _ _ _ _ _) (N := w7.heap.size) (fun hl => (by obtain ⟨g, off, e, g1, -, g3⟩ := hrow7 hl; exact ⟨g, off, e, g1, g3⟩)) (by omega) (by omega) (Nat.le_refl _) fun B' cB' w8 oB hg8 _ => ?_
         rw [Nat.zero_add]
         rw [List.nil_append] at oB
         have c8 : Below w7.heap.size w7 w8 := Below.trans (Below.refl _ w7).drew ((Below.refl _ w7.drew).grown hg8 (Nat.le_refl _) fun k hk => by cases hk)
         have hs8 : Sm [b, x4, x5] w7 w8 := .below c8 hin7
         have hrow8 : OwnO w8 K1 0 1 eByte B' cB' dd.b := (NewO.owns oB fun _ => rfl).own fun g hg => A7.kz g (oB.lo g hg).1
         repeat ((conv => whnf); first | (refine VS.mk hs8 ?_) | refine Xt ?_ | refine Xq ?_ | refine Xn ?_ | refine Xj ?_ | refine Xo ?_); try (conv => whnf)
         refine VBuild.mk (.agg (mgA m B' cB' dn)) (fun W' => by rw [build83 W' o7.done x.s x.q B' dn cB', hm, hd7]) ?_
         repeat ((conv => whnf); first | refine Xt ?_ | refine Xq ?_ | refine Xn ?_ | refine Xj ?_ | refine Xo ?_); try (conv => whnf)
         exact ⟨rfl, B', cB', rfl, c8, ⟨hrow8, fun g hg => (oB.lo g hg).1⟩, rfl, rfl⟩
       · rintro a' w' ⟨fr', hr', h61, B, cB, h73, hb7, ⟨hrow', hlo'⟩, hf0, hf1⟩
         have jw : J o7 ms K1 w' := hJs _ _ _ _ hj _ X K1 w' I7 (A7.below hb7) (q7'.trans (.below hb7))
         obtain ⟨fn, tmps, assign, body, hy, hR⟩ := hY _ _ _ _ jw m B cB dn (.snoc hd hnext) (by rw [hm]; exact hdl) (by rw [hm]; exact hrow') fun g hg => Nat.le_trans hjl (Nat.le_trans q7'.size (hlo' g hg))
         refine yield_tail tab_ok (d1 := 74) (d2 := 75) (f := 61) (x := 73) (lp := lp) (z := 13) (by kernel_rfl) (by kernel_rfl) (by kernel_rfl) rfl rfl rfl rfl rfl rfl (by kernel_rfl) rfl rfl rfl rfl (by kernel_rfl) (by kernel_rfl) hr' h61 h73 ⟨fn, tmps, assign, body, hy, hR.mono ?_⟩
         rintro e W ⟨t, he, K', hh⟩
         refine ⟨t, he, fun a2 hr2 => hkk _ a2 W hr2 ?_⟩
         rcases hh with ⟨rfl, hh⟩ | ⟨rfl, hh⟩
         · conv => whnf
           exact .mk (o7, ms ++ [m], K') ⟨hf0, hf1, trivial⟩ ⟨.snoc hd hnext, hh⟩ (by show o7.known - o7.done < o.known - o.done; omega)
         · conv => whnf
           exact .mk ⟨⟨_, rfl⟩, o7, ms ++ [m], K', .snoc hd hnext, .inr hh⟩
end
end Go.Proofs.YtoilipfgimcoiaaGreat
namespace Go.Proofs.YtoilipfgimcoiaaGreat
open Go Go.RowKit
structure MgX where
 m : Mg
 A : Option Addr
 c : Nat
def eMg (x : MgX) : List Value := [.int .i64 x.m.p, .int .i64 x.m.s, .int .i64 x.m.q, .slice x.A x.m.b.length x.c]
theorem one_eMg (x : MgX) : ∀ u ∈ eMg x, u.oneCell' = true := fun u hu => by
 simp only [eMg, List.mem_cons, List.not_mem_nil, or_false] at hu
 rcases hu with rfl | rfl | rfl | rfl <;> rfl
theorem one_mgA (m : Mg) (A : Option Addr) (c n : Nat) : (mgA m A c n).all (·.oneCell') = true := by
 have : ∀ u ∈ [Value.int .i64 m.p, .int .i64 m.s, .int .i64 m.q, .slice A n c], u.oneCell' = true := fun u hu => by
   simp only [List.mem_cons, List.not_mem_nil, or_false] at hu
   rcases hu with rfl | rfl | rfl | rfl <;> rfl
 exact all_oneCell_toArray this
def zero83 : Value := .agg #[.int .i64 0, .int .i64 0, .int .i64 0, .slice none 0 0]
theorem run_zero83 (W : World) : (zeroValue 82).run Tryz.prog W = .ok zero83 W := by kernel_rfl
theorem run_zero38 (W : World) : (zeroValue 59).run Tryz.prog W = .ok (.slice none 0 0) W := by kernel_rfl
theorem info83 : (Tryz.prog.info? 82).map (fun i => (i.zero, i.size, i.bytes)) = some (some zero83, 4, 48) := by kernel_rfl
theorem bs38 (W : World) (a b c : Int) (A : Option Addr) (n m : Nat) : (Instr.buildSlice 59 1 #[(0, .agg #[.int .i64 a, .int .i64 b, .int .i64 c, .slice A n m])]).run Tryz.prog W = .ok (.slice (some ⟨W.heap.size, 0, none⟩) 1 1) (W.alloc (.cells #[.int .i64 a, .int .i64 b, .int .i64 c, .slice A n m] 82)) := by kernel_rfl
theorem load38 {w : World} {b j n c : Nat} {A : Option Addr} (h : w.cell? ⟨b, j, none⟩ = some (.slice A n c)) : (loadVar 59 ⟨b, j, none⟩).run Tryz.prog w = .ok (.slice A n c) w := by go_simp
theorem load83 {w : World} {b j : Nat} {m : Mg} {A : Option Addr} {c n : Nat} (h : w.rangeAt b j (mgA m A c n).toList) : (loadVar 82 ⟨b, j, none⟩).run Tryz.prog w = .ok (.agg (mgA m A c n)) w := load_agg (by kernel_rfl) (by kernel_rfl) h
theorem hiRole (K : Nat → Nat) : ∀ n : Nat, (∀ y, n ≤ y → K y = 0) → ∃ p, ∀ y, K y < p := fun n => by
 have key : ∀ n : Nat, ∃ p, ∀ y, y < n → K y < p := fun n => by
   induction n with
   | zero => exact ⟨0, fun y hy => by omega⟩
   | succ n ih =>
     obtain ⟨p, hp⟩ := ih
     refine ⟨p + K n + 1, fun y hy => ?_⟩
     by_cases e : y = n
     · subst e; omega
     · have := hp y (by omega); omega
 intro kz
 obtain ⟨p, hp⟩ := key n
 refine ⟨p + 1, fun y => ?_⟩
 by_cases h : y < n
 · have := hp y h; omega
 · have := kz y (by omega); omega
theorem Ro.then {R R' : Nat → Prop} {K K' K'' : Nat → Nat} {w w' w'' : World} (a : Ro R K K' w w') (c : Ro R' K' K'' w' w'') (h : ∀ y, y < w.heap.size → R' (K y) → R (K y)) : Ro R K K'' w w'' :=
 ⟨c.os.trans a.os, c.tape.trans a.tape, c.output.trans a.output, Nat.le_trans a.size c.size, fun y hy hn => (c.same y (Nat.lt_of_lt_of_le hy a.size) (fun e => hn (h y hy (by rw [← a.kk y hy]; exact e)))).trans (a.same y hy hn), fun y hy => (c.kk y (Nat.lt_of_lt_of_le hy a.size)).trans (a.kk y hy)⟩
structure DvK (p r b bn bl Db lp n : Nat) (K0 : Nat → Nat) (w0 : World) (o : Os) (ms : List Mg) (K : Nat → Nat) (w : World) : Prop where
 I : DvI o
 A : ∃ X, OrdAt w K r b o X
 q : Ro (inR r) K0 K w0 w
 cn : w.cell? ⟨bn, 0, none⟩ = some (.int .i64 n)
 kn : K bn = p + 5
 hn : bn < w.heap.size
 kl : K bl = p
 hl : bl < w.heap.size
 hd : w.heap[Db]? = some (.deferred (some []))
 kd : K Db = p + 3
 kp : K lp = p + 2
 hp : lp < w.heap.size
 row : ∃ xs A c, w.cell? ⟨bl, 0, none⟩ = some (.slice A ms.length c) ∧ w.frozen? ⟨bl, 0, none⟩ = false ∧ OwnO w K (p + 1) 4 eMg A c xs ∧ xs.map (·.m) = ms ∧ (∀ x ∈ xs, OwnO w K (p + 4) 1 eByte x.A x.c x.m.b) ∧ Apart (xs.map (·.A))
section
variable {p r b bn bl Db lp n : Nat} {K0 K K' : Nat → Nat} {w0 w w' : World} {o o' : Os} {ms : List Mg} {R : Nat → Prop} {X' : OsX}
theorem DvK.ro (h : DvK p r b bn bl Db lp n K0 w0 o ms K w) (q : Ro R K K' w w') (I' : DvI o') (A' : OrdAt w' K' r b o' X') (h4 : ¬ R (p + 4)) (h1 : ¬ R p) (h2 : ¬ R (p + 1)) (h3 : ¬ R (p + 3)) (h5 : ¬ R (p + 5)) (hq : ∀ y, y < w0.heap.size → R (K0 y) → inR r (K0 y)) : DvK p r b bn bl Db lp n K0 w0 o' ms K' w' := by
 obtain ⟨xs, A, c, x1, x2, x3, x4, x5, x6⟩ := h.row
 have eq : ∀ y, y < w.heap.size → ¬ R (K y) → w'.heap[y]? = w.heap[y]? := q.same
 have hdl := (Array.getElem?_eq_some_iff.1 h.hd).1
 have en := eq bn h.hn (by rw [h.kn]; exact h5)
 have el := eq bl h.hl (by rw [h.kl]; exact h1)
 have ed := eq Db hdl (by rw [h.kd]; exact h3)
 have hz := q.size
 exact ⟨I', ⟨X', A'⟩, h.q.then q hq, (World.cell?_of_block (a := ⟨bn, 0, none⟩) en).trans h.cn, (q.kk _ h.hn).trans h.kn, Nat.lt_of_lt_of_le h.hn hz, (q.kk _ h.hl).trans h.kl, Nat.lt_of_lt_of_le h.hl hz, ed.trans h.hd, (q.kk _ hdl).trans h.kd, (q.kk _ h.hp).trans h.kp, Nat.lt_of_lt_of_le h.hp hz,
   xs, A, c, (World.cell?_of_block (a := ⟨bl, 0, none⟩) el).trans x1, (World.frozen?_of_block (a := ⟨bl, 0, none⟩) el).trans x2, x3.ro q h2, x4, fun x hx => (x5 x hx).ro q h4, x6⟩
theorem DvK.putLp (h : DvK p r b bn bl Db lp n K0 w0 o ms K w) (hpr : r + 5 ≤ p) (hlo : ∀ y, K0 y < p) (x : Obj) : DvK p r b bn bl Db lp n K0 w0 o ms K (w.putObj lp x) := by
 obtain ⟨X, A⟩ := h.A
 have q : Ro (· = p + 2) K K w (w.putObj lp x) := .grown (grownBy_putObj' w lp x) fun y hy => by injection hy with hy; rw [← hy]; exact h.kp
 have A' := A.ro q (fun y hy => A.kz y (by simpa using hy)) (by omega) fun y hy => by simp only [inR, inB] at hy; omega
 exact h.ro q h.I A' (by omega) (by omega) (by omega) (by omega) (by omega) fun y _ e => by have := hlo y; omega
theorem DvK.below (h : DvK p r b bn bl Db lp n K0 w0 o ms K w) (hb : Below w.heap.size w w') : DvK p r b bn bl Db lp n K0 w0 o ms K w' := by
 obtain ⟨X, A⟩ := h.A
 exact h.ro (Ro.below (R := fun _ => False) hb) h.I (A.below hb) id id id id id fun _ _ => False.elim
theorem rec_here {fn : FuncId} {a : Act} {ps : Array Tmp} {assign body : Code} {w W0 : World} (h : Hid (W0 = (w.alloc (.deferred (some []))).alloc (.loop (recOf fn a ps assign body w)))) : ∃ q : Loop, q.state = .ready ∧ q.params = ps ∧ q.tmps = a.tmps ∧ q.assign = assign ∧ q.body = body ∧ q.pending = none ∧ W0.heap[w.heap.size + 1]? = some (.loop q) :=
 ⟨recOf fn a ps assign body w, rfl, rfl, rfl, rfl, rfl, rfl, by
   rw [h.out]
   have := World.alloc_heap_new (w.alloc (.deferred (some []))) (.loop (recOf fn a ps assign body w))
   rwa [World.size_alloc] at this⟩
set_option maxRecDepth 100000 in
set_option maxHeartbeats 8000000 in
theorem round_dv {q : Loop} {a : Act} (hpr : r + 5 ≤ p) (hlo : ∀ y, K0 y < p) (hlp : w.heap[lp]? = some (.loop q)) (m : Mg) (B : Option Addr) (cB nB : Nat)
   (hst : q.state = .ready) (hps : q.params = #[17]) (htm : q.tmps = a.tmps) (hr : RepE [] 31 [(3, .pointer (some ⟨bn, 0, none⟩)), (5, .pointer (some ⟨bl, 0, none⟩))] a)
   {qa qb : Code} (hqa : q.assign = qa) (hqb : q.body = qb) (hra : roundB qa = true) (hrb : roundB qb = true)
   (hgo : ∀ (R : Bool → World → Prop), (∀ K' w', DvK p r b bn bl Db lp n K0 w0 o (ms ++ [m]) K' w' → w'.heap[lp]? = some (.loop { q with state := .busy }) → (ms.length + 1 < n → R true (w'.putObj lp (.loop { q with state := .ready, pending := none }))) ∧ (ms.length + 1 = n → R false (w'.putObj lp (.loop { q with state := .done, pending := some (.exit 0) })))) →
     vcC tab Tryz.prog 31 qa [(17, .agg (mgA m B cB nB)), (3, .pointer (some ⟨bn, 0, none⟩)), (5, .pointer (some ⟨bl, 0, none⟩))] w (kR1 tab Tryz.prog 31 lp q R)) :
   YieldAt Fence.wide 0 Tryz.prog lp #[.agg (mgA m B cB nB)] w fun e W' => ∃ t, e = .returned (.bool t) ∧ ∃ K', (t = true ∧ DvK p r b bn bl Db lp n K0 w0 o (ms ++ [m]) K' W' ∧ W'.heap[lp]? = some (.loop { q with state := .ready, pending := none }) ∧ (ms ++ [m]).length < n) ∨ (t = false ∧ DvK p r b bn bl Db lp n K0 w0 o (ms ++ [m]) K' W' ∧ W'.heap[lp]? = some (.loop { q with state := .done, pending := some (.exit 0) }) ∧ (ms ++ [m]).length = n) := by
 have hrq : RepE [] 31 [(17, .agg (mgA m B cB nB)), (3, .pointer (some ⟨bn, 0, none⟩)), (5, .pointer (some ⟨bl, 0, none⟩))] { tmps := (q.params.zip #[Value.agg (mgA m B cB nB)]).foldl (fun tmps (t, a) => tmps.setIfInBounds t a) q.tmps, defers := [] } := by
   have := hr.put (d := 17) (v := .agg (mgA m B cB nB)) (by decide)
   rw [hps, htm]
   have e : ({ tmps := ((#[17] : Array Nat).zip #[Value.agg (mgA m B cB nB)]).foldl (fun tmps (t, a) => tmps.setIfInBounds t a) a.tmps, defers := [] } : Act) = a.put (some 17) (.agg (mgA m B cB nB)) := by
     simp [Act.put, hr.d]
   rw [e]
   exact this
 obtain ⟨R, hR⟩ : ∃ R : Bool → World → Prop, R = fun t W' => ∃ K', (t = true ∧ DvK p r b bn bl Db lp n K0 w0 o (ms ++ [m]) K' W' ∧ W'.heap[lp]? = some (.loop { q with state := .ready, pending := none }) ∧ (ms ++ [m]).length < n) ∨ (t = false ∧ DvK p r b bn bl Db lp n K0 w0 o (ms ++ [m]) K' W' ∧ W'.heap[lp]? = some (.loop { q with state := .done, pending := some (.exit 0) }) ∧ (ms ++ [m]).length = n) := ⟨_, rfl⟩
 have key := hgo R fun K' w' hk _ => ⟨fun e => by
   rw [hR]
   exact ⟨K', .inl ⟨rfl, hk.putLp hpr hlo _, World.putObj_heap_same hk.hp, by rw [List.length_append]; exact e⟩⟩, fun e => by
   rw [hR]
   exact ⟨K', .inr ⟨rfl, hk.putLp hpr hlo _, World.putObj_heap_same hk.hp, by rw [List.length_append]; exact e⟩⟩⟩
 have := round_vc tab_ok (R := R) hlp hst (by rw [hps]; rfl) hrq (by rw [hqa]; exact hra) (by rw [hqb]; exact hrb) (by rw [hqa]; exact key)
 rw [hR] at this
 exact this
end
end Go.Proofs.YtoilipfgimcoiaaGreat
