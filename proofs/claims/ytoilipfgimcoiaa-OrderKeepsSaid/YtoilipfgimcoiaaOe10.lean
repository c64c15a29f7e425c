/- OdR, joined. -/
import Derived.Test.YtoilipfgimcoiaaOe8
import Derived.Test.YtoilipfgimcoiaaOe9
set_option linter.unusedVariables false
set_option linter.unusedSimpArgs false
namespace Go.Proofs.Ytoilipfgimcoiaa
open Go Go.RowKit
structure Mg where
  p : Nat
  s : Nat
  q : Nat
  b : List Int
def Os.next (o : Os) : Option (Mg × Os) :=
  if o.done < o.known then match o.slots[o.done - o.pre]? with
    | none => none
    | some x => match o.held.find? (fun d => decide (d.sl = x)) with
      | none => none
      | some d => some (⟨o.done + 1, x.s, x.q, d.b⟩, { o with done := o.done + 1, mine := if x.s = o.self then o.mine + 1 else o.mine })
  else none
inductive Dlv (o : Os) : List Mg → Os → Prop
  | nil : Dlv o [] o
  | snoc {ms : List Mg} {o' o'' : Os} {m : Mg} (h : Dlv o ms o') (hn : o'.next = some (m, o'')) : Dlv o (ms ++ [m]) o''
structure DvI (o : Os) : Prop where
  wf : WfO o
  pd : o.pre ≤ o.done
  md : o.mine ≤ o.done
  bl : ∀ d ∈ o.held, d.b.length ≤ 1000000
theorem next_facts {o o' : Os} {m : Mg} (h : o.next = some (m, o')) : o.done < o.known ∧ ∃ x d, o.slots[o.done - o.pre]? = some x ∧ o.held.find? (fun d => decide (d.sl = x)) = some d ∧ m = ⟨o.done + 1, x.s, x.q, d.b⟩ ∧ o' = { o with done := o.done + 1, mine := if x.s = o.self then o.mine + 1 else o.mine } := by
  unfold Os.next at h
  split at h
  · rename_i hk
    split at h
    · cases h
    · rename_i x hx
      split at h
      · cases h
      · rename_i d hd
        cases h
        exact ⟨hk, x, d, hx, hd, rfl, rfl⟩
  · cases h
theorem next_some {o : Os} (hk : o.done < o.known) {x : Sl} {d : Dt} (hx : o.slots[o.done - o.pre]? = some x) (hd : o.held.find? (fun d => decide (d.sl = x)) = some d) : o.next = some (⟨o.done + 1, x.s, x.q, d.b⟩, { o with done := o.done + 1, mine := if x.s = o.self then o.mine + 1 else o.mine }) := by
  unfold Os.next
  rw [if_pos hk]
  simp only [hx, hd]
theorem next_done {o : Os} (hk : ¬ o.done < o.known) : o.next = none := by unfold Os.next; rw [if_neg hk]
theorem next_lack {o : Os} {x : Sl} (hx : o.slots[o.done - o.pre]? = some x) (hd : o.held.find? (fun d => decide (d.sl = x)) = none) : o.next = none := by
  unfold Os.next
  split
  · simp only [hx, hd]
  · rfl
theorem Dlv.done {o o' : Os} {ms : List Mg} (h : Dlv o ms o') : o'.done = o.done + ms.length := by
  induction h with
  | nil => rfl
  | snoc h hn ih =>
    obtain ⟨-, x, d, -, -, -, rfl⟩ := next_facts hn
    rw [List.length_append, ← Nat.add_assoc, ← ih]
    rfl
theorem Dlv.known {o o' : Os} {ms : List Mg} (h : Dlv o ms o') (hk : o.done ≤ o.known) : o'.known = o.known ∧ o'.done ≤ o'.known := by
  induction h with
  | nil => exact ⟨rfl, hk⟩
  | snoc h hn ih =>
    obtain ⟨h1, x, d, -, -, -, rfl⟩ := next_facts hn
    exact ⟨ih.1, h1⟩
theorem DvI.step {o : Os} (h : DvI o) (hk : o.done < o.known) (c : Nat) (hc : c ≤ o.mine + 1) : DvI { o with done := o.done + 1, mine := c } := by
  have h1 := h.wf.kn
  have h2 := h.md
  have h3 := h.pd
  exact ⟨⟨h.wf.m0, h.wf.m16, h.wf.mlt, h.wf.win, h.wf.self, h.wf.sl, h.wf.qu, h.wf.ql, h.wf.ke, h.wf.nd, h.wf.hq, h.wf.tk, h.wf.pl, h.wf.gn, h.wf.kn, by show o.done + 1 ≤ _; omega, by show c ≤ _; omega⟩, by show o.pre ≤ o.done + 1; omega, by show c ≤ o.done + 1; omega, h.bl⟩
theorem build83 (W : World) (a b c : Int) (A : Option Addr) (n m : Nat) : (Instr.build 83 #[(0, .int .i64 a), (1, .int .i64 b), (2, .int .i64 c), (3, .slice A n m)]).run Try.prog W = .ok (.agg #[.int .i64 a, .int .i64 b, .int .i64 c, .slice A n m]) W := by kernel_rfl
abbrev mgA (m : Mg) (A : Option Addr) (c n : Nat) : Array Value := #[.int .i64 m.p, .int .i64 m.s, .int .i64 m.q, .slice A n c]
section
variable {w w' : World} {K K' : Nat → Nat} {r b : Nat} {o : Os} {X : OsX}
set_option maxRecDepth 100000 in
set_option maxHeartbeats 8000000 in
theorem ready_any {lp : Nat} (o0 : Os) {J Jx : Os → List Mg → (Nat → Nat) → World → Prop} (hJ : ∀ o ms K W, J o ms K W → DvI o ∧ ∃ X, OrdAt W K r b o X)
    (hJs : ∀ o ms K W, J o ms K W → ∀ o' X' K' W', DvI o' → OrdAt W' K' r b o' X' → Ro (inR r) K K' W W' → J o' ms K' W')
    (hY : ∀ o ms K W, J o ms K W → ∀ m B c n, Dlv o0 (ms ++ [m]) o → m.b.length = n → RowK W K 1 eByte B m.b → YieldAt Fence.wide 0 Try.prog lp #[.agg (mgA m B c n)] W fun e W' => ∃ t, e = .returned (.bool t) ∧ ∃ K', (t = true ∧ J o (ms ++ [m]) K' W') ∨ (t = false ∧ Jx o (ms ++ [m]) K' W'))
    (w : World) (h0 : J o0 [] K w) :
    Calls Try.prog 54 #[.pointer (some ⟨b, 0, none⟩), .func (.yield lp) #[] #[]] w fun e w' => (∃ v, e = .returned v) ∧ ∃ o' ms K', Dlv o0 ms o' ∧ ((J o' ms K' w' ∧ o'.next = none) ∨ Jx o' ms K' w') := by
  refine calls_vc tab_ok Try.func54 rfl ?_
  conv => whnf
  refine VLoop.mk (Os × List Mg × (Nat → Nat)) (fun _ => [(0, .pointer (some ⟨b, 0, none⟩)), (1, .func (.yield lp) #[] #[])]) (fun s W => Dlv o0 s.2.1 s.1 ∧ J s.1 s.2.1 s.2.2 W) (fun s => s.1.known - s.1.done) (o0, [], K) ⟨rfl, rfl, trivial⟩ ⟨.nil, h0⟩ ?_
  rintro ⟨o, ms, K1⟩ w1 ⟨hd, hj⟩
  dsimp only at hd hj ⊢
  obtain ⟨I, X, A⟩ := hJ _ _ _ _ hj
  have hbz := A.cs.hb
  have r0 := A.r0
  have hkn := I.wf.kn
  have hdn := I.wf.dn
  have L0 := A.l_done (l := [b]) (by simp)
  have hs1 : Sm [b] w1 w1.drew := fun _ _ => rfl
  repeat ((conv => whnf); first | (refine VCmp.tt (by omega) ?_) | (refine VCmp.ff (by omega) ?_) | (refine VIn.mk (IntWalk.i64_in _ (by omega)) ?_) | (refine VIdx.mk _ rfl (by omega) ?_) | (refine VIdx.mk 0 rfl (by omega) ?_))
  try (conv => whnf)
  refine VDraw.pl 1000 (.one [0, 1, 2, 3, 4] 5 (.stop [6])) (Sm [b] w1) (by kernel_rfl) (hs1) ?_
  repeat ((conv => whnf); first | (refine VLoad.mk _ L0 ?_) | (refine VCmp.tt (by omega) ?_) | (refine VCmp.ff (by omega) ?_) | (refine VIn.mk (IntWalk.i64_in _ (by omega)) ?_) | (refine VIdx.mk _ rfl (by omega) ?_) | (refine VIdx.mk 0 rfl (by omega) ?_))
  try (conv => whnf)
  have A1 := A.below (Below.refl _ w1).drew
  refine VCall.mk _ (known_any A1 (by omega)) ?_
  rintro _ w2 ⟨rfl, b2⟩
  refine ⟨_, rfl, ?_⟩
  have c2 : Below w1.heap.size w1 w2 := Below.trans (Below.refl _ w1).drew b2
  have hs2 : Sm [b] w1 w2 := .below c2 fun y hy => by rw [List.mem_singleton.1 hy]; omega
  have A2 := A.below c2
  have q2 : Ro (inR r) K1 K1 w1 w2 := .below c2
  have j2 : J o ms K1 w2 := hJs _ _ _ _ hj _ _ _ _ I A2 q2
  clear A1
  by_cases hk : o.done < o.known
  case neg =>
    repeat ((conv => whnf); first | (refine VS.mk hs2 ?_) | (refine VLoad.mk _ L0 ?_) | (refine VCmp.tt (by omega) ?_) | (refine VCmp.ff (by omega) ?_) | (refine VIn.mk (IntWalk.i64_in _ (by omega)) ?_) | (refine VIdx.mk _ rfl (by omega) ?_) | (refine VIdx.mk 0 rfl (by omega) ?_))
    try (conv => whnf)
    exact .mk ⟨⟨_, rfl⟩, o, ms, K1, hd, .inl ⟨j2, next_done hk⟩⟩
  obtain ⟨x, hx⟩ : ∃ x, o.slots[o.done - o.pre]? = some x := ⟨_, List.getElem?_eq_getElem (by unfold Os.known at hk; have := I.pd; omega)⟩
  have hxl := (List.getElem?_eq_some_iff.1 hx).1
  have hpd := I.pd
  obtain ⟨hx1, hx2⟩ := I.wf.sl x (List.mem_of_getElem? hx)
  obtain ⟨sb, so, hsA, sz, scell⟩ := A2.rs.s.row (by omega)
  obtain ⟨k, hkd⟩ : ∃ k, k = o.done - o.pre := ⟨_, rfl⟩
  rw [← hkd] at hx hxl
  have M0 := A2.l_slots (l := [b, sb]) (by simp)
  have M1 := A2.l_done (l := [b, sb]) (by simp)
  have M2 := A2.l_pre (l := [b, sb]) (by simp)
  rw [hsA] at M0
  have M3 : Ld Try.prog 78 sb (so + mulO k 2) (Sm [b, sb] w2) (kSl x) := ⟨fun W' hW => load78 fun j u hu => (World.cell?_of_block (a := ⟨sb, _, none⟩) (hW sb (by simp))).trans (scell k x hx j u hu)⟩
  have hs3 : Sm [b, sb] w2 w2.drew := fun _ _ => rfl
  repeat ((conv => whnf); first | (refine VS.mk hs2 ?_) | (refine VLoad.mk _ L0 ?_) | (refine VCmp.tt (by omega) ?_) | (refine VCmp.ff (by omega) ?_) | (refine VIn.mk (IntWalk.i64_in _ (by omega)) ?_) | (refine VIdx.mk _ rfl (by omega) ?_) | (refine VIdx.mk 0 rfl (by omega) ?_))
  try (conv => whnf)
  refine VDraw.pl 1000 (.one [0, 1, 2, 3, 4, 5, 6, 7, 8, 9, 10, 11, 12, 13, 14] 15 (.one [] 16 (.stop []))) (Sm [b, sb] w2) (by kernel_rfl) (hs3) ?_
  repeat ((conv => whnf); first | (refine VLoad.mk _ M0 ?_) | (refine VLoad.mk _ M1 ?_) | (refine VLoad.mk _ M2 ?_) | (refine VIdx.mk k (by omega) (by omega) ?_) | (refine VLoad.mk _ M3 ?_) | (refine VCmp.tt (by omega) ?_) | (refine VCmp.ff (by omega) ?_) | (refine VIn.mk (IntWalk.i64_in _ (by omega)) ?_) | (refine VIdx.mk _ rfl (by omega) ?_) | (refine VIdx.mk 0 rfl (by omega) ?_))
  try (conv => whnf)
  have hin : ∀ y ∈ [b, sb], y < w2.heap.size := fun y hy => by
    simp only [List.mem_cons, List.not_mem_nil, or_false] at hy
    rcases hy with rfl | rfl
    · exact A2.cs.hb
    · exact sz
  refine .mk _ run_zero78 ?_
  conv => whnf
  refine .mk fun u3 hu3 => ?_
  have hs3u : Sm [b, sb] w2 u3 := by rw [hu3.out]; exact .below ((Below.refl _ w2).drew.trans ((Below.refl _ w2.drew).alloc (Nat.le_refl _) _)) hin
  repeat ((conv => whnf); first | (refine VS.mk hs3u ?_) | (refine VCmp.tt (by omega) ?_) | (refine VCmp.ff (by omega) ?_) | (refine VIn.mk (IntWalk.i64_in _ (by omega)) ?_) | (refine VIdx.mk _ rfl (by omega) ?_) | (refine VIdx.mk 0 rfl (by omega) ?_))
  try (conv => whnf)
  refine VStore.new (c' := #[.int .i64 x.s, .int .i64 x.q]) hu3 (by kernel_rfl) rfl (one_sl x) fun w3 hw3 => ?_
  have c3 : Below w2.heap.size w2 w3 := by rw [hw3.out]; exact (Below.refl _ w2).drew.trans ((Below.refl _ w2.drew).alloc (Nat.le_refl _) _)
  have z3 : w3.heap.size = w2.heap.size + 1 := by rw [hw3.out]; exact World.size_alloc _ _
  obtain ⟨x4, hx4⟩ : ∃ x4, x4 = w2.drew.heap.size := ⟨_, rfl⟩
  have hx4' : x4 = w2.heap.size := hx4
  have r3 : w3.rangeAt x4 0 (eSl x) := by rw [hw3.out, hx4]; exact range_new w2.drew _ 78
  rw [← hx4]
  have hs3w : Sm [b, sb] w2 w3 := .below c3 hin
  clear hu3 hw3 hs3u u3
  have A3 := A2.below c3
  have q3 : Ro (inR r) K1 K1 w1 w3 := q2.trans (.below c3)
  have hbz3 := A3.cs.hb
  have hmb := A3.rs.map.lt
  have N0 := A3.l_held (l := [b, x4, X.hb]) (by simp)
  have N1 : Ld Try.prog 78 x4 0 (Sm [b, x4, X.hb] w3) (kSl x) := ⟨fun W' hW => load78 (range_same r3 (hW x4 (by simp)))⟩
  have hs4 : Sm [b, x4, X.hb] w3 w3.drew := fun _ _ => rfl
  repeat ((conv => whnf); first | (refine VS.mk hs3w ?_) | (refine VCmp.tt (by omega) ?_) | (refine VCmp.ff (by omega) ?_) | (refine VIn.mk (IntWalk.i64_in _ (by omega)) ?_) | (refine VIdx.mk _ rfl (by omega) ?_) | (refine VIdx.mk 0 rfl (by omega) ?_))
  try (conv => whnf)
  refine VDraw.pl 1000 (.two [0, 1, 2, 3, 4] 5 (.one [6, 7, 8] 9 (.one [] 10 (.stop [11]))) 9 (.one [] 5 (.one [6, 7, 8] 10 (.stop [11])))) (Sm [b, x4, X.hb] w3) (by kernel_rfl) (hs4) ?_
  repeat ((conv => whnf); first | (refine VLoad.mk _ N0 ?_) | (refine VLoad.mk _ N1 ?_) | (refine VCmp.tt (by omega) ?_) | (refine VCmp.ff (by omega) ?_) | (refine VIn.mk (IntWalk.i64_in _ (by omega)) ?_) | (refine VIdx.mk _ rfl (by omega) ?_) | (refine VIdx.mk 0 rfl (by omega) ?_))
  try (conv => whnf)
  obtain ⟨dd, DA, dc, dn, t, hlook, ht1, ht0⟩ : ∃ dd DA dc dn t, (∀ W : World, W.heap[X.hb]? = w3.heap[X.hb]? → (Instr.lookup 94 (.map (some X.hb)) (kSl x) true).run Try.prog W = .ok (.tuple #[.agg (dtA dd DA dc dn), .bool t]) W) ∧ (t = true → o.held.find? (fun d => decide (d.sl = x)) = some dd ∧ dd.b.length = dn ∧ RowK w3 K1 1 eByte DA dd.b) ∧ (t = false → o.held.find? (fun d => decide (d.sl = x)) = none) := by
    have hfm : o.held.find? (fun d => decide (d.sl = x)) = (X.hl.find? (fun y => decide (y.d.sl = x))).map (·.d) := by rw [← A3.rs.hd, List.find?_map]; rfl
    have hkeys : Keys X.hl := fun y hy => by
      have := I.wf.ke y.d (by rw [← A3.rs.hd]; exact List.mem_map_of_mem hy)
      exact ⟨by omega, by omega⟩
    have hnd : (X.hl.map (·.d.sl)).Nodup := by
      have := I.wf.nd
      rw [← A3.rs.hd, List.map_map] at this
      exact this
    have hl := fun (W : World) (hW : W.heap[X.hb]? = w3.heap[X.hb]?) => (A3.rs.map.same hW).look hkeys hnd (x := x) (by omega) (by omega) (run_zero71 W)
    cases hf : X.hl.find? (fun y => decide (y.d.sl = x)) with
    | none =>
      rw [hf] at hl hfm
      exact ⟨dt0, none, 0, 0, false, hl, (fun e => (by cases e)), fun _ => hfm⟩
    | some y =>
      rw [hf] at hl hfm
      exact ⟨y.d, y.A, y.c, _, true, hl, fun _ => ⟨hfm, rfl, A3.rs.bod y (List.mem_of_find?_eq_some hf)⟩, fun e => by cases e⟩
  have hin4 : ∀ y ∈ [b, x4, X.hb], y < w3.heap.size := fun y hy => by
    simp only [List.mem_cons, List.not_mem_nil, or_false] at hy
    rcases hy with rfl | rfl | rfl <;> omega
  refine ⟨?_, ?_⟩
  · skip
    repeat ((conv => whnf); first | (refine VCmp.tt (by omega) ?_) | (refine VCmp.ff (by omega) ?_) | (refine VIn.mk (IntWalk.i64_in _ (by omega)) ?_) | (refine VIdx.mk _ rfl (by omega) ?_) | (refine VIdx.mk 0 rfl (by omega) ?_))
    try (conv => whnf)
    refine VW.run (v := .tuple #[.agg (dtA dd DA dc dn), .bool t]) (w' := w3.drew) (fun a ha => ?_) ?_
    · have h3 := ha (.tmp 33) _ rfl
      have h4 := ha (.tmp 34) _ rfl
      simp only [execOp, h3, h4, Sem.run_bind, Sem.run_pure, Result.andThen_ok, hlook w3.drew rfl]
    repeat ((conv => whnf); first | (refine VS.mk hs4 ?_) | (refine VCmp.tt (by omega) ?_) | (refine VCmp.ff (by omega) ?_) | (refine VIn.mk (IntWalk.i64_in _ (by omega)) ?_) | (refine VIdx.mk _ rfl (by omega) ?_) | (refine VIdx.mk 0 rfl (by omega) ?_))
    try (conv => whnf)
    refine .mk _ run_zero71 ?_
    conv => whnf
    refine .mk fun u5 hu5 => ?_
    have hs5u : Sm [b, x4, X.hb] w3 u5 := by rw [hu5.out]; exact .below ((Below.refl _ w3).drew.trans ((Below.refl _ w3.drew).alloc (Nat.le_refl _) _)) hin4
    repeat ((conv => whnf); first | (refine VS.mk hs5u ?_) | (refine VCmp.tt (by omega) ?_) | (refine VCmp.ff (by omega) ?_) | (refine VIn.mk (IntWalk.i64_in _ (by omega)) ?_) | (refine VIdx.mk _ rfl (by omega) ?_) | (refine VIdx.mk 0 rfl (by omega) ?_))
    try (conv => whnf)
    refine VStore.new (c' := dtA dd DA dc dn) hu5 (by kernel_rfl) rfl (one_dtA _ _ _ _) fun w5 hw5 => ?_
    have c5 : Below w3.heap.size w3 w5 := by rw [hw5.out]; exact (Below.refl _ w3).drew.trans ((Below.refl _ w3.drew).alloc (Nat.le_refl _) _)
    have z5 : w5.heap.size = w3.heap.size + 1 := by rw [hw5.out]; exact World.size_alloc _ _
    obtain ⟨x5, hx5⟩ : ∃ x5, x5 = w3.drew.heap.size := ⟨_, rfl⟩
    have hx5' : x5 = w3.heap.size := hx5
    have r5 : w5.rangeAt x5 0 (dtA dd DA dc dn).toList := by rw [hw5.out, hx5]; exact range_new w3.drew _ 71
    rw [← hx5]
    have hs5 : Sm [b, x4, X.hb] w3 w5 := .below c5 hin4
    clear hu5 hw5 hs5u u5
    repeat ((conv => whnf); first | (refine VS.mk hs5 ?_) | (refine VCmp.tt (by omega) ?_) | (refine VCmp.ff (by omega) ?_) | (refine VIn.mk (IntWalk.i64_in _ (by omega)) ?_) | (refine VIdx.mk _ rfl (by omega) ?_) | (refine VIdx.mk 0 rfl (by omega) ?_))
    try (conv => whnf)
    have A5 := A3.below c5
    have q5 : Ro (inR r) K1 K1 w1 w5 := q3.trans (.below c5)
    have j5 : J o ms K1 w5 := hJs _ _ _ _ hj _ _ _ _ I A5 q5
    cases t with
    | false =>
      repeat ((conv => whnf); first | (refine VS.mk hs5 ?_) | (refine VCmp.tt (by omega) ?_) | (refine VCmp.ff (by omega) ?_) | (refine VIn.mk (IntWalk.i64_in _ (by omega)) ?_) | (refine VIdx.mk _ rfl (by omega) ?_) | (refine VIdx.mk 0 rfl (by omega) ?_))
      try (conv => whnf)
      exact .mk ⟨⟨_, rfl⟩, o, ms, K1, hd, .inl ⟨j5, next_lack (hkd ▸ hx) (ht0 rfl)⟩⟩
    | true =>
      obtain ⟨hfd, hdl, hrow⟩ := ht1 rfl
      have hdb := I.bl dd (List.mem_of_find?_eq_some hfd)
      have hmd := I.md
      have k4 : K1 x4 = 0 := A2.kz _ (by omega)
      have k5 : K1 x5 = 0 := A3.kz _ (by omega)
      have P0 := A5.l_done (l := [b]) (by simp)
      repeat ((conv => whnf); first | (refine VS.mk hs5 ?_) | (refine VLoad.mk _ (P0.at (Sm.refl _ _)) ?_) | (refine VCmp.tt (by omega) ?_) | (refine VCmp.ff (by omega) ?_) | (refine VIn.mk (IntWalk.i64_in _ (by omega)) ?_) | (refine VIdx.mk _ rfl (by omega) ?_) | (refine VIdx.mk 0 rfl (by omega) ?_))
      try (conv => whnf)
      have cp := A5.cs.cell 92 (by omega)
      refine VStore.cell (by kernel_rfl) (by rw [show addO 0 92 = 92 from rfl, cp.1]; rfl) cp.2 rfl rfl fun w6 hw6 => ?_
      obtain ⟨A6, q6⟩ := A5.s_done (o.done + 1) (show addO 0 92 = 92 from rfl) hw6.out
      have z6 := q6.size
      have h46 : w6.heap[x4]? = w3.heap[x4]? := (q6.same x4 (by omega) (by omega)).trans (c5.block x4 (by omega))
      have h56 : w6.heap[x5]? = w5.heap[x5]? := q6.same x5 (by omega) (by omega)
      have R0 : Ld Try.prog 3 b 5 (Sm [b, x4] w6) (.int .i64 o.self) := A6.l_self (by simp)
      have R1 : Ld Try.prog 3 x4 0 (Sm [b, x4] w6) (.int .i64 x.s) := ⟨fun W' hW => load3 ((World.cell?_of_block (a := ⟨x4, 0, none⟩) ((hW _ (by simp)).trans h46)).trans (r3 0 _ rfl))⟩
      have hs6 : Sm [b, x4] w6 w6.drew := fun _ _ => rfl
      repeat ((conv => whnf); first | (refine VCmp.tt (by omega) ?_) | (refine VCmp.ff (by omega) ?_) | (refine VIn.mk (IntWalk.i64_in _ (by omega)) ?_) | (refine VIdx.mk _ rfl (by omega) ?_) | (refine VIdx.mk 0 rfl (by omega) ?_))
      try (conv => whnf)
      refine VDraw.pl 1000 (.stop [0, 1, 2, 3, 4, 5, 6]) (Sm [b, x4] w6) (by kernel_rfl) (hs6) ?_
      have q6' : Ro (inR r) K1 K1 w1 w6 := q5.trans (q6.more fun y hy => by unfold inR; omega)
      have A6d := A6.below (Below.refl _ w6).drew
      by_cases hself : x.s = o.self
      · skip
        repeat ((conv => whnf); first | (refine VLoad.mk _ R0 ?_) | (refine VLoad.mk _ R1 ?_) | (refine VCmp.tt (by omega) ?_) | (refine VCmp.ff (by omega) ?_) | (refine VIn.mk (IntWalk.i64_in _ (by omega)) ?_) | (refine VIdx.mk _ rfl (by omega) ?_) | (refine VIdx.mk 0 rfl (by omega) ?_))
        try (conv => whnf)
        have R2 : Ld Try.prog 3 b 93 (Sm [b] w6.drew) (.int .i64 o.mine) := A6d.l_mine (by simp)
        repeat ((conv => whnf); first | (refine VLoad.mk _ (R2.at (Sm.refl _ _)) ?_) | (refine VCmp.tt (by omega) ?_) | (refine VCmp.ff (by omega) ?_) | (refine VIn.mk (IntWalk.i64_in _ (by omega)) ?_) | (refine VIdx.mk _ rfl (by omega) ?_) | (refine VIdx.mk 0 rfl (by omega) ?_))
        try (conv => whnf)
        have cp7 := A6d.cs.cell 93 (by omega)
        refine VStore.cell (by kernel_rfl) (by rw [show addO 0 93 = 93 from rfl, cp7.1]; rfl) cp7.2 rfl rfl fun w7 hw7 => ?_
        obtain ⟨A7, q7⟩ := A6d.s_mine (o.mine + 1) (show addO 0 93 = 93 from rfl) hw7.out
        have z7 : w6.heap.size ≤ w7.heap.size := q7.size
        have q7' : Ro (inR r) K1 K1 w1 w7 := q6'.drew.trans (q7.more fun y hy => by unfold inR; omega)
        have h47 : w7.heap[x4]? = w3.heap[x4]? := (q7.same x4 (show x4 < w6.heap.size by omega) (by omega)).trans h46
        have h57 : w7.heap[x5]? = w5.heap[x5]? := (q7.same x5 (show x5 < w6.heap.size by omega) (by omega)).trans h56
        have hnext : o.next = some (⟨o.done + 1, x.s, x.q, dd.b⟩, { o with done := o.done + 1, mine := o.mine + 1 }) := by rw [next_some hk (hkd ▸ hx) hfd, if_pos hself]
        have I7 : DvI { o with done := o.done + 1, mine := o.mine + 1 } := I.step hk _ (Nat.le_refl _)
        have q57 : Ro (inR r) K1 K1 w5 w7 := (q6.more (R' := inR r) fun y hy => by unfold inR; omega).drew.trans (q7.more fun y hy => by unfold inR; omega)
        have hrow7 : RowK w7 K1 1 eByte DA dd.b := (hrow.ro (Ro.below (R := inR r) c5) (by unfold inR; omega)).ro q57 (by unfold inR; omega)
        generalize ho7 : ({ o with done := o.done + 1, mine := o.mine + 1 } : Os) = o7 at A7 hnext I7
        obtain ⟨hd7, hk7⟩ : o7.done = o.done + 1 ∧ o7.known = o.known := by rw [← ho7]; exact ⟨rfl, rfl⟩
        clear ho7
        repeat ((conv => whnf); first | (refine VCmp.tt (by omega) ?_) | (refine VCmp.ff (by omega) ?_) | (refine VIn.mk (IntWalk.i64_in _ (by omega)) ?_) | (refine VIdx.mk _ rfl (by omega) ?_) | (refine VIdx.mk 0 rfl (by omega) ?_))
        try (conv => whnf)
        obtain ⟨m, hm⟩ : ∃ m : Mg, m = ⟨o.done + 1, x.s, x.q, dd.b⟩ := ⟨_, rfl⟩
        rw [← hm] at hnext
        have V0 : Ld Try.prog 3 b 92 (Sm [b, x4, x5] w7) (.int .i64 o7.done) := A7.l_done (by simp)
        have V1 : Ld Try.prog 3 x4 0 (Sm [b, x4, x5] w7) (.int .i64 x.s) := ⟨fun W' hW => load3 ((World.cell?_of_block (a := ⟨x4, 0, none⟩) ((hW _ (by simp)).trans h47)).trans (r3 0 _ rfl))⟩
        have V2 : Ld Try.prog 3 x4 1 (Sm [b, x4, x5] w7) (.int .i64 x.q) := ⟨fun W' hW => load3 ((World.cell?_of_block (a := ⟨x4, 1, none⟩) ((hW _ (by simp)).trans h47)).trans (r3 1 _ rfl))⟩
        have V3 : Ld Try.prog 27 x5 3 (Sm [b, x4, x5] w7) (.slice DA dn dc) := ⟨fun W' hW => load27 ((World.cell?_of_block (a := ⟨x5, 3, none⟩) ((hW _ (by simp)).trans h57)).trans (r5 3 _ rfl))⟩
        have hs7 : Sm [b, x4, x5] w7 w7.drew := fun _ _ => rfl
        have hin7 : ∀ y ∈ [b, x4, x5], y < w7.heap.size := fun y hy => by
          simp only [List.mem_cons, List.not_mem_nil, or_false] at hy
          rcases hy with rfl | rfl | rfl <;> omega
        refine VDraw.esc fun Df a id Q hr hkk => wp_region_M 13 2 #[true, true, true, true, true, true, true, true, true, true, true, true, true, false, false] (.one [0, 1, 2, 3, 4, 5, 6, 7, 8, 9, 10] 11 (.stop [12])) (Sm [b, x4, x5] w7) (tab_of tab_ok).mo (by kernel_rfl) hs7 (K := fun a' w' => ∃ fr', RepE Df _ fr' a' ∧ (aget fr' 61 = some (.func (.yield lp) #[] #[]) ∧ ∃ B cB, aget fr' 73 = some (.agg (mgA m B cB dn)) ∧ Below w7.heap.size w7 w' ∧ RowK w' K1 1 eByte B dd.b ∧ aget fr' 0 = some (.pointer (some ⟨b, 0, none⟩)) ∧ aget fr' 1 = some (.func (.yield lp) #[] #[]))) (vcPl_ok (tab_of tab_ok) (K := fun fr' w' => aget fr' 61 = some (.func (.yield lp) #[] #[]) ∧ ∃ B cB, aget fr' 73 = some (.agg (mgA m B cB dn)) ∧ Below w7.heap.size w7 w' ∧ RowK w' K1 1 eByte B dd.b ∧ aget fr' 0 = some (.pointer (some ⟨b, 0, none⟩)) ∧ aget fr' 1 = some (.func (.yield lp) #[] #[])) (fun fr' a' w' hr' hk' => ⟨rfl, fr', hr', hk'⟩) _ (by kernel_rfl) ?_ hr) ?_
        · skip
          repeat ((conv => whnf); first | (refine VLoad.mk _ V0 ?_) | (refine VLoad.mk _ V1 ?_) | (refine VLoad.mk _ V2 ?_) | (refine VLoad.mk _ V3 ?_) | (refine VCmp.tt (by omega) ?_) | (refine VCmp.ff (by omega) ?_) | (refine VIn.mk (IntWalk.i64_in _ (by omega)) ?_) | (refine VIdx.mk _ rfl (by omega) ?_) | (refine VIdx.mk 0 rfl (by omega) ?_))
          try (conv => whnf)
          refine VApp.rows w7.heap.size 1 1 _ Try.underlying27 info5 rfl (by decide) eByte (fun _ => rfl) one_eByte [] dd.b rfl hdl (owns_nil _ _ _ _ _) (N := w7.heap.size) (fun hl => (by obtain ⟨g, off, e, g1, -, g3⟩ := hrow7 hl; exact ⟨g, off, e, g1, g3⟩)) (by omega) (by omega) (Nat.le_refl _) fun B' cB' w8 oB hg8 _ => ?_
          rw [Nat.zero_add]
          rw [List.nil_append] at oB
          have c8 : Below w7.heap.size w7 w8 := Below.trans (Below.refl _ w7).drew ((Below.refl _ w7.drew).grown hg8 (Nat.le_refl _) fun k hk => by cases hk)
          have hs8 : Sm [b, x4, x5] w7 w8 := .below c8 hin7
          have hrow8 : RowK w8 K1 1 eByte B' dd.b := RowK.owns oB (fun _ => rfl) fun y hy => A7.kz y hy
          repeat ((conv => whnf); first | (refine VS.mk hs8 ?_) | (refine VCmp.tt (by omega) ?_) | (refine VCmp.ff (by omega) ?_) | (refine VIn.mk (IntWalk.i64_in _ (by omega)) ?_) | (refine VIdx.mk _ rfl (by omega) ?_) | (refine VIdx.mk 0 rfl (by omega) ?_))
          try (conv => whnf)
          refine VBuild.mk (.agg (mgA m B' cB' dn)) (fun W' => by rw [build83 W' o7.done x.s x.q B' dn cB', hm, hd7]) ?_
          repeat ((conv => whnf); first | (refine VCmp.tt (by omega) ?_) | (refine VCmp.ff (by omega) ?_) | (refine VIn.mk (IntWalk.i64_in _ (by omega)) ?_) | (refine VIdx.mk _ rfl (by omega) ?_) | (refine VIdx.mk 0 rfl (by omega) ?_))
          try (conv => whnf)
          exact ⟨rfl, B', cB', rfl, c8, hrow8, rfl, rfl⟩
        · rintro a' w' ⟨fr', hr', h61, B, cB, h73, hb7, hrow', hf0, hf1⟩
          have jw : J o7 ms K1 w' := hJs _ _ _ _ hj _ X K1 w' I7 (A7.below hb7) (q7'.trans (.below hb7))
          obtain ⟨fn, tmps, assign, body, hy, hR⟩ := hY _ _ _ _ jw m B cB dn (.snoc hd hnext) (by rw [hm]; exact hdl) (by rw [hm]; exact hrow')
          refine yield_tail tab_ok (d1 := 74) (d2 := 75) (f := 61) (x := 73) (lp := lp) (z := 13) (by kernel_rfl) (by kernel_rfl) (by kernel_rfl) rfl rfl rfl rfl rfl rfl (by kernel_rfl) rfl rfl rfl rfl (by kernel_rfl) (by kernel_rfl) hr' h61 h73 ⟨fn, tmps, assign, body, hy, hR.mono ?_⟩
          rintro e W ⟨t, he, K', hh⟩
          refine ⟨t, he, fun a2 hr2 => hkk _ a2 W hr2 ?_⟩
          rcases hh with ⟨rfl, hh⟩ | ⟨rfl, hh⟩
          · conv => whnf
            exact .mk (o7, ms ++ [m], K') ⟨hf0, hf1, trivial⟩ ⟨.snoc hd hnext, hh⟩ (by show o7.known - o7.done < o.known - o.done; omega)
          · conv => whnf
            exact .mk ⟨⟨_, rfl⟩, o7, ms ++ [m], K', .snoc hd hnext, .inr hh⟩
      · skip
        repeat ((conv => whnf); first | (refine VLoad.mk _ R0 ?_) | (refine VLoad.mk _ R1 ?_) | (refine VCmp.tt (by omega) ?_) | (refine VCmp.ff (by omega) ?_) | (refine VIn.mk (IntWalk.i64_in _ (by omega)) ?_) | (refine VIdx.mk _ rfl (by omega) ?_) | (refine VIdx.mk 0 rfl (by omega) ?_))
        try (conv => whnf)
        obtain ⟨w7, hw7⟩ : ∃ w7, w7 = w6.drew := ⟨_, rfl⟩
        have A7 : OrdAt w7 K1 r b { o with done := o.done + 1 } X := by rw [hw7]; exact A6d
        have z7 : w6.heap.size ≤ w7.heap.size := by rw [hw7]; exact Nat.le_refl _
        have q7' : Ro (inR r) K1 K1 w1 w7 := by rw [hw7]; exact q6'.drew
        have h47 : w7.heap[x4]? = w3.heap[x4]? := by rw [hw7]; exact h46
        have h57 : w7.heap[x5]? = w5.heap[x5]? := by rw [hw7]; exact h56
        have hnext : o.next = some (⟨o.done + 1, x.s, x.q, dd.b⟩, { o with done := o.done + 1, mine := o.mine }) := by rw [next_some hk (hkd ▸ hx) hfd, if_neg hself]
        have I7 : DvI { o with done := o.done + 1, mine := o.mine } := I.step hk _ (by omega)
        have q57 : Ro (inR r) K1 K1 w5 w7 := by rw [hw7]; exact (q6.more (R' := inR r) fun y hy => by unfold inR; omega).drew
        have hrow7 : RowK w7 K1 1 eByte DA dd.b := (hrow.ro (Ro.below (R := inR r) c5) (by unfold inR; omega)).ro q57 (by unfold inR; omega)
        rw [← hw7]
        clear hw7
        generalize ho7 : ({ o with done := o.done + 1 } : Os) = o7 at A7 hnext I7
        obtain ⟨hd7, hk7⟩ : o7.done = o.done + 1 ∧ o7.known = o.known := by rw [← ho7]; exact ⟨rfl, rfl⟩
        clear ho7
        repeat ((conv => whnf); first | (refine VCmp.tt (by omega) ?_) | (refine VCmp.ff (by omega) ?_) | (refine VIn.mk (IntWalk.i64_in _ (by omega)) ?_) | (refine VIdx.mk _ rfl (by omega) ?_) | (refine VIdx.mk 0 rfl (by omega) ?_))
        try (conv => whnf)
        obtain ⟨m, hm⟩ : ∃ m : Mg, m = ⟨o.done + 1, x.s, x.q, dd.b⟩ := ⟨_, rfl⟩
        rw [← hm] at hnext
        have V0 : Ld Try.prog 3 b 92 (Sm [b, x4, x5] w7) (.int .i64 o7.done) := A7.l_done (by simp)
        have V1 : Ld Try.prog 3 x4 0 (Sm [b, x4, x5] w7) (.int .i64 x.s) := ⟨fun W' hW => load3 ((World.cell?_of_block (a := ⟨x4, 0, none⟩) ((hW _ (by simp)).trans h47)).trans (r3 0 _ rfl))⟩
        have V2 : Ld Try.prog 3 x4 1 (Sm [b, x4, x5] w7) (.int .i64 x.q) := ⟨fun W' hW => load3 ((World.cell?_of_block (a := ⟨x4, 1, none⟩) ((hW _ (by simp)).trans h47)).trans (r3 1 _ rfl))⟩
        have V3 : Ld Try.prog 27 x5 3 (Sm [b, x4, x5] w7) (.slice DA dn dc) := ⟨fun W' hW => load27 ((World.cell?_of_block (a := ⟨x5, 3, none⟩) ((hW _ (by simp)).trans h57)).trans (r5 3 _ rfl))⟩
        have hs7 : Sm [b, x4, x5] w7 w7.drew := fun _ _ => rfl
        have hin7 : ∀ y ∈ [b, x4, x5], y < w7.heap.size := fun y hy => by
          simp only [List.mem_cons, List.not_mem_nil, or_false] at hy
          rcases hy with rfl | rfl | rfl <;> omega
        refine VDraw.esc fun Df a id Q hr hkk => wp_region_M 13 2 #[true, true, true, true, true, true, true, true, true, true, true, true, true, false, false] (.one [0, 1, 2, 3, 4, 5, 6, 7, 8, 9, 10] 11 (.stop [12])) (Sm [b, x4, x5] w7) (tab_of tab_ok).mo (by kernel_rfl) hs7 (K := fun a' w' => ∃ fr', RepE Df _ fr' a' ∧ (aget fr' 61 = some (.func (.yield lp) #[] #[]) ∧ ∃ B cB, aget fr' 73 = some (.agg (mgA m B cB dn)) ∧ Below w7.heap.size w7 w' ∧ RowK w' K1 1 eByte B dd.b ∧ aget fr' 0 = some (.pointer (some ⟨b, 0, none⟩)) ∧ aget fr' 1 = some (.func (.yield lp) #[] #[]))) (vcPl_ok (tab_of tab_ok) (K := fun fr' w' => aget fr' 61 = some (.func (.yield lp) #[] #[]) ∧ ∃ B cB, aget fr' 73 = some (.agg (mgA m B cB dn)) ∧ Below w7.heap.size w7 w' ∧ RowK w' K1 1 eByte B dd.b ∧ aget fr' 0 = some (.pointer (some ⟨b, 0, none⟩)) ∧ aget fr' 1 = some (.func (.yield lp) #[] #[])) (fun fr' a' w' hr' hk' => ⟨rfl, fr', hr', hk'⟩) _ (by kernel_rfl) ?_ hr) ?_
        · skip
          repeat ((conv => whnf); first | (refine VLoad.mk _ V0 ?_) | (refine VLoad.mk _ V1 ?_) | (refine VLoad.mk _ V2 ?_) | (refine VLoad.mk _ V3 ?_) | (refine VCmp.tt (by omega) ?_) | (refine VCmp.ff (by omega) ?_) | (refine VIn.mk (IntWalk.i64_in _ (by omega)) ?_) | (refine VIdx.mk _ rfl (by omega) ?_) | (refine VIdx.mk 0 rfl (by omega) ?_))
          try (conv => whnf)
          refine VApp.rows w7.heap.size 1 1 _ Try.underlying27 info5 rfl (by decide) eByte (fun _ => rfl) one_eByte [] dd.b rfl hdl (owns_nil _ _ _ _ _) (N := w7.heap.size) (fun hl => (by obtain ⟨g, off, e, g1, -, g3⟩ := hrow7 hl; exact ⟨g, off, e, g1, g3⟩)) (by omega) (by omega) (Nat.le_refl _) fun B' cB' w8 oB hg8 _ => ?_
          rw [Nat.zero_add]
          rw [List.nil_append] at oB
          have c8 : Below w7.heap.size w7 w8 := Below.trans (Below.refl _ w7).drew ((Below.refl _ w7.drew).grown hg8 (Nat.le_refl _) fun k hk => by cases hk)
          have hs8 : Sm [b, x4, x5] w7 w8 := .below c8 hin7
          have hrow8 : RowK w8 K1 1 eByte B' dd.b := RowK.owns oB (fun _ => rfl) fun y hy => A7.kz y hy
          repeat ((conv => whnf); first | (refine VS.mk hs8 ?_) | (refine VCmp.tt (by omega) ?_) | (refine VCmp.ff (by omega) ?_) | (refine VIn.mk (IntWalk.i64_in _ (by omega)) ?_) | (refine VIdx.mk _ rfl (by omega) ?_) | (refine VIdx.mk 0 rfl (by omega) ?_))
          try (conv => whnf)
          refine VBuild.mk (.agg (mgA m B' cB' dn)) (fun W' => by rw [build83 W' o7.done x.s x.q B' dn cB', hm, hd7]) ?_
          repeat ((conv => whnf); first | (refine VCmp.tt (by omega) ?_) | (refine VCmp.ff (by omega) ?_) | (refine VIn.mk (IntWalk.i64_in _ (by omega)) ?_) | (refine VIdx.mk _ rfl (by omega) ?_) | (refine VIdx.mk 0 rfl (by omega) ?_))
          try (conv => whnf)
          exact ⟨rfl, B', cB', rfl, c8, hrow8, rfl, rfl⟩
        · rintro a' w' ⟨fr', hr', h61, B, cB, h73, hb7, hrow', hf0, hf1⟩
          have jw : J o7 ms K1 w' := hJs _ _ _ _ hj _ X K1 w' I7 (A7.below hb7) (q7'.trans (.below hb7))
          obtain ⟨fn, tmps, assign, body, hy, hR⟩ := hY _ _ _ _ jw m B cB dn (.snoc hd hnext) (by rw [hm]; exact hdl) (by rw [hm]; exact hrow')
          refine yield_tail tab_ok (d1 := 74) (d2 := 75) (f := 61) (x := 73) (lp := lp) (z := 13) (by kernel_rfl) (by kernel_rfl) (by kernel_rfl) rfl rfl rfl rfl rfl rfl (by kernel_rfl) rfl rfl rfl rfl (by kernel_rfl) (by kernel_rfl) hr' h61 h73 ⟨fn, tmps, assign, body, hy, hR.mono ?_⟩
          rintro e W ⟨t, he, K', hh⟩
          refine ⟨t, he, fun a2 hr2 => hkk _ a2 W hr2 ?_⟩
          rcases hh with ⟨rfl, hh⟩ | ⟨rfl, hh⟩
          · conv => whnf
            exact .mk (o7, ms ++ [m], K') ⟨hf0, hf1, trivial⟩ ⟨.snoc hd hnext, hh⟩ (by show o7.known - o7.done < o.known - o.done; omega)
          · conv => whnf
            exact .mk ⟨⟨_, rfl⟩, o7, ms ++ [m], K', .snoc hd hnext, .inr hh⟩
  · skip
    repeat ((conv => whnf); first | (refine VCmp.tt (by omega) ?_) | (refine VCmp.ff (by omega) ?_) | (refine VIn.mk (IntWalk.i64_in _ (by omega)) ?_) | (refine VIdx.mk _ rfl (by omega) ?_) | (refine VIdx.mk 0 rfl (by omega) ?_))
    try (conv => whnf)
    refine .mk _ run_zero71 ?_
    conv => whnf
    refine .mk fun u5 hu5 => ?_
    have hs5u : Sm [b, x4, X.hb] w3 u5 := by rw [hu5.out]; exact .below ((Below.refl _ w3).drew.trans ((Below.refl _ w3.drew).alloc (Nat.le_refl _) _)) hin4
    repeat ((conv => whnf); first | (refine VS.mk hs5u ?_) | (refine VCmp.tt (by omega) ?_) | (refine VCmp.ff (by omega) ?_) | (refine VIn.mk (IntWalk.i64_in _ (by omega)) ?_) | (refine VIdx.mk _ rfl (by omega) ?_) | (refine VIdx.mk 0 rfl (by omega) ?_))
    try (conv => whnf)
    refine VW.run (v := .tuple #[.agg (dtA dd DA dc dn), .bool t]) (w' := u5) (fun a ha => ?_) ?_
    · have h3 := ha (.tmp 33) _ rfl
      have h4 := ha (.tmp 34) _ rfl
      simp only [execOp, h3, h4, Sem.run_bind, Sem.run_pure, Result.andThen_ok, hlook u5 (hs5u X.hb (by simp))]
    repeat ((conv => whnf); first | (refine VS.mk hs5u ?_) | (refine VCmp.tt (by omega) ?_) | (refine VCmp.ff (by omega) ?_) | (refine VIn.mk (IntWalk.i64_in _ (by omega)) ?_) | (refine VIdx.mk _ rfl (by omega) ?_) | (refine VIdx.mk 0 rfl (by omega) ?_))
    try (conv => whnf)
    refine VStore.new (c' := dtA dd DA dc dn) hu5 (by kernel_rfl) rfl (one_dtA _ _ _ _) fun w5 hw5 => ?_
    have c5 : Below w3.heap.size w3 w5 := by rw [hw5.out]; exact (Below.refl _ w3).drew.trans ((Below.refl _ w3.drew).alloc (Nat.le_refl _) _)
    have z5 : w5.heap.size = w3.heap.size + 1 := by rw [hw5.out]; exact World.size_alloc _ _
    obtain ⟨x5, hx5⟩ : ∃ x5, x5 = w3.drew.heap.size := ⟨_, rfl⟩
    have hx5' : x5 = w3.heap.size := hx5
    have r5 : w5.rangeAt x5 0 (dtA dd DA dc dn).toList := by rw [hw5.out, hx5]; exact range_new w3.drew _ 71
    rw [← hx5]
    have hs5 : Sm [b, x4, X.hb] w3 w5 := .below c5 hin4
    clear hu5 hw5 hs5u u5
    repeat ((conv => whnf); first | (refine VS.mk hs5 ?_) | (refine VCmp.tt (by omega) ?_) | (refine VCmp.ff (by omega) ?_) | (refine VIn.mk (IntWalk.i64_in _ (by omega)) ?_) | (refine VIdx.mk _ rfl (by omega) ?_) | (refine VIdx.mk 0 rfl (by omega) ?_))
    try (conv => whnf)
    have A5 := A3.below c5
    have q5 : Ro (inR r) K1 K1 w1 w5 := q3.trans (.below c5)
    have j5 : J o ms K1 w5 := hJs _ _ _ _ hj _ _ _ _ I A5 q5
    cases t with
    | false =>
      repeat ((conv => whnf); first | (refine VS.mk hs5 ?_) | (refine VCmp.tt (by omega) ?_) | (refine VCmp.ff (by omega) ?_) | (refine VIn.mk (IntWalk.i64_in _ (by omega)) ?_) | (refine VIdx.mk _ rfl (by omega) ?_) | (refine VIdx.mk 0 rfl (by omega) ?_))
      try (conv => whnf)
      exact .mk ⟨⟨_, rfl⟩, o, ms, K1, hd, .inl ⟨j5, next_lack (hkd ▸ hx) (ht0 rfl)⟩⟩
    | true =>
      obtain ⟨hfd, hdl, hrow⟩ := ht1 rfl
      have hdb := I.bl dd (List.mem_of_find?_eq_some hfd)
      have hmd := I.md
      have k4 : K1 x4 = 0 := A2.kz _ (by omega)
      have k5 : K1 x5 = 0 := A3.kz _ (by omega)
      have P0 := A5.l_done (l := [b]) (by simp)
      repeat ((conv => whnf); first | (refine VS.mk hs5 ?_) | (refine VLoad.mk _ (P0.at (Sm.refl _ _)) ?_) | (refine VCmp.tt (by omega) ?_) | (refine VCmp.ff (by omega) ?_) | (refine VIn.mk (IntWalk.i64_in _ (by omega)) ?_) | (refine VIdx.mk _ rfl (by omega) ?_) | (refine VIdx.mk 0 rfl (by omega) ?_))
      try (conv => whnf)
      have cp := A5.cs.cell 92 (by omega)
      refine VStore.cell (by kernel_rfl) (by rw [show addO 0 92 = 92 from rfl, cp.1]; rfl) cp.2 rfl rfl fun w6 hw6 => ?_
      obtain ⟨A6, q6⟩ := A5.s_done (o.done + 1) (show addO 0 92 = 92 from rfl) hw6.out
      have z6 := q6.size
      have h46 : w6.heap[x4]? = w3.heap[x4]? := (q6.same x4 (by omega) (by omega)).trans (c5.block x4 (by omega))
      have h56 : w6.heap[x5]? = w5.heap[x5]? := q6.same x5 (by omega) (by omega)
      have R0 : Ld Try.prog 3 b 5 (Sm [b, x4] w6) (.int .i64 o.self) := A6.l_self (by simp)
      have R1 : Ld Try.prog 3 x4 0 (Sm [b, x4] w6) (.int .i64 x.s) := ⟨fun W' hW => load3 ((World.cell?_of_block (a := ⟨x4, 0, none⟩) ((hW _ (by simp)).trans h46)).trans (r3 0 _ rfl))⟩
      have hs6 : Sm [b, x4] w6 w6.drew := fun _ _ => rfl
      repeat ((conv => whnf); first | (refine VCmp.tt (by omega) ?_) | (refine VCmp.ff (by omega) ?_) | (refine VIn.mk (IntWalk.i64_in _ (by omega)) ?_) | (refine VIdx.mk _ rfl (by omega) ?_) | (refine VIdx.mk 0 rfl (by omega) ?_))
      try (conv => whnf)
      refine VDraw.pl 1000 (.stop [0, 1, 2, 3, 4, 5, 6]) (Sm [b, x4] w6) (by kernel_rfl) (hs6) ?_
      have q6' : Ro (inR r) K1 K1 w1 w6 := q5.trans (q6.more fun y hy => by unfold inR; omega)
      have A6d := A6.below (Below.refl _ w6).drew
      by_cases hself : x.s = o.self
      · skip
        repeat ((conv => whnf); first | (refine VLoad.mk _ R0 ?_) | (refine VLoad.mk _ R1 ?_) | (refine VCmp.tt (by omega) ?_) | (refine VCmp.ff (by omega) ?_) | (refine VIn.mk (IntWalk.i64_in _ (by omega)) ?_) | (refine VIdx.mk _ rfl (by omega) ?_) | (refine VIdx.mk 0 rfl (by omega) ?_))
        try (conv => whnf)
        have R2 : Ld Try.prog 3 b 93 (Sm [b] w6.drew) (.int .i64 o.mine) := A6d.l_mine (by simp)
        repeat ((conv => whnf); first | (refine VLoad.mk _ (R2.at (Sm.refl _ _)) ?_) | (refine VCmp.tt (by omega) ?_) | (refine VCmp.ff (by omega) ?_) | (refine VIn.mk (IntWalk.i64_in _ (by omega)) ?_) | (refine VIdx.mk _ rfl (by omega) ?_) | (refine VIdx.mk 0 rfl (by omega) ?_))
        try (conv => whnf)
        have cp7 := A6d.cs.cell 93 (by omega)
        refine VStore.cell (by kernel_rfl) (by rw [show addO 0 93 = 93 from rfl, cp7.1]; rfl) cp7.2 rfl rfl fun w7 hw7 => ?_
        obtain ⟨A7, q7⟩ := A6d.s_mine (o.mine + 1) (show addO 0 93 = 93 from rfl) hw7.out
        have z7 : w6.heap.size ≤ w7.heap.size := q7.size
        have q7' : Ro (inR r) K1 K1 w1 w7 := q6'.drew.trans (q7.more fun y hy => by unfold inR; omega)
        have h47 : w7.heap[x4]? = w3.heap[x4]? := (q7.same x4 (show x4 < w6.heap.size by omega) (by omega)).trans h46
        have h57 : w7.heap[x5]? = w5.heap[x5]? := (q7.same x5 (show x5 < w6.heap.size by omega) (by omega)).trans h56
        have hnext : o.next = some (⟨o.done + 1, x.s, x.q, dd.b⟩, { o with done := o.done + 1, mine := o.mine + 1 }) := by rw [next_some hk (hkd ▸ hx) hfd, if_pos hself]
        have I7 : DvI { o with done := o.done + 1, mine := o.mine + 1 } := I.step hk _ (Nat.le_refl _)
        have q57 : Ro (inR r) K1 K1 w5 w7 := (q6.more (R' := inR r) fun y hy => by unfold inR; omega).drew.trans (q7.more fun y hy => by unfold inR; omega)
        have hrow7 : RowK w7 K1 1 eByte DA dd.b := (hrow.ro (Ro.below (R := inR r) c5) (by unfold inR; omega)).ro q57 (by unfold inR; omega)
        generalize ho7 : ({ o with done := o.done + 1, mine := o.mine + 1 } : Os) = o7 at A7 hnext I7
        obtain ⟨hd7, hk7⟩ : o7.done = o.done + 1 ∧ o7.known = o.known := by rw [← ho7]; exact ⟨rfl, rfl⟩
        clear ho7
        repeat ((conv => whnf); first | (refine VCmp.tt (by omega) ?_) | (refine VCmp.ff (by omega) ?_) | (refine VIn.mk (IntWalk.i64_in _ (by omega)) ?_) | (refine VIdx.mk _ rfl (by omega) ?_) | (refine VIdx.mk 0 rfl (by omega) ?_))
        try (conv => whnf)
        obtain ⟨m, hm⟩ : ∃ m : Mg, m = ⟨o.done + 1, x.s, x.q, dd.b⟩ := ⟨_, rfl⟩
        rw [← hm] at hnext
        have V0 : Ld Try.prog 3 b 92 (Sm [b, x4, x5] w7) (.int .i64 o7.done) := A7.l_done (by simp)
        have V1 : Ld Try.prog 3 x4 0 (Sm [b, x4, x5] w7) (.int .i64 x.s) := ⟨fun W' hW => load3 ((World.cell?_of_block (a := ⟨x4, 0, none⟩) ((hW _ (by simp)).trans h47)).trans (r3 0 _ rfl))⟩
        have V2 : Ld Try.prog 3 x4 1 (Sm [b, x4, x5] w7) (.int .i64 x.q) := ⟨fun W' hW => load3 ((World.cell?_of_block (a := ⟨x4, 1, none⟩) ((hW _ (by simp)).trans h47)).trans (r3 1 _ rfl))⟩
        have V3 : Ld Try.prog 27 x5 3 (Sm [b, x4, x5] w7) (.slice DA dn dc) := ⟨fun W' hW => load27 ((World.cell?_of_block (a := ⟨x5, 3, none⟩) ((hW _ (by simp)).trans h57)).trans (r5 3 _ rfl))⟩
        have hs7 : Sm [b, x4, x5] w7 w7.drew := fun _ _ => rfl
        have hin7 : ∀ y ∈ [b, x4, x5], y < w7.heap.size := fun y hy => by
          simp only [List.mem_cons, List.not_mem_nil, or_false] at hy
          rcases hy with rfl | rfl | rfl <;> omega
        refine VDraw.esc fun Df a id Q hr hkk => wp_region_M 13 2 #[true, true, true, true, true, true, true, true, true, true, true, true, true, false, false] (.one [0, 1, 2, 3, 4, 5, 6, 7, 8, 9, 10] 11 (.stop [12])) (Sm [b, x4, x5] w7) (tab_of tab_ok).mo (by kernel_rfl) hs7 (K := fun a' w' => ∃ fr', RepE Df _ fr' a' ∧ (aget fr' 61 = some (.func (.yield lp) #[] #[]) ∧ ∃ B cB, aget fr' 73 = some (.agg (mgA m B cB dn)) ∧ Below w7.heap.size w7 w' ∧ RowK w' K1 1 eByte B dd.b ∧ aget fr' 0 = some (.pointer (some ⟨b, 0, none⟩)) ∧ aget fr' 1 = some (.func (.yield lp) #[] #[]))) (vcPl_ok (tab_of tab_ok) (K := fun fr' w' => aget fr' 61 = some (.func (.yield lp) #[] #[]) ∧ ∃ B cB, aget fr' 73 = some (.agg (mgA m B cB dn)) ∧ Below w7.heap.size w7 w' ∧ RowK w' K1 1 eByte B dd.b ∧ aget fr' 0 = some (.pointer (some ⟨b, 0, none⟩)) ∧ aget fr' 1 = some (.func (.yield lp) #[] #[])) (fun fr' a' w' hr' hk' => ⟨rfl, fr', hr', hk'⟩) _ (by kernel_rfl) ?_ hr) ?_
        · skip
          repeat ((conv => whnf); first | (refine VLoad.mk _ V0 ?_) | (refine VLoad.mk _ V1 ?_) | (refine VLoad.mk _ V2 ?_) | (refine VLoad.mk _ V3 ?_) | (refine VCmp.tt (by omega) ?_) | (refine VCmp.ff (by omega) ?_) | (refine VIn.mk (IntWalk.i64_in _ (by omega)) ?_) | (refine VIdx.mk _ rfl (by omega) ?_) | (refine VIdx.mk 0 rfl (by omega) ?_))
          try (conv => whnf)
          refine VApp.rows w7.heap.size 1 1 _ Try.underlying27 info5 rfl (by decide) eByte (fun _ => rfl) one_eByte [] dd.b rfl hdl (owns_nil _ _ _ _ _) (N := w7.heap.size) (fun hl => (by obtain ⟨g, off, e, g1, -, g3⟩ := hrow7 hl; exact ⟨g, off, e, g1, g3⟩)) (by omega) (by omega) (Nat.le_refl _) fun B' cB' w8 oB hg8 _ => ?_
          rw [Nat.zero_add]
          rw [List.nil_append] at oB
          have c8 : Below w7.heap.size w7 w8 := Below.trans (Below.refl _ w7).drew ((Below.refl _ w7.drew).grown hg8 (Nat.le_refl _) fun k hk => by cases hk)
          have hs8 : Sm [b, x4, x5] w7 w8 := .below c8 hin7
          have hrow8 : RowK w8 K1 1 eByte B' dd.b := RowK.owns oB (fun _ => rfl) fun y hy => A7.kz y hy
          repeat ((conv => whnf); first | (refine VS.mk hs8 ?_) | (refine VCmp.tt (by omega) ?_) | (refine VCmp.ff (by omega) ?_) | (refine VIn.mk (IntWalk.i64_in _ (by omega)) ?_) | (refine VIdx.mk _ rfl (by omega) ?_) | (refine VIdx.mk 0 rfl (by omega) ?_))
          try (conv => whnf)
          refine VBuild.mk (.agg (mgA m B' cB' dn)) (fun W' => by rw [build83 W' o7.done x.s x.q B' dn cB', hm, hd7]) ?_
          repeat ((conv => whnf); first | (refine VCmp.tt (by omega) ?_) | (refine VCmp.ff (by omega) ?_) | (refine VIn.mk (IntWalk.i64_in _ (by omega)) ?_) | (refine VIdx.mk _ rfl (by omega) ?_) | (refine VIdx.mk 0 rfl (by omega) ?_))
          try (conv => whnf)
          exact ⟨rfl, B', cB', rfl, c8, hrow8, rfl, rfl⟩
        · rintro a' w' ⟨fr', hr', h61, B, cB, h73, hb7, hrow', hf0, hf1⟩
          have jw : J o7 ms K1 w' := hJs _ _ _ _ hj _ X K1 w' I7 (A7.below hb7) (q7'.trans (.below hb7))
          obtain ⟨fn, tmps, assign, body, hy, hR⟩ := hY _ _ _ _ jw m B cB dn (.snoc hd hnext) (by rw [hm]; exact hdl) (by rw [hm]; exact hrow')
          refine yield_tail tab_ok (d1 := 74) (d2 := 75) (f := 61) (x := 73) (lp := lp) (z := 13) (by kernel_rfl) (by kernel_rfl) (by kernel_rfl) rfl rfl rfl rfl rfl rfl (by kernel_rfl) rfl rfl rfl rfl (by kernel_rfl) (by kernel_rfl) hr' h61 h73 ⟨fn, tmps, assign, body, hy, hR.mono ?_⟩
          rintro e W ⟨t, he, K', hh⟩
          refine ⟨t, he, fun a2 hr2 => hkk _ a2 W hr2 ?_⟩
          rcases hh with ⟨rfl, hh⟩ | ⟨rfl, hh⟩
          · conv => whnf
            exact .mk (o7, ms ++ [m], K') ⟨hf0, hf1, trivial⟩ ⟨.snoc hd hnext, hh⟩ (by show o7.known - o7.done < o.known - o.done; omega)
          · conv => whnf
            exact .mk ⟨⟨_, rfl⟩, o7, ms ++ [m], K', .snoc hd hnext, .inr hh⟩
      · skip
        repeat ((conv => whnf); first | (refine VLoad.mk _ R0 ?_) | (refine VLoad.mk _ R1 ?_) | (refine VCmp.tt (by omega) ?_) | (refine VCmp.ff (by omega) ?_) | (refine VIn.mk (IntWalk.i64_in _ (by omega)) ?_) | (refine VIdx.mk _ rfl (by omega) ?_) | (refine VIdx.mk 0 rfl (by omega) ?_))
        try (conv => whnf)
        obtain ⟨w7, hw7⟩ : ∃ w7, w7 = w6.drew := ⟨_, rfl⟩
        have A7 : OrdAt w7 K1 r b { o with done := o.done + 1 } X := by rw [hw7]; exact A6d
        have z7 : w6.heap.size ≤ w7.heap.size := by rw [hw7]; exact Nat.le_refl _
        have q7' : Ro (inR r) K1 K1 w1 w7 := by rw [hw7]; exact q6'.drew
        have h47 : w7.heap[x4]? = w3.heap[x4]? := by rw [hw7]; exact h46
        have h57 : w7.heap[x5]? = w5.heap[x5]? := by rw [hw7]; exact h56
        have hnext : o.next = some (⟨o.done + 1, x.s, x.q, dd.b⟩, { o with done := o.done + 1, mine := o.mine }) := by rw [next_some hk (hkd ▸ hx) hfd, if_neg hself]
        have I7 : DvI { o with done := o.done + 1, mine := o.mine } := I.step hk _ (by omega)
        have q57 : Ro (inR r) K1 K1 w5 w7 := by rw [hw7]; exact (q6.more (R' := inR r) fun y hy => by unfold inR; omega).drew
        have hrow7 : RowK w7 K1 1 eByte DA dd.b := (hrow.ro (Ro.below (R := inR r) c5) (by unfold inR; omega)).ro q57 (by unfold inR; omega)
        rw [← hw7]
        clear hw7
        generalize ho7 : ({ o with done := o.done + 1 } : Os) = o7 at A7 hnext I7
        obtain ⟨hd7, hk7⟩ : o7.done = o.done + 1 ∧ o7.known = o.known := by rw [← ho7]; exact ⟨rfl, rfl⟩
        clear ho7
        repeat ((conv => whnf); first | (refine VCmp.tt (by omega) ?_) | (refine VCmp.ff (by omega) ?_) | (refine VIn.mk (IntWalk.i64_in _ (by omega)) ?_) | (refine VIdx.mk _ rfl (by omega) ?_) | (refine VIdx.mk 0 rfl (by omega) ?_))
        try (conv => whnf)
        obtain ⟨m, hm⟩ : ∃ m : Mg, m = ⟨o.done + 1, x.s, x.q, dd.b⟩ := ⟨_, rfl⟩
        rw [← hm] at hnext
        have V0 : Ld Try.prog 3 b 92 (Sm [b, x4, x5] w7) (.int .i64 o7.done) := A7.l_done (by simp)
        have V1 : Ld Try.prog 3 x4 0 (Sm [b, x4, x5] w7) (.int .i64 x.s) := ⟨fun W' hW => load3 ((World.cell?_of_block (a := ⟨x4, 0, none⟩) ((hW _ (by simp)).trans h47)).trans (r3 0 _ rfl))⟩
        have V2 : Ld Try.prog 3 x4 1 (Sm [b, x4, x5] w7) (.int .i64 x.q) := ⟨fun W' hW => load3 ((World.cell?_of_block (a := ⟨x4, 1, none⟩) ((hW _ (by simp)).trans h47)).trans (r3 1 _ rfl))⟩
        have V3 : Ld Try.prog 27 x5 3 (Sm [b, x4, x5] w7) (.slice DA dn dc) := ⟨fun W' hW => load27 ((World.cell?_of_block (a := ⟨x5, 3, none⟩) ((hW _ (by simp)).trans h57)).trans (r5 3 _ rfl))⟩
        have hs7 : Sm [b, x4, x5] w7 w7.drew := fun _ _ => rfl
        have hin7 : ∀ y ∈ [b, x4, x5], y < w7.heap.size := fun y hy => by
          simp only [List.mem_cons, List.not_mem_nil, or_false] at hy
          rcases hy with rfl | rfl | rfl <;> omega
        refine VDraw.esc fun Df a id Q hr hkk => wp_region_M 13 2 #[true, true, true, true, true, true, true, true, true, true, true, true, true, false, false] (.one [0, 1, 2, 3, 4, 5, 6, 7, 8, 9, 10] 11 (.stop [12])) (Sm [b, x4, x5] w7) (tab_of tab_ok).mo (by kernel_rfl) hs7 (K := fun a' w' => ∃ fr', RepE Df _ fr' a' ∧ (aget fr' 61 = some (.func (.yield lp) #[] #[]) ∧ ∃ B cB, aget fr' 73 = some (.agg (mgA m B cB dn)) ∧ Below w7.heap.size w7 w' ∧ RowK w' K1 1 eByte B dd.b ∧ aget fr' 0 = some (.pointer (some ⟨b, 0, none⟩)) ∧ aget fr' 1 = some (.func (.yield lp) #[] #[]))) (vcPl_ok (tab_of tab_ok) (K := fun fr' w' => aget fr' 61 = some (.func (.yield lp) #[] #[]) ∧ ∃ B cB, aget fr' 73 = some (.agg (mgA m B cB dn)) ∧ Below w7.heap.size w7 w' ∧ RowK w' K1 1 eByte B dd.b ∧ aget fr' 0 = some (.pointer (some ⟨b, 0, none⟩)) ∧ aget fr' 1 = some (.func (.yield lp) #[] #[])) (fun fr' a' w' hr' hk' => ⟨rfl, fr', hr', hk'⟩) _ (by kernel_rfl) ?_ hr) ?_
        · skip
          repeat ((conv => whnf); first | (refine VLoad.mk _ V0 ?_) | (refine VLoad.mk _ V1 ?_) | (refine VLoad.mk _ V2 ?_) | (refine VLoad.mk _ V3 ?_) | (refine VCmp.tt (by omega) ?_) | (refine VCmp.ff (by omega) ?_) | (refine VIn.mk (IntWalk.i64_in _ (by omega)) ?_) | (refine VIdx.mk _ rfl (by omega) ?_) | (refine VIdx.mk 0 rfl (by omega) ?_))
          try (conv => whnf)
          refine VApp.rows w7.heap.size 1 1 _ Try.underlying27 info5 rfl (by decide) eByte (fun _ => rfl) one_eByte [] dd.b rfl hdl (owns_nil _ _ _ _ _) (N := w7.heap.size) (fun hl => (by obtain ⟨g, off, e, g1, -, g3⟩ := hrow7 hl; exact ⟨g, off, e, g1, g3⟩)) (by omega) (by omega) (Nat.le_refl _) fun B' cB' w8 oB hg8 _ => ?_
          rw [Nat.zero_add]
          rw [List.nil_append] at oB
          have c8 : Below w7.heap.size w7 w8 := Below.trans (Below.refl _ w7).drew ((Below.refl _ w7.drew).grown hg8 (Nat.le_refl _) fun k hk => by cases hk)
          have hs8 : Sm [b, x4, x5] w7 w8 := .below c8 hin7
          have hrow8 : RowK w8 K1 1 eByte B' dd.b := RowK.owns oB (fun _ => rfl) fun y hy => A7.kz y hy
          repeat ((conv => whnf); first | (refine VS.mk hs8 ?_) | (refine VCmp.tt (by omega) ?_) | (refine VCmp.ff (by omega) ?_) | (refine VIn.mk (IntWalk.i64_in _ (by omega)) ?_) | (refine VIdx.mk _ rfl (by omega) ?_) | (refine VIdx.mk 0 rfl (by omega) ?_))
          try (conv => whnf)
          refine VBuild.mk (.agg (mgA m B' cB' dn)) (fun W' => by rw [build83 W' o7.done x.s x.q B' dn cB', hm, hd7]) ?_
          repeat ((conv => whnf); first | (refine VCmp.tt (by omega) ?_) | (refine VCmp.ff (by omega) ?_) | (refine VIn.mk (IntWalk.i64_in _ (by omega)) ?_) | (refine VIdx.mk _ rfl (by omega) ?_) | (refine VIdx.mk 0 rfl (by omega) ?_))
          try (conv => whnf)
          exact ⟨rfl, B', cB', rfl, c8, hrow8, rfl, rfl⟩
        · rintro a' w' ⟨fr', hr', h61, B, cB, h73, hb7, hrow', hf0, hf1⟩
          have jw : J o7 ms K1 w' := hJs _ _ _ _ hj _ X K1 w' I7 (A7.below hb7) (q7'.trans (.below hb7))
          obtain ⟨fn, tmps, assign, body, hy, hR⟩ := hY _ _ _ _ jw m B cB dn (.snoc hd hnext) (by rw [hm]; exact hdl) (by rw [hm]; exact hrow')
          refine yield_tail tab_ok (d1 := 74) (d2 := 75) (f := 61) (x := 73) (lp := lp) (z := 13) (by kernel_rfl) (by kernel_rfl) (by kernel_rfl) rfl rfl rfl rfl rfl rfl (by kernel_rfl) rfl rfl rfl rfl (by kernel_rfl) (by kernel_rfl) hr' h61 h73 ⟨fn, tmps, assign, body, hy, hR.mono ?_⟩
          rintro e W ⟨t, he, K', hh⟩
          refine ⟨t, he, fun a2 hr2 => hkk _ a2 W hr2 ?_⟩
          rcases hh with ⟨rfl, hh⟩ | ⟨rfl, hh⟩
          · conv => whnf
            exact .mk (o7, ms ++ [m], K') ⟨hf0, hf1, trivial⟩ ⟨.snoc hd hnext, hh⟩ (by show o7.known - o7.done < o.known - o.done; omega)
          · conv => whnf
            exact .mk ⟨⟨_, rfl⟩, o7, ms ++ [m], K', .snoc hd hnext, .inr hh⟩
end
end Go.Proofs.Ytoilipfgimcoiaa
