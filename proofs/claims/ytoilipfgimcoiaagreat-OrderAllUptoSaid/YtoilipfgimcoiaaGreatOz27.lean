/- PlD PmE, joined. -/
import Derived.Test.YtoilipfgimcoiaaGreatOz26
set_option linter.unusedVariables false
set_option linter.unusedSimpArgs false
namespace Go.Proofs.YtoilipfgimcoiaaGreat
open Go Go.RowKit
section
variable {K K' K2 : Nat → Nat} {w w' w2 : World} {b T T' i : Nat} {Y Y' : PyX} {Q : Nat → Prop} {x : OpX}
def odQ (i z : Nat) : Prop := inR (rP i) z ∨ inF (rD i) z
theorem odQ_in {i z : Nat} (hi : i < 3) (h : odQ i z) : 100 ≤ z ∧ z < 300 := by unfold odQ inR inF rP rD at h; omega
theorem PlayAt.upd (H : PlayAt T w K b Y) (hi : i < 3) {p d : Nat} {o2 : Os} {X2 : OsX} (hp : Y.pb i = some p) (hd : Y.db i = some d) (r : Ro (odQ i) K K2 w w2) (kz : ∀ y, w2.heap.size ≤ y → K2 y = 0) (A2 : OrdAt w2 K2 (rP i) p o2 X2) (R2 : RO T' w2 K2 (rD i) d o2) (ht : T ≤ T') : PlayAt T' w2 K2 b Y :=
 ⟨H.py.ro r kz fun z hz => .inl (odQ_in hi hz), fun j hj => by
   by_cases e : j = i
   · subst e; exact .inr ⟨p, d, o2, X2, hp, hd, A2, R2⟩
   · exact (H.os j hj).ro r kz rfl rfl ht fun z hz => by unfold odQ inR inF rP rD at *; omega⟩
theorem RO.rerole {r d : Nat} {o : Os} (h : RO T w K r d o) (hK : ∀ y, inFB r (K y) → K' y = K y) (kz : ∀ y, w.heap.size ≤ y → K' y = 0) : RO T w K' r d o := by
 obtain ⟨f, X, h1, h2, h3, h4⟩ := h
 exact ⟨f, X, h1.rerole hK kz, h2, h3, h4⟩
theorem PlayAt.book (H : PlayAt T w K b Y) (h : BkP w K 1 b 6 Y.bk w') : StP T w K b w' := by
 obtain ⟨X', K', h1, h2, h3, h4, h5, h6⟩ := h
 have py := H.py.book h1 h2 (by rcases Nat.lt_or_ge Y.bk.ps.length 96 with h | h; have := h3 h; omega; have := h4 h; omega) h5 h6
 exact ⟨_, K', ⟨py, fun j hj => (H.os j hj).ro h2 py.bk.kz rfl rfl (Nat.le_refl _) fun z hz => by unfold rP rD; omega⟩, h2.more fun z hz => by omega⟩
theorem Dlv.bodies {o o' : Os} {ms : List Mg} (h : Dlv o ms o') (hb : ∀ e ∈ o.held, e.b.length ≤ 256) : (∀ m ∈ ms, m.b.length ≤ 256) ∧ o'.held = o.held := by
 induction h with
 | nil => exact ⟨fun m hm => (List.not_mem_nil hm).elim, rfl⟩
 | snoc h hn ih =>
   obtain ⟨-, x, d, -, hf, rfl, rfl⟩ := next_facts hn
   refine ⟨fun m hm => ?_, ih.2⟩
   rcases List.mem_append.1 hm with hm | hm
   · exact ih.1 m hm
   · rw [List.mem_singleton.1 hm]
     exact hb d (by rw [← ih.2]; exact List.mem_of_find?_eq_some hf)
def zero80 : Value := .agg #[.int .i64 0, .int .i64 0, .int .i64 0, .int .i64 0, .slice none 0 0, .int .i64 0, .int .i64 0, .int .i64 0, .int .i64 0]
theorem run_zero80 (W : World) : (zeroValue 48).run Tryz.prog W = .ok zero80 W := by kernel_rfl
theorem one_itA (y : Itm) (A : Option Addr) (c n : Nat) : (itA y A c n).all (·.oneCell') = true := by
 have : ∀ u ∈ [Value.int .i64 y.kd, .int .i64 y.s, .int .i64 y.q, .int .i64 y.st, .slice A n c, .int .i64 y.pos, .int .i64 y.sb, .int .i64 y.ss, .int .i64 y.sq], u.oneCell' = true := fun u hu => by
   simp only [List.mem_cons, List.not_mem_nil, or_false] at hu
   rcases hu with rfl | rfl | rfl | rfl | rfl | rfl | rfl | rfl | rfl <;> rfl
 exact all_oneCell_toArray this
theorem slice0 {g off c : Nat} : (if c = 0 then (some (⟨g, off, none⟩ : Addr)) else (some (⟨g, off, none⟩ : Addr)).map (·.add (0 * 1))) = some ⟨g, off, none⟩ := by
 split
 · rfl
 · rw [Nat.zero_mul, Option.map_some, Addr.add_mid, Nat.add_zero]
theorem NewO.pre {α : Type} {lo sz c : Nat} {enc : α → List Value} {A : Option Addr} {l m : List α} (h : NewO w lo sz enc A c (l ++ m)) : NewO w lo sz enc A c l := by
 rcases h with ⟨e, e1, e2⟩ | ⟨g, off, e, h1, h2, h3, h4, h5⟩
 · exact .inl ⟨e, (List.append_eq_nil_iff.1 e1).1, e2⟩
 · exact .inr ⟨g, off, e, h1, h2, by rw [List.length_append] at h3; omega, h4, fun k x hx => h5 k x (by rw [List.getElem?_append_left (List.getElem?_eq_some_iff.1 hx).1]; exact hx)⟩
set_option maxRecDepth 100000 in
set_option maxHeartbeats 16000000 in
theorem acts_any (H : PlayAt T w K b Y) (hT : T + 1 ≤ 100000) (hi : i < 3) {p d : Nat} {o : Os} {X : OsX} (hp : Y.pb i = some p) (hd : Y.db i = some d) (A : OrdAt w K (rP i) p o X) (R : RO T w K (rD i) d o) (hw : x.who = i) (O : OpAt w K x) :
   Calls Tryz.prog 16 #[.pointer (some ⟨b, 0, none⟩), .agg (opA x)] w fun e w' => e = .returned (.bool true) ∧ StP (T + 1) w K b w' := by
 refine calls_vc tab_ok Tryz.func16 rfl ?_
 obtain ⟨f, Xf, AF, hpo, S, F⟩ := R
 have W := S.wf (by omega)
 have M := S.rm (by omega)
 conv => whnf
 refine .mk fun w1 hw1 => ?_
 obtain ⟨bo, hbo⟩ : ∃ bo, bo = w.heap.size := ⟨_, rfl⟩
 rw [← hbo]
 have b1 : Below w.heap.size w w1 := by rw [hw1.out]; exact below_box1 _ _ _
 have z1 : w1.heap.size = w.heap.size + 1 := by rw [hw1.out]; simp
 have r1 : w1.rangeAt bo 0 (opA x).toList := by rw [hw1.out, hbo]; exact range_new w _ 52
 clear hw1
 have B1 := H.py.below b1
 have hbo1 : bo < w1.heap.size := by omega
 have LP := B1.l_p (l := [b, bo]) (by simp) hi
 have LD := B1.l_d (l := [b, bo]) (by simp) hi
 rw [hp] at LP
 rw [hd] at LD
 have LW : Ld Tryz.prog 3 bo 0 (Sm [b, bo] w1) (.int .i64 i) := ⟨fun W' hW => load3 (by rw [← hw]; exact cell_sm (r1 0 _ rfl) (by simp) hW)⟩
 have s1 : Sm [b, bo] w1 w1.drew := fun _ _ => rfl
 have s2 : Sm [b, bo] w1 w1.drew.drew := fun _ _ => rfl
 repeat ((conv => whnf); first | refine Xt ?_ | refine Xq ?_ | refine Xn ?_ | refine Xj ?_ | refine Xo ?_); try (conv => whnf)
 refine VDraw.pl 1000 (.stop [0, 1, 2, 3, 4, 5, 6, 7]) (Sm [b, bo] w1) (by kernel_rfl) (s1) ?_
 repeat ((conv => whnf); first | refine Xl LP ?_ | refine Xl LW ?_ | refine Xt ?_ | refine Xq ?_ | refine Xn ?_ | refine Xj ?_ | refine Xo ?_); try (conv => whnf)
 refine VDraw.pl 1000 (.stop [0, 1, 2, 3, 4, 5, 6, 7]) (Sm [b, bo] w1) (by kernel_rfl) (s2) ?_
 repeat ((conv => whnf); first | refine Xl LD ?_ | refine Xl LW ?_ | refine Xt ?_ | refine Xq ?_ | refine Xn ?_ | refine Xj ?_ | refine Xo ?_); try (conv => whnf)
 have bd0 : Below w.heap.size w w1.drew.drew := b1.drew.drew
 have rd0 : w1.drew.drew.rangeAt bo 0 (opA x).toList := range_same r1 rfl
 have hbo2 : bo < w1.drew.drew.heap.size := hbo1
 clear LP LD LW s1 s2 B1
 generalize w1.drew.drew = W1 at bd0 rd0 hbo2 ⊢
 clear r1 z1 b1 hbo1
 clear w1
 have kbo : K bo = 0 := H.py.bk.kz bo (by omega)
 have LK : Ld Tryz.prog 3 bo 1 (Eq W1) (.int .i64 x.kind) := .of (load3 (rd0 1 _ rfl))
 have H1 := H.below bd0
 have A1 := A.below bd0
 have F1 := AF.below bd0
 have O1 := O.ro (Ro.below (R := fun _ => False) bd0) id
 have kz1 := H1.py.bk.kz
 have q01 : Ro (odQ i) K K w W1 := .below bd0
 have hne : ∀ z, odQ i z → z ≠ 0 := fun z hz => by have := odQ_in hi hz; omega
 have nP : ∀ z, inFB (rD i) z → ¬ inR (rP i) z := fun z h e => by unfold inFB inR rD rP at *; omega
 have nD : ∀ z, inB (rP i) z → ¬ inF (rD i) z := fun z h e => by unfold inB inF rD rP at *; omega
 have n0P : ¬ inR (rP i) 0 := fun e => by unfold inR rP at e; omega
 have n0D : ¬ inF (rD i) 0 := fun e => by unfold inF rD at e; omega
 have sW1 := bd0.size
 clear A AF
 repeat ((conv => whnf); first | refine Xl LK ?_ | refine Xt ?_ | refine Xq ?_ | refine Xn ?_ | refine Xj ?_ | refine Xo ?_); try (conv => whnf)
 by_cases k2 : x.kind = 2
 · skip
   have LB : ∀ {y : World}, y.heap[bo]? = W1.heap[bo]? → Ld Tryz.prog 42 bo 9 (Eq y) (.slice x.bA x.bd.length x.bc) := fun h => .of (load27 ((World.cell?_of_block (a := ⟨bo, 9, none⟩) h).trans (rd0 9 _ rfl)))
   repeat ((conv => whnf); first | refine Xl (LB rfl) ?_ | refine Xt ?_ | refine Xq ?_ | refine Xn ?_ | refine Xj ?_ | refine Xo ?_); try (conv => whnf)
   refine VCall.mk _ (loose_any x.bd W1 rfl O1.bd.row O1.l2) ?_
   rintro _ y1 ⟨A0, c0, rfl, nL, e1⟩
   refine ⟨_, rfl, ?_⟩
   obtain ⟨gl, ol, eL⟩ : ∃ gl ol, A0 = some ⟨gl, ol, none⟩ := by
     rcases nL with ⟨_, h, _⟩ | ⟨g, off, e, _⟩
     · have := congrArg List.length h
       rw [List.length_append, pats_len] at this
       simp at this
     · exact ⟨g, off, e⟩
   subst eL
   have s1 := e1.size
   have lL := nL.lo' gl rfl
   have hcL : x.bd.length + 64 ≤ c0 := by
     rcases nL with ⟨h, _⟩ | ⟨g, off, e, _, _, h3, _⟩
     · cases h
     · rw [List.length_append, pats_len] at h3; exact h3
   repeat ((conv => whnf); first | refine Xl (LB (e1.block bo hbo2)) ?_ | refine Xt ?_ | refine Xq ?_ | refine Xn ?_ | refine Xj ?_ | refine Xo ?_); try (conv => whnf)
   refine .mk 0 x.bd.length rfl rfl (Nat.zero_le _) (by omega) ?_
   rw [slice0, Nat.sub_zero, Nat.sub_zero]
   have A2 := A1.below e1
   have F2 := F1.below e1
   have nLp : NewO y1 W1.heap.size 1 eByte (some ⟨gl, ol, none⟩) c0 x.bd := nL.pre
   have htk := M.tk o.self
   repeat ((conv => whnf); first | refine Xt ?_ | refine Xq ?_ | refine Xn ?_ | refine Xj ?_ | refine Xo ?_); try (conv => whnf)
   refine VCall.mk _ (send_any A2 W x.bd htk (fun e he h => by
     have h1 := W.hq e he
     have h2 : e.s = o.self := congrArg Sl.s h
     have h3 : e.q = o.taken o.self + 1 := congrArg Sl.q h
     rw [h2] at h1; omega) M.ql rfl nLp.row) ?_
   rintro _ y2 ⟨B1, d1, rfl, ow, K2, X2, A3, q3, kB⟩
   refine ⟨_, rfl, ?_⟩
   have s3 := q3.size
   obtain ⟨sd, hsd⟩ : ∃ sd, sd = o.send x.bd := ⟨_, rfl⟩
   rw [← hsd] at ow A3 ⊢
   have nB1 : NewO y2 y1.heap.size 1 eByte B1 d1 sd.1.b := NewO.owns ow (fun _ => rfl)
   have lB := nB1.lo'
   have F3 := F2.ro q3 A3.kz nP
   have kbo3 : K2 bo = 0 := (q3.kk bo (by omega)).trans kbo
   have bo3 : y2.heap[bo]? = W1.heap[bo]? := (q3.same bo (by omega) (by rw [kbo]; exact n0P)).trans (e1.block bo hbo2)
   repeat ((conv => whnf); first | refine Xt ?_ | refine Xq ?_ | refine Xn ?_ | refine Xj ?_ | refine Xo ?_); try (conv => whnf)
   refine .mk _ run_zero71 ?_
   conv => whnf
   refine .mk fun u hu => ?_
   repeat ((conv => whnf); first | refine Xt ?_ | refine Xq ?_ | refine Xn ?_ | refine Xj ?_ | refine Xo ?_); try (conv => whnf)
   obtain ⟨g1, hg1⟩ : ∃ g1, g1 = y2.heap.size := ⟨_, rfl⟩
   refine VStore.new (c' := dtA sd.1 B1 d1 sd.1.b.length) hu (by kernel_rfl) rfl (one_dtA _ _ _ _) fun y3 hy3 => ?_
   rw [← hg1]
   have e3 : Below y2.heap.size y2 y3 := by rw [hy3.out]; exact (Below.refl _ _).alloc (Nat.le_refl _) _
   have zz3 : y3.heap.size = y2.heap.size + 1 := by rw [hy3.out]; exact World.size_alloc _ _
   have rg1 : y3.rangeAt g1 0 (dtA sd.1 B1 d1 sd.1.b.length).toList := by rw [hy3.out, hg1]; exact range_new y2 _ 44
   clear hy3 hu
   clear u
   have A4 := A3.below e3
   have F4 := F3.below e3
   have bo4 : y3.heap[bo]? = W1.heap[bo]? := (e3.block bo (by omega)).trans bo3
   have hBd : RowAt y3 y3.heap.size 1 eByte x.bA x.bd := ((O1.bd.ro (Ro.below (R := fun _ => False) e1) id).ro (q3.trans (.below e3)) n0P).row
   repeat ((conv => whnf); first | refine Xl (LB bo4) ?_ | refine Xt ?_ | refine Xq ?_ | refine Xn ?_ | refine Xj ?_ | refine Xo ?_); try (conv => whnf)
   refine VCall.mk _ (rsend_any F4 hpo S F hT x.bd rfl hBd) ?_
   rintro _ y4 ⟨B2, d2, rfl, rB2, K4, R4, q4, kz4⟩
   refine ⟨_, rfl, ?_⟩
   rw [← hsd] at rB2 R4 ⊢
   have s4 := q4.size
   have A5 := A4.ro q4 kz4 n0D nD
   repeat ((conv => whnf); first | refine Xt ?_ | refine Xq ?_ | refine Xn ?_ | refine Xj ?_ | refine Xo ?_); try (conv => whnf)
   refine .mk _ run_zero71 ?_
   conv => whnf
   refine .mk fun u hu => ?_
   repeat ((conv => whnf); first | refine Xt ?_ | refine Xq ?_ | refine Xn ?_ | refine Xj ?_ | refine Xo ?_); try (conv => whnf)
   obtain ⟨g2, hg2⟩ : ∃ g2, g2 = y4.heap.size := ⟨_, rfl⟩
   refine VStore.new (c' := dtA sd.1 B2 d2 sd.1.b.length) hu (by kernel_rfl) rfl (one_dtA _ _ _ _) fun y5 hy5 => ?_
   rw [← hg2]
   have e5 : Below y4.heap.size y4 y5 := by rw [hy5.out]; exact (Below.refl _ _).alloc (Nat.le_refl _) _
   have zz5 : y5.heap.size = y4.heap.size + 1 := by rw [hy5.out]; exact World.size_alloc _ _
   have rg2 : y5.rangeAt g2 0 (dtA sd.1 B2 d2 sd.1.b.length).toList := by rw [hy5.out, hg2]; exact range_new y4 _ 44
   clear hy5 hu
   clear u
   have k2g1 : K2 g1 = 0 := A3.kz g1 (by omega)
   have k4g1 : K4 g1 = 0 := (q4.kk g1 (by omega)).trans k2g1
   have rg1' : y5.rangeAt g1 0 (dtA sd.1 B1 d1 sd.1.b.length).toList := range_same (range_same rg1 (q4.same g1 (by omega) (by rw [k2g1]; exact n0D))) (e5.block g1 (by omega))
   have bo5 : y5.heap[bo]? = W1.heap[bo]? := ((e5.block bo (by omega)).trans (q4.same bo (by omega) (by rw [kbo3]; exact n0D))).trans bo4
   have q25 : Ro (fun z => odQ i z) K K4 y1 y5 := ((q3.trans (.below e3)).more fun z e => .inl e).trans ((q4.more fun z e => .inr e).trans (.below e5))
   have n0o : ¬ odQ i 0 := fun e => hne 0 e rfl
   have oL : OwnO y5 K4 0 1 eByte (some ⟨gl, ol, none⟩) c0 (x.bd ++ pats 7000000 64) := (nL.own (q := 0) (K := K) fun g hg => H.py.bk.kz g (by have := nL.lo' g hg; omega)).ro q25 n0o
   have oB : OwnO y5 K4 0 1 eByte B1 d1 sd.1.b := ((nB1.own kB).ro ((Ro.below (R := inF (rD i)) e3).trans q4) n0D).ro (Ro.below (R := fun _ => False) e5) id
   have hlen : sd.1.b.length ≤ 256 := by
     rw [hsd]
     unfold Os.send
     split
     · exact Nat.zero_le _
     split
     · exact Nat.zero_le _
     split
     · exact Nat.zero_le _
     · show x.bd.length ≤ 256; omega
   repeat ((conv => whnf); first | refine Xt ?_ | refine Xq ?_ | refine Xn ?_ | refine Xj ?_ | refine Xo ?_); try (conv => whnf)
   refine VCall.mk _ (num_any _ y5) ?_
   rintro _ _ ⟨rfl, rfl⟩
   refine ⟨_, rfl, ?_⟩
   rename_i y5
   have LG1 : Ld Tryz.prog 44 g1 0 (Eq y5) (.agg (dtA sd.1 B1 d1 sd.1.b.length)) := .of (load_agg (by kernel_rfl) (by kernel_rfl) rg1')
   have LG2 : Ld Tryz.prog 44 g2 0 (Eq y5) (.agg (dtA sd.1 B2 d2 sd.1.b.length)) := .of (load_agg (by kernel_rfl) (by kernel_rfl) rg2)
   repeat ((conv => whnf); first | refine Xl LG1 ?_ | refine Xl LG2 ?_ | refine Xt ?_ | refine Xq ?_ | refine Xn ?_ | refine Xj ?_ | refine Xo ?_); try (conv => whnf)
   refine VCall.mk _ (sameData_any sd.1 sd.1 B1 B2 d1 d2 _ _ y5 rfl rfl oB.row ((rB2.below e5 (Nat.le_refl _)).more e5.size) (by omega)) ?_
   rintro _ y7 ⟨rfl, e7⟩
   refine ⟨_, rfl, ?_⟩
   rw [sameD_eq.2 (rfl : sd.1 = sd.1)]
   have s7 := e7.size
   repeat ((conv => whnf); first | refine Xl (LB ((e7.block bo (by omega)).trans bo5)) ?_ | refine Xt ?_ | refine Xq ?_ | refine Xn ?_ | refine Xj ?_ | refine Xo ?_); try (conv => whnf)
   have hBd7 : RowAt y7 y7.heap.size 1 eByte x.bA x.bd := ((O1.bd.ro (Ro.below (R := fun _ => False) e1) id).ro (q25.trans (.below e7)) n0o).row
   refine VCall.mk _ (unspoilt_any x.bd y7 rfl (((oL.row).below e7 (Nat.le_refl _)).more s7) hBd7 O1.l2) ?_
   rintro _ y8 ⟨rfl, e8⟩
   refine ⟨_, rfl, ?_⟩
   have s8 := e8.size
   have w58 : Below y5.heap.size y5 y8 := e7.trans (e8.mono s7)
   obtain ⟨n, hn⟩ : ∃ n, n = Y.bk.ps.length := ⟨_, rfl⟩
   obtain ⟨K5, hK5⟩ : ∃ K5 : Nat → Nat, K5 = fun z => if z = gl then bR n 0 else if blk B1 = some z then bR n 1 else K4 z := ⟨_, rfl⟩
   have d5a : K5 gl = bR n 0 := by rw [hK5]; exact if_pos rfl
   have d5b : ∀ z, blk B1 = some z → K5 z = bR n 1 := fun z hz => by
     rw [hK5]
     show (if z = gl then _ else _) = _
     rw [if_neg (by have := lB z hz; omega), if_pos hz]
   have k4gl : K4 gl = 0 := (oL.rl gl rfl).2
   have cases5 : ∀ z, K5 z = K4 z ∨ (W1.heap.size ≤ z ∧ z < y2.heap.size ∧ K4 z = 0) := fun z => by
     by_cases h1 : z = gl
     · exact .inr ⟨by omega, by omega, by rw [h1]; exact k4gl⟩
     by_cases h2 : blk B1 = some z
     · exact .inr ⟨by have := lB z h2; omega, by have := lB z h2; omega, (oB.rl z h2).2⟩
     · exact .inl (by rw [hK5]; show (if z = gl then _ else _) = _; rw [if_neg h1, if_neg h2])
   have kz5 : ∀ z, y8.heap.size ≤ z → K5 z = 0 := fun z hz => by
     rcases cases5 z with h | h
     · rw [h]; exact kz4 z (by omega)
     · omega
   have qq : Ro (odQ i) K K5 w y8 := (((q01.trans (.below e1)).trans q25).trans (.below w58)).re fun z hz => by
     rcases cases5 z with h | h
     · exact h
     · omega
   have A6 : OrdAt y8 K5 (rP i) p sd.2.2 X2 := ((A5.below e5).below w58).rerole (fun z hz => by
     rcases cases5 z with h | ⟨_, _, h⟩
     · exact h
     · rw [h] at hz; unfold inB rP at hz; omega) kz5
   have R6 : RO (T + 1) y8 K5 (rD i) d sd.2.2 := ((R4.below e5).below w58).rerole (fun z hz => by
     rcases cases5 z with h | ⟨_, _, h⟩
     · exact h
     · rw [h] at hz; unfold inFB rD at hz; omega) kz5
   have H6 := H.upd hi hp hd qq kz5 A6 R6 (by omega)
   have oL6 : OwnO y8 K5 (bR n 0) 1 eByte (some ⟨gl, ol, none⟩) c0 (x.bd ++ pats 7000000 64) := by
     rcases oL.ro (Ro.below (R := fun _ => False) w58) id with h | ⟨g, off, e, h1, h2, h3⟩
     · exact .inl h
     · injection e with e
       injection e with e1 e2 _
       subst e1 e2
       exact .inr ⟨gl, ol, rfl, h1, d5a, h3⟩
   have oB6 : OwnO y8 K5 (bR n 1) 1 eByte B1 d1 sd.1.b := by
     rcases oB.ro (Ro.below (R := fun _ => False) w58) id with h | ⟨g, off, e, h1, h2, h3⟩
     · exact .inl h
     · exact .inr ⟨g, off, e, h1, d5b g (by rw [e]; rfl), h3⟩
   have bl := H6.py.bk.len
   have nx := H6.py.nx
   have lL2 : (x.bd ++ pats 7000000 64).length = x.bd.length + 64 := by rw [List.length_append, pats_len]
   have l2 := O1.l2
   repeat ((conv => whnf); first | refine Xt ?_ | refine Xq ?_ | refine Xn ?_ | refine Xj ?_ | refine Xo ?_); try (conv => whnf)
   refine VCall.mk _ (bwrite_any H6.py.bk (by omega) (by omega) (fun p => by omega) (x.bd ++ pats 7000000 64) lL2 (fun h => by
     have e : bR n 0 = 1000 + Y.bk.ps.length := by unfold bR; rw [if_pos (by omega)]; omega
     rw [← e]; exact oL6) (by omega) (by omega)) ?_
   rintro _ y9 ⟨rfl, X', K6, h1, h2, h3, h4, h5, h6⟩
   refine ⟨_, rfl, ?_⟩
   have py9 := H6.py.book h1 h2 (by rcases Nat.lt_or_ge Y.bk.ps.length 96 with h | h; have := h3 h; omega; have := h4 h; omega) h5 h6
   have H9 : PlayAt (T + 1) y9 K6 b { Y with bk := X' } := ⟨py9, fun j hj => (H6.os j hj).ro h2 py9.bk.kz rfl rfl (Nat.le_refl _) fun z hz => by unfold rP rD; omega⟩
   have s9 := h2.size
   have k5g1 : K5 g1 = 0 := by
     rcases cases5 g1 with h | h
     · rw [h]; exact k4g1
     · omega
   have rg9 : y9.rangeAt g1 0 (dtA sd.1 B1 d1 sd.1.b.length).toList := range_same (range_same rg1' (w58.block g1 (by omega))) (h2.same g1 (by omega) (by rw [k5g1]; omega))
   have LG9 : Ld Tryz.prog 42 g1 3 (Sm [g1] y9) (.slice B1 sd.1.b.length d1) := ⟨fun W' hW => load27 (cell_sm (rg9 3 _ rfl) (by simp) hW)⟩
   have sd9 : Sm [g1] y9 y9.drew := fun _ _ => rfl
   have dr9 : Below y9.heap.size y9 y9.drew := (Below.refl _ _).drew
   have H10 := H9.below dr9
   repeat ((conv => whnf); first | refine Xt ?_ | refine Xq ?_ | refine Xn ?_ | refine Xj ?_ | refine Xo ?_); try (conv => whnf)
   refine VDraw.pl 5 (.one [0, 1, 2, 3, 4] 5 (.stop [])) (Sm [g1] y9) (by kernel_rfl) (sd9) ?_
   repeat ((conv => whnf); first | refine Xl LG9 ?_ | refine Xt ?_ | refine Xq ?_ | refine Xn ?_ | refine Xj ?_ | refine Xo ?_); try (conv => whnf)
   refine VCall.mk _ (bhand_any H10.py.bk (by omega) (by omega) (fun p => by omega) sd.1.b rfl (fun h => by
     have h : X'.ps.length < 96 := h
     have hlt : Y.bk.ps.length < 96 := by
       rcases Nat.lt_or_ge Y.bk.ps.length 96 with h' | h'
       · exact h'
       · have := h4 h'; omega
     have e0 := h3 hlt
     have e : bR n 1 = 1000 + X'.ps.length := by unfold bR; rw [if_pos (by omega)]; omega
     show OwnO y9.drew K6 (1000 + X'.ps.length) 1 eByte B1 d1 sd.1.b
     rw [← e]
     exact (oB6.ro h2 (by rw [e]; omega)).ro (Ro.below (R := fun _ => False) dr9) id) (by omega) (by have := H10.py.nx; have := H10.py.bk.len; omega)) ?_
   rintro _ y10 ⟨rfl, hb⟩
   refine ⟨_, rfl, ?_⟩
   obtain ⟨Y3, K7, P7, q7⟩ := H10.book hb
   repeat ((conv => whnf); first | (refine VS.last rfl ?_) | refine Xt ?_ | refine Xq ?_ | refine Xn ?_ | refine Xj ?_ | refine Xo ?_); try (conv => whnf)
   exact .mk ⟨rfl, Y3, K7, P7, (((qq.more hne).trans (h2.more fun z hz => by omega)).trans (.below dr9)).trans q7⟩
 by_cases k4 : x.kind = 4
 · skip
   have LB : ∀ {y : World}, y.heap[bo]? = W1.heap[bo]? → Ld Tryz.prog 42 bo 14 (Eq y) (.slice x.iA x.it.b.length x.ic) := fun h => .of (load27 ((World.cell?_of_block (a := ⟨bo, 14, none⟩) h).trans (rd0 14 _ rfl)))
   have LI : ∀ {y : World}, y.heap[bo]? = W1.heap[bo]? → Ld Tryz.prog 48 bo 10 (Eq y) (.agg (itA x.it x.iA x.ic x.it.b.length)) := fun h => .of (load_agg (cs := (itA x.it x.iA x.ic x.it.b.length).toList) (by kernel_rfl) (by kernel_rfl) (range_sub (n := 9) (range_same rd0 h) 10 rfl))
   have LN : ∀ {y : World}, y.heap[bo]? = W1.heap[bo]? → Ld Tryz.prog 3 bo 2 (Eq y) (.int .i64 x.n) := fun h => .of (load3 ((World.cell?_of_block (a := ⟨bo, 2, none⟩) h).trans (rd0 2 _ rfl)))
   repeat ((conv => whnf); first | refine Xl (LB rfl) ?_ | refine Xt ?_ | refine Xq ?_ | refine Xn ?_ | refine Xj ?_ | refine Xo ?_); try (conv => whnf)
   refine VCall.mk _ (loose_any x.it.b W1 rfl O1.it.row O1.l3) ?_
   rintro _ y1 ⟨A0, c0, rfl, nL, e1⟩
   refine ⟨_, rfl, ?_⟩
   obtain ⟨gl, ol, eL⟩ : ∃ gl ol, A0 = some ⟨gl, ol, none⟩ := by
     rcases nL with ⟨_, h, _⟩ | ⟨g, off, e, _⟩
     · have := congrArg List.length h
       rw [List.length_append, pats_len] at this
       simp at this
     · exact ⟨g, off, e⟩
   subst eL
   have s1 := e1.size
   have lL := nL.lo' gl rfl
   have hcL : x.it.b.length + 64 ≤ c0 := by
     rcases nL with ⟨h, _⟩ | ⟨g, off, e, _, _, h3, _⟩
     · cases h
     · rw [List.length_append, pats_len] at h3; exact h3
   have bo1 : y1.heap[bo]? = W1.heap[bo]? := e1.block bo hbo2
   repeat ((conv => whnf); first | refine Xl (LI bo1) ?_ | refine Xt ?_ | refine Xq ?_ | refine Xn ?_ | refine Xj ?_ | refine Xo ?_); try (conv => whnf)
   refine .mk _ run_zero80 ?_
   conv => whnf
   refine .mk fun u hu => ?_
   repeat ((conv => whnf); first | refine Xt ?_ | refine Xq ?_ | refine Xn ?_ | refine Xj ?_ | refine Xo ?_); try (conv => whnf)
   obtain ⟨gi, hgi⟩ : ∃ gi, gi = y1.heap.size := ⟨_, rfl⟩
   refine VStore.new (c' := itA x.it x.iA x.ic x.it.b.length) hu (by kernel_rfl) rfl (one_itA _ _ _ _) fun y2 hy2 => ?_
   rw [← hgi]
   have e2 : Below y1.heap.size y1 y2 := by rw [hy2.out]; exact (Below.refl _ _).alloc (Nat.le_refl _) _
   have zz2 : y2.heap.size = y1.heap.size + 1 := by rw [hy2.out]; exact World.size_alloc _ _
   have rg2 : y2.rangeAt gi 0 (itA x.it x.iA x.ic x.it.b.length).toList := by rw [hy2.out, hgi]; exact range_new y1 _ 48
   have tg2 : y2.there gi 0 9 := by rw [hy2.out, hgi]; exact there_new y1 _ _
   clear hy2 hu
   clear u
   have bo2 : y2.heap[bo]? = W1.heap[bo]? := (e2.block bo (by omega)).trans bo1
   repeat ((conv => whnf); first | refine Xl (LB bo2) ?_ | refine Xt ?_ | refine Xq ?_ | refine Xn ?_ | refine Xj ?_ | refine Xo ?_); try (conv => whnf)
   refine .mk 0 x.it.b.length rfl rfl (Nat.zero_le _) (by omega) ?_
   rw [slice0, Nat.sub_zero, Nat.sub_zero]
   repeat ((conv => whnf); first | refine Xt ?_ | refine Xq ?_ | refine Xn ?_ | refine Xj ?_ | refine Xo ?_); try (conv => whnf)
   refine VStore.cell (by kernel_rfl) (by have := (tg2 4 (by omega)).1; rwa [Nat.zero_add] at this) (by have := (tg2 4 (by omega)).2; rwa [Nat.zero_add] at this) rfl rfl fun y3 hy3 => ?_
   obtain ⟨rg3, -⟩ := rng_cell (l' := (itA x.it (some ⟨gl, ol, none⟩) c0 x.it.b.length).toList) (j := 4) rg2 tg2 rfl (by omega) hy3.out rfl
   have g3 : y2.grownBy y3 (some gi) := by rw [hy3.out]; exact grown_cell _ _ _ _
   clear hy3
   have z3 := g3.size
   have e13 : Below y1.heap.size y1 y3 := e2.grown g3 (by omega) fun k hk => by injection hk with hk; omega
   have e03 : Below W1.heap.size W1 y3 := e1.trans (e13.mono s1)
   have bo3 : y3.heap[bo]? = W1.heap[bo]? := e03.block bo hbo2
   have nL3 := nL.below e13
   have A2 := A1.below e03
   have F2 := F1.below e03
   have LG : Ld Tryz.prog 48 gi 0 (Eq y3) (.agg (itA x.it (some ⟨gl, ol, none⟩) c0 x.it.b.length)) := .of (load_agg (by kernel_rfl) (by kernel_rfl) rg3)
   have kW : ∀ z, W1.heap.size ≤ z → K z = 0 := fun z hz => H.py.bk.kz z (by omega)
   have rLp : RowK y3 K 1 eByte (some ⟨gl, ol, none⟩) x.it.b := nL3.pre.rowK kW
   repeat ((conv => whnf); first | refine Xl (LN bo3) ?_ | refine Xl LG ?_ | refine Xt ?_ | refine Xq ?_ | refine Xn ?_ | refine Xj ?_ | refine Xo ?_); try (conv => whnf)
   refine VCall.mk _ (place_any A2 W M x.n x.it rfl rLp) ?_
   rintro _ y4 ⟨rfl, K2, X2, A3, q3⟩
   refine ⟨_, rfl, ?_⟩
   have s4 := q3.size
   have F3 := F2.ro q3 A3.kz nP
   have bo4 : y4.heap[bo]? = W1.heap[bo]? := (q3.same bo (by omega) (by rw [kbo]; exact n0P)).trans bo3
   have hBd : RowK y4 K2 1 eByte x.iA x.it.b := (O1.it.ro (Ro.below (R := fun _ => False) e03) id).ro q3 n0P
   repeat ((conv => whnf); first | refine Xl (LN bo4) ?_ | refine Xl (LI bo4) ?_ | refine Xt ?_ | refine Xq ?_ | refine Xn ?_ | refine Xj ?_ | refine Xo ?_); try (conv => whnf)
   refine VCall.mk _ (rplace_any F3 hpo S F hT x.n x.it rfl hBd O1.p1 O1.p2) ?_
   rintro _ y5 ⟨rfl, K4, R4, q4, kz4⟩
   refine ⟨_, rfl, ?_⟩
   have s5 := q4.size
   have A4 := A3.ro q4 kz4 n0D nD
   have kbo3 : K2 bo = 0 := (q3.kk bo (by omega)).trans kbo
   have bo5 : y5.heap[bo]? = W1.heap[bo]? := (q4.same bo (by omega) (by rw [kbo3]; exact n0D)).trans bo4
   have q35 : Ro (odQ i) K K4 y3 y5 := (q3.more fun z e => .inl e).trans (q4.more fun z e => .inr e)
   have n0o : ¬ odQ i 0 := fun e => hne 0 e rfl
   have oL : OwnO y5 K4 0 1 eByte (some ⟨gl, ol, none⟩) c0 (x.it.b ++ pats 7000000 64) := (nL3.own (q := 0) (K := K) fun g hg => kW g (nL.lo' g hg).1).ro q35 n0o
   repeat ((conv => whnf); first | refine Xt ?_ | refine Xq ?_ | refine Xn ?_ | refine Xj ?_ | refine Xo ?_); try (conv => whnf)
   refine VCall.mk _ (num_any _ y5) ?_
   rintro _ _ ⟨rfl, rfl⟩
   refine ⟨_, rfl, ?_⟩
   rename_i y5
   repeat ((conv => whnf); first | refine Xl (LB bo5) ?_ | refine Xt ?_ | refine Xq ?_ | refine Xn ?_ | refine Xj ?_ | refine Xo ?_); try (conv => whnf)
   have hBd5 : RowAt y5 y5.heap.size 1 eByte x.iA x.it.b := (hBd.ro q4 n0D).row
   refine VCall.mk _ (unspoilt_any x.it.b y5 rfl oL.row hBd5 O1.l3) ?_
   rintro _ y6 ⟨rfl, e6⟩
   refine ⟨_, rfl, ?_⟩
   have s6 := e6.size
   obtain ⟨τ, hτ⟩ : ∃ τ, τ = 300000 := ⟨_, rfl⟩
   obtain ⟨K5, hK5⟩ : ∃ K5 : Nat → Nat, K5 = fun z => if z = gl then τ else K4 z := ⟨_, rfl⟩
   have d5a : K5 gl = τ := by rw [hK5]; exact if_pos rfl
   have k4gl : K4 gl = 0 := (oL.rl gl rfl).2
   have cases5 : ∀ z, K5 z = K4 z ∨ (W1.heap.size ≤ z ∧ z < y1.heap.size ∧ K4 z = 0) := fun z => by
     by_cases h1 : z = gl
     · exact .inr ⟨by omega, by omega, by rw [h1]; exact k4gl⟩
     · exact .inl (by rw [hK5]; exact if_neg h1)
   have kz5 : ∀ z, y6.heap.size ≤ z → K5 z = 0 := fun z hz => by
     rcases cases5 z with h | h
     · rw [h]; exact kz4 z (by omega)
     · omega
   have qq : Ro (odQ i) K K5 w y6 := (((q01.trans (.below e03)).trans q35).trans (.below e6)).re fun z hz => by
     rcases cases5 z with h | h
     · exact h
     · omega
   have A6 : OrdAt y6 K5 (rP i) p (o.place x.n x.it).2 X2 := (A4.below e6).rerole (fun z hz => by
     rcases cases5 z with h | ⟨_, _, h⟩
     · exact h
     · rw [h] at hz; unfold inB rP at hz; omega) kz5
   have R6 : RO (T + 1) y6 K5 (rD i) d (o.place x.n x.it).2 := (R4.below e6).rerole (fun z hz => by
     rcases cases5 z with h | ⟨_, _, h⟩
     · exact h
     · rw [h] at hz; unfold inFB rD at hz; omega) kz5
   have H6 := H.upd hi hp hd qq kz5 A6 R6 (by omega)
   have oL6 : OwnO y6 K5 τ 1 eByte (some ⟨gl, ol, none⟩) c0 (x.it.b ++ pats 7000000 64) := by
     rcases oL.ro (Ro.below (R := fun _ => False) e6) id with h | ⟨g, off, e, h1, h2, h3⟩
     · exact .inl h
     · injection e with e
       injection e with e1 e2 _
       subst e1 e2
       exact .inr ⟨gl, ol, rfl, h1, d5a, h3⟩
   obtain ⟨N, hN⟩ : ∃ N, N = x.it.b.length + 64 := ⟨_, rfl⟩
   have l3 := O1.l3
   have sl6 := H6.py.sl
   rw [← hN]
   repeat ((conv => whnf); first | refine Xt ?_ | refine Xq ?_ | refine Xn ?_ | refine Xj ?_ | refine Xo ?_); try (conv => whnf)
   refine VLoop.mk Nat (fun j => [(13, .slice (some ⟨gl, ol, none⟩) N c0), (17, .bool true), (18, .int .i64 j)]) (fun j V => j ≤ N ∧ PlayAt (T + 1) V K5 b Y ∧ OwnO V K5 τ 1 eByte (some ⟨gl, ol, none⟩) c0 ([] : List Int) ∧ Ro (· = τ) K5 K5 y6 V) (fun j => N - j) 0 ⟨rfl, rfl, rfl, trivial⟩ ⟨Nat.zero_le _, H6, oL6.none_ eByte, Ro.refl _ _ _⟩ ?_
   rintro j V ⟨hj, HV, oV, qV⟩
   by_cases hjn : j < N
   case neg =>
     repeat ((conv => whnf); first | refine Xt ?_ | refine Xq ?_ | refine Xn ?_ | refine Xj ?_ | refine Xo ?_); try (conv => whnf)
     exact .mk ⟨rfl, Y, K5, HV, (qq.more hne).trans (qV.more fun z e => by omega)⟩
   have thV : V.there gl ol (c0 * 1) := by
     rcases oV with ⟨e, -⟩ | ⟨g, off, e, -, -, -, h4, -⟩
     · cases e
     · injection e with e
       injection e with e1 e2 _
       subst e1 e2
       exact h4
   have ti := thV j (by omega)
   repeat ((conv => whnf); first | refine Xt ?_ | refine Xq ?_ | refine Xn ?_ | refine Xj ?_ | refine Xo ?_); try (conv => whnf)
   refine VStore.cell (by kernel_rfl) (by rw [show ol + mulO j 1 = ol + j from rfl]; exact ti.1) (by rw [show ol + mulO j 1 = ol + j from rfl]; exact ti.2) rfl rfl fun V2 hV2 => ?_
   have q9 : Ro (· = τ) K5 K5 V V2 := by rw [hV2.out]; exact Ro.cell d5a _ _
   have oV2 : OwnO V2 K5 τ 1 eByte (some ⟨gl, ol, none⟩) c0 ([] : List Int) := by
     rcases oV with ⟨e, -⟩ | ⟨g, off, e, h1, h2, -, h4, -⟩
     · cases e
     · exact .inr ⟨g, off, e, Nat.lt_of_lt_of_le h1 q9.size, h2, Nat.zero_le _, by rw [hV2.out]; exact there_set h4 _ _, fun k y hy => by simp at hy⟩
   clear hV2
   have H9 : PlayAt (T + 1) V2 K5 b Y := HV.ro q9 (fun z hz => HV.py.bk.kz z (Nat.le_trans q9.size hz)) fun z e => by unfold shR; omega
   repeat ((conv => whnf); first | refine Xt ?_ | refine Xq ?_ | refine Xn ?_ | refine Xj ?_ | refine Xo ?_); try (conv => whnf)
   exact .mk (j + 1) ⟨rfl, rfl, rfl, trivial⟩ ⟨hjn, H9, oV2, qV.trans q9⟩ (by show N - (j + 1) < N - j; omega)
 by_cases k5 : x.kind = 5
 · skip
   have LN : Ld Tryz.prog 3 bo 2 (Eq W1) (.int .i64 x.n) := .of (load3 (rd0 2 _ rfl))
   repeat ((conv => whnf); first | refine Xl LN ?_ | refine Xt ?_ | refine Xq ?_ | refine Xn ?_ | refine Xj ?_ | refine Xo ?_); try (conv => whnf)
   refine VCall.mk _ (assign_any A1 W (S.rmA (by omega)) x.n) ?_
   rintro _ y1 ⟨A', c', rfl, ow, K1, X1, A2, q2, kA⟩
   refine ⟨_, rfl, ?_⟩
   have F2 := F1.ro q2 A2.kz nP
   have s1 := q2.size
   have bo1 : y1.heap[bo]? = W1.heap[bo]? := q2.same bo hbo2 (by rw [kbo]; exact n0P)
   have LN1 : Ld Tryz.prog 3 bo 2 (Eq y1) (.int .i64 x.n) := .of (load3 ((World.cell?_of_block (a := ⟨bo, 2, none⟩) bo1).trans (rd0 2 _ rfl)))
   repeat ((conv => whnf); first | refine Xl LN1 ?_ | refine Xt ?_ | refine Xq ?_ | refine Xn ?_ | refine Xj ?_ | refine Xo ?_); try (conv => whnf)
   refine VCall.mk _ (rassign_any F2 hpo S F (by omega) x.n) ?_
   rintro _ y2 ⟨A3', c3, rfl, r3, K3, R3, q3, kz3⟩
   refine ⟨_, rfl, ?_⟩
   have s3 := q3.size
   have A3 := A2.ro q3 kz3 n0D nD
   obtain ⟨l, hl⟩ : ∃ l, l = (o.assign x.n).1 := ⟨_, rfl⟩
   have ow' : NewO y1 W1.heap.size 9 eIS A' c' l := by rw [hl]; exact NewO.owns ow (fun _ => rfl)
   have ll : l.length ≤ 100000 := by
     rw [hl]
     unfold Os.assign
     split
     · exact Nat.zero_le _
     · rw [asgL_len]
       have := S.ql
       unfold Os.asgN; omega
   have oy2 : OwnO y2 K3 0 9 eIS A' c' l := (ow'.own kA).ro q3 n0D
   rw [← hl] at r3 ⊢
   repeat ((conv => whnf); first | refine Xt ?_ | refine Xq ?_ | refine Xn ?_ | refine Xj ?_ | refine Xo ?_); try (conv => whnf)
   refine VCall.mk _ (sameItems_any A' A3' c' c3 l.length y2.heap.size l y2 rfl (Nat.le_refl _) oy2.row r3 (by omega)) ?_
   rintro _ y3 ⟨rfl, b3⟩
   refine ⟨_, rfl, ?_⟩
   have s4 := b3.size
   obtain ⟨k, hk⟩ : ∃ k, k = Y.sh.length := ⟨_, rfl⟩
   obtain ⟨K4, hK4⟩ : ∃ K4 : Nat → Nat, K4 = fun z => if blk A' = some z then shR k + 2 else K3 z := ⟨_, rfl⟩
   have lA := ow'.lo'
   have d4 : ∀ z, blk A' = some z → K4 z = shR k + 2 := fun z hz => by rw [hK4]; exact if_pos hz
   have o4 : ∀ z, blk A' ≠ some z → K4 z = K3 z := fun z hz => by rw [hK4]; exact if_neg hz
   have k3A : ∀ z, blk A' = some z → K3 z = 0 := fun z hz => (q3.kk z (lA z hz).2).trans (kA z hz)
   have kz4 : ∀ z, y3.heap.size ≤ z → K4 z = 0 := fun z hz => (o4 z fun e => by have := lA z e; omega).trans (kz3 z (by omega))
   have qq : Ro (odQ i) K K4 w y3 := (((q01.trans (q2.more fun z e => .inl e)).trans (q3.more fun z e => .inr e)).trans (.below b3)).re fun z hz => o4 z fun e => by have := lA z e; omega
   have A4 : OrdAt y3 K4 (rP i) p (o.assign x.n).2 X1 := (A3.below b3).rerole (fun z hz => o4 z fun e => by rw [k3A z e] at hz; unfold inB rP at hz; omega) kz4
   have R4 : RO (T + 1) y3 K4 (rD i) d (o.assign x.n).2 := ((R3.below b3).rerole (fun z hz => o4 z fun e => by rw [k3A z e] at hz; unfold inFB rD at hz; omega) kz4).more (by omega)
   have H4 := H.upd hi hp hd qq kz4 A4 R4 (by omega)
   have ow4 : OwnO y3 K4 (shR k + 2) 9 eIS A' c' l := by
     rcases oy2.ro (Ro.below (R := fun _ => False) b3) id with h | ⟨g, off, e, h1, h2, h3⟩
     · exact .inl h
     · exact .inr ⟨g, off, e, h1, d4 g (by rw [e]; rfl), h3⟩
   have LS := H4.py.l_sheets (l := [b]) (by simp)
   have sh36 := H4.py.sl
   repeat ((conv => whnf); first | refine Xt ?_ | refine Xq ?_ | refine Xn ?_ | refine Xj ?_ | refine Xo ?_); try (conv => whnf)
   refine VBuild.mk _ (fun W' => build62i W' A' l.length c') ?_
   repeat ((conv => whnf); first | refine Xl (LS.at (Sm.refl _ _)) ?_ | refine Xt ?_ | refine Xq ?_ | refine Xn ?_ | refine Xj ?_ | refine Xo ?_); try (conv => whnf)
   refine VQ.bin rfl rfl rfl (fun _ => rfl) (fun W => rem_nat W Y.sh.length 2 (by omega) (by omega)) ?_
   have fin : ∀ t : Bool, Calls Tryz.prog 50 #[.pointer (some ⟨b, 0, none⟩), .agg (shA ⟨ls0, ls0, ⟨A', l.length, c', none, 0, 0, none, 0, 0⟩, ls0, ls0, 0, false⟩), .bool t] y3 fun e w' => e = .returned (.tuple #[]) ∧ StP (T + 1) w K b w' := fun t => by
     refine Calls.mono (keep_any' H4.py t _ rfl ⟨rfl, rfl, rfl⟩ ⟨rfl, rfl, rfl⟩ ⟨rfl, rfl, rfl⟩ ⟨rfl, rfl, rfl⟩ ⟨rfl, rfl, rfl⟩ [] [] l [] [] rfl rfl rfl rfl rfl (Nat.zero_le _) (Nat.zero_le _) (by omega) (Nat.zero_le _) (Nat.zero_le _) (fun _ => OwnO.nil _ _ _ _ _) (fun _ => OwnO.nil _ _ _ _ _) (fun _ => by rw [← hk]; exact ow4) (fun _ => OwnO.nil _ _ _ _ _) (fun _ => OwnO.nil _ _ _ _ _) (fun _ j y hy => by simp at hy) (fun _ j y hy => by simp at hy)) ?_
     rintro e v1 ⟨rfl, Y2, K5, P2, ep2, ed2, q5, -, -⟩
     exact ⟨rfl, Y2, K5, H4.kept P2 ep2 ed2 q5, (qq.more hne).trans (q5.more fun _ e => kpQ_ne e)⟩
   by_cases hm : Y.sh.length % 2 = 0
   · rw [hm]
     repeat ((conv => whnf); first | refine Xt ?_ | refine Xq ?_ | refine Xn ?_ | refine Xj ?_ | refine Xo ?_); try (conv => whnf)
     refine VCall.mk _ (fin true) ?_
     rintro _ v1 ⟨rfl, hv⟩
     refine ⟨_, rfl, ?_⟩
     repeat ((conv => whnf); first | refine Xt ?_ | refine Xq ?_ | refine Xn ?_ | refine Xj ?_ | refine Xo ?_); try (conv => whnf)
     exact .mk ⟨rfl, hv⟩
   · rw [show Y.sh.length % 2 = 1 by omega]
     repeat ((conv => whnf); first | refine Xt ?_ | refine Xq ?_ | refine Xn ?_ | refine Xj ?_ | refine Xo ?_); try (conv => whnf)
     refine VCall.mk _ (fin false) ?_
     rintro _ v1 ⟨rfl, hv⟩
     refine ⟨_, rfl, ?_⟩
     repeat ((conv => whnf); first | refine Xt ?_ | refine Xq ?_ | refine Xn ?_ | refine Xj ?_ | refine Xo ?_); try (conv => whnf)
     exact .mk ⟨rfl, hv⟩
 by_cases k6 : x.kind = 6
 · skip
   have LN : Ld Tryz.prog 3 bo 2 (Eq W1) (.int .i64 x.n) := .of (load3 (rd0 2 _ rfl))
   repeat ((conv => whnf); first | refine Xl LN ?_ | refine Xt ?_ | refine Xq ?_ | refine Xn ?_ | refine Xj ?_ | refine Xo ?_); try (conv => whnf)
   refine VCall.mk _ (deliver_any A1 (S.dvI (by omega)) M.dk x.n) ?_
   rintro _ y1 ⟨ms, o', xs, A', c', K1, X1, rfl, dv, A2, q2, nA, hxs, nB, ap, kA⟩
   refine ⟨_, rfl, ?_⟩
   have F2 := F1.ro q2 A2.kz nP
   have s1 := q2.size
   have bo1 : y1.heap[bo]? = W1.heap[bo]? := q2.same bo hbo2 (by rw [kbo]; exact n0P)
   have LN1 : Ld Tryz.prog 3 bo 2 (Eq y1) (.int .i64 x.n) := .of (load3 ((World.cell?_of_block (a := ⟨bo, 2, none⟩) bo1).trans (rd0 2 _ rfl)))
   repeat ((conv => whnf); first | refine Xl LN1 ?_ | refine Xt ?_ | refine Xq ?_ | refine Xn ?_ | refine Xj ?_ | refine Xo ?_); try (conv => whnf)
   refine VCall.mk _ (rdeliver_any F2 hpo S F (by omega) x.n) ?_
   rintro _ y2 ⟨ms2, o2, xs2, A3', c3, rfl, dv2, r3, hxs2, rB3, K3, R3, q3, kz3⟩
   refine ⟨_, rfl, ?_⟩
   obtain ⟨em, eo⟩ := dv.uniq dv2
   rw [← eo] at R3
   have hms : xs.map (·.m) = xs2.map (·.m) := by rw [hxs, hxs2, em]
   have hxl : xs.length = ms.length := by rw [← hxs, List.length_map]
   have hxl2 : xs2.length = ms.length := by rw [em, ← hxs2, List.length_map]
   rw [← em, ← hxl]
   have s3 := q3.size
   have A3 := A2.ro q3 kz3 n0D nD
   have hdv : ms.length ≤ 100000 ∧ ∀ m ∈ ms, m.b.length ≤ 256 := by
     have hbl : ∀ e ∈ o.held, e.b.length ≤ 256 := fun e he => by rw [S.hd] at he; exact S.bl e (List.mem_filter.1 he).1
     rcases dv with ⟨-, e, -⟩ | ⟨-, -, o1, dl, -, -, -⟩
     · rw [e]; exact ⟨Nat.zero_le _, fun m hm => (List.not_mem_nil hm).elim⟩
     · have h1 := dl.done
       have h2 := dl.known M.dk
       have h3 := S.known
       have h4 := S.T2
       exact ⟨by omega, (dl.bodies hbl).1⟩
   have rows : ∀ {α : Type} {sz : Nat} {enc : α → List Value} {A9 : Option Addr} {c9 : Nat} {l9 : List α}, NewO y1 W1.heap.size sz enc A9 c9 l9 → (∀ g, blk A9 = some g → K1 g = 0) → OwnO y2 K3 0 sz enc A9 c9 l9 := fun {α sz enc A9 c9 l9} h hk => (h.own hk).ro q3 n0D
   have oA := rows nA (kA A' List.mem_cons_self)
   have kB : ∀ u ∈ xs, ∀ g, blk u.A = some g → K1 g = 0 := fun u hu => kA u.A (List.mem_cons_of_mem _ (List.mem_map.2 ⟨u, hu, rfl⟩))
   repeat ((conv => whnf); first | refine Xt ?_ | refine Xq ?_ | refine Xn ?_ | refine Xj ?_ | refine Xo ?_); try (conv => whnf)
   refine VCall.mk _ (sameMsgs_any A' A3' c' c3 xs.length y2.heap.size xs xs2 y2 rfl hms (Nat.le_refl _) oA.row r3 (fun u hu => (rows (nB u hu) (kB u hu)).row) rB3 (fun u hu => by have := hdv.2 u.m (by rw [← hxs]; exact List.mem_map.2 ⟨u, hu, rfl⟩); omega) (by omega)) ?_
   rintro _ y3 ⟨rfl, b3⟩
   refine ⟨_, rfl, ?_⟩
   have s4 := b3.size
   obtain ⟨k, hk⟩ : ∃ k, k = Y.sh.length := ⟨_, rfl⟩
   obtain ⟨n, hn⟩ : ∃ n, n = Y.bk.ps.length := ⟨_, rfl⟩
   obtain ⟨K4, hK4⟩ : ∃ K4, K4 = asR A' (xs.map (·.A)) (shR k + 3) n K3 := ⟨_, rfl⟩
   have lA : ∀ a ∈ A' :: xs.map (·.A), ∀ z, blk a = some z → W1.heap.size ≤ z ∧ z < y1.heap.size := fun a ha z hz => by
     rcases List.mem_cons.1 ha with rfl | ha
     · exact nA.lo' z hz
     · obtain ⟨u, hu, rfl⟩ := List.mem_map.1 ha
       exact (nB u hu).lo' z hz
   have cases4 : ∀ z, K4 z = K3 z ∨ (W1.heap.size ≤ z ∧ z < y1.heap.size ∧ K3 z = 0) := fun z => by
     by_cases h : ∃ a ∈ A' :: xs.map (·.A), blk a = some z
     · obtain ⟨a, ha, hz⟩ := h
       exact .inr ⟨(lA a ha z hz).1, (lA a ha z hz).2, (q3.kk z (lA a ha z hz).2).trans (kA a ha z hz)⟩
     · exact .inl (by rw [hK4]; exact asR_o fun a ha e => h ⟨a, ha, e⟩)
   have kz4 : ∀ z, y3.heap.size ≤ z → K4 z = 0 := fun z hz => by
     rcases cases4 z with h | h
     · rw [h]; exact kz3 z (by omega)
     · omega
   have qq : Ro (odQ i) K K4 w y3 := (((q01.trans (q2.more fun z e => .inl e)).trans (q3.more fun z e => .inr e)).trans (.below b3)).re fun z hz => by
     rcases cases4 z with h | h
     · exact h
     · omega
   have A4 : OrdAt y3 K4 (rP i) p o' X1 := (A3.below b3).rerole (fun z hz => by
     rcases cases4 z with h | ⟨_, _, h⟩
     · exact h
     · rw [h] at hz; unfold inB rP at hz; omega) kz4
   have R4 : RO (T + 1) y3 K4 (rD i) d o' := ((R3.below b3).rerole (fun z hz => by
     rcases cases4 z with h | ⟨_, _, h⟩
     · exact h
     · rw [h] at hz; unfold inFB rD at hz; omega) kz4).more (by omega)
   have H4 := H.upd hi hp hd qq kz4 A4 R4 (by omega)
   have own4 : ∀ {α : Type} {sz ρ : Nat} {enc : α → List Value} {A9 : Option Addr} {c9 : Nat} {l9 : List α}, OwnO y2 K3 0 sz enc A9 c9 l9 → (∀ g, blk A9 = some g → K4 g = ρ) → OwnO y3 K4 ρ sz enc A9 c9 l9 := fun {α sz ρ enc A9 c9 l9} h hk => by
     rcases h.ro (Ro.below (R := fun _ => False) b3) id with h | ⟨g, off, e, h1, h2, h3⟩
     · exact .inl h
     · exact .inr ⟨g, off, e, h1, hk g (by rw [e]; rfl), h3⟩
   have LS := H4.py.l_sheets (l := [b]) (by simp)
   have sh36 := H4.py.sl
   repeat ((conv => whnf); first | refine Xt ?_ | refine Xq ?_ | refine Xn ?_ | refine Xj ?_ | refine Xo ?_); try (conv => whnf)
   refine VBuild.mk _ (fun W' => build62m W' A' xs.length c') ?_
   repeat ((conv => whnf); first | refine Xl (LS.at (Sm.refl _ _)) ?_ | refine Xt ?_ | refine Xq ?_ | refine Xn ?_ | refine Xj ?_ | refine Xo ?_); try (conv => whnf)
   refine VQ.bin rfl rfl rfl (fun _ => rfl) (fun W => rem_nat W Y.sh.length 2 (by omega) (by omega)) ?_
   have fin : ∀ t : Bool, Calls Tryz.prog 50 #[.pointer (some ⟨b, 0, none⟩), .agg (shA ⟨ls0, ls0, ls0, ⟨A', xs.length, c', none, 0, 0, none, 0, 0⟩, ls0, 0, false⟩), .bool t] y3 fun e w' => e = .returned (.tuple #[]) ∧ StP (T + 1) w K b w' := fun t => by
     refine Calls.mono (keep_any' H4.py t _ rfl ⟨rfl, rfl, rfl⟩ ⟨rfl, rfl, rfl⟩ ⟨rfl, rfl, rfl⟩ ⟨rfl, rfl, rfl⟩ ⟨rfl, rfl, rfl⟩ [] [] [] xs [] rfl rfl rfl rfl rfl (Nat.zero_le _) (Nat.zero_le _) (Nat.zero_le _) (by omega) (Nat.zero_le _) (fun _ => OwnO.nil _ _ _ _ _) (fun _ => OwnO.nil _ _ _ _ _) (fun _ => OwnO.nil _ _ _ _ _) (fun _ => by rw [← hk]; exact own4 oA fun g hg => by rw [hK4]; exact asR_A hg) (fun _ => OwnO.nil _ _ _ _ _) (fun _ j u hu => ⟨by have := hdv.2 u.m (by rw [← hxs]; exact List.mem_map.2 ⟨u, List.mem_of_getElem? hu, rfl⟩); omega, by rw [← hn]; exact own4 (rows (nB u (List.mem_of_getElem? hu)) (kB u (List.mem_of_getElem? hu))) fun g hg => by rw [hK4]; exact asR_b ap (by rw [List.getElem?_map, hu]; rfl) hg⟩) (fun _ j y hy => by simp at hy)) ?_
     rintro e v1 ⟨rfl, Y2, K5, P2, ep2, ed2, q5, -, -⟩
     exact ⟨rfl, Y2, K5, H4.kept P2 ep2 ed2 q5, (qq.more hne).trans (q5.more fun _ e => kpQ_ne e)⟩
   by_cases hm : Y.sh.length % 2 = 0
   · rw [hm]
     repeat ((conv => whnf); first | refine Xt ?_ | refine Xq ?_ | refine Xn ?_ | refine Xj ?_ | refine Xo ?_); try (conv => whnf)
     refine VCall.mk _ (fin true) ?_
     rintro _ v1 ⟨rfl, hv⟩
     refine ⟨_, rfl, ?_⟩
     repeat ((conv => whnf); first | refine Xt ?_ | refine Xq ?_ | refine Xn ?_ | refine Xj ?_ | refine Xo ?_); try (conv => whnf)
     exact .mk ⟨rfl, hv⟩
   · rw [show Y.sh.length % 2 = 1 by omega]
     repeat ((conv => whnf); first | refine Xt ?_ | refine Xq ?_ | refine Xn ?_ | refine Xj ?_ | refine Xo ?_); try (conv => whnf)
     refine VCall.mk _ (fin false) ?_
     rintro _ v1 ⟨rfl, hv⟩
     refine ⟨_, rfl, ?_⟩
     repeat ((conv => whnf); first | refine Xt ?_ | refine Xq ?_ | refine Xn ?_ | refine Xj ?_ | refine Xo ?_); try (conv => whnf)
     exact .mk ⟨rfl, hv⟩
 by_cases k9 : x.kind = 9
 · skip
   have sd : Sm [b, bo] W1 W1.drew := fun _ _ => rfl
   have LN : Ld Tryz.prog 3 bo 2 (Sm [b, bo] W1) (.int .i64 x.n) := ⟨fun W' hW => load3 (cell_sm (rd0 2 _ rfl) (by simp) hW)⟩
   have LS : Ld Tryz.prog 50 bo 19 (Sm [b, bo] W1) (.agg (sbA x.st)) := ⟨fun W' hW => load_agg (cs := (sbA x.st).toList) (by kernel_rfl) (by kernel_rfl) (range_sub (n := 6) (range_same rd0 (hW bo (by simp))) 19 rfl)⟩
   have bdr : Below W1.heap.size W1 W1.drew := (Below.refl _ W1).drew
   have hlb : ∀ y ∈ [b, bo], y < W1.heap.size ∧ ¬ odQ i (K y) := fun y hy => by
     simp only [List.mem_cons, List.not_mem_nil, or_false] at hy
     rcases hy with rfl | rfl
     · exact ⟨H1.py.hb, by rw [H1.py.kb]; intro e; have := odQ_in hi e; omega⟩
     · exact ⟨hbo2, by rw [kbo]; intro e; exact hne 0 e rfl⟩
   repeat ((conv => whnf); first | refine Xt ?_ | refine Xq ?_ | refine Xn ?_ | refine Xj ?_ | refine Xo ?_); try (conv => whnf)
   refine VDraw.pl 1000 (.one [0, 1, 2, 3, 4, 7, 8, 9, 10, 11] 5 (.one [] 6 (.one [] 12 (.stop [13, 14])))) (Sm [b, bo] W1) (by kernel_rfl) (sd) ?_
   repeat ((conv => whnf); first | refine Xl LN ?_ | refine Xl LS ?_ | refine Xt ?_ | refine Xq ?_ | refine Xn ?_ | refine Xj ?_ | refine Xo ?_); try (conv => whnf)
   refine VCall.mk _ (hear_any (A1.below bdr) W M.dk x.n x.st) ?_
   rintro _ y1 ⟨rfl, K1, X1, A2, q2⟩
   refine ⟨_, rfl, ?_⟩
   have sy1 : Sm [b, bo] W1 y1 := sd.trans fun y hy => q2.same y (hlb y hy).1 fun e => (hlb y hy).2 (.inl e)
   repeat ((conv => whnf); first | (refine VS.mk sy1 ?_) | refine Xt ?_ | refine Xq ?_ | refine Xn ?_ | refine Xj ?_ | refine Xo ?_); try (conv => whnf)
   refine VCall.mk _ (num_any _ y1) ?_
   rintro _ _ ⟨rfl, rfl⟩
   refine ⟨_, rfl, ?_⟩
   rename_i y1
   repeat ((conv => whnf); first | (refine VS.mk sy1 ?_) | refine Xt ?_ | refine Xq ?_ | refine Xn ?_ | refine Xj ?_ | refine Xo ?_); try (conv => whnf)
   have F2 := (F1.below bdr).ro q2 A2.kz nP
   refine VCall.mk _ (rhear_any F2 hpo S F (by omega) x.n x.st) ?_
   rintro _ y2 ⟨rfl, K3, R3, q3, kz3⟩
   refine ⟨_, rfl, ?_⟩
   have A3 := A2.ro q3 kz3 n0D nD
   have sy2 : Sm [b, bo] W1 y2 := sy1.trans fun y hy => q3.same y (Nat.lt_of_lt_of_le (hlb y hy).1 (Nat.le_trans bdr.size q2.size)) fun e => (hlb y hy).2 (.inr (by rw [q2.kk y (hlb y hy).1] at e; exact e))
   have qq : Ro (odQ i) K K3 w y2 := ((q01.trans (.below bdr)).trans (q2.more fun z e => .inl e)).trans (q3.more fun z e => .inr e)
   repeat ((conv => whnf); first | (refine VS.mk sy2 ?_) | refine Xt ?_ | refine Xq ?_ | refine Xn ?_ | refine Xj ?_ | refine Xo ?_); try (conv => whnf)
   exact .mk ⟨rfl, Y, K3, H.upd hi hp hd qq kz3 A3 (R3.more (by omega)) (by omega), qq.more hne⟩
 repeat ((conv => whnf); first | refine Xt ?_ | refine Xq ?_ | refine Xn ?_ | refine Xj ?_ | refine Xo ?_); try (conv => whnf)
 refine VCall.mk _ (freeze_any A1) ?_
 rintro _ y1 ⟨rfl, K1, X1, A2, q2⟩
 refine ⟨_, rfl, ?_⟩
 have F2 := F1.ro q2 A2.kz nP
 repeat ((conv => whnf); first | refine Xt ?_ | refine Xq ?_ | refine Xn ?_ | refine Xj ?_ | refine Xo ?_); try (conv => whnf)
 refine VCall.mk _ (rfreeze_any F2) ?_
 rintro _ y2 ⟨rfl, F3, q3⟩
 refine ⟨_, rfl, ?_⟩
 have A3 := A2.ro q3 F3.kz n0D nD
 have qq : Ro (odQ i) K K1 w y2 := (q01.trans (q2.more fun z e => .inl e)).trans (q3.more fun z e => .inr e)
 repeat ((conv => whnf); first | refine Xt ?_ | refine Xq ?_ | refine Xn ?_ | refine Xj ?_ | refine Xo ?_); try (conv => whnf)
 exact .mk ⟨rfl, Y, K1, H.upd hi hp hd qq F3.kz A3 ⟨_, Xf, F3, hpo, (S.more (T' := T + 1) (by omega)).freeze, F⟩ (by omega), qq.more hne⟩
end
end Go.Proofs.YtoilipfgimcoiaaGreat
namespace Go.Proofs.YtoilipfgimcoiaaGreat
open Go Go.RowKit
theorem run_neq_mbr (w : World) (a b c : Int) : (binOp .neq 70 (.agg #[.int .i64 a, .int .i64 b, .int .i64 c]) (.agg #[.int .i64 a, .int .i64 b, .int .i64 c])).run Tryz.prog w = .ok (.bool false) w := by go_simp
theorem bs39z (W : World) : (Instr.buildSlice 39 0 #[]).run Tryz.prog W = .ok (.slice (some ⟨W.heap.size, 0, none⟩) 0 0) (W.alloc (.cells #[] 70)) := by kernel_rfl
theorem info70 : (Tryz.prog.info? 70).map (fun i => (i.zero, i.size, i.bytes)) = some (some zero65, 3, 24) := by kernel_rfl
theorem build70 (W : World) (a : Int) : (Instr.build 70 #[(0, .int .i64 a)]).run Tryz.prog W = .ok (.agg #[.int .i64 a, .int .i64 0, .int .i64 0]) W := by kernel_rfl
theorem build70t (W : World) (a b c : Int) : (Instr.build 70 #[(0, .int .i64 a), (1, .int .i64 b), (2, .int .i64 c)]).run Tryz.prog W = .ok (.agg #[.int .i64 a, .int .i64 b, .int .i64 c]) W := by kernel_rfl
theorem bs39 (W : World) (m : Mbr) : (Instr.buildSlice 39 1 #[(0, .agg #[.int .i64 m.p, .int .i64 m.i, .int .i64 m.c])]).run Tryz.prog W = .ok (.slice (some ⟨W.heap.size, 0, none⟩) 1 1) (W.alloc (.cells #[.int .i64 m.p, .int .i64 m.i, .int .i64 m.c] 70)) := by kernel_rfl
theorem build41 (W : World) (a b c d : Int) (A : Option Addr) (n m : Nat) : (Instr.build 41 #[(0, .agg #[.int .i64 a, .int .i64 b, .int .i64 c, .int .i64 d]), (1, .slice A n m)]).run Tryz.prog W = .ok (.agg #[.int .i64 a, .int .i64 b, .int .i64 c, .int .i64 d, .slice A n m]) W := by kernel_rfl
abbrev zero41 : Value := .agg #[.int .i64 0, .int .i64 0, .int .i64 0, .int .i64 0, .slice none 0 0]
theorem run_zero41 (W : World) : (zeroValue 41).run Tryz.prog W = .ok zero41 W := by kernel_rfl
theorem one_vwB (v : Vd) (A : Option Addr) (n c : Nat) : (vwA v A n c).all (·.oneCell') = true := by
 have : ∀ u ∈ [Value.int .i64 v.e, .int .i64 v.l, .int .i64 v.i, .int .i64 v.c, .slice A n c], u.oneCell' = true := fun u hu => by
   simp only [List.mem_cons, List.not_mem_nil, or_false] at hu
   rcases hu with rfl | rfl | rfl | rfl | rfl <;> rfl
 exact all_oneCell_toArray this
theorem slice0e {g off c es : Nat} : (if c = 0 then (some (⟨g, off, none⟩ : Addr)) else (some (⟨g, off, none⟩ : Addr)).map (·.add (0 * es))) = some ⟨g, off, none⟩ := by
 split
 · rfl
 · rw [Nat.zero_mul, Option.map_some, Addr.add_mid, Nat.add_zero]
theorem msOk_nodup : ∀ {l : Int} {ms : List Mbr}, msOk l ms = true → -1 ≤ l → (pidL ms).Nodup ∧ ∀ m ∈ ms, l < m.p
 | l, [], _, _ => ⟨List.nodup_nil, fun m hm => (List.not_mem_nil hm).elim⟩
 | l, m :: r, h, hl => by
   unfold msOk at h
   rw [Bool.and_eq_true] at h
   have h3 := of_decide_eq_true h.1
   unfold Mbr.ok at h3
   obtain ⟨h4, h5⟩ := msOk_nodup h.2 (by omega)
   refine ⟨?_, fun y hy => ?_⟩
   · show (m.p.toNat :: pidL r).Nodup
     refine List.nodup_cons.2 ⟨fun hm => ?_, h4⟩
     obtain ⟨y, hy, e⟩ := List.mem_map.1 hm
     have := h5 y hy
     omega
   · rcases List.mem_cons.1 hy with rfl | hy
     · exact h3.1
     · have := h5 y hy; omega
section
variable {K K' : Nat → Nat} {w w' : World} {b T i : Nat} {Y : PyX} {x : OpX}
set_option maxRecDepth 100000 in
set_option maxHeartbeats 8000000 in
theorem sameMembers_any (A B : Option Addr) (c d n N : Nat) (la : List Mbr) (w : World) (hn : la.length = n) (hN : N ≤ w.heap.size) (hA : RowAt w N 3 eMbr A la) (hB : RowAt w N 3 eMbr B la) (h1 : n ≤ 1000000000) :
   Calls Tryz.prog 95 #[.slice A n c, .slice B n d] w fun e w' => e = .returned (.bool true) ∧ Below w.heap.size w w' := by
 refine calls_vc tab_ok Tryz.func95 rfl ?_
 conv => whnf
 repeat ((conv => whnf); first | refine Xt ?_ | refine Xq ?_ | refine Xn ?_ | refine Xj ?_ | refine Xo ?_); try (conv => whnf)
 refine VLoop.mk Nat (fun k => [(0, .slice A n c), (1, .slice B n d), (5, .int .i64 k)]) (fun k W => k ≤ n ∧ Below w.heap.size w W) (fun k => n - k) 0 ⟨rfl, rfl, rfl, trivial⟩ ⟨Nat.zero_le _, Below.refl _ _⟩ ?_
 rintro k W ⟨hk, hW⟩
 by_cases hkn : k < n
 case neg =>
   repeat ((conv => whnf); first | refine Xt ?_ | refine Xq ?_ | refine Xn ?_ | refine Xj ?_ | refine Xo ?_); try (conv => whnf)
   exact .mk ⟨rfl, hW⟩
 obtain ⟨ga, oa, rfl, ha, ca⟩ := hA (by omega)
 obtain ⟨gb, ob, rfl, hb, cb⟩ := hB (by omega)
 obtain ⟨x, hx⟩ : ∃ x, la[k]? = some x := ⟨_, List.getElem?_eq_getElem (by omega)⟩
 have L1 : Ld Tryz.prog 70 ga (oa + mulO k 3) (Sm [ga, gb] W) (.agg #[.int .i64 x.p, .int .i64 x.i, .int .i64 x.c]) := ⟨fun W' hW' => load_agg (cs := eMbr x) (by kernel_rfl) (by kernel_rfl) fun j u hu => (World.cell?_of_block (a := ⟨ga, _, none⟩) ((hW' ga (by simp)).trans (hW.block ga (by omega)))).trans (by rw [mulO_eq]; exact ca k x hx j u hu)⟩
 have L2 : Ld Tryz.prog 70 gb (ob + mulO k 3) (Sm [ga, gb] W) (.agg #[.int .i64 x.p, .int .i64 x.i, .int .i64 x.c]) := ⟨fun W' hW' => load_agg (cs := eMbr x) (by kernel_rfl) (by kernel_rfl) fun j u hu => (World.cell?_of_block (a := ⟨gb, _, none⟩) ((hW' gb (by simp)).trans (hW.block gb (by omega)))).trans (by rw [mulO_eq]; exact cb k x hx j u hu)⟩
 have hs : Sm [ga, gb] W W.drew := fun _ _ => rfl
 have hz := hW.size
 repeat ((conv => whnf); first | refine Xt ?_ | refine Xq ?_ | refine Xn ?_ | refine Xj ?_ | refine Xo ?_); try (conv => whnf)
 refine VDraw.pl 1000 (.stop [0, 1, 2, 3, 4, 5, 6, 7, 8]) (Sm [ga, gb] W) (by kernel_rfl) (hs) ?_
 repeat ((conv => whnf); first | refine Xl L1 ?_ | refine Xl L2 ?_ | refine Xt ?_ | refine Xq ?_ | refine Xn ?_ | refine Xj ?_ | refine Xo ?_); try (conv => whnf)
 refine VBin.mk _ (Bn.of fun W' => run_neq_mbr W' x.p x.i x.c) ?_
 repeat ((conv => whnf); first | refine Xt ?_ | refine Xq ?_ | refine Xn ?_ | refine Xj ?_ | refine Xo ?_); try (conv => whnf)
 exact .mk (k + 1) ⟨rfl, rfl, rfl, trivial⟩ ⟨hkn, hW.drew⟩ (by show n - (k + 1) < n - k; omega)
set_option maxRecDepth 100000 in
set_option maxHeartbeats 8000000 in
theorem sameView_any (v : Vd) (A B : Option Addr) (c d n : Nat) (la : List Mbr) (w : World) (hn : la.length = n) (hA : RowAt w w.heap.size 3 eMbr A la) (hB : RowAt w w.heap.size 3 eMbr B la) (h1 : n ≤ 1000000000) :
   Calls Tryz.prog 39 #[.agg (vwA v A n c), .agg (vwA v B n d)] w fun e w' => e = .returned (.bool true) ∧ Below w.heap.size w w' := by
 refine calls_vc tab_ok Tryz.func39 rfl ?_
 conv => whnf
 refine .mk fun w1 hw1 => ?_
 have b1 : Below w.heap.size w w1 := by rw [hw1.out]; exact below_box1 _ _ _
 have z1 : w1.heap.size = w.heap.size + 1 := by rw [hw1.out]; exact World.size_alloc _ _
 have r1 : w1.rangeAt w.heap.size 0 (vwA v A n c).toList := by rw [hw1.out]; exact range_new w _ 41
 clear hw1
 conv => whnf
 refine .mk fun w2 hw2 => ?_
 have b2 : Below w1.heap.size w1 w2 := by rw [hw2.out]; exact below_box1 _ _ _
 have z2 : w2.heap.size = w1.heap.size + 1 := by rw [hw2.out]; exact World.size_alloc _ _
 have r2 : w2.rangeAt w1.heap.size 0 (vwA v B n d).toList := by rw [hw2.out]; exact range_new w1 _ 41
 clear hw2
 have b02 : Below w.heap.size w w2 := b1.trans (b2.mono (by omega))
 have r12 := range_same r1 (b2.block w.heap.size (by omega))
 obtain ⟨p1, hp1⟩ : ∃ p1, p1 = w.heap.size := ⟨_, rfl⟩
 obtain ⟨p2, hp2⟩ : ∃ p2, p2 = w1.heap.size := ⟨_, rfl⟩
 rw [← hp1] at r12 ⊢
 rw [← hp2] at r2 ⊢
 have A1 : Ld Tryz.prog 38 p1 0 (Eq w2) (.agg #[.int .i64 v.e, .int .i64 v.l, .int .i64 v.i, .int .i64 v.c]) := .of (load_agg (by kernel_rfl) (by kernel_rfl) (range_sub (n := 4) r12 0 rfl))
 have B1 : Ld Tryz.prog 38 p2 0 (Eq w2) (.agg #[.int .i64 v.e, .int .i64 v.l, .int .i64 v.i, .int .i64 v.c]) := .of (load_agg (by kernel_rfl) (by kernel_rfl) (range_sub (n := 4) r2 0 rfl))
 have A4 : Ld Tryz.prog 39 p1 4 (Eq w2) (.slice A n c) := .of (load61 (r12 4 _ rfl))
 have B4 : Ld Tryz.prog 39 p2 4 (Eq w2) (.slice B n d) := .of (load61 (r2 4 _ rfl))
 repeat ((conv => whnf); first | refine Xl A1 ?_ | refine Xl B1 ?_ | refine Xt ?_ | refine Xq ?_ | refine Xn ?_ | refine Xj ?_ | refine Xo ?_); try (conv => whnf)
 refine VBin.mk _ (Bn.of fun W' => run_eql_vd W' v.e v.l v.i v.c v.e v.l v.i v.c) ?_
 rw [decide_eq_true rfl]
 repeat ((conv => whnf); first | refine Xl A4 ?_ | refine Xl B4 ?_ | refine Xt ?_ | refine Xq ?_ | refine Xn ?_ | refine Xj ?_ | refine Xo ?_); try (conv => whnf)
 refine VCall.mk _ (sameMembers_any A B c d n w.heap.size la w2 hn (by omega) (hA.below b02 (Nat.le_refl _)) (hB.below b02 (Nat.le_refl _)) h1) ?_
 rintro _ w3 ⟨rfl, b3⟩
 refine ⟨_, rfl, ?_⟩
 repeat ((conv => whnf); first | refine Xt ?_ | refine Xq ?_ | refine Xn ?_ | refine Xj ?_ | refine Xo ?_); try (conv => whnf)
 exact .mk ⟨rfl, by rw [hp1]; exact b02.trans (b3.mono b02.size)⟩
structure MbI (w : World) (A : Option Addr) (c : Nat) (l : List Mbr) (κ : Nat → Nat) (W : World) : Prop where
 be : Below w.heap.size w W
 ow : OwnO W κ 1 3 eMbr A c l
 old : ∀ y, y < w.heap.size → κ y = 0
 kz : ∀ y, W.heap.size ≤ y → κ y = 0
theorem MbI.step {A : Option Addr} {c : Nat} {l : List Mbr} {κ : Nat → Nat} {W W' : World} (I : MbI w A c l κ W) (h : Below W.heap.size W W') : MbI w A c l κ W' :=
 ⟨I.be.trans (h.mono I.be.size), I.ow.ro (Ro.below (R := fun _ => False) h) id, I.old, fun y hy => I.kz y (Nat.le_trans h.size hy)⟩
def exs (n : Nat) : List Mbr := (List.range n).map fun i : Nat => ⟨90 + i, 0, 0⟩
theorem exs_len (n : Nat) : (exs n).length = n := by unfold exs; rw [List.length_map, List.length_range]
theorem exs_succ (n : Nat) : exs (n + 1) = exs n ++ [⟨90 + n, 0, 0⟩] := by unfold exs; rw [List.range_succ, List.map_append]; rfl
theorem exs_get {n i : Nat} (h : i < n) : (exs n)[i]? = some ⟨90 + i, 0, 0⟩ := by unfold exs; rw [List.getElem?_map, List.getElem?_range h]; rfl
theorem new_both {v : Vd} {ms : List Mbr} {self win : Int} {r d : Nat} {l : List Nat} {w2 w3 : World} {K2 K3 : Nat → Nat} {p q : Nat} {X1 : OsX} {X2 : RfX} (hl : pidsOf v ms self = some l) (h1 : 1 ≤ win ∧ win ≤ 8) (A : RefAt w K r d (Rf.new v l self.toNat win.toNat) X2) : RO T w K r d (Os.new v l self.toNat win.toNat) := by
 obtain ⟨_, e, hok, ⟨s, hs, hse⟩, hms⟩ := pids_facts hl
 have hlen := msOk_len hok (by omega) (by omega)
 have hll : l.length = ms.length := by rw [e]; unfold pidL; rw [List.length_map]
 have hsl : self.toNat = s := by omega
 refine ⟨_, X2, A, fun y hy => ?_, .new (by have := List.length_pos_of_mem hs; exact this) (by omega) (fun q hq => ?_) (by rw [e]; exact (msOk_nodup hok (by omega)).1) (by rw [hsl]; exact hs) (by omega) (by omega), .new _ _ _ _⟩
 · have := A.cv
   have h0 : X2.cl = [] := List.map_eq_nil_iff.1 this
   rw [h0] at hy; cases hy
 · rw [e] at hq
   obtain ⟨m, hm, rfl⟩ := List.mem_map.1 hq
   have := hms m hm
   omega
theorem ptr_lay (hi : i < 3) (pp : Option Nat) : ePy { Y with pb := upN Y.pb i pp } = (ePy Y).set i (ptr pp) ∧ ePy { Y with db := upN Y.db i pp } = (ePy Y).set (3 + i) (ptr pp) :=
 match i, hi with
 | 0, _ => ⟨rfl, rfl⟩
 | 1, _ => ⟨rfl, rfl⟩
 | 2, _ => ⟨rfl, rfl⟩
theorem PyB.setp (B : PyB w K b Y) (hi : i < 3) {pp : Option Nat} (h : w' = w.setCell ⟨b, i, none⟩ (ptr pp)) : PyB w' K b { Y with pb := upN Y.pb i pp } ∧ Ro (· = 1) K K w w' :=
 PyB.put (Y' := { Y with pb := upN Y.pb i pp }) B.hb B.kb B.rg B.th B.bk B.nx h (by omega) (ptr_lay hi pp).1 rfl B.row B.sl B.sh
theorem PyB.setd (B : PyB w K b Y) (hi : i < 3) {pp : Option Nat} (h : w' = w.setCell ⟨b, 3 + i, none⟩ (ptr pp)) : PyB w' K b { Y with db := upN Y.db i pp } ∧ Ro (· = 1) K K w w' :=
 PyB.put (Y' := { Y with db := upN Y.db i pp }) B.hb B.kb B.rg B.th B.bk B.nx h (by omega) (ptr_lay hi pp).2 rfl B.row B.sl B.sh
theorem store_p (B : PyB w K b Y) (hi : i < 3) {y : World} {pp : Option Nat} {n : Nat} (h : y = w.setCell ⟨b, n, none⟩ (ptr pp)) (hn : n = i) : PyB y K b { Y with pb := upN Y.pb i pp } ∧ Ro (· = 1) K K w y := B.setp hi (hn ▸ h)
theorem store_d (B : PyB w K b Y) (hi : i < 3) {y : World} {pp : Option Nat} {n : Nat} (h : y = w.setCell ⟨b, n, none⟩ (ptr pp)) (hn : n = 3 + i) : PyB y K b { Y with db := upN Y.db i pp } ∧ Ro (· = 1) K K w y := B.setd hi (hn ▸ h)
end
end Go.Proofs.YtoilipfgimcoiaaGreat
