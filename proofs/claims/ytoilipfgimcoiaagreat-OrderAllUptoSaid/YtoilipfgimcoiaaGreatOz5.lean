/- OdE OdF OdG, joined. -/
import Derived.Test.YtoilipfgimcoiaaGreatOz4
set_option linter.unusedVariables false
set_option linter.unusedSimpArgs false
namespace Go.Proofs.YtoilipfgimcoiaaGreat
open Go Go.RowKit
theorem info5 : (Tryz.prog.info? 5).map (fun i => (i.zero, i.size, i.bytes)) = some (some (.int .u8 0), 1, 1) := by kernel_rfl
theorem build78 (W : World) (a b : Int) : (Instr.build 46 #[(0, .int .i64 a), (1, .int .i64 b)]).run Tryz.prog W = .ok (.agg #[.int .i64 a, .int .i64 b]) W := by kernel_rfl
theorem rng_cell {w w' : World} {b n j : Nat} {l l' : List Value} {v : Value} (h : w.rangeAt b 0 l) (ht : w.there b 0 n) (hl : l.length = n) (hj : j < n) (hw : w' = w.setCell ⟨b, j, none⟩ v) (e : l' = l.set j v) : w'.rangeAt b 0 l' ∧ w'.there b 0 n := by
 have hg : w.grownBy w' (some b) := by rw [hw]; exact grown_cell _ _ _ _
 refine ⟨fun i u hu => ?_, by rw [hw]; exact there_set ht _ _⟩
 rw [Nat.zero_add]
 rw [e] at hu
 by_cases hij : i = j
 · subst hij
   rw [List.getElem?_set_self (by omega)] at hu
   injection hu with hu
   subst hu
   have := (ht i hj).1
   rw [Nat.zero_add] at this
   rw [hw]; exact World.cell?_setCell_same' _ _ _ this
 · rw [List.getElem?_set_ne (fun e => hij e.symm)] at hu
   rw [hw]
   have := h i u hu
   rw [Nat.zero_add] at this
   exact cell_out (vs := [v]) this (by show i < j ∨ j + 1 ≤ i; omega)
section
variable {w w' : World} {K K' : Nat → Nat} {r b : Nat} {o : Os} {X : OsX}
set_option maxRecDepth 100000 in
set_option maxHeartbeats 8000000 in
theorem keep_any (A : OrdAt w K r b o X) (W : WfO o) (d : Dt) (h1 : d.s < 16) (h2 : d.q ≤ 1000000000) (hnew : ∀ e ∈ o.held, e.sl ≠ d.sl) (hql : o.queue.length + 1 ≤ 1000000000) {B : Option Addr} {cB nB : Nat} (hnB : d.b.length = nB) (hB : RowAt w w.heap.size 1 eByte B d.b) (hbl : nB ≤ 1000000000) :
   Calls Tryz.prog 86 #[.pointer (some ⟨b, 0, none⟩), .agg (dtA d B cB nB)] w fun e w' => e = .returned (.tuple #[]) ∧ OP w K r b (o.keep d) w' := by
 refine calls_vc tab_ok Tryz.func86 rfl ?_
 have r0 := A.r0
 have hbz := A.cs.hb
 conv => whnf
 refine .mk fun wA hwA => ?_
 have bA : Below w.heap.size w wA := by rw [hwA.out]; exact below_box1 _ _ _
 have zA : wA.heap.size = w.heap.size + 1 := by rw [hwA.out]; simp
 have oA : wA.rangeAt w.heap.size 0 (dtA d B cB nB).toList := by rw [hwA.out]; exact range_new w _ 44
 have tA : wA.there w.heap.size 0 4 := by rw [hwA.out]; exact there_new w _ _
 clear hwA
 have L0 : Ld Tryz.prog 42 w.heap.size 3 (Eq wA) (.slice B nB cB) := .of (load27 (oA 3 _ rfl))
 repeat ((conv => whnf); first | refine Xl L0 ?_ | refine Xt ?_ | refine Xq ?_ | refine Xn ?_ | refine Xj ?_ | refine Xo ?_); try (conv => whnf)
 refine VApp.rows wA.heap.size 1 1 _ Tryz.underlying42 info5 rfl (by decide) eByte (fun _ => rfl) one_eByte [] d.b rfl hnB (owns_nil _ _ _ _ _) (hB.below bA (Nat.le_refl _)) (by omega) (by omega) (Nat.le_refl _) fun B' cB' w1 oB hg1 _ => ?_
 rw [Nat.zero_add]
 rw [List.nil_append] at oB
 have c1 : Below wA.heap.size wA w1 := (Below.refl _ _).grown hg1 (Nat.le_refl _) fun k hk => by cases hk
 have z1 := c1.size
 have o1 := range_same oA (c1.block _ (show w.heap.size < wA.heap.size by omega))
 have t1 := there_same tA (c1.block _ (show w.heap.size < wA.heap.size by omega))
 repeat ((conv => whnf); first | refine Xt ?_ | refine Xq ?_ | refine Xn ?_ | refine Xj ?_ | refine Xo ?_); try (conv => whnf)
 have ct := t1 3 (by omega)
 refine VStore.cell (by kernel_rfl) ct.1 ct.2 rfl rfl fun w2 hw2 => ?_
 obtain ⟨o2, t2⟩ := rng_cell (j := 3) (l' := (dtA d B' cB' nB).toList) o1 t1 rfl (by omega) hw2.out rfl
 have g2 : w1.grownBy w2 (some w.heap.size) := by rw [hw2.out]; exact grown_cell _ _ _ _
 have b2 : Below w.heap.size w w2 := (bA.trans (c1.mono (by omega))).grown g2 (by omega) fun k hk => by injection hk with hk; omega
 have oB2 := oB.kept g2 (.inr fun e => by have := (oB.lo _ e).1; omega)
 have z2 := g2.size
 clear hw2
 have L1 : Ld Tryz.prog 3 w.heap.size 0 (Eq w2) (.int .i64 d.s) := .of (load3 (o2 0 _ rfl))
 have L2 : Ld Tryz.prog 3 w.heap.size 1 (Eq w2) (.int .i64 d.q) := .of (load3 (o2 1 _ rfl))
 repeat ((conv => whnf); first | refine Xl L1 ?_ | refine Xl L2 ?_ | refine Xt ?_ | refine Xq ?_ | refine Xn ?_ | refine Xj ?_ | refine Xo ?_); try (conv => whnf)
 refine VBuild.mk _ (fun W' => build78 W' d.s d.q) ?_
 repeat ((conv => whnf); first | refine Xt ?_ | refine Xq ?_ | refine Xn ?_ | refine Xj ?_ | refine Xo ?_); try (conv => whnf)
 refine .mk _ run_zero78 ?_
 conv => whnf
 refine .mk fun u3 hu3 => ?_
 repeat ((conv => whnf); first | refine Xt ?_ | refine Xq ?_ | refine Xn ?_ | refine Xj ?_ | refine Xo ?_); try (conv => whnf)
 refine VStore.new (c' := #[.int .i64 d.s, .int .i64 d.q]) hu3 (by kernel_rfl) rfl (one_sl d.sl) fun w3 hw3 => ?_
 have c3 : Below w2.heap.size w2 w3 := by rw [hw3.out]; exact (Below.refl _ _).alloc (Nat.le_refl _) _
 have z3 : w3.heap.size = w2.heap.size + 1 := by rw [hw3.out]; simp
 have r3 : w3.rangeAt w2.heap.size 0 (eSl d.sl) := by rw [hw3.out]; exact range_new w2 _ 46
 clear hu3 hw3 u3
 have b3 : Below w.heap.size w w3 := b2.trans (c3.mono (by omega))
 have o3 := range_same o2 (c3.block _ (show w.heap.size < w2.heap.size by omega))
 have oB3 := oB2.keep c3 (fun k hk => (oB2.lo k hk).2)
 obtain ⟨K1, hK1⟩ : ∃ K1 : Nat → Nat, K1 = fun y => if blk B' = some y then r + 4 else K y := ⟨_, rfl⟩
 have kBy : ∀ y, blk B' = some y → K1 y = r + 4 := fun y hy => by rw [hK1]; exact if_pos hy
 have kO : ∀ y, blk B' ≠ some y → K1 y = K y := fun y hy => by rw [hK1]; exact if_neg hy
 have nBk : ∀ y, blk B' = some y → wA.heap.size ≤ y ∧ y < w2.heap.size := fun y hy => oB2.lo y hy
 have A3 : OrdAt w3 K1 r b o X := A.ro (R := fun _ => False) ((Ro.below b3).role fun y hy => kO y fun e => by have := nBk y e; omega) (fun y hy => (kO y fun e => by have := nBk y e; omega).trans (A.kz y (by omega))) id fun _ _ => id
 have kA : K1 w.heap.size = 0 := (kO _ fun e => by have := nBk _ e; omega).trans (A.kz _ (Nat.le_refl _))
 have kB : K1 w2.heap.size = 0 := (kO _ fun e => by have := nBk _ e; omega).trans (A.kz _ (by omega))
 have L3 : Ld Tryz.prog 113 b 88 (Sm [b, w.heap.size, w2.heap.size] w3) (.map (some X.hb)) := A3.l_held (by simp)
 have L4 : Ld Tryz.prog 46 w2.heap.size 0 (Sm [b, w.heap.size, w2.heap.size] w3) (kSl d.sl) := ⟨fun W' hW => load78 (range_same r3 (hW _ (by simp)))⟩
 have L5 : Ld Tryz.prog 44 w.heap.size 0 (Sm [b, w.heap.size, w2.heap.size] w3) (.agg (dtA d B' cB' nB)) := ⟨fun W' hW => load_agg (by kernel_rfl) (by kernel_rfl) (range_same o3 (hW _ (by simp)))⟩
 have hs3 : Sm [b, w.heap.size, w2.heap.size] w3 w3.drew := fun _ _ => rfl
 refine VDraw.mk 1000 [([0, 1, 2, 3, 4, 5], 6)] [] (Sm [b, w.heap.size, w2.heap.size] w3) (by kernel_rfl) (by kernel_rfl) (hs3) ?_
 repeat ((conv => whnf); first | refine Xl L3 ?_ | refine Xl L4 ?_ | refine Xl L5 ?_ | refine Xt ?_ | refine Xq ?_ | refine Xn ?_ | refine Xj ?_ | refine Xo ?_); try (conv => whnf)
 have A3d := A3.below (Below.refl _ w3).drew
 obtain ⟨hkeys, hnd⟩ := Keys.of W A.rs.hd
 obtain ⟨w4, hrun, hM, hg4⟩ := A3d.rs.map.put (w := w3.drew) hkeys (x := ⟨d, B', cB'⟩) (by show d.s < _; omega) (by show d.q < _; omega) (fun y hy => hnew y.d (by rw [← A.rs.hd]; exact List.mem_map.2 ⟨y, hy, rfl⟩))
 have hrun' : (Instr.mapUpdate 113 (.map (some X.hb)) (kSl d.sl) (.agg (dtA d B' cB' nB))).run Tryz.prog w3.drew = .ok () w4 := by
   have e : vDt ⟨d, B', cB'⟩ = .agg (dtA d B' cB' nB) := by unfold vDt; rw [hnB]
   rw [← e]; exact hrun
 refine VW.skip (w' := w4) (fun a ha => ?_) ?_
 · have h3 := ha (.tmp 17) _ rfl
   have h4 := ha (.tmp 18) _ rfl
   have h5 := ha (.tmp 19) _ rfl
   simp only [execOp, h3, h4, h5, Sem.run_bind, Sem.run_pure, Result.andThen_ok, hrun']
 have kB3 : RowB w3.drew K1 (r + 4) 1 eByte B' d.b := RowB.at_ (w := w3) (oB3.row fun _ => rfl) kBy
 obtain ⟨A4, q4⟩ := A3d.s_held hM hg4 (fun y hy => by
   rcases List.mem_append.1 hy with hy | hy
   · exact A3d.rs.bod y hy
   · rw [List.mem_singleton.1 hy]; exact kB3) (ds := o.held ++ [d]) (by rw [List.map_append, A.rs.hd]; rfl)
 have hl3 : ∀ y ∈ [b, w.heap.size, w2.heap.size], y < w3.heap.size ∧ (K1 y = r ∨ K1 y = 0) := fun y hy => by
   simp only [List.mem_cons, List.not_mem_nil, or_false] at hy
   rcases hy with rfl | rfl | rfl
   · exact ⟨by omega, .inl A3.kb⟩
   · exact ⟨by omega, .inr kA⟩
   · exact ⟨by omega, .inr kB⟩
 have hs4 : Sm [b, w.heap.size, w2.heap.size] w3 w4 := fun y hy => q4.same y (hl3 y hy).1 (by have := (hl3 y hy).2; omega)
 repeat ((conv => whnf); first | (refine VS.mk hs4 ?_) | refine Xt ?_ | refine Xq ?_ | refine Xn ?_ | refine Xj ?_ | refine Xo ?_); try (conv => whnf)
 have z4 : w3.heap.size ≤ w4.heap.size := q4.size
 have o4 := range_same o3 (hs4 w.heap.size (by simp))
 have r4 := range_same r3 (hs4 w2.heap.size (by simp))
 have L6 : Ld Tryz.prog 3 w.heap.size 0 (Sm [b, w.heap.size] w4) (.int .i64 d.s) := ⟨fun W' hW => load3 (cell_sm (o4 0 _ rfl) (by simp) hW)⟩
 have L7 : Ld Tryz.prog 3 w.heap.size 1 (Sm [b, w.heap.size] w4) (.int .i64 d.q) := ⟨fun W' hW => load3 (cell_sm (o4 1 _ rfl) (by simp) hW)⟩
 have hs4' : Sm [b, w.heap.size] w4 w4.drew := fun _ _ => rfl
 refine VDraw.pl 8 (.one [0, 1, 2, 3, 4, 5, 6, 7] 8 (.stop [])) (Sm [b, w.heap.size] w4) (by kernel_rfl) (hs4') ?_
 repeat ((conv => whnf); first | refine Xl L6 ?_ | refine Xl L7 ?_ | refine Xt ?_ | refine Xq ?_ | refine Xn ?_ | refine Xj ?_ | refine Xo ?_); try (conv => whnf)
 have cp := A4.cs.cell (24 + d.s) (by omega)
 have A4d := A4.below (Below.refl _ w4).drew
 refine VStore.cell (by kernel_rfl) (by rw [show addO 0 24 + mulO d.s 1 = 24 + d.s from rfl]; rw [show w4.drew.cell? = w4.cell? from rfl, cp.1]; rfl) cp.2 rfl rfl fun w5 hw5 => ?_
 obtain ⟨A5, q5⟩ := A4d.s_taken h1 d.q (j := addO 0 24 + mulO d.s 1) rfl hw5.out
 have z5 : w4.heap.size ≤ w5.heap.size := q5.size
 have e3 : Ro (inR r) K K1 w w3 := (Ro.below b3).role fun y hy => kO y fun e => by have := nBk y e; omega
 have e4 : Ro (inR r) K K1 w w4 := (e3.trans (Ro.drew (Ro.refl _ _ _))).trans (q4.more fun y hy => by unfold inR; omega)
 have e5 : Ro (inR r) K K1 w w5 := (e4.trans (Ro.drew (Ro.refl _ _ _))).trans (q5.more fun y hy => by unfold inR; omega)
 repeat ((conv => whnf); first | (refine VS.last rfl ?_) | refine Xt ?_ | refine Xq ?_ | refine Xn ?_ | refine Xj ?_ | refine Xo ?_); try (conv => whnf)
 have sq0 := sequencer_any A5 W.m0
 have sq : Calls Tryz.prog 87 #[.pointer (some ⟨b, 0, none⟩)] w5 fun e w' => e = .returned (.bool o.seq) ∧ Below w5.heap.size w5 w' := sq0
 refine VCall.mk _ sq ?_
 rintro _ w6 ⟨rfl, b6⟩
 refine ⟨_, rfl, ?_⟩
 have z6 := b6.size
 have A6 := A5.below b6
 have e6 : Ro (inR r) K K1 w w6 := e5.trans (.below b6)
 cases hq : o.seq with
 | false =>
   repeat ((conv => whnf); first | refine Xt ?_ | refine Xq ?_ | refine Xn ?_ | refine Xj ?_ | refine Xo ?_); try (conv => whnf)
   refine .mk ⟨rfl, ?_⟩
   have ek : o.keep d = { o with held := o.held ++ [d], taken := upN o.taken d.s d.q } := by unfold Os.keep; rw [hq]; rfl
   rw [ek]
   exact ⟨K1, _, A6, e6⟩
 | true =>
   have L8 : Ld Tryz.prog 57 b 89 (Sm [b, w2.heap.size] w6) (.slice X.qA o.queue.length X.qc) := A6.l_queue (by simp)
   have h26 : w6.heap[w2.heap.size]? = w4.heap[w2.heap.size]? := (b6.block _ (by omega)).trans (q5.same _ (show w2.heap.size < w4.heap.size by omega) (by omega))
   have L9 : Ld Tryz.prog 46 w2.heap.size 0 (Sm [b, w2.heap.size] w6) (kSl d.sl) := ⟨fun W' hW => load78 (range_same r4 ((hW _ (by simp)).trans h26))⟩
   have hs6 : Sm [b, w2.heap.size] w6 w6.drew := fun _ _ => rfl
   have hl6 : ∀ y ∈ [b, w2.heap.size], y < w6.heap.size ∧ (K1 y = r ∨ K1 y = 0) := fun y hy => by
     simp only [List.mem_cons, List.not_mem_nil, or_false] at hy
     rcases hy with rfl | rfl
     · exact ⟨by omega, .inl A3.kb⟩
     · exact ⟨by omega, .inr kB⟩
   repeat ((conv => whnf); first | refine Xt ?_ | refine Xq ?_ | refine Xn ?_ | refine Xj ?_ | refine Xo ?_); try (conv => whnf)
   refine VDraw.pl 10 (.one [0, 1, 2, 3, 4, 5] 6 (.one [] 7 (.one [8, 9] 10 (.stop [])))) (Sm [b, w2.heap.size] w6) (by kernel_rfl) (hs6) ?_
   repeat ((conv => whnf); first | refine Xl L8 ?_ | refine Xl L9 ?_ | refine Xt ?_ | refine Xq ?_ | refine Xn ?_ | refine Xj ?_ | refine Xo ?_); try (conv => whnf)
   refine VBs.mk _ _ (bs48 w6.drew d.s d.q) ?_
   have c7 : Below w6.heap.size w6 (w6.drew.alloc (.cells #[.int .i64 d.s, .int .i64 d.q] 46)) := Below.trans (Below.drew (Below.refl _ w6)) ((Below.refl w6.drew.heap.size w6.drew).alloc (Nat.le_refl _) _)
   have hnc : ∀ j u, (eSl d.sl)[j]? = some u → (w6.drew.alloc (.cells #[.int .i64 d.s, .int .i64 d.q] 46)).cell? ⟨w6.drew.heap.size, j, none⟩ = some u := fun j u hu => by
     have := range_new w6.drew #[.int .i64 d.s, .int .i64 d.q] 46 j u hu
     rwa [Nat.zero_add] at this
   generalize w6.drew.alloc (.cells #[.int .i64 d.s, .int .i64 d.q] 46) = w7 at c7 hnc ⊢
   have A7 := A6.below c7
   have z7 := c7.size
   have hs7 : Sm [b, w2.heap.size] w6 w7 := .below c7 fun y hy => (hl6 y hy).1
   repeat ((conv => whnf); first | (refine VS.mk hs7 ?_) | refine Xt ?_ | refine Xq ?_ | refine Xn ?_ | refine Xj ?_ | refine Xo ?_); try (conv => whnf)
   refine VApp.off 2 16 _ Tryz.underlying57 info78 rfl (by decide) eSl (fun _ => rfl) one_eSl o.queue d.sl rfl A7.rs.q hnc A7.kz (by omega) (by omega) fun A8 c8 K8 w8 oA8 q8 kz8 => ?_
   have hs8 : Sm [b, w2.heap.size] w6 w8 := hs7.trans fun y hy => q8.same y (by have := (hl6 y hy).1; omega) (by have := (hl6 y hy).2; omega)
   have cb := (A7.cs.same q8.size (q8.same b (by omega) (by rw [A3.kb]; omega))).cell 89 (by omega)
   repeat ((conv => whnf); first | (refine VS.mk hs8 ?_) | refine Xt ?_ | refine Xq ?_ | refine Xn ?_ | refine Xj ?_ | refine Xo ?_); try (conv => whnf)
   refine VStore.cell (by kernel_rfl) (by rw [show addO 0 89 = 89 from rfl, cb.1]; rfl) cb.2 rfl rfl fun w9 hw9 => ?_
   obtain ⟨A9, q9⟩ := A7.s_queue (n := o.queue.length + 1) (by simp) oA8 q8 kz8 (show addO 0 89 = 89 from rfl) hw9.out
   repeat ((conv => whnf); first | (refine VS.last rfl ?_) | refine Xt ?_ | refine Xq ?_ | refine Xn ?_ | refine Xj ?_ | refine Xo ?_); try (conv => whnf)
   refine .mk ⟨rfl, ?_⟩
   have ek : o.keep d = { o with held := o.held ++ [d], taken := upN o.taken d.s d.q, queue := o.queue ++ [d.sl] } := by unfold Os.keep; rw [if_pos hq]
   rw [ek]
   exact ⟨K8, _, A9, (e6.trans (.below c7)).trans (q9.more fun y hy => by unfold inR; omega)⟩
end
end Go.Proofs.YtoilipfgimcoiaaGreat
namespace Go.Proofs.YtoilipfgimcoiaaGreat
open Go Go.RowKit
def zero71 : Value := .agg #[.int .i64 0, .int .i64 0, .int .i64 0, .slice none 0 0]
theorem run_zero71 (W : World) : (zeroValue 44).run Tryz.prog W = .ok zero71 W := by kernel_rfl
theorem build71z (W : World) : (Instr.build 44 #[]).run Tryz.prog W = .ok zero71 W := by kernel_rfl
theorem build71 (W : World) (a b c : Int) (A : Option Addr) (n m : Nat) : (Instr.build 44 #[(0, .int .i64 a), (1, .int .i64 b), (2, .int .i64 c), (3, .slice A n m)]).run Tryz.prog W = .ok (.agg #[.int .i64 a, .int .i64 b, .int .i64 c, .slice A n m]) W := by kernel_rfl
theorem one_dtA (d : Dt) (A : Option Addr) (c n : Nat) : (dtA d A c n).all (·.oneCell') = true := by
 have : ∀ u ∈ [Value.int .i64 d.s, .int .i64 d.q, .int .i64 d.st, .slice A n c], u.oneCell' = true := fun u hu => by
   simp only [List.mem_cons, List.not_mem_nil, or_false] at hu
   rcases hu with rfl | rfl | rfl | rfl <;> rfl
 exact all_oneCell_toArray this
theorem OrdAt.rerole {w : World} {K K' : Nat → Nat} {r b : Nat} {o : Os} {X : OsX} (h : OrdAt w K r b o X) (hK : ∀ y, inB r (K y) → K' y = K y) (kz : ∀ y, w.heap.size ≤ y → K' y = 0) : OrdAt w K' r b o X := by
 have rk : ∀ {α : Type} {sz : Nat} {enc : α → List Value} {A : Option Addr} {l : List α}, RowB w K (r + 4) sz enc A l → RowB w K' (r + 4) sz enc A l := fun {α sz enc A l} h hl => by
   obtain ⟨g, off, e, h1, h2, h3⟩ := h hl
   exact ⟨g, off, e, h1, (hK g (by rw [h2]; exact ⟨by omega, by omega⟩)).trans h2, h3⟩
 have ro : ∀ {α : Type} {q sz c : Nat} {enc : α → List Value} {A : Option Addr} {l : List α}, inB r q → OwnO w K q sz enc A c l → OwnO w K' q sz enc A c l := fun {α q sz c enc A l} hq h => by
   rcases h with h | ⟨g, off, e, h1, h2, h3⟩
   · exact .inl h
   · exact .inr ⟨g, off, e, h1, (hK g (by rw [h2]; exact hq)).trans h2, h3⟩
 exact ⟨h.r0, (hK b (by rw [h.kb]; exact ⟨Nat.le_refl _, by omega⟩)).trans h.kb, kz, h.cs, rk h.rs.mem, h.rs.map, (hK _ (by rw [h.rs.km]; exact ⟨by omega, by omega⟩)).trans h.rs.km, h.rs.hd, fun y hy => rk (h.rs.bod y hy), ro ⟨by omega, by omega⟩ h.rs.q, ro ⟨by omega, by omega⟩ h.rs.s⟩
def dt0 : Dt := ⟨0, 0, 0, []⟩
def Os.send (o : Os) (body : List Int) : Dt × Int × Os :=
 if 256 < body.length then (dt0, 1, o) else if o.frz = true then (dt0, 70, o) else if o.free = 0 then (dt0, 71, o)
 else (⟨o.self, o.taken o.self + 1, o.pre, body⟩, 0, o.keep ⟨o.self, o.taken o.self + 1, o.pre, body⟩)
section
variable {w w' : World} {K K' : Nat → Nat} {r b : Nat} {o : Os} {X : OsX}
set_option maxRecDepth 100000 in
set_option maxHeartbeats 8000000 in
theorem send_any (A : OrdAt w K r b o X) (W : WfO o) (body : List Int) (htk : o.taken o.self + 1 ≤ 1000000000) (hnew : ∀ e ∈ o.held, e.sl ≠ ⟨o.self, o.taken o.self + 1⟩) (hql : o.queue.length + 1 ≤ 1000000000) {B : Option Addr} {cB nB : Nat} (hnB : body.length = nB) (hB : RowAt w w.heap.size 1 eByte B body) :
   Calls Tryz.prog 30 #[.pointer (some ⟨b, 0, none⟩), .slice B nB cB] w fun e w' => ∃ A' c', e = .returned (.tuple #[.agg (dtA (o.send body).1 A' c' (o.send body).1.b.length), .int .i64 (o.send body).2.1]) ∧ Owns w' w.heap.size 5 1 eByte A' c' (o.send body).1.b ∧ ∃ K' X', OrdAt w' K' r b (o.send body).2.2 X' ∧ Ro (inR r) K K' w w' ∧ ∀ g, blk A' = some g → K' g = 0 := by
 refine calls_vc tab_ok Tryz.func30 rfl ?_
 have r0 := A.r0
 have hbz := A.cs.hb
 have hself := W.self
 conv => whnf
 refine .mk _ run_zero71 ?_
 conv => whnf
 refine .mk fun wA hwA => ?_
 have bA : Below w.heap.size w wA := by rw [hwA.out]; exact below_box1 _ _ _
 have zA : wA.heap.size = w.heap.size + 1 := by rw [hwA.out]; simp
 have oA : wA.rangeAt w.heap.size 0 (dtA dt0 none 0 0).toList := by rw [hwA.out]; exact range_new w _ 44
 have tA : wA.there w.heap.size 0 4 := by rw [hwA.out]; exact there_new w _ _
 clear hwA
 obtain ⟨K0, hK0⟩ : ∃ K0 : Nat → Nat, K0 = fun y => if y = w.heap.size then r + 5 else K y := ⟨_, rfl⟩
 have kA : K0 w.heap.size = r + 5 := by rw [hK0]; exact if_pos rfl
 have kO : ∀ y, y ≠ w.heap.size → K0 y = K y := fun y hy => by rw [hK0]; exact if_neg hy
 have AA : OrdAt wA K0 r b o X := A.ro (R := fun _ => False) ((Ro.below bA).role fun y hy => kO y (by omega)) (fun y hy => (kO y (by omega)).trans (A.kz y (by omega))) id fun _ _ => id
 -- an answer with an error
 have bad : ∀ (e : Int) (x : World), Below w.heap.size w x → OrdAt x K r b o X → o.send body = (dt0, e, o) → ∃ A' c', Ending.returned (.tuple #[.agg (dtA dt0 none 0 0), .int .i64 e]) = .returned (.tuple #[.agg (dtA (o.send body).1 A' c' (o.send body).1.b.length), .int .i64 (o.send body).2.1]) ∧ Owns x w.heap.size 5 1 eByte A' c' (o.send body).1.b ∧ ∃ K' X', OrdAt x K' r b (o.send body).2.2 X' ∧ Ro (inR r) K K' w x ∧ ∀ g, blk A' = some g → K' g = 0 := fun e x hx Ax hs => by
   rw [hs]
   exact ⟨none, 0, rfl, owns_nil _ _ _ _ _, K, X, Ax, .below hx, fun g hg => by cases hg⟩
 have setb : ∀ x, Below wA.heap.size wA x → (x.cell? ⟨w.heap.size, 0, none⟩).isSome = true → ∀ x', Hid (x' = x.setCells w.heap.size 0 (dtA dt0 none 0 0).toList) → Below w.heap.size w x' ∧ x'.rangeAt w.heap.size 0 (dtA dt0 none 0 0).toList := fun x hx _ x' hx' => by
   have tx := there_same tA (hx.block _ (by omega))
   exact ⟨by rw [hx'.out]; exact (bA.trans (hx.mono (by omega))).grown (grown_sets _ _ _ _) (by have := hx.size; omega) (fun k hk => by injection hk with hk; omega), by rw [hx'.out]; exact rng_in tx (by simp)⟩
 by_cases hbl : 256 < nB
 · repeat ((conv => whnf); first | refine Xt ?_ | refine Xq ?_ | refine Xn ?_ | refine Xj ?_ | refine Xo ?_); try (conv => whnf)
   refine VBuild.mk _ (fun W' => build71z W') ?_
   repeat ((conv => whnf); first | refine Xt ?_ | refine Xq ?_ | refine Xn ?_ | refine Xj ?_ | refine Xo ?_); try (conv => whnf)
   refine VStore.mid (c := dtA dt0 none 0 0) tA (by kernel_rfl) (one_dtA _ _ _ _) fun x1 hx1 => ?_
   obtain ⟨b1, o1⟩ := setb wA (Below.refl _ _) (by have := (tA 0 (by omega)).1; simpa using this) x1 hx1
   have LR : Ld Tryz.prog 44 w.heap.size 0 (Eq x1) (.agg (dtA dt0 none 0 0)) := .of (load_agg (by kernel_rfl) (by kernel_rfl) o1)
   repeat ((conv => whnf); first | refine Xl LR ?_ | refine Xt ?_ | refine Xq ?_ | refine Xn ?_ | refine Xj ?_ | refine Xo ?_); try (conv => whnf)
   exact .mk (bad 1 x1 b1 (A.below b1) (by unfold Os.send; rw [if_pos (by omega)]))
 have L0 := AA.l_frz (l := [b]) (by simp)
 cases hf : o.frz with
 | true =>
   rw [hf] at L0
   repeat ((conv => whnf); first | refine Xl (L0.at (Sm.refl _ _)) ?_ | refine Xt ?_ | refine Xq ?_ | refine Xn ?_ | refine Xj ?_ | refine Xo ?_); try (conv => whnf)
   refine VBuild.mk _ (fun W' => build71z W') ?_
   repeat ((conv => whnf); first | refine Xt ?_ | refine Xq ?_ | refine Xn ?_ | refine Xj ?_ | refine Xo ?_); try (conv => whnf)
   refine VStore.mid (c := dtA dt0 none 0 0) tA (by kernel_rfl) (one_dtA _ _ _ _) fun x1 hx1 => ?_
   obtain ⟨b1, o1⟩ := setb wA (Below.refl _ _) (by have := (tA 0 (by omega)).1; simpa using this) x1 hx1
   have LR : Ld Tryz.prog 44 w.heap.size 0 (Eq x1) (.agg (dtA dt0 none 0 0)) := .of (load_agg (by kernel_rfl) (by kernel_rfl) o1)
   repeat ((conv => whnf); first | refine Xl LR ?_ | refine Xt ?_ | refine Xq ?_ | refine Xn ?_ | refine Xj ?_ | refine Xo ?_); try (conv => whnf)
   exact .mk (bad 70 x1 b1 (A.below b1) (by unfold Os.send; rw [if_neg (by omega), if_pos hf]))
 | false =>
   rw [hf] at L0
   have htk' := W.tk o.self
   have hgn' := W.gn o.self
   repeat ((conv => whnf); first | refine Xl (L0.at (Sm.refl _ _)) ?_ | refine Xt ?_ | refine Xq ?_ | refine Xn ?_ | refine Xj ?_ | refine Xo ?_); try (conv => whnf)
   refine VCall.mk _ (free_any AA W.self (by omega) (by omega) W.win) ?_
   rintro _ x1 ⟨rfl, b1⟩
   refine ⟨_, rfl, ?_⟩
   have z1 := b1.size
   have t1 := there_same tA (b1.block _ (by omega))
   have bw1 : Below w.heap.size w x1 := bA.trans (b1.mono (by omega))
   by_cases hfr : o.free = 0
   · repeat ((conv => whnf); first | refine Xt ?_ | refine Xq ?_ | refine Xn ?_ | refine Xj ?_ | refine Xo ?_); try (conv => whnf)
     refine VBuild.mk _ (fun W' => build71z W') ?_
     repeat ((conv => whnf); first | refine Xt ?_ | refine Xq ?_ | refine Xn ?_ | refine Xj ?_ | refine Xo ?_); try (conv => whnf)
     refine VStore.mid (c := dtA dt0 none 0 0) t1 (by kernel_rfl) (one_dtA _ _ _ _) fun x2 hx2 => ?_
     obtain ⟨b2, o2⟩ := setb x1 b1 (by have := (t1 0 (by omega)).1; simpa using this) x2 hx2
     have LR : Ld Tryz.prog 44 w.heap.size 0 (Eq x2) (.agg (dtA dt0 none 0 0)) := .of (load_agg (by kernel_rfl) (by kernel_rfl) o2)
     repeat ((conv => whnf); first | refine Xl LR ?_ | refine Xt ?_ | refine Xq ?_ | refine Xn ?_ | refine Xj ?_ | refine Xo ?_); try (conv => whnf)
     exact .mk (bad 71 x2 b2 (A.below b2) (by unfold Os.send; rw [if_neg (by omega), if_neg (by rw [hf]; simp), if_pos hfr]))
   · have A1 := AA.below b1
     have M1 := A1.l_self (l := [b]) (by simp)
     have M2 := A1.l_taken (l := [b]) (by simp) W.self
     have M3 := A1.l_pre (l := [b]) (by simp)
     have hs1 : Sm [b] x1 x1.drew := fun _ _ => rfl
     obtain ⟨d, hd⟩ : ∃ d : Dt, d = ⟨o.self, o.taken o.self + 1, o.pre, body⟩ := ⟨_, rfl⟩
     have hsend : o.send body = (d, 0, o.keep d) := by unfold Os.send; rw [if_neg (by omega), if_neg (by rw [hf]; simp), if_neg hfr, hd]
     repeat ((conv => whnf); first | refine Xt ?_ | refine Xq ?_ | refine Xn ?_ | refine Xj ?_ | refine Xo ?_); try (conv => whnf)
     refine VDraw.pl 1000 (.two [0, 1, 2, 3, 4, 5, 6, 7, 8, 9, 10, 11, 12, 13, 14, 15, 16, 17, 18] 19 (.one [20] 21 (.one [] 22 (.stop []))) 21 (.one [] 19 (.one [20] 22 (.stop [])))) (Sm [b] x1) (by kernel_rfl) (hs1) ?_
     repeat ((conv => whnf); first | refine Xl M1 ?_ | refine Xl M2 ?_ | refine Xl M3 ?_ | refine Xt ?_ | refine Xq ?_ | refine Xn ?_ | refine Xj ?_ | refine Xo ?_); try (conv => whnf)
     refine ⟨?_, ?_⟩
     · skip
       repeat ((conv => whnf); first | refine Xt ?_ | refine Xq ?_ | refine Xn ?_ | refine Xj ?_ | refine Xo ?_); try (conv => whnf)
       refine VApp.rows x1.heap.size 1 1 _ Tryz.underlying42 info5 rfl (by decide) eByte (fun _ => rfl) one_eByte [] body rfl hnB (owns_nil _ _ _ _ _) ((hB.below bw1 (Nat.le_refl _)).below (Below.refl _ x1).drew (Nat.le_refl _)) (by omega) (by omega) (Nat.le_refl _) fun B' cB' x2 oB hg2 _ => ?_
       rw [Nat.zero_add]
       rw [List.nil_append] at oB
       have c2 : Below x1.heap.size x1 x2 := Below.trans (Below.refl _ x1).drew ((Below.refl _ x1.drew).grown hg2 (Nat.le_refl _) fun k hk => by cases hk)
       have z2 := c2.size
       have hs2 : Sm [b] x1 x2 := .below c2 fun y hy => by rw [List.mem_singleton.1 hy]; omega
       repeat ((conv => whnf); first | (refine VS.mk hs2 ?_) | refine Xt ?_ | refine Xq ?_ | refine Xn ?_ | refine Xj ?_ | refine Xo ?_); try (conv => whnf)
       have hdA : (#[.int .i64 o.self, .int .i64 ((o.taken o.self : Int) + 1), .int .i64 o.pre, .slice B' nB cB'] : Array Value) = dtA d B' cB' nB := by rw [hd]; rfl
       refine VBuild.mk (.agg (dtA d B' cB' nB)) (fun W' => by rw [← hdA]; exact build71 W' o.self ((o.taken o.self : Int) + 1) o.pre B' nB cB') ?_
       repeat ((conv => whnf); first | refine Xt ?_ | refine Xq ?_ | refine Xn ?_ | refine Xj ?_ | refine Xo ?_); try (conv => whnf)
       refine .mk _ run_zero71 ?_
       conv => whnf
       refine .mk fun u3 hu3 => ?_
       have hs3 : Sm [b] x1 u3 := by rw [hu3.out]; exact hs2.trans (.below ((Below.refl _ x2).alloc (Nat.le_refl _) _) fun y hy => by rw [List.mem_singleton.1 hy]; omega)
       repeat ((conv => whnf); first | (refine VS.mk hs3 ?_) | refine Xt ?_ | refine Xq ?_ | refine Xn ?_ | refine Xj ?_ | refine Xo ?_); try (conv => whnf)
       refine VStore.new (c' := dtA d B' cB' nB) hu3 (by kernel_rfl) rfl (one_dtA _ _ _ _) fun x4 hx4 => ?_
       have c4 : Below x2.heap.size x2 x4 := by rw [hx4.out]; exact (Below.refl _ _).alloc (Nat.le_refl _) _
       have z4 : x4.heap.size = x2.heap.size + 1 := by rw [hx4.out]; simp
       obtain ⟨bt, hbt⟩ : ∃ bt, bt = x2.heap.size := ⟨_, rfl⟩
       have r4 : x4.rangeAt bt 0 (dtA d B' cB' nB).toList := by rw [hx4.out, hbt]; exact range_new x2 _ 44
       rw [← hbt]
       have bt2 : w.heap.size < bt ∧ bt < x4.heap.size := by omega
       have oB4 := oB.keep c4 (fun k hk => (oB.lo k hk).2)
       have b14 : Below x1.heap.size x1 x4 := c2.trans (c4.mono z2)
       have hs4 : Sm [b] x1 x4 := .below b14 fun y hy => by rw [List.mem_singleton.1 hy]; omega
       clear hx4 hu3 hs3 c4 z4 hbt
       clear u3
       clear hs2 z2 c2 oB hg2
       clear x2
       repeat ((conv => whnf); first | (refine VS.mk hs4 ?_) | refine Xt ?_ | refine Xq ?_ | refine Xn ?_ | refine Xj ?_ | refine Xo ?_); try (conv => whnf)
       -- world x4: b14, oB4 : the copy, r4 : the box bt
       have Lt4 : Ld Tryz.prog 44 bt 0 (Eq x4) (.agg (dtA d B' cB' nB)) := .of (load_agg (by kernel_rfl) (by kernel_rfl) r4)
       have bw4 : Below w.heap.size w x4 := bw1.trans (b14.mono bw1.size)
       have bA4 : Below wA.heap.size wA x4 := b1.trans (b14.mono z1)
       have A4 := AA.below bA4
       have hz4 := bw4.size
       have hz14 := b14.size
       repeat ((conv => whnf); first | refine Xl Lt4 ?_ | refine Xt ?_ | refine Xq ?_ | refine Xn ?_ | refine Xj ?_ | refine Xo ?_); try (conv => whnf)
       have hdb : d.b.length = nB := by rw [hd]; exact hnB
       have kp := keep_any A4 W d (by rw [hd]; exact W.self) (by rw [hd]; exact htk) (by rw [hd]; exact hnew) hql (B := B') (cB := cB') hdb (by rw [hd]; exact oB4.row fun _ => rfl) (by omega)
       refine VCall.mk _ kp ?_
       rintro _ x5 ⟨rfl, K5, X5, A5, q5⟩
       refine ⟨_, rfl, ?_⟩
       have z5 := q5.size
       have kbt : K0 bt = 0 := (kO bt (by omega)).trans (A.kz _ (by omega))
       have r5 := range_same r4 (q5.same bt bt2.2 (by rw [kbt]; unfold inR; omega))
       have t5 := there_same tA ((q5.same w.heap.size (by omega) (by rw [kA]; unfold inR; omega)).trans ((b14.block _ (by omega)).trans (b1.block _ (by omega))))
       have Lt5 : Ld Tryz.prog 44 bt 0 (Eq x5) (.agg (dtA d B' cB' nB)) := .of (load_agg (by kernel_rfl) (by kernel_rfl) r5)
       repeat ((conv => whnf); first | refine Xl Lt5 ?_ | refine Xt ?_ | refine Xq ?_ | refine Xn ?_ | refine Xj ?_ | refine Xo ?_); try (conv => whnf)
       refine VStore.mid (c := dtA d B' cB' nB) t5 (by kernel_rfl) (one_dtA _ _ _ _) fun x6 hx6 => ?_
       have o6 : x6.rangeAt w.heap.size 0 (dtA d B' cB' nB).toList := by rw [hx6.out]; exact rng_in t5 (by simp)
       have g6 : x5.grownBy x6 (some w.heap.size) := by rw [hx6.out]; exact grown_sets _ _ _ _
       have k5A : K5 w.heap.size = r + 5 := (q5.kk _ (by omega)).trans kA
       have q6 : Ro (· = r + 5) K5 K5 x5 x6 := .grown g6 fun k hk => by injection hk with hk; rw [← hk]; exact k5A
       have LR : Ld Tryz.prog 44 w.heap.size 0 (Eq x6) (.agg (dtA d B' cB' nB)) := .of (load_agg (by kernel_rfl) (by kernel_rfl) o6)
       repeat ((conv => whnf); first | refine Xl LR ?_ | refine Xt ?_ | refine Xq ?_ | refine Xn ?_ | refine Xj ?_ | refine Xo ?_); try (conv => whnf)
       have A6 := A5.ro q6 (fun y hy => A5.kz y (Nat.le_trans g6.size hy)) (by omega) (fun y hy => by simp only [inR, inB] at hy; omega)
       obtain ⟨K7, hK7⟩ : ∃ K7 : Nat → Nat, K7 = fun y => if y = w.heap.size then 0 else K5 y := ⟨_, rfl⟩
       have k7 : ∀ y, y ≠ w.heap.size → K7 y = K5 y := fun y hy => by rw [hK7]; exact if_neg hy
       have A7 : OrdAt x6 K7 r b (o.keep d) X5 := A6.rerole (fun y hy => k7 y (fun e => by rw [e, k5A] at hy; simp only [inR, inB] at hy; omega)) fun y hy => by
         by_cases e : y = w.heap.size
         · rw [hK7]; exact if_pos e
         · rw [k7 y e]; exact A6.kz y hy
       have oB5 : ∀ k, blk B' = some k → x6.heap[k]? = x4.heap[k]? ∧ k ≠ w.heap.size ∧ K5 k = 0 := fun k hk => by
         have hk2 := oB4.lo k hk
         have hkw : k ≠ w.heap.size := by omega
         have hk0 : K0 k = 0 := (kO k hkw).trans (A.kz k (by omega))
         exact ⟨(g6.block k (by omega) (fun e => by injection e with e; exact hkw e)).trans (q5.same k hk2.2 (by rw [hk0]; unfold inR; omega)), hkw, (q5.kk k hk2.2).trans hk0⟩
       have oB6 : Owns x6 x1.heap.size 5 1 eByte B' cB' body := oB4.same fun k hk => (oB5 k hk).1
       have oB7 : Owns x6 w.heap.size 5 1 eByte B' cB' body := by
         refine ⟨oB6.1, ?_⟩
         rcases oB6.2 with h | ⟨g, cap, cur, h1, h2, h3⟩
         · exact .inl h
         · exact .inr ⟨g, cap, cur, h1, by omega, h3⟩
       have hd1 : d.b = body := by rw [hd]
       refine .mk ⟨B', cB', ?_, ?_, K7, X5, ?_, ?_, ?_⟩
       · rw [hsend]; show _ = Ending.returned (.tuple #[.agg (dtA d B' cB' d.b.length), .int .i64 0]); rw [hdb]; rfl
       · rw [hsend]; show Owns x6 w.heap.size 5 1 eByte B' cB' d.b; rw [hd1]; exact oB7
       · rw [hsend]; exact A7
       · have zz := g6.size
         refine ⟨(g6.os.trans q5.os).trans bw4.os, (g6.tape.trans q5.tape).trans bw4.tape, (g6.output.trans q5.output).trans bw4.output, by omega, fun y hy hn => ?_, fun y hy => ?_⟩
         · rw [g6.block y (by omega) (fun e => by injection e with e; omega), q5.same y (by omega) (by rw [kO y (by omega)]; exact hn)]
           exact bw4.block y hy
         · rw [k7 y (by omega), q5.kk y (by omega), kO y (by omega)]
       · exact fun k hk => by rw [k7 k (oB5 k hk).2.1]; exact (oB5 k hk).2.2
     · skip
       repeat ((conv => whnf); first | refine Xt ?_ | refine Xq ?_ | refine Xn ?_ | refine Xj ?_ | refine Xo ?_); try (conv => whnf)
       refine .mk _ run_zero71 ?_
       conv => whnf
       refine .mk fun u2 hu2 => ?_
       have cu : Below x1.heap.size x1 u2 := by rw [hu2.out]; exact Below.trans (Below.refl _ x1).drew ((Below.refl x1.drew.heap.size x1.drew).alloc (Nat.le_refl _) _)
       have zu : u2.heap.size = x1.heap.size + 1 := by rw [hu2.out]; exact World.size_alloc _ _
       have hsu : Sm [b] x1 u2 := .below cu fun y hy => by rw [List.mem_singleton.1 hy]; omega
       obtain ⟨bt, hbt⟩ : ∃ bt, bt = x1.drew.heap.size := ⟨_, rfl⟩
       have hbt' : bt = x1.heap.size := hbt
       have tu : u2.there bt 0 4 := by rw [hu2.out, hbt]; exact there_new _ _ _
       rw [← hbt]
       repeat ((conv => whnf); first | (refine VS.mk hsu ?_) | refine Xt ?_ | refine Xq ?_ | refine Xn ?_ | refine Xj ?_ | refine Xo ?_); try (conv => whnf)
       refine VApp.rows x1.heap.size 1 1 _ Tryz.underlying42 info5 rfl (by decide) eByte (fun _ => rfl) one_eByte [] body rfl hnB (owns_nil _ _ _ _ _) ((hB.below bw1 (Nat.le_refl _)).below cu bw1.size) (by omega) (by omega) (by omega) fun B' cB' x3 oB hg3 hA3 => ?_
       rw [Nat.zero_add]
       rw [List.nil_append] at oB
       have c3 : Below x1.heap.size x1 x3 := cu.grown hg3 (by omega) fun k hk => by cases hk
       have z3 := hg3.size
       have hs3 : Sm [b] x1 x3 := .below c3 fun y hy => by rw [List.mem_singleton.1 hy]; omega
       have t3 : x3.there bt 0 4 := there_same tu (hg3.block bt (by omega) (fun e => by cases e))
       have hne : ∀ k, blk B' = some k → k ≠ bt := fun k hk => by
         rcases hA3 with e | e
         · rw [e] at hk; cases hk
         · rw [e] at hk; injection hk with hk; omega
       repeat ((conv => whnf); first | (refine VS.mk hs3 ?_) | refine Xt ?_ | refine Xq ?_ | refine Xn ?_ | refine Xj ?_ | refine Xo ?_); try (conv => whnf)
       have hdA : (#[.int .i64 o.self, .int .i64 ((o.taken o.self : Int) + 1), .int .i64 o.pre, .slice B' nB cB'] : Array Value) = dtA d B' cB' nB := by rw [hd]; rfl
       refine VBuild.mk (.agg (dtA d B' cB' nB)) (fun W' => by rw [← hdA]; exact build71 W' o.self ((o.taken o.self : Int) + 1) o.pre B' nB cB') ?_
       repeat ((conv => whnf); first | refine Xt ?_ | refine Xq ?_ | refine Xn ?_ | refine Xj ?_ | refine Xo ?_); try (conv => whnf)
       refine VStore.mid (c := dtA d B' cB' nB) t3 (by kernel_rfl) (one_dtA _ _ _ _) fun x4 hx4 => ?_
       have g4 : x3.grownBy x4 (some bt) := by rw [hx4.out]; exact grown_sets _ _ _ _
       have z4 := g4.size
       have r4 : x4.rangeAt bt 0 (dtA d B' cB' nB).toList := by rw [hx4.out]; exact rng_in t3 (by simp)
       have bt2 : w.heap.size < bt ∧ bt < x4.heap.size := by omega
       have oB4 : Owns x4 x1.heap.size 5 1 eByte B' cB' body := oB.same fun k hk => g4.block k (oB.lo k hk).2 (fun e => by injection e with e; exact hne k hk e)
       have b14 : Below x1.heap.size x1 x4 := c3.grown g4 (by omega) fun k hk => by injection hk with hk; omega
       have hs4 : Sm [b] x1 x4 := .below b14 fun y hy => by rw [List.mem_singleton.1 hy]; omega
       clear hx4 hu2 tu t3 hne hA3 hbt
       clear g4 z4 hs3 hg3 c3 z3 oB
       clear x3
       clear cu zu hsu
       clear u2
       repeat ((conv => whnf); first | (refine VS.mk hs4 ?_) | refine Xt ?_ | refine Xq ?_ | refine Xn ?_ | refine Xj ?_ | refine Xo ?_); try (conv => whnf)
       -- world x4: b14, oB4 : the copy, r4 : the box bt
       have Lt4 : Ld Tryz.prog 44 bt 0 (Eq x4) (.agg (dtA d B' cB' nB)) := .of (load_agg (by kernel_rfl) (by kernel_rfl) r4)
       have bw4 : Below w.heap.size w x4 := bw1.trans (b14.mono bw1.size)
       have bA4 : Below wA.heap.size wA x4 := b1.trans (b14.mono z1)
       have A4 := AA.below bA4
       have hz4 := bw4.size
       have hz14 := b14.size
       repeat ((conv => whnf); first | refine Xl Lt4 ?_ | refine Xt ?_ | refine Xq ?_ | refine Xn ?_ | refine Xj ?_ | refine Xo ?_); try (conv => whnf)
       have hdb : d.b.length = nB := by rw [hd]; exact hnB
       have kp := keep_any A4 W d (by rw [hd]; exact W.self) (by rw [hd]; exact htk) (by rw [hd]; exact hnew) hql (B := B') (cB := cB') hdb (by rw [hd]; exact oB4.row fun _ => rfl) (by omega)
       refine VCall.mk _ kp ?_
       rintro _ x5 ⟨rfl, K5, X5, A5, q5⟩
       refine ⟨_, rfl, ?_⟩
       have z5 := q5.size
       have kbt : K0 bt = 0 := (kO bt (by omega)).trans (A.kz _ (by omega))
       have r5 := range_same r4 (q5.same bt bt2.2 (by rw [kbt]; unfold inR; omega))
       have t5 := there_same tA ((q5.same w.heap.size (by omega) (by rw [kA]; unfold inR; omega)).trans ((b14.block _ (by omega)).trans (b1.block _ (by omega))))
       have Lt5 : Ld Tryz.prog 44 bt 0 (Eq x5) (.agg (dtA d B' cB' nB)) := .of (load_agg (by kernel_rfl) (by kernel_rfl) r5)
       repeat ((conv => whnf); first | refine Xl Lt5 ?_ | refine Xt ?_ | refine Xq ?_ | refine Xn ?_ | refine Xj ?_ | refine Xo ?_); try (conv => whnf)
       refine VStore.mid (c := dtA d B' cB' nB) t5 (by kernel_rfl) (one_dtA _ _ _ _) fun x6 hx6 => ?_
       have o6 : x6.rangeAt w.heap.size 0 (dtA d B' cB' nB).toList := by rw [hx6.out]; exact rng_in t5 (by simp)
       have g6 : x5.grownBy x6 (some w.heap.size) := by rw [hx6.out]; exact grown_sets _ _ _ _
       have k5A : K5 w.heap.size = r + 5 := (q5.kk _ (by omega)).trans kA
       have q6 : Ro (· = r + 5) K5 K5 x5 x6 := .grown g6 fun k hk => by injection hk with hk; rw [← hk]; exact k5A
       have LR : Ld Tryz.prog 44 w.heap.size 0 (Eq x6) (.agg (dtA d B' cB' nB)) := .of (load_agg (by kernel_rfl) (by kernel_rfl) o6)
       repeat ((conv => whnf); first | refine Xl LR ?_ | refine Xt ?_ | refine Xq ?_ | refine Xn ?_ | refine Xj ?_ | refine Xo ?_); try (conv => whnf)
       have A6 := A5.ro q6 (fun y hy => A5.kz y (Nat.le_trans g6.size hy)) (by omega) (fun y hy => by simp only [inR, inB] at hy; omega)
       obtain ⟨K7, hK7⟩ : ∃ K7 : Nat → Nat, K7 = fun y => if y = w.heap.size then 0 else K5 y := ⟨_, rfl⟩
       have k7 : ∀ y, y ≠ w.heap.size → K7 y = K5 y := fun y hy => by rw [hK7]; exact if_neg hy
       have A7 : OrdAt x6 K7 r b (o.keep d) X5 := A6.rerole (fun y hy => k7 y (fun e => by rw [e, k5A] at hy; simp only [inR, inB] at hy; omega)) fun y hy => by
         by_cases e : y = w.heap.size
         · rw [hK7]; exact if_pos e
         · rw [k7 y e]; exact A6.kz y hy
       have oB5 : ∀ k, blk B' = some k → x6.heap[k]? = x4.heap[k]? ∧ k ≠ w.heap.size ∧ K5 k = 0 := fun k hk => by
         have hk2 := oB4.lo k hk
         have hkw : k ≠ w.heap.size := by omega
         have hk0 : K0 k = 0 := (kO k hkw).trans (A.kz k (by omega))
         exact ⟨(g6.block k (by omega) (fun e => by injection e with e; exact hkw e)).trans (q5.same k hk2.2 (by rw [hk0]; unfold inR; omega)), hkw, (q5.kk k hk2.2).trans hk0⟩
       have oB6 : Owns x6 x1.heap.size 5 1 eByte B' cB' body := oB4.same fun k hk => (oB5 k hk).1
       have oB7 : Owns x6 w.heap.size 5 1 eByte B' cB' body := by
         refine ⟨oB6.1, ?_⟩
         rcases oB6.2 with h | ⟨g, cap, cur, h1, h2, h3⟩
         · exact .inl h
         · exact .inr ⟨g, cap, cur, h1, by omega, h3⟩
       have hd1 : d.b = body := by rw [hd]
       refine .mk ⟨B', cB', ?_, ?_, K7, X5, ?_, ?_, ?_⟩
       · rw [hsend]; show _ = Ending.returned (.tuple #[.agg (dtA d B' cB' d.b.length), .int .i64 0]); rw [hdb]; rfl
       · rw [hsend]; show Owns x6 w.heap.size 5 1 eByte B' cB' d.b; rw [hd1]; exact oB7
       · rw [hsend]; exact A7
       · have zz := g6.size
         refine ⟨(g6.os.trans q5.os).trans bw4.os, (g6.tape.trans q5.tape).trans bw4.tape, (g6.output.trans q5.output).trans bw4.output, by omega, fun y hy hn => ?_, fun y hy => ?_⟩
         · rw [g6.block y (by omega) (fun e => by injection e with e; omega), q5.same y (by omega) (by rw [kO y (by omega)]; exact hn)]
           exact bw4.block y hy
         · rw [k7 y (by omega), q5.kk y (by omega), kO y (by omega)]
       · exact fun k hk => by rw [k7 k (oB5 k hk).2.1]; exact (oB5 k hk).2.2
end
end Go.Proofs.YtoilipfgimcoiaaGreat
namespace Go.Proofs.YtoilipfgimcoiaaGreat
open Go Go.RowKit
theorem VCmp.split {p : Prop} {K : Bool → Prop} (h1 : p → K true) (h2 : ¬ p → K false) : VCmp p K := by
 by_cases h : p
 · exact .tt h (h1 h)
 · exact .ff h (h2 h)
structure Itm where
 kd : Int
 s : Int
 q : Int
 st : Int
 b : List Int
 pos : Int
 sb : Int
 ss : Int
 sq : Int
abbrev itA (i : Itm) (B : Option Addr) (cB nB : Nat) : Array Value := #[.int .i64 i.kd, .int .i64 i.s, .int .i64 i.q, .int .i64 i.st, .slice B nB cB, .int .i64 i.pos, .int .i64 i.sb, .int .i64 i.ss, .int .i64 i.sq]
def Itm.isD (i : Itm) : Prop := i.kd = 1 ∧ 0 ≤ i.s ∧ i.s < 16 ∧ 1 ≤ i.q ∧ i.q ≤ 4611686018427387904 ∧ 0 ≤ i.st ∧ i.st ≤ 4611686018427387904 ∧ (i.b.length : Int) ≤ 256 ∧ i.pos = 0 ∧ i.sb = 0 ∧ i.ss = 0 ∧ i.sq = 0
def Itm.isS (i : Itm) : Prop := i.kd = 2 ∧ i.s = 0 ∧ i.q = 0 ∧ i.st = 0 ∧ (i.b.length : Int) = 0 ∧ 1 ≤ i.pos ∧ i.pos ≤ 4611686018427387904 ∧ 0 ≤ i.sb ∧ i.sb < i.pos ∧ 0 ≤ i.ss ∧ i.ss < 16 ∧ 1 ≤ i.sq ∧ i.sq ≤ 4611686018427387904
instance (i : Itm) : Decidable i.isD := by unfold Itm.isD; exact inferInstance
instance (i : Itm) : Decidable i.isS := by unfold Itm.isS; exact inferInstance
def Itm.ok (i : Itm) : Bool := decide (i.isD ∨ i.isS)
theorem Itm.ok_t {i : Itm} (h : i.isD ∨ i.isS) : i.ok = true := decide_eq_true h
theorem Itm.ok_f {i : Itm} (h : ¬ (i.isD ∨ i.isS)) : i.ok = false := decide_eq_false h
theorem run_eql_slot (w : World) (a b c d : Int) : (binOp .eql 46 (.agg #[.int .i64 a, .int .i64 b]) (.agg #[.int .i64 c, .int .i64 d])).run Tryz.prog w = .ok (.bool (decide (a = c ∧ b = d))) w := by
 go_simp
 by_cases h1 : a = c <;> by_cases h2 : b = d <;> simp [h1, h2]
theorem build78z (W : World) : (Instr.build 46 #[]).run Tryz.prog W = .ok (.agg #[.int .i64 0, .int .i64 0]) W := by kernel_rfl
theorem VCall.count {v m : Int} {w : World} {K : Value → World → Prop} (h1 : m ≤ v → v ≤ 4611686018427387904 → K (.bool true) w) (h2 : ¬ (m ≤ v ∧ v ≤ 4611686018427387904) → K (.bool false) w) : VCall Tryz.prog 112 #[.int .i64 v, .int .i64 m] w K := by
 refine VCall.mk _ (count_any v m w) ?_
 rintro _ _ ⟨rfl, rfl⟩
 refine ⟨_, rfl, ?_⟩
 by_cases h : m ≤ v ∧ v ≤ 4611686018427387904
 · rw [decide_eq_true h]; exact h1 h.1 h.2
 · rw [decide_eq_false h]; exact h2 h
theorem VBin.slot {a b c d : Int} {S : World → Prop} {K : Value → Prop} (h1 : a = c → b = d → K (.bool true)) (h2 : ¬ (a = c ∧ b = d) → K (.bool false)) : VBin Tryz.prog .eql 46 (.agg #[.int .i64 a, .int .i64 b]) (.agg #[.int .i64 c, .int .i64 d]) S K := by
 refine VBin.mk _ (Bn.of fun W => run_eql_slot W a b c d) ?_
 by_cases h : a = c ∧ b = d
 · rw [decide_eq_true h]; exact h1 h.1 h.2
 · rw [decide_eq_false h]; exact h2 h
theorem one_slI (a b : Int) : (#[.int .i64 a, .int .i64 b] : Array Value).all (·.oneCell') = true := by
 have : ∀ u ∈ [Value.int .i64 a, .int .i64 b], u.oneCell' = true := fun u hu => by
   simp only [List.mem_cons, List.not_mem_nil, or_false] at hu
   rcases hu with rfl | rfl <;> rfl
 exact all_oneCell_toArray this
theorem one_dtI (a b c : Int) (A : Option Addr) (n m : Nat) : (#[.int .i64 a, .int .i64 b, .int .i64 c, .slice A n m] : Array Value).all (·.oneCell') = true := by
 have : ∀ u ∈ [Value.int .i64 a, .int .i64 b, .int .i64 c, .slice A n m], u.oneCell' = true := fun u hu => by
   simp only [List.mem_cons, List.not_mem_nil, or_false] at hu
   rcases hu with rfl | rfl | rfl | rfl <;> rfl
 exact all_oneCell_toArray this
set_option maxRecDepth 100000 in
set_option maxHeartbeats 8000000 in
theorem valid_any (i : Itm) (B : Option Addr) (cB nB : Nat) (w : World) (hnB : i.b.length = nB) : Calls Tryz.prog 100 #[.agg (itA i B cB nB)] w fun e w' => e = .returned (.bool i.ok) ∧ Below w.heap.size w w' := by
 refine calls_vc tab_ok Tryz.func100 rfl ?_
 conv => whnf
 refine .mk fun wA hwA => ?_
 have bA : Below w.heap.size w wA := by rw [hwA.out]; exact below_box1 _ _ _
 have zA : wA.heap.size = w.heap.size + 1 := by rw [hwA.out]; simp
 have oA : wA.rangeAt w.heap.size 0 (itA i B cB nB).toList := by rw [hwA.out]; exact range_new w _ 48
 clear hwA
 have L1 : Ld Tryz.prog 44 w.heap.size 1 (Sm [w.heap.size] wA) (.agg #[.int .i64 i.s, .int .i64 i.q, .int .i64 i.st, .slice B nB cB]) := ⟨fun W hW => load_agg (by kernel_rfl) (by kernel_rfl) (range_sub (n := 4) (range_same oA (hW _ (by simp))) 1 rfl)⟩
 have L2 : Ld Tryz.prog 46 w.heap.size 7 (Sm [w.heap.size] wA) (.agg #[.int .i64 i.ss, .int .i64 i.sq]) := ⟨fun W hW => load_agg (by kernel_rfl) (by kernel_rfl) (range_sub (n := 2) (range_same oA (hW _ (by simp))) 7 rfl)⟩
 have hs0 : Sm [w.heap.size] wA wA.drew := fun _ _ => rfl
 repeat ((conv => whnf); first | refine Xt ?_ | refine Xq ?_ | refine Xn ?_ | refine Xj ?_ | refine Xo ?_); try (conv => whnf)
 refine VDraw.pl 1000 (.two [0, 1, 2, 3] 4 (.one [] 5 (.one [] 6 (.one [] 7 (.stop [])))) 5 (.one [] 4 (.one [] 6 (.one [] 7 (.stop []))))) (Sm [w.heap.size] wA) (by kernel_rfl) (hs0) ?_
 repeat ((conv => whnf); first | refine Xl L1 ?_ | refine Xl L2 ?_ | refine Xt ?_ | refine Xq ?_ | refine Xn ?_ | refine Xj ?_ | refine Xo ?_); try (conv => whnf)
 refine ⟨?_, ?_⟩
 · repeat ((conv => whnf); first | refine Xt ?_ | refine Xq ?_ | refine Xn ?_ | refine Xj ?_ | refine Xo ?_); try (conv => whnf)
   refine .mk _ run_zero71 ?_
   conv => whnf
   refine .mk fun u1 hu1 => ?_
   have c1 : Below wA.heap.size wA u1 := by rw [hu1.out]; exact Below.trans (Below.refl _ wA).drew ((Below.refl wA.drew.heap.size wA.drew).alloc (Nat.le_refl _) _)
   have z1 : u1.heap.size = wA.heap.size + 1 := by rw [hu1.out]; exact World.size_alloc _ _
   obtain ⟨y1, hb1⟩ : ∃ y, y = wA.drew.heap.size := ⟨_, rfl⟩
   have hb1' : y1 = wA.heap.size := hb1
   have tb1 : u1.there y1 0 4 := by rw [hu1.out, hb1]; exact there_new _ _ _
   rw [← hb1]
   have hs1 : Sm [w.heap.size] wA u1 := .below c1 fun y hy => by rw [List.mem_singleton.1 hy]; omega
   repeat ((conv => whnf); first | (refine VS.mk hs1 ?_) | refine Xt ?_ | refine Xq ?_ | refine Xn ?_ | refine Xj ?_ | refine Xo ?_); try (conv => whnf)
   refine .mk _ run_zero78 ?_
   conv => whnf
   refine .mk fun u2 hu2 => ?_
   have c2 : Below u1.heap.size u1 u2 := by rw [hu2.out]; exact (Below.refl _ _).alloc (Nat.le_refl _) _
   have z2 : u2.heap.size = u1.heap.size + 1 := by rw [hu2.out]; exact World.size_alloc _ _
   obtain ⟨y2, hb2⟩ : ∃ y, y = u1.heap.size := ⟨_, rfl⟩
   have tb2 : u2.there y2 0 2 := by rw [hu2.out, hb2]; exact there_new _ _ _
   rw [← hb2]
   have tb3 := there_same tb1 (c2.block _ (by omega))
   have hs2 : Sm [w.heap.size] wA u2 := hs1.trans (.below c2 fun y hy => by rw [List.mem_singleton.1 hy]; omega)
   have cA2 : Below wA.heap.size wA u2 := c1.trans (c2.mono c1.size)
   have hne : y1 ≠ y2 := by omega
   have hy1 : y1 < u2.heap.size ∧ wA.heap.size ≤ y1 := by omega
   have hy2 : y2 < u2.heap.size ∧ wA.heap.size ≤ y2 := by omega
   have ty1 : u2.there y1 0 4 := by first | exact tb3 | exact tb2
   have ty2 : u2.there y2 0 2 := by first | exact tb3 | exact tb2
   repeat ((conv => whnf); first | (refine VS.mk hs2 ?_) | refine Xt ?_ | refine Xq ?_ | refine Xn ?_ | refine Xj ?_ | refine Xo ?_); try (conv => whnf)
   refine VStore.mid (c := #[.int .i64 i.s, .int .i64 i.q, .int .i64 i.st, .slice B nB cB]) ty1 (by kernel_rfl) (one_dtI _ _ _ _ _ _) fun u3 hu3 => ?_
   have g3 : u2.grownBy u3 (some y1) := by rw [hu3.out]; exact grown_sets _ _ _ _
   have z3 := g3.size
   have r3 : u3.rangeAt y1 0 [.int .i64 i.s, .int .i64 i.q, .int .i64 i.st, .slice B nB cB] := by rw [hu3.out]; exact rng_in ty1 (by simp)
   have ty3 := there_same ty2 (g3.block y2 hy2.1 (fun e => by injection e with e; exact hne e.symm))
   have cA3 : Below wA.heap.size wA u3 := cA2.grown g3 (by omega) fun k hk => by injection hk with hk; omega
   have hs3 : Sm [w.heap.size] wA u3 := .below cA3 fun y hy => by rw [List.mem_singleton.1 hy]; omega
   repeat ((conv => whnf); first | (refine VS.mk hs3 ?_) | refine Xt ?_ | refine Xq ?_ | refine Xn ?_ | refine Xj ?_ | refine Xo ?_); try (conv => whnf)
   refine VStore.mid (c := #[.int .i64 i.ss, .int .i64 i.sq]) ty3 (by kernel_rfl) (one_slI _ _) fun u4 hu4 => ?_
   have g4 : u3.grownBy u4 (some y2) := by rw [hu4.out]; exact grown_sets _ _ _ _
   have r4 : u4.rangeAt y2 0 [.int .i64 i.ss, .int .i64 i.sq] := by rw [hu4.out]; exact rng_in ty3 (by simp)
   have r31 := range_same r3 (g4.block y1 (by omega) (fun e => by injection e with e; exact hne e))
   have cA4 : Below wA.heap.size wA u4 := cA3.grown g4 (by omega) fun k hk => by injection hk with hk; omega
   have hs4 : Sm [w.heap.size] wA u4 := .below cA4 fun y hy => by rw [List.mem_singleton.1 hy]; omega
   have r0 := range_same oA (hs4 _ (by simp))
   have bw4 : Below w.heap.size w u4 := bA.trans (cA4.mono (by omega))
   repeat ((conv => whnf); first | (refine VS.mk hs4 ?_) | refine Xt ?_ | refine Xq ?_ | refine Xn ?_ | refine Xj ?_ | refine Xo ?_); try (conv => whnf)
   have K0 : Ld Tryz.prog 3 w.heap.size 0 (Eq u4) (.int .i64 i.kd) := .of (load3 (r0 0 _ rfl))
   have K1 : Ld Tryz.prog 3 w.heap.size 5 (Eq u4) (.int .i64 i.pos) := .of (load3 (r0 5 _ rfl))
   have K2 : Ld Tryz.prog 3 w.heap.size 6 (Eq u4) (.int .i64 i.sb) := .of (load3 (r0 6 _ rfl))
   have D0 : Ld Tryz.prog 3 y1 0 (Eq u4) (.int .i64 i.s) := .of (load3 (r31 0 _ rfl))
   have D1 : Ld Tryz.prog 3 y1 1 (Eq u4) (.int .i64 i.q) := .of (load3 (r31 1 _ rfl))
   have D2 : Ld Tryz.prog 3 y1 2 (Eq u4) (.int .i64 i.st) := .of (load3 (r31 2 _ rfl))
   have D3 : Ld Tryz.prog 42 y1 3 (Eq u4) (.slice B nB cB) := .of (load27 (r31 3 _ rfl))
   have S0 : Ld Tryz.prog 3 y2 0 (Eq u4) (.int .i64 i.ss) := .of (load3 (r4 0 _ rfl))
   have S1 : Ld Tryz.prog 3 y2 1 (Eq u4) (.int .i64 i.sq) := .of (load3 (r4 1 _ rfl))
   have S2 : Ld Tryz.prog 46 y2 0 (Eq u4) (.agg #[.int .i64 i.ss, .int .i64 i.sq]) := .of (load_agg (by kernel_rfl) (by kernel_rfl) r4)
   clear L1 L2 hs0 hs1 hs2 hs3 hs4 c1 c2 cA2 cA3 cA4 g3 g4 r3 tb1 tb2 tb3 ty1 ty2 ty3 hu1 hu2 hu3 hu4 z1 z2 z3 hb1 hb1' hb2 hne hy1 hy2 r0 r31 r4 oA bA zA
   repeat' (conv => whnf
            first
            | (refine VLoad.mk _ K0 ?_)
            | (refine VLoad.mk _ K1 ?_)
            | (refine VLoad.mk _ K2 ?_)
            | (refine VLoad.mk _ D0 ?_)
            | (refine VLoad.mk _ D1 ?_)
            | (refine VLoad.mk _ D2 ?_)
            | (refine VLoad.mk _ D3 ?_)
            | (refine VLoad.mk _ S0 ?_)
            | (refine VLoad.mk _ S1 ?_)
            | (refine VLoad.mk _ S2 ?_)
            | (refine VCall.count (fun _ _ => ?_) (fun _ => ?_))
            | (refine VBuild.mk _ (fun W' => build78z W') ?_)
            | (refine VBin.slot (fun _ _ => ?_) (fun _ => ?_))
            | refine Xt ?_
            | refine Xq ?_
            | refine Xn ?_
            | refine Xj ?_
            | refine Xo ?_
            | (refine VCmp.split (fun _ => ?_) (fun _ => ?_)))
   all_goals try (conv => whnf)
   all_goals first
     | exact .mk ⟨by rw [Itm.ok_t (by unfold Itm.isD Itm.isS; omega)]; rfl, bw4⟩
     | exact .mk ⟨by rw [Itm.ok_f (by unfold Itm.isD Itm.isS; omega)]; rfl, bw4⟩
 · repeat ((conv => whnf); first | refine Xt ?_ | refine Xq ?_ | refine Xn ?_ | refine Xj ?_ | refine Xo ?_); try (conv => whnf)
   refine .mk _ run_zero78 ?_
   conv => whnf
   refine .mk fun u1 hu1 => ?_
   have c1 : Below wA.heap.size wA u1 := by rw [hu1.out]; exact Below.trans (Below.refl _ wA).drew ((Below.refl wA.drew.heap.size wA.drew).alloc (Nat.le_refl _) _)
   have z1 : u1.heap.size = wA.heap.size + 1 := by rw [hu1.out]; exact World.size_alloc _ _
   obtain ⟨y2, hb1⟩ : ∃ y, y = wA.drew.heap.size := ⟨_, rfl⟩
   have hb1' : y2 = wA.heap.size := hb1
   have tb1 : u1.there y2 0 2 := by rw [hu1.out, hb1]; exact there_new _ _ _
   rw [← hb1]
   have hs1 : Sm [w.heap.size] wA u1 := .below c1 fun y hy => by rw [List.mem_singleton.1 hy]; omega
   repeat ((conv => whnf); first | (refine VS.mk hs1 ?_) | refine Xt ?_ | refine Xq ?_ | refine Xn ?_ | refine Xj ?_ | refine Xo ?_); try (conv => whnf)
   refine .mk _ run_zero71 ?_
   conv => whnf
   refine .mk fun u2 hu2 => ?_
   have c2 : Below u1.heap.size u1 u2 := by rw [hu2.out]; exact (Below.refl _ _).alloc (Nat.le_refl _) _
   have z2 : u2.heap.size = u1.heap.size + 1 := by rw [hu2.out]; exact World.size_alloc _ _
   obtain ⟨y1, hb2⟩ : ∃ y, y = u1.heap.size := ⟨_, rfl⟩
   have tb2 : u2.there y1 0 4 := by rw [hu2.out, hb2]; exact there_new _ _ _
   rw [← hb2]
   have tb3 := there_same tb1 (c2.block _ (by omega))
   have hs2 : Sm [w.heap.size] wA u2 := hs1.trans (.below c2 fun y hy => by rw [List.mem_singleton.1 hy]; omega)
   have cA2 : Below wA.heap.size wA u2 := c1.trans (c2.mono c1.size)
   have hne : y1 ≠ y2 := by omega
   have hy1 : y1 < u2.heap.size ∧ wA.heap.size ≤ y1 := by omega
   have hy2 : y2 < u2.heap.size ∧ wA.heap.size ≤ y2 := by omega
   have ty1 : u2.there y1 0 4 := by first | exact tb3 | exact tb2
   have ty2 : u2.there y2 0 2 := by first | exact tb3 | exact tb2
   repeat ((conv => whnf); first | (refine VS.mk hs2 ?_) | refine Xt ?_ | refine Xq ?_ | refine Xn ?_ | refine Xj ?_ | refine Xo ?_); try (conv => whnf)
   refine VStore.mid (c := #[.int .i64 i.s, .int .i64 i.q, .int .i64 i.st, .slice B nB cB]) ty1 (by kernel_rfl) (one_dtI _ _ _ _ _ _) fun u3 hu3 => ?_
   have g3 : u2.grownBy u3 (some y1) := by rw [hu3.out]; exact grown_sets _ _ _ _
   have z3 := g3.size
   have r3 : u3.rangeAt y1 0 [.int .i64 i.s, .int .i64 i.q, .int .i64 i.st, .slice B nB cB] := by rw [hu3.out]; exact rng_in ty1 (by simp)
   have ty3 := there_same ty2 (g3.block y2 hy2.1 (fun e => by injection e with e; exact hne e.symm))
   have cA3 : Below wA.heap.size wA u3 := cA2.grown g3 (by omega) fun k hk => by injection hk with hk; omega
   have hs3 : Sm [w.heap.size] wA u3 := .below cA3 fun y hy => by rw [List.mem_singleton.1 hy]; omega
   repeat ((conv => whnf); first | (refine VS.mk hs3 ?_) | refine Xt ?_ | refine Xq ?_ | refine Xn ?_ | refine Xj ?_ | refine Xo ?_); try (conv => whnf)
   refine VStore.mid (c := #[.int .i64 i.ss, .int .i64 i.sq]) ty3 (by kernel_rfl) (one_slI _ _) fun u4 hu4 => ?_
   have g4 : u3.grownBy u4 (some y2) := by rw [hu4.out]; exact grown_sets _ _ _ _
   have r4 : u4.rangeAt y2 0 [.int .i64 i.ss, .int .i64 i.sq] := by rw [hu4.out]; exact rng_in ty3 (by simp)
   have r31 := range_same r3 (g4.block y1 (by omega) (fun e => by injection e with e; exact hne e))
   have cA4 : Below wA.heap.size wA u4 := cA3.grown g4 (by omega) fun k hk => by injection hk with hk; omega
   have hs4 : Sm [w.heap.size] wA u4 := .below cA4 fun y hy => by rw [List.mem_singleton.1 hy]; omega
   have r0 := range_same oA (hs4 _ (by simp))
   have bw4 : Below w.heap.size w u4 := bA.trans (cA4.mono (by omega))
   repeat ((conv => whnf); first | (refine VS.mk hs4 ?_) | refine Xt ?_ | refine Xq ?_ | refine Xn ?_ | refine Xj ?_ | refine Xo ?_); try (conv => whnf)
   have K0 : Ld Tryz.prog 3 w.heap.size 0 (Eq u4) (.int .i64 i.kd) := .of (load3 (r0 0 _ rfl))
   have K1 : Ld Tryz.prog 3 w.heap.size 5 (Eq u4) (.int .i64 i.pos) := .of (load3 (r0 5 _ rfl))
   have K2 : Ld Tryz.prog 3 w.heap.size 6 (Eq u4) (.int .i64 i.sb) := .of (load3 (r0 6 _ rfl))
   have D0 : Ld Tryz.prog 3 y1 0 (Eq u4) (.int .i64 i.s) := .of (load3 (r31 0 _ rfl))
   have D1 : Ld Tryz.prog 3 y1 1 (Eq u4) (.int .i64 i.q) := .of (load3 (r31 1 _ rfl))
   have D2 : Ld Tryz.prog 3 y1 2 (Eq u4) (.int .i64 i.st) := .of (load3 (r31 2 _ rfl))
   have D3 : Ld Tryz.prog 42 y1 3 (Eq u4) (.slice B nB cB) := .of (load27 (r31 3 _ rfl))
   have S0 : Ld Tryz.prog 3 y2 0 (Eq u4) (.int .i64 i.ss) := .of (load3 (r4 0 _ rfl))
   have S1 : Ld Tryz.prog 3 y2 1 (Eq u4) (.int .i64 i.sq) := .of (load3 (r4 1 _ rfl))
   have S2 : Ld Tryz.prog 46 y2 0 (Eq u4) (.agg #[.int .i64 i.ss, .int .i64 i.sq]) := .of (load_agg (by kernel_rfl) (by kernel_rfl) r4)
   clear L1 L2 hs0 hs1 hs2 hs3 hs4 c1 c2 cA2 cA3 cA4 g3 g4 r3 tb1 tb2 tb3 ty1 ty2 ty3 hu1 hu2 hu3 hu4 z1 z2 z3 hb1 hb1' hb2 hne hy1 hy2 r0 r31 r4 oA bA zA
   repeat' (conv => whnf
            first
            | (refine VLoad.mk _ K0 ?_)
            | (refine VLoad.mk _ K1 ?_)
            | (refine VLoad.mk _ K2 ?_)
            | (refine VLoad.mk _ D0 ?_)
            | (refine VLoad.mk _ D1 ?_)
            | (refine VLoad.mk _ D2 ?_)
            | (refine VLoad.mk _ D3 ?_)
            | (refine VLoad.mk _ S0 ?_)
            | (refine VLoad.mk _ S1 ?_)
            | (refine VLoad.mk _ S2 ?_)
            | (refine VCall.count (fun _ _ => ?_) (fun _ => ?_))
            | (refine VBuild.mk _ (fun W' => build78z W') ?_)
            | (refine VBin.slot (fun _ _ => ?_) (fun _ => ?_))
            | refine Xt ?_
            | refine Xq ?_
            | refine Xn ?_
            | refine Xj ?_
            | refine Xo ?_
            | (refine VCmp.split (fun _ => ?_) (fun _ => ?_)))
   all_goals try (conv => whnf)
   all_goals first
     | exact .mk ⟨by rw [Itm.ok_t (by unfold Itm.isD Itm.isS; omega)]; rfl, bw4⟩
     | exact .mk ⟨by rw [Itm.ok_f (by unfold Itm.isD Itm.isS; omega)]; rfl, bw4⟩
end Go.Proofs.YtoilipfgimcoiaaGreat
