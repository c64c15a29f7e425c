/- OdY OdZ OdZ2 OdZ3 OdZ4 OdZ5 OdMp BkA BkB, joined. -/
import Derived.Sort.Grow
import Derived.Test.YtoilipfgimcoiaaGreatOz7
import Derived.Test.YtoilipfgimcoiaaGreatOz10
set_option linter.unusedVariables false
set_option linter.unusedSimpArgs false
namespace Go.Proofs.YtoilipfgimcoiaaGreat
open Go Go.RowKit
abbrev flA (o : Os) (A : Option Addr) (c : Nat) (H : Option Addr) (m : Nat) : Array Value := #[.int .i64 o.id.e, .int .i64 o.id.l, .int .i64 o.id.i, .int .i64 o.id.c, .int .i64 o.pre, .slice A o.slots.length c, .slice H m m]
theorem one_flA (o : Os) (A : Option Addr) (c : Nat) (H : Option Addr) (m : Nat) : (flA o A c H m).all (·.oneCell') = true := by
 have : ∀ u ∈ [Value.int .i64 o.id.e, .int .i64 o.id.l, .int .i64 o.id.i, .int .i64 o.id.c, .int .i64 o.pre, .slice A o.slots.length c, .slice H m m], u.oneCell' = true := fun u hu => by
   simp only [List.mem_cons, List.not_mem_nil, or_false] at hu
   rcases hu with rfl | rfl | rfl | rfl | rfl | rfl | rfl <;> rfl
 exact all_oneCell_toArray this
abbrev zero51 : Value := .agg #[.int .i64 0, .int .i64 0, .int .i64 0, .int .i64 0, .int .i64 0, .slice none 0 0, .slice none 0 0]
theorem run_zero51 (W : World) : (zeroValue 65).run Tryz.prog W = .ok zero51 W := by kernel_rfl
theorem build51 (W : World) (a b c d e : Int) (A : Option Addr) (n m : Nat) (B : Option Addr) (k j : Nat) : (Instr.build 65 #[(0, .agg #[.int .i64 a, .int .i64 b, .int .i64 c, .int .i64 d]), (1, .int .i64 e), (2, .slice A n m), (3, .slice B k j)]).run Tryz.prog W = .ok (.agg #[.int .i64 a, .int .i64 b, .int .i64 c, .int .i64 d, .int .i64 e, .slice A n m, .slice B k j]) W := by kernel_rfl
theorem run_mk49 (W : World) (n : Nat) (hn : n ≤ 16) : (Instr.makeSlice 56 (.int .i64 n) (.int .i64 n)).run Tryz.prog W = .ok (.slice (some ⟨W.heap.size, 0, none⟩) n n) (W.alloc (.cells (madeCells #[.int .i64 0] n) 3)) := by
 obtain ⟨i, hi, hz, hs, hb⟩ := info_parts info3
 have := run_makeSlice (P := Tryz.prog) W 56 3 i _ Tryz.underlying56 hi hz .i64 .i64 n n (by omega) (by omega) (by rw [hs]; omega) (by rw [hb]; omega) (by omega)
 simpa [hs, Value.cells] using this
def clampN (n : Int) : Nat := if n < 0 then 0 else if 16 < n then 16 else n.toNat
theorem clampN_le (n : Int) : clampN n ≤ 16 := by unfold clampN; split; omega; split <;> omega
theorem maxI_any (a b : Int) (W : World) : (Builtin.max_ #[3, 3] 3 #[.int .i64 a, .int .i64 b]).run Tryz.prog W = .ok (.int .i64 (if a < b then b else a)) W := by
 simp [Builtin.max_, Builtin.max2]
theorem minI_any (a b : Int) (W : World) : (Builtin.min_ #[3, 3] 3 #[.int .i64 a, .int .i64 b]).run Tryz.prog W = .ok (.int .i64 (if b < a then b else a)) W := by
 simp [Builtin.min_, Builtin.min2]
section
variable {w w' : World} {K K' : Nat → Nat} {r b : Nat} {o : Os} {X : OsX}
set_option maxRecDepth 100000 in
set_option maxHeartbeats 8000000 in
theorem content_any (A : OrdAt w K r b o X) (hs : o.slots.length ≤ 1000000000) (n : Int) :
   Calls Tryz.prog 23 #[.pointer (some ⟨b, 0, none⟩), .int .i64 n] w fun e w' => ∃ A' c' H, e = .returned (.agg (flA o A' c' H (clampN n))) ∧ NewO w' w.heap.size 2 eSl A' c' o.slots ∧ NewO w' w.heap.size 1 eNat H (clampN n) ((List.range (clampN n)).map o.taken) ∧ Apart [A', H] ∧ Below w.heap.size w w' := by
 refine calls_vc tab_ok Tryz.func23 rfl ?_
 have hbz := A.cs.hb
 conv => whnf
 refine .mk _ run_zero51 ?_
 conv => whnf
 refine .mk fun wA hwA => ?_
 have bA : Below w.heap.size w wA := by rw [hwA.out]; exact below_box1 _ _ _
 have zA : wA.heap.size = w.heap.size + 1 := by rw [hwA.out]; exact World.size_alloc _ _
 have tA : wA.there w.heap.size 0 7 := by rw [hwA.out]; exact there_new w _ _
 clear hwA
 have AA := A.below bA
 repeat ((conv => whnf); first | refine Xt ?_ | refine Xq ?_ | refine Xn ?_ | refine Xj ?_ | refine Xo ?_); try (conv => whnf)
 obtain ⟨m, hm⟩ : ∃ m, m = clampN n := ⟨_, rfl⟩
 have hm16 : m ≤ 16 := by rw [hm]; exact clampN_le n
 rw [← hm]
 obtain ⟨x, hx⟩ : ∃ x : Int, x = if n < 0 then 0 else n := ⟨_, rfl⟩
 have hxm : (if 16 < x then (16 : Int) else x) = (m : Int) := by
   rw [hm, hx]; unfold clampN
   by_cases h1 : n < 0
   · simp [h1]
   · by_cases h2 : 16 < n <;> simp [h1, h2]; omega
 refine VW.run (v := .int .i64 x) (w' := wA) (fun a ha => ?_) ?_
 · have h3 := ha (.tmp 6) _ rfl
   have h4 : a.eval (.const (.int .i64 0)) = .int .i64 0 := rfl
   have : (Builtin.max_ #[3, 3] 3 #[.int .i64 n, .int .i64 0]).run Tryz.prog wA = .ok (.int .i64 x) wA := by rw [hx]; exact maxI_any n 0 wA
   simp only [execOp, resolve, invoke, builtin, h3, h4, Sem.run_bind, Sem.run_pure, Result.andThen_ok, List.map_cons, List.map_nil, List.map_toArray, this]
 repeat ((conv => whnf); first | refine Xt ?_ | refine Xq ?_ | refine Xn ?_ | refine Xj ?_ | refine Xo ?_); try (conv => whnf)
 refine VW.run (v := .int .i64 m) (w' := wA) (fun a ha => ?_) ?_
 · have h3 := ha (.tmp 7) _ rfl
   have h4 : a.eval (.const (.int .i64 16)) = .int .i64 16 := rfl
   have : (Builtin.min_ #[3, 3] 3 #[.int .i64 x, .int .i64 16]).run Tryz.prog wA = .ok (.int .i64 m) wA := by rw [← hxm]; exact minI_any x 16 wA
   simp only [execOp, resolve, invoke, builtin, h3, h4, Sem.run_bind, Sem.run_pure, Result.andThen_ok, List.map_cons, List.map_nil, List.map_toArray, this]
 clear hx hxm
 repeat ((conv => whnf); first | refine Xt ?_ | refine Xq ?_ | refine Xn ?_ | refine Xj ?_ | refine Xo ?_); try (conv => whnf)
 refine VW.run (v := .slice (some ⟨wA.heap.size, 0, none⟩) m m) (w' := wA.alloc (.cells (madeCells #[.int .i64 0] m) 3)) (fun a ha => ?_) ?_
 · have h3 := ha (.tmp 8) _ rfl
   have := run_mk49 wA m hm16
   simp only [execOp, h3, Sem.run_bind, Sem.run_pure, Result.andThen_ok]
   exact congrArg (fun z => Result.andThen z fun v w' => Result.ok (Next.value v) w') this
 have b1 : Below wA.heap.size wA (wA.alloc (.cells (madeCells #[.int .i64 0] m) 3)) := (Below.refl _ _).alloc (Nat.le_refl _) _
 have z1 : (wA.alloc (.cells (madeCells #[.int .i64 0] m) 3)).heap.size = wA.heap.size + 1 := World.size_alloc _ _
 have t1 : (wA.alloc (.cells (madeCells #[.int .i64 0] m) 3)).there wA.heap.size 0 m := by
   have := there_new wA (madeCells #[.int .i64 0] m) 3
   have e : (madeCells #[Value.int .i64 0] m).size = m := by simp [madeCells]
   rwa [e] at this
 generalize wA.alloc (.cells (madeCells #[.int .i64 0] m) 3) = w1 at b1 z1 t1 ⊢
 have A1 := AA.below b1
 repeat ((conv => whnf); first | refine Xt ?_ | refine Xq ?_ | refine Xn ?_ | refine Xj ?_ | refine Xo ?_); try (conv => whnf)
 refine VQ.mk (.slice (some ⟨b, 24, none⟩) 16 16) (fun a ha W hW => ?_) ?_
 · have h3 := ha (.tmp 13) _ rfl
   have : (Instr.sliceAt 112 (.pointer (some ⟨b, 24, none⟩)) none none none).run Tryz.prog W = .ok (.slice (some ⟨b, 24, none⟩) 16 16) W := by kernel_rfl
   simp only [execOp, h3, Option.map_none, Sem.run_bind, Sem.run_pure, Result.andThen_ok]
   exact congrArg (fun z => Result.andThen z fun v w' => Result.ok (Next.value v) w') this
 repeat ((conv => whnf); first | refine Xt ?_ | refine Xq ?_ | refine Xn ?_ | refine Xj ?_ | refine Xo ?_); try (conv => whnf)
 obtain ⟨cs, hcs⟩ : ∃ cs : List Value, cs = (List.range m).map fun s => Value.int .i64 (o.taken s) := ⟨_, rfl⟩
 have hcl : cs.length = m := by rw [hcs, List.length_map, List.length_range]
 have hcg : ∀ j v, cs[j]? = some v → j < m ∧ v = .int .i64 (o.taken j) := fun j v hv => by
   have hj : j < m := by rw [← hcl]; exact (List.getElem?_eq_some_iff.1 hv).1
   refine ⟨hj, ?_⟩
   rw [hcs, List.getElem?_map, List.getElem?_range hj] at hv
   injection hv with hv
   exact hv.symm
 have hcopy : (Builtin.copy_ #[56, 56] 3 #[.slice (some ⟨wA.heap.size, 0, none⟩) m m, .slice (some ⟨b, 24, none⟩) 16 16]).run Tryz.prog w1 = .ok (goInt cs.length) (w1.setCells wA.heap.size 0 cs) :=
   run_copy_cells w1 56 56 3 3 wA.heap.size 0 m m ⟨b, 24, none⟩ 16 16 cs Tryz.underlying56 (by kernel_rfl) (by rw [hcl]; exact (Nat.min_eq_right hm16).symm) (fun j v hv => by
     obtain ⟨hj, rfl⟩ := hcg j v hv
     rw [Addr.add_mid]
     have := (A1.cs.cell (24 + j) (by omega)).1
     rwa [cellO_taken (by omega)] at this) (fun j hj => (t1 j (by omega)).1) (fun j hj => (t1 j (by omega)).2) (fun v hv => by
     obtain ⟨j, hj⟩ := List.mem_iff_getElem?.1 hv
     obtain ⟨-, rfl⟩ := hcg j v hj
     rfl)
 refine VW.run (v := goInt cs.length) (w' := w1.setCells wA.heap.size 0 cs) (fun a ha => ?_) ?_
 · have h3 := ha (.tmp 10) _ rfl
   have h4 := ha (.tmp 14) _ rfl
   simp only [execOp, resolve, invoke, builtin, h3, h4, Sem.run_bind, Sem.run_pure, Result.andThen_ok, List.map_cons, List.map_nil, List.map_toArray]
   exact congrArg (fun z => Result.andThen z fun v w' => Result.ok (Next.value v) w') hcopy
 have t2' : (w1.setCells wA.heap.size 0 cs).there wA.heap.size 0 m := World.there_setCells t1 _ _ _
 have r2 : (w1.setCells wA.heap.size 0 cs).rangeAt wA.heap.size 0 cs := rng_in t1 (by omega)
 have b2 : Below wA.heap.size w1 (w1.setCells wA.heap.size 0 cs) := (Below.refl _ w1).grown (grown_sets _ _ _ _) (by omega) fun k hk => by injection hk with hk; omega
 generalize w1.setCells wA.heap.size 0 cs = w2 at r2 b2 t2' ⊢
 have z2 := b2.size
 have bw2 : Below w.heap.size w w2 := bA.trans ((b1.mono (by omega)).trans (b2.mono (by omega)))
 have A2 := A.below bw2
 have L0 := A2.l_id (l := [b]) (by simp)
 have L1 := A2.l_pre (l := [b]) (by simp)
 have L2 := A2.l_slots (l := [b]) (by simp)
 have hs2 : Sm [b] w2 w2.drew := fun _ _ => rfl
 have t2 : w2.there w.heap.size 0 7 := there_same tA ((b2.block _ (by omega)).trans (b1.block _ (by omega)))
 repeat ((conv => whnf); first | refine Xt ?_ | refine Xq ?_ | refine Xn ?_ | refine Xj ?_ | refine Xo ?_); try (conv => whnf)
 refine VDraw.pl 15 (.one [0, 1, 2, 3, 4, 5, 6, 7, 8, 9, 10, 11, 13] 12 (.one [14] 15 (.stop []))) (Sm [b] w2) (by kernel_rfl) (hs2) ?_
 repeat ((conv => whnf); first | refine Xl L0 ?_ | refine Xl L1 ?_ | refine Xl L2 ?_ | refine Xt ?_ | refine Xq ?_ | refine Xn ?_ | refine Xj ?_ | refine Xo ?_); try (conv => whnf)
 refine VApp.rows w2.heap.size 2 16 _ Tryz.underlying57 info78 rfl (by decide) eSl (fun _ => rfl) one_eSl [] o.slots rfl rfl (owns_nil _ _ _ _ _) (N := w2.heap.size) A2.rs.s.row (by omega) (by omega) (Nat.le_refl _) fun A' c' w3 oS hg3 _ => ?_
 rw [Nat.zero_add]
 rw [List.nil_append] at oS
 have b3 : Below w2.heap.size w2 w3 := Below.trans (Below.refl _ w2).drew ((Below.refl _ w2.drew).grown hg3 (Nat.le_refl _) fun k hk => by cases hk)
 have z3 := b3.size
 have hs3 : Sm [b] w2 w3 := .below b3 fun y hy => by rw [List.mem_singleton.1 hy]; exact A2.cs.hb
 have t3 : w3.there w.heap.size 0 7 := there_same t2 (b3.block _ (by omega))
 have nS : NewO w3 w2.heap.size 2 eSl A' c' o.slots := .owns oS fun _ => rfl
 have r3 : w3.rangeAt wA.heap.size 0 cs := range_same r2 (b3.block _ (by omega))
 repeat ((conv => whnf); first | (refine VS.mk hs3 ?_) | refine Xt ?_ | refine Xq ?_ | refine Xn ?_ | refine Xj ?_ | refine Xo ?_); try (conv => whnf)
 refine VBuild.mk _ (fun W' => build51 W' o.id.e o.id.l o.id.i o.id.c o.pre A' o.slots.length c' (some ⟨wA.heap.size, 0, none⟩) m m) ?_
 repeat ((conv => whnf); first | (refine VS.mk hs3 ?_) | refine Xt ?_ | refine Xq ?_ | refine Xn ?_ | refine Xj ?_ | refine Xo ?_); try (conv => whnf)
 refine VStore.mid (c := flA o A' c' (some ⟨wA.heap.size, 0, none⟩) m) t3 (by kernel_rfl) (one_flA _ _ _ _ _) fun w4 hw4 => ?_
 have r4 : w4.rangeAt w.heap.size 0 (flA o A' c' (some ⟨wA.heap.size, 0, none⟩) m).toList := by rw [hw4.out]; exact rng_in t3 (by simp)
 have g4 : w3.grownBy w4 (some w.heap.size) := by rw [hw4.out]; exact grown_sets _ _ _ _
 clear hw4
 have b4 : Below w.heap.size w3 w4 := (Below.refl _ w3).grown g4 (by omega) fun k hk => by injection hk with hk; omega
 have LR : Ld Tryz.prog 65 w.heap.size 0 (Eq w4) (.agg (flA o A' c' (some ⟨wA.heap.size, 0, none⟩) m)) := .of (load_agg (by kernel_rfl) (by kernel_rfl) r4)
 have z4 := b4.size
 have keep4 : ∀ y, y < w3.heap.size → y ≠ w.heap.size → w4.heap[y]? = w3.heap[y]? := fun y hy hn => g4.block y hy (fun e => hn (by injection e))
 repeat ((conv => whnf); first | (refine VS.last rfl ?_) | refine Xl LR ?_ | refine Xt ?_ | refine Xq ?_ | refine Xn ?_ | refine Xj ?_ | refine Xo ?_); try (conv => whnf)
 refine .mk ⟨A', c', some ⟨wA.heap.size, 0, none⟩, rfl, ?_, .inr ⟨wA.heap.size, 0, rfl, by omega, by omega, by rw [List.length_map, List.length_range]; exact Nat.le_refl _, ?_, fun k x hx j u hu => ?_⟩, ?_, bw2.trans ((b3.mono (by omega)).trans b4)⟩
 · exact (nS.same z4 fun g hg => by have := nS.lo' g hg; exact keep4 g (by omega) (by omega)).less (by omega)
 · rw [Nat.mul_one]
   exact there_sameO t2' ((keep4 _ (by omega) (by omega)).trans (b3.block _ (by omega)))
 · have hk := keep4 wA.heap.size (by omega) (by omega)
   refine (World.cell?_of_block (a := ⟨wA.heap.size, _, none⟩) hk).trans ?_
   have hk16 : k < m := by have := (List.getElem?_eq_some_iff.1 hx).1; simpa using this
   rw [List.getElem?_map, List.getElem?_range hk16] at hx
   injection hx with hx
   obtain ⟨rfl, rfl⟩ : j = 0 ∧ u = .int .i64 x := by
     cases j with
     | zero => exact ⟨rfl, by simpa [eNat] using hu.symm⟩
     | succ j => simp [eNat] at hu
   have := r3 k (.int .i64 (o.taken k)) (by rw [hcs, List.getElem?_map, List.getElem?_range hk16]; rfl)
   rw [show 0 + k * 1 + 0 = 0 + k by omega, ← hx]
   exact this
 · unfold Apart
   rcases nS with ⟨e, -⟩ | ⟨g, off, e, h1, -⟩
   · rw [e]; show ([wA.heap.size] : List Nat).Nodup; simp
   · rw [e]
     have : g ≠ wA.heap.size := by omega
     show ([g, wA.heap.size] : List Nat).Nodup
     simp [this]
end
end Go.Proofs.YtoilipfgimcoiaaGreat
namespace Go.Proofs.YtoilipfgimcoiaaGreat
open Go Go.RowKit
theorem isNaN_any (a : Int) (w : World) : Calls Tryz.prog 121 #[.int .i64 a] w fun e w' => e = .returned (.bool false) ∧ w' = w := by
 refine calls_vc tab_ok Tryz.func121 rfl ?_
 conv => whnf
 repeat ((conv => whnf); first | refine Xt ?_ | refine Xq ?_ | refine Xn ?_ | refine Xj ?_ | refine Xo ?_); try (conv => whnf)
 exact .mk ⟨rfl, rfl⟩
def cmpI (a b : Int) : Int := if a < b then -1 else if b < a then 1 else 0
theorem compare_any (a b : Int) (w : World) : Calls Tryz.prog 82 #[.int .i64 a, .int .i64 b] w fun e w' => e = .returned (.int .i64 (cmpI a b)) ∧ w' = w := by
 refine calls_vc tab_ok Tryz.func82 rfl ?_
 conv => whnf
 repeat ((conv => whnf); first | refine Xt ?_ | refine Xq ?_ | refine Xn ?_ | refine Xj ?_ | refine Xo ?_); try (conv => whnf)
 refine VCall.mk _ (isNaN_any a w) ?_
 rintro _ _ ⟨rfl, rfl⟩
 refine ⟨_, rfl, ?_⟩
 repeat ((conv => whnf); first | refine Xt ?_ | refine Xq ?_ | refine Xn ?_ | refine Xj ?_ | refine Xo ?_); try (conv => whnf)
 refine VCall.mk _ (isNaN_any b _) ?_
 rintro _ _ ⟨rfl, rfl⟩
 refine ⟨_, rfl, ?_⟩
 by_cases h1 : a < b
 · repeat ((conv => whnf); first | refine Xt ?_ | refine Xq ?_ | refine Xn ?_ | refine Xj ?_ | refine Xo ?_); try (conv => whnf)
   exact .mk ⟨by unfold cmpI; rw [if_pos h1]; rfl, rfl⟩
 · by_cases h2 : b < a
   · repeat ((conv => whnf); first | refine Xt ?_ | refine Xq ?_ | refine Xn ?_ | refine Xj ?_ | refine Xo ?_); try (conv => whnf)
     exact .mk ⟨by unfold cmpI; rw [if_neg h1, if_pos h2]; rfl, rfl⟩
   · repeat ((conv => whnf); first | refine Xt ?_ | refine Xq ?_ | refine Xn ?_ | refine Xj ?_ | refine Xo ?_); try (conv => whnf)
     exact .mk ⟨by unfold cmpI; rw [if_neg h1, if_neg h2]; rfl, rfl⟩
set_option maxRecDepth 100000 in
theorem or_any (A : Option Addr) (c n N : Nat) (l : List Int) (w : World) (hn : l.length = n) (hA : RowAt w N 1 (fun v => [Value.int .i64 v]) A l) (h1 : n ≤ 2000000) :
   Calls Tryz.prog 81 #[.slice A n c] w fun e w' => e = .returned (.int .i64 ((l.find? (fun v => decide (v ≠ 0))).getD 0)) ∧ w' = w := by
 refine calls_vc tab_ok Tryz.func81 rfl ?_
 conv => whnf
 repeat ((conv => whnf); first | refine Xt ?_ | refine Xq ?_ | refine Xn ?_ | refine Xj ?_ | refine Xo ?_); try (conv => whnf)
 refine VLoop.mk Nat (fun k => [(3, .int .i64 0), (6, .slice A n c), (7, .int .i64 n), (8, .int .i64 k)]) (fun k W => k ≤ n ∧ W = w ∧ (l.drop k).find? (fun v => decide (v ≠ 0)) = l.find? (fun v => decide (v ≠ 0))) (fun k => n - k) 0 ⟨rfl, rfl, rfl, rfl, trivial⟩ ⟨Nat.zero_le _, rfl, rfl⟩ ?_
 rintro k W ⟨hk, rfl, hf⟩
 by_cases hkn : k < n
 · obtain ⟨ga, oa, rfl, ha, ca⟩ := hA (by omega)
   obtain ⟨x, hx⟩ : ∃ x, l[k]? = some x := ⟨_, List.getElem?_eq_getElem (by omega)⟩
   have hd : l.drop k = x :: l.drop (k + 1) := by
     rw [List.drop_eq_getElem_cons (by omega)]
     congr 1
     exact (List.getElem?_eq_some_iff.1 hx).2
   rw [hd, List.find?_cons] at hf
   have L1 : Ld Tryz.prog 3 ga (oa + k) (Eq W) (.int .i64 x) := .of (load3 (by have := ca k x hx 0 _ rfl; rwa [Nat.mul_one] at this))
   by_cases h0 : x = 0
   · rw [show decide (x ≠ 0) = false by simp [h0]] at hf
     repeat ((conv => whnf); first | refine Xl L1 ?_ | refine Xt ?_ | refine Xq ?_ | refine Xn ?_ | refine Xj ?_ | refine Xo ?_); try (conv => whnf)
     exact .mk (k + 1) ⟨rfl, rfl, rfl, rfl, trivial⟩ ⟨hkn, rfl, hf⟩ (by show n - (k + 1) < n - k; omega)
   · rw [show decide (x ≠ 0) = true by simp [h0]] at hf
     repeat ((conv => whnf); first | refine Xl L1 ?_ | refine Xt ?_ | refine Xq ?_ | refine Xn ?_ | refine Xj ?_ | refine Xo ?_); try (conv => whnf)
     exact .mk ⟨by rw [← hf]; rfl, rfl⟩
 · rw [List.drop_eq_nil_of_le (by omega)] at hf
   repeat ((conv => whnf); first | refine Xt ?_ | refine Xq ?_ | refine Xn ?_ | refine Xj ?_ | refine Xo ?_); try (conv => whnf)
   exact .mk ⟨by rw [← hf]; rfl, rfl⟩
end Go.Proofs.YtoilipfgimcoiaaGreat
namespace Go.Proofs.YtoilipfgimcoiaaGreat
open Go Go.RowKit
def Gw (w w' : World) : Prop := ∃ q os, w' = Go.Sort.grow (w.drewN q) os
theorem Gw.refl (w : World) : Gw w w := ⟨0, #[], by simp [Go.Sort.grow, World.drewN]⟩
theorem Gw.alloc {w w' : World} (h : Gw w w') (o : Obj) : Gw w (w'.alloc o) := by
 obtain ⟨q, os, rfl⟩ := h
 exact ⟨q, os ++ #[o], by rw [Go.Sort.alloc_eq_grow, Go.Sort.grow_grow]⟩
theorem Gw.drew {w w' : World} (h : Gw w w') : Gw w w'.drew := by
 obtain ⟨q, os, rfl⟩ := h
 exact ⟨q + 1, os, rfl⟩
def cmpD (x y : Dt) : Int := if cmpI x.s y.s ≠ 0 then cmpI x.s y.s else cmpI x.q y.q
theorem bs49b (W : World) (a b : Int) : (Instr.buildSlice 56 2 #[(0, .int .i64 a), (1, .int .i64 b)]).run Tryz.prog W = .ok (.slice (some ⟨W.heap.size, 0, none⟩) 2 2) (W.alloc (.cells #[.int .i64 a, .int .i64 b] 3)) := by kernel_rfl
set_option maxRecDepth 100000 in
theorem cmpD_any (x y : Dt) (A B : Option Addr) (c d n m : Nat) (w : World) :
   Calls Tryz.prog 80 #[.agg (dtA x A c n), .agg (dtA y B d m)] w fun e w' => e = .returned (.int .i64 (cmpD x y)) ∧ Below w.heap.size w w' ∧ Gw w w' := by
 refine calls_vc tab_ok Tryz.func80 rfl ?_
 conv => whnf
 refine .mk fun w1 hw1 => ?_
 have b1 : Below w.heap.size w w1 := by rw [hw1.out]; exact below_box1 _ _ _
 have z1 : w1.heap.size = w.heap.size + 1 := by rw [hw1.out]; exact World.size_alloc _ _
 have r1 : w1.rangeAt w.heap.size 0 (dtA x A c n).toList := by rw [hw1.out]; exact range_new w _ 44
 have g1 : Gw w w1 := by rw [hw1.out]; exact (Gw.refl w).alloc _
 clear hw1
 conv => whnf
 refine .mk fun w2 hw2 => ?_
 have b2 : Below w1.heap.size w1 w2 := by rw [hw2.out]; exact below_box1 _ _ _
 have r2 : w2.rangeAt w1.heap.size 0 (dtA y B d m).toList := by rw [hw2.out]; exact range_new w1 _ 44
 have z2 : w2.heap.size = w1.heap.size + 1 := by rw [hw2.out]; exact World.size_alloc _ _
 have g2 : Gw w w2 := by rw [hw2.out]; exact g1.alloc _
 clear hw2
 have b02 : Below w.heap.size w w2 := b1.trans (b2.mono (by omega))
 have r12 := range_same r1 (b2.block w.heap.size (by omega))
 obtain ⟨p1, hp1⟩ : ∃ p1, p1 = w.heap.size := ⟨_, rfl⟩
 obtain ⟨p2, hp2⟩ : ∃ p2, p2 = w1.heap.size := ⟨_, rfl⟩
 rw [← hp1] at r12 ⊢
 rw [← hp2] at r2 ⊢
 have A0 : Ld Tryz.prog 3 p1 0 (Sm [p1, p2] w2) (.int .i64 x.s) := ⟨fun W hW => load3 (cell_sm (r12 0 _ rfl) (by simp) hW)⟩
 have A1 : Ld Tryz.prog 3 p1 1 (Sm [p1, p2] w2) (.int .i64 x.q) := ⟨fun W hW => load3 (cell_sm (r12 1 _ rfl) (by simp) hW)⟩
 have B0 : Ld Tryz.prog 3 p2 0 (Sm [p1, p2] w2) (.int .i64 y.s) := ⟨fun W hW => load3 (cell_sm (r2 0 _ rfl) (by simp) hW)⟩
 have B1 : Ld Tryz.prog 3 p2 1 (Sm [p1, p2] w2) (.int .i64 y.q) := ⟨fun W hW => load3 (cell_sm (r2 1 _ rfl) (by simp) hW)⟩
 have hs : Sm [p1, p2] w2 w2.drew := fun _ _ => rfl
 repeat ((conv => whnf); first | refine Xt ?_ | refine Xq ?_ | refine Xn ?_ | refine Xj ?_ | refine Xo ?_); try (conv => whnf)
 refine VDraw.pl 1000 (.one [0, 1, 2, 3, 5, 6, 7, 8] 4 (.one [] 9 (.one [] 10 (.one [] 11 (.stop [12]))))) (Sm [p1, p2] w2) (by kernel_rfl) (hs) ?_
 repeat ((conv => whnf); first | refine Xl A0 ?_ | refine Xl A1 ?_ | refine Xl B0 ?_ | refine Xl B1 ?_ | refine Xt ?_ | refine Xq ?_ | refine Xn ?_ | refine Xj ?_ | refine Xo ?_); try (conv => whnf)
 refine VCall.mk _ (compare_any x.s y.s _) ?_
 rintro _ _ ⟨rfl, rfl⟩
 refine ⟨_, rfl, ?_⟩
 repeat ((conv => whnf); first | (refine VS.mk hs ?_) | refine Xt ?_ | refine Xq ?_ | refine Xn ?_ | refine Xj ?_ | refine Xo ?_); try (conv => whnf)
 refine VCall.mk _ (compare_any x.q y.q _) ?_
 rintro _ _ ⟨rfl, rfl⟩
 refine ⟨_, rfl, ?_⟩
 repeat ((conv => whnf); first | (refine VS.mk hs ?_) | refine Xt ?_ | refine Xq ?_ | refine Xn ?_ | refine Xj ?_ | refine Xo ?_); try (conv => whnf)
 refine VBs.mk _ _ (bs49b w2.drew (cmpI x.s y.s) (cmpI x.q y.q)) ?_
 have b3 : Below w2.heap.size w2 (w2.drew.alloc (.cells #[.int .i64 (cmpI x.s y.s), .int .i64 (cmpI x.q y.q)] 3)) := Below.trans (Below.refl _ w2).drew ((Below.refl w2.drew.heap.size w2.drew).alloc (Nat.le_refl _) _)
 have r3 := range_new w2.drew #[.int .i64 (cmpI x.s y.s), .int .i64 (cmpI x.q y.q)] 3
 have z3 : (w2.drew.alloc (.cells #[.int .i64 (cmpI x.s y.s), .int .i64 (cmpI x.q y.q)] 3)).heap.size = w2.drew.heap.size + 1 := World.size_alloc _ _
 have g3 : Gw w (w2.drew.alloc (.cells #[.int .i64 (cmpI x.s y.s), .int .i64 (cmpI x.q y.q)] 3)) := g2.drew.alloc _
 generalize w2.drew.alloc (.cells #[.int .i64 (cmpI x.s y.s), .int .i64 (cmpI x.q y.q)] 3) = w3 at b3 r3 z3 g3 ⊢
 have hs3 : Sm [p1, p2] w2 w3 := .below b3 fun k hk => by
   simp only [List.mem_cons, List.not_mem_nil, or_false] at hk
   rcases hk with rfl | rfl <;> omega
 repeat ((conv => whnf); first | (refine VS.mk hs3 ?_) | refine Xt ?_ | refine Xq ?_ | refine Xn ?_ | refine Xj ?_ | refine Xo ?_); try (conv => whnf)
 refine VCall.mk _ (or_any (some ⟨w2.drew.heap.size, 0, none⟩) 2 2 w3.heap.size [cmpI x.s y.s, cmpI x.q y.q] w3 rfl (fun _ => ⟨w2.drew.heap.size, 0, rfl, by omega, fun k v hv j u hu => ?_⟩) (by omega)) ?_
 · cases j with
   | succ j => simp at hu
   | zero =>
     have hu' : u = .int .i64 v := by simpa using hu.symm
     subst hu'
     have := r3 k (.int .i64 v) (by
       match k, hv with
       | 0, hv => injection hv with hv; subst hv; rfl
       | 1, hv => injection hv with hv; subst hv; rfl
       | k + 2, hv => simp at hv)
     rw [show 0 + k * 1 + 0 = 0 + k by omega]
     exact this
 rintro _ _ ⟨rfl, rfl⟩
 refine ⟨_, rfl, ?_⟩
 repeat ((conv => whnf); first | (refine VS.mk hs3 ?_) | refine Xt ?_ | refine Xq ?_ | refine Xn ?_ | refine Xj ?_ | refine Xo ?_); try (conv => whnf)
 exact .mk ⟨by
   unfold cmpD
   by_cases h1 : cmpI x.s y.s = 0 <;> by_cases h2 : cmpI x.q y.q = 0 <;> simp [h1, h2] <;> rfl, hp1 ▸ b02.trans (b3.mono (by omega)), g3⟩
end Go.Proofs.YtoilipfgimcoiaaGreat
namespace Go.Proofs.YtoilipfgimcoiaaGreat
open Go Go.RowKit
theorem run_neq_slot (w : World) (a b c d : Int) : (binOp .neq 46 (.agg #[.int .i64 a, .int .i64 b]) (.agg #[.int .i64 c, .int .i64 d])).run Tryz.prog w = .ok (.bool (!decide (a = c ∧ b = d))) w := by
 go_simp
 by_cases h1 : a = c <;> by_cases h2 : b = d <;> simp [h1, h2]
set_option maxRecDepth 100000 in
theorem sameSlots_any (A B : Option Addr) (c d n m N : Nat) (la lb : List Sl) (w : World) (hn : la.length = n) (hm : lb.length = m) (hN : N ≤ w.heap.size) (hA : RowAt w N 2 eSl A la) (hB : RowAt w N 2 eSl B lb) (h1 : n ≤ 1000000000) :
   Calls Tryz.prog 75 #[.slice A n c, .slice B m d] w fun e w' => e = .returned (.bool (decide (la = lb))) ∧ Below w.heap.size w w' := by
 refine calls_vc tab_ok Tryz.func75 rfl ?_
 conv => whnf
 by_cases hnm : n = m
 case neg =>
   repeat ((conv => whnf); first | refine Xt ?_ | refine Xq ?_ | refine Xn ?_ | refine Xj ?_ | refine Xo ?_); try (conv => whnf)
   exact .mk ⟨by rw [decide_eq_false (fun e => hnm (by rw [← hn, ← hm, e]))]; rfl, Below.refl _ _⟩
 subst hnm
 repeat ((conv => whnf); first | refine Xt ?_ | refine Xq ?_ | refine Xn ?_ | refine Xj ?_ | refine Xo ?_); try (conv => whnf)
 refine VLoop.mk Nat (fun k => [(0, .slice A n c), (1, .slice B n d), (5, .int .i64 k)]) (fun k W => k ≤ n ∧ Below w.heap.size w W ∧ la.take k = lb.take k) (fun k => n - k) 0 ⟨rfl, rfl, rfl, trivial⟩ ⟨Nat.zero_le _, Below.refl _ _, by simp⟩ ?_
 rintro k W ⟨hk, hW, ht⟩
 by_cases hkn : k < n
 case neg =>
   repeat ((conv => whnf); first | refine Xt ?_ | refine Xq ?_ | refine Xn ?_ | refine Xj ?_ | refine Xo ?_); try (conv => whnf)
   exact .mk ⟨by rw [List.take_of_length_le (by omega), List.take_of_length_le (by omega)] at ht; rw [ht, decide_eq_true rfl]; rfl, hW⟩
 obtain ⟨ga, oa, rfl, ha, ca⟩ := hA (by omega)
 obtain ⟨gb, ob, rfl, hb, cb⟩ := hB (by omega)
 obtain ⟨x, hx⟩ : ∃ x, la[k]? = some x := ⟨_, List.getElem?_eq_getElem (by omega)⟩
 obtain ⟨y, hy⟩ : ∃ y, lb[k]? = some y := ⟨_, List.getElem?_eq_getElem (by omega)⟩
 have L1 : Ld Tryz.prog 46 ga (oa + mulO k 2) (Sm [ga, gb] W) (.agg #[.int .i64 x.s, .int .i64 x.q]) := ⟨fun W' hW' => load78 fun j u hu => (World.cell?_of_block (a := ⟨ga, _, none⟩) ((hW' ga (by simp)).trans (hW.block ga (by omega)))).trans (ca k x hx j u hu)⟩
 have L2 : Ld Tryz.prog 46 gb (ob + mulO k 2) (Sm [ga, gb] W) (.agg #[.int .i64 y.s, .int .i64 y.q]) := ⟨fun W' hW' => load78 fun j u hu => (World.cell?_of_block (a := ⟨gb, _, none⟩) ((hW' gb (by simp)).trans (hW.block gb (by omega)))).trans (cb k y hy j u hu)⟩
 have hs : Sm [ga, gb] W W.drew := fun _ _ => rfl
 have hWd : Below w.heap.size w W.drew := hW.trans ((Below.refl _ W).drew.mono hW.size)
 repeat ((conv => whnf); first | refine Xt ?_ | refine Xq ?_ | refine Xn ?_ | refine Xj ?_ | refine Xo ?_); try (conv => whnf)
 refine VDraw.pl 1000 (.stop [0, 1, 2, 3, 4, 5, 6, 7, 8]) (Sm [ga, gb] W) (by kernel_rfl) (hs) ?_
 repeat ((conv => whnf); first | refine Xl L1 ?_ | refine Xl L2 ?_ | refine Xt ?_ | refine Xq ?_ | refine Xn ?_ | refine Xj ?_ | refine Xo ?_); try (conv => whnf)
 refine VBin.mk _ (Bn.of fun W' => run_neq_slot W' x.s x.q y.s y.q) ?_
 by_cases hxy : x = y
 · rw [decide_eq_true (show ((x.s : Int) = y.s ∧ (x.q : Int) = y.q) by rw [hxy]; exact ⟨rfl, rfl⟩)]
   repeat ((conv => whnf); first | refine Xt ?_ | refine Xq ?_ | refine Xn ?_ | refine Xj ?_ | refine Xo ?_); try (conv => whnf)
   exact .mk (k + 1) ⟨rfl, rfl, rfl, trivial⟩ ⟨hkn, hWd, take_succ_eq ht hx hy hxy⟩ (by show n - (k + 1) < n - k; omega)
 · rw [decide_eq_false (show ¬ ((x.s : Int) = y.s ∧ (x.q : Int) = y.q) by
     rintro ⟨e1, e2⟩
     obtain ⟨a, b⟩ := x
     obtain ⟨a', b'⟩ := y
     simp only at e1 e2
     exact hxy (by rw [show a = a' by omega, show b = b' by omega]))]
   repeat ((conv => whnf); first | refine Xt ?_ | refine Xq ?_ | refine Xn ?_ | refine Xj ?_ | refine Xo ?_); try (conv => whnf)
   exact .mk ⟨by rw [decide_eq_false (fun e => hxy (by rw [e, hy] at hx; exact (Option.some.inj hx).symm))]; rfl, hWd⟩
end Go.Proofs.YtoilipfgimcoiaaGreat
namespace Go.Proofs.YtoilipfgimcoiaaGreat
open Go Go.RowKit
structure FlO where
 v : Vd
 base : Nat
 slots : List Sl
 have_ : List Nat
deriving DecidableEq
abbrev flV (f : FlO) (A : Option Addr) (c n : Nat) (H : Option Addr) (k m : Nat) : Array Value := #[.int .i64 f.v.e, .int .i64 f.v.l, .int .i64 f.v.i, .int .i64 f.v.c, .int .i64 f.base, .slice A n c, .slice H m k]
theorem run_eql_vd (w : World) (a b c d a' b' c' d' : Int) : (binOp .eql 38 (.agg #[.int .i64 a, .int .i64 b, .int .i64 c, .int .i64 d]) (.agg #[.int .i64 a', .int .i64 b', .int .i64 c', .int .i64 d'])).run Tryz.prog w = .ok (.bool (decide ((⟨a, b, c, d⟩ : Vd) = ⟨a', b', c', d'⟩))) w := by
 go_simp
 by_cases h1 : a = a' <;> by_cases h2 : b = b' <;> by_cases h3 : c = c' <;> by_cases h4 : d = d' <;> simp [h1, h2, h3, h4]
theorem rng_sub {w : World} {b o : Nat} {l l1 l2 l3 : List Value} (h : w.rangeAt b o l) (e : l = l1 ++ l2 ++ l3) {n : Nat} (hn : n = o + l1.length) : w.rangeAt b n l2 := fun j u hu => by
 have hj := (List.getElem?_eq_some_iff.1 hu).1
 have := h (l1.length + j) u (by rw [e, List.append_assoc, List.getElem?_append_right (by omega), show l1.length + j - l1.length = j by omega, List.getElem?_append_left hj]; exact hu)
 rwa [← Nat.add_assoc, ← hn] at this
set_option maxRecDepth 100000 in
theorem sameFlush_any (x y : FlO) (A B G H : Option Addr) (c d g h n m k j : Nat) (w : World) (hn : x.slots.length = n) (hm : y.slots.length = m) (hk : x.have_.length = k) (hj : y.have_.length = j)
   (hA : RowAt w w.heap.size 2 eSl A x.slots) (hB : RowAt w w.heap.size 2 eSl B y.slots) (hG : RowAt w w.heap.size 1 eNat G x.have_) (hH : RowAt w w.heap.size 1 eNat H y.have_) (h1 : n ≤ 1000000000) (h2 : k ≤ 1000000000) :
   Calls Tryz.prog 22 #[.agg (flV x A c n G g k), .agg (flV y B d m H h j)] w fun e w' => e = .returned (.bool (decide (x = y))) ∧ Below w.heap.size w w' := by
 refine calls_vc tab_ok Tryz.func22 rfl ?_
 conv => whnf
 refine .mk fun w1 hw1 => ?_
 have b1 : Below w.heap.size w w1 := by rw [hw1.out]; exact below_box1 _ _ _
 have z1 : w1.heap.size = w.heap.size + 1 := by rw [hw1.out]; exact World.size_alloc _ _
 have r1 : w1.rangeAt w.heap.size 0 (flV x A c n G g k).toList := by rw [hw1.out]; exact range_new w _ 65
 clear hw1
 conv => whnf
 refine .mk fun w2 hw2 => ?_
 have b2 : Below w1.heap.size w1 w2 := by rw [hw2.out]; exact below_box1 _ _ _
 have r2 : w2.rangeAt w1.heap.size 0 (flV y B d m H h j).toList := by rw [hw2.out]; exact range_new w1 _ 65
 have z2 : w2.heap.size = w1.heap.size + 1 := by rw [hw2.out]; exact World.size_alloc _ _
 clear hw2
 have b02 : Below w.heap.size w w2 := b1.trans (b2.mono (by omega))
 have r12 := range_same r1 (b2.block w.heap.size (by omega))
 have hA2 := hA.below b02 (Nat.le_refl _)
 have hB2 := hB.below b02 (Nat.le_refl _)
 have hG2 := hG.below b02 (Nat.le_refl _)
 have hH2 := hH.below b02 (Nat.le_refl _)
 have zz : w.heap.size + 1 ≤ w2.heap.size := by omega
 have zz2 : w.heap.size ≤ w2.heap.size := by omega
 clear hA hB hG hH b1 r1 b2
 generalize hp1 : w.heap.size = p1 at *
 generalize hp2 : w1.heap.size = p2 at *
 have A0 : Ld Tryz.prog 38 p1 0 (Eq w2) (.agg #[.int .i64 x.v.e, .int .i64 x.v.l, .int .i64 x.v.i, .int .i64 x.v.c]) := .of (load_agg (cs := [.int .i64 x.v.e, .int .i64 x.v.l, .int .i64 x.v.i, .int .i64 x.v.c]) (by kernel_rfl) (by kernel_rfl) (rng_sub (l1 := []) (l3 := [.int .i64 x.base, .slice A n c, .slice G k g]) r12 rfl rfl))
 have A1 : Ld Tryz.prog 3 p1 4 (Eq w2) (.int .i64 x.base) := .of (load3 (r12 4 _ rfl))
 have A2 : Ld Tryz.prog 57 p1 5 (Eq w2) (.slice A n c) := .of (load48 (r12 5 _ rfl))
 have B0 : Ld Tryz.prog 38 p2 0 (Eq w2) (.agg #[.int .i64 y.v.e, .int .i64 y.v.l, .int .i64 y.v.i, .int .i64 y.v.c]) := .of (load_agg (cs := [.int .i64 y.v.e, .int .i64 y.v.l, .int .i64 y.v.i, .int .i64 y.v.c]) (by kernel_rfl) (by kernel_rfl) (rng_sub (l1 := []) (l3 := [.int .i64 y.base, .slice B m d, .slice H j h]) r2 rfl rfl))
 have B1 : Ld Tryz.prog 3 p2 4 (Eq w2) (.int .i64 y.base) := .of (load3 (r2 4 _ rfl))
 have B2 : Ld Tryz.prog 57 p2 5 (Eq w2) (.slice B m d) := .of (load48 (r2 5 _ rfl))
 have no : ∀ (w' : World), Below p1 w w' → x ≠ y → Ending.returned (.bool false) = .returned (.bool (decide (x = y))) ∧ Below p1 w w' := fun w' hb hne => ⟨by rw [decide_eq_false hne], hb⟩
 repeat ((conv => whnf); first | refine Xl A0 ?_ | refine Xl A1 ?_ | refine Xl A2 ?_ | refine Xl B0 ?_ | refine Xl B1 ?_ | refine Xl B2 ?_ | refine Xt ?_ | refine Xq ?_ | refine Xn ?_ | refine Xj ?_ | refine Xo ?_); try (conv => whnf)
 refine VBin.mk _ (Bn.of fun W' => run_eql_vd W' _ _ _ _ _ _ _ _) ?_
 by_cases e0 : x.v = y.v
 case neg =>
   rw [decide_eq_false (show ¬ ((⟨x.v.e, x.v.l, x.v.i, x.v.c⟩ : Vd) = ⟨y.v.e, y.v.l, y.v.i, y.v.c⟩) from e0)]
   repeat ((conv => whnf); first | refine Xl A0 ?_ | refine Xl A1 ?_ | refine Xl A2 ?_ | refine Xl B0 ?_ | refine Xl B1 ?_ | refine Xl B2 ?_ | refine Xt ?_ | refine Xq ?_ | refine Xn ?_ | refine Xj ?_ | refine Xo ?_); try (conv => whnf)
   exact .mk (no w2 b02 fun h => e0 (by rw [h]))
 rw [decide_eq_true (show ((⟨x.v.e, x.v.l, x.v.i, x.v.c⟩ : Vd) = ⟨y.v.e, y.v.l, y.v.i, y.v.c⟩) from e0)]
 by_cases e1 : x.base = y.base
 case neg =>
   repeat ((conv => whnf); first | refine Xl A0 ?_ | refine Xl A1 ?_ | refine Xl A2 ?_ | refine Xl B0 ?_ | refine Xl B1 ?_ | refine Xl B2 ?_ | refine Xt ?_ | refine Xq ?_ | refine Xn ?_ | refine Xj ?_ | refine Xo ?_); try (conv => whnf)
   exact .mk (no w2 b02 fun h => e1 (by rw [h]))
 repeat ((conv => whnf); first | refine Xl A0 ?_ | refine Xl A1 ?_ | refine Xl A2 ?_ | refine Xl B0 ?_ | refine Xl B1 ?_ | refine Xl B2 ?_ | refine Xt ?_ | refine Xq ?_ | refine Xn ?_ | refine Xj ?_ | refine Xo ?_); try (conv => whnf)
 refine VCall.mk _ (sameSlots_any A B c d n m p1 x.slots y.slots w2 hn hm zz2 hA2 hB2 h1) ?_
 rintro _ w3 ⟨rfl, b3⟩
 refine ⟨_, rfl, ?_⟩
 have b03 : Below p1 w w3 := b02.trans (b3.mono zz2)
 by_cases e2 : x.slots = y.slots
 case neg =>
   rw [decide_eq_false e2]
   repeat ((conv => whnf); first | refine Xl A0 ?_ | refine Xl A1 ?_ | refine Xl A2 ?_ | refine Xl B0 ?_ | refine Xl B1 ?_ | refine Xl B2 ?_ | refine Xt ?_ | refine Xq ?_ | refine Xn ?_ | refine Xj ?_ | refine Xo ?_); try (conv => whnf)
   exact .mk (no w3 b03 fun h => e2 (by rw [h]))
 rw [decide_eq_true e2]
 have A3' : Ld Tryz.prog 56 p1 6 (Eq w3) (.slice G k g) := .of (load49 (range_same r12 (b3.block p1 (by omega)) 6 _ rfl))
 have B3' : Ld Tryz.prog 56 p2 6 (Eq w3) (.slice H j h) := .of (load49 (range_same r2 (b3.block p2 (by omega)) 6 _ rfl))
 repeat ((conv => whnf); first | refine Xl A3' ?_ | refine Xl B3' ?_ | refine Xt ?_ | refine Xq ?_ | refine Xn ?_ | refine Xj ?_ | refine Xo ?_); try (conv => whnf)
 have z3 := b3.size
 refine VCall.mk _ (sameInts_any G H g h k j p1 x.have_ y.have_ w3 hk hj (by omega) (hG2.below b3 zz2) (hH2.below b3 zz2) h2) ?_
 rintro _ w4 ⟨rfl, b4⟩
 refine ⟨_, rfl, ?_⟩
 repeat ((conv => whnf); first | refine Xt ?_ | refine Xq ?_ | refine Xn ?_ | refine Xj ?_ | refine Xo ?_); try (conv => whnf)
 refine .mk ⟨?_, b03.trans (b4.mono (by omega))⟩
 by_cases e3 : x.have_ = y.have_
 · have : x = y := by
     obtain ⟨a1, a2, a3, a4⟩ := x
     obtain ⟨c1, c2, c3, c4⟩ := y
     simp only at e0 e1 e2 e3
     rw [e0, e1, e2, e3]
   rw [decide_eq_true e3, decide_eq_true this]; rfl
 · rw [decide_eq_false e3, decide_eq_false (fun h => e3 (by rw [h]))]; rfl
end Go.Proofs.YtoilipfgimcoiaaGreat
namespace Go.Proofs.YtoilipfgimcoiaaGreat
open Go Go.RowKit
deriving instance DecidableEq for Dt
def eDx (x : DtX) : List Value := [.int .i64 x.d.s, .int .i64 x.d.q, .int .i64 x.d.st, .slice x.A x.d.b.length x.c]
set_option maxRecDepth 100000 in
theorem sameDatas_any (A B : Option Addr) (c d n m N : Nat) (la lb : List DtX) (w : World) (hn : la.length = n) (hm : lb.length = m) (hN : N ≤ w.heap.size) (hA : RowAt w N 4 eDx A la) (hB : RowAt w N 4 eDx B lb)
   (bA : ∀ x ∈ la, RowAt w N 1 eByte x.A x.d.b) (bB : ∀ x ∈ lb, RowAt w N 1 eByte x.A x.d.b) (hl : ∀ x ∈ la, x.d.b.length ≤ 1000000000) (h1 : n ≤ 1000000000) :
   Calls Tryz.prog 25 #[.slice A n c, .slice B m d] w fun e w' => e = .returned (.bool (decide (la.map (·.d) = lb.map (·.d)))) ∧ Below w.heap.size w w' := by
 refine calls_vc tab_ok Tryz.func25 rfl ?_
 conv => whnf
 by_cases hnm : n = m
 case neg =>
   repeat ((conv => whnf); first | refine Xt ?_ | refine Xq ?_ | refine Xn ?_ | refine Xj ?_ | refine Xo ?_); try (conv => whnf)
   exact .mk ⟨by rw [decide_eq_false (fun e => hnm (by have := congrArg List.length e; simpa [hn, hm] using this))]; rfl, Below.refl _ _⟩
 subst hnm
 repeat ((conv => whnf); first | refine Xt ?_ | refine Xq ?_ | refine Xn ?_ | refine Xj ?_ | refine Xo ?_); try (conv => whnf)
 refine VLoop.mk Nat (fun k => [(0, .slice A n c), (1, .slice B n d), (5, .int .i64 k)]) (fun k W => k ≤ n ∧ Below w.heap.size w W ∧ (la.map (·.d)).take k = (lb.map (·.d)).take k) (fun k => n - k) 0 ⟨rfl, rfl, rfl, trivial⟩ ⟨Nat.zero_le _, Below.refl _ _, by simp⟩ ?_
 rintro k W ⟨hk, hW, ht⟩
 by_cases hkn : k < n
 case neg =>
   repeat ((conv => whnf); first | refine Xt ?_ | refine Xq ?_ | refine Xn ?_ | refine Xj ?_ | refine Xo ?_); try (conv => whnf)
   exact .mk ⟨by rw [List.take_of_length_le (by rw [List.length_map]; omega), List.take_of_length_le (by rw [List.length_map]; omega)] at ht; rw [ht, decide_eq_true rfl]; rfl, hW⟩
 obtain ⟨ga, oa, rfl, ha, ca⟩ := hA (by omega)
 obtain ⟨gb, ob, rfl, hb, cb⟩ := hB (by omega)
 obtain ⟨x, hx⟩ : ∃ x, la[k]? = some x := ⟨_, List.getElem?_eq_getElem (by omega)⟩
 obtain ⟨y, hy⟩ : ∃ y, lb[k]? = some y := ⟨_, List.getElem?_eq_getElem (by omega)⟩
 have hxm := List.mem_of_getElem? hx
 have hym := List.mem_of_getElem? hy
 have L1 : Ld Tryz.prog 44 ga (oa + mulO k 4) (Sm [ga, gb] W) (.agg (dtA x.d x.A x.c x.d.b.length)) := ⟨fun W' hW' => load_agg (cs := eDx x) (by kernel_rfl) (by kernel_rfl) fun j u hu => (World.cell?_of_block (a := ⟨ga, _, none⟩) ((hW' ga (by simp)).trans (hW.block ga (by omega)))).trans (ca k x hx j u hu)⟩
 have L2 : Ld Tryz.prog 44 gb (ob + mulO k 4) (Sm [ga, gb] W) (.agg (dtA y.d y.A y.c y.d.b.length)) := ⟨fun W' hW' => load_agg (cs := eDx y) (by kernel_rfl) (by kernel_rfl) fun j u hu => (World.cell?_of_block (a := ⟨gb, _, none⟩) ((hW' gb (by simp)).trans (hW.block gb (by omega)))).trans (cb k y hy j u hu)⟩
 have hs : Sm [ga, gb] W W.drew := fun _ _ => rfl
 have hz := hW.size
 have hWd : Below w.heap.size w W.drew := hW.trans ((Below.refl _ W).drew.mono hz)
 have toAt : ∀ {A : Option Addr} {l : List Int}, RowAt w N 1 eByte A l → RowAt W.drew W.drew.heap.size 1 eByte A l := fun {A l} h hl => by
   obtain ⟨g, off, e, g1, g3⟩ := (h.below hWd hN) hl
   exact ⟨g, off, e, (show g < W.heap.size by omega), g3⟩
 repeat ((conv => whnf); first | refine Xt ?_ | refine Xq ?_ | refine Xn ?_ | refine Xj ?_ | refine Xo ?_); try (conv => whnf)
 refine VDraw.pl 1000 (.one [0, 1, 2, 3, 4, 5, 6, 7] 8 (.stop [9])) (Sm [ga, gb] W) (by kernel_rfl) (hs) ?_
 repeat ((conv => whnf); first | refine Xl L1 ?_ | refine Xl L2 ?_ | refine Xt ?_ | refine Xq ?_ | refine Xn ?_ | refine Xj ?_ | refine Xo ?_); try (conv => whnf)
 refine VCall.mk _ (sameData_any x.d y.d x.A y.A x.c y.c _ _ W.drew rfl rfl (toAt (bA x hxm)) (toAt (bB y hym)) (hl x hxm)) ?_
 rintro _ w2 ⟨rfl, b2⟩
 refine ⟨_, rfl, ?_⟩
 have b2' : Below W.heap.size W w2 := (Below.refl _ W).drew.trans b2
 have hs2 : Sm [ga, gb] W w2 := .below b2' fun k hk => by
   simp only [List.mem_cons, List.not_mem_nil, or_false] at hk
   rcases hk with rfl | rfl <;> omega
 have hw2 : Below w.heap.size w w2 := hW.trans (b2'.mono hz)
 have gx : (la.map (·.d))[k]? = some x.d := by rw [List.getElem?_map, hx]; rfl
 have gy : (lb.map (·.d))[k]? = some y.d := by rw [List.getElem?_map, hy]; rfl
 cases hq : sameD x.d y.d with
 | true =>
   repeat ((conv => whnf); first | (refine VS.mk hs2 ?_) | refine Xt ?_ | refine Xq ?_ | refine Xn ?_ | refine Xj ?_ | refine Xo ?_); try (conv => whnf)
   exact .mk (k + 1) ⟨rfl, rfl, rfl, trivial⟩ ⟨hkn, hw2, take_succ_eq ht gx gy (sameD_eq.1 hq)⟩ (by show n - (k + 1) < n - k; omega)
 | false =>
   repeat ((conv => whnf); first | (refine VS.mk hs2 ?_) | refine Xt ?_ | refine Xq ?_ | refine Xn ?_ | refine Xj ?_ | refine Xo ?_); try (conv => whnf)
   exact .mk ⟨by rw [decide_eq_false (fun e => by
     rw [e, gy] at gx
     rw [sameD_eq.2 (Option.some.inj gx).symm] at hq
     cases hq)]; rfl, hw2⟩
end Go.Proofs.YtoilipfgimcoiaaGreat
namespace Go.Proofs.YtoilipfgimcoiaaGreat
open Go Go.RowKit
def ltD (x y : Dt) : Prop := x.s < y.s ∨ (x.s = y.s ∧ x.q < y.q)
theorem cmpD_lt (x y : Dt) : cmpD x y < 0 ↔ ltD x y := by
 unfold cmpD cmpI ltD
 by_cases h1 : x.s < y.s
 · simp [h1]
 · by_cases h2 : y.s < x.s
   · have : ¬ x.s = y.s := by omega
     simp [h1, h2, this]
   · have h3 : x.s = y.s := by omega
     by_cases h4 : x.q < y.q
     · simp [h3, h4]
     · by_cases h5 : y.q < x.q <;> simp [h3, h4, h5]
theorem ltD_tri {x y : Dt} (h : ¬ ltD y x) (hne : x.sl ≠ y.sl) : ltD x y := by
 unfold ltD at *
 have : ¬ (x.s = y.s ∧ x.q = y.q) := fun ⟨a, b⟩ => hne (by unfold Dt.sl; rw [a, b])
 omega
theorem ltD_irrefl (x : Dt) : ¬ ltD x x := by unfold ltD; omega
theorem ltD_trans {x y z : Dt} (h : ltD x y) (h' : ltD y z) : ltD x z := by unfold ltD at *; omega
structure MsgOf (held ds : List Dt) : Prop where
 perm : ds.Perm held
 srt : ds.Pairwise ltD
theorem perm_nodup {α : Type} : ∀ (l m : List α), l.Nodup → m.Nodup → (∀ a, a ∈ l ↔ a ∈ m) → l.Perm m
 | [], m, _, _, h => by
   cases m with
   | nil => exact .nil
   | cons b m => exact absurd ((h b).2 List.mem_cons_self) List.not_mem_nil
 | a :: l, m, hl, hm, h => by
   obtain ⟨m1, m2, rfl⟩ := List.append_of_mem ((h a).1 List.mem_cons_self)
   obtain ⟨hl1, hl2⟩ := List.nodup_cons.1 hl
   have hm' : (a :: (m1 ++ m2)).Nodup := (List.perm_middle.nodup_iff).1 hm
   obtain ⟨hm1, hm2⟩ := List.nodup_cons.1 hm'
   refine (List.Perm.cons a (perm_nodup l (m1 ++ m2) hl2 hm2 fun b => ⟨fun hb => ?_, fun hb => ?_⟩)).trans List.perm_middle.symm
   · have h1 := (h b).1 (List.mem_cons_of_mem _ hb)
     have h2 : b ≠ a := fun e => hl1 (e ▸ hb)
     rcases List.mem_append.1 h1 with h3 | h3
     · exact List.mem_append_left _ h3
     · rcases List.mem_cons.1 h3 with h3 | h3
       · exact absurd h3 h2
       · exact List.mem_append_right _ h3
   · have h2 : b ≠ a := fun e => hm1 (e ▸ hb)
     have h1 : b ∈ m1 ++ a :: m2 := by
       rcases List.mem_append.1 hb with h3 | h3
       · exact List.mem_append_left _ h3
       · exact List.mem_append_right _ (List.mem_cons_of_mem _ h3)
     rcases List.mem_cons.1 ((h b).2 h1) with h3 | h3
     · exact absurd h3 h2
     · exact h3
theorem MsgOf.uniq {h a b : List Dt} (ha : MsgOf h a) (hb : MsgOf h b) : a = b := by
 have key : ∀ (a b : List Dt), a.Perm b → a.Pairwise ltD → b.Pairwise ltD → a = b := fun a => by
   induction a with
   | nil => intro b hp _ _; exact (List.nil_perm.1 hp).symm
   | cons x a ih =>
     intro b hp h1 h2
     cases b with
     | nil => exact absurd (hp.length_eq) (by simp)
     | cons y b =>
       obtain ⟨x1, x2⟩ := List.pairwise_cons.1 h1
       obtain ⟨y1, y2⟩ := List.pairwise_cons.1 h2
       have hxy : x = y := by
         rcases List.mem_cons.1 (hp.mem_iff.1 (List.mem_cons_self (a := x) (l := a))) with e | e
         · exact e
         · rcases List.mem_cons.1 (hp.mem_iff.2 (List.mem_cons_self (a := y) (l := b))) with e' | e'
           · exact e'.symm
           · exact absurd (ltD_trans (x1 y e') (y1 x e)) (ltD_irrefl x)
       subst hxy
       rw [ih b ((List.perm_cons x).1 hp) x2 y2]
 exact key a b (ha.perm.trans hb.perm.symm) ha.srt hb.srt
def dAt (l : List DtX) (j : Nat) : Dt := ((l[j]?).map (·.d)).getD dt0
theorem dAt_all (l : List DtX) : (List.range l.length).map (dAt l) = l.map (·.d) := by
 apply List.ext_getElem?
 intro k
 rw [List.getElem?_map, List.getElem?_map]
 by_cases hk : k < l.length
 · rw [List.getElem?_range hk]
   show some (dAt l k) = _
   unfold dAt
   rw [List.getElem?_eq_getElem hk]; rfl
 · rw [List.getElem?_eq_none (by simp; omega), List.getElem?_eq_none (by omega)]; rfl
end Go.Proofs.YtoilipfgimcoiaaGreat
namespace Go.Proofs.YtoilipfgimcoiaaGreat
open Go Go.RowKit
section
variable {α β : Type} {w w' : World} {K K' : Nat → Nat} {r sz c : Nat} {enc : α → List Value} {A : Option Addr} {l m : List α}
theorem OwnO.none_ (h : OwnO w K r sz enc A c l) (enc' : β → List Value) : OwnO w K r sz enc' A c [] := by
 rcases h with ⟨e, -, e2⟩ | ⟨g, off, e, h1, h2, h3, h4, -⟩
 · exact .inl ⟨e, rfl, e2⟩
 · exact .inr ⟨g, off, e, h1, h2, Nat.zero_le _, h4, fun k x hx => by simp at hx⟩
theorem OwnO.pre (h : OwnO w K r sz enc A c (l ++ m)) : OwnO w K r sz enc A c l := by
 rcases h with ⟨e, e1, e2⟩ | ⟨g, off, e, h1, h2, h3, h4, h5⟩
 · exact .inl ⟨e, (List.append_eq_nil_iff.1 e1).1, e2⟩
 · exact .inr ⟨g, off, e, h1, h2, by rw [List.length_append] at h3; omega, h4, fun k x hx => h5 k x (by rw [List.getElem?_append_left (List.getElem?_eq_some_iff.1 hx).1]; exact hx)⟩
theorem OwnO.push {g off : Nat} (h : OwnO w K r sz enc (some ⟨g, off, none⟩) c l) (henc : ∀ x, (enc x).length = sz) (hc : l.length + 1 ≤ c) (y : α) (hw : w' = w.setCells g (off + l.length * sz) (enc y)) :
   OwnO w' K r sz enc (some ⟨g, off, none⟩) c (l ++ [y]) ∧ Ro (· = r) K K w w' := by
 rcases h with ⟨e, -, -⟩ | ⟨g', off', e, h1, h2, h3, h4, h5⟩
 · cases e
 injection e with e
 injection e with e1 e2 _
 subst e1 e2 hw
 have hcs : l.length * sz + sz ≤ c * sz := by
   have : (l.length + 1) * sz ≤ c * sz := Nat.mul_le_mul_right _ hc
   rwa [Nat.add_mul, Nat.one_mul] at this
 refine ⟨.inr ⟨g, off, rfl, Nat.lt_of_lt_of_le h1 (grown_sets g (enc y) _ w).size, h2, by rw [List.length_append]; exact hc, World.there_setCells h4 _ _ _, fun k x hx j u hu => ?_⟩, Ro.grown (grown_sets _ _ _ _) fun b hb => by injection hb with hb; rw [← hb]; exact h2⟩
 have hj := (List.getElem?_eq_some_iff.1 hu).1
 by_cases e : k < l.length
 · rw [List.getElem?_append_left e] at hx
   refine cell_out (h5 k x hx j u hu) (.inl ?_)
   rw [henc] at hj
   have : (k + 1) * sz ≤ l.length * sz := Nat.mul_le_mul_right _ e
   rw [Nat.add_mul, Nat.one_mul] at this
   omega
 · have hk := (List.getElem?_eq_some_iff.1 hx).1
   rw [List.length_append, List.length_singleton] at hk
   obtain rfl : k = l.length := by omega
   rw [List.getElem?_append_right (Nat.le_refl _), Nat.sub_self] at hx
   injection hx with hx
   subst hx
   rw [World.cell?_setCells_in g (enc y) (off + l.length * sz) w (fun q hq => by have := (h4 (l.length * sz + q) (by rw [henc] at hq; omega)).1; rwa [← Nat.add_assoc] at this) j hj, ← hu, List.getElem?_eq_getElem hj]
theorem OwnO.keepG {row : Option Nat} (h : OwnO w K r sz enc A c l) (hg : w.grownBy w' row) (hne : ∀ g, blk A = some g → row ≠ some g) (kk : ∀ g, blk A = some g → K' g = K g) : OwnO w' K' r sz enc A c l := by
 rcases h with h | ⟨g, off, e, h1, h2, h3, h4, h5⟩
 · exact .inl h
 · have hb := hg.block g h1 (fun e2 => hne g (by rw [e]; rfl) e2.symm)
   exact .inr ⟨g, off, e, Nat.lt_of_lt_of_le h1 hg.size, (kk g (by rw [e]; rfl)).trans h2, h3, there_sameO h4 hb, fun k x hx j u hu => (World.cell?_of_block (a := ⟨g, _, none⟩) hb).trans (h5 k x hx j u hu)⟩
theorem OwnO.rowB (h : OwnO w K r sz enc A c l) : RowB w K r sz enc A l := fun hl => by
 rcases h with ⟨-, e, -⟩ | ⟨g, off, e, h1, h2, h3, h4, h5⟩
 · rw [e] at hl; exact absurd hl (by simp)
 · exact ⟨g, off, e, h1, h2, h5⟩
theorem RowB.nil (w : World) (K : Nat → Nat) (r sz : Nat) (enc : α → List Value) (A : Option Addr) : RowB w K r sz enc A [] := fun h => absurd h (by simp)
theorem RowB.get (h : RowB w K r sz enc A l) (hm : 0 < l.length) : ∃ g off, A = some ⟨g, off, none⟩ ∧ g < w.heap.size ∧ K g = r ∧ ∀ k x, l[k]? = some x → ∀ j u, (enc x)[j]? = some u → w.cell? ⟨g, off + k * sz + j, none⟩ = some u := h hm
end
theorem VApp.offN {P : Program} {α : Type} {ty0 : TypeId} {t e : TypeId} {KK : Value → World → Prop} {w : World} {K : Nat → Nat} {r : Nat}
   (sz bytes : Nat) (z : Value) (ht : P.underlying t = some (.slice e)) (hinfo : (P.info? e).map (fun i => (i.zero, i.size, i.bytes)) = some (some z, sz, bytes))
   (hzs : z.cells.size = sz) (hsz : 0 < sz) (enc : α → List Value) (henc : ∀ x, (enc x).length = sz) (hone : ∀ x, ∀ u ∈ enc x, u.oneCell' = true)
   {A : Option Addr} {c : Nat} (xs : List α) {gB oB cB n m : Nat} (ys : List α)
   (hn : xs.length = n) (hm : ys.length = m) (hm0 : 0 < m) (hown : OwnO w K r sz enc A c xs) (hr : ∀ k y, ys[k]? = some y → ∀ j u, (enc y)[j]? = some u → w.cell? ⟨gB, oB + k * sz + j, none⟩ = some u) (kz : ∀ b, w.heap.size ≤ b → K b = 0)
   (h63 : n + m ≤ 9223372036854775807) (hbytes : (n + m) * bytes ≤ 140737488355328)
   (h : ∀ A' c' K' w', OwnO w' K' r sz enc A' c' (xs ++ ys) → Ro (· = r) K K' w w' → (∀ b, w'.heap.size ≤ b → K' b = 0) → ((A' = A ∧ c' = c ∧ A ≠ none ∧ w.grownBy w' (blk A)) ∨ ((∀ g, blk A' = some g → w.heap.size ≤ g) ∧ w.grownBy w' none)) → KK (.slice A' (n + m) c') w') : VApp P #[t, t] ty0 [.slice A n c, .slice (some ⟨gB, oB, none⟩) m cB] w KK := by
 subst hn hm
 obtain ⟨i, hi, hz, hsize, hby⟩ := info_parts hinfo
 have hnews : ∀ j u, (ys.flatMap enc)[j]? = some u → w.cell? ((⟨gB, oB, none⟩ : Addr).add j) = some u := fun j u hu => by
   obtain ⟨k, q, x, hk, hq, rfl⟩ := flatMap_of henc ys j u hu
   rw [Addr.add_mid, ← Nat.add_assoc]
   exact hr k x hk q u hq
 have hoy : ∀ u ∈ ys.flatMap enc, u.oneCell' = true := fun u hu => by
   obtain ⟨x, -, hx⟩ := List.mem_flatMap.1 hu
   exact hone x u hx
 have hly := length_flat henc ys
 have fresh : ∀ v' w', w'.ownsRow w.heap.size e sz v' (xs.length + ys.length) ((xs ++ ys).flatMap enc) → w.grownBy w' none → (Builtin.append_ #[t, t] ty0 #[.slice A xs.length c, .slice (some ⟨gB, oB, none⟩) ys.length cB]).run P w = .ok v' w' → VApp P #[t, t] ty0 [.slice A xs.length c, .slice (some ⟨gB, oB, none⟩) ys.length cB] w KK := fun v' w' h2 hg hrun => by
   obtain ⟨g', cap', rfl, hg1, hg2⟩ := World.ownsRow.form h2 (by omega)
   have hO : Owns w' w.heap.size e sz enc (some ⟨g', 0, none⟩) cap' (xs ++ ys) := by unfold Owns; rw [List.length_append]; exact h2
   have hth : w'.there g' 0 (cap' * sz) := by
     rcases h2.2 with ⟨hv, h0⟩ | ⟨g, cap, cur, hv, hb, hh, k1, k2, k3, k4⟩
     · cases hv
     · injection hv with e1 _ e3
       injection e1 with e1
       injection e1 with e1 _ _
       subst e1 e3
       intro j hj
       have hj' : j < cur.size := by omega
       refine ⟨?_, ?_⟩
       · simp [World.cell?, hh, hj']
       · simp [World.frozen?, hh]
   have hlen : (xs ++ ys).length ≤ cap' := hO.len.1
   have hrow := hO.row henc
   obtain ⟨g2, off2, e2, h3, h4⟩ := hrow (by rw [List.length_append]; omega)
   injection e2 with e2
   injection e2 with e2 e3 _
   subst e2 e3
   refine .mk _ _ hrun (h (some ⟨g', 0, none⟩) cap' (fun b => if b = g' then r else K b) w' (.inr ⟨g', 0, rfl, h3, if_pos rfl, hlen, hth, h4⟩) ((Ro.grown hg (fun b hb => by cases hb)).role fun b hb => if_neg (by omega)) (fun b hb => ?_) (.inr ⟨fun q hq => by (have e : g' = q := by injection hq); omega, hg⟩))
   rw [if_neg (by omega)]
   exact kz b (by have := hg.size; omega)
 rcases hown with ⟨rfl, rfl, rfl⟩ | ⟨g, off, rfl, h1, h2, h3, h4, h5⟩
 · obtain ⟨v', w', hrun, k2, k3, k4, k5⟩ := run_append_own_at (P := P) w w.heap.size t ty0 e i z sz bytes ht hi hz hsize hby hzs hsz (.slice none 0 0) 0 [] (World.ownsRow_nil w _ e sz) ⟨gB, oB, none⟩ ys.length cB (ys.flatMap enc)
     hly hnews hoy h63 hbytes (Nat.le_refl _)
   exact fresh v' w' (by simpa using k2) (by simpa [Value.ownBlock] using k3) hrun
 · by_cases hroom : xs.length + ys.length ≤ c
   · have hm : (xs.length + ys.length) * sz ≤ c * sz := Nat.mul_le_mul_right sz hroom
     rw [Nat.add_mul] at hm
     have hcell : ∀ j, j < (ys.flatMap enc).length → (w.cell? ⟨g, off + xs.length * i.size + j, none⟩).isSome = true ∧ w.frozen? ⟨g, off + xs.length * i.size + j, none⟩ = false := fun j hj => by
       rw [hly] at hj
       have := h4 (xs.length * sz + j) (by omega)
       rwa [← Nat.add_assoc, ← hsize] at this
     have hrun := run_append_room_cells (P := P) (w := w) t ty0 e i ht hi g off xs.length c ⟨gB, oB, none⟩ ys.length cB (ys.flatMap enc) (by rw [hly, hsize]) hnews hoy hroom (fun j hj => (hcell j hj).1) (fun j hj => (hcell j hj).2)
     rw [hsize] at hrun
     have hg : w.grownBy (w.setCells g (off + xs.length * sz) (ys.flatMap enc)) (some g) := grown_sets _ _ _ _
     refine .mk _ _ hrun (h _ c K _ (.inr ⟨g, off, rfl, Nat.lt_of_lt_of_le h1 hg.size, h2, by rw [List.length_append]; exact hroom, fun j hj => ?_, fun k x hx j u hu => ?_⟩) (.grown hg fun b hb => by injection hb with hb; rw [← hb]; exact h2) (fun b hb => kz b (by have := hg.size; omega)) (.inl ⟨rfl, rfl, (fun e => by cases e), hg⟩))
     · exact World.there_setCells h4 _ _ _ j hj
     · by_cases hk : k < xs.length
       · rw [List.getElem?_append_left hk] at hx
         have hkm : (k + 1) * sz ≤ xs.length * sz := Nat.mul_le_mul_right sz hk
         rw [Nat.add_mul, Nat.one_mul] at hkm
         have hj : j < sz := by rw [← henc x]; exact (List.getElem?_eq_some_iff.1 hu).1
         exact cell_out (h5 k x hx j u hu) (.inl (by omega))
       · rw [List.getElem?_append_right (by omega)] at hx
         have hkl := (List.getElem?_eq_some_iff.1 hx).1
         have hf := flatMap_at henc ys _ j x u hx hu
         have hj := (List.getElem?_eq_some_iff.1 hf).1
         rw [show off + k * sz + j = off + xs.length * sz + ((k - xs.length) * sz + j) by
           have : k * sz = xs.length * sz + (k - xs.length) * sz := by rw [← Nat.add_mul, show xs.length + (k - xs.length) = k by omega]
           omega]
         rw [World.cell?_setCells_in g (ys.flatMap enc) (off + xs.length * sz) w (fun q hq => by have := (hcell q hq).1; rwa [hsize] at this) _ hj, ← hf, List.getElem?_eq_getElem hj]
   · have holds : ∀ j u, (xs.flatMap enc)[j]? = some u → w.cell? ((⟨g, off, none⟩ : Addr).add j) = some u := fun j u hu => by
       obtain ⟨k, q, x, hk, hq, rfl⟩ := flatMap_of henc xs j u hu
       rw [Addr.add_mid, ← Nat.add_assoc]
       exact h5 k x hk q u hq
     obtain ⟨v', w', hrun, k2, k3⟩ := run_append_arg_grows (P := P) (w := w) t ty0 e i z sz bytes ht hi hz hsize hby hzs hsz ⟨g, off, none⟩ xs.length c (xs.flatMap enc) (length_flat henc xs) holds ⟨gB, oB, none⟩ ys.length cB (ys.flatMap enc) hly hnews (by omega) h63 hbytes
     exact fresh v' w' (by rw [List.flatMap_append]; exact k2) k3 hrun
end Go.Proofs.YtoilipfgimcoiaaGreat
namespace Go.Proofs.YtoilipfgimcoiaaGreat
open Go Go.RowKit
theorem VQ.bin {o : Oper} {fr : Fr} {S : World → Prop} {K : Value → Prop} {op : BinOp} {t t' : TypeId} {x y : Operand} {u v r : Value} (ho : o.op = .binOp op t x y t') (hx : fev fr x = some u) (hy : fev fr y = some v) (hg : ∀ W, Sem.run Tryz.prog (eqGuard op t x y u v) W = .ok () W) (h : ∀ W, (binOp op t u v).run Tryz.prog W = .ok r W) (hk : K r) : VQ Tryz.prog o fr S K := by
 refine VQ.mk r (fun A hA W _ => ?_) hk
 have h3 := hA x _ hx
 have h4 := hA y _ hy
 simp only [ho, execOp, h3, h4, Sem.run_bind, hg, h, Result.andThen_ok, Sem.run_pure]
theorem shr_any (W : World) (a : Int) (n : Nat) : (binOp .shr 150 (.int .u32 a) (.int .u64 n)).run Tryz.prog W = .ok (.int .u32 (a / 2 ^ min n 32)) W := by go_simp
theorem xor_any (W : World) (a b : Int) : (binOp .xor 5 (.int .u8 a) (.int .u8 b)).run Tryz.prog W = .ok (.int .u8 (bits BinOp.xor IntKind.u8 a b)) W := by go_simp
theorem rem_nat (W : World) (a n : Nat) (h : 0 < n) (ha : a ≤ 1000000000000) : (binOp .rem 3 (.int .i64 a) (.int .i64 n)).run Tryz.prog W = .ok (.int .i64 ((a % n : Nat) : Int)) W := by
 have e : ¬ n = 0 := by omega
 have h1 : a % n ≤ a := Nat.mod_le _ _
 have h2 : ((a : Int).tmod n) = ((a % n : Nat) : Int) := by rw [Int.tmod_eq_emod_of_nonneg (by omega)]; rfl
 have h3 : IntKind.i64.wrap ((a % n : Nat) : Int) = ((a % n : Nat) : Int) := by
   generalize a % n = z at h1 ⊢
   exact IntWalk.i64_in _ (by omega)
 have e2 : (n : Int) ≠ 0 := by omega
 go_simp
theorem quo_nat (W : World) (a n : Nat) (h : 0 < n) (ha : a ≤ 1000000000000) : (binOp .quo 3 (.int .i64 a) (.int .i64 n)).run Tryz.prog W = .ok (.int .i64 ((a / n : Nat) : Int)) W := by
 have e : ¬ n = 0 := by omega
 have h1 : a / n ≤ a := Nat.div_le_self _ _
 have h3 : IntKind.i64.wrap ((a / n : Nat) : Int) = ((a / n : Nat) : Int) := by
   generalize a / n = z at h1 ⊢
   exact IntWalk.i64_in _ (by omega)
 have h4 : ((a / n : Nat) : Int) = (a : Int) / (n : Int) := rfl
 rw [h4] at h3
 go_simp
def patB (id k : Nat) : Int := bits BinOp.xor IntKind.u8 (IntKind.u8.wrap (IntKind.u32.wrap (IntKind.u32.wrap ((id : Int) + 1) * 2654435761) / 2 ^ min (8 * (k % 4)) 32)) (IntKind.u8.wrap ((k / 4 : Nat) : Int))
set_option maxRecDepth 100000 in
theorem pat_any (id k : Nat) (hi : id ≤ 100000000) (hk : k ≤ 1000000000) (w : World) : Calls Tryz.prog 96 #[.int .i64 id, .int .i64 k] w fun e w' => e = .returned (.int .u8 (patB id k)) ∧ w' = w := by
 refine calls_vc tab_ok Tryz.func96 rfl ?_
 have hm : k % 4 < 4 := Nat.mod_lt _ (by omega)
 have hq : k / 4 ≤ k := Nat.div_le_self _ _
 conv => whnf
 repeat ((conv => whnf); first | refine Xt ?_ | refine Xq ?_ | refine Xn ?_ | refine Xj ?_ | refine Xo ?_); try (conv => whnf)
 refine .wr ?_
 repeat ((conv => whnf); first | refine Xt ?_ | refine Xq ?_ | refine Xn ?_ | refine Xj ?_ | refine Xo ?_); try (conv => whnf)
 refine .wr ?_
 repeat ((conv => whnf); first | refine Xt ?_ | refine Xq ?_ | refine Xn ?_ | refine Xj ?_ | refine Xo ?_); try (conv => whnf)
 refine VQ.bin rfl rfl rfl (fun _ => rfl) (fun W => rem_nat W k 4 (by omega) (by omega)) ?_
 repeat ((conv => whnf); first | refine Xt ?_ | refine Xq ?_ | refine Xn ?_ | refine Xj ?_ | refine Xo ?_); try (conv => whnf)
 have h8 : (8 * ((k % 4 : Nat) : Int)) = ((8 * (k % 4) : Nat) : Int) := by simp
 rw [h8]
 refine .mk (IntWalk.u64_in _ (by omega)) ?_
 repeat ((conv => whnf); first | refine Xt ?_ | refine Xq ?_ | refine Xn ?_ | refine Xj ?_ | refine Xo ?_); try (conv => whnf)
 refine VQ.bin rfl rfl rfl (fun _ => rfl) (fun W => shr_any W _ (8 * (k % 4))) ?_
 repeat ((conv => whnf); first | refine Xt ?_ | refine Xq ?_ | refine Xn ?_ | refine Xj ?_ | refine Xo ?_); try (conv => whnf)
 refine .wr ?_
 repeat ((conv => whnf); first | refine Xt ?_ | refine Xq ?_ | refine Xn ?_ | refine Xj ?_ | refine Xo ?_); try (conv => whnf)
 refine VQ.bin rfl rfl rfl (fun _ => rfl) (fun W => quo_nat W k 4 (by omega) (by omega)) ?_
 repeat ((conv => whnf); first | refine Xt ?_ | refine Xq ?_ | refine Xn ?_ | refine Xj ?_ | refine Xo ?_); try (conv => whnf)
 refine .wr ?_
 repeat ((conv => whnf); first | refine Xt ?_ | refine Xq ?_ | refine Xn ?_ | refine Xj ?_ | refine Xo ?_); try (conv => whnf)
 refine VQ.bin rfl rfl rfl (fun _ => rfl) (fun W => xor_any W _ _) ?_
 repeat ((conv => whnf); first | refine Xt ?_ | refine Xq ?_ | refine Xn ?_ | refine Xj ?_ | refine Xo ?_); try (conv => whnf)
 exact .mk ⟨rfl, rfl⟩
end Go.Proofs.YtoilipfgimcoiaaGreat
