/- PmF PmG, joined. -/
import Derived.Test.YtoilipfgimcoiaaGreatOz27
set_option linter.unusedVariables false
set_option linter.unusedSimpArgs false
namespace Go.Proofs.YtoilipfgimcoiaaGreat
open Go Go.RowKit
section
variable {K K' : Nat → Nat} {w w' : World} {b T i : Nat} {Y : PyX} {x : OpX}
set_option maxRecDepth 100000 in
set_option maxHeartbeats 16000000 in
theorem made_any (H : PlayAt T w K b Y) (hT : T ≤ 100000) (hi : i < 3) (hw : x.who = i) (O : OpAt w K x) :
   Calls Tryz.prog 15 #[.pointer (some ⟨b, 0, none⟩), .agg (opA x)] w fun e w' => e = .returned (.bool true) ∧ StP T w K b w' := by
 refine calls_vc tab_ok Tryz.func15 rfl ?_
 have hl1 := O.l1
 conv => whnf
 refine .mk fun w1 hw1 => ?_
 obtain ⟨bo, hbo⟩ : ∃ bo, bo = w.heap.size := ⟨_, rfl⟩
 rw [← hbo]
 have b1 : Below w.heap.size w w1 := by rw [hw1.out]; exact below_box1 _ _ _
 have z1 : w1.heap.size = w.heap.size + 1 := by rw [hw1.out]; simp
 have r1 : w1.rangeAt bo 0 (opA x).toList := by rw [hw1.out, hbo]; exact range_new w _ 52
 clear hw1
 have kbo : K bo = 0 := H.py.bk.kz bo (by omega)
 obtain ⟨n, hn⟩ : ∃ n, n = x.ms.length := ⟨_, rfl⟩
 have LM : ∀ {y : World}, y.heap[bo]? = w1.heap[bo]? → Ld Tryz.prog 39 bo 8 (Eq y) (.slice x.mA n x.mc) := fun h => .of (load61 ((World.cell?_of_block (a := ⟨bo, 8, none⟩) h).trans (by rw [hn]; exact r1 8 _ rfl)))
 have LI : ∀ {y : World}, y.heap[bo]? = w1.heap[bo]? → Ld Tryz.prog 38 bo 4 (Eq y) (.agg #[.int .i64 x.v.e, .int .i64 x.v.l, .int .i64 x.v.i, .int .i64 x.v.c]) := fun h => .of (load_agg (cs := [.int .i64 x.v.e, .int .i64 x.v.l, .int .i64 x.v.i, .int .i64 x.v.c]) (by kernel_rfl) (by kernel_rfl) (range_sub (n := 4) (range_same r1 h) 4 rfl))
 have LVw : ∀ {y : World}, y.heap[bo]? = w1.heap[bo]? → Ld Tryz.prog 41 bo 4 (Eq y) (.agg (vwA x.v x.mA n x.mc)) := fun h => .of (load_agg (cs := (vwA x.v x.mA n x.mc).toList) (by kernel_rfl) (by kernel_rfl) (by rw [hn]; exact range_sub (n := 5) (range_same r1 h) 4 rfl))
 have L3 : ∀ {y : World} {j : Nat} {v : Int}, y.heap[bo]? = w1.heap[bo]? → (opA x).toList[j]? = some (.int .i64 v) → Ld Tryz.prog 3 bo j (Eq y) (.int .i64 v) := fun {y j v} h hv => .of (load3 ((World.cell?_of_block (a := ⟨bo, j, none⟩) h).trans (by have := r1 j _ hv; rwa [Nat.zero_add] at this)))
 repeat ((conv => whnf); first | refine Xt ?_ | refine Xq ?_ | refine Xn ?_ | refine Xj ?_ | refine Xo ?_); try (conv => whnf)
 refine VBs.mk _ _ (bs39z w1) ?_
 have b2 : Below w1.heap.size w1 (w1.alloc (.cells #[] 70)) := (Below.refl _ _).alloc (Nat.le_refl _) _
 have z2 : (w1.alloc (.cells #[] 70)).heap.size = w1.heap.size + 1 := World.size_alloc _ _
 generalize w1.alloc (.cells #[] 70) = w2 at b2 z2 ⊢
 have rms : RowAt w2 w2.heap.size 3 eMbr x.mA x.ms := (O.ms.ro (Ro.below (R := fun _ => False) (b1.trans (b2.mono b1.size))) id).row
 repeat ((conv => whnf); first | refine Xl (LM (b2.block bo (by omega))) ?_ | refine Xt ?_ | refine Xq ?_ | refine Xn ?_ | refine Xj ?_ | refine Xo ?_); try (conv => whnf)
 refine VApp.copyO w1.heap.size 3 24 _ Tryz.underlying39 info70 rfl (by decide) eMbr (fun _ => rfl) one_eMbr x.ms hn.symm rms (by omega) (by omega) (by omega) (fun ga hga => by injection hga with hga; exact ⟨w1.heap.size, 0, hga.symm, by omega, by omega⟩) fun A0 c0 w3 n3 b3 => ?_
 have b13 : Below w1.heap.size w1 w3 := b2.trans (b3.mono (by omega))
 obtain ⟨κ0, hκ0⟩ : ∃ κ0 : Nat → Nat, κ0 = fun y => if blk A0 = some y then 1 else 0 := ⟨_, rfl⟩
 have k0n : ∀ y, blk A0 ≠ some y → κ0 y = 0 := fun y hy => by rw [hκ0]; exact if_neg hy
 have I0 : MbI w1 A0 c0 (x.ms ++ exs 0) κ0 w3 := ⟨b13, by rw [show exs 0 = [] from rfl, List.append_nil]; exact n3.own fun g hg => by rw [hκ0]; exact if_pos hg, fun y hy => k0n y fun e => by have := n3.lo' y e; omega, fun y hy => k0n y fun e => by have := n3.lo' y e; omega⟩
 repeat ((conv => whnf); first | refine Xt ?_ | refine Xq ?_ | refine Xn ?_ | refine Xj ?_ | refine Xo ?_); try (conv => whnf)
 refine VLoop.mk (Option Addr × Nat × Nat) (fun u => [(0, .pointer (some ⟨b, 0, none⟩)), (3, .pointer (some ⟨bo, 0, none⟩)), (5, .slice u.1 (n + u.2.2) u.2.1), (6, .int .i64 u.2.2)]) (fun u W => ∃ κ, u.2.2 ≤ 64 ∧ MbI w1 u.1 u.2.1 (x.ms ++ exs u.2.2) κ W) (fun u => 64 - u.2.2) (A0, c0, 0) ⟨rfl, rfl, rfl, rfl, trivial⟩ ⟨κ0, by show 0 ≤ 64; omega, I0⟩ ?_
 clear I0
 rintro ⟨A1, c1, j⟩ W ⟨κ, hj64, I0⟩
 have hj64 : j ≤ 64 := hj64
 have I : MbI w1 A1 c1 (x.ms ++ exs j) κ W := I0
 clear I0
 dsimp only
 have hlen : (x.ms ++ exs j).length = n + j := by rw [List.length_append, exs_len, hn]
 by_cases hjn : j < 64
 case pos =>
   repeat ((conv => whnf); first | refine Xt ?_ | refine Xq ?_ | refine Xn ?_ | refine Xj ?_ | refine Xo ?_); try (conv => whnf)
   refine VBuild.mk _ (fun W' => build70 W' (90 + j)) ?_
   repeat ((conv => whnf); first | refine Xt ?_ | refine Xq ?_ | refine Xn ?_ | refine Xj ?_ | refine Xo ?_); try (conv => whnf)
   refine VBs.mk _ _ (bs39 W ⟨90 + j, 0, 0⟩) ?_
   have c6 : Below W.heap.size W (W.alloc (.cells #[.int .i64 (90 + j : Int), .int .i64 0, .int .i64 0] 70)) := (Below.refl _ _).alloc (Nat.le_refl _) _
   have hnc : ∀ a u, (eMbr ⟨90 + j, 0, 0⟩)[a]? = some u → (W.alloc (.cells #[.int .i64 (90 + j : Int), .int .i64 0, .int .i64 0] 70)).cell? ⟨W.heap.size, a, none⟩ = some u := fun a u hu => by
     have := range_new W #[.int .i64 (90 + j : Int), .int .i64 0, .int .i64 0] 70 a u hu
     rwa [Nat.zero_add] at this
   generalize W.alloc (.cells #[.int .i64 (90 + j : Int), .int .i64 0, .int .i64 0] 70) = w6 at c6 hnc ⊢
   have I6 := I.step c6
   repeat ((conv => whnf); first | refine Xt ?_ | refine Xq ?_ | refine Xn ?_ | refine Xj ?_ | refine Xo ?_); try (conv => whnf)
   refine VApp.off 3 24 _ Tryz.underlying39 info70 rfl (by decide) eMbr (fun _ => rfl) one_eMbr (x.ms ++ exs j) ⟨90 + j, 0, 0⟩ hlen I6.ow hnc I6.kz (by omega) (by omega) fun A8 c8 κ8 w8 oA8 q8 kz8 => ?_
   have b8 : Below w1.heap.size w1 w8 := q8.toBelow I6.be I6.be.size fun z hz => by rw [I.old z hz]; omega
   repeat ((conv => whnf); first | refine Xt ?_ | refine Xq ?_ | refine Xn ?_ | refine Xj ?_ | refine Xo ?_); try (conv => whnf)
   exact .mk (A8, c8, j + 1) ⟨rfl, rfl, rfl, rfl, trivial⟩ ⟨κ8, hjn, b8, by show OwnO w8 κ8 1 3 eMbr A8 c8 (x.ms ++ exs (j + 1)); rw [exs_succ, ← List.append_assoc]; exact oA8, fun z hz => (q8.kk z (Nat.lt_of_lt_of_le hz I6.be.size)).trans (I.old z hz), kz8⟩ (by show 64 - (j + 1) < 64 - j; omega)
 obtain rfl : j = 64 := by omega
 obtain ⟨gl, ol, eL, hgl, kgl, hcl, -, -⟩ := I.ow.get (by rw [hlen]; omega)
 subst eL
 have hgl1 : w1.heap.size ≤ gl := by
   rcases Nat.lt_or_ge gl w1.heap.size with h | h
   · rw [I.old gl h] at kgl; omega
   · exact h
 have nF : NewO W w1.heap.size 3 eMbr (some ⟨gl, ol, none⟩) c1 (x.ms ++ exs 64) := NewO.of I.ow fun g hg => by (have e : gl = g := by injection hg); omega
 rw [hlen] at hcl
 have bW := I.be
 have hboW : W.heap[bo]? = w1.heap[bo]? := bW.block bo (by omega)
 have sW := bW.size
 clear b3 b13
 have sd : Sm [bo] W W.drew := fun _ _ => rfl
 have LM' : Ld Tryz.prog 39 bo 8 (Sm [bo] W) (.slice x.mA n x.mc) := ⟨fun W' h => (LM ((h bo (by simp)).trans hboW)).out W' rfl⟩
 have LI' : Ld Tryz.prog 38 bo 4 (Sm [bo] W) (.agg #[.int .i64 x.v.e, .int .i64 x.v.l, .int .i64 x.v.i, .int .i64 x.v.c]) := ⟨fun W' h => (LI ((h bo (by simp)).trans hboW)).out W' rfl⟩
 repeat ((conv => whnf); first | refine Xt ?_ | refine Xq ?_ | refine Xn ?_ | refine Xj ?_ | refine Xo ?_); try (conv => whnf)
 refine VDraw.pl 1000 (.one [0, 1, 2, 3, 4, 5, 6, 7, 8, 9] 10 (.one [] 11 (.stop []))) (Sm [bo] W) (by kernel_rfl) (sd) ?_
 repeat ((conv => whnf); first | refine Xl LM' ?_ | refine Xl LI' ?_ | refine Xt ?_ | refine Xq ?_ | refine Xn ?_ | refine Xj ?_ | refine Xo ?_); try (conv => whnf)
 refine .mk 0 n rfl rfl (Nat.zero_le _) (by omega) ?_
 rw [slice0e, Nat.sub_zero, Nat.sub_zero]
 repeat ((conv => whnf); first | refine Xt ?_ | refine Xq ?_ | refine Xn ?_ | refine Xj ?_ | refine Xo ?_); try (conv => whnf)
 refine VBuild.mk (.agg (vwA x.v (some ⟨gl, ol, none⟩) n c1)) (fun W' => build41 W' x.v.e x.v.l x.v.i x.v.c (some ⟨gl, ol, none⟩) n c1) ?_
 repeat ((conv => whnf); first | refine Xt ?_ | refine Xq ?_ | refine Xn ?_ | refine Xj ?_ | refine Xo ?_); try (conv => whnf)
 refine .mk _ run_zero41 ?_
 conv => whnf
 refine .mk fun u hu => ?_
 obtain ⟨gv, hgv⟩ : ∃ gv, gv = W.drew.heap.size := ⟨_, rfl⟩
 have hgv' : gv = W.heap.size := hgv
 have cu : Below W.heap.size W u := by rw [hu.out]; exact (Below.refl _ W).drew.trans ((Below.refl W.drew.heap.size W.drew).alloc (Nat.le_refl _) _)
 have zu : u.heap.size = W.heap.size + 1 := by rw [hu.out]; exact World.size_alloc _ _
 have tu : u.there gv 0 5 := by rw [hu.out, hgv]; exact there_new _ _ _
 rw [← hgv]
 clear hu
 have hlb : ∀ y ∈ [bo], y < W.heap.size := fun y hy => by rw [List.mem_singleton.1 hy]; omega
 repeat ((conv => whnf); first | (refine VS.mk (Sm.below cu hlb) ?_) | refine Xt ?_ | refine Xq ?_ | refine Xn ?_ | refine Xj ?_ | refine Xo ?_); try (conv => whnf)
 refine VStore.mid (c := vwA x.v (some ⟨gl, ol, none⟩) n c1) tu (by kernel_rfl) (one_vwB _ _ _ _) fun y3 hy3 => ?_
 have g3 : u.grownBy y3 (some gv) := by rw [hy3.out]; exact grown_sets _ _ _ _
 have rv : y3.rangeAt gv 0 (vwA x.v (some ⟨gl, ol, none⟩) n c1).toList := by rw [hy3.out]; exact rng_in tu (by simp)
 clear hy3
 have z3 := g3.size
 have c3 : Below W.heap.size W y3 := cu.grown g3 (by omega) fun k hk => by injection hk with hk; omega
 have b3 : Below w1.heap.size w1 y3 := bW.trans (c3.mono bW.size)
 have bw3 : Below w.heap.size w y3 := b1.trans (b3.mono b1.size)
 have bo3 : y3.heap[bo]? = w1.heap[bo]? := b3.block bo (by omega)
 have nF3 := nF.below c3
 obtain ⟨τ, hτ⟩ : ∃ τ, τ = 300000 := ⟨_, rfl⟩
 obtain ⟨Kg, hKg⟩ : ∃ Kg : Nat → Nat, Kg = fun z => if z = gl then τ else K z := ⟨_, rfl⟩
 have kgg : Kg gl = τ := by rw [hKg]; exact if_pos rfl
 have kgn : ∀ z, z ≠ gl → Kg z = K z := fun z hz => by rw [hKg]; exact if_neg hz
 have kz3 : ∀ y, y3.heap.size ≤ y → Kg y = 0 := fun y hy => (kgn y (by have := c3.size; omega)).trans (H.py.bk.kz y (by have := bw3.size; omega))
 have LV : Ld Tryz.prog 41 gv 0 (Eq y3) (.agg (vwA x.v (some ⟨gl, ol, none⟩) n c1)) := .of (load_agg (by kernel_rfl) (by kernel_rfl) rv)
 repeat ((conv => whnf); first | (refine VS.mk (Sm.below c3 hlb) ?_) | refine Xl LV ?_ | refine Xl (L3 (j := 2) (v := x.n) bo3 rfl) ?_ | refine Xl (L3 (j := 3) (v := x.m) bo3 rfl) ?_ | refine Xt ?_ | refine Xq ?_ | refine Xn ?_ | refine Xj ?_ | refine Xo ?_); try (conv => whnf)
 refine VCall.mk _ (new_any x.v x.ms x.n x.m y3 hn.symm nF3.pre.row (by omega) Kg kz3 (rP i) (by unfold rP; omega)) ?_
 rintro e4 y4 ⟨b4, hc⟩
 have s4 := b4.size
 have hN : ∃ pp er K4, e4 = .returned (.tuple #[ptr pp, .int .i64 er]) ∧ Ro (fun _ => False) Kg K4 y3 y4 ∧ (∀ y, y4.heap.size ≤ y → K4 y = 0) ∧ ((pp = none ∧ er = 1 ∧ ¬ (1 ≤ x.m ∧ x.m ≤ 8)) ∨ (pp = none ∧ er = 74 ∧ (1 ≤ x.m ∧ x.m ≤ 8) ∧ pidsOf x.v x.ms x.n = none) ∨ ∃ l p X, pp = some p ∧ er = 0 ∧ (1 ≤ x.m ∧ x.m ≤ 8) ∧ pidsOf x.v x.ms x.n = some l ∧ OrdAt y4 K4 (rP i) p (Os.new x.v l x.n.toNat x.m.toNat) X) := by
   rcases hc with ⟨h1, rfl⟩ | ⟨h1, h2, rfl⟩ | ⟨h1, l, p, K', X', h2, rfl, hA, hq, hle⟩
   · exact ⟨none, 1, Kg, rfl, .below b4, fun y hy => kz3 y (by omega), .inl ⟨rfl, rfl, h1⟩⟩
   · exact ⟨none, 74, Kg, rfl, .below b4, fun y hy => kz3 y (by omega), .inr (.inl ⟨rfl, rfl, h1, h2⟩)⟩
   · exact ⟨some p, 0, K', rfl, hq, hA.kz, .inr (.inr ⟨l, p, X', rfl, rfl, h1, h2, hA⟩)⟩
 obtain ⟨pp, er, K4, rfl, q4, kz4, hc4⟩ := hN
 clear hc
 refine ⟨_, rfl, ?_⟩
 have bw4 : Below w.heap.size w y4 := bw3.trans (b4.mono bw3.size)
 have sw3 := bw3.size
 have bo4 : y4.heap[bo]? = w1.heap[bo]? := (b4.block bo (by have := b3.size; omega)).trans bo3
 have rO4 : RowAt y4 y4.heap.size 3 eMbr x.mA x.ms := (O.ms.ro (Ro.below (R := fun _ => False) bw4) id).row
 repeat ((conv => whnf); first | refine Xl (LVw bo4) ?_ | refine Xl (L3 (j := 2) (v := x.n) bo4 rfl) ?_ | refine Xl (L3 (j := 3) (v := x.m) bo4 rfl) ?_ | refine Xt ?_ | refine Xq ?_ | refine Xn ?_ | refine Xj ?_ | refine Xo ?_); try (conv => whnf)
 refine VCall.mk _ (rnew_any x.v x.ms x.n x.m y4 hn.symm rO4 (by omega) K4 kz4 (rD i) (by unfold rD; omega)) ?_
 rintro e5 y5 ⟨b5, hc⟩
 have s5 := b5.size
 have hN : ∃ pd ed K5, e5 = .returned (.tuple #[ptr pd, .int .i64 ed]) ∧ Ro (fun _ => False) K4 K5 y4 y5 ∧ (∀ y, y5.heap.size ≤ y → K5 y = 0) ∧ ((pd = none ∧ ed = 1 ∧ ¬ (1 ≤ x.m ∧ x.m ≤ 8)) ∨ (pd = none ∧ ed = 74 ∧ (1 ≤ x.m ∧ x.m ≤ 8) ∧ pidsOf x.v x.ms x.n = none) ∨ ∃ l p X, pd = some p ∧ ed = 0 ∧ (1 ≤ x.m ∧ x.m ≤ 8) ∧ pidsOf x.v x.ms x.n = some l ∧ RefAt y5 K5 (rD i) p (Rf.new x.v l x.n.toNat x.m.toNat) X) := by
   rcases hc with ⟨h1, rfl⟩ | ⟨h1, h2, rfl⟩ | ⟨h1, l, p, K', X', h2, rfl, hA, hq, hle⟩
   · exact ⟨none, 1, K4, rfl, .below b5, fun y hy => kz4 y (by omega), .inl ⟨rfl, rfl, h1⟩⟩
   · exact ⟨none, 74, K4, rfl, .below b5, fun y hy => kz4 y (by omega), .inr (.inl ⟨rfl, rfl, h1, h2⟩)⟩
   · exact ⟨some p, 0, K', rfl, hq, hA.kz, .inr (.inr ⟨l, p, X', rfl, rfl, h1, h2, hA⟩)⟩
 obtain ⟨pd, ed, K5, rfl, q5, kz5, hc5⟩ := hN
 clear hc
 refine ⟨_, rfl, ?_⟩
 have q35 : Ro (fun _ => False) Kg K5 y3 y5 := q4.trans q5
 have q05 : Ro (fun _ => False) K K5 w y5 := ((Ro.below (R := fun _ => False) (K := K) bw3).re (K2 := Kg) fun z hz => kgn z (by have := b1.size; omega)).trans q35
 have bo5 : y5.heap[bo]? = w1.heap[bo]? := (b5.block bo (by have := b3.size; omega)).trans bo4
 have gl3 : gl < y3.heap.size := by have := c3.size; omega
 have kgl5 : K5 gl = τ := (q35.kk gl gl3).trans kgg
 have gv3 : gv < y3.heap.size := by omega
 have kgv5 : K5 gv = 0 := (q35.kk gv gv3).trans ((kgn gv (by omega)).trans (H.py.bk.kz gv (by have := b1.size; omega)))
 have kbo5 : K5 bo = 0 := (q35.kk bo (by have := b3.size; omega)).trans ((kgn bo (by omega)).trans kbo)
 -- both pointers are laid into the box
 have B5 := H.py.ro q05 kz5 fun _ e => e.elim
 have hb5 := B5.hb
 have LW : ∀ {y : World}, y.heap[bo]? = w1.heap[bo]? → Ld Tryz.prog 3 bo 0 (Sm [b, bo] y) (.int .i64 i) := fun h => ⟨fun W' hW => (L3 (j := 0) (v := i) ((hW bo (by simp)).trans h) (by rw [← hw]; rfl)).out W' rfl⟩
 have sd5 : Sm [b, bo] y5 y5.drew := fun _ _ => rfl
 have B5d := B5.below (Below.refl _ y5).drew
 have tp := B5d.th (0 + i) (by omega)
 repeat ((conv => whnf); first | refine Xt ?_ | refine Xq ?_ | refine Xn ?_ | refine Xj ?_ | refine Xo ?_); try (conv => whnf)
 refine VDraw.pl 7 (.one [0, 1, 2, 3, 4, 5, 6] 7 (.stop [])) (Sm [b, bo] y5) (by kernel_rfl) (sd5) ?_
 repeat ((conv => whnf); first | refine Xl (LW bo5) ?_ | refine Xt ?_ | refine Xq ?_ | refine Xn ?_ | refine Xj ?_ | refine Xo ?_); try (conv => whnf)
 refine VStore.cell (by kernel_rfl) (by rw [mulO_eq, Nat.mul_one]; rw [Nat.zero_add] at tp; exact tp.1) (by rw [mulO_eq, Nat.mul_one]; rw [Nat.zero_add] at tp; exact tp.2) rfl rfl fun y6 hy6 => ?_
 obtain ⟨B6, q6⟩ := store_p B5d hi hy6.out (by rw [mulO_eq, addO_eq]; omega)
 have s6 := q6.size
 have bo6 : y6.heap[bo]? = w1.heap[bo]? := (q6.same bo (by show bo < y5.heap.size; omega) (by rw [kbo5]; omega)).trans bo5
 have sd6 : Sm [b, bo] y6 y6.drew := fun _ _ => rfl
 have B6d := B6.below (Below.refl _ y6).drew
 have td := B6d.th (3 + i) (by omega)
 repeat ((conv => whnf); first | (refine VS.last rfl ?_) | refine Xt ?_ | refine Xq ?_ | refine Xn ?_ | refine Xj ?_ | refine Xo ?_); try (conv => whnf)
 refine VDraw.pl 7 (.one [0, 1, 2, 3, 4, 5, 6] 7 (.stop [])) (Sm [b, bo] y6) (by kernel_rfl) (sd6) ?_
 repeat ((conv => whnf); first | refine Xl (LW bo6) ?_ | refine Xt ?_ | refine Xq ?_ | refine Xn ?_ | refine Xj ?_ | refine Xo ?_); try (conv => whnf)
 refine VStore.cell (by kernel_rfl) (by rw [mulO_eq, Nat.mul_one]; rw [Nat.zero_add] at td; exact td.1) (by rw [mulO_eq, Nat.mul_one]; rw [Nat.zero_add] at td; exact td.2) rfl rfl fun y7 hy7 => ?_
 obtain ⟨B7, q7⟩ := store_d B6d hi hy7.out (by rw [mulO_eq, addO_eq]; omega)
 clear hy7
 have s7 := q7.size
 have q57 : Ro (· = 1) K5 K5 y5 y7 := (((Ro.below (Below.refl _ y5).drew).trans q6).trans (.below (Below.refl _ y6).drew)).trans q7
 have q07 : Ro (· = 1) K K5 w y7 := (q05.more fun _ e => e.elim).trans q57
 have kz7 : ∀ y, y7.heap.size ≤ y → K5 y = 0 := fun y hy => kz5 y (by have := q57.size; omega)
 have zz57 : y5.heap.size ≤ y7.heap.size := q57.size
 have H7 : PlayAt T y7 K5 b { Y with pb := upN Y.pb i pp, db := upN Y.db i pd } := by
   refine ⟨B7, fun j hj => ?_⟩
   by_cases e : j = i
   · subst e
     rcases hc4 with ⟨e1, -, h1⟩ | ⟨e1, -, h1, h2⟩ | ⟨l, p, X, e1, -, h1, h2, hA⟩
     · rcases hc5 with ⟨e2, -⟩ | ⟨_, -, h3, _⟩ | ⟨_, _, _, _, -, h3, _⟩
       · exact .inl ⟨(upN_same _ _ _).trans e1, (upN_same _ _ _).trans e2⟩
       · exact absurd h3 h1
       · exact absurd h3 h1
     · rcases hc5 with ⟨_, -, h3⟩ | ⟨e2, -⟩ | ⟨l', _, _, _, -, _, h3, _⟩
       · exact absurd h1 h3
       · exact .inl ⟨(upN_same _ _ _).trans e1, (upN_same _ _ _).trans e2⟩
       · rw [h2] at h3; cases h3
     · rcases hc5 with ⟨_, -, h3⟩ | ⟨_, -, _, h3⟩ | ⟨l', p', X', e2, -, _, h3, hR⟩
       · exact absurd h1 h3
       · rw [h2] at h3; cases h3
       · rw [h2] at h3
         injection h3 with h3
         subst h3
         exact .inr ⟨p, p', _, X, (upN_same _ _ _).trans e1, (upN_same _ _ _).trans e2, (hA.ro q5 kz5 id fun _ _ => id).ro q57 kz7 (by omega) fun z hz => by unfold inB rP at hz; omega, (new_both (w2 := y5) (w3 := y5) (K2 := K) (K3 := K) (p := 0) (q := 0) (X1 := X) h2 h1 hR).ro q57 kz7 fun z hz => by unfold inFB rD at hz; omega⟩
   · exact (H.os j hj).ro q07 kz7 (upN_ne _ _ e) (upN_ne _ _ e) (Nat.le_refl _) fun z hz => by unfold rP rD; omega
 have bo7 : y7.heap[bo]? = w1.heap[bo]? := (q57.same bo (by omega) (by rw [kbo5]; omega)).trans bo5
 have rF7 : OwnO y7 K5 τ 3 eMbr (some ⟨gl, ol, none⟩) c1 (x.ms ++ exs 64) := ((nF3.own (q := τ) (K := Kg) fun g hg => by rw [← (show gl = g by injection hg)]; exact kgg).ro q35 id).ro q57 (by omega)
 have rM7 : RowK y7 K5 3 eMbr x.mA x.ms := O.ms.ro q07 (by omega)
 have rv7 : y7.rangeAt gv 0 (vwA x.v (some ⟨gl, ol, none⟩) n c1).toList := range_same (range_same rv (q35.same gv (by omega) id)) (q57.same gv (by omega) (by rw [kgv5]; omega))
 have LV7 : Ld Tryz.prog 41 gv 0 (Eq y7) (.agg (vwA x.v (some ⟨gl, ol, none⟩) n c1)) := .of (load_agg (by kernel_rfl) (by kernel_rfl) rv7)
 have rFp : RowAt y7 y7.heap.size 3 eMbr (some ⟨gl, ol, none⟩) x.ms := rF7.pre.row
 repeat ((conv => whnf); first | (refine VS.last rfl ?_) | refine Xl LV7 ?_ | refine Xl (LVw bo7) ?_ | refine Xt ?_ | refine Xq ?_ | refine Xn ?_ | refine Xj ?_ | refine Xo ?_); try (conv => whnf)
 refine VCall.mk _ (sameView_any x.v (some ⟨gl, ol, none⟩) x.mA c1 x.mc n x.ms y7 hn.symm rFp rM7.row (by omega)) ?_
 rintro _ y8 ⟨rfl, b8⟩
 refine ⟨_, rfl, ?_⟩
 have s8 := b8.size
 have bo8 : y8.heap[bo]? = w1.heap[bo]? := (b8.block bo (by omega)).trans bo7
 have rF8 := rF7.ro (Ro.below (R := fun _ => False) b8) id
 obtain ⟨gl', ol', eL', hgl8, -, -, -, cl8⟩ := rF8.get (by rw [hlen]; omega)
 injection eL' with eL'
 injection eL' with e1' e2' _
 subst e1' e2'
 repeat ((conv => whnf); first | refine Xt ?_ | refine Xq ?_ | refine Xn ?_ | refine Xj ?_ | refine Xo ?_); try (conv => whnf)
 refine VLoop.mk Nat (fun j => [(3, .pointer (some ⟨bo, 0, none⟩)), (5, .slice (some ⟨gl, ol, none⟩) (n + 64) c1), (7, .pointer (some ⟨gv, 0, none⟩)), (8, ptr pp), (9, .int .i64 er), (10, ptr pd), (11, .int .i64 ed), (12, .bool true), (13, .int .i64 j)]) (fun j V => j ≤ 64 ∧ V = y8) (fun j => 64 - j) 0 ⟨rfl, rfl, rfl, rfl, rfl, rfl, rfl, rfl, rfl, trivial⟩ ⟨by omega, rfl⟩ ?_
 rintro j V ⟨hj, rfl⟩
 by_cases hj64' : j < 64
 case pos =>
   have hget : (x.ms ++ exs 64)[n + j]? = some ⟨90 + j, 0, 0⟩ := by rw [List.getElem?_append_right (by omega), show n + j - x.ms.length = j by omega]; exact exs_get hj64'
   have LX : Ld Tryz.prog 3 gl (addO (ol + mulO (n + j) 3) 0) (Eq V) (.int .i64 (90 + j)) := .of (load3 (by rw [addO_eq, mulO_eq]; exact cl8 (n + j) _ hget 0 _ rfl))
   repeat ((conv => whnf); first | refine Xl (LM bo8) ?_ | (refine VIdx.mk (n + j) (by simp) (by omega) ?_) | refine Xl LX ?_ | refine Xt ?_ | refine Xq ?_ | refine Xn ?_ | refine Xj ?_ | refine Xo ?_); try (conv => whnf)
   exact .mk (j + 1) ⟨rfl, rfl, rfl, rfl, rfl, rfl, rfl, rfl, rfl, trivial⟩ ⟨hj64', rfl⟩ (by show 64 - (j + 1) < 64 - j; omega)
 have H8 := H7.below b8
 have rv8 := range_same rv7 (b8.block gv (by have := q57.size; omega))
 have hagree : er = ed ∧ (pp = none ↔ pd = none) := by
   rcases hc4 with ⟨e1, e1', h1⟩ | ⟨e1, e1', h1, h2⟩ | ⟨l, p, X, e1, e1', h1, h2, hA⟩
   · rcases hc5 with ⟨e2, e2', -⟩ | ⟨_, -, h3, _⟩ | ⟨_, _, _, _, -, h3, _⟩
     · exact ⟨by omega, by rw [e1, e2]⟩
     · exact absurd h3 h1
     · exact absurd h3 h1
   · rcases hc5 with ⟨_, -, h3⟩ | ⟨e2, e2', -⟩ | ⟨l', _, _, _, -, _, h3, _⟩
     · exact absurd h1 h3
     · exact ⟨by omega, by rw [e1, e2]⟩
     · rw [h2] at h3; cases h3
   · rcases hc5 with ⟨_, -, h3⟩ | ⟨_, -, _, h3⟩ | ⟨l', p', X', e2, e2', _, h3, hR⟩
     · exact absurd h1 h3
     · rw [h2] at h3; cases h3
     · exact ⟨by omega, by rw [e1, e2]; simp⟩
 obtain ⟨hed, hpd⟩ := hagree
 have kgv8 : K5 gv = 0 := kgv5
 have kb8 := H8.py.sl
 obtain ⟨Y8, hY8⟩ : ∃ Y8 : PyX, Y8 = { Y with pb := upN Y.pb i pp, db := upN Y.db i pd } := ⟨_, rfl⟩
 rw [← hY8] at H8 kb8
 clear hc4 hc5 H7 B7 B6 B6d B5 B5d
 repeat ((conv => whnf); first | refine Xt ?_ | refine Xq ?_ | refine Xn ?_ | refine Xj ?_ | refine Xo ?_); try (conv => whnf)
 refine VLoop.mk Nat (fun k => [(7, .pointer (some ⟨gv, 0, none⟩)), (8, ptr pp), (9, .int .i64 er), (10, ptr pd), (11, .int .i64 ed), (12, .bool true), (14, .int .i64 k)]) (fun k Z => k ≤ n ∧ PlayAt T Z K5 b Y8 ∧ OwnO Z K5 τ 3 eMbr (some ⟨gl, ol, none⟩) c1 (List.replicate k ⟨15, 1, 1⟩) ∧ Ro (· = τ) K5 K5 V Z) (fun k => n - k) 0 ⟨rfl, rfl, rfl, rfl, rfl, rfl, rfl, trivial⟩ ⟨Nat.zero_le _, H8, rF8.none_ eMbr, Ro.refl _ _ _⟩ ?_
 rintro k Z ⟨hk, HZ, oZ, qZ⟩
 have rvZ := range_same rv8 (qZ.same gv (by have := q57.size; omega) (by rw [kgv8]; omega))
 have LZ : Ld Tryz.prog 39 gv 4 (Eq Z) (.slice (some ⟨gl, ol, none⟩) n c1) := .of (load61 (rvZ 4 _ rfl))
 by_cases hkn : k < n
 case pos =>
   obtain ⟨thZ⟩ : Nonempty (Z.there gl ol (c1 * 3)) := by
     rcases oZ with ⟨e, -⟩ | ⟨g, off, e, -, -, -, h4, -⟩
     · cases e
     · injection e with e
       injection e with e1 e2 _
       subst e1 e2
       exact ⟨h4⟩
   have ti := there_mid (i := k) (n := n) thZ hkn (by omega)
   repeat ((conv => whnf); first | refine Xl LZ ?_ | refine Xt ?_ | refine Xq ?_ | refine Xn ?_ | refine Xj ?_ | refine Xo ?_); try (conv => whnf)
   refine VBuild.mk _ (fun W' => build70t W' 15 1 1) ?_
   repeat ((conv => whnf); first | refine Xt ?_ | refine Xq ?_ | refine Xn ?_ | refine Xj ?_ | refine Xo ?_); try (conv => whnf)
   refine VStore.mid (c := #[.int .i64 15, .int .i64 1, .int .i64 1]) (by rw [mulO_eq]; exact ti) (by kernel_rfl) (all_oneCell_toArray (one_eMbr ⟨15, 1, 1⟩)) fun w9 hw9 => ?_
   obtain ⟨D9, q9⟩ := oZ.push (w' := w9) (fun _ => rfl) (by rw [List.length_replicate]; omega) ⟨15, 1, 1⟩ (by rw [hw9.out, List.length_replicate, mulO_eq]; rfl)
   have H9 : PlayAt T w9 K5 b Y8 := HZ.ro q9 (fun z hz => HZ.py.bk.kz z (Nat.le_trans q9.size hz)) fun z e => by unfold shR; omega
   repeat ((conv => whnf); first | refine Xt ?_ | refine Xq ?_ | refine Xn ?_ | refine Xj ?_ | refine Xo ?_); try (conv => whnf)
   exact .mk (k + 1) ⟨rfl, rfl, rfl, rfl, rfl, rfl, rfl, trivial⟩ ⟨hkn, H9, by rw [List.replicate_succ']; exact D9, qZ.trans q9⟩ (by show n - (k + 1) < n - k; omega)
 have qE : Ro (fun z => z ≠ 0) K K5 w Z := ((q07.more fun z e => by omega).trans (.below b8)).trans (qZ.more fun z e => by omega)
 repeat ((conv => whnf); first | refine Xl LZ ?_ | refine Xt ?_ | refine Xq ?_ | refine Xn ?_ | refine Xj ?_ | refine Xo ?_); try (conv => whnf)
 refine VCall.mk _ (num_any _ Z) ?_
 rintro _ _ ⟨rfl, rfl⟩
 refine ⟨_, rfl, ?_⟩
 subst hed
 have hb2 : ((Option.map (fun b : Nat => (⟨b, 0, none⟩ : Addr)) pp).isNone == (Option.map (fun b : Nat => (⟨b, 0, none⟩ : Addr)) pd).isNone) = true := by
   cases pp <;> cases pd
   · rfl
   · exact absurd (hpd.1 rfl) (by simp)
   · exact absurd (hpd.2 rfl) (by simp)
   · rfl
 repeat ((conv => whnf); first | refine Xt ?_ | refine Xq ?_ | refine Xn ?_ | refine Xj ?_ | refine Xo ?_); try (conv => whnf)
 exact .mk ⟨by rw [hb2]; rfl, Y8, K5, HZ, qE⟩
end
end Go.Proofs.YtoilipfgimcoiaaGreat
namespace Go.Proofs.YtoilipfgimcoiaaGreat
open Go Go.RowKit
section
variable {K K' : Nat → Nat} {w w' w2 : World} {b T T' i : Nat} {Y Y' : PyX} {x : OpX}
theorem PlayAt.more (h : PlayAt T w K b Y) (ht : T ≤ T') : PlayAt T' w K b Y := ⟨h.py, fun i hi => (h.os i hi).ro (Q := fun _ => False) (Ro.refl _ _ _) h.py.bk.kz rfl rfl ht fun _ e => e.elim⟩
set_option maxRecDepth 100000 in
set_option maxHeartbeats 16000000 in
theorem step_any (H : PlayAt T w K b Y) (hT : T + 1 ≤ 100000) (O : OpAt w K x) :
   Calls Tryz.prog 12 #[.pointer (some ⟨b, 0, none⟩), .agg (opA x)] w fun e w' => e = .returned (.bool true) ∧ StP (T + 1) w K b w' := by
 refine calls_vc tab_ok Tryz.func12 rfl ?_
 conv => whnf
 refine .mk fun w1 hw1 => ?_
 obtain ⟨bo, hbo⟩ : ∃ bo, bo = w.heap.size := ⟨_, rfl⟩
 rw [← hbo]
 have b1 : Below w.heap.size w w1 := by rw [hw1.out]; exact below_box1 _ _ _
 have z1 : w1.heap.size = w.heap.size + 1 := by rw [hw1.out]; simp
 have r1 : w1.rangeAt bo 0 (opA x).toList := by rw [hw1.out, hbo]; exact range_new w _ 52
 clear hw1
 have kbo : K bo = 0 := H.py.bk.kz bo (by omega)
 have LW : ∀ {y : World}, y.heap[bo]? = w1.heap[bo]? → Ld Tryz.prog 3 bo 0 (Eq y) (.int .i64 x.who) := fun h => .of (load3 ((World.cell?_of_block (a := ⟨bo, 0, none⟩) h).trans (r1 0 _ rfl)))
 have LK : ∀ {y : World}, y.heap[bo]? = w1.heap[bo]? → Ld Tryz.prog 3 bo 1 (Eq y) (.int .i64 x.kind) := fun h => .of (load3 ((World.cell?_of_block (a := ⟨bo, 1, none⟩) h).trans (r1 1 _ rfl)))
 have LA : ∀ {y : World}, y.heap[bo]? = w1.heap[bo]? → Ld Tryz.prog 52 bo 0 (Eq y) (.agg (opA x)) := fun h => .of (load_agg (cs := (opA x).toList) (by kernel_rfl) (by kernel_rfl) (range_same r1 h))
 by_cases hlo : x.who < 0
 · repeat ((conv => whnf); first | refine Xl (LW rfl) ?_ | refine Xt ?_ | refine Xq ?_ | refine Xn ?_ | refine Xj ?_ | refine Xo ?_); try (conv => whnf)
   exact .mk ⟨rfl, Y, K, (H.below b1).more (by omega), .below b1⟩
 by_cases hhi : 2 < x.who
 · repeat ((conv => whnf); first | refine Xl (LW rfl) ?_ | refine Xt ?_ | refine Xq ?_ | refine Xn ?_ | refine Xj ?_ | refine Xo ?_); try (conv => whnf)
   exact .mk ⟨rfl, Y, K, (H.below b1).more (by omega), .below b1⟩
 obtain ⟨i, hwi⟩ : ∃ i : Nat, x.who = i := ⟨x.who.toNat, by omega⟩
 have hi : i < 3 := by omega
 have H1 := H.below b1
 have O1 := O.ro (Ro.below (R := fun _ => False) b1) id
 by_cases hk1 : x.kind = 1
 · repeat ((conv => whnf); first | refine Xl (LW rfl) ?_ | refine Xl (LK rfl) ?_ | refine Xl (LA rfl) ?_ | refine Xt ?_ | refine Xq ?_ | refine Xn ?_ | refine Xj ?_ | refine Xo ?_); try (conv => whnf)
   refine VCall.mk _ (made_any H1 (by omega) hi hwi O1) ?_
   rintro _ w2 ⟨rfl, S2⟩
   refine ⟨_, rfl, ?_⟩
   obtain ⟨Y2, K2, P2, q2⟩ := S2
   repeat ((conv => whnf); first | refine Xt ?_ | refine Xq ?_ | refine Xn ?_ | refine Xj ?_ | refine Xo ?_); try (conv => whnf)
   refine VCall.mk _ (intact_any P2.py) ?_
   rintro _ w3 ⟨rfl, b3⟩
   refine ⟨_, rfl, ?_⟩
   repeat ((conv => whnf); first | refine Xt ?_ | refine Xq ?_ | refine Xn ?_ | refine Xj ?_ | refine Xo ?_); try (conv => whnf)
   exact .mk ⟨rfl, Y2, K2, (P2.below b3).more (by omega), ((Ro.below b1).trans q2).trans (.below b3)⟩
 have LP := H1.py.l_p (l := [b, bo]) (by simp) hi
 have LD := H1.py.l_d (l := [b, bo]) (by simp) hi
 have LW' : Ld Tryz.prog 3 bo 0 (Sm [b, bo] w1) (.int .i64 i) := ⟨fun W' hW => load3 (by rw [← hwi]; exact cell_sm (r1 0 _ rfl) (by simp) hW)⟩
 have s1 : Sm [b, bo] w1 w1.drew := fun _ _ => rfl
 have d1 : Below w1.heap.size w1 w1.drew := (Below.refl _ _).drew
 have bd1 : Below w.heap.size w w1.drew := b1.drew
 have bod : w1.drew.heap[bo]? = w1.heap[bo]? := rfl
 rcases H1.os i hi with ⟨hp, hd⟩ | ⟨p, d, o, X, hp, hd, A, R⟩
 · rw [hp] at LP
   repeat ((conv => whnf); first | refine Xl (LW rfl) ?_ | refine Xl (LK rfl) ?_ | refine Xt ?_ | refine Xq ?_ | refine Xn ?_ | refine Xj ?_ | refine Xo ?_); try (conv => whnf)
   refine VDraw.pl 1000 (.stop [0, 1, 2, 3, 4, 5, 6, 7, 8, 9, 10, 11, 12, 13, 14, 15, 16, 17, 18]) (Sm [b, bo] w1) (by kernel_rfl) (s1) ?_
   repeat ((conv => whnf); first | refine Xl LP ?_ | refine Xl LW' ?_ | refine Xt ?_ | refine Xq ?_ | refine Xn ?_ | refine Xj ?_ | refine Xo ?_); try (conv => whnf)
   exact .mk ⟨rfl, Y, K, (H.below bd1).more (by omega), .below bd1⟩
 rw [hp] at LP
 rw [hd] at LD
 have H2 := H.below bd1
 have A2 := A.below d1
 have R2 := R.ro (Ro.below (R := fun _ => False) d1) (fun y hy => H2.py.bk.kz y hy) fun _ _ => id
 have O2 := O1.ro (Ro.below (R := fun _ => False) d1) id
 repeat ((conv => whnf); first | refine Xl (LW rfl) ?_ | refine Xl (LK rfl) ?_ | refine Xt ?_ | refine Xq ?_ | refine Xn ?_ | refine Xj ?_ | refine Xo ?_); try (conv => whnf)
 refine VDraw.pl 1000 (.stop [0, 1, 2, 3, 4, 5, 6, 7, 8, 9, 10, 11, 12, 13, 14, 15, 16, 17, 18]) (Sm [b, bo] w1) (by kernel_rfl) (s1) ?_
 repeat ((conv => whnf); first | refine Xl LP ?_ | refine Xl LD ?_ | refine Xl LW' ?_ | refine Xt ?_ | refine Xq ?_ | refine Xn ?_ | refine Xj ?_ | refine Xo ?_); try (conv => whnf)
 by_cases k2 : x.kind = 2
 · skip
   repeat ((conv => whnf); first | refine Xl (LK bod) ?_ | refine Xl (LA bod) ?_ | refine Xt ?_ | refine Xq ?_ | refine Xn ?_ | refine Xj ?_ | refine Xo ?_); try (conv => whnf)
   refine VCall.mk _ (acts_any H2 hT hi hp hd A2 R2 hwi O2) ?_
   rintro _ w2 ⟨rfl, S2⟩
   refine ⟨_, rfl, ?_⟩
   obtain ⟨Y2, K2, P2, q2⟩ := S2
   repeat ((conv => whnf); first | refine Xt ?_ | refine Xq ?_ | refine Xn ?_ | refine Xj ?_ | refine Xo ?_); try (conv => whnf)
   refine VCall.mk _ (intact_any P2.py) ?_
   rintro _ w3 ⟨rfl, b3⟩
   refine ⟨_, rfl, ?_⟩
   repeat ((conv => whnf); first | refine Xt ?_ | refine Xq ?_ | refine Xn ?_ | refine Xj ?_ | refine Xo ?_); try (conv => whnf)
   exact .mk ⟨rfl, Y2, K2, P2.below b3, ((Ro.below bd1).trans q2).trans (.below b3)⟩
 by_cases k4 : x.kind = 4
 · skip
   repeat ((conv => whnf); first | refine Xl (LK bod) ?_ | refine Xl (LA bod) ?_ | refine Xt ?_ | refine Xq ?_ | refine Xn ?_ | refine Xj ?_ | refine Xo ?_); try (conv => whnf)
   refine VCall.mk _ (acts_any H2 hT hi hp hd A2 R2 hwi O2) ?_
   rintro _ w2 ⟨rfl, S2⟩
   refine ⟨_, rfl, ?_⟩
   obtain ⟨Y2, K2, P2, q2⟩ := S2
   repeat ((conv => whnf); first | refine Xt ?_ | refine Xq ?_ | refine Xn ?_ | refine Xj ?_ | refine Xo ?_); try (conv => whnf)
   refine VCall.mk _ (intact_any P2.py) ?_
   rintro _ w3 ⟨rfl, b3⟩
   refine ⟨_, rfl, ?_⟩
   repeat ((conv => whnf); first | refine Xt ?_ | refine Xq ?_ | refine Xn ?_ | refine Xj ?_ | refine Xo ?_); try (conv => whnf)
   exact .mk ⟨rfl, Y2, K2, P2.below b3, ((Ro.below bd1).trans q2).trans (.below b3)⟩
 by_cases k5 : x.kind = 5
 · skip
   repeat ((conv => whnf); first | refine Xl (LK bod) ?_ | refine Xl (LA bod) ?_ | refine Xt ?_ | refine Xq ?_ | refine Xn ?_ | refine Xj ?_ | refine Xo ?_); try (conv => whnf)
   refine VCall.mk _ (acts_any H2 hT hi hp hd A2 R2 hwi O2) ?_
   rintro _ w2 ⟨rfl, S2⟩
   refine ⟨_, rfl, ?_⟩
   obtain ⟨Y2, K2, P2, q2⟩ := S2
   repeat ((conv => whnf); first | refine Xt ?_ | refine Xq ?_ | refine Xn ?_ | refine Xj ?_ | refine Xo ?_); try (conv => whnf)
   refine VCall.mk _ (intact_any P2.py) ?_
   rintro _ w3 ⟨rfl, b3⟩
   refine ⟨_, rfl, ?_⟩
   repeat ((conv => whnf); first | refine Xt ?_ | refine Xq ?_ | refine Xn ?_ | refine Xj ?_ | refine Xo ?_); try (conv => whnf)
   exact .mk ⟨rfl, Y2, K2, P2.below b3, ((Ro.below bd1).trans q2).trans (.below b3)⟩
 by_cases k6 : x.kind = 6
 · skip
   repeat ((conv => whnf); first | refine Xl (LK bod) ?_ | refine Xl (LA bod) ?_ | refine Xt ?_ | refine Xq ?_ | refine Xn ?_ | refine Xj ?_ | refine Xo ?_); try (conv => whnf)
   refine VCall.mk _ (acts_any H2 hT hi hp hd A2 R2 hwi O2) ?_
   rintro _ w2 ⟨rfl, S2⟩
   refine ⟨_, rfl, ?_⟩
   obtain ⟨Y2, K2, P2, q2⟩ := S2
   repeat ((conv => whnf); first | refine Xt ?_ | refine Xq ?_ | refine Xn ?_ | refine Xj ?_ | refine Xo ?_); try (conv => whnf)
   refine VCall.mk _ (intact_any P2.py) ?_
   rintro _ w3 ⟨rfl, b3⟩
   refine ⟨_, rfl, ?_⟩
   repeat ((conv => whnf); first | refine Xt ?_ | refine Xq ?_ | refine Xn ?_ | refine Xj ?_ | refine Xo ?_); try (conv => whnf)
   exact .mk ⟨rfl, Y2, K2, P2.below b3, ((Ro.below bd1).trans q2).trans (.below b3)⟩
 by_cases k9 : x.kind = 9
 · skip
   repeat ((conv => whnf); first | refine Xl (LK bod) ?_ | refine Xl (LA bod) ?_ | refine Xt ?_ | refine Xq ?_ | refine Xn ?_ | refine Xj ?_ | refine Xo ?_); try (conv => whnf)
   refine VCall.mk _ (acts_any H2 hT hi hp hd A2 R2 hwi O2) ?_
   rintro _ w2 ⟨rfl, S2⟩
   refine ⟨_, rfl, ?_⟩
   obtain ⟨Y2, K2, P2, q2⟩ := S2
   repeat ((conv => whnf); first | refine Xt ?_ | refine Xq ?_ | refine Xn ?_ | refine Xj ?_ | refine Xo ?_); try (conv => whnf)
   refine VCall.mk _ (intact_any P2.py) ?_
   rintro _ w3 ⟨rfl, b3⟩
   refine ⟨_, rfl, ?_⟩
   repeat ((conv => whnf); first | refine Xt ?_ | refine Xq ?_ | refine Xn ?_ | refine Xj ?_ | refine Xo ?_); try (conv => whnf)
   exact .mk ⟨rfl, Y2, K2, P2.below b3, ((Ro.below bd1).trans q2).trans (.below b3)⟩
 by_cases k16 : x.kind = 16
 · skip
   repeat ((conv => whnf); first | refine Xl (LK bod) ?_ | refine Xl (LA bod) ?_ | refine Xt ?_ | refine Xq ?_ | refine Xn ?_ | refine Xj ?_ | refine Xo ?_); try (conv => whnf)
   refine VCall.mk _ (acts_any H2 hT hi hp hd A2 R2 hwi O2) ?_
   rintro _ w2 ⟨rfl, S2⟩
   refine ⟨_, rfl, ?_⟩
   obtain ⟨Y2, K2, P2, q2⟩ := S2
   repeat ((conv => whnf); first | refine Xt ?_ | refine Xq ?_ | refine Xn ?_ | refine Xj ?_ | refine Xo ?_); try (conv => whnf)
   refine VCall.mk _ (intact_any P2.py) ?_
   rintro _ w3 ⟨rfl, b3⟩
   refine ⟨_, rfl, ?_⟩
   repeat ((conv => whnf); first | refine Xt ?_ | refine Xq ?_ | refine Xn ?_ | refine Xj ?_ | refine Xo ?_); try (conv => whnf)
   exact .mk ⟨rfl, Y2, K2, P2.below b3, ((Ro.below bd1).trans q2).trans (.below b3)⟩
 repeat ((conv => whnf); first | refine Xl (LK bod) ?_ | refine Xl (LA bod) ?_ | refine Xt ?_ | refine Xq ?_ | refine Xn ?_ | refine Xj ?_ | refine Xo ?_); try (conv => whnf)
 refine VCall.mk _ (asks_any H2 (by omega) hi hp hd A2 R2 hwi O2) ?_
 rintro _ w2 ⟨rfl, S2⟩
 refine ⟨_, rfl, ?_⟩
 obtain ⟨Y2, K2, P2, q2⟩ := S2
 repeat ((conv => whnf); first | refine Xt ?_ | refine Xq ?_ | refine Xn ?_ | refine Xj ?_ | refine Xo ?_); try (conv => whnf)
 refine VCall.mk _ (intact_any P2.py) ?_
 rintro _ w3 ⟨rfl, b3⟩
 refine ⟨_, rfl, ?_⟩
 repeat ((conv => whnf); first | refine Xt ?_ | refine Xq ?_ | refine Xn ?_ | refine Xj ?_ | refine Xo ?_); try (conv => whnf)
 exact .mk ⟨rfl, Y2, K2, (P2.below b3).more (by omega), ((Ro.below bd1).trans q2).trans (.below b3)⟩
end
end Go.Proofs.YtoilipfgimcoiaaGreat
