/- SzF SzG SzH SzI, joined. -/
import Derived.Test.YtoilipfgimcoiaaGreatOz13
set_option linter.unusedVariables false
set_option linter.unusedSimpArgs false
namespace Go.Proofs.YtoilipfgimcoiaaGreat
open Go Go.RowKit
abbrev cmA (s q st : Int) (A : Option Addr) (n c : Nat) (p : Int) : Array Value := #[.int .i64 s, .int .i64 q, .int .i64 st, .slice A n c, .int .i64 p]
def zero125 : Value := .agg #[.int .i64 0, .int .i64 0, .int .i64 0, .slice none 0 0, .int .i64 0]
theorem run_zero125 (W : World) : (zeroValue 125).run Tryz.prog W = .ok zero125 W := by kernel_rfl
theorem info125 : (Tryz.prog.info? 125).map (fun i => (i.zero, i.size, i.bytes)) = some (some zero125, 5, 56) := by kernel_rfl
theorem build125 (W : World) (s q st : Int) (A : Option Addr) (n c : Nat) : (Instr.build 125 #[(0, .agg #[.int .i64 s, .int .i64 q, .int .i64 st, .slice A n c])]).run Tryz.prog W = .ok (.agg (cmA s q st A n c 0)) W := by kernel_rfl
theorem bs116 (W : World) (s q st : Int) (A : Option Addr) (n c : Nat) (p : Int) : (Instr.buildSlice 116 1 #[(0, .agg (cmA s q st A n c p))]).run Tryz.prog W = .ok (.slice (some ⟨W.heap.size, 0, none⟩) 1 1) (W.alloc (.cells (cmA s q st A n c p) 125)) := by kernel_rfl
theorem one_cmA (s q st : Int) (A : Option Addr) (n c : Nat) (p : Int) : (cmA s q st A n c p).all (·.oneCell') = true := by
 have : ∀ u ∈ [Value.int .i64 s, .int .i64 q, .int .i64 st, .slice A n c, .int .i64 p], u.oneCell' = true := fun u hu => by
   simp only [List.mem_cons, List.not_mem_nil, or_false] at hu
   rcases hu with rfl | rfl | rfl | rfl | rfl <;> rfl
 exact all_oneCell_toArray this
section
variable {K K' : Nat → Nat} {w w' : World} {r b T : Nat} {f : Rf} {X : RfX} {o : Os}
set_option maxRecDepth 100000 in
set_option maxHeartbeats 8000000 in
theorem come_any (A : RefAt w K r b f X) (hp : PosOk f X) (d : Dt) (h1 : f.came.length ≤ 1000000) (h2 : f.slots.length ≤ 1000000) {B : Option Addr} {cB nB : Nat} (hnB : d.b.length = nB) (hB : RowAt w w.heap.size 1 eByte B d.b) (hbl : nB ≤ 1000000000) :
   Calls Tryz.prog 97 #[.pointer (some ⟨b, 0, none⟩), .agg (dtA d B cB nB)] w fun e w' => e = .returned (.tuple #[]) ∧ ∃ K' X', RefAt w' K' r b (f.come d) X' ∧ PosOk (f.come d) X' ∧ Ro (inF r) K K' w w' := by
 subst hnB
 refine calls_vc tab_ok Tryz.func97 rfl ?_
 have r0 := A.r0
 have hbz := A.hb
 have hcl := A.clen
 conv => whnf
 refine .mk fun wA hwA => ?_
 obtain ⟨ba, hba⟩ : ∃ ba, ba = w.heap.size := ⟨_, rfl⟩
 rw [← hba]
 have bA : Below w.heap.size w wA := by rw [hwA.out]; exact below_box1 _ _ _
 have zA : wA.heap.size = w.heap.size + 1 := by rw [hwA.out]; simp
 have oA : wA.rangeAt ba 0 (dtA d B cB d.b.length).toList := by rw [hwA.out, hba]; exact range_new w _ 44
 clear hwA
 have D0 : Ld Tryz.prog 3 ba 0 (Sm [b, ba] wA) (.int .i64 d.s) := ⟨fun W hW => load3 (cell_sm (oA 0 _ rfl) (by simp) hW)⟩
 have D1 : Ld Tryz.prog 3 ba 1 (Sm [b, ba] wA) (.int .i64 d.q) := ⟨fun W hW => load3 (cell_sm (oA 1 _ rfl) (by simp) hW)⟩
 have D2 : Ld Tryz.prog 3 ba 2 (Sm [b, ba] wA) (.int .i64 d.st) := ⟨fun W hW => load3 (cell_sm (oA 2 _ rfl) (by simp) hW)⟩
 have D3 : Ld Tryz.prog 42 ba 3 (Sm [b, ba] wA) (.slice B d.b.length cB) := ⟨fun W hW => load27 (cell_sm (oA 3 _ rfl) (by simp) hW)⟩
 have sd : Sm [b, ba] wA wA.drew := fun _ _ => rfl
 have hLA : ∀ g ∈ [b, ba], g < wA.heap.size := fun g hg => by
   simp only [List.mem_cons, List.not_mem_nil, or_false] at hg
   rcases hg with rfl | rfl <;> omega
 repeat ((conv => whnf); first | refine Xt ?_ | refine Xq ?_ | refine Xn ?_ | refine Xj ?_ | refine Xo ?_); try (conv => whnf)
 refine VDraw.pl 1000 (.two [0, 1, 2, 3, 4, 5, 6, 7] 8 (.one [9, 10] 11 (.one [] 12 (.stop []))) 11 (.one [] 8 (.one [9, 10] 12 (.stop [])))) (Sm [b, ba] wA) (by kernel_rfl) (sd) ?_
 repeat ((conv => whnf); first | refine Xl D0 ?_ | refine Xl D1 ?_ | refine Xl D2 ?_ | refine Xl D3 ?_ | refine Xt ?_ | refine Xq ?_ | refine Xn ?_ | refine Xj ?_ | refine Xo ?_); try (conv => whnf)
 refine ⟨?_, ?_⟩
 · repeat ((conv => whnf); first | refine Xt ?_ | refine Xq ?_ | refine Xn ?_ | refine Xj ?_ | refine Xo ?_); try (conv => whnf)
   have hBd : RowAt wA.drew wA.drew.heap.size 1 eByte B d.b := ((hB.below bA (Nat.le_refl _)).more bA.size).below (Below.refl _ wA).drew (Nat.le_refl _)
   refine VCall.mk _ (copied_any B cB _ d.b wA.drew rfl hBd hbl) ?_
   rintro _ w1 ⟨B', cB', rfl, nB', b1⟩
   refine ⟨_, rfl, ?_⟩
   have b01 : Below wA.heap.size wA w1 := (Below.refl _ wA).drew.trans b1
   have s1 : Sm [b, ba] wA w1 := .below b01 hLA
   repeat ((conv => whnf); first | (refine VS.mk s1 ?_) | refine Xt ?_ | refine Xq ?_ | refine Xn ?_ | refine Xj ?_ | refine Xo ?_); try (conv => whnf)
   refine VBuild.mk _ (fun W' => build71 W' d.s d.q d.st B' d.b.length cB') ?_
   repeat ((conv => whnf); first | refine Xt ?_ | refine Xq ?_ | refine Xn ?_ | refine Xj ?_ | refine Xo ?_); try (conv => whnf)
   refine VBuild.mk _ (fun W' => build125 W' d.s d.q d.st B' d.b.length cB') ?_
   repeat ((conv => whnf); first | refine Xt ?_ | refine Xq ?_ | refine Xn ?_ | refine Xj ?_ | refine Xo ?_); try (conv => whnf)
   refine .mk _ run_zero125 ?_
   conv => whnf
   refine .mk fun u3 hu3 => ?_
   have hs3 : Sm [b, ba] wA u3 := by rw [hu3.out]; exact s1.trans (.below ((Below.refl _ w1).alloc (Nat.le_refl _) _) fun g hg => Nat.lt_of_lt_of_le (hLA g hg) b01.size)
   repeat ((conv => whnf); first | (refine VS.mk hs3 ?_) | refine Xt ?_ | refine Xq ?_ | refine Xn ?_ | refine Xj ?_ | refine Xo ?_); try (conv => whnf)
   obtain ⟨bt, hbt⟩ : ∃ bt, bt = w1.heap.size := ⟨_, rfl⟩
   refine VStore.new (c' := cmA d.s d.q d.st B' d.b.length cB' 0) hu3 (by kernel_rfl) rfl (one_cmA _ _ _ _ _ _ _) fun w3 hw3 => ?_
   have b3 : Below w1.heap.size w1 w3 := by rw [hw3.out]; exact (Below.refl _ _).alloc (Nat.le_refl _) _
   have z3 : w3.heap.size = w1.heap.size + 1 := by rw [hw3.out]; exact World.size_alloc _ _
   have r3 : w3.rangeAt bt 0 (cmA d.s d.q d.st B' d.b.length cB' 0).toList := by rw [hw3.out, hbt]; exact range_new w1 _ 125
   have t3 : w3.there bt 0 5 := by rw [hw3.out, hbt]; exact there_new w1 _ _
   rw [← hbt]
   clear hu3 hw3 hs3
   clear u3
   have nB3 : NewO w3 wA.heap.size 1 eByte B' cB' d.b := nB'.below b3
   have hne : ∀ g, blk B' = some g → g ≠ bt := fun g hg => by have := nB'.lo' g hg; omega
   have b03 : Below wA.heap.size wA w3 := b01.trans (b3.mono b01.size)
   have hbt1 : ba < bt ∧ bt < w3.heap.size := by have := b01.size; omega
   have s3 : Sm [b, ba] wA w3 := .below b03 hLA
   clear b3 z3 b01 s1 nB' hbt
   clear b1
   clear w1
   repeat ((conv => whnf); first | (refine VS.mk s3 ?_) | refine Xt ?_ | refine Xq ?_ | refine Xn ?_ | refine Xj ?_ | refine Xo ?_); try (conv => whnf)
   repeat ((conv => whnf); first | refine Xl (D0.at s3) ?_ | refine Xl (D1.at s3) ?_ | refine Xt ?_ | refine Xq ?_ | refine Xn ?_ | refine Xj ?_ | refine Xo ?_); try (conv => whnf)
   refine VBuild.mk _ (fun W' => build78 W' d.s d.q) ?_
   repeat ((conv => whnf); first | refine Xt ?_ | refine Xq ?_ | refine Xn ?_ | refine Xj ?_ | refine Xo ?_); try (conv => whnf)
   have bw3 : Below w.heap.size w w3 := bA.trans (b03.mono bA.size)
   refine VCall.mk _ (position_any (A.below bw3) d.sl h2) ?_
   rintro _ w4 ⟨rfl, b4⟩
   refine ⟨_, rfl, ?_⟩
   have z4 := b4.size
   have t4 := there_same t3 (b4.block bt hbt1.2)
   have r4 := range_same r3 (b4.block bt hbt1.2)
   repeat ((conv => whnf); first | refine Xt ?_ | refine Xq ?_ | refine Xn ?_ | refine Xj ?_ | refine Xo ?_); try (conv => whnf)
   refine VStore.cell (by kernel_rfl) (by have := (t4 4 (by omega)).1; rwa [Nat.zero_add] at this) (by have := (t4 4 (by omega)).2; rwa [Nat.zero_add] at this) rfl rfl fun w5 hw5 => ?_
   obtain ⟨r5, -⟩ := rng_cell (l' := (cmA d.s d.q d.st B' d.b.length cB' (psn f.slots d.sl : Nat)).toList) (j := 4) r4 t4 rfl (by omega) hw5.out rfl
   have g5 : w4.grownBy w5 (some bt) := by rw [hw5.out]; exact grown_cell _ _ _ _
   have z5 := g5.size
   clear hw5
   have b05 : Below wA.heap.size wA w5 := (b03.trans (b4.mono b03.size)).grown g5 (by have := b03.size; omega) fun k hk => by injection hk with hk; omega
   have nB5 : NewO w5 wA.heap.size 1 eByte B' cB' d.b := (nB3.below b4).same z5 fun g hg => g5.block g (by have := nB3.lo' g hg; omega) fun e => hne g hg (by injection e)
   have bw5 : Below w.heap.size w w5 := bA.trans (b05.mono bA.size)
   obtain ⟨K1, hK1⟩ : ∃ K1 : Nat → Nat, K1 = fun y => if blk B' = some y then r + 6 else K y := ⟨_, rfl⟩
   have kBy : ∀ y, blk B' = some y → K1 y = r + 6 := fun y hy => by rw [hK1]; exact if_pos hy
   have kO : ∀ y, blk B' ≠ some y → K1 y = K y := fun y hy => by rw [hK1]; exact if_neg hy
   have nBk : ∀ y, blk B' = some y → w.heap.size ≤ y ∧ y < w5.heap.size := fun y hy => by have := nB5.lo' y hy; omega
   have A5 : RefAt w5 K1 r b f X := A.ro (Q := fun _ => False) ((Ro.below bw5).role fun y hy => kO y fun e => by have := nBk y e; omega) (fun y hy => (kO y fun e => by have := nBk y e; omega).trans (A.kz y (by have := bw5.size; omega))) fun _ _ => id
   have kbt : K1 bt = 0 := (kO bt fun e => hne bt e rfl).trans (A.kz _ (by omega))
   have hbB : RowB w5 K1 (r + 6) 1 eByte B' d.b := RowB.at_ nB5.row kBy
   have LC := A5.l_came (l := [b, bt]) (by simp)
   have LB : Ld Tryz.prog 125 bt 0 (Sm [b, bt] w5) (.agg (cmA d.s d.q d.st B' d.b.length cB' (psn f.slots d.sl : Nat))) := ⟨fun W' hW => load_agg (by kernel_rfl) (by kernel_rfl) (range_same r5 (hW bt (by simp)))⟩
   have hs5 : Sm [b, bt] w5 w5.drew := fun _ _ => rfl
   have hl5 : ∀ g ∈ [b, bt], g < w5.heap.size ∧ (K1 g = r ∨ K1 g = 0) := fun g hg => by
     simp only [List.mem_cons, List.not_mem_nil, or_false] at hg
     rcases hg with rfl | rfl
     · exact ⟨A5.hb, .inl A5.kb⟩
     · exact ⟨by omega, .inr kbt⟩
   repeat ((conv => whnf); first | refine Xt ?_ | refine Xq ?_ | refine Xn ?_ | refine Xj ?_ | refine Xo ?_); try (conv => whnf)
   refine VDraw.pl 10 (.one [0, 1, 2, 3, 4, 5] 6 (.one [] 7 (.one [8, 9] 10 (.stop [])))) (Sm [b, bt] w5) (by kernel_rfl) (hs5) ?_
   repeat ((conv => whnf); first | refine Xl LC ?_ | refine Xl LB ?_ | refine Xt ?_ | refine Xq ?_ | refine Xn ?_ | refine Xj ?_ | refine Xo ?_); try (conv => whnf)
   refine VBs.mk _ _ (bs116 w5.drew d.s d.q d.st B' d.b.length cB' (psn f.slots d.sl : Nat)) ?_
   have c6 : Below w5.heap.size w5 (w5.drew.alloc (.cells (cmA d.s d.q d.st B' d.b.length cB' (psn f.slots d.sl : Nat)) 125)) := Below.trans (Below.drew (Below.refl _ w5)) ((Below.refl w5.drew.heap.size w5.drew).alloc (Nat.le_refl _) _)
   have hnc : ∀ j u, (eCm ⟨d, B', cB', psn f.slots d.sl⟩)[j]? = some u → (w5.drew.alloc (.cells (cmA d.s d.q d.st B' d.b.length cB' (psn f.slots d.sl : Nat)) 125)).cell? ⟨w5.drew.heap.size, j, none⟩ = some u := fun j u hu => by
     have := range_new w5.drew (cmA d.s d.q d.st B' d.b.length cB' (psn f.slots d.sl : Nat)) 125 j u hu
     rwa [Nat.zero_add] at this
   generalize w5.drew.alloc (.cells (cmA d.s d.q d.st B' d.b.length cB' (psn f.slots d.sl : Nat)) 125) = w6 at c6 hnc ⊢
   have A6 := A5.below c6
   have z6 := c6.size
   have hs6 : Sm [b, bt] w5 w6 := .below c6 fun y hy => (hl5 y hy).1
   repeat ((conv => whnf); first | (refine VS.mk hs6 ?_) | refine Xt ?_ | refine Xq ?_ | refine Xn ?_ | refine Xj ?_ | refine Xo ?_); try (conv => whnf)
   refine VApp.off 5 56 _ Tryz.underlying116 info125 rfl (by decide) eCm eCm_len one_eCm X.cl ⟨d, B', cB', psn f.slots d.sl⟩ hcl A6.cr hnc A6.kz (by omega) (by omega) fun A8 c8 K8 w8 oA8 q8 kz8 => ?_
   have hs8 : Sm [b, bt] w5 w8 := hs6.trans fun y hy => q8.same y (by have := (hl5 y hy).1; omega) (by have := (hl5 y hy).2; omega)
   have t8 := there_roF A6.th A6.hb q8 (by rw [A6.kb]; omega)
   repeat ((conv => whnf); first | (refine VS.mk hs8 ?_) | refine Xt ?_ | refine Xq ?_ | refine Xn ?_ | refine Xj ?_ | refine Xo ?_); try (conv => whnf)
   refine VStore.cell (by kernel_rfl) (by have := (t8 7 (by omega)).1; rwa [Nat.zero_add] at this) (by have := (t8 7 (by omega)).2; rwa [Nat.zero_add] at this) rfl rfl fun w9 hw9 => ?_
   obtain ⟨A9, q9⟩ := A6.s_came ⟨d, B', cB', psn f.slots d.sl⟩ oA8 ((hbB.ro (Ro.below (R := fun _ => False) c6) id).ro q8 (by omega)) q8 kz8 (w2 := w9) hw9.out
   repeat ((conv => whnf); first | (refine VS.last rfl ?_) | refine Xt ?_ | refine Xq ?_ | refine Xn ?_ | refine Xj ?_ | refine Xo ?_); try (conv => whnf)
   refine .mk ⟨rfl, K8, _, A9, fun x hx => ?_, ?_⟩
   · rcases List.mem_append.1 hx with hx | hx
     · exact hp x hx
     · rw [List.mem_singleton.1 hx]; rfl
   · exact (((Ro.below bw5).role (K' := K1) fun y hy => kO y fun e => by have := nBk y e; omega).trans (.below c6)).trans (q9.more fun z hz => by unfold inF; omega)
 · repeat ((conv => whnf); first | refine Xt ?_ | refine Xq ?_ | refine Xn ?_ | refine Xj ?_ | refine Xo ?_); try (conv => whnf)
   refine .mk _ run_zero125 ?_
   conv => whnf
   refine .mk fun u2 hu2 => ?_
   have cu : Below wA.heap.size wA u2 := by rw [hu2.out]; exact (Below.refl _ wA).drew.trans ((Below.refl wA.drew.heap.size wA.drew).alloc (Nat.le_refl _) _)
   have zu : u2.heap.size = wA.heap.size + 1 := by rw [hu2.out]; exact World.size_alloc _ _
   have hsu : Sm [b, ba] wA u2 := .below cu hLA
   obtain ⟨bt, hbt⟩ : ∃ bt, bt = wA.drew.heap.size := ⟨_, rfl⟩
   have hbt' : bt = wA.heap.size := hbt
   have tu : u2.there bt 0 5 := by rw [hu2.out, hbt]; exact there_new _ _ _
   rw [← hbt]
   repeat ((conv => whnf); first | (refine VS.mk hsu ?_) | refine Xt ?_ | refine Xq ?_ | refine Xn ?_ | refine Xj ?_ | refine Xo ?_); try (conv => whnf)
   have hBd : RowAt u2 u2.heap.size 1 eByte B d.b := (((hB.below bA (Nat.le_refl _)).more bA.size).below cu (Nat.le_refl _)).more cu.size
   refine VCall.mk _ (copied_any B cB _ d.b u2 rfl hBd hbl) ?_
   rintro _ w1 ⟨B', cB', rfl, nB', b1⟩
   refine ⟨_, rfl, ?_⟩
   have b01 : Below wA.heap.size wA w1 := cu.trans (b1.mono cu.size)
   have s1 : Sm [b, ba] wA w1 := .below b01 hLA
   have t1 : w1.there bt 0 5 := there_same tu (b1.block bt (by omega))
   repeat ((conv => whnf); first | (refine VS.mk s1 ?_) | refine Xt ?_ | refine Xq ?_ | refine Xn ?_ | refine Xj ?_ | refine Xo ?_); try (conv => whnf)
   refine VBuild.mk _ (fun W' => build71 W' d.s d.q d.st B' d.b.length cB') ?_
   repeat ((conv => whnf); first | refine Xt ?_ | refine Xq ?_ | refine Xn ?_ | refine Xj ?_ | refine Xo ?_); try (conv => whnf)
   refine VBuild.mk _ (fun W' => build125 W' d.s d.q d.st B' d.b.length cB') ?_
   repeat ((conv => whnf); first | refine Xt ?_ | refine Xq ?_ | refine Xn ?_ | refine Xj ?_ | refine Xo ?_); try (conv => whnf)
   refine VStore.mid (c := cmA d.s d.q d.st B' d.b.length cB' 0) t1 (by kernel_rfl) (one_cmA _ _ _ _ _ _ _) fun w3 hw3 => ?_
   have g3 : w1.grownBy w3 (some bt) := by rw [hw3.out]; exact grown_sets _ _ _ _
   have r3 : w3.rangeAt bt 0 (cmA d.s d.q d.st B' d.b.length cB' 0).toList := by rw [hw3.out]; exact rng_in t1 (by simp)
   have t3 : w3.there bt 0 5 := by rw [hw3.out]; exact World.there_setCells t1 _ _ _
   have nB3 : NewO w3 wA.heap.size 1 eByte B' cB' d.b := (nB'.same g3.size fun g hg => g3.block g (nB'.lo' g hg).2 fun e => by injection e with e; have := nB'.lo' g hg; omega).less cu.size
   have hne : ∀ g, blk B' = some g → g ≠ bt := fun g hg => by have := nB'.lo' g hg; omega
   have b03 : Below wA.heap.size wA w3 := b01.grown g3 b01.size fun k hk => by injection hk with hk; omega
   have hbt1 : ba < bt ∧ bt < w3.heap.size := by have := b01.size; have := g3.size; have := b1.size; omega
   have s3 : Sm [b, ba] wA w3 := .below b03 hLA
   clear g3 hw3 t1 s1 b01 nB' b1 tu hbt hbt' hsu zu cu hu2 hBd
   clear w1
   clear u2
   repeat ((conv => whnf); first | (refine VS.mk s3 ?_) | refine Xt ?_ | refine Xq ?_ | refine Xn ?_ | refine Xj ?_ | refine Xo ?_); try (conv => whnf)
   repeat ((conv => whnf); first | refine Xl (D0.at s3) ?_ | refine Xl (D1.at s3) ?_ | refine Xt ?_ | refine Xq ?_ | refine Xn ?_ | refine Xj ?_ | refine Xo ?_); try (conv => whnf)
   refine VBuild.mk _ (fun W' => build78 W' d.s d.q) ?_
   repeat ((conv => whnf); first | refine Xt ?_ | refine Xq ?_ | refine Xn ?_ | refine Xj ?_ | refine Xo ?_); try (conv => whnf)
   have bw3 : Below w.heap.size w w3 := bA.trans (b03.mono bA.size)
   refine VCall.mk _ (position_any (A.below bw3) d.sl h2) ?_
   rintro _ w4 ⟨rfl, b4⟩
   refine ⟨_, rfl, ?_⟩
   have z4 := b4.size
   have t4 := there_same t3 (b4.block bt hbt1.2)
   have r4 := range_same r3 (b4.block bt hbt1.2)
   repeat ((conv => whnf); first | refine Xt ?_ | refine Xq ?_ | refine Xn ?_ | refine Xj ?_ | refine Xo ?_); try (conv => whnf)
   refine VStore.cell (by kernel_rfl) (by have := (t4 4 (by omega)).1; rwa [Nat.zero_add] at this) (by have := (t4 4 (by omega)).2; rwa [Nat.zero_add] at this) rfl rfl fun w5 hw5 => ?_
   obtain ⟨r5, -⟩ := rng_cell (l' := (cmA d.s d.q d.st B' d.b.length cB' (psn f.slots d.sl : Nat)).toList) (j := 4) r4 t4 rfl (by omega) hw5.out rfl
   have g5 : w4.grownBy w5 (some bt) := by rw [hw5.out]; exact grown_cell _ _ _ _
   have z5 := g5.size
   clear hw5
   have b05 : Below wA.heap.size wA w5 := (b03.trans (b4.mono b03.size)).grown g5 (by have := b03.size; omega) fun k hk => by injection hk with hk; omega
   have nB5 : NewO w5 wA.heap.size 1 eByte B' cB' d.b := (nB3.below b4).same z5 fun g hg => g5.block g (by have := nB3.lo' g hg; omega) fun e => hne g hg (by injection e)
   have bw5 : Below w.heap.size w w5 := bA.trans (b05.mono bA.size)
   obtain ⟨K1, hK1⟩ : ∃ K1 : Nat → Nat, K1 = fun y => if blk B' = some y then r + 6 else K y := ⟨_, rfl⟩
   have kBy : ∀ y, blk B' = some y → K1 y = r + 6 := fun y hy => by rw [hK1]; exact if_pos hy
   have kO : ∀ y, blk B' ≠ some y → K1 y = K y := fun y hy => by rw [hK1]; exact if_neg hy
   have nBk : ∀ y, blk B' = some y → w.heap.size ≤ y ∧ y < w5.heap.size := fun y hy => by have := nB5.lo' y hy; omega
   have A5 : RefAt w5 K1 r b f X := A.ro (Q := fun _ => False) ((Ro.below bw5).role fun y hy => kO y fun e => by have := nBk y e; omega) (fun y hy => (kO y fun e => by have := nBk y e; omega).trans (A.kz y (by have := bw5.size; omega))) fun _ _ => id
   have kbt : K1 bt = 0 := (kO bt fun e => hne bt e rfl).trans (A.kz _ (by omega))
   have hbB : RowB w5 K1 (r + 6) 1 eByte B' d.b := RowB.at_ nB5.row kBy
   have LC := A5.l_came (l := [b, bt]) (by simp)
   have LB : Ld Tryz.prog 125 bt 0 (Sm [b, bt] w5) (.agg (cmA d.s d.q d.st B' d.b.length cB' (psn f.slots d.sl : Nat))) := ⟨fun W' hW => load_agg (by kernel_rfl) (by kernel_rfl) (range_same r5 (hW bt (by simp)))⟩
   have hs5 : Sm [b, bt] w5 w5.drew := fun _ _ => rfl
   have hl5 : ∀ g ∈ [b, bt], g < w5.heap.size ∧ (K1 g = r ∨ K1 g = 0) := fun g hg => by
     simp only [List.mem_cons, List.not_mem_nil, or_false] at hg
     rcases hg with rfl | rfl
     · exact ⟨A5.hb, .inl A5.kb⟩
     · exact ⟨by omega, .inr kbt⟩
   repeat ((conv => whnf); first | refine Xt ?_ | refine Xq ?_ | refine Xn ?_ | refine Xj ?_ | refine Xo ?_); try (conv => whnf)
   refine VDraw.pl 10 (.one [0, 1, 2, 3, 4, 5] 6 (.one [] 7 (.one [8, 9] 10 (.stop [])))) (Sm [b, bt] w5) (by kernel_rfl) (hs5) ?_
   repeat ((conv => whnf); first | refine Xl LC ?_ | refine Xl LB ?_ | refine Xt ?_ | refine Xq ?_ | refine Xn ?_ | refine Xj ?_ | refine Xo ?_); try (conv => whnf)
   refine VBs.mk _ _ (bs116 w5.drew d.s d.q d.st B' d.b.length cB' (psn f.slots d.sl : Nat)) ?_
   have c6 : Below w5.heap.size w5 (w5.drew.alloc (.cells (cmA d.s d.q d.st B' d.b.length cB' (psn f.slots d.sl : Nat)) 125)) := Below.trans (Below.drew (Below.refl _ w5)) ((Below.refl w5.drew.heap.size w5.drew).alloc (Nat.le_refl _) _)
   have hnc : ∀ j u, (eCm ⟨d, B', cB', psn f.slots d.sl⟩)[j]? = some u → (w5.drew.alloc (.cells (cmA d.s d.q d.st B' d.b.length cB' (psn f.slots d.sl : Nat)) 125)).cell? ⟨w5.drew.heap.size, j, none⟩ = some u := fun j u hu => by
     have := range_new w5.drew (cmA d.s d.q d.st B' d.b.length cB' (psn f.slots d.sl : Nat)) 125 j u hu
     rwa [Nat.zero_add] at this
   generalize w5.drew.alloc (.cells (cmA d.s d.q d.st B' d.b.length cB' (psn f.slots d.sl : Nat)) 125) = w6 at c6 hnc ⊢
   have A6 := A5.below c6
   have z6 := c6.size
   have hs6 : Sm [b, bt] w5 w6 := .below c6 fun y hy => (hl5 y hy).1
   repeat ((conv => whnf); first | (refine VS.mk hs6 ?_) | refine Xt ?_ | refine Xq ?_ | refine Xn ?_ | refine Xj ?_ | refine Xo ?_); try (conv => whnf)
   refine VApp.off 5 56 _ Tryz.underlying116 info125 rfl (by decide) eCm eCm_len one_eCm X.cl ⟨d, B', cB', psn f.slots d.sl⟩ hcl A6.cr hnc A6.kz (by omega) (by omega) fun A8 c8 K8 w8 oA8 q8 kz8 => ?_
   have hs8 : Sm [b, bt] w5 w8 := hs6.trans fun y hy => q8.same y (by have := (hl5 y hy).1; omega) (by have := (hl5 y hy).2; omega)
   have t8 := there_roF A6.th A6.hb q8 (by rw [A6.kb]; omega)
   repeat ((conv => whnf); first | (refine VS.mk hs8 ?_) | refine Xt ?_ | refine Xq ?_ | refine Xn ?_ | refine Xj ?_ | refine Xo ?_); try (conv => whnf)
   refine VStore.cell (by kernel_rfl) (by have := (t8 7 (by omega)).1; rwa [Nat.zero_add] at this) (by have := (t8 7 (by omega)).2; rwa [Nat.zero_add] at this) rfl rfl fun w9 hw9 => ?_
   obtain ⟨A9, q9⟩ := A6.s_came ⟨d, B', cB', psn f.slots d.sl⟩ oA8 ((hbB.ro (Ro.below (R := fun _ => False) c6) id).ro q8 (by omega)) q8 kz8 (w2 := w9) hw9.out
   repeat ((conv => whnf); first | (refine VS.last rfl ?_) | refine Xt ?_ | refine Xq ?_ | refine Xn ?_ | refine Xj ?_ | refine Xo ?_); try (conv => whnf)
   refine .mk ⟨rfl, K8, _, A9, fun x hx => ?_, ?_⟩
   · rcases List.mem_append.1 hx with hx | hx
     · exact hp x hx
     · rw [List.mem_singleton.1 hx]; rfl
   · exact (((Ro.below bw5).role (K' := K1) fun y hy => kO y fun e => by have := nBk y e; omega).trans (.below c6)).trans (q9.more fun z hz => by unfold inF; omega)
end
end Go.Proofs.YtoilipfgimcoiaaGreat
namespace Go.Proofs.YtoilipfgimcoiaaGreat
open Go Go.RowKit
theorem OwnO.setC {α : Type} {w w' : World} {K : Nat → Nat} {r sz c g off : Nat} {enc : α → List Value} {l : List α} (h : OwnO w K r sz enc (some ⟨g, off, none⟩) c l) (henc : ∀ x, (enc x).length = sz) {i : Nat} {x y : α} (hx : l[i]? = some x) {k : Nat} {v : Value} (hk : k < sz) (hy : enc y = (enc x).set k v) (hw : w' = w.setCell ⟨g, off + i * sz + k, none⟩ v) :
   OwnO w' K r sz enc (some ⟨g, off, none⟩) c (l.set i y) ∧ Ro (· = r) K K w w' := by
 rcases h with ⟨e, -, -⟩ | ⟨g', off', e, h1, h2, h3, h4, h5⟩
 · cases e
 injection e with e
 injection e with e1 e2 _
 subst e1 e2 hw
 have hi := (List.getElem?_eq_some_iff.1 hx).1
 refine ⟨.inr ⟨g, off, rfl, by rw [World.size_setCell]; exact h1, h2, by rw [List.length_set]; exact h3, there_set h4 _ _, fun a z hz j u hu => ?_⟩, Ro.cell h2 _ _⟩
 have hj := (List.getElem?_eq_some_iff.1 hu).1
 rw [henc] at hj
 by_cases e : a = i
 · subst e
   rw [List.getElem?_set_self hi] at hz
   injection hz with hz
   subst hz
   rw [hy] at hu
   by_cases ek : j = k
   · subst ek
     rw [List.getElem?_set_self (by rw [henc]; exact hk)] at hu
     injection hu with hu
     subst hu
     have hu0 : ∃ u0, (enc x)[j]? = some u0 := ⟨_, List.getElem?_eq_getElem (by rw [henc]; exact hk)⟩
     obtain ⟨u0, hu0⟩ := hu0
     exact World.cell?_setCell_same' _ _ _ (by rw [h5 a x hx j u0 hu0]; rfl)
   · rw [List.getElem?_set_ne (fun e => ek e.symm)] at hu
     exact cell_out (vs := [v]) (h5 a x hx j u hu) (by show off + a * sz + j < off + a * sz + k ∨ off + a * sz + k + 1 ≤ off + a * sz + j; omega)
 · rw [List.getElem?_set_ne (fun e2 => e e2.symm)] at hz
   refine cell_out (vs := [v]) (h5 a z hz j u hu) ?_
   show off + a * sz + j < off + i * sz + k ∨ off + i * sz + k + 1 ≤ off + a * sz + j
   rcases Nat.lt_or_gt_of_ne e with h | h
   · left
     have : (a + 1) * sz ≤ i * sz := Nat.mul_le_mul_right _ h
     rw [Nat.add_mul, Nat.one_mul] at this
     omega
   · right
     have : (i + 1) * sz ≤ a * sz := Nat.mul_le_mul_right _ h
     rw [Nat.add_mul, Nat.one_mul] at this
     omega
section
variable {K K' : Nat → Nat} {w w' : World} {r b T : Nat} {f : Rf} {X : RfX} {o : Os}
theorem RefAt.s_pos (h : RefAt w K r b f X) {i g off p : Nat} {x : CmX} (hx : X.cl[i]? = some x) (eA : X.cA = some ⟨g, off, none⟩) (hw : w' = w.setCell ⟨g, off + i * 5 + 4, none⟩ (.int .i64 p)) :
   RefAt w' K r b f { X with cl := X.cl.set i { x with p := p } } ∧ Ro (· = r + 2) K K w w' := by
 have r0 := h.r0
 have hcr := h.cr
 rw [eA] at hcr
 obtain ⟨o1, q⟩ := hcr.setC eCm_len hx (y := { x with p := p }) (k := 4) (v := .int .i64 p) (by omega) rfl hw
 have hi := (List.getElem?_eq_some_iff.1 hx).1
 refine ⟨⟨h.r0, h.kb, by rw [hw, World.size_setCell]; exact h.hb, fun y hy => h.kz y (Nat.le_trans q.size hy), range_roF h.rg h.hb q (by rw [h.kb]; omega), there_roF h.th h.hb q (by rw [h.kb]; omega), h.pr.ro q (by omega), by show OwnO w' K (r + 2) 5 eCm X.cA X.cc _; rw [eA]; exact o1, ?_, fun y hy => ?_, h.sr.ro q (by omega), h.tr.ro q (by omega), h.wr.ro q (by omega)⟩, q⟩
 · rw [← h.cv]
   show (X.cl.set i { x with p := p }).map (·.d) = X.cl.map (·.d)
   rw [List.map_set]
   apply List.ext_getElem?
   intro a
   by_cases e : a = i
   · subst e
     rw [List.getElem?_set_self (by rw [List.length_map]; exact hi), List.getElem?_map, hx]; rfl
   · rw [List.getElem?_set_ne (fun e2 => e e2.symm)]
 · rcases List.mem_or_eq_of_mem_set hy with hy | rfl
   · exact (h.cb y hy).ro q (by omega)
   · exact (h.cb x (List.mem_of_getElem? hx)).ro q (by omega)
def updC (n : Nat) (x : Sl) (c : CmX) : CmX := if c.d.sl = x then { c with p := n } else c
def updK (n : Nat) (x : Sl) (l : List CmX) (i : Nat) : List CmX := (l.take i).map (updC n x) ++ l.drop i
theorem updK_at {n : Nat} {x : Sl} {l : List CmX} {i : Nat} (hi : i ≤ l.length) (j : Nat) (hj : i ≤ j) : (updK n x l i)[j]? = l[j]? := by
 unfold updK
 rw [List.getElem?_append_right (by rw [List.length_map, List.length_take]; omega), List.length_map, List.length_take, List.getElem?_drop]
 congr 1; omega
theorem updK_succ {n : Nat} {x : Sl} {l : List CmX} {i : Nat} {c : CmX} (hc : l[i]? = some c) : updK n x l (i + 1) = (updK n x l i).set i (updC n x c) := by
 have hi := (List.getElem?_eq_some_iff.1 hc).1
 have hd : l.drop i = c :: l.drop (i + 1) := by
   rw [List.drop_eq_getElem_cons hi]
   congr 1
   exact (List.getElem?_eq_some_iff.1 hc).2
 unfold updK
 rw [take_one hc, List.map_append, hd, List.set_append_right _ _ (by rw [List.length_map, List.length_take]; omega), List.length_map, List.length_take, show i - min i l.length = 0 by omega]
 simp
theorem updK_keep {n : Nat} {x : Sl} {l : List CmX} {i : Nat} {c : CmX} (hc : l[i]? = some c) (hne : c.d.sl ≠ x) : updK n x l (i + 1) = updK n x l i := by
 have hi := (List.getElem?_eq_some_iff.1 hc).1
 rw [updK_succ hc]
 unfold updC
 rw [if_neg hne]
 have : (updK n x l i)[i]? = some c := by rw [updK_at (by omega) i (Nat.le_refl _)]; exact hc
 obtain ⟨h1, h2⟩ := List.getElem?_eq_some_iff.1 this
 rw [← h2, List.set_getElem_self]
set_option maxRecDepth 100000 in
set_option maxHeartbeats 8000000 in
theorem rstand_any (A : RefAt w K r b f X) (hp : PosOk f X) (x : Sl) (hx : x ∉ f.slots) (h1 : f.came.length ≤ 1000000) (h2 : f.slots.length ≤ 1000000) :
   Calls Tryz.prog 106 #[.pointer (some ⟨b, 0, none⟩), .agg #[.int .i64 x.s, .int .i64 x.q]] w fun e w' => e = .returned (.tuple #[]) ∧ ∃ K' X', RefAt w' K' r b (f.place x) X' ∧ PosOk (f.place x) X' ∧ Ro (inF r) K K' w w' := by
 refine calls_vc tab_ok Tryz.func106 rfl ?_
 have r0 := A.r0
 have hbz := A.hb
 have hcl := A.clen
 conv => whnf
 refine .mk fun wA hwA => ?_
 obtain ⟨bx, hbx⟩ : ∃ bx, bx = w.heap.size := ⟨_, rfl⟩
 rw [← hbx]
 have bA : Below w.heap.size w wA := by rw [hwA.out]; exact below_box1 _ _ _
 have zA : wA.heap.size = w.heap.size + 1 := by rw [hwA.out]; simp
 have oA : wA.rangeAt bx 0 (eSl x) := by rw [hwA.out, hbx]; exact range_new w _ 46
 clear hwA
 have AA := A.below bA
 have kbx : K bx = 0 := A.kz _ (by omega)
 have LS := AA.l_slots (l := [b, bx]) (by simp)
 have LX : Ld Tryz.prog 46 bx 0 (Sm [b, bx] wA) (.agg #[.int .i64 x.s, .int .i64 x.q]) := ⟨fun W' hW => load_agg (cs := eSl x) (by kernel_rfl) (by kernel_rfl) (range_same oA (hW bx (by simp)))⟩
 have sd : Sm [b, bx] wA wA.drew := fun _ _ => rfl
 have hl : ∀ g ∈ [b, bx], g < wA.heap.size ∧ (K g = r ∨ K g = 0) := fun g hg => by
   simp only [List.mem_cons, List.not_mem_nil, or_false] at hg
   rcases hg with rfl | rfl
   · exact ⟨AA.hb, .inl A.kb⟩
   · exact ⟨by omega, .inr kbx⟩
 repeat ((conv => whnf); first | refine Xt ?_ | refine Xq ?_ | refine Xn ?_ | refine Xj ?_ | refine Xo ?_); try (conv => whnf)
 refine VDraw.pl 10 (.one [0, 1, 2, 3, 4, 5] 6 (.one [] 7 (.one [8, 9] 10 (.stop [])))) (Sm [b, bx] wA) (by kernel_rfl) (sd) ?_
 repeat ((conv => whnf); first | refine Xl LS ?_ | refine Xl LX ?_ | refine Xt ?_ | refine Xq ?_ | refine Xn ?_ | refine Xj ?_ | refine Xo ?_); try (conv => whnf)
 refine VBs.mk _ _ (bs48 wA.drew x.s x.q) ?_
 have c6 : Below wA.heap.size wA (wA.drew.alloc (.cells #[.int .i64 x.s, .int .i64 x.q] 46)) := Below.trans (Below.drew (Below.refl _ wA)) ((Below.refl wA.drew.heap.size wA.drew).alloc (Nat.le_refl _) _)
 have hnc : ∀ j u, (eSl x)[j]? = some u → (wA.drew.alloc (.cells #[.int .i64 x.s, .int .i64 x.q] 46)).cell? ⟨wA.drew.heap.size, j, none⟩ = some u := fun j u hu => by
   have := range_new wA.drew #[.int .i64 x.s, .int .i64 x.q] 46 j u hu
   rwa [Nat.zero_add] at this
 generalize wA.drew.alloc (.cells #[.int .i64 x.s, .int .i64 x.q] 46) = w6 at c6 hnc ⊢
 have A6 := AA.below c6
 have z6 := c6.size
 have hs6 : Sm [b, bx] wA w6 := .below c6 fun y hy => (hl y hy).1
 repeat ((conv => whnf); first | (refine VS.mk hs6 ?_) | refine Xt ?_ | refine Xq ?_ | refine Xn ?_ | refine Xj ?_ | refine Xo ?_); try (conv => whnf)
 refine VApp.off 2 16 _ Tryz.underlying57 info78 rfl (by decide) eSl (fun _ => rfl) one_eSl f.slots x rfl A6.sr hnc A6.kz (by omega) (by omega) fun A8 c8 K8 w8 oA8 q8 kz8 => ?_
 have hs8 : Sm [b, bx] wA w8 := hs6.trans fun y hy => q8.same y (by have := (hl y hy).1; omega) (by have := (hl y hy).2; omega)
 have t8 := there_roF A6.th A6.hb q8 (by rw [A6.kb]; omega)
 repeat ((conv => whnf); first | (refine VS.mk hs8 ?_) | refine Xt ?_ | refine Xq ?_ | refine Xn ?_ | refine Xj ?_ | refine Xo ?_); try (conv => whnf)
 refine VStore.cell (by kernel_rfl) (by have := (t8 8 (by omega)).1; rwa [Nat.zero_add] at this) (by have := (t8 8 (by omega)).2; rwa [Nat.zero_add] at this) rfl rfl fun w9 hw9 => ?_
 obtain ⟨A9, q9⟩ := A6.s_slots x oA8 q8 kz8 (w2 := w9) hw9.out
 clear hw9
 have q09 : Ro (inF r) K K8 w w9 := (Ro.below (bA.trans (c6.mono bA.size))).trans (q9.more fun z hz => by unfold inF; omega)
 have x9 : w9.heap[bx]? = wA.heap[bx]? := (q9.same bx (by omega) (by omega)).trans (c6.block bx (by omega))
 have k9 : K8 bx = 0 := (q9.kk bx (by omega)).trans kbx
 have hz9 := q9.size
 have hbx9 : bx < w9.heap.size := by omega
 generalize hX9 : ({ X with sA := A8, sc := c8 } : RfX) = X9 at A9
 have hcl9 : X9.cl = X.cl := by rw [← hX9]
 repeat ((conv => whnf); first | (refine VS.last rfl ?_) | refine Xt ?_ | refine Xq ?_ | refine Xn ?_ | refine Xj ?_ | refine Xo ?_); try (conv => whnf)
 refine VLoop.mk Nat (fun i => [(0, .pointer (some ⟨b, 0, none⟩)), (3, .pointer (some ⟨bx, 0, none⟩)), (4, .int .i64 i)]) (fun i W => i ≤ f.came.length ∧ RefAt W K8 r b (f.place x) { X9 with cl := updK (f.slots.length + 1) x X9.cl i } ∧ Ro (· = r + 2) K8 K8 w9 W) (fun i => f.came.length - i) 0 ⟨rfl, rfl, rfl, trivial⟩ ⟨Nat.zero_le _, by unfold updK; simpa using A9, Ro.refl _ _ _⟩ ?_
 rintro i W ⟨hi, Ai, qi⟩
 have L0 := Ai.l_came (l := [b]) (by simp)
 have s0 := Sm.refl [b] W
 by_cases hin : i < f.came.length
 case neg =>
   obtain rfl : i = f.came.length := by omega
   rw [show (f.place x).came.length = f.came.length from rfl] at L0
   repeat ((conv => whnf); first | refine Xl (L0.at s0) ?_ | refine Xt ?_ | refine Xq ?_ | refine Xn ?_ | refine Xj ?_ | refine Xo ?_); try (conv => whnf)
   refine .mk ⟨rfl, K8, _, Ai, fun c hc => ?_, q09.trans (qi.more fun z hz => by unfold inF; omega)⟩
   have hc : c ∈ updK (f.slots.length + 1) x X9.cl f.came.length := hc
   unfold updK at hc
   rw [hcl9, ← hcl, List.take_length, List.drop_length, List.append_nil] at hc
   obtain ⟨c0, hc0, rfl⟩ := List.mem_map.1 hc
   show _ = psn (f.slots ++ [x]) _
   rw [psn_snoc _ _ hx]
   unfold updC
   by_cases e : c0.d.sl = x
   · rw [if_pos e, if_pos e]
   · rw [if_neg e, if_neg e]; exact hp c0 hc0
 have hcli : (updK (f.slots.length + 1) x X9.cl i).length = X.cl.length := by unfold updK; rw [hcl9]; simp; omega
 obtain ⟨g, off, eA, g1, gk, -, g4, g5⟩ := Ai.cr.get (by show 0 < (updK _ _ _ _).length; rw [hcli]; omega)
 have eA : X9.cA = some ⟨g, off, none⟩ := eA
 obtain ⟨c, hc⟩ : ∃ c, X.cl[i]? = some c := ⟨_, List.getElem?_eq_getElem (by omega)⟩
 have hci : (updK (f.slots.length + 1) x X9.cl i)[i]? = some c := by rw [hcl9, updK_at (by omega) i (Nat.le_refl _)]; exact hc
 have M0 := Ai.l_came (l := [b, bx, g]) (by simp)
 have M1 := Ai.l_slots (l := [b, bx, g]) (by simp)
 have eA' : ({ X9 with cl := updK (f.slots.length + 1) x X9.cl i } : RfX).cA = some ⟨g, off, none⟩ := eA
 rw [eA', show (f.place x).came.length = f.came.length from rfl] at M0 L0
 rw [show (f.place x).slots.length = f.slots.length + 1 by show (f.slots ++ [x]).length = _; rw [List.length_append]; rfl] at M1
 have xi : W.heap[bx]? = wA.heap[bx]? := (qi.same bx hbx9 (by omega)).trans x9
 have C0 : Ld Tryz.prog 3 g (addO (addO (off + mulO i 5) 0) 0) (Sm [b, bx, g] W) (.int .i64 c.d.s) := ⟨fun W' hW => load3 (by rw [show addO (addO (off + mulO i 5) 0) 0 = off + i * 5 + 0 by rw [mulO_eq]; rfl]; exact cell_sm (g5 i c hci 0 _ rfl) (by simp) hW)⟩
 have C1 : Ld Tryz.prog 3 g (addO (addO (off + mulO i 5) 0) 1) (Sm [b, bx, g] W) (.int .i64 c.d.q) := ⟨fun W' hW => load3 (by rw [show addO (addO (off + mulO i 5) 0) 1 = off + i * 5 + 1 by rw [mulO_eq]; rfl]; exact cell_sm (g5 i c hci 1 _ rfl) (by simp) hW)⟩
 have X0 : Ld Tryz.prog 3 bx 0 (Sm [b, bx, g] W) (.int .i64 x.s) := ⟨fun W' hW => load3 ((World.cell?_of_block (a := ⟨bx, 0, none⟩) ((hW bx (by simp)).trans xi)).trans (oA 0 _ rfl))⟩
 have X1 : Ld Tryz.prog 3 bx 1 (Sm [b, bx, g] W) (.int .i64 x.q) := ⟨fun W' hW => load3 ((World.cell?_of_block (a := ⟨bx, 1, none⟩) ((hW bx (by simp)).trans xi)).trans (oA 1 _ rfl))⟩
 have sW : Sm [b, bx, g] W W.drew := fun _ _ => rfl
 have hsl : c.d.sl = x ↔ c.d.s = x.s ∧ c.d.q = x.q := by
   obtain ⟨a, a'⟩ := x
   unfold Dt.sl
   simp
 have Ad := Ai.below (Below.refl _ W).drew
 have qd := qi.trans (Ro.below (R := (· = r + 2)) (K := K8) (Below.refl _ W).drew)
 by_cases e1 : c.d.s = x.s
 case neg =>
   have hk := updK_keep (n := f.slots.length + 1) (x := x) hc (fun e => e1 (hsl.1 e).1)
   repeat ((conv => whnf); first | refine Xl (L0.at s0) ?_ | refine Xt ?_ | refine Xq ?_ | refine Xn ?_ | refine Xj ?_ | refine Xo ?_); try (conv => whnf)
   refine VDraw.pl 1000 (.stop [0, 1, 2, 3, 4, 5, 6, 7, 8, 9, 10, 11, 12, 13, 14, 15, 16, 17, 18, 19, 20, 21, 22, 23, 24, 25]) (Sm [b, bx, g] W) (by kernel_rfl) (sW) ?_
   repeat ((conv => whnf); first | refine Xl M0 ?_ | refine Xl C0 ?_ | refine Xl C1 ?_ | refine Xl X0 ?_ | refine Xl X1 ?_ | refine Xt ?_ | refine Xq ?_ | refine Xn ?_ | refine Xj ?_ | refine Xo ?_); try (conv => whnf)
   exact .mk (i + 1) ⟨rfl, rfl, rfl, trivial⟩ ⟨hin, by rw [hcl9, hk, ← hcl9]; exact Ad, qd⟩ (by show f.came.length - (i + 1) < f.came.length - i; omega)
 by_cases e2 : c.d.q = x.q
 case neg =>
   have hk := updK_keep (n := f.slots.length + 1) (x := x) hc (fun e => e2 (hsl.1 e).2)
   repeat ((conv => whnf); first | refine Xl (L0.at s0) ?_ | refine Xt ?_ | refine Xq ?_ | refine Xn ?_ | refine Xj ?_ | refine Xo ?_); try (conv => whnf)
   refine VDraw.pl 1000 (.stop [0, 1, 2, 3, 4, 5, 6, 7, 8, 9, 10, 11, 12, 13, 14, 15, 16, 17, 18, 19, 20, 21, 22, 23, 24, 25]) (Sm [b, bx, g] W) (by kernel_rfl) (sW) ?_
   repeat ((conv => whnf); first | refine Xl M0 ?_ | refine Xl C0 ?_ | refine Xl C1 ?_ | refine Xl X0 ?_ | refine Xl X1 ?_ | refine Xt ?_ | refine Xq ?_ | refine Xn ?_ | refine Xj ?_ | refine Xo ?_); try (conv => whnf)
   exact .mk (i + 1) ⟨rfl, rfl, rfl, trivial⟩ ⟨hin, by rw [hcl9, hk, ← hcl9]; exact Ad, qd⟩ (by show f.came.length - (i + 1) < f.came.length - i; omega)
 have hk := updK_succ (n := f.slots.length + 1) (x := x) hc
 rw [show updC (f.slots.length + 1) x c = { c with p := f.slots.length + 1 } by unfold updC; rw [if_pos (hsl.2 ⟨e1, e2⟩)]] at hk
 have sW2 : Sm [b, bx, g] W W.drew.drew := fun _ _ => rfl
 have Add := Ad.below (Below.refl _ W.drew).drew
 repeat ((conv => whnf); first | refine Xl (L0.at s0) ?_ | refine Xt ?_ | refine Xq ?_ | refine Xn ?_ | refine Xj ?_ | refine Xo ?_); try (conv => whnf)
 refine VDraw.pl 1000 (.stop [0, 1, 2, 3, 4, 5, 6, 7, 8, 9, 10, 11, 12, 13, 14, 15, 16, 17, 18, 19, 20, 21, 22, 23, 24, 25]) (Sm [b, bx, g] W) (by kernel_rfl) (sW) ?_
 repeat ((conv => whnf); first | refine Xl M0 ?_ | refine Xl C0 ?_ | refine Xl C1 ?_ | refine Xl X0 ?_ | refine Xl X1 ?_ | refine Xt ?_ | refine Xq ?_ | refine Xn ?_ | refine Xj ?_ | refine Xo ?_); try (conv => whnf)
 refine VDraw.pl 12 (.one [0, 1, 2, 3, 4, 5, 6, 7, 8, 9, 10, 11] 12 (.stop [])) (Sm [b, bx, g] W) (by kernel_rfl) (sW2) ?_
 repeat ((conv => whnf); first | refine Xl M0 ?_ | refine Xl M1 ?_ | refine Xt ?_ | refine Xq ?_ | refine Xn ?_ | refine Xj ?_ | refine Xo ?_); try (conv => whnf)
 have hth : W.there g (off + i * 5) 5 := fun j hj => by
   have hcc : i * 5 + 5 ≤ X9.cc * 5 := by
     obtain ⟨g', off', eB, -, -, hc3, -⟩ := Ai.cr.get (by show 0 < (updK _ _ _ _).length; rw [hcli]; omega)
     have hc3 : (updK (f.slots.length + 1) x X9.cl i).length ≤ X9.cc := hc3
     omega
   have := g4 (i * 5 + j) (by show i * 5 + j < X9.cc * 5; omega)
   rwa [← Nat.add_assoc] at this
 have hth4 := hth 4 (by omega)
 refine VStore.cell (by kernel_rfl) (by rw [show addO (off + mulO i 5) 4 = off + i * 5 + 4 by rw [mulO_eq]; rfl]; exact hth4.1) (by rw [show addO (off + mulO i 5) 4 = off + i * 5 + 4 by rw [mulO_eq]; rfl]; exact hth4.2) rfl rfl fun w2 hw2 => ?_
 obtain ⟨A2, q2⟩ := Add.s_pos (w' := w2) hci eA' (p := f.slots.length + 1) (by rw [hw2.out, show addO (off + mulO i 5) 4 = off + i * 5 + 4 by rw [mulO_eq]; rfl])
 clear hw2
 repeat ((conv => whnf); first | (refine VS.last rfl ?_) | refine Xt ?_ | refine Xq ?_ | refine Xn ?_ | refine Xj ?_ | refine Xo ?_); try (conv => whnf)
 exact .mk (i + 1) ⟨rfl, rfl, rfl, trivial⟩ ⟨hin, by rw [hcl9, hk, ← hcl9]; exact A2, (qd.trans (Ro.below (R := (· = r + 2)) (K := K8) (Below.refl _ W.drew).drew)).trans q2⟩ (by show f.came.length - (i + 1) < f.came.length - i; omega)
end
end Go.Proofs.YtoilipfgimcoiaaGreat
namespace Go.Proofs.YtoilipfgimcoiaaGreat
open Go Go.RowKit
section
variable {K K' : Nat → Nat} {w w' : World} {r b T : Nat} {f : Rf} {X : RfX} {o : Os}
set_option maxRecDepth 100000 in
theorem rdone_any (A : RefAt w K r b f X) (h : Sim T o f) : Calls Tryz.prog 58 #[.pointer (some ⟨b, 0, none⟩)] w fun e w' => e = .returned (.int .i64 o.done) ∧ w' = w := by
 refine calls_vc tab_ok Tryz.func58 rfl ?_
 conv => whnf
 have L1 := A.l_upto (l := [b]) (by simp)
 repeat ((conv => whnf); first | refine Xl (L1.at (Sm.refl _ _)) ?_ | refine Xt ?_ | refine Xq ?_ | refine Xn ?_ | refine Xj ?_ | refine Xo ?_); try (conv => whnf)
 exact .mk ⟨by rw [h.done]; rfl, rfl⟩
set_option maxRecDepth 100000 in
theorem rprefix_any (A : RefAt w K r b f X) (h : Sim T o f) : Calls Tryz.prog 63 #[.pointer (some ⟨b, 0, none⟩)] w fun e w' => e = .returned (.int .i64 o.pre) ∧ w' = w := by
 refine calls_vc tab_ok Tryz.func63 rfl ?_
 conv => whnf
 have L1 := A.l_known (l := [b]) (by simp)
 repeat ((conv => whnf); first | refine Xl (L1.at (Sm.refl _ _)) ?_ | refine Xt ?_ | refine Xq ?_ | refine Xn ?_ | refine Xj ?_ | refine Xo ?_); try (conv => whnf)
 exact .mk ⟨by rw [h.pre]; rfl, rfl⟩
set_option maxRecDepth 100000 in
theorem rfrozen_any (A : RefAt w K r b f X) (h : Sim T o f) : Calls Tryz.prog 68 #[.pointer (some ⟨b, 0, none⟩)] w fun e w' => e = .returned (.bool o.frz) ∧ w' = w := by
 refine calls_vc tab_ok Tryz.func68 rfl ?_
 conv => whnf
 have L1 := A.l_stop (l := [b]) (by simp)
 repeat ((conv => whnf); first | refine Xl (L1.at (Sm.refl _ _)) ?_ | refine Xt ?_ | refine Xq ?_ | refine Xn ?_ | refine Xj ?_ | refine Xo ?_); try (conv => whnf)
 exact .mk ⟨by rw [h.frz]; rfl, rfl⟩
set_option maxRecDepth 100000 in
theorem rfreeze_any (A : RefAt w K r b f X) : Calls Tryz.prog 56 #[.pointer (some ⟨b, 0, none⟩)] w fun e w' => e = .returned (.tuple #[]) ∧ RefAt w' K r b { f with stop := true } X ∧ Ro (inF r) K K w w' := by
 refine calls_vc tab_ok Tryz.func56 rfl ?_
 conv => whnf
 repeat ((conv => whnf); first | refine Xt ?_ | refine Xq ?_ | refine Xn ?_ | refine Xj ?_ | refine Xo ?_); try (conv => whnf)
 have ht := A.th 13 (by omega)
 refine VStore.cell (by kernel_rfl) (by have := ht.1; rwa [Nat.zero_add] at this) (by have := ht.2; rwa [Nat.zero_add] at this) rfl rfl fun w1 hw1 => ?_
 obtain ⟨A1, q1⟩ := A.putc (j := 13) (v := .bool true) { f with stop := true } hw1.out (by omega) (by unfold cellsR; rfl) rfl rfl rfl rfl rfl
 repeat ((conv => whnf); first | refine Xt ?_ | refine Xq ?_ | refine Xn ?_ | refine Xj ?_ | refine Xo ?_); try (conv => whnf)
 exact .mk ⟨rfl, A1, q1.more fun y hy => by unfold inF; omega⟩
set_option maxRecDepth 100000 in
theorem rtold_any (A : RefAt w K r b f X) (h : Sim T o f) : Calls Tryz.prog 62 #[.pointer (some ⟨b, 0, none⟩)] w fun e w' => e = .returned (.agg (stA o)) ∧ Below w.heap.size w w' := by
 refine calls_vc tab_ok Tryz.func62 rfl ?_
 have hbz := A.hb
 conv => whnf
 refine .mk _ run_zero88 ?_
 conv => whnf
 refine .mk fun u1 hu1 => ?_
 have c1 : Below w.heap.size w u1 := by rw [hu1.out]; exact (Below.refl _ _).alloc (Nat.le_refl _) _
 have t1 : u1.there w.heap.size 0 6 := by rw [hu1.out]; exact there_new _ _ _
 have A1 := A.below c1
 have L1 := A1.l_id (l := [b]) (by simp)
 have L2 := A1.l_upto (l := [b]) (by simp)
 have L3 := A1.l_known (l := [b]) (by simp)
 rw [← h.id] at L1
 rw [← h.done] at L2
 rw [← h.pre] at L3
 have s1 : Sm [b] u1 u1.drew := fun _ _ => rfl
 clear hu1
 repeat ((conv => whnf); first | refine Xt ?_ | refine Xq ?_ | refine Xn ?_ | refine Xj ?_ | refine Xo ?_); try (conv => whnf)
 refine VDraw.pl 13 (.one [0, 1, 2, 3, 4, 5, 6, 7, 8, 9, 10, 11, 12] 13 (.stop [])) (Sm [b] u1) (by kernel_rfl) (s1) ?_
 repeat ((conv => whnf); first | refine Xl L1 ?_ | refine Xl L2 ?_ | refine Xl L3 ?_ | refine Xt ?_ | refine Xq ?_ | refine Xn ?_ | refine Xj ?_ | refine Xo ?_); try (conv => whnf)
 refine VBuild.mk (.agg (stA o)) (fun W' => build88 W' o.id.e o.id.l o.id.i o.id.c o.done o.pre) ?_
 repeat ((conv => whnf); first | refine Xt ?_ | refine Xq ?_ | refine Xn ?_ | refine Xj ?_ | refine Xo ?_); try (conv => whnf)
 refine VStore.mid (c := stA o) t1 (by kernel_rfl) (one_stA o) fun w2 hw2 => ?_
 have r2 : w2.rangeAt w.heap.size 0 (stA o).toList := by rw [hw2.out]; exact rng_in (w := u1.drew) t1 (by simp [stA])
 have b2 : Below w.heap.size w w2 := by rw [hw2.out]; exact Below.grown (Below.trans c1 (Below.drew (Below.refl _ u1))) (grown_sets _ _ _ _) c1.size (fun k hk => by injection hk with hk; omega)
 have LR : Ld Tryz.prog 50 w.heap.size 0 (Eq w2) (.agg (stA o)) := .of (load_agg (by kernel_rfl) (by kernel_rfl) r2)
 repeat ((conv => whnf); first | (refine VS.last rfl ?_) | refine Xl LR ?_ | refine Xt ?_ | refine Xq ?_ | refine Xn ?_ | refine Xj ?_ | refine Xo ?_); try (conv => whnf)
 exact .mk ⟨rfl, b2⟩
theorem hasB_iff {l : List Nat} {q : Int} : hasB l q = true ↔ ∃ x ∈ l, (x : Int) = q := by unfold hasB; exact decide_eq_true_iff
set_option maxRecDepth 100000 in
theorem rseen_any (A : RefAt w K r b f X) (h : Sim T o f) (q : Int) : Calls Tryz.prog 65 #[.pointer (some ⟨b, 0, none⟩), .int .i64 q] w fun e w' => e = .returned (.bool (o.seenB q)) ∧ w' = w := by
 refine calls_vc tab_ok Tryz.func65 rfl ?_
 have m16 := h.m16
 conv => whnf
 repeat ((conv => whnf); first | refine Xt ?_ | refine Xq ?_ | refine Xn ?_ | refine Xj ?_ | refine Xo ?_); try (conv => whnf)
 refine VCall.mk _ (ridx_any A q (by omega)) ?_
 rintro _ _ ⟨rfl, rfl⟩
 refine ⟨_, rfl, ?_⟩
 rename_i w
 rcases idxI_cases f.mem q with ⟨e1, e2⟩ | ⟨i, x, e1, hx, e3, e2⟩
 · rw [e1]
   have hs : o.seenB q = false := by
     unfold Os.seenB
     by_cases h1 : 0 ≤ q ∧ q < 16
     · rw [decide_eq_true h1, Bool.true_and]
       cases hs : o.seen q.toNat with
       | false => rfl
       | true =>
         have : hasB f.mem q = true := hasB_iff.2 ⟨q.toNat, h.sn _ hs, by omega⟩
         rw [e2] at this; cases this
     · rw [decide_eq_false h1]; rfl
   rw [hs]
   repeat ((conv => whnf); first | refine Xt ?_ | refine Xq ?_ | refine Xn ?_ | refine Xj ?_ | refine Xo ?_); try (conv => whnf)
   exact .mk ⟨rfl, rfl⟩
 · rw [e1]
   subst e3
   have hxm := List.mem_of_getElem? hx
   have hx16 := h.mlt x hxm
   have hil := (List.getElem?_eq_some_iff.1 hx).1
   have hw := h.ww i x hx
   have hs : o.seenB (x : Int) = o.seen x := by unfold Os.seenB; rw [decide_eq_true (by omega), Int.toNat_natCast]; rfl
   rw [hs]
   obtain ⟨g, off, eA, g1, -, -, -, g5⟩ := A.wr.get (by rw [h.wl]; omega)
   have L0 := A.l_saw (l := [b]) (by simp)
   rw [eA, h.wl] at L0
   have L1 : Ld Tryz.prog 4 g (off + i) (Eq w) (.bool (o.seen x)) := .of (load4 (by have := g5 i _ hw 0 _ rfl; rwa [Nat.mul_one] at this))
   repeat ((conv => whnf); first | refine Xl (L0.at (Sm.refl _ _)) ?_ | refine Xl L1 ?_ | refine Xt ?_ | refine Xq ?_ | refine Xn ?_ | refine Xj ?_ | refine Xo ?_); try (conv => whnf)
   exact .mk ⟨rfl, rfl⟩
theorem cnt_take_one {s : Nat} {l : List Sl} {k : Nat} {x : Sl} (hx : l[k]? = some x) : cnt s (l.take (k + 1)) = cnt s (l.take k) + if x.s = s then 1 else 0 := by rw [take_one hx, cnt_app, cnt_one]
set_option maxRecDepth 100000 in
theorem rown_any (A : RefAt w K r b f X) (h : Sim T o f) (hT : T ≤ 100000) : Calls Tryz.prog 60 #[.pointer (some ⟨b, 0, none⟩)] w fun e w' => e = .returned (.tuple #[.int .i64 (o.taken o.self), .int .i64 o.mine]) ∧ Below w.heap.size w w' := by
 refine calls_vc tab_ok Tryz.func60 rfl ?_
 have hbz := A.hb
 have t1 := h.T1
 have t2 := h.T2
 have hul := h.ul
 have hself := h.mlt _ h.sf
 conv => whnf
 repeat ((conv => whnf); first | refine Xt ?_ | refine Xq ?_ | refine Xn ?_ | refine Xj ?_ | refine Xo ?_); try (conv => whnf)
 refine VLoop.mk Nat (fun i => [(0, .pointer (some ⟨b, 0, none⟩)), (4, .int .i64 (cnt f.self (f.slots.take i) : Nat)), (5, .int .i64 i)]) (fun i W => i ≤ f.upto ∧ Below w.heap.size w W) (fun i => f.upto - i) 0 ⟨rfl, rfl, rfl, trivial⟩ ⟨Nat.zero_le _, Below.refl _ _⟩ ?_
 rintro i W ⟨hi, bW⟩
 have AW := A.below bW
 have L9 := AW.l_upto (l := [b]) (by simp)
 have s0 := Sm.refl [b] W
 have hle : cnt f.self (f.slots.take i) ≤ i := Nat.le_trans (cnt_le _ _) (by rw [List.length_take]; omega)
 by_cases hin : i < f.upto
 case neg =>
   obtain rfl : i = f.upto := by omega
   have LS := AW.l_self (l := [b]) (by simp)
   repeat ((conv => whnf); first | refine Xl (L9.at s0) ?_ | refine Xl (LS.at s0) ?_ | refine Xt ?_ | refine Xq ?_ | refine Xn ?_ | refine Xj ?_ | refine Xo ?_); try (conv => whnf)
   refine VCall.mk _ (rtaken_any AW f.self (by omega)) ?_
   rintro _ _ ⟨rfl, rfl⟩
   refine ⟨_, rfl, ?_⟩
   rw [tkI_nat, ← h.tk, ← h.mi, ← h.self]
   repeat ((conv => whnf); first | refine Xt ?_ | refine Xq ?_ | refine Xn ?_ | refine Xj ?_ | refine Xo ?_); try (conv => whnf)
   exact .mk ⟨rfl, bW⟩
 obtain ⟨g, off, eA, g1, -, -, -, g5⟩ := AW.sr.get (by omega)
 obtain ⟨y, hy⟩ : ∃ y, f.slots[i]? = some y := ⟨_, List.getElem?_eq_getElem (by omega)⟩
 have M0 := AW.l_slots (l := [b, g]) (by simp)
 have M1 := AW.l_self (l := [b, g]) (by simp)
 rw [eA] at M0
 have MY : Ld Tryz.prog 3 g (addO (off + mulO i 2) 0) (Sm [b, g] W) (.int .i64 y.s) := ⟨fun W' hW => load3 (by rw [show addO (off + mulO i 2) 0 = off + i * 2 + 0 by rw [mulO_eq]; rfl]; exact cell_sm (g5 i y hy 0 _ rfl) (by simp) hW)⟩
 have sd : Sm [b, g] W W.drew := fun _ _ => rfl
 have ht := cnt_take_one (s := f.self) hy
 by_cases he : y.s = f.self
 · rw [if_pos he] at ht
   repeat ((conv => whnf); first | refine Xl (L9.at s0) ?_ | refine Xt ?_ | refine Xq ?_ | refine Xn ?_ | refine Xj ?_ | refine Xo ?_); try (conv => whnf)
   refine VDraw.pl 1000 (.stop [0, 1, 2, 3, 4, 5, 6, 7, 8, 9, 10, 11, 12]) (Sm [b, g] W) (by kernel_rfl) (sd) ?_
   repeat ((conv => whnf); first | refine Xl M0 ?_ | refine Xl M1 ?_ | refine Xl MY ?_ | refine Xt ?_ | refine Xq ?_ | refine Xn ?_ | refine Xj ?_ | refine Xo ?_); try (conv => whnf)
   exact .mk (i + 1) ⟨rfl, congrArg (fun z : Nat => some (Value.int .i64 (z : Int))) ht.symm, rfl, trivial⟩ ⟨hin, bW.drew⟩ (by show f.upto - (i + 1) < f.upto - i; omega)
 · rw [if_neg he, Nat.add_zero] at ht
   repeat ((conv => whnf); first | refine Xl (L9.at s0) ?_ | refine Xt ?_ | refine Xq ?_ | refine Xn ?_ | refine Xj ?_ | refine Xo ?_); try (conv => whnf)
   refine VDraw.pl 1000 (.stop [0, 1, 2, 3, 4, 5, 6, 7, 8, 9, 10, 11, 12]) (Sm [b, g] W) (by kernel_rfl) (sd) ?_
   repeat ((conv => whnf); first | refine Xl M0 ?_ | refine Xl M1 ?_ | refine Xl MY ?_ | refine Xt ?_ | refine Xq ?_ | refine Xn ?_ | refine Xj ?_ | refine Xo ?_); try (conv => whnf)
   exact .mk (i + 1) ⟨rfl, congrArg (fun z : Nat => some (Value.int .i64 (z : Int))) ht.symm, rfl, trivial⟩ ⟨hin, bW.drew⟩ (by show f.upto - (i + 1) < f.upto - i; omega)
def hkN (f : Rf) (l : List Dt) : Nat := l.countP f.keeps
theorem hkN_take {f : Rf} {l : List Dt} {k : Nat} {d : Dt} (hd : l[k]? = some d) : hkN f (l.take (k + 1)) = hkN f (l.take k) + if f.keeps d = true then 1 else 0 := by
 unfold hkN
 rw [take_one hd, List.countP_append]
 cases hk : f.keeps d <;> simp [hk]
set_option maxRecDepth 100000 in
theorem rheldAll_any (A : RefAt w K r b f X) (hp : PosOk f X) (h : Sim T o f) (hT : T ≤ 100000) : Calls Tryz.prog 66 #[.pointer (some ⟨b, 0, none⟩)] w fun e w' => e = .returned (.int .i64 o.held.length) ∧ Below w.heap.size w w' := by
 refine calls_vc tab_ok Tryz.func66 rfl ?_
 have hbz := A.hb
 have hcl := A.clen
 have t1 := h.T1
 have hol : o.held.length = hkN f f.came := by rw [h.hd]; exact List.countP_eq_length_filter.symm
 rw [hol]
 conv => whnf
 repeat ((conv => whnf); first | refine Xt ?_ | refine Xq ?_ | refine Xn ?_ | refine Xj ?_ | refine Xo ?_); try (conv => whnf)
 refine VLoop.mk Nat (fun i => [(0, .pointer (some ⟨b, 0, none⟩)), (3, .int .i64 (hkN f (f.came.take i) : Nat)), (4, .int .i64 i)]) (fun i W => i ≤ f.came.length ∧ Below w.heap.size w W) (fun i => f.came.length - i) 0 ⟨rfl, rfl, rfl, trivial⟩ ⟨Nat.zero_le _, Below.refl _ _⟩ ?_
 rintro i W ⟨hi, bW⟩
 have AW := A.below bW
 have L0 := AW.l_came (l := [b]) (by simp)
 have s0 := Sm.refl [b] W
 have hle : hkN f (f.came.take i) ≤ i := Nat.le_trans List.countP_le_length (by rw [List.length_take]; omega)
 by_cases hin : i < f.came.length
 case neg =>
   obtain rfl : i = f.came.length := by omega
   rw [List.take_length]
   repeat ((conv => whnf); first | refine Xl (L0.at s0) ?_ | refine Xt ?_ | refine Xq ?_ | refine Xn ?_ | refine Xj ?_ | refine Xo ?_); try (conv => whnf)
   exact .mk ⟨rfl, bW⟩
 obtain ⟨g, off, eA, g1, -, -, -, g5⟩ := AW.cr.get (by omega)
 obtain ⟨x, hx⟩ : ∃ x, X.cl[i]? = some x := ⟨_, List.getElem?_eq_getElem (by omega)⟩
 have hd : f.came[i]? = some x.d := by rw [← A.cv, List.getElem?_map, hx]; rfl
 have hk := hp.keeps h.sq (List.mem_of_getElem? hx)
 rw [eA] at L0
 have L2 : Ld Tryz.prog 125 g (off + mulO i 5) (Eq W) (.agg #[.int .i64 x.d.s, .int .i64 x.d.q, .int .i64 x.d.st, .slice x.A x.d.b.length x.c, .int .i64 x.p]) := .of (load_agg (cs := eCm x) (by kernel_rfl) (by kernel_rfl) fun j u hu => by rw [mulO_eq]; exact g5 i x hx j u hu)
 have ht := hkN_take (f := f) hd
 repeat ((conv => whnf); first | refine Xl (L0.at s0) ?_ | refine Xl L2 ?_ | refine Xt ?_ | refine Xq ?_ | refine Xn ?_ | refine Xj ?_ | refine Xo ?_); try (conv => whnf)
 refine VCall.mk _ (rheld_any AW x) ?_
 rintro _ W2 ⟨rfl, b2⟩
 refine ⟨_, rfl, ?_⟩
 rw [hk]
 have bW2 := bW.trans (b2.mono bW.size)
 cases hkk : f.keeps x.d with
 | true =>
   rw [if_pos hkk] at ht
   repeat ((conv => whnf); first | refine Xt ?_ | refine Xq ?_ | refine Xn ?_ | refine Xj ?_ | refine Xo ?_); try (conv => whnf)
   exact .mk (i + 1) ⟨rfl, congrArg (fun z : Nat => some (Value.int .i64 (z : Int))) ht.symm, rfl, trivial⟩ ⟨hin, bW2⟩ (by show f.came.length - (i + 1) < f.came.length - i; omega)
 | false =>
   rw [if_neg (by rw [hkk]; simp), Nat.add_zero] at ht
   repeat ((conv => whnf); first | refine Xt ?_ | refine Xq ?_ | refine Xn ?_ | refine Xj ?_ | refine Xo ?_); try (conv => whnf)
   exact .mk (i + 1) ⟨rfl, congrArg (fun z : Nat => some (Value.int .i64 (z : Int))) ht.symm, rfl, trivial⟩ ⟨hin, bW2⟩ (by show f.came.length - (i + 1) < f.came.length - i; omega)
end
end Go.Proofs.YtoilipfgimcoiaaGreat
namespace Go.Proofs.YtoilipfgimcoiaaGreat
open Go Go.RowKit
theorem rise1_gone (o : Os) (s : Nat) : o.gone s ≤ o.rise1.gone s := by
 cases h : o.slots with
 | nil => rw [rise1_nil h]; exact Nat.le_refl _
 | cons x l =>
   rw [rise1_cons h]
   show o.gone s ≤ upN o.gone x.s (o.gone x.s + 1) s
   unfold upN
   split
   · rename_i e; rw [e]; omega
   · exact Nat.le_refl _
theorem riseK_gone (o : Os) (s : Nat) : ∀ k, o.gone s ≤ (o.riseK k).gone s
 | 0 => Nat.le_refl _
 | k + 1 => Nat.le_trans (riseK_gone o s k) (rise1_gone _ s)
theorem FrO.rise {o : Os} (h : FrO o) (n : Nat) : FrO (o.rise n) := by
 have a := rise_keeps o n
 have g := riseK_gone o o.self (n - o.pre)
 unfold FrO at h ⊢
 rw [a.taken, a.self, a.win]
 have : (o.rise n).gone o.self = (o.riseK (n - o.pre)).gone o.self := rfl
 omega
theorem FrO.keep {o : Os} (h : FrO o) {d : Dt} (hd : d.s = o.self → d.q ≤ o.win + o.gone o.self) : FrO (o.keep d) := by
 show upN o.taken d.s d.q o.self ≤ o.win + o.gone o.self
 unfold upN
 split
 · rename_i e; exact hd e.symm
 · exact h
theorem FrO.keepO {o : Os} (h : FrO o) {d : Dt} (hd : d.s ≠ o.self) : FrO (o.keep d) := h.keep fun e => absurd e hd
theorem FrO.lt {o : Os} (h : FrO o) (hf : o.frz = false) (hn : o.free ≠ 0) : o.taken o.self + 1 ≤ o.win + o.gone o.self := by
 unfold Os.free at hn
 rw [if_neg (by rw [hf]; simp)] at hn
 unfold FrO at h
 omega
theorem FrO.zero {o : Os} (h : FrO o) : o.free < 1 ↔ o.free = 0 := by
 unfold Os.free
 unfold FrO at h
 split
 · simp
 · omega
theorem FrO.asgK {o : Os} (h : FrO o) : ∀ k, FrO (o.asgK k)
 | 0 => h
 | k + 1 => by
   have a := h.asgK k
   have e : o.asgK (k + 1) = (o.asgK k).asg1 := rfl
   rw [e]
   cases hq : (o.asgK k).queue with
   | nil => unfold Os.asg1; rw [hq]; exact a
   | cons x q => rw [asg1_cons hq]; exact a
theorem FrO.dlv {o o' : Os} {ms : List Mg} (h : FrO o) (d : Dlv o ms o') : FrO o' := by
 induction d with
 | nil => exact h
 | snoc _ hn ih =>
   obtain ⟨-, x, d, -, -, -, rfl⟩ := next_facts hn
   exact ih
theorem FrO.new (id : Vd) (mem : List Nat) (self win : Nat) : FrO (Os.new id mem self win) := Nat.zero_le _
def OPF (T : Nat) (w : World) (K : Nat → Nat) (r b : Nat) (o : Os) (w' : World) : Prop := ∃ K', RO T w' K' r b o ∧ Ro (inF r) K K' w w' ∧ ∀ y, w'.heap.size ≤ y → K' y = 0
section
variable {K K' : Nat → Nat} {w w' : World} {r b T : Nat} {f : Rf} {X : RfX} {o : Os}
theorem RefAt.opf (A : RefAt w' K' r b f X) (hp : PosOk f X) (h : Sim T o f) (F : FrO o) (q : Ro (inF r) K K' w w') : OPF T w K r b o w' := ⟨K', ⟨f, X, A, hp, h, F⟩, q, A.kz⟩
theorem OPF.trans {w1 : World} (q : Ro (inF r) K K' w w1) (p : OPF T w1 K' r b o w') : OPF T w K r b o w' := by
 obtain ⟨K2, a, q2, kz⟩ := p
 exact ⟨K2, a, q.trans q2, kz⟩
end
end Go.Proofs.YtoilipfgimcoiaaGreat
