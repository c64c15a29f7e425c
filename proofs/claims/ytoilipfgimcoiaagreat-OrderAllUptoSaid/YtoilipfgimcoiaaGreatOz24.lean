/- SzL SzN, joined. -/
import Derived.Test.YtoilipfgimcoiaaGreatOz14
import Derived.Test.YtoilipfgimcoiaaGreatOz15
set_option linter.unusedVariables false
set_option linter.unusedSimpArgs false
namespace Go.Proofs.YtoilipfgimcoiaaGreat
open Go Go.RowKit
section
variable {K K' : Nat → Nat} {w w' : World} {r b T : Nat} {f : Rf} {X : RfX} {o : Os}
theorem Sim.send (h : Sim T o f) (hq : o.send = o.send) {body : List Int} (hbl : body.length ≤ 256) : Sim (T + 1) (o.keep ⟨o.self, o.taken o.self + 1, o.pre, body⟩) (f.come ⟨o.self, o.taken o.self + 1, o.pre, body⟩) :=
 (h.more (T' := T + 1) (by omega)).keep (by show o.self ∈ f.mem; rw [h.self]; exact h.sf) rfl hbl (by have := h.T1; omega)
set_option maxRecDepth 100000 in
set_option maxHeartbeats 8000000 in
theorem rsend_any (A : RefAt w K r b f X) (hp : PosOk f X) (h : Sim T o f) (F : FrO o) (hT : T + 1 ≤ 100000) (body : List Int) {B : Option Addr} {cB nB : Nat} (hnB : body.length = nB) (hB : RowAt w w.heap.size 1 eByte B body) :
   Calls Tryz.prog 41 #[.pointer (some ⟨b, 0, none⟩), .slice B nB cB] w fun e w' => ∃ A' c', e = .returned (.tuple #[.agg (dtA (o.send body).1 A' c' (o.send body).1.b.length), .int .i64 (o.send body).2.1]) ∧ RowAt w' w'.heap.size 1 eByte A' (o.send body).1.b ∧ OPF (T + 1) w K r b (o.send body).2.2 w' := by
 subst hnB
 refine calls_vc tab_ok Tryz.func41 rfl ?_
 have r0 := A.r0
 have hbz := A.hb
 have t1 := h.T1
 have t2 := h.T2
 have hfrz := h.frz
 conv => whnf
 refine .mk _ run_zero71 ?_
 conv => whnf
 refine .mk fun wA hwA => ?_
 have bA : Below w.heap.size w wA := by rw [hwA.out]; exact below_box1 _ _ _
 have zA : wA.heap.size = w.heap.size + 1 := by rw [hwA.out]; simp
 have tA : wA.there w.heap.size 0 4 := by rw [hwA.out]; exact there_new w _ _
 clear hwA
 have AA := A.below bA
 -- an answer with an error
 have bad : ∀ (e : Int) (x : World), Below w.heap.size w x → o.send body = (dt0, e, o) → ∃ A' c', Ending.returned (.tuple #[.agg (dtA dt0 none 0 0), .int .i64 e]) = .returned (.tuple #[.agg (dtA (o.send body).1 A' c' (o.send body).1.b.length), .int .i64 (o.send body).2.1]) ∧ RowAt x x.heap.size 1 eByte A' (o.send body).1.b ∧ OPF (T + 1) w K r b (o.send body).2.2 x := fun e x hx hs => by
   rw [hs]
   exact ⟨none, 0, rfl, fun hl => absurd hl (by simp [dt0]), (A.below hx).opf hp (h.more (by omega)) F (.below hx)⟩
 have setb : ∀ x, Below wA.heap.size wA x → ∀ x', Hid (x' = x.setCells w.heap.size 0 (dtA dt0 none 0 0).toList) → Below w.heap.size w x' ∧ x'.rangeAt w.heap.size 0 (dtA dt0 none 0 0).toList := fun x hx x' hx' => by
   have tx := there_same tA (hx.block _ (by omega))
   exact ⟨by rw [hx'.out]; exact (bA.trans (hx.mono (by omega))).grown (grown_sets _ _ _ _) (by have := hx.size; omega) (fun k hk => by injection hk with hk; omega), by rw [hx'.out]; exact rng_in tx (by simp)⟩
 by_cases hbl : 256 < body.length
 · repeat ((conv => whnf); first | refine Xt ?_ | refine Xq ?_ | refine Xn ?_ | refine Xj ?_ | refine Xo ?_); try (conv => whnf)
   refine VBuild.mk _ (fun W' => build71z W') ?_
   repeat ((conv => whnf); first | refine Xt ?_ | refine Xq ?_ | refine Xn ?_ | refine Xj ?_ | refine Xo ?_); try (conv => whnf)
   refine VStore.mid (c := dtA dt0 none 0 0) tA (by kernel_rfl) (one_dtA _ _ _ _) fun x1 hx1 => ?_
   obtain ⟨b1, o1⟩ := setb wA (Below.refl _ _) x1 hx1
   have LR : Ld Tryz.prog 44 w.heap.size 0 (Eq x1) (.agg (dtA dt0 none 0 0)) := .of (load_agg (by kernel_rfl) (by kernel_rfl) o1)
   repeat ((conv => whnf); first | refine Xl LR ?_ | refine Xt ?_ | refine Xq ?_ | refine Xn ?_ | refine Xj ?_ | refine Xo ?_); try (conv => whnf)
   exact .mk (bad 1 x1 b1 (by unfold Os.send; rw [if_pos (by omega)]))
 have L0 := AA.l_stop (l := [b]) (by simp)
 rw [← hfrz] at L0
 cases hf : o.frz with
 | true =>
   rw [hf] at L0
   repeat ((conv => whnf); first | refine Xl (L0.at (Sm.refl _ _)) ?_ | refine Xt ?_ | refine Xq ?_ | refine Xn ?_ | refine Xj ?_ | refine Xo ?_); try (conv => whnf)
   refine VBuild.mk _ (fun W' => build71z W') ?_
   repeat ((conv => whnf); first | refine Xt ?_ | refine Xq ?_ | refine Xn ?_ | refine Xj ?_ | refine Xo ?_); try (conv => whnf)
   refine VStore.mid (c := dtA dt0 none 0 0) tA (by kernel_rfl) (one_dtA _ _ _ _) fun x1 hx1 => ?_
   obtain ⟨b1, o1⟩ := setb wA (Below.refl _ _) x1 hx1
   have LR : Ld Tryz.prog 44 w.heap.size 0 (Eq x1) (.agg (dtA dt0 none 0 0)) := .of (load_agg (by kernel_rfl) (by kernel_rfl) o1)
   repeat ((conv => whnf); first | refine Xl LR ?_ | refine Xt ?_ | refine Xq ?_ | refine Xn ?_ | refine Xj ?_ | refine Xo ?_); try (conv => whnf)
   exact .mk (bad 70 x1 b1 (by unfold Os.send; rw [if_neg (by omega), if_pos hf]))
 | false =>
   rw [hf] at L0
   repeat ((conv => whnf); first | refine Xl (L0.at (Sm.refl _ _)) ?_ | refine Xt ?_ | refine Xq ?_ | refine Xn ?_ | refine Xj ?_ | refine Xo ?_); try (conv => whnf)
   refine VCall.mk _ (rfree_any AA hp h (by omega)) ?_
   rintro _ x1 ⟨rfl, b1⟩
   refine ⟨_, rfl, ?_⟩
   have z1 := b1.size
   have t1' := there_same tA (b1.block _ (by omega))
   have bw1 : Below w.heap.size w x1 := bA.trans (b1.mono (by omega))
   have hz := F.zero
   by_cases hfr : o.free = 0
   · have hfr1 : o.free < 1 := hz.2 hfr
     repeat ((conv => whnf); first | refine Xt ?_ | refine Xq ?_ | refine Xn ?_ | refine Xj ?_ | refine Xo ?_); try (conv => whnf)
     refine VBuild.mk _ (fun W' => build71z W') ?_
     repeat ((conv => whnf); first | refine Xt ?_ | refine Xq ?_ | refine Xn ?_ | refine Xj ?_ | refine Xo ?_); try (conv => whnf)
     refine VStore.mid (c := dtA dt0 none 0 0) t1' (by kernel_rfl) (one_dtA _ _ _ _) fun x2 hx2 => ?_
     obtain ⟨b2, o2⟩ := setb x1 b1 x2 hx2
     have LR : Ld Tryz.prog 44 w.heap.size 0 (Eq x2) (.agg (dtA dt0 none 0 0)) := .of (load_agg (by kernel_rfl) (by kernel_rfl) o2)
     repeat ((conv => whnf); first | refine Xl LR ?_ | refine Xt ?_ | refine Xq ?_ | refine Xn ?_ | refine Xj ?_ | refine Xo ?_); try (conv => whnf)
     exact .mk (bad 71 x2 b2 (by unfold Os.send; rw [if_neg (by omega), if_neg (by rw [hf]; simp), if_pos hfr]))
   · have hfr1 : ¬ o.free < 1 := fun e => hfr (hz.1 e)
     have A1 := AA.below b1
     have M1 := A1.l_self (l := [b]) (by simp)
     have M3 := A1.l_known (l := [b]) (by simp)
     have hs1 : Sm [b] x1 x1.drew := fun _ _ => rfl
     have by0 : Below x1.heap.size x1 x1.drew := (Below.refl _ x1).drew
     have hl1 : ∀ g ∈ [b], g < x1.heap.size := fun g hg => by rw [List.mem_singleton.1 hg]; exact A1.hb
     have htk : (tkI f.came (f.self : Int) : Nat) = o.taken f.self := by rw [tkI_nat, h.tk]
     have htl : o.taken f.self ≤ T := by rw [h.tk]; have := cnt_le f.self f.C; have := C_len f; omega
     obtain ⟨d, hd⟩ : ∃ d : Dt, d = ⟨f.self, o.taken f.self + 1, f.known, body⟩ := ⟨_, rfl⟩
     have hd' : d = ⟨o.self, o.taken o.self + 1, o.pre, body⟩ := by rw [hd, h.self, h.pre]
     have hdb : d.b = body := by rw [hd]
     have hsend : o.send body = (d, 0, o.keep d) := by unfold Os.send; rw [if_neg (by omega), if_neg (by rw [hf]; simp), if_neg hfr, ← hd']
     have sim5 : Sim (T + 1) (o.keep d) (f.come d) := by rw [hd']; exact h.send rfl (by omega)
     have Fs : FrO (o.keep d) := F.keep fun _ => by rw [hd']; exact F.lt hf hfr
     repeat ((conv => whnf); first | refine Xt ?_ | refine Xq ?_ | refine Xn ?_ | refine Xj ?_ | refine Xo ?_); try (conv => whnf)
     refine VDraw.pl 1000 (.two [0, 1, 2, 3, 4, 5, 6, 7, 8, 11, 12, 13, 14, 15] 9 (.two [10] 16 (.one [17] 18 (.one [] 19 (.stop []))) 18 (.one [] 16 (.one [17] 19 (.stop [])))) 18 (.one [] 9 (.one [10] 16 (.one [17] 19 (.stop []))))) (Sm [b] x1) (by kernel_rfl) (hs1) ?_
     repeat ((conv => whnf); first | refine Xl M1 ?_ | refine Xl M3 ?_ | refine Xt ?_ | refine Xq ?_ | refine Xn ?_ | refine Xj ?_ | refine Xo ?_); try (conv => whnf)
     refine ⟨?_, ?_⟩
     · skip
       repeat ((conv => whnf); first | refine Xt ?_ | refine Xq ?_ | refine Xn ?_ | refine Xj ?_ | refine Xo ?_); try (conv => whnf)
       refine VCall.mk _ (rtaken_any (A.below (bw1.trans (Below.mono by0 bw1.size))) f.self (by omega)) ?_
       rintro _ _ ⟨e9, ew9⟩
       subst e9 ew9
       refine ⟨_, rfl, ?_⟩
       rw [htk]
       repeat ((conv => whnf); first | (refine VS.mk hs1 ?_) | refine Xt ?_ | refine Xq ?_ | refine Xn ?_ | refine Xj ?_ | refine Xo ?_); try (conv => whnf)
       refine ⟨?_, ?_⟩
       · skip
         repeat ((conv => whnf); first | refine Xt ?_ | refine Xq ?_ | refine Xn ?_ | refine Xj ?_ | refine Xo ?_); try (conv => whnf)
         refine VCall.mk _ (copied_any B cB _ body _ rfl ((((hB.below bw1 (Nat.le_refl _)).more bw1.size).below by0 (Nat.le_refl _)).more (Below.size by0)) (by omega)) ?_
         rintro _ y1 ⟨B', cB', rfl, nB1, c1⟩
         refine ⟨_, rfl, ?_⟩
         have by1 : Below x1.heap.size x1 y1 := Below.trans by0 (Below.mono c1 (Below.size by0))
         have sy1 : Sm [b] x1 y1 := .below by1 hl1
         have nB : NewO y1 x1.heap.size 1 eByte B' cB' body := nB1.less (Below.size by0)
         repeat ((conv => whnf); first | (refine VS.mk sy1 ?_) | refine Xt ?_ | refine Xq ?_ | refine Xn ?_ | refine Xj ?_ | refine Xo ?_); try (conv => whnf)
         refine VBuild.mk (.agg (dtA d B' cB' d.b.length)) (fun W' => by rw [hd]; exact build71 W' f.self ((o.taken f.self : Int) + 1) f.known B' body.length cB') ?_
         repeat ((conv => whnf); first | refine Xt ?_ | refine Xq ?_ | refine Xn ?_ | refine Xj ?_ | refine Xo ?_); try (conv => whnf)
         refine .mk _ run_zero71 ?_
         conv => whnf
         refine .mk fun y2 hu2 => ?_
         obtain ⟨bt, hbt0⟩ : ∃ bt, bt = (y1).heap.size := ⟨_, rfl⟩
         have cu2 : Below (y1).heap.size (y1) y2 := by rw [hu2.out]; exact (Below.refl _ _).alloc (Nat.le_refl _) _
         have zu2 : y2.heap.size = (y1).heap.size + 1 := by rw [hu2.out]; exact World.size_alloc _ _
         have tu2 : y2.there bt 0 4 := by rw [hu2.out, hbt0]; exact there_new _ _ _
         have by2 : Below x1.heap.size x1 y2 := Below.trans by1 (Below.mono cu2 (Below.size by1))
         have sy2 : Sm [b] x1 y2 := .below by2 hl1
         have zo2 := Below.size by1
         have hbt : x1.heap.size ≤ bt ∧ bt < y2.heap.size := by omega
         rw [← hbt0]
         have hne : ∀ g, blk B' = some g → g ≠ bt := fun g hg => by have := nB.lo' g hg; omega
         have nBb := nB.below cu2
         clear nB
         have nB := nBb
         clear hu2
         repeat ((conv => whnf); first | (refine VS.mk sy2 ?_) | refine Xt ?_ | refine Xq ?_ | refine Xn ?_ | refine Xj ?_ | refine Xo ?_); try (conv => whnf)
         obtain ⟨y3, hy3⟩ : ∃ y3, y3 = y2 := ⟨_, rfl⟩
         have by3 : Below x1.heap.size x1 y3 := by rw [hy3]; exact by2
         have t3 : y3.there bt 0 4 := by rw [hy3]; exact tu2
         have nB3 : NewO y3 x1.heap.size 1 eByte B' cB' d.b := by rw [hy3, hd]; exact nB
         clear nB
         have nB := nB3
         have hbt3 : bt < y3.heap.size := by rw [hy3]; omega
         rw [← hy3]
         refine VStore.mid (c := dtA d B' cB' d.b.length) t3 (by kernel_rfl) (one_dtA _ _ _ _) fun x4 hx4 => ?_
         have g4 : y3.grownBy x4 (some bt) := by rw [hx4.out]; exact grown_sets _ _ _ _
         have r4 : x4.rangeAt bt 0 (dtA d B' cB' d.b.length).toList := by rw [hx4.out]; exact rng_in t3 (by simp)
         clear hx4
         have z4 := g4.size
         have b14 : Below x1.heap.size x1 x4 := by3.grown g4 by3.size fun k hk => by injection hk with hk; omega
         have nB4 : NewO x4 x1.heap.size 1 eByte B' cB' d.b := nB.same z4 fun g hg => g4.block g (nB.lo' g hg).2 fun e => by injection e with e; exact hne g hg e
         have bw4 : Below w.heap.size w x4 := bw1.trans (b14.mono bw1.size)
         have A4 := A.below bw4
         have LD : Ld Tryz.prog 44 bt 0 (Eq x4) (.agg (dtA d B' cB' d.b.length)) := .of (load_agg (by kernel_rfl) (by kernel_rfl) r4)
         have s4 : Sm [b] x1 x4 := .below b14 hl1
         repeat ((conv => whnf); first | (refine VS.mk s4 ?_) | refine Xl LD ?_ | refine Xt ?_ | refine Xq ?_ | refine Xn ?_ | refine Xj ?_ | refine Xo ?_); try (conv => whnf)
         have kB : ∀ g, blk B' = some g → K g = 0 := fun g hg => A.kz _ (by have := nB4.lo' g hg; have := bw1.size; omega)
         refine VCall.mk _ (come_any A4 hp d (by omega) (by omega) (B := B') (cB := cB') rfl nB4.row (by rw [hdb]; omega)) ?_
         rintro _ x5 ⟨rfl, K5, X5, A5, hp5, q5⟩
         refine ⟨_, rfl, ?_⟩
         have q05 : Ro (inF r) K K5 w x5 := (Ro.below bw4).trans q5
         have z5 : x4.heap.size ≤ x5.heap.size := q5.size
         have kbt : K bt = 0 := A.kz _ (by have := bw1.size; omega)
         have r5 := range_same r4 (q5.same bt (by omega) (by rw [kbt]; unfold inF; omega))
         have LD5 : Ld Tryz.prog 44 bt 0 (Eq x5) (.agg (dtA d B' cB' d.b.length)) := .of (load_agg (by kernel_rfl) (by kernel_rfl) r5)
         have rB5 : RowK x5 K5 1 eByte B' d.b := (nB4.rowK (K := K) (fun y hy => A.kz y (by have := bw1.size; omega))).ro q5 (by unfold inF; omega)
         have ktr : K w.heap.size = 0 := A.kz _ (Nat.le_refl _)
         have t5 : x5.there w.heap.size 0 4 := there_sameO (there_same tA ((b14.block w.heap.size (by have := bA.size; have := b1.size; omega)).trans (b1.block w.heap.size (by omega)))) (q5.same w.heap.size (by have := bw4.size; have := bA.size; have := b14.size; have := b1.size; omega) (by rw [ktr]; unfold inF; omega))
         repeat ((conv => whnf); first | refine Xl LD5 ?_ | refine Xt ?_ | refine Xq ?_ | refine Xn ?_ | refine Xj ?_ | refine Xo ?_); try (conv => whnf)
         refine VStore.mid (c := dtA d B' cB' d.b.length) t5 (by kernel_rfl) (one_dtA _ _ _ _) fun x6 hx6 => ?_
         have g6 : x5.grownBy x6 (some w.heap.size) := by rw [hx6.out]; exact grown_sets _ _ _ _
         have r6 : x6.rangeAt w.heap.size 0 (dtA d B' cB' d.b.length).toList := by rw [hx6.out]; exact rng_in t5 (by simp)
         clear hx6
         have k5 : K5 w.heap.size = 0 := (q5.kk w.heap.size (by have := bw4.size; have := bA.size; have := b14.size; have := b1.size; omega)).trans ktr
         have q56 : Ro (· = 0) K5 K5 x5 x6 := Ro.grown g6 fun y hy => by injection hy with hy; rw [← hy]; exact k5
         have A6 := A5.ro q56 (fun y hy => A5.kz y (Nat.le_trans g6.size hy)) fun z hz => by unfold inFB at hz; omega
         have LR : Ld Tryz.prog 44 w.heap.size 0 (Eq x6) (.agg (dtA d B' cB' d.b.length)) := .of (load_agg (by kernel_rfl) (by kernel_rfl) r6)
         have q06 : Ro (inF r) K K5 w x6 := q05.own g6 (fun y hy => by injection hy with hy; omega) fun _ _ => rfl
         repeat ((conv => whnf); first | refine Xl LR ?_ | refine Xt ?_ | refine Xq ?_ | refine Xn ?_ | refine Xj ?_ | refine Xo ?_); try (conv => whnf)
         rw [hsend]
         refine .mk ⟨B', cB', rfl, ?_, A6.opf hp5 sim5 Fs q06⟩
         show RowAt x6 x6.heap.size 1 eByte B' d.b
         intro hl
         obtain ⟨g, off, e, hg1, hg2, hg3⟩ := rB5 hl
         refine ⟨g, off, e, Nat.lt_of_lt_of_le hg1 g6.size, fun k x hx j u hu => ?_⟩
         refine (World.cell?_of_block (a := ⟨g, _, none⟩) (g6.block g hg1 fun e2 => ?_)).trans (hg3 k x hx j u hu)
         have := nB4.lo' g (by rw [e]; rfl)
         injection e2 with e2
         have := bA.size; have := b1.size
         omega
       · skip
         repeat ((conv => whnf); first | refine Xt ?_ | refine Xq ?_ | refine Xn ?_ | refine Xj ?_ | refine Xo ?_); try (conv => whnf)
         refine .mk _ run_zero71 ?_
         conv => whnf
         refine .mk fun y1 hu1 => ?_
         obtain ⟨bt, hbt0⟩ : ∃ bt, bt = (x1.drew).heap.size := ⟨_, rfl⟩
         have cu1 : Below (x1.drew).heap.size (x1.drew) y1 := by rw [hu1.out]; exact (Below.refl _ _).alloc (Nat.le_refl _) _
         have zu1 : y1.heap.size = (x1.drew).heap.size + 1 := by rw [hu1.out]; exact World.size_alloc _ _
         have tu1 : y1.there bt 0 4 := by rw [hu1.out, hbt0]; exact there_new _ _ _
         have by1 : Below x1.heap.size x1 y1 := Below.trans by0 (Below.mono cu1 (Below.size by0))
         have sy1 : Sm [b] x1 y1 := .below by1 hl1
         have zo1 := Below.size by0
         have hbt : x1.heap.size ≤ bt ∧ bt < y1.heap.size := by omega
         rw [← hbt0]
         clear hu1
         repeat ((conv => whnf); first | (refine VS.mk sy1 ?_) | refine Xt ?_ | refine Xq ?_ | refine Xn ?_ | refine Xj ?_ | refine Xo ?_); try (conv => whnf)
         refine VCall.mk _ (copied_any B cB _ body _ rfl ((((hB.below bw1 (Nat.le_refl _)).more bw1.size).below by1 (Nat.le_refl _)).more (Below.size by1)) (by omega)) ?_
         rintro _ y2 ⟨B', cB', rfl, nB2, c2⟩
         refine ⟨_, rfl, ?_⟩
         have by2 : Below x1.heap.size x1 y2 := Below.trans by1 (Below.mono c2 (Below.size by1))
         have sy2 : Sm [b] x1 y2 := .below by2 hl1
         have tb2 := there_same tu1 (c2.block bt (by omega))
         have hne : ∀ g, blk B' = some g → g ≠ bt := fun g hg => by have := nB2.lo' g hg; omega
         have zb2 := c2.size
         have nB : NewO y2 x1.heap.size 1 eByte B' cB' body := nB2.less (Below.size by1)
         repeat ((conv => whnf); first | (refine VS.mk sy2 ?_) | refine Xt ?_ | refine Xq ?_ | refine Xn ?_ | refine Xj ?_ | refine Xo ?_); try (conv => whnf)
         refine VBuild.mk (.agg (dtA d B' cB' d.b.length)) (fun W' => by rw [hd]; exact build71 W' f.self ((o.taken f.self : Int) + 1) f.known B' body.length cB') ?_
         repeat ((conv => whnf); first | refine Xt ?_ | refine Xq ?_ | refine Xn ?_ | refine Xj ?_ | refine Xo ?_); try (conv => whnf)
         obtain ⟨y3, hy3⟩ : ∃ y3, y3 = y2 := ⟨_, rfl⟩
         have by3 : Below x1.heap.size x1 y3 := by rw [hy3]; exact by2
         have t3 : y3.there bt 0 4 := by rw [hy3]; exact tb2
         have nB3 : NewO y3 x1.heap.size 1 eByte B' cB' d.b := by rw [hy3, hd]; exact nB
         clear nB
         have nB := nB3
         have hbt3 : bt < y3.heap.size := by rw [hy3]; omega
         rw [← hy3]
         refine VStore.mid (c := dtA d B' cB' d.b.length) t3 (by kernel_rfl) (one_dtA _ _ _ _) fun x4 hx4 => ?_
         have g4 : y3.grownBy x4 (some bt) := by rw [hx4.out]; exact grown_sets _ _ _ _
         have r4 : x4.rangeAt bt 0 (dtA d B' cB' d.b.length).toList := by rw [hx4.out]; exact rng_in t3 (by simp)
         clear hx4
         have z4 := g4.size
         have b14 : Below x1.heap.size x1 x4 := by3.grown g4 by3.size fun k hk => by injection hk with hk; omega
         have nB4 : NewO x4 x1.heap.size 1 eByte B' cB' d.b := nB.same z4 fun g hg => g4.block g (nB.lo' g hg).2 fun e => by injection e with e; exact hne g hg e
         have bw4 : Below w.heap.size w x4 := bw1.trans (b14.mono bw1.size)
         have A4 := A.below bw4
         have LD : Ld Tryz.prog 44 bt 0 (Eq x4) (.agg (dtA d B' cB' d.b.length)) := .of (load_agg (by kernel_rfl) (by kernel_rfl) r4)
         have s4 : Sm [b] x1 x4 := .below b14 hl1
         repeat ((conv => whnf); first | (refine VS.mk s4 ?_) | refine Xl LD ?_ | refine Xt ?_ | refine Xq ?_ | refine Xn ?_ | refine Xj ?_ | refine Xo ?_); try (conv => whnf)
         have kB : ∀ g, blk B' = some g → K g = 0 := fun g hg => A.kz _ (by have := nB4.lo' g hg; have := bw1.size; omega)
         refine VCall.mk _ (come_any A4 hp d (by omega) (by omega) (B := B') (cB := cB') rfl nB4.row (by rw [hdb]; omega)) ?_
         rintro _ x5 ⟨rfl, K5, X5, A5, hp5, q5⟩
         refine ⟨_, rfl, ?_⟩
         have q05 : Ro (inF r) K K5 w x5 := (Ro.below bw4).trans q5
         have z5 : x4.heap.size ≤ x5.heap.size := q5.size
         have kbt : K bt = 0 := A.kz _ (by have := bw1.size; omega)
         have r5 := range_same r4 (q5.same bt (by omega) (by rw [kbt]; unfold inF; omega))
         have LD5 : Ld Tryz.prog 44 bt 0 (Eq x5) (.agg (dtA d B' cB' d.b.length)) := .of (load_agg (by kernel_rfl) (by kernel_rfl) r5)
         have rB5 : RowK x5 K5 1 eByte B' d.b := (nB4.rowK (K := K) (fun y hy => A.kz y (by have := bw1.size; omega))).ro q5 (by unfold inF; omega)
         have ktr : K w.heap.size = 0 := A.kz _ (Nat.le_refl _)
         have t5 : x5.there w.heap.size 0 4 := there_sameO (there_same tA ((b14.block w.heap.size (by have := bA.size; have := b1.size; omega)).trans (b1.block w.heap.size (by omega)))) (q5.same w.heap.size (by have := bw4.size; have := bA.size; have := b14.size; have := b1.size; omega) (by rw [ktr]; unfold inF; omega))
         repeat ((conv => whnf); first | refine Xl LD5 ?_ | refine Xt ?_ | refine Xq ?_ | refine Xn ?_ | refine Xj ?_ | refine Xo ?_); try (conv => whnf)
         refine VStore.mid (c := dtA d B' cB' d.b.length) t5 (by kernel_rfl) (one_dtA _ _ _ _) fun x6 hx6 => ?_
         have g6 : x5.grownBy x6 (some w.heap.size) := by rw [hx6.out]; exact grown_sets _ _ _ _
         have r6 : x6.rangeAt w.heap.size 0 (dtA d B' cB' d.b.length).toList := by rw [hx6.out]; exact rng_in t5 (by simp)
         clear hx6
         have k5 : K5 w.heap.size = 0 := (q5.kk w.heap.size (by have := bw4.size; have := bA.size; have := b14.size; have := b1.size; omega)).trans ktr
         have q56 : Ro (· = 0) K5 K5 x5 x6 := Ro.grown g6 fun y hy => by injection hy with hy; rw [← hy]; exact k5
         have A6 := A5.ro q56 (fun y hy => A5.kz y (Nat.le_trans g6.size hy)) fun z hz => by unfold inFB at hz; omega
         have LR : Ld Tryz.prog 44 w.heap.size 0 (Eq x6) (.agg (dtA d B' cB' d.b.length)) := .of (load_agg (by kernel_rfl) (by kernel_rfl) r6)
         have q06 : Ro (inF r) K K5 w x6 := q05.own g6 (fun y hy => by injection hy with hy; omega) fun _ _ => rfl
         repeat ((conv => whnf); first | refine Xl LR ?_ | refine Xt ?_ | refine Xq ?_ | refine Xn ?_ | refine Xj ?_ | refine Xo ?_); try (conv => whnf)
         rw [hsend]
         refine .mk ⟨B', cB', rfl, ?_, A6.opf hp5 sim5 Fs q06⟩
         show RowAt x6 x6.heap.size 1 eByte B' d.b
         intro hl
         obtain ⟨g, off, e, hg1, hg2, hg3⟩ := rB5 hl
         refine ⟨g, off, e, Nat.lt_of_lt_of_le hg1 g6.size, fun k x hx j u hu => ?_⟩
         refine (World.cell?_of_block (a := ⟨g, _, none⟩) (g6.block g hg1 fun e2 => ?_)).trans (hg3 k x hx j u hu)
         have := nB4.lo' g (by rw [e]; rfl)
         injection e2 with e2
         have := bA.size; have := b1.size
         omega
     · skip
       repeat ((conv => whnf); first | refine Xt ?_ | refine Xq ?_ | refine Xn ?_ | refine Xj ?_ | refine Xo ?_); try (conv => whnf)
       refine .mk _ run_zero71 ?_
       conv => whnf
       refine .mk fun y1 hu1 => ?_
       obtain ⟨bt, hbt0⟩ : ∃ bt, bt = (x1.drew).heap.size := ⟨_, rfl⟩
       have cu1 : Below (x1.drew).heap.size (x1.drew) y1 := by rw [hu1.out]; exact (Below.refl _ _).alloc (Nat.le_refl _) _
       have zu1 : y1.heap.size = (x1.drew).heap.size + 1 := by rw [hu1.out]; exact World.size_alloc _ _
       have tu1 : y1.there bt 0 4 := by rw [hu1.out, hbt0]; exact there_new _ _ _
       have by1 : Below x1.heap.size x1 y1 := Below.trans by0 (Below.mono cu1 (Below.size by0))
       have sy1 : Sm [b] x1 y1 := .below by1 hl1
       have zo1 := Below.size by0
       have hbt : x1.heap.size ≤ bt ∧ bt < y1.heap.size := by omega
       rw [← hbt0]
       clear hu1
       repeat ((conv => whnf); first | (refine VS.mk sy1 ?_) | refine Xt ?_ | refine Xq ?_ | refine Xn ?_ | refine Xj ?_ | refine Xo ?_); try (conv => whnf)
       refine VCall.mk _ (rtaken_any (A.below (bw1.trans (Below.mono by1 bw1.size))) f.self (by omega)) ?_
       rintro _ _ ⟨e9, ew9⟩
       subst e9 ew9
       refine ⟨_, rfl, ?_⟩
       rw [htk]
       repeat ((conv => whnf); first | (refine VS.mk sy1 ?_) | refine Xt ?_ | refine Xq ?_ | refine Xn ?_ | refine Xj ?_ | refine Xo ?_); try (conv => whnf)
       refine VCall.mk _ (copied_any B cB _ body _ rfl ((((hB.below bw1 (Nat.le_refl _)).more bw1.size).below by1 (Nat.le_refl _)).more (Below.size by1)) (by omega)) ?_
       rintro _ y2 ⟨B', cB', rfl, nB2, c2⟩
       refine ⟨_, rfl, ?_⟩
       have by2 : Below x1.heap.size x1 y2 := Below.trans by1 (Below.mono c2 (Below.size by1))
       have sy2 : Sm [b] x1 y2 := .below by2 hl1
       have tb2 := there_same tu1 (c2.block bt (by omega))
       have hne : ∀ g, blk B' = some g → g ≠ bt := fun g hg => by have := nB2.lo' g hg; omega
       have zb2 := c2.size
       have nB : NewO y2 x1.heap.size 1 eByte B' cB' body := nB2.less (Below.size by1)
       repeat ((conv => whnf); first | (refine VS.mk sy2 ?_) | refine Xt ?_ | refine Xq ?_ | refine Xn ?_ | refine Xj ?_ | refine Xo ?_); try (conv => whnf)
       refine VBuild.mk (.agg (dtA d B' cB' d.b.length)) (fun W' => by rw [hd]; exact build71 W' f.self ((o.taken f.self : Int) + 1) f.known B' body.length cB') ?_
       repeat ((conv => whnf); first | refine Xt ?_ | refine Xq ?_ | refine Xn ?_ | refine Xj ?_ | refine Xo ?_); try (conv => whnf)
       obtain ⟨y3, hy3⟩ : ∃ y3, y3 = y2 := ⟨_, rfl⟩
       have by3 : Below x1.heap.size x1 y3 := by rw [hy3]; exact by2
       have t3 : y3.there bt 0 4 := by rw [hy3]; exact tb2
       have nB3 : NewO y3 x1.heap.size 1 eByte B' cB' d.b := by rw [hy3, hd]; exact nB
       clear nB
       have nB := nB3
       have hbt3 : bt < y3.heap.size := by rw [hy3]; omega
       rw [← hy3]
       refine VStore.mid (c := dtA d B' cB' d.b.length) t3 (by kernel_rfl) (one_dtA _ _ _ _) fun x4 hx4 => ?_
       have g4 : y3.grownBy x4 (some bt) := by rw [hx4.out]; exact grown_sets _ _ _ _
       have r4 : x4.rangeAt bt 0 (dtA d B' cB' d.b.length).toList := by rw [hx4.out]; exact rng_in t3 (by simp)
       clear hx4
       have z4 := g4.size
       have b14 : Below x1.heap.size x1 x4 := by3.grown g4 by3.size fun k hk => by injection hk with hk; omega
       have nB4 : NewO x4 x1.heap.size 1 eByte B' cB' d.b := nB.same z4 fun g hg => g4.block g (nB.lo' g hg).2 fun e => by injection e with e; exact hne g hg e
       have bw4 : Below w.heap.size w x4 := bw1.trans (b14.mono bw1.size)
       have A4 := A.below bw4
       have LD : Ld Tryz.prog 44 bt 0 (Eq x4) (.agg (dtA d B' cB' d.b.length)) := .of (load_agg (by kernel_rfl) (by kernel_rfl) r4)
       have s4 : Sm [b] x1 x4 := .below b14 hl1
       repeat ((conv => whnf); first | (refine VS.mk s4 ?_) | refine Xl LD ?_ | refine Xt ?_ | refine Xq ?_ | refine Xn ?_ | refine Xj ?_ | refine Xo ?_); try (conv => whnf)
       have kB : ∀ g, blk B' = some g → K g = 0 := fun g hg => A.kz _ (by have := nB4.lo' g hg; have := bw1.size; omega)
       refine VCall.mk _ (come_any A4 hp d (by omega) (by omega) (B := B') (cB := cB') rfl nB4.row (by rw [hdb]; omega)) ?_
       rintro _ x5 ⟨rfl, K5, X5, A5, hp5, q5⟩
       refine ⟨_, rfl, ?_⟩
       have q05 : Ro (inF r) K K5 w x5 := (Ro.below bw4).trans q5
       have z5 : x4.heap.size ≤ x5.heap.size := q5.size
       have kbt : K bt = 0 := A.kz _ (by have := bw1.size; omega)
       have r5 := range_same r4 (q5.same bt (by omega) (by rw [kbt]; unfold inF; omega))
       have LD5 : Ld Tryz.prog 44 bt 0 (Eq x5) (.agg (dtA d B' cB' d.b.length)) := .of (load_agg (by kernel_rfl) (by kernel_rfl) r5)
       have rB5 : RowK x5 K5 1 eByte B' d.b := (nB4.rowK (K := K) (fun y hy => A.kz y (by have := bw1.size; omega))).ro q5 (by unfold inF; omega)
       have ktr : K w.heap.size = 0 := A.kz _ (Nat.le_refl _)
       have t5 : x5.there w.heap.size 0 4 := there_sameO (there_same tA ((b14.block w.heap.size (by have := bA.size; have := b1.size; omega)).trans (b1.block w.heap.size (by omega)))) (q5.same w.heap.size (by have := bw4.size; have := bA.size; have := b14.size; have := b1.size; omega) (by rw [ktr]; unfold inF; omega))
       repeat ((conv => whnf); first | refine Xl LD5 ?_ | refine Xt ?_ | refine Xq ?_ | refine Xn ?_ | refine Xj ?_ | refine Xo ?_); try (conv => whnf)
       refine VStore.mid (c := dtA d B' cB' d.b.length) t5 (by kernel_rfl) (one_dtA _ _ _ _) fun x6 hx6 => ?_
       have g6 : x5.grownBy x6 (some w.heap.size) := by rw [hx6.out]; exact grown_sets _ _ _ _
       have r6 : x6.rangeAt w.heap.size 0 (dtA d B' cB' d.b.length).toList := by rw [hx6.out]; exact rng_in t5 (by simp)
       clear hx6
       have k5 : K5 w.heap.size = 0 := (q5.kk w.heap.size (by have := bw4.size; have := bA.size; have := b14.size; have := b1.size; omega)).trans ktr
       have q56 : Ro (· = 0) K5 K5 x5 x6 := Ro.grown g6 fun y hy => by injection hy with hy; rw [← hy]; exact k5
       have A6 := A5.ro q56 (fun y hy => A5.kz y (Nat.le_trans g6.size hy)) fun z hz => by unfold inFB at hz; omega
       have LR : Ld Tryz.prog 44 w.heap.size 0 (Eq x6) (.agg (dtA d B' cB' d.b.length)) := .of (load_agg (by kernel_rfl) (by kernel_rfl) r6)
       have q06 : Ro (inF r) K K5 w x6 := q05.own g6 (fun y hy => by injection hy with hy; omega) fun _ _ => rfl
       repeat ((conv => whnf); first | refine Xl LR ?_ | refine Xt ?_ | refine Xq ?_ | refine Xn ?_ | refine Xj ?_ | refine Xo ?_); try (conv => whnf)
       rw [hsend]
       refine .mk ⟨B', cB', rfl, ?_, A6.opf hp5 sim5 Fs q06⟩
       show RowAt x6 x6.heap.size 1 eByte B' d.b
       intro hl
       obtain ⟨g, off, e, hg1, hg2, hg3⟩ := rB5 hl
       refine ⟨g, off, e, Nat.lt_of_lt_of_le hg1 g6.size, fun k x hx j u hu => ?_⟩
       refine (World.cell?_of_block (a := ⟨g, _, none⟩) (g6.block g hg1 fun e2 => ?_)).trans (hg3 k x hx j u hu)
       have := nB4.lo' g (by rw [e]; rfl)
       injection e2 with e2
       have := bA.size; have := b1.size
       omega
end
end Go.Proofs.YtoilipfgimcoiaaGreat
namespace Go.Proofs.YtoilipfgimcoiaaGreat
open Go Go.RowKit
section
variable {K K' : Nat → Nat} {w w' : World} {r b T : Nat} {f : Rf} {X : RfX} {o : Os}
theorem atI_cases (f : Rf) (p : Nat) : (atI f (p : Int) = -1 ∧ ∀ d ∈ f.came, psn f.slots d.sl ≠ p) ∨ ∃ (i : Nat) (d : Dt), atI f (p : Int) = (i : Int) ∧ f.came[i]? = some d ∧ psn f.slots d.sl = p := by
 unfold atI
 cases h : f.came.findIdx? (fun d => decide ((psn f.slots d.sl : Int) = (p : Int))) with
 | none =>
   left
   refine ⟨rfl, fun d hd e => ?_⟩
   have := List.findIdx?_eq_none_iff.1 h d hd
   exact of_decide_eq_false this (by rw [e])
 | some i =>
   right
   obtain ⟨hi, h1, -⟩ := List.findIdx?_eq_some_iff_getElem.1 h
   exact ⟨i, f.came[i], rfl, List.getElem?_eq_getElem hi, by have := of_decide_eq_true h1; omega⟩
structure DwI (T : Nat) (w : World) (K : Nat → Nat) (r b p : Nat) (o : Os) (f : Rf) (n : Int) (A : Option Addr) (c : Nat) (xs : List MgX) (o1 : Os) (f1 : Rf) (X1 : RfX) (Kk : Nat → Nat) (W : World) : Prop where
 ra : RefAt W Kk r b f1 X1
 po : PosOk f1 X1
 si : Sim T o1 f1
 dl : Dlv o (xs.map (·.m)) o1
 ca : f1.came = f.came
 hs : f1.slots = f.slots
 st : f1.stop = f.stop
 le : (xs.length : Int) ≤ n
 ow : OwnO W Kk p 4 eMg A c xs
 bo : ∀ x ∈ xs, RowK W Kk 1 eByte x.A x.m.b
 ro : Ro (fun z => inF r z ∨ z = p) K Kk w W
set_option maxRecDepth 100000 in
set_option maxHeartbeats 8000000 in
theorem rdeliver_any (A : RefAt w K r b f X) (hp : PosOk f X) (h : Sim T o f) (F : FrO o) (hT : T ≤ 100000) (n : Int) :
   Calls Tryz.prog 51 #[.pointer (some ⟨b, 0, none⟩), .int .i64 n] w fun e w' => ∃ ms o' xs A' c', e = .returned (.slice A' ms.length c') ∧ DvAns o n ms o' ∧ RowAt w' w'.heap.size 4 eMg A' xs ∧ xs.map (·.m) = ms ∧ (∀ x ∈ xs, RowAt w' w'.heap.size 1 eByte x.A x.m.b) ∧ OPF T w K r b o' w' := by
 refine calls_vc tab_ok Tryz.func51 rfl ?_
 have hbz := A.hb
 have r0 := A.r0
 have t1 := h.T1
 have t2 := h.T2
 have hfrz := h.frz
 have LF := A.l_stop (l := [b]) (by simp)
 have s0 := Sm.refl [b] w
 rw [← hfrz] at LF
 conv => whnf
 cases h1 : o.frz with
 | true =>
   rw [h1] at LF
   repeat ((conv => whnf); first | refine Xl (LF.at s0) ?_ | refine Xt ?_ | refine Xq ?_ | refine Xn ?_ | refine Xj ?_ | refine Xo ?_); try (conv => whnf)
   exact .mk ⟨[], o, [], none, 0, rfl, .inl ⟨.inl h1, rfl, rfl⟩, fun hl => absurd hl (by simp), rfl, fun x hx => (List.not_mem_nil hx).elim, A.opf hp h F (Ro.refl _ _ _)⟩
 | false =>
 rw [h1] at LF
 by_cases hn : n ≤ 0
 · have L9 := A.l_upto (l := [b]) (by simp)
   repeat ((conv => whnf); first | refine Xl (LF.at s0) ?_ | refine Xt ?_ | refine Xq ?_ | refine Xn ?_ | refine Xj ?_ | refine Xo ?_); try (conv => whnf)
   refine VLoop.mk Unit (fun _ => [(0, .pointer (some ⟨b, 0, none⟩)), (1, .int .i64 n), (5, .slice none 0 0)]) (fun _ W => W = w) (fun _ => 0) () ⟨rfl, rfl, rfl, trivial⟩ rfl ?_
   rintro _ W rfl
   repeat ((conv => whnf); first | refine Xt ?_ | refine Xq ?_ | refine Xn ?_ | refine Xj ?_ | refine Xo ?_); try (conv => whnf)
   exact .mk ⟨[], o, [], none, 0, rfl, .inl ⟨.inr hn, rfl, rfl⟩, fun hl => absurd hl (by simp), rfl, fun x hx => (List.not_mem_nil hx).elim, A.opf hp h F (Ro.refl _ _ _)⟩
 obtain ⟨p0, hp0⟩ := hiRole K w.heap.size A.kz
 obtain ⟨p, hpp⟩ : ∃ p, p = p0 + r + 7 := ⟨_, rfl⟩
 have hpK : ∀ y, K y ≠ p := fun y => by have := hp0 y; omega
 have hnp : ¬ inF r p := by unfold inF; omega
 repeat ((conv => whnf); first | refine Xl (LF.at s0) ?_ | refine Xt ?_ | refine Xq ?_ | refine Xn ?_ | refine Xj ?_ | refine Xo ?_); try (conv => whnf)
 have I0 : DwI T w K r b p o f n none 0 [] o f X K w := ⟨A, hp, h, .nil, rfl, rfl, rfl, (by show ((0 : Nat) : Int) ≤ n; omega), OwnO.nil _ _ _ _ _, fun x hx => (List.not_mem_nil hx).elim, Ro.refl _ _ _⟩
 refine VLoop.mk (Option Addr × Nat × List MgX) (fun u => [(0, .pointer (some ⟨b, 0, none⟩)), (1, .int .i64 n), (5, .slice u.1 u.2.2.length u.2.1)]) (fun u W => ∃ o1 f1 X1 Kk, DwI T w K r b p o f n u.1 u.2.1 u.2.2 o1 f1 X1 Kk W) (fun u => f.slots.length - f.upto - u.2.2.length) (none, 0, []) ⟨rfl, rfl, rfl, trivial⟩ ⟨o, f, X, K, I0⟩ ?_
 rintro ⟨A1, c1, xs⟩ W ⟨o1, f1, X1, Kk, I1⟩
 have I : DwI T w K r b p o f n A1 c1 xs o1 f1 X1 Kk W := I1
 clear I1
 dsimp only
 have hdn := I.dl.done
 rw [List.length_map, I.si.done, h.done] at hdn
 have hul := I.si.ul
 rw [I.hs] at hul
 -- the way out
 have fin : ((xs.length : Int) = n ∨ o1.next = none) → DvAns o n (xs.map (·.m)) (o1.rise o1.least) := fun hc => by
   refine .inr ⟨h1, by omega, o1, I.dl, ?_, I.si.dvI hT, rfl⟩
   rw [List.length_map]
   rcases hc with hc | hc
   · exact .inl hc
   · have := I.le
     by_cases e : (xs.length : Int) = n
     · exact .inl e
     · exact .inr ⟨by omega, hc⟩
 have hll := least_le o1
 have si9 := I.si.rise (n := o1.least) (by rw [← I.si.done]; exact hll)
 have F1 := F.dlv I.dl
 by_cases hlt : (xs.length : Int) < n
 case neg =>
   have ans := fin (.inl (by have := I.le; omega))
   repeat ((conv => whnf); first | refine Xt ?_ | refine Xq ?_ | refine Xn ?_ | refine Xj ?_ | refine Xo ?_); try (conv => whnf)
   refine VCall.mk _ (rleast_any I.ra I.si) ?_
   rintro _ w5 ⟨rfl, b5⟩
   refine ⟨_, rfl, ?_⟩
   repeat ((conv => whnf); first | refine Xt ?_ | refine Xq ?_ | refine Xn ?_ | refine Xj ?_ | refine Xo ?_); try (conv => whnf)
   refine VCall.mk _ (rrise_any (I.ra.below b5) o1.least) ?_
   rintro _ w6 ⟨rfl, A6, q6⟩
   refine ⟨_, rfl, ?_⟩
   repeat ((conv => whnf); first | refine Xt ?_ | refine Xq ?_ | refine Xn ?_ | refine Xj ?_ | refine Xo ?_); try (conv => whnf)
   have q56 : Ro (fun z => inF r z ∨ z = p) Kk Kk W w6 := (Ro.below b5).trans (q6.more fun z hz => .inl (by unfold inF; omega))
   have ow6 : OwnO w6 Kk p 4 eMg A1 c1 xs := (I.ow.ro (Ro.below (R := fun _ => False) b5) id).ro q6 (by omega)
   exact .mk ⟨_, _, xs, A1, c1, by rw [List.length_map]; rfl, ans, ow6.row, rfl, fun x hx => ((I.bo x hx).ro q56 (by unfold inF; omega)).row, A6.opf I.po si9 (F1.rise _) ((I.ro.trans q56).less fun y _ hn hq => hq.elim hn (hpK y))⟩
 have LU := I.ra.l_upto (l := [b]) (by simp)
 have sW := Sm.refl [b] W
 repeat ((conv => whnf); first | refine Xl (LU.at sW) ?_ | refine Xt ?_ | refine Xq ?_ | refine Xn ?_ | refine Xj ?_ | refine Xo ?_); try (conv => whnf)
 refine VCall.mk _ (rat_any I.ra I.po ((f1.upto + 1 : Nat) : Int) (by rw [I.ca]; omega)) ?_
 rintro _ _ ⟨rfl, rfl⟩
 refine ⟨_, rfl, ?_⟩
 rename_i W
 rcases atI_cases f1 (f1.upto + 1) with ⟨e1, hno⟩ | ⟨i, d, e1, hd, hpd⟩
 · rw [e1]
   have ans := fin (.inr (I.si.next_none fun x hx d hd e => hno d hd (by rw [e]; exact psn_at I.si.sq hx)))
   repeat ((conv => whnf); first | refine Xt ?_ | refine Xq ?_ | refine Xn ?_ | refine Xj ?_ | refine Xo ?_); try (conv => whnf)
   refine VCall.mk _ (rleast_any I.ra I.si) ?_
   rintro _ w5 ⟨rfl, b5⟩
   refine ⟨_, rfl, ?_⟩
   repeat ((conv => whnf); first | refine Xt ?_ | refine Xq ?_ | refine Xn ?_ | refine Xj ?_ | refine Xo ?_); try (conv => whnf)
   refine VCall.mk _ (rrise_any (I.ra.below b5) o1.least) ?_
   rintro _ w6 ⟨rfl, A6, q6⟩
   refine ⟨_, rfl, ?_⟩
   repeat ((conv => whnf); first | refine Xt ?_ | refine Xq ?_ | refine Xn ?_ | refine Xj ?_ | refine Xo ?_); try (conv => whnf)
   have q56 : Ro (fun z => inF r z ∨ z = p) Kk Kk W w6 := (Ro.below b5).trans (q6.more fun z hz => .inl (by unfold inF; omega))
   have ow6 : OwnO w6 Kk p 4 eMg A1 c1 xs := (I.ow.ro (Ro.below (R := fun _ => False) b5) id).ro q6 (by omega)
   exact .mk ⟨_, _, xs, A1, c1, by rw [List.length_map]; rfl, ans, ow6.row, rfl, fun x hx => ((I.bo x hx).ro q56 (by unfold inF; omega)).row, A6.opf I.po si9 (F1.rise _) ((I.ro.trans q56).less fun y _ hn hq => hq.elim hn (hpK y))⟩
 rw [e1]
 obtain ⟨hnx, si2⟩ := I.si.next (psn_get hpd) (List.mem_of_getElem? hd) rfl
 have hil := (List.getElem?_eq_some_iff.1 hd).1
 have hslu := (List.getElem?_eq_some_iff.1 (psn_get hpd)).1
 rw [I.hs] at hslu
 have hcl := I.ra.clen
 obtain ⟨x, hx⟩ : ∃ x, X1.cl[i]? = some x := ⟨_, List.getElem?_eq_getElem (by omega)⟩
 have hxd : x.d = d := by
   have : f1.came[i]? = some x.d := by rw [← I.ra.cv, List.getElem?_map, hx]; rfl
   rw [hd] at this
   injection this with this
   exact this.symm
 obtain ⟨ga, oa, eC, ga1, gak, -, ga4, ga5⟩ := I.ra.cr.get (by omega)
 have LC := I.ra.l_came (l := [b]) (by simp)
 rw [eC] at LC
 have LD : Ld Tryz.prog 44 ga (addO (oa + mulO i 5) 0) (Eq W) (.agg (dtA x.d x.A x.c x.d.b.length)) := .of (load_agg (cs := (dtA x.d x.A x.c x.d.b.length).toList) (by kernel_rfl) (by kernel_rfl) fun j u hu => by
   rw [show addO (oa + mulO i 5) 0 = oa + i * 5 by rw [mulO_eq]; rfl]
   exact ga5 i x hx j u (by
     have hj := (List.getElem?_eq_some_iff.1 hu).1
     have hj : j < 4 := hj
     match j, hj with
     | 0, _ => exact hu
     | 1, _ => exact hu
     | 2, _ => exact hu
     | 3, _ => exact hu))
 have sW := Sm.refl [b] W
 repeat ((conv => whnf); first | refine Xl (LC.at sW) ?_ | refine Xl LD ?_ | refine Xt ?_ | refine Xq ?_ | refine Xn ?_ | refine Xj ?_ | refine Xo ?_); try (conv => whnf)
 refine .mk _ run_zero71 ?_
 conv => whnf
 refine .mk fun u3 hu3 => ?_
 repeat ((conv => whnf); first | refine Xt ?_ | refine Xq ?_ | refine Xn ?_ | refine Xj ?_ | refine Xo ?_); try (conv => whnf)
 obtain ⟨bt, hbt⟩ : ∃ bt, bt = W.heap.size := ⟨_, rfl⟩
 refine VStore.new (c' := dtA x.d x.A x.c x.d.b.length) hu3 (by kernel_rfl) rfl (one_dtA _ _ _ _) fun w4 hw4 => ?_
 rw [← hbt]
 have b4 : Below W.heap.size W w4 := by rw [hw4.out]; exact (Below.refl _ _).alloc (Nat.le_refl _) _
 have z4 : w4.heap.size = W.heap.size + 1 := by rw [hw4.out]; exact World.size_alloc _ _
 have r4 : w4.rangeAt bt 0 (dtA x.d x.A x.c x.d.b.length).toList := by rw [hw4.out, hbt]; exact range_new W _ 44
 clear hw4 hu3
 clear u3
 have A4 := I.ra.below b4
 have LU4 := A4.l_upto (l := [b]) (by simp)
 have sw4 := Sm.refl [b] w4
 have T9 := A4.th 9 (by omega)
 repeat ((conv => whnf); first | refine Xl (LU4.at sw4) ?_ | refine Xt ?_ | refine Xq ?_ | refine Xn ?_ | refine Xj ?_ | refine Xo ?_); try (conv => whnf)
 refine VStore.cell (by kernel_rfl) (by have := T9.1; rwa [Nat.zero_add] at this) (by have := T9.2; rwa [Nat.zero_add] at this) rfl rfl fun w5 hw5 => ?_
 obtain ⟨A5, q5⟩ := A4.putc (j := 9) (v := .int .i64 ((f1.upto + 1 : Nat) : Int)) { f1 with upto := f1.upto + 1 } hw5.out (by omega) (by unfold cellsR; rfl) rfl rfl rfl rfl rfl
 clear hw5
 have z5 : w4.heap.size ≤ w5.heap.size := q5.size
 have kbt : Kk bt = 0 := I.ra.kz _ (by omega)
 have r5 := range_same r4 (q5.same bt (by omega) (by rw [kbt]; omega))
 have N1 := A5.l_upto (l := [b, bt]) (by simp)
 rw [show ({ f1 with upto := f1.upto + 1 } : Rf).upto = f1.upto + 1 from rfl] at N1
 have D0 : Ld Tryz.prog 3 bt 0 (Sm [b, bt] w5) (.int .i64 x.d.s) := ⟨fun W' hW => load3 (cell_sm (r5 0 _ rfl) (by simp) hW)⟩
 have D1 : Ld Tryz.prog 3 bt 1 (Sm [b, bt] w5) (.int .i64 x.d.q) := ⟨fun W' hW => load3 (cell_sm (r5 1 _ rfl) (by simp) hW)⟩
 have D3 : Ld Tryz.prog 42 bt 3 (Sm [b, bt] w5) (.slice x.A x.d.b.length x.c) := ⟨fun W' hW => load27 (cell_sm (r5 3 _ rfl) (by simp) hW)⟩
 have hl5 : ∀ y ∈ [b, bt], y < w5.heap.size ∧ Kk y ≠ p := fun y hy => by
   simp only [List.mem_cons, List.not_mem_nil, or_false] at hy
   rcases hy with rfl | rfl
   · exact ⟨A5.hb, by rw [A5.kb]; omega⟩
   · exact ⟨by omega, by rw [kbt]; omega⟩
 have s5 : Sm [b, bt] w5 w5.drew := fun _ _ => rfl
 have q05 : Ro (fun z => inF r z ∨ z = p) K Kk w w5 := (I.ro.trans (.below b4)).trans (q5.more fun z hz => .inl (by unfold inF; omega))
 have ow5 : OwnO w5 Kk p 4 eMg A1 c1 xs := (I.ow.ro (Ro.below (R := fun _ => False) b4) id).ro q5 (by omega)
 have bo5 : ∀ y ∈ xs, RowK w5 Kk 1 eByte y.A y.m.b := fun y hy => ((I.bo y hy).ro (Ro.below (R := fun _ => False) b4) id).ro q5 (by omega)
 have hbx : RowAt w5 w5.heap.size 1 eByte x.A x.d.b := (A5.cb x (List.mem_of_getElem? hx)).row
 have hbl : x.d.b.length ≤ 256 := I.si.bl x.d (by rw [hxd]; exact List.mem_of_getElem? hd)
 repeat ((conv => whnf); first | refine Xt ?_ | refine Xq ?_ | refine Xn ?_ | refine Xj ?_ | refine Xo ?_); try (conv => whnf)
 refine VDraw.pl 1000 (.one [0, 1, 2, 3, 4, 5, 6, 7, 8, 9, 10] 11 (.one [12] 13 (.one [] 14 (.stop [15])))) (Sm [b, bt] w5) (by kernel_rfl) (s5) ?_
 repeat ((conv => whnf); first | refine Xl N1 ?_ | refine Xl D0 ?_ | refine Xl D1 ?_ | refine Xl D3 ?_ | refine Xt ?_ | refine Xq ?_ | refine Xn ?_ | refine Xj ?_ | refine Xo ?_); try (conv => whnf)
 refine VCall.mk _ (copied_any x.A x.c _ x.d.b w5.drew rfl (hbx.below (Below.refl _ w5).drew (Nat.le_refl _)) (by omega)) ?_
 rintro _ w6 ⟨B', cB', rfl, nB, b6⟩
 refine ⟨_, rfl, ?_⟩
 have b56 : Below w5.heap.size w5 w6 := (Below.refl _ w5).drew.trans b6
 have s6 : Sm [b, bt] w5 w6 := .below b56 fun y hy => (hl5 y hy).1
 repeat ((conv => whnf); first | (refine VS.mk s6 ?_) | refine Xt ?_ | refine Xq ?_ | refine Xn ?_ | refine Xj ?_ | refine Xo ?_); try (conv => whnf)
 obtain ⟨m, hm⟩ : ∃ m : Mg, m = ⟨f1.upto + 1, x.d.s, x.d.q, x.d.b⟩ := ⟨_, rfl⟩
 refine VBuild.mk (.agg (mgA m B' cB' m.b.length)) (fun W' => by rw [hm]; exact build83 W' ((f1.upto + 1 : Nat) : Int) x.d.s x.d.q B' x.d.b.length cB') ?_
 repeat ((conv => whnf); first | refine Xt ?_ | refine Xq ?_ | refine Xn ?_ | refine Xj ?_ | refine Xo ?_); try (conv => whnf)
 refine VBs.mk _ _ (bs38 w6 m.p m.s m.q B' m.b.length cB') ?_
 have c7 : Below w6.heap.size w6 (w6.alloc (.cells (mgA m B' cB' m.b.length) 82)) := (Below.refl _ w6).alloc (Nat.le_refl _) _
 have hnc : ∀ j u, (eMg ⟨m, B', cB'⟩)[j]? = some u → (w6.alloc (.cells (mgA m B' cB' m.b.length) 82)).cell? ⟨w6.heap.size, j, none⟩ = some u := fun j u hu => by
   have := range_new w6 (mgA m B' cB' m.b.length) 82 j u hu
   rwa [Nat.zero_add] at this
 have hw7 : (w6.alloc (.cells (mgA m B' cB' m.b.length) 82)).heap.size = w6.heap.size + 1 := World.size_alloc _ _
 generalize w6.alloc (.cells (mgA m B' cB' m.b.length) 82) = w7 at c7 hnc hw7 ⊢
 have b57 := b56.trans (c7.mono b56.size)
 have A7 := A5.below b57
 have ow7 := ow5.ro (Ro.below (R := fun _ => False) b57) id
 have s7 : Sm [b, bt] w5 w7 := .below b57 fun y hy => (hl5 y hy).1
 repeat ((conv => whnf); first | (refine VS.mk s7 ?_) | refine Xt ?_ | refine Xq ?_ | refine Xn ?_ | refine Xj ?_ | refine Xo ?_); try (conv => whnf)
 refine VApp.off 4 48 _ Tryz.underlying59 info83 rfl (by decide) eMg (fun _ => rfl) one_eMg xs ⟨m, B', cB'⟩ rfl ow7 hnc A7.kz (by omega) (by omega) fun A8 c8 K8 w8 oA8 q8 kz8 => ?_
 have s8 : Sm [b, bt] w5 w8 := s7.trans fun y hy => q8.same y (by have := (hl5 y hy).1; have := b57.size; omega) (hl5 y hy).2
 have A8' := A7.ro (Q := (· = p)) q8 kz8 (fun z hz => by unfold inFB at hz; omega)
 have bo8 : ∀ y ∈ xs ++ [⟨m, B', cB'⟩], RowK w8 K8 1 eByte y.A y.m.b := fun y hy => by
   rcases List.mem_append.1 hy with hy | hy
   · exact ((bo5 y hy).ro (Ro.below (R := fun _ => False) b57) id).ro q8 (by omega)
   · rw [List.mem_singleton.1 hy]
     have : RowK w7 Kk 1 eByte B' x.d.b := ((nB.below c7).rowK (K := Kk) fun y hy => A5.kz y (by have : w5.drew.heap.size = w5.heap.size := rfl; omega))
     show RowK w8 K8 1 eByte B' m.b
     rw [hm]
     exact this.ro q8 (by omega)
 have hnx2 : o1.next = some (m, { o1 with done := o1.done + 1, mine := if d.sl.s = o1.self then o1.mine + 1 else o1.mine }) := by rw [hnx, hm, hxd]
 repeat ((conv => whnf); first | (refine VS.mk s8 ?_) | refine Xt ?_ | refine Xq ?_ | refine Xn ?_ | refine Xj ?_ | refine Xo ?_); try (conv => whnf)
 refine .mk (A8, c8, xs ++ [⟨m, B', cB'⟩]) ⟨rfl, rfl, ?_, trivial⟩ ⟨_, _, _, K8, ⟨A8', I.po, si2, by rw [List.map_append]; exact I.dl.snoc hnx2, I.ca, I.hs, I.st, by rw [List.length_append]; simp; omega, oA8, bo8, (q05.trans (.below b57)).trans (q8.more fun z hz => .inr hz)⟩⟩ (by show f.slots.length - f.upto - (xs ++ [_]).length < f.slots.length - f.upto - xs.length; rw [List.length_append]; simp; omega)
 show _ = some (Value.slice A8 (xs ++ [_]).length c8)
 rw [List.length_append]; rfl
end
end Go.Proofs.YtoilipfgimcoiaaGreat
