/- OdU OdV OdW OdX, joined. -/
import Derived.Test.YtoilipfgimcoiaaGreatOz7
import Derived.Test.YtoilipfgimcoiaaGreatOz9
set_option linter.unusedVariables false
set_option linter.unusedSimpArgs false
namespace Go.Proofs.YtoilipfgimcoiaaGreat
open Go Go.RowKit
theorem vc_seq {D : List Deferred} {n : Nat} {x y : Code} {fr : Fr} {a : Act} {w : World} {Q : Exit → Act → World → Prop} {K Kr : Fr → World → Prop} (hr : RepE D n fr a)
   (h : vcC tab Tryz.prog n x fr w fun e fr w => match e with | .normal => VDone (K fr w) | .ret => VDone (Kr fr w) | _ => False)
   (hk : ∀ fr' a' w', RepE D n fr' a' → K fr' w' → y.wp Tryz.prog Q a' w') (hret : ∀ fr' a' w', RepE D n fr' a' → Kr fr' w' → Q .ret a' w') : (Code.seq x y).wp Tryz.prog Q a w := by
 refine wp_seq (wp_mono (vcC_ok (tab_of tab_ok) x _ _ w _ h hr) fun e a' w' hq => ?_)
 obtain ⟨fr', hr', hq⟩ := hq
 cases e with
 | normal => exact hk _ _ _ hr' (by cases hq with | mk h => exact h)
 | ret => exact hret _ _ _ hr' (by cases hq with | mk h => exact h)
 | exit id => exact hq.elim
 | goto l => exact hq.elim
 | panic ch => exact hq.elim
 | outgrown => exact hq.elim
theorem enters54 (args : Array Value) (w : World) : (callFunc 91 args).run Tryz.prog w = .ok (.enter 91 args) w := by
 have h1 : (Tryz.f91.name == "runtime.NumGoroutine") = false := by kernel_rfl
 have h2 : Tryz.f91.body.isNone = false := by kernel_rfl
 simp only [callFunc, run_program, Tryz.func91, h1, h2, Sem.run_bind, Sem.run_pure, Result.andThen_ok, Bool.false_eq_true, if_false]
def DvAns (o : Os) (n : Int) (ms : List Mg) (o' : Os) : Prop := ((o.frz = true ∨ n ≤ 0) ∧ ms = [] ∧ o' = o) ∨ (o.frz = false ∧ 0 < n ∧ ∃ o1, Dlv o ms o1 ∧ ((ms.length : Int) = n ∨ ((ms.length : Int) < n ∧ o1.next = none)) ∧ DvI o1 ∧ o' = o1.rise o1.least)
section
variable {w w' : World} {K K' : Nat → Nat} {r b : Nat} {o : Os} {X : OsX}
set_option maxRecDepth 100000 in
set_option maxHeartbeats 8000000 in
theorem deliver_any (A : OrdAt w K r b o X) (I : DvI o) (hdk : o.done ≤ o.known) (n : Int) :
   Calls Tryz.prog 33 #[.pointer (some ⟨b, 0, none⟩), .int .i64 n] w fun e w' => ∃ ms o' xs A' c' K' X', e = .returned (.slice A' ms.length c') ∧ DvAns o n ms o' ∧ OrdAt w' K' r b o' X' ∧ Ro (inR r) K K' w w' ∧ NewO w' w.heap.size 4 eMg A' c' xs ∧ xs.map (·.m) = ms ∧ (∀ x ∈ xs, NewO w' w.heap.size 1 eByte x.A x.c x.m.b) ∧ Apart (A' :: xs.map (·.A)) ∧ ∀ a ∈ A' :: xs.map (·.A), ∀ g, blk a = some g → K' g = 0 := by
 refine calls_marks Tryz.func33 rfl ?_
 have r0 := A.r0
 have hbz := A.cs.hb
 obtain ⟨bn, hbn⟩ : ∃ bn, bn = w.heap.size := ⟨_, rfl⟩
 refine vc_seq (K := fun fr' w' => aget fr' 0 = some (.pointer (some ⟨b, 0, none⟩)) ∧ aget fr' 3 = some (.pointer (some ⟨bn, 0, none⟩)) ∧ Below w.heap.size w w' ∧ w'.heap.size = w.heap.size + 1 ∧ w'.cell? ⟨bn, 0, none⟩ = some (.int .i64 n)) (Kr := fun _ _ => False) (rep_init (args := [.pointer (some ⟨b, 0, none⟩), .int .i64 n]) (n := 31) (by kernel_rfl)) ?_ ?_ (fun _ _ _ _ h => h.elim)
 · conv => whnf
   refine .mk fun wA hwA => ?_
   conv => whnf
   refine .mk ⟨rfl, by rw [hbn]; rfl, by rw [hwA.out]; exact below_box1 _ _ _, by rw [hwA.out]; simp, ?_⟩
   rw [hwA.out, hbn]
   exact range_new w #[.int .i64 n] 3 0 _ rfl
 rintro fr1 a1 w1 hr1 ⟨f0, f3, b1, z1, cn1⟩
 have A1 := A.below b1
 have hr1' : RepE [] 31 [(0, .pointer (some ⟨b, 0, none⟩)), (3, .pointer (some ⟨bn, 0, none⟩))] a1 := hr1.agr ⟨f0, f3, trivial⟩
 clear hr1 f0 f3 fr1
 refine vc_seq (K := fun fr' w' => w' = w1 ∧ aget fr' 0 = some (.pointer (some ⟨b, 0, none⟩)) ∧ aget fr' 3 = some (.pointer (some ⟨bn, 0, none⟩)) ∧ o.frz = false ∧ 0 < n) (Kr := fun fr' w' => w' = w1 ∧ aget fr' 4 = some (.slice none 0 0) ∧ (o.frz = true ∨ n ≤ 0)) hr1' ?_ ?_ ?_
 · have L0 := A1.l_frz (l := [b]) (by simp)
   have L1 : Ld Tryz.prog 3 bn 0 (Eq w1) (.int .i64 n) := .of (load3 cn1)
   conv => whnf
   cases hf : o.frz with
   | true =>
     rw [hf] at L0
     repeat ((conv => whnf); first | refine Xl (L0.at (Sm.refl _ _)) ?_ | refine Xl L1 ?_ | refine Xt ?_ | refine Xq ?_ | refine Xn ?_ | refine Xj ?_ | refine Xo ?_); try (conv => whnf)
     exact .mk ⟨rfl, rfl, .inl rfl⟩
   | false =>
     rw [hf] at L0
     by_cases h0 : n ≤ 0
     · repeat ((conv => whnf); first | refine Xl (L0.at (Sm.refl _ _)) ?_ | refine Xl L1 ?_ | refine Xt ?_ | refine Xq ?_ | refine Xn ?_ | refine Xj ?_ | refine Xo ?_); try (conv => whnf)
       exact .mk ⟨rfl, rfl, .inr h0⟩
     · repeat ((conv => whnf); first | refine Xl (L0.at (Sm.refl _ _)) ?_ | refine Xl L1 ?_ | refine Xt ?_ | refine Xq ?_ | refine Xn ?_ | refine Xj ?_ | refine Xo ?_); try (conv => whnf)
       exact .mk ⟨rfl, rfl, rfl, rfl, by omega⟩
 rotate_left
 · rintro fr2 a2 w2 hr2 ⟨rfl, f4, hfn⟩
   refine leave_plain hr2 ?_
   show withV (aget fr2 4) _
   rw [f4]
   refine .mk ⟨[], o, [], none, 0, K, X, rfl, .inl ⟨hfn, rfl, rfl⟩, A1, .below b1, .nil _ _ _ _, rfl, (fun x hx => by cases hx), List.nodup_nil, fun a ha g hg => by rw [List.mem_singleton.1 ha] at hg; cases hg⟩
 rintro fr2 a2 w2 hr2 ⟨rfl, f0, f3, hfz, hn0⟩
 have hr2' : RepE [] 31 [(0, .pointer (some ⟨b, 0, none⟩)), (3, .pointer (some ⟨bn, 0, none⟩))] a2 := hr2.agr ⟨f0, f3, trivial⟩
 clear hr2 f0 f3 fr2 hr1'
 obtain ⟨bl, hbl⟩ : ∃ bl, bl = w2.heap.size := ⟨_, rfl⟩
 refine vc_seq (K := fun fr' w' => aget fr' 0 = some (.pointer (some ⟨b, 0, none⟩)) ∧ aget fr' 3 = some (.pointer (some ⟨bn, 0, none⟩)) ∧ aget fr' 5 = some (.pointer (some ⟨bl, 0, none⟩)) ∧ Below w2.heap.size w2 w' ∧ w'.heap.size = w2.heap.size + 1 ∧ w'.cell? ⟨bl, 0, none⟩ = some (.slice none 0 0) ∧ w'.frozen? ⟨bl, 0, none⟩ = false) (Kr := fun _ _ => False) hr2' ?_ ?_ (fun _ _ _ _ h => h.elim)
 · conv => whnf
   refine .mk _ run_zero38 ?_
   conv => whnf
   refine .mk fun wA hwA => ?_
   conv => whnf
   have t1 := there_new w2 #[.slice none 0 0] 59 0 (by simp)
   refine .mk ⟨rfl, rfl, by rw [hbl]; rfl, by rw [hwA.out]; exact below_box1 _ _ _, by rw [hwA.out]; simp, ?_, ?_⟩
   · rw [hwA.out, hbl]; exact range_new w2 #[.slice none 0 0] 59 0 _ rfl
   · rw [hwA.out, hbl]; exact t1.2
 rintro fr3 a3 w3 hr3 ⟨f0, f3, f5, b3, z3, cl3, fl3⟩
 have hr3' : RepE [] 31 [(0, .pointer (some ⟨b, 0, none⟩)), (3, .pointer (some ⟨bn, 0, none⟩)), (5, .pointer (some ⟨bl, 0, none⟩))] a3 := hr3.agr ⟨f0, f3, f5, trivial⟩
 clear hr3 f0 f3 f5 fr3 hr2'
 refine wp_seq ?_
 refine vc_seq (K := fun fr' w' => w' = w3 ∧ aget fr' 0 = some (.pointer (some ⟨b, 0, none⟩)) ∧ aget fr' 3 = some (.pointer (some ⟨bn, 0, none⟩)) ∧ aget fr' 5 = some (.pointer (some ⟨bl, 0, none⟩)) ∧ aget fr' 16 = some (.func (.func 91) #[.pointer (some ⟨b, 0, none⟩)] #[])) (Kr := fun _ _ => False) hr3' ?_ ?_ (fun _ _ _ _ h => h.elim)
 · conv => whnf
   exact .mk ⟨rfl, rfl, rfl, rfl, rfl⟩
 rintro fr4 a4 w4 hr4 ⟨rfl, f0, f3, f5, f16⟩
 have hg := hr4.ag (.tmp 16) _ f16
 have hr4' : RepE [] 31 [(0, .pointer (some ⟨b, 0, none⟩)), (3, .pointer (some ⟨bn, 0, none⟩)), (5, .pointer (some ⟨bl, 0, none⟩))] a4 := hr4.agr ⟨f0, f3, f5, trivial⟩
 clear hr4 f0 f3 f5 f16 fr4 hr3' a3 a1 a2
 refine wp_block (range_vc hg enters54 ?_)
 intro fn W0 hW0
 obtain ⟨N, hNn⟩ := Int.eq_ofNat_of_zero_le (show 0 ≤ n by omega)
 subst hNn
 obtain ⟨Db, hDb⟩ : ∃ Db, Db = w4.heap.size := ⟨_, rfl⟩
 obtain ⟨lp, hlp⟩ : ∃ lp, lp = w4.heap.size + 1 := ⟨_, rfl⟩
 obtain ⟨p0, hp0⟩ := hiRole K w.heap.size A.kz
 obtain ⟨p, hp⟩ : ∃ p, p = p0 + r + 5 := ⟨_, rfl⟩
 have hpr : r + 5 ≤ p := by omega
 have hlo : ∀ y, K y < p := fun y => by have := hp0 y; omega
 obtain ⟨K1, hK1⟩ : ∃ K1 : Nat → Nat, K1 = fun y => if y = bl then p else if y = lp then p + 2 else if y = Db then p + 3 else if y = bn then p + 5 else K y := ⟨_, rfl⟩
 have kO : ∀ y, y ≠ bl → y ≠ lp → y ≠ Db → y ≠ bn → K1 y = K y := fun y h1 h2 h3 h4 => by rw [hK1]; simp only [if_neg h1, if_neg h2, if_neg h3, if_neg h4]
 have kbl : K1 bl = p := by rw [hK1]; exact if_pos rfl
 have klp : K1 lp = p + 2 := by rw [hK1]; simp only [if_neg (show lp ≠ bl by omega), if_true]
 have kDb : K1 Db = p + 3 := by rw [hK1]; simp only [if_neg (show Db ≠ bl by omega), if_neg (show Db ≠ lp by omega), if_true]
 obtain ⟨q, q1, q2, q3, q4, q5, q6, hL0⟩ := rec_here hW0
 rw [← hlp] at hL0 ⊢
 have hsz0 : W0.heap.size = w4.heap.size + 2 := by rw [hW0.out]; simp
 have hb0 : Below w4.heap.size w4 W0 := by rw [hW0.out]; exact ((Below.refl _ w4).alloc (Nat.le_refl _) _).alloc (by simp) _
 have hD0 : W0.heap[Db]? = some (.deferred (some [])) := by
   rw [hW0.out, hDb]
   exact (Below.heap_alloc _ _ _ (by simp)).trans (World.alloc_heap_new w4 _)
 clear hW0
 have bw4 : Below w.heap.size w w4 := b1.trans (b3.mono b1.size)
 have bw0 : Below w.heap.size w W0 := bw4.trans (hb0.mono bw4.size)
 have z4 := bw4.size
 have A0 : OrdAt W0 K1 r b o X := A.ro (R := fun _ => False) ((Ro.below bw0).role fun y hy => kO y (by omega) (by omega) (by omega) (by omega)) (fun y hy => (kO y (by omega) (by omega) (by omega) (by omega)).trans (A.kz y (by omega))) id fun _ _ => id
 have kbn : K1 bn = p + 5 := by rw [hK1]; simp only [if_neg (show bn ≠ bl by omega), if_neg (show bn ≠ lp by omega), if_neg (show bn ≠ Db by omega), if_true]
 have cn0 : W0.cell? ⟨bn, 0, none⟩ = some (.int .i64 (N : Int)) := (World.cell?_of_block (a := ⟨bn, 0, none⟩) ((hb0.block bn (by omega)).trans (b3.block bn (by omega)))).trans cn1
 have hbl0 : W0.heap[bl]? = w4.heap[bl]? := hb0.block bl (by omega)
 have k0 : DvK p r b bn bl Db lp N K w o [] K1 W0 := ⟨I, ⟨X, A0⟩, (Ro.below bw0).role fun y hy => kO y (by omega) (by omega) (by omega) (by omega), cn0, kbn, by omega, kbl, by omega, hD0, kDb, klp, by omega,
   [], none, 0, (World.cell?_of_block (a := ⟨bl, 0, none⟩) hbl0).trans cl3, (World.frozen?_of_block (a := ⟨bl, 0, none⟩) hbl0).trans fl3, OwnO.nil _ _ _ _ _, rfl, (fun x hx => by cases hx), List.nodup_nil⟩
 have rdy := ready_any (lo := w.heap.size) (o0 := o) (K := K1) (r := r) (b := b) (lp := lp) (J := fun o' ms K' W => DvK p r b bn bl Db lp N K w o' ms K' W ∧ W.heap[lp]? = some (.loop q) ∧ ms.length < N) (Jx := fun o' ms K' W => DvK p r b bn bl Db lp N K w o' ms K' W ∧ W.heap[lp]? = some (.loop { q with state := .done, pending := some (.exit 0) }) ∧ ms.length = N)
   (fun o' ms K' W h => ⟨h.1.I, h.1.A⟩) (fun o' ms K' W h => h.1.q.size)
   (fun o' ms K' W h o2 X2 K2 W2 I2 A2 q2' => ⟨h.1.ro q2' I2 A2 (by unfold inR; omega) (by unfold inR; omega) (by unfold inR; omega) (by unfold inR; omega) (by unfold inR; omega) fun _ _ e => e, (q2'.same lp h.1.hp (by rw [h.1.kp]; unfold inR; omega)).trans h.2.1, h.2.2⟩)
   ?hY W0 ⟨k0, hL0, by show 0 < N; omega⟩
 case hY =>
   rintro o' ms K' W ⟨hk, hl, hlt⟩ m B cB nB hdv hnB hrow hBlo
   have hml : ms.length + 1 ≤ 1000000000 := by
     have h1 := hdv.done
     have h2 := hk.I.wf.dn
     rw [List.length_append, List.length_singleton] at h1
     omega
   have hpn : ({ q with state := .ready, pending := none } : Loop) = q := by cases q; simp_all
   have key := round_dv (p := p) (r := r) (b := b) (bn := bn) (bl := bl) (Db := Db) (lp := lp) (n := N) (K0 := K) (w0 := w) (o := o') (ms := ms) (a := a4) hpr hlo hl m B cB nB q1 q2 q3 (hr4'.agr ⟨rfl, rfl, trivial⟩) q4 q5 (by kernel_rfl) (by kernel_rfl) ?hgo
   case hgo =>
     intro R hR
     obtain ⟨Xk, Ak⟩ := hk.A
     have hzb := hk.hl
     have hzp := hk.hp
     have hzn := hk.hn
     conv => whnf
     refine .mk _ run_zero83 ?_
     conv => whnf
     refine .mk fun u1 hu1 => ?_
     repeat ((conv => whnf); first | refine Xt ?_ | refine Xq ?_ | refine Xn ?_ | refine Xj ?_ | refine Xo ?_); try (conv => whnf)
     refine VStore.new (c' := mgA m B cB nB) hu1 (by kernel_rfl) rfl (one_mgA _ _ _ _) fun y1 hy1 => ?_
     have c1 : Below W.heap.size W y1 := by rw [hy1.out]; exact (Below.refl _ _).alloc (Nat.le_refl _) _
     have zy1 : y1.heap.size = W.heap.size + 1 := by rw [hy1.out]; exact World.size_alloc _ _
     have r1 : y1.rangeAt W.heap.size 0 (mgA m B cB nB).toList := by rw [hy1.out]; exact range_new W _ 82
     clear hu1 hy1 u1
     have k1 := hk.below c1
     have hl1 : y1.heap[lp]? = some (.loop q) := (c1.block lp hk.hp).trans hl
     have hrow1 : OwnO y1 K' 0 1 eByte B cB m.b := hrow.ro (Ro.below (R := fun _ => False) c1) id
     repeat ((conv => whnf); first | refine Xt ?_ | refine Xq ?_ | refine Xn ?_ | refine Xj ?_ | refine Xo ?_); try (conv => whnf)
     refine .mk hl1 fun y2 hy2 => ?_
     have k2 : DvK p r b bn bl Db lp N K w o' ms K' y2 := by rw [hy2.out]; exact k1.putLp hpr hlo _
     have hl2 : y2.heap[lp]? = some (.loop { q with state := .busy }) := by rw [hy2.out]; exact World.putObj_heap_same (by omega)
     have zy2 : y2.heap.size = y1.heap.size := by rw [hy2.out]; simp
     have hg2 : y1.grownBy y2 (some lp) := by rw [hy2.out]; exact grownBy_putObj' _ _ _
     have e12 : Ro (· = p + 2) K' K' y1 y2 := .grown hg2 fun y hy => by injection hy with hy; rw [← hy]; exact hk.kp
     clear hy2
     have kW : K' W.heap.size = 0 := Ak.kz _ (Nat.le_refl _)
     have r2 : y2.rangeAt W.heap.size 0 (mgA m B cB nB).toList := range_same r1 (e12.same W.heap.size (by omega) (by rw [kW]; omega))
     have hrow2 : OwnO y2 K' 0 1 eByte B cB m.b := hrow1.ro e12 (by omega)
     obtain ⟨X2, A2⟩ := k2.A
     obtain ⟨xs, Ax, cx, x1, x2, x3, x4, x5, x6⟩ := k2.row
     have M0 : Ld Tryz.prog 59 bl 0 (Eq y2) (.slice Ax ms.length cx) := .of (load38 x1)
     have M1 : Ld Tryz.prog 82 W.heap.size 0 (Eq y2) (.agg (mgA m B cB nB)) := .of (load83 r2)
     rw [q5]
     repeat ((conv => whnf); first | refine Xl M0 ?_ | refine Xl M1 ?_ | refine Xt ?_ | refine Xq ?_ | refine Xn ?_ | refine Xj ?_ | refine Xo ?_); try (conv => whnf)
     refine VBs.mk _ _ (bs38 y2 m.p m.s m.q B nB cB) ?_
     have c3 : Below y2.heap.size y2 (y2.alloc (.cells (mgA m B cB nB) 82)) := (Below.refl _ _).alloc (Nat.le_refl _) _
     have hnc : ∀ j u, (eMg ⟨m, B, cB⟩)[j]? = some u → (y2.alloc (.cells (mgA m B cB nB) 82)).cell? ⟨y2.heap.size, j, none⟩ = some u := fun j u hu => by
       have := range_new y2 (mgA m B cB nB) 82 j u (by rw [← hu, ← hnB]; rfl)
       rwa [Nat.zero_add] at this
     have zy3 : (y2.alloc (.cells (mgA m B cB nB) 82)).heap.size = y2.heap.size + 1 := World.size_alloc _ _
     show VApp _ _ _ _ (y2.alloc (.cells (mgA m B cB nB) 82)) _
     generalize y2.alloc (.cells (mgA m B cB nB) 82) = y3 at c3 hnc zy3 ⊢
     have k3 := k2.below c3
     have hl3 : y3.heap[lp]? = some (.loop { q with state := .busy }) := (c3.block lp (by omega)).trans hl2
     have hrow3 : OwnO y3 K' 0 1 eByte B cB m.b := hrow2.ro (Ro.below (R := fun _ => False) c3) id
     have A3 := A2.below c3
     have x13 := (World.cell?_of_block (a := ⟨bl, 0, none⟩) (c3.block bl (by omega))).trans x1
     have x23 := (World.frozen?_of_block (a := ⟨bl, 0, none⟩) (c3.block bl (by omega))).trans x2
     have x33 := x3.ro (Ro.below (R := fun _ => False) (K := K') c3) id
     have x53 : ∀ x ∈ xs, OwnO y3 K' (p + 4) 1 eByte x.A x.c x.m.b := fun x hx => (x5 x hx).ro (Ro.below (R := fun _ => False) c3) id
     have hxl : xs.length = ms.length := by rw [← x4, List.length_map]
     refine VApp.off 4 48 _ Tryz.underlying59 info83 rfl (by decide) eMg (fun _ => rfl) one_eMg xs ⟨m, B, cB⟩ hxl x33 hnc A3.kz (by omega) (by omega) fun A4 c4 K4 y4 oA q4' kz4 => ?_
     have zy4 := q4'.size
     have A4' := A3.ro q4' kz4 (by omega) (fun y hy => by simp only [inR, inB] at hy; omega)
     have en4 : K4 bn = p + 5 ∧ K4 bl = p ∧ K4 lp = p + 2 := ⟨(q4'.kk bn (by omega)).trans k3.kn, (q4'.kk bl (by omega)).trans k3.kl, (q4'.kk lp (by omega)).trans k3.kp⟩
     have hb4 := q4'.same bl (by omega) (by rw [k3.kl]; omega)
     have x14 := (World.cell?_of_block (a := ⟨bl, 0, none⟩) hb4).trans x13
     have x24 := (World.frozen?_of_block (a := ⟨bl, 0, none⟩) hb4).trans x23
     repeat ((conv => whnf); first | refine Xt ?_ | refine Xq ?_ | refine Xn ?_ | refine Xj ?_ | refine Xo ?_); try (conv => whnf)
     refine VStore.cell (by kernel_rfl) (by rw [x14]; rfl) x24 rfl rfl fun y5 hy5 => ?_
     have g5 : y4.grownBy y5 (some bl) := by rw [hy5.out]; exact grown_cell y4 bl 0 _
     have e45 : Ro (· = p) K4 K4 y4 y5 := .grown g5 fun y hy => by injection hy with hy; rw [← hy]; exact en4.2.1
     have x15 : y5.cell? ⟨bl, 0, none⟩ = some (.slice A4 (ms.length + 1) c4) := by rw [hy5.out]; exact World.cell?_setCell_same' _ _ _ (by rw [x14]; rfl)
     have x25 : y5.frozen? ⟨bl, 0, none⟩ = false := by rw [hy5.out, World.frozen?_setCell]; exact x24
     clear hy5
     have e35 : Ro (fun y => y = p + 1 ∨ y = p) K' K4 y3 y5 := (q4'.more fun y hy => .inl hy).trans (e45.more fun y hy => .inr hy)
     have A5 := A4'.ro e45 (fun y hy => kz4 y (Nat.le_trans e45.size hy)) (by omega) (fun y hy => by simp only [inR, inB] at hy; omega)
     have hd3 := (Array.getElem?_eq_some_iff.1 k3.hd).1
     obtain ⟨K5, hK5⟩ : ∃ K5 : Nat → Nat, K5 = fun y => if blk B = some y then p + 4 else K4 y := ⟨_, rfl⟩
     have k5B : ∀ y, blk B = some y → K5 y = p + 4 := fun y hy => by rw [hK5]; exact if_pos hy
     have k5O : ∀ y, blk B ≠ some y → K5 y = K4 y := fun y hy => by rw [hK5]; exact if_neg hy
     have kB4 : ∀ y, blk B = some y → y < y3.heap.size ∧ K4 y = 0 := fun y hy => by
       obtain ⟨h1, h2⟩ := hrow3.rl y hy
       exact ⟨h1, (q4'.kk y h1).trans h2⟩
     have k5n : ∀ y, K4 y ≠ 0 → K5 y = K4 y := fun y hy => k5O y fun e => hy (kB4 y e).2
     have moved : ∀ {α : Type} {qq sz c : Nat} {enc : α → List Value} {A : Option Addr} {l : List α}, qq ≠ 0 → OwnO y5 K4 qq sz enc A c l → OwnO y5 K5 qq sz enc A c l := fun {α qq sz c enc A l} hq h => by
       rcases h with h | ⟨g, off, e, h1, h2, h3⟩
       · exact .inl h
       · exact .inr ⟨g, off, e, h1, (k5n g (by rw [h2]; exact hq)).trans h2, h3⟩
     have A5' : OrdAt y5 K5 r b o' X2 := A5.rerole (fun y hy => k5n y (by simp only [inB] at hy; omega)) fun y hy => (k5O y fun e => by have := (kB4 y e).1; have := e35.size; omega).trans (A5.kz y hy)
     have xb5 : ∀ x ∈ xs, OwnO y5 K4 (p + 4) 1 eByte x.A x.c x.m.b := fun x hx => (x53 x hx).ro e35 (by omega)
     have k5 : DvK p r b bn bl Db lp N K w o' (ms ++ [m]) K5 y5 := ⟨k3.I, ⟨_, A5'⟩, (k3.q.then e35 (fun y _ e => by have := hlo y; omega)).re fun y hy => k5O y fun e => by
         have := hBlo y e
         omega, (World.cell?_of_block (a := ⟨bn, 0, none⟩) (e35.same bn (by omega) (by rw [k3.kn]; omega))).trans k3.cn, (k5n bn (by omega)).trans en4.1, by have := e35.size; omega, (k5n bl (by omega)).trans en4.2.1, by have := e35.size; omega,
       (e35.same Db hd3 (by rw [k3.kd]; omega)).trans k3.hd, (k5n Db (by rw [e35.kk Db hd3, k3.kd]; omega)).trans ((e35.kk Db hd3).trans k3.kd), (k5n lp (by omega)).trans en4.2.2, by have := e35.size; omega,
       xs ++ [⟨m, B, cB⟩], A4, c4, by rw [List.length_append]; exact x15, x25, moved (by omega) (oA.ro e45 (by omega)), by rw [List.map_append, x4]; rfl, fun x hx => by
         rcases List.mem_append.1 hx with hx | hx
         · exact moved (by omega) (xb5 x hx)
         · rw [List.mem_singleton.1 hx]
           exact (NewO.of (lo := 0) (hrow3.ro e35 (by omega)) fun _ _ => Nat.zero_le _).own k5B, by
         show (((xs ++ [(⟨m, B, cB⟩ : MgX)]).map (·.A)).filterMap blk).Nodup
         rw [List.map_append, List.filterMap_append, List.nodup_append]
         refine ⟨x6, ?_, fun a ha c hc e => ?_⟩
         · cases B with
           | none => exact List.nodup_nil
           | some _ => exact List.pairwise_singleton _ _
         · obtain ⟨a1, ha1, ha2⟩ := List.mem_filterMap.1 ha
           obtain ⟨x1, hx1, rfl⟩ := List.mem_map.1 ha1
           obtain ⟨c1', hc1, hc2⟩ := List.mem_filterMap.1 hc
           rw [List.map_singleton, List.mem_singleton] at hc1
           subst hc1
           have h1 := ((xb5 x1 hx1).rl a ha2).2
           have h2 := (kB4 c hc2).2
           rw [e] at h1
           omega⟩
     have hl5 : y5.heap[lp]? = some (.loop { q with state := .busy }) := (e35.same lp (by omega) (by rw [k3.kp]; omega)).trans hl3
     obtain ⟨rt, rf⟩ := hR K5 y5 k5 hl5
     have M2 : Ld Tryz.prog 59 bl 0 (Eq y5) (.slice A4 (ms.length + 1) c4) := .of (load38 x15)
     have M3 : Ld Tryz.prog 3 bn 0 (Eq y5) (.int .i64 N) := .of (load3 k5.cn)
     by_cases hfull : ms.length + 1 = N
     · repeat ((conv => whnf); first | refine Xl M2 ?_ | refine Xl M3 ?_ | refine Xt ?_ | refine Xq ?_ | refine Xn ?_ | refine Xj ?_ | refine Xo ?_); try (conv => whnf)
       exact .mk ⟨hl5, rf hfull⟩
     · repeat ((conv => whnf); first | refine Xl M2 ?_ | refine Xl M3 ?_ | refine Xt ?_ | refine Xq ?_ | refine Xn ?_ | refine Xj ?_ | refine Xo ?_); try (conv => whnf)
       exact .mk ⟨hl5, rt (by omega)⟩
   rw [hpn] at key
   exact key
 have eargs : (#[Value.pointer (some ⟨b, 0, none⟩)] ++ #[Value.func (.yield lp) #[] #[]] ++ #[] : Array Value) = #[.pointer (some ⟨b, 0, none⟩), .func (.yield lp) #[] #[]] := by simp
 rw [eargs]
 have hrm : RepE [{ target := .collected Db, args := #[] }] 31 [(0, .pointer (some ⟨b, 0, none⟩)), (3, .pointer (some ⟨bn, 0, none⟩)), (5, .pointer (some ⟨bl, 0, none⟩))] (markA a4 w4) := ⟨by unfold markA; rw [hr4'.d, hDb], hr4'.s, hr4'.g⟩
 refine Calls.mono rdy ?_
 rintro e W ⟨⟨v, rfl⟩, o1, ms, K2, hdl, ⟨⟨hk, hl, hlt⟩, hno⟩ | ⟨hk, hl, heq⟩⟩
 · refine ⟨v, rfl, q, hl, by rw [q1]; simp, .inl ⟨q6, ?_⟩⟩
   have hcase : (ms.length : Int) = (N : Int) ∨ ((ms.length : Int) < (N : Int) ∧ o1.next = none) := .inr ⟨by omega, hno⟩
   have k2 := hk.putLp hpr hlo (.loop { q with state := .exhausted })
   generalize W.putObj lp (.loop { q with state := .exhausted }) = W2 at k2 ⊢
   show Code.wp _ _ _ _ _
   obtain ⟨X2, A2⟩ := k2.A
   obtain ⟨xs, Ax, cx, x1, x2, x3, x4, x5, x6⟩ := k2.row
   have hle : o1.least ≤ o1.known := Nat.le_trans (leastTo_le o1 _ _) (hdl.known hdk).2
   refine wp_mono (vcC_ok (tab_of tab_ok) (D := [{ target := .collected Db, args := #[] }]) (n := 31) _ [(0, .pointer (some ⟨b, 0, none⟩)), (3, .pointer (some ⟨bn, 0, none⟩)), (5, .pointer (some ⟨bl, 0, none⟩))] _ _ (fun e fr y => match e with | .ret => VDone (∃ K3 X3, aget fr 4 = some (.slice Ax ms.length cx) ∧ OrdAt y K3 r b (o1.rise o1.least) X3 ∧ Ro (inR r) K K3 w y ∧ y.heap[Db]? = some (.deferred (some [])) ∧ K3 Db = p + 3 ∧ OwnO y K3 (p + 1) 4 eMg Ax cx xs ∧ ∀ x ∈ xs, OwnO y K3 (p + 4) 1 eByte x.A x.c x.m.b) | _ => False) ?_ hrm) ?_
   · conv => whnf
     repeat ((conv => whnf); first | refine Xt ?_ | refine Xq ?_ | refine Xn ?_ | refine Xj ?_ | refine Xo ?_); try (conv => whnf)
     refine VCall.mk _ (least_any A2 k2.I.wf) ?_
     rintro _ _ ⟨rfl, rfl⟩
     refine ⟨_, rfl, ?_⟩
     repeat ((conv => whnf); first | refine Xt ?_ | refine Xq ?_ | refine Xn ?_ | refine Xj ?_ | refine Xo ?_); try (conv => whnf)
     refine VCall.mk _ (rise_any A2 k2.I.wf o1.least hle) ?_
     rintro _ y ⟨rfl, K3, X3, A3, q3⟩
     refine ⟨_, rfl, ?_⟩
     have hd2 := (Array.getElem?_eq_some_iff.1 k2.hd).1
     have x13 := (World.cell?_of_block (a := ⟨bl, 0, none⟩) (q3.same bl k2.hl (by rw [k2.kl]; unfold inR; omega))).trans x1
     have M0 : Ld Tryz.prog 59 bl 0 (Eq y) (.slice Ax ms.length cx) := .of (load38 x13)
     repeat ((conv => whnf); first | refine Xl M0 ?_ | refine Xt ?_ | refine Xq ?_ | refine Xn ?_ | refine Xj ?_ | refine Xo ?_); try (conv => whnf)
     exact .mk ⟨K3, X3, rfl, A3, k2.q.then q3 fun _ _ e => e, (q3.same Db hd2 (by rw [k2.kd]; unfold inR; omega)).trans k2.hd, (q3.kk Db hd2).trans k2.kd, x3.ro q3 (by unfold inR; omega), fun x hx => (x5 x hx).ro q3 (by unfold inR; omega)⟩
   · rintro e a' y ⟨fr', hr', hq⟩
     cases e with
     | ret =>
       cases hq with
       | mk hq =>
         obtain ⟨K3, X3, h4, A3, q3, hD3, kD3, o3, y5⟩ := hq
         refine leave_mark hr' hD3 ?_
         show withV (aget fr' 4) _
         rw [h4]
         have ef : Ro (· = p + 3) K3 K3 y (y.putObj Db (.deferred none)) := .grown (grownBy_putObj' y Db _) fun k hk => by injection hk with hk; rw [← hk]; exact kD3
         obtain ⟨Kf, hKf⟩ : ∃ Kf : Nat → Nat, Kf = fun k => if p ≤ K3 k then 0 else K3 k := ⟨_, rfl⟩
         have kf : ∀ k, K3 k < p → Kf k = K3 k := fun k hk => by rw [hKf]; exact if_neg (by omega)
         have kf0 : ∀ k, p ≤ K3 k ∨ K3 k = 0 → Kf k = 0 := fun k hk => by
           rw [hKf]
           show (if p ≤ K3 k then 0 else K3 k) = 0
           split
           · rfl
           · rcases hk with hk | hk <;> omega
         have AF := (A3.ro ef (fun k hk => A3.kz k (by simpa using hk)) (by omega) (fun k hk => by simp only [inR, inB] at hk; omega)).rerole (K' := Kf) (fun k hk => kf k (by simp only [inR, inB] at hk; omega)) (fun k hk => kf0 k (.inr (A3.kz k (by simpa using hk))))
         have qF : Ro (inR r) K Kf w (y.putObj Db (.deferred none)) := (q3.then ef fun k _ e => by have := hlo k; omega).re fun k hk => kf k (by rw [q3.kk k hk]; exact hlo k)
         have nw : ∀ g, p ≤ K3 g → w.heap.size ≤ g := fun g hg => by
           rcases Nat.lt_or_ge g w.heap.size with h | h
           · have := hlo g
             rw [← q3.kk g h] at this
             omega
           · exact h
         have oF := o3.ro ef (by omega)
         have bF : ∀ x ∈ xs, OwnO (y.putObj Db (.deferred none)) K3 (p + 4) 1 eByte x.A x.c x.m.b := fun x hx => (y5 x hx).ro ef (by omega)
         refine .mk ⟨ms, o1.rise o1.least, xs, Ax, cx, Kf, X3, rfl, .inr ⟨hfz, hn0, o1, hdl, hcase, k2.I, rfl⟩, AF, qF, .of oF fun g hg => nw g (by have := (oF.rl g hg).2; omega), x4, fun x hx => .of (bF x hx) fun g hg => nw g (by have := ((bF x hx).rl g hg).2; omega), ?_, fun a ha g hg => ?_⟩
         · cases Ax with
           | none => exact x6
           | some ax =>
             show (ax.block :: (xs.map (·.A)).filterMap blk).Nodup
             rw [List.nodup_cons]
             refine ⟨fun hm => ?_, x6⟩
             obtain ⟨a1, ha1, ha2⟩ := List.mem_filterMap.1 hm
             obtain ⟨x, hx, rfl⟩ := List.mem_map.1 ha1
             have h1 := ((bF x hx).rl _ ha2).2
             have h2 := (oF.rl ax.block rfl).2
             omega
         · rcases List.mem_cons.1 ha with rfl | ha
           · exact kf0 g (.inl (by have := (oF.rl g hg).2; omega))
           · obtain ⟨x, hx, rfl⟩ := List.mem_map.1 ha
             exact kf0 g (.inl (by have := ((bF x hx).rl g hg).2; omega))
     | normal => exact hq.elim
     | exit id => exact hq.elim
     | goto l => exact hq.elim
     | panic ch => exact hq.elim
     | outgrown => exact hq.elim
 · refine ⟨v, rfl, _, hl, by simp, .inr ⟨0, rfl, ?_⟩⟩
   have hcase : (ms.length : Int) = (N : Int) ∨ ((ms.length : Int) < (N : Int) ∧ o1.next = none) := .inl (by omega)
   have k2 := hk.putLp hpr hlo (.loop { q with state := .exhausted, pending := some (.exit 0) })
   unfold Exit.inBlock
   dsimp only
   rw [if_pos rfl]
   generalize W.putObj lp (.loop { q with state := .exhausted, pending := some (.exit 0) }) = W2 at k2 ⊢
   show Code.wp _ _ _ _ _
   obtain ⟨X2, A2⟩ := k2.A
   obtain ⟨xs, Ax, cx, x1, x2, x3, x4, x5, x6⟩ := k2.row
   have hle : o1.least ≤ o1.known := Nat.le_trans (leastTo_le o1 _ _) (hdl.known hdk).2
   refine wp_mono (vcC_ok (tab_of tab_ok) (D := [{ target := .collected Db, args := #[] }]) (n := 31) _ [(0, .pointer (some ⟨b, 0, none⟩)), (3, .pointer (some ⟨bn, 0, none⟩)), (5, .pointer (some ⟨bl, 0, none⟩))] _ _ (fun e fr y => match e with | .ret => VDone (∃ K3 X3, aget fr 4 = some (.slice Ax ms.length cx) ∧ OrdAt y K3 r b (o1.rise o1.least) X3 ∧ Ro (inR r) K K3 w y ∧ y.heap[Db]? = some (.deferred (some [])) ∧ K3 Db = p + 3 ∧ OwnO y K3 (p + 1) 4 eMg Ax cx xs ∧ ∀ x ∈ xs, OwnO y K3 (p + 4) 1 eByte x.A x.c x.m.b) | _ => False) ?_ hrm) ?_
   · conv => whnf
     repeat ((conv => whnf); first | refine Xt ?_ | refine Xq ?_ | refine Xn ?_ | refine Xj ?_ | refine Xo ?_); try (conv => whnf)
     refine VCall.mk _ (least_any A2 k2.I.wf) ?_
     rintro _ _ ⟨rfl, rfl⟩
     refine ⟨_, rfl, ?_⟩
     repeat ((conv => whnf); first | refine Xt ?_ | refine Xq ?_ | refine Xn ?_ | refine Xj ?_ | refine Xo ?_); try (conv => whnf)
     refine VCall.mk _ (rise_any A2 k2.I.wf o1.least hle) ?_
     rintro _ y ⟨rfl, K3, X3, A3, q3⟩
     refine ⟨_, rfl, ?_⟩
     have hd2 := (Array.getElem?_eq_some_iff.1 k2.hd).1
     have x13 := (World.cell?_of_block (a := ⟨bl, 0, none⟩) (q3.same bl k2.hl (by rw [k2.kl]; unfold inR; omega))).trans x1
     have M0 : Ld Tryz.prog 59 bl 0 (Eq y) (.slice Ax ms.length cx) := .of (load38 x13)
     repeat ((conv => whnf); first | refine Xl M0 ?_ | refine Xt ?_ | refine Xq ?_ | refine Xn ?_ | refine Xj ?_ | refine Xo ?_); try (conv => whnf)
     exact .mk ⟨K3, X3, rfl, A3, k2.q.then q3 fun _ _ e => e, (q3.same Db hd2 (by rw [k2.kd]; unfold inR; omega)).trans k2.hd, (q3.kk Db hd2).trans k2.kd, x3.ro q3 (by unfold inR; omega), fun x hx => (x5 x hx).ro q3 (by unfold inR; omega)⟩
   · rintro e a' y ⟨fr', hr', hq⟩
     cases e with
     | ret =>
       cases hq with
       | mk hq =>
         obtain ⟨K3, X3, h4, A3, q3, hD3, kD3, o3, y5⟩ := hq
         refine leave_mark hr' hD3 ?_
         show withV (aget fr' 4) _
         rw [h4]
         have ef : Ro (· = p + 3) K3 K3 y (y.putObj Db (.deferred none)) := .grown (grownBy_putObj' y Db _) fun k hk => by injection hk with hk; rw [← hk]; exact kD3
         obtain ⟨Kf, hKf⟩ : ∃ Kf : Nat → Nat, Kf = fun k => if p ≤ K3 k then 0 else K3 k := ⟨_, rfl⟩
         have kf : ∀ k, K3 k < p → Kf k = K3 k := fun k hk => by rw [hKf]; exact if_neg (by omega)
         have kf0 : ∀ k, p ≤ K3 k ∨ K3 k = 0 → Kf k = 0 := fun k hk => by
           rw [hKf]
           show (if p ≤ K3 k then 0 else K3 k) = 0
           split
           · rfl
           · rcases hk with hk | hk <;> omega
         have AF := (A3.ro ef (fun k hk => A3.kz k (by simpa using hk)) (by omega) (fun k hk => by simp only [inR, inB] at hk; omega)).rerole (K' := Kf) (fun k hk => kf k (by simp only [inR, inB] at hk; omega)) (fun k hk => kf0 k (.inr (A3.kz k (by simpa using hk))))
         have qF : Ro (inR r) K Kf w (y.putObj Db (.deferred none)) := (q3.then ef fun k _ e => by have := hlo k; omega).re fun k hk => kf k (by rw [q3.kk k hk]; exact hlo k)
         have nw : ∀ g, p ≤ K3 g → w.heap.size ≤ g := fun g hg => by
           rcases Nat.lt_or_ge g w.heap.size with h | h
           · have := hlo g
             rw [← q3.kk g h] at this
             omega
           · exact h
         have oF := o3.ro ef (by omega)
         have bF : ∀ x ∈ xs, OwnO (y.putObj Db (.deferred none)) K3 (p + 4) 1 eByte x.A x.c x.m.b := fun x hx => (y5 x hx).ro ef (by omega)
         refine .mk ⟨ms, o1.rise o1.least, xs, Ax, cx, Kf, X3, rfl, .inr ⟨hfz, hn0, o1, hdl, hcase, k2.I, rfl⟩, AF, qF, .of oF fun g hg => nw g (by have := (oF.rl g hg).2; omega), x4, fun x hx => .of (bF x hx) fun g hg => nw g (by have := ((bF x hx).rl g hg).2; omega), ?_, fun a ha g hg => ?_⟩
         · cases Ax with
           | none => exact x6
           | some ax =>
             show (ax.block :: (xs.map (·.A)).filterMap blk).Nodup
             rw [List.nodup_cons]
             refine ⟨fun hm => ?_, x6⟩
             obtain ⟨a1, ha1, ha2⟩ := List.mem_filterMap.1 hm
             obtain ⟨x, hx, rfl⟩ := List.mem_map.1 ha1
             have h1 := ((bF x hx).rl _ ha2).2
             have h2 := (oF.rl ax.block rfl).2
             omega
         · rcases List.mem_cons.1 ha with rfl | ha
           · exact kf0 g (.inl (by have := (oF.rl g hg).2; omega))
           · obtain ⟨x, hx, rfl⟩ := List.mem_map.1 ha
             exact kf0 g (.inl (by have := ((bF x hx).rl g hg).2; omega))
     | normal => exact hq.elim
     | exit id => exact hq.elim
     | goto l => exact hq.elim
     | panic ch => exact hq.elim
     | outgrown => exact hq.elim
end
end Go.Proofs.YtoilipfgimcoiaaGreat
namespace Go.Proofs.YtoilipfgimcoiaaGreat
open Go Go.RowKit
theorem num_any (n : Int) (w : World) : Calls Tryz.prog 29 #[.int .i64 n] w fun e w' => e = .returned (.int .i64 n) ∧ w' = w := by
 refine calls_vc tab_ok Tryz.func29 rfl ?_
 conv => whnf
 repeat ((conv => whnf); first | refine Xt ?_ | refine Xq ?_ | refine Xn ?_ | refine Xj ?_ | refine Xo ?_); try (conv => whnf)
 exact .mk ⟨rfl, rfl⟩
theorem load5 {w : World} {b j : Nat} {v : Int} (h : w.cell? ⟨b, j, none⟩ = some (.int .u8 v)) : (loadVar 5 ⟨b, j, none⟩).run Tryz.prog w = .ok (.int .u8 v) w := by go_simp
theorem take_succ_eq {α : Type} {l m : List α} {k : Nat} {x y : α} (h : l.take k = m.take k) (hx : l[k]? = some x) (hy : m[k]? = some y) (e : x = y) : l.take (k + 1) = m.take (k + 1) := by
 rw [List.take_add_one, List.take_add_one, h, hx, hy, e]
set_option maxRecDepth 100000 in
theorem sameBytes_any (A B : Option Addr) (c d n m N : Nat) (la lb : List Int) (w : World) (hn : la.length = n) (hm : lb.length = m) (hN : N ≤ w.heap.size) (hA : RowAt w N 1 eByte A la) (hB : RowAt w N 1 eByte B lb) (h1 : n ≤ 1000000000) :
   Calls Tryz.prog 34 #[.slice A n c, .slice B m d] w fun e w' => e = .returned (.bool (decide (la = lb))) ∧ Below w.heap.size w w' := by
 refine calls_vc tab_ok Tryz.func34 rfl ?_
 conv => whnf
 by_cases hnm : n = m
 case neg =>
   repeat ((conv => whnf); first | refine Xt ?_ | refine Xq ?_ | refine Xn ?_ | refine Xj ?_ | refine Xo ?_); try (conv => whnf)
   exact .mk ⟨by rw [decide_eq_false (fun e => hnm (by rw [← hn, ← hm, e]))]; rfl, Below.refl _ _⟩
 subst hnm
 repeat ((conv => whnf); first | refine Xt ?_ | refine Xq ?_ | refine Xn ?_ | refine Xj ?_ | refine Xo ?_); try (conv => whnf)
 refine VLoop.mk Nat (fun k => [(0, .slice A n c), (1, .slice B n d), (5, .int .i64 k)]) (fun k W => k ≤ n ∧ Below w.heap.size w W ∧ la.take k = lb.take k) (fun k => n - k) 0 ⟨rfl, rfl, rfl, trivial⟩ ⟨Nat.zero_le _, Below.refl _ _, by simp⟩ ?_
 rintro k W ⟨hk, hW, ht⟩
 by_cases hkn : k < n
 case neg =>
   repeat ((conv => whnf); first | refine Xt ?_ | refine Xq ?_ | refine Xn ?_ | refine Xj ?_ | refine Xo ?_); try (conv => whnf)
   exact .mk ⟨by rw [List.take_of_length_le (by omega), List.take_of_length_le (by omega)] at ht; rw [ht, decide_eq_true rfl]; rfl, hW⟩
 obtain ⟨ga, oa, rfl, ha, ca⟩ := hA (by omega)
 obtain ⟨gb, ob, rfl, hb, cb⟩ := hB (by omega)
 obtain ⟨x, hx⟩ : ∃ x, la[k]? = some x := ⟨_, List.getElem?_eq_getElem (by omega)⟩
 obtain ⟨y, hy⟩ : ∃ y, lb[k]? = some y := ⟨_, List.getElem?_eq_getElem (by omega)⟩
 have L1 : Ld Tryz.prog 5 ga (oa + k) (Sm [ga, gb] W) (.int .u8 x) := ⟨fun W' hW' => load5 ((World.cell?_of_block (a := ⟨ga, _, none⟩) ((hW' ga (by simp)).trans (hW.block ga (by omega)))).trans (by have := ca k x hx 0 _ rfl; rwa [Nat.mul_one] at this))⟩
 have L2 : Ld Tryz.prog 5 gb (ob + k) (Sm [ga, gb] W) (.int .u8 y) := ⟨fun W' hW' => load5 ((World.cell?_of_block (a := ⟨gb, _, none⟩) ((hW' gb (by simp)).trans (hW.block gb (by omega)))).trans (by have := cb k y hy 0 _ rfl; rwa [Nat.mul_one] at this))⟩
 have hs : Sm [ga, gb] W W.drew := fun _ _ => rfl
 have hWd : Below w.heap.size w W.drew := hW.trans ((Below.refl _ W).drew.mono hW.size)
 repeat ((conv => whnf); first | refine Xt ?_ | refine Xq ?_ | refine Xn ?_ | refine Xj ?_ | refine Xo ?_); try (conv => whnf)
 refine VDraw.pl 1000 (.stop [0, 1, 2, 3, 4, 5, 6, 7, 8]) (Sm [ga, gb] W) (by kernel_rfl) (hs) ?_
 by_cases hxy : x = y
 · repeat ((conv => whnf); first | refine Xl L1 ?_ | refine Xl L2 ?_ | refine Xt ?_ | refine Xq ?_ | refine Xn ?_ | refine Xj ?_ | refine Xo ?_); try (conv => whnf)
   exact .mk (k + 1) ⟨rfl, rfl, rfl, trivial⟩ ⟨hkn, hWd, take_succ_eq ht hx hy hxy⟩ (by show n - (k + 1) < n - k; omega)
 · repeat ((conv => whnf); first | refine Xl L1 ?_ | refine Xl L2 ?_ | refine Xt ?_ | refine Xq ?_ | refine Xn ?_ | refine Xj ?_ | refine Xo ?_); try (conv => whnf)
   exact .mk ⟨by rw [decide_eq_false (fun e => hxy (by rw [e, hy] at hx; exact (Option.some.inj hx).symm))]; rfl, hWd⟩
set_option maxRecDepth 100000 in
theorem sameInts_any (A B : Option Addr) (c d n m N : Nat) (la lb : List Nat) (w : World) (hn : la.length = n) (hm : lb.length = m) (hN : N ≤ w.heap.size) (hA : RowAt w N 1 eNat A la) (hB : RowAt w N 1 eNat B lb) (h1 : n ≤ 1000000000) :
   Calls Tryz.prog 76 #[.slice A n c, .slice B m d] w fun e w' => e = .returned (.bool (decide (la = lb))) ∧ Below w.heap.size w w' := by
 refine calls_vc tab_ok Tryz.func76 rfl ?_
 conv => whnf
 by_cases hnm : n = m
 case neg =>
   repeat ((conv => whnf); first | refine Xt ?_ | refine Xq ?_ | refine Xn ?_ | refine Xj ?_ | refine Xo ?_); try (conv => whnf)
   exact .mk ⟨by rw [decide_eq_false (fun e => hnm (by rw [← hn, ← hm, e]))]; rfl, Below.refl _ _⟩
 subst hnm
 repeat ((conv => whnf); first | refine Xt ?_ | refine Xq ?_ | refine Xn ?_ | refine Xj ?_ | refine Xo ?_); try (conv => whnf)
 refine VLoop.mk Nat (fun k => [(0, .slice A n c), (1, .slice B n d), (5, .int .i64 k)]) (fun k W => k ≤ n ∧ Below w.heap.size w W ∧ la.take k = lb.take k) (fun k => n - k) 0 ⟨rfl, rfl, rfl, trivial⟩ ⟨Nat.zero_le _, Below.refl _ _, by simp⟩ ?_
 rintro k W ⟨hk, hW, ht⟩
 by_cases hkn : k < n
 case neg =>
   repeat ((conv => whnf); first | refine Xt ?_ | refine Xq ?_ | refine Xn ?_ | refine Xj ?_ | refine Xo ?_); try (conv => whnf)
   exact .mk ⟨by rw [List.take_of_length_le (by omega), List.take_of_length_le (by omega)] at ht; rw [ht, decide_eq_true rfl]; rfl, hW⟩
 obtain ⟨ga, oa, rfl, ha, ca⟩ := hA (by omega)
 obtain ⟨gb, ob, rfl, hb, cb⟩ := hB (by omega)
 obtain ⟨x, hx⟩ : ∃ x, la[k]? = some x := ⟨_, List.getElem?_eq_getElem (by omega)⟩
 obtain ⟨y, hy⟩ : ∃ y, lb[k]? = some y := ⟨_, List.getElem?_eq_getElem (by omega)⟩
 have L1 : Ld Tryz.prog 3 ga (oa + k) (Sm [ga, gb] W) (.int .i64 x) := ⟨fun W' hW' => load3 ((World.cell?_of_block (a := ⟨ga, _, none⟩) ((hW' ga (by simp)).trans (hW.block ga (by omega)))).trans (by have := ca k x hx 0 _ rfl; rwa [Nat.mul_one] at this))⟩
 have L2 : Ld Tryz.prog 3 gb (ob + k) (Sm [ga, gb] W) (.int .i64 y) := ⟨fun W' hW' => load3 ((World.cell?_of_block (a := ⟨gb, _, none⟩) ((hW' gb (by simp)).trans (hW.block gb (by omega)))).trans (by have := cb k y hy 0 _ rfl; rwa [Nat.mul_one] at this))⟩
 have hs : Sm [ga, gb] W W.drew := fun _ _ => rfl
 have hWd : Below w.heap.size w W.drew := hW.trans ((Below.refl _ W).drew.mono hW.size)
 repeat ((conv => whnf); first | refine Xt ?_ | refine Xq ?_ | refine Xn ?_ | refine Xj ?_ | refine Xo ?_); try (conv => whnf)
 refine VDraw.pl 1000 (.stop [0, 1, 2, 3, 4, 5, 6, 7, 8]) (Sm [ga, gb] W) (by kernel_rfl) (hs) ?_
 by_cases hxy : x = y
 · repeat ((conv => whnf); first | refine Xl L1 ?_ | refine Xl L2 ?_ | refine Xt ?_ | refine Xq ?_ | refine Xn ?_ | refine Xj ?_ | refine Xo ?_); try (conv => whnf)
   exact .mk (k + 1) ⟨rfl, rfl, rfl, trivial⟩ ⟨hkn, hWd, take_succ_eq ht hx hy hxy⟩ (by show n - (k + 1) < n - k; omega)
 · repeat ((conv => whnf); first | refine Xl L1 ?_ | refine Xl L2 ?_ | refine Xt ?_ | refine Xq ?_ | refine Xn ?_ | refine Xj ?_ | refine Xo ?_); try (conv => whnf)
   exact .mk ⟨by rw [decide_eq_false (fun e => hxy (by rw [e, hy] at hx; exact (Option.some.inj hx).symm))]; rfl, hWd⟩
end Go.Proofs.YtoilipfgimcoiaaGreat
namespace Go.Proofs.YtoilipfgimcoiaaGreat
open Go Go.RowKit
def sameD (x y : Dt) : Bool := decide (x.s = y.s ∧ x.q = y.q ∧ x.st = y.st ∧ x.b = y.b)
theorem sameD_eq {x y : Dt} : sameD x y = true ↔ x = y := by
 unfold sameD
 rw [decide_eq_true_iff]
 constructor
 · obtain ⟨a, b, c, d⟩ := x
   obtain ⟨a', b', c', d'⟩ := y
   rintro ⟨h1, h2, h3, h4⟩
   simp only at h1 h2 h3 h4
   rw [h1, h2, h3, h4]
 · rintro rfl
   exact ⟨rfl, rfl, rfl, rfl⟩
set_option maxRecDepth 100000 in
theorem sameData_any (x y : Dt) (A B : Option Addr) (c d n m : Nat) (w : World) (hn : x.b.length = n) (hm : y.b.length = m) (hA : RowAt w w.heap.size 1 eByte A x.b) (hB : RowAt w w.heap.size 1 eByte B y.b) (h1 : n ≤ 1000000000) :
   Calls Tryz.prog 42 #[.agg (dtA x A c n), .agg (dtA y B d m)] w fun e w' => e = .returned (.bool (sameD x y)) ∧ Below w.heap.size w w' := by
 refine calls_vc tab_ok Tryz.func42 rfl ?_
 conv => whnf
 refine .mk fun w1 hw1 => ?_
 have b1 : Below w.heap.size w w1 := by rw [hw1.out]; exact below_box1 _ _ _
 have z1 : w1.heap.size = w.heap.size + 1 := by rw [hw1.out]; exact World.size_alloc _ _
 have r1 : w1.rangeAt w.heap.size 0 (dtA x A c n).toList := by rw [hw1.out]; exact range_new w _ 44
 clear hw1
 conv => whnf
 refine .mk fun w2 hw2 => ?_
 have b2 : Below w1.heap.size w1 w2 := by rw [hw2.out]; exact below_box1 _ _ _
 have r2 : w2.rangeAt w1.heap.size 0 (dtA y B d m).toList := by rw [hw2.out]; exact range_new w1 _ 44
 clear hw2
 have b02 : Below w.heap.size w w2 := b1.trans (b2.mono (by omega))
 have z2 := b2.size
 have r12 := range_same r1 (b2.block w.heap.size (by omega))
 generalize w.heap.size = p1 at *
 generalize w1.heap.size = p2 at *
 have A0 : Ld Tryz.prog 3 p1 0 (Eq w2) (.int .i64 x.s) := .of (load3 (r12 0 _ rfl))
 have A1 : Ld Tryz.prog 3 p1 1 (Eq w2) (.int .i64 x.q) := .of (load3 (r12 1 _ rfl))
 have A2 : Ld Tryz.prog 3 p1 2 (Eq w2) (.int .i64 x.st) := .of (load3 (r12 2 _ rfl))
 have A3 : Ld Tryz.prog 42 p1 3 (Eq w2) (.slice A n c) := .of (load27 (r12 3 _ rfl))
 have B0 : Ld Tryz.prog 3 p2 0 (Eq w2) (.int .i64 y.s) := .of (load3 (r2 0 _ rfl))
 have B1 : Ld Tryz.prog 3 p2 1 (Eq w2) (.int .i64 y.q) := .of (load3 (r2 1 _ rfl))
 have B2 : Ld Tryz.prog 3 p2 2 (Eq w2) (.int .i64 y.st) := .of (load3 (r2 2 _ rfl))
 have B3 : Ld Tryz.prog 42 p2 3 (Eq w2) (.slice B m d) := .of (load27 (r2 3 _ rfl))
 have no : ∀ (w' : World), Below p1 w w' → ¬ (x.s = y.s ∧ x.q = y.q ∧ x.st = y.st ∧ x.b = y.b) → Ending.returned (.bool false) = .returned (.bool (sameD x y)) ∧ Below p1 w w' := fun w' hb h => ⟨by unfold sameD; rw [decide_eq_false h], hb⟩
 by_cases e0 : x.s = y.s
 case neg =>
   repeat ((conv => whnf); first | refine Xl A0 ?_ | refine Xl A1 ?_ | refine Xl A2 ?_ | refine Xl A3 ?_ | refine Xl B0 ?_ | refine Xl B1 ?_ | refine Xl B2 ?_ | refine Xl B3 ?_ | refine Xt ?_ | refine Xq ?_ | refine Xn ?_ | refine Xj ?_ | refine Xo ?_); try (conv => whnf)
   exact .mk (no w2 b02 fun h => e0 h.1)
 by_cases e1 : x.q = y.q
 case neg =>
   repeat ((conv => whnf); first | refine Xl A0 ?_ | refine Xl A1 ?_ | refine Xl A2 ?_ | refine Xl A3 ?_ | refine Xl B0 ?_ | refine Xl B1 ?_ | refine Xl B2 ?_ | refine Xl B3 ?_ | refine Xt ?_ | refine Xq ?_ | refine Xn ?_ | refine Xj ?_ | refine Xo ?_); try (conv => whnf)
   exact .mk (no w2 b02 fun h => e1 h.2.1)
 by_cases e2 : x.st = y.st
 case neg =>
   repeat ((conv => whnf); first | refine Xl A0 ?_ | refine Xl A1 ?_ | refine Xl A2 ?_ | refine Xl A3 ?_ | refine Xl B0 ?_ | refine Xl B1 ?_ | refine Xl B2 ?_ | refine Xl B3 ?_ | refine Xt ?_ | refine Xq ?_ | refine Xn ?_ | refine Xj ?_ | refine Xo ?_); try (conv => whnf)
   exact .mk (no w2 b02 fun h => e2 h.2.2.1)
 repeat ((conv => whnf); first | refine Xl A0 ?_ | refine Xl A1 ?_ | refine Xl A2 ?_ | refine Xl A3 ?_ | refine Xl B0 ?_ | refine Xl B1 ?_ | refine Xl B2 ?_ | refine Xl B3 ?_ | refine Xt ?_ | refine Xq ?_ | refine Xn ?_ | refine Xj ?_ | refine Xo ?_); try (conv => whnf)
 refine VCall.mk _ (sameBytes_any A B c d n m p1 x.b y.b w2 hn hm (by omega) (hA.below b02 (Nat.le_refl _)) (hB.below b02 (Nat.le_refl _)) h1) ?_
 rintro _ w3 ⟨rfl, b3⟩
 refine ⟨_, rfl, ?_⟩
 repeat ((conv => whnf); first | refine Xt ?_ | refine Xq ?_ | refine Xn ?_ | refine Xj ?_ | refine Xo ?_); try (conv => whnf)
 exact .mk ⟨by unfold sameD; by_cases hb : x.b = y.b <;> simp [hb, e0, e1, e2] <;> rfl, b02.trans (b3.mono (by omega))⟩
end Go.Proofs.YtoilipfgimcoiaaGreat
namespace Go.Proofs.YtoilipfgimcoiaaGreat
open Go Go.RowKit
section
variable {α : Type} {w w' : World} {base sz : Nat} {enc : α → List Value} {A : Option Addr} {l : List α}
end
theorem VApp.copyO {P : Program} {α : Type} {w : World} {ty0 : TypeId} {t e : TypeId} {K : Value → World → Prop}
   (lo sz bytes : Nat) (z : Value) (ht : P.underlying t = some (.slice e)) (hinfo : (P.info? e).map (fun i => (i.zero, i.size, i.bytes)) = some (some z, sz, bytes))
   (hzs : z.cells.size = sz) (hsz : 0 < sz) (enc : α → List Value) (henc : ∀ x, (enc x).length = sz) (hone : ∀ x, ∀ u ∈ enc x, u.oneCell' = true)
   {A : Option Addr} {B : Option Addr} {cB N m : Nat} (l : List α) (hm : l.length = m) (hr : RowAt w N sz enc B l)
   (h63 : m ≤ 9223372036854775807) (hbytes : m * bytes ≤ 140737488355328) (hlo : lo ≤ w.heap.size) (hA : ∀ ga, A = some ga → ∃ g off, ga = ⟨g, off, none⟩ ∧ lo ≤ g ∧ g < w.heap.size)
   (h : ∀ A' c' w', NewO w' lo sz enc A' c' l → Below w.heap.size w w' → K (.slice A' m c') w') : VApp P #[t, t] ty0 [.slice A 0 0, .slice B m cB] w K := by
 subst hm
 obtain ⟨i, hi, hz, hsize, hby⟩ := info_parts hinfo
 by_cases h1 : 0 < l.length
 · have key : VApp P #[t, t] ty0 [.slice none 0 0, .slice B l.length cB] w K := by
     refine VApp.rows w.heap.size sz bytes z ht hinfo hzs hsz enc henc hone [] l rfl rfl (owns_nil _ _ _ _ _) hr (by omega) (by rw [Nat.zero_add]; exact hbytes) (Nat.le_refl _) fun A' c' w' ho hg hk => ?_
     rw [Nat.zero_add]
     rw [List.nil_append] at ho
     exact h A' c' w' ((NewO.owns ho henc).less hlo) ((Below.refl _ w).grown hg (Nat.le_refl _) fun k hk => by cases hk)
   cases A with
   | none => exact key
   | some ga =>
     obtain ⟨v, w', hrun, hk⟩ := key
     exact .mk v w' (by
       have := run_append_zero w t ty0 e i ht hi ga B l.length cB h1 (by rw [hby]; exact hbytes)
       exact this.trans hrun) hk
 · have hl : l = [] := List.eq_nil_of_length_eq_zero (by omega)
   subst hl
   refine .mk _ _ (run_append_none w t ty0 e i ht hi A B cB) (h A 0 w ?_ (Below.refl _ _))
   cases A with
   | none => exact .nil _ _ _ _
   | some ga =>
     obtain ⟨g, off, rfl, h2, h3⟩ := hA ga rfl
     exact .inr ⟨g, off, rfl, h2, h3, Nat.le_refl _, fun j hj => absurd hj (by simp), fun k x hx => by simp at hx⟩
theorem bs27 (W : World) : (Instr.buildSlice 42 0 #[]).run Tryz.prog W = .ok (.slice (some ⟨W.heap.size, 0, none⟩) 0 0) (W.alloc (.cells #[] 5)) := by kernel_rfl
theorem copied_any (A : Option Addr) (c n : Nat) (l : List Int) (w : World) (hn : l.length = n) (hA : RowAt w w.heap.size 1 eByte A l) (h1 : n ≤ 1000000000) :
   Calls Tryz.prog 84 #[.slice A n c] w fun e w' => ∃ A' c', e = .returned (.slice A' n c') ∧ NewO w' w.heap.size 1 eByte A' c' l ∧ Below w.heap.size w w' := by
 refine calls_vc tab_ok Tryz.func84 rfl ?_
 conv => whnf
 repeat ((conv => whnf); first | refine Xt ?_ | refine Xq ?_ | refine Xn ?_ | refine Xj ?_ | refine Xo ?_); try (conv => whnf)
 refine VBs.mk _ _ (bs27 w) ?_
 have b1 : Below w.heap.size w (w.alloc (.cells #[] 5)) := (Below.refl _ _).alloc (Nat.le_refl _) _
 have z1 : (w.alloc (.cells #[] 5)).heap.size = w.heap.size + 1 := World.size_alloc _ _
 generalize w.alloc (.cells #[] 5) = w1 at b1 z1 ⊢
 repeat ((conv => whnf); first | refine Xt ?_ | refine Xq ?_ | refine Xn ?_ | refine Xj ?_ | refine Xo ?_); try (conv => whnf)
 refine VApp.copyO w.heap.size 1 1 _ Tryz.underlying42 info5 rfl (by decide) eByte (fun _ => rfl) one_eByte l hn (hA.below b1 (Nat.le_refl _)) (by omega) (by omega) (by omega) (fun ga hga => by injection hga with hga; exact ⟨w.heap.size, 0, hga.symm, by omega, by omega⟩) fun A' c' w2 hr b2 => ?_
 repeat ((conv => whnf); first | refine Xt ?_ | refine Xq ?_ | refine Xn ?_ | refine Xj ?_ | refine Xo ?_); try (conv => whnf)
 exact .mk ⟨A', c', rfl, hr, b1.trans (b2.mono (by omega))⟩
end Go.Proofs.YtoilipfgimcoiaaGreat
