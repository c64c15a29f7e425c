/- OdN OdQ OzA RgE, joined. -/
import Derived.OrdersIn
import Derived.Test.YtoilipfgimcoiaaGreatOz2
import Derived.Test.YtoilipfgimcoiaaGreatOz3
import Derived.Test.YtoilipfgimcoiaaGreatOz6
set_option linter.unusedVariables false
set_option linter.unusedSimpArgs false
namespace Go.Proofs.YtoilipfgimcoiaaGreat
open Go Go.RowKit
structure Stb where
 v : Vd
 d : Int
 p : Int
abbrev sbA (s : Stb) : Array Value := #[.int .i64 s.v.e, .int .i64 s.v.l, .int .i64 s.v.i, .int .i64 s.v.c, .int .i64 s.d, .int .i64 s.p]
def Os.heard (o : Os) (q : Nat) (d : Nat) : Os := { o with seen := upN o.seen q true, told := upN o.told q (max (o.told q) d) }
def Os.hear (o : Os) (q : Int) (s : Stb) : Int × Os :=
 if hasB o.mem q = false ∨ q = o.self then (72, o) else if ¬ (0 ≤ s.d ∧ s.d ≤ 4611686018427387904) ∨ s.p < 0 ∨ s.d < s.p then (1, o) else if s.v ≠ o.id then (40, o) else if o.frz = true then (70, o)
 else if (o.done : Int) < s.p then (43, o) else (0, ((o.heard q.toNat s.d.toNat).rise s.p.toNat).rise ((o.heard q.toNat s.d.toNat).rise s.p.toNat).least)
theorem run_neq_vd (w : World) (a b c d a' b' c' d' : Int) : (binOp .neq 38 (.agg #[.int .i64 a, .int .i64 b, .int .i64 c, .int .i64 d]) (.agg #[.int .i64 a', .int .i64 b', .int .i64 c', .int .i64 d'])).run Tryz.prog w = .ok (.bool (!decide ((⟨a, b, c, d⟩ : Vd) = ⟨a', b', c', d'⟩))) w := by
 go_simp
 by_cases h1 : a = a' <;> by_cases h2 : b = b' <;> by_cases h3 : c = c' <;> by_cases h4 : d = d' <;> simp [h1, h2, h3, h4]
theorem leastTo_le (o : Os) : ∀ (l : List Nat) (n : Nat), leastTo o l n ≤ n
 | [], n => Nat.le_refl _
 | q :: r, n => by
   rw [leastTo]
   refine Nat.le_trans (leastTo_le o r _) ?_
   split
   · exact Nat.le_refl _
   · exact Nat.min_le_left _ _
theorem least_le (o : Os) : o.least ≤ o.done := leastTo_le o _ _
theorem rise_known (o : Os) {n : Nat} (h : n ≤ o.known) : (o.rise n).known = o.known := (riseK_facts o (n - o.pre) (by unfold Os.known at h; omega)).2.2
theorem WfO.heard {o : Os} (h : WfO o) (q d : Nat) : WfO (o.heard q d) := ⟨h.m0, h.m16, h.mlt, h.win, h.self, h.sl, h.qu, h.ql, h.ke, h.nd, h.hq, h.tk, h.pl, h.gn, h.kn, h.dn, h.mi⟩
section
variable {w w' : World} {K K' : Nat → Nat} {r b : Nat} {o : Os} {X : OsX}
set_option maxRecDepth 100000 in
set_option maxHeartbeats 8000000 in
theorem hear_any (A : OrdAt w K r b o X) (W : WfO o) (hdk : o.done ≤ o.known) (q : Int) (s : Stb) :
   Calls Tryz.prog 53 #[.pointer (some ⟨b, 0, none⟩), .int .i64 q, .agg (sbA s)] w fun e w' => e = .returned (.int .i64 (o.hear q s).1) ∧ OP w K r b (o.hear q s).2 w' := by
 refine calls_vc tab_ok Tryz.func53 rfl ?_
 have r0 := A.r0
 have hbz := A.cs.hb
 conv => whnf
 refine .mk fun wA hwA => ?_
 have bA : Below w.heap.size w wA := by rw [hwA.out]; exact below_box1 _ _ _
 have zA : wA.heap.size = w.heap.size + 1 := by rw [hwA.out]; simp
 have oA : wA.rangeAt w.heap.size 0 (sbA s).toList := by rw [hwA.out]; exact range_new w _ 50
 clear hwA
 have AA := A.below bA
 have hba : w.heap.size < wA.heap.size := by omega
 have kA : K w.heap.size = 0 := A.kz _ (Nat.le_refl _)
 have L1 := AA.l_self (l := [b, w.heap.size]) (by simp)
 have L2 := AA.l_frz (l := [b, w.heap.size]) (by simp)
 have L3 := AA.l_id (l := [b, w.heap.size]) (by simp)
 have L4 := AA.l_done (l := [b, w.heap.size]) (by simp)
 have s0 := Sm.refl [b, w.heap.size] wA
 have sd : Sm [b, w.heap.size] wA wA.drew := fun _ _ => rfl
 have sdd : Sm [b, w.heap.size] wA wA.drew.drew := fun _ _ => rfl
 have S0 : Ld Tryz.prog 38 w.heap.size 0 (Sm [b, w.heap.size] wA) (.agg #[.int .i64 s.v.e, .int .i64 s.v.l, .int .i64 s.v.i, .int .i64 s.v.c]) := ⟨fun W' hW => load_agg (by kernel_rfl) (by kernel_rfl) (range_sub (n := 4) (range_same oA (hW _ (by simp))) 0 rfl)⟩
 have S1 : Ld Tryz.prog 3 w.heap.size 4 (Sm [b, w.heap.size] wA) (.int .i64 s.d) := ⟨fun W' hW => load3 (cell_sm (oA 4 _ rfl) (by simp) hW)⟩
 have S2 : Ld Tryz.prog 3 w.heap.size 5 (Sm [b, w.heap.size] wA) (.int .i64 s.p) := ⟨fun W' hW => load3 (cell_sm (oA 5 _ rfl) (by simp) hW)⟩
 have opA : ∀ y, Below wA.heap.size wA y → OP w K r b o y := fun y hy => ⟨K, X, AA.below hy, .below (bA.trans (hy.mono bA.size))⟩
 repeat ((conv => whnf); first | refine Xt ?_ | refine Xq ?_ | refine Xn ?_ | refine Xj ?_ | refine Xo ?_); try (conv => whnf)
 refine VCall.mk _ (member_any AA W.m16 q) ?_
 rintro _ _ ⟨rfl, rfl⟩
 refine ⟨_, rfl, ?_⟩
 rename_i wA
 cases h1 : hasB o.mem q with
 | false =>
   have hp : o.hear q s = (72, o) := by unfold Os.hear; rw [if_pos (.inl h1)]
   rw [hp]
   repeat ((conv => whnf); first | refine Xt ?_ | refine Xq ?_ | refine Xn ?_ | refine Xj ?_ | refine Xo ?_); try (conv => whnf)
   exact .mk ⟨rfl, opA _ (Below.refl _ _)⟩
 | true =>
   obtain ⟨f, hfm, hff⟩ : ∃ f ∈ o.mem, (f : Int) = q := of_decide_eq_true h1
   subst hff
   have hf16 := W.mlt f hfm
   by_cases h2 : f = o.self
   · have hp : o.hear f s = (72, o) := by unfold Os.hear; rw [if_pos (.inr (by rw [h2]))]
     rw [hp]
     repeat ((conv => whnf); first | refine Xl (L1.at s0) ?_ | refine Xt ?_ | refine Xq ?_ | refine Xn ?_ | refine Xj ?_ | refine Xo ?_); try (conv => whnf)
     exact .mk ⟨rfl, opA _ (Below.refl _ _)⟩
   have h2' : ¬ ((f : Int) = (o.self : Int)) := by omega
   have hp1 : o.hear f s = if ¬ (0 ≤ s.d ∧ s.d ≤ 4611686018427387904) ∨ s.p < 0 ∨ s.d < s.p then (1, o) else if s.v ≠ o.id then (40, o) else if o.frz = true then (70, o) else if (o.done : Int) < s.p then (43, o) else (0, ((o.heard f s.d.toNat).rise s.p.toNat).rise ((o.heard f s.d.toNat).rise s.p.toNat).least) := by
     unfold Os.hear; rw [if_neg (by rw [h1]; simp; exact h2'), Int.toNat_natCast]
   rw [hp1]
   clear hp1
   by_cases h3 : ¬ (0 ≤ s.d ∧ s.d ≤ 4611686018427387904) ∨ s.p < 0 ∨ s.d < s.p
   · rw [if_pos h3]
     have fin : OP w K r b o wA := opA _ (Below.refl _ _)
     repeat' (conv => whnf
              first
              | (refine VLoad.mk _ (L1.at s0) ?_)
              | (refine VLoad.mk _ (S1.at s0) ?_)
              | (refine VLoad.mk _ (S2.at s0) ?_)
              | (refine VCall.count (fun _ _ => ?_) (fun _ => ?_))
              | refine Xt ?_
              | refine Xq ?_
              | refine Xn ?_
              | refine Xj ?_
              | refine Xo ?_
              | (refine VCmp.split (fun _ => ?_) (fun _ => ?_)))
     all_goals try (conv => whnf)
     all_goals first
       | exact absurd h3 (by omega)
       | exact .mk ⟨rfl, fin⟩
   rw [if_neg h3]
   obtain ⟨dn, hdn⟩ := Int.eq_ofNat_of_zero_le (show 0 ≤ s.d by omega)
   obtain ⟨pn, hpn⟩ := Int.eq_ofNat_of_zero_le (show 0 ≤ s.p by omega)
   rw [hdn, hpn] at h3 ⊢
   rw [hdn] at S1
   rw [hpn] at S2
   rw [Int.toNat_natCast, Int.toNat_natCast]
   repeat ((conv => whnf); first | refine Xl (L1.at s0) ?_ | refine Xl (S1.at s0) ?_ | refine Xl (S2.at s0) ?_ | (refine VCall.count (fun _ _ => ?_) (fun hc => absurd (by omega) hc)) | refine Xt ?_ | refine Xq ?_ | refine Xn ?_ | refine Xj ?_ | refine Xo ?_); try (conv => whnf)
   refine VDraw.pl 1000 (.stop [0, 1, 2, 3, 4, 5, 6, 7]) (Sm [b, w.heap.size] wA) (by kernel_rfl) (sd) ?_
   repeat ((conv => whnf); first | refine Xl S0 ?_ | refine Xl L3 ?_ | refine Xt ?_ | refine Xq ?_ | refine Xn ?_ | refine Xj ?_ | refine Xo ?_); try (conv => whnf)
   refine VBin.mk _ (Bn.of fun W' => run_neq_vd W' s.v.e s.v.l s.v.i s.v.c o.id.e o.id.l o.id.i o.id.c) ?_
   by_cases h4 : s.v = o.id
   case neg =>
     rw [if_pos h4, decide_eq_false h4]
     repeat ((conv => whnf); first | refine Xt ?_ | refine Xq ?_ | refine Xn ?_ | refine Xj ?_ | refine Xo ?_); try (conv => whnf)
     exact .mk ⟨rfl, opA _ (Below.refl _ _).drew⟩
   rw [if_neg (by simpa using h4), decide_eq_true h4]
   cases h5 : o.frz with
   | true =>
     rw [h5] at L2
     rw [if_pos rfl]
     repeat ((conv => whnf); first | refine Xl (L2.at sd) ?_ | refine Xt ?_ | refine Xq ?_ | refine Xn ?_ | refine Xj ?_ | refine Xo ?_); try (conv => whnf)
     exact .mk ⟨rfl, opA _ (Below.refl _ _).drew⟩
   | false =>
     rw [h5] at L2
     rw [if_neg (by simp)]
     repeat ((conv => whnf); first | refine Xl (L2.at sd) ?_ | refine Xt ?_ | refine Xq ?_ | refine Xn ?_ | refine Xj ?_ | refine Xo ?_); try (conv => whnf)
     refine VDraw.pl 1000 (.stop [0, 1, 2, 3, 4, 5, 6, 7]) (Sm [b, w.heap.size] wA) (by kernel_rfl) (sdd) ?_
     by_cases h6 : (o.done : Int) < (pn : Int)
     · rw [if_pos h6]
       repeat ((conv => whnf); first | refine Xl S2 ?_ | refine Xl L4 ?_ | refine Xt ?_ | refine Xq ?_ | refine Xn ?_ | refine Xj ?_ | refine Xo ?_); try (conv => whnf)
       exact .mk ⟨rfl, opA _ (Below.refl _ _).drew.drew⟩
     rw [if_neg h6]
     have Add := AA.below (Below.drew (Below.drew (Below.refl _ wA)))
     repeat ((conv => whnf); first | refine Xl S2 ?_ | refine Xl L4 ?_ | refine Xt ?_ | refine Xq ?_ | refine Xn ?_ | refine Xj ?_ | refine Xo ?_); try (conv => whnf)
     have cq := Add.cs.cell (8 + f) (by omega)
     refine VStore.cell (by kernel_rfl) (by rw [show addO 0 8 + mulO f 1 = 8 + f from rfl, cq.1]; rfl) cq.2 rfl rfl fun w1 hw1 => ?_
     obtain ⟨A1, q1⟩ := Add.s_seen hf16 true (j := addO 0 8 + mulO f 1) rfl hw1.out
     have z1 : wA.heap.size ≤ w1.heap.size := q1.size
     have o1 := range_same oA (q1.same w.heap.size hba (by rw [kA]; omega))
     have T1 : Ld Tryz.prog 3 b (72 + f) (Sm [b, w.heap.size] w1) (.int .i64 (o.told f)) := A1.l_told (by simp) hf16
     have T2 : Ld Tryz.prog 3 w.heap.size 4 (Sm [b, w.heap.size] w1) (.int .i64 dn) := ⟨fun W' hW => load3 (by rw [← hdn]; exact cell_sm (o1 4 _ rfl) (by simp) hW)⟩
     have s1 : Sm [b, w.heap.size] w1 w1.drew := fun _ _ => rfl
     repeat ((conv => whnf); first | refine Xt ?_ | refine Xq ?_ | refine Xn ?_ | refine Xj ?_ | refine Xo ?_); try (conv => whnf)
     refine VDraw.pl 14 (.one [0, 1, 2, 3, 4, 5, 6, 7, 8, 9, 11, 12] 10 (.one [13] 14 (.stop []))) (Sm [b, w.heap.size] w1) (by kernel_rfl) (s1) ?_
     repeat ((conv => whnf); first | refine Xl T1 ?_ | refine Xl T2 ?_ | refine Xt ?_ | refine Xq ?_ | refine Xn ?_ | refine Xj ?_ | refine Xo ?_); try (conv => whnf)
     refine VW.run (v := .int .i64 ((max (o.told f) dn : Nat) : Int)) (w' := w1.drew) (fun a ha => ?_) ?_
     · have h3 := ha (.tmp 70) _ rfl
       have h4 := ha (.tmp 72) _ rfl
       have := max_any (o.told f) dn w1.drew
       simp only [execOp, resolve, invoke, builtin, h3, h4, Sem.run_bind, Sem.run_pure, Result.andThen_ok, this, List.map_cons, List.map_nil, List.map_toArray]
     have A1d := A1.below (Below.refl _ w1).drew
     have cq2 := A1d.cs.cell (72 + f) (by omega)
     repeat ((conv => whnf); first | (refine VS.mk s1 ?_) | refine Xt ?_ | refine Xq ?_ | refine Xn ?_ | refine Xj ?_ | refine Xo ?_); try (conv => whnf)
     refine VStore.cell (by kernel_rfl) (by rw [show addO 0 72 + mulO f 1 = 72 + f from rfl, cq2.1]; rfl) cq2.2 rfl rfl fun w2 hw2 => ?_
     obtain ⟨A2, q2⟩ := A1d.s_told hf16 (max (o.told f) dn) (j := addO 0 72 + mulO f 1) rfl hw2.out
     have A2' : OrdAt w2 K r b (o.heard f dn) X := A2
     have z2 : w1.heap.size ≤ w2.heap.size := q2.size
     have e2 : Ro (inR r) K K w w2 := ((Ro.below bA).trans (Ro.drew (Ro.drew (Ro.refl _ _ _)))).trans (((q1.more fun y hy => by unfold inR; omega).trans (Ro.drew (Ro.refl _ _ _))).trans (q2.more fun y hy => by unfold inR; omega))
     have o2 := range_same o1 (q2.same w.heap.size (show w.heap.size < w1.heap.size by omega) (by rw [kA]; omega))
     have T3 : Ld Tryz.prog 3 w.heap.size 5 (Eq w2) (.int .i64 pn) := .of (load3 (by rw [← hpn]; exact o2 5 _ rfl))
     repeat ((conv => whnf); first | (refine VS.last rfl ?_) | refine Xl T3 ?_ | refine Xt ?_ | refine Xq ?_ | refine Xn ?_ | refine Xj ?_ | refine Xo ?_); try (conv => whnf)
     refine VCall.mk _ (rise_any A2' (W.heard f dn) pn (by show pn ≤ o.known; omega)) ?_
     rintro _ w3 ⟨rfl, K3, X3, A3, q3⟩
     refine ⟨_, rfl, ?_⟩
     have W3 := (W.heard f dn).rise pn
     have k3 := rise_keeps (o.heard f dn) pn
     have kn3 : ((o.heard f dn).rise pn).known = o.known := rise_known _ (by show pn ≤ o.known; omega)
     obtain ⟨o3, ho3⟩ : ∃ o3, o3 = (o.heard f dn).rise pn := ⟨_, rfl⟩
     rw [← ho3] at W3 k3 kn3 A3 ⊢
     repeat ((conv => whnf); first | refine Xt ?_ | refine Xq ?_ | refine Xn ?_ | refine Xj ?_ | refine Xo ?_); try (conv => whnf)
     refine VCall.mk _ (least_any A3 W3) ?_
     rintro _ _ ⟨rfl, rfl⟩
     refine ⟨_, rfl, ?_⟩
     rename_i w3
     have hle := least_le o3
     have hd3 : o3.done = o.done := k3.done
     repeat ((conv => whnf); first | refine Xt ?_ | refine Xq ?_ | refine Xn ?_ | refine Xj ?_ | refine Xo ?_); try (conv => whnf)
     refine VCall.mk _ (rise_any A3 W3 o3.least (by omega)) ?_
     rintro _ w4 ⟨rfl, p4⟩
     refine ⟨_, rfl, ?_⟩
     repeat ((conv => whnf); first | refine Xt ?_ | refine Xq ?_ | refine Xn ?_ | refine Xj ?_ | refine Xo ?_); try (conv => whnf)
     exact .mk ⟨rfl, p4.trans (e2.trans q3)⟩
end
end Go.Proofs.YtoilipfgimcoiaaGreat
namespace Go.Proofs.YtoilipfgimcoiaaGreat
open Go Go.RowKit
def Os.asg1 (o : Os) : Os := match o.queue with
 | [] => o
 | x :: q => ({ o with queue := q } : Os).stand x
def Os.asgK (o : Os) : Nat → Os
 | 0 => o
 | k + 1 => (o.asgK k).asg1
structure ISl where
 pos : Nat
 sb : Nat
 x : Sl
abbrev isA (y : ISl) : Array Value := #[.int .i64 2, .int .i64 0, .int .i64 0, .int .i64 0, .slice none 0 0, .int .i64 y.pos, .int .i64 y.sb, .int .i64 y.x.s, .int .i64 y.x.q]
def eIS (y : ISl) : List Value := (isA y).toList
theorem one_eIS (y : ISl) : ∀ u ∈ eIS y, u.oneCell' = true := by
 intro u hu
 simp [eIS] at hu
 rcases hu with rfl | rfl | rfl | rfl | rfl | rfl | rfl | rfl <;> rfl
def Os.asgL (o : Os) : Nat → List ISl
 | 0 => []
 | k + 1 => o.asgL k ++ [⟨o.known + k + 1, o.pre, (o.queue[k]?).getD ⟨0, 0⟩⟩]
theorem asgL_len (o : Os) : ∀ k, (o.asgL k).length = k
 | 0 => rfl
 | k + 1 => by rw [Os.asgL, List.length_append, asgL_len o k]; rfl
def Os.asgN (o : Os) (m : Int) : Nat := min m.toNat (min o.queue.length (o.most - o.slots.length))
def Os.assign (o : Os) (m : Int) : List ISl × Os := if o.seq = false ∨ o.frz = true then ([], o) else (o.asgL (o.asgN m), o.asgK (o.asgN m))
structure RmA (o : Os) : Prop where
 pl : ∀ s, o.placed s + o.queue.length ≤ 1000000000
 kn : o.known + o.queue.length ≤ 1000000000
 gn : ∀ s, o.gone s + o.slots.length + o.queue.length ≤ 1000000000
theorem asg1_cons {o : Os} {x : Sl} {q : List Sl} (h : o.queue = x :: q) : o.asg1 = { o with queue := q, slots := o.slots ++ [x], placed := upN o.placed x.s (o.placed x.s + 1) } := by unfold Os.asg1; rw [h]; rfl
theorem asg1_wf {o : Os} (h : WfO o) (m : RmA o) {x : Sl} {q : List Sl} (hq : o.queue = x :: q) : WfO o.asg1 ∧ RmA o.asg1 := by
 rw [asg1_cons hq]
 have h1 := h.qu
 have h2 := h.ql
 have m1 := m.pl
 have m2 := m.kn
 have m3 := m.gn
 unfold Os.known at m2
 rw [hq] at h1 h2 m2
 simp only [hq, List.length_cons] at m1 m3 h2 m2
 have hx := h1 x List.mem_cons_self
 refine ⟨⟨h.m0, h.m16, h.mlt, h.win, h.self, fun y hy => ?_, fun y hy => h1 y (List.mem_cons_of_mem _ hy), by show q.length ≤ _; omega, h.ke, h.nd, h.hq, h.tk, fun s => ?_, fun s => ?_, ?_, h.dn, h.mi⟩, ⟨fun s => ?_, ?_, fun s => ?_⟩⟩
 · rcases List.mem_append.1 hy with hy | hy
   · exact h.sl y hy
   · rw [List.mem_singleton.1 hy]; exact hx
 · show upN o.placed x.s (o.placed x.s + 1) s ≤ _
   unfold upN; split
   · have := m1 x.s; omega
   · exact h.pl s
 · show o.gone s + (o.slots ++ [x]).length ≤ _
   rw [List.length_append]; have := m3 s; simp; omega
 · show o.pre + (o.slots ++ [x]).length ≤ _
   rw [List.length_append]; simp; omega
 · show upN o.placed x.s (o.placed x.s + 1) s + q.length ≤ _
   unfold upN; split
   · have := m1 x.s; omega
   · have := m1 s; omega
 · show o.pre + (o.slots ++ [x]).length + q.length ≤ _
   rw [List.length_append]; simp; omega
 · show o.gone s + (o.slots ++ [x]).length + q.length ≤ _
   rw [List.length_append]; have := m3 s; simp; omega
structure AsF (o p : Os) (k : Nat) : Prop where
 q : p.queue = o.queue.drop k
 s : p.slots = o.slots ++ o.queue.take k
 pre : p.pre = o.pre
 kn : p.known = o.known + k
 mem : p.mem = o.mem
 win : p.win = o.win
 self : p.self = o.self
 done : p.done = o.done
theorem asgK_facts {o : Os} (h : WfO o) (m : RmA o) : ∀ k, k ≤ o.queue.length → WfO (o.asgK k) ∧ RmA (o.asgK k) ∧ AsF o (o.asgK k) k
 | 0, _ => ⟨h, m, ⟨rfl, by simp [Os.asgK], rfl, rfl, rfl, rfl, rfl, rfl⟩⟩
 | k + 1, hk => by
   obtain ⟨h1, h2, h3⟩ := asgK_facts h m k (by omega)
   obtain ⟨x, hx⟩ : ∃ x, o.queue[k]? = some x := ⟨_, List.getElem?_eq_getElem (by omega)⟩
   have hd : (o.asgK k).queue = x :: o.queue.drop (k + 1) := by
     rw [h3.q, List.drop_eq_getElem_cons (by omega)]
     congr 1
     exact (List.getElem?_eq_some_iff.1 hx).2
   obtain ⟨w1, w2⟩ := asg1_wf h1 h2 hd
   refine ⟨w1, w2, ?_⟩
   have e : o.asgK (k + 1) = (o.asgK k).asg1 := rfl
   rw [e, asg1_cons hd]
   have h4 := h3.kn
   unfold Os.known at h4
   refine ⟨rfl, ?_, h3.pre, ?_, h3.mem, h3.win, h3.self, h3.done⟩
   · show (o.asgK k).slots ++ [x] = _
     rw [h3.s, List.take_add_one, hx, List.append_assoc]; rfl
   · show (o.asgK k).pre + ((o.asgK k).slots ++ [x]).length = o.known + (k + 1)
     rw [List.length_append]; unfold Os.known; simp; omega
section
variable {w w' : World} {K K' : Nat → Nat} {r b : Nat} {o : Os} {X : OsX}
theorem info80 : (Tryz.prog.info? 48).map (fun i => (i.zero, i.size, i.bytes)) = some (some (.agg #[.int .i64 0, .int .i64 0, .int .i64 0, .int .i64 0, .slice none 0 0, .int .i64 0, .int .i64 0, .int .i64 0, .int .i64 0]), 9, 88) := by kernel_rfl
theorem build80s (W : World) (p s : Int) (a c : Int) : (Instr.build 48 #[(0, .int .i64 2), (2, .int .i64 p), (3, .int .i64 s), (4, .agg #[.int .i64 a, .int .i64 c])]).run Tryz.prog W = .ok (.agg #[.int .i64 2, .int .i64 0, .int .i64 0, .int .i64 0, .slice none 0 0, .int .i64 p, .int .i64 s, .int .i64 a, .int .i64 c]) W := by kernel_rfl
theorem bs74 (W : World) (y : ISl) : (Instr.buildSlice 58 1 #[(0, .agg (isA y))]).run Tryz.prog W = .ok (.slice (some ⟨W.heap.size, 0, none⟩) 1 1) (W.alloc (.cells (isA y) 48)) := by kernel_rfl
theorem Ro.own {R : Nat → Prop} {w0 x x' : World} {K K1 K2 : Nat → Nat} {row : Option Nat} (q : Ro R K K1 w0 x) (hg : x.grownBy x' row) (hr : ∀ y, row = some y → w0.heap.size ≤ y) (hk : ∀ y, y < x.heap.size → K2 y = K1 y) : Ro R K K2 w0 x' :=
 ⟨hg.os.trans q.os, hg.tape.trans q.tape, hg.output.trans q.output, Nat.le_trans q.size hg.size, fun y hy hn => (hg.block y (Nat.lt_of_lt_of_le hy q.size) (fun e => by have := hr y e.symm; omega)).trans (q.same y hy hn), fun y hy => (hk y (Nat.lt_of_lt_of_le hy q.size)).trans (q.kk y hy)⟩
theorem Ro.re {R : Nat → Prop} {x : World} {K1 K2 : Nat → Nat} (q : Ro R K K1 w x) (h : ∀ y, y < w.heap.size → K2 y = K1 y) : Ro R K K2 w x := ⟨q.os, q.tape, q.output, q.size, q.same, fun y hy => (h y hy).trans (q.kk y hy)⟩
theorem WfO.less {o : Os} (h : WfO o) {x : Sl} {q : List Sl} (hq : o.queue = x :: q) : WfO { o with queue := q } :=
 ⟨h.m0, h.m16, h.mlt, h.win, h.self, h.sl, fun y hy => h.qu y (by rw [hq]; exact List.mem_cons_of_mem _ hy), by have := h.ql; rw [hq, List.length_cons] at this; show q.length ≤ _; omega, h.ke, h.nd, h.hq, h.tk, h.pl, h.gn, h.kn, h.dn, h.mi⟩
set_option maxRecDepth 100000 in
set_option maxHeartbeats 8000000 in
theorem assign_any (A : OrdAt w K r b o X) (W : WfO o) (M : RmA o) (m : Int) :
   Calls Tryz.prog 32 #[.pointer (some ⟨b, 0, none⟩), .int .i64 m] w fun e w' => ∃ A' c', e = .returned (.slice A' (o.assign m).1.length c') ∧ Owns w' w.heap.size 48 9 eIS A' c' (o.assign m).1 ∧ ∃ K' X', OrdAt w' K' r b (o.assign m).2 X' ∧ Ro (inR r) K K' w w' ∧ ∀ y, blk A' = some y → K' y = 0 := by
 refine calls_vc tab_ok Tryz.func32 rfl ?_
 have r0 := A.r0
 have hbz := A.cs.hb
 conv => whnf
 have none_ : (o.seq = false ∨ o.frz = true) → ∀ x, Below w.heap.size w x → ∃ A' c', Ending.returned (Value.slice none 0 0) = .returned (.slice A' (o.assign m).1.length c') ∧ Owns x w.heap.size 48 9 eIS A' c' (o.assign m).1 ∧ ∃ K' X', OrdAt x K' r b (o.assign m).2 X' ∧ Ro (inR r) K K' w x ∧ ∀ y, blk A' = some y → K' y = 0 := fun hc x hx => by
   have hp : o.assign m = ([], o) := by unfold Os.assign; rw [if_pos hc]
   rw [hp]
   exact ⟨none, 0, rfl, owns_nil _ _ _ _ _, K, X, A.below hx, .below hx, fun y hy => by cases hy⟩
 repeat ((conv => whnf); first | refine Xt ?_ | refine Xq ?_ | refine Xn ?_ | refine Xj ?_ | refine Xo ?_); try (conv => whnf)
 refine VCall.mk _ (sequencer_any A W.m0) ?_
 rintro _ w1 ⟨rfl, b1⟩
 refine ⟨_, rfl, ?_⟩
 have A1 := A.below b1
 have L0 := A1.l_frz (l := [b]) (by simp)
 have s1 := Sm.refl [b] w1
 cases h1 : o.seq with
 | false =>
   repeat ((conv => whnf); first | refine Xt ?_ | refine Xq ?_ | refine Xn ?_ | refine Xj ?_ | refine Xo ?_); try (conv => whnf)
   exact .mk (none_ (.inl h1) w1 b1)
 | true =>
   cases h2 : o.frz with
   | true =>
     rw [h2] at L0
     repeat ((conv => whnf); first | refine Xl (L0.at s1) ?_ | refine Xt ?_ | refine Xq ?_ | refine Xn ?_ | refine Xj ?_ | refine Xo ?_); try (conv => whnf)
     exact .mk (none_ (.inr h2) w1 b1)
   | false =>
     rw [h2] at L0
     have hp : o.assign m = (o.asgL (o.asgN m), o.asgK (o.asgN m)) := by unfold Os.assign; rw [if_neg (by rw [h1, h2]; simp)]
     rw [hp]
     clear none_ hp
     have m16 := W.m16
     have w8 := W.win
     have mql := W.ql
     have hmm : o.most ≤ 16 * 8 := Nat.mul_le_mul m16 w8
     obtain ⟨N, hN⟩ : ∃ N, N = o.asgN m := ⟨_, rfl⟩
     have hNq : N ≤ o.queue.length := by rw [hN]; unfold Os.asgN; omega
     have hN' : N = min m.toNat (min o.queue.length (o.most - o.slots.length)) := hN
     rw [← hN]
     repeat ((conv => whnf); first | refine Xl (L0.at s1) ?_ | refine Xt ?_ | refine Xq ?_ | refine Xn ?_ | refine Xj ?_ | refine Xo ?_); try (conv => whnf)
     refine VLoop.mk (Nat × Option Addr × Nat) (fun u => [(0, .pointer (some ⟨b, 0, none⟩)), (1, .int .i64 m), (5, .slice u.2.1 u.1 u.2.2)]) (fun u W' => u.1 ≤ N ∧ ∃ K' X', OrdAt W' K' r b (o.asgK u.1) X' ∧ Owns W' w.heap.size 48 9 eIS u.2.1 u.2.2 (o.asgL u.1) ∧ (∀ y, blk u.2.1 = some y → K' y = r + 5) ∧ Ro (inR r) K K' w W') (fun u => N - u.1) (0, none, 0) ⟨rfl, rfl, rfl, trivial⟩ ⟨Nat.zero_le _, K, X, A1, ⟨rfl, .inl ⟨rfl, rfl⟩⟩, fun y hy => (by cases hy), .below b1⟩ ?_
     rintro ⟨k, A', c'⟩ wk ⟨hk, Kk, Xk, Ak, own, hrl, qk⟩
     dsimp only at hk Ak own hrl ⊢
     obtain ⟨Wk, Mk, Fk⟩ := asgK_facts W M k (by omega)
     have esucc : o.asgK (k + 1) = (o.asgK k).asg1 := rfl
     have lsucc : o.asgL (k + 1) = o.asgL k ++ [⟨o.known + k + 1, o.pre, (o.queue[k]?).getD ⟨0, 0⟩⟩] := rfl
     obtain ⟨ok, hok⟩ : ∃ ok, ok = o.asgK k := ⟨_, rfl⟩
     rw [← hok] at Ak Wk Mk Fk esucc
     have ll := asgL_len o k
     have hqk : ok.queue.length = o.queue.length - k := by rw [Fk.q, List.length_drop]
     have hsk : ok.slots.length = o.slots.length + k := by rw [Fk.s, List.length_append, List.length_take_of_le (by omega)]
     have hmk : ok.most = o.most := by unfold Os.most; rw [Fk.mem, Fk.win]
     have bK := Ak.cs.hb
     have hsm : ∀ W', Below wk.heap.size wk W' → Sm [b] wk W' := fun W' hW => .below hW fun y hy => by rw [List.mem_singleton.1 hy]; exact bK
     have M1 := (Ak.l_queue (l := [b]) (by simp)).mono hsm
     have M2 := (Ak.l_slots (l := [b]) (by simp)).mono hsm
     have sd : Below wk.heap.size wk wk.drew := (Below.refl _ _).drew
     have fin : k = N → ∀ x, Below wk.heap.size wk x → ∃ A'_1 c'_1, Ending.returned (Value.slice A' k c') = .returned (.slice A'_1 (o.asgL N).length c'_1) ∧ Owns x w.heap.size 48 9 eIS A'_1 c'_1 (o.asgL N) ∧ ∃ K' X', OrdAt x K' r b (o.asgK N) X' ∧ Ro (inR r) K K' w x ∧ ∀ y, blk A'_1 = some y → K' y = 0 := fun e x hx => by
       subst e
       have own' := own.keep hx fun q hq => (own.lo q hq).2
       obtain ⟨K7, hK7⟩ : ∃ K7 : Nat → Nat, K7 = fun y => if blk A' = some y then 0 else Kk y := ⟨_, rfl⟩
       have k7 : ∀ y, blk A' ≠ some y → K7 y = Kk y := fun y hy => by rw [hK7]; exact if_neg hy
       have Ax := Ak.below hx
       refine ⟨A', c', by rw [ll], own', K7, Xk, ?_, ?_, fun y hy => by rw [hK7]; exact if_pos hy⟩
       · rw [← hok]
         exact Ax.rerole (fun y hy => k7 y (fun e => by have := hrl y e; rw [this] at hy; simp only [inR, inB] at hy; omega)) fun y hy => by
           by_cases e : blk A' = some y
           · rw [hK7]; exact if_pos e
           · rw [k7 y e]; exact Ax.kz y hy
       · exact (qk.trans (.below hx)).re fun y hy => k7 y fun e => by have := (own.lo y e).1; omega
     by_cases hkN : k < N
     · obtain ⟨x, hx⟩ : ∃ x, o.queue[k]? = some x := ⟨_, List.getElem?_eq_getElem (by omega)⟩
       have hd : ok.queue = x :: o.queue.drop (k + 1) := by
         rw [Fk.q, List.drop_eq_getElem_cons (by omega)]
         congr 1
         exact (List.getElem?_eq_some_iff.1 hx).2
       repeat ((conv => whnf); first | refine Xt ?_ | refine Xq ?_ | refine Xn ?_ | refine Xj ?_ | refine Xo ?_); try (conv => whnf)
       refine VDraw.pl 1000 (.one [0, 1, 2, 3, 4, 5, 6, 7, 8, 9, 10, 11, 12, 13, 14, 15, 16, 17, 18] 19 (.stop [20, 21])) (Below wk.heap.size wk) (by kernel_rfl) (sd) ?_
       repeat ((conv => whnf); first | refine Xl M1 ?_ | refine Xl M2 ?_ | refine Xt ?_ | refine Xq ?_ | refine Xn ?_ | refine Xj ?_ | refine Xo ?_); try (conv => whnf)
       refine VCall.mk _ (most_any (Ak.below sd) Wk.m16 Wk.win) ?_
       rintro _ w2 ⟨rfl, b2⟩
       refine ⟨_, rfl, ?_⟩
       have s2 : Below wk.heap.size wk w2 := sd.trans b2
       rw [hmk]
       repeat ((conv => whnf); first | (refine VS.mk s2 ?_) | refine Xt ?_ | refine Xq ?_ | refine Xn ?_ | refine Xj ?_ | refine Xo ?_); try (conv => whnf)
       have A2 := Ak.below s2
       have hql := A2.rs.q
       rw [hd] at hql
       obtain ⟨g, off, hqA, hg1, hg2⟩ := hql.head
       have hxb := Wk.qu x (by rw [hd]; exact List.mem_cons_self)
       have M3 : Ld Tryz.prog 57 b 89 (Eq w2) (.slice (some ⟨g, off, none⟩) ((o.queue.drop (k + 1)).length + 1) Xk.qc) := by have := M1.at s2; rw [hd, hqA, List.length_cons] at this; exact this
       have Lx : Ld Tryz.prog 46 g (off + 0) (Eq w2) (kSl x) := .of (load78 hg2)
       have hcap : (o.queue.drop (k + 1)).length + 1 ≤ Xk.qc := by
         rcases hql with ⟨-, e, -⟩ | ⟨_, _, _, _, _, h3, _⟩
         · cases e
         · simpa using h3
       repeat ((conv => whnf); first | refine Xl M3 ?_ | refine Xl Lx ?_ | refine Xt ?_ | refine Xq ?_ | refine Xn ?_ | refine Xj ?_ | refine Xo ?_); try (conv => whnf)
       refine .mk _ run_zero78 ?_
       conv => whnf
       refine .mk fun u3 hu3 => ?_
       repeat ((conv => whnf); first | refine Xt ?_ | refine Xq ?_ | refine Xn ?_ | refine Xj ?_ | refine Xo ?_); try (conv => whnf)
       refine VStore.new (c' := #[.int .i64 x.s, .int .i64 x.q]) hu3 (by kernel_rfl) rfl (one_sl x) fun w3 hw3 => ?_
       have c3 : Below w2.heap.size w2 w3 := by rw [hw3.out]; exact (Below.refl _ _).alloc (Nat.le_refl _) _
       have z3 : w3.heap.size = w2.heap.size + 1 := by rw [hw3.out]; simp
       have r3 : w3.rangeAt w2.heap.size 0 (eSl x) := by rw [hw3.out]; exact range_new w2 _ 46
       clear hu3 hw3 u3
       have A3 := A2.below c3
       have hz2 := s2.size
       have hzw := qk.size
       have k0 : Kk w2.heap.size = 0 := Ak.kz _ (by omega)
       have M4 := A3.l_queue (l := [b]) (by simp)
       rw [hd, List.length_cons] at M4
       repeat ((conv => whnf); first | refine Xl (M4.at (Sm.refl _ _)) ?_ | refine Xt ?_ | refine Xq ?_ | refine Xn ?_ | refine Xj ?_ | refine Xo ?_); try (conv => whnf)
       refine VSl.mk 1 ((o.queue.drop (k + 1)).length + 1) rfl rfl (by omega) hcap ?_
       have oT := A3.rs.q
       rw [hd] at oT
       have oT2 := oT.tail
       have cb := A3.cs.cell 89 (by omega)
       repeat ((conv => whnf); first | refine Xt ?_ | refine Xq ?_ | refine Xn ?_ | refine Xj ?_ | refine Xo ?_); try (conv => whnf)
       refine VStore.cell (by kernel_rfl) (by rw [show addO 0 89 = 89 from rfl, cb.1]; rfl) cb.2 rfl rfl fun w4 hw4 => ?_
       obtain ⟨A4, q4⟩ := A3.s_queue (n := (o.queue.drop (k + 1)).length) (A := tailA 2 Xk.qc Xk.qA) (c := Xk.qc - 1) rfl oT2 (Ro.refl _ _ _) A3.kz (show addO 0 89 = 89 from rfl) hw4.out
       have z4 := q4.size
       have r4 := range_same r3 (q4.same w2.heap.size (by omega) (by rw [k0]; omega))
       have L4 : Ld Tryz.prog 46 w2.heap.size 0 (Eq w4) (kSl x) := .of (load78 r4)
       repeat ((conv => whnf); first | refine Xl L4 ?_ | refine Xt ?_ | refine Xq ?_ | refine Xn ?_ | refine Xj ?_ | refine Xo ?_); try (conv => whnf)
       refine VCall.mk _ (stand_any A4 (Wk.less hd) x hxb.1) ?_
       rintro _ w5 ⟨rfl, K5, X5, A5, q5⟩
       refine ⟨_, rfl, ?_⟩
       have z5 := q5.size
       have eA5 : OrdAt w5 K5 r b (o.asgK (k + 1)) X5 := by rw [esucc, asg1_cons hd]; exact A5
       obtain ⟨W6, M6, F6⟩ := asgK_facts W M (k + 1) (by omega)
       have hkn6 := W6.kn
       have k5 : K5 w2.heap.size = 0 := (q5.kk _ (by omega)).trans k0
       have r5 := range_same r4 (q5.same w2.heap.size (by omega) (by rw [k0]; unfold inR; omega))
       have own4 : Owns w5 w.heap.size 48 9 eIS A' c' (o.asgL k) := own.same fun y hy => by
         have h5 := own.lo y hy
         have h6 := hrl y hy
         rw [q5.same y (by omega) (by rw [h6]; unfold inR; omega), q4.same y (by omega) (by rw [h6]; omega), c3.block y (by omega), s2.block y (by omega)]
       have hrl5 : ∀ y, blk A' = some y → K5 y = r + 5 := fun y hy => by
         have h5 := own.lo y hy
         rw [q5.kk y (by omega)]; exact hrl y hy
       have e5 : Ro (inR r) K K5 w w5 := ((qk.trans (.below (s2.trans (c3.mono s2.size)))).trans (q4.more fun y hy => by unfold inR; omega)).trans q5
       have s5 : Sm [b, w2.heap.size] w5 w5.drew := fun _ _ => rfl
       have b5 := eA5.cs.hb
       have P1 : Ld Tryz.prog 3 b 91 (Sm [b, w2.heap.size] w5) (.int .i64 o.pre) := by have := eA5.l_pre (l := [b, w2.heap.size]) (by simp); rw [F6.pre] at this; exact this
       have P2 : Ld Tryz.prog 46 w2.heap.size 0 (Sm [b, w2.heap.size] w5) (kSl x) := ⟨fun W' hW => load78 (range_same r5 (hW _ (by simp)))⟩
       have hl5 : ∀ y ∈ [b, w2.heap.size], y < w5.heap.size ∧ K5 y ≠ r + 5 := fun y hy => by
         simp only [List.mem_cons, List.not_mem_nil, or_false] at hy
         rcases hy with rfl | rfl
         · exact ⟨b5, by rw [eA5.kb]; omega⟩
         · exact ⟨by omega, by rw [k5]; omega⟩
       repeat ((conv => whnf); first | refine Xt ?_ | refine Xq ?_ | refine Xn ?_ | refine Xj ?_ | refine Xo ?_); try (conv => whnf)
       refine VDraw.pl 1000 (.one [0, 1, 3, 4, 5, 6, 7] 2 (.one [8] 9 (.one [] 10 (.stop [11])))) (Sm [b, w2.heap.size] w5) (by kernel_rfl) (s5) ?_
       repeat ((conv => whnf); first | refine Xl P1 ?_ | refine Xl P2 ?_ | refine Xt ?_ | refine Xq ?_ | refine Xn ?_ | refine Xj ?_ | refine Xo ?_); try (conv => whnf)
       refine VCall.mk _ (known_any (eA5.below (Below.refl _ w5).drew) (by omega)) ?_
       rintro _ w6 ⟨rfl, b6⟩
       refine ⟨_, rfl, ?_⟩
       have s6' : Below w5.heap.size w5 w6 := Below.trans (Below.drew (Below.refl _ w5)) b6
       have s6 : Sm [b, w2.heap.size] w5 w6 := .below s6' fun y hy => (hl5 y hy).1
       rw [F6.kn]
       obtain ⟨y, hy⟩ : ∃ y : ISl, y = ⟨o.known + k + 1, o.pre, x⟩ := ⟨_, rfl⟩
       have hyA : (#[.int .i64 2, .int .i64 0, .int .i64 0, .int .i64 0, .slice none 0 0, .int .i64 ((o.known + (k + 1) : Nat) : Int), .int .i64 o.pre, .int .i64 x.s, .int .i64 x.q] : Array Value) = isA y := by rw [hy]; rfl
       repeat ((conv => whnf); first | (refine VS.mk s6 ?_) | refine Xt ?_ | refine Xq ?_ | refine Xn ?_ | refine Xj ?_ | refine Xo ?_); try (conv => whnf)
       refine VBuild.mk (.agg (isA y)) (fun W' => by rw [← hyA]; exact build80s W' _ _ _ _) ?_
       repeat ((conv => whnf); first | refine Xt ?_ | refine Xq ?_ | refine Xn ?_ | refine Xj ?_ | refine Xo ?_); try (conv => whnf)
       refine VBs.mk _ _ (bs74 w6 y) ?_
       have d7 : Below w6.heap.size w6 (w6.alloc (.cells (isA y) 48)) := (Below.refl _ _).alloc (Nat.le_refl _) _
       have hnc : ∀ j u, (eIS y)[j]? = some u → (w6.alloc (.cells (isA y) 48)).cell? ⟨w6.heap.size, j, none⟩ = some u := fun j u hu => by
         have := range_new w6 (isA y) 48 j u hu
         rwa [Nat.zero_add] at this
       generalize w6.alloc (.cells (isA y) 48) = w7 at d7 hnc ⊢
       have s7' : Below w5.heap.size w5 w7 := s6'.trans (d7.mono s6'.size)
       have s7 : Sm [b, w2.heap.size] w5 w7 := .below s7' fun y hy => (hl5 y hy).1
       have z7 := s7'.size
       have z67 := d7.size
       have own7 := own4.keep s7' fun q hq => (own4.lo q hq).2
       have A7 := eA5.below s7'
       repeat ((conv => whnf); first | (refine VS.mk s7 ?_) | refine Xt ?_ | refine Xq ?_ | refine Xn ?_ | refine Xj ?_ | refine Xo ?_); try (conv => whnf)
       refine VApp.keep w.heap.size 9 88 _ Tryz.underlying58 info80 rfl (by decide) eIS (fun _ => rfl) one_eIS (o.asgL k) y ll own7 hnc (by omega) (by omega) (by omega) fun A8 c8 w8 oA8 _ hg8 hA8 => ?_
       have q8 : Ro (· = r + 5) K5 (roleN K5 A8 (r + 5)) w7 w8 := Ro.app hg8 hA8 hrl5
       have s8 : Sm [b, w2.heap.size] w5 w8 := s7.trans fun y hy => q8.same y (by have := (hl5 y hy).1; omega) (hl5 y hy).2
       have A8' := A7.ro q8 (fun y hy => by
         unfold roleN
         split
         · rename_i e; have := (oA8.lo y e).2; omega
         · exact A7.kz y (by have := q8.size; omega)) (by omega) (fun y hy => by simp only [inR, inB] at hy; omega)
       repeat ((conv => whnf); first | (refine VS.mk s8 ?_) | refine Xt ?_ | refine Xq ?_ | refine Xn ?_ | refine Xj ?_ | refine Xo ?_); try (conv => whnf)
       have hgd : (o.queue[k]?).getD ⟨0, 0⟩ = x := by rw [hx]; rfl
       refine .mk (k + 1, A8, c8) ⟨rfl, rfl, rfl, trivial⟩ ⟨hkN, _, X5, A8', by dsimp only; rw [lsucc, hgd, ← hy]; exact oA8, fun y hy => by unfold roleN; exact if_pos hy, (e5.trans (.below s7')).own hg8 (fun y hy => (own7.lo y hy).1) (roleN_old hA8 hrl5)⟩ (by show N - (k + 1) < N - k; omega)
     · obtain rfl : k = N := by omega
       by_cases c1 : (k : Int) < m
       · by_cases c2 : 0 < ok.queue.length
         · have c3 : ¬ ok.slots.length < o.most := by omega
           repeat ((conv => whnf); first | refine Xt ?_ | refine Xq ?_ | refine Xn ?_ | refine Xj ?_ | refine Xo ?_); try (conv => whnf)
           refine VDraw.pl 1000 (.one [0, 1, 2, 3, 4, 5, 6, 7, 8, 9, 10, 11, 12, 13, 14, 15, 16, 17, 18] 19 (.stop [20, 21])) (Below wk.heap.size wk) (by kernel_rfl) (sd) ?_
           repeat ((conv => whnf); first | refine Xl M1 ?_ | refine Xl M2 ?_ | refine Xt ?_ | refine Xq ?_ | refine Xn ?_ | refine Xj ?_ | refine Xo ?_); try (conv => whnf)
           refine VCall.mk _ (most_any (Ak.below sd) Wk.m16 Wk.win) ?_
           rintro _ w2 ⟨rfl, b2⟩
           refine ⟨_, rfl, ?_⟩
           rw [hmk]
           repeat ((conv => whnf); first | (refine VS.mk (sd.trans b2) ?_) | refine Xt ?_ | refine Xq ?_ | refine Xn ?_ | refine Xj ?_ | refine Xo ?_); try (conv => whnf)
           exact .mk (fin rfl _ (sd.trans b2))
         · repeat ((conv => whnf); first | refine Xt ?_ | refine Xq ?_ | refine Xn ?_ | refine Xj ?_ | refine Xo ?_); try (conv => whnf)
           refine VDraw.pl 1000 (.one [0, 1, 2, 3, 4, 5, 6, 7, 8, 9, 10, 11, 12, 13, 14, 15, 16, 17, 18] 19 (.stop [20, 21])) (Below wk.heap.size wk) (by kernel_rfl) (sd) ?_
           repeat ((conv => whnf); first | refine Xl M1 ?_ | refine Xl M2 ?_ | (refine VS.mk sd ?_) | refine Xt ?_ | refine Xq ?_ | refine Xn ?_ | refine Xj ?_ | refine Xo ?_); try (conv => whnf)
           exact .mk (fin rfl _ sd)
       · repeat ((conv => whnf); first | refine Xt ?_ | refine Xq ?_ | refine Xn ?_ | refine Xj ?_ | refine Xo ?_); try (conv => whnf)
         refine VDraw.pl 1000 (.one [0, 1, 2, 3, 4, 5, 6, 7, 8, 9, 10, 11, 12, 13, 14, 15, 16, 17, 18] 19 (.stop [20, 21])) (Below wk.heap.size wk) (by kernel_rfl) (sd) ?_
         repeat ((conv => whnf); first | refine Xl M1 ?_ | refine Xl M2 ?_ | (refine VS.mk sd ?_) | refine Xt ?_ | refine Xq ?_ | refine Xn ?_ | refine Xj ?_ | refine Xo ?_); try (conv => whnf)
         exact .mk (fin rfl _ sd)
end
end Go.Proofs.YtoilipfgimcoiaaGreat
namespace Go.Proofs.YtoilipfgimcoiaaGreat
open Go Go.RowKit
def NewO {α : Type} (w : World) (lo sz : Nat) (enc : α → List Value) (A : Option Addr) (c : Nat) (l : List α) : Prop :=
 (A = none ∧ l = [] ∧ c = 0) ∨ ∃ g off, A = some ⟨g, off, none⟩ ∧ lo ≤ g ∧ g < w.heap.size ∧ l.length ≤ c ∧ w.there g off (c * sz) ∧ ∀ k x, l[k]? = some x → ∀ j u, (enc x)[j]? = some u → w.cell? ⟨g, off + k * sz + j, none⟩ = some u
section
variable {α : Type} {w w' : World} {K : Nat → Nat} {lo sz c : Nat} {enc : α → List Value} {A : Option Addr} {l : List α}
theorem NewO.nil (w : World) (lo sz : Nat) (enc : α → List Value) : NewO w lo sz enc none 0 [] := .inl ⟨rfl, rfl, rfl⟩
theorem NewO.lo' (h : NewO w lo sz enc A c l) : ∀ g, blk A = some g → lo ≤ g ∧ g < w.heap.size := fun g hg => by
 rcases h with ⟨e, -⟩ | ⟨g', off, e, h1, h2, -⟩
 · rw [e] at hg; cases hg
 · rw [e] at hg; injection hg with hg; subst hg; exact ⟨h1, h2⟩
theorem NewO.own (h : NewO w lo sz enc A c l) {q : Nat} (hK : ∀ g, blk A = some g → K g = q) : OwnO w K q sz enc A c l := by
 rcases h with h | ⟨g, off, e, h1, h2, h3, h4, h5⟩
 · exact .inl h
 · exact .inr ⟨g, off, e, h2, hK g (by rw [e]; rfl), h3, h4, h5⟩
theorem NewO.of {q : Nat} (h : OwnO w K q sz enc A c l) (hlo : ∀ g, blk A = some g → lo ≤ g) : NewO w lo sz enc A c l := by
 rcases h with h | ⟨g, off, e, h1, h2, h3, h4, h5⟩
 · exact .inl h
 · exact .inr ⟨g, off, e, hlo g (by rw [e]; rfl), h1, h3, h4, h5⟩
theorem NewO.same (h : NewO w lo sz enc A c l) (hs : w.heap.size ≤ w'.heap.size) (hb : ∀ g, blk A = some g → w'.heap[g]? = w.heap[g]?) : NewO w' lo sz enc A c l := by
 rcases h with h | ⟨g, off, e, h1, h2, h3, h4, h5⟩
 · exact .inl h
 · have hg := hb g (by rw [e]; rfl)
   exact .inr ⟨g, off, e, h1, Nat.lt_of_lt_of_le h2 hs, h3, there_sameO h4 hg, fun k x hx j u hu => (World.cell?_of_block (a := ⟨g, _, none⟩) hg).trans (h5 k x hx j u hu)⟩
theorem NewO.below (h : NewO w lo sz enc A c l) (hb : Below w.heap.size w w') : NewO w' lo sz enc A c l :=
 h.same hb.size fun g hg => hb.block g (h.lo' g hg).2
theorem NewO.less (h : NewO w lo sz enc A c l) {lo' : Nat} (hl : lo' ≤ lo) : NewO w lo' sz enc A c l := by
 rcases h with h | ⟨g, off, e, h1, h⟩
 · exact .inl h
 · exact .inr ⟨g, off, e, by omega, h⟩
theorem NewO.row (h : NewO w lo sz enc A c l) : RowAt w w.heap.size sz enc A l := fun hl => by
 rcases h with ⟨-, e, -⟩ | ⟨g, off, e, h1, h2, h3, h4, h5⟩
 · rw [e] at hl; exact absurd hl (by simp)
 · exact ⟨g, off, e, h2, h5⟩
theorem NewO.rowK (h : NewO w lo sz enc A c l) (hK : ∀ y, lo ≤ y → K y = 0) : RowK w K sz enc A l := fun hl => by
 rcases h with ⟨-, e, -⟩ | ⟨g, off, e, h1, h2, h3, h4, h5⟩
 · rw [e] at hl; exact absurd hl (by simp)
 · exact ⟨g, off, e, h2, hK g h1, h5⟩
theorem NewO.owns {e : TypeId} (h : Owns w lo e sz enc A c l) (henc : ∀ x, (enc x).length = sz) : NewO w lo sz enc A c l := by
 have hr := h.row henc
 obtain ⟨hl, h⟩ := h
 rcases h with ⟨e1, e2⟩ | ⟨g, cap, cur, e1, h1, h2, h3, h4, h5, h6⟩
 · injection e1 with e1 e3 e4
   exact .inl ⟨e1, List.eq_nil_of_length_eq_zero e2, e4⟩
 · injection e1 with e1 e3 e4
   subst e4
   have hg : g < w.heap.size := (Array.getElem?_eq_some_iff.1 h2).1
   refine .inr ⟨g, 0, e1, h1, hg, h3, fun j hj => ?_, fun k x hx j u hu => ?_⟩
   · have hj2 : j < cur.size := by rw [h5]; exact hj
     rw [Nat.zero_add]
     refine ⟨?_, ?_⟩
     · simp [World.cell?, h2, hj2]
     · simp [World.frozen?, h2]
   · obtain ⟨g', off, e', -, h7⟩ := hr (by have := (List.getElem?_eq_some_iff.1 hx).1; omega)
     rw [e1] at e'
     injection e' with e'
     injection e' with e5 e6 _
     subst e5 e6
     exact h7 k x hx j u hu
end
def Apart (l : List (Option Addr)) : Prop := (l.filterMap blk).Nodup
end Go.Proofs.YtoilipfgimcoiaaGreat
namespace Go.Proofs.YtoilipfgimcoiaaGreat
open Go Go.RowKit
section
variable {P : Program} {ops : Array Oper} {md : Region.Mode} {S : World → Prop} {Q : Exit → Act → World → Prop} {C : Nat → Array Bool → Act → World → Prop}
def wpAnyM (P : Program) (md : Region.Mode) (ops : Array Oper) (Q : Exit → Act → World → Prop) (S : World → Prop) (z : Nat) (C : Nat → Array Bool → Act → World → Prop) : Nat → Array Bool → Act → World → Prop
 | 0, L, a, w => C 0 L a w
 | fuel + 1, L, a, w => C (fuel + 1) L a w ∨ (Region.ready md ops L ≠ [] ∧ ∀ i ∈ Region.ready md ops L, wpOp P ops Q i (fun a' w' => (i = z ∨ S w') ∧ wpAnyM P md ops Q S z C fuel (L.setIfInBounds i true) a' w') a w)
theorem wpAnyM_first {n i z : Nat} {oi : Oper} {v : Value} (hi : ops[i]? = some oi) (hz : waitsTE md ops n z i = true) (hsel : ∀ (j : Nat) (o : Oper) cs b, ops[j]? = some o → o.op ≠ .select cs b)
   (hQ : ∀ c a w, Q (.panic c) (a.put oi.dst v) w → Q (.panic c) a w) (hC : ∀ f L a w, C f L a w → Region.ready md ops L = [z]) :
   ∀ (fuel : Nat) (listed : Array Bool) (a : Act) (w : World), ClosedE md ops listed →
     (∀ j oj, ops[j]? = some oj → j ≠ i → listed.getD j true = false → (∀ e ∈ oj.after, Region.binds md e = true → e.on ≠ i) → oi.apart ops oj = true) →
     i ∈ Region.ready md ops listed → YieldsIf P ops S oi v a → S w →
     wpAnyM P md ops Q S z C fuel (listed.setIfInBounds i true) (a.put oi.dst v) w → wpAnyM P md ops Q S z C (fuel + 1) listed a w := by
 intro fuel
 induction fuel with
 | zero =>
   intro listed a w hcl _ hr hy hS H
   refine .inr ⟨fun h => (by rw [h] at hr; cases hr), fun j hj => ?_⟩
   by_cases hji : j = i
   · subst hji; exact hy.wpOp hi hS ⟨.inr hS, H⟩
   · have := ready_mono hj hji
     rw [hC _ _ _ _ H, List.mem_singleton] at this
     subst this
     exact absurd hj (waitsT_notE hz hcl (mem_ready.1 hr).1)
 | succ fuel ih =>
   intro listed a w hcl hfree hr hy hS H
   refine .inr ⟨fun h => (by rw [h] at hr; cases hr), fun j hj => ?_⟩
   by_cases hji : j = i
   · subst hji; exact hy.wpOp hi hS ⟨.inr hS, H⟩
   · have hjz : j ≠ z := fun e => by subst e; exact waitsT_notE hz hcl (mem_ready.1 hr).1 hj
     rcases H with H | H
     · have := ready_mono hj hji
       rw [hC _ _ _ _ H, List.mem_singleton] at this
       exact absurd this hjz
     · have h1 := H.2 j (ready_mono hj hji)
       obtain ⟨hjun, oj, hoj, hall⟩ := mem_ready.1 hj
       have hnot : ∀ e ∈ oj.after, Region.binds md e = true → e.on ≠ i := fun e he hb heq => by
         have h1 := hall e he hb
         rw [heq, getD_both (mem_ready.1 hr).1] at h1; cases h1
       have h2 := wpOp_putIf hoj (hfree j oj hoj hji hjun hnot) (fun cs b => hsel i oi cs b hi) (fun cs b => hsel j oj cs b hoj) hQ hy h1
       have hfree' : ∀ k ok, ops[k]? = some ok → k ≠ i → (listed.setIfInBounds j true).getD k true = false →
           (∀ e ∈ ok.after, Region.binds md e = true → e.on ≠ i) → oi.apart ops ok = true := fun k ok hk hki hun hno => by
         refine hfree k ok hk hki ?_ hno
         by_cases hjk : j = k
         · subst hjk; exact hjun
         · rw [getD_set_ne true hjk] at hun; exact hun
       refine wpOp_mono (fun a' w' h3 => ⟨h3.2.1, ih (listed.setIfInBounds j true) a' w' (hcl.set hj) hfree' (ready_mono hr (Ne.symm hji)) h3.1 (h3.2.1.resolve_left hjz) ?_⟩) h2
       rw [Array.setIfInBounds_comm _ _ hji]
       exact h3.2.2
def plM (md : Region.Mode) (ops : Array Oper) (z m : Nat) (Lf : Array Bool) : Nat → Array Bool → Pl → Bool
 | n, L, .stop last => match runB3E md ops z L last with
   | some L' => decide (L' = Lf) && decide (n = last.length + m)
   | none => false
 | n, L, .one is i r => match runB3E md ops z L is with
   | some L' => decide (Region.ready md ops L' = [i]) && decide (i < ops.size) && decide (i ≠ z) && decide (is.length + 1 ≤ n) && plM md ops z m Lf (n - (is.length + 1)) (L'.setIfInBounds i true) r
   | none => false
 | _, _, .two _ _ _ _ _ => false
 | _, _, .three _ _ _ _ _ _ _ => false
def plOkM (l : List Oper) (z m : Nat) (Lf : Array Bool) (p : Pl) : Bool := Region.noSelect l.toArray && decide (z < l.toArray.size) && decide (Region.ready .any l.toArray Lf = [z]) && plM .any l.toArray z m Lf l.length (Array.replicate l.toArray.size false) p
variable {l : List Oper} {z m : Nat} {w : World} {a : Act} {Lf : Array Bool}
theorem run_okM (hzs : z < l.toArray.size) (hsel : Region.noSelect l.toArray = true) (hQ : ∀ c a d v w, Q (.panic c) (Act.put a d v) w → Q (.panic c) a w) (hC : ∀ f L a w, C f L a w → Region.ready md l.toArray L = [z]) {K : Act → Prop} {fuel : Nat} :
   ∀ (is : List Nat) (L L' : Array Bool) (a : Act), ClosedE md l.toArray L → S w → runB3E md l.toArray z L is = some L' → (∀ a', ClosedE md l.toArray L' → K a' → wpAnyM P md l.toArray Q S z C fuel L' a' w) → wpQuiet P l.toArray S K (picksE l is) a → wpAnyM P md l.toArray Q S z C (is.length + fuel) L a w
 | [], L, L', a, hcl, _, hb, hK, h => by
   cases hb
   simpa using hK a hcl h
 | i :: r, L, L', a, hcl, hS, hb, hK, h => by
   unfold runB3E at hb
   split at hb
   · rename_i hc
     simp only [Bool.and_eq_true, decide_eq_true_eq, beq_iff_eq] at hc
     obtain ⟨⟨⟨⟨h1, h2⟩, h3⟩, h4⟩, h5⟩ := hc
     have h5' : waitsTE md l.toArray 4 z i = true := by
       rw [Bool.or_eq_true, decide_eq_true_eq] at h5
       exact h5.resolve_left (by omega)
     have ho : l.toArray[i]? = some l.toArray[i] := Array.getElem?_eq_getElem h3
     generalize l.toArray[i] = o at ho
     have hol : l[i]? = some o := by simpa using ho
     rw [picksE, pick_ofE hol, List.singleton_append] at h
     rw [ho] at h4
     have h4' : plainBE o = true := by simpa using h4
     have key : ∃ v, YieldsIf P l.toArray S o v a ∧ wpQuiet P l.toArray S K (picksE l r) (a.put o.dst v) := by
       unfold wpQuiet at h
       by_cases hw : Region.wanted o (yielded l.toArray a.tmps) = true
       · rw [if_pos hw] at h
         obtain ⟨v, e1, e2⟩ := h
         exact ⟨v, yields_of_quietE h4' hw e1, e2⟩
       · rw [if_neg hw] at h
         exact ⟨undef, .inr ⟨by simpa using hw, rfl⟩, h⟩
     obtain ⟨v, hy, hr⟩ := key
     have hri : i ∈ Region.ready md l.toArray L := by simpa using h2
     have := wpAnyM_first (z := z) ho h5' (Region.noSelect_spec hsel) (fun c a w => hQ c a _ _ w) hC (r.length + fuel) L a w hcl (Region.free_spec ho h1) hri hy hS (run_okM hzs hsel hQ hC r _ L' _ (hcl.set hri) hS hb hK hr)
     rw [show (i :: r).length + fuel = r.length + fuel + 1 by simp; omega]
     exact this
   · cases hb
theorem opM_ok {i n : Nat} {K : Act → World → Prop} {L' : Array Bool} {a' : Act} (b2 : i < l.toArray.size) (hS : S w) (h' : opPE P l z S Q i w K a')
   (ih : ∀ a2 w2, (i = z ∨ S w2) → K a2 w2 → wpAnyM P md l.toArray Q S z C n (L'.setIfInBounds i true) a2 w2) : wpOp P l.toArray Q i (fun a' w' => (i = z ∨ S w') ∧ wpAnyM P md l.toArray Q S z C n (L'.setIfInBounds i true) a' w') a' w := by
 have ho : l.toArray[i]? = some l.toArray[i] := Array.getElem?_eq_getElem b2
 generalize l.toArray[i] = o at ho
 have hol : l[i]? = some o := by simpa using ho
 have h2 := h' o (pick_ofE hol)
 unfold wpOp
 simp only [ho]
 split
 · rename_i hw
   rw [if_pos hw] at h2
   exact .inl (Oper.wp_mono (fun a3 w3 h3 => ⟨h3.1, ih a3 w3 h3.1 h3.2⟩) h2)
 · rename_i hw
   rw [if_neg hw] at h2
   exact ⟨.inr hS, ih _ _ (.inr hS) h2⟩
theorem pl_okM (hzs : z < l.toArray.size) (hsel : Region.noSelect l.toArray = true) (hQ : ∀ c a d v w, Q (.panic c) (Act.put a d v) w → Q (.panic c) a w) (hR : Region.ready md l.toArray Lf = [z]) :
   ∀ (p : Pl) (n : Nat) (L : Array Bool) (a : Act) (w : World), ClosedE md l.toArray L → plM md l.toArray z m Lf n L p = true → S w → woPE P l z S Q p a w → wpAnyM P md l.toArray Q S z (fun f L' a' w' => f = m ∧ L' = Lf ∧ Q .normal a' w') n L a w
 | .stop last, n, L, a, w, hcl, hb, hS, h => by
   have hC : ∀ f L' a' w', (f = m ∧ L' = Lf ∧ Q .normal a' w') → Region.ready md l.toArray L' = [z] := fun _ _ _ _ h => by rw [h.2.1]; exact hR
   unfold plM at hb
   cases hr : runB3E md l.toArray z L last with
   | none => rw [hr] at hb; simp at hb
   | some L' =>
     rw [hr] at hb
     simp only [Bool.and_eq_true, decide_eq_true_eq] at hb
     have := run_okM (fuel := m) hzs hsel hQ hC last L L' a hcl hS hr (K := fun a' => Q .normal a' w) (fun a' _ h' => by
       cases m with
       | zero => exact ⟨rfl, hb.1, h'⟩
       | succ m => exact .inl ⟨rfl, hb.1, h'⟩) h
     rw [hb.2]; exact this
 | .one is i r, n, L, a, w, hcl, hb, hS, h => by
   have hC : ∀ f L' a' w', (f = m ∧ L' = Lf ∧ Q .normal a' w') → Region.ready md l.toArray L' = [z] := fun _ _ _ _ h => by rw [h.2.1]; exact hR
   unfold plM at hb
   cases hr : runB3E md l.toArray z L is with
   | none => rw [hr] at hb; simp at hb
   | some L' =>
     rw [hr] at hb
     simp only [Bool.and_eq_true, decide_eq_true_eq] at hb
     obtain ⟨⟨⟨⟨b1, b2⟩, b4⟩, b5⟩, b3⟩ := hb
     have := run_okM (fuel := n - (is.length + 1) + 1) hzs hsel hQ hC is L L' a hcl hS hr (fun a' hcl' h' => (by
       have hri : i ∈ Region.ready md l.toArray L' := by rw [b1]; simp
       refine .inr ⟨fun h0 => (by rw [b1] at h0; cases h0), fun j hj => ?_⟩
       rw [b1] at hj
       obtain rfl : j = i := by simpa using hj
       exact opM_ok b2 hS h' fun a2 w2 hs hk => pl_okM hzs hsel hQ hR r _ _ a2 w2 (hcl'.set hri) b3 (hs.resolve_left b4) hk)) h
     rw [show n = is.length + (n - (is.length + 1) + 1) by omega]
     exact this
 | .two _ _ _ _ _, n, L, a, w, hcl, hb, hS, h => by unfold plM at hb; cases hb
 | .three _ _ _ _ _ _ _, n, L, a, w, hcl, hb, hS, h => by unfold plM at hb; cases hb
theorem Oper.wp_wide {o : Oper} {next : Act → World → Prop} {Q' : Exit → Act → World → Prop} (hq : ∀ e a w, Q e a w → e = .normal) (h : o.wp P a w next Q) : o.wpIn Fence.wide 0 P a w next Q' := by
 refine ⟨fun _ _ => trivial, ?_⟩
 have e : o.semAt Fence.wide.round a.eval = execOp a.eval o := Oper.semAt_none _ _
 rw [e]
 unfold Oper.wp at h
 generalize (execOp a.eval o).run P w = r at *
 cases r with
 | ok x w' =>
   cases x <;> simp only [Oper.upon] at h ⊢
   case value v => exact h
   case skip => exact h
   case defer d => exact h
   case enter f args =>
     refine ⟨fun hh => by simp [Fence.wide] at hh, callsIn_wide.2 (Calls.mono h fun e w'' he => ?_)⟩
     cases e with
     | returned v => exact he
     | panicked c => cases hq _ _ _ he
     | outgrown => obtain ⟨a0, w0, h0⟩ := he; cases hq _ _ _ h0
   case row row args =>
     refine ⟨fun hh => by simp [Fence.wide] at hh, fun c cs _ => ?_⟩
     obtain ⟨v, w'', r, s⟩ := h c cs
     exact ⟨v, w'', r, stepsIn_wide.2 s⟩
 | halt x w' =>
   cases x <;> simp only [Oper.upon] at h
   case panic v => cases hq _ _ _ h
theorem wpOp_wide {i : Nat} {K : Act → World → Prop} {Q' : Exit → Act → World → Prop} (hq : ∀ e a w, Q e a w → e = .normal) (h : wpOp P ops Q i K a w) : wpOpIn Fence.wide 0 P ops Q' i K a w := by
 unfold wpOp at h
 unfold wpOpIn
 split
 · rename_i e; simp only [e] at h; exact h
 · rename_i o e
   simp only [e] at h
   split
   · rename_i hw
     rw [if_pos hw] at h
     refine Oper.wp_wide hq ?_
     rcases h with h | ⟨-, a0, w0, h0⟩
     · exact h
     · cases hq _ _ _ h0
   · rename_i hw
     rw [if_neg hw] at h
     exact ⟨fun _ _ => trivial, h⟩
theorem wpAnyIn_of_M {Q' : Exit → Act → World → Prop} (hq : ∀ e a w, Q e a w → e = .normal) (hC : ∀ f L a w, C f L a w → wpAnyIn Fence.wide 0 P md ops Q' f L a w) : ∀ (fuel : Nat) (L : Array Bool) (a : Act) (w : World), wpAnyM P md ops Q S z C fuel L a w → wpAnyIn Fence.wide 0 P md ops Q' fuel L a w
 | 0, _, _, _, h => hC _ _ _ _ h
 | fuel + 1, _, _, _, h => by
   rcases h with h | h
   · exact hC _ _ _ _ h
   · exact ⟨fun e => absurd e h.1, fun i hi => wpOpIn_mono (fun a' w' h' => wpAnyIn_of_M hq hC fuel _ a' w' h'.2) (wpOp_wide hq (h.2 i hi))⟩
theorem wp_region_M {id : Nat} (z m : Nat) (Lf : Array Bool) (p : Pl) (S : World → Prop) (hm : P.follows .mixedOrders = true) (hB : plOkM l z m Lf p = true) {K : Act → World → Prop}
   (hS : S w.drew) (h : woPE P l z S (fun e a w => e = .normal ∧ K a w) p a w.drew) (hK : ∀ a' w', K a' w' → wpAnyIn Fence.wide 0 P .any l.toArray Q m Lf a' w') : (Code.region id l.toArray true).wp P Q a w := by
 unfold plOkM at hB
 simp only [Bool.and_eq_true, decide_eq_true_eq] at hB
 obtain ⟨⟨⟨b1, b2⟩, b3⟩, b4⟩ := hB
 refine (wpIn_wide (n := 0)).1 (wpIn_region_any hm (wpAnyIn_of_M (S := S) (z := z) (Q := fun e a w => e = .normal ∧ K a w) (C := fun f L' a' w' => f = m ∧ L' = Lf ∧ (Exit.normal = .normal ∧ K a' w')) (fun _ _ _ h => h.1) (fun f L a w hc => by
   obtain ⟨rfl, rfl, -, hc⟩ := hc; exact hK _ _ hc) _ _ _ _ ?_))
 have := pl_okM (Q := fun e a w => e = .normal ∧ K a w) (m := m) (md := .any) b2 b1 (fun _ _ _ _ _ h => by cases h.1) b3 p _ _ a _ (closed_newE _) b4 hS h
 simpa using this
end
end Go.Proofs.YtoilipfgimcoiaaGreat
