/- SzP SzQ SzR, joined. -/
import Derived.Test.YtoilipfgimcoiaaGreatOz14
import Derived.Test.YtoilipfgimcoiaaGreatOz15
import Derived.Test.YtoilipfgimcoiaaGreatOz17
set_option linter.unusedVariables false
set_option linter.unusedSimpArgs false
namespace Go.Proofs.YtoilipfgimcoiaaGreat
open Go Go.RowKit
def msgS (f : Rf) (s : Nat) (l : List Dt) : List Dt := l.filter fun d => decide (d.s = s) && f.keeps d
def msgA (f : Rf) : Nat → List Dt
 | 0 => []
 | s + 1 => msgA f s ++ msgS f s f.came
theorem msgA_len (f : Rf) : ∀ s, (msgA f s).length ≤ s * f.came.length
 | 0 => Nat.zero_le _
 | s + 1 => by
   have := msgA_len f s
   have h2 : (msgS f s f.came).length ≤ f.came.length := List.length_filter_le _ _
   rw [msgA, List.length_append, Nat.add_mul, Nat.one_mul]; omega
theorem mem_msgA (f : Rf) (d : Dt) : ∀ s, d ∈ msgA f s ↔ d ∈ f.came ∧ f.keeps d = true ∧ d.s < s
 | 0 => by simp [msgA]
 | s + 1 => by
   rw [msgA, List.mem_append, mem_msgA f d s]
   unfold msgS
   rw [List.mem_filter, Bool.and_eq_true, decide_eq_true_eq]
   constructor
   · rintro (⟨h1, h2, h3⟩ | ⟨h1, h2, h3⟩)
     · exact ⟨h1, h2, by omega⟩
     · exact ⟨h1, h3, by omega⟩
   · rintro ⟨h1, h2, h3⟩
     by_cases e : d.s = s
     · exact .inr ⟨h1, e, h2⟩
     · exact .inl ⟨h1, h2, by omega⟩
theorem SeqQ.rise {f : Rf} (h : SeqQ f.C) : f.came.Pairwise fun d e => d.s = e.s → d.q < e.q := by
 rw [List.pairwise_iff_getElem]
 intro i j hi hj hij e
 have hl : f.C.length = f.came.length := C_len f
 have hci : f.C[i]? = some f.came[i].sl := by unfold Rf.C; rw [List.getElem?_map, List.getElem?_eq_getElem hi]; rfl
 have hcj : f.C[j]? = some f.came[j].sl := by unfold Rf.C; rw [List.getElem?_map, List.getElem?_eq_getElem hj]; rfl
 have h1 := h i _ hci
 have h2 := h j _ hcj
 have h3 : cnt f.came[i].s (f.C.take (i + 1)) ≤ cnt f.came[i].s (f.C.take j) := cnt_mono _ _ (by omega)
 rw [cnt_take_one hci, if_pos (show f.came[i].sl.s = f.came[i].s from rfl)] at h3
 have h1 : f.came[i].q = cnt f.came[i].s (f.C.take i) + 1 := h1
 have h2 : f.came[j].q = cnt f.came[j].s (f.C.take j) + 1 := h2
 rw [← e] at h2
 omega
theorem msgA_srt {f : Rf} (h : SeqQ f.C) : ∀ s, (msgA f s).Pairwise ltD
 | 0 => List.Pairwise.nil
 | s + 1 => by
   rw [msgA, List.pairwise_append]
   refine ⟨msgA_srt h s, ?_, fun a ha b hb => .inl ?_⟩
   · unfold msgS
     refine List.Pairwise.imp_of_mem ?_ (h.rise.filter _)
     intro a b ha hb hab
     have h1 := (List.mem_filter.1 ha).2
     have h2 := (List.mem_filter.1 hb).2
     rw [Bool.and_eq_true, decide_eq_true_eq] at h1 h2
     exact .inr ⟨h1.1.trans h2.1.symm, hab (h1.1.trans h2.1.symm)⟩
   · have h1 := ((mem_msgA f a s).1 ha).2.2
     have h2 := (List.mem_filter.1 hb).2
     rw [Bool.and_eq_true, decide_eq_true_eq] at h2
     omega
theorem Sim.msgOf {T : Nat} {o : Os} {f : Rf} (h : Sim T o f) : MsgOf o.held (msgA f 16) := by
 refine ⟨?_, msgA_srt h.cq 16⟩
 rw [h.hd]
 have n1 : (msgA f 16).Nodup := List.nodup_iff_pairwise_ne.2 ((msgA_srt h.cq 16).imp fun {a b} (hab : ltD a b) (e : a = b) => ltD_irrefl b (by rw [e] at hab; exact hab))
 have n2 : f.came.Nodup := by
   have := h.cq.nodup
   unfold Rf.C at this
   rw [List.nodup_iff_pairwise_ne, List.pairwise_map] at this
   exact this.imp fun hab e => hab (by rw [e])
 refine perm_nodup _ _ n1 (n2.filter _) fun d => ?_
 rw [mem_msgA, List.mem_filter]
 exact ⟨fun ⟨a, b, _⟩ => ⟨a, b⟩, fun ⟨a, b⟩ => ⟨a, b, h.mlt _ (h.cm d a)⟩⟩
theorem msgS_take {f : Rf} {s : Nat} {l : List Dt} {k : Nat} {d : Dt} (hd : l[k]? = some d) : msgS f s (l.take (k + 1)) = msgS f s (l.take k) ++ if d.s = s ∧ f.keeps d = true then [d] else [] := by
 unfold msgS
 rw [take_one hd, List.filter_append]
 congr 1
 by_cases h1 : d.s = s <;> cases h2 : f.keeps d <;> simp [h1, h2]
structure MsI (w : World) (A : Option Addr) (c : Nat) (xs : List DtX) (κ : Nat → Nat) (W : World) : Prop where
 be : Below w.heap.size w W
 ow : OwnO W κ 1 4 eDx A c xs
 bo : ∀ x ∈ xs, RowK W κ 1 eByte x.A x.d.b
 old : ∀ y, y < w.heap.size → κ y = 0
 kz : ∀ y, W.heap.size ≤ y → κ y = 0
section
variable {K K' : Nat → Nat} {w w' : World} {r b T : Nat} {f : Rf} {X : RfX} {o : Os}
theorem MsI.step {A : Option Addr} {c : Nat} {xs : List DtX} {κ : Nat → Nat} {W W' : World} (I : MsI w A c xs κ W) (h : Below W.heap.size W W') : MsI w A c xs κ W' :=
 ⟨I.be.trans (h.mono I.be.size), I.ow.ro (Ro.below (R := fun _ => False) h) id, fun x hx => (I.bo x hx).ro (Ro.below (R := fun _ => False) h) id, I.old, fun y hy => I.kz y (Nat.le_trans h.size hy)⟩
set_option maxRecDepth 100000 in
set_option maxHeartbeats 8000000 in
theorem rmessages_any (A : RefAt w K r b f X) (hp : PosOk f X) (h : Sim T o f) (hT : T ≤ 100000) :
   Calls Tryz.prog 27 #[.pointer (some ⟨b, 0, none⟩)] w fun e w' => ∃ A' c' xs, e = .returned (.slice A' xs.length c') ∧ RowAt w' w'.heap.size 4 eDx A' xs ∧ (∀ x ∈ xs, RowAt w' w'.heap.size 1 eByte x.A x.d.b) ∧ MsgOf o.held (xs.map (·.d)) ∧ Below w.heap.size w w' := by
 refine calls_vc tab_ok Tryz.func27 rfl ?_
 have hbz := A.hb
 have t1 := h.T1
 have hcl := A.clen
 conv => whnf
 repeat ((conv => whnf); first | refine Xt ?_ | refine Xq ?_ | refine Xn ?_ | refine Xj ?_ | refine Xo ?_); try (conv => whnf)
 refine VLoop.mk (Option Addr × Nat × List DtX × Nat) (fun u => [(0, .pointer (some ⟨b, 0, none⟩)), (3, .slice u.1 u.2.2.1.length u.2.1), (4, .int .i64 u.2.2.2)]) (fun u W => ∃ κ, u.2.2.2 ≤ 16 ∧ u.2.2.1.map (·.d) = msgA f u.2.2.2 ∧ MsI w u.1 u.2.1 u.2.2.1 κ W) (fun u => 16 - u.2.2.2) (none, 0, [], 0) ⟨rfl, rfl, rfl, trivial⟩ ⟨fun _ => 0, by show 0 ≤ 16; omega, rfl, ⟨Below.refl _ _, OwnO.nil _ _ _ _ _, fun x hx => (List.not_mem_nil hx).elim, fun _ _ => rfl, fun _ _ => rfl⟩⟩ ?_
 rintro ⟨A0, c0, xs0, s⟩ W0 ⟨κ0, hs, hx0, I0⟩
 have hs : s ≤ 16 := hs
 have hx0 : xs0.map (·.d) = msgA f s := hx0
 have I0 : MsI w A0 c0 xs0 κ0 W0 := I0
 dsimp only
 by_cases hsn : s < 16
 case neg =>
   obtain rfl : s = 16 := by omega
   repeat ((conv => whnf); first | refine Xt ?_ | refine Xq ?_ | refine Xn ?_ | refine Xj ?_ | refine Xo ?_); try (conv => whnf)
   exact .mk ⟨A0, c0, xs0, rfl, I0.ow.row, fun x hx => (I0.bo x hx).row, by rw [hx0]; exact h.msgOf, I0.be⟩
 repeat ((conv => whnf); first | refine Xt ?_ | refine Xq ?_ | refine Xn ?_ | refine Xj ?_ | refine Xo ?_); try (conv => whnf)
 refine VLoop.mk (Option Addr × Nat × List DtX × Nat) (fun u => [(0, .pointer (some ⟨b, 0, none⟩)), (3, .slice u.1 u.2.2.1.length u.2.1), (4, .int .i64 s), (5, .int .i64 u.2.2.2)]) (fun u W => ∃ κ, u.2.2.2 ≤ f.came.length ∧ u.2.2.1.map (·.d) = msgA f s ++ msgS f s (f.came.take u.2.2.2) ∧ MsI w u.1 u.2.1 u.2.2.1 κ W) (fun u => f.came.length - u.2.2.2) (A0, c0, xs0, 0) ⟨rfl, rfl, rfl, rfl, trivial⟩ ⟨κ0, Nat.zero_le _, by show xs0.map (·.d) = msgA f s ++ msgS f s (f.came.take 0); rw [hx0]; simp [msgS], I0⟩ ?_
 clear I0 hx0
 rintro ⟨A1, c1, xs, i⟩ W ⟨κ, hil, hx1, I1⟩
 have hil : i ≤ f.came.length := hil
 have hx1 : xs.map (·.d) = msgA f s ++ msgS f s (f.came.take i) := hx1
 have I : MsI w A1 c1 xs κ W := I1
 clear I1
 dsimp only
 have AW := A.below I.be
 have L0 := AW.l_came (l := [b]) (by simp)
 have s0 := Sm.refl [b] W
 by_cases hin : i < f.came.length
 case neg =>
   obtain rfl : i = f.came.length := by omega
   rw [List.take_length] at hx1
   repeat ((conv => whnf); first | refine Xl (L0.at s0) ?_ | refine Xt ?_ | refine Xq ?_ | refine Xn ?_ | refine Xj ?_ | refine Xo ?_); try (conv => whnf)
   exact .mk (A1, c1, xs, s + 1) ⟨rfl, rfl, rfl, trivial⟩ ⟨κ, hsn, hx1, I⟩ (by show 16 - (s + 1) < 16 - s; omega)
 have hxl : xs.length ≤ 1700000 := by
   have e1 := congrArg List.length hx1
   rw [List.length_map, List.length_append] at e1
   have e2 := msgA_len f s
   have e3 : (msgS f s (f.came.take i)).length ≤ f.came.length := Nat.le_trans (List.length_filter_le _ _) (by rw [List.length_take]; omega)
   have e4 : s * f.came.length ≤ 16 * 100000 := Nat.mul_le_mul hs (by omega)
   omega
 obtain ⟨g, off, eA, g1, -, -, -, g5⟩ := AW.cr.get (by omega)
 obtain ⟨x, hx⟩ : ∃ x, X.cl[i]? = some x := ⟨_, List.getElem?_eq_getElem (by omega)⟩
 have hd : f.came[i]? = some x.d := by rw [← A.cv, List.getElem?_map, hx]; rfl
 have hk := hp.keeps h.sq (List.mem_of_getElem? hx)
 have hbl := h.bl x.d (List.mem_of_getElem? hd)
 rw [eA] at L0
 have L2 : Ld Tryz.prog 125 g (off + mulO i 5) (Eq W) (.agg (cmA x.d.s x.d.q x.d.st x.A x.d.b.length x.c x.p)) := .of (load_agg (cs := eCm x) (by kernel_rfl) (by kernel_rfl) fun j u hu => by rw [mulO_eq]; exact g5 i x hx j u hu)
 have ht := msgS_take (f := f) (s := s) hd
 repeat ((conv => whnf); first | refine Xl (L0.at s0) ?_ | refine Xl L2 ?_ | refine Xt ?_ | refine Xq ?_ | refine Xn ?_ | refine Xj ?_ | refine Xo ?_); try (conv => whnf)
 refine .mk _ run_zero125 ?_
 conv => whnf
 refine .mk fun u3 hu3 => ?_
 repeat ((conv => whnf); first | refine Xt ?_ | refine Xq ?_ | refine Xn ?_ | refine Xj ?_ | refine Xo ?_); try (conv => whnf)
 obtain ⟨bt, hbt⟩ : ∃ bt, bt = W.heap.size := ⟨_, rfl⟩
 refine VStore.new (c' := cmA x.d.s x.d.q x.d.st x.A x.d.b.length x.c x.p) hu3 (by kernel_rfl) rfl (one_cmA _ _ _ _ _ _ _) fun w4 hw4 => ?_
 rw [← hbt]
 have b4 : Below W.heap.size W w4 := by rw [hw4.out]; exact (Below.refl _ _).alloc (Nat.le_refl _) _
 have z4 : w4.heap.size = W.heap.size + 1 := by rw [hw4.out]; exact World.size_alloc _ _
 have r4 : w4.rangeAt bt 0 (cmA x.d.s x.d.q x.d.st x.A x.d.b.length x.c x.p).toList := by rw [hw4.out, hbt]; exact range_new W _ 125
 clear hw4 hu3
 clear u3
 have I4 := I.step b4
 have A4 := A.below I4.be
 have D0 : Ld Tryz.prog 3 bt (addO (addO 0 0) 0) (Eq w4) (.int .i64 x.d.s) := .of (load3 (r4 0 _ rfl))
 by_cases he : x.d.s = s
 case neg =>
   rw [if_neg (fun e => he e.1), List.append_nil] at ht
   repeat ((conv => whnf); first | refine Xl D0 ?_ | refine Xt ?_ | refine Xq ?_ | refine Xn ?_ | refine Xj ?_ | refine Xo ?_); try (conv => whnf)
   exact .mk (A1, c1, xs, i + 1) ⟨rfl, rfl, rfl, rfl, trivial⟩ ⟨κ, hin, by show xs.map (·.d) = msgA f s ++ msgS f s (f.came.take (i + 1)); rw [ht]; exact hx1, I4⟩ (by show f.came.length - (i + 1) < f.came.length - i; omega)
 have LC : Ld Tryz.prog 125 bt 0 (Eq w4) (.agg (cmA x.d.s x.d.q x.d.st x.A x.d.b.length x.c x.p)) := .of (load_agg (by kernel_rfl) (by kernel_rfl) r4)
 repeat ((conv => whnf); first | refine Xl D0 ?_ | refine Xl LC ?_ | refine Xt ?_ | refine Xq ?_ | refine Xn ?_ | refine Xj ?_ | refine Xo ?_); try (conv => whnf)
 refine VCall.mk _ (rheld_any A4 x) ?_
 rintro _ w5 ⟨rfl, b5⟩
 refine ⟨_, rfl, ?_⟩
 rw [hk]
 have I5 := I4.step b5
 cases hkk : f.keeps x.d with
 | false =>
   rw [if_neg (fun e => by rw [hkk] at e; cases e.2), List.append_nil] at ht
   repeat ((conv => whnf); first | refine Xt ?_ | refine Xq ?_ | refine Xn ?_ | refine Xj ?_ | refine Xo ?_); try (conv => whnf)
   exact .mk (A1, c1, xs, i + 1) ⟨rfl, rfl, rfl, rfl, trivial⟩ ⟨κ, hin, by show xs.map (·.d) = msgA f s ++ msgS f s (f.came.take (i + 1)); rw [ht]; exact hx1, I5⟩ (by show f.came.length - (i + 1) < f.came.length - i; omega)
 | true =>
 rw [if_pos ⟨he, hkk⟩] at ht
 have z5 := b5.size
 have r5 := range_same r4 (b5.block bt (by omega))
 have A5 := A.below I5.be
 have D1 : Ld Tryz.prog 3 bt (addO (addO 0 0) 1) (Sm [bt] w5) (.int .i64 x.d.q) := ⟨fun W' hW => load3 (cell_sm (r5 1 _ rfl) (by simp) hW)⟩
 have D2 : Ld Tryz.prog 3 bt (addO (addO 0 0) 2) (Sm [bt] w5) (.int .i64 x.d.st) := ⟨fun W' hW => load3 (cell_sm (r5 2 _ rfl) (by simp) hW)⟩
 have D3 : Ld Tryz.prog 42 bt (addO (addO 0 0) 3) (Sm [bt] w5) (.slice x.A x.d.b.length x.c) := ⟨fun W' hW => load27 (cell_sm (r5 3 _ rfl) (by simp) hW)⟩
 have s5 : Sm [bt] w5 w5.drew := fun _ _ => rfl
 have hbx : RowAt w5 w5.heap.size 1 eByte x.A x.d.b := (A5.cb x (List.mem_of_getElem? hx)).row
 have hzw := I.be.size
 have hl5 : ∀ y ∈ [bt], y < w5.heap.size ∧ κ y ≠ 1 := fun y hy => by
   rw [List.mem_singleton.1 hy]
   exact ⟨by omega, by rw [I.kz bt (by omega)]; omega⟩
 repeat ((conv => whnf); first | refine Xt ?_ | refine Xq ?_ | refine Xn ?_ | refine Xj ?_ | refine Xo ?_); try (conv => whnf)
 refine VDraw.pl 1000 (.one [0, 1, 2, 3, 4, 5, 6, 7, 8, 9, 10] 11 (.one [12] 13 (.one [] 14 (.stop [15])))) (Sm [bt] w5) (by kernel_rfl) (s5) ?_
 repeat ((conv => whnf); first | refine Xl D1 ?_ | refine Xl D2 ?_ | refine Xl D3 ?_ | refine Xt ?_ | refine Xq ?_ | refine Xn ?_ | refine Xj ?_ | refine Xo ?_); try (conv => whnf)
 refine VCall.mk _ (copied_any x.A x.c _ x.d.b w5.drew rfl (hbx.below (Below.refl _ w5).drew (Nat.le_refl _)) (by omega)) ?_
 rintro _ w6 ⟨B', cB', rfl, nB, b6⟩
 refine ⟨_, rfl, ?_⟩
 have b56 : Below w5.heap.size w5 w6 := (Below.refl _ w5).drew.trans b6
 have s6 : Sm [bt] w5 w6 := .below b56 fun y hy => (hl5 y hy).1
 repeat ((conv => whnf); first | (refine VS.mk s6 ?_) | refine Xt ?_ | refine Xq ?_ | refine Xn ?_ | refine Xj ?_ | refine Xo ?_); try (conv => whnf)
 refine VBuild.mk (.agg (dtA x.d B' cB' x.d.b.length)) (fun W' => by rw [← he]; exact build71 W' x.d.s x.d.q x.d.st B' x.d.b.length cB') ?_
 repeat ((conv => whnf); first | refine Xt ?_ | refine Xq ?_ | refine Xn ?_ | refine Xj ?_ | refine Xo ?_); try (conv => whnf)
 refine VBs.mk _ _ (bs57 w6 x.d B' cB' x.d.b.length) ?_
 have c7 : Below w6.heap.size w6 (w6.alloc (.cells (dtA x.d B' cB' x.d.b.length) 44)) := (Below.refl _ w6).alloc (Nat.le_refl _) _
 have hnc : ∀ j u, (eDx ⟨x.d, B', cB'⟩)[j]? = some u → (w6.alloc (.cells (dtA x.d B' cB' x.d.b.length) 44)).cell? ⟨w6.heap.size, j, none⟩ = some u := fun j u hu => by
   have := range_new w6 (dtA x.d B' cB' x.d.b.length) 44 j u hu
   rwa [Nat.zero_add] at this
 have hw7 : (w6.alloc (.cells (dtA x.d B' cB' x.d.b.length) 44)).heap.size = w6.heap.size + 1 := World.size_alloc _ _
 generalize w6.alloc (.cells (dtA x.d B' cB' x.d.b.length) 44) = w7 at c7 hnc hw7 ⊢
 have b57 := b56.trans (c7.mono b56.size)
 have I7 := I5.step b57
 have z7 := b57.size
 have s7 : Sm [bt] w5 w7 := .below b57 fun y hy => (hl5 y hy).1
 repeat ((conv => whnf); first | (refine VS.mk s7 ?_) | refine Xt ?_ | refine Xq ?_ | refine Xn ?_ | refine Xj ?_ | refine Xo ?_); try (conv => whnf)
 refine VApp.off 4 48 _ Tryz.underlying60 info71 rfl (by decide) eDx (fun _ => rfl) one_eDx xs ⟨x.d, B', cB'⟩ rfl I7.ow hnc I7.kz (by omega) (by omega) fun A8 c8 κ8 w8 oA8 q8 kz8 => ?_
 have s8 : Sm [bt] w5 w8 := s7.trans fun y hy => q8.same y (by have := (hl5 y hy).1; omega) (hl5 y hy).2
 have b8 : Below w.heap.size w w8 := q8.toBelow I7.be I7.be.size fun z hz => by rw [I.old z hz]; omega
 have old8 : ∀ z, z < w.heap.size → κ8 z = 0 := fun z hz => (q8.kk z (Nat.lt_of_lt_of_le hz I7.be.size)).trans (I.old z hz)
 have bo8 : ∀ y ∈ xs ++ [⟨x.d, B', cB'⟩], RowK w8 κ8 1 eByte y.A y.d.b := fun y hy => by
   rcases List.mem_append.1 hy with hy | hy
   · exact (I7.bo y hy).ro q8 (by omega)
   · rw [List.mem_singleton.1 hy]
     have : RowK w7 κ 1 eByte B' x.d.b := ((nB.below c7).rowK (K := κ) fun y hy => I5.kz y (by have : w5.drew.heap.size = w5.heap.size := rfl; omega))
     exact this.ro q8 (by omega)
 repeat ((conv => whnf); first | (refine VS.mk s8 ?_) | refine Xt ?_ | refine Xq ?_ | refine Xn ?_ | refine Xj ?_ | refine Xo ?_); try (conv => whnf)
 refine .mk (A8, c8, xs ++ [⟨x.d, B', cB'⟩], i + 1) ⟨rfl, ?_, rfl, rfl, trivial⟩ ⟨κ8, hin, ?_, ⟨b8, oA8, bo8, old8, kz8⟩⟩ (by show f.came.length - (i + 1) < f.came.length - i; omega)
 · show _ = some (Value.slice A8 (xs ++ [_]).length c8)
   rw [List.length_append]; rfl
 · show (xs ++ [_]).map (fun y : DtX => y.d) = msgA f s ++ msgS f s (f.came.take (i + 1))
   rw [ht, List.map_append, hx1, List.append_assoc]; rfl
end
end Go.Proofs.YtoilipfgimcoiaaGreat
namespace Go.Proofs.YtoilipfgimcoiaaGreat
open Go Go.RowKit
theorem msOk_len : ∀ {l : Int} {ms : List Mbr}, msOk l ms = true → -1 ≤ l → l ≤ 15 → (ms.length : Int) ≤ 15 - l
 | l, [], _, _, h2 => by show ((0 : Nat) : Int) ≤ _; omega
 | l, m :: r, h, h1, h2 => by
   unfold msOk at h
   rw [Bool.and_eq_true] at h
   have h3 := of_decide_eq_true h.1
   unfold Mbr.ok at h3
   have := msOk_len h.2 (by omega) (by omega)
   rw [List.length_cons]; omega
def inM (ms : List Mbr) (self : Int) : Bool := ms.any fun m => decide (m.p = self)
theorem inM_take {ms : List Mbr} {self : Int} {k : Nat} {m : Mbr} (hm : ms[k]? = some m) : inM (ms.take (k + 1)) self = (inM (ms.take k) self || decide (m.p = self)) := by
 unfold inM
 rw [take_one hm, List.any_append]; simp
theorem inM_has {ms : List Mbr} {self : Int} (h : ∀ m ∈ ms, 0 ≤ m.p) : inM ms self = hasB (pidL ms) self := by
 rw [Bool.eq_iff_iff, hasB_iff]
 unfold inM pidL
 rw [List.any_eq_true]
 constructor
 · rintro ⟨m, hm, e⟩
   have := h m hm
   have e := of_decide_eq_true e
   exact ⟨m.p.toNat, List.mem_map.2 ⟨m, hm, rfl⟩, by omega⟩
 · rintro ⟨x, hx, e⟩
   obtain ⟨m, hm, rfl⟩ := List.mem_map.1 hx
   have := h m hm
   exact ⟨m, hm, decide_eq_true (by omega)⟩
set_option maxRecDepth 100000 in
set_option maxHeartbeats 8000000 in
theorem proper_any (v : Vd) (ms : List Mbr) (self : Int) {B : Option Addr} {cB nB : Nat} (w : World) (hn : ms.length = nB) (hB : RowAt w w.heap.size 3 eMbr B ms) (h1 : nB ≤ 2000000) :
   Calls Tryz.prog 94 #[.agg (vwA v B nB cB), .int .i64 self] w fun e w' => e = .returned (.bool (pidsOf v ms self).isSome) ∧ Below w.heap.size w w' := by
 refine calls_vc tab_ok Tryz.func94 rfl ?_
 conv => whnf
 refine .mk fun wA hwA => ?_
 obtain ⟨ba, hba⟩ : ∃ ba, ba = w.heap.size := ⟨_, rfl⟩
 rw [← hba]
 have bA : Below w.heap.size w wA := by rw [hwA.out]; exact below_box1 _ _ _
 have zA : wA.heap.size = w.heap.size + 1 := by rw [hwA.out]; simp
 have oA : wA.rangeAt ba 0 (vwA v B nB cB).toList := by rw [hwA.out, hba]; exact range_new w _ 41
 clear hwA
 have no_ : ∀ x, Below w.heap.size w x → pidsOf v ms self = none → VDone (Ending.returned (Value.bool false) = .returned (.bool (pidsOf v ms self).isSome) ∧ Below ba w x) := fun x hx hp => by rw [hp, hba]; exact .mk ⟨rfl, hx⟩
 have LI : Ld Tryz.prog 38 ba 0 (Eq wA) (.agg #[.int .i64 v.e, .int .i64 v.l, .int .i64 v.i, .int .i64 v.c]) := .of (load_agg (by kernel_rfl) (by kernel_rfl) (range_sub (n := 4) oA 0 rfl))
 repeat ((conv => whnf); first | refine Xl LI ?_ | refine Xt ?_ | refine Xq ?_ | refine Xn ?_ | refine Xj ?_ | refine Xo ?_); try (conv => whnf)
 refine VCall.mk _ (rwhole_any v wA) ?_
 rintro _ w1 ⟨rfl, b1⟩
 refine ⟨_, rfl, ?_⟩
 have z1 := b1.size
 have bw1 : Below w.heap.size w w1 := bA.trans (b1.mono bA.size)
 have o1 := range_same oA (b1.block ba (by omega))
 have L4 : Ld Tryz.prog 39 ba 4 (Below w1.heap.size w1) (.slice B nB cB) := ⟨fun W' hW => load61 ((World.cell?_of_block (a := ⟨ba, 4, none⟩) (hW.block ba (by omega))).trans (o1 4 _ rfl))⟩
 by_cases hv : v.ok
 case neg =>
   have hp : pidsOf v ms self = none := by unfold pidsOf; rw [decide_eq_false hv]; rfl
   rw [decide_eq_false hv]
   repeat ((conv => whnf); first | refine Xt ?_ | refine Xq ?_ | refine Xn ?_ | refine Xj ?_ | refine Xo ?_); try (conv => whnf)
   exact no_ w1 bw1 hp
 rw [decide_eq_true hv]
 by_cases hl1 : nB < 1
 · have hp : pidsOf v ms self = none := by
     have : ms = [] := List.eq_nil_of_length_eq_zero (by omega)
     unfold pidsOf
     rw [this, show hasB (pidL []) self = false from rfl]; simp
   repeat ((conv => whnf); first | refine Xl (L4.at (Below.refl _ _)) ?_ | refine Xt ?_ | refine Xq ?_ | refine Xn ?_ | refine Xj ?_ | refine Xo ?_); try (conv => whnf)
   exact no_ w1 bw1 hp
 by_cases hl2 : 16 < nB
 · have hp : pidsOf v ms self = none := by
     unfold pidsOf
     cases hok : msOk (-1) ms with
     | false => simp
     | true => have := msOk_len hok (by omega) (by omega); omega
   repeat ((conv => whnf); first | refine Xl (L4.at (Below.refl _ _)) ?_ | refine Xt ?_ | refine Xq ?_ | refine Xn ?_ | refine Xj ?_ | refine Xo ?_); try (conv => whnf)
   exact no_ w1 bw1 hp
 repeat ((conv => whnf); first | refine Xl (L4.at (Below.refl _ _)) ?_ | refine Xt ?_ | refine Xq ?_ | refine Xn ?_ | refine Xj ?_ | refine Xo ?_); try (conv => whnf)
 refine VLoop.mk Nat (fun u => [(1, .int .i64 self), (2, .pointer (some ⟨ba, 0, none⟩)), (5, .bool (inM (ms.take u) self)), (6, .int .i64 (lastP ms u)), (7, .int .i64 u)]) (fun u W => u ≤ nB ∧ Below w1.heap.size w1 W ∧ msOk (-1) ms = msOk (lastP ms u) (ms.drop u) ∧ -1 ≤ lastP ms u ∧ ∀ m ∈ ms.take u, 0 ≤ m.p) (fun u => nB - u) 0 ⟨rfl, rfl, rfl, rfl, rfl, trivial⟩ ⟨Nat.zero_le _, Below.refl _ _, rfl, Int.le_refl _, fun m hm => by simp at hm⟩ ?_
 rintro k wk ⟨hk, bk, hok, hlast, hpos⟩
 have zk := bk.size
 by_cases hkn : k < nB
 case neg =>
   obtain rfl : k = nB := by omega
   have hd : ms.drop k = [] := List.drop_eq_nil_of_le (by omega)
   have ht : ms.take k = ms := by rw [← hn, List.take_length]
   rw [hd] at hok
   have hok : msOk (-1) ms = true := by rw [hok]; unfold msOk; rfl
   rw [ht] at hpos ⊢
   rw [inM_has hpos]
   repeat ((conv => whnf); first | refine Xl (L4.at bk) ?_ | refine Xt ?_ | refine Xq ?_ | refine Xn ?_ | refine Xj ?_ | refine Xo ?_); try (conv => whnf)
   refine .mk ⟨?_, by rw [hba]; exact bw1.trans (bk.mono bw1.size)⟩
   unfold pidsOf
   rw [decide_eq_true hv, hok, Bool.true_and, Bool.true_and]
   cases hasB (pidL ms) self <;> rfl
 obtain ⟨m, hm⟩ : ∃ m, ms[k]? = some m := ⟨_, List.getElem?_eq_getElem (by omega)⟩
 have hlk : lastP ms (k + 1) = m.p := by show ((ms[k]?).map (·.p)).getD 0 = _; rw [hm]; rfl
 rw [msOk_drop hm] at hok
 obtain ⟨g, off, hBA, hg, hc⟩ := hB (by omega)
 have bwk : Below w.heap.size w wk := bw1.trans (bk.mono bw1.size)
 have rm : wk.rangeAt g (off + k * 3) (eMbr m) := fun j u hu => (World.cell?_of_block (a := ⟨g, off + k * 3 + j, none⟩) (bwk.block g hg)).trans (hc k m hm j u hu)
 have LM : Ld Tryz.prog 70 g (off + mulO k 3) (Eq wk) (.agg #[.int .i64 m.p, .int .i64 m.i, .int .i64 m.c]) := .of (load_agg (cs := eMbr m) (by kernel_rfl) (by kernel_rfl) (by rw [mulO_eq]; exact rm))
 have L4k := L4.at bk
 rw [hBA] at L4k
 repeat ((conv => whnf); first | refine Xl L4k ?_ | refine Xl LM ?_ | refine Xt ?_ | refine Xq ?_ | refine Xn ?_ | refine Xj ?_ | refine Xo ?_); try (conv => whnf)
 refine .mk _ run_zero65 ?_
 conv => whnf
 refine .mk fun u1 hu1 => ?_
 repeat ((conv => whnf); first | refine Xt ?_ | refine Xq ?_ | refine Xn ?_ | refine Xj ?_ | refine Xo ?_); try (conv => whnf)
 obtain ⟨bt, hbt⟩ : ∃ bt, bt = wk.heap.size := ⟨_, rfl⟩
 refine VStore.new (c' := #[.int .i64 m.p, .int .i64 m.i, .int .i64 m.c]) hu1 (by kernel_rfl) rfl (all_oneCell_toArray (cs := eMbr m) (one_eMbr m)) fun w2 hw2 => ?_
 rw [← hbt]
 have c1 : Below wk.heap.size wk w2 := by rw [hw2.out]; exact (Below.refl _ _).alloc (Nat.le_refl _) _
 have r1 : w2.rangeAt bt 0 (eMbr m) := by rw [hw2.out, hbt]; exact range_new wk _ 70
 clear hu1 hw2
 clear u1
 have b2 : Below w1.heap.size w1 w2 := bk.trans (c1.mono zk)
 have bw2 : Below w.heap.size w w2 := bwk.trans (c1.mono bwk.size)
 have M0 : Ld Tryz.prog 3 bt 0 (Eq w2) (.int .i64 m.p) := .of (load3 (r1 0 _ rfl))
 have M1 : Ld Tryz.prog 3 bt 1 (Eq w2) (.int .i64 m.i) := .of (load3 (r1 1 _ rfl))
 have M2 : Ld Tryz.prog 3 bt 2 (Eq w2) (.int .i64 m.c) := .of (load3 (r1 2 _ rfl))
 by_cases hmo : m.ok (lastP ms k)
 case neg =>
   rw [decide_eq_false hmo, Bool.false_and] at hok
   have hp : pidsOf v ms self = none := by unfold pidsOf; rw [hok]; simp
   have fin := no_ w2 bw2 hp
   unfold Mbr.ok at hmo
   clear no_ hp hok
   repeat' (conv => whnf
            first
            | (refine VLoad.mk _ M0 ?_)
            | (refine VLoad.mk _ M1 ?_)
            | (refine VLoad.mk _ M2 ?_)
            | refine Xt ?_
            | refine Xq ?_
            | refine Xn ?_
            | refine Xj ?_
            | refine Xo ?_
            | (refine VCmp.split (fun _ => ?_) (fun _ => ?_)))
   all_goals try (conv => whnf)
   all_goals first
     | exact absurd (by omega) hmo
     | exact fin
 rw [decide_eq_true hmo, Bool.true_and] at hok
 unfold Mbr.ok at hmo
 have ht := inM_take (self := self) hm
 cases hin : inM (ms.take k) self with
 | true =>
   rw [hin, Bool.true_or] at ht
   repeat ((conv => whnf); first | refine Xl M0 ?_ | refine Xl M1 ?_ | refine Xl M2 ?_ | refine Xt ?_ | refine Xq ?_ | refine Xn ?_ | refine Xj ?_ | refine Xo ?_); try (conv => whnf)
   exact .mk (k + 1) ⟨rfl, rfl, congrArg (fun z => some (Value.bool z)) ht.symm, congrArg (fun z => some (Value.int .i64 z)) hlk.symm, rfl, trivial⟩ ⟨hkn, b2, hok, by rw [hlk]; omega, fun y hy => by
     rw [take_one hm] at hy
     rcases List.mem_append.1 hy with hy | hy
     · exact hpos y hy
     · rw [List.mem_singleton.1 hy]; omega⟩ (by show nB - (k + 1) < nB - k; omega)
 | false =>
   rw [hin, Bool.false_or] at ht
   by_cases hs : m.p = self
   · rw [decide_eq_true hs] at ht
     repeat ((conv => whnf); first | refine Xl M0 ?_ | refine Xl M1 ?_ | refine Xl M2 ?_ | refine Xt ?_ | refine Xq ?_ | refine Xn ?_ | refine Xj ?_ | refine Xo ?_); try (conv => whnf)
     exact .mk (k + 1) ⟨rfl, rfl, congrArg (fun z => some (Value.bool z)) ht.symm, congrArg (fun z => some (Value.int .i64 z)) hlk.symm, rfl, trivial⟩ ⟨hkn, b2, hok, by rw [hlk]; omega, fun y hy => by
       rw [take_one hm] at hy
       rcases List.mem_append.1 hy with hy | hy
       · exact hpos y hy
       · rw [List.mem_singleton.1 hy]; omega⟩ (by show nB - (k + 1) < nB - k; omega)
   · rw [decide_eq_false hs] at ht
     repeat ((conv => whnf); first | refine Xl M0 ?_ | refine Xl M1 ?_ | refine Xl M2 ?_ | refine Xt ?_ | refine Xq ?_ | refine Xn ?_ | refine Xj ?_ | refine Xo ?_); try (conv => whnf)
     exact .mk (k + 1) ⟨rfl, rfl, congrArg (fun z => some (Value.bool z)) ht.symm, congrArg (fun z => some (Value.int .i64 z)) hlk.symm, rfl, trivial⟩ ⟨hkn, b2, hok, by rw [hlk]; omega, fun y hy => by
       rw [take_one hm] at hy
       rcases List.mem_append.1 hy with hy | hy
       · exact hpos y hy
       · rw [List.mem_singleton.1 hy]; omega⟩ (by show nB - (k + 1) < nB - k; omega)
end Go.Proofs.YtoilipfgimcoiaaGreat
namespace Go.Proofs.YtoilipfgimcoiaaGreat
open Go Go.RowKit
theorem info4 : (Tryz.prog.info? 4).map (fun i => (i.zero, i.size, i.bytes)) = some (some (.bool false), 1, 1) := by kernel_rfl
theorem bs55 (W : World) (a : Bool) : (Instr.buildSlice 55 1 #[(0, .bool a)]).run Tryz.prog W = .ok (.slice (some ⟨W.heap.size, 0, none⟩) 1 1) (W.alloc (.cells #[.bool a] 4)) := by kernel_rfl
def rfA (v : Vd) (self win : Int) : Array Value := #[.int .i64 v.e, .int .i64 v.l, .int .i64 v.i, .int .i64 v.c, .slice none 0 0, .int .i64 self, .int .i64 win, .slice none 0 0, .slice none 0 0, .int .i64 0, .int .i64 0, .slice none 0 0, .slice none 0 0, .bool false]
theorem build118 (W : World) (v : Vd) (self win : Int) : (Instr.build 118 #[(0, .agg #[.int .i64 v.e, .int .i64 v.l, .int .i64 v.i, .int .i64 v.c]), (2, .int .i64 self), (3, .int .i64 win)]).run Tryz.prog W = .ok (.agg (rfA v self win)) W := by kernel_rfl
def rx0 : RfX := ⟨none, 0, none, 0, [], none, 0, none, 0, none, 0⟩
section
variable {K K' : Nat → Nat} {w w' w2 : World} {r b T : Nat} {f : Rf} {X : RfX} {o : Os}
theorem RefAt.rerole (h : RefAt w K r b f X) (hK : ∀ y, inFB r (K y) → K' y = K y) (kz : ∀ y, w.heap.size ≤ y → K' y = 0) : RefAt w K' r b f X := by
 have rk : ∀ {α : Type} {sz : Nat} {enc : α → List Value} {A : Option Addr} {l : List α}, RowB w K (r + 6) sz enc A l → RowB w K' (r + 6) sz enc A l := fun {α sz enc A l} h hl => by
   obtain ⟨g, off, e, h1, h2, h3⟩ := h hl
   exact ⟨g, off, e, h1, (hK g (by rw [h2]; exact ⟨by omega, by omega⟩)).trans h2, h3⟩
 have ro : ∀ {α : Type} {q sz c : Nat} {enc : α → List Value} {A : Option Addr} {l : List α}, inFB r q → OwnO w K q sz enc A c l → OwnO w K' q sz enc A c l := fun {α q sz c enc A l} hq h => by
   rcases h with h | ⟨g, off, e, h1, h2, h3⟩
   · exact .inl h
   · exact .inr ⟨g, off, e, h1, (hK g (by rw [h2]; exact hq)).trans h2, h3⟩
 exact ⟨h.r0, (hK b (by rw [h.kb]; exact ⟨Nat.le_refl _, by omega⟩)).trans h.kb, h.hb, kz, h.rg, h.th, ro ⟨by omega, by omega⟩ h.pr, ro ⟨by omega, by omega⟩ h.cr, h.cv, fun x hx => rk (h.cb x hx), ro ⟨by omega, by omega⟩ h.sr, ro ⟨by omega, by omega⟩ h.tr, ro ⟨by omega, by omega⟩ h.wr⟩
theorem RefAt.s_memA (h : RefAt w K r b f X) (x : Nat) {A' : Option Addr} {c' : Nat} (own : OwnO w' K' (r + 1) 1 eNat A' c' (f.mem ++ [x])) (q : Ro (· = r + 1) K K' w w') (kz : ∀ z, w'.heap.size ≤ z → K' z = 0) (hw : w2 = w'.setCell ⟨b, 4, none⟩ (.slice A' (f.mem.length + 1) c')) :
   RefAt w2 K' r b { f with mem := f.mem ++ [x] } { X with pA := A', pc := c' } ∧ Ro (fun z => z = r + 1 ∨ z = r) K K' w w2 := by
 have r0 := h.r0
 have kb := (q.kk b h.hb).trans h.kb
 have q2 : Ro (· = r) K' K' w' w2 := by rw [hw]; exact Ro.cell kb _ _
 obtain ⟨g1, g2⟩ := rng_cell (l' := cellsR { f with mem := f.mem ++ [x] } { X with pA := A', pc := c' }) (j := 4) (range_roF h.rg h.hb q (by rw [h.kb]; omega)) (there_roF h.th h.hb q (by rw [h.kb]; omega)) rfl (by omega) hw (by unfold cellsR; simp)
 exact ⟨⟨h.r0, kb, Nat.lt_of_lt_of_le h.hb (Nat.le_trans q.size q2.size), fun z hz => kz z (Nat.le_trans q2.size hz), g1, g2, own.ro q2 (by omega), (h.cr.ro q (by omega)).ro q2 (by omega), h.cv, fun y hy => ((h.cb y hy).ro q (by omega)).ro q2 (by omega), (h.sr.ro q (by omega)).ro q2 (by omega), (h.tr.ro q (by omega)).ro q2 (by omega), (h.wr.ro q (by omega)).ro q2 (by omega)⟩, (q.more fun z e => .inl e).trans (q2.more fun z e => .inr e)⟩
theorem RefAt.s_toldA (h : RefAt w K r b f X) (x : Nat) {A' : Option Addr} {c' : Nat} (own : OwnO w' K' (r + 4) 1 eNat A' c' (f.told ++ [x])) (q : Ro (· = r + 4) K K' w w') (kz : ∀ z, w'.heap.size ≤ z → K' z = 0) (hw : w2 = w'.setCell ⟨b, 11, none⟩ (.slice A' (f.told.length + 1) c')) :
   RefAt w2 K' r b { f with told := f.told ++ [x] } { X with tA := A', tc := c' } ∧ Ro (fun z => z = r + 4 ∨ z = r) K K' w w2 := by
 have r0 := h.r0
 have kb := (q.kk b h.hb).trans h.kb
 have q2 : Ro (· = r) K' K' w' w2 := by rw [hw]; exact Ro.cell kb _ _
 obtain ⟨g1, g2⟩ := rng_cell (l' := cellsR { f with told := f.told ++ [x] } { X with tA := A', tc := c' }) (j := 11) (range_roF h.rg h.hb q (by rw [h.kb]; omega)) (there_roF h.th h.hb q (by rw [h.kb]; omega)) rfl (by omega) hw (by unfold cellsR; simp)
 exact ⟨⟨h.r0, kb, Nat.lt_of_lt_of_le h.hb (Nat.le_trans q.size q2.size), fun z hz => kz z (Nat.le_trans q2.size hz), g1, g2, (h.pr.ro q (by omega)).ro q2 (by omega), (h.cr.ro q (by omega)).ro q2 (by omega), h.cv, fun y hy => ((h.cb y hy).ro q (by omega)).ro q2 (by omega), (h.sr.ro q (by omega)).ro q2 (by omega), own.ro q2 (by omega), (h.wr.ro q (by omega)).ro q2 (by omega)⟩, (q.more fun z e => .inl e).trans (q2.more fun z e => .inr e)⟩
theorem RefAt.s_sawA (h : RefAt w K r b f X) (x : Bool) {A' : Option Addr} {c' : Nat} (own : OwnO w' K' (r + 5) 1 eBo A' c' (f.saw ++ [x])) (q : Ro (· = r + 5) K K' w w') (kz : ∀ z, w'.heap.size ≤ z → K' z = 0) (hw : w2 = w'.setCell ⟨b, 12, none⟩ (.slice A' (f.saw.length + 1) c')) :
   RefAt w2 K' r b { f with saw := f.saw ++ [x] } { X with wA := A', wc := c' } ∧ Ro (fun z => z = r + 5 ∨ z = r) K K' w w2 := by
 have r0 := h.r0
 have kb := (q.kk b h.hb).trans h.kb
 have q2 : Ro (· = r) K' K' w' w2 := by rw [hw]; exact Ro.cell kb _ _
 obtain ⟨g1, g2⟩ := rng_cell (l' := cellsR { f with saw := f.saw ++ [x] } { X with wA := A', wc := c' }) (j := 12) (range_roF h.rg h.hb q (by rw [h.kb]; omega)) (there_roF h.th h.hb q (by rw [h.kb]; omega)) rfl (by omega) hw (by unfold cellsR; simp)
 exact ⟨⟨h.r0, kb, Nat.lt_of_lt_of_le h.hb (Nat.le_trans q.size q2.size), fun z hz => kz z (Nat.le_trans q2.size hz), g1, g2, (h.pr.ro q (by omega)).ro q2 (by omega), (h.cr.ro q (by omega)).ro q2 (by omega), h.cv, fun y hy => ((h.cb y hy).ro q (by omega)).ro q2 (by omega), (h.sr.ro q (by omega)).ro q2 (by omega), (h.tr.ro q (by omega)).ro q2 (by omega), own.ro q2 (by omega)⟩, (q.more fun z e => .inl e).trans (q2.more fun z e => .inr e)⟩
theorem pids_facts {v : Vd} {ms : List Mbr} {self : Int} {l : List Nat} (hp : pidsOf v ms self = some l) : v.ok ∧ l = pidL ms ∧ msOk (-1) ms = true ∧ (∃ x ∈ l, (x : Int) = self) ∧ ∀ m ∈ ms, 0 ≤ m.p ∧ m.p < 16 := by
 unfold pidsOf at hp
 split at hp
 · rename_i hc
   injection hp with hp
   rw [Bool.and_eq_true, Bool.and_eq_true] at hc
   exact ⟨of_decide_eq_true hc.1.1, hp.symm, hc.1.2, by rw [← hp]; exact of_decide_eq_true hc.2, fun m hm => lastP_ge hc.1.2 hc.1.2 (Int.le_refl _) m hm⟩
 · cases hp
set_option maxRecDepth 100000 in
set_option maxHeartbeats 8000000 in
theorem rnew_any (v : Vd) (ms : List Mbr) (self win : Int) {B : Option Addr} {cB nB : Nat} (w : World) (hn : ms.length = nB) (hB : RowAt w w.heap.size 3 eMbr B ms) (h1 : nB ≤ 2000000) (K : Nat → Nat) (kz : ∀ b, w.heap.size ≤ b → K b = 0) (r : Nat) (r0 : 0 < r) :
   Calls Tryz.prog 38 #[.agg (vwA v B nB cB), .int .i64 self, .int .i64 win] w fun e w' => Below w.heap.size w w' ∧
     ((¬ (1 ≤ win ∧ win ≤ 8) ∧ e = .returned (.tuple #[.pointer none, .int .i64 1])) ∨ ((1 ≤ win ∧ win ≤ 8) ∧ pidsOf v ms self = none ∧ e = .returned (.tuple #[.pointer none, .int .i64 74])) ∨
     ((1 ≤ win ∧ win ≤ 8) ∧ ∃ l b K' X', pidsOf v ms self = some l ∧ e = .returned (.tuple #[.pointer (some ⟨b, 0, none⟩), .int .i64 0]) ∧ RefAt w' K' r b (Rf.new v l self.toNat win.toNat) X' ∧ Ro (fun _ => False) K K' w w' ∧ w.heap.size ≤ b)) := by
 refine calls_vc tab_ok Tryz.func38 rfl ?_
 conv => whnf
 refine .mk fun wA hwA => ?_
 obtain ⟨ba, hba⟩ : ∃ ba, ba = w.heap.size := ⟨_, rfl⟩
 rw [← hba]
 have bA : Below w.heap.size w wA := by rw [hwA.out]; exact below_box1 _ _ _
 have zA : wA.heap.size = w.heap.size + 1 := by rw [hwA.out]; simp
 have oA : wA.rangeAt ba 0 (vwA v B nB cB).toList := by rw [hwA.out, hba]; exact range_new w _ 41
 clear hwA
 by_cases h2 : win < 1
 · repeat ((conv => whnf); first | refine Xt ?_ | refine Xq ?_ | refine Xn ?_ | refine Xj ?_ | refine Xo ?_); try (conv => whnf)
   exact .mk ⟨by rw [hba]; exact bA, .inl ⟨by omega, rfl⟩⟩
 by_cases h3 : 8 < win
 · repeat ((conv => whnf); first | refine Xt ?_ | refine Xq ?_ | refine Xn ?_ | refine Xj ?_ | refine Xo ?_); try (conv => whnf)
   exact .mk ⟨by rw [hba]; exact bA, .inl ⟨by omega, rfl⟩⟩
 have LV : Ld Tryz.prog 41 ba 0 (Eq wA) (.agg (vwA v B nB cB)) := .of (load_agg (by kernel_rfl) (by kernel_rfl) oA)
 repeat ((conv => whnf); first | refine Xl LV ?_ | refine Xt ?_ | refine Xq ?_ | refine Xn ?_ | refine Xj ?_ | refine Xo ?_); try (conv => whnf)
 refine VCall.mk _ (proper_any v ms self wA hn ((hB.below bA (Nat.le_refl _)).more bA.size) h1) ?_
 rintro _ w1 ⟨rfl, b1⟩
 refine ⟨_, rfl, ?_⟩
 have z1 := b1.size
 have bw1 : Below w.heap.size w w1 := bA.trans (b1.mono (by omega))
 cases hp : pidsOf v ms self with
 | none =>
   repeat ((conv => whnf); first | refine Xt ?_ | refine Xq ?_ | refine Xn ?_ | refine Xj ?_ | refine Xo ?_); try (conv => whnf)
   exact .mk ⟨by rw [hba]; exact bw1, .inr (.inl ⟨by omega, rfl, rfl⟩)⟩
 | some l =>
 obtain ⟨hv, hl, hok, hself, hms⟩ := pids_facts hp
 obtain ⟨sn, hsl, hsn⟩ := hself
 obtain ⟨wn, hwn⟩ := Int.eq_ofNat_of_zero_le (show 0 ≤ win by omega)
 subst hsn hwn
 have hm16 := msOk_len hok (by omega) (by omega)
 have hll : l.length = nB := by rw [hl]; unfold pidL; rw [List.length_map, hn]
 have o1 := range_same oA (b1.block ba (by omega))
 have LI : Ld Tryz.prog 38 ba 0 (Eq w1) (.agg #[.int .i64 v.e, .int .i64 v.l, .int .i64 v.i, .int .i64 v.c]) := .of (load_agg (by kernel_rfl) (by kernel_rfl) (range_sub (n := 4) o1 0 rfl))
 repeat ((conv => whnf); first | refine Xl LI ?_ | refine Xt ?_ | refine Xq ?_ | refine Xn ?_ | refine Xj ?_ | refine Xo ?_); try (conv => whnf)
 refine VBuild.mk (.agg (rfA v sn wn)) (fun W' => build118 W' v sn wn) ?_
 repeat ((conv => whnf); first | refine Xt ?_ | refine Xq ?_ | refine Xn ?_ | refine Xj ?_ | refine Xo ?_); try (conv => whnf)
 refine .mk fun w3 hw3 => ?_
 obtain ⟨b, hb⟩ : ∃ b, b = w1.heap.size := ⟨_, rfl⟩
 have c3 : Below w1.heap.size w1 w3 := by rw [hw3.out]; exact (Below.refl _ _).alloc (Nat.le_refl _) _
 have z3 : w3.heap.size = w1.heap.size + 1 := by rw [hw3.out]; exact World.size_alloc _ _
 have r3 : w3.rangeAt b 0 (rfA v sn wn).toList := by rw [hw3.out, hb]; exact range_new w1 _ 118
 have t3 : w3.there b 0 14 := by rw [hw3.out, hb]; exact there_new w1 _ _
 rw [← hb]
 clear hw3
 have bw3 : Below w.heap.size w w3 := bw1.trans (c3.mono bw1.size)
 obtain ⟨κ0, hκ0⟩ : ∃ κ0 : Nat → Nat, κ0 = fun y => if y = b then r else 0 := ⟨_, rfl⟩
 have k0b : κ0 b = r := by rw [hκ0]; exact if_pos rfl
 have k0o : ∀ y, y ≠ b → κ0 y = 0 := fun y hy => by rw [hκ0]; exact if_neg hy
 have A0 : RefAt w3 κ0 r b (Rf.new v [] sn wn) rx0 := ⟨r0, k0b, by omega, fun y hy => k0o y (by omega), r3, t3, OwnO.nil _ _ _ _ _, OwnO.nil _ _ _ _ _, rfl, fun x hx => (List.not_mem_nil hx).elim, OwnO.nil _ _ _ _ _, OwnO.nil _ _ _ _ _, OwnO.nil _ _ _ _ _⟩
 repeat ((conv => whnf); first | refine Xt ?_ | refine Xq ?_ | refine Xn ?_ | refine Xj ?_ | refine Xo ?_); try (conv => whnf)
 refine VLoop.mk Nat (fun i => [(1, .int .i64 (sn : Int)), (3, .pointer (some ⟨ba, 0, none⟩)), (8, .pointer (some ⟨b, 0, none⟩)), (9, .int .i64 i)]) (fun i W => i ≤ nB ∧ ∃ κ X, Below w3.heap.size w3 w3 ∧ Below w1.heap.size w1 W ∧ RefAt W κ r b (Rf.new v (l.take i) sn wn) X ∧ ∀ y, y < w1.heap.size → κ y = 0) (fun i => nB - i) 0 ⟨rfl, rfl, rfl, rfl, trivial⟩ ⟨Nat.zero_le _, κ0, rx0, Below.refl _ _, c3, A0, fun y hy => k0o y (by omega)⟩ ?_
 clear A0 r3 t3
 rintro i W ⟨hi, κ, X, -, bW, AW, old⟩
 have oW := range_same o1 (bW.block ba (by omega))
 have zW := bW.size
 have hbz := AW.hb
 have LM0 : Ld Tryz.prog 39 ba 4 (Eq W) (.slice B nB cB) := .of (load61 (oW 4 _ rfl))
 by_cases hin : i < nB
 case neg =>
   obtain rfl : i = nB := by omega
   rw [← hll, List.take_length] at AW
   repeat ((conv => whnf); first | refine Xl LM0 ?_ | refine Xt ?_ | refine Xq ?_ | refine Xn ?_ | refine Xj ?_ | refine Xo ?_); try (conv => whnf)
   obtain ⟨K', hK'⟩ : ∃ K' : Nat → Nat, K' = fun y => if y < w.heap.size then K y else κ y := ⟨_, rfl⟩
   have kO : ∀ y, y < w.heap.size → K' y = K y := fun y hy => by rw [hK']; exact if_pos hy
   have kN : ∀ y, w.heap.size ≤ y → K' y = κ y := fun y hy => by rw [hK']; exact if_neg (by omega)
   have bwW : Below w.heap.size w W := bw1.trans (bW.mono bw1.size)
   refine .mk ⟨by rw [hba]; exact bwW, .inr (.inr ⟨by omega, l, b, K', X, rfl, rfl, ?_, (Ro.below bwW).role fun y hy => kO y hy, by omega⟩)⟩
   rw [Int.toNat_natCast, Int.toNat_natCast]
   refine AW.rerole (fun y hy => ?_) fun y hy => (kN y (by omega)).trans (AW.kz y hy)
   rcases Nat.lt_or_ge y w.heap.size with hlt | hge
   · rw [old y (by omega)] at hy; unfold inFB at hy; omega
   · exact kN y hge
 obtain ⟨m, hm⟩ : ∃ m, ms[i]? = some m := ⟨_, List.getElem?_eq_getElem (by omega)⟩
 have hm0 := hms m (List.mem_of_getElem? hm)
 have hli : l[i]? = some m.p.toNat := by rw [hl]; unfold pidL; rw [List.getElem?_map, hm]; rfl
 have hpn : (m.p.toNat : Int) = m.p := Int.toNat_of_nonneg hm0.1
 obtain ⟨q, hq⟩ : ∃ q, q = m.p.toNat := ⟨_, rfl⟩
 rw [← hq] at hli hpn
 have htk := take_one hli
 have hlt : (l.take i).length = i := by rw [List.length_take]; omega
 obtain ⟨g, off, hBA, hg, hc⟩ := hB (by omega)
 have bwW : Below w.heap.size w W := bw1.trans (bW.mono bw1.size)
 have rm : W.rangeAt g (off + i * 3) (eMbr m) := fun j u hu => (World.cell?_of_block (a := ⟨g, off + i * 3 + j, none⟩) (bwW.block g hg)).trans (hc i m hm j u hu)
 have hl5 : ∀ y ∈ [b, ba, g], y < W.heap.size ∧ (κ y = r ∨ κ y = 0) := fun y hy => by
   simp only [List.mem_cons, List.not_mem_nil, or_false] at hy
   rcases hy with rfl | rfl | rfl
   · exact ⟨hbz, .inl AW.kb⟩
   · exact ⟨by omega, .inr (old _ (by omega))⟩
   · exact ⟨by omega, .inr (old _ (by omega))⟩
 have N0 := AW.l_mem (l := [b, ba, g]) (by simp)
 rw [show (Rf.new v (l.take i) sn wn).mem.length = i from hlt] at N0
 have LM : Ld Tryz.prog 39 ba 4 (Sm [b, ba, g] W) (.slice B nB cB) := ⟨fun W' hW => load61 (cell_sm (oW 4 _ rfl) (by simp) hW)⟩
 have LP : Ld Tryz.prog 3 g (addO (off + mulO i 3) 0) (Sm [b, ba, g] W) (.int .i64 q) := ⟨fun W' hW => load3 (by rw [hpn, show addO (off + mulO i 3) 0 = off + i * 3 + 0 by rw [mulO_eq]; rfl]; exact cell_sm (rm 0 _ rfl) (by simp) hW)⟩
 rw [hBA] at LM LM0
 have sW : Sm [b, ba, g] W W.drew := fun _ _ => rfl
 repeat ((conv => whnf); first | refine Xl LM0 ?_ | refine Xt ?_ | refine Xq ?_ | refine Xn ?_ | refine Xj ?_ | refine Xo ?_); try (conv => whnf)
 refine VDraw.pl 15 (.one [0, 1, 2, 3, 4, 5, 6, 7, 8, 9, 10] 11 (.one [] 12 (.one [13, 14] 15 (.stop [])))) (Sm [b, ba, g] W) (by kernel_rfl) (sW) ?_
 repeat ((conv => whnf); first | refine Xl N0 ?_ | refine Xl LM ?_ | refine Xl LP ?_ | refine Xt ?_ | refine Xq ?_ | refine Xn ?_ | refine Xj ?_ | refine Xo ?_); try (conv => whnf)
 refine VBs.mk _ _ (bs49 W.drew q) ?_
 have c6 : Below W.heap.size W (W.drew.alloc (.cells #[.int .i64 (q : Int)] 3)) := Below.trans (Below.drew (Below.refl _ W)) ((Below.refl W.drew.heap.size W.drew).alloc (Nat.le_refl _) _)
 have hnc : ∀ j u, (eNat q)[j]? = some u → (W.drew.alloc (.cells #[.int .i64 (q : Int)] 3)).cell? ⟨W.drew.heap.size, j, none⟩ = some u := fun j u hu => by
   have := range_new W.drew #[.int .i64 (q : Int)] 3 j u hu
   rwa [Nat.zero_add] at this
 generalize W.drew.alloc (.cells #[.int .i64 (q : Int)] 3) = w6 at c6 hnc ⊢
 have A6 := AW.below c6
 have z6 := c6.size
 have s6 : Sm [b, ba, g] W w6 := .below c6 fun y hy => (hl5 y hy).1
 repeat ((conv => whnf); first | (refine VS.mk s6 ?_) | refine Xt ?_ | refine Xq ?_ | refine Xn ?_ | refine Xj ?_ | refine Xo ?_); try (conv => whnf)
 refine VApp.off 1 8 _ Tryz.underlying56 info3 rfl (by decide) eNat (fun _ => rfl) one_eNat (l.take i) q hlt A6.pr hnc A6.kz (by omega) (by omega) fun A8 c8 κ8 w8 oA8 q8 kz8 => ?_
 have s8 : Sm [b, ba, g] W w8 := s6.trans fun y hy => q8.same y (by have := (hl5 y hy).1; omega) (by have := (hl5 y hy).2; omega)
 have t8 := there_roF A6.th A6.hb q8 (by rw [A6.kb]; omega)
 repeat ((conv => whnf); first | (refine VS.mk s8 ?_) | refine Xt ?_ | refine Xq ?_ | refine Xn ?_ | refine Xj ?_ | refine Xo ?_); try (conv => whnf)
 refine VStore.cell (by kernel_rfl) (by have := (t8 4 (by omega)).1; rwa [Nat.zero_add] at this) (by have := (t8 4 (by omega)).2; rwa [Nat.zero_add] at this) rfl rfl fun w9 hw9 => ?_
 obtain ⟨A9, q9⟩ := A6.s_memA q oA8 q8 kz8 (w2 := w9) (by rw [show (Rf.new v (l.take i) sn wn).mem.length = i from hlt]; exact hw9.out)
 clear hw9
 have b9 : Below w1.heap.size w1 w9 := q9.toBelow (bW.trans (c6.mono bW.size)) (by omega) fun y hy => by rw [old y hy]; omega
 have old9 : ∀ y, y < w1.heap.size → κ8 y = 0 := fun y hy => (q9.kk y (by omega)).trans (old y hy)
 have z9 := q9.size
 -- the numbers told
 have M1 := A9.l_told (l := [b, ba, g]) (by simp)
 rw [show ({ Rf.new v (l.take i) sn wn with mem := (Rf.new v (l.take i) sn wn).mem ++ [q] } : Rf).told.length = i by show ((l.take i).map _).length = i; rw [List.length_map]; exact hlt] at M1
 repeat ((conv => whnf); first | (refine VS.last rfl ?_) | refine Xl (M1.at (Sm.refl _ _)) ?_ | refine Xt ?_ | refine Xq ?_ | refine Xn ?_ | refine Xj ?_ | refine Xo ?_); try (conv => whnf)
 refine VBs.mk _ _ (bs49 w9 0) ?_
 have d6 : Below w9.heap.size w9 (w9.alloc (.cells #[.int .i64 (0 : Int)] 3)) := (Below.refl _ _).alloc (Nat.le_refl _) _
 have hnd : ∀ j u, (eNat 0)[j]? = some u → (w9.alloc (.cells #[.int .i64 (0 : Int)] 3)).cell? ⟨w9.heap.size, j, none⟩ = some u := fun j u hu => by
   have := range_new w9 #[.int .i64 (0 : Int)] 3 j u hu
   rwa [Nat.zero_add] at this
 generalize w9.alloc (.cells #[.int .i64 (0 : Int)] 3) = x6 at d6 hnd ⊢
 have B6 := A9.below d6
 have y6 := d6.size
 repeat ((conv => whnf); first | refine Xt ?_ | refine Xq ?_ | refine Xn ?_ | refine Xj ?_ | refine Xo ?_); try (conv => whnf)
 refine VApp.off 1 8 _ Tryz.underlying56 info3 rfl (by decide) eNat (fun _ => rfl) one_eNat ((l.take i).map fun _ => 0) 0 (by rw [List.length_map]; exact hlt) B6.tr hnd B6.kz (by omega) (by omega) fun B8 e8 κ10 x8 pA8 p8 kz10 => ?_
 have u8 := there_roF B6.th B6.hb p8 (by rw [B6.kb]; omega)
 repeat ((conv => whnf); first | refine Xt ?_ | refine Xq ?_ | refine Xn ?_ | refine Xj ?_ | refine Xo ?_); try (conv => whnf)
 refine VStore.cell (by kernel_rfl) (by have := (u8 11 (by omega)).1; rwa [Nat.zero_add] at this) (by have := (u8 11 (by omega)).2; rwa [Nat.zero_add] at this) rfl rfl fun x9 hx9 => ?_
 obtain ⟨B9, p9⟩ := B6.s_toldA 0 pA8 p8 kz10 (w2 := x9) (by rw [show ({ Rf.new v (l.take i) sn wn with mem := (Rf.new v (l.take i) sn wn).mem ++ [q] } : Rf).told.length = i by show ((l.take i).map _).length = i; rw [List.length_map]; exact hlt]; exact hx9.out)
 clear hx9
 have b10 : Below w1.heap.size w1 x9 := p9.toBelow (b9.trans (d6.mono b9.size)) (by omega) fun y hy => by rw [old9 y hy]; omega
 have old10 : ∀ y, y < w1.heap.size → κ10 y = 0 := fun y hy => (p9.kk y (by omega)).trans (old9 y hy)
 have z10 := p9.size
 -- who was heard
 have oX := range_same o1 (b10.block ba (by omega))
 have bwX : Below w.heap.size w x9 := bw1.trans (b10.mono bw1.size)
 have rmX : x9.rangeAt g (off + i * 3) (eMbr m) := fun j u hu => (World.cell?_of_block (a := ⟨g, off + i * 3 + j, none⟩) (bwX.block g hg)).trans (hc i m hm j u hu)
 have hl7 : ∀ y ∈ [b, ba, g], y < x9.heap.size ∧ (κ10 y = r ∨ κ10 y = 0) := fun y hy => by
   simp only [List.mem_cons, List.not_mem_nil, or_false] at hy
   rcases hy with rfl | rfl | rfl
   · exact ⟨B9.hb, .inl B9.kb⟩
   · exact ⟨by omega, .inr (old10 _ (by omega))⟩
   · exact ⟨by omega, .inr (old10 _ (by omega))⟩
 have P0 := B9.l_saw (l := [b, ba, g]) (by simp)
 rw [show ({ ({ Rf.new v (l.take i) sn wn with mem := (Rf.new v (l.take i) sn wn).mem ++ [q] } : Rf) with told := ({ Rf.new v (l.take i) sn wn with mem := (Rf.new v (l.take i) sn wn).mem ++ [q] } : Rf).told ++ [0] } : Rf).saw.length = i by show ((l.take i).map _).length = i; rw [List.length_map]; exact hlt] at P0
 have PM : Ld Tryz.prog 39 ba 4 (Sm [b, ba, g] x9) (.slice (some ⟨g, off, none⟩) nB cB) := ⟨fun W' hW => load61 (by rw [← hBA]; exact cell_sm (oX 4 _ rfl) (by simp) hW)⟩
 have PP : Ld Tryz.prog 3 g (addO (off + mulO i 3) 0) (Sm [b, ba, g] x9) (.int .i64 q) := ⟨fun W' hW => load3 (by rw [hpn, show addO (off + mulO i 3) 0 = off + i * 3 + 0 by rw [mulO_eq]; rfl]; exact cell_sm (rmX 0 _ rfl) (by simp) hW)⟩
 have sX : Sm [b, ba, g] x9 x9.drew := fun _ _ => rfl
 have hdec : ∀ v : Bool, v = decide (q = sn) → True := fun _ _ => trivial
 by_cases hqs : q = sn
 · repeat ((conv => whnf); first | refine Xt ?_ | refine Xq ?_ | refine Xn ?_ | refine Xj ?_ | refine Xo ?_); try (conv => whnf)
   refine VDraw.pl 17 (.one [0, 1, 2, 3, 4, 5, 6, 7, 8, 9, 10, 11, 12] 13 (.one [] 14 (.one [15, 16] 17 (.stop [])))) (Sm [b, ba, g] x9) (by kernel_rfl) (sX) ?_
   repeat ((conv => whnf); first | refine Xl P0 ?_ | refine Xl PM ?_ | refine Xl PP ?_ | refine Xt ?_ | refine Xq ?_ | refine Xn ?_ | refine Xj ?_ | refine Xo ?_); try (conv => whnf)
   have hbq : true = decide (q = sn) := by rw [decide_eq_true hqs]
   refine VBs.mk _ _ (bs55 x9.drew true) ?_
   have e6 : Below x9.heap.size x9 (x9.drew.alloc (.cells #[.bool true] 4)) := Below.trans (Below.drew (Below.refl _ x9)) ((Below.refl x9.drew.heap.size x9.drew).alloc (Nat.le_refl _) _)
   have hne : ∀ j u, (eBo true)[j]? = some u → (x9.drew.alloc (.cells #[.bool true] 4)).cell? ⟨x9.drew.heap.size, j, none⟩ = some u := fun j u hu => by
     have := range_new x9.drew #[.bool true] 4 j u hu
     rwa [Nat.zero_add] at this
   generalize x9.drew.alloc (.cells #[.bool true] 4) = v6 at e6 hne ⊢
   have C6 := B9.below e6
   have v6z := e6.size
   have s6' : Sm [b, ba, g] x9 v6 := .below e6 fun y hy => (hl7 y hy).1
   repeat ((conv => whnf); first | (refine VS.mk s6' ?_) | refine Xt ?_ | refine Xq ?_ | refine Xn ?_ | refine Xj ?_ | refine Xo ?_); try (conv => whnf)
   refine VApp.off 1 1 _ Tryz.underlying55 info4 rfl (by decide) eBo (fun _ => rfl) one_eBo ((l.take i).map fun z => decide (z = sn)) true (by rw [List.length_map]; exact hlt) C6.wr hne C6.kz (by omega) (by omega) fun C8 f8 κ12 v8 oC8 q8' kz12 => ?_
   have s8' : Sm [b, ba, g] x9 v8 := s6'.trans fun y hy => q8'.same y (by have := (hl7 y hy).1; omega) (by have := (hl7 y hy).2; omega)
   have t8' := there_roF C6.th C6.hb q8' (by rw [C6.kb]; omega)
   repeat ((conv => whnf); first | (refine VS.mk s8' ?_) | refine Xt ?_ | refine Xq ?_ | refine Xn ?_ | refine Xj ?_ | refine Xo ?_); try (conv => whnf)
   refine VStore.cell (by kernel_rfl) (by have := (t8' 12 (by omega)).1; rwa [Nat.zero_add] at this) (by have := (t8' 12 (by omega)).2; rwa [Nat.zero_add] at this) rfl rfl fun v9 hv9 => ?_
   obtain ⟨C9, q9'⟩ := C6.s_sawA true oC8 q8' kz12 (w2 := v9) (by rw [show ({ ({ Rf.new v (l.take i) sn wn with mem := (Rf.new v (l.take i) sn wn).mem ++ [q] } : Rf) with told := ({ Rf.new v (l.take i) sn wn with mem := (Rf.new v (l.take i) sn wn).mem ++ [q] } : Rf).told ++ [0] } : Rf).saw.length = i by show ((l.take i).map _).length = i; rw [List.length_map]; exact hlt]; exact hv9.out)
   clear hv9
   have b12 : Below w1.heap.size w1 v9 := q9'.toBelow (b10.trans (e6.mono b10.size)) (by omega) fun y hy => by rw [old10 y hy]; omega
   have old12 : ∀ y, y < w1.heap.size → κ12 y = 0 := fun y hy => (q9'.kk y (by omega)).trans (old10 y hy)
   repeat ((conv => whnf); first | (refine VS.last rfl ?_) | refine Xt ?_ | refine Xq ?_ | refine Xn ?_ | refine Xj ?_ | refine Xo ?_); try (conv => whnf)
   have hnew : Rf.new v (l.take (i + 1)) sn wn = { ({ ({ Rf.new v (l.take i) sn wn with mem := (Rf.new v (l.take i) sn wn).mem ++ [q] } : Rf) with told := ({ Rf.new v (l.take i) sn wn with mem := (Rf.new v (l.take i) sn wn).mem ++ [q] } : Rf).told ++ [0] } : Rf) with saw := ({ ({ Rf.new v (l.take i) sn wn with mem := (Rf.new v (l.take i) sn wn).mem ++ [q] } : Rf) with told := ({ Rf.new v (l.take i) sn wn with mem := (Rf.new v (l.take i) sn wn).mem ++ [q] } : Rf).told ++ [0] } : Rf).saw ++ [true] } := by
     unfold Rf.new
     rw [htk, List.map_append, List.map_append, hbq]
     rfl
   have C10 := @Eq.subst _ (fun z => RefAt v9 κ12 r b z _) _ _ hnew.symm C9
   exact .mk (i + 1) ⟨rfl, rfl, rfl, rfl, trivial⟩ ⟨hin, κ12, _, Below.refl _ _, b12, C10, old12⟩ (by show nB - (i + 1) < nB - i; omega)
 · repeat ((conv => whnf); first | refine Xt ?_ | refine Xq ?_ | refine Xn ?_ | refine Xj ?_ | refine Xo ?_); try (conv => whnf)
   refine VDraw.pl 17 (.one [0, 1, 2, 3, 4, 5, 6, 7, 8, 9, 10, 11, 12] 13 (.one [] 14 (.one [15, 16] 17 (.stop [])))) (Sm [b, ba, g] x9) (by kernel_rfl) (sX) ?_
   repeat ((conv => whnf); first | refine Xl P0 ?_ | refine Xl PM ?_ | refine Xl PP ?_ | refine Xt ?_ | refine Xq ?_ | refine Xn ?_ | refine Xj ?_ | refine Xo ?_); try (conv => whnf)
   have hbq : false = decide (q = sn) := by rw [decide_eq_false hqs]
   refine VBs.mk _ _ (bs55 x9.drew false) ?_
   have e6 : Below x9.heap.size x9 (x9.drew.alloc (.cells #[.bool false] 4)) := Below.trans (Below.drew (Below.refl _ x9)) ((Below.refl x9.drew.heap.size x9.drew).alloc (Nat.le_refl _) _)
   have hne : ∀ j u, (eBo false)[j]? = some u → (x9.drew.alloc (.cells #[.bool false] 4)).cell? ⟨x9.drew.heap.size, j, none⟩ = some u := fun j u hu => by
     have := range_new x9.drew #[.bool false] 4 j u hu
     rwa [Nat.zero_add] at this
   generalize x9.drew.alloc (.cells #[.bool false] 4) = v6 at e6 hne ⊢
   have C6 := B9.below e6
   have v6z := e6.size
   have s6' : Sm [b, ba, g] x9 v6 := .below e6 fun y hy => (hl7 y hy).1
   repeat ((conv => whnf); first | (refine VS.mk s6' ?_) | refine Xt ?_ | refine Xq ?_ | refine Xn ?_ | refine Xj ?_ | refine Xo ?_); try (conv => whnf)
   refine VApp.off 1 1 _ Tryz.underlying55 info4 rfl (by decide) eBo (fun _ => rfl) one_eBo ((l.take i).map fun z => decide (z = sn)) false (by rw [List.length_map]; exact hlt) C6.wr hne C6.kz (by omega) (by omega) fun C8 f8 κ12 v8 oC8 q8' kz12 => ?_
   have s8' : Sm [b, ba, g] x9 v8 := s6'.trans fun y hy => q8'.same y (by have := (hl7 y hy).1; omega) (by have := (hl7 y hy).2; omega)
   have t8' := there_roF C6.th C6.hb q8' (by rw [C6.kb]; omega)
   repeat ((conv => whnf); first | (refine VS.mk s8' ?_) | refine Xt ?_ | refine Xq ?_ | refine Xn ?_ | refine Xj ?_ | refine Xo ?_); try (conv => whnf)
   refine VStore.cell (by kernel_rfl) (by have := (t8' 12 (by omega)).1; rwa [Nat.zero_add] at this) (by have := (t8' 12 (by omega)).2; rwa [Nat.zero_add] at this) rfl rfl fun v9 hv9 => ?_
   obtain ⟨C9, q9'⟩ := C6.s_sawA false oC8 q8' kz12 (w2 := v9) (by rw [show ({ ({ Rf.new v (l.take i) sn wn with mem := (Rf.new v (l.take i) sn wn).mem ++ [q] } : Rf) with told := ({ Rf.new v (l.take i) sn wn with mem := (Rf.new v (l.take i) sn wn).mem ++ [q] } : Rf).told ++ [0] } : Rf).saw.length = i by show ((l.take i).map _).length = i; rw [List.length_map]; exact hlt]; exact hv9.out)
   clear hv9
   have b12 : Below w1.heap.size w1 v9 := q9'.toBelow (b10.trans (e6.mono b10.size)) (by omega) fun y hy => by rw [old10 y hy]; omega
   have old12 : ∀ y, y < w1.heap.size → κ12 y = 0 := fun y hy => (q9'.kk y (by omega)).trans (old10 y hy)
   repeat ((conv => whnf); first | (refine VS.last rfl ?_) | refine Xt ?_ | refine Xq ?_ | refine Xn ?_ | refine Xj ?_ | refine Xo ?_); try (conv => whnf)
   have hnew : Rf.new v (l.take (i + 1)) sn wn = { ({ ({ Rf.new v (l.take i) sn wn with mem := (Rf.new v (l.take i) sn wn).mem ++ [q] } : Rf) with told := ({ Rf.new v (l.take i) sn wn with mem := (Rf.new v (l.take i) sn wn).mem ++ [q] } : Rf).told ++ [0] } : Rf) with saw := ({ ({ Rf.new v (l.take i) sn wn with mem := (Rf.new v (l.take i) sn wn).mem ++ [q] } : Rf) with told := ({ Rf.new v (l.take i) sn wn with mem := (Rf.new v (l.take i) sn wn).mem ++ [q] } : Rf).told ++ [0] } : Rf).saw ++ [false] } := by
     unfold Rf.new
     rw [htk, List.map_append, List.map_append, hbq]
     rfl
   have C10 := @Eq.subst _ (fun z => RefAt v9 κ12 r b z _) _ _ hnew.symm C9
   exact .mk (i + 1) ⟨rfl, rfl, rfl, rfl, trivial⟩ ⟨hin, κ12, _, Below.refl _ _, b12, C10, old12⟩ (by show nB - (i + 1) < nB - i; omega)
end
end Go.Proofs.YtoilipfgimcoiaaGreat
