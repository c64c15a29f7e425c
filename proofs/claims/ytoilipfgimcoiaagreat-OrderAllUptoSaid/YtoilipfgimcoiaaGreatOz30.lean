/- PmI PmJ, joined. -/
import Derived.Test.YtoilipfgimcoiaaGreatRows
import Derived.Deep.Slices
import Derived.Deep.Fields
import Derived.WalkKit
import Derived.ProofKit
import Derived.OpenShut
import Derived.JoinedCond
import Derived.Below
import Derived.Carry
import Derived.ChangeSame
import Derived.Test.YtoilipfgimcoiaaGreatOz29
set_option linter.unusedVariables false
set_option linter.unusedSimpArgs false
namespace Go.Proofs.YtoilipfgimcoiaaGreat
open Go Go.RowKit
def bk0 : BkX := ⟨none, 0, [], 0⟩
def py0 : PyX := ⟨fun _ => none, fun _ => none, bk0, none, 0, []⟩
abbrev play0 : Array Value := #[.pointer none, .pointer none, .pointer none, .pointer none, .pointer none, .pointer none, .slice none 0 0, .slice none 0 0, .int .i64 0, .slice none 0 0]
theorem build36 (W : World) : (Instr.build 36 #[]).run Tryz.prog W = .ok (.agg play0) W := by kernel_rfl
def eOp (x : OpX) : List Value := (opA x).toList
theorem one_eOp (x : OpX) : ∀ u ∈ eOp x, u.oneCell' = true := by
 intro u hu
 simp [eOp] at hu
 rcases hu with rfl | rfl | rfl | rfl | rfl | rfl | rfl | rfl | rfl | rfl | rfl | rfl | rfl | rfl | rfl | rfl | rfl | rfl | rfl | rfl | rfl | rfl | rfl | rfl | rfl <;> rfl
theorem one_opA (x : OpX) : (opA x).all (·.oneCell') = true := all_oneCell_toArray (one_eOp x)
theorem zero52 : ∃ z : Value, z.cells.size = 25 ∧ ∀ W : World, (zeroValue 52).run Tryz.prog W = .ok z W := ⟨.agg #[.int .i64 0, .int .i64 0, .int .i64 0, .int .i64 0, .int .i64 0, .int .i64 0, .int .i64 0, .int .i64 0, .slice none 0 0, .slice none 0 0, .int .i64 0, .int .i64 0, .int .i64 0, .int .i64 0, .slice none 0 0, .int .i64 0, .int .i64 0, .int .i64 0, .int .i64 0, .int .i64 0, .int .i64 0, .int .i64 0, .int .i64 0, .int .i64 0, .int .i64 0], rfl, fun W => by kernel_rfl⟩
structure OpIn (w : World) (x : OpX) : Prop where
 ms : RowAt w w.heap.size 3 eMbr x.mA x.ms
 bd : RowAt w w.heap.size 1 eByte x.bA x.bd
 it : RowAt w w.heap.size 1 eByte x.iA x.it.b
 l1 : x.ms.length ≤ 1000000
 l2 : x.bd.length ≤ 100000000
 l3 : x.it.b.length ≤ 100000000
 p1 : -9223372036854775808 ≤ x.it.pos
 p2 : x.it.pos ≤ 9223372036854775807
def OpsAt (w : World) (A : Option Addr) (l : List OpX) : Prop := RowAt w w.heap.size 25 eOp A l ∧ ∀ x ∈ l, OpIn w x
section
variable {K : Nat → Nat} {w w1 : World}
theorem py0_at (b : Nat) (hb : b < w.heap.size) (kb : K b = 1) (rg : w.rangeAt b 0 play0.toList) (th : w.there b 0 10) (kz : ∀ y, w.heap.size ≤ y → K y = 0) : PlayAt 0 w K b py0 := by
 refine ⟨⟨hb, kb, rg, th, ⟨hb, kb, ?_, fun i hi => ?_, .inl ⟨rfl, rfl, rfl⟩, fun p x hx => ?_, fun x hx => (List.not_mem_nil hx).elim, Nat.zero_le _, kz⟩, .inl ⟨rfl, rfl, rfl⟩, Nat.zero_le _, fun k x hx => ?_, rfl⟩, fun i hi => .inl ⟨rfl, rfl⟩⟩
 · exact range_sub (n := 3) rg 6 rfl
 · have := th (6 + i) (by omega)
   rwa [Nat.zero_add] at this
 · exact absurd hx (by simp [py0, bk0])
 · exact absurd hx (by simp [py0])
set_option maxRecDepth 100000 in
set_option maxHeartbeats 16000000 in
theorem play_any (A : Option Addr) (c : Nat) (l : List OpX) (n : Nat) (lo hi : Int) (w : World) (hn : l.length = n) (hN : n ≤ 9223372036854775807) (HO : OpsAt w A l) :
   Calls Tryz.prog 11 #[.slice A n c, .int .i64 lo, .int .i64 hi] w fun e w' => e = .returned (.bool true) ∧ Below w.heap.size w w' := by
 refine calls_vc tab_ok Tryz.func11 rfl ?_
 conv => whnf
 repeat ((conv => whnf); first | refine Xt ?_ | refine Xq ?_ | refine Xn ?_ | refine Xj ?_ | refine Xo ?_); try (conv => whnf)
 refine VBuild.mk _ build36 ?_
 repeat ((conv => whnf); first | refine Xt ?_ | refine Xq ?_ | refine Xn ?_ | refine Xj ?_ | refine Xo ?_); try (conv => whnf)
 conv => whnf
 refine .mk fun w1 hw1 => ?_
 obtain ⟨b, hb⟩ : ∃ b, b = w.heap.size := ⟨_, rfl⟩
 rw [← hb]
 have b1 : Below w.heap.size w w1 := by rw [hw1.out]; exact below_box1 _ _ _
 have z1 : w1.heap.size = w.heap.size + 1 := by rw [hw1.out]; simp
 have r1 : w1.rangeAt b 0 play0.toList := by rw [hw1.out, hb]; exact range_new w _ 36
 have t1 : w1.there b 0 10 := by rw [hw1.out, hb]; exact there_new w _ 36
 clear hw1
 obtain ⟨K1, hK1⟩ : ∃ K1 : Nat → Nat, K1 = fun z => if z = b then 1 else 0 := ⟨_, rfl⟩
 have k1b : K1 b = 1 := by rw [hK1]; exact if_pos rfl
 have k1o : ∀ y, y ≠ b → K1 y = 0 := fun y hy => by rw [hK1]; exact if_neg hy
 have H0 : PlayAt 0 w1 K1 b py0 := py0_at b (by omega) k1b r1 t1 fun y hy => k1o y (by omega)
 obtain ⟨hrow, hops⟩ := HO
 rw [← hb] at hrow
 have hcell : ∀ {W : World}, w1.heap.size ≤ W.heap.size → (∀ z, z < b → W.heap[z]? = w1.heap[z]?) → ∀ (k : Nat) (x : OpX), l[k]? = some x → OpAt W K1 x := fun {W} hs hW k x hx => by
   have O := hops x (List.mem_of_getElem? hx)
   have bl : ∀ z, z < b → W.heap[z]? = w.heap[z]? := fun z hz => (hW z hz).trans (b1.block z (by omega))
   have go : ∀ {α : Type} {sz : Nat} {enc : α → List Value} {A : Option Addr} {m : List α}, RowAt w w.heap.size sz enc A m → RowK W K1 sz enc A m := fun {α sz enc A m} h hl => by
     obtain ⟨g, off, e, h1, h2⟩ := h hl
     exact ⟨g, off, e, by omega, k1o g (by omega), fun k x hx j u hu => (World.cell?_of_block (a := ⟨g, _, none⟩) (bl g (by omega))).trans (h2 k x hx j u hu)⟩
   exact ⟨go O.ms, go O.bd, go O.it, O.l1, O.l2, O.l3, O.p1, O.p2⟩
 repeat ((conv => whnf); first | refine Xt ?_ | refine Xq ?_ | refine Xn ?_ | refine Xj ?_ | refine Xo ?_); try (conv => whnf)
 refine VLoop.mk Nat (fun k => [(0, .slice A n c), (1, .int .i64 lo), (2, .int .i64 hi), (7, .pointer (some ⟨b, 0, none⟩)), (8, .bool true), (9, .int .i64 k)]) (fun k W => k ≤ 300 ∧ ∃ Y K, PlayAt k W K b Y ∧ Ro (fun z => z ≠ 0) K1 K w1 W) (fun k => 300 - k) 0 ⟨rfl, rfl, rfl, rfl, rfl, rfl, trivial⟩ ⟨by omega, py0, K1, H0, Ro.refl _ _ _⟩ ?_
 rintro k W ⟨hk, Y, K, H, q⟩
 have sW := q.size
 have bl : ∀ z, z < b → W.heap[z]? = w1.heap[z]? := fun z hz => q.same z (by omega) (by rw [k1o z (by omega)]; simp)
 have bW : Below b w W := q.toBelow (by rw [← hb] at b1; exact b1) (by omega) fun z hz => by rw [k1o z (by omega)]; simp
 by_cases hgo : k < n ∧ k < 300
 case neg =>
   by_cases hkn : k < n
   · have hk3 : k = 300 := by omega
     subst hk3
     repeat ((conv => whnf); first | refine Xt ?_ | refine Xq ?_ | refine Xn ?_ | refine Xj ?_ | refine Xo ?_); try (conv => whnf)
     refine VCall.mk _ (settle_any H (by omega)) ?_
     rintro _ W2 ⟨rfl, Y2, K2, P2, q2⟩
     refine ⟨_, rfl, ?_⟩
     repeat ((conv => whnf); first | refine Xt ?_ | refine Xq ?_ | refine Xn ?_ | refine Xj ?_ | refine Xo ?_); try (conv => whnf)
     refine VCall.mk _ (first_any W2) ?_
     rintro _ W3 ⟨rfl, b3⟩
     refine ⟨_, rfl, ?_⟩
     repeat ((conv => whnf); first | refine Xt ?_ | refine Xq ?_ | refine Xn ?_ | refine Xj ?_ | refine Xo ?_); try (conv => whnf)
     have s2 := q2.size
     have b2 : Below b w W2 := (q.trans q2).toBelow (by rw [← hb] at b1; exact b1) (by omega) fun z hz => by rw [k1o z (by omega)]; simp
     exact .mk ⟨rfl, b2.trans (b3.mono (by omega))⟩
   · skip
     repeat ((conv => whnf); first | refine Xt ?_ | refine Xq ?_ | refine Xn ?_ | refine Xj ?_ | refine Xo ?_); try (conv => whnf)
     refine VCall.mk _ (settle_any H (by omega)) ?_
     rintro _ W2 ⟨rfl, Y2, K2, P2, q2⟩
     refine ⟨_, rfl, ?_⟩
     repeat ((conv => whnf); first | refine Xt ?_ | refine Xq ?_ | refine Xn ?_ | refine Xj ?_ | refine Xo ?_); try (conv => whnf)
     refine VCall.mk _ (first_any W2) ?_
     rintro _ W3 ⟨rfl, b3⟩
     refine ⟨_, rfl, ?_⟩
     repeat ((conv => whnf); first | refine Xt ?_ | refine Xq ?_ | refine Xn ?_ | refine Xj ?_ | refine Xo ?_); try (conv => whnf)
     have s2 := q2.size
     have b2 : Below b w W2 := (q.trans q2).toBelow (by rw [← hb] at b1; exact b1) (by omega) fun z hz => by rw [k1o z (by omega)]; simp
     exact .mk ⟨rfl, b2.trans (b3.mono (by omega))⟩
 obtain ⟨hkn, hk3⟩ := hgo
 obtain ⟨x, hx⟩ : ∃ x, l[k]? = some x := ⟨_, List.getElem?_eq_getElem (by omega)⟩
 obtain ⟨gA, oA, rfl, hgA, cA⟩ := hrow (by omega)
 have LX : Ld Tryz.prog 52 gA (oA + mulO k 25) (Eq W) (.agg (opA x)) := .of (load_agg (cs := eOp x) (by kernel_rfl) (by kernel_rfl) fun j u hu => (World.cell?_of_block (a := ⟨gA, _, none⟩) ((bl gA hgA).trans (b1.block gA (by omega)))).trans (by rw [mulO_eq]; exact cA k x hx j u hu))
 obtain ⟨z52, hzs, hz52⟩ := zero52
 repeat ((conv => whnf); first | refine Xl LX ?_ | refine Xt ?_ | refine Xq ?_ | refine Xn ?_ | refine Xj ?_ | refine Xo ?_); try (conv => whnf)
 refine .mk _ hz52 ?_
 conv => whnf
 refine .mk fun u hu => ?_
 repeat ((conv => whnf); first | refine Xt ?_ | refine Xq ?_ | refine Xn ?_ | refine Xj ?_ | refine Xo ?_); try (conv => whnf)
 obtain ⟨g2, hg2⟩ : ∃ g2, g2 = W.heap.size := ⟨_, rfl⟩
 refine VStore.new (c' := opA x) hu (by kernel_rfl) hzs (one_opA x) fun y2 hy2 => ?_
 rw [← hg2]
 have e2 : Below W.heap.size W y2 := by rw [hy2.out]; exact (Below.refl _ _).alloc (Nat.le_refl _) _
 have zz2 : y2.heap.size = W.heap.size + 1 := by rw [hy2.out]; exact World.size_alloc _ _
 have rg2 : y2.rangeAt g2 0 (eOp x) := by rw [hy2.out, hg2]; exact range_new W _ 52
 clear hy2 hu
 clear u
 have LY : ∀ {y : World}, y.heap[g2]? = y2.heap[g2]? → Ld Tryz.prog 52 g2 0 (Eq y) (.agg (opA x)) := fun h => .of (load_agg (cs := eOp x) (by kernel_rfl) (by kernel_rfl) (range_same rg2 h))
 have O1 : OpAt y2 K x := by
   have O0 := hcell (W := W) sW bl k x hx
   have qq : Ro (fun z => z ≠ 0) K1 K w1 y2 := q.trans (.below e2)
   have O0 := hcell (W := w1) (Nat.le_refl _) (fun _ _ => rfl) k x hx
   exact O0.ro qq (by simp)
 have H2 := H.below e2
 repeat ((conv => whnf); first | refine Xl (LY rfl) ?_ | refine Xt ?_ | refine Xq ?_ | refine Xn ?_ | refine Xj ?_ | refine Xo ?_); try (conv => whnf)
 refine VCall.mk _ (step_any H2 (by omega) O1) ?_
 rintro _ y3 ⟨rfl, Y3, K3, P3, q3⟩
 refine ⟨_, rfl, ?_⟩
 repeat ((conv => whnf); first | refine Xt ?_ | refine Xq ?_ | refine Xn ?_ | refine Xj ?_ | refine Xo ?_); try (conv => whnf)
 exact .mk (k + 1) ⟨rfl, rfl, rfl, rfl, rfl, rfl, trivial⟩ ⟨by omega, Y3, K3, P3, (q.trans (.below e2)).trans q3⟩ (by show 300 - (k + 1) < 300 - k; omega)
end
end Go.Proofs.YtoilipfgimcoiaaGreat
namespace Go.Proofs.YtoilipfgimcoiaaGreat
open Go.RowKit Go.Deep Go.ChangeShapes Go.WideShapes Go.ChangeAt
theorem exists_list {α : Type} {P : Nat → α → Prop} : ∀ n, (∀ i, i < n → ∃ x, P i x) → ∃ l : List α, l.length = n ∧ ∀ k x, l[k]? = some x → P k x
 | 0, _ => ⟨[], rfl, by intro k x h; simp at h⟩
 | n + 1, h => by
   obtain ⟨l, hl, hp⟩ := exists_list n (fun i hi => h i (by omega))
   obtain ⟨x, hx⟩ := h n (by omega)
   refine ⟨l ++ [x], by simp [hl], fun k y hy => ?_⟩
   by_cases hk : k < l.length
   · rw [List.getElem?_append_left hk] at hy; exact hp k y hy
   · rw [List.getElem?_append_right (by omega)] at hy
     have := (List.getElem?_eq_some_iff.1 hy).1
     obtain rfl : k = n := by simp at this; omega
     rw [hl] at hy; simp at hy; subst hy; exact hx
theorem cell_lt {w : World} {a : Addr} {u : Value} (h : w.cell? a = some u) : a.block < w.heap.size ∧ a.spot = none := by
 refine ⟨World.block_lt_of_cell? w a h, ?_⟩
 unfold World.cell? at h
 split at h
 · cases hs : a.spot with
   | none => rfl
   | some x => rw [hs] at h; simp at h
 · cases h
namespace bulks
theorem one_le {H : Type} (d : DataW H) : 1 ≤ Rows.uptoBulk d := by
 cases d with
 | lit l => cases l <;> simp [Rows.uptoBulk]
 | nil => simp [Rows.uptoBulk]
 | ptr d => simp [Rows.uptoBulk]
 | slice elems spare => simp [Rows.uptoBulk]
 | agg parts => simp [Rows.uptoBulk]
 | iface t d => simp [Rows.uptoBulk]
 | map entries => simp [Rows.uptoBulk]
 | held h => simp [Rows.uptoBulk]
theorem part_le {H : Type} {d : DataW H} {l : List (DataW H)} (h : d ∈ l) : Rows.uptoBulk d ≤ Rows.uptoBulkAll l := by
 induction l with
 | nil => cases h
 | cons x r ih =>
   simp only [Rows.uptoBulkAll]
   cases List.mem_cons.1 h with
   | inl e => subst e; omega
   | inr e => have := ih e; omega
theorem two_le {H : Type} : ∀ (l : List (DataW H)), (∀ d ∈ l, 2 ≤ Rows.uptoBulk d) → l.length * 2 ≤ Rows.uptoBulkAll l
 | [], _ => by simp
 | d :: l, h => by
   have h1 := h d (List.mem_cons_self ..)
   have h2 := two_le l (fun x hx => h x (List.mem_cons_of_mem _ hx))
   simp only [Rows.uptoBulkAll, List.length_cons]; omega
theorem length_le {H : Type} (l : List (DataW H)) : l.length ≤ Rows.uptoBulkAll l := by
 induction l with
 | nil => simp [Rows.uptoBulkAll]
 | cons x r ih => have := one_le x; simp only [Rows.uptoBulkAll, List.length_cons]; omega
theorem slice_len {H : Type} (elems spare : List (DataW H)) : elems.length ≤ Rows.uptoBulk (.slice elems spare) := by
 have h1 := length_le elems
 simp only [Rows.uptoBulk]; omega
theorem slice_part {H : Type} {d : DataW H} {elems spare : List (DataW H)} (h : d ∈ elems) : Rows.uptoBulk d ≤ Rows.uptoBulk (.slice elems spare) := by
 have h1 := part_le h
 simp only [Rows.uptoBulk]; omega
theorem agg_part {H : Type} {d : DataW H} {parts : List (DataW H)} (h : d ∈ parts) : Rows.uptoBulk d ≤ Rows.uptoBulk (.agg parts) := by
 have h1 := part_le h
 simp only [Rows.uptoBulk]; omega
end bulks
section
variable {H : Type} {enc : TypeId × Value → H} {P : Program} {W : World} {sp : Nat → Bool}
theorem open_row {α : Type} {t e : TypeId} {sz : Nat} (ht : P.underlying t = some (.slice e)) (hc : P.cellsOf e = sz) (hsz : 0 < sz) (ec : α → List Value) (Q : α → Nat → Prop)
   (helem : ∀ (n : Nat) (cs : List Value) (y : DataW H × List MemPlace), DataW.trod enc P W 0 sp true n e cs = some y → ∃ x, cs = ec x ∧ Q x (Rows.uptoBulk y.1))
   {fuel : Nat} {v : Value} {x : DataW H × List MemPlace} (h : DataW.trod enc P W 0 sp true fuel t [v] = some x) :
   ∃ (A : Option Addr) (l : List α) (c : Nat), v = .slice A l.length c ∧ RowAt W W.heap.size sz ec A l ∧ l.length ≤ c ∧ c ≤ 9223372036854775807 ∧ l.length ≤ Rows.uptoBulk x.1 ∧ ∀ y ∈ l, ∃ b, b ≤ Rows.uptoBulk x.1 ∧ Q y b := by
 rcases open_slice ht h with ⟨h1, rfl⟩ | ⟨a, len, cap, m, n, D, Pl, h1, _, hl, hm, hmm, rfl, hi⟩
 · obtain rfl := (List.cons.inj h1).1
   exact ⟨none, [], 0, rfl, fun h => absurd h (by simp), by simp, by omega, by simp, by simp⟩
 · obtain rfl := (List.cons.inj h1).1
   obtain ⟨l, hll, hp⟩ := exists_list (P := fun i (y : α) => W.cells? 0 (a.add (i * sz)) sz = some (ec y) ∧ Q y (Rows.uptoBulk (D i))) len (fun i hil => by
     obtain ⟨cs, h2, h3⟩ := hi i (by rw [hmm]; split <;> omega)
     obtain ⟨y, rfl, hq⟩ := helem n cs _ h3
     rw [hc] at h2
     exact ⟨y, h2, hq⟩)
   refine ⟨some a, l, cap, by rw [hll], fun h0 => ?_, by omega, by unfold maxLen at hm; omega, ?_, fun y hy => ?_⟩
   · have g0 := hp 0 l[0] (List.getElem?_eq_getElem h0)
     obtain ⟨_, hlen, hcell⟩ := World.cells?_some g0.1
     have c0 := hcell 0 hsz
     have e0 : (a.add (0 * sz)).add 0 = a := by simp [Addr.add]
     rw [e0, List.getElem?_eq_getElem (by omega)] at c0
     obtain ⟨hb, hs⟩ := cell_lt c0
     have ha : a = ⟨a.block, a.off, none⟩ := by cases a; simp at hs; simp [hs]
     refine ⟨a.block, a.off, by rw [← ha], hb, fun k y hk j u hu => ?_⟩
     obtain ⟨g1, _⟩ := hp k y hk
     obtain ⟨_, hlen', hcell'⟩ := World.cells?_some g1
     have hj : j < sz := by have := (List.getElem?_eq_some_iff.1 hu).1; omega
     have := hcell' j hj
     rw [hu, ha, Addr.add_lit, Addr.add_lit] at this
     exact this
   · have := bulks.slice_len ((List.range len).map D) ((List.range (m - len)).map fun j => D (len + j))
     rw [List.length_map, List.length_range] at this
     rw [hll]; exact this
   · obtain ⟨k, hk⟩ := List.mem_iff_getElem?.1 hy
     have hkl := (List.getElem?_eq_some_iff.1 hk).1
     refine ⟨_, bulks.slice_part (List.mem_map.2 ⟨k, List.mem_range.2 (by omega), rfl⟩), (hp k y hk).2⟩
theorem open_row2 {α : Type} {t e : TypeId} {sz : Nat} (ht : P.underlying t = some (.slice e)) (hc : P.cellsOf e = sz) (hsz : 0 < sz) (ec : α → List Value) (Q : α → Nat → Prop)
   (hq2 : ∀ y b, Q y b → 2 ≤ b) (helem : ∀ (n : Nat) (cs : List Value) (y : DataW H × List MemPlace), DataW.trod enc P W 0 sp true n e cs = some y → ∃ x, cs = ec x ∧ Q x (Rows.uptoBulk y.1))
   {fuel : Nat} {v : Value} {x : DataW H × List MemPlace} (h : DataW.trod enc P W 0 sp true fuel t [v] = some x) :
   ∃ (A : Option Addr) (l : List α) (c : Nat), v = .slice A l.length c ∧ RowAt W W.heap.size sz ec A l ∧ l.length ≤ c ∧ c ≤ 9223372036854775807 ∧ l.length * 2 ≤ Rows.uptoBulk x.1 ∧ ∀ y ∈ l, ∃ b, b ≤ Rows.uptoBulk x.1 ∧ Q y b := by
 rcases open_slice ht h with ⟨h1, rfl⟩ | ⟨a, len, cap, m, n, D, Pl, h1, _, hl, hm, hmm, rfl, hi⟩
 · obtain rfl := (List.cons.inj h1).1
   exact ⟨none, [], 0, rfl, fun h => absurd h (by simp), by simp, by omega, by simp, by simp⟩
 · obtain rfl := (List.cons.inj h1).1
   obtain ⟨l, hll, hp⟩ := exists_list (P := fun i (y : α) => W.cells? 0 (a.add (i * sz)) sz = some (ec y) ∧ Q y (Rows.uptoBulk (D i))) len (fun i hil => by
     obtain ⟨cs, h2, h3⟩ := hi i (by rw [hmm]; split <;> omega)
     obtain ⟨y, rfl, hq⟩ := helem n cs _ h3
     rw [hc] at h2
     exact ⟨y, h2, hq⟩)
   refine ⟨some a, l, cap, by rw [hll], fun h0 => ?_, by omega, by unfold maxLen at hm; omega, ?_, fun y hy => ?_⟩
   · have g0 := hp 0 l[0] (List.getElem?_eq_getElem h0)
     obtain ⟨_, hlen, hcell⟩ := World.cells?_some g0.1
     have c0 := hcell 0 hsz
     have e0 : (a.add (0 * sz)).add 0 = a := by simp [Addr.add]
     rw [e0, List.getElem?_eq_getElem (by omega)] at c0
     obtain ⟨hb, hs⟩ := cell_lt c0
     have ha : a = ⟨a.block, a.off, none⟩ := by cases a; simp at hs; simp [hs]
     refine ⟨a.block, a.off, by rw [← ha], hb, fun k y hk j u hu => ?_⟩
     obtain ⟨g1, _⟩ := hp k y hk
     obtain ⟨_, hlen', hcell'⟩ := World.cells?_some g1
     have hj : j < sz := by have := (List.getElem?_eq_some_iff.1 hu).1; omega
     have := hcell' j hj
     rw [hu, ha, Addr.add_lit, Addr.add_lit] at this
     exact this
   · have := bulks.two_le ((List.range len).map D) (fun d hd => by
       obtain ⟨k, hk, rfl⟩ := List.mem_map.1 hd
       have hkl := List.mem_range.1 hk
       exact hq2 _ _ (hp k l[k] (List.getElem?_eq_getElem (by omega))).2)
     rw [List.length_map, List.length_range] at this
     rw [hll]
     simp only [Rows.uptoBulk]; omega
   · obtain ⟨k, hk⟩ := List.mem_iff_getElem?.1 hy
     have hkl := (List.getElem?_eq_some_iff.1 hk).1
     refine ⟨_, bulks.slice_part (List.mem_map.2 ⟨k, List.mem_range.2 (by omega), rfl⟩), (hp k y hk).2⟩
end
section
variable {H : Type} {enc : TypeId × Value → H} {P : Program}
theorem post_of_below {f : Func} {s : ChangeSpec} {apart fresh handsOn again : Bool} {W W' : World} {args : Array Value} {v : Value} {ds gs : List (DataW H)} {before pa pv : List MemPlace}
   (hW : DataW.Whole enc P f.params.toList s.vars apart W args.toList ds gs before)
   (hres : ∀ (b : Nat) (sp : Nat → Bool) (hd : Bool), DataW.TrodAll enc P W' b sp hd f.resultTypes.toList (v.resultList f.resultTypes.size) (s.fn H (ds ++ gs)).results [])
   (hargs : ∀ sp : Nat → Bool, (∀ p ∈ before, sp p.block = true) → DataW.TrodAll enc P W' 0 sp true f.params.toList args.toList (s.fn H (ds ++ gs)).args pa)
   (hvars : ∀ sp : Nat → Bool, (∀ p ∈ before, sp p.block = true) → DataW.TrodVars enc P W' sp s.vars (s.fn H (ds ++ gs)).vars pv)
   (hps : before = pa ++ pv) (hb : Below W.heap.size W W')
   (hok : ∀ (j : Nat) (t : TypeId) (r : Value), f.resultTypes[j]? = some t → (v.resultList f.resultTypes.size)[j]? = some r → Value.okWide P W' .any 0 t r) :
   s.post enc P f apart fresh handsOn again W args v W' := by
 have hlt : ∀ p ∈ before, p.block < W.heap.size := fun p hp => hW.lt p hp
 have hold : ∀ p ∈ before, (fun b => decide (b < W.heap.size)) p.block = true := fun p hp => by simpa using hlt p hp
 refine ⟨ds, gs, before, [], pa, pv, hW, hres _ _ _, hargs _ hold, hvars _ hold, World.keptBut_mono (fun p hp => ⟨hp, ?_⟩) (hb.frame (· ∈ before)), fun _ => ?_⟩
 · rw [hps, List.mem_append] at hp
   exact Or.inr hp
 · obtain ⟨_, _, _, _, _, hz, hn⟩ := hW
   refine ⟨hok, _, _, ([] ++ pa) ++ pv, ⟨[] ++ pa, pv, trodAll_append (hargs _ (fun _ _ => rfl)) (hres _ _ _), hvars _ (fun _ _ => rfl), rfl, ?_, ?_⟩, ?_⟩
   · intro b off hp
     have hin : MemPlace.cell b off ∈ before := by rw [hps]; simpa using hp
     rw [hb.frozen (hlt _ hin)]
     exact hz b off hin
   · intro ha
     have := hn ha
     rw [hps] at this
     simpa using this
   · intro p hp _
     rw [hps]
     simpa using hp
end
theorem own : ownKnob Tryz.prog.godebug = none := by kernel_rfl
theorem laidOut : laidOutB Tryz.prog = true := by kernel_rfl
theorem cells3' : Tryz.prog.cellsOf 3 = 1 := by kernel_rfl
theorem cells5' : Tryz.prog.cellsOf 5 = 1 := by kernel_rfl
theorem cells38' : Tryz.prog.cellsOf 38 = 4 := by kernel_rfl
theorem cells39' : Tryz.prog.cellsOf 39 = 1 := by kernel_rfl
theorem cells70' : Tryz.prog.cellsOf 70 = 3 := by kernel_rfl
theorem cells41' : Tryz.prog.cellsOf 41 = 5 := by kernel_rfl
theorem cells42' : Tryz.prog.cellsOf 42 = 1 := by kernel_rfl
theorem cells44' : Tryz.prog.cellsOf 44 = 4 := by kernel_rfl
theorem cells46' : Tryz.prog.cellsOf 46 = 2 := by kernel_rfl
theorem cells48' : Tryz.prog.cellsOf 48 = 9 := by kernel_rfl
theorem cells50' : Tryz.prog.cellsOf 50 = 6 := by kernel_rfl
theorem cells52' : Tryz.prog.cellsOf 52 = 25 := by kernel_rfl
theorem readable22 : Tryz.prog.readableRec 22 = true := by kernel_rfl
theorem row22 : 22 < Tryz.prog.types.size := of_decide_eq_true (by kernel_rfl)
section
variable {H : Type} {enc : TypeId × Value → H} {W : World} {sp : Nat → Bool}
theorem wf_i64 {n : Int} (h : (Lit.int .i64 n).wf = true) : -9223372036854775808 ≤ n ∧ n ≤ 9223372036854775807 := by
 have e : IntKind.i64.min = -9223372036854775808 := by decide
 have e2 : IntKind.i64.max = 9223372036854775807 := by decide
 simp [Lit.wf, e, e2] at h
 omega
theorem elem5 (n : Nat) (cs : List Value) (y : DataW H × List MemPlace) (h : DataW.trod enc Tryz.prog W 0 sp true n 5 cs = some y) : ∃ x, cs = eByte x ∧ True := by
 obtain ⟨z, hz, _⟩ := DataW.trod_int Tryz.underlying5 h
 exact ⟨z, hz, trivial⟩
set_option maxRecDepth 100000 in
theorem open38 {n : Nat} {u0 u1 u2 u3 : Value} {y : DataW H × List MemPlace} (h : DataW.trod enc Tryz.prog W 0 sp true n 38 [u0, u1, u2, u3] = some y) :
   ∃ v : Vd, u0 = .int .i64 v.e ∧ u1 = .int .i64 v.l ∧ u2 = .int .i64 v.i ∧ u3 = .int .i64 v.c := by
 obtain ⟨ys, m, _, rfl, hlen, hyl, hf⟩ := DataW.trod_struct Tryz.underlying38 h
 have hyl' : ys.length = 4 := hyl
 match ys, hyl' with
 | [y0, y1, y2, y3], _ =>
   have h0 : DataW.trod enc Tryz.prog W 0 sp true m 3 (([u0, u1, u2, u3].drop 0).take (Tryz.prog.cellsOf 3)) = some y0 := hf 0 _ rfl
   have h1 : DataW.trod enc Tryz.prog W 0 sp true m 3 (([u0, u1, u2, u3].drop 1).take (Tryz.prog.cellsOf 3)) = some y1 := hf 1 _ rfl
   have h2 : DataW.trod enc Tryz.prog W 0 sp true m 3 (([u0, u1, u2, u3].drop 2).take (Tryz.prog.cellsOf 3)) = some y2 := hf 2 _ rfl
   have h3 : DataW.trod enc Tryz.prog W 0 sp true m 3 (([u0, u1, u2, u3].drop 3).take (Tryz.prog.cellsOf 3)) = some y3 := hf 3 _ rfl
   rw [cells3'] at h0 h1 h2 h3
   simp only [List.drop_zero, List.drop_succ_cons, List.take_succ_cons, List.take_zero] at h0 h1 h2 h3
   obtain ⟨z0, hz0, _, wz0⟩ := DataW.trod_int Tryz.underlying3 h0
   obtain ⟨z1, hz1, _, wz1⟩ := DataW.trod_int Tryz.underlying3 h1
   obtain ⟨z2, hz2, _, wz2⟩ := DataW.trod_int Tryz.underlying3 h2
   obtain ⟨z3, hz3, _, wz3⟩ := DataW.trod_int Tryz.underlying3 h3
   simp at hz0 hz1 hz2 hz3
   exact ⟨⟨z0, z1, z2, z3⟩, hz0, hz1, hz2, hz3⟩
set_option maxRecDepth 100000 in
theorem open46 {n : Nat} {u0 u1 : Value} {y : DataW H × List MemPlace} (h : DataW.trod enc Tryz.prog W 0 sp true n 46 [u0, u1] = some y) :
   ∃ a b : Int, u0 = .int .i64 a ∧ u1 = .int .i64 b := by
 obtain ⟨ys, m, _, rfl, hlen, hyl, hf⟩ := DataW.trod_struct Tryz.underlying46 h
 have hyl' : ys.length = 2 := hyl
 match ys, hyl' with
 | [y0, y1], _ =>
   have h0 : DataW.trod enc Tryz.prog W 0 sp true m 3 (([u0, u1].drop 0).take (Tryz.prog.cellsOf 3)) = some y0 := hf 0 _ rfl
   have h1 : DataW.trod enc Tryz.prog W 0 sp true m 3 (([u0, u1].drop 1).take (Tryz.prog.cellsOf 3)) = some y1 := hf 1 _ rfl
   rw [cells3'] at h0 h1
   simp only [List.drop_zero, List.drop_succ_cons, List.take_succ_cons, List.take_zero] at h0 h1
   obtain ⟨z0, hz0, _, wz0⟩ := DataW.trod_int Tryz.underlying3 h0
   obtain ⟨z1, hz1, _, wz1⟩ := DataW.trod_int Tryz.underlying3 h1
   simp at hz0 hz1
   exact ⟨z0, z1, hz0, hz1⟩
set_option maxRecDepth 100000 in
theorem elem70 (n : Nat) (cs : List Value) (y : DataW H × List MemPlace) (h : DataW.trod enc Tryz.prog W 0 sp true n 70 cs = some y) : ∃ x, cs = eMbr x ∧ 2 ≤ Rows.uptoBulk y.1 := by
 obtain ⟨ys, m, _, rfl, hlen, hyl, hf⟩ := DataW.trod_struct Tryz.underlying70 h
 rw [cells70'] at hlen
 have hyl' : ys.length = 3 := hyl
 match cs, hlen with
 | [u0, u1, u2], _ =>
   match ys, hyl' with
   | [y0, y1, y2], _ =>
     have h0 : DataW.trod enc Tryz.prog W 0 sp true m 3 (([u0, u1, u2].drop 0).take (Tryz.prog.cellsOf 3)) = some y0 := hf 0 _ rfl
     have h1 : DataW.trod enc Tryz.prog W 0 sp true m 3 (([u0, u1, u2].drop 1).take (Tryz.prog.cellsOf 3)) = some y1 := hf 1 _ rfl
     have h2 : DataW.trod enc Tryz.prog W 0 sp true m 3 (([u0, u1, u2].drop 2).take (Tryz.prog.cellsOf 3)) = some y2 := hf 2 _ rfl
     rw [cells3'] at h0 h1 h2
     simp only [List.drop_zero, List.drop_succ_cons, List.take_succ_cons, List.take_zero] at h0 h1 h2
     obtain ⟨z0, hz0, _, wz0⟩ := DataW.trod_int Tryz.underlying3 h0
     obtain ⟨z1, hz1, _, wz1⟩ := DataW.trod_int Tryz.underlying3 h1
     obtain ⟨z2, hz2, _, wz2⟩ := DataW.trod_int Tryz.underlying3 h2
     simp at hz0 hz1 hz2
     refine ⟨⟨z0, z1, z2⟩, by simp [eMbr, hz0, hz1, hz2], ?_⟩
     have h6 := bulks.length_le ([y0, y1, y2].map (·.1))
     simp only [Rows.uptoBulk, List.length_map, List.length_cons, List.length_nil] at h6 ⊢
     omega
theorem open39 {fuel : Nat} {v : Value} {x : DataW H × List MemPlace} (h : DataW.trod enc Tryz.prog W 0 sp true fuel 39 [v] = some x) :
   ∃ (A : Option Addr) (l : List Mbr) (c : Nat), v = .slice A l.length c ∧ RowAt W W.heap.size 3 eMbr A l ∧ l.length * 2 ≤ Rows.uptoBulk x.1 := by
 obtain ⟨A, l, c, e, r, _, _, q, _⟩ := open_row2 Tryz.underlying39 cells70' (by decide) eMbr (fun _ b => 2 ≤ b) (fun _ _ h => h) elem70 h
 exact ⟨A, l, c, e, r, q⟩
theorem open42 {fuel : Nat} {v : Value} {x : DataW H × List MemPlace} (h : DataW.trod enc Tryz.prog W 0 sp true fuel 42 [v] = some x) :
   ∃ (A : Option Addr) (l : List Int) (c : Nat), v = .slice A l.length c ∧ RowAt W W.heap.size 1 eByte A l ∧ l.length ≤ Rows.uptoBulk x.1 := by
 obtain ⟨A, l, c, e, r, _, _, q, _⟩ := open_row Tryz.underlying42 cells5' (by decide) eByte (fun _ _ => True) elem5 h
 exact ⟨A, l, c, e, r, q⟩
set_option maxRecDepth 100000 in
theorem open41 {n : Nat} {u0 u1 u2 u3 u4 : Value} {y : DataW H × List MemPlace} (h : DataW.trod enc Tryz.prog W 0 sp true n 41 [u0, u1, u2, u3, u4] = some y) :
   ∃ (v : Vd) (A : Option Addr) (c : Nat) (ms : List Mbr), u0 = .int .i64 v.e ∧ u1 = .int .i64 v.l ∧ u2 = .int .i64 v.i ∧ u3 = .int .i64 v.c ∧ u4 = .slice A ms.length c ∧ RowAt W W.heap.size 3 eMbr A ms ∧ ms.length * 2 ≤ Rows.uptoBulk y.1 := by
 obtain ⟨ys, m, _, rfl, hlen, hyl, hf⟩ := DataW.trod_struct Tryz.underlying41 h
 have hyl' : ys.length = 2 := hyl
 match ys, hyl' with
 | [y0, y1], _ =>
   have h0 : DataW.trod enc Tryz.prog W 0 sp true m 38 (([u0, u1, u2, u3, u4].drop 0).take (Tryz.prog.cellsOf 38)) = some y0 := hf 0 _ rfl
   have h1 : DataW.trod enc Tryz.prog W 0 sp true m 39 (([u0, u1, u2, u3, u4].drop 4).take (Tryz.prog.cellsOf 39)) = some y1 := hf 1 _ rfl
   rw [cells38'] at h0
   rw [cells39'] at h1
   simp only [List.drop_zero, List.drop_succ_cons, List.take_succ_cons, List.take_zero] at h0 h1
   obtain ⟨v, a0, a1, a2, a3⟩ := open38 h0
   obtain ⟨A, l, c, e, r, q⟩ := open39 h1
   exact ⟨v, A, c, l, a0, a1, a2, a3, e, r, Nat.le_trans q (bulks.agg_part (by simp))⟩
set_option maxRecDepth 100000 in
theorem open44 {n : Nat} {u0 u1 u2 u3 : Value} {y : DataW H × List MemPlace} (h : DataW.trod enc Tryz.prog W 0 sp true n 44 [u0, u1, u2, u3] = some y) :
   ∃ (a b d : Int) (A : Option Addr) (c : Nat) (l : List Int), u0 = .int .i64 a ∧ u1 = .int .i64 b ∧ u2 = .int .i64 d ∧ u3 = .slice A l.length c ∧ RowAt W W.heap.size 1 eByte A l ∧ l.length ≤ Rows.uptoBulk y.1 := by
 obtain ⟨ys, m, _, rfl, hlen, hyl, hf⟩ := DataW.trod_struct Tryz.underlying44 h
 have hyl' : ys.length = 4 := hyl
 match ys, hyl' with
 | [y0, y1, y2, y3], _ =>
   have h0 : DataW.trod enc Tryz.prog W 0 sp true m 3 (([u0, u1, u2, u3].drop 0).take (Tryz.prog.cellsOf 3)) = some y0 := hf 0 _ rfl
   have h1 : DataW.trod enc Tryz.prog W 0 sp true m 3 (([u0, u1, u2, u3].drop 1).take (Tryz.prog.cellsOf 3)) = some y1 := hf 1 _ rfl
   have h2 : DataW.trod enc Tryz.prog W 0 sp true m 3 (([u0, u1, u2, u3].drop 2).take (Tryz.prog.cellsOf 3)) = some y2 := hf 2 _ rfl
   have h3 : DataW.trod enc Tryz.prog W 0 sp true m 42 (([u0, u1, u2, u3].drop 3).take (Tryz.prog.cellsOf 42)) = some y3 := hf 3 _ rfl
   rw [cells3'] at h0 h1 h2
   rw [cells42'] at h3
   simp only [List.drop_zero, List.drop_succ_cons, List.take_succ_cons, List.take_zero] at h0 h1 h2 h3
   obtain ⟨z0, hz0, _, wz0⟩ := DataW.trod_int Tryz.underlying3 h0
   obtain ⟨z1, hz1, _, wz1⟩ := DataW.trod_int Tryz.underlying3 h1
   obtain ⟨z2, hz2, _, wz2⟩ := DataW.trod_int Tryz.underlying3 h2
   simp at hz0 hz1 hz2
   obtain ⟨A, l, c, e, r, q⟩ := open42 h3
   exact ⟨z0, z1, z2, A, c, l, hz0, hz1, hz2, e, r, Nat.le_trans q (bulks.agg_part (by simp))⟩
set_option maxRecDepth 100000 in
theorem open48 {n : Nat} {u0 u1 u2 u3 u4 u5 u6 u7 u8 : Value} {y : DataW H × List MemPlace} (h : DataW.trod enc Tryz.prog W 0 sp true n 48 [u0, u1, u2, u3, u4, u5, u6, u7, u8] = some y) :
   ∃ (i : Itm) (A : Option Addr) (c : Nat), [u0, u1, u2, u3, u4, u5, u6, u7, u8] = (itA i A c i.b.length).toList ∧ RowAt W W.heap.size 1 eByte A i.b ∧ i.b.length ≤ Rows.uptoBulk y.1 ∧ -9223372036854775808 ≤ i.pos ∧ i.pos ≤ 9223372036854775807 := by
 obtain ⟨ys, m, _, rfl, hlen, hyl, hf⟩ := DataW.trod_struct Tryz.underlying48 h
 have hyl' : ys.length = 5 := hyl
 match ys, hyl' with
 | [y0, y1, y2, y3, y4], _ =>
   have h0 : DataW.trod enc Tryz.prog W 0 sp true m 3 (([u0, u1, u2, u3, u4, u5, u6, u7, u8].drop 0).take (Tryz.prog.cellsOf 3)) = some y0 := hf 0 _ rfl
   have h1 : DataW.trod enc Tryz.prog W 0 sp true m 44 (([u0, u1, u2, u3, u4, u5, u6, u7, u8].drop 1).take (Tryz.prog.cellsOf 44)) = some y1 := hf 1 _ rfl
   have h2 : DataW.trod enc Tryz.prog W 0 sp true m 3 (([u0, u1, u2, u3, u4, u5, u6, u7, u8].drop 5).take (Tryz.prog.cellsOf 3)) = some y2 := hf 2 _ rfl
   have h3 : DataW.trod enc Tryz.prog W 0 sp true m 3 (([u0, u1, u2, u3, u4, u5, u6, u7, u8].drop 6).take (Tryz.prog.cellsOf 3)) = some y3 := hf 3 _ rfl
   have h4 : DataW.trod enc Tryz.prog W 0 sp true m 46 (([u0, u1, u2, u3, u4, u5, u6, u7, u8].drop 7).take (Tryz.prog.cellsOf 46)) = some y4 := hf 4 _ rfl
   rw [cells3'] at h0 h2 h3
   rw [cells44'] at h1
   rw [cells46'] at h4
   simp only [List.drop_zero, List.drop_succ_cons, List.take_succ_cons, List.take_zero] at h0 h1 h2 h3 h4
   obtain ⟨z0, hz0, _, wz0⟩ := DataW.trod_int Tryz.underlying3 h0
   obtain ⟨z2, hz2, _, wz2⟩ := DataW.trod_int Tryz.underlying3 h2
   obtain ⟨z3, hz3, _, wz3⟩ := DataW.trod_int Tryz.underlying3 h3
   simp at hz0 hz2 hz3
   obtain ⟨s, q, st, A, c, l, a0, a1, a2, a3, r, lq⟩ := open44 h1
   obtain ⟨ss, sq, b0, b1⟩ := open46 h4
   exact ⟨⟨z0, s, q, st, l, z2, z3, ss, sq⟩, A, c, by simp [itA, hz0, hz2, hz3, a0, a1, a2, a3, b0, b1], r, Nat.le_trans lq (bulks.agg_part (by simp)), wf_i64 wz2⟩
set_option maxRecDepth 100000 in
theorem open50 {n : Nat} {u0 u1 u2 u3 u4 u5 : Value} {y : DataW H × List MemPlace} (h : DataW.trod enc Tryz.prog W 0 sp true n 50 [u0, u1, u2, u3, u4, u5] = some y) :
   ∃ t : Stb, [u0, u1, u2, u3, u4, u5] = [.int .i64 t.v.e, .int .i64 t.v.l, .int .i64 t.v.i, .int .i64 t.v.c, .int .i64 t.d, .int .i64 t.p] := by
 obtain ⟨ys, m, _, rfl, hlen, hyl, hf⟩ := DataW.trod_struct Tryz.underlying50 h
 have hyl' : ys.length = 3 := hyl
 match ys, hyl' with
 | [y0, y1, y2], _ =>
   have h0 : DataW.trod enc Tryz.prog W 0 sp true m 38 (([u0, u1, u2, u3, u4, u5].drop 0).take (Tryz.prog.cellsOf 38)) = some y0 := hf 0 _ rfl
   have h1 : DataW.trod enc Tryz.prog W 0 sp true m 3 (([u0, u1, u2, u3, u4, u5].drop 4).take (Tryz.prog.cellsOf 3)) = some y1 := hf 1 _ rfl
   have h2 : DataW.trod enc Tryz.prog W 0 sp true m 3 (([u0, u1, u2, u3, u4, u5].drop 5).take (Tryz.prog.cellsOf 3)) = some y2 := hf 2 _ rfl
   rw [cells3'] at h1 h2
   rw [cells38'] at h0
   simp only [List.drop_zero, List.drop_succ_cons, List.take_succ_cons, List.take_zero] at h0 h1 h2
   obtain ⟨z1, hz1, _, wz1⟩ := DataW.trod_int Tryz.underlying3 h1
   obtain ⟨z2, hz2, _, wz2⟩ := DataW.trod_int Tryz.underlying3 h2
   simp at hz1 hz2
   obtain ⟨v, a0, a1, a2, a3⟩ := open38 h0
   exact ⟨⟨v, z1, z2⟩, by simp [a0, a1, a2, a3, hz1, hz2]⟩
def OpQ (W : World) (x : OpX) (b : Nat) : Prop := RowAt W W.heap.size 3 eMbr x.mA x.ms ∧ RowAt W W.heap.size 1 eByte x.bA x.bd ∧ RowAt W W.heap.size 1 eByte x.iA x.it.b ∧ x.ms.length * 2 ≤ b ∧ x.bd.length ≤ b ∧ x.it.b.length ≤ b ∧ -9223372036854775808 ≤ x.it.pos ∧ x.it.pos ≤ 9223372036854775807
set_option maxRecDepth 100000 in
theorem elem52 (n : Nat) (cs : List Value) (y : DataW H × List MemPlace) (h : DataW.trod enc Tryz.prog W 0 sp true n 52 cs = some y) : ∃ x, cs = eOp x ∧ OpQ W x (Rows.uptoBulk y.1) := by
 obtain ⟨ys, m, _, rfl, hlen, hyl, hf⟩ := DataW.trod_struct Tryz.underlying52 h
 rw [cells52'] at hlen
 have hyl' : ys.length = 8 := hyl
 match cs, hlen with
 | [u0, u1, u2, u3, u4, u5, u6, u7, u8, u9, u10, u11, u12, u13, u14, u15, u16, u17, u18, u19, u20, u21, u22, u23, u24], _ =>
   match ys, hyl' with
   | [y0, y1, y2, y3, y4, y5, y6, y7], _ =>
     have h0 : DataW.trod enc Tryz.prog W 0 sp true m 3 (([u0, u1, u2, u3, u4, u5, u6, u7, u8, u9, u10, u11, u12, u13, u14, u15, u16, u17, u18, u19, u20, u21, u22, u23, u24].drop 0).take (Tryz.prog.cellsOf 3)) = some y0 := hf 0 _ rfl
     have h1 : DataW.trod enc Tryz.prog W 0 sp true m 3 (([u0, u1, u2, u3, u4, u5, u6, u7, u8, u9, u10, u11, u12, u13, u14, u15, u16, u17, u18, u19, u20, u21, u22, u23, u24].drop 1).take (Tryz.prog.cellsOf 3)) = some y1 := hf 1 _ rfl
     have h2 : DataW.trod enc Tryz.prog W 0 sp true m 3 (([u0, u1, u2, u3, u4, u5, u6, u7, u8, u9, u10, u11, u12, u13, u14, u15, u16, u17, u18, u19, u20, u21, u22, u23, u24].drop 2).take (Tryz.prog.cellsOf 3)) = some y2 := hf 2 _ rfl
     have h3 : DataW.trod enc Tryz.prog W 0 sp true m 3 (([u0, u1, u2, u3, u4, u5, u6, u7, u8, u9, u10, u11, u12, u13, u14, u15, u16, u17, u18, u19, u20, u21, u22, u23, u24].drop 3).take (Tryz.prog.cellsOf 3)) = some y3 := hf 3 _ rfl
     have h4 : DataW.trod enc Tryz.prog W 0 sp true m 41 (([u0, u1, u2, u3, u4, u5, u6, u7, u8, u9, u10, u11, u12, u13, u14, u15, u16, u17, u18, u19, u20, u21, u22, u23, u24].drop 4).take (Tryz.prog.cellsOf 41)) = some y4 := hf 4 _ rfl
     have h5 : DataW.trod enc Tryz.prog W 0 sp true m 42 (([u0, u1, u2, u3, u4, u5, u6, u7, u8, u9, u10, u11, u12, u13, u14, u15, u16, u17, u18, u19, u20, u21, u22, u23, u24].drop 9).take (Tryz.prog.cellsOf 42)) = some y5 := hf 5 _ rfl
     have h6 : DataW.trod enc Tryz.prog W 0 sp true m 48 (([u0, u1, u2, u3, u4, u5, u6, u7, u8, u9, u10, u11, u12, u13, u14, u15, u16, u17, u18, u19, u20, u21, u22, u23, u24].drop 10).take (Tryz.prog.cellsOf 48)) = some y6 := hf 6 _ rfl
     have h7 : DataW.trod enc Tryz.prog W 0 sp true m 50 (([u0, u1, u2, u3, u4, u5, u6, u7, u8, u9, u10, u11, u12, u13, u14, u15, u16, u17, u18, u19, u20, u21, u22, u23, u24].drop 19).take (Tryz.prog.cellsOf 50)) = some y7 := hf 7 _ rfl
     rw [cells3'] at h0 h1 h2 h3
     rw [cells41'] at h4
     rw [cells42'] at h5
     rw [cells48'] at h6
     rw [cells50'] at h7
     simp only [List.drop_zero, List.drop_succ_cons, List.take_succ_cons, List.take_zero] at h0 h1 h2 h3 h4 h5 h6 h7
     obtain ⟨z0, hz0, _, wz0⟩ := DataW.trod_int Tryz.underlying3 h0
     obtain ⟨z1, hz1, _, wz1⟩ := DataW.trod_int Tryz.underlying3 h1
     obtain ⟨z2, hz2, _, wz2⟩ := DataW.trod_int Tryz.underlying3 h2
     obtain ⟨z3, hz3, _, wz3⟩ := DataW.trod_int Tryz.underlying3 h3
     simp at hz0 hz1 hz2 hz3
     obtain ⟨v, mA, mc, ms, a0, a1, a2, a3, a4, rm, lm⟩ := open41 h4
     obtain ⟨bA, bd, bc, eb, rb, lb⟩ := open42 h5
     obtain ⟨it, iA, ic, ei, ri, li, p1, p2⟩ := open48 h6
     obtain ⟨st, es⟩ := open50 h7
     simp only [itA, List.cons.injEq, and_true] at ei
     obtain ⟨i0, i1, i2, i3, i4, i5, i6, i7, i8⟩ := ei
     simp only [List.cons.injEq, and_true] at es
     obtain ⟨s0, s1, s2, s3, s4, s5⟩ := es
     have b4 : Rows.uptoBulk y4.1 ≤ Rows.uptoBulk (.agg ([y0, y1, y2, y3, y4, y5, y6, y7].map (·.1))) := bulks.agg_part (by simp)
     have b5 : Rows.uptoBulk y5.1 ≤ Rows.uptoBulk (.agg ([y0, y1, y2, y3, y4, y5, y6, y7].map (·.1))) := bulks.agg_part (by simp)
     have b6 : Rows.uptoBulk y6.1 ≤ Rows.uptoBulk (.agg ([y0, y1, y2, y3, y4, y5, y6, y7].map (·.1))) := bulks.agg_part (by simp)
     refine ⟨⟨z0, z1, z2, z3, v, ms, mA, mc, bd, bA, bc, it, iA, ic, st⟩, by simp [eOp, hz0, hz1, hz2, hz3, a0, a1, a2, a3, a4, eb, i0, i1, i2, i3, i4, i5, i6, i7, i8, s0, s1, s2, s3, s4, s5], rm, rb, ri, Nat.le_trans lm b4, Nat.le_trans lb b5, Nat.le_trans li b6, p1, p2⟩
set_option maxRecDepth 100000 in
theorem came22 {base : Nat} {v : Value} {d : DataW H} {p : List MemPlace} (hv : Value.okWide Tryz.prog W .any base 22 v) (h : DataW.Trod enc Tryz.prog W 0 sp true 22 v d p) (hk : Rows.uptoBulk d ≤ 1048576) :
   ∃ (A : Option Addr) (c : Nat) (l : List OpX), v = .slice A l.length c ∧ OpsAt W A l ∧ l.length ≤ 9223372036854775807 := by
 obtain ⟨a, len, cap, rfl⟩ := okWide_slice Tryz.underlying22 hv
 obtain ⟨fuel, h⟩ := h
 obtain ⟨A, l, c, e, r, r2, r3, _, q⟩ := open_row (x := (d, p)) Tryz.underlying22 cells52' (by decide) eOp (OpQ W) elem52 h
 refine ⟨A, c, l, e, ⟨r, fun x hx => ?_⟩, by omega⟩
 obtain ⟨b, hb, h1, h2, h3, l1, l2, l3, p1, p2⟩ := q x hx
 have hb' : b ≤ 1048576 := Nat.le_trans hb hk
 exact ⟨h1, h2, h3, by omega, by omega, by omega, p1, p2⟩
end
end Go.Proofs.YtoilipfgimcoiaaGreat
