/- OdMg CrBo CrHd, joined. -/
import Derived.Maps.RangeRun
import Derived.Shelf.SlSortCmp.WholeK
import Derived.Shelf.SlSortCmp.NoneTotal
import Derived.Test.YtoilipfgimcoiaaOe21
set_option linter.unusedVariables false
set_option linter.unusedSimpArgs false
namespace Go.Proofs.Ytoilipfgimcoiaa
open Go Go.RowKit
theorem one_eDx (x : DtX) : ∀ u ∈ eDx x, u.oneCell' = true := by
  intro u hu
  simp [eDx] at hu
  rcases hu with rfl | rfl | rfl | rfl <;> rfl
theorem info71 : (Try.prog.info? 71).map (fun i => (i.zero, i.size, i.bytes)) = some (some zero71, 4, 48) := by kernel_rfl
theorem bs57 (W : World) (d : Dt) (A : Option Addr) (c n : Nat) : (Instr.buildSlice 57 1 #[(0, .agg (dtA d A c n))]).run Try.prog W = .ok (.slice (some ⟨W.heap.size, 0, none⟩) 1 1) (W.alloc (.cells (dtA d A c n) 71)) := by kernel_rfl
theorem nodup_len : ∀ (n : Nat) (l : List Nat), l.Nodup → (∀ j ∈ l, j < n) → l.length ≤ n
  | 0, l, _, h => by
    cases l with
    | nil => exact Nat.le_refl _
    | cons a l => exact absurd (h a List.mem_cons_self) (by omega)
  | n + 1, l, hn, h => by
    by_cases hm : n ∈ l
    · have := nodup_len n (l.erase n) (hn.erase n) fun j hj => by
        obtain ⟨h1, h2⟩ := hn.mem_erase_iff.1 hj
        have := h j h2
        omega
      rw [List.length_erase_of_mem hm] at this
      omega
    · have := nodup_len n l hn fun j hj => by
        have h1 := h j hj
        have h2 : j ≠ n := fun e => hm (e ▸ hj)
        omega
      omega
def bornAt (es : Array MapEntry) (j : Nat) : Nat := ((es.toList[j]?).map (·.born)).getD 0
structure MgI (w : World) (r0 bm : Nat) (es : Array MapEntry) (clock : Nat) (hl : List DtX) (js : List Nat) (A : Option Addr) (c : Nat) (xs : List DtX) (K : Nat → Nat) (W : World) : Prop where
  be : Below w.heap.size w W
  it : W.heap[r0]? = some (.mapIter (some bm) clock (js.map fun j => bornAt es j).toArray clock)
  ki : K r0 = 401
  kz : ∀ y, W.heap.size ≤ y → K y = 0
  own : OwnO W K 400 4 eDx A c xs
  ag : ∀ g, blk A = some g → w.heap.size ≤ g
  bod : ∀ x ∈ xs, RowK W K 1 eByte x.A x.d.b ∧ (0 < x.d.b.length → ∃ g off, x.A = some ⟨g, off, none⟩ ∧ w.heap.size ≤ g)
  ds : xs.map (·.d) = js.map (dAt hl)
  nd : js.Nodup
  lt : ∀ j ∈ js, j < hl.length
  old : ∀ k, k < w.heap.size → K k = 0
instance : Inhabited DtX := ⟨⟨dt0, none, 0⟩⟩
instance (x y : Dt) : Decidable (ltD x y) := by unfold ltD; exact inferInstance
def cfD (x y : DtX) : Int := cmpD x.d y.d
theorem lt_cfD (x y : DtX) : Go.Proofs.ltOf cfD x y = decide (ltD x.d y.d) := by
  unfold Go.Proofs.ltOf cfD
  by_cases h : ltD x.d y.d
  · rw [decide_eq_true h, decide_eq_true ((cmpD_lt _ _).2 h)]
  · rw [decide_eq_false h, decide_eq_false (fun e => h ((cmpD_lt _ _).1 e))]
theorem swoD : Go.Sort.SWO (Go.Proofs.ltOf cfD) where
  irrefl x := by rw [lt_cfD]; exact decide_eq_false (ltD_irrefl _)
  trans x y z h1 h2 := by
    rw [lt_cfD] at *
    exact decide_eq_true (ltD_trans (of_decide_eq_true h1) (of_decide_eq_true h2))
  ntrans x y z h1 h2 := by
    rw [lt_cfD] at *
    have h1 := of_decide_eq_false h1
    have h2 := of_decide_eq_false h2
    refine decide_eq_false ?_
    unfold ltD at *
    omega
theorem sort_block {enc : DtX → List Value} {k : Nat} (V : World) (g off n : Nat) (d : Array DtX) (os : Array Obj) {y : Nat} (hy : y < V.heap.size) (hne : y ≠ g) : (Go.Proofs.sortWorldK enc k V g off n d os).heap[y]? = V.heap[y]? := by
  unfold Go.Proofs.sortWorldK Go.Sort.grow Go.Sort.putRowK Go.Sort.putRow Go.Sort.mapBlock Go.Sort.ahead
  show (Array.modify V.heap g _ ++ os)[y]? = _
  rw [Array.getElem?_append_left (by simpa using hy), Array.getElem?_modify, if_neg (fun e => hne e.symm)]
theorem holds_row {A : Option Addr} {c g off : Nat} {V : World} {K : Nat → Nat} {xs : List DtX} (how : OwnO V K 400 4 eDx (some ⟨g, off, none⟩) c xs) : Go.Sort.HoldsK eDx 4 V g off xs.toArray := by
  rcases how with ⟨e, -, -⟩ | ⟨g', off', e, h1, h2, h3, h4, h5⟩
  · cases e
  injection e with e
  injection e with e1 e2 _
  subst e1 e2
  intro j hj
  rw [Go.Sort.size_flatK] at hj
  have hj4 : j < xs.length * 4 := by simpa using hj
  rw [Go.Sort.get_flatK _ _ _ _ hj]
  have hq : j / 4 < xs.length := by omega
  have hx : xs[j / 4]? = some xs[j / 4] := List.getElem?_eq_getElem hq
  have e1 : xs.toArray[j / 4]! = xs[j / 4] := by simp [hq]
  rw [e1]
  have hlen : (eDx xs[j / 4]).length = 4 := rfl
  have hr : j % 4 < (eDx xs[j / 4]).length := by rw [hlen]; omega
  have e2 : (eDx xs[j / 4])[j % 4]! = (eDx xs[j / 4])[j % 4] := by simp [hr]
  rw [e2]
  refine ⟨?_, (h4 j (by omega)).2⟩
  have := h5 (j / 4) _ hx (j % 4) _ (List.getElem?_eq_getElem hr)
  rw [show off + j = off + j / 4 * 4 + j % 4 by omega]
  exact this
section
variable {w w' : World} {K K' : Nat → Nat} {r b : Nat} {o : Os} {X : OsX}
set_option maxRecDepth 100000 in
set_option maxHeartbeats 8000000 in
theorem messages_any (A : OrdAt w K r b o X) (W : WfO o) (hbl : ∀ d ∈ o.held, d.b.length ≤ 1000000) (hhl : o.held.length ≤ 1000000) :
    Calls Try.prog 22 #[.pointer (some ⟨b, 0, none⟩)] w fun e w' => ∃ A' c' xs, e = .returned (.slice A' xs.length c') ∧ NewRow w' w.heap.size 4 eDx A' xs ∧ (∀ x ∈ xs, NewRow w' w.heap.size 1 eByte x.A x.d.b) ∧ MsgOf o.held (xs.map (·.d)) ∧ Below w.heap.size w w' := by
  refine calls_vc tab_ok Try.func22 rfl ?_
  have hbz := A.cs.hb
  obtain ⟨es, clock, hm, hes, hborn⟩ := A.rs.map
  have hkey := Keys.of W A.rs.hd
  have hhd := A.rs.hd
  have hbm : X.hb < w.heap.size := (Array.getElem?_eq_some_iff.1 hm).1
  have hsz : es.toList.length = X.hl.length := by have := congrArg List.length hes; simpa using this
  have hhl' : X.hl.length ≤ 1000000 := by rw [← hhd, List.length_map] at hhl; exact hhl
  have LM := A.l_held (l := [b]) (by simp)
  conv => whnf
  repeat ((conv => whnf); first | (refine VLoad.mk _ (LM.at (Sm.refl _ _)) ?_) | (refine VCmp.tt (by omega) ?_) | (refine VCmp.ff (by omega) ?_) | (refine VIn.mk (IntWalk.i64_in _ (by omega)) ?_) | (refine VIdx.mk _ rfl (by omega) ?_) | (refine VIdx.mk 0 rfl (by omega) ?_))
  try (conv => whnf)
  refine VW.run (v := .pointer (some ⟨w.heap.size, 0, none⟩)) (w' := w.alloc (.mapIter (some X.hb) clock #[] clock)) (fun a ha => ?_) ?_
  · have h3 := ha (.tmp 9) _ rfl
    have := run_range_map (P := Try.prog) w 94 78 71 X.hb es clock Try.underlying94 hm
    simp only [execOp, h3, Sem.run_bind, Sem.run_pure, Result.andThen_ok]
    exact congrArg (fun z => Result.andThen z fun v w' => Result.ok (Next.value v) w') this
  obtain ⟨r0, hr0⟩ : ∃ r0, r0 = w.heap.size := ⟨_, rfl⟩
  have b0 : Below w.heap.size w (w.alloc (.mapIter (some X.hb) clock #[] clock)) := (Below.refl _ _).alloc (Nat.le_refl _) _
  have z0 : (w.alloc (.mapIter (some X.hb) clock #[] clock)).heap.size = w.heap.size + 1 := World.size_alloc _ _
  have i0 : (w.alloc (.mapIter (some X.hb) clock #[] clock)).heap[r0]? = some (.mapIter (some X.hb) clock #[] clock) := by rw [hr0]; exact World.alloc_heap_new w _
  rw [← hr0]
  generalize w.alloc (.mapIter (some X.hb) clock #[] clock) = w0 at b0 z0 i0 ⊢
  obtain ⟨K0, hK0⟩ : ∃ K0 : Nat → Nat, K0 = fun y => if y = r0 then 401 else 0 := ⟨_, rfl⟩
  have k0r : K0 r0 = 401 := by rw [hK0]; exact if_pos rfl
  have k0o : ∀ y, y ≠ r0 → K0 y = 0 := fun y hy => by rw [hK0]; exact if_neg hy
  have I0 : MgI w r0 X.hb es clock X.hl [] none 0 [] K0 w0 := ⟨b0, i0, k0r, fun y hy => k0o y (by omega), OwnO.nil _ _ _ _ _, (fun g hg => by cases hg), fun x hx => (List.not_mem_nil hx).elim, rfl, List.nodup_nil, fun j hj => (List.not_mem_nil hj).elim, fun k hk => k0o k (by omega)⟩
  repeat ((conv => whnf); first | (refine VCmp.tt (by omega) ?_) | (refine VCmp.ff (by omega) ?_) | (refine VIn.mk (IntWalk.i64_in _ (by omega)) ?_) | (refine VIdx.mk _ rfl (by omega) ?_) | (refine VIdx.mk 0 rfl (by omega) ?_))
  try (conv => whnf)
  refine VLoop.mk (Option Addr × Nat × List DtX) (fun u => [(0, .pointer (some ⟨b, 0, none⟩)), (3, .slice u.1 u.2.2.length u.2.1), (10, .pointer (some ⟨r0, 0, none⟩))]) (fun u V => ∃ js Kk, MgI w r0 X.hb es clock X.hl js u.1 u.2.1 u.2.2 Kk V) (fun u => X.hl.length - u.2.2.length) (none, 0, []) ⟨rfl, rfl, rfl, trivial⟩ ⟨[], K0, I0⟩ ?_
  rintro ⟨A1, c1, xs⟩ V ⟨js, Kk, I⟩
  have hmV : V.heap[X.hb]? = some (.map es clock) := (I.be.block X.hb hbm).trans hm
  have hxj : xs.length = js.length := by have := congrArg List.length I.ds; simpa using this
  have hold : ∀ x ∈ es.toList, x.born < clock := hborn.2
  have hzV := I.be.size
  have hr0V : r0 < V.heap.size := (Array.getElem?_eq_some_iff.1 I.it).1
  have hjl : js.length ≤ X.hl.length := nodup_len _ _ I.nd I.lt
  obtain ⟨seen, hseen⟩ : ∃ seen, seen = (js.map fun j => bornAt es j).toArray := ⟨_, rfl⟩
  have hit := I.it
  rw [← hseen] at hit
  have hesj : ∀ j, j < X.hl.length → ∃ e x, es.toList[j]? = some e ∧ X.hl[j]? = some x ∧ e.val = vDt x ∧ e.key = kSl x.d.sl := fun j hj => by
    obtain ⟨e, he⟩ : ∃ e, es.toList[j]? = some e := ⟨_, List.getElem?_eq_getElem (by omega)⟩
    obtain ⟨x, hx, h1, h2⟩ := HMap.ent hes he
    exact ⟨e, x, he, hx, h2, h1⟩
  have hcont : ∀ e ∈ es.toList, (seen.contains e.born = true ↔ ∃ j ∈ js, es.toList[j]? = some e) := fun e he => by
    rw [Array.contains_iff_mem, hseen, List.mem_toArray, List.mem_map]
    constructor
    · rintro ⟨j, hj, h1⟩
      obtain ⟨e', x, h2, -, -, -⟩ := hesj j (I.lt j hj)
      unfold bornAt at h1
      rw [h2] at h1
      have h1 : e'.born = e.born := h1
      obtain ⟨p, hp⟩ := List.mem_iff_getElem?.1 he
      have : j = p := by
        have hn := hborn.1
        have g1 : (es.toList.map (·.born))[j]? = some e'.born := by rw [List.getElem?_map, h2]; rfl
        have g2 : (es.toList.map (·.born))[p]? = some e.born := by rw [List.getElem?_map, hp]; rfl
        rw [h1] at g1
        obtain ⟨k1, k2⟩ := List.getElem?_eq_some_iff.1 g1
        obtain ⟨k3, k4⟩ := List.getElem?_eq_some_iff.1 g2
        exact (List.getElem_inj (h₀ := k1) (h₁ := k3) hn).1 (k2.trans k4.symm)
      subst this
      exact ⟨j, hj, hp⟩
    · rintro ⟨j, hj, h1⟩
      exact ⟨j, hj, by unfold bornAt; rw [h1]; rfl⟩
  rcases run_next_at (P := Try.prog) V 0 r0 X.hb clock clock seen es clock hit hmV hold (Nat.le_refl _) with ⟨hnone, hrun⟩ | ⟨e, he, V1, hV1, hrun⟩
  · have hall : ∀ j, j < X.hl.length → j ∈ js := fun j hj => by
      obtain ⟨e, x, h1, -⟩ := hesj j hj
      have hme := List.mem_of_getElem? h1
      have hc : seen.contains e.born = true := Classical.byContradiction fun hc => by
        have : e ∈ (leftOf es seen).toList := by unfold leftOf; simp; exact ⟨by simpa using hme, by simpa using hc⟩
        rw [Array.eq_empty_of_size_eq_zero hnone] at this
        simp at this
      obtain ⟨p, hp, h2⟩ := (hcont e hme).1 hc
      have : j = p := by
        have hn := hborn.1
        have g1 : (es.toList.map (·.born))[j]? = some e.born := by rw [List.getElem?_map, h1]; rfl
        have g2 : (es.toList.map (·.born))[p]? = some e.born := by rw [List.getElem?_map, h2]; rfl
        obtain ⟨k1, k2⟩ := List.getElem?_eq_some_iff.1 g1
        obtain ⟨k3, k4⟩ := List.getElem?_eq_some_iff.1 g2
        exact (List.getElem_inj (h₀ := k1) (h₁ := k3) hn).1 (k2.trans k4.symm)
      rw [this]; exact hp
    repeat ((conv => whnf); first | (refine VCmp.tt (by omega) ?_) | (refine VCmp.ff (by omega) ?_) | (refine VIn.mk (IntWalk.i64_in _ (by omega)) ?_) | (refine VIdx.mk _ rfl (by omega) ?_) | (refine VIdx.mk 0 rfl (by omega) ?_))
    try (conv => whnf)
    refine VW.run (v := .tuple #[.bool false]) (w' := V) (fun a ha => ?_) ?_
    · have h3 := ha (.tmp 10) _ rfl
      simp only [execOp, h3, Sem.run_bind, Sem.run_pure, Result.andThen_ok]
      exact congrArg (fun z => Result.andThen z fun v w' => Result.ok (Next.value v) w') hrun
    repeat ((conv => whnf); first | (refine VCmp.tt (by omega) ?_) | (refine VCmp.ff (by omega) ?_) | (refine VIn.mk (IntWalk.i64_in _ (by omega)) ?_) | (refine VIdx.mk _ rfl (by omega) ?_) | (refine VIdx.mk 0 rfl (by omega) ?_))
    try (conv => whnf)
    have hperm : (xs.map (·.d)).Perm o.held := by
      rw [I.ds, ← hhd, ← dAt_all]
      exact (perm_nodup js (List.range X.hl.length) I.nd List.nodup_range fun a => ⟨fun ha => List.mem_range.2 (I.lt a ha), fun ha => hall a (List.mem_range.1 ha)⟩).map _
    cases hxs : xs with
    | nil =>
      subst hxs
      refine VCall.mk _ (Go.Proofs.AnyF.slices_SortFunc_none sortD A1 c1 (.func (.func 42) #[] #[]) V) ?_
      rintro _ x5 ⟨rfl, e5⟩
      subst x5
      refine ⟨_, rfl, ?_⟩
      repeat ((conv => whnf); first | (refine VCmp.tt (by omega) ?_) | (refine VCmp.ff (by omega) ?_) | (refine VIn.mk (IntWalk.i64_in _ (by omega)) ?_) | (refine VIdx.mk _ rfl (by omega) ?_) | (refine VIdx.mk 0 rfl (by omega) ?_))
      try (conv => whnf)
      subst hr0
      exact .mk ⟨A1, c1, [], rfl, fun h => absurd h (by simp), fun x hx => (List.not_mem_nil hx).elim, ⟨hperm, List.Pairwise.nil⟩, I.be⟩
    | cons x0 xt =>
      rw [← hxs]
      have hown := I.own
      obtain ⟨g, off, rfl, hgV, kg⟩ : ∃ g off, A1 = some ⟨g, off, none⟩ ∧ g < V.heap.size ∧ Kk g = 400 := by
        rcases hown with ⟨-, e, -⟩ | ⟨g, off, e, h1, h2, -⟩
        · have e : xs = [] := e
          rw [hxs] at e; cases e
        · exact ⟨g, off, e, h1, h2⟩
      have hgw : w.heap.size ≤ g := I.ag g rfl
      have hH := holds_row (A := none) hown
      have eg : ∀ args W, (callFunc 42 args).run Try.prog W = .ok (.enter 42 args) W := Go.Proofs.enters_of Try.func42 (by kernel_rfl) rfl
      have hxl : xs.length ≤ 1000000 := by omega
      have hcmp : Go.Proofs.CmpLays Try.prog 42 #[] eDx 4 cfD g off xs.toArray.size V := fun m os dk _ x y => by
        refine (cmpD_any x.d y.d x.A y.A x.c y.c x.d.b.length y.d.b.length _).mono fun e W' ⟨h1, _, h3⟩ => ⟨h1, h3⟩
      have hcon := Go.Proofs.AnyQ.slices_SortFunc sortD 4 Try.isAgg71 Try.sizeOf71 eDx (fun _ => rfl) (fun x v hv => one_eDx x v hv) cfD swoD 42 #[] g off c1 xs.toArray V eg hcmp hH hgV (by simp; omega)
      refine VCall.mk _ (show Calls Try.prog 41 #[.slice (some ⟨g, off, none⟩) xs.length c1, .func (.func 42) #[] #[]] V _ from hcon) ?_
      rintro _ V' ⟨rfl, d', n', os', hp, hso, rfl⟩
      refine ⟨_, rfl, ?_⟩
      have hsz' : d'.size = xs.length := by have := hp.1; simpa using this
      have hpl : d'.toList.Perm xs := by
        have := hp.2.2
        simp at this
        rwa [List.take_of_length_le (by simpa using Nat.le_of_eq hsz')] at this
      have hH' := Go.Proofs.holdsK_sortWorldK_c eDx 4 V g off xs.toArray d' n' os' hH hgV (by simpa using hsz')
      have hblk : ∀ y, y < V.heap.size → y ≠ g → (Go.Proofs.sortWorldK eDx 4 V g off n' d' os').heap[y]? = V.heap[y]? := fun y hy hne => sort_block V g off n' d' os' hy hne
      have hsize := Go.Proofs.size_sortWorldK_c eDx 4 V g off n' d' os'
      have hl' : xs.length = d'.toList.length := hsz'.symm.trans (Array.length_toList (xs := d')).symm
      repeat ((conv => whnf); first | (refine VCmp.tt (by omega) ?_) | (refine VCmp.ff (by omega) ?_) | (refine VIn.mk (IntWalk.i64_in _ (by omega)) ?_) | (refine VIdx.mk _ rfl (by omega) ?_) | (refine VIdx.mk 0 rfl (by omega) ?_))
      try (conv => whnf)
      subst hr0
      refine .mk ⟨some ⟨g, off, none⟩, c1, d'.toList, by rw [← hl']; rfl, fun hl => ⟨g, off, rfl, hgw, by omega, fun k x hx j u hu => ?_⟩, fun x hx hl => ?_, ⟨(hpl.map _).trans hperm, ?_⟩, ⟨I.be.os, I.be.tape, I.be.output, by omega, fun y hy => (hblk y (by omega) (by omega)).trans (I.be.block y hy)⟩⟩
      · have hk : k < d'.size := by have := (List.getElem?_eq_some_iff.1 hx).1; simpa using this
        have hj : j < 4 := (List.getElem?_eq_some_iff.1 hu).1
        have := (hH' (k * 4 + j) (by rw [Go.Sort.size_flatK]; omega)).1
        rw [Go.Sort.get_flatK _ _ _ _ (by omega), show (k * 4 + j) / 4 = k by omega, show (k * 4 + j) % 4 = j by omega] at this
        have e1 : d'[k]! = x := by
          rw [Array.getElem?_toList] at hx
          rw [Array.getElem!_eq_getD, Array.getD_eq_getD_getElem?, hx]; rfl
        rw [e1] at this
        have e2 : (eDx x)[j]! = u := by
          rw [List.getElem!_eq_getElem?_getD, hu]; rfl
        rw [e2] at this
        rw [Nat.add_assoc]
        exact this
      · obtain ⟨h1, h2⟩ := I.bod x (hpl.mem_iff.1 hx)
        obtain ⟨g1, off1, e1, k1, k2, k3⟩ := h1 hl
        obtain ⟨g2, off2, e2, k4⟩ := h2 hl
        rw [e1] at e2
        injection e2 with e2
        injection e2 with e2 _ _
        subst e2
        refine ⟨g1, off1, e1, k4, by omega, fun k y hy j u hu => ?_⟩
        exact (World.cell?_of_block (a := ⟨g1, _, none⟩) (hblk g1 k1 (fun e => by rw [e, kg] at k2; omega))).trans (k3 k y hy j u hu)
      · have hnd : (d'.toList.map (·.d.sl)).Nodup := by
          have h1 : (d'.toList.map (·.d)).Perm o.held := (hpl.map _).trans hperm
          have h2 := (h1.map Dt.sl).nodup_iff.2 W.nd
          rwa [List.map_map] at h2
        rw [List.pairwise_map, List.pairwise_iff_getElem]
        intro i j hi hj hij
        have hi' : i < d'.size := by simpa using hi
        have hj' : j < d'.size := by simpa using hj
        have := hso i j (Nat.zero_le _) hij (by simpa [hsz'] using hj')
        rw [getElem!_pos d' i hi', getElem!_pos d' j hj', lt_cfD] at this
        have h3 := of_decide_eq_false this
        have h4 : d'[i].d.sl ≠ d'[j].d.sl := fun e => by
          have := (List.getElem_inj (xs := d'.toList.map (·.d.sl)) (h₀ := by simpa using hi) (h₁ := by simpa using hj) hnd).1 (by simpa using e)
          omega
        simpa using ltD_tri h3 h4
  · repeat ((conv => whnf); first | (refine VCmp.tt (by omega) ?_) | (refine VCmp.ff (by omega) ?_) | (refine VIn.mk (IntWalk.i64_in _ (by omega)) ?_) | (refine VIdx.mk _ rfl (by omega) ?_) | (refine VIdx.mk 0 rfl (by omega) ?_))
    try (conv => whnf)
    refine VW.run (v := .tuple #[.bool true, e.key, e.val]) (w' := ChangeMaps.setBlock V1 r0 (.mapIter (some X.hb) clock (seen.push e.born) clock)) (fun a ha => ?_) ?_
    · have h3 := ha (.tmp 10) _ rfl
      simp only [execOp, h3, Sem.run_bind, Sem.run_pure, Result.andThen_ok]
      exact congrArg (fun z => Result.andThen z fun v w' => Result.ok (Next.value v) w') hrun
    have heL : e ∈ es.toList ∧ seen.contains e.born = false := by
      unfold leftOf at he
      simp only [Array.toList_filter, List.mem_filter] at he
      exact ⟨he.1, by simpa using he.2⟩
    obtain ⟨j, hj⟩ := List.mem_iff_getElem?.1 heL.1
    have hjn : j < X.hl.length := by rw [← hsz]; exact (List.getElem?_eq_some_iff.1 hj).1
    have hjs : j ∉ js := fun hm => by
      have := (hcont e heL.1).2 ⟨j, hm, hj⟩
      rw [heL.2] at this; cases this
    obtain ⟨e', x, h1, hxj', hval, -⟩ := hesj j hjn
    obtain rfl : e = e' := Option.some.inj (hj.symm.trans h1)
    have hxm := List.mem_of_getElem? hxj'
    have hr0V1 : r0 < V1.heap.size := by rcases hV1 with e1 | e1 <;> rw [e1] <;> exact hr0V
    obtain ⟨g2, i2⟩ := setB (w := V1) (b := r0) (.mapIter (some X.hb) clock (seen.push e.born) clock) hr0V1
    obtain ⟨V2, hV2⟩ : ∃ V2, V2 = ChangeMaps.setBlock V1 r0 (.mapIter (some X.hb) clock (seen.push e.born) clock) := ⟨_, rfl⟩
    rw [← hV2] at g2 i2 ⊢
    have bV1 : Below V.heap.size V V1 := by rcases hV1 with e1 | e1 <;> rw [e1]; exact Below.refl _ _; exact (Below.refl _ _).drew
    have q12 : Ro (· = 401) Kk Kk V V2 := (Ro.below bV1).trans (Ro.grown g2 fun k hk => by injection hk with hk; rw [← hk]; exact I.ki)
    have bV2 : Below w.heap.size w V2 := (I.be.trans (bV1.mono I.be.size)).grown g2 (by have := bV1.size; omega) fun k hk => by injection hk with hk; omega
    have zV2 : V2.heap.size = V.heap.size := by
      have : V1.heap.size = V.heap.size := by rcases hV1 with e1 | e1 <;> rw [e1]; rfl
      rw [hV2]; simp [ChangeMaps.setBlock, this]
    clear hV2
    have hm2 : V2.heap[X.hb]? = some (.map es clock) := (bV2.block X.hb hbm).trans hm
    refine VW.run (v := .tuple #[e.key, e.val]) (w' := V2) (fun a ha => ?_) ?_
    · have h3 := ha (.tmp 10) _ rfl
      have hre := run_entry_at (P := Try.prog) V2 r0 X.hb clock seen es clock e i2 hm2 heL.1 hborn.1
      simp only [execOp, h3, Sem.run_bind, Sem.run_pure, Result.andThen_ok]
      exact congrArg (fun z => Result.andThen z fun v w' => Result.ok (Next.value v) w') hre
    have ev : e.val = .agg (dtA x.d x.A x.c x.d.b.length) := hval
    rw [ev]
    repeat ((conv => whnf); first | (refine VCmp.tt (by omega) ?_) | (refine VCmp.ff (by omega) ?_) | (refine VIn.mk (IntWalk.i64_in _ (by omega)) ?_) | (refine VIdx.mk _ rfl (by omega) ?_) | (refine VIdx.mk 0 rfl (by omega) ?_))
    try (conv => whnf)
    refine .mk _ run_zero71 ?_
    conv => whnf
    refine .mk fun u3 hu3 => ?_
    repeat ((conv => whnf); first | (refine VCmp.tt (by omega) ?_) | (refine VCmp.ff (by omega) ?_) | (refine VIn.mk (IntWalk.i64_in _ (by omega)) ?_) | (refine VIdx.mk _ rfl (by omega) ?_) | (refine VIdx.mk 0 rfl (by omega) ?_))
    try (conv => whnf)
    obtain ⟨bt, hbt⟩ : ∃ bt, bt = V2.heap.size := ⟨_, rfl⟩
    refine VStore.new (c' := dtA x.d x.A x.c x.d.b.length) hu3 (by kernel_rfl) rfl (one_dtA _ _ _ _) fun V3 hV3 => ?_
    have b3 : Below V2.heap.size V2 V3 := by rw [hV3.out]; exact (Below.refl _ _).alloc (Nat.le_refl _) _
    have z3 : V3.heap.size = V2.heap.size + 1 := by rw [hV3.out]; exact World.size_alloc _ _
    have r3 : V3.rangeAt bt 0 (dtA x.d x.A x.c x.d.b.length).toList := by rw [hV3.out, hbt]; exact range_new V2 _ 71
    have t3 : V3.there bt 0 4 := by rw [hV3.out, hbt]; exact there_new V2 _ _
    rw [← hbt]
    clear hu3 hV3
    clear u3
    have LB : Ld Try.prog 27 bt 3 (Eq V3) (.slice x.A x.d.b.length x.c) := .of (load27 (r3 3 _ rfl))
    have bV3 : Below w.heap.size w V3 := bV2.trans (b3.mono bV2.size)
    have hxl : x.d.b.length ≤ 1000000 := hbl x.d (by rw [← hhd]; exact List.mem_map.2 ⟨x, hxm, rfl⟩)
    have hxR : RowAt V3 V3.heap.size 1 eByte x.A x.d.b := ((A.rs.bod x hxm).ro (Ro.below (R := fun _ => False) bV3) id).row
    repeat ((conv => whnf); first | (refine VLoad.mk _ LB ?_) | (refine VCmp.tt (by omega) ?_) | (refine VCmp.ff (by omega) ?_) | (refine VIn.mk (IntWalk.i64_in _ (by omega)) ?_) | (refine VIdx.mk _ rfl (by omega) ?_) | (refine VIdx.mk 0 rfl (by omega) ?_))
    try (conv => whnf)
    refine VApp.copy 1 1 _ Try.underlying27 info5 rfl (by decide) eByte (fun _ => rfl) one_eByte x.d.b rfl hxR (by omega) (by omega) fun B4 c4 V4 n4 b4 => ?_
    have t4 := there_same t3 (b4.block bt (by omega))
    have r4 := range_same r3 (b4.block bt (by omega))
    repeat ((conv => whnf); first | (refine VCmp.tt (by omega) ?_) | (refine VCmp.ff (by omega) ?_) | (refine VIn.mk (IntWalk.i64_in _ (by omega)) ?_) | (refine VIdx.mk _ rfl (by omega) ?_) | (refine VIdx.mk 0 rfl (by omega) ?_))
    try (conv => whnf)
    refine VStore.cell (by kernel_rfl) (by have := (t4 3 (by omega)).1; rwa [Nat.zero_add] at this) (by have := (t4 3 (by omega)).2; rwa [Nat.zero_add] at this) rfl rfl fun V5 hV5 => ?_
    obtain ⟨r5, -⟩ := rng_cell (l' := (dtA x.d B4 c4 x.d.b.length).toList) (j := 3) r4 t4 rfl (by omega) hV5.out rfl
    have g5 : V4.grownBy V5 (some bt) := by rw [hV5.out]; exact grown_cell _ _ _ _
    have z5 : V5.heap.size = V4.heap.size := by rw [hV5.out, World.size_setCell]
    have z4 := b4.size
    clear hV5
    have LD : Ld Try.prog 71 bt 0 (Eq V5) (.agg (dtA x.d B4 c4 x.d.b.length)) := .of (load_agg (by kernel_rfl) (by kernel_rfl) r5)
    repeat ((conv => whnf); first | (refine VLoad.mk _ LD ?_) | (refine VCmp.tt (by omega) ?_) | (refine VCmp.ff (by omega) ?_) | (refine VIn.mk (IntWalk.i64_in _ (by omega)) ?_) | (refine VIdx.mk _ rfl (by omega) ?_) | (refine VIdx.mk 0 rfl (by omega) ?_))
    try (conv => whnf)
    have b25 : Below V2.heap.size V2 V5 := (b3.trans (b4.mono b3.size)).grown g5 (by omega) fun k hk => by injection hk with hk; omega
    have n5 : NewRow V5 V3.heap.size 1 eByte B4 x.d.b := fun hl => by
      obtain ⟨g, off, e0, g1, g2, g3⟩ := n4 hl
      exact ⟨g, off, e0, g1, by omega, fun k y hy q u hu => (World.cell?_of_block (a := ⟨g, _, none⟩) (g5.block g g2 (fun e => by injection e with e; omega))).trans (g3 k y hy q u hu)⟩
    have bV5 : Below w.heap.size w V5 := bV2.trans (b25.mono bV2.size)
    have q25 : Ro (· = 401) Kk Kk V V5 := q12.trans (Ro.below b25)
    have kz5 : ∀ y, V5.heap.size ≤ y → Kk y = 0 := fun y hy => I.kz y (by omega)
    have R5 : RowK V5 Kk 1 eByte B4 x.d.b := fun hl => by
      obtain ⟨g, off, e0, g1, g2, g3⟩ := n5 hl
      exact ⟨g, off, e0, g2, I.kz g (by omega), g3⟩
    refine VBs.mk _ _ (bs57 V5 x.d B4 c4 x.d.b.length) ?_
    have b6 : Below V5.heap.size V5 (V5.alloc (.cells (dtA x.d B4 c4 x.d.b.length) 71)) := (Below.refl _ _).alloc (Nat.le_refl _) _
    have hnc : ∀ j u, (eDx ⟨x.d, B4, c4⟩)[j]? = some u → (V5.alloc (.cells (dtA x.d B4 c4 x.d.b.length) 71)).cell? ⟨V5.heap.size, j, none⟩ = some u := fun j u hu => by
      have := range_new V5 (dtA x.d B4 c4 x.d.b.length) 71 j u hu
      rwa [Nat.zero_add] at this
    have z6 : (V5.alloc (.cells (dtA x.d B4 c4 x.d.b.length) 71)).heap.size = V5.heap.size + 1 := World.size_alloc _ _
    generalize V5.alloc (.cells (dtA x.d B4 c4 x.d.b.length) 71) = V6 at b6 hnc z6 ⊢
    have q26 : Ro (· = 401) Kk Kk V V6 := q25.trans (Ro.below b6)
    have own6 := I.own.ro q26 (by decide)
    have hxsl : xs.length ≤ 1000000 := by omega
    repeat ((conv => whnf); first | (refine VCmp.tt (by omega) ?_) | (refine VCmp.ff (by omega) ?_) | (refine VIn.mk (IntWalk.i64_in _ (by omega)) ?_) | (refine VIdx.mk _ rfl (by omega) ?_) | (refine VIdx.mk 0 rfl (by omega) ?_))
    try (conv => whnf)
    refine VApp.off 4 48 _ Try.underlying57 info71 rfl (by decide) eDx (fun _ => rfl) one_eDx xs ⟨x.d, B4, c4⟩ rfl own6 hnc (fun y hy => I.kz y (by omega)) (show xs.length + 1 ≤ 9223372036854775807 by omega) (show (xs.length + 1) * 48 ≤ 140737488355328 by omega) fun A7 c7 K7 V7 o7 q7 kz7 => ?_
    repeat ((conv => whnf); first | (refine VCmp.tt (by omega) ?_) | (refine VCmp.ff (by omega) ?_) | (refine VIn.mk (IntWalk.i64_in _ (by omega)) ?_) | (refine VIdx.mk _ rfl (by omega) ?_) | (refine VIdx.mk 0 rfl (by omega) ?_))
    try (conv => whnf)
    have z7 := q7.size
    have hag : ∀ g, blk A7 = some g → w.heap.size ≤ g := fun g hg => by
      rcases Nat.lt_or_ge g w.heap.size with hlt | hge
      · exfalso
        have h1 := (o7.rl g hg).2
        rw [q7.kk g (by omega)] at h1
        have := I.old g hlt
        omega
      · exact hge
    have ebj : bornAt es j = e.born := by unfold bornAt; rw [hj]; rfl
    have seen_ : (seen.push e.born) = ((js ++ [j]).map fun j => bornAt es j).toArray := by
      rw [List.map_append, hseen, List.map_singleton, ebj]
      simp
    have hnd' : (js ++ [j]).Nodup := List.nodup_append.2 ⟨I.nd, by simp, fun a ha c hc => by rw [List.mem_singleton.1 hc]; exact fun e => hjs (e ▸ ha)⟩
    have hlt' : ∀ a ∈ js ++ [j], a < X.hl.length := fun a ha => by
      rcases List.mem_append.1 ha with h | h
      · exact I.lt a h
      · rw [List.mem_singleton.1 h]; exact hjn
    have hlen' := nodup_len _ _ hnd' hlt'
    rw [List.length_append, List.length_singleton] at hlen'
    refine .mk (A7, c7, xs ++ [⟨x.d, B4, c4⟩]) ⟨rfl, by show _ = some (Value.slice A7 (xs ++ [_]).length c7); rw [List.length_append]; rfl, rfl, trivial⟩ ⟨js ++ [j], K7, ?_⟩ (by show X.hl.length - (xs ++ [_]).length < X.hl.length - xs.length; rw [List.length_append, List.length_singleton]; omega)
    have bV7 : Below w.heap.size w V7 := ⟨q7.os.trans (bV5.trans (b6.mono bV5.size)).os, q7.tape.trans (bV5.trans (b6.mono bV5.size)).tape, q7.output.trans (bV5.trans (b6.mono bV5.size)).output, by omega, fun k hk => (q7.same k (by omega) (by rw [I.old k hk]; decide)).trans ((bV5.trans (b6.mono bV5.size)).block k hk)⟩
    refine ⟨bV7, ?_, (q7.kk r0 (by omega)).trans I.ki, kz7, o7, hag, fun y hy => ?_, ?_, ?_, fun a ha => ?_, fun k hk => (q7.kk k (by omega)).trans (I.old k hk)⟩
    · rw [← seen_]
      refine ((q7.same r0 (by omega) (by rw [I.ki]; decide)).trans ?_)
      exact (b6.block r0 (by omega)).trans ((b25.block r0 (by omega)).trans i2)
    · rcases List.mem_append.1 hy with hy | hy
      · obtain ⟨h1, h2⟩ := I.bod y hy
        exact ⟨(h1.ro q26 (by decide)).ro q7 (by decide), h2⟩
      · rw [List.mem_singleton.1 hy]
        refine ⟨(R5.ro (Ro.below (R := fun _ => False) b6) id).ro q7 (by decide), fun hl => ?_⟩
        obtain ⟨g, off, e0, g1, -, -⟩ := n5 hl
        exact ⟨g, off, e0, by omega⟩
    · rw [List.map_append, List.map_append, I.ds]
      show _ ++ [x.d] = _ ++ [dAt X.hl j]
      unfold dAt
      rw [hxj']; rfl
    · exact hnd'
    · exact hlt' a ha
end
end Go.Proofs.Ytoilipfgimcoiaa
namespace Go.Proofs.Ytoilipfgimcoiaa
open Go Go.RowKit
section
variable {v : Crw} {G : List Sl} {T : Nat}
theorem CI.heldCount (h : CI v G T) {i j : Nat} (hi : i < v.n) (hj : j < v.n) : (v.o i).held.countP (fun d => decide (d.s = pidN j)) ≤ v.win := by
  have m := h.mi i hi
  have hfr := h.fr i j hi hj
  rw [m.gn] at hfr
  obtain ⟨c, hc⟩ : ∃ c, c = cnt (pidN j) (G.take (v.o i).pre) := ⟨_, rfl⟩
  rw [← hc] at hfr
  have hS : SeqOk v.n (G.take (v.o i).pre) := by
    have : SeqOk v.n (G.take (v.o i).pre ++ G.drop (v.o i).pre) := by rw [List.take_append_drop]; exact h.gq.left
    exact this.left
  have hq : ∀ d ∈ (v.o i).held, d.s = pidN j → c < d.q ∧ d.q ≤ (v.o i).taken (pidN j) := fun d hd hds => by
    obtain ⟨h1, k, hk, h2, h3, h4, -⟩ := m.he d hd
    rw [hds] at h4
    refine ⟨?_, h4⟩
    rcases Nat.lt_or_ge c d.q with hlt | hge
    · exact hlt
    · exfalso
      refine h1 ?_
      have := hS.all (G.take (v.o i).pre).length d.q (Nat.le_refl _) h3 (s := pidN j) (by rw [List.take_length]; omega)
      rw [List.take_length] at this
      have e : d.sl = ⟨pidN j, d.q⟩ := by unfold Dt.sl; rw [hds]
      rw [e]; exact this
  have hlen := nodup_len ((v.o i).taken (pidN j) - c) (((v.o i).held.filter fun d => decide (d.s = pidN j)).map fun d => d.q - c - 1) ?_ ?_
  · rw [List.length_map] at hlen
    rw [List.countP_eq_length_filter]
    omega
  · have h1 : (((v.o i).held.filter fun d => decide (d.s = pidN j)).map Dt.sl).Nodup := List.Nodup.sublist (List.Sublist.map _ List.filter_sublist) m.nd
    have h2 : ∀ l : List Dt, (∀ d ∈ l, d ∈ (v.o i).held ∧ d.s = pidN j) → (l.map Dt.sl).Nodup → (l.map fun d => d.q - c - 1).Nodup := fun l => by
      induction l with
      | nil => intro _ _; exact List.nodup_nil
      | cons d l ih =>
        intro ha hn
        rw [List.map_cons, List.nodup_cons] at hn ⊢
        refine ⟨fun hm => hn.1 ?_, ih (fun e he => ha e (List.mem_cons_of_mem _ he)) hn.2⟩
        obtain ⟨e, he, hqe⟩ := List.mem_map.1 hm
        obtain ⟨a1, a2⟩ := ha d List.mem_cons_self
        obtain ⟨b1, b2⟩ := ha e (List.mem_cons_of_mem _ he)
        have q1 := hq d a1 a2
        have q2 := hq e b1 b2
        refine List.mem_map.2 ⟨e, he, ?_⟩
        unfold Dt.sl
        rw [a2, b2, show e.q = d.q by omega]
    exact h2 _ (fun d hd => by
      obtain ⟨a1, a2⟩ := List.mem_filter.1 hd
      exact ⟨a1, of_decide_eq_true a2⟩) h1
  · intro x hx
    obtain ⟨d, hd, rfl⟩ := List.mem_map.1 hx
    obtain ⟨a1, a2⟩ := List.mem_filter.1 hd
    have := hq d a1 (of_decide_eq_true a2)
    omega
theorem CI.heldLen (h : CI v G T) (hT : T ≤ 100000) {i : Nat} (hi : i < v.n) : (v.o i).held.length ≤ 1000000 := by
  have m := h.mi i hi
  have hse := h.se
  have h1 : ∀ l : List Dt, (∀ d ∈ l, ∃ j, j < v.n ∧ d.s = pidN j) → l.length ≤ l.countP (fun d => decide (d.s = 1)) + l.countP (fun d => decide (d.s = 4)) + l.countP (fun d => decide (d.s = 7)) + l.countP (fun d => decide (d.s = 10)) := fun l => by
    induction l with
    | nil => intro _; simp
    | cons d l ih =>
      intro ha
      have := ih fun e he => ha e (List.mem_cons_of_mem _ he)
      obtain ⟨j, hj, hd⟩ := ha d List.mem_cons_self
      have n4 := h.n4
      unfold pidN at hd
      simp only [List.countP_cons, List.length_cons]
      obtain rfl | rfl | rfl | rfl : j = 0 ∨ j = 1 ∨ j = 2 ∨ j = 3 := by omega
      all_goals simp [hd]; omega
  have h2 := h1 (v.o i).held fun d hd => by
    obtain ⟨-, j, hj, h2, -⟩ := m.he d hd
    exact ⟨j, hj, h2⟩
  have h3 : ∀ s, (v.o i).held.countP (fun d => decide (d.s = s)) ≤ 4 := fun s => by
    by_cases hs : ∃ j, j < v.n ∧ s = pidN j
    · obtain ⟨j, hj, rfl⟩ := hs
      exact Nat.le_trans (h.heldCount hi hj) h.w4
    · rw [List.countP_eq_zero.2 fun d hd => ?_]
      · omega
      · obtain ⟨-, j, hj, h2, -⟩ := m.he d hd
        simp only [decide_eq_true_eq]
        exact fun e => hs ⟨j, hj, e ▸ h2⟩
  have a := h3 1
  have b := h3 4
  have c := h3 7
  have d := h3 10
  omega
end
section
variable {w : World} {K : Nat → Nat} {b : Nat} {v : Crw} {X : CwX} {G : List Sl} {T : Nat}
end
end Go.Proofs.Ytoilipfgimcoiaa
namespace Go.Proofs.Ytoilipfgimcoiaa
open Go Go.RowKit
def hadB (l : List Mg) (s : Nat) (q : Int) : Bool := l.any fun m => decide (m.s = s ∧ (m.q : Int) = q)
theorem hadB_take {l : List Mg} {s : Nat} {q : Int} {k : Nat} {m : Mg} (hm : l[k]? = some m) : hadB (l.take (k + 1)) s q = (hadB (l.take k) s q || decide (m.s = s ∧ (m.q : Int) = q)) := by
  unfold hadB
  rw [take_one hm, List.any_append]; simp
section
variable {w : World} {K : Nat → Nat} {b : Nat} {v : Crw} {X : CwX} {G : List Sl} {T : Nat}
set_option maxRecDepth 100000 in
set_option maxHeartbeats 16000000 in
theorem had_any (C : CrwAt w K b v X) {j s : Nat} (hj : j < v.n) (hs : s < 1000) (q : Int) (hl : (v.log j).length ≤ 2000000) : Calls Try.prog 40 #[.pointer (some ⟨b, 0, none⟩), .int .i64 j, .int .i64 s, .int .i64 q] w fun e w' => e = .returned (.bool (hadB (v.log j) (pidN s) q)) ∧ Below w.heap.size w w' := by
  refine calls_vc tab_ok Try.func40 rfl ?_
  have n4 := C.n
  have hbz := C.hb
  obtain ⟨gL, oL, xL, aL⟩ := C.log.get hj
  have M0 := C.l_log (l := [b, gL]) (by simp)
  rw [aL.eA] at M0
  have N0 : Ld Try.prog 38 gL (oL + j) (Sm [b, gL] w) (.slice xL.A (v.log j).length xL.c) := ⟨fun W hW => load38 (cell_sm aL.hc (by simp) hW)⟩
  have hLw : ∀ g ∈ [b, gL], g < w.heap.size := fun g hg => by
    have := aL.hg
    simp only [List.mem_cons, List.not_mem_nil, or_false] at hg
    rcases hg with rfl | rfl <;> assumption
  conv => whnf
  repeat ((conv => whnf); first | (refine VCmp.tt (by omega) ?_) | (refine VCmp.ff (by omega) ?_) | (refine VIn.mk (IntWalk.i64_in _ (by omega)) ?_) | (refine VIdx.mk _ rfl (by omega) ?_) | (refine VIdx.mk 0 rfl (by omega) ?_))
  try (conv => whnf)
  refine VLoop.mk Nat (fun k => [(0, .pointer (some ⟨b, 0, none⟩)), (1, .int .i64 j), (2, .int .i64 s), (3, .int .i64 q), (9, .int .i64 k)]) (fun k W => k ≤ (v.log j).length ∧ Below w.heap.size w W ∧ hadB ((v.log j).take k) (pidN s) q = false) (fun k => (v.log j).length - k) 0 ⟨rfl, rfl, rfl, rfl, rfl, trivial⟩ ⟨Nat.zero_le _, Below.refl _ _, rfl⟩ ?_
  rintro k W ⟨hk, bW, hno⟩
  have sW : Sm [b, gL] w W := .below bW hLw
  by_cases hkl : k < (v.log j).length
  case neg =>
    repeat ((conv => whnf); first | (refine VLoad.mk _ (M0.at sW) ?_) | (refine VLoad.mk _ (N0.at sW) ?_) | (refine VCmp.tt (by omega) ?_) | (refine VCmp.ff (by omega) ?_) | (refine VIn.mk (IntWalk.i64_in _ (by omega)) ?_) | (refine VIdx.mk _ rfl (by omega) ?_) | (refine VIdx.mk 0 rfl (by omega) ?_))
    try (conv => whnf)
    rw [List.take_of_length_le (by omega)] at hno
    exact .mk ⟨by rw [hno]; rfl, bW⟩
  obtain ⟨e, he⟩ : ∃ e, xL.l[k]? = some e := ⟨_, List.getElem?_eq_getElem (by rw [aL.ln]; exact hkl)⟩
  have hem : (v.log j)[k]? = some e.m := by rw [← aL.vl, List.getElem?_map, he]; rfl
  obtain ⟨gE, oE, eE, gE1, cE⟩ : ∃ g off, xL.A = some ⟨g, off, none⟩ ∧ g < w.heap.size ∧ ∀ r u, (eMg e)[r]? = some u → w.cell? ⟨g, off + k * 4 + r, none⟩ = some u := by
    rcases aL.ow with ⟨-, e0, -⟩ | ⟨g, off, e0, k1, k2, k3, k4, k5⟩
    · rw [e0] at he; simp at he
    · exact ⟨g, off, e0, k1, k5 k e he⟩
  rw [eE] at N0
  have sW2 : Sm [gE] w W := .below bW fun g hg => by rw [List.mem_singleton.1 hg]; exact gE1
  have LS : Ld Try.prog 3 gE (addO (oE + mulO k 4) 1) (Sm [gE] w) (.int .i64 e.m.s) := ⟨fun W' hW' => load3 (by rw [show addO (oE + mulO k 4) 1 = oE + k * 4 + 1 by rw [mulO_eq]; rfl]; exact cell_sm (cE 1 _ rfl) (by simp) hW')⟩
  have LQ : Ld Try.prog 3 gE (addO (oE + mulO k 4) 2) (Sm [gE] w) (.int .i64 e.m.q) := ⟨fun W' hW' => load3 (by rw [show addO (oE + mulO k 4) 2 = oE + k * 4 + 2 by rw [mulO_eq]; rfl]; exact cell_sm (cE 2 _ rfl) (by simp) hW')⟩
  have sd : Sm [b, gL] w W.drew ∧ Sm [gE] w W.drew := ⟨sW, sW2⟩
  have ht := hadB_take (s := pidN s) (q := q) hem
  rw [hno] at ht
  repeat ((conv => whnf); first | (refine VLoad.mk _ (M0.at sW) ?_) | (refine VLoad.mk _ (N0.at sW) ?_) | (refine VCmp.tt (by omega) ?_) | (refine VCmp.ff (by omega) ?_) | (refine VIn.mk (IntWalk.i64_in _ (by omega)) ?_) | (refine VIdx.mk _ rfl (by omega) ?_) | (refine VIdx.mk 0 rfl (by omega) ?_))
  try (conv => whnf)
  refine VDraw.pl 1000 (.one [0, 1, 2, 3, 4, 5, 6, 7, 8, 9, 10, 11] 12 (.stop [13, 14, 15, 16, 17, 18, 19, 20, 21, 22, 23, 24, 25, 26, 27, 28])) (fun W => Sm [b, gL] w W ∧ Sm [gE] w W) (by kernel_rfl) (sd) ?_
  repeat ((conv => whnf); first | (refine VLoad.mk _ (M0.mono fun _ h => h.1) ?_) | (refine VLoad.mk _ (N0.mono fun _ h => h.1) ?_) | (refine VLoad.mk _ (LS.mono fun _ h => h.2) ?_) | (refine VCmp.tt (by omega) ?_) | (refine VCmp.ff (by omega) ?_) | (refine VIn.mk (IntWalk.i64_in _ (by omega)) ?_) | (refine VIdx.mk _ rfl (by omega) ?_) | (refine VIdx.mk 0 rfl (by omega) ?_))
  try (conv => whnf)
  refine VCall.mk _ (pid_any s W.drew (by omega) (by omega)) ?_
  rintro _ x5 ⟨rfl, e5⟩
  subst x5
  refine ⟨_, rfl, ?_⟩
  rw [show (3 * (s : Int) + 1) = ((pidN s : Nat) : Int) by unfold pidN; omega]
  by_cases h1 : e.m.s = pidN s
  · by_cases h2 : (e.m.q : Int) = q
    · repeat ((conv => whnf); first | (refine VS.mk sd ?_) | (refine VLoad.mk _ (M0.mono fun _ h => h.1) ?_) | (refine VLoad.mk _ (N0.mono fun _ h => h.1) ?_) | (refine VLoad.mk _ (LQ.mono fun _ h => h.2) ?_) | (refine VCmp.tt (by omega) ?_) | (refine VCmp.ff (by omega) ?_) | (refine VIn.mk (IntWalk.i64_in _ (by omega)) ?_) | (refine VIdx.mk _ rfl (by omega) ?_) | (refine VIdx.mk 0 rfl (by omega) ?_))
      try (conv => whnf)
      have hyes : hadB (v.log j) (pidN s) q = true := List.any_eq_true.2 ⟨e.m, List.mem_of_getElem? hem, decide_eq_true ⟨h1, h2⟩⟩
      exact .mk ⟨by rw [hyes]; rfl, bW.drew⟩
    · rw [decide_eq_false (fun h => h2 h.2)] at ht
      repeat ((conv => whnf); first | (refine VS.mk sd ?_) | (refine VLoad.mk _ (M0.mono fun _ h => h.1) ?_) | (refine VLoad.mk _ (N0.mono fun _ h => h.1) ?_) | (refine VLoad.mk _ (LQ.mono fun _ h => h.2) ?_) | (refine VCmp.tt (by omega) ?_) | (refine VCmp.ff (by omega) ?_) | (refine VIn.mk (IntWalk.i64_in _ (by omega)) ?_) | (refine VIdx.mk _ rfl (by omega) ?_) | (refine VIdx.mk 0 rfl (by omega) ?_))
      try (conv => whnf)
      exact .mk (k + 1) ⟨rfl, rfl, rfl, rfl, rfl, trivial⟩ ⟨hkl, bW.drew, ht⟩ (by show (v.log j).length - (k + 1) < (v.log j).length - k; omega)
  · rw [decide_eq_false (fun h => h1 h.1)] at ht
    repeat ((conv => whnf); first | (refine VS.mk sd ?_) | (refine VCmp.tt (by omega) ?_) | (refine VCmp.ff (by omega) ?_) | (refine VIn.mk (IntWalk.i64_in _ (by omega)) ?_) | (refine VIdx.mk _ rfl (by omega) ?_) | (refine VIdx.mk 0 rfl (by omega) ?_))
    try (conv => whnf)
    exact .mk (k + 1) ⟨rfl, rfl, rfl, rfl, rfl, trivial⟩ ⟨hkl, bW.drew, ht⟩ (by show (v.log j).length - (k + 1) < (v.log j).length - k; omega)
end
end Go.Proofs.Ytoilipfgimcoiaa
