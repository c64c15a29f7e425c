/- RTkL Ord2 RTkA, joined. -/
import Derived.StillTail
import Derived.Deep.DeepCutAuto
import Derived.Test.YtfbeggdbjpmppaaMw4
import Derived.Test.YtfbeggdbjpmppaaMw5
import Derived.Test.YtfbeggdbjpmppaaMw8
import Derived.Test.YtfbeggdbjpmppaaMw10
import Derived.Test.YtfbeggdbjpmppaaMw14
import Derived.Test.YtfbeggdbjpmppaaMw15
set_option linter.unusedVariables false
set_option linter.unusedSimpArgs false
/- The document's list of what was heard: one more; back again. -/
namespace Go.Proofs.Ytfbeggdbjpmppaa
open Go.RowKit
theorem info130 : (Try.prog.info? 130).map (fun i => (i.zero, i.size, i.bytes)) = some (some (.agg zHd), 11, 120) := by kernel_rfl
theorem build130 (w : World) (q i cid rev top e l k c : Int) (S V : Option Addr) (n cS m cV : Nat) : (Instr.build 130 #[(0, .int .i64 q), (1, .int .i64 i), (2, .agg #[.slice S n cS, .int .i64 cid, .int .i64 rev, .int .i64 top, .int .i64 e, .int .i64 l, .int .i64 k, .int .i64 c, .slice V m cV])]).run Try.prog w = .ok (.agg #[.int .i64 q, .int .i64 i, .slice S n cS, .int .i64 cid, .int .i64 rev, .int .i64 top, .int .i64 e, .int .i64 l, .int .i64 k, .int .i64 c, .slice V m cV]) w := by kernel_rfl
section
variable {ops : Array Oper} {S : World → Prop} {Q : Act → Prop} {a : Act} {o : Oper} {rest : List Oper}
theorem wpQuiet_build130 (hw : Region.wanted o (yielded ops a.tmps) = true) (x y z : Operand) (ho : o.op = .build 130 #[(0, x), (1, y), (2, z)]) (q i : Int) (p : Pr) (A V : Option Addr) (n cA m cV : Nat) (hx : a.eval x = .int .i64 q) (hy : a.eval y = .int .i64 i) (hz : a.eval z = .agg (prV A n cA V m cV p))
    (h : wpQuiet Try.prog ops S Q rest (a.put o.dst (.agg #[.int .i64 q, .int .i64 i, .slice A n cA, .int .i64 p.cid, .int .i64 p.rev, .int .i64 p.top, .int .i64 p.prev.e, .int .i64 p.prev.l, .int .i64 p.prev.i, .int .i64 p.prev.c, .slice V m cV]))) : wpQuiet Try.prog ops S Q (o :: rest) a := by
  refine wpQuiet_step fun K hK => ?_
  rw [if_pos hw]
  refine ⟨_, ?_, hK _ h⟩
  intro w' hw'
  unfold Oper.quietAt execOp
  simp only [ho, List.map_toArray, List.map_cons, List.map_nil, hx, hy, hz, Sem.run_bind, build130 w', Result.andThen_ok, Sem.run_pure]
  exact ⟨rfl, rfl⟩
end
theorem wp_store121 {o : Oper} {a : Act} {w : World} {K : Act → World → Prop} {Q : Exit → Act → World → Prop} (x y : Operand) (ho : o.op = .store 121 x y) (hd : o.dst = none) (b off : Nat) (hx : a.eval x = .pointer (some ⟨b, off, none⟩)) (A : Option Addr) (n c : Nat) (hy : a.eval y = .slice A n c)
    (ht : w.there b off 1) (h : ∀ w', Hid (w' = w.setCells b off [.slice A n c]) → K a w') : o.wp Try.prog a w K Q := by
  have hc := (ht 0 (by omega)).1
  have hf := (ht 0 (by omega)).2
  rw [Nat.add_zero] at hc hf
  obtain ⟨u, hu⟩ := Option.isSome_iff_exists.1 hc
  have key : (storeVar 121 ⟨b, off, none⟩ (.slice A n c)).run Try.prog w = .ok () (w.setCells b off [.slice A n c]) := by
    show _ = Result.ok () (w.setCell ⟨b, off, none⟩ (.slice A n c))
    go_simp
  unfold Oper.wp execOp
  simp only [ho, hx, hy, Instr.storeAt, Instr.sureAddr, Sem.run_bind, key, Result.andThen_ok, Sem.run_pure]
  show K (a.put o.dst undef) _
  rw [show a.put o.dst undef = a by rw [hd]; rfl]
  exact h _ (Lib.hid rfl)
section
variable {P : Program} (w : World)
/-- append of one element in a region that draws its order: the shorter row stays. -/
theorem wp_append_keep {α : Type} {o : Oper} {a : Act} {K : Act → World → Prop} {Q : Exit → Act → World → Prop} (s x : Operand) (t : TypeId)
    (ho : o.op = .call { callee := .builtin .append, args := #[s, x], argTypes := #[t, t] })
    (base : Nat) (e : TypeId) (sz bytes : Nat) (z : Value) (ht : P.underlying t = some (.slice e)) (hinfo : (P.info? e).map (fun i => (i.zero, i.size, i.bytes)) = some (some z, sz, bytes))
    (hzs : z.cells.size = sz) (hsz : 0 < sz) (enc : α → List Value) (henc : ∀ x, (enc x).length = sz) (hone : ∀ x, ∀ u ∈ enc x, u.oneCell' = true)
    (A : Option Addr) (c : Nat) (xs : List α) (gB cB n : Nat) (y : α) (hs : a.eval s = .slice A n c) (hx : a.eval x = .slice (some ⟨gB, 0, none⟩) 1 cB)
    (hn : xs.length = n) (hown : Owns w base e sz enc A c xs) (hr : ∀ j u, (enc y)[j]? = some u → w.cell? ⟨gB, j, none⟩ = some u)
    (h63 : n + 1 ≤ 9223372036854775807) (hbytes : (n + 1) * bytes ≤ 140737488355328) (hbase : base ≤ w.heap.size)
    (h : ∀ A' c' w', Owns w' base e sz enc A' c' (xs ++ [y]) → Owns w' base e sz enc A c xs → w.grownBy w' (blk A) → (blk A' = blk A ∨ blk A' = some w.heap.size) → K (a.put o.dst (.slice A' (n + 1) c')) w') : o.wp P a w K Q := by
  subst hn
  obtain ⟨i, hi, hz, hsize, hby⟩ := info_parts hinfo
  have hnews : ∀ j u, (enc y)[j]? = some u → w.cell? ((⟨gB, 0, none⟩ : Addr).add j) = some u := fun j u hu => by
    rw [Addr.add_lit]; simpa using hr j u hu
  have hfm : ([y] : List α).flatMap enc = enc y := by simp
  obtain ⟨v', w', hrun, h2, h3, h5, h4⟩ := run_append_own_at (P := P) w base t o.type e i z sz bytes ht hi hz hsize hby hzs hsz (.slice A xs.length c) xs.length _ hown ⟨gB, 0, none⟩ 1 cB (enc y)
    (by rw [henc, Nat.one_mul]) hnews (hone y) h63 hbytes hbase
  obtain ⟨g', cap', rfl, hg1, hg2⟩ := World.ownsRow.form h2 (by omega)
  simp only [own_blk] at h3 h4
  have hO : Owns w' base e sz enc (some ⟨g', 0, none⟩) cap' (xs ++ [y]) := by unfold Owns; rw [List.flatMap_append, hfm, List.length_append]; exact h2
  have hold : Owns w' base e sz enc A c xs := by
    rcases hown.2 with ⟨hv, h0⟩ | ⟨g, cap, cur, hv, hb, hh, k1, k2, k3, k4⟩
    · injection hv with e1 _ e3
      subst e1 e3
      obtain rfl : xs = [] := List.eq_nil_of_length_eq_zero h0
      exact owns_nil _ _ _ _ _
    · injection hv with e1 _ e3
      subst e1 e3
      by_cases hroom : xs.length + 1 ≤ c
      · have hr' := run_append_room (P := P) w t o.type e i ht hi g xs.length c cur hh ⟨gB, 0, none⟩ 1 cB (enc y) (by rw [henc, hsize, Nat.one_mul]) hnews (hone y) hroom (by rw [henc, k3, hsize]; have := Nat.mul_le_mul_right sz hroom; rw [Nat.add_mul, Nat.one_mul] at this; exact this)
        rw [hrun] at hr'
        injection hr' with e1 e2
        injection e1 with e3 _ e4
        injection e3 with e3; injection e3 with e3
        subst e3 e4
        exact own_prefix henc hO (by simp)
      · have hr' := run_append_grow (P := P) w t o.type e i z ht hi hz ⟨g, 0, none⟩ xs.length c (xs.flatMap enc) (by rw [hsize, length_flat henc]) (hown.cells (g := g) rfl) ⟨gB, 0, none⟩ 1 cB (enc y) (by rw [henc, hsize, Nat.one_mul]) hnews (by omega) (by omega) (growslice_fits (by omega) (by rw [hby]; exact hbytes))
        rw [hrun] at hr'
        injection hr' with _ e2
        rw [e2]
        exact (show Owns w.drew base e sz enc (some ⟨g, 0, none⟩) c xs from hown).alloc _
  unfold Oper.wp execOp
  simp only [ho, resolve, invoke, builtin, Sem.run_bind, Sem.run_pure, Result.andThen_ok, List.map_toArray, List.map_cons, List.map_nil, hs, hx, hrun]
  exact h _ _ w' hO hold h3 h4
end
section
variable {w w' : World} {b : Nat} {F F' : List Nat} {s t : St} {hs hs' : List HdR} {X : Ptrs}
/-- Behind an append onto its own list, seen by the old header. -/
theorem RefAt.appended (h : RefAt w b F s hs X) (hg : w.grownBy w' (blk X.A)) (ho : Owns w' 0 130 11 eHd X.A X.cA hs) : RefAt w' b F s hs X := by
  have hb := hg.block b h.bl (fun e => h.ne e.symm)
  have hc : ∀ o, w'.cell? ⟨b, o, none⟩ = w.cell? ⟨b, o, none⟩ := fun o => World.cell?_of_block hb
  have hf : ∀ o, w'.frozen? ⟨b, o, none⟩ = w.frozen? ⟨b, o, none⟩ := fun o => World.frozen?_of_block hb
  have hr : ∀ k, k < w.heap.size → k ∉ F → w'.heap[k]? = w.heap[k]? := fun k h1 h2 => hg.block k h1 (fun e => h2 (h.aF k e.symm))
  have hz := hg.size
  exact ⟨(hc _).trans h.n, (hc _).trans h.self, (hc _).trans h.inc, (hc _).trans h.ve, (hc _).trans h.vl, (hc _).trans h.vi, (hc _).trans h.vc, (hc _).trans h.mem, (hc _).trans h.opn, (hc _).trans h.set, (hc _).trans h.cid, (hc _).trans h.rev, (hc _).trans h.top, (hc _).trans h.pe, (hc _).trans h.pl, (hc _).trans h.pi, (hc _).trans h.pc, (hc _).trans h.vec, (hc _).trans h.all, fun j hj => by rw [hc, hf]; exact h.there j hj, h.rmem.keep hz hr, h.rset.keep hz hr, h.rvec.keep hz hr, ho, fun r hr' => ⟨(h.each r hr').1.keep hz hr, (h.each r hr').2.keep hz hr⟩, h.rep, h.bF, h.aF, h.ne, Nat.lt_of_lt_of_le h.bl hz⟩
/-- Another list in its place. -/
theorem RefAt.setAll (h : RefAt w b F s hs X) (hs' : List HdR) (A' : Option Addr) (c' : Nat) (t : St) (ht : t = { s with oth := t.oth }) (ho : Owns w 0 130 11 eHd A' c' hs') (he : ∀ r ∈ hs', RowF w F 1 eInt r.S r.h.p.set ∧ RowF w F 1 eInt r.V r.h.p.vec) (hrep : Rep t (hs'.map (·.h))) (haF : ∀ k, blk A' = some k → k ∈ F) (hne : blk A' ≠ some b) :
    RefAt (w.setCells b 18 [.slice A' hs'.length c']) b F t hs' { X with A := A', cA := c' } := by
  have hv : ([.slice A' hs'.length c'] : List Value).length = 1 := rfl
  have hg := grown_sets b ([.slice A' hs'.length c'] : List Value) 18 w
  rw [ht]
  refine ⟨?_, ?_, ?_, ?_, ?_, ?_, ?_, ?_, ?_, ?_, ?_, ?_, ?_, ?_, ?_, ?_, ?_, ?_, ?_, World.there_setCells h.there b _ _, h.rmem.sets h.bF _ _, h.rset.sets h.bF _ _, h.rvec.sets h.bF _ _, ho.kept hg (.inr hne), fun r hr => ⟨(he r hr).1.sets h.bF _ _, (he r hr).2.sets h.bF _ _⟩, by rw [← ht]; exact hrep, h.bF, haF, hne, by rw [size_sets]; exact h.bl⟩
  · exact cell_out h.n (by omega)
  · exact cell_out h.self (by omega)
  · exact cell_out h.inc (by omega)
  · exact cell_out h.ve (by omega)
  · exact cell_out h.vl (by omega)
  · exact cell_out h.vi (by omega)
  · exact cell_out h.vc (by omega)
  · exact cell_out h.mem (by omega)
  · exact cell_out h.opn (by omega)
  · exact cell_out h.set (by omega)
  · exact cell_out h.cid (by omega)
  · exact cell_out h.rev (by omega)
  · exact cell_out h.top (by omega)
  · exact cell_out h.pe (by omega)
  · exact cell_out h.pl (by omega)
  · exact cell_out h.pi (by omega)
  · exact cell_out h.pc (by omega)
  · exact cell_out h.vec (by omega)
  · exact cell_in (i := 0) h.there (by omega) rfl
end
theorem mem_ext {F : List Nat} {A : Option Addr} {x : Nat} : x ∈ F ++ (blk A).toList ↔ x ∈ F ∨ blk A = some x := by
  cases h : blk A <;> simp [eq_comm]
/-- What the reference keeps of a node, by the machine. -/
theorem lt_none {s : St} {H : List Hd} (r : Rep s H) {q : Nat} (hq : q < 16) (hn : late H q = none) : (s.lt q).inc = 0 := by rw [r.no q hq hn]; rfl
theorem lt_some {s : St} {H : List Hd} (r : Rep s H) {q : Nat} (hq : q < 16) {j : Nat} {x : Hd} (hn : late H q = some j) (hx : H[j]? = some x) : (s.lt q).inc = x.inc ∧ (s.lt q).w.rev = x.p.rev := by rw [r.yes q hq j x hn hx]; exact ⟨rfl, rfl⟩
end Go.Proofs.Ytfbeggdbjpmppaa
/- A drawn region walked along one way, the last operation waiting through another one. -/
namespace Go.Proofs.Ytfbeggdbjpmppaa
open Go Go.RowKit
section
variable {P : Program} {ops : Array Oper} {md : Region.Mode} {S : World → Prop} {Q : Exit → Act → World → Prop}
/-- What is listed has all that it waits for listed, too. -/
def Closed (md : Region.Mode) (ops : Array Oper) (listed : Array Bool) : Prop := ∀ k ok, ops[k]? = some ok → listed.getD k false = true → ∀ e ∈ ok.after, Region.binds md e = true → listed.getD e.on false = true
theorem Closed.set {listed : Array Bool} (h : Closed md ops listed) {j : Nat} (hj : j ∈ Region.ready md ops listed) : Closed md ops (listed.setIfInBounds j true) := fun k ok hk hl e he hb => by
  by_cases hjk : j = k
  · subst hjk
    obtain ⟨_, oj, hoj, hall⟩ := mem_ready.1 hj
    obtain rfl : oj = ok := Option.some.inj (hoj.symm.trans hk)
    exact getD_set_true (hall e he hb)
  · rw [getD_set_ne false hjk] at hl
    exact getD_set_true (h k ok hk hl e he hb)
theorem closed_new (n : Nat) : Closed md ops (Array.replicate n false) := fun k ok _ hl => by rw [getD_replicate_false] at hl; cases hl
/-- z waits for i, or for one that waits for i. -/
def waits2 (md : Region.Mode) (ops : Array Oper) (z i : Nat) : Bool := Region.waitsFor md ops z i || (List.range ops.size).any fun k => Region.waitsFor md ops z k && Region.waitsFor md ops k i
theorem waits2_not {z i : Nat} {listed : Array Bool} (hz : waits2 md ops z i = true) (hc : Closed md ops listed) (hi : listed.getD i true = false) : z ∉ Region.ready md ops listed := fun hj => by
  obtain ⟨_, oj, hoj, hall⟩ := mem_ready.1 hj
  unfold waits2 at hz
  simp only [Bool.or_eq_true, List.any_eq_true, Bool.and_eq_true] at hz
  have hi' := getD_both hi
  rcases hz with hz | ⟨k, _, h1, h2⟩
  · obtain ⟨o', ho', e, he, hb, hon⟩ := Region.waitsFor_spec hz
    obtain rfl : o' = oj := Option.some.inj (ho'.symm.trans hoj)
    have := hall e he hb
    rw [hon, hi'] at this; cases this
  · obtain ⟨o', ho', e, he, hb, hon⟩ := Region.waitsFor_spec h1
    obtain rfl : o' = oj := Option.some.inj (ho'.symm.trans hoj)
    have hk := hall e he hb
    rw [hon] at hk
    obtain ⟨ok, hok, e2, he2, hb2, hon2⟩ := Region.waitsFor_spec h2
    have := hc k ok hok hk e2 he2 hb2
    rw [hon2, hi'] at this; cases this
theorem wpAnyZ_first2 {i z : Nat} {oi : Oper} {v : Value} (hi : ops[i]? = some oi) (hz : ops.size ≤ z ∨ waits2 md ops z i = true) (hsel : ∀ (j : Nat) (o : Oper) cs b, ops[j]? = some o → o.op ≠ .select cs b)
    (hQ : ∀ c a w, Q (.panic c) (a.put oi.dst v) w → Q (.panic c) a w) :
    ∀ (fuel : Nat) (listed : Array Bool) (a : Act) (w : World), Closed md ops listed →
      (∀ j oj, ops[j]? = some oj → j ≠ i → listed.getD j true = false → (∀ e ∈ oj.after, Region.binds md e = true → e.on ≠ i) → oi.apart ops oj = true) →
      i ∈ Region.ready md ops listed → YieldsIf P ops S oi v a → S w →
      wpAnyZ P md ops Q S z fuel (listed.setIfInBounds i true) (a.put oi.dst v) w → wpAnyZ P md ops Q S z (fuel + 1) listed a w := by
  intro fuel
  induction fuel with
  | zero =>
    intro listed a w _ _ hr hy hS H
    refine ⟨fun h => (by rw [h] at hr; cases hr), fun j hj => ?_⟩
    by_cases hji : j = i
    · subst hji; exact hy.wpOp hi hS ⟨.inr hS, H⟩
    · have := ready_mono hj hji
      rw [H.1] at this
      cases this
  | succ fuel ih =>
    intro listed a w hcl hfree hr hy hS H
    refine ⟨fun h => (by rw [h] at hr; cases hr), fun j hj => ?_⟩
    by_cases hji : j = i
    · subst hji; exact hy.wpOp hi hS ⟨.inr hS, H⟩
    · have h1 := H.2 j (ready_mono hj hji)
      obtain ⟨hjun, oj, hoj, hall⟩ := mem_ready.1 hj
      have hnot : ∀ e ∈ oj.after, Region.binds md e = true → e.on ≠ i := fun e he hb heq => by
        have h1 := hall e he hb
        rw [heq, getD_both (mem_ready.1 hr).1] at h1; cases h1
      have hjz : j ≠ z := fun e => by
        subst e
        rcases hz with hz | hz
        · have := (Array.getElem?_eq_some_iff.1 hoj).1; omega
        · exact waits2_not hz hcl (mem_ready.1 hr).1 hj
      have h2 := wpOp_putIf hoj (hfree j oj hoj hji hjun hnot) (fun cs b => hsel i oi cs b hi) (fun cs b => hsel j oj cs b hoj) hQ hy h1
      have hfree' : ∀ k ok, ops[k]? = some ok → k ≠ i → (listed.setIfInBounds j true).getD k true = false →
          (∀ e ∈ ok.after, Region.binds md e = true → e.on ≠ i) → oi.apart ops ok = true := fun k ok hk hki hun hno => by
        refine hfree k ok hk hki ?_ hno
        by_cases hjk : j = k
        · subst hjk; exact hjun
        · rw [getD_set_ne true hjk] at hun; exact hun
      refine wpOp_mono (fun a' w' h3 => ⟨h3.2.1, ih (listed.setIfInBounds j true) a' w' (hcl.set hj) hfree' (ready_mono hr (Ne.symm hji)) h3.1 (h3.2.1.resolve_left hjz) ?_⟩) h2
      rw [Array.setIfInBounds_comm _ _ hji]
      exact h3.2.2
def runB2 (md : Region.Mode) (ops : Array Oper) (z : Nat) : Array Bool → List Nat → Option (Array Bool)
  | L, [] => some L
  | L, i :: r => if Region.free md ops L i && (Region.ready md ops L).contains i && decide (i < ops.size) && (ops[i]?.map plainB == some true) && waits2 md ops z i then runB2 md ops z (L.setIfInBounds i true) r else none
def segB2 (md : Region.Mode) (ops : Array Oper) (z : Nat) (last : List Nat) : Array Bool → List (List Nat × Nat) → Bool
  | L, [] => match runB2 md ops z L last with
    | some L' => decide (Region.ready md ops L' = [])
    | none => false
  | L, (is, i) :: r => match runB2 md ops z L is with
    | some L' => decide (Region.ready md ops L' = [i]) && decide (i < ops.size) && (decide (i = z → r = [] ∧ last = [])) && segB2 md ops z last (L'.setIfInBounds i true) r
    | none => false
def ordB2 (md : Region.Mode) (ops : Array Oper) (z : Nat) (segs : List (List Nat × Nat)) (last : List Nat) : Bool := Region.noSelect ops && segB2 md ops z last (Array.replicate ops.size false) segs
variable {l : List Oper} {z : Nat} {last : List Nat} {w : World} {a : Act}
theorem run_ok2 (hsel : Region.noSelect l.toArray = true) (hQ : ∀ c a d v w, Q (.panic c) (Act.put a d v) w → Q (.panic c) a w) {K : Act → Prop} {fuel : Nat} :
    ∀ (is : List Nat) (L L' : Array Bool) (a : Act), Closed md l.toArray L → (S w ∨ is = []) → runB2 md l.toArray z L is = some L' → (∀ a', Closed md l.toArray L' → K a' → wpAnyZ P md l.toArray Q S z fuel L' a' w) → wpQuiet P l.toArray S K (picks l is) a → wpAnyZ P md l.toArray Q S z (is.length + fuel) L a w
  | [], L, L', a, hcl, _, hb, hK, h => by
    cases hb
    simpa using hK a hcl h
  | i :: r, L, L', a, hcl, hS', hb, hK, h => by
    have hS : S w := hS'.resolve_right (by simp)
    unfold runB2 at hb
    split at hb
    · rename_i hc
      simp only [Bool.and_eq_true, decide_eq_true_eq, beq_iff_eq] at hc
      obtain ⟨⟨⟨⟨h1, h2⟩, h3⟩, h4⟩, h5⟩ := hc
      have ho : l.toArray[i]? = some l.toArray[i] := Array.getElem?_eq_getElem h3
      generalize l.toArray[i] = o at ho
      have hol : l[i]? = some o := by simpa using ho
      rw [picks, pick_of hol, List.singleton_append] at h
      rw [ho] at h4
      have h4' : plainB o = true := by simpa using h4
      have key : ∃ v, YieldsIf P l.toArray S o v a ∧ wpQuiet P l.toArray S K (picks l r) (a.put o.dst v) := by
        unfold wpQuiet at h
        by_cases hw : Region.wanted o (yielded l.toArray a.tmps) = true
        · rw [if_pos hw] at h
          obtain ⟨v, e1, e2⟩ := h
          exact ⟨v, yields_of_quiet h4' hw e1, e2⟩
        · rw [if_neg hw] at h
          exact ⟨undef, .inr ⟨by simpa using hw, rfl⟩, h⟩
      obtain ⟨v, hy, hr⟩ := key
      have hri : i ∈ Region.ready md l.toArray L := by simpa using h2
      have := wpAnyZ_first2 (z := z) ho (.inr h5) (Region.noSelect_spec hsel) (fun c a w => hQ c a _ _ w) (r.length + fuel) L a w hcl (Region.free_spec ho h1) hri hy hS (run_ok2 hsel hQ r _ L' _ (hcl.set hri) (.inl hS) hb hK hr)
      rw [show (i :: r).length + fuel = r.length + fuel + 1 by simp; omega]
      exact this
    · cases hb
theorem seg_ok2 (hsel : Region.noSelect l.toArray = true) (hQ : ∀ c a d v w, Q (.panic c) (Act.put a d v) w → Q (.panic c) a w) :
    ∀ (segs : List (List Nat × Nat)) (L : Array Bool) (a : Act) (w : World), Closed md l.toArray L → segB2 md l.toArray z last L segs = true → (S w ∨ (segs = [] ∧ last = [])) → woD P l z S Q last segs a w → wpAnyZ P md l.toArray Q S z (segLen segs + last.length) L a w
  | [], L, a, w, hcl, hb, hS, h => by
    unfold segB2 at hb
    cases hr : runB2 md l.toArray z L last with
    | none => rw [hr] at hb; simp at hb
    | some L' =>
      rw [hr] at hb
      have hb' : Region.ready md l.toArray L' = [] := by simpa using hb
      have := run_ok2 (fuel := 0) hsel hQ last L L' a hcl (hS.imp id (·.2)) hr (K := fun a' => Q .normal a' w) (fun a' _ h' => ⟨hb', h'⟩) h
      rwa [segLen, Nat.zero_add]
  | (is, i) :: r, L, a, w, hcl, hb, hS', h => by
    have hS : S w := hS'.resolve_right (by simp)
    unfold segB2 at hb
    cases hr : runB2 md l.toArray z L is with
    | none => rw [hr] at hb; simp at hb
    | some L' =>
      rw [hr] at hb
      simp only [Bool.and_eq_true, decide_eq_true_eq] at hb
      obtain ⟨⟨⟨b1, b2⟩, b4⟩, b3⟩ := hb
      have b4' : i = z → r = [] ∧ last = [] := by simpa using b4
      have ho : l.toArray[i]? = some l.toArray[i] := Array.getElem?_eq_getElem b2
      generalize l.toArray[i] = o at ho
      have hol : l[i]? = some o := by simpa using ho
      have ih := fun a' w' hc' => seg_ok2 hsel hQ r (L'.setIfInBounds i true) a' w' hc' b3
      have := run_ok2 (fuel := segLen r + last.length + 1) hsel hQ is L L' a hcl (.inl hS) hr (fun a' hcl' h' => (by
        have h2 := h' o (pick_of hol)
        have hri : i ∈ Region.ready md l.toArray L' := by rw [b1]; simp
        refine ⟨fun h0 => (by rw [b1] at h0; cases h0), fun j hj => ?_⟩
        rw [b1] at hj
        obtain rfl : j = i := by simpa using hj
        unfold wpOp
        simp only [ho]
        split
        · rename_i hw
          rw [if_pos hw] at h2
          exact .inl (Oper.wp_mono (fun a3 w3 h3 => ⟨h3.1, ih a3 w3 (hcl'.set hri) (h3.1.elim (fun e => .inr (b4' e)) .inl) h3.2⟩) h2)
        · rename_i hw
          rw [if_neg hw] at h2
          exact ⟨.inr hS, ih _ _ (hcl'.set hri) (.inl hS) h2⟩)) h
      rw [show segLen ((is, i) :: r) + last.length = is.length + (segLen r + last.length + 1) by rw [segLen]; omega]
      exact this
theorem wp_region_ordt {id : Nat} (z : Nat) (segs : List (List Nat × Nat)) (last : List Nat) (S : World → Prop) (hm : P.follows .mixedOrders = true) (hB : ordB2 .any l.toArray z segs last = true) (hn : segLen segs + last.length = l.length)
    (hS : S w.drew) (h : WO P l z S (NoPanic Q) last segs a w.drew) : (Code.region id l.toArray true).wp P Q a w := by
  unfold ordB2 at hB
  simp only [Bool.and_eq_true] at hB
  refine wp_region_noPanic (wp_region_any hm (wpAny_of_z (S := S) (z := z) _ _ _ _ ?_))
  have := seg_ok2 (Q := NoPanic Q) hB.1 (fun _ _ _ _ _ h => h) segs _ a _ (closed_new _) hB.2 (.inl hS) h.out
  rw [hn] at this
  simpa using this
end
end Go.Proofs.Ytfbeggdbjpmppaa
/- The document's Take: refusals. -/
namespace Go.Proofs.Ytfbeggdbjpmppaa
open Go.RowKit
/-- Behind the taking: one more is in the list; the shorter list is still there. -/
structure TkP (w0 w : World) (b : Nat) (F : List Nat) (s t : St) (hs : List HdR) (X : Ptrs) (F' : List Nat) (hs' : List HdR) (X' : Ptrs) : Prop where
  at_ : RefAt w b F' t hs' X'
  own : Owns w 0 130 11 eHd X.A X.cA hs
  each : ∀ r ∈ hs, RowF w F' 1 eInt r.S r.h.p.set ∧ RowF w F' 1 eInt r.V r.h.p.vec
  rep : Rep s (hs.map (·.h))
  aF : ∀ k, blk X.A = some k → k ∈ F'
  ne : blk X.A ≠ some b
  bl : ∀ k, blk X.A = some k → k < w.heap.size
  chg : Chg w0 w b (blk X.A)
  sub : ∀ x ∈ F, x ∈ F'
  new : ∀ x ∈ F', x ∈ F ∨ w0.heap.size ≤ x
  lt : ∀ x ∈ F', x < w.heap.size
  len : hs'.length = hs.length + 1
  anew : ∀ k, blk X'.A = some k → blk X.A = some k ∨ w0.heap.size ≤ k
section
variable {w0 w w' : World} {b : Nat} {F F' : List Nat} {s t : St} {hs hs' : List HdR} {X X' : Ptrs}
theorem TkP.below (h : TkP w0 w b F s t hs X F' hs' X') (hb : Below w.heap.size w w') : TkP w0 w' b F s t hs X F' hs' X' :=
  ⟨h.at_.below hb, h.own.keep hb h.bl, fun r hr => ⟨(h.each r hr).1.below hb, (h.each r hr).2.below hb⟩, h.rep, h.aF, h.ne, fun k hk => Nat.lt_of_lt_of_le (h.bl k hk) hb.size, h.chg.trans (Chg.ofBelow hb), h.sub, h.new, fun x hx => Nat.lt_of_lt_of_le (h.lt x hx) hb.size, h.len, h.anew⟩
theorem TkP.done (h : TkP w0 w b F s t hs X F' hs' X') : RLeft w0 w b F t (hs.length + 1) (blk X.A) := ⟨⟨F', hs', X', h.at_, h.sub, h.new, h.lt, Nat.le_of_eq h.len, h.anew⟩, h.chg⟩
theorem TkP.back (h : TkP w0 w b F s t hs X F' hs' X') (ht : s = { t with oth := s.oth }) : RLeft w0 (w.setCells b 18 [.slice X.A hs.length X.cA]) b F s (hs.length + 1) (blk X.A) :=
  ⟨⟨F', hs, _, h.at_.setAll hs X.A X.cA s ht h.own h.each h.rep h.aF h.ne, h.sub, h.new, fun x hx => by rw [size_sets]; exact h.lt x hx, Nat.le_succ _, fun _ hk => .inl hk⟩, h.chg.trans (Chg.sets _ _)⟩
end
theorem withSet_own {t : St} (hR : RInv t) : t.withSet (t.own.set.take t.n) t.own.cid = t := by
  unfold St.withSet
  rw [← hR.set]
theorem heard_same {t : St} (hR : RInv t) (hI : Inv t) : t.heard.take t.n = t.own.vec.take t.n ↔ t.heard = t.own.vec := by
  constructor
  · intro e; rw [heard_pad hI, e, ← hR.vec]
  · intro e; rw [e]
/-- What the taking reads. -/
structure TkS (b v : Nat) (S : Option Addr) (nS cS : Nat) (V : Option Addr) (nV cV : Nat) (p : Pr) (A : Option Addr) (n c : Nat) (W : World) : Prop where
  all : W.cell? ⟨b, 18, none⟩ = some (.slice A n c)
  var : PVar W v S nS cS V nV cV p
set_option maxRecDepth 100000 in
set_option maxHeartbeats 4000000 in
theorem rtake_bad (b : Nat) (F : List Nat) (s : St) (hs : List HdR) (X : Ptrs) (S V : Option Addr) (cS cV : Nat) (p : Pr) (q inc : Int) (w : World) (h : RefAt w b F s hs X) (hF : ∀ x ∈ F, x < w.heap.size) (hc : q < 0 ∨ (s.n : Int) ≤ q ∨ q = s.self ∨ inc < 1 ∨ 4611686018427387904 < inc) :
    Calls Try.prog 61 #[.pointer (some ⟨b, 0, none⟩), .int .i64 q, .int .i64 inc, .agg (prA S V cS cV p)] w fun x w' => x = .returned (.tuple #[.bool false, .int .i64 1]) ∧ RLeft w w' b F s (hs.length + 1) (blk X.A) := by
  have hbl := h.bl
  have q0 := h.n
  have q1 := h.self
  have hb1 : Below w.heap.size w (w.alloc (.cells (prA S V cS cV p) 31)) := (Below.refl _ _).alloc (Nat.le_refl _) _
  replace h := Lib.hid h
  replace hF := Lib.hid hF
  replace hb1 := Lib.hid hb1
  have hc' : q < 0 ∨ (0 ≤ q ∧ (s.n : Int) ≤ q) ∨ (0 ≤ q ∧ q < s.n ∧ q = s.self) ∨ (0 ≤ q ∧ q < s.n ∧ q ≠ s.self ∧ inc < 1) ∨ (0 ≤ q ∧ q < s.n ∧ q ≠ s.self ∧ 1 ≤ inc ∧ 4611686018427387904 < inc) := by omega
  clear hc
  rcases hc' with h1 | ⟨h1, h2⟩ | ⟨h1, h2, h3⟩ | ⟨h1, h2, h3, h4⟩ | ⟨h1, h2, h3, h4, h5⟩
  · go_enter Try.func61, Try.ntmps61
    go_wp2
    go_ret2
    exact ⟨rfl, h.out.left hb1.out hF.out (Nat.le_succ _)⟩
  · have b2 : decide ((s.n : Int) ≤ q) = true := decide_eq_true h2
    go_enter Try.func61, Try.ntmps61
    go_wp2
    go_ret2
    exact ⟨rfl, h.out.left hb1.out hF.out (Nat.le_succ _)⟩
  · have b2 : decide ((s.n : Int) ≤ q) = false := decide_eq_false (by omega)
    have b3 : (q == (s.self : Int)) = true := by simp [h3]
    replace h3 := Lib.hid h3
    go_enter Try.func61, Try.ntmps61
    go_wp2
    go_ret2
    exact ⟨rfl, h.out.left hb1.out hF.out (Nat.le_succ _)⟩
  · have b3 : (q == (s.self : Int)) = false := by simp [h3]
    replace h3 := Lib.hid h3
    go_enter Try.func61, Try.ntmps61
    go_wp2
    go_ret2
    exact ⟨rfl, h.out.left hb1.out hF.out (Nat.le_succ _)⟩
  · have b3 : (q == (s.self : Int)) = false := by simp [h3]
    replace h3 := Lib.hid h3
    go_enter Try.func61, Try.ntmps61
    go_wp2
    go_ret2
    exact ⟨rfl, h.out.left hb1.out hF.out (Nat.le_succ _)⟩
set_option maxRecDepth 100000 in
set_option maxHeartbeats 4000000 in
theorem rtake_unfit (b : Nat) (F : List Nat) (s : St) (hs : List HdR) (X : Ptrs) (S V : Option Addr) (cS cV N : Nat) (p : Pr) (q : Nat) (inc : Int) (w : World) (h : RefAt w b F s hs X) (hF : ∀ x ∈ F, x < w.heap.size) (hI : Inv s) (hR : RInv s) (hlen : hs.length + 1 ≤ 1000000) (hq : q < s.n) (hs1 : q ≠ s.self) (hi1 : 1 ≤ inc) (hi2 : inc ≤ 4611686018427387904)
    (hN : N ≤ w.heap.size) (hS : RowAt w N 1 eInt S p.set) (hV : RowAt w N 1 eInt V p.vec) (hl1 : p.set.length ≤ 9223372036854775807) (hl2 : p.vec.length ≤ 9223372036854775807) (hg : p.goodB q inc s.n = false) :
    Calls Try.prog 61 #[.pointer (some ⟨b, 0, none⟩), .int .i64 q, .int .i64 inc, .agg (prA S V cS cV p)] w fun x w' => x = .returned (.tuple #[.bool (s.take q inc p).1, .int .i64 (s.take q inc p).2.1]) ∧ RLeft w w' b F (s.take q inc p).2.2 (hs.length + 1) (blk X.A) := by
  obtain ⟨wA, hwA⟩ : ∃ wA, wA = w.alloc (.cells (prA S V cS cV p) 31) := ⟨_, rfl⟩
  have zA : wA.heap.size = w.heap.size + 1 := by rw [hwA, World.size_alloc]
  have hbA : Below w.heap.size w wA := by rw [hwA]; exact below_box1 _ _ _
  have vA : PVar wA w.heap.size S p.set.length cS V p.vec.length cV p := by rw [hwA]; exact PVar.new w S p.set.length cS V p.vec.length cV p 31
  have hx : ∀ W, Below w.heap.size w W → RowAt W N 1 eInt S p.set ∧ RowAt W N 1 eInt V p.vec ∧ N ≤ W.heap.size := fun W hW => ⟨hS.below hW hN, hV.below hW hN, Nat.le_trans hN hW.size⟩
  have hA := h.below hbA
  have hbl := h.bl
  have hn := hI.n2
  have hq16 : q < 16 := by omega
  have q0 := h.n
  have q1 := h.self
  have b3 : ((q : Int) == (s.self : Int)) = false := by simp; omega
  have hS0 : Below wA.heap.size wA wA.drew := Below.drew (Below.refl _ _)
  have hC : ∀ x' : Prop, (∀ W, Below wA.heap.size wA W → x') ↔ x' := fun x' => ⟨fun f => f _ hS0, fun f _ _ => f⟩
  have L44 : ∀ W, Below wA.heap.size wA W → (loadVar 31 ⟨w.heap.size, 0, none⟩).run Try.prog W = .ok (.agg (prA S V cS cV p)) W := fun W hW => (vA.same (hW.block _ (by omega))).load
  have L50 : ∀ W, Below wA.heap.size wA W → (loadVar 3 ⟨b, 0, none⟩).run Try.prog W = .ok (.int .i64 s.n) W := fun W hW => load3 (hA.below hW).n
  have hargs : ¬ ((q : Int) < 0 ∨ (s.n : Int) ≤ q ∨ (q : Int) = s.self ∨ inc < 1 ∨ 4611686018427387904 < inc) := by omega
  have zA1 : w.heap.size < wA.heap.size := by omega
  have zA2 : w.heap.size + 1 ≤ wA.heap.size := by omega
  replace zA := Lib.hid zA
  replace hS0 := Lib.hid hS0
  replace L44 := Lib.hid L44
  replace L50 := Lib.hid L50
  replace hx := Lib.hid hx
  replace vA := Lib.hid vA
  replace hA := Lib.hid hA
  replace hbA := Lib.hid hbA
  replace hwA := Lib.hid hwA
  clear hS hV
  have hans := Lib.hid (show s.take q inc p = (false, 60, s) by unfold St.take; rw [if_neg hargs, if_pos (by rw [Int.toNat_natCast]; exact hg)])
  replace hg := Lib.hid hg
  replace hargs := Lib.hid hargs
  replace h := Lib.hid h
  replace hF := Lib.hid hF
  replace hI := Lib.hid hI
  replace hR := Lib.hid hR
  go_enter Try.func61, Try.ntmps61
  go_wp2_with fail
  rw [← hwA.out]
  clear q0 q1
  refine wp_region_ord [([0, 1, 2, 3, 4, 5, 6], 7)] [8] (Below wA.heap.size wA) rfl (by kernel_rfl) rfl hS0.out ?_
  refine WO.seg rfl ?_ hS0.out
  simp only [picks, pick, List.cons_append, List.nil_append, List.append_nil]
  repeat (first
    | go_big_quiet_skip
    | (refine wpQuiet_loadC (by rfl) 31 (.tmp 7) rfl w.heap.size 0 (by rfl) _ L44.out ?_; simp only [Act.put, List.setIfInBounds_toArray, List.set_cons_zero, List.set_cons_succ])
    | (refine wpQuiet_loadC (by rfl) 3 (.tmp 49) rfl b 0 (by rfl) _ L50.out ?_; simp only [Act.put, List.setIfInBounds_toArray, List.set_cons_zero, List.set_cons_succ])
    | go_big_quiet_step (fail))
  refine wpQuiet_nil ?_
  intro K hK
  go_simp
  go_at_call 72
  refine (rvalid_any S V cS cV N p q s.n inc wA.drew (hx.out _ (Below.drew hbA.out)).2.2 (hx.out _ (Below.drew hbA.out)).1 (hx.out _ (Below.drew hbA.out)).2.1 hq hn hl1 hl2).mono ?_
  rintro e w1 ⟨rfl, hb1⟩
  rw [hg.out]
  have hb1' : Below wA.heap.size wA w1 := hS0.out.trans hb1
  have b1 := Lib.hid (hbA.out.trans (hb1'.mono (by omega)))
  have z1 := hb1'.size
  replace hb1' := Lib.hid hb1'
  go_wp2_with fail
  refine hK.out _ _ hb1'.out ?_
  clear hK K
  refine WO.end_ ?_
  simp only [picks, pick, List.cons_append, List.nil_append, List.append_nil]
  repeat go_big_quiet_step (fail)
  refine wpQuiet_nil ?_
  clear hC hb1
  go_wp2
  go_ret2
  exact ⟨by rw [hans.out]; rfl, by rw [hans.out]; exact h.out.left b1.out hF.out (Nat.le_succ _)⟩
set_option maxRecDepth 100000 in
set_option maxHeartbeats 4000000 in
theorem rtake_old (b : Nat) (F : List Nat) (s : St) (hs : List HdR) (X : Ptrs) (S V : Option Addr) (cS cV N : Nat) (p : Pr) (q : Nat) (inc : Int) (w : World) (h : RefAt w b F s hs X) (hF : ∀ x ∈ F, x < w.heap.size) (hI : Inv s) (hR : RInv s) (hlen : hs.length + 1 ≤ 1000000) (hq : q < s.n) (hs1 : q ≠ s.self) (hi1 : 1 ≤ inc) (hi2 : inc ≤ 4611686018427387904)
    (hN : N ≤ w.heap.size) (hS : RowAt w N 1 eInt S p.set) (hV : RowAt w N 1 eInt V p.vec) (hl1 : p.set.length ≤ 9223372036854775807) (hl2 : p.vec.length ≤ 9223372036854775807) (hg : p.goodB q inc s.n = true) (c1 : inc < (s.lt q).inc) :
    Calls Try.prog 61 #[.pointer (some ⟨b, 0, none⟩), .int .i64 q, .int .i64 inc, .agg (prA S V cS cV p)] w fun x w' => x = .returned (.tuple #[.bool (s.take q inc p).1, .int .i64 (s.take q inc p).2.1]) ∧ RLeft w w' b F (s.take q inc p).2.2 (hs.length + 1) (blk X.A) := by
  obtain ⟨wA, hwA⟩ : ∃ wA, wA = w.alloc (.cells (prA S V cS cV p) 31) := ⟨_, rfl⟩
  have zA : wA.heap.size = w.heap.size + 1 := by rw [hwA, World.size_alloc]
  have hbA : Below w.heap.size w wA := by rw [hwA]; exact below_box1 _ _ _
  have vA : PVar wA w.heap.size S p.set.length cS V p.vec.length cV p := by rw [hwA]; exact PVar.new w S p.set.length cS V p.vec.length cV p 31
  have hx : ∀ W, Below w.heap.size w W → RowAt W N 1 eInt S p.set ∧ RowAt W N 1 eInt V p.vec ∧ N ≤ W.heap.size := fun W hW => ⟨hS.below hW hN, hV.below hW hN, Nat.le_trans hN hW.size⟩
  have hA := h.below hbA
  have hbl := h.bl
  have hn := hI.n2
  have hq16 : q < 16 := by omega
  have q0 := h.n
  have q1 := h.self
  have b3 : ((q : Int) == (s.self : Int)) = false := by simp; omega
  have hS0 : Below wA.heap.size wA wA.drew := Below.drew (Below.refl _ _)
  have hC : ∀ x' : Prop, (∀ W, Below wA.heap.size wA W → x') ↔ x' := fun x' => ⟨fun f => f _ hS0, fun f _ _ => f⟩
  have L44 : ∀ W, Below wA.heap.size wA W → (loadVar 31 ⟨w.heap.size, 0, none⟩).run Try.prog W = .ok (.agg (prA S V cS cV p)) W := fun W hW => (vA.same (hW.block _ (by omega))).load
  have L50 : ∀ W, Below wA.heap.size wA W → (loadVar 3 ⟨b, 0, none⟩).run Try.prog W = .ok (.int .i64 s.n) W := fun W hW => load3 (hA.below hW).n
  have hargs : ¬ ((q : Int) < 0 ∨ (s.n : Int) ≤ q ∨ (q : Int) = s.self ∨ inc < 1 ∨ 4611686018427387904 < inc) := by omega
  have zA1 : w.heap.size < wA.heap.size := by omega
  have zA2 : w.heap.size + 1 ≤ wA.heap.size := by omega
  replace zA := Lib.hid zA
  replace hS0 := Lib.hid hS0
  replace L44 := Lib.hid L44
  replace L50 := Lib.hid L50
  replace hx := Lib.hid hx
  replace vA := Lib.hid vA
  replace hA := Lib.hid hA
  replace hbA := Lib.hid hbA
  replace hwA := Lib.hid hwA
  clear hS hV
  have htk : s.take q inc p = if inc < (s.lt q).inc then (false, 50, s) else if (s.lt q).inc = inc ∧ p.rev ≤ (s.lt q).w.rev then (false, 51, s) else
      (if s.opn then
        if (s.put q inc p.wish).heard = (s.put q inc p.wish).own.vec then (false, 0, s.put q inc p.wish)
        else if (s.put q inc p.wish).own.rev < 4611686018427387904 then (false, 0, { (s.put q inc p.wish) with own := { (s.put q inc p.wish).own with vec := (s.put q inc p.wish).heard, rev := (s.put q inc p.wish).own.rev + 1 } })
        else (false, 3, s)
      else if leavesB (s.put q inc p.wish).mem q inc p.cid = false then (false, 0, s.put q inc p.wish)
      else if (s.put q inc p.wish).spent then (false, 3, s)
      else (true, 0, (s.put q inc p.wish).begin_ (s.put q inc p.wish).own.set)) := by
    unfold St.take
    rw [if_neg hargs, if_neg (by rw [Int.toNat_natCast, hg]; decide)]
    rfl
  have hgw := good_wish hI.n2 hg
  have hlS : p.set.length = s.n := by
    unfold Pr.goodB at hg; simp only [Bool.and_eq_true] at hg; exact packB_len hg.1.1.1.1.1.1
  have hlV : p.vec.length = s.n := by
    unfold Pr.goodB at hg; simp only [Bool.and_eq_true] at hg; exact packB_len hg.1.1.1.1.1.2
  obtain ⟨H, hH⟩ : ∃ H, H = hs.map (·.h) := ⟨_, rfl⟩
  have hHk : ∀ k, H[k]? = hs[k]?.map HdR.h := fun k => by rw [hH, List.getElem?_map]
  have hHl : H.length = hs.length := by rw [hH, List.length_map]
  have hrep : Rep s H := by rw [hH]; exact h.rep
  obtain ⟨L, hL⟩ : ∃ L, L = late H q := ⟨_, rfl⟩
  replace htk := Lib.hid htk
  replace hgw := Lib.hid hgw
  replace hlS := Lib.hid hlS
  replace hlV := Lib.hid hlV
  replace hHk := Lib.hid hHk
  replace hHl := Lib.hid hHl
  replace hH := Lib.hid hH
  replace hrep := Lib.hid hrep
  replace hL := Lib.hid hL
  have hans := Lib.hid (show s.take q inc p = (false, 50, s) by rw [htk.out, if_pos c1])
  replace c1 := Lib.hid (decide_eq_true c1)
  replace hg := Lib.hid hg
  replace hargs := Lib.hid hargs
  replace h := Lib.hid h
  replace hF := Lib.hid hF
  replace hI := Lib.hid hI
  replace hR := Lib.hid hR
  go_enter Try.func61, Try.ntmps61
  go_wp2_with fail
  rw [← hwA.out]
  clear q0 q1
  refine wp_region_ord [([0, 1, 2, 3, 4, 5, 6], 7)] [8] (Below wA.heap.size wA) rfl (by kernel_rfl) rfl hS0.out ?_
  refine WO.seg rfl ?_ hS0.out
  simp only [picks, pick, List.cons_append, List.nil_append, List.append_nil]
  repeat (first
    | go_big_quiet_skip
    | (refine wpQuiet_loadC (by rfl) 31 (.tmp 7) rfl w.heap.size 0 (by rfl) _ L44.out ?_; simp only [Act.put, List.setIfInBounds_toArray, List.set_cons_zero, List.set_cons_succ])
    | (refine wpQuiet_loadC (by rfl) 3 (.tmp 49) rfl b 0 (by rfl) _ L50.out ?_; simp only [Act.put, List.setIfInBounds_toArray, List.set_cons_zero, List.set_cons_succ])
    | go_big_quiet_step (fail))
  refine wpQuiet_nil ?_
  intro K hK
  go_simp
  go_at_call 72
  refine (rvalid_any S V cS cV N p q s.n inc wA.drew (hx.out _ (Below.drew hbA.out)).2.2 (hx.out _ (Below.drew hbA.out)).1 (hx.out _ (Below.drew hbA.out)).2.1 hq hn hl1 hl2).mono ?_
  rintro e w1 ⟨rfl, hb1⟩
  rw [hg.out]
  have hb1' : Below wA.heap.size wA w1 := hS0.out.trans hb1
  have b1 := Lib.hid (hbA.out.trans (hb1'.mono (by omega)))
  have z1 := hb1'.size
  replace hb1' := Lib.hid hb1'
  go_wp2_with fail
  refine hK.out _ _ hb1'.out ?_
  clear hK K
  refine WO.end_ ?_
  simp only [picks, pick, List.cons_append, List.nil_append, List.append_nil]
  repeat go_big_quiet_step (fail)
  refine wpQuiet_nil ?_
  clear hC hb1
  go_upto_region 7 with (first
    | (go_at_call 73
       refine (latest_any b F s hs X q w1 (h.out.below b1.out) (by omega)).mono ?_
       rintro e w2 ⟨rfl, hb2⟩
       rw [← hH.out, ← hL.out])
    | fail)
  have z2 := hb2.size
  have b2 := b1.out.trans (hb2.mono (by omega))
  have v2 := vA.out.same ((hb1'.out.trans (hb2.mono (by omega))).block _ (by omega))
  have h2 := h.out.below b2
  have g2 : ∀ j, L = some j → ∃ gA oA r, X.A = some ⟨gA, oA, none⟩ ∧ j < hs.length ∧ (s.lt q).inc = r.h.inc ∧ (s.lt q).w.rev = r.h.p.rev ∧ w2.rangeAt gA (oA + j * 11) (eHd r) := fun j hj => by
    have hl := hL.out.symm.trans hj
    obtain ⟨hjl, x, hx, hxq⟩ := late_some hl
    rw [hHl.out] at hjl
    obtain ⟨gA, oA, r, hAe, hgA, hr, hcA⟩ := (h2.own.row len_eHd).hd hjl
    have hxr : x = r.h := by have := hHk.out j; rw [hx, hr.out] at this; simpa using this
    obtain ⟨e1, e2⟩ := lt_some hrep.out hq16 hl hx
    exact ⟨gA, oA, r, hAe, hjl, by rw [e1, hxr], by rw [e2, hxr], hcA⟩
  have g0 : L = none → (s.lt q).inc = 0 := fun hj => lt_none hrep.out hq16 (hL.out.symm.trans hj)
  replace g2 := Lib.hid g2
  replace g0 := Lib.hid g0
  replace b2 := Lib.hid b2
  replace v2 := Lib.hid v2
  replace h2 := Lib.hid h2
  clear hb2
  go_cut [70] (fun s70 wx => s70 = .bool (decide (inc < (s.lt q).inc)) ∧ wx = w2)
  case first =>
    cases L with
    | none =>
      have e0 := g0.out rfl
      have d1 := Lib.hid (show decide (inc < (s.lt q).inc) = false from decide_eq_false (by omega))
      rw [show lateI none = -1 from rfl]
      go_wp2_with fail
      go_meet
      exact ⟨by rw [d1.out], rfl⟩
    | some j =>
      obtain ⟨gA, oA, r, hAe, hjl, e1, e2, hcA⟩ := g2.out j rfl
      have k0 := h2.out.all
      rw [hAe] at k0
      have k1 : w2.cell? ⟨gA, oA + j * 11 + 1, none⟩ = some (.int .i64 r.h.inc) := hcA 1 _ rfl
      have hj0 : decide ((0 : Int) ≤ (j : Int)) = true := decide_eq_true (by omega)
      replace e1 := Lib.hid e1
      replace e2 := Lib.hid e2
      replace hAe := Lib.hid hAe
      replace hcA := Lib.hid hcA
      rw [show lateI (some j) = (j : Int) from rfl]
      go_wp2_with fail
      go_meet
      exact ⟨by rw [e1.out], rfl⟩
  case rest =>
    obtain ⟨rfl, rfl⟩ := hcut
    rw [c1.out]
    go_wp2
    go_ret2
    exact ⟨by rw [hans.out]; rfl, by rw [hans.out]; exact h.out.left b2.out hF.out (Nat.le_succ _)⟩
set_option maxRecDepth 100000 in
set_option maxHeartbeats 4000000 in
theorem rtake_stale (b : Nat) (F : List Nat) (s : St) (hs : List HdR) (X : Ptrs) (S V : Option Addr) (cS cV N : Nat) (p : Pr) (q : Nat) (inc : Int) (w : World) (h : RefAt w b F s hs X) (hF : ∀ x ∈ F, x < w.heap.size) (hI : Inv s) (hR : RInv s) (hlen : hs.length + 1 ≤ 1000000) (hq : q < s.n) (hs1 : q ≠ s.self) (hi1 : 1 ≤ inc) (hi2 : inc ≤ 4611686018427387904)
    (hN : N ≤ w.heap.size) (hS : RowAt w N 1 eInt S p.set) (hV : RowAt w N 1 eInt V p.vec) (hl1 : p.set.length ≤ 9223372036854775807) (hl2 : p.vec.length ≤ 9223372036854775807) (hg : p.goodB q inc s.n = true) (c1 : ¬ inc < (s.lt q).inc) (c2 : (s.lt q).inc = inc ∧ p.rev ≤ (s.lt q).w.rev) :
    Calls Try.prog 61 #[.pointer (some ⟨b, 0, none⟩), .int .i64 q, .int .i64 inc, .agg (prA S V cS cV p)] w fun x w' => x = .returned (.tuple #[.bool (s.take q inc p).1, .int .i64 (s.take q inc p).2.1]) ∧ RLeft w w' b F (s.take q inc p).2.2 (hs.length + 1) (blk X.A) := by
  obtain ⟨wA, hwA⟩ : ∃ wA, wA = w.alloc (.cells (prA S V cS cV p) 31) := ⟨_, rfl⟩
  have zA : wA.heap.size = w.heap.size + 1 := by rw [hwA, World.size_alloc]
  have hbA : Below w.heap.size w wA := by rw [hwA]; exact below_box1 _ _ _
  have vA : PVar wA w.heap.size S p.set.length cS V p.vec.length cV p := by rw [hwA]; exact PVar.new w S p.set.length cS V p.vec.length cV p 31
  have hx : ∀ W, Below w.heap.size w W → RowAt W N 1 eInt S p.set ∧ RowAt W N 1 eInt V p.vec ∧ N ≤ W.heap.size := fun W hW => ⟨hS.below hW hN, hV.below hW hN, Nat.le_trans hN hW.size⟩
  have hA := h.below hbA
  have hbl := h.bl
  have hn := hI.n2
  have hq16 : q < 16 := by omega
  have q0 := h.n
  have q1 := h.self
  have b3 : ((q : Int) == (s.self : Int)) = false := by simp; omega
  have hS0 : Below wA.heap.size wA wA.drew := Below.drew (Below.refl _ _)
  have hC : ∀ x' : Prop, (∀ W, Below wA.heap.size wA W → x') ↔ x' := fun x' => ⟨fun f => f _ hS0, fun f _ _ => f⟩
  have L44 : ∀ W, Below wA.heap.size wA W → (loadVar 31 ⟨w.heap.size, 0, none⟩).run Try.prog W = .ok (.agg (prA S V cS cV p)) W := fun W hW => (vA.same (hW.block _ (by omega))).load
  have L50 : ∀ W, Below wA.heap.size wA W → (loadVar 3 ⟨b, 0, none⟩).run Try.prog W = .ok (.int .i64 s.n) W := fun W hW => load3 (hA.below hW).n
  have hargs : ¬ ((q : Int) < 0 ∨ (s.n : Int) ≤ q ∨ (q : Int) = s.self ∨ inc < 1 ∨ 4611686018427387904 < inc) := by omega
  have zA1 : w.heap.size < wA.heap.size := by omega
  have zA2 : w.heap.size + 1 ≤ wA.heap.size := by omega
  replace zA := Lib.hid zA
  replace hS0 := Lib.hid hS0
  replace L44 := Lib.hid L44
  replace L50 := Lib.hid L50
  replace hx := Lib.hid hx
  replace vA := Lib.hid vA
  replace hA := Lib.hid hA
  replace hbA := Lib.hid hbA
  replace hwA := Lib.hid hwA
  clear hS hV
  have htk : s.take q inc p = if inc < (s.lt q).inc then (false, 50, s) else if (s.lt q).inc = inc ∧ p.rev ≤ (s.lt q).w.rev then (false, 51, s) else
      (if s.opn then
        if (s.put q inc p.wish).heard = (s.put q inc p.wish).own.vec then (false, 0, s.put q inc p.wish)
        else if (s.put q inc p.wish).own.rev < 4611686018427387904 then (false, 0, { (s.put q inc p.wish) with own := { (s.put q inc p.wish).own with vec := (s.put q inc p.wish).heard, rev := (s.put q inc p.wish).own.rev + 1 } })
        else (false, 3, s)
      else if leavesB (s.put q inc p.wish).mem q inc p.cid = false then (false, 0, s.put q inc p.wish)
      else if (s.put q inc p.wish).spent then (false, 3, s)
      else (true, 0, (s.put q inc p.wish).begin_ (s.put q inc p.wish).own.set)) := by
    unfold St.take
    rw [if_neg hargs, if_neg (by rw [Int.toNat_natCast, hg]; decide)]
    rfl
  have hgw := good_wish hI.n2 hg
  have hlS : p.set.length = s.n := by
    unfold Pr.goodB at hg; simp only [Bool.and_eq_true] at hg; exact packB_len hg.1.1.1.1.1.1
  have hlV : p.vec.length = s.n := by
    unfold Pr.goodB at hg; simp only [Bool.and_eq_true] at hg; exact packB_len hg.1.1.1.1.1.2
  obtain ⟨H, hH⟩ : ∃ H, H = hs.map (·.h) := ⟨_, rfl⟩
  have hHk : ∀ k, H[k]? = hs[k]?.map HdR.h := fun k => by rw [hH, List.getElem?_map]
  have hHl : H.length = hs.length := by rw [hH, List.length_map]
  have hrep : Rep s H := by rw [hH]; exact h.rep
  obtain ⟨L, hL⟩ : ∃ L, L = late H q := ⟨_, rfl⟩
  replace htk := Lib.hid htk
  replace hgw := Lib.hid hgw
  replace hlS := Lib.hid hlS
  replace hlV := Lib.hid hlV
  replace hHk := Lib.hid hHk
  replace hHl := Lib.hid hHl
  replace hH := Lib.hid hH
  replace hrep := Lib.hid hrep
  replace hL := Lib.hid hL
  have hans := Lib.hid (show s.take q inc p = (false, 51, s) by rw [htk.out, if_neg c1, if_pos c2])
  replace c1 := Lib.hid (decide_eq_false c1)
  replace c2 := Lib.hid (decide_eq_true c2)
  replace hg := Lib.hid hg
  replace hargs := Lib.hid hargs
  replace h := Lib.hid h
  replace hF := Lib.hid hF
  replace hI := Lib.hid hI
  replace hR := Lib.hid hR
  go_enter Try.func61, Try.ntmps61
  go_wp2_with fail
  rw [← hwA.out]
  clear q0 q1
  refine wp_region_ord [([0, 1, 2, 3, 4, 5, 6], 7)] [8] (Below wA.heap.size wA) rfl (by kernel_rfl) rfl hS0.out ?_
  refine WO.seg rfl ?_ hS0.out
  simp only [picks, pick, List.cons_append, List.nil_append, List.append_nil]
  repeat (first
    | go_big_quiet_skip
    | (refine wpQuiet_loadC (by rfl) 31 (.tmp 7) rfl w.heap.size 0 (by rfl) _ L44.out ?_; simp only [Act.put, List.setIfInBounds_toArray, List.set_cons_zero, List.set_cons_succ])
    | (refine wpQuiet_loadC (by rfl) 3 (.tmp 49) rfl b 0 (by rfl) _ L50.out ?_; simp only [Act.put, List.setIfInBounds_toArray, List.set_cons_zero, List.set_cons_succ])
    | go_big_quiet_step (fail))
  refine wpQuiet_nil ?_
  intro K hK
  go_simp
  go_at_call 72
  refine (rvalid_any S V cS cV N p q s.n inc wA.drew (hx.out _ (Below.drew hbA.out)).2.2 (hx.out _ (Below.drew hbA.out)).1 (hx.out _ (Below.drew hbA.out)).2.1 hq hn hl1 hl2).mono ?_
  rintro e w1 ⟨rfl, hb1⟩
  rw [hg.out]
  have hb1' : Below wA.heap.size wA w1 := hS0.out.trans hb1
  have b1 := Lib.hid (hbA.out.trans (hb1'.mono (by omega)))
  have z1 := hb1'.size
  replace hb1' := Lib.hid hb1'
  go_wp2_with fail
  refine hK.out _ _ hb1'.out ?_
  clear hK K
  refine WO.end_ ?_
  simp only [picks, pick, List.cons_append, List.nil_append, List.append_nil]
  repeat go_big_quiet_step (fail)
  refine wpQuiet_nil ?_
  clear hC hb1
  go_upto_region 7 with (first
    | (go_at_call 73
       refine (latest_any b F s hs X q w1 (h.out.below b1.out) (by omega)).mono ?_
       rintro e w2 ⟨rfl, hb2⟩
       rw [← hH.out, ← hL.out])
    | fail)
  have z2 := hb2.size
  have b2 := b1.out.trans (hb2.mono (by omega))
  have v2 := vA.out.same ((hb1'.out.trans (hb2.mono (by omega))).block _ (by omega))
  have h2 := h.out.below b2
  have g2 : ∀ j, L = some j → ∃ gA oA r, X.A = some ⟨gA, oA, none⟩ ∧ j < hs.length ∧ (s.lt q).inc = r.h.inc ∧ (s.lt q).w.rev = r.h.p.rev ∧ w2.rangeAt gA (oA + j * 11) (eHd r) := fun j hj => by
    have hl := hL.out.symm.trans hj
    obtain ⟨hjl, x, hx, hxq⟩ := late_some hl
    rw [hHl.out] at hjl
    obtain ⟨gA, oA, r, hAe, hgA, hr, hcA⟩ := (h2.own.row len_eHd).hd hjl
    have hxr : x = r.h := by have := hHk.out j; rw [hx, hr.out] at this; simpa using this
    obtain ⟨e1, e2⟩ := lt_some hrep.out hq16 hl hx
    exact ⟨gA, oA, r, hAe, hjl, by rw [e1, hxr], by rw [e2, hxr], hcA⟩
  have g0 : L = none → (s.lt q).inc = 0 := fun hj => lt_none hrep.out hq16 (hL.out.symm.trans hj)
  replace g2 := Lib.hid g2
  replace g0 := Lib.hid g0
  replace b2 := Lib.hid b2
  replace v2 := Lib.hid v2
  replace h2 := Lib.hid h2
  clear hb2
  go_cut [70] (fun s70 wx => s70 = .bool (decide (inc < (s.lt q).inc)) ∧ wx = w2)
  case first =>
    cases L with
    | none =>
      have e0 := g0.out rfl
      have d1 := Lib.hid (show decide (inc < (s.lt q).inc) = false from decide_eq_false (by omega))
      rw [show lateI none = -1 from rfl]
      go_wp2_with fail
      go_meet
      exact ⟨by rw [d1.out], rfl⟩
    | some j =>
      obtain ⟨gA, oA, r, hAe, hjl, e1, e2, hcA⟩ := g2.out j rfl
      have k0 := h2.out.all
      rw [hAe] at k0
      have k1 : w2.cell? ⟨gA, oA + j * 11 + 1, none⟩ = some (.int .i64 r.h.inc) := hcA 1 _ rfl
      have hj0 : decide ((0 : Int) ≤ (j : Int)) = true := decide_eq_true (by omega)
      replace e1 := Lib.hid e1
      replace e2 := Lib.hid e2
      replace hAe := Lib.hid hAe
      replace hcA := Lib.hid hcA
      rw [show lateI (some j) = (j : Int) from rfl]
      go_wp2_with fail
      go_meet
      exact ⟨by rw [e1.out], rfl⟩
  case rest =>
    obtain ⟨rfl, rfl⟩ := hcut
    rw [c1.out]
    go_upto_region 9 with (fail)
    go_cut [98] (fun s98 wx => s98 = .bool (decide ((s.lt q).inc = inc ∧ p.rev ≤ (s.lt q).w.rev)) ∧ ∃ nq, wx = wc.drewN nq)
    case first =>
      have c2 := v2.out.c2
      cases L with
      | none =>
        have e0 := g0.out rfl
        have d2' := Lib.hid (show decide ((s.lt q).inc = inc ∧ p.rev ≤ (s.lt q).w.rev) = false from decide_eq_false (by omega))
        rw [show lateI none = -1 from rfl]
        refine wp_region_quiet_lit (by kernel_rfl) (by kernel_rfl) ?_
        repeat (first | go_big_quiet_skip | go_big_quiet_step (fail))
        refine wpQuiet_nil ?_
        first | rintro _ ⟨nq, rfl⟩ | intro nq
        go_wp2_with fail
        go_meet
        exact ⟨by rw [d2'.out], nq, rfl⟩
      | some j =>
        obtain ⟨gA, oA, r, hAe, hjl, e1, e2, hcA⟩ := g2.out j rfl
        have k0 := h2.out.all
        rw [hAe] at k0
        have k1 : wc.cell? ⟨gA, oA + j * 11 + 1, none⟩ = some (.int .i64 r.h.inc) := hcA 1 _ rfl
        have k4 : wc.cell? ⟨gA, oA + j * 11 + 4, none⟩ = some (.int .i64 r.h.p.rev) := hcA 4 _ rfl
        have hj0 : decide ((0 : Int) ≤ (j : Int)) = true := decide_eq_true (by omega)
        have hj1 : (0 : Int) ≤ (j : Int) := by omega
        have hj2 : (j : Int) < (hs.length : Int) := by omega
        replace e1 := Lib.hid e1
        replace e2 := Lib.hid e2
        replace hAe := Lib.hid hAe
        replace hcA := Lib.hid hcA
        rw [show lateI (some j) = (j : Int) from rfl]
        by_cases d : r.h.inc = inc
        · have d3 : (r.h.inc == inc) = true := by simp [d]
          have d4 := Lib.hid (show decide (r.h.inc = inc ∧ p.rev ≤ r.h.p.rev) = decide (p.rev ≤ r.h.p.rev) by simp [d])
          replace d := Lib.hid d
          refine wp_region_quiet_lit (by kernel_rfl) (by kernel_rfl) ?_
          repeat (first | go_big_quiet_skip | go_big_quiet_step (fail))
          refine wpQuiet_nil ?_
          first | rintro _ ⟨nq, rfl⟩ | intro nq
          go_wp2_with fail
          go_meet
          exact ⟨by rw [e1.out, e2.out, d4.out], nq, rfl⟩
        · have d3 : (r.h.inc == inc) = false := by simp [d]
          have d4 := Lib.hid (show decide (r.h.inc = inc ∧ p.rev ≤ r.h.p.rev) = false by simp [d])
          replace d := Lib.hid d
          refine wp_region_quiet_lit (by kernel_rfl) (by kernel_rfl) ?_
          repeat (first | go_big_quiet_skip | go_big_quiet_step (fail))
          refine wpQuiet_nil ?_
          first | rintro _ ⟨nq, rfl⟩ | intro nq
          go_wp2_with fail
          go_meet
          exact ⟨by rw [e1.out, e2.out, d4.out], nq, rfl⟩
    case rest =>
      obtain ⟨rfl, nq, rfl⟩ := hcut
      rw [c2.out]
      go_wp2
      go_ret2
      exact ⟨by rw [hans.out]; rfl, by rw [hans.out]; exact h.out.left (below_drewN b2.out nq) hF.out (Nat.le_succ _)⟩
end Go.Proofs.Ytfbeggdbjpmppaa
