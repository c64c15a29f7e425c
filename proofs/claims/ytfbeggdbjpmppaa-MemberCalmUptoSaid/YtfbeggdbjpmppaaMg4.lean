/- Base Agent Res Quiet94 Heard Heard2, joined. -/
import Derived.Test.YtfbeggdbjpmppaaProg
import Derived.Laws.ResultCell
import Derived.Deep.Quiet
import Derived.StillTailTactics
import Derived.IntWalk
import Derived.Test.YtfbeggdbjpmppaaMg3
set_option linter.unusedVariables false
set_option linter.unusedSimpArgs false
namespace Go.Proofs.Ytfbeggdbjpmppaa
open Go.RowKit
theorem size94 : (Try.prog.info? 94).map (·.size) = some 16 := by kernel_rfl
theorem zero94 : (Try.prog.info? 94).map (·.zero) = some (some (.agg (arr zeros))) := by kernel_rfl
theorem sz3 (w : World) : (sizeOf 3).run Try.prog w = .ok 1 w := by kernel_rfl
theorem run_eql_arr (w : World) (xs ys : List Int) (hx : xs.length = 16) (hy : ys.length = 16) : (binOp .eql 94 (.agg (arr xs)) (.agg (arr ys))).run Try.prog w = .ok (.bool (xs == ys)) w :=
  run_eql_ints w 94 3 16 Try.underlying94 Try.underlying3 sz3 xs ys hx hy
theorem run_neq_arr (w : World) (xs ys : List Int) (hx : xs.length = 16) (hy : ys.length = 16) : (binOp .neq 94 (.agg (arr xs)) (.agg (arr ys))).run Try.prog w = .ok (.bool (!(xs == ys))) w :=
  run_neq_ints w 94 3 16 Try.underlying94 Try.underlying3 sz3 xs ys hx hy
def vidEq (a b : Vid) : Bool := decide (a = b)
abbrev vidC (v : Vid) : Array Value := #[.int .i64 v.e, .int .i64 v.l, .int .i64 v.i, .int .i64 v.c]
theorem run_eql_vid (w : World) (a b c d a' b' c' d' : Int) : (binOp .eql 29 (.agg #[.int .i64 a, .int .i64 b, .int .i64 c, .int .i64 d]) (.agg #[.int .i64 a', .int .i64 b', .int .i64 c', .int .i64 d'])).run Try.prog w = .ok (.bool (vidEq ⟨a, b, c, d⟩ ⟨a', b', c', d'⟩)) w := by
  go_simp
  by_cases h1 : a = a' <;> by_cases h2 : b = b' <;> by_cases h3 : c = c' <;> by_cases h4 : d = d' <;> simp [vidEq, h1, h2, h3, h4]
theorem run_neq_vid (w : World) (a b c d a' b' c' d' : Int) : (binOp .neq 29 (.agg #[.int .i64 a, .int .i64 b, .int .i64 c, .int .i64 d]) (.agg #[.int .i64 a', .int .i64 b', .int .i64 c', .int .i64 d'])).run Try.prog w = .ok (.bool (!vidEq ⟨a, b, c, d⟩ ⟨a', b', c', d'⟩)) w := by
  go_simp
  by_cases h1 : a = a' <;> by_cases h2 : b = b' <;> by_cases h3 : c = c' <;> by_cases h4 : d = d' <;> simp [vidEq, h1, h2, h3, h4]
theorem run_loadVar_arr (w : World) (b o : Nat) (l : List Int) (hc : w.rangeAt b o (ints l)) (hl : l.length = 16) : (loadVar 94 ⟨b, o, none⟩).run Try.prog w = .ok (.agg (arr l)) w :=
  run_loadVar_mid w b o 94 (ints l) _ hc Try.underlying94 rfl (by rw [size94, len_ints, hl])
theorem range_set {w : World} {b o k : Nat} {l : List Int} (h : w.rangeAt b o (ints l)) (hk : k < l.length) (v : Int) : (w.setCell ⟨b, o + k, none⟩ (.int .i64 v)).rangeAt b o (ints (l.set k v)) := fun j u hu => by
  unfold ints at hu
  rw [List.getElem?_map] at hu
  by_cases e : j = k
  · subst e
    rw [List.getElem?_set_self hk] at hu
    injection hu with hu; subst hu
    obtain ⟨y, hy⟩ : ∃ y, w.cell? ⟨b, o + j, none⟩ = some y := ⟨_, rangeAt_cell h (List.getElem?_eq_getElem hk)⟩
    exact World.cell?_setCell_same _ _ _ hy
  · rw [List.getElem?_set_ne (fun e2 => e e2.symm)] at hu
    rw [World.cell?_setCell_other _ _ _ _ (fun e2 => by injection e2 with _ e3; omega)]
    exact h j u (by unfold ints; rw [List.getElem?_map]; exact hu)
theorem there_set {w : World} {b o n : Nat} (h : w.there b o n) (p : Addr) (v : Value) : (w.setCell p v).there b o n := fun j hj => by
  rw [World.frozen?_setCell]
  obtain ⟨u, hu⟩ := Option.isSome_iff_exists.1 (h j hj).1
  obtain ⟨v', hv'⟩ := RowKit.cell?_setCell_some (p := p) (x := v) hu
  exact ⟨by rw [hv']; rfl, (h j hj).2⟩
theorem range_new (w : World) (cs : Array Value) (t : TypeId) : (w.alloc (.cells cs t)).rangeAt w.heap.size 0 cs.toList := fun j u hu => by
  rw [Nat.zero_add, World.cell?_alloc_at _ _ _ _ rfl]; simpa using hu
theorem there_new (w : World) (cs : Array Value) (t : TypeId) : (w.alloc (.cells cs t)).there w.heap.size 0 cs.size := fun j hj => by
  rw [Nat.zero_add, World.cell?_alloc_at _ _ _ _ rfl, World.frozen?_alloc_at _ _ _ _ rfl]
  exact ⟨by rw [Array.getElem?_eq_getElem hj]; rfl, rfl⟩
theorem arr_list (l : List Int) : (arr l).toList = ints l := by unfold arr; rfl
theorem range_below {w w' : World} {b o N : Nat} {cs : List Value} (h : w.rangeAt b o cs) (hb : Below N w w') (hN : b < N) : w'.rangeAt b o cs := fun j u hu => (hb.cell (p := ⟨b, o + j, none⟩) hN).trans (h j u hu)
theorem there_below {w w' : World} {b o n N : Nat} (h : w.there b o n) (hb : Below N w w') (hN : b < N) : w'.there b o n := fun j hj => by
  rw [hb.cell (p := ⟨b, o + j, none⟩) hN, hb.frozen (p := ⟨b, o + j, none⟩) hN]; exact h j hj
section
variable {ops : Array Oper} {rest : List Oper} {op : Oper} {a : Act} {w : World} {Q : Exit → Act → World → Prop}
theorem wpList_alloc94 (hgd : op.guard = none) (ho : op.op = .alloc 94) (h : wpList Try.prog ops Q rest (a.put op.dst (.pointer (some ⟨w.heap.size, 0, none⟩))) (w.alloc (.cells (arr zeros) 94))) : wpList Try.prog ops Q (op :: rest) a w :=
  wpList_alloc_zero hgd 94 ho _ zero94 h
theorem wpList_load94 (hgd : op.guard = none) (x : Operand) (ho : op.op = .load 94 x) (b o : Nat) (hx : a.eval x = .pointer (some ⟨b, o, none⟩)) (l : List Int) (hc : w.rangeAt b o (ints l)) (hl : l.length = 16)
    (h : wpList Try.prog ops Q rest (a.put op.dst (.agg (arr l))) w) : wpList Try.prog ops Q (op :: rest) a w :=
  wpList_load_arr hgd 94 x ho b o hx l 16 3 hc Try.underlying94 size94 hl h
theorem wpList_store94 (hgd : op.guard = none) (x y : Operand) (ho : op.op = .store 94 x y) (b o : Nat) (hx : a.eval x = .pointer (some ⟨b, o, none⟩)) (l : List Int) (hy : a.eval y = .agg (arr l)) (ht : w.there b o 16) (hl : l.length = 16)
    (h : ∀ w', Hid (w' = w.setCells b o (ints l)) → wpList Try.prog ops Q rest (a.put op.dst undef) w') : wpList Try.prog ops Q (op :: rest) a w :=
  wpList_store_arr hgd 94 x y ho b o hx l hy 16 ht size94 hl (h _ (Lib.hid rfl))
end
theorem size_sets (g : Nat) : ∀ (vs : List Value) (o : Nat) (w : World), (w.setCells g o vs).heap.size = w.heap.size
  | [], _, _ => rfl
  | v :: vs, o, w => by rw [World.setCells, size_sets g vs (o + 1), World.size_setCell]
theorem below_sets {N g : Nat} {a w : World} (h : Below N a w) (hN : N ≤ g) (o : Nat) (vs : List Value) (hs : N ≤ w.heap.size) : Below N a (w.setCells g o vs) :=
  h.grown (grown_sets g vs o w) hs (by intro k hk; injection hk with hk; omega)
theorem pad_take_set {l : List Int} {i : Nat} {v : Int} (hi : i < 16) (hv : l[i]? = some v) : (pad (l.take i)).set i v = pad (l.take (i + 1)) := by
  have hlt := (List.getElem?_eq_some_iff.1 hv).1
  have e1 : (l.take i).length = i := List.length_take_of_le (by omega)
  have e2 : (l.take (i + 1)).length = i + 1 := List.length_take_of_le (by omega)
  have e3 : 16 - i = (16 - (i + 1)) + 1 := by omega
  unfold pad
  rw [e1, e2, e3, List.replicate_succ, List.take_add_one, hv, List.set_append_right _ _ (by omega), e1, Nat.sub_self]
  simp
end Go.Proofs.Ytfbeggdbjpmppaa
namespace Go.Proofs.Ytfbeggdbjpmppaa
open Go.RowKit
structure AgAt (w : World) (b : Nat) (s : St) (M : Option Addr) (cM : Nat) : Prop where
  n : w.cell? ⟨b, 0, none⟩ = some (.int .i64 s.n)
  self : w.cell? ⟨b, 1, none⟩ = some (.int .i64 s.self)
  inc : w.cell? ⟨b, 2, none⟩ = some (.int .i64 s.inc)
  opn : w.cell? ⟨b, 3, none⟩ = some (.bool s.opn)
  set : w.rangeAt b 4 (ints s.own.set)
  vec : w.rangeAt b 20 (ints s.own.vec)
  cid : w.cell? ⟨b, 36, none⟩ = some (.int .i64 s.own.cid)
  rev : w.cell? ⟨b, 37, none⟩ = some (.int .i64 s.own.rev)
  top : w.cell? ⟨b, 38, none⟩ = some (.int .i64 s.own.top)
  pe : w.cell? ⟨b, 39, none⟩ = some (.int .i64 s.own.prev.e)
  pl : w.cell? ⟨b, 40, none⟩ = some (.int .i64 s.own.prev.l)
  pi : w.cell? ⟨b, 41, none⟩ = some (.int .i64 s.own.prev.i)
  pc : w.cell? ⟨b, 42, none⟩ = some (.int .i64 s.own.prev.c)
  ve : w.cell? ⟨b, 683, none⟩ = some (.int .i64 s.vid.e)
  vl : w.cell? ⟨b, 684, none⟩ = some (.int .i64 s.vid.l)
  vi : w.cell? ⟨b, 685, none⟩ = some (.int .i64 s.vid.i)
  vc : w.cell? ⟨b, 686, none⟩ = some (.int .i64 s.vid.c)
  mem : w.cell? ⟨b, 687, none⟩ = some (.slice M s.mem.length cM)
  oinc : ∀ q, q < 16 → w.cell? ⟨b, 43 + q * 40, none⟩ = some (.int .i64 (s.lt q).inc)
  oset : ∀ q, q < 16 → w.rangeAt b (43 + q * 40 + 1) (ints (s.lt q).w.set)
  ovec : ∀ q, q < 16 → w.rangeAt b (43 + q * 40 + 17) (ints (s.lt q).w.vec)
  ocid : ∀ q, q < 16 → w.cell? ⟨b, 43 + q * 40 + 33, none⟩ = some (.int .i64 (s.lt q).w.cid)
  orev : ∀ q, q < 16 → w.cell? ⟨b, 43 + q * 40 + 34, none⟩ = some (.int .i64 (s.lt q).w.rev)
  otop : ∀ q, q < 16 → w.cell? ⟨b, 43 + q * 40 + 35, none⟩ = some (.int .i64 (s.lt q).w.top)
  ope : ∀ q, q < 16 → w.cell? ⟨b, 43 + q * 40 + 36, none⟩ = some (.int .i64 (s.lt q).w.prev.e)
  opl : ∀ q, q < 16 → w.cell? ⟨b, 43 + q * 40 + 37, none⟩ = some (.int .i64 (s.lt q).w.prev.l)
  opi : ∀ q, q < 16 → w.cell? ⟨b, 43 + q * 40 + 38, none⟩ = some (.int .i64 (s.lt q).w.prev.i)
  opc : ∀ q, q < 16 → w.cell? ⟨b, 43 + q * 40 + 39, none⟩ = some (.int .i64 (s.lt q).w.prev.c)
  there : w.there b 0 688
  l1 : s.own.set.length = 16
  l2 : s.own.vec.length = 16
  l3 : ∀ q, q < 16 → (s.lt q).w.set.length = 16
  l4 : ∀ q, q < 16 → (s.lt q).w.vec.length = 16
theorem cell_out {w : World} {b o j : Nat} {vs : List Value} {v : Value} (h : w.cell? ⟨b, j, none⟩ = some v) (hap : j < o ∨ o + vs.length ≤ j) : (w.setCells b o vs).cell? ⟨b, j, none⟩ = some v := by
  rw [World.cell?_setCells_out b vs o w ⟨b, j, none⟩ (fun _ _ => hap)]; exact h
theorem cell_in {w : World} {b o n i : Nat} {vs : List Value} {v : Value} (h : w.there b 0 n) (hn : o + vs.length ≤ n) (hv : vs[i]? = some v) : (w.setCells b o vs).cell? ⟨b, o + i, none⟩ = some v := by
  have hi := (List.getElem?_eq_some_iff.1 hv).1
  rw [World.cell?_setCells_in b vs o w (fun i hi => by have := (h (o + i) (by omega)).1; rwa [Nat.zero_add] at this) i hi, ← hv, List.getElem?_eq_getElem hi]
theorem rng_out {w : World} {b o j : Nat} {vs cs : List Value} (h : w.rangeAt b j cs) (hap : j + cs.length ≤ o ∨ o + vs.length ≤ j) : (w.setCells b o vs).rangeAt b j cs := World.rangeAt_setCells_apart h b o vs (.inr hap)
theorem rng_in {w : World} {b o n : Nat} {vs : List Value} (h : w.there b 0 n) (hn : o + vs.length ≤ n) : (w.setCells b o vs).rangeAt b o vs := World.rangeAt_setCells_same w b o vs (fun j hj => by have := h (o + j) (by omega); rwa [Nat.zero_add] at this)
theorem World.there.at {w : World} {b n : Nat} (h : w.there b 0 n) {o m : Nat} (ho : o + m ≤ n) : w.there b o m := fun j hj => by have := h (o + j) (by omega); rwa [Nat.zero_add] at this
theorem lt_put_same {s : St} {q : Nat} {inc : Int} {w : Wish} (hq : q < s.oth.length) : (s.put q inc w).lt q = ⟨inc, w⟩ := by
  unfold St.lt St.put; rw [List.getElem?_set_self hq]; rfl
theorem lt_put_ne {s : St} {q r : Nat} {inc : Int} {w : Wish} (h : q ≠ r) : (s.put q inc w).lt r = s.lt r := by
  unfold St.lt St.put; rw [List.getElem?_set_ne h]
theorem AgAt.same {w w' : World} {b : Nat} {s : St} {M : Option Addr} {cM : Nat} (h : AgAt w b s M cM) (hb : w'.heap[b]? = w.heap[b]?) : AgAt w' b s M cM := by
  have hc : ∀ o, w'.cell? ⟨b, o, none⟩ = w.cell? ⟨b, o, none⟩ := fun o => World.cell?_of_block hb
  have hf : ∀ o, w'.frozen? ⟨b, o, none⟩ = w.frozen? ⟨b, o, none⟩ := fun o => World.frozen?_of_block hb
  have hr : ∀ {o cs}, w.rangeAt b o cs → w'.rangeAt b o cs := fun h j u hu => (hc _).trans (h j u hu)
  exact ⟨(hc _).trans h.n, (hc _).trans h.self, (hc _).trans h.inc, (hc _).trans h.opn, hr h.set, hr h.vec, (hc _).trans h.cid, (hc _).trans h.rev, (hc _).trans h.top, (hc _).trans h.pe, (hc _).trans h.pl, (hc _).trans h.pi, (hc _).trans h.pc, (hc _).trans h.ve, (hc _).trans h.vl, (hc _).trans h.vi, (hc _).trans h.vc, (hc _).trans h.mem, fun q hq => (hc _).trans (h.oinc q hq), fun q hq => hr (h.oset q hq), fun q hq => hr (h.ovec q hq), fun q hq => (hc _).trans (h.ocid q hq), fun q hq => (hc _).trans (h.orev q hq), fun q hq => (hc _).trans (h.otop q hq), fun q hq => (hc _).trans (h.ope q hq), fun q hq => (hc _).trans (h.opl q hq), fun q hq => (hc _).trans (h.opi q hq), fun q hq => (hc _).trans (h.opc q hq), fun j hj => by rw [hc, hf]; exact h.there j hj, h.l1, h.l2, h.l3, h.l4⟩
theorem AgAt.setSet {w : World} {b : Nat} {s : St} {M : Option Addr} {cM : Nat} (h : AgAt w b s M cM) (x : List Int) (hx : x.length = 16) : AgAt (w.setCells b 4 (ints x)) b { s with own := { s.own with set := x } } M cM := by
  have hv : ((ints x) : List Value).length = 16 := by rw [len_ints, hx]
  have h1 := len_ints s.own.set
  have h2 := len_ints s.own.vec
  have k1 := h.l1
  have k2 := h.l2
  refine ⟨?_, ?_, ?_, ?_, ?_, ?_, ?_, ?_, ?_, ?_, ?_, ?_, ?_, ?_, ?_, ?_, ?_, ?_, ?_, ?_, ?_, ?_, ?_, ?_, ?_, ?_, ?_, ?_, ?_, hx, h.l2, h.l3, h.l4⟩
  · exact cell_out h.n (by omega)
  · exact cell_out h.self (by omega)
  · exact cell_out h.inc (by omega)
  · exact cell_out h.opn (by omega)
  · exact rng_in h.there (by omega)
  · exact rng_out (cs := ints s.own.vec) h.vec (by omega)
  · exact cell_out h.cid (by omega)
  · exact cell_out h.rev (by omega)
  · exact cell_out h.top (by omega)
  · exact cell_out h.pe (by omega)
  · exact cell_out h.pl (by omega)
  · exact cell_out h.pi (by omega)
  · exact cell_out h.pc (by omega)
  · exact cell_out h.ve (by omega)
  · exact cell_out h.vl (by omega)
  · exact cell_out h.vi (by omega)
  · exact cell_out h.vc (by omega)
  · exact cell_out h.mem (by omega)
  · exact fun q hq => cell_out (h.oinc q hq) (by omega)
  · exact fun q hq => rng_out (cs := ints (s.lt q).w.set) (h.oset q hq) (by have := h.l3 q hq; have := h.l4 q hq; have := len_ints (s.lt q).w.set; have := len_ints (s.lt q).w.vec; omega)
  · exact fun q hq => rng_out (cs := ints (s.lt q).w.vec) (h.ovec q hq) (by have := h.l3 q hq; have := h.l4 q hq; have := len_ints (s.lt q).w.set; have := len_ints (s.lt q).w.vec; omega)
  · exact fun q hq => cell_out (h.ocid q hq) (by omega)
  · exact fun q hq => cell_out (h.orev q hq) (by omega)
  · exact fun q hq => cell_out (h.otop q hq) (by omega)
  · exact fun q hq => cell_out (h.ope q hq) (by omega)
  · exact fun q hq => cell_out (h.opl q hq) (by omega)
  · exact fun q hq => cell_out (h.opi q hq) (by omega)
  · exact fun q hq => cell_out (h.opc q hq) (by omega)
  · exact World.there_setCells h.there b _ _
theorem AgAt.setVec {w : World} {b : Nat} {s : St} {M : Option Addr} {cM : Nat} (h : AgAt w b s M cM) (x : List Int) (hx : x.length = 16) : AgAt (w.setCells b 20 (ints x)) b { s with own := { s.own with vec := x } } M cM := by
  have hv : ((ints x) : List Value).length = 16 := by rw [len_ints, hx]
  have h1 := len_ints s.own.set
  have h2 := len_ints s.own.vec
  have k1 := h.l1
  have k2 := h.l2
  refine ⟨?_, ?_, ?_, ?_, ?_, ?_, ?_, ?_, ?_, ?_, ?_, ?_, ?_, ?_, ?_, ?_, ?_, ?_, ?_, ?_, ?_, ?_, ?_, ?_, ?_, ?_, ?_, ?_, ?_, h.l1, hx, h.l3, h.l4⟩
  · exact cell_out h.n (by omega)
  · exact cell_out h.self (by omega)
  · exact cell_out h.inc (by omega)
  · exact cell_out h.opn (by omega)
  · exact rng_out (cs := ints s.own.set) h.set (by omega)
  · exact rng_in h.there (by omega)
  · exact cell_out h.cid (by omega)
  · exact cell_out h.rev (by omega)
  · exact cell_out h.top (by omega)
  · exact cell_out h.pe (by omega)
  · exact cell_out h.pl (by omega)
  · exact cell_out h.pi (by omega)
  · exact cell_out h.pc (by omega)
  · exact cell_out h.ve (by omega)
  · exact cell_out h.vl (by omega)
  · exact cell_out h.vi (by omega)
  · exact cell_out h.vc (by omega)
  · exact cell_out h.mem (by omega)
  · exact fun q hq => cell_out (h.oinc q hq) (by omega)
  · exact fun q hq => rng_out (cs := ints (s.lt q).w.set) (h.oset q hq) (by have := h.l3 q hq; have := h.l4 q hq; have := len_ints (s.lt q).w.set; have := len_ints (s.lt q).w.vec; omega)
  · exact fun q hq => rng_out (cs := ints (s.lt q).w.vec) (h.ovec q hq) (by have := h.l3 q hq; have := h.l4 q hq; have := len_ints (s.lt q).w.set; have := len_ints (s.lt q).w.vec; omega)
  · exact fun q hq => cell_out (h.ocid q hq) (by omega)
  · exact fun q hq => cell_out (h.orev q hq) (by omega)
  · exact fun q hq => cell_out (h.otop q hq) (by omega)
  · exact fun q hq => cell_out (h.ope q hq) (by omega)
  · exact fun q hq => cell_out (h.opl q hq) (by omega)
  · exact fun q hq => cell_out (h.opi q hq) (by omega)
  · exact fun q hq => cell_out (h.opc q hq) (by omega)
  · exact World.there_setCells h.there b _ _
theorem AgAt.setCid {w : World} {b : Nat} {s : St} {M : Option Addr} {cM : Nat} (h : AgAt w b s M cM) (x : Int) : AgAt (w.setCell ⟨b, 36, none⟩ (.int .i64 x)) b { s with own := { s.own with cid := x } } M cM := by
  show AgAt (w.setCells b 36 [(.int .i64 x)]) _ _ _ _
  have hv : ([(.int .i64 x)] : List Value).length = 1 := rfl
  have h1 := len_ints s.own.set
  have h2 := len_ints s.own.vec
  have k1 := h.l1
  have k2 := h.l2
  refine ⟨?_, ?_, ?_, ?_, ?_, ?_, ?_, ?_, ?_, ?_, ?_, ?_, ?_, ?_, ?_, ?_, ?_, ?_, ?_, ?_, ?_, ?_, ?_, ?_, ?_, ?_, ?_, ?_, ?_, h.l1, h.l2, h.l3, h.l4⟩
  · exact cell_out h.n (by omega)
  · exact cell_out h.self (by omega)
  · exact cell_out h.inc (by omega)
  · exact cell_out h.opn (by omega)
  · exact rng_out (cs := ints s.own.set) h.set (by omega)
  · exact rng_out (cs := ints s.own.vec) h.vec (by omega)
  · exact cell_in (i := 0) h.there (by omega) rfl
  · exact cell_out h.rev (by omega)
  · exact cell_out h.top (by omega)
  · exact cell_out h.pe (by omega)
  · exact cell_out h.pl (by omega)
  · exact cell_out h.pi (by omega)
  · exact cell_out h.pc (by omega)
  · exact cell_out h.ve (by omega)
  · exact cell_out h.vl (by omega)
  · exact cell_out h.vi (by omega)
  · exact cell_out h.vc (by omega)
  · exact cell_out h.mem (by omega)
  · exact fun q hq => cell_out (h.oinc q hq) (by omega)
  · exact fun q hq => rng_out (cs := ints (s.lt q).w.set) (h.oset q hq) (by have := h.l3 q hq; have := h.l4 q hq; have := len_ints (s.lt q).w.set; have := len_ints (s.lt q).w.vec; omega)
  · exact fun q hq => rng_out (cs := ints (s.lt q).w.vec) (h.ovec q hq) (by have := h.l3 q hq; have := h.l4 q hq; have := len_ints (s.lt q).w.set; have := len_ints (s.lt q).w.vec; omega)
  · exact fun q hq => cell_out (h.ocid q hq) (by omega)
  · exact fun q hq => cell_out (h.orev q hq) (by omega)
  · exact fun q hq => cell_out (h.otop q hq) (by omega)
  · exact fun q hq => cell_out (h.ope q hq) (by omega)
  · exact fun q hq => cell_out (h.opl q hq) (by omega)
  · exact fun q hq => cell_out (h.opi q hq) (by omega)
  · exact fun q hq => cell_out (h.opc q hq) (by omega)
  · exact World.there_setCells h.there b _ _
theorem AgAt.setRev {w : World} {b : Nat} {s : St} {M : Option Addr} {cM : Nat} (h : AgAt w b s M cM) (x : Int) : AgAt (w.setCell ⟨b, 37, none⟩ (.int .i64 x)) b { s with own := { s.own with rev := x } } M cM := by
  show AgAt (w.setCells b 37 [(.int .i64 x)]) _ _ _ _
  have hv : ([(.int .i64 x)] : List Value).length = 1 := rfl
  have h1 := len_ints s.own.set
  have h2 := len_ints s.own.vec
  have k1 := h.l1
  have k2 := h.l2
  refine ⟨?_, ?_, ?_, ?_, ?_, ?_, ?_, ?_, ?_, ?_, ?_, ?_, ?_, ?_, ?_, ?_, ?_, ?_, ?_, ?_, ?_, ?_, ?_, ?_, ?_, ?_, ?_, ?_, ?_, h.l1, h.l2, h.l3, h.l4⟩
  · exact cell_out h.n (by omega)
  · exact cell_out h.self (by omega)
  · exact cell_out h.inc (by omega)
  · exact cell_out h.opn (by omega)
  · exact rng_out (cs := ints s.own.set) h.set (by omega)
  · exact rng_out (cs := ints s.own.vec) h.vec (by omega)
  · exact cell_out h.cid (by omega)
  · exact cell_in (i := 0) h.there (by omega) rfl
  · exact cell_out h.top (by omega)
  · exact cell_out h.pe (by omega)
  · exact cell_out h.pl (by omega)
  · exact cell_out h.pi (by omega)
  · exact cell_out h.pc (by omega)
  · exact cell_out h.ve (by omega)
  · exact cell_out h.vl (by omega)
  · exact cell_out h.vi (by omega)
  · exact cell_out h.vc (by omega)
  · exact cell_out h.mem (by omega)
  · exact fun q hq => cell_out (h.oinc q hq) (by omega)
  · exact fun q hq => rng_out (cs := ints (s.lt q).w.set) (h.oset q hq) (by have := h.l3 q hq; have := h.l4 q hq; have := len_ints (s.lt q).w.set; have := len_ints (s.lt q).w.vec; omega)
  · exact fun q hq => rng_out (cs := ints (s.lt q).w.vec) (h.ovec q hq) (by have := h.l3 q hq; have := h.l4 q hq; have := len_ints (s.lt q).w.set; have := len_ints (s.lt q).w.vec; omega)
  · exact fun q hq => cell_out (h.ocid q hq) (by omega)
  · exact fun q hq => cell_out (h.orev q hq) (by omega)
  · exact fun q hq => cell_out (h.otop q hq) (by omega)
  · exact fun q hq => cell_out (h.ope q hq) (by omega)
  · exact fun q hq => cell_out (h.opl q hq) (by omega)
  · exact fun q hq => cell_out (h.opi q hq) (by omega)
  · exact fun q hq => cell_out (h.opc q hq) (by omega)
  · exact World.there_setCells h.there b _ _
theorem AgAt.setTop {w : World} {b : Nat} {s : St} {M : Option Addr} {cM : Nat} (h : AgAt w b s M cM) (x : Int) : AgAt (w.setCell ⟨b, 38, none⟩ (.int .i64 x)) b { s with own := { s.own with top := x } } M cM := by
  show AgAt (w.setCells b 38 [(.int .i64 x)]) _ _ _ _
  have hv : ([(.int .i64 x)] : List Value).length = 1 := rfl
  have h1 := len_ints s.own.set
  have h2 := len_ints s.own.vec
  have k1 := h.l1
  have k2 := h.l2
  refine ⟨?_, ?_, ?_, ?_, ?_, ?_, ?_, ?_, ?_, ?_, ?_, ?_, ?_, ?_, ?_, ?_, ?_, ?_, ?_, ?_, ?_, ?_, ?_, ?_, ?_, ?_, ?_, ?_, ?_, h.l1, h.l2, h.l3, h.l4⟩
  · exact cell_out h.n (by omega)
  · exact cell_out h.self (by omega)
  · exact cell_out h.inc (by omega)
  · exact cell_out h.opn (by omega)
  · exact rng_out (cs := ints s.own.set) h.set (by omega)
  · exact rng_out (cs := ints s.own.vec) h.vec (by omega)
  · exact cell_out h.cid (by omega)
  · exact cell_out h.rev (by omega)
  · exact cell_in (i := 0) h.there (by omega) rfl
  · exact cell_out h.pe (by omega)
  · exact cell_out h.pl (by omega)
  · exact cell_out h.pi (by omega)
  · exact cell_out h.pc (by omega)
  · exact cell_out h.ve (by omega)
  · exact cell_out h.vl (by omega)
  · exact cell_out h.vi (by omega)
  · exact cell_out h.vc (by omega)
  · exact cell_out h.mem (by omega)
  · exact fun q hq => cell_out (h.oinc q hq) (by omega)
  · exact fun q hq => rng_out (cs := ints (s.lt q).w.set) (h.oset q hq) (by have := h.l3 q hq; have := h.l4 q hq; have := len_ints (s.lt q).w.set; have := len_ints (s.lt q).w.vec; omega)
  · exact fun q hq => rng_out (cs := ints (s.lt q).w.vec) (h.ovec q hq) (by have := h.l3 q hq; have := h.l4 q hq; have := len_ints (s.lt q).w.set; have := len_ints (s.lt q).w.vec; omega)
  · exact fun q hq => cell_out (h.ocid q hq) (by omega)
  · exact fun q hq => cell_out (h.orev q hq) (by omega)
  · exact fun q hq => cell_out (h.otop q hq) (by omega)
  · exact fun q hq => cell_out (h.ope q hq) (by omega)
  · exact fun q hq => cell_out (h.opl q hq) (by omega)
  · exact fun q hq => cell_out (h.opi q hq) (by omega)
  · exact fun q hq => cell_out (h.opc q hq) (by omega)
  · exact World.there_setCells h.there b _ _
theorem AgAt.setOpn {w : World} {b : Nat} {s : St} {M : Option Addr} {cM : Nat} (h : AgAt w b s M cM) (x : Bool) : AgAt (w.setCell ⟨b, 3, none⟩ (.bool x)) b { s with opn := x } M cM := by
  show AgAt (w.setCells b 3 [(.bool x)]) _ _ _ _
  have hv : ([(.bool x)] : List Value).length = 1 := rfl
  have h1 := len_ints s.own.set
  have h2 := len_ints s.own.vec
  have k1 := h.l1
  have k2 := h.l2
  refine ⟨?_, ?_, ?_, ?_, ?_, ?_, ?_, ?_, ?_, ?_, ?_, ?_, ?_, ?_, ?_, ?_, ?_, ?_, ?_, ?_, ?_, ?_, ?_, ?_, ?_, ?_, ?_, ?_, ?_, h.l1, h.l2, h.l3, h.l4⟩
  · exact cell_out h.n (by omega)
  · exact cell_out h.self (by omega)
  · exact cell_out h.inc (by omega)
  · exact cell_in (i := 0) h.there (by omega) rfl
  · exact rng_out (cs := ints s.own.set) h.set (by omega)
  · exact rng_out (cs := ints s.own.vec) h.vec (by omega)
  · exact cell_out h.cid (by omega)
  · exact cell_out h.rev (by omega)
  · exact cell_out h.top (by omega)
  · exact cell_out h.pe (by omega)
  · exact cell_out h.pl (by omega)
  · exact cell_out h.pi (by omega)
  · exact cell_out h.pc (by omega)
  · exact cell_out h.ve (by omega)
  · exact cell_out h.vl (by omega)
  · exact cell_out h.vi (by omega)
  · exact cell_out h.vc (by omega)
  · exact cell_out h.mem (by omega)
  · exact fun q hq => cell_out (h.oinc q hq) (by omega)
  · exact fun q hq => rng_out (cs := ints (s.lt q).w.set) (h.oset q hq) (by have := h.l3 q hq; have := h.l4 q hq; have := len_ints (s.lt q).w.set; have := len_ints (s.lt q).w.vec; omega)
  · exact fun q hq => rng_out (cs := ints (s.lt q).w.vec) (h.ovec q hq) (by have := h.l3 q hq; have := h.l4 q hq; have := len_ints (s.lt q).w.set; have := len_ints (s.lt q).w.vec; omega)
  · exact fun q hq => cell_out (h.ocid q hq) (by omega)
  · exact fun q hq => cell_out (h.orev q hq) (by omega)
  · exact fun q hq => cell_out (h.otop q hq) (by omega)
  · exact fun q hq => cell_out (h.ope q hq) (by omega)
  · exact fun q hq => cell_out (h.opl q hq) (by omega)
  · exact fun q hq => cell_out (h.opi q hq) (by omega)
  · exact fun q hq => cell_out (h.opc q hq) (by omega)
  · exact World.there_setCells h.there b _ _
theorem AgAt.setPrev {w : World} {b : Nat} {s : St} {M : Option Addr} {cM : Nat} (h : AgAt w b s M cM) (x : Vid) : AgAt (w.setCells b 39 [.int .i64 x.e, .int .i64 x.l, .int .i64 x.i, .int .i64 x.c]) b { s with own := { s.own with prev := x } } M cM := by
  have hv : ([.int .i64 x.e, .int .i64 x.l, .int .i64 x.i, .int .i64 x.c] : List Value).length = 4 := rfl
  have h1 := len_ints s.own.set
  have h2 := len_ints s.own.vec
  have k1 := h.l1
  have k2 := h.l2
  refine ⟨?_, ?_, ?_, ?_, ?_, ?_, ?_, ?_, ?_, ?_, ?_, ?_, ?_, ?_, ?_, ?_, ?_, ?_, ?_, ?_, ?_, ?_, ?_, ?_, ?_, ?_, ?_, ?_, ?_, h.l1, h.l2, h.l3, h.l4⟩
  · exact cell_out h.n (by omega)
  · exact cell_out h.self (by omega)
  · exact cell_out h.inc (by omega)
  · exact cell_out h.opn (by omega)
  · exact rng_out (cs := ints s.own.set) h.set (by omega)
  · exact rng_out (cs := ints s.own.vec) h.vec (by omega)
  · exact cell_out h.cid (by omega)
  · exact cell_out h.rev (by omega)
  · exact cell_out h.top (by omega)
  · exact cell_in (i := 0) h.there (by omega) rfl
  · exact cell_in (i := 1) h.there (by omega) rfl
  · exact cell_in (i := 2) h.there (by omega) rfl
  · exact cell_in (i := 3) h.there (by omega) rfl
  · exact cell_out h.ve (by omega)
  · exact cell_out h.vl (by omega)
  · exact cell_out h.vi (by omega)
  · exact cell_out h.vc (by omega)
  · exact cell_out h.mem (by omega)
  · exact fun q hq => cell_out (h.oinc q hq) (by omega)
  · exact fun q hq => rng_out (cs := ints (s.lt q).w.set) (h.oset q hq) (by have := h.l3 q hq; have := h.l4 q hq; have := len_ints (s.lt q).w.set; have := len_ints (s.lt q).w.vec; omega)
  · exact fun q hq => rng_out (cs := ints (s.lt q).w.vec) (h.ovec q hq) (by have := h.l3 q hq; have := h.l4 q hq; have := len_ints (s.lt q).w.set; have := len_ints (s.lt q).w.vec; omega)
  · exact fun q hq => cell_out (h.ocid q hq) (by omega)
  · exact fun q hq => cell_out (h.orev q hq) (by omega)
  · exact fun q hq => cell_out (h.otop q hq) (by omega)
  · exact fun q hq => cell_out (h.ope q hq) (by omega)
  · exact fun q hq => cell_out (h.opl q hq) (by omega)
  · exact fun q hq => cell_out (h.opi q hq) (by omega)
  · exact fun q hq => cell_out (h.opc q hq) (by omega)
  · exact World.there_setCells h.there b _ _
theorem AgAt.setView {w : World} {b : Nat} {s : St} {M : Option Addr} {cM : Nat} (h : AgAt w b s M cM) (x : Vid) (ms : List Mb) (M' : Option Addr) (cM' : Nat) : AgAt (w.setCells b 683 [.int .i64 x.e, .int .i64 x.l, .int .i64 x.i, .int .i64 x.c, .slice M' ms.length cM']) b { s with vid := x, mem := ms } M' cM' := by
  have hv : ([.int .i64 x.e, .int .i64 x.l, .int .i64 x.i, .int .i64 x.c, .slice M' ms.length cM'] : List Value).length = 5 := rfl
  have h1 := len_ints s.own.set
  have h2 := len_ints s.own.vec
  have k1 := h.l1
  have k2 := h.l2
  refine ⟨?_, ?_, ?_, ?_, ?_, ?_, ?_, ?_, ?_, ?_, ?_, ?_, ?_, ?_, ?_, ?_, ?_, ?_, ?_, ?_, ?_, ?_, ?_, ?_, ?_, ?_, ?_, ?_, ?_, h.l1, h.l2, h.l3, h.l4⟩
  · exact cell_out h.n (by omega)
  · exact cell_out h.self (by omega)
  · exact cell_out h.inc (by omega)
  · exact cell_out h.opn (by omega)
  · exact rng_out (cs := ints s.own.set) h.set (by omega)
  · exact rng_out (cs := ints s.own.vec) h.vec (by omega)
  · exact cell_out h.cid (by omega)
  · exact cell_out h.rev (by omega)
  · exact cell_out h.top (by omega)
  · exact cell_out h.pe (by omega)
  · exact cell_out h.pl (by omega)
  · exact cell_out h.pi (by omega)
  · exact cell_out h.pc (by omega)
  · exact cell_in (i := 0) h.there (by omega) rfl
  · exact cell_in (i := 1) h.there (by omega) rfl
  · exact cell_in (i := 2) h.there (by omega) rfl
  · exact cell_in (i := 3) h.there (by omega) rfl
  · exact cell_in (i := 4) h.there (by omega) rfl
  · exact fun q hq => cell_out (h.oinc q hq) (by omega)
  · exact fun q hq => rng_out (cs := ints (s.lt q).w.set) (h.oset q hq) (by have := h.l3 q hq; have := h.l4 q hq; have := len_ints (s.lt q).w.set; have := len_ints (s.lt q).w.vec; omega)
  · exact fun q hq => rng_out (cs := ints (s.lt q).w.vec) (h.ovec q hq) (by have := h.l3 q hq; have := h.l4 q hq; have := len_ints (s.lt q).w.set; have := len_ints (s.lt q).w.vec; omega)
  · exact fun q hq => cell_out (h.ocid q hq) (by omega)
  · exact fun q hq => cell_out (h.orev q hq) (by omega)
  · exact fun q hq => cell_out (h.otop q hq) (by omega)
  · exact fun q hq => cell_out (h.ope q hq) (by omega)
  · exact fun q hq => cell_out (h.opl q hq) (by omega)
  · exact fun q hq => cell_out (h.opi q hq) (by omega)
  · exact fun q hq => cell_out (h.opc q hq) (by omega)
  · exact World.there_setCells h.there b _ _
abbrev ltL (t : Lt) : List Value := (.int .i64 t.inc :: (ints t.w.set ++ (ints t.w.vec ++ [.int .i64 t.w.cid, .int .i64 t.w.rev, .int .i64 t.w.top, .int .i64 t.w.prev.e, .int .i64 t.w.prev.l, .int .i64 t.w.prev.i, .int .i64 t.w.prev.c])))
abbrev wishL (t : Wish) : List Value := ints t.set ++ (ints t.vec ++ [.int .i64 t.cid, .int .i64 t.rev, .int .i64 t.top, .int .i64 t.prev.e, .int .i64 t.prev.l, .int .i64 t.prev.i, .int .i64 t.prev.c])
theorem rng_app {w : World} {b o n : Nat} {xs ys : List Value} (h1 : w.rangeAt b o xs) (hn : xs.length = n) (h2 : w.rangeAt b (o + n) ys) : w.rangeAt b o (xs ++ ys) := fun j u hu => by
  by_cases hj : j < xs.length
  · rw [List.getElem?_append_left hj] at hu; exact h1 j u hu
  · rw [List.getElem?_append_right (by omega)] at hu
    have := h2 _ u hu
    rw [show o + n + (j - xs.length) = o + j by omega] at this; exact this
theorem rng_left {w : World} {b o : Nat} {xs ys : List Value} (h : w.rangeAt b o (xs ++ ys)) : w.rangeAt b o xs := fun j u hu => h j u (by rw [List.getElem?_append_left (List.getElem?_eq_some_iff.1 hu).1]; exact hu)
theorem rng_right {w : World} {b o n : Nat} {xs ys : List Value} (h : w.rangeAt b o (xs ++ ys)) (hn : xs.length = n) : w.rangeAt b (o + n) ys := fun j u hu => by
  have := h (n + j) u (by rw [List.getElem?_append_right (by omega), hn, Nat.add_sub_cancel_left]; exact hu)
  rwa [← Nat.add_assoc] at this
theorem rng_cons {w : World} {b o : Nat} {v : Value} {xs : List Value} : w.rangeAt b o (v :: xs) ↔ w.cell? ⟨b, o, none⟩ = some v ∧ w.rangeAt b (o + 1) xs := by
  constructor
  · intro h
    exact ⟨h 0 v rfl, fun j u hu => by have := h (j + 1) u hu; rwa [show o + (j + 1) = o + 1 + j by omega] at this⟩
  · rintro ⟨h1, h2⟩ j u hu
    cases j with
    | zero => cases hu; exact h1
    | succ j => have := h2 j u hu; rwa [show o + 1 + j = o + (j + 1) by omega] at this
theorem rng_nil {w : World} {b o : Nat} : w.rangeAt b o [] := fun j u hu => by cases hu
theorem len_wishL {t : Wish} (h1 : t.set.length = 16) (h2 : t.vec.length = 16) : (wishL t).length = 39 := by
  simp only [wishL, List.length_append, len_ints, h1, h2]; rfl
theorem len_ltL {t : Lt} (h1 : t.w.set.length = 16) (h2 : t.w.vec.length = 16) : (ltL t).length = 40 := by
  have := len_wishL h1 h2; simp only [ltL, List.length_cons]; simp only [wishL] at this; omega
theorem wish_parts {w : World} {b o : Nat} {t : Wish} (h1 : t.set.length = 16) (h2 : t.vec.length = 16) : w.rangeAt b o (wishL t) ↔
    w.rangeAt b o (ints t.set) ∧ w.rangeAt b (o + 16) (ints t.vec) ∧ w.cell? ⟨b, o + 32, none⟩ = some (.int .i64 t.cid) ∧ w.cell? ⟨b, o + 33, none⟩ = some (.int .i64 t.rev) ∧ w.cell? ⟨b, o + 34, none⟩ = some (.int .i64 t.top) ∧
      w.cell? ⟨b, o + 35, none⟩ = some (.int .i64 t.prev.e) ∧ w.cell? ⟨b, o + 36, none⟩ = some (.int .i64 t.prev.l) ∧ w.cell? ⟨b, o + 37, none⟩ = some (.int .i64 t.prev.i) ∧ w.cell? ⟨b, o + 38, none⟩ = some (.int .i64 t.prev.c) := by
  constructor
  · intro h
    have a := rng_left h
    have r := rng_right h (by rw [len_ints, h1])
    have c := rng_left r
    have d := rng_right r (by rw [len_ints, h2])
    simp only [rng_cons, Nat.add_assoc] at d
    exact ⟨a, c, d.1, d.2.1, d.2.2.1, d.2.2.2.1, d.2.2.2.2.1, d.2.2.2.2.2.1, d.2.2.2.2.2.2.1⟩
  · rintro ⟨a, c, d1, d2, d3, d4, d5, d6, d7⟩
    refine rng_app a (by rw [len_ints, h1]) (rng_app c (by rw [len_ints, h2]) ?_)
    simp only [rng_cons, Nat.add_assoc]
    exact ⟨d1, d2, d3, d4, d5, d6, d7, rng_nil⟩
theorem lt_parts {w : World} {b o : Nat} {t : Lt} : w.rangeAt b o (ltL t) ↔ w.cell? ⟨b, o, none⟩ = some (.int .i64 t.inc) ∧ w.rangeAt b (o + 1) (wishL t.w) := rng_cons
theorem AgAt.wish {w : World} {b : Nat} {s : St} {M : Option Addr} {cM : Nat} (h : AgAt w b s M cM) : w.rangeAt b 4 (wishL s.own) :=
  (wish_parts h.l1 h.l2).2 ⟨h.set, h.vec, h.cid, h.rev, h.top, h.pe, h.pl, h.pi, h.pc⟩
theorem AgAt.other {w : World} {b : Nat} {s : St} {M : Option Addr} {cM : Nat} (h : AgAt w b s M cM) {q : Nat} (hq : q < 16) : w.rangeAt b (43 + q * 40) (ltL (s.lt q)) := by
  refine lt_parts.2 ⟨h.oinc q hq, (wish_parts (h.l3 q hq) (h.l4 q hq)).2 ⟨h.oset q hq, ?_, ?_, ?_, ?_, ?_, ?_, ?_, ?_⟩⟩
  · exact h.ovec q hq
  · exact h.ocid q hq
  · exact h.orev q hq
  · exact h.otop q hq
  · exact h.ope q hq
  · exact h.opl q hq
  · exact h.opi q hq
  · exact h.opc q hq
theorem AgAt.setLt {w : World} {b : Nat} {s : St} {M : Option Addr} {cM : Nat} (h : AgAt w b s M cM) (p : Nat) (hp : p < 16) (ho : s.oth.length = 16) (t : Lt) (t1 : t.w.set.length = 16) (t2 : t.w.vec.length = 16) : AgAt (w.setCells b (43 + p * 40) (ltL t)) b (s.put p t.inc t.w) M cM := by
  have hv : (ltL t).length = 40 := len_ltL t1 t2
  have h1 := len_ints s.own.set
  have h2 := len_ints s.own.vec
  have k1 := h.l1
  have k2 := h.l2
  have hin : (w.setCells b (43 + p * 40) (ltL t)).rangeAt b (43 + p * 40) (ltL t) := rng_in h.there (by omega)
  obtain ⟨i1, i2⟩ := lt_parts.1 hin
  obtain ⟨i3, i4, i5, i6, i7, i8, i9, i10, i11⟩ := (wish_parts t1 t2).1 i2
  have e1 : (s.put p t.inc t.w).lt p = t := lt_put_same (by omega)
  have hne : ∀ q, q ≠ p → (s.put p t.inc t.w).lt q = s.lt q := fun q hq => lt_put_ne (fun e => hq e.symm)
  refine ⟨?_, ?_, ?_, ?_, ?_, ?_, ?_, ?_, ?_, ?_, ?_, ?_, ?_, ?_, ?_, ?_, ?_, ?_, ?_, ?_, ?_, ?_, ?_, ?_, ?_, ?_, ?_, ?_, ?_, h.l1, h.l2, ?_, ?_⟩
  · exact cell_out h.n (by omega)
  · exact cell_out h.self (by omega)
  · exact cell_out h.inc (by omega)
  · exact cell_out h.opn (by omega)
  · exact rng_out (cs := ints s.own.set) h.set (by omega)
  · exact rng_out (cs := ints s.own.vec) h.vec (by omega)
  · exact cell_out h.cid (by omega)
  · exact cell_out h.rev (by omega)
  · exact cell_out h.top (by omega)
  · exact cell_out h.pe (by omega)
  · exact cell_out h.pl (by omega)
  · exact cell_out h.pi (by omega)
  · exact cell_out h.pc (by omega)
  · exact cell_out h.ve (by omega)
  · exact cell_out h.vl (by omega)
  · exact cell_out h.vi (by omega)
  · exact cell_out h.vc (by omega)
  · exact cell_out h.mem (by omega)
  · intro q hq
    by_cases e : q = p
    · subst e; rw [e1]; exact i1
    · rw [hne q e]; exact cell_out (h.oinc q hq) (by omega)
  · intro q hq
    by_cases e : q = p
    · subst e; rw [e1]; exact i3
    · rw [hne q e]; exact rng_out (cs := ints (s.lt q).w.set) (h.oset q hq) (by have := h.l3 q hq; have := h.l4 q hq; have := len_ints (s.lt q).w.set; have := len_ints (s.lt q).w.vec; omega)
  · intro q hq
    by_cases e : q = p
    · subst e; rw [e1]; exact i4
    · rw [hne q e]; exact rng_out (cs := ints (s.lt q).w.vec) (h.ovec q hq) (by have := h.l3 q hq; have := h.l4 q hq; have := len_ints (s.lt q).w.set; have := len_ints (s.lt q).w.vec; omega)
  · intro q hq
    by_cases e : q = p
    · subst e; rw [e1]; exact i5
    · rw [hne q e]; exact cell_out (h.ocid q hq) (by omega)
  · intro q hq
    by_cases e : q = p
    · subst e; rw [e1]; exact i6
    · rw [hne q e]; exact cell_out (h.orev q hq) (by omega)
  · intro q hq
    by_cases e : q = p
    · subst e; rw [e1]; exact i7
    · rw [hne q e]; exact cell_out (h.otop q hq) (by omega)
  · intro q hq
    by_cases e : q = p
    · subst e; rw [e1]; exact i8
    · rw [hne q e]; exact cell_out (h.ope q hq) (by omega)
  · intro q hq
    by_cases e : q = p
    · subst e; rw [e1]; exact i9
    · rw [hne q e]; exact cell_out (h.opl q hq) (by omega)
  · intro q hq
    by_cases e : q = p
    · subst e; rw [e1]; exact i10
    · rw [hne q e]; exact cell_out (h.opi q hq) (by omega)
  · intro q hq
    by_cases e : q = p
    · subst e; rw [e1]; exact i11
    · rw [hne q e]; exact cell_out (h.opc q hq) (by omega)
  · exact World.there_setCells h.there b _ _
  · intro q hq
    by_cases e : q = p
    · subst e; rw [e1]; exact t1
    · rw [hne q e]; exact h.l3 q hq
  · intro q hq
    by_cases e : q = p
    · subst e; rw [e1]; exact t2
    · rw [hne q e]; exact h.l4 q hq
end Go.Proofs.Ytfbeggdbjpmppaa
namespace Go.Proofs.Ytfbeggdbjpmppaa
open Go.RowKit
section
variable {fn : Func} {P : Program} {w : World} {tmps : Array Value} {p q u : Tmp} {ty tz : TypeId} {a b : Addr} {v x : Value}
theorem run_asAddr (w : World) (P : Program) (a : Addr) : (asAddr (.pointer (some a))).run P w = .ok a w := rfl
theorem res_cell_tmp (h : fn.results = #[.cell p ty, .tmp u]) (ha : tmps.getD p undef = .pointer (some a)) (hv : (loadVar ty a).run P w = .ok v w) : (results fn tmps).run P w = .ok (.tuple #[v, tmps.getD u undef]) w := by
  rw [results_cell_tmp h, ha, run_asAddr]
  simp only [Result.andThen_ok, hv]
theorem res_cell (h : fn.results = #[.cell p ty]) (ha : tmps.getD p undef = .pointer (some a)) (hv : (loadVar ty a).run P w = .ok v w) : (results fn tmps).run P w = .ok v w := by
  simp only [results, h]
  have ha' : tmps[p]?.getD undef = .pointer (some a) := by simpa using ha
  simp [Sem.run_bind, ha', run_asAddr, hv]
theorem res_cell_tmp_tmp {u' : Tmp} (h : fn.results = #[.cell p ty, .tmp u, .tmp u']) (ha : tmps.getD p undef = .pointer (some a)) (hv : (loadVar ty a).run P w = .ok v w) : (results fn tmps).run P w = .ok (.tuple #[v, tmps.getD u undef, tmps.getD u' undef]) w := by
  simp only [results, h]
  have ha' : tmps[p]?.getD undef = .pointer (some a) := by simpa using ha
  simp [Sem.run_bind, ha', run_asAddr, hv]
end
end Go.Proofs.Ytfbeggdbjpmppaa
namespace Go.Proofs.Ytfbeggdbjpmppaa
open Go.RowKit
theorem wpQuiet_load94 {ops : Array Oper} {w : World} {Q : Act → Prop} {a : Act} {o : Oper} {rest : List Oper} (hw : Region.wanted o (yielded ops a.tmps) = true) (x : Operand) (ho : o.op = .load 94 x) (b off : Nat)
    (hx : a.eval x = .pointer (some ⟨b, off, none⟩)) (l : List Int) (hc : w.rangeAt b off (ints l)) (hl : l.length = 16)
    (h : wpQuiet Try.prog ops (fun w' => ∃ n, w' = w.drewN n) Q rest (a.put o.dst (.agg (arr l)))) : wpQuiet Try.prog ops (fun w' => ∃ n, w' = w.drewN n) Q (o :: rest) a := by
  refine wpQuiet_step fun K hK => ?_
  rw [if_pos hw]
  refine ⟨.agg (arr l), ?_, hK _ h⟩
  rintro w' ⟨n, rfl⟩
  unfold Oper.quietAt execOp
  have hr : (loadVar 94 ⟨b, off, none⟩).run Try.prog (w.drewN n) = .ok (.agg (arr l)) (w.drewN n) := run_loadVar_arr (w.drewN n) b off l (fun j u hu => hc j u hu) hl
  simp only [ho, hx, Instr.loadAt, Instr.sureAddr, Sem.run_bind, Sem.run_pure, Result.andThen_ok, hr]
  exact ⟨rfl, rfl⟩
theorem wpQuiet_load94c {ops : Array Oper} {C : World → Prop} {Q : Act → Prop} {a : Act} {o : Oper} {rest : List Oper} (hw : Region.wanted o (yielded ops a.tmps) = true) (x : Operand) (ho : o.op = .load 94 x) (b off : Nat)
    (hx : a.eval x = .pointer (some ⟨b, off, none⟩)) (l : List Int) (hc : ∀ w', C w' → w'.rangeAt b off (ints l)) (hl : l.length = 16)
    (h : wpQuiet Try.prog ops C Q rest (a.put o.dst (.agg (arr l)))) : wpQuiet Try.prog ops C Q (o :: rest) a := by
  refine wpQuiet_step fun K hK => ?_
  rw [if_pos hw]
  refine ⟨.agg (arr l), ?_, hK _ h⟩
  intro w' hw'
  unfold Oper.quietAt execOp
  simp only [ho, hx, Instr.loadAt, Instr.sureAddr, Sem.run_bind, Sem.run_pure, Result.andThen_ok, run_loadVar_arr w' b off l (hc w' hw') hl]
  exact ⟨rfl, rfl⟩
end Go.Proofs.Ytfbeggdbjpmppaa
namespace Go.Proofs.Ytfbeggdbjpmppaa
open Go.RowKit
theorem nth_some {l : List Int} {k : Nat} (h : k < l.length) : l[k]? = some (nth l k) := by unfold nth; rw [List.getElem?_eq_getElem h]; rfl
set_option maxRecDepth 100000 in
set_option maxHeartbeats 2000000 in
theorem match_any (b va : Nat) (s : St) (M : Option Addr) (cM q : Nat) (w : World) (h : AgAt w b s M cM) (hq : q < 16) (hv : w.cell? ⟨va, 0, none⟩ = some (.pointer (some ⟨b, 0, none⟩))) :
    Calls Try.prog 68 #[.int .i64 q, .pointer (some ⟨va, 0, none⟩)] w fun x w' => x = .returned (.bool (s.matB q)) ∧ ∃ n, w' = w.drewN n := by
  have c1 := h.oinc q hq
  have c2 := rangeAt_cell h.set (nth_some (k := q) (by rw [h.l1]; exact hq))
  have r1 := Lib.hid (h.oset q hq)
  have r2 := Lib.hid h.set
  have l1 := Lib.hid (h.l3 q hq)
  have l2 := Lib.hid h.l1
  have e1 := fun W : World => run_eql_arr W (s.lt q).w.set s.own.set (h.l3 q hq) h.l1
  have hqI : (q : Int) < 16 := by omega
  clear h
  by_cases h1 : (s.lt q).inc = 0
  · have hb1 : ((s.lt q).inc != 0) = false := by simp [h1]
    have hm := Lib.hid (show s.matB q = false by unfold St.matB; exact decide_eq_false fun x => x.1 h1)
    replace h1 := Lib.hid h1
    clear r1 r2 e1
    go_enter Try.func68, Try.ntmps68
    go_wp2
    go_quiet (fail)
    go_wp2
    go_ret
    exact ⟨ret_bool hm.out.symm, ⟨_, rfl⟩⟩
  · have hb1 : ((s.lt q).inc != 0) = true := by simp [h1]
    by_cases h2 : (s.lt q).inc = nth s.own.set q
    · have hb2 : ((s.lt q).inc == nth s.own.set q) = true := by simp [h2]
      have hm := Lib.hid (show s.matB q = ((s.lt q).w.set == s.own.set) by unfold St.matB; rw [Bool.eq_iff_iff]; simp [h1, h2]; omega)
      replace h1 := Lib.hid h1
      replace h2 := Lib.hid h2
      go_enter Try.func68, Try.ntmps68
      go_wp2
      refine wp_region_quiet_lit (by kernel_rfl) (by kernel_rfl) ?_
      repeat (first
        | (refine wpQuiet_load94 (by rfl) (.tmp 33) rfl b (43 + q * 40 + 1) (by rfl) _ r1.out l1.out ?_; go_simp)
        | (refine wpQuiet_load94 (by rfl) (.tmp 38) rfl b 4 (by rfl) _ r2.out l2.out ?_; go_simp)
        | go_big_quiet_step (fail))
      refine wpQuiet_nil ?_
      intro nq
      go_wp2
      go_ret
      exact ⟨ret_bool hm.out.symm, ⟨_, rfl⟩⟩
    · have hb2 : ((s.lt q).inc == nth s.own.set q) = false := by simp [h2]
      have hm := Lib.hid (show s.matB q = false by unfold St.matB; exact decide_eq_false fun x => h2 x.2.1)
      replace h1 := Lib.hid h1
      replace h2 := Lib.hid h2
      clear r1 r2 e1
      go_enter Try.func68, Try.ntmps68
      go_wp2
      go_quiet (fail)
      go_wp2
      go_ret
      exact ⟨ret_bool hm.out.symm, ⟨_, rfl⟩⟩
end Go.Proofs.Ytfbeggdbjpmppaa
namespace Go.Proofs.Ytfbeggdbjpmppaa
open Go.RowKit
theorem len_heardTo (s : St) (k : Nat) : (s.heardTo k).length = 16 := by simp [St.heardTo]
theorem heardTo_zero {s : St} (h : s.self < 16) : s.heardTo 0 = zeros.set s.self s.own.cid := by
  apply List.ext_getElem?
  intro j
  unfold St.heardTo zeros
  rw [List.getElem?_map]
  by_cases hj : j < 16
  · rw [List.getElem?_range hj]
    by_cases e : j = s.self
    · subst e; rw [List.getElem?_set_self (by simpa using h)]; simp
    · rw [List.getElem?_set_ne (fun e2 => e e2.symm), List.getElem?_replicate, if_pos hj]; simp [e]
  · rw [List.getElem?_eq_none (by simpa using hj), List.getElem?_eq_none (by simp; omega)]; rfl
theorem heardTo_skip {s : St} {k : Nat} (h : k = s.self ∨ s.matB k = false) : s.heardTo (k + 1) = s.heardTo k := by
  unfold St.heardTo
  apply List.map_congr_left
  intro q _
  by_cases e : q = s.self
  · rw [if_pos e, if_pos e]
  · rw [if_neg e, if_neg e]
    by_cases e2 : q = k
    · subst e2
      rcases h with h | h
      · exact absurd h e
      · rw [if_neg (by simp [h]), if_neg (by simp [h])]
    · have : (q < k + 1 ∧ s.matB q = true) ↔ (q < k ∧ s.matB q = true) := by constructor <;> (rintro ⟨a, b⟩; exact ⟨by omega, b⟩)
      simp only [this]
theorem heardTo_set {s : St} {k : Nat} (h1 : k ≠ s.self) (h2 : s.matB k = true) (hk : k < 16) : (s.heardTo k).set k (s.lt k).w.cid = s.heardTo (k + 1) := by
  apply List.ext_getElem?
  intro j
  by_cases e : j = k
  · subst e
    rw [List.getElem?_set_self (by rw [len_heardTo]; exact hk)]
    unfold St.heardTo
    rw [List.getElem?_map, List.getElem?_range hk]
    simp [h1, h2]
  · rw [List.getElem?_set_ne (fun e2 => e e2.symm)]
    unfold St.heardTo
    rw [List.getElem?_map, List.getElem?_map]
    by_cases hj : j < 16
    · rw [List.getElem?_range hj]
      simp only [Option.map_some]
      by_cases hq : j = s.self
      · rw [if_pos hq, if_pos hq]
      · rw [if_neg hq, if_neg hq]
        have : (j < k + 1 ∧ s.matB j = true) ↔ (j < k ∧ s.matB j = true) := by constructor <;> (rintro ⟨a, b⟩; exact ⟨by omega, b⟩)
        simp only [this]
    · rw [List.getElem?_eq_none (by simpa using hj)]; rfl
set_option maxRecDepth 100000 in
set_option maxHeartbeats 4000000 in
theorem heard_any (b : Nat) (s : St) (M : Option Addr) (cM : Nat) (w : World) (h : AgAt w b s M cM) (hb : b < w.heap.size) (hn : s.n ≤ 16) (hs : s.self < s.n) :
    Calls Try.prog 53 #[.pointer (some ⟨b, 0, none⟩)] w fun x w' => x = .returned (.agg (arr s.heard)) ∧ Below w.heap.size w w' := by
  have hmf : ∀ (fn : Fn) (first cap : Array Value) (w : World), (Instr.makeFunc fn first cap).run Try.prog w = .ok (.func fn first cap) w := fun _ _ _ _ => rfl
  have hz0 := len_zeros
  obtain ⟨w1, hw1⟩ : ∃ w1, w1 = w.alloc (.cells #[.pointer (some ⟨b, 0, none⟩)] 48) := ⟨_, rfl⟩
  obtain ⟨w2, hw2⟩ : ∃ w2, w2 = w1.alloc (.cells (arr zeros) 94) := ⟨_, rfl⟩
  obtain ⟨w3, hw3⟩ : ∃ w3, w3 = w2.alloc (.cells (arr zeros) 94) := ⟨_, rfl⟩
  have s1 : w1.heap.size = w.heap.size + 1 := by rw [hw1, World.size_alloc]
  have s2 : w2.heap.size = w.heap.size + 2 := by rw [hw2, World.size_alloc, s1]
  have s3 : w3.heap.size = w.heap.size + 3 := by rw [hw3, World.size_alloc, s2]
  have b01 : Below w.heap.size w w1 := by rw [hw1]; exact below_box1 _ _ _
  have b03 : Below w.heap.size w w3 := by rw [hw3, hw2]; exact ((b01.alloc (by omega) _).alloc (by rw [World.size_alloc]; omega) _)
  have cv : w3.cell? ⟨w.heap.size, 0, none⟩ = some (.pointer (some ⟨b, 0, none⟩)) := by
    rw [hw3, World.cell?_alloc_past _ _ _ (by omega), hw2, World.cell?_alloc_past _ _ _ (by omega), hw1]; exact World.cell?_alloc_at _ _ _ _ rfl
  have rv : w3.rangeAt (w.heap.size + 2) 0 (ints zeros) := by
    have := range_new w2 (arr zeros) 94; rw [← hw3, s2, arr_list] at this; exact this
  have tv : w3.there (w.heap.size + 2) 0 16 := by
    have := there_new w2 (arr zeros) 94; rw [← hw3, s2, size_arr, hz0] at this; exact this
  have tr : w3.there (w.heap.size + 1) 0 16 := by
    have := World.there_alloc (there_new w1 (arr zeros) 94) (.cells (arr zeros) 94); rw [← hw2, ← hw3, s1, size_arr, hz0] at this; exact this
  have h3 : AgAt w3 b s M cM := h.same (b03.block b hb)
  have q0 := h3.self
  have q1 := h3.cid
  have q2 := h3.n
  have hself : (s.self : Int) < 16 := by omega
  have hfs := (tv s.self (by omega)).2
  have hcs := rangeAt_cell rv (nth_some (l := zeros) (k := s.self) (by rw [len_zeros]; omega))
  rw [Nat.zero_add] at hfs hcs
  have rv4 : (w3.setCell ⟨w.heap.size + 2, s.self, none⟩ (.int .i64 s.own.cid)).rangeAt (w.heap.size + 2) 0 (ints (s.heardTo 0)) := by
    have := range_set rv (k := s.self) (by rw [len_zeros]; omega) s.own.cid
    rw [Nat.zero_add] at this; rw [heardTo_zero (by omega)]; exact this
  replace hw1 := Lib.hid hw1
  replace hw2 := Lib.hid hw2
  replace hw3 := Lib.hid hw3
  replace s1 := Lib.hid s1
  replace s2 := Lib.hid s2
  replace s3 := Lib.hid s3
  replace rv := Lib.hid rv
  replace rv4 := Lib.hid rv4
  replace tv := Lib.hid tv
  replace tr := Lib.hid tr
  replace hz0 := Lib.hid hz0
  replace h3 := Lib.hid h3
  replace h := Lib.hid h
  go_enter Try.func53, Try.ntmps53
  go_wp2_with (first | (refine wpList_alloc94 rfl rfl ?_) | fail)
  rw [← hw1.out, ← hw2.out, ← hw3.out]
  rw [s2.out]
  go_simp
  go_still_tail 10, (by kernel_rfl)
  change wpList _ _ _ _ _ w3.drew
  go_wp2
  have s3' := s3.out
  have hb4 : Below (w.heap.size + 1) w1 (w3.setCell ⟨w.heap.size + 2, s.self, none⟩ (.int .i64 s.own.cid)).drew := by
    refine Below.drew (Below.setCell ?_ (by show w.heap.size + 1 ≤ w.heap.size + 2; omega) _)
    rw [hw3.out, hw2.out]
    exact ((Below.refl _ _).alloc (by rw [s1.out]; exact Nat.le_refl _) _).alloc (by rw [World.size_alloc, s1.out]; omega) _
  rw [hw1.out] at hb4
  have tv4 := Lib.hid (there_set tv.out ⟨w.heap.size + 2, s.self, none⟩ (.int .i64 s.own.cid))
  have tr4 := Lib.hid (there_set tr.out ⟨w.heap.size + 2, s.self, none⟩ (.int .i64 s.own.cid))
  replace hb4 := Lib.hid hb4
  clear hfs hcs
  go_loopw [21] (fun k wr => ∃ i : Nat, k = .int .i64 i ∧ i ≤ s.n ∧ wr.rangeAt (w.heap.size + 2) 0 (ints (s.heardTo i)) ∧ wr.there (w.heap.size + 2) 0 16 ∧ wr.there (w.heap.size + 1) 0 16 ∧ Below (w.heap.size + 1) (box1 w #[.pointer (some ⟨b, 0, none⟩)] 48) wr ∧ w.heap.size + 3 ≤ wr.heap.size) (fun k _ => s.n - (intOf k).toNat)
  case atStart => exact ⟨0, rfl, by omega, (World.rangeAt_drew _ _ _ _).2 rv4.out, (World.there_drew _ _ _ _).2 tv4.out, (World.there_drew _ _ _ _).2 tr4.out, hb4.out, by show w.heap.size + 3 ≤ (World.setCell _ _ _).heap.size; rw [World.size_setCell]; omega⟩
  case round =>
    obtain ⟨i, rfl, hi, rr, tt, tq, hbr, hsz⟩ := hrel
    obtain ⟨hb0, hcc, -, -⟩ := box1_facts hbr
    have hA := h.out.same (hb0.block b hb)
    have cv' := hcc 0
    simp at cv'
    have q0 := hA.self
    have q2 := hA.n
    have q3 : ∀ i, i < 16 → wr.cell? ⟨b, 43 + i * 40 + 33, none⟩ = some (.int .i64 (s.lt i).w.cid) := hA.ocid
    replace rr := Lib.hid rr
    replace tt := Lib.hid tt
    replace tq := Lib.hid tq
    replace hA := Lib.hid hA
    clear hcc
    by_cases hlt : i < s.n
    · have hi16 : (i : Int) < 16 := by omega
      by_cases his : i = s.self
      · have hib : ((i : Int) != (s.self : Int)) = false := by simp [his]
        have hsk := Lib.hid (heardTo_skip (s := s) (k := i) (.inl his))
        replace his := Lib.hid his
        clear q3
        go_wp2
        go_roundw
        case rel => go_light; exact ⟨i + 1, by go_num, by omega, by rw [hsk.out]; exact rr.out, tt.out, tq.out, hbr, hsz⟩
        case measure => go_light; simp [intOf]; omega
      · have hib : ((i : Int) != (s.self : Int)) = true := by simp; omega
        cases hm : s.matB i with
        | false =>
          have hsk := Lib.hid (heardTo_skip (s := s) (k := i) (.inr hm))
          replace hm := Lib.hid hm
          replace his := Lib.hid his
          clear q3
          go_wp2_with (go_at_call 68; refine (match_any b w.heap.size s M cM i _ hA.out (by omega) cv').mono ?_; rintro e w5 ⟨rfl, n5, rfl⟩; rw [hm.out])
          go_roundw
          case rel => go_light; exact ⟨i + 1, by go_num, by omega, by rw [hsk.out]; exact rr.out, tt.out, tq.out, below_drewN hbr _, hsz⟩
          case measure => go_light; simp [intOf]; omega
        | true =>
          have hsk := Lib.hid (heardTo_set his hm (by omega))
          have q3i := q3 i (by omega)
          have hci := rangeAt_cell rr.out (nth_some (l := s.heardTo i) (k := i) (by rw [len_heardTo]; omega))
          have hfi := (tt.out i (by omega)).2
          rw [Nat.zero_add] at hci hfi
          have rr' : (wr.setCell ⟨w.heap.size + 2, i, none⟩ (.int .i64 (s.lt i).w.cid)).rangeAt (w.heap.size + 2) 0 (ints (s.heardTo (i + 1))) := by
            have := range_set rr.out (k := i) (by rw [len_heardTo]; omega) (s.lt i).w.cid
            rw [Nat.zero_add, hsk.out] at this; exact this
          have tt' := there_set tt.out ⟨w.heap.size + 2, i, none⟩ (.int .i64 (s.lt i).w.cid)
          have tq' := there_set tq.out ⟨w.heap.size + 2, i, none⟩ (.int .i64 (s.lt i).w.cid)
          have hbr' := hbr.setCell (p := ⟨w.heap.size + 2, i, none⟩) (by show w.heap.size + 1 ≤ w.heap.size + 2; omega) (.int .i64 (s.lt i).w.cid)
          replace rr' := Lib.hid rr'
          replace tt' := Lib.hid tt'
          replace tq' := Lib.hid tq'
          replace hbr' := Lib.hid hbr'
          replace hm := Lib.hid hm
          replace his := Lib.hid his
          clear q3
          go_wp2_with (go_at_call 68; refine (match_any b w.heap.size s M cM i _ hA.out (by omega) cv').mono ?_; rintro e w5 ⟨rfl, n5, rfl⟩; rw [hm.out])
          go_roundw
          case rel => go_light; exact ⟨i + 1, by go_num, by omega, rr'.out, tt'.out, tq'.out, below_drewN hbr'.out _, by show _ ≤ (World.setCell _ _ _).heap.size; rw [World.size_setCell]; exact hsz⟩
          case measure => go_light; simp [intOf]; omega
    · obtain rfl : i = s.n := by omega
      have hlh := Lib.hid (len_heardTo s s.n)
      clear q3
      go_wp2_with (first
        | (refine wpList_load94 rfl (.tmp 4) rfl (w.heap.size + 2) 0 (by rfl) _ rr.out hlh.out ?_)
        | (refine wpList_store94 rfl (.tmp 2) (.tmp 46) rfl (w.heap.size + 1) 0 (by rfl) (s.heardTo s.n) (by rfl) tq.out hlh.out ?_; intro w5 hw5)
        | fail)
      have hr5 : w5.rangeAt (w.heap.size + 1) 0 (ints (s.heardTo s.n)) := by rw [hw5.out]; exact World.rangeAt_setCells_same _ _ _ _ (by rw [len_ints, hlh.out]; exact tq.out)
      have hb5 : Below w.heap.size w w5 := by rw [hw5.out]; exact below_sets hb0 (by omega) _ _ (by omega)
      have hl5 := run_loadVar_arr w5 _ 0 _ hr5 hlh.out
      exact bodyPost_ret (v := .agg (arr (s.heardTo s.n))) (res_cell (p := 2) (ty := 94) rfl rfl hl5) rfl ⟨by rw [heardTo_all], hb5⟩
end Go.Proofs.Ytfbeggdbjpmppaa
