/- OdK OdA OdB OdS, joined. -/
import Derived.Maps.OwnOps
import Derived.DeepKeys4
import Derived.Test.YtoilipfgimcoiaaOe3
set_option linter.unusedVariables false
set_option linter.unusedSimpArgs false
namespace Go.Proofs.Ytoilipfgimcoiaa
open Go Go.RowKit
open Go.Maps (Keyed)
theorem laidOut_ : laidOutB Try.prog = true := by kernel_rfl
theorem keyRow78 : (78 : TypeId) < Try.prog.types.size := of_decide_eq_true (by kernel_rfl)
theorem keyWide78 : (match Try.prog.underlying 78 with | some (.array _ _) | some (.struct _) => true | _ => false) = true := by rw [Try.underlying78]
theorem keyDeep78 : Try.prog.keyTypeAt 2 78 = true := by kernel_rfl
set_option maxRecDepth 100000 in
theorem lawSlot : Maps.Keyed Try.prog 78 := Maps.Keyed.of_law (deep_law_laid laidOut_ (m := 2) (by omega) keyRow78 keyDeep78 keyWide78)
theorem keyType78 : Try.prog.keyType 78 = true := by kernel_rfl
theorem cells78 : Try.prog.cellsOf 78 = 2 := by kernel_rfl
theorem cells3 : Try.prog.cellsOf 3 = 1 := by kernel_rfl
theorem typesPos : 0 < Try.prog.types.size := of_decide_eq_true (by kernel_rfl)
theorem key_two {P : Program} {k e : TypeId} {f0 f1 : Field} (hu : P.underlying k = some (.struct #[f0, f1])) (he : P.underlying e = some (.int .i64)) (hc : P.cellsOf k = 2) (hce : P.cellsOf e = 1) (hk : P.keyType k = true)
    (h0 : f0.type = e) (h1 : f1.type = e) (o0 : f0.offset = 0) (o1 : f1.offset = 1) (n0 : (f0.name != "_") = true) (n1 : (f1.name != "_") = true)
    (a b : Int) (ha : (Lit.int .i64 a).wf = true) (hb : (Lit.int .i64 b).wf = true) (hs : 0 < P.types.size) : ∃ l, keyOf P k (.agg #[.int .i64 a, .int .i64 b]) = some l := by
  obtain ⟨d, hd⟩ : ∃ d, P.types.size = d + 1 := ⟨P.types.size - 1, by omega⟩
  refine ⟨.string (keyBytes [.int .i64 a, .int .i64 b]), ?_⟩
  have hi : ∀ n : Int, (Lit.int .i64 n).wf = true → P.keyLits (d + 1) e [.int .i64 n] = some [.int .i64 n] := fun n hn => by
    unfold Program.keyLits; simp [he, hn]
  have hs2 : P.keyLits (d + 1 + 1) k [.int .i64 a, .int .i64 b] = some [.int .i64 a, .int .i64 b] := by
    unfold Program.keyLits
    simp [hu, hc, h0, h1, o0, o1, hce, hi a ha, hi b hb]
    exact ⟨by simpa using n0, by simpa using n1⟩
  simp [keyOf, hu, hk, Value.formed, hc, Value.cells, hd, hs2]
theorem fields78 : ∃ f0 f1 : Field, Try.prog.underlying 78 = some (.struct #[f0, f1]) ∧ f0.type = 3 ∧ f1.type = 3 ∧ f0.offset = 0 ∧ f1.offset = 1 ∧ (f0.name != "_") = true ∧ (f1.name != "_") = true :=
  ⟨_, _, Try.underlying78, rfl, rfl, rfl, rfl, by decide, by decide⟩
def kSl (x : Sl) : Value := .agg #[.int .i64 x.s, .int .i64 x.q]
theorem key_sl (x : Sl) (h1 : x.s < 4611686018427387905) (h2 : x.q < 4611686018427387905) : ∃ l, keyOf Try.prog 78 (kSl x) = some l := by
  obtain ⟨f0, f1, hu, h0, h1', o0, o1, n0, n1⟩ := fields78
  have wf : ∀ n : Nat, n < 4611686018427387905 → (Lit.int .i64 (n : Int)).wf = true := fun n hn => by
    have e : IntKind.i64.min = -9223372036854775808 := by decide
    simp [Lit.wf, e]; omega
  exact key_two hu Try.underlying3 cells78 cells3 keyType78 h0 h1' o0 o1 n0 n1 x.s x.q (wf _ h1) (wf _ h2) typesPos
structure DtX where
  d : Dt
  A : Option Addr
  c : Nat
abbrev dtA (d : Dt) (A : Option Addr) (c n : Nat) : Array Value := #[.int .i64 d.s, .int .i64 d.q, .int .i64 d.st, .slice A n c]
def vDt (x : DtX) : Value := .agg (dtA x.d x.A x.c x.d.b.length)
def BornOk (es : Array MapEntry) (clock : Nat) : Prop := (es.toList.map (·.born)).Nodup ∧ ∀ e ∈ es.toList, e.born < clock
def HMap (w : World) (b : Nat) (l : List DtX) : Prop := ∃ es clock, w.heap[b]? = some (.map es clock) ∧ es.toList.map (fun e => (e.key, e.val)) = l.map (fun x => (kSl x.d.sl, vDt x)) ∧ BornOk es clock
theorem kSl_inj {x y : Sl} (h : kSl x = kSl y) : x = y := by
  obtain ⟨a, b⟩ := x; obtain ⟨c, d⟩ := y
  simp [kSl] at h
  simp; omega
section
variable {w w' : World} {b : Nat} {l : List DtX}
theorem HMap.lt (h : HMap w b l) : b < w.heap.size := by
  obtain ⟨es, clock, hb, _⟩ := h
  exact (Array.getElem?_eq_some_iff.1 hb).1
theorem HMap.same (h : HMap w b l) (hb : w'.heap[b]? = w.heap[b]?) : HMap w' b l := by
  obtain ⟨es, clock, h1, h2, h3⟩ := h
  exact ⟨es, clock, hb.trans h1, h2, h3⟩
def Keys (l : List DtX) : Prop := ∀ x ∈ l, x.d.s < 4611686018427387905 ∧ x.d.q < 4611686018427387905
theorem HMap.ent {es : Array MapEntry} (h : es.toList.map (fun e => (e.key, e.val)) = l.map fun x => (kSl x.d.sl, vDt x)) {j : Nat} {e : MapEntry} (he : es.toList[j]? = some e) : ∃ x, l[j]? = some x ∧ e.key = kSl x.d.sl ∧ e.val = vDt x := by
  have h1 := congrArg (fun m => m[j]?) h
  simp only [List.getElem?_map, he, Option.map_some] at h1
  cases hx : l[j]? with
  | none => rw [hx] at h1; cases h1
  | some x =>
    rw [hx] at h1
    simp only [Option.map_some, Option.some.injEq, Prod.mk.injEq] at h1
    exact ⟨x, rfl, h1.1, h1.2⟩
theorem HMap.ent' {es : Array MapEntry} (h : es.toList.map (fun e => (e.key, e.val)) = l.map fun x => (kSl x.d.sl, vDt x)) {j : Nat} {x : DtX} (hx : l[j]? = some x) : ∃ e, es.toList[j]? = some e ∧ e.key = kSl x.d.sl ∧ e.val = vDt x := by
  have h1 := congrArg (fun m => m[j]?) h
  simp only [List.getElem?_map, hx, Option.map_some] at h1
  cases he : es.toList[j]? with
  | none => rw [he] at h1; cases h1
  | some e =>
    rw [he] at h1
    simp only [Option.map_some, Option.some.injEq, Prod.mk.injEq] at h1
    exact ⟨e, rfl, h1.1, h1.2⟩
theorem HMap.keyed {es : Array MapEntry} (h : es.toList.map (fun e => (e.key, e.val)) = l.map fun x => (kSl x.d.sl, vDt x)) (hk : Keys l) : ∀ e ∈ es.toList, ∃ lt, keyOf Try.prog 78 e.key = some lt := fun e he => by
  obtain ⟨j, hj⟩ := List.mem_iff_getElem?.1 he
  obtain ⟨x, hx, e1, -⟩ := HMap.ent h hj
  rw [e1]
  have := hk x (List.mem_of_getElem? hx)
  exact key_sl _ this.1 this.2
theorem HMap.len (h : HMap w b l) {ty : TypeId} : (Builtin.len_ #[94] ty #[.map (some b)]).run Try.prog w = .ok (.int .i64 l.length) w := by
  obtain ⟨es, clock, hb, he, hbn⟩ := h
  have hl : es.size = l.length := by have := congrArg List.length he; simpa using this
  rw [← hl]
  simp [Builtin.len_, run_underlying Try.underlying94, MapKept.run_getObj_map hb, Result.andThen, goInt]
theorem nodup_key (hn : (l.map (·.d.sl)).Nodup) {i j : Nat} {x y : DtX} (hx : l[i]? = some x) (hy : l[j]? = some y) (h : x.d.sl = y.d.sl) : i = j := by
  have hi := (List.getElem?_eq_some_iff.1 hx).1
  have hj := (List.getElem?_eq_some_iff.1 hy).1
  refine (List.getElem_inj (xs := l.map (·.d.sl)) (h₀ := by simpa using hi) (h₁ := by simpa using hj) hn).1 ?_
  rw [List.getElem_map, List.getElem_map, (List.getElem?_eq_some_iff.1 hx).2, (List.getElem?_eq_some_iff.1 hy).2]
  exact h
theorem HMap.look (h : HMap w b l) (hk : Keys l) (hn : (l.map (·.d.sl)).Nodup) {x : Sl} (h1 : x.s < 4611686018427387905) (h2 : x.q < 4611686018427387905) {z : Value} (hz : (zeroValue 71).run Try.prog w = .ok z w) :
    (Instr.lookup 94 (.map (some b)) (kSl x) true).run Try.prog w = .ok (.tuple #[(match l.find? (fun y => decide (y.d.sl = x)) with | some y => vDt y | none => z), .bool (l.find? (fun y => decide (y.d.sl = x))).isSome]) w := by
  obtain ⟨es, clock, hb, he, hbn⟩ := h
  obtain ⟨lt, hlt⟩ := key_sl x h1 h2
  rcases lawSlot.find w hlt es.toList (HMap.keyed he hk) with ⟨r1, r2⟩ | ⟨j, e0, r1, r2, r3⟩
  · have hf : l.find? (fun y => decide (y.d.sl = x)) = none := List.find?_eq_none.2 fun y hy => by
      obtain ⟨j, hj⟩ := List.mem_iff_getElem?.1 hy
      obtain ⟨e, h3, h4, -⟩ := HMap.ent' he hj
      have := r2 e (List.mem_of_getElem? h3)
      rw [h4] at this
      simp only [decide_eq_true_eq]
      exact fun e2 => this (by rw [e2])
    rw [hf]
    simp [Instr.lookup, run_underlying Try.underlying94, MapKept.run_getObj_map hb, lawSlot.check w _ hlt, r1, hz, Result.andThen]
  · obtain ⟨y, hy, h4, h5⟩ := HMap.ent he r2
    have hyx : y.d.sl = x := kSl_inj (h4.symm.trans r3)
    cases hf : l.find? (fun y => decide (y.d.sl = x)) with
    | none => have := List.find?_eq_none.1 hf y (List.mem_of_getElem? hy); simp [hyx] at this
    | some y' =>
      have hm := List.mem_of_find?_eq_some hf
      have hp : y'.d.sl = x := by have := List.find?_some hf; simpa using this
      obtain ⟨j', hj'⟩ := List.mem_iff_getElem?.1 hm
      have e : y = y' := by
        have := nodup_key hn hy hj' (hyx.trans hp.symm)
        subst this
        rw [hy] at hj'
        injection hj'
      rw [← e]
      simp [Instr.lookup, run_underlying Try.underlying94, MapKept.run_getObj_map hb, lawSlot.check w _ hlt, r1, h5, Result.andThen]
theorem setB (o : Obj) (hlt : b < w.heap.size) : w.grownBy (ChangeMaps.setBlock w b o) (some b) ∧ (ChangeMaps.setBlock w b o).heap[b]? = some o :=
  ⟨⟨rfl, rfl, rfl, by simp [ChangeMaps.setBlock], fun i hi hne => by simp only [ChangeMaps.setBlock]; rw [Array.getElem?_setIfInBounds_ne (by rintro rfl; exact hne rfl)]⟩, by simp [ChangeMaps.setBlock, hlt]⟩
theorem HMap.put (h : HMap w b l) (hk : Keys l) {x : DtX} (h1 : x.d.s < 4611686018427387905) (h2 : x.d.q < 4611686018427387905) (hnew : ∀ y ∈ l, y.d.sl ≠ x.d.sl) :
    ∃ w', (Instr.mapUpdate 94 (.map (some b)) (kSl x.d.sl) (vDt x)).run Try.prog w = .ok () w' ∧ HMap w' b (l ++ [x]) ∧ w.grownBy w' (some b) := by
  have hlt := h.lt
  obtain ⟨es, clock, hb, he, hbn⟩ := h
  obtain ⟨lt, hl⟩ := key_sl x.d.sl h1 h2
  rcases lawSlot.find w hl es.toList (HMap.keyed he hk) with ⟨r1, r2⟩ | ⟨j, e0, r1, r2, r3⟩
  · obtain ⟨g1, g2⟩ := setB (w := w) (.map (es.push ⟨kSl x.d.sl, vDt x, clock⟩) (clock + 1)) hlt
    refine ⟨_, ?_, ⟨_, _, g2, ?_, ?_⟩, g1⟩
    · simp [Instr.mapUpdate, run_underlying Try.underlying94, MapKept.run_getObj_map hb, lawSlot.check w false hl, r1, MapKept.run_setObj_map _ hb, Result.andThen, ChangeMaps.setBlock]
    · rw [Array.toList_push, List.map_append, he, List.map_append]; rfl
    · refine ⟨?_, fun e hm => ?_⟩
      · rw [Array.toList_push, List.map_append, List.map_singleton, List.nodup_append]
        refine ⟨hbn.1, by simp, fun a ha c hc => ?_⟩
        obtain ⟨e, hm, rfl⟩ := List.mem_map.1 ha
        rw [List.mem_singleton.1 hc]
        have := hbn.2 e hm
        show e.born ≠ clock
        omega
      · rw [Array.toList_push] at hm
        rcases List.mem_append.1 hm with hm | hm
        · have := hbn.2 e hm; omega
        · rw [List.mem_singleton.1 hm]; show clock < clock + 1; omega
  · obtain ⟨y, hy, h4, -⟩ := HMap.ent he r2
    exact absurd (kSl_inj (h4.symm.trans r3)) (hnew y (List.mem_of_getElem? hy))
theorem filter_erase {α : Type} {p : α → Bool} : ∀ {l : List α} {j : Nat} {x : α}, l[j]? = some x → p x = false → (∀ (i : Nat) (y : α), l[i]? = some y → p y = false → i = j) → l.eraseIdx j = l.filter p
  | [], j, x, h, _, _ => by simp at h
  | a :: l, 0, x, h, hp, hu => by
    injection h with h
    subst h
    rw [List.eraseIdx_cons_zero, List.filter_cons, hp]
    refine (List.filter_eq_self.2 fun y hy => ?_).symm
    obtain ⟨i, hi⟩ := List.mem_iff_getElem?.1 hy
    cases hpy : p y with
    | true => rfl
    | false => have := hu (i + 1) y (by rw [List.getElem?_cons_succ]; exact hi) hpy; omega
  | a :: l, j + 1, x, h, hp, hu => by
    rw [List.eraseIdx_cons_succ, List.filter_cons]
    have ha : p a = true := by
      cases hpa : p a with
      | true => rfl
      | false => have := hu 0 a rfl hpa; omega
    rw [if_pos ha, filter_erase (by rw [List.getElem?_cons_succ] at h; exact h) hp fun i y hi hy => by have := hu (i + 1) y (by rw [List.getElem?_cons_succ]; exact hi) hy; omega]
theorem erase_map {α β : Type} (f : α → β) : ∀ (l : List α) (j : Nat), (l.map f).eraseIdx j = (l.eraseIdx j).map f
  | [], j => by simp
  | a :: l, 0 => rfl
  | a :: l, j + 1 => by rw [List.map_cons, List.eraseIdx_cons_succ, List.eraseIdx_cons_succ, List.map_cons, erase_map f l j]
set_option maxRecDepth 100000 in
theorem HMap.del (h : HMap w b l) (hk : Keys l) (hn : (l.map (·.d.sl)).Nodup) {x : Sl} (h1 : x.s < 4611686018427387905) (h2 : x.q < 4611686018427387905) {ty : TypeId} :
    ∃ w', (Builtin.delete_ #[94, 78] ty #[.map (some b), kSl x]).run Try.prog w = .ok (.tuple #[]) w' ∧ HMap w' b (l.filter fun y => decide (y.d.sl ≠ x)) ∧ w.grownBy w' (some b) := by
  have hlt := h.lt
  obtain ⟨es, clock, hb, he, hbn⟩ := h
  obtain ⟨lt, hl⟩ := key_sl x h1 h2
  rcases lawSlot.find w hl es.toList (HMap.keyed he hk) with ⟨r1, r2⟩ | ⟨j, e0, r1, r2, r3⟩
  · obtain ⟨g1, g2⟩ := setB (w := w) (.map es clock) hlt
    refine ⟨_, ?_, ⟨_, _, g2, ?_, hbn⟩, g1⟩
    · simp [Builtin.delete_, run_underlying Try.underlying94, MapKept.run_getObj_map hb, lawSlot.check w _ hl, r1, MapKept.run_setObj_map _ hb, Result.andThen, ChangeMaps.setBlock]
    · rw [he]
      congr 1
      refine (List.filter_eq_self.2 fun y hy => ?_).symm
      obtain ⟨j, hj⟩ := List.mem_iff_getElem?.1 hy
      obtain ⟨e, h3, h4, -⟩ := HMap.ent' he hj
      have := r2 e (List.mem_of_getElem? h3)
      rw [h4] at this
      exact decide_eq_true fun e2 => this (by rw [e2])
  · obtain ⟨y, hy, h4, h5⟩ := HMap.ent he r2
    have hyx : y.d.sl = x := kSl_inj (h4.symm.trans r3)
    obtain ⟨g1, g2⟩ := setB (w := w) (.map (es.eraseIdxIfInBounds j) clock) hlt
    have e1 : (es.eraseIdxIfInBounds j).toList = es.toList.eraseIdx j := by
      unfold Array.eraseIdxIfInBounds
      split
      · simp
      · rw [List.eraseIdx_of_length_le (by simp; omega)]
    refine ⟨_, ?_, ⟨_, _, g2, ?_, ?_⟩, g1⟩
    rotate_right
    · refine ⟨?_, fun e hm => ?_⟩
      · rw [e1]
        exact List.Nodup.sublist (List.Sublist.map _ (List.eraseIdx_sublist _ _)) hbn.1
      · rw [e1] at hm
        exact hbn.2 e (List.mem_of_mem_eraseIdx hm)
    · simp [Builtin.delete_, run_underlying Try.underlying94, MapKept.run_getObj_map hb, lawSlot.check w _ hl, r1, MapKept.run_setObj_map _ hb, Result.andThen, ChangeMaps.setBlock]
    · rw [e1, ← erase_map, he, erase_map]
      congr 1
      refine filter_erase hy (decide_eq_false fun e => e hyx) fun i z hi hz => ?_
      have hzx : z.d.sl = x := Classical.byContradiction fun e => by rw [decide_eq_true e] at hz; cases hz
      exact nodup_key hn hi hy (hzx.trans hyx.symm)
end
end Go.Proofs.Ytoilipfgimcoiaa
namespace Go.Proofs.Ytoilipfgimcoiaa
open Go Go.RowKit
structure OsX where
  mA : Option Addr
  mc : Nat
  hb : Nat
  qA : Option Addr
  qc : Nat
  sA : Option Addr
  sc : Nat
  hl : List DtX
def cellO (o : Os) (X : OsX) (j : Nat) : Value :=
  if j = 0 then .int .i64 o.id.e else if j = 1 then .int .i64 o.id.l else if j = 2 then .int .i64 o.id.i else if j = 3 then .int .i64 o.id.c
  else if j = 4 then .slice X.mA o.mem.length X.mc else if j = 5 then .int .i64 o.self else if j = 6 then .int .i64 o.win else if j = 7 then .bool o.frz
  else if j < 24 then .bool (o.seen (j - 8)) else if j < 40 then .int .i64 (o.taken (j - 24)) else if j < 56 then .int .i64 (o.placed (j - 40)) else if j < 72 then .int .i64 (o.gone (j - 56)) else if j < 88 then .int .i64 (o.told (j - 72))
  else if j = 88 then .map (some X.hb) else if j = 89 then .slice X.qA o.queue.length X.qc else if j = 90 then .slice X.sA o.slots.length X.sc
  else if j = 91 then .int .i64 o.pre else if j = 92 then .int .i64 o.done else .int .i64 o.mine
section
variable {o : Os} {X : OsX} {s : Nat}
theorem cellO_seen (hs : s < 16) : cellO o X (8 + s) = .bool (o.seen s) := by
  unfold cellO
  repeat rw [if_neg (by omega)]
  rw [if_pos (by omega), show 8 + s - 8 = s by omega]
theorem cellO_taken (hs : s < 16) : cellO o X (24 + s) = .int .i64 (o.taken s) := by
  unfold cellO
  repeat rw [if_neg (by omega)]
  rw [if_pos (by omega), show 24 + s - 24 = s by omega]
theorem cellO_placed (hs : s < 16) : cellO o X (40 + s) = .int .i64 (o.placed s) := by
  unfold cellO
  repeat rw [if_neg (by omega)]
  rw [if_pos (by omega), show 40 + s - 40 = s by omega]
theorem cellO_gone (hs : s < 16) : cellO o X (56 + s) = .int .i64 (o.gone s) := by
  unfold cellO
  repeat rw [if_neg (by omega)]
  rw [if_pos (by omega), show 56 + s - 56 = s by omega]
theorem cellO_told (hs : s < 16) : cellO o X (72 + s) = .int .i64 (o.told s) := by
  unfold cellO
  repeat rw [if_neg (by omega)]
  rw [if_pos (by omega), show 72 + s - 72 = s by omega]
end
structure CellsO (w : World) (b : Nat) (o : Os) (X : OsX) : Prop where
  hb : b < w.heap.size
  cell : ∀ j, j < 94 → w.cell? ⟨b, j, none⟩ = some (cellO o X j) ∧ w.frozen? ⟨b, j, none⟩ = false
structure RowsO (w : World) (K : Nat → Nat) (r : Nat) (o : Os) (X : OsX) : Prop where
  mem : RowK w K 1 eNat X.mA o.mem
  map : HMap w X.hb X.hl
  km : K X.hb = r + 1
  hd : X.hl.map (·.d) = o.held
  bod : ∀ y ∈ X.hl, RowK w K 1 eByte y.A y.d.b
  q : OwnO w K (r + 2) 2 eSl X.qA X.qc o.queue
  s : OwnO w K (r + 3) 2 eSl X.sA X.sc o.slots
structure OrdAt (w : World) (K : Nat → Nat) (r b : Nat) (o : Os) (X : OsX) : Prop where
  r0 : 0 < r
  kb : K b = r
  kz : ∀ b, w.heap.size ≤ b → K b = 0
  cs : CellsO w b o X
  rs : RowsO w K r o X
def inR (r x : Nat) : Prop := r ≤ x ∧ x < r + 4
section
variable {R : Nat → Prop} {K K' : Nat → Nat} {w w' : World} {r b : Nat} {o o' : Os} {X X' : OsX} {l : List Nat}
theorem CellsO.same (h : CellsO w b o X) (hs : w.heap.size ≤ w'.heap.size) (hb : w'.heap[b]? = w.heap[b]?) : CellsO w' b o X :=
  ⟨Nat.lt_of_lt_of_le h.hb hs, fun j hj => by rw [World.cell?_of_block (a := ⟨b, j, none⟩) hb, World.frozen?_of_block (a := ⟨b, j, none⟩) hb]; exact h.cell j hj⟩
theorem RowsO.ro (h : RowsO w K r o X) (q : Ro R K K' w w') (h0 : ¬ R 0) (h1 : ¬ R (r + 1)) (h2 : ¬ R (r + 2)) (h3 : ¬ R (r + 3)) : RowsO w' K' r o X :=
  ⟨h.mem.ro q h0, h.map.same (q.same _ h.map.lt (by rw [h.km]; exact h1)), (q.kk _ h.map.lt).trans h.km, h.hd, fun y hy => (h.bod y hy).ro q h0, h.q.ro q h2, h.s.ro q h3⟩
theorem OrdAt.ro (h : OrdAt w K r b o X) (q : Ro R K K' w w') (kz : ∀ b, w'.heap.size ≤ b → K' b = 0) (h0 : ¬ R 0) (hr : ∀ x, inR r x → ¬ R x) : OrdAt w' K' r b o X :=
  ⟨h.r0, (q.kk b h.cs.hb).trans h.kb, kz, h.cs.same q.size (q.same b h.cs.hb (by rw [h.kb]; exact hr r ⟨Nat.le_refl _, by omega⟩)), h.rs.ro q h0 (hr _ ⟨by omega, by omega⟩) (hr _ ⟨by omega, by omega⟩) (hr _ ⟨by omega, by omega⟩)⟩
theorem OrdAt.below (h : OrdAt w K r b o X) (hb : Below w.heap.size w w') : OrdAt w' K r b o X :=
  h.ro (R := fun _ => False) (.below hb) (fun b hb' => h.kz b (Nat.le_trans hb.size hb')) id fun _ _ => id
theorem CellsO.put (h : CellsO w b o X) {j : Nat} {v : Value} (hw : w' = w.setCell ⟨b, j, none⟩ v) (hj : j < 94) (hv : cellO o' X' j = v) (ho : ∀ i, i < 94 → i ≠ j → cellO o' X' i = cellO o X i) : CellsO w' b o' X' := by
  subst hw
  refine ⟨by rw [World.size_setCell]; exact h.hb, fun i hi => ?_⟩
  rw [World.frozen?_setCell]
  refine ⟨?_, (h.cell i hi).2⟩
  by_cases e : i = j
  · subst e
    rw [hv]
    exact World.cell?_setCell_same' _ _ _ (by rw [(h.cell i hi).1]; rfl)
  · rw [ho i hi e]
    exact cell_out (vs := [v]) (h.cell i hi).1 (by show i < j ∨ j + 1 ≤ i; omega)
theorem OrdAt.c (h : OrdAt w K r b o X) (hl : b ∈ l) {j : Nat} (hj : j < 94) {W : World} (hW : Sm l w W) : W.cell? ⟨b, j, none⟩ = some (cellO o X j) :=
  (World.cell?_of_block (a := ⟨b, j, none⟩) (hW b hl)).trans (h.cs.cell j hj).1
theorem load3 {b j : Nat} {v : Int} (h : w.cell? ⟨b, j, none⟩ = some (.int .i64 v)) : (loadVar 3 ⟨b, j, none⟩).run Try.prog w = .ok (.int .i64 v) w := by go_simp
theorem load4 {b j : Nat} {v : Bool} (h : w.cell? ⟨b, j, none⟩ = some (.bool v)) : (loadVar 4 ⟨b, j, none⟩).run Try.prog w = .ok (.bool v) w := by go_simp
theorem load49 {b j n c : Nat} {A : Option Addr} (h : w.cell? ⟨b, j, none⟩ = some (.slice A n c)) : (loadVar 49 ⟨b, j, none⟩).run Try.prog w = .ok (.slice A n c) w := by go_simp
theorem load48 {b j n c : Nat} {A : Option Addr} (h : w.cell? ⟨b, j, none⟩ = some (.slice A n c)) : (loadVar 48 ⟨b, j, none⟩).run Try.prog w = .ok (.slice A n c) w := by go_simp
theorem load27 {b j n c : Nat} {A : Option Addr} (h : w.cell? ⟨b, j, none⟩ = some (.slice A n c)) : (loadVar 27 ⟨b, j, none⟩).run Try.prog w = .ok (.slice A n c) w := by go_simp
theorem load94 {b j : Nat} {A : Option Nat} (h : w.cell? ⟨b, j, none⟩ = some (.map A)) : (loadVar 94 ⟨b, j, none⟩).run Try.prog w = .ok (.map A) w := by go_simp
theorem OrdAt.l_mem (h : OrdAt w K r b o X) (hl : b ∈ l) : Ld Try.prog 49 b 4 (Sm l w) (.slice X.mA o.mem.length X.mc) := ⟨fun _ hW => load49 (h.c hl (by omega) hW)⟩
theorem OrdAt.l_self (h : OrdAt w K r b o X) (hl : b ∈ l) : Ld Try.prog 3 b 5 (Sm l w) (.int .i64 o.self) := ⟨fun _ hW => load3 (h.c hl (by omega) hW)⟩
theorem OrdAt.l_win (h : OrdAt w K r b o X) (hl : b ∈ l) : Ld Try.prog 3 b 6 (Sm l w) (.int .i64 o.win) := ⟨fun _ hW => load3 (h.c hl (by omega) hW)⟩
theorem OrdAt.l_frz (h : OrdAt w K r b o X) (hl : b ∈ l) : Ld Try.prog 4 b 7 (Sm l w) (.bool o.frz) := ⟨fun _ hW => load4 (h.c hl (by omega) hW)⟩
theorem OrdAt.l_seen (h : OrdAt w K r b o X) (hl : b ∈ l) {s : Nat} (hs : s < 16) : Ld Try.prog 4 b (8 + s) (Sm l w) (.bool (o.seen s)) := ⟨fun _ hW => load4 (by rw [← cellO_seen hs]; exact h.c hl (by omega) hW)⟩
theorem OrdAt.l_taken (h : OrdAt w K r b o X) (hl : b ∈ l) {s : Nat} (hs : s < 16) : Ld Try.prog 3 b (24 + s) (Sm l w) (.int .i64 (o.taken s)) := ⟨fun _ hW => load3 (by rw [← cellO_taken hs]; exact h.c hl (by omega) hW)⟩
theorem OrdAt.l_placed (h : OrdAt w K r b o X) (hl : b ∈ l) {s : Nat} (hs : s < 16) : Ld Try.prog 3 b (40 + s) (Sm l w) (.int .i64 (o.placed s)) := ⟨fun _ hW => load3 (by rw [← cellO_placed hs]; exact h.c hl (by omega) hW)⟩
theorem OrdAt.l_gone (h : OrdAt w K r b o X) (hl : b ∈ l) {s : Nat} (hs : s < 16) : Ld Try.prog 3 b (56 + s) (Sm l w) (.int .i64 (o.gone s)) := ⟨fun _ hW => load3 (by rw [← cellO_gone hs]; exact h.c hl (by omega) hW)⟩
theorem OrdAt.l_told (h : OrdAt w K r b o X) (hl : b ∈ l) {s : Nat} (hs : s < 16) : Ld Try.prog 3 b (72 + s) (Sm l w) (.int .i64 (o.told s)) := ⟨fun _ hW => load3 (by rw [← cellO_told hs]; exact h.c hl (by omega) hW)⟩
theorem OrdAt.l_held (h : OrdAt w K r b o X) (hl : b ∈ l) : Ld Try.prog 94 b 88 (Sm l w) (.map (some X.hb)) := ⟨fun _ hW => load94 (h.c hl (by omega) hW)⟩
theorem OrdAt.l_queue (h : OrdAt w K r b o X) (hl : b ∈ l) : Ld Try.prog 48 b 89 (Sm l w) (.slice X.qA o.queue.length X.qc) := ⟨fun _ hW => load48 (h.c hl (by omega) hW)⟩
theorem OrdAt.l_slots (h : OrdAt w K r b o X) (hl : b ∈ l) : Ld Try.prog 48 b 90 (Sm l w) (.slice X.sA o.slots.length X.sc) := ⟨fun _ hW => load48 (h.c hl (by omega) hW)⟩
theorem OrdAt.l_pre (h : OrdAt w K r b o X) (hl : b ∈ l) : Ld Try.prog 3 b 91 (Sm l w) (.int .i64 o.pre) := ⟨fun _ hW => load3 (h.c hl (by omega) hW)⟩
theorem OrdAt.l_done (h : OrdAt w K r b o X) (hl : b ∈ l) : Ld Try.prog 3 b 92 (Sm l w) (.int .i64 o.done) := ⟨fun _ hW => load3 (h.c hl (by omega) hW)⟩
theorem OrdAt.l_mine (h : OrdAt w K r b o X) (hl : b ∈ l) : Ld Try.prog 3 b 93 (Sm l w) (.int .i64 o.mine) := ⟨fun _ hW => load3 (h.c hl (by omega) hW)⟩
end
end Go.Proofs.Ytoilipfgimcoiaa
namespace Go.Proofs.Ytoilipfgimcoiaa
open Go Go.RowKit
set_option maxRecDepth 100000 in
theorem count_any (v m : Int) (w : World) : Calls Try.prog 64 #[.int .i64 v, .int .i64 m] w fun e w' => e = .returned (.bool (decide (m ≤ v ∧ v ≤ 4611686018427387904))) ∧ w' = w := by
  refine calls_vc tab_ok Try.func64 rfl ?_
  conv => whnf
  by_cases h1 : m ≤ v
  · by_cases h2 : v ≤ 4611686018427387904
    · repeat ((conv => whnf); first | (refine VCmp.tt (by omega) ?_) | (refine VCmp.ff (by omega) ?_) | (refine VIn.mk (IntWalk.i64_in _ (by omega)) ?_) | (refine VIdx.mk _ rfl (by omega) ?_) | (refine VIdx.mk 0 rfl (by omega) ?_))
      try (conv => whnf)
      exact .mk ⟨by rw [decide_eq_true ⟨h1, h2⟩]; rfl, rfl⟩
    · repeat ((conv => whnf); first | (refine VCmp.tt (by omega) ?_) | (refine VCmp.ff (by omega) ?_) | (refine VIn.mk (IntWalk.i64_in _ (by omega)) ?_) | (refine VIdx.mk _ rfl (by omega) ?_) | (refine VIdx.mk 0 rfl (by omega) ?_))
      try (conv => whnf)
      exact .mk ⟨by rw [decide_eq_false (fun h => h2 h.2)]; rfl, rfl⟩
  · repeat ((conv => whnf); first | (refine VCmp.tt (by omega) ?_) | (refine VCmp.ff (by omega) ?_) | (refine VIn.mk (IntWalk.i64_in _ (by omega)) ?_) | (refine VIdx.mk _ rfl (by omega) ?_) | (refine VIdx.mk 0 rfl (by omega) ?_))
    try (conv => whnf)
    exact .mk ⟨by rw [decide_eq_false (fun h => h1 h.1)]; rfl, rfl⟩
def posOf (l : List Nat) (q : Int) : Int := match l.findIdx? (fun x : Nat => decide ((x : Int) = q)) with
  | some i => i
  | none => -1
theorem findIdx_take {l : List Nat} {q : Int} {k : Nat} (hk : k < l.length) (h : ∀ x ∈ l.take k, (x : Int) ≠ q) (hx : ((l.getD k 0 : Nat) : Int) = q) : l.findIdx? (fun x : Nat => decide ((x : Int) = q)) = some k := by
  rw [List.findIdx?_eq_some_iff_getElem]
  refine ⟨hk, ?_, fun j hj => ?_⟩
  · rw [List.getD_eq_getElem?_getD, List.getElem?_eq_getElem hk] at hx
    exact decide_eq_true hx
  · have := h l[j] (List.mem_take_iff_getElem.2 ⟨j, by omega, rfl⟩)
    simpa using this
set_option maxRecDepth 100000 in
theorem index_any (A : Option Addr) (c n N : Nat) (l : List Nat) (q : Int) (w : World) (hn : l.length = n) (hA : RowAt w N 1 eNat A l) (h1 : n ≤ 2000000) :
    Calls Try.prog 80 #[.slice A n c, .int .i64 q] w fun e w' => e = .returned (.int .i64 (posOf l q)) ∧ w' = w := by
  refine calls_vc tab_ok Try.func80 rfl ?_
  conv => whnf
  repeat ((conv => whnf); first | (refine VCmp.tt (by omega) ?_) | (refine VCmp.ff (by omega) ?_) | (refine VIn.mk (IntWalk.i64_in _ (by omega)) ?_) | (refine VIdx.mk _ rfl (by omega) ?_) | (refine VIdx.mk 0 rfl (by omega) ?_))
  try (conv => whnf)
  refine VLoop.mk Nat (fun k => [(0, .slice A n c), (1, .int .i64 q), (7, .int .i64 n), (8, .int .i64 k)]) (fun k W => k ≤ n ∧ W = w ∧ ∀ x ∈ l.take k, (x : Int) ≠ q) (fun k => n - k) 0 ⟨rfl, rfl, rfl, rfl, trivial⟩ ⟨Nat.zero_le _, rfl, by simp⟩ ?_
  rintro k W ⟨hk, rfl, hno⟩
  by_cases hkn : k < n
  · obtain ⟨b, off, rfl, hb, hc⟩ := hA (by omega)
    have hy : l[k]? = some (l.getD k 0) := by rw [List.getD_eq_getElem?_getD, List.getElem?_eq_getElem (by omega)]; rfl
    have Ly : Ld Try.prog 3 b (off + k) (Eq W) (.int .i64 (l.getD k 0)) := .of (load3 (by have := hc k _ hy 0 _ rfl; rwa [Nat.mul_one] at this))
    by_cases hxy : ((l.getD k 0 : Nat) : Int) = q
    · repeat ((conv => whnf); first | (refine VLoad.mk _ Ly ?_) | (refine VCmp.tt (by omega) ?_) | (refine VCmp.ff (by omega) ?_) | (refine VIn.mk (IntWalk.i64_in _ (by omega)) ?_) | (refine VIdx.mk _ rfl (by omega) ?_) | (refine VIdx.mk 0 rfl (by omega) ?_))
      try (conv => whnf)
      have : posOf l q = (k : Int) := by unfold posOf; rw [findIdx_take (by omega) hno hxy]
      exact .mk ⟨by rw [this]; rfl, rfl⟩
    · repeat ((conv => whnf); first | (refine VLoad.mk _ Ly ?_) | (refine VCmp.tt (by omega) ?_) | (refine VCmp.ff (by omega) ?_) | (refine VIn.mk (IntWalk.i64_in _ (by omega)) ?_) | (refine VIdx.mk _ rfl (by omega) ?_) | (refine VIdx.mk 0 rfl (by omega) ?_))
      try (conv => whnf)
      refine .mk (k + 1) ⟨rfl, rfl, rfl, rfl, trivial⟩ ⟨hkn, rfl, ?_⟩ (by show n - (k + 1) < n - k; omega)
      rw [List.take_add_one, hy]
      simp only [Option.toList_some, List.mem_append, List.mem_singleton]
      rintro x (h | rfl)
      · exact hno x h
      · exact hxy
  · obtain rfl : k = n := by omega
    repeat ((conv => whnf); first | (refine VCmp.tt (by omega) ?_) | (refine VCmp.ff (by omega) ?_) | (refine VIn.mk (IntWalk.i64_in _ (by omega)) ?_) | (refine VIdx.mk _ rfl (by omega) ?_) | (refine VIdx.mk 0 rfl (by omega) ?_))
    try (conv => whnf)
    have : posOf l q = -1 := by
      unfold posOf
      rw [List.findIdx?_eq_none_iff.2 fun x hx => by
        have := hno x (by rw [List.take_of_length_le (by omega)]; exact hx)
        simpa using this]
    exact .mk ⟨by rw [this]; rfl, rfl⟩
theorem pos_mem (l : List Nat) (q : Int) : decide (0 ≤ posOf l q) = decide (∃ x ∈ l, (x : Int) = q) := by
  unfold posOf
  cases h : l.findIdx? (fun x : Nat => decide ((x : Int) = q)) with
  | none =>
    have := List.findIdx?_eq_none_iff.1 h
    show decide (0 ≤ (-1 : Int)) = _
    rw [decide_eq_false (by omega), decide_eq_false]
    rintro ⟨x, hx, e⟩
    have := this x hx
    simp [e] at this
  | some i =>
    obtain ⟨hi, h2, -⟩ := List.findIdx?_eq_some_iff_getElem.1 h
    show decide (0 ≤ (i : Int)) = _
    rw [decide_eq_true (by omega), decide_eq_true]
    exact ⟨l[i], List.getElem_mem hi, by simpa using h2⟩
def hasB (l : List Nat) (q : Int) : Bool := decide (∃ x ∈ l, (x : Int) = q)
set_option maxRecDepth 100000 in
theorem contains_any (A : Option Addr) (c n N : Nat) (l : List Nat) (q : Int) (w : World) (hn : l.length = n) (hA : RowAt w N 1 eNat A l) (h1 : n ≤ 2000000) :
    Calls Try.prog 65 #[.slice A n c, .int .i64 q] w fun e w' => e = .returned (.bool (hasB l q)) ∧ w' = w := by
  refine calls_vc tab_ok Try.func65 rfl ?_
  conv => whnf
  repeat ((conv => whnf); first | (refine VCmp.tt (by omega) ?_) | (refine VCmp.ff (by omega) ?_) | (refine VIn.mk (IntWalk.i64_in _ (by omega)) ?_) | (refine VIdx.mk _ rfl (by omega) ?_) | (refine VIdx.mk 0 rfl (by omega) ?_))
  try (conv => whnf)
  refine VCall.mk _ (index_any A c n N l q w hn hA h1) ?_
  rintro _ _ ⟨rfl, rfl⟩
  refine ⟨_, rfl, ?_⟩
  have hp := pos_mem l q
  unfold hasB
  rw [← hp]
  by_cases h0 : 0 ≤ posOf l q
  · repeat ((conv => whnf); first | (refine VCmp.tt (by omega) ?_) | (refine VCmp.ff (by omega) ?_) | (refine VIn.mk (IntWalk.i64_in _ (by omega)) ?_) | (refine VIdx.mk _ rfl (by omega) ?_) | (refine VIdx.mk 0 rfl (by omega) ?_))
    try (conv => whnf)
    exact .mk ⟨by rw [decide_eq_true h0]; rfl, rfl⟩
  · repeat ((conv => whnf); first | (refine VCmp.tt (by omega) ?_) | (refine VCmp.ff (by omega) ?_) | (refine VIn.mk (IntWalk.i64_in _ (by omega)) ?_) | (refine VIdx.mk _ rfl (by omega) ?_) | (refine VIdx.mk 0 rfl (by omega) ?_))
    try (conv => whnf)
    exact .mk ⟨by rw [decide_eq_false h0]; rfl, rfl⟩
section
variable {w : World} {K : Nat → Nat} {r b : Nat} {o : Os} {X : OsX}
set_option maxRecDepth 100000 in
theorem member_any (A : OrdAt w K r b o X) (hm : o.mem.length ≤ 16) (q : Int) : Calls Try.prog 66 #[.pointer (some ⟨b, 0, none⟩), .int .i64 q] w fun e w' => e = .returned (.bool (hasB o.mem q)) ∧ w' = w := by
  refine calls_vc tab_ok Try.func66 rfl ?_
  conv => whnf
  have L1 := A.l_mem (l := [b]) (by simp)
  repeat ((conv => whnf); first | (refine VLoad.mk _ (L1.at (Sm.refl _ _)) ?_) | (refine VCmp.tt (by omega) ?_) | (refine VCmp.ff (by omega) ?_) | (refine VIn.mk (IntWalk.i64_in _ (by omega)) ?_) | (refine VIdx.mk _ rfl (by omega) ?_) | (refine VIdx.mk 0 rfl (by omega) ?_))
  try (conv => whnf)
  refine VCall.mk _ (contains_any X.mA X.mc o.mem.length w.heap.size o.mem q w rfl A.rs.mem.row (by omega)) ?_
  rintro _ _ ⟨rfl, rfl⟩
  refine ⟨_, rfl, ?_⟩
  repeat ((conv => whnf); first | (refine VCmp.tt (by omega) ?_) | (refine VCmp.ff (by omega) ?_) | (refine VIn.mk (IntWalk.i64_in _ (by omega)) ?_) | (refine VIdx.mk _ rfl (by omega) ?_) | (refine VIdx.mk 0 rfl (by omega) ?_))
  try (conv => whnf)
  exact .mk ⟨rfl, rfl⟩
set_option maxRecDepth 100000 in
theorem sequencer_any (A : OrdAt w K r b o X) (hm : 0 < o.mem.length) : Calls Try.prog 50 #[.pointer (some ⟨b, 0, none⟩)] w fun e w' => e = .returned (.bool o.seq) ∧ Below w.heap.size w w' := by
  refine calls_vc tab_ok Try.func50 rfl ?_
  conv => whnf
  obtain ⟨m0, hm0⟩ : ∃ m0, o.mem[0]? = some m0 := ⟨_, List.getElem?_eq_getElem hm⟩
  obtain ⟨mb, mo, hmA, mz, mk, mc⟩ := A.rs.mem hm
  have L1 := A.l_mem (l := [b, mb]) (by simp)
  rw [hmA] at L1
  have L2 := A.l_self (l := [b, mb]) (by simp)
  have L3 : Ld Try.prog 3 mb (mo + 0) (Sm [b, mb] w) (.int .i64 m0) := ⟨fun W hW => load3 (cell_sm (by have := mc 0 m0 hm0 0 _ rfl; rwa [Nat.zero_mul] at this) (by simp) hW)⟩
  have hh : o.mem.head? = some m0 := by rw [List.head?_eq_getElem?]; exact hm0
  repeat ((conv => whnf); first | (refine VCmp.tt (by omega) ?_) | (refine VCmp.ff (by omega) ?_) | (refine VIn.mk (IntWalk.i64_in _ (by omega)) ?_) | (refine VIdx.mk _ rfl (by omega) ?_) | (refine VIdx.mk 0 rfl (by omega) ?_))
  try (conv => whnf)
  refine VDraw.mk 1000 [] [0, 1, 2, 3, 4, 5, 6, 7, 8, 9, 10, 11] (Sm [b, mb] w) (by kernel_rfl) (by kernel_rfl) (Sm.refl _ _) ?_
  by_cases hs : m0 = o.self
  · repeat ((conv => whnf); first | (refine VLoad.mk _ L1 ?_) | (refine VLoad.mk _ L2 ?_) | (refine VLoad.mk _ L3 ?_) | (refine VCmp.tt (by omega) ?_) | (refine VCmp.ff (by omega) ?_) | (refine VIn.mk (IntWalk.i64_in _ (by omega)) ?_) | (refine VIdx.mk _ rfl (by omega) ?_) | (refine VIdx.mk 0 rfl (by omega) ?_))
    try (conv => whnf)
    exact .mk ⟨by unfold Os.seq; rw [hh, hs, decide_eq_true rfl]; rfl, (Below.refl _ _).drew⟩
  · repeat ((conv => whnf); first | (refine VLoad.mk _ L1 ?_) | (refine VLoad.mk _ L2 ?_) | (refine VLoad.mk _ L3 ?_) | (refine VCmp.tt (by omega) ?_) | (refine VCmp.ff (by omega) ?_) | (refine VIn.mk (IntWalk.i64_in _ (by omega)) ?_) | (refine VIdx.mk _ rfl (by omega) ?_) | (refine VIdx.mk 0 rfl (by omega) ?_))
    try (conv => whnf)
    exact .mk ⟨by unfold Os.seq; rw [hh, decide_eq_false (fun e => hs (by injection e))]; rfl, (Below.refl _ _).drew⟩
set_option maxRecDepth 100000 in
theorem known_any (A : OrdAt w K r b o X) (h1 : o.known ≤ 4611686018427387905) : Calls Try.prog 53 #[.pointer (some ⟨b, 0, none⟩)] w fun e w' => e = .returned (.int .i64 o.known) ∧ Below w.heap.size w w' := by
  refine calls_vc tab_ok Try.func53 rfl ?_
  conv => whnf
  unfold Os.known at h1
  have L1 := A.l_pre (l := [b]) (by simp)
  have L2 := A.l_slots (l := [b]) (by simp)
  repeat ((conv => whnf); first | (refine VCmp.tt (by omega) ?_) | (refine VCmp.ff (by omega) ?_) | (refine VIn.mk (IntWalk.i64_in _ (by omega)) ?_) | (refine VIdx.mk _ rfl (by omega) ?_) | (refine VIdx.mk 0 rfl (by omega) ?_))
  try (conv => whnf)
  refine VDraw.mk 1000 [] [0, 1, 2, 3, 4, 5, 6, 7, 8, 9, 10] (Sm [b] w) (by kernel_rfl) (by kernel_rfl) (Sm.refl _ _) ?_
  repeat ((conv => whnf); first | (refine VLoad.mk _ L1 ?_) | (refine VLoad.mk _ L2 ?_) | (refine VCmp.tt (by omega) ?_) | (refine VCmp.ff (by omega) ?_) | (refine VIn.mk (IntWalk.i64_in _ (by omega)) ?_) | (refine VIdx.mk _ rfl (by omega) ?_) | (refine VIdx.mk 0 rfl (by omega) ?_))
  try (conv => whnf)
  exact .mk ⟨by unfold Os.known; rw [Int.natCast_add]; rfl, (Below.refl _ _).drew⟩
set_option maxRecDepth 100000 in
theorem most_any (A : OrdAt w K r b o X) (hm : o.mem.length ≤ 16) (hw : o.win ≤ 8) : Calls Try.prog 51 #[.pointer (some ⟨b, 0, none⟩)] w fun e w' => e = .returned (.int .i64 o.most) ∧ Below w.heap.size w w' := by
  refine calls_vc tab_ok Try.func51 rfl ?_
  conv => whnf
  have hmul : o.mem.length * o.win ≤ 16 * 8 := Nat.mul_le_mul hm hw
  obtain ⟨m, hmm⟩ : ∃ m, m = o.mem.length * o.win := ⟨_, rfl⟩
  have hmi : (o.mem.length : Int) * (o.win : Int) = (m : Int) := by rw [hmm]; exact (Int.natCast_mul _ _).symm
  have L1 := A.l_mem (l := [b]) (by simp)
  have L2 := A.l_win (l := [b]) (by simp)
  repeat ((conv => whnf); first | (refine VCmp.tt (by omega) ?_) | (refine VCmp.ff (by omega) ?_) | (refine VIn.mk (IntWalk.i64_in _ (by omega)) ?_) | (refine VIdx.mk _ rfl (by omega) ?_) | (refine VIdx.mk 0 rfl (by omega) ?_))
  try (conv => whnf)
  refine VDraw.mk 1000 [] [0, 1, 2, 3, 4, 5, 6, 7, 8, 9, 10] (Sm [b] w) (by kernel_rfl) (by kernel_rfl) (Sm.refl _ _) ?_
  repeat ((conv => whnf); first | (refine VLoad.mk _ L1 ?_) | (refine VLoad.mk _ L2 ?_) | (refine VCmp.tt (by omega) ?_) | (refine VCmp.ff (by omega) ?_) | (refine VIn.mk (IntWalk.i64_in _ (by omega)) ?_) | (refine VIdx.mk _ rfl (by omega) ?_) | (refine VIdx.mk 0 rfl (by omega) ?_))
  try (conv => whnf)
  exact .mk ⟨by unfold Os.most; rw [Int.natCast_mul]; rfl, (Below.refl _ _).drew⟩
set_option maxRecDepth 100000 in
theorem done_any (A : OrdAt w K r b o X) : Calls Try.prog 13 #[.pointer (some ⟨b, 0, none⟩)] w fun e w' => e = .returned (.int .i64 o.done) ∧ w' = w := by
  refine calls_vc tab_ok Try.func13 rfl ?_
  conv => whnf
  have L1 := A.l_done (l := [b]) (by simp)
  repeat ((conv => whnf); first | (refine VLoad.mk _ (L1.at (Sm.refl _ _)) ?_) | (refine VCmp.tt (by omega) ?_) | (refine VCmp.ff (by omega) ?_) | (refine VIn.mk (IntWalk.i64_in _ (by omega)) ?_) | (refine VIdx.mk _ rfl (by omega) ?_) | (refine VIdx.mk 0 rfl (by omega) ?_))
  try (conv => whnf)
  exact .mk ⟨rfl, rfl⟩
set_option maxRecDepth 100000 in
theorem prefix_any (A : OrdAt w K r b o X) : Calls Try.prog 14 #[.pointer (some ⟨b, 0, none⟩)] w fun e w' => e = .returned (.int .i64 o.pre) ∧ w' = w := by
  refine calls_vc tab_ok Try.func14 rfl ?_
  conv => whnf
  have L1 := A.l_pre (l := [b]) (by simp)
  repeat ((conv => whnf); first | (refine VLoad.mk _ (L1.at (Sm.refl _ _)) ?_) | (refine VCmp.tt (by omega) ?_) | (refine VCmp.ff (by omega) ?_) | (refine VIn.mk (IntWalk.i64_in _ (by omega)) ?_) | (refine VIdx.mk _ rfl (by omega) ?_) | (refine VIdx.mk 0 rfl (by omega) ?_))
  try (conv => whnf)
  exact .mk ⟨rfl, rfl⟩
set_option maxRecDepth 100000 in
theorem held_any (A : OrdAt w K r b o X) : Calls Try.prog 15 #[.pointer (some ⟨b, 0, none⟩)] w fun e w' => e = .returned (.int .i64 o.held.length) ∧ w' = w := by
  refine calls_vc tab_ok Try.func15 rfl ?_
  conv => whnf
  have L1 := A.l_held (l := [b]) (by simp)
  have hl : X.hl.length = o.held.length := by rw [← A.rs.hd, List.length_map]
  repeat ((conv => whnf); first | (refine VLoad.mk _ (L1.at (Sm.refl _ _)) ?_) | (refine VCmp.tt (by omega) ?_) | (refine VCmp.ff (by omega) ?_) | (refine VIn.mk (IntWalk.i64_in _ (by omega)) ?_) | (refine VIdx.mk _ rfl (by omega) ?_) | (refine VIdx.mk 0 rfl (by omega) ?_))
  try (conv => whnf)
  refine VQ.mk (.int .i64 o.held.length) (fun a ha W hW => ?_) ?_
  · subst hW
    have h3 := ha (.tmp 6) _ rfl
    have := A.rs.map.len (ty := 3)
    rw [hl] at this
    simp only [execOp, resolve, invoke, builtin, h3, Sem.run_bind, Sem.run_pure, Result.andThen_ok, this, List.map_cons, List.map_nil, List.map_toArray]
  repeat ((conv => whnf); first | (refine VCmp.tt (by omega) ?_) | (refine VCmp.ff (by omega) ?_) | (refine VIn.mk (IntWalk.i64_in _ (by omega)) ?_) | (refine VIdx.mk _ rfl (by omega) ?_) | (refine VIdx.mk 0 rfl (by omega) ?_))
  try (conv => whnf)
  exact .mk ⟨rfl, rfl⟩
set_option maxRecDepth 100000 in
theorem free_any (A : OrdAt w K r b o X) (hs : o.self < 16) (h1 : o.taken o.self ≤ 4611686018427387904) (h2 : o.gone o.self ≤ 4611686018427387904) (h3 : o.win ≤ 8) : Calls Try.prog 16 #[.pointer (some ⟨b, 0, none⟩)] w fun e w' => e = .returned (.int .i64 o.free) ∧ Below w.heap.size w w' := by
  refine calls_vc tab_ok Try.func16 rfl ?_
  conv => whnf
  have L0 := A.l_frz (l := [b]) (by simp)
  cases hf : o.frz with
  | true =>
    rw [hf] at L0
    repeat ((conv => whnf); first | (refine VLoad.mk _ (L0.at (Sm.refl _ _)) ?_) | (refine VCmp.tt (by omega) ?_) | (refine VCmp.ff (by omega) ?_) | (refine VIn.mk (IntWalk.i64_in _ (by omega)) ?_) | (refine VIdx.mk _ rfl (by omega) ?_) | (refine VIdx.mk 0 rfl (by omega) ?_))
    try (conv => whnf)
    exact .mk ⟨by unfold Os.free; rw [hf]; rfl, Below.refl _ _⟩
  | false =>
    rw [hf] at L0
    have L1 := A.l_win (l := [b]) (by simp)
    have L2 := A.l_self (l := [b]) (by simp)
    have L3 := A.l_taken (l := [b]) (by simp) hs
    have L4 := A.l_gone (l := [b]) (by simp) hs
    repeat ((conv => whnf); first | (refine VLoad.mk _ (L0.at (Sm.refl _ _)) ?_) | (refine VCmp.tt (by omega) ?_) | (refine VCmp.ff (by omega) ?_) | (refine VIn.mk (IntWalk.i64_in _ (by omega)) ?_) | (refine VIdx.mk _ rfl (by omega) ?_) | (refine VIdx.mk 0 rfl (by omega) ?_))
    try (conv => whnf)
    refine VDraw.mk 1000 [] [0, 1, 2, 3, 4, 5, 6, 7, 8, 9, 10, 11, 12, 13, 14, 15, 16, 17, 18, 19, 20, 21, 22, 23, 24] (Sm [b] w) (by kernel_rfl) (by kernel_rfl) (Sm.refl _ _) ?_
    repeat ((conv => whnf); first | (refine VLoad.mk _ L1 ?_) | (refine VLoad.mk _ L2 ?_) | (refine VLoad.mk _ L3 ?_) | (refine VLoad.mk _ L4 ?_) | (refine VCmp.tt (by omega) ?_) | (refine VCmp.ff (by omega) ?_) | (refine VIn.mk (IntWalk.i64_in _ (by omega)) ?_) | (refine VIdx.mk _ rfl (by omega) ?_) | (refine VIdx.mk 0 rfl (by omega) ?_))
    try (conv => whnf)
    exact .mk ⟨by unfold Os.free; rw [hf]; rfl, (Below.refl _ _).drew⟩
end
end Go.Proofs.Ytoilipfgimcoiaa
namespace Go.Proofs.Ytoilipfgimcoiaa
open Go Go.RowKit
theorem ite_else {p : Prop} [Decidable p] {a b c : Value} (h : ¬ p → b = c) : (if p then a else b) = (if p then a else c) := by
  by_cases hp : p
  · rw [if_pos hp, if_pos hp]
  · rw [if_neg hp, if_neg hp]; exact h hp
section
variable {K : Nat → Nat} {w w' : World} {r b : Nat} {o : Os} {X : OsX}
theorem CellsO.s_seen (h : CellsO w b o X) {s j : Nat} (hs : s < 16) (v : Bool) (hj : j = 8 + s) (hw : w' = w.setCell ⟨b, j, none⟩ (Value.bool v)) : CellsO w' b { o with seen := upN o.seen s v } X := by
  subst hj
  refine h.put hw (by omega) (by rw [cellO_seen hs]; show Value.bool (upN o.seen s v s) = _; rw [upN_same]) fun i hi hne => ?_
  unfold cellO
  iterate 8 refine ite_else fun _ => ?_
  by_cases hi2 : i < 24
  · rw [if_pos hi2, if_pos hi2]
    show Value.bool (upN o.seen s v (i - 8)) = _
    rw [upN_ne _ _ (by omega)]
  · rw [if_neg hi2, if_neg hi2]
theorem OrdAt.s_seen (h : OrdAt w K r b o X) {s j : Nat} (hs : s < 16) (v : Bool) (hj : j = 8 + s) (hw : w' = w.setCell ⟨b, j, none⟩ (Value.bool v)) : OrdAt w' K r b { o with seen := upN o.seen s v } X ∧ Ro (· = r) K K w w' := by
  have q : Ro (· = r) K K w w' := by rw [hw]; exact Ro.cell h.kb _ _
  have R := h.rs.ro q (by have := h.r0; omega) (by omega) (by omega) (by omega)
  exact ⟨⟨h.r0, h.kb, fun b hb => h.kz b (Nat.le_trans q.size hb), h.cs.s_seen hs v hj hw, R.mem, R.map, R.km, R.hd, R.bod, R.q, R.s⟩, q⟩
theorem CellsO.s_taken (h : CellsO w b o X) {s j : Nat} (hs : s < 16) (v : Nat) (hj : j = 24 + s) (hw : w' = w.setCell ⟨b, j, none⟩ (Value.int .i64 v)) : CellsO w' b { o with taken := upN o.taken s v } X := by
  subst hj
  refine h.put hw (by omega) (by rw [cellO_taken hs]; show Value.int .i64 ((upN o.taken s v s : Nat) : Int) = _; rw [upN_same]) fun i hi hne => ?_
  unfold cellO
  iterate 9 refine ite_else fun _ => ?_
  by_cases hi2 : i < 40
  · rw [if_pos hi2, if_pos hi2]
    show Value.int .i64 ((upN o.taken s v (i - 24) : Nat) : Int) = _
    rw [upN_ne _ _ (by omega)]
  · rw [if_neg hi2, if_neg hi2]
theorem OrdAt.s_taken (h : OrdAt w K r b o X) {s j : Nat} (hs : s < 16) (v : Nat) (hj : j = 24 + s) (hw : w' = w.setCell ⟨b, j, none⟩ (Value.int .i64 v)) : OrdAt w' K r b { o with taken := upN o.taken s v } X ∧ Ro (· = r) K K w w' := by
  have q : Ro (· = r) K K w w' := by rw [hw]; exact Ro.cell h.kb _ _
  have R := h.rs.ro q (by have := h.r0; omega) (by omega) (by omega) (by omega)
  exact ⟨⟨h.r0, h.kb, fun b hb => h.kz b (Nat.le_trans q.size hb), h.cs.s_taken hs v hj hw, R.mem, R.map, R.km, R.hd, R.bod, R.q, R.s⟩, q⟩
theorem CellsO.s_placed (h : CellsO w b o X) {s j : Nat} (hs : s < 16) (v : Nat) (hj : j = 40 + s) (hw : w' = w.setCell ⟨b, j, none⟩ (Value.int .i64 v)) : CellsO w' b { o with placed := upN o.placed s v } X := by
  subst hj
  refine h.put hw (by omega) (by rw [cellO_placed hs]; show Value.int .i64 ((upN o.placed s v s : Nat) : Int) = _; rw [upN_same]) fun i hi hne => ?_
  unfold cellO
  iterate 10 refine ite_else fun _ => ?_
  by_cases hi2 : i < 56
  · rw [if_pos hi2, if_pos hi2]
    show Value.int .i64 ((upN o.placed s v (i - 40) : Nat) : Int) = _
    rw [upN_ne _ _ (by omega)]
  · rw [if_neg hi2, if_neg hi2]
theorem OrdAt.s_placed (h : OrdAt w K r b o X) {s j : Nat} (hs : s < 16) (v : Nat) (hj : j = 40 + s) (hw : w' = w.setCell ⟨b, j, none⟩ (Value.int .i64 v)) : OrdAt w' K r b { o with placed := upN o.placed s v } X ∧ Ro (· = r) K K w w' := by
  have q : Ro (· = r) K K w w' := by rw [hw]; exact Ro.cell h.kb _ _
  have R := h.rs.ro q (by have := h.r0; omega) (by omega) (by omega) (by omega)
  exact ⟨⟨h.r0, h.kb, fun b hb => h.kz b (Nat.le_trans q.size hb), h.cs.s_placed hs v hj hw, R.mem, R.map, R.km, R.hd, R.bod, R.q, R.s⟩, q⟩
theorem CellsO.s_gone (h : CellsO w b o X) {s j : Nat} (hs : s < 16) (v : Nat) (hj : j = 56 + s) (hw : w' = w.setCell ⟨b, j, none⟩ (Value.int .i64 v)) : CellsO w' b { o with gone := upN o.gone s v } X := by
  subst hj
  refine h.put hw (by omega) (by rw [cellO_gone hs]; show Value.int .i64 ((upN o.gone s v s : Nat) : Int) = _; rw [upN_same]) fun i hi hne => ?_
  unfold cellO
  iterate 11 refine ite_else fun _ => ?_
  by_cases hi2 : i < 72
  · rw [if_pos hi2, if_pos hi2]
    show Value.int .i64 ((upN o.gone s v (i - 56) : Nat) : Int) = _
    rw [upN_ne _ _ (by omega)]
  · rw [if_neg hi2, if_neg hi2]
theorem OrdAt.s_gone (h : OrdAt w K r b o X) {s j : Nat} (hs : s < 16) (v : Nat) (hj : j = 56 + s) (hw : w' = w.setCell ⟨b, j, none⟩ (Value.int .i64 v)) : OrdAt w' K r b { o with gone := upN o.gone s v } X ∧ Ro (· = r) K K w w' := by
  have q : Ro (· = r) K K w w' := by rw [hw]; exact Ro.cell h.kb _ _
  have R := h.rs.ro q (by have := h.r0; omega) (by omega) (by omega) (by omega)
  exact ⟨⟨h.r0, h.kb, fun b hb => h.kz b (Nat.le_trans q.size hb), h.cs.s_gone hs v hj hw, R.mem, R.map, R.km, R.hd, R.bod, R.q, R.s⟩, q⟩
theorem CellsO.s_told (h : CellsO w b o X) {s j : Nat} (hs : s < 16) (v : Nat) (hj : j = 72 + s) (hw : w' = w.setCell ⟨b, j, none⟩ (Value.int .i64 v)) : CellsO w' b { o with told := upN o.told s v } X := by
  subst hj
  refine h.put hw (by omega) (by rw [cellO_told hs]; show Value.int .i64 ((upN o.told s v s : Nat) : Int) = _; rw [upN_same]) fun i hi hne => ?_
  unfold cellO
  iterate 12 refine ite_else fun _ => ?_
  by_cases hi2 : i < 88
  · rw [if_pos hi2, if_pos hi2]
    show Value.int .i64 ((upN o.told s v (i - 72) : Nat) : Int) = _
    rw [upN_ne _ _ (by omega)]
  · rw [if_neg hi2, if_neg hi2]
theorem OrdAt.s_told (h : OrdAt w K r b o X) {s j : Nat} (hs : s < 16) (v : Nat) (hj : j = 72 + s) (hw : w' = w.setCell ⟨b, j, none⟩ (Value.int .i64 v)) : OrdAt w' K r b { o with told := upN o.told s v } X ∧ Ro (· = r) K K w w' := by
  have q : Ro (· = r) K K w w' := by rw [hw]; exact Ro.cell h.kb _ _
  have R := h.rs.ro q (by have := h.r0; omega) (by omega) (by omega) (by omega)
  exact ⟨⟨h.r0, h.kb, fun b hb => h.kz b (Nat.le_trans q.size hb), h.cs.s_told hs v hj hw, R.mem, R.map, R.km, R.hd, R.bod, R.q, R.s⟩, q⟩
theorem OrdAt.s_pre (h : OrdAt w K r b o X) (v : Nat) {j : Nat} (hj : j = 91) (hw : w' = w.setCell ⟨b, j, none⟩ (Value.int .i64 v)) : OrdAt w' K r b { o with pre := v } X ∧ Ro (· = r) K K w w' := by
  subst hj
  have q : Ro (· = r) K K w w' := by rw [hw]; exact Ro.cell h.kb _ _
  have R := h.rs.ro q (by have := h.r0; omega) (by omega) (by omega) (by omega)
  refine ⟨⟨h.r0, h.kb, fun b hb => h.kz b (Nat.le_trans q.size hb), h.cs.put hw (by omega) rfl fun i hi hne => ?_, R.mem, R.map, R.km, R.hd, R.bod, R.q, R.s⟩, q⟩
  unfold cellO
  simp only [if_neg hne]
theorem OrdAt.s_done (h : OrdAt w K r b o X) (v : Nat) {j : Nat} (hj : j = 92) (hw : w' = w.setCell ⟨b, j, none⟩ (Value.int .i64 v)) : OrdAt w' K r b { o with done := v } X ∧ Ro (· = r) K K w w' := by
  subst hj
  have q : Ro (· = r) K K w w' := by rw [hw]; exact Ro.cell h.kb _ _
  have R := h.rs.ro q (by have := h.r0; omega) (by omega) (by omega) (by omega)
  refine ⟨⟨h.r0, h.kb, fun b hb => h.kz b (Nat.le_trans q.size hb), h.cs.put hw (by omega) rfl fun i hi hne => ?_, R.mem, R.map, R.km, R.hd, R.bod, R.q, R.s⟩, q⟩
  unfold cellO
  simp only [if_neg hne]
theorem OrdAt.s_mine (h : OrdAt w K r b o X) (v : Nat) {j : Nat} (hj : j = 93) (hw : w' = w.setCell ⟨b, j, none⟩ (Value.int .i64 v)) : OrdAt w' K r b { o with mine := v } X ∧ Ro (· = r) K K w w' := by
  subst hj
  have q : Ro (· = r) K K w w' := by rw [hw]; exact Ro.cell h.kb _ _
  have R := h.rs.ro q (by have := h.r0; omega) (by omega) (by omega) (by omega)
  refine ⟨⟨h.r0, h.kb, fun b hb => h.kz b (Nat.le_trans q.size hb), h.cs.put hw (by omega) rfl fun i hi hne => ?_, R.mem, R.map, R.km, R.hd, R.bod, R.q, R.s⟩, q⟩
  unfold cellO
  iterate 18 refine ite_else fun _ => ?_
  omega
theorem OrdAt.s_frz (h : OrdAt w K r b o X) (v : Bool) {j : Nat} (hj : j = 7) (hw : w' = w.setCell ⟨b, j, none⟩ (Value.bool v)) : OrdAt w' K r b { o with frz := v } X ∧ Ro (· = r) K K w w' := by
  subst hj
  have q : Ro (· = r) K K w w' := by rw [hw]; exact Ro.cell h.kb _ _
  have R := h.rs.ro q (by have := h.r0; omega) (by omega) (by omega) (by omega)
  refine ⟨⟨h.r0, h.kb, fun b hb => h.kz b (Nat.le_trans q.size hb), h.cs.put hw (by omega) rfl fun i hi hne => ?_, R.mem, R.map, R.km, R.hd, R.bod, R.q, R.s⟩, q⟩
  unfold cellO
  simp only [if_neg hne]
theorem OrdAt.s_queue {K' : Nat → Nat} {w1 : World} (h : OrdAt w K r b o X) {A : Option Addr} {c n : Nat} {l : List Sl} (hl : l.length = n) (Q1 : OwnO w1 K' (r + 2) 2 eSl A c l) (q1 : Ro (· = r + 2) K K' w w1) (kz : ∀ b, w1.heap.size ≤ b → K' b = 0) {j : Nat} (hj : j = 89) (hw : w' = w1.setCell ⟨b, j, none⟩ (.slice A n c)) :
    OrdAt w' K' r b { o with queue := l } { X with qA := A, qc := c } ∧ Ro (fun x => x = r ∨ x = r + 2) K K' w w' := by
  subst hj
  subst hl
  have r0 := h.r0
  have kb : K' b = r := (q1.kk b h.cs.hb).trans h.kb
  have q2 : Ro (· = r) K' K' w1 w' := by rw [hw]; exact Ro.cell kb _ _
  have q : Ro (fun x => x = r ∨ x = r + 2) K K' w w' := (q1.more fun _ e => .inr e).trans (q2.more fun _ e => .inl e)
  have c1 := h.cs.same q1.size (q1.same b h.cs.hb (by rw [h.kb]; omega))
  have Q := Q1.ro q2 (by omega)
  refine ⟨⟨r0, kb, fun b hb => kz b (Nat.le_trans q2.size hb), c1.put hw (by omega) rfl fun i hi hne => ?_, h.rs.mem.ro q (by omega), h.rs.map.same (q.same _ h.rs.map.lt (by rw [h.rs.km]; omega)), (q.kk _ h.rs.map.lt).trans h.rs.km, h.rs.hd, fun y hy => (h.rs.bod y hy).ro q (by omega), Q, h.rs.s.ro q (by omega)⟩, q⟩
  unfold cellO
  simp only [if_neg hne]
theorem OrdAt.s_slots {K' : Nat → Nat} {w1 : World} (h : OrdAt w K r b o X) {A : Option Addr} {c n : Nat} {l : List Sl} (hl : l.length = n) (Q1 : OwnO w1 K' (r + 3) 2 eSl A c l) (q1 : Ro (· = r + 3) K K' w w1) (kz : ∀ b, w1.heap.size ≤ b → K' b = 0) {j : Nat} (hj : j = 90) (hw : w' = w1.setCell ⟨b, j, none⟩ (.slice A n c)) :
    OrdAt w' K' r b { o with slots := l } { X with sA := A, sc := c } ∧ Ro (fun x => x = r ∨ x = r + 3) K K' w w' := by
  subst hj
  subst hl
  have r0 := h.r0
  have kb : K' b = r := (q1.kk b h.cs.hb).trans h.kb
  have q2 : Ro (· = r) K' K' w1 w' := by rw [hw]; exact Ro.cell kb _ _
  have q : Ro (fun x => x = r ∨ x = r + 3) K K' w w' := (q1.more fun _ e => .inr e).trans (q2.more fun _ e => .inl e)
  have c1 := h.cs.same q1.size (q1.same b h.cs.hb (by rw [h.kb]; omega))
  have Q := Q1.ro q2 (by omega)
  refine ⟨⟨r0, kb, fun b hb => kz b (Nat.le_trans q2.size hb), c1.put hw (by omega) rfl fun i hi hne => ?_, h.rs.mem.ro q (by omega), h.rs.map.same (q.same _ h.rs.map.lt (by rw [h.rs.km]; omega)), (q.kk _ h.rs.map.lt).trans h.rs.km, h.rs.hd, fun y hy => (h.rs.bod y hy).ro q (by omega), h.rs.q.ro q (by omega), Q⟩, q⟩
  unfold cellO
  simp only [if_neg hne]
end
end Go.Proofs.Ytoilipfgimcoiaa
