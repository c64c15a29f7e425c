/- A map that the call itself has made, as a partial function from keys to values: made, looked up, stored into. Over any program. -/
import Derived.Test.YtcffhfcjfjfokaaLib
import Derived.Maps.OwnOps
import Derived.DeepKeys4
namespace Go.Proofs.Ytcffhfcjfjfokaa
open Go.RowKit
open Go.Maps (Keyed)

/-- Block b is a map of at most n entries that holds just f. -/
def MapsTo {κ ν : Type} (w : World) (P : Program) (K : TypeId) (b n : Nat) (ek : κ → Value) (ev : ν → Value) (f : κ → Option ν) : Prop :=
  ∃ es clock, w.heap[b]? = some (.map es clock) ∧ es.size ≤ n ∧
    (∀ e ∈ es.toList, ∃ k v, e.key = ek k ∧ e.val = ev v ∧ f k = some v ∧ ∃ l, keyOf P K (ek k) = some l) ∧
    (∀ k v, f k = some v → ∃ e ∈ es.toList, e.key = ek k) ∧ es.toList.Pairwise (fun a b => a.key ≠ b.key)

section
variable {κ ν : Type} {w w' : World} {P : Program} {K e t : TypeId} {b n : Nat} {ek : κ → Value} {ev : ν → Value} {f : κ → Option ν}
theorem mapsTo_made (w : World) (P : Program) (K : TypeId) (ek : κ → Value) (ev : ν → Value) : MapsTo (w.alloc (.map #[] 0)) P K w.heap.size 0 ek ev (fun _ => none) :=
  ⟨#[], 0, (MapKept.heap_alloc w _).1, Nat.le_refl _, by simp, by simp, by simp⟩
theorem MapsTo.mono (h : MapsTo w P K b n ek ev f) {n' : Nat} (hn : n ≤ n') : MapsTo w P K b n' ek ev f := by
  obtain ⟨es, clock, h1, h2, h3⟩ := h
  exact ⟨es, clock, h1, by omega, h3⟩
theorem MapsTo.lt (h : MapsTo w P K b n ek ev f) : b < w.heap.size := by
  obtain ⟨es, clock, hb, _⟩ := h
  exact (Array.getElem?_eq_some_iff.1 hb).1
theorem MapsTo.keep {B : Nat} (h : MapsTo w P K b n ek ev f) (hb : Below B w w') (hB : b < B) : MapsTo w' P K b n ek ev f := by
  obtain ⟨es, clock, h1, h2⟩ := h
  exact ⟨es, clock, (hb.block b hB).trans h1, h2⟩
theorem MapsTo.kept {row : Option Nat} (h : MapsTo w P K b n ek ev f) (hg : w.grownBy w' row) (hne : some b ≠ row) : MapsTo w' P K b n ek ev f := by
  have hlt := h.lt
  obtain ⟨es, clock, h1, h2⟩ := h
  exact ⟨es, clock, (hg.block b hlt hne).trans h1, h2⟩
theorem MapsTo.alloc (h : MapsTo w P K b n ek ev f) (o : Obj) : MapsTo (w.alloc o) P K b n ek ev f := h.kept (World.grownBy_alloc w o none) (by simp)
theorem MapsTo.drewN (h : MapsTo w P K b n ek ev f) (k : Nat) : MapsTo (w.drewN k) P K b n ek ev f := h
theorem MapsTo.setCell (h : MapsTo w P K b n ek ev f) {a : Addr} (ha : a.block ≠ b) (u : Value) : MapsTo (w.setCell a u) P K b n ek ev f := by
  obtain ⟨es, clock, h1, h2⟩ := h
  exact ⟨es, clock, (Below.heap_setCell w a u b (fun e => ha e.symm)).trans h1, h2⟩

theorem MapsTo.look (h : MapsTo w P K b n ek ev f) (L : Keyed P K) (hinj : ∀ x y, ek x = ek y → x = y) (ht : P.underlying t = some (.map K e)) {z : Value} (hz : (zeroValue e).run P w = .ok z w) (c : Bool)
    (k : κ) (hk : ∃ l, keyOf P K (ek k) = some l) :
    (Instr.lookup t (.map (some b)) (ek k) c).run P w = .ok (if c then .tuple #[(match f k with | some v => ev v | none => z), .bool (f k).isSome] else (match f k with | some v => ev v | none => z)) w := by
  obtain ⟨l, hl⟩ := hk
  obtain ⟨es, clock, hb, _, h1, h2, h3⟩ := h
  rcases L.find w hl es.toList (fun x hx => by obtain ⟨k', v, hk', _, _, hl'⟩ := h1 x hx; rw [hk']; exact hl') with ⟨r1, r2⟩ | ⟨j, e0, r1, r2, r3⟩
  · have hf : f k = none := by
      cases hfk : f k with
      | none => rfl
      | some v => obtain ⟨x, hx, he⟩ := h2 k v hfk; exact absurd he (r2 x hx)
    rw [hf]
    simp [Instr.lookup, run_underlying ht, MapKept.run_getObj_map hb, L.check w _ hl, r1, hz, Result.andThen]
  · obtain ⟨k', v, hk', hv, hfv, _⟩ := h1 e0 (List.mem_of_getElem? r2)
    have hkk : k' = k := hinj _ _ (hk'.symm.trans r3)
    subst hkk
    rw [hfv, hv] at *
    simp [Instr.lookup, run_underlying ht, MapKept.run_getObj_map hb, L.check w _ hl, r1, hv, Result.andThen]

theorem MapsTo.put [DecidableEq κ] (h : MapsTo w P K b n ek ev f) (L : Keyed P K) (hinj : ∀ x y, ek x = ek y → x = y) (ht : P.underlying t = some (.map K e)) (k : κ) (v : ν) (hk : ∃ l, keyOf P K (ek k) = some l) :
    ∃ w', (Instr.mapUpdate t (.map (some b)) (ek k) (ev v)).run P w = .ok () w' ∧ MapsTo w' P K b (n + 1) ek ev (fun y => if y = k then some v else f y) ∧ w.grownBy w' (some b) := by
  have hlt := h.lt
  obtain ⟨l, hl⟩ := hk
  obtain ⟨es, clock, hb, hn, h1, h2, h3⟩ := h
  have grown : ∀ o : Obj, w.grownBy (ChangeMaps.setBlock w b o) (some b) := fun o =>
    ⟨rfl, rfl, rfl, by simp [ChangeMaps.setBlock], fun i hi hne => by simp only [ChangeMaps.setBlock]; rw [Array.getElem?_setIfInBounds_ne (by rintro rfl; exact hne rfl)]⟩
  have at_ : ∀ o : Obj, (ChangeMaps.setBlock w b o).heap[b]? = some o := fun o => by simp [ChangeMaps.setBlock, hlt]
  rcases L.find w hl es.toList (fun x hx => by obtain ⟨k', v, hk', _, _, hl'⟩ := h1 x hx; rw [hk']; exact hl') with ⟨r1, r2⟩ | ⟨j, e0, r1, r2, r3⟩
  · refine ⟨ChangeMaps.setBlock w b (.map (es.push ⟨ek k, ev v, clock⟩) (clock + 1)), ?_, ⟨es.push ⟨ek k, ev v, clock⟩, clock + 1, at_ _, by simp; omega, ?_, ?_, ?_⟩, grown _⟩
    · simp [Instr.mapUpdate, run_underlying ht, MapKept.run_getObj_map hb, L.check w false hl, r1, MapKept.run_setObj_map _ hb, Result.andThen, ChangeMaps.setBlock]
    · intro x hx
      simp only [Array.toList_push, List.mem_append, List.mem_singleton] at hx
      rcases hx with hx | rfl
      · obtain ⟨k', v', hk', hv', hf', hl'⟩ := h1 x hx
        refine ⟨k', v', hk', hv', ?_, hl'⟩
        show (if k' = k then some v else f k') = some v'
        rw [if_neg (fun he => r2 x hx (by rw [hk', he]))]; exact hf'
      · exact ⟨k, v, rfl, rfl, if_pos rfl, l, hl⟩
    · intro k' v' hf'
      replace hf' : (if k' = k then some v else f k') = some v' := hf'
      by_cases hkk : k' = k
      · subst hkk; exact ⟨⟨ek k', ev v, clock⟩, by simp, rfl⟩
      · rw [if_neg hkk] at hf'
        obtain ⟨x, hx, he⟩ := h2 k' v' hf'
        exact ⟨x, by simp [Array.mem_toList_iff.1 hx], he⟩
    · rw [Array.toList_push, List.pairwise_append]
      exact ⟨h3, by simp, fun x hx y hy => by simp at hy; subst hy; exact r2 x hx⟩
  · have hj : es[j]? = some e0 := by simpa using r2
    have hjl : j < es.size := (Array.getElem?_eq_some_iff.1 hj).1
    have hmod : (es.modify j fun e => { e with key := ek k, val := ev v }).toList = es.toList.set j { e0 with key := ek k, val := ev v } := by
      apply List.ext_getElem?
      intro i
      rw [Array.getElem?_toList, Array.getElem?_modify, List.getElem?_set]
      by_cases hij : j = i
      · subst hij; simp [hj, hjl]; rw [(Array.getElem?_eq_some_iff.1 hj).2]
      · simp [hij]
    have hkeyj : ∀ i x, es.toList[i]? = some x → x.key = ek k → i = j := by
      intro i x hx hxk
      have hi : i < es.toList.length := (List.getElem?_eq_some_iff.1 hx).1
      rcases Nat.lt_trichotomy i j with h | h | h
      · exfalso
        rw [List.pairwise_iff_getElem] at h3
        have := h3 i j hi (by simpa using hjl) h
        rw [(List.getElem?_eq_some_iff.1 hx).2, (List.getElem?_eq_some_iff.1 r2).2] at this
        exact this (by rw [hxk, r3])
      · exact h
      · exfalso
        rw [List.pairwise_iff_getElem] at h3
        have := h3 j i (by simpa using hjl) hi h
        rw [(List.getElem?_eq_some_iff.1 hx).2, (List.getElem?_eq_some_iff.1 r2).2] at this
        exact this (by rw [hxk, r3])
    refine ⟨ChangeMaps.setBlock w b (.map (es.modify j fun e => { e with key := ek k, val := ev v }) clock), ?_, ⟨_, clock, at_ _, by simp; omega, ?_, ?_, ?_⟩, grown _⟩
    · simp [Instr.mapUpdate, run_underlying ht, MapKept.run_getObj_map hb, L.check w false hl, r1, hj, r3, L.stays w hl, MapKept.run_setObj_map _ hb, Result.andThen, ChangeMaps.setBlock]
    · intro x hx
      rw [hmod] at hx
      obtain ⟨i, hi, hxi⟩ := List.getElem_of_mem hx
      rw [List.getElem_set] at hxi
      by_cases hij : j = i
      · rw [if_pos hij] at hxi; subst hxi
        exact ⟨k, v, rfl, rfl, if_pos rfl, l, hl⟩
      · rw [if_neg hij] at hxi
        have hi' : i < es.toList.length := by simpa using hi
        have hmem : es.toList[i] ∈ es.toList := List.getElem_mem hi'
        obtain ⟨k', v', hk', hv', hf', hl'⟩ := h1 _ hmem
        rw [hxi] at hk' hv'
        refine ⟨k', v', hk', hv', ?_, hl'⟩
        show (if k' = k then some v else f k') = some v'
        rw [if_neg (fun he => hij (hkeyj i es.toList[i] (List.getElem?_eq_getElem hi') (by rw [hxi, hk', he])).symm)]; exact hf'
    · intro k' v' hf'
      replace hf' : (if k' = k then some v else f k') = some v' := hf'
      rw [hmod]
      by_cases hkk : k' = k
      · subst hkk
        exact ⟨{ e0 with key := ek k', val := ev v }, List.mem_iff_getElem?.2 ⟨j, by rw [List.getElem?_set]; simp [hjl]⟩, rfl⟩
      · rw [if_neg hkk] at hf'
        obtain ⟨x, hx, he⟩ := h2 k' v' hf'
        obtain ⟨i, hi, rfl⟩ := List.getElem_of_mem hx
        have hij : j ≠ i := by
          rintro rfl
          have : es.toList[j] = e0 := by have := (List.getElem?_eq_some_iff.1 r2).2; exact this
          rw [this, r3] at he
          exact hkk (hinj _ _ he).symm
        exact ⟨es.toList[i], List.mem_iff_getElem?.2 ⟨i, by rw [List.getElem?_set_ne hij]; exact List.getElem?_eq_getElem hi⟩, he⟩
    · rw [hmod, List.pairwise_iff_getElem]
      rw [List.pairwise_iff_getElem] at h3
      intro a c ha hc hac
      have ha' : a < es.toList.length := by simpa using ha
      have hc' : c < es.toList.length := by simpa using hc
      have := h3 a c ha' hc' hac
      rw [List.getElem_set, List.getElem_set]
      have ej : es.toList[j]'(by simpa using hjl) = e0 := (List.getElem?_eq_some_iff.1 r2).2
      by_cases h1 : j = a
      · subst h1
        rw [if_pos rfl, if_neg (by omega)]
        rw [ej] at this; intro he; exact this (by rw [r3]; exact he)
      · rw [if_neg h1]
        by_cases h2 : j = c
        · subst h2
          rw [if_pos rfl]
          rw [ej] at this; intro he; exact this (by rw [r3]; exact he)
        · rw [if_neg h2]; exact this
end

/-- A store into such a map, at the operation. -/
theorem wpList_put {κ ν : Type} [DecidableEq κ] {P : Program} (w : World) {ops : Array Oper} {rest : List Oper} {o : Oper} {a : Act} {Q : Exit → Act → World → Prop}
    (hg : o.guard = none) (m x v : Operand) (t : TypeId) (hop : o.op = Op.mapUpdate t m x v)
    (K e : TypeId) (L : Keyed P K) (ht : P.underlying t = some (.map K e)) (b n : Nat) (ek : κ → Value) (ev : ν → Value) (hinj : ∀ x y, ek x = ek y → x = y) (f : κ → Option ν)
    (hm : a.eval m = .map (some b)) (hown : MapsTo w P K b n ek ev f) (key : κ) (val : ν) (hx : a.eval x = ek key) (hv : a.eval v = ev val) (hkey : ∃ l, keyOf P K (ek key) = some l)
    (hK : ∀ w', MapsTo w' P K b (n + 1) ek ev (fun y => if y = key then some val else f y) → w.grownBy w' (some b) → wpList P ops Q rest (a.put o.dst undef) w') :
    wpList P ops Q (o :: rest) a w := by
  refine wpList_plain hg fun K' hK' => ?_
  obtain ⟨w', hrun, r1, r2⟩ := hown.put L hinj ht key val hkey
  unfold Oper.wp
  simp [execOp, hop, hm, hx, hv, hrun, Result.andThen]
  exact hK' _ _ (hK w' r1 r2)

end Go.Proofs.Ytcffhfcjfjfokaa
