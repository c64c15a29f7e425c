/- RAgent Small View AppO Lt98, joined. -/
import Derived.StillTailTactics
import Derived.Test.YtfbeggdbjpmppaaMw1
import Derived.Test.YtfbeggdbjpmppaaMw3
import Derived.Test.YtfbeggdbjpmppaaMw4
set_option linter.unusedVariables false
set_option linter.unusedSimpArgs false
/- The document's agent as it lies in memory: nineteen cells, and its lists; what each store makes of it. -/
namespace Go.Proofs.Ytfbeggdbjpmppaa
open Go.RowKit
/-- A row elsewhere than the blocks of F. -/
def RowF {α : Type} (w : World) (F : List Nat) (sz : Nat) (enc : α → List Value) (A : Option Addr) (l : List α) : Prop :=
  0 < l.length → ∃ b off, A = some ⟨b, off, none⟩ ∧ b < w.heap.size ∧ b ∉ F ∧ ∀ k x, l[k]? = some x → ∀ j u, (enc x)[j]? = some u → w.cell? ⟨b, off + k * sz + j, none⟩ = some u
/-- What was there is as it was, other than block b and block o. -/
structure Chg (w w' : World) (b : Nat) (o : Option Nat) : Prop where
  os : w'.os = w.os
  tape : w'.tape = w.tape
  output : w'.output = w.output
  size : w.heap.size ≤ w'.heap.size
  block : ∀ k, k < w.heap.size → k ≠ b → some k ≠ o → w'.heap[k]? = w.heap[k]?
section
variable {α : Type} {w w' w'' : World} {F F' : List Nat} {sz b : Nat} {o : Option Nat} {enc : α → List Value} {A : Option Addr} {l : List α}
theorem RowF.row (h : RowF w F sz enc A l) : RowAt w w.heap.size sz enc A l := fun h0 => by
  obtain ⟨g, off, e, h1, _, h3⟩ := h h0
  exact ⟨g, off, e, h1, h3⟩
theorem RowF.keep (h : RowF w F sz enc A l) (hs : w.heap.size ≤ w'.heap.size) (hk : ∀ k, k < w.heap.size → k ∉ F → w'.heap[k]? = w.heap[k]?) : RowF w' F sz enc A l := fun h0 => by
  obtain ⟨g, off, e, h1, h2, h3⟩ := h h0
  exact ⟨g, off, e, by omega, h2, fun k x hx j u hu => (World.cell?_of_block (hk g h1 h2)).trans (h3 k x hx j u hu)⟩
theorem RowF.chg (h : RowF w F sz enc A l) (c : Chg w w' b o) (hb : b ∈ F) (ho : ∀ k, o = some k → k ∈ F) : RowF w' F sz enc A l :=
  h.keep c.size fun k hk hF => c.block k hk (fun e => hF (e ▸ hb)) (fun e => hF (ho k e.symm))
theorem RowF.below (h : RowF w F sz enc A l) (hb : Below w.heap.size w w') : RowF w' F sz enc A l := h.keep hb.size fun k hk _ => hb.block k hk
theorem RowF.more (h : RowF w F sz enc A l) (hF : ∀ x ∈ F', x ∈ F ∨ w.heap.size ≤ x) : RowF w F' sz enc A l := fun h0 => by
  obtain ⟨g, off, e, h1, h2, h3⟩ := h h0
  exact ⟨g, off, e, h1, fun hg => (hF g hg).elim h2 (by omega), h3⟩
theorem RowF.sets (h : RowF w F sz enc A l) (hb : b ∈ F) (off : Nat) (vs : List Value) : RowF (w.setCells b off vs) F sz enc A l :=
  h.keep (by rw [size_sets]; exact Nat.le_refl _) fun k hk hF => (grown_sets b vs off w).block k hk (fun e => hF (by injection e with e; exact e ▸ hb))
/-- A new row. -/
theorem RowF.ofOwns {base : Nat} {e : TypeId} {c : Nat} (h : Owns w base e sz enc A c l) (hsz : ∀ x, (enc x).length = sz) (hF : ∀ x ∈ F, x < base) : RowF w F sz enc A l := fun h0 => by
  obtain ⟨g, off, e1, h1, h3⟩ := h.row hsz h0
  have := (h.lo g (by rw [e1]; rfl)).1
  exact ⟨g, off, e1, h1, fun hg => by have := hF g hg; omega, h3⟩
theorem rowF_nil : RowF w F sz enc A [] := fun h => by simp at h
theorem Chg.refl : Chg w w b o := ⟨rfl, rfl, rfl, Nat.le_refl _, fun _ _ _ _ => rfl⟩
theorem Chg.trans (h : Chg w w' b o) (h' : Chg w' w'' b o) : Chg w w'' b o :=
  ⟨h'.os.trans h.os, h'.tape.trans h.tape, h'.output.trans h.output, Nat.le_trans h.size h'.size, fun k hk e1 e2 => (h'.block k (Nat.lt_of_lt_of_le hk h.size) e1 e2).trans (h.block k hk e1 e2)⟩
theorem Chg.ofBelow (h : Below w.heap.size w w') : Chg w w' b o := ⟨h.os, h.tape, h.output, h.size, fun k hk _ _ => h.block k hk⟩
theorem Chg.ofGrown (h : w.grownBy w' (some b)) : Chg w w' b o := ⟨h.os, h.tape, h.output, h.size, fun k hk e _ => h.block k hk (fun e2 => e (by injection e2))⟩
theorem Chg.ofGrown2 (h : w.grownBy w' o) : Chg w w' b o := ⟨h.os, h.tape, h.output, h.size, fun k hk _ e => h.block k hk e⟩
theorem Chg.sets (off : Nat) (vs : List Value) : Chg w (w.setCells b off vs) b o := Chg.ofGrown (grown_sets b vs off w)
/-- Behind a change of another block. -/
theorem Chg.new (h : Chg w w' b o) {o' : Option Nat} (ho : o' = o ∨ ∃ k, o' = some k ∧ w.heap.size ≤ k) (h' : Chg w' w'' b o') : Chg w w'' b o :=
  ⟨h'.os.trans h.os, h'.tape.trans h.tape, h'.output.trans h.output, Nat.le_trans h.size h'.size, fun k hk e1 e2 => (h'.block k (Nat.lt_of_lt_of_le hk h.size) e1 (fun e => by
    rcases ho with e3 | ⟨j, e3, e4⟩
    · exact e2 (e.trans e3)
    · rw [e3] at e; injection e with e; omega)).trans (h.block k hk e1 e2)⟩
end
/-- A proposal that was taken, as it lies in a list. -/
structure HdR where
  h : Hd
  S : Option Addr
  cS : Nat
  V : Option Addr
  cV : Nat
abbrev prL (S : Option Addr) (cS : Nat) (V : Option Addr) (cV : Nat) (p : Pr) : List Value := [.slice S p.set.length cS, .int .i64 p.cid, .int .i64 p.rev, .int .i64 p.top, .int .i64 p.prev.e, .int .i64 p.prev.l, .int .i64 p.prev.i, .int .i64 p.prev.c, .slice V p.vec.length cV]
def eHd (r : HdR) : List Value := .int .i64 r.h.q :: .int .i64 r.h.inc :: prL r.S r.cS r.V r.cV r.h.p
theorem len_eHd (x : HdR) : (eHd x).length = 11 := rfl
theorem one_eHd (x : HdR) : ∀ u ∈ eHd x, u.oneCell' = true := by intro u hu; simp [eHd, prL] at hu; rcases hu with rfl | rfl | rfl | rfl | rfl | rfl | rfl | rfl | rfl | rfl | rfl <;> rfl
/-- Where the lists of a document's agent lie. -/
structure Ptrs where
  M : Option Addr
  cM : Nat
  S : Option Addr
  cS : Nat
  V : Option Addr
  cV : Nat
  A : Option Addr
  cA : Nat
structure RefAt (w : World) (b : Nat) (F : List Nat) (s : St) (hs : List HdR) (X : Ptrs) : Prop where
  n : w.cell? ⟨b, 0, none⟩ = some (.int .i64 s.n)
  self : w.cell? ⟨b, 1, none⟩ = some (.int .i64 s.self)
  inc : w.cell? ⟨b, 2, none⟩ = some (.int .i64 s.inc)
  ve : w.cell? ⟨b, 3, none⟩ = some (.int .i64 s.vid.e)
  vl : w.cell? ⟨b, 4, none⟩ = some (.int .i64 s.vid.l)
  vi : w.cell? ⟨b, 5, none⟩ = some (.int .i64 s.vid.i)
  vc : w.cell? ⟨b, 6, none⟩ = some (.int .i64 s.vid.c)
  mem : w.cell? ⟨b, 7, none⟩ = some (.slice X.M s.mem.length X.cM)
  opn : w.cell? ⟨b, 8, none⟩ = some (.bool s.opn)
  set : w.cell? ⟨b, 9, none⟩ = some (.slice X.S s.n X.cS)
  cid : w.cell? ⟨b, 10, none⟩ = some (.int .i64 s.own.cid)
  rev : w.cell? ⟨b, 11, none⟩ = some (.int .i64 s.own.rev)
  top : w.cell? ⟨b, 12, none⟩ = some (.int .i64 s.own.top)
  pe : w.cell? ⟨b, 13, none⟩ = some (.int .i64 s.own.prev.e)
  pl : w.cell? ⟨b, 14, none⟩ = some (.int .i64 s.own.prev.l)
  pi : w.cell? ⟨b, 15, none⟩ = some (.int .i64 s.own.prev.i)
  pc : w.cell? ⟨b, 16, none⟩ = some (.int .i64 s.own.prev.c)
  vec : w.cell? ⟨b, 17, none⟩ = some (.slice X.V s.n X.cV)
  all : w.cell? ⟨b, 18, none⟩ = some (.slice X.A hs.length X.cA)
  there : w.there b 0 19
  rmem : RowF w F 3 eMb X.M s.mem
  rset : RowF w F 1 eInt X.S (s.own.set.take s.n)
  rvec : RowF w F 1 eInt X.V (s.own.vec.take s.n)
  own : Owns w 0 130 11 eHd X.A X.cA hs
  each : ∀ r ∈ hs, RowF w F 1 eInt r.S r.h.p.set ∧ RowF w F 1 eInt r.V r.h.p.vec
  rep : Rep s (hs.map (·.h))
  bF : b ∈ F
  aF : ∀ k, blk X.A = some k → k ∈ F
  ne : blk X.A ≠ some b
  bl : b < w.heap.size
section
variable {w w' : World} {b : Nat} {F F' : List Nat} {s : St} {hs : List HdR} {X : Ptrs}
/-- Nothing of it has turned. -/
theorem RefAt.keep (h : RefAt w b F s hs X) (hz : w.heap.size ≤ w'.heap.size) (hk : ∀ k, k < w.heap.size → k = b ∨ blk X.A = some k ∨ k ∉ F → w'.heap[k]? = w.heap[k]?) : RefAt w' b F s hs X := by
  have hb := hk b h.bl (.inl rfl)
  have hc : ∀ o, w'.cell? ⟨b, o, none⟩ = w.cell? ⟨b, o, none⟩ := fun o => World.cell?_of_block hb
  have hf : ∀ o, w'.frozen? ⟨b, o, none⟩ = w.frozen? ⟨b, o, none⟩ := fun o => World.frozen?_of_block hb
  have hr : ∀ k, k < w.heap.size → k ∉ F → w'.heap[k]? = w.heap[k]? := fun k h1 h2 => hk k h1 (.inr (.inr h2))
  refine ⟨(hc _).trans h.n, (hc _).trans h.self, (hc _).trans h.inc, (hc _).trans h.ve, (hc _).trans h.vl, (hc _).trans h.vi, (hc _).trans h.vc, (hc _).trans h.mem, (hc _).trans h.opn, (hc _).trans h.set, (hc _).trans h.cid, (hc _).trans h.rev, (hc _).trans h.top, (hc _).trans h.pe, (hc _).trans h.pl, (hc _).trans h.pi, (hc _).trans h.pc, (hc _).trans h.vec, (hc _).trans h.all, fun j hj => by rw [hc, hf]; exact h.there j hj, h.rmem.keep hz hr, h.rset.keep hz hr, h.rvec.keep hz hr, ?_, fun r hr' => ⟨(h.each r hr').1.keep hz hr, (h.each r hr').2.keep hz hr⟩, h.rep, h.bF, h.aF, h.ne, Nat.lt_of_lt_of_le h.bl hz⟩
  refine ⟨h.own.1, ?_⟩
  rcases h.own.2 with h2 | ⟨g, cap, cur, hv, hbase, hh, hr2⟩
  · exact .inl h2
  · refine .inr ⟨g, cap, cur, hv, hbase, ?_, hr2⟩
    have hA : X.A = some ⟨g, 0, none⟩ := by injection hv
    rw [hk g (h.own.lo g (by rw [hA]; rfl)).2 (.inr (.inl (by rw [hA]; rfl)))]; exact hh
theorem RefAt.below (h : RefAt w b F s hs X) (hb : Below w.heap.size w w') : RefAt w' b F s hs X := h.keep hb.size fun k hk _ => hb.block k hk
theorem RefAt.drewN (h : RefAt w b F s hs X) (n : Nat) : RefAt (w.drewN n) b F s hs X := h.below (below_drewN (Below.refl _ _) n)
/-- A change of the other agent, or of any block of F that is none of its own. -/
theorem RefAt.other (h : RefAt w b F s hs X) {a : Nat} (hg : w.grownBy w' (some a)) (ha : a ∈ F) (h1 : a ≠ b) (h2 : blk X.A ≠ some a) : RefAt w' b F s hs X :=
  h.keep hg.size fun k hk ho => hg.block k hk fun e => by
    injection e with e
    subst e
    rcases ho with ho | ho | ho
    · exact h1 ho
    · exact h2 ho
    · exact ho ha
theorem RefAt.more (h : RefAt w b F s hs X) (h1 : ∀ x ∈ F, x ∈ F') (h2 : ∀ x ∈ F', x ∈ F ∨ w.heap.size ≤ x) : RefAt w b F' s hs X :=
  ⟨h.n, h.self, h.inc, h.ve, h.vl, h.vi, h.vc, h.mem, h.opn, h.set, h.cid, h.rev, h.top, h.pe, h.pl, h.pi, h.pc, h.vec, h.all, h.there, h.rmem.more h2, h.rset.more h2, h.rvec.more h2, h.own, fun r hr => ⟨(h.each r hr).1.more h2, (h.each r hr).2.more h2⟩, h.rep, h1 _ h.bF, fun k hk => h1 _ (h.aF k hk), h.ne, h.bl⟩
theorem RefAt.setOwn (h : RefAt w b F s hs X) (o : Wish) (S : Option Addr) (cS : Nat) (V : Option Addr) (cV : Nat) (rS : RowF w F 1 eInt S (o.set.take s.n)) (rV : RowF w F 1 eInt V (o.vec.take s.n)) : RefAt (w.setCells b 9 [.slice S s.n cS, .int .i64 o.cid, .int .i64 o.rev, .int .i64 o.top, .int .i64 o.prev.e, .int .i64 o.prev.l, .int .i64 o.prev.i, .int .i64 o.prev.c, .slice V s.n cV]) b F { s with own := o } hs { X with S := S, cS := cS, V := V, cV := cV } := by
  have hv : ([.slice S s.n cS, .int .i64 o.cid, .int .i64 o.rev, .int .i64 o.top, .int .i64 o.prev.e, .int .i64 o.prev.l, .int .i64 o.prev.i, .int .i64 o.prev.c, .slice V s.n cV] : List Value).length = 9 := rfl
  have hg := grown_sets b ([.slice S s.n cS, .int .i64 o.cid, .int .i64 o.rev, .int .i64 o.top, .int .i64 o.prev.e, .int .i64 o.prev.l, .int .i64 o.prev.i, .int .i64 o.prev.c, .slice V s.n cV] : List Value) 9 w
  refine ⟨?_, ?_, ?_, ?_, ?_, ?_, ?_, ?_, ?_, ?_, ?_, ?_, ?_, ?_, ?_, ?_, ?_, ?_, ?_, World.there_setCells h.there b _ _, h.rmem.sets h.bF _ _, rS.sets h.bF _ _, rV.sets h.bF _ _, h.own.kept hg (.inr h.ne), fun r hr => ⟨(h.each r hr).1.sets h.bF _ _, (h.each r hr).2.sets h.bF _ _⟩, h.rep.same rfl rfl, h.bF, h.aF, h.ne, by rw [size_sets]; exact h.bl⟩
  · exact cell_out h.n (by omega)
  · exact cell_out h.self (by omega)
  · exact cell_out h.inc (by omega)
  · exact cell_out h.ve (by omega)
  · exact cell_out h.vl (by omega)
  · exact cell_out h.vi (by omega)
  · exact cell_out h.vc (by omega)
  · exact cell_out h.mem (by omega)
  · exact cell_out h.opn (by omega)
  · exact cell_in (i := 0) h.there (by omega) rfl
  · exact cell_in (i := 1) h.there (by omega) rfl
  · exact cell_in (i := 2) h.there (by omega) rfl
  · exact cell_in (i := 3) h.there (by omega) rfl
  · exact cell_in (i := 4) h.there (by omega) rfl
  · exact cell_in (i := 5) h.there (by omega) rfl
  · exact cell_in (i := 6) h.there (by omega) rfl
  · exact cell_in (i := 7) h.there (by omega) rfl
  · exact cell_in (i := 8) h.there (by omega) rfl
  · exact cell_out h.all (by omega)
theorem RefAt.setVec (h : RefAt w b F s hs X) (l : List Int) (V : Option Addr) (cV : Nat) (rV : RowF w F 1 eInt V (l.take s.n)) : RefAt (w.setCells b 17 [.slice V s.n cV]) b F { s with own := { s.own with vec := l } } hs { X with V := V, cV := cV } := by
  have hv : ([.slice V s.n cV] : List Value).length = 1 := rfl
  have hg := grown_sets b ([.slice V s.n cV] : List Value) 17 w
  refine ⟨?_, ?_, ?_, ?_, ?_, ?_, ?_, ?_, ?_, ?_, ?_, ?_, ?_, ?_, ?_, ?_, ?_, ?_, ?_, World.there_setCells h.there b _ _, h.rmem.sets h.bF _ _, h.rset.sets h.bF _ _, rV.sets h.bF _ _, h.own.kept hg (.inr h.ne), fun r hr => ⟨(h.each r hr).1.sets h.bF _ _, (h.each r hr).2.sets h.bF _ _⟩, h.rep.same rfl rfl, h.bF, h.aF, h.ne, by rw [size_sets]; exact h.bl⟩
  · exact cell_out h.n (by omega)
  · exact cell_out h.self (by omega)
  · exact cell_out h.inc (by omega)
  · exact cell_out h.ve (by omega)
  · exact cell_out h.vl (by omega)
  · exact cell_out h.vi (by omega)
  · exact cell_out h.vc (by omega)
  · exact cell_out h.mem (by omega)
  · exact cell_out h.opn (by omega)
  · exact cell_out h.set (by omega)
  · exact cell_out h.cid (by omega)
  · exact cell_out h.rev (by omega)
  · exact cell_out h.top (by omega)
  · exact cell_out h.pe (by omega)
  · exact cell_out h.pl (by omega)
  · exact cell_out h.pi (by omega)
  · exact cell_out h.pc (by omega)
  · exact cell_in (i := 0) h.there (by omega) rfl
  · exact cell_out h.all (by omega)
theorem RefAt.setRev (h : RefAt w b F s hs X) (x : Int) : RefAt (w.setCells b 11 [.int .i64 x]) b F { s with own := { s.own with rev := x } } hs X := by
  have hv : ([.int .i64 x] : List Value).length = 1 := rfl
  have hg := grown_sets b ([.int .i64 x] : List Value) 11 w
  refine ⟨?_, ?_, ?_, ?_, ?_, ?_, ?_, ?_, ?_, ?_, ?_, ?_, ?_, ?_, ?_, ?_, ?_, ?_, ?_, World.there_setCells h.there b _ _, h.rmem.sets h.bF _ _, h.rset.sets h.bF _ _, h.rvec.sets h.bF _ _, h.own.kept hg (.inr h.ne), fun r hr => ⟨(h.each r hr).1.sets h.bF _ _, (h.each r hr).2.sets h.bF _ _⟩, h.rep.same rfl rfl, h.bF, h.aF, h.ne, by rw [size_sets]; exact h.bl⟩
  · exact cell_out h.n (by omega)
  · exact cell_out h.self (by omega)
  · exact cell_out h.inc (by omega)
  · exact cell_out h.ve (by omega)
  · exact cell_out h.vl (by omega)
  · exact cell_out h.vi (by omega)
  · exact cell_out h.vc (by omega)
  · exact cell_out h.mem (by omega)
  · exact cell_out h.opn (by omega)
  · exact cell_out h.set (by omega)
  · exact cell_out h.cid (by omega)
  · exact cell_in (i := 0) h.there (by omega) rfl
  · exact cell_out h.top (by omega)
  · exact cell_out h.pe (by omega)
  · exact cell_out h.pl (by omega)
  · exact cell_out h.pi (by omega)
  · exact cell_out h.pc (by omega)
  · exact cell_out h.vec (by omega)
  · exact cell_out h.all (by omega)
theorem RefAt.setOpn (h : RefAt w b F s hs X) (x : Bool) : RefAt (w.setCells b 8 [.bool x]) b F { s with opn := x } hs X := by
  have hv : ([.bool x] : List Value).length = 1 := rfl
  have hg := grown_sets b ([.bool x] : List Value) 8 w
  refine ⟨?_, ?_, ?_, ?_, ?_, ?_, ?_, ?_, ?_, ?_, ?_, ?_, ?_, ?_, ?_, ?_, ?_, ?_, ?_, World.there_setCells h.there b _ _, h.rmem.sets h.bF _ _, h.rset.sets h.bF _ _, h.rvec.sets h.bF _ _, h.own.kept hg (.inr h.ne), fun r hr => ⟨(h.each r hr).1.sets h.bF _ _, (h.each r hr).2.sets h.bF _ _⟩, h.rep.same rfl rfl, h.bF, h.aF, h.ne, by rw [size_sets]; exact h.bl⟩
  · exact cell_out h.n (by omega)
  · exact cell_out h.self (by omega)
  · exact cell_out h.inc (by omega)
  · exact cell_out h.ve (by omega)
  · exact cell_out h.vl (by omega)
  · exact cell_out h.vi (by omega)
  · exact cell_out h.vc (by omega)
  · exact cell_out h.mem (by omega)
  · exact cell_in (i := 0) h.there (by omega) rfl
  · exact cell_out h.set (by omega)
  · exact cell_out h.cid (by omega)
  · exact cell_out h.rev (by omega)
  · exact cell_out h.top (by omega)
  · exact cell_out h.pe (by omega)
  · exact cell_out h.pl (by omega)
  · exact cell_out h.pi (by omega)
  · exact cell_out h.pc (by omega)
  · exact cell_out h.vec (by omega)
  · exact cell_out h.all (by omega)
theorem RefAt.setNow (h : RefAt w b F s hs X) (v : Vid) (ms : List Mb) (M : Option Addr) (cM : Nat) (rM : RowF w F 3 eMb M ms) : RefAt (w.setCells b 3 [.int .i64 v.e, .int .i64 v.l, .int .i64 v.i, .int .i64 v.c, .slice M ms.length cM]) b F { s with vid := v, mem := ms } hs { X with M := M, cM := cM } := by
  have hv : ([.int .i64 v.e, .int .i64 v.l, .int .i64 v.i, .int .i64 v.c, .slice M ms.length cM] : List Value).length = 5 := rfl
  have hg := grown_sets b ([.int .i64 v.e, .int .i64 v.l, .int .i64 v.i, .int .i64 v.c, .slice M ms.length cM] : List Value) 3 w
  refine ⟨?_, ?_, ?_, ?_, ?_, ?_, ?_, ?_, ?_, ?_, ?_, ?_, ?_, ?_, ?_, ?_, ?_, ?_, ?_, World.there_setCells h.there b _ _, rM.sets h.bF _ _, h.rset.sets h.bF _ _, h.rvec.sets h.bF _ _, h.own.kept hg (.inr h.ne), fun r hr => ⟨(h.each r hr).1.sets h.bF _ _, (h.each r hr).2.sets h.bF _ _⟩, h.rep.same rfl rfl, h.bF, h.aF, h.ne, by rw [size_sets]; exact h.bl⟩
  · exact cell_out h.n (by omega)
  · exact cell_out h.self (by omega)
  · exact cell_out h.inc (by omega)
  · exact cell_in (i := 0) h.there (by omega) rfl
  · exact cell_in (i := 1) h.there (by omega) rfl
  · exact cell_in (i := 2) h.there (by omega) rfl
  · exact cell_in (i := 3) h.there (by omega) rfl
  · exact cell_in (i := 4) h.there (by omega) rfl
  · exact cell_out h.opn (by omega)
  · exact cell_out h.set (by omega)
  · exact cell_out h.cid (by omega)
  · exact cell_out h.rev (by omega)
  · exact cell_out h.top (by omega)
  · exact cell_out h.pe (by omega)
  · exact cell_out h.pl (by omega)
  · exact cell_out h.pi (by omega)
  · exact cell_out h.pc (by omega)
  · exact cell_out h.vec (by omega)
  · exact cell_out h.all (by omega)
end
end Go.Proofs.Ytfbeggdbjpmppaa
/- The program's Changing, list: small answers. -/
namespace Go.Proofs.Ytfbeggdbjpmppaa
open Go.RowKit
theorem changing_any (b : Nat) (s : St) (M : Option Addr) (cM : Nat) (w : World) (h : AgAt w b s M cM) :
    Calls Try.prog 31 #[.pointer (some ⟨b, 0, none⟩)] w fun x w' => x = .returned (.bool s.opn) ∧ w' = w := by
  have q := h.opn
  replace h := Lib.hid h
  go_enter Try.func31, Try.ntmps31
  go_wp2
  go_ret
  exact ⟨rfl, rfl⟩
theorem rchanging_any (b : Nat) (F : List Nat) (s : St) (hs : List HdR) (X : Ptrs) (w : World) (h : RefAt w b F s hs X) :
    Calls Try.prog 66 #[.pointer (some ⟨b, 0, none⟩)] w fun x w' => x = .returned (.bool s.opn) ∧ w' = w := by
  have q := h.opn
  replace h := Lib.hid h
  go_enter Try.func66, Try.ntmps66
  go_wp2
  go_ret
  exact ⟨rfl, rfl⟩
/-- A new row, from block lo on. -/
def RowN {α : Type} (w : World) (lo sz : Nat) (enc : α → List Value) (A : Option Addr) (l : List α) : Prop :=
  0 < l.length → ∃ b off, A = some ⟨b, off, none⟩ ∧ lo ≤ b ∧ b < w.heap.size ∧ ∀ k x, l[k]? = some x → ∀ j u, (enc x)[j]? = some u → w.cell? ⟨b, off + k * sz + j, none⟩ = some u
section
variable {α : Type} {w w' : World} {lo sz : Nat} {enc : α → List Value} {A : Option Addr} {l : List α}
theorem RowN.row (h : RowN w lo sz enc A l) : RowAt w w.heap.size sz enc A l := fun h0 => by
  obtain ⟨g, off, e, _, h1, h3⟩ := h h0
  exact ⟨g, off, e, h1, h3⟩
theorem RowN.below (h : RowN w lo sz enc A l) (hb : Below w.heap.size w w') : RowN w' lo sz enc A l := fun h0 => by
  obtain ⟨g, off, e, h1, h2, h3⟩ := h h0
  exact ⟨g, off, e, h1, Nat.lt_of_lt_of_le h2 hb.size, fun k x hx j u hu => (hb.cell (p := ⟨g, _, none⟩) h2).trans (h3 k x hx j u hu)⟩
theorem RowN.low {lo' : Nat} (h : RowN w lo sz enc A l) (hl : lo' ≤ lo) : RowN w lo' sz enc A l := fun h0 => by
  obtain ⟨g, off, e, h1, h2, h3⟩ := h h0
  exact ⟨g, off, e, by omega, h2, h3⟩
theorem RowN.away {F : List Nat} (h : RowN w lo sz enc A l) (hF : ∀ x ∈ F, x < lo) : RowF w F sz enc A l := fun h0 => by
  obtain ⟨g, off, e, h1, h2, h3⟩ := h h0
  exact ⟨g, off, e, h2, fun hg => by have := hF g hg; omega, h3⟩
theorem Owns.rowN {base c : Nat} {e : TypeId} (h : Owns w base e sz enc A c l) (hsz : ∀ x, (enc x).length = sz) : RowN w base sz enc A l := fun h0 => by
  obtain ⟨g, off, e1, h1, h3⟩ := h.row hsz h0
  exact ⟨g, off, e1, (h.lo g (by rw [e1]; rfl)).1, h1, h3⟩
end
theorem info3 : (Try.prog.info? 3).map (fun i => (i.zero, i.size, i.bytes)) = some (some (.int .i64 0), 1, 8) := by kernel_rfl
theorem ints_take (l : List Int) (n : Nat) : ints (l.take n) = (ints l).take n := by unfold ints; rw [List.map_take]
theorem run_mk27 (W : World) (n : Nat) (hn : n ≤ 16) : (Instr.makeSlice 27 (.int .i64 n) (.int .i64 n)).run Try.prog W = .ok (.slice (some ⟨W.heap.size, 0, none⟩) n n) (W.alloc (.cells (madeCells #[.int .i64 0] n) 3)) := by
  obtain ⟨i, hi, hz, hs, hb⟩ := info_parts info3
  have := run_makeSlice (P := Try.prog) W 27 3 i _ Try.underlying27 hi hz .i64 .i64 n n (by omega) (by omega) (by rw [hs]; omega) (by rw [hb]; omega) (by omega)
  simpa [hs, Value.cells] using this
set_option maxRecDepth 100000 in
set_option maxHeartbeats 2000000 in
theorem list_any (l : List Int) (n : Nat) (w : World) (hl : l.length = 16) (hn : n ≤ 16) :
    Calls Try.prog 51 #[.agg (arr l), .int .i64 n] w fun x w' => ∃ A, x = .returned (.slice A n n) ∧ RowN w' w.heap.size 1 eInt A (l.take n) ∧ Below w.heap.size w w' := by
  obtain ⟨w2, hw2⟩ : ∃ w2, w2 = (w.alloc (.cells (arr l) 94)).alloc (.cells (madeCells #[.int .i64 0] n) 3) := ⟨_, rfl⟩
  have hmk := run_mk27 (w.alloc (.cells (arr l) 94)) n hn
  rw [← hw2, World.size_alloc] at hmk
  have hsrc : w2.rangeAt w.heap.size 0 (ints l) := by
    have := range_new w (arr l) 94
    rw [arr_list] at this
    rw [hw2]
    exact range_below this ((Below.refl _ _).alloc (Nat.le_refl _) _) (by simp)
  have hthere : w2.there (w.heap.size + 1) 0 n := by
    have := there_new (w.alloc (.cells (arr l) 94)) (madeCells #[.int .i64 0] n) 3
    rw [← hw2, World.size_alloc, size_madeCells] at this; exact this
  have hlt : (l.take n).length = n := List.length_take_of_le (by omega)
  have hcp : ∀ ty, (Builtin.copy_ #[27, 27] ty #[.slice (some ⟨w.heap.size + 1, 0, none⟩) n n, .slice (some ⟨w.heap.size, 0, none⟩) 16 16]).run Try.prog w2 = .ok (.int .i64 n) (w2.setCells (w.heap.size + 1) 0 (ints (l.take n))) := fun ty => by
    have := run_copy_cells (P := Try.prog) w2 27 27 ty 3 (w.heap.size + 1) 0 n n ⟨w.heap.size, 0, none⟩ 16 16 (ints (l.take n)) Try.underlying27 (by kernel_rfl) (by rw [len_ints, hlt]; exact (Nat.min_eq_right hn).symm)
      (fun j v hv => by
        rw [Addr.add_lit]
        rw [ints_take] at hv
        have hj : j < n := by have := (List.getElem?_eq_some_iff.1 hv).1; rw [List.length_take, len_ints] at this; omega
        rw [List.getElem?_take_of_lt hj] at hv
        exact hsrc j v hv)
      (fun j hj => (hthere j (by rw [len_ints, hlt] at hj; exact hj)).1) (fun j hj => (hthere j (by rw [len_ints, hlt] at hj; exact hj)).2) (one_ints _)
    rw [this, len_ints, hlt]; rfl
  have hb2 : Below w.heap.size w w2 := by rw [hw2]; exact ((Below.refl _ _).alloc (Nat.le_refl _) _).alloc (by simp) _
  have s2 : w2.heap.size = w.heap.size + 2 := by rw [hw2]; simp
  have hfin : RowN (w2.setCells (w.heap.size + 1) 0 (ints (l.take n))) w.heap.size 1 eInt (some ⟨w.heap.size + 1, 0, none⟩) (l.take n) := fun _ => by
    refine ⟨w.heap.size + 1, 0, rfl, by omega, by rw [size_sets]; omega, fun k x hx j u hu => ?_⟩
    have hr := World.rangeAt_setCells_same w2 (w.heap.size + 1) 0 (ints (l.take n)) (by rw [len_ints, hlt]; exact hthere)
    have hj : j = 0 := by have := (List.getElem?_eq_some_iff.1 hu).1; simp [eInt] at this; exact this
    subst hj
    have hu' : u = .int .i64 x := by simpa [eInt] using hu.symm
    rw [hu']
    have := rangeAt_cell hr hx
    rw [Nat.mul_one, Nat.add_zero]; exact this
  have hbf : Below w.heap.size w (w2.setCells (w.heap.size + 1) 0 (ints (l.take n))) := below_sets hb2 (by omega) _ _ (by omega)
  replace hl := Lib.hid hl
  replace hw2 := Lib.hid hw2
  replace hfin := Lib.hid hfin
  replace hbf := Lib.hid hbf
  clear hsrc hthere hlt hb2
  go_enter Try.func51, Try.ntmps51
  go_wp2
  go_ret
  exact ⟨_, rfl, hfin.out, hbf.out⟩
end Go.Proofs.Ytfbeggdbjpmppaa
/- The program's View. -/
namespace Go.Proofs.Ytfbeggdbjpmppaa
open Go.RowKit
/-- A view by value. -/
abbrev viewA (v : Vid) (A : Option Addr) (n c : Nat) : Array Value := #[.int .i64 v.e, .int .i64 v.l, .int .i64 v.i, .int .i64 v.c, .slice A n c]
abbrev mbZ : Value := .agg #[.int .i64 0, .int .i64 0, .int .i64 0]
theorem info43 : (Try.prog.info? 43).map (fun i => (i.zero, i.size, i.bytes)) = some (some mbZ, 3, 24) := by kernel_rfl
theorem grown_cellAt {w w' : World} {b o : Nat} {row : Option Nat} (h : w.grownBy w' row) (hb : b < w.heap.size) (hr : some b ≠ row) : w'.cell? ⟨b, o, none⟩ = w.cell? ⟨b, o, none⟩ := World.cell?_of_block (h.block b hb hr)
theorem grown_frozenAt {w w' : World} {b o : Nat} {row : Option Nat} (h : w.grownBy w' row) (hb : b < w.heap.size) (hr : some b ≠ row) : w'.frozen? ⟨b, o, none⟩ = w.frozen? ⟨b, o, none⟩ := World.frozen?_of_block (h.block b hb hr)
/-- A variable that holds a view. -/
structure ViAt (w : World) (b : Nat) (v : Vid) (A : Option Addr) (n c : Nat) : Prop where
  ce : w.cell? ⟨b, 0, none⟩ = some (.int .i64 v.e)
  cl : w.cell? ⟨b, 1, none⟩ = some (.int .i64 v.l)
  ci : w.cell? ⟨b, 2, none⟩ = some (.int .i64 v.i)
  cc : w.cell? ⟨b, 3, none⟩ = some (.int .i64 v.c)
  cm : w.cell? ⟨b, 4, none⟩ = some (.slice A n c)
  there : w.there b 0 5
theorem ViAt.same {w w' : World} {b : Nat} {v : Vid} {A : Option Addr} {n c : Nat} (h : ViAt w b v A n c) (hb : w'.heap[b]? = w.heap[b]?) : ViAt w' b v A n c := by
  have hc : ∀ o, w'.cell? ⟨b, o, none⟩ = w.cell? ⟨b, o, none⟩ := fun o => World.cell?_of_block hb
  have hf : ∀ o, w'.frozen? ⟨b, o, none⟩ = w.frozen? ⟨b, o, none⟩ := fun o => World.frozen?_of_block hb
  exact ⟨(hc _).trans h.ce, (hc _).trans h.cl, (hc _).trans h.ci, (hc _).trans h.cc, (hc _).trans h.cm, fun j hj => by rw [hc, hf]; exact h.there j hj⟩
theorem ViAt.new (w : World) (v : Vid) (A : Option Addr) (n c : Nat) (t : TypeId) : ViAt (w.alloc (.cells (viewA v A n c) t)) w.heap.size v A n c := by
  have h := range_new w (viewA v A n c) t
  exact ⟨h 0 _ rfl, h 1 _ rfl, h 2 _ rfl, h 3 _ rfl, h 4 _ rfl, there_new w (viewA v A n c) t⟩
theorem ViAt.setM {w : World} {b : Nat} {v : Vid} {A : Option Addr} {n c : Nat} (h : ViAt w b v A n c) (A' : Option Addr) (n' c' : Nat) : ViAt (w.setCell ⟨b, 4, none⟩ (.slice A' n' c')) b v A' n' c' := by
  show ViAt (w.setCells b 4 [.slice A' n' c']) _ _ _ _ _
  have hv : ([.slice A' n' c'] : List Value).length = 1 := rfl
  exact ⟨cell_out h.ce (by omega), cell_out h.cl (by omega), cell_out h.ci (by omega), cell_out h.cc (by omega), cell_in (i := 0) h.there (by omega) rfl, World.there_setCells h.there b _ _⟩
theorem ViAt.setAll {w : World} {b : Nat} {v : Vid} {A : Option Addr} {n c : Nat} (h : ViAt w b v A n c) (v' : Vid) (A' : Option Addr) (n' c' : Nat) : ViAt (w.setCells b 0 (viewA v' A' n' c').toList) b v' A' n' c' := by
  have hr := World.rangeAt_setCells_same w b 0 (viewA v' A' n' c').toList h.there
  exact ⟨hr 0 _ rfl, hr 1 _ rfl, hr 2 _ rfl, hr 3 _ rfl, hr 4 _ rfl, World.there_setCells h.there b _ _⟩
theorem ViAt.frozen {w : World} {b : Nat} {v : Vid} {A : Option Addr} {n c : Nat} (h : ViAt w b v A n c) {j : Nat} (hj : j < 5) : w.frozen? ⟨b, j, none⟩ = false := there_frozen h.there hj
theorem ViAt.load {w : World} {b : Nat} {v : Vid} {A : Option Addr} {n c : Nat} (h : ViAt w b v A n c) : (loadVar 46 ⟨b, 0, none⟩).run Try.prog w = .ok (.agg (viewA v A n c)) w := by
  obtain ⟨h0, h1, h2, h3, h4, _⟩ := h
  go_simp
theorem size46 : (Try.prog.info? 46).map (·.size) = some 5 := by kernel_rfl
section
variable {P : Program} {ops : Array Oper} {rest : List Oper} {op : Oper} {a : Act} {w : World} {Q : Exit → Act → World → Prop}
theorem wpList_loadR (hgd : op.guard = none) (ty : TypeId) (x : Operand) (ho : op.op = .load ty x) (b off : Nat) (hx : a.eval x = .pointer (some ⟨b, off, none⟩)) (v : Value) (hr : (loadVar ty ⟨b, off, none⟩).run P w = .ok v w)
    (h : wpList P ops Q rest (a.put op.dst v) w) : wpList P ops Q (op :: rest) a w := by
  refine wpList_plain hgd fun _ hK => ?_
  unfold Oper.wp execOp
  simp only [ho, hx, Instr.loadAt, Instr.sureAddr, Sem.run_bind, Sem.run_pure, Result.andThen_ok, hr]
  exact hK _ _ h
theorem one_viewA (v : Vid) (A : Option Addr) (n c : Nat) : (viewA v A n c).all (·.oneCell') = true := by
  refine all_oneCell_toArray (cs := [.int .i64 v.e, .int .i64 v.l, .int .i64 v.i, .int .i64 v.c, .slice A n c]) fun u hu => ?_
  simp at hu; rcases hu with rfl | rfl | rfl | rfl | rfl <;> rfl
theorem wpList_store46 (hgd : op.guard = none) (x y : Operand) (ho : op.op = .store 46 x y) (b off : Nat) (hx : a.eval x = .pointer (some ⟨b, off, none⟩)) (v : Vid) (A : Option Addr) (n c : Nat) (hy : a.eval y = .agg (viewA v A n c)) (ht : w.there b off 5)
    (h : ∀ w', Hid (w' = w.setCells b off (viewA v A n c).toList) → wpList Try.prog ops Q rest (a.put op.dst undef) w') : wpList Try.prog ops Q (op :: rest) a w :=
  wpList_store_mid hgd 46 x y ho b off (viewA v A n c) hx hy ht (by rw [size46]; rfl) (one_viewA v A n c) (h _ (Lib.hid rfl))
end
set_option maxRecDepth 100000 in
set_option maxHeartbeats 4000000 in
theorem view_any (b : Nat) (s : St) (M : Option Addr) (cM N : Nat) (w : World) (h : AgAt w b s M cM) (hb : b < w.heap.size) (hN : N ≤ w.heap.size) (hM : RowAt w N 3 eMb M s.mem) (hl : s.mem.length ≤ 16) :
    Calls Try.prog 22 #[.pointer (some ⟨b, 0, none⟩)] w fun x w' => ∃ A c, x = .returned (.agg (viewA s.vid A s.mem.length c)) ∧ RowN w' w.heap.size 3 eMb A s.mem ∧ Below w.heap.size w w' := by
  obtain ⟨w1, hw1⟩ : ∃ w1, w1 = w.alloc (.cells (viewA Vid.zero none 0 0) 46) := ⟨_, rfl⟩
  have s1 : w1.heap.size = w.heap.size + 1 := by rw [hw1, World.size_alloc]
  obtain ⟨w2, hw2⟩ : ∃ w2, w2 = w1.alloc (.cells (viewA s.vid none 0 0) 46) := ⟨_, rfl⟩
  have s2 : w2.heap.size = w.heap.size + 2 := by rw [hw2, World.size_alloc, s1]
  have v2 : ViAt w2 (w.heap.size + 1) s.vid none 0 0 := by have := ViAt.new w1 s.vid none 0 0 46; rw [← hw2, s1] at this; exact this
  have v1 : ViAt w2 w.heap.size Vid.zero none 0 0 := by
    have := ViAt.new w Vid.zero none 0 0 46
    rw [← hw1] at this
    exact this.same (by rw [hw2]; exact heap_alloc_old _ _ (by omega))
  have hb2 : Below w.heap.size w w2 := by rw [hw2, hw1]; exact below_box2 _ _ _ _ _
  have q0 := h.ve
  have q1 := h.vl
  have q2 := h.vi
  have q3 := h.vc
  have h2 := h.same (hb2.block b hb)
  have q4 := h2.mem
  have q5 := v2.cm
  have hW2 := Lib.hid (show w2 = (w.alloc (.cells (viewA Vid.zero none 0 0) 46)).alloc (.cells (viewA s.vid none 0 0) 46) by rw [hw2, hw1])
  replace h2 := Lib.hid h2
  clear hw1 hw2
  replace v1 := Lib.hid v1
  replace v2 := Lib.hid v2
  go_enter Try.func22, Try.ntmps22
  go_wp2
  rw [← hW2.out]
  go_still_tail 7, (by kernel_rfl)
  change wpList _ _ _ _ _ w2.drew
  go_wp2_with (first
    | (refine wpList_append_rows _ rfl (.tmp 11) (.tmp 16) 44 rfl w.heap.size 43 3 24 mbZ Try.underlying44 info43 (by rfl) (by omega) eMb len_eMb one_eMb none 0 [] M cM N 0 s.mem.length s.mem (by rfl) (by rfl) rfl rfl (owns_nil _ _ _ _ _) (hM.below (Below.drew hb2) hN) (by omega) (by omega) (by show _ ≤ w2.heap.size; omega) ?_
       intro A' c' w5 ho hg hblk
       have s5 : w2.heap.size ≤ w5.heap.size := hg.size
       have v25 := v2.out.same (hg.block _ (by show _ < w2.heap.size; omega) (by simp [blk]))
       have v15 := v1.out.same (hg.block _ (by show _ < w2.heap.size; omega) (by simp [blk]))
       rw [Nat.zero_add]
       rw [List.nil_append] at ho
       clear q5
       have k1 := v25.cm
       have k2 := v25.frozen (j := 4) (by omega)
       have v26 := v25.setM A' s.mem.length c'
       have v16 := v15.same (Below.heap_setCell w5 ⟨w.heap.size + 1, 4, none⟩ (.slice A' s.mem.length c') w.heap.size (by show w.heap.size ≠ w.heap.size + 1; omega))
       replace v25 := Lib.hid v25
       replace v15 := Lib.hid v15
       replace v26 := Lib.hid v26
       replace v16 := Lib.hid v16
       replace ho := Lib.hid ho
       replace hg := Lib.hid hg
       replace hblk := Lib.hid hblk)
    | (refine wpList_loadR rfl 46 (.tmp 3) rfl (w.heap.size + 1) 0 (by rfl) _ v26.out.load ?_)
    | (refine wpList_store46 rfl (.tmp 2) (.tmp 19) rfl w.heap.size 0 (by rfl) s.vid A' s.mem.length c' (by rfl) v16.out.there ?_; intro w7 hw7)
    | fail)
  have v7 := v16.out.setAll s.vid A' s.mem.length c'
  rw [← hw7.out] at v7
  have hb5 : Below w.heap.size w w5 := by
    refine (Below.drew hb2).grown hg.out (by show _ ≤ w2.heap.size; omega) ?_
    intro k hk; cases hk
  have s26 : (w5.setCell ⟨w.heap.size + 1, 4, none⟩ (.slice A' s.mem.length c')).heap.size = w5.heap.size := World.size_setCell _ _ _
  have hb7 : Below w.heap.size w w7 := by rw [hw7.out]; exact below_sets (hb5.setCell (by show _ ≤ w.heap.size + 1; omega) _) (Nat.le_refl _) _ _ (by rw [s26]; omega)
  have ho7 : Owns w7 w.heap.size 43 3 eMb A' c' s.mem := by
    have h1 : ∀ k, blk A' = some k → w2.heap.size ≤ k := fun k hk => by
      rcases hblk.out with e | e
      · rw [e] at hk; cases hk
      · rw [e] at hk; injection hk with hk; have : w2.drew.heap.size = w2.heap.size := rfl; omega
    have hne : ∀ g, g < w2.heap.size → blk A' = none ∨ blk A' ≠ some g := fun g hg => by
      right; intro e; have := h1 g e; omega
    rw [hw7.out]
    exact (ho.out.kept (grown_cell w5 (w.heap.size + 1) 4 _) (hne _ (by omega))).kept (grown_sets w.heap.size _ 0 _) (hne _ (by omega))
  exact bodyPost_ret (res_cell (p := 2) (ty := 46) rfl rfl v7.load) rfl ⟨A', ⟨c', rfl⟩, ho7.rowN len_eMb, hb7⟩
end Go.Proofs.Ytfbeggdbjpmppaa
/- append onto a row of the call's own, as one operation of a region that draws its order. -/
namespace Go.Proofs.Ytfbeggdbjpmppaa
open Go.RowKit
section
variable {P : Program} (w : World)
/-- append onto a row of the call's own; the source any row, nil or empty too. -/
theorem wp_append_rows {α : Type} {o : Oper} {a : Act} {K : Act → World → Prop} {Q : Exit → Act → World → Prop} (s x : Operand) (t : TypeId)
    (ho : o.op = .call { callee := .builtin .append, args := #[s, x], argTypes := #[t, t] })
    (base : Nat) (e : TypeId) (sz bytes : Nat) (z : Value) (ht : P.underlying t = some (.slice e)) (hinfo : (P.info? e).map (fun i => (i.zero, i.size, i.bytes)) = some (some z, sz, bytes))
    (hzs : z.cells.size = sz) (hsz : 0 < sz) (enc : α → List Value) (henc : ∀ x, (enc x).length = sz) (hone : ∀ x, ∀ u ∈ enc x, u.oneCell' = true)
    (A : Option Addr) (c : Nat) (xs : List α) (B : Option Addr) (cB N n m : Nat) (l : List α) (hs : a.eval s = .slice A n c) (hx : a.eval x = .slice B m cB)
    (hn : xs.length = n) (hm : l.length = m)
    (hown : Owns w base e sz enc A c xs) (hr : RowAt w N sz enc B l)
    (h63 : n + m ≤ 9223372036854775807) (hbytes : (n + m) * bytes ≤ 140737488355328) (hbase : base ≤ w.heap.size)
    (h : ∀ A' c' w', Owns w' base e sz enc A' c' (xs ++ l) → w.grownBy w' (blk A) → (blk A' = blk A ∨ blk A' = some w.heap.size) → K (a.put o.dst (.slice A' (n + m) c')) w') : o.wp P a w K Q := by
  subst hn hm
  obtain ⟨i, hi, hz, hsize, hby⟩ := info_parts hinfo
  have key : ∃ v' w', (Builtin.append_ #[t, t] o.type #[.slice A xs.length c, .slice B l.length cB]).run P w = .ok v' w' ∧ w'.ownsRow base e sz v' (xs.length + l.length) ((xs ++ l).flatMap enc) ∧ w.grownBy w' (blk A) ∧ (v'.ownBlock = blk A ∨ v'.ownBlock = some w.heap.size) := by
    by_cases h0 : 0 < l.length
    · obtain ⟨b, off, rfl, hb, hc⟩ := hr h0
      obtain ⟨v', w', h1, h2, h3, _, h5⟩ := run_append_own_at (P := P) w base t o.type e i z sz bytes ht hi hz hsize hby hzs hsz (.slice A xs.length c) xs.length _ hown ⟨b, off, none⟩ l.length cB (l.flatMap enc)
        (length_flat henc l) (fun j u hu => by
          obtain ⟨k, r, x, hk, hr', rfl⟩ := flatMap_of henc l j u hu
          have := hc k x hk r u hr'
          by_cases hz0 : k * sz + r = 0
          · rw [hz0]; simp only [Addr.add, if_true]
            have e0 : off + k * sz + r = off := by omega
            rw [e0] at this; exact this
          · simp only [Addr.add, if_neg hz0]
            rw [← Nat.add_assoc]; exact this)
        (fun u hu => by obtain ⟨x, _, hux⟩ := List.mem_flatMap.1 hu; exact hone x u hux) h63 hbytes hbase
      rw [own_blk] at h3 h5
      exact ⟨v', w', h1, by rw [List.flatMap_append]; exact h2, h3, h5⟩
    · have hl : l = [] := List.eq_nil_of_length_eq_zero (by omega)
      subst hl
      cases B with
      | none =>
        refine ⟨.slice A xs.length c, w, ?_, by simp only [List.length_nil, Nat.add_zero, List.append_nil]; exact hown, World.grownBy.refl w _, .inl (own_blk _ _ _)⟩
        rcases hown.2 with ⟨hv, _⟩ | ⟨g, cap, cur, hv, _, _, hnc, _⟩
        · rw [hv]; simp [Builtin.append_, run_underlying ht, sizeOf, typeInfo, hi, Builtin.lenOf, Builtin.firstCells]
        · rw [hv]; simp [Builtin.append_, run_underlying ht, sizeOf, typeInfo, hi, Builtin.lenOf, Builtin.firstCells, hnc, storeCells]
      | some ad =>
        obtain ⟨v', w', h1, h2, h3, _, h5⟩ := run_append_own_at (P := P) w base t o.type e i z sz bytes ht hi hz hsize hby hzs hsz (.slice A xs.length c) xs.length _ hown ad 0 cB []
          (by simp) (fun j u hu => by simp at hu) (fun u hu => by simp at hu) h63 hbytes hbase
        rw [own_blk] at h3 h5
        exact ⟨v', w', h1, by simpa using h2, h3, h5⟩
  obtain ⟨v', w', hrun, h2, h3, h4⟩ := key
  have hv : ∃ A' c', v' = .slice A' (xs.length + l.length) c' := by
    rcases h2.2 with ⟨hv, h0⟩ | ⟨g, cap, cur, hv, _⟩
    · exact ⟨none, 0, by rw [hv, h0]⟩
    · exact ⟨_, _, hv⟩
  obtain ⟨A', c', rfl⟩ := hv
  rw [own_blk] at h4
  unfold Oper.wp execOp
  simp only [ho, resolve, invoke, builtin, Sem.run_bind, Sem.run_pure, Result.andThen_ok, List.map_toArray, List.map_cons, List.map_nil, hs, hx, hrun]
  exact (h A' c' w' (by unfold Owns; rw [List.length_append]; exact h2) h3 h4)
end
end Go.Proofs.Ytfbeggdbjpmppaa
/- The last proposal of a node by value; a kept proposal's cells. -/
namespace Go.Proofs.Ytfbeggdbjpmppaa
open Go.RowKit
theorem build98 (w : World) (inc : Int) (t : Wish) (hl : WLen t) : (Instr.build 98 #[(0, .int .i64 inc), (1, .agg (wishA t))]).run Try.prog w = .ok (.agg (ltA ⟨inc, t⟩)) w := by
  obtain ⟨⟨set, vec, c, r, tp, ⟨pe, pl, pi, pc⟩⟩, h1, h2⟩ : ∃ x : Wish, x = t ∧ WLen x := ⟨t, rfl, hl⟩
  subst h1
  obtain ⟨l1, l2⟩ := h2
  dsimp only at l1 l2
  obtain ⟨a0, a1, a2, a3, a4, a5, a6, a7, a8, a9, a10, a11, a12, a13, a14, a15, rfl⟩ : ∃ a0 a1 a2 a3 a4 a5 a6 a7 a8 a9 a10 a11 a12 a13 a14 a15, set = [a0, a1, a2, a3, a4, a5, a6, a7, a8, a9, a10, a11, a12, a13, a14, a15] := by
    match set, l1 with
    | [a0, a1, a2, a3, a4, a5, a6, a7, a8, a9, a10, a11, a12, a13, a14, a15], _ => exact ⟨_, _, _, _, _, _, _, _, _, _, _, _, _, _, _, _, rfl⟩
  obtain ⟨b0, b1, b2, b3, b4, b5, b6, b7, b8, b9, b10, b11, b12, b13, b14, b15, rfl⟩ : ∃ a0 a1 a2 a3 a4 a5 a6 a7 a8 a9 a10 a11 a12 a13 a14 a15, vec = [a0, a1, a2, a3, a4, a5, a6, a7, a8, a9, a10, a11, a12, a13, a14, a15] := by
    match vec, l2 with
    | [a0, a1, a2, a3, a4, a5, a6, a7, a8, a9, a10, a11, a12, a13, a14, a15], _ => exact ⟨_, _, _, _, _, _, _, _, _, _, _, _, _, _, _, _, rfl⟩
  clear hl
  kernel_rfl
theorem run_loadVar98 (w : World) (b o : Nat) (t : Lt) (hc : w.rangeAt b o (ltL t)) (hl : WLen t.w) : (loadVar 98 ⟨b, o, none⟩).run Try.prog w = .ok (.agg (ltA t)) w :=
  run_loadVar_mid w b o 98 (ltL t) _ hc Try.underlying98 rfl (by rw [size98, len_ltL hl.l1 hl.l2])
theorem wp_store98 {o : Oper} {a : Act} {w : World} {K : Act → World → Prop} {Q : Exit → Act → World → Prop} (x y : Operand) (ho : o.op = .store 98 x y) (hd : o.dst = none) (b off : Nat) (hx : a.eval x = .pointer (some ⟨b, off, none⟩)) (t : Lt) (hy : a.eval y = .agg (ltA t))
    (ht : w.there b off 40) (hl : WLen t.w) (h : ∀ w', Hid (w' = w.setCells b off (ltL t)) → K a w') : o.wp Try.prog a w K Q := by
  have hs : (ltA t).size = 40 := by unfold ltA; rw [List.size_toArray, len_ltL hl.l1 hl.l2]
  exact wp_store_mid 98 x y ho b off (ltA t) hx hy (by rw [hs]; exact ht) (by rw [size98, hs]) (all_oneCell_toArray (one_ltL t)) (by rw [hd]; exact h _ (Lib.hid rfl))
theorem there_new98 (w : World) (t : Lt) (hl : WLen t.w) : (w.alloc (.cells (ltA t) 98)).there w.heap.size 0 40 := by
  have := there_new w (ltA t) 98
  rwa [show (ltA t).size = 40 by unfold ltA; rw [List.size_toArray, len_ltL hl.l1 hl.l2]] at this
/-- A variable that holds a node's last proposal. -/
structure LVar (w : World) (b : Nat) (t : Lt) : Prop where
  rng : w.rangeAt b 0 (ltL t)
  there : w.there b 0 40
  len : WLen t.w
theorem LVar.same {w w' : World} {b : Nat} {t : Lt} (h : LVar w b t) (hb : w'.heap[b]? = w.heap[b]?) : LVar w' b t := by
  have hc : ∀ o, w'.cell? ⟨b, o, none⟩ = w.cell? ⟨b, o, none⟩ := fun o => World.cell?_of_block hb
  have hf : ∀ o, w'.frozen? ⟨b, o, none⟩ = w.frozen? ⟨b, o, none⟩ := fun o => World.frozen?_of_block hb
  exact ⟨fun j u hu => (hc _).trans (h.rng j u hu), fun j hj => by rw [hc, hf]; exact h.there j hj, h.len⟩
theorem LVar.below {w w' : World} {b N : Nat} {t : Lt} (h : LVar w b t) (hb : Below N w w') (hN : b < N) : LVar w' b t := h.same (hb.block b hN)
theorem LVar.put {w : World} {b : Nat} {t : Lt} (h : w.there b 0 40) (hl : WLen t.w) : LVar (w.setCells b 0 (ltL t)) b t := by
  have e := len_ltL hl.l1 hl.l2
  exact ⟨World.rangeAt_setCells_same w b 0 _ (by rw [e]; exact h), World.there_setCells h b _ _, hl⟩
theorem WVar.same {w w' : World} {b : Nat} {t : Wish} (h : WVar w b t) (hb : w'.heap[b]? = w.heap[b]?) : WVar w' b t := by
  have hc : ∀ o, w'.cell? ⟨b, o, none⟩ = w.cell? ⟨b, o, none⟩ := fun o => World.cell?_of_block hb
  have hf : ∀ o, w'.frozen? ⟨b, o, none⟩ = w.frozen? ⟨b, o, none⟩ := fun o => World.frozen?_of_block hb
  exact ⟨fun j u hu => (hc _).trans (h.rng j u hu), fun j hj => by rw [hc, hf]; exact h.there j hj, h.len⟩
theorem WVar.putAt {w : World} {b : Nat} {t : Wish} (h : w.there b 0 39) (hl : WLen t) : WVar (w.setCells b 0 (wishL t)) b t := by
  have e := len_wishL hl.l1 hl.l2
  exact ⟨World.rangeAt_setCells_same w b 0 _ (by rw [e]; exact h), World.there_setCells h b _ _, hl⟩
theorem WVar.cells {w : World} {b : Nat} {t : Wish} (h : WVar w b t) :
    w.rangeAt b 0 (ints t.set) ∧ w.rangeAt b 16 (ints t.vec) ∧ w.cell? ⟨b, 32, none⟩ = some (.int .i64 t.cid) ∧ w.cell? ⟨b, 33, none⟩ = some (.int .i64 t.rev) ∧ w.cell? ⟨b, 34, none⟩ = some (.int .i64 t.top) ∧
    w.cell? ⟨b, 35, none⟩ = some (.int .i64 t.prev.e) ∧ w.cell? ⟨b, 36, none⟩ = some (.int .i64 t.prev.l) ∧ w.cell? ⟨b, 37, none⟩ = some (.int .i64 t.prev.i) ∧ w.cell? ⟨b, 38, none⟩ = some (.int .i64 t.prev.c) := by
  obtain ⟨h1, h2, h3, h4, h5, h6, h7, h8, h9⟩ := (wish_parts h.len.l1 h.len.l2).1 h.rng
  exact ⟨h1, h2, h3, h4, h5, h6, h7, h8, h9⟩
/-- What was put is put back. -/
theorem put_back {s : St} {q : Nat} {inc : Int} {w : Wish} (hq : s.oth[q]? = some (s.lt q)) : (s.put q inc w).put q (s.lt q).inc (s.lt q).w = s := by
  unfold St.put
  rw [List.set_set]
  have : s.oth.set q ⟨(s.lt q).inc, (s.lt q).w⟩ = s.oth := by
    apply List.ext_getElem?
    intro j
    by_cases e : j = q
    · subst e; rw [List.getElem?_set_self (List.getElem?_eq_some_iff.1 hq).1, hq]
    · rw [List.getElem?_set_ne (fun e2 => e e2.symm)]
  show { s with oth := s.oth.set q ⟨(s.lt q).inc, (s.lt q).w⟩ } = s
  rw [this]
section
variable {ops : Array Oper} {S : World → Prop} {K : Act → Prop} {o : Oper} {rest : List Oper} {a : Act}
theorem wpQuiet_build98 (hw : Region.wanted o (yielded ops a.tmps) = true) (x y : Operand) (ho : o.op = .build 98 #[(0, x), (1, y)]) (inc : Int) (t : Wish) (hx : a.eval x = .int .i64 inc) (hy : a.eval y = .agg (wishA t)) (hl : WLen t)
    (h : wpQuiet Try.prog ops S K rest (a.put o.dst (.agg (ltA ⟨inc, t⟩)))) : wpQuiet Try.prog ops S K (o :: rest) a := by
  refine wpQuiet_step fun K hK => ?_
  rw [if_pos hw]
  refine ⟨.agg (ltA ⟨inc, t⟩), ?_, hK _ h⟩
  intro w' hw'
  unfold Oper.quietAt execOp
  simp only [ho, List.map_toArray, List.map_cons, List.map_nil, hx, hy, Sem.run_bind, build98 w' inc t hl, Result.andThen_ok, Sem.run_pure]
  exact ⟨rfl, rfl⟩
end
end Go.Proofs.Ytfbeggdbjpmppaa
