/- Room Listed Rcut Maps Keys Sound Uni, joined. -/
import Derived.Maps.OwnOps
import Derived.DeepKeys4
import Derived.Test.YtcffhfcjfjfokaaSv3
import Derived.Test.YtcffhfcjfjfokaaSv5
import Derived.Test.YtcffhfcjfjfokaaSv8
set_option linter.unusedVariables false
set_option linter.unusedSimpArgs false
/- The four lists of FlushPlace in one memory: contents, one content, numbers, messages. -/
namespace Go.Proofs.Ytcffhfcjfjfokaa
open Go Go.RowKit
structure RX where
  A : Option Addr
  cA : Nat
  ra : List Rw
  O : Option Addr
  cO : Nat
  ro : List Rw
  C : Option Addr
  cC : Nat
  lc : List Int
  M : Option Addr
  cM : Nat
  rm : List Dr
def Dj (F G : List Nat) : Prop := ∀ k ∈ F, k ∉ G
theorem Dj.step {F F' G : List Nat} {w : World} (h : Dj F G) (hG : ∀ k ∈ G, k < w.heap.size) (hF : ∀ k ∈ F', k ∈ F ∨ w.heap.size ≤ k) : Dj F' G := fun k hk hg => by
  rcases hF k hk with e | e
  · exact h k e hg
  · have := hG k hg; omega
theorem Dj.symm {F G : List Nat} (h : Dj F G) : Dj G F := fun k hk hf => h k hf hk
theorem Dj.new {F G : List Nat} {n : Nat} (hF : ∀ k ∈ F, k < n) (hG : ∀ k ∈ G, n ≤ k) : Dj F G := fun k hk hg => by have := hF k hk; have := hG k hg; omega
/-- The four lists; block b (that of the case in hand) holds vs and is none of theirs. -/
structure Room (base b : Nat) (vs : List Value) (x : RX) (W : World) : Prop where
  z : base ≤ W.heap.size
  a : FsW W base x.A x.cA x.ra
  o : FsW W base x.O x.cO x.ro
  c : Owns W base 3 1 eInt x.C x.cC x.lc
  m : MsW W base x.M x.cM x.rm
  ao : Dj (fblks x.A x.ra) (fblks x.O x.ro)
  ac : Dj (fblks x.A x.ra) (blk x.C).toList
  am : Dj (fblks x.A x.ra) (mblks x.M x.rm)
  oc : Dj (fblks x.O x.ro) (blk x.C).toList
  om : Dj (fblks x.O x.ro) (mblks x.M x.rm)
  cm : Dj (blk x.C).toList (mblks x.M x.rm)
  bz : b < W.heap.size
  r : W.rangeAt b 0 vs
  ba : b ∉ fblks x.A x.ra
  bo : b ∉ fblks x.O x.ro
  bc : b ∉ (blk x.C).toList
  bm : b ∉ mblks x.M x.rm
section
variable {base b : Nat} {vs : List Value} {x : RX} {W W' : World}
theorem Room.clt (h : Room base b vs x W) : ∀ k ∈ (blk x.C).toList, base ≤ k ∧ k < W.heap.size := fun k hk => h.c.lo k (by simpa [Option.mem_toList] using hk)
theorem Room.below (h : Room base b vs x W) (hb : Below W.heap.size W W') : Room base b vs x W' :=
  ⟨Nat.le_trans h.z hb.size, h.a.below hb, h.o.below hb, h.c.keep hb fun k hk => (h.c.lo k hk).2, h.m.below hb, h.ao, h.ac, h.am, h.oc, h.om, h.cm, Nat.lt_of_lt_of_le h.bz hb.size, range_same h.r (hb.block b h.bz), h.ba, h.bo, h.bc, h.bm⟩
theorem Room.drew (h : Room base b vs x W) : Room base b vs x W.drew := h.below (Below.refl _ _).drew
/-- Another block is taken for the case in hand. -/
theorem Room.other (h : Room base b vs x W) {b' : Nat} {vs' : List Value} (hz : b' < W.heap.size) (hr : W.rangeAt b' 0 vs') (hn : b' < base) : Room base b' vs' x W :=
  ⟨h.z, h.a, h.o, h.c, h.m, h.ao, h.ac, h.am, h.oc, h.om, h.cm, hz, hr, fun hm => by have := (h.a.blks b' hm).1; omega, fun hm => by have := (h.o.blks b' hm).1; omega, fun hm => by have := (h.clt b' hm).1; omega, fun hm => by have := (h.m.blks b' hm).1; omega⟩
theorem Room.fresh (h : Room base b vs x W) (hb : Below W.heap.size W W') {b' : Nat} {vs' : List Value} (hz : b' < W'.heap.size) (hr : W'.rangeAt b' 0 vs') (hn : W.heap.size ≤ b') : Room base b' vs' x W' :=
  ⟨Nat.le_trans h.z hb.size, h.a.below hb, h.o.below hb, h.c.keep hb fun k hk => (h.c.lo k hk).2, h.m.below hb, h.ao, h.ac, h.am, h.oc, h.om, h.cm, hz, hr, fun hm => by have := (h.a.blks b' hm).2; omega, fun hm => by have := (h.o.blks b' hm).2; omega, fun hm => by have := (h.clt b' hm).2; omega, fun hm => by have := (h.m.blks b' hm).2; omega⟩
theorem Room.setA (h : Room base b vs x W) {rs : List Rw} (hf : Fx (fblks x.A x.ra) W W') (ho : FsW W' base x.A x.cA rs) (hk : ∀ k ∈ fblks x.A rs, k ∈ fblks x.A x.ra ∨ W.heap.size ≤ k) : Room base b vs { x with ra := rs } W' :=
  ⟨Nat.le_trans h.z hf.size, ho, h.o.fx hf h.ao.symm, h.c.fx hf fun k hk' => h.ac.symm k (by rw [hk']; simp), h.m.fx hf h.am.symm, h.ao.step (fun k hk' => (h.o.blks k hk').2) hk, h.ac.step (fun k hk' => (h.clt k hk').2) hk, h.am.step (fun k hk' => (h.m.blks k hk').2) hk, h.oc, h.om, h.cm,
    Nat.lt_of_lt_of_le h.bz hf.size, range_same h.r (hf.block b h.bz h.ba), fun hm => by
      rcases hk b hm with e | e
      · exact h.ba e
      · have := h.bz; omega, h.bo, h.bc, h.bm⟩
theorem Room.setO (h : Room base b vs x W) {rs : List Rw} (hf : Fx (fblks x.O x.ro) W W') (ho : FsW W' base x.O x.cO rs) (hk : ∀ k ∈ fblks x.O rs, k ∈ fblks x.O x.ro ∨ W.heap.size ≤ k) : Room base b vs { x with ro := rs } W' :=
  ⟨Nat.le_trans h.z hf.size, h.a.fx hf h.ao, ho, h.c.fx hf fun k hk' => h.oc.symm k (by rw [hk']; simp), h.m.fx hf h.om.symm, (h.ao.symm.step (fun k hk' => (h.a.blks k hk').2) hk).symm, h.ac, h.am, h.oc.step (fun k hk' => (h.clt k hk').2) hk, h.om.step (fun k hk' => (h.m.blks k hk').2) hk, h.cm,
    Nat.lt_of_lt_of_le h.bz hf.size, range_same h.r (hf.block b h.bz h.bo), h.ba, fun hm => by
      rcases hk b hm with e | e
      · exact h.bo e
      · have := h.bz; omega, h.bc, h.bm⟩
theorem Room.setC (h : Room base b vs x W) {C : Option Addr} {cC : Nat} {l : List Int} (hf : Fx (blk x.C).toList W W') (ho : Owns W' base 3 1 eInt C cC l) (hk : ∀ k ∈ (blk C).toList, k ∈ (blk x.C).toList ∨ W.heap.size ≤ k) : Room base b vs { x with C := C, cC := cC, lc := l } W' :=
  ⟨Nat.le_trans h.z hf.size, h.a.fx hf h.ac, h.o.fx hf h.oc, ho, h.m.fx hf h.cm.symm, h.ao, (h.ac.symm.step (fun k hk' => (h.a.blks k hk').2) hk).symm, h.am, (h.oc.symm.step (fun k hk' => (h.o.blks k hk').2) hk).symm, h.om, h.cm.step (fun k hk' => (h.m.blks k hk').2) hk,
    Nat.lt_of_lt_of_le h.bz hf.size, range_same h.r (hf.block b h.bz h.bc), h.ba, h.bo, fun hm => by
      rcases hk b hm with e | e
      · exact h.bc e
      · have := h.bz; omega, h.bm⟩
theorem Room.setM (h : Room base b vs x W) {rs : List Dr} (hf : Fx (mblks x.M x.rm) W W') (ho : MsW W' base x.M x.cM rs) (hk : ∀ k ∈ mblks x.M rs, k ∈ mblks x.M x.rm ∨ W.heap.size ≤ k) : Room base b vs { x with rm := rs } W' :=
  ⟨Nat.le_trans h.z hf.size, h.a.fx hf h.am, h.o.fx hf h.om, h.c.fx hf fun k hk' => h.cm k (by rw [hk']; simp), ho, h.ao, h.ac, (h.am.symm.step (fun k hk' => (h.a.blks k hk').2) hk).symm, h.oc, (h.om.symm.step (fun k hk' => (h.o.blks k hk').2) hk).symm, (h.cm.symm.step (fun k hk' => (h.clt k hk').2) hk).symm,
    Nat.lt_of_lt_of_le h.bz hf.size, range_same h.r (hf.block b h.bz h.bm), h.ba, h.bo, h.bc, fun hm => by
      rcases hk b hm with e | e
      · exact h.bm e
      · have := h.bz; omega⟩
end
end Go.Proofs.Ytcffhfcjfjfokaa
/- What the document's listed answers. -/
namespace Go.Proofs.Ytcffhfcjfjfokaa
open Go.RowKit
/-- The error of a list of contents. -/
def Listed (fs : List Fl) (n : Int) : Prop := if 1 ≤ fs.length ∧ fs.length ≤ 16 then Together fs n else n = 1
set_option maxHeartbeats 1000000 in
theorem listed_any (A : Option Addr) (cA N : Nat) (fs : List Fl) (w : World) (hN : N ≤ w.heap.size) (hA : Fls w N A fs) (hl : fs.length ≤ 9223372036854775807) :
    Calls Try.prog 53 #[.slice A fs.length cA] w fun x w' => (∃ n, x = .returned (.int .i64 n) ∧ Listed fs n) ∧ Below w.heap.size w w' := by
  by_cases h1 : fs.length < 1
  · have HL : Hid (Listed fs 1) := by show (if _ then _ else _); rw [if_neg (by omega)]
    go_enter Try.func53, Try.ntmps53
    go_wp2
    go_ret
    go_light
    exact ⟨⟨1, rfl, HL.out⟩, Below.refl _ _⟩
  · by_cases h2 : 16 < fs.length
    · have HL : Hid (Listed fs 1) := by show (if _ then _ else _); rw [if_neg (by omega)]
      go_enter Try.func53, Try.ntmps53
      go_wp2
      go_ret
      go_light
      exact ⟨⟨1, rfl, HL.out⟩, Below.refl _ _⟩
    · have HL : Hid (∀ n, Together fs n → Listed fs n) := by intro n hn; show (if _ then _ else _); rw [if_pos (by omega)]; exact hn
      go_enter Try.func53, Try.ntmps53
      go_wp2_with (go_at_call 29; refine (together_any A cA N fs _ hN hA hl).mono ?_; rintro e w' ⟨⟨n, rfl, hn⟩, hbw⟩; replace hn := Lib.hid hn)
      go_ret
      go_light
      exact ⟨⟨n, rfl, HL.out n hn.out⟩, hbw⟩
end Go.Proofs.Ytcffhfcjfjfokaa
/- What the document's Cut answers. -/
namespace Go.Proofs.Ytcffhfcjfjfokaa
open Go.RowKit
theorem num_any (n : Int) (w : World) : Calls Try.prog 16 #[.int .i64 n] w fun e w' => e = .returned (.int .i64 n) ∧ w = w' := by
  go_enter Try.func16, Try.ntmps16
  go_wp2
  go_ret
  exact ⟨rfl, rfl⟩
/-- What Cut answers: the cut and 0, or 0 and the error. -/
def CutIs (fs : List Fl) (k n : Int) : Prop := Listed fs n ∧ (n = 0 → IsCut fs k) ∧ (n ≠ 0 → k = 0)
theorem listed_one {fs : List Fl} {a b : Int} (h : Listed fs a) (k : Listed fs b) : a = b := by
  unfold Listed at h k
  by_cases hl : 1 ≤ fs.length ∧ fs.length ≤ 16
  · rw [if_pos hl] at h k; exact together_one h k
  · rw [if_neg hl] at h k; rw [h, k]
theorem cutIs_one {fs : List Fl} {a b n m : Int} (h : CutIs fs a n) (k : CutIs fs b m) : a = b ∧ n = m := by
  have e := listed_one h.1 k.1
  subst e
  refine ⟨?_, rfl⟩
  by_cases hn : n = 0
  · exact cut_one (h.2.1 hn) (k.2.1 hn)
  · rw [h.2.2 hn, k.2.2 hn]
theorem listed_fit {fs : List Fl} (h : Listed fs 0) : Fit fs ∧ fs.length ≤ 16 := by
  unfold Listed at h
  by_cases hl : 1 ≤ fs.length ∧ fs.length ≤ 16
  · rw [if_pos hl] at h; exact ⟨fit_iff.1 h, hl.2⟩
  · rw [if_neg hl] at h; cases h
set_option maxHeartbeats 1000000 in
theorem rcut_any (A : Option Addr) (cA N : Nat) (fs : List Fl) (w : World) (hN : N ≤ w.heap.size) (hA : Fls w N A fs) (hl : fs.length ≤ 9223372036854775807) :
    Calls Try.prog 15 #[.slice A fs.length cA] w fun x w' => (∃ k n, x = .returned (.tuple #[.int .i64 k, .int .i64 n]) ∧ CutIs fs k n) ∧ Below w.heap.size w w' := by
  go_enter Try.func15, Try.ntmps15
  go_wp2_with (go_at_call 53; refine (listed_any A cA N fs _ hN hA hl).mono ?_; rintro e w' ⟨⟨n, rfl, hn⟩, hbw⟩; replace hn := Lib.hid hn)
  · go_ret2
    go_light
    have h0 := ‹(n != 0) = true›
    exact ⟨⟨0, n, rfl, hn.out, fun e => by simp [e] at h0, fun _ => rfl⟩, hbw⟩
  · have h0 := ‹(n != 0) = false›
    obtain rfl : n = 0 := by simpa using h0
    have hfit := (listed_fit hn.out).1
    have HFit := Lib.hid hfit
    have hsz := hbw.size
    clear hfit
    refine (end_any A cA N fs w' (by omega) (hA.below hbw hN) hl (fun f hf => ⟨(HFit.out.sound f hf).base0, by have := (HFit.out.sound f hf).base; omega⟩) (base_nonneg fs) (fun n h => cut_bound HFit.out h)).mono ?_
    rintro e w2 ⟨⟨k, rfl, hk⟩, hbw2⟩
    replace hk := Lib.hid hk
    go_wp2
    go_ret2
    go_light
    exact ⟨⟨k, 0, rfl, hn.out, fun _ => hk.out, fun h => absurd rfl h⟩, hbw.trans (hbw2.mono hsz)⟩
end Go.Proofs.Ytcffhfcjfjfokaa
/- A map that the call itself has made, as a partial function from keys to values: made, looked up, stored into. Over any program. -/
namespace Go.Proofs.Ytcffhfcjfjfokaa
open Go.RowKit
open Go.Maps (Keyed)

/-- Block b is a map of at most n entries that holds just f. -/
def MapsTo {κ ν : Type} (w : World) (P : Program) (K : TypeId) (b n : Nat) (ek : κ → Value) (ev : ν → Value) (f : κ → Option ν) : Prop :=
  ∃ es clock, w.heap[b]? = some (.map es clock) ∧ es.size ≤ n ∧
    (∀ e ∈ es.toList, ∃ k v, e.key = ek k ∧ e.val = ev v ∧ f k = some v ∧ ∃ l, keyOf P K (ek k) = some l) ∧
    (∀ k v, f k = some v → ∃ e ∈ es.toList, e.key = ek k) ∧ es.toList.Pairwise (fun a b => a.key ≠ b.key)

section
variable {κ ν : Type} {w w' : World} {P : Program} {K e t : TypeId} {b n : Nat} {ek : κ → Value} {ev : ν → Value} {f : κ → Option ν}
theorem mapsTo_made (w : World) (P : Program) (K : TypeId) (ek : κ → Value) (ev : ν → Value) : MapsTo (w.alloc (.map #[] 0)) P K w.heap.size 0 ek ev (fun _ => none) :=
  ⟨#[], 0, (MapKept.heap_alloc w _).1, Nat.le_refl _, by simp, by simp, by simp⟩
theorem MapsTo.mono (h : MapsTo w P K b n ek ev f) {n' : Nat} (hn : n ≤ n') : MapsTo w P K b n' ek ev f := by
  obtain ⟨es, clock, h1, h2, h3⟩ := h
  exact ⟨es, clock, h1, by omega, h3⟩
theorem MapsTo.lt (h : MapsTo w P K b n ek ev f) : b < w.heap.size := by
  obtain ⟨es, clock, hb, _⟩ := h
  exact (Array.getElem?_eq_some_iff.1 hb).1
theorem MapsTo.keep {B : Nat} (h : MapsTo w P K b n ek ev f) (hb : Below B w w') (hB : b < B) : MapsTo w' P K b n ek ev f := by
  obtain ⟨es, clock, h1, h2⟩ := h
  exact ⟨es, clock, (hb.block b hB).trans h1, h2⟩
theorem MapsTo.kept {row : Option Nat} (h : MapsTo w P K b n ek ev f) (hg : w.grownBy w' row) (hne : some b ≠ row) : MapsTo w' P K b n ek ev f := by
  have hlt := h.lt
  obtain ⟨es, clock, h1, h2⟩ := h
  exact ⟨es, clock, (hg.block b hlt hne).trans h1, h2⟩
theorem MapsTo.alloc (h : MapsTo w P K b n ek ev f) (o : Obj) : MapsTo (w.alloc o) P K b n ek ev f := h.kept (World.grownBy_alloc w o none) (by simp)
theorem MapsTo.drewN (h : MapsTo w P K b n ek ev f) (k : Nat) : MapsTo (w.drewN k) P K b n ek ev f := h
theorem MapsTo.setCell (h : MapsTo w P K b n ek ev f) {a : Addr} (ha : a.block ≠ b) (u : Value) : MapsTo (w.setCell a u) P K b n ek ev f := by
  obtain ⟨es, clock, h1, h2⟩ := h
  exact ⟨es, clock, (Below.heap_setCell w a u b (fun e => ha e.symm)).trans h1, h2⟩

theorem MapsTo.look (h : MapsTo w P K b n ek ev f) (L : Keyed P K) (hinj : ∀ x y, ek x = ek y → x = y) (ht : P.underlying t = some (.map K e)) {z : Value} (hz : (zeroValue e).run P w = .ok z w) (c : Bool)
    (k : κ) (hk : ∃ l, keyOf P K (ek k) = some l) :
    (Instr.lookup t (.map (some b)) (ek k) c).run P w = .ok (if c then .tuple #[(match f k with | some v => ev v | none => z), .bool (f k).isSome] else (match f k with | some v => ev v | none => z)) w := by
  obtain ⟨l, hl⟩ := hk
  obtain ⟨es, clock, hb, _, h1, h2, h3⟩ := h
  rcases L.find w hl es.toList (fun x hx => by obtain ⟨k', v, hk', _, _, hl'⟩ := h1 x hx; rw [hk']; exact hl') with ⟨r1, r2⟩ | ⟨j, e0, r1, r2, r3⟩
  · have hf : f k = none := by
      cases hfk : f k with
      | none => rfl
      | some v => obtain ⟨x, hx, he⟩ := h2 k v hfk; exact absurd he (r2 x hx)
    rw [hf]
    simp [Instr.lookup, run_underlying ht, MapKept.run_getObj_map hb, L.check w _ hl, r1, hz, Result.andThen]
  · obtain ⟨k', v, hk', hv, hfv, _⟩ := h1 e0 (List.mem_of_getElem? r2)
    have hkk : k' = k := hinj _ _ (hk'.symm.trans r3)
    subst hkk
    rw [hfv, hv] at *
    simp [Instr.lookup, run_underlying ht, MapKept.run_getObj_map hb, L.check w _ hl, r1, hv, Result.andThen]

theorem MapsTo.put [DecidableEq κ] (h : MapsTo w P K b n ek ev f) (L : Keyed P K) (hinj : ∀ x y, ek x = ek y → x = y) (ht : P.underlying t = some (.map K e)) (k : κ) (v : ν) (hk : ∃ l, keyOf P K (ek k) = some l) :
    ∃ w', (Instr.mapUpdate t (.map (some b)) (ek k) (ev v)).run P w = .ok () w' ∧ MapsTo w' P K b (n + 1) ek ev (fun y => if y = k then some v else f y) ∧ w.grownBy w' (some b) := by
  have hlt := h.lt
  obtain ⟨l, hl⟩ := hk
  obtain ⟨es, clock, hb, hn, h1, h2, h3⟩ := h
  have grown : ∀ o : Obj, w.grownBy (ChangeMaps.setBlock w b o) (some b) := fun o =>
    ⟨rfl, rfl, rfl, by simp [ChangeMaps.setBlock], fun i hi hne => by simp only [ChangeMaps.setBlock]; rw [Array.getElem?_setIfInBounds_ne (by rintro rfl; exact hne rfl)]⟩
  have at_ : ∀ o : Obj, (ChangeMaps.setBlock w b o).heap[b]? = some o := fun o => by simp [ChangeMaps.setBlock, hlt]
  rcases L.find w hl es.toList (fun x hx => by obtain ⟨k', v, hk', _, _, hl'⟩ := h1 x hx; rw [hk']; exact hl') with ⟨r1, r2⟩ | ⟨j, e0, r1, r2, r3⟩
  · refine ⟨ChangeMaps.setBlock w b (.map (es.push ⟨ek k, ev v, clock⟩) (clock + 1)), ?_, ⟨es.push ⟨ek k, ev v, clock⟩, clock + 1, at_ _, by simp; omega, ?_, ?_, ?_⟩, grown _⟩
    · simp [Instr.mapUpdate, run_underlying ht, MapKept.run_getObj_map hb, L.check w false hl, r1, MapKept.run_setObj_map _ hb, Result.andThen, ChangeMaps.setBlock]
    · intro x hx
      simp only [Array.toList_push, List.mem_append, List.mem_singleton] at hx
      rcases hx with hx | rfl
      · obtain ⟨k', v', hk', hv', hf', hl'⟩ := h1 x hx
        refine ⟨k', v', hk', hv', ?_, hl'⟩
        show (if k' = k then some v else f k') = some v'
        rw [if_neg (fun he => r2 x hx (by rw [hk', he]))]; exact hf'
      · exact ⟨k, v, rfl, rfl, if_pos rfl, l, hl⟩
    · intro k' v' hf'
      replace hf' : (if k' = k then some v else f k') = some v' := hf'
      by_cases hkk : k' = k
      · subst hkk; exact ⟨⟨ek k', ev v, clock⟩, by simp, rfl⟩
      · rw [if_neg hkk] at hf'
        obtain ⟨x, hx, he⟩ := h2 k' v' hf'
        exact ⟨x, by simp [Array.mem_toList_iff.1 hx], he⟩
    · rw [Array.toList_push, List.pairwise_append]
      exact ⟨h3, by simp, fun x hx y hy => by simp at hy; subst hy; exact r2 x hx⟩
  · have hj : es[j]? = some e0 := by simpa using r2
    have hjl : j < es.size := (Array.getElem?_eq_some_iff.1 hj).1
    have hmod : (es.modify j fun e => { e with key := ek k, val := ev v }).toList = es.toList.set j { e0 with key := ek k, val := ev v } := by
      apply List.ext_getElem?
      intro i
      rw [Array.getElem?_toList, Array.getElem?_modify, List.getElem?_set]
      by_cases hij : j = i
      · subst hij; simp [hj, hjl]; rw [(Array.getElem?_eq_some_iff.1 hj).2]
      · simp [hij]
    have hkeyj : ∀ i x, es.toList[i]? = some x → x.key = ek k → i = j := by
      intro i x hx hxk
      have hi : i < es.toList.length := (List.getElem?_eq_some_iff.1 hx).1
      rcases Nat.lt_trichotomy i j with h | h | h
      · exfalso
        rw [List.pairwise_iff_getElem] at h3
        have := h3 i j hi (by simpa using hjl) h
        rw [(List.getElem?_eq_some_iff.1 hx).2, (List.getElem?_eq_some_iff.1 r2).2] at this
        exact this (by rw [hxk, r3])
      · exact h
      · exfalso
        rw [List.pairwise_iff_getElem] at h3
        have := h3 j i (by simpa using hjl) hi h
        rw [(List.getElem?_eq_some_iff.1 hx).2, (List.getElem?_eq_some_iff.1 r2).2] at this
        exact this (by rw [hxk, r3])
    refine ⟨ChangeMaps.setBlock w b (.map (es.modify j fun e => { e with key := ek k, val := ev v }) clock), ?_, ⟨_, clock, at_ _, by simp; omega, ?_, ?_, ?_⟩, grown _⟩
    · simp [Instr.mapUpdate, run_underlying ht, MapKept.run_getObj_map hb, L.check w false hl, r1, hj, r3, L.stays w hl, MapKept.run_setObj_map _ hb, Result.andThen, ChangeMaps.setBlock]
    · intro x hx
      rw [hmod] at hx
      obtain ⟨i, hi, hxi⟩ := List.getElem_of_mem hx
      rw [List.getElem_set] at hxi
      by_cases hij : j = i
      · rw [if_pos hij] at hxi; subst hxi
        exact ⟨k, v, rfl, rfl, if_pos rfl, l, hl⟩
      · rw [if_neg hij] at hxi
        have hi' : i < es.toList.length := by simpa using hi
        have hmem : es.toList[i] ∈ es.toList := List.getElem_mem hi'
        obtain ⟨k', v', hk', hv', hf', hl'⟩ := h1 _ hmem
        rw [hxi] at hk' hv'
        refine ⟨k', v', hk', hv', ?_, hl'⟩
        show (if k' = k then some v else f k') = some v'
        rw [if_neg (fun he => hij (hkeyj i es.toList[i] (List.getElem?_eq_getElem hi') (by rw [hxi, hk', he])).symm)]; exact hf'
    · intro k' v' hf'
      replace hf' : (if k' = k then some v else f k') = some v' := hf'
      rw [hmod]
      by_cases hkk : k' = k
      · subst hkk
        exact ⟨{ e0 with key := ek k', val := ev v }, List.mem_iff_getElem?.2 ⟨j, by rw [List.getElem?_set]; simp [hjl]⟩, rfl⟩
      · rw [if_neg hkk] at hf'
        obtain ⟨x, hx, he⟩ := h2 k' v' hf'
        obtain ⟨i, hi, rfl⟩ := List.getElem_of_mem hx
        have hij : j ≠ i := by
          rintro rfl
          have : es.toList[j] = e0 := by have := (List.getElem?_eq_some_iff.1 r2).2; exact this
          rw [this, r3] at he
          exact hkk (hinj _ _ he).symm
        exact ⟨es.toList[i], List.mem_iff_getElem?.2 ⟨i, by rw [List.getElem?_set_ne hij]; exact List.getElem?_eq_getElem hi⟩, he⟩
    · rw [hmod, List.pairwise_iff_getElem]
      rw [List.pairwise_iff_getElem] at h3
      intro a c ha hc hac
      have ha' : a < es.toList.length := by simpa using ha
      have hc' : c < es.toList.length := by simpa using hc
      have := h3 a c ha' hc' hac
      rw [List.getElem_set, List.getElem_set]
      have ej : es.toList[j]'(by simpa using hjl) = e0 := (List.getElem?_eq_some_iff.1 r2).2
      by_cases h1 : j = a
      · subst h1
        rw [if_pos rfl, if_neg (by omega)]
        rw [ej] at this; intro he; exact this (by rw [r3]; exact he)
      · rw [if_neg h1]
        by_cases h2 : j = c
        · subst h2
          rw [if_pos rfl]
          rw [ej] at this; intro he; exact this (by rw [r3]; exact he)
        · rw [if_neg h2]; exact this
end

/-- A store into such a map, at the operation. -/
theorem wpList_put {κ ν : Type} [DecidableEq κ] {P : Program} (w : World) {ops : Array Oper} {rest : List Oper} {o : Oper} {a : Act} {Q : Exit → Act → World → Prop}
    (hg : o.guard = none) (m x v : Operand) (t : TypeId) (hop : o.op = Op.mapUpdate t m x v)
    (K e : TypeId) (L : Keyed P K) (ht : P.underlying t = some (.map K e)) (b n : Nat) (ek : κ → Value) (ev : ν → Value) (hinj : ∀ x y, ek x = ek y → x = y) (f : κ → Option ν)
    (hm : a.eval m = .map (some b)) (hown : MapsTo w P K b n ek ev f) (key : κ) (val : ν) (hx : a.eval x = ek key) (hv : a.eval v = ev val) (hkey : ∃ l, keyOf P K (ek key) = some l)
    (hK : ∀ w', MapsTo w' P K b (n + 1) ek ev (fun y => if y = key then some val else f y) → w.grownBy w' (some b) → wpList P ops Q rest (a.put o.dst undef) w') :
    wpList P ops Q (o :: rest) a w := by
  refine wpList_plain hg fun K' hK' => ?_
  obtain ⟨w', hrun, r1, r2⟩ := hown.put L hinj ht key val hkey
  unfold Oper.wp
  simp [execOp, hop, hm, hx, hv, hrun, Result.andThen]
  exact hK' _ _ (hK w' r1 r2)

end Go.Proofs.Ytcffhfcjfjfokaa
/- The keys of this program's maps: slots and numbers. -/
namespace Go.Proofs.Ytcffhfcjfjfokaa
open Go.RowKit
theorem laidOut_ : laidOutB Try.prog = true := by kernel_rfl
theorem keyRow66 : (66 : TypeId) < Try.prog.types.size := of_decide_eq_true (by kernel_rfl)
theorem keyWide66 : (match Try.prog.underlying 66 with | some (.array _ _) | some (.struct _) => true | _ => false) = true := by rw [Try.underlying66]
theorem keyDeep66 : Try.prog.keyTypeAt 2 66 = true := by kernel_rfl
set_option maxRecDepth 100000 in
theorem lawSlot : Maps.Keyed Try.prog 66 := Maps.Keyed.of_law (deep_law_laid laidOut_ (m := 2) (by omega) keyRow66 keyDeep66 keyWide66)
theorem keyType66 : Try.prog.keyType 66 = true := by kernel_rfl
theorem typesSize : Try.prog.types.size = 197 := by kernel_rfl
theorem cells66 : Try.prog.cellsOf 66 = 2 := by kernel_rfl
theorem cells3 : Try.prog.cellsOf 3 = 1 := by kernel_rfl
theorem key_two {P : Program} {k e : TypeId} {f0 f1 : Field} (hu : P.underlying k = some (.struct #[f0, f1])) (he : P.underlying e = some (.int .i64)) (hc : P.cellsOf k = 2) (hce : P.cellsOf e = 1) (hk : P.keyType k = true)
    (h0 : f0.type = e) (h1 : f1.type = e) (o0 : f0.offset = 0) (o1 : f1.offset = 1) (n0 : (f0.name != "_") = true) (n1 : (f1.name != "_") = true)
    (a b : Int) (ha : (Lit.int .i64 a).wf = true) (hb : (Lit.int .i64 b).wf = true) (hs : 0 < P.types.size) : ∃ l, keyOf P k (.agg #[.int .i64 a, .int .i64 b]) = some l := by
  obtain ⟨d, hd⟩ : ∃ d, P.types.size = d + 1 := ⟨P.types.size - 1, by omega⟩
  refine ⟨.string (keyBytes [.int .i64 a, .int .i64 b]), ?_⟩
  have hi : ∀ n : Int, (Lit.int .i64 n).wf = true → P.keyLits (d + 1) e [.int .i64 n] = some [.int .i64 n] := fun n hn => by
    unfold Program.keyLits; simp [he, hn]
  have hs2 : P.keyLits (d + 1 + 1) k [.int .i64 a, .int .i64 b] = some [.int .i64 a, .int .i64 b] := by
    unfold Program.keyLits
    simp [hu, hc, h0, h1, o0, o1, hce, hi a ha, hi b hb]
    exact ⟨by simpa using n0, by simpa using n1⟩
  simp [keyOf, hu, hk, Value.formed, hc, Value.cells, hd, hs2]
theorem fields66 : ∃ f0 f1 : Field, Try.prog.underlying 66 = some (.struct #[f0, f1]) ∧ f0.type = 3 ∧ f1.type = 3 ∧ f0.offset = 0 ∧ f1.offset = 1 ∧ (f0.name != "_") = true ∧ (f1.name != "_") = true :=
  ⟨_, _, Try.underlying66, rfl, rfl, rfl, rfl, by decide, by decide⟩
theorem key_slot (a b : Int) (ha : (Lit.int .i64 a).wf = true) (hb : (Lit.int .i64 b).wf = true) : ∃ l, keyOf Try.prog 66 (.agg #[.int .i64 a, .int .i64 b]) = some l := by
  obtain ⟨f0, f1, hu, h0, h1, o0, o1, n0, n1⟩ := fields66
  exact key_two hu Try.underlying3 cells66 cells3 keyType66 h0 h1 o0 o1 n0 n1 a b ha hb (by rw [typesSize]; omega)
theorem lawInt : Maps.Keyed Try.prog 3 := Maps.int_keyed Try.underlying3
theorem key_int (a : Int) (ha : (Lit.int .i64 a).wf = true) : ∃ l, keyOf Try.prog 3 (.int .i64 a) = some l := ⟨_, Maps.keyOf_int_mk Try.underlying3 ha⟩
theorem zero3 (w : World) : (zeroValue 3).run Try.prog w = .ok (.int .i64 0) w := by kernel_rfl
theorem zero66 (w : World) : (zeroValue 66).run Try.prog w = .ok (.agg #[.int .i64 0, .int .i64 0]) w := by kernel_rfl
def vSlot (s : Int × Int) : Value := .agg #[.int .i64 s.1, .int .i64 s.2]
def vInt (n : Int) : Value := .int .i64 n
theorem vSlot_inj (x y : Int × Int) (h : vSlot x = vSlot y) : x = y := by
  obtain ⟨a, b⟩ := x; obtain ⟨c, d⟩ := y
  simp [vSlot] at h; simp [h]
theorem vInt_inj (x y : Int) (h : vInt x = vInt y) : x = y := by simpa [vInt] using h
end Go.Proofs.Ytcffhfcjfjfokaa
/- What the program's sound answers, for every content. -/
namespace Go.Proofs.Ytcffhfcjfjfokaa
open Go.RowKit
set_option maxHeartbeats 2000000 in
theorem isound_no (f : Fl) (A B : Option Addr) (cA cB : Nat) (w : World)
    (hl1 : f.slots.length ≤ 9223372036854775807) (hl2 : f.have_.length ≤ 9223372036854775807) (hd : ¬ SoundHead f) :
    Calls Try.prog 115 #[.agg (flc f.e f.l f.i f.c f.base A f.slots.length cA B f.have_.length cB)] w fun x w' => x = .returned (.bool (soundB f)) ∧ Below w.heap.size w w' := by
  replace hd := Lib.hid hd
  go_enter Try.func115, Try.ntmps115
  go_wp2_with (first | (go_at_call 118; refine (whole_any _ _ _ _ _).mono ?_; rintro e w' ⟨rfl, hbw⟩; rw [World.size_alloc] at hbw; obtain ⟨hb0, hc, -, hsz⟩ := box1_facts hbw))
  all_goals first | (go_ret; go_light; exact ⟨ret_bool (sound_head hd.out), hb0⟩) | (exfalso; exact hd.out ⟨by assumption, by assumption, by assumption, by omega, by assumption, by omega⟩)
/-- What the map of those seen holds behind k slots. -/
structure SeenTo (l : List (Int × Int)) (k : Nat) (F : Int × Int → Option Int) : Prop where
  pos : ∀ s v, F s = some v → 1 ≤ v ∧ ∃ j, j < k ∧ l[j]? = some s
  all : ∀ j s, j < k → l[j]? = some s → F s ≠ none
theorem seenTo_zero (l : List (Int × Int)) : SeenTo l 0 (fun _ => none) := ⟨(by intro s v h; cases h), (by intro j s hj; omega)⟩
theorem seenTo_succ {l : List (Int × Int)} {k : Nat} {F : Int × Int → Option Int} (h : SeenTo l k F) {s : Int × Int} (hs : l[k]? = some s) : SeenTo l (k + 1) (fun y => if y = s then some ((k : Int) + 1) else F y) := by
  constructor
  · intro y v hy
    by_cases hys : y = s
    · simp only [if_pos hys] at hy; cases hy; exact ⟨by omega, k, by omega, by rw [hys]; exact hs⟩
    · simp only [if_neg hys] at hy
      obtain ⟨a, j, hj, e⟩ := h.pos y v hy
      exact ⟨a, j, by omega, e⟩
  · intro j y hj hy
    by_cases hys : y = s
    · simp [if_pos hys]
    · simp only [if_neg hys]
      have : j ≠ k := by rintro rfl; rw [hs] at hy; cases hy; exact hys rfl
      exact h.all j y (by omega) hy
set_option maxRecDepth 100000 in
set_option maxHeartbeats 4000000 in
theorem isound_yes (f : Fl) (A B : Option Addr) (cA cB N : Nat) (w : World) (hN : N ≤ w.heap.size)
    (hA : RowAt w N 2 eSlot A f.slots) (hB : RowAt w N 1 eInt B f.have_) (hd : SoundHead f) :
    Calls Try.prog 115 #[.agg (flc f.e f.l f.i f.c f.base A f.slots.length cA B f.have_.length cB)] w fun x w' => x = .returned (.bool (soundB f)) ∧ Below w.heap.size w w' := by
  have hd' := Lib.hid hd
  have hmm := @run_makeMap Try.prog
  obtain ⟨h1, h2, h3, h4, h5, h6⟩ := hd
  go_enter Try.func115, Try.ntmps115
  go_wp2_with (first | (go_at_call 118; refine (whole_any _ _ _ _ _).mono ?_; rintro e w' ⟨rfl, hbw⟩; rw [World.size_alloc] at hbw; obtain ⟨hb0, hc, -, hsz⟩ := box1_facts hbw))
  go_loopw [45] (fun k wr => ∃ q : Nat, k = .int .i64 q ∧ q ≤ f.have_.length ∧ upto (fun x => 0 ≤ x ∧ x ≤ 4611686018427387904) f.have_ q ∧ w' = wr) (fun k _ => f.have_.length - (intOf k).toNat)
  case atStart => exact ⟨0, rfl, by omega, upto_zero _ _, rfl⟩
  case round =>
    obtain ⟨q, rfl, hq, hup, rfl⟩ := hrel
    by_cases hlt : q < f.have_.length
    · obtain ⟨g, o, x, rfl, hg, hx, hk⟩ := (hB.below hb0 hN).int hlt
      clear hA hB
      by_cases hbad : x < 0 ∨ 4611686018427387904 < x
      · have HB := Lib.hid hbad
        clear hbad
        go_wp2
        all_goals first | (go_ret; go_light; exact ⟨ret_bool (unsound_have hx.out HB.out), hb0⟩) | (exfalso; have := HB.out; omega)
      · have hb1 : 0 ≤ x := by omega
        have hb2 : x ≤ 4611686018427387904 := by omega
        clear hbad
        go_wp2
        go_roundw
        case rel => go_light; exact ⟨q + 1, by go_num, by omega, upto_succ hup (fun z hz => by rw [hx.out] at hz; cases hz; exact ⟨hb1, hb2⟩), trivial⟩
        case measure => go_light; simp [intOf]; omega
    · go_wp2
      have Hq : Hid (q = f.have_.length) := by show q = _; omega
      clear hlt hq
      have hm0 : MapsTo (w'.alloc (.map #[] 0)) Try.prog 66 w'.heap.size 0 vSlot vInt (fun _ => none) := mapsTo_made _ _ _ _ _
      have hB0 : Below (w.heap.size + 1) (box1 w (flc f.e f.l f.i f.c f.base A f.slots.length cA B f.have_.length cB) 39) (w'.alloc (.map #[] 0)) := hbw.alloc (by omega) _
      obtain ⟨bm, hbm⟩ : ∃ bm, bm = w'.heap.size := ⟨_, rfl⟩
      have hbl : w.heap.size + 1 ≤ bm := by omega
      rw [← hbm] at hm0 ⊢
      replace hbm := Lib.hid hbm
      clear hb0 hc hsz hbw
      go_loopw [60] (fun k wr => ∃ (p : Nat) (F : Int × Int → Option Int), k = .int .i64 p ∧ p ≤ f.slots.length ∧ upto (slotIn f.have_.length) f.slots p ∧ apartTo f.slots p ∧ SeenTo f.slots p F ∧ MapsTo wr Try.prog 66 bm p vSlot vInt F ∧ Below (w.heap.size + 1) (box1 w (flc f.e f.l f.i f.c f.base A f.slots.length cA B f.have_.length cB) 39) wr) (fun k _ => f.slots.length - (intOf k).toNat)
      case atStart => exact ⟨0, _, rfl, by omega, upto_zero _ _, apartTo_zero _, seenTo_zero _, hm0, hB0⟩
      case round =>
        obtain ⟨p, F, rfl, hp, hup2, hap, hseen, hm, hb⟩ := hrel
        obtain ⟨hb0, hc, -, hsz⟩ := box1_facts hb
        clear hm0 hB0
        by_cases hlt : p < f.slots.length
        · obtain ⟨g, o, x, y, rfl, hg, hx, hk, hk2⟩ := (hA.below hb0 hN).slot hlt
          have hgw : g < wr.heap.size := by omega
          have hbmw : bm < wr.heap.size := hm.lt
          by_cases hbad : slotIn f.have_.length (x, y)
          · have HB := Lib.hid hbad
            obtain ⟨i1, i2, i3, i4⟩ := hbad
            simp only at i1 i2 i3 i4
            have hkey : ∃ l, keyOf Try.prog 66 (vSlot (x, y)) = some l := key_slot x y (WalkArith.wf_i64 (by omega)) (WalkArith.wf_i64 (by omega))
            have hlook := (hm.alloc (.cells #[.int .i64 x, .int .i64 y] 66)).look lawSlot vSlot_inj Try.underlying121 (zero3 _) false (x, y) hkey
            clear hA hB
            cases hF : F (x, y) with
            | none =>
              rw [hF] at hlook
              simp only [vSlot] at hlook
              have HF := Lib.hid hF
              clear hF
              go_wp2_with (at_mapUpdate; refine wpList_put _ rfl (.tmp 90) (.tmp 91) (.tmp 93) 121 rfl 66 3 lawSlot Try.underlying121 bm p vSlot vInt vSlot_inj F rfl ?_ (x, y) ((p : Int) + 1) rfl rfl ?_ ?_)
              · exact hm.alloc _
              · exact hkey
              · intro w2 hm2 hg2
                have hb2 := (hb.alloc (by omega) (.cells #[.int .i64 x, .int .i64 y] 66)).grown hg2 (by simp only [World.size_alloc]; omega) (by intro k hk; cases hk; omega)
                clear hlook hm hb hb0 hc hk hk2 hg2
                go_wp2
                go_roundw
                case rel => go_light; exact ⟨p + 1, _, by go_num, by omega, upto_succ hup2 (fun z hz => by rw [hx.out] at hz; cases hz; exact HB.out), apartTo_succ hap (fun i z hi hz he => hseen.all i z hi hz (by rw [hx.out] at he; cases he; exact HF.out)), seenTo_succ hseen hx.out, hm2, hb2⟩
                case measure => go_light; simp [intOf]; omega
            | some v =>
              obtain ⟨hv1, j, hj, hjs⟩ := hseen.pos _ _ hF
              rw [hF] at hlook
              simp only [vSlot, vInt] at hlook
              have HF := Lib.hid hF
              have HJ := Lib.hid hjs
              clear hF hjs
              go_wp2
              go_ret
              go_light
              exact ⟨ret_bool (unsound_twice hx.out HJ.out hj (slotEq_iff.2 rfl)), hb0.alloc (by omega) _⟩
          · have HB := Lib.hid hbad
            clear hbad
            have HN : ∀ h : 0 ≤ x, x < (f.have_.length : Int) → 1 ≤ y → y ≤ 4611686018427387904 → False := fun a b c d => HB.out ⟨a, b, c, d⟩
            replace HN := Lib.hid HN
            clear hA hB
            go_wp2
            all_goals first | (go_ret; go_light; exact ⟨ret_bool (unsound_slot hx.out HB.out), (hb0.alloc (by omega) _)⟩) | (exfalso; exact HN.out (by assumption) (by assumption) (by assumption) (by omega))
        · go_wp2
          go_ret
          go_light
          exact ⟨ret_bool (sound_all hd'.out (by have := Hq.out; omega) (by omega) hup hup2 hap), hb0⟩
end Go.Proofs.Ytcffhfcjfjfokaa
/- What the program's joined keeps while it goes through the contents: who knows which slot where, and the memory in which that stands. -/
namespace Go.Proofs.Ytcffhfcjfjfokaa
open Go.RowKit

/-- The slot is known at the position by the first q contents, or by the first j slots of the q-th. -/
def KnownUp (fs : List Fl) (q j : Nat) (pos : Int) (s : Int × Int) : Prop := ∃ (i : Nat) (g : Fl) (k : Nat), fs[i]? = some g ∧ g.slots[k]? = some s ∧ pos = g.base + 1 + k ∧ (i < q ∨ (i = q ∧ k < j))
/-- The two maps say just that. -/
def Inv (fs : List Fl) (q j : Nat) (F : Int → Option (Int × Int)) (G : Int × Int → Option Int) : Prop := ∀ pos s, (F pos = some s ↔ KnownUp fs q j pos s) ∧ (G s = some pos ↔ KnownUp fs q j pos s)

theorem inv_zero (fs : List Fl) : Inv fs 0 0 (fun _ => none) (fun _ => none) := by
  intro pos s
  have h : ¬ KnownUp fs 0 0 pos s := by rintro ⟨i, g, k, _, _, _, h⟩; omega
  exact ⟨⟨fun x => (by cases x), fun x => absurd x h⟩, ⟨fun x => (by cases x), fun x => absurd x h⟩⟩
theorem up_next {fs : List Fl} {q : Nat} {f : Fl} (hf : fs[q]? = some f) {pos : Int} {s : Int × Int} : KnownUp fs q f.slots.length pos s ↔ KnownUp fs (q + 1) 0 pos s := by
  constructor
  · rintro ⟨i, g, k, h1, h2, h3, h4⟩; exact ⟨i, g, k, h1, h2, h3, by omega⟩
  · rintro ⟨i, g, k, h1, h2, h3, h4⟩
    refine ⟨i, g, k, h1, h2, h3, ?_⟩
    by_cases hi : i = q
    · subst hi; rw [hf] at h1; cases h1
      right; exact ⟨rfl, (List.getElem?_eq_some_iff.1 h2).1⟩
    · left; omega
theorem inv_next {fs : List Fl} {q : Nat} {f : Fl} (hf : fs[q]? = some f) {F : Int → Option (Int × Int)} {G : Int × Int → Option Int} (h : Inv fs q f.slots.length F G) : Inv fs (q + 1) 0 F G :=
  fun pos s => ⟨(h pos s).1.trans (up_next hf), (h pos s).2.trans (up_next hf)⟩
theorem up_put {fs : List Fl} {q j : Nat} {f : Fl} (hf : fs[q]? = some f) {s : Int × Int} (hs : f.slots[j]? = some s) {p : Int} {t : Int × Int} : KnownUp fs q (j + 1) p t ↔ KnownUp fs q j p t ∨ (p = f.base + 1 + j ∧ t = s) := by
  constructor
  · rintro ⟨i, g, k, h1, h2, h3, h4⟩
    by_cases hk : i = q ∧ k = j
    · obtain ⟨rfl, rfl⟩ := hk
      rw [hf] at h1; cases h1; rw [hs] at h2; cases h2
      right; exact ⟨h3, rfl⟩
    · left; exact ⟨i, g, k, h1, h2, h3, by omega⟩
  · rintro (⟨i, g, k, h1, h2, h3, h4⟩ | ⟨rfl, rfl⟩)
    · exact ⟨i, g, k, h1, h2, h3, by omega⟩
    · exact ⟨q, f, j, hf, hs, rfl, by omega⟩
theorem inv_put {fs : List Fl} {q j : Nat} {f : Fl} {F : Int → Option (Int × Int)} {G : Int × Int → Option Int} (h : Inv fs q j F G) (hf : fs[q]? = some f) {s : Int × Int} (hs : f.slots[j]? = some s) {pos : Int} (hp : pos = f.base + 1 + j)
    (hF : F pos = none ∨ F pos = some s) (hG : G s = none ∨ G s = some pos) : Inv fs q (j + 1) (fun y => if y = pos then some s else F y) (fun y => if y = s then some pos else G y) := by
  subst hp
  intro p t
  rw [up_put hf hs]
  constructor
  · constructor
    · intro hx
      by_cases hpp : p = f.base + 1 + j
      · simp only [if_pos hpp] at hx; cases hx; exact .inr ⟨hpp, rfl⟩
      · simp only [if_neg hpp] at hx; exact .inl ((h p t).1.1 hx)
    · rintro (hx | ⟨rfl, rfl⟩)
      · have := (h p t).1.2 hx
        by_cases hpp : p = f.base + 1 + j
        · subst hpp
          simp only [if_true]
          rcases hF with e | e <;> rw [e] at this <;> cases this
          rfl
        · simp only [if_neg hpp]; exact this
      · simp
  · constructor
    · intro hx
      by_cases hts : t = s
      · simp only [if_pos hts] at hx; cases hx; exact .inr ⟨rfl, hts⟩
      · simp only [if_neg hts] at hx; exact .inl ((h p t).2.1 hx)
    · rintro (hx | ⟨rfl, rfl⟩)
      · have := (h p t).2.2 hx
        by_cases hts : t = s
        · subst hts
          simp only [if_true]
          rcases hG with e | e <;> rw [e] at this <;> cases this
          rfl
        · simp only [if_neg hts]; exact this
      · simp

theorem clash_pos {fs : List Fl} {q j : Nat} {f : Fl} {F : Int → Option (Int × Int)} {G : Int × Int → Option Int} (h : Inv fs q j F G) (hf : fs[q]? = some f) {s t : Int × Int} (hs : f.slots[j]? = some s)
    (hF : F (f.base + 1 + j) = some t) (hne : t ≠ s) : ClashIn fs := by
  obtain ⟨i, g, k, h1, h2, h3, h4⟩ := (h _ t).1.1 hF
  rcases h4 with h4 | ⟨rfl, h4⟩
  · exact ⟨q, i, f, g, h4, hf, h1, j, k, s, t, hs, h2, fun e => hne (e.1 (by omega)).symm⟩
  · rw [hf] at h1; cases h1; omega
theorem clash_slot {fs : List Fl} (hall : ∀ f ∈ fs, Sound f) {q j : Nat} {f : Fl} {F : Int → Option (Int × Int)} {G : Int × Int → Option Int} (h : Inv fs q j F G) (hf : fs[q]? = some f) {s : Int × Int} (hs : f.slots[j]? = some s) {p : Int}
    (hG : G s = some p) (hne : p ≠ f.base + 1 + j) : ClashIn fs := by
  obtain ⟨i, g, k, h1, h2, h3, h4⟩ := (h p s).2.1 hG
  rcases h4 with h4 | ⟨rfl, h4⟩
  · exact ⟨q, i, f, g, h4, hf, h1, j, k, s, s, hs, h2, fun e => hne (by have := e.2 rfl; omega)⟩
  · rw [hf] at h1; cases h1
    exact absurd hs (apart_of_nodup (hall f (List.mem_of_getElem? hf)).nodup (by omega : k ≠ j) h2)
theorem up_all {fs : List Fl} {q : Nat} (hq : fs.length ≤ q) {p : Int} {s : Int × Int} : KnownUp fs q 0 p s ↔ Known fs p s := by
  constructor
  · rintro ⟨i, g, k, h1, h2, h3, _⟩; exact ⟨i, g, k, h1, h2, h3⟩
  · rintro ⟨i, g, k, h1, h2, h3⟩; exact ⟨i, g, k, h1, h2, h3, .inl (by have := (List.getElem?_eq_some_iff.1 h1).1; omega)⟩
theorem calm_of {fs : List Fl} {q : Nat} (hq : fs.length ≤ q) {F : Int → Option (Int × Int)} {G : Int × Int → Option Int} (h : Inv fs q 0 F G) : ¬ ClashIn fs := by
  rintro ⟨i, j, f, g, _, hf, hg, a, b, s, t, hs, ht, hn⟩
  have k1 := (up_all hq).2 ⟨i, f, a, hf, hs, rfl⟩
  have k2 := (up_all hq).2 ⟨j, g, b, hg, ht, rfl⟩
  apply hn
  constructor
  · intro e
    have e1 := (h _ s).1.2 k1
    have e2 := (h _ t).1.2 k2
    rw [show f.base + 1 + (a : Int) = g.base + 1 + (b : Int) by omega, e2] at e1
    exact (Option.some.inj e1).symm
  · intro e
    subst e
    have e1 := (h _ s).2.2 k1
    have e2 := (h _ s).2.2 k2
    rw [e1] at e2
    have := Option.some.inj e2; omega

/-- The memory in which it stands: the union's block, its two maps. -/
structure JW (w wr : World) (args : Array Value) (bu bs bp : Nat) (base cut : Int) (F : Int → Option (Int × Int)) (G : Int × Int → Option Int) : Prop where
  bel : Below (w.heap.size + 1) (box1 w args 22) wr
  ub : wr.heap[bs]? = some (.cells #[.int .i64 base, .int .i64 cut, .map (some bu)] 119 (0, 0))
  mu : ∃ n, MapsTo wr Try.prog 3 bu n vInt vSlot F
  mp : ∃ n, MapsTo wr Try.prog 66 bp n vSlot vInt G
  lou : w.heap.size + 1 ≤ bu
  los : w.heap.size + 1 ≤ bs
  lop : w.heap.size + 1 ≤ bp
  nup : bu ≠ bp
section
variable {w wr w' : World} {args : Array Value} {bu bs bp : Nat} {base cut : Int} {F : Int → Option (Int × Int)} {G : Int × Int → Option Int}
theorem JW.lts (h : JW w wr args bu bs bp base cut F G) : bs < wr.heap.size := (Array.getElem?_eq_some_iff.1 h.ub).1
theorem JW.ltu (h : JW w wr args bu bs bp base cut F G) : bu < wr.heap.size := by obtain ⟨n, m⟩ := h.mu; exact m.lt
theorem JW.ltp (h : JW w wr args bu bs bp base cut F G) : bp < wr.heap.size := by obtain ⟨n, m⟩ := h.mp; exact m.lt
theorem JW.nus (h : JW w wr args bu bs bp base cut F G) : bu ≠ bs := by
  obtain ⟨n, es, clock, m, _⟩ := h.mu
  rintro rfl
  have := h.ub; rw [m] at this; cases this
theorem JW.nps (h : JW w wr args bu bs bp base cut F G) : bp ≠ bs := by
  obtain ⟨n, es, clock, m, _⟩ := h.mp
  rintro rfl
  have := h.ub; rw [m] at this; cases this
theorem JW.cells (h : JW w wr args bu bs bp base cut F G) : ∀ i, wr.cell? ⟨bs, i, none⟩ = (#[.int .i64 base, .int .i64 cut, .map (some bu)] : Array Value)[i]? := fun i => by
  simp only [World.cell?, h.ub]; rfl
theorem JW.frozen (h : JW w wr args bu bs bp base cut F G) : ∀ i, wr.frozen? ⟨bs, i, none⟩ = false := fun i => by
  simp [World.frozen?, h.ub]
theorem JW.below (h : JW w wr args bu bs bp base cut F G) (hb : Below wr.heap.size wr w') : JW w w' args bu bs bp base cut F G := by
  have hs := h.bel.size
  simp only [World.size_alloc] at hs
  refine ⟨h.bel.trans (hb.mono hs), (hb.block bs h.lts).trans h.ub, ?_, ?_, h.lou, h.los, h.lop, h.nup⟩
  · obtain ⟨n, m⟩ := h.mu; exact ⟨n, m.keep hb m.lt⟩
  · obtain ⟨n, m⟩ := h.mp; exact ⟨n, m.keep hb m.lt⟩
theorem JW.alloc (h : JW w wr args bu bs bp base cut F G) (o : Obj) : JW w (wr.alloc o) args bu bs bp base cut F G := h.below ((Below.refl _ _).alloc (Nat.le_refl _) o)
theorem JW.drew (h : JW w wr args bu bs bp base cut F G) : JW w wr.drew args bu bs bp base cut F G := h.below (Below.drew (Below.refl _ _))
theorem JW.drewN (h : JW w wr args bu bs bp base cut F G) (n : Nat) : JW w (wr.drewN n) args bu bs bp base cut F G := h.below (below_drewN (Below.refl _ _) n)
theorem JW.setBase (h : JW w wr args bu bs bp base cut F G) (b : Int) : JW w (wr.setCell ⟨bs, 0, none⟩ (.int .i64 b)) args bu bs bp b cut F G := by
  refine ⟨h.bel.setCell h.los _, ?_, ?_, ?_, h.lou, h.los, h.lop, h.nup⟩
  · rw [heap_setCell_same wr bs 0 _ 119 _ h.ub]; rfl
  · obtain ⟨n, m⟩ := h.mu; exact ⟨n, m.setCell (by exact fun e => h.nus e.symm) _⟩
  · obtain ⟨n, m⟩ := h.mp; exact ⟨n, m.setCell (by exact fun e => h.nps e.symm) _⟩
theorem JW.setCut (h : JW w wr args bu bs bp base cut F G) (b : Int) : JW w (wr.setCell ⟨bs, 1, none⟩ (.int .i64 b)) args bu bs bp base b F G := by
  refine ⟨h.bel.setCell h.los _, ?_, ?_, ?_, h.lou, h.los, h.lop, h.nup⟩
  · rw [heap_setCell_same wr bs 1 _ 119 _ h.ub]; rfl
  · obtain ⟨n, m⟩ := h.mu; exact ⟨n, m.setCell (by exact fun e => h.nus e.symm) _⟩
  · obtain ⟨n, m⟩ := h.mp; exact ⟨n, m.setCell (by exact fun e => h.nps e.symm) _⟩
theorem JW.putF (h : JW w wr args bu bs bp base cut F G) (hg : wr.grownBy w' (some bu)) {n : Nat} {F' : Int → Option (Int × Int)} (hm : MapsTo w' Try.prog 3 bu n vInt vSlot F') : JW w w' args bu bs bp base cut F' G := by
  have hs := h.bel.size
  simp only [World.size_alloc] at hs
  refine ⟨h.bel.grown hg hs (fun k hk => by cases hk; exact h.lou), (hg.block bs h.lts (fun e => h.nus (by injection e with e; exact e.symm))).trans h.ub, ⟨n, hm⟩, ?_, h.lou, h.los, h.lop, h.nup⟩
  obtain ⟨n, m⟩ := h.mp; exact ⟨n, m.kept hg (fun e => h.nup (by injection e with e; exact e.symm))⟩
theorem JW.putG (h : JW w wr args bu bs bp base cut F G) (hg : wr.grownBy w' (some bp)) {n : Nat} {G' : Int × Int → Option Int} (hm : MapsTo w' Try.prog 66 bp n vSlot vInt G') : JW w w' args bu bs bp base cut F G' := by
  have hs := h.bel.size
  simp only [World.size_alloc] at hs
  refine ⟨h.bel.grown hg hs (fun k hk => by cases hk; exact h.lop), (hg.block bs h.lts (fun e => h.nps (by injection e with e; exact e.symm))).trans h.ub, ?_, ⟨n, hm⟩, h.lou, h.los, h.lop, h.nup⟩
  obtain ⟨n, m⟩ := h.mu; exact ⟨n, m.kept hg (fun e => h.nup (by injection e))⟩
end
theorem jw_start {w wo : World} {args : Array Value} (hb : Below (w.heap.size + 1) (box1 w args 22) wo) :
    JW w (((wo.alloc (.map #[] 0)).alloc (.cells #[.int .i64 0, .int .i64 0, .map (some wo.heap.size)] 119)).alloc (.map #[] 0)) args wo.heap.size (wo.heap.size + 1) (wo.heap.size + 1 + 1) 0 0 (fun _ => none) (fun _ => none) := by
  have hs := hb.size
  simp only [World.size_alloc] at hs
  refine ⟨((hb.alloc hs _).alloc (by simp only [World.size_alloc]; omega) _).alloc (by simp only [World.size_alloc]; omega) _, ?_, ⟨0, ?_⟩, ⟨0, ?_⟩, hs, by omega, by omega, by omega⟩
  · rw [Below.heap_alloc _ _ _ (by simp only [World.size_alloc]; omega)]
    have := heap_alloc_new (wo.alloc (.map #[] 0)) (.cells #[.int .i64 0, .int .i64 0, .map (some wo.heap.size)] 119)
    rw [World.size_alloc] at this; exact this
  · exact ((mapsTo_made wo Try.prog 3 vInt vSlot).alloc _).alloc _
  · have := mapsTo_made ((wo.alloc (.map #[] 0)).alloc (.cells #[.int .i64 0, .int .i64 0, .map (some wo.heap.size)] 119)) Try.prog 66 vSlot vInt
    simp only [World.size_alloc] at this; exact this

end Go.Proofs.Ytcffhfcjfjfokaa
