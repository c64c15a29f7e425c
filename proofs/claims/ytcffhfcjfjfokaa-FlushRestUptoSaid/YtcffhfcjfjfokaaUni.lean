/- What the program's joined keeps while it goes through the contents: who knows which slot where, and the memory in which that stands. -/
import Derived.Test.YtcffhfcjfjfokaaCut
import Derived.Test.YtcffhfcjfjfokaaKeys
import Derived.Test.YtcffhfcjfjfokaaTwin
namespace Go.Proofs.Ytcffhfcjfjfokaa
open Go.RowKit

/-- The slot is known at the position by the first q contents, or by the first j slots of the q-th. -/
def KnownUp (fs : List Fl) (q j : Nat) (pos : Int) (s : Int × Int) : Prop := ∃ (i : Nat) (g : Fl) (k : Nat), fs[i]? = some g ∧ g.slots[k]? = some s ∧ pos = g.base + 1 + k ∧ (i < q ∨ (i = q ∧ k < j))
/-- The two maps say just that. -/
def Inv (fs : List Fl) (q j : Nat) (F : Int → Option (Int × Int)) (G : Int × Int → Option Int) : Prop := ∀ pos s, (F pos = some s ↔ KnownUp fs q j pos s) ∧ (G s = some pos ↔ KnownUp fs q j pos s)

theorem inv_zero (fs : List Fl) : Inv fs 0 0 (fun _ => none) (fun _ => none) := by
  intro pos s
  have h : ¬ KnownUp fs 0 0 pos s := by rintro ⟨i, g, k, _, _, _, h⟩; omega
  exact ⟨⟨fun x => (by cases x), fun x => absurd x h⟩, ⟨fun x => (by cases x), fun x => absurd x h⟩⟩
theorem up_next {fs : List Fl} {q : Nat} {f : Fl} (hf : fs[q]? = some f) {pos : Int} {s : Int × Int} : KnownUp fs q f.slots.length pos s ↔ KnownUp fs (q + 1) 0 pos s := by
  constructor
  · rintro ⟨i, g, k, h1, h2, h3, h4⟩; exact ⟨i, g, k, h1, h2, h3, by omega⟩
  · rintro ⟨i, g, k, h1, h2, h3, h4⟩
    refine ⟨i, g, k, h1, h2, h3, ?_⟩
    by_cases hi : i = q
    · subst hi; rw [hf] at h1; cases h1
      right; exact ⟨rfl, (List.getElem?_eq_some_iff.1 h2).1⟩
    · left; omega
theorem inv_next {fs : List Fl} {q : Nat} {f : Fl} (hf : fs[q]? = some f) {F : Int → Option (Int × Int)} {G : Int × Int → Option Int} (h : Inv fs q f.slots.length F G) : Inv fs (q + 1) 0 F G :=
  fun pos s => ⟨(h pos s).1.trans (up_next hf), (h pos s).2.trans (up_next hf)⟩
theorem up_put {fs : List Fl} {q j : Nat} {f : Fl} (hf : fs[q]? = some f) {s : Int × Int} (hs : f.slots[j]? = some s) {p : Int} {t : Int × Int} : KnownUp fs q (j + 1) p t ↔ KnownUp fs q j p t ∨ (p = f.base + 1 + j ∧ t = s) := by
  constructor
  · rintro ⟨i, g, k, h1, h2, h3, h4⟩
    by_cases hk : i = q ∧ k = j
    · obtain ⟨rfl, rfl⟩ := hk
      rw [hf] at h1; cases h1; rw [hs] at h2; cases h2
      right; exact ⟨h3, rfl⟩
    · left; exact ⟨i, g, k, h1, h2, h3, by omega⟩
  · rintro (⟨i, g, k, h1, h2, h3, h4⟩ | ⟨rfl, rfl⟩)
    · exact ⟨i, g, k, h1, h2, h3, by omega⟩
    · exact ⟨q, f, j, hf, hs, rfl, by omega⟩
theorem inv_put {fs : List Fl} {q j : Nat} {f : Fl} {F : Int → Option (Int × Int)} {G : Int × Int → Option Int} (h : Inv fs q j F G) (hf : fs[q]? = some f) {s : Int × Int} (hs : f.slots[j]? = some s) {pos : Int} (hp : pos = f.base + 1 + j)
    (hF : F pos = none ∨ F pos = some s) (hG : G s = none ∨ G s = some pos) : Inv fs q (j + 1) (fun y => if y = pos then some s else F y) (fun y => if y = s then some pos else G y) := by
  subst hp
  intro p t
  rw [up_put hf hs]
  constructor
  · constructor
    · intro hx
      by_cases hpp : p = f.base + 1 + j
      · simp only [if_pos hpp] at hx; cases hx; exact .inr ⟨hpp, rfl⟩
      · simp only [if_neg hpp] at hx; exact .inl ((h p t).1.1 hx)
    · rintro (hx | ⟨rfl, rfl⟩)
      · have := (h p t).1.2 hx
        by_cases hpp : p = f.base + 1 + j
        · subst hpp
          simp only [if_true]
          rcases hF with e | e <;> rw [e] at this <;> cases this
          rfl
        · simp only [if_neg hpp]; exact this
      · simp
  · constructor
    · intro hx
      by_cases hts : t = s
      · simp only [if_pos hts] at hx; cases hx; exact .inr ⟨rfl, hts⟩
      · simp only [if_neg hts] at hx; exact .inl ((h p t).2.1 hx)
    · rintro (hx | ⟨rfl, rfl⟩)
      · have := (h p t).2.2 hx
        by_cases hts : t = s
        · subst hts
          simp only [if_true]
          rcases hG with e | e <;> rw [e] at this <;> cases this
          rfl
        · simp only [if_neg hts]; exact this
      · simp

theorem clash_pos {fs : List Fl} {q j : Nat} {f : Fl} {F : Int → Option (Int × Int)} {G : Int × Int → Option Int} (h : Inv fs q j F G) (hf : fs[q]? = some f) {s t : Int × Int} (hs : f.slots[j]? = some s)
    (hF : F (f.base + 1 + j) = some t) (hne : t ≠ s) : ClashIn fs := by
  obtain ⟨i, g, k, h1, h2, h3, h4⟩ := (h _ t).1.1 hF
  rcases h4 with h4 | ⟨rfl, h4⟩
  · exact ⟨q, i, f, g, h4, hf, h1, j, k, s, t, hs, h2, fun e => hne (e.1 (by omega)).symm⟩
  · rw [hf] at h1; cases h1; omega
theorem clash_slot {fs : List Fl} (hall : ∀ f ∈ fs, Sound f) {q j : Nat} {f : Fl} {F : Int → Option (Int × Int)} {G : Int × Int → Option Int} (h : Inv fs q j F G) (hf : fs[q]? = some f) {s : Int × Int} (hs : f.slots[j]? = some s) {p : Int}
    (hG : G s = some p) (hne : p ≠ f.base + 1 + j) : ClashIn fs := by
  obtain ⟨i, g, k, h1, h2, h3, h4⟩ := (h p s).2.1 hG
  rcases h4 with h4 | ⟨rfl, h4⟩
  · exact ⟨q, i, f, g, h4, hf, h1, j, k, s, s, hs, h2, fun e => hne (by have := e.2 rfl; omega)⟩
  · rw [hf] at h1; cases h1
    exact absurd hs (apart_of_nodup (hall f (List.mem_of_getElem? hf)).nodup (by omega : k ≠ j) h2)
theorem up_all {fs : List Fl} {q : Nat} (hq : fs.length ≤ q) {p : Int} {s : Int × Int} : KnownUp fs q 0 p s ↔ Known fs p s := by
  constructor
  · rintro ⟨i, g, k, h1, h2, h3, _⟩; exact ⟨i, g, k, h1, h2, h3⟩
  · rintro ⟨i, g, k, h1, h2, h3⟩; exact ⟨i, g, k, h1, h2, h3, .inl (by have := (List.getElem?_eq_some_iff.1 h1).1; omega)⟩
theorem calm_of {fs : List Fl} {q : Nat} (hq : fs.length ≤ q) {F : Int → Option (Int × Int)} {G : Int × Int → Option Int} (h : Inv fs q 0 F G) : ¬ ClashIn fs := by
  rintro ⟨i, j, f, g, _, hf, hg, a, b, s, t, hs, ht, hn⟩
  have k1 := (up_all hq).2 ⟨i, f, a, hf, hs, rfl⟩
  have k2 := (up_all hq).2 ⟨j, g, b, hg, ht, rfl⟩
  apply hn
  constructor
  · intro e
    have e1 := (h _ s).1.2 k1
    have e2 := (h _ t).1.2 k2
    rw [show f.base + 1 + (a : Int) = g.base + 1 + (b : Int) by omega, e2] at e1
    exact (Option.some.inj e1).symm
  · intro e
    subst e
    have e1 := (h _ s).2.2 k1
    have e2 := (h _ s).2.2 k2
    rw [e1] at e2
    have := Option.some.inj e2; omega

/-- The memory in which it stands: the union's block, its two maps. -/
structure JW (w wr : World) (args : Array Value) (bu bs bp : Nat) (base cut : Int) (F : Int → Option (Int × Int)) (G : Int × Int → Option Int) : Prop where
  bel : Below (w.heap.size + 1) (box1 w args 22) wr
  ub : wr.heap[bs]? = some (.cells #[.int .i64 base, .int .i64 cut, .map (some bu)] 119 (0, 0))
  mu : ∃ n, MapsTo wr Try.prog 3 bu n vInt vSlot F
  mp : ∃ n, MapsTo wr Try.prog 66 bp n vSlot vInt G
  lou : w.heap.size + 1 ≤ bu
  los : w.heap.size + 1 ≤ bs
  lop : w.heap.size + 1 ≤ bp
  nup : bu ≠ bp
section
variable {w wr w' : World} {args : Array Value} {bu bs bp : Nat} {base cut : Int} {F : Int → Option (Int × Int)} {G : Int × Int → Option Int}
theorem JW.lts (h : JW w wr args bu bs bp base cut F G) : bs < wr.heap.size := (Array.getElem?_eq_some_iff.1 h.ub).1
theorem JW.ltu (h : JW w wr args bu bs bp base cut F G) : bu < wr.heap.size := by obtain ⟨n, m⟩ := h.mu; exact m.lt
theorem JW.ltp (h : JW w wr args bu bs bp base cut F G) : bp < wr.heap.size := by obtain ⟨n, m⟩ := h.mp; exact m.lt
theorem JW.nus (h : JW w wr args bu bs bp base cut F G) : bu ≠ bs := by
  obtain ⟨n, es, clock, m, _⟩ := h.mu
  rintro rfl
  have := h.ub; rw [m] at this; cases this
theorem JW.nps (h : JW w wr args bu bs bp base cut F G) : bp ≠ bs := by
  obtain ⟨n, es, clock, m, _⟩ := h.mp
  rintro rfl
  have := h.ub; rw [m] at this; cases this
theorem JW.cells (h : JW w wr args bu bs bp base cut F G) : ∀ i, wr.cell? ⟨bs, i, none⟩ = (#[.int .i64 base, .int .i64 cut, .map (some bu)] : Array Value)[i]? := fun i => by
  simp only [World.cell?, h.ub]; rfl
theorem JW.frozen (h : JW w wr args bu bs bp base cut F G) : ∀ i, wr.frozen? ⟨bs, i, none⟩ = false := fun i => by
  simp [World.frozen?, h.ub]
theorem JW.below (h : JW w wr args bu bs bp base cut F G) (hb : Below wr.heap.size wr w') : JW w w' args bu bs bp base cut F G := by
  have hs := h.bel.size
  simp only [World.size_alloc] at hs
  refine ⟨h.bel.trans (hb.mono hs), (hb.block bs h.lts).trans h.ub, ?_, ?_, h.lou, h.los, h.lop, h.nup⟩
  · obtain ⟨n, m⟩ := h.mu; exact ⟨n, m.keep hb m.lt⟩
  · obtain ⟨n, m⟩ := h.mp; exact ⟨n, m.keep hb m.lt⟩
theorem JW.alloc (h : JW w wr args bu bs bp base cut F G) (o : Obj) : JW w (wr.alloc o) args bu bs bp base cut F G := h.below ((Below.refl _ _).alloc (Nat.le_refl _) o)
theorem JW.drew (h : JW w wr args bu bs bp base cut F G) : JW w wr.drew args bu bs bp base cut F G := h.below (Below.drew (Below.refl _ _))
theorem JW.drewN (h : JW w wr args bu bs bp base cut F G) (n : Nat) : JW w (wr.drewN n) args bu bs bp base cut F G := h.below (below_drewN (Below.refl _ _) n)
theorem JW.setBase (h : JW w wr args bu bs bp base cut F G) (b : Int) : JW w (wr.setCell ⟨bs, 0, none⟩ (.int .i64 b)) args bu bs bp b cut F G := by
  refine ⟨h.bel.setCell h.los _, ?_, ?_, ?_, h.lou, h.los, h.lop, h.nup⟩
  · rw [heap_setCell_same wr bs 0 _ 119 _ h.ub]; rfl
  · obtain ⟨n, m⟩ := h.mu; exact ⟨n, m.setCell (by exact fun e => h.nus e.symm) _⟩
  · obtain ⟨n, m⟩ := h.mp; exact ⟨n, m.setCell (by exact fun e => h.nps e.symm) _⟩
theorem JW.setCut (h : JW w wr args bu bs bp base cut F G) (b : Int) : JW w (wr.setCell ⟨bs, 1, none⟩ (.int .i64 b)) args bu bs bp base b F G := by
  refine ⟨h.bel.setCell h.los _, ?_, ?_, ?_, h.lou, h.los, h.lop, h.nup⟩
  · rw [heap_setCell_same wr bs 1 _ 119 _ h.ub]; rfl
  · obtain ⟨n, m⟩ := h.mu; exact ⟨n, m.setCell (by exact fun e => h.nus e.symm) _⟩
  · obtain ⟨n, m⟩ := h.mp; exact ⟨n, m.setCell (by exact fun e => h.nps e.symm) _⟩
theorem JW.putF (h : JW w wr args bu bs bp base cut F G) (hg : wr.grownBy w' (some bu)) {n : Nat} {F' : Int → Option (Int × Int)} (hm : MapsTo w' Try.prog 3 bu n vInt vSlot F') : JW w w' args bu bs bp base cut F' G := by
  have hs := h.bel.size
  simp only [World.size_alloc] at hs
  refine ⟨h.bel.grown hg hs (fun k hk => by cases hk; exact h.lou), (hg.block bs h.lts (fun e => h.nus (by injection e with e; exact e.symm))).trans h.ub, ⟨n, hm⟩, ?_, h.lou, h.los, h.lop, h.nup⟩
  obtain ⟨n, m⟩ := h.mp; exact ⟨n, m.kept hg (fun e => h.nup (by injection e with e; exact e.symm))⟩
theorem JW.putG (h : JW w wr args bu bs bp base cut F G) (hg : wr.grownBy w' (some bp)) {n : Nat} {G' : Int × Int → Option Int} (hm : MapsTo w' Try.prog 66 bp n vSlot vInt G') : JW w w' args bu bs bp base cut F G' := by
  have hs := h.bel.size
  simp only [World.size_alloc] at hs
  refine ⟨h.bel.grown hg hs (fun k hk => by cases hk; exact h.lop), (hg.block bs h.lts (fun e => h.nps (by injection e with e; exact e.symm))).trans h.ub, ?_, ⟨n, hm⟩, h.lou, h.los, h.lop, h.nup⟩
  obtain ⟨n, m⟩ := h.mu; exact ⟨n, m.kept hg (fun e => h.nup (by injection e))⟩
end
theorem jw_start {w wo : World} {args : Array Value} (hb : Below (w.heap.size + 1) (box1 w args 22) wo) :
    JW w (((wo.alloc (.map #[] 0)).alloc (.cells #[.int .i64 0, .int .i64 0, .map (some wo.heap.size)] 119)).alloc (.map #[] 0)) args wo.heap.size (wo.heap.size + 1) (wo.heap.size + 1 + 1) 0 0 (fun _ => none) (fun _ => none) := by
  have hs := hb.size
  simp only [World.size_alloc] at hs
  refine ⟨((hb.alloc hs _).alloc (by simp only [World.size_alloc]; omega) _).alloc (by simp only [World.size_alloc]; omega) _, ?_, ⟨0, ?_⟩, ⟨0, ?_⟩, hs, by omega, by omega, by omega⟩
  · rw [Below.heap_alloc _ _ _ (by simp only [World.size_alloc]; omega)]
    have := heap_alloc_new (wo.alloc (.map #[] 0)) (.cells #[.int .i64 0, .int .i64 0, .map (some wo.heap.size)] 119)
    rw [World.size_alloc] at this; exact this
  · exact ((mapsTo_made wo Try.prog 3 vInt vSlot).alloc _).alloc _
  · have := mapsTo_made ((wo.alloc (.map #[] 0)).alloc (.cells #[.int .i64 0, .int .i64 0, .map (some wo.heap.size)] 119)) Try.prog 66 vSlot vInt
    simp only [World.size_alloc] at this; exact this

end Go.Proofs.Ytcffhfcjfjfokaa
