/- Takes Adds ApKit Apart Step Steps, joined. -/
import Derived.Test.YtcffhfcjfjfokaaSu5
import Derived.Test.YtcffhfcjfjfokaaSu9
import Derived.Test.YtcffhfcjfjfokaaSu22
set_option linter.unusedVariables false
set_option linter.unusedSimpArgs false
namespace Go.Proofs.Ytcffhfcjfjfokaa
open Go.RowKit
theorem StV.ext {w w' : World} {F F' : List Nat} {b g oK oV : Nat} {s : Sto} {ks : List KpX} {Mp : Option Addr} {cM : Nat} {ms : List Dr} (h : StV w F b g oK oV s ks Mp cM ms) (hb : Below w.heap.size w w') (hF : ∀ y ∈ F', y ∈ F ∨ w.heap.size ≤ y) (h1 : b ∈ F') (h2 : g ∈ F') (hi : ∀ y ∈ F', y < w'.heap.size) : StV w' F' b g oK oV s ks Mp cM ms := by
  have k := h.below hb
  exact ⟨k.ck, k.ce, k.cl, k.ci, k.cc, k.cm, k.there, k.krow, k.kthere, k.kk, fun x hx => ((h.kS x hx).more hF).below hb, k.mm, (h.mrow.more hF).below hb, fun r hr => ((h.mS r hr).more hF).below hb, k.mc, h1, h2, k.bg, hi, k.inv⟩
theorem StV.less {w : World} {F F' : List Nat} {b g oK oV : Nat} {s : Sto} {ks : List KpX} {Mp : Option Addr} {cM : Nat} {ms : List Dr} (h : StV w F b g oK oV s ks Mp cM ms) (hF : ∀ y ∈ F', y ∈ F) (h1 : b ∈ F') (h2 : g ∈ F') : StV w F' b g oK oV s ks Mp cM ms :=
  h.more (fun y hy => .inl (hF y hy)) h1 h2 fun y hy => h.hi y (hF y hy)
theorem Two.ext {w w' : World} {F F' : List Nat} {b g b' g' : Nat} {s : Sto} (h : Two w F b g b' g' s) (hb : Below w.heap.size w w') (hF : ∀ y ∈ F', y ∈ F ∨ w.heap.size ≤ y) (hs : ∀ y ∈ F, y ∈ F') (hi : ∀ y ∈ F', y < w'.heap.size) : Two w' F' b g b' g' s := by
  obtain ⟨f1, f2, f3, f4⟩ := h.bF
  obtain ⟨k1, k2, k3, k4, p⟩ := h.p
  obtain ⟨l1, l2, l3, l4, d⟩ := h.d
  have k := h.below hb
  exact ⟨⟨_, _, _, _, p.ext hb hF (hs _ f1) (hs _ f2) hi⟩, ⟨_, _, _, _, d.ext hb hF (hs _ f3) (hs _ f4) hi⟩, k.pb, k.dn, h.n1, h.n2, h.n3, h.n4⟩
theorem Two.less {w : World} {F F' : List Nat} {b g b' g' : Nat} {s : Sto} (h : Two w F b g b' g' s) (hF : ∀ y ∈ F', y ∈ F) (h1 : b ∈ F') (h2 : g ∈ F') (h3 : b' ∈ F') (h4 : g' ∈ F') : Two w F' b g b' g' s := by
  obtain ⟨k1, k2, k3, k4, p⟩ := h.p
  obtain ⟨l1, l2, l3, l4, d⟩ := h.d
  exact ⟨⟨_, _, _, _, p.less hF h1 h2⟩, ⟨_, _, _, _, d.less hF h3 h4⟩, h.pb, h.dn, h.n1, h.n2, h.n3, h.n4⟩
theorem Two.after {w w1 w2 : World} {F : List Nat} {b g b' g' x x' : Nat} {s s' : Sto} (h : Two w F b g b' g' s) (hx : x = b ∨ x = g) (hx' : x' = b' ∨ x' = g')
    (hp : ∃ ks Mp cM ms, StV w1 F b g 0 1 s' ks Mp cM ms) (g1 : w.grownBy w1 (some x)) (hd : ∀ ks Mp cM ms, StV w F b' g' 1 2 s ks Mp cM ms → StV w1 F b' g' 1 2 s ks Mp cM ms → ∃ ks Mp cM ms, StV w2 F b' g' 1 2 s' ks Mp cM ms) (g2 : w1.grownBy w2 (some x'))
    (h5 : ∃ bg, w1.cell? ⟨b, 5, none⟩ = some (.bool bg) ∧ (bg = false → s'.ve = 0)) (h0 : w2.cell? ⟨b', 0, none⟩ = some (.int .i64 s'.n)) : Two w2 F b g b' g' s' := by
  obtain ⟨f1, f2, f3, f4⟩ := h.bF
  obtain ⟨k1, k2, k3, k4, p⟩ := hp
  obtain ⟨l1, l2, l3, l4, d⟩ := h.d
  have xF : x ∈ F := by rcases hx with e | e <;> rw [e] <;> assumption
  have xF' : x' ∈ F := by rcases hx' with e | e <;> rw [e] <;> assumption
  have n1 := h.n1; have n2 := h.n2; have n3 := h.n3; have n4 := h.n4
  have d1 := d.spoil xF (by rcases hx with e | e <;> rw [e] <;> assumption) (by rcases hx with e | e <;> rw [e] <;> assumption) g1
  have p2 := p.spoil xF' (by rcases hx' with e | e <;> rw [e] <;> first | exact fun e => n1 e.symm | exact fun e => n2 e.symm) (by rcases hx' with e | e <;> rw [e] <;> first | exact fun e => n3 e.symm | exact fun e => n4 e.symm) g2
  obtain ⟨bg, q1, q2⟩ := h5
  refine ⟨⟨_, _, _, _, p2⟩, hd _ _ _ _ d d1, ⟨bg, ?_, q2⟩, h0, h.n1, h.n2, h.n3, h.n4⟩
  rw [World.cell?_of_block (a := ⟨b, 5, none⟩) (g2.block b (p.hi b f1) (by intro e; injection e with e; rcases hx' with e2 | e2 <;> omega))]
  exact q1
structure Opx where
  kd : Int
  q : Int
  inc : Int
  f : Fl
  fA : Option Addr
  fc : Nat
  fB : Option Addr
  fd : Nat
  e : Int
  l : Int
  i : Int
  c : Int
  who : List Mm
  wA : Option Addr
  wc : Nat
  ms : List Dr
  mA : Option Addr
  mc : Nat
abbrev opA (o : Opx) : Array Value := #[.int .i64 o.kd, .int .i64 o.q, .int .i64 o.inc, .int .i64 o.f.e, .int .i64 o.f.l, .int .i64 o.f.i, .int .i64 o.f.c, .int .i64 o.f.base, .slice o.fA o.f.slots.length o.fc, .slice o.fB o.f.have_.length o.fd, .int .i64 o.e, .int .i64 o.l, .int .i64 o.i, .int .i64 o.c, .slice o.wA o.who.length o.wc, .slice o.mA o.ms.length o.mc]
structure OpAt (w : World) (N : Nat) (o : Opx) : Prop where
  f : FlRows w N o.f o.fA o.fc o.fB o.fd
  who : RowAt w N 3 eMm o.wA o.who
  ms : Drs w N o.mA o.ms
  s1 : o.f.slots.length ≤ 1048576
  s2 : o.f.have_.length ≤ 1048576
  s3 : o.who.length ≤ 1048576
  s4 : SmallD (o.ms.map Dr.d)
theorem OpAt.below {w w' : World} {N N' : Nat} {o : Opx} (h : OpAt w N o) (hb : Below N' w w') (hN : N ≤ N') : OpAt w' N o :=
  ⟨h.f.below hb hN, h.who.below hb hN, ⟨h.ms.row.below hb hN, fun r h1 => (h.ms.each r h1).below hb hN⟩, h.s1, h.s2, h.s3, h.s4⟩
structure Hi (N b g b' g' : Nat) : Prop where
  h1 : N ≤ b
  h2 : N ≤ g
  h3 : N ≤ b'
  h4 : N ≤ g'
def StPost (w : World) (N : Nat) (F : List Nat) (b g b' g' : Nat) (s : Sto) (x : Ending) (w' : World) : Prop :=
  x = .returned (.bool true) ∧ Two w' F b g b' g' s ∧ Below N w w'
theorem build66' (W : World) (a b : Int) : (Instr.build 66 #[(0, .int .i64 a), (1, .int .i64 b)]).run Try.prog W = .ok (.agg #[.int .i64 a, .int .i64 b]) W := by kernel_rfl
theorem one2 (a b : Int) : (#[.int .i64 a, .int .i64 b] : Array Value).all (·.oneCell') = true := by
  refine all_oneCell_toArray (cs := [.int .i64 a, .int .i64 b]) fun u hu => ?_
  simp at hu; rcases hu with rfl | rfl <;> rfl
theorem twinA_one (t : Tw) : ((eTw t).toArray).all (·.oneCell') = true := by
  refine all_oneCell_toArray (cs := eTw t) fun u hu => ?_
  simp [eTw] at hu; rcases hu with rfl | rfl | rfl | rfl | rfl | rfl | rfl | rfl | rfl <;> rfl
theorem fl_one (t : Tw) : ((flTw t).toArray).all (·.oneCell') = true := by
  refine all_oneCell_toArray (cs := flTw t) fun u hu => ?_
  simp [flTw] at hu; rcases hu with rfl | rfl | rfl | rfl | rfl | rfl | rfl <;> rfl
def zero57 : Value := .agg twz
theorem run_zero57 (W : World) : (zeroValue 57).run Try.prog W = .ok zero57 W := by kernel_rfl
def zero39 : Value := .agg #[.int .i64 0, .int .i64 0, .int .i64 0, .int .i64 0, .int .i64 0, .slice none 0 0, .slice none 0 0]
theorem run_zero39 (W : World) : (zeroValue 39).run Try.prog W = .ok zero39 W := by kernel_rfl
theorem TwOwn.thereS {w : World} {base : Nat} {t : Tw} (h : TwOwn w base t) : w.there t.g2 0 (t.f.slots.length * 2) ∧ base ≤ t.g2 ∧ t.g2 < w.heap.size := by
  refine ⟨fun j hj => ?_, h.s.lo _ rfl⟩
  rw [Nat.zero_add]
  refine ⟨?_, World.ownsRow.frozenAt h.s j⟩
  rw [World.ownsRow.cellAt h.s j (by rw [List.length_append]; simp; omega), List.getElem?_eq_getElem (by rw [length_flat len_eSlot, List.length_append]; simp; omega)]; rfl
theorem TwOwn.thereH {w : World} {base : Nat} {t : Tw} (h : TwOwn w base t) : w.there t.g4 0 t.f.have_.length ∧ base ≤ t.g4 ∧ t.g4 < w.heap.size := by
  refine ⟨fun j hj => ?_, h.h.lo _ rfl⟩
  rw [Nat.zero_add]
  refine ⟨?_, World.ownsRow.frozenAt h.h j⟩
  rw [World.ownsRow.cellAt h.h j (by rw [List.length_append]; simp; omega), List.getElem?_eq_getElem (by rw [length_flat len_eInt, List.length_append]; simp; omega)]; rfl
theorem row_prefix {α : Type} {w : World} {N sz : Nat} {enc : α → List Value} {A : Option Addr} {l m : List α} (h : RowAt w N sz enc A (l ++ m)) : RowAt w N sz enc A l := fun h0 => by
  obtain ⟨b, off, e, hb, hc⟩ := h (by rw [List.length_append]; omega)
  exact ⟨b, off, e, hb, fun k x hx => hc k x (by rw [List.getElem?_append_left (List.getElem?_eq_some_iff.1 hx).1]; exact hx)⟩
theorem TwOwn.rows {w : World} {base : Nat} {t : Tw} (h : TwOwn w base t) : FlRows w w.heap.size t.f (some ⟨t.g2, 0, none⟩) t.c2 (some ⟨t.g4, 0, none⟩) t.c4 := by
  have h1 := h.s.len
  have h2 := h.h.len
  rw [List.length_append] at h1 h2
  exact ⟨row_prefix (h.s.row len_eSlot), row_prefix (h.h.row len_eInt), by simp at h1; omega, h1.2, by simp at h2; omega, h2.2⟩
theorem take_same (s : Sto) (q inc : Int) (f : Fl) : (s.take q inc f).2.ve = s.ve ∧ (s.take q inc f).2.n = s.n := by
  unfold Sto.take
  repeat' split
  all_goals exact ⟨rfl, rfl⟩
end Go.Proofs.Ytcffhfcjfjfokaa
namespace Go.Proofs.Ytcffhfcjfjfokaa
open Go.RowKit
theorem OwnMs.drs {w : World} {base c : Nat} {B : Option Addr} {rs : List Dr} (h : OwnMs w base B c rs) : Drs w w.heap.size B rs := ⟨h.own.row len_eDr, fun r hr => ⟨(h.far r hr).2.row, (h.far r hr).1.1, (h.far r hr).1.2⟩⟩
theorem OwnMs.same {w w' : World} {base c : Nat} {B : Option Addr} {rs : List Dr} (h : OwnMs w base B c rs) (hs : w.heap.size ≤ w'.heap.size) (hk : ∀ k, base ≤ k → k < w.heap.size → w'.heap[k]? = w.heap[k]?) : OwnMs w' base B c rs :=
  ⟨h.own.same fun g hg => hk g (h.own.lo g hg).1 (h.own.lo g hg).2, fun r hr => ⟨(h.far r hr).1, fun h0 => by
    obtain ⟨g, off, e, h1, h2, h3⟩ := (h.far r hr).2 h0
    obtain ⟨q, e2, q1, q2, _⟩ := h.wr r hr h0
    rw [e] at e2; injection e2 with e2; injection e2 with e2 e3; subst e2
    exact ⟨g, off, e, h1, by omega, fun k x hx j u hu => (World.cell?_of_block (a := ⟨g, _, none⟩) (hk g q1 q2)).trans (h3 k x hx j u hu)⟩⟩, fun r hr => (h.wr r hr).same hs fun g _ q1 q2 => hk g q1 q2⟩
theorem addS_same (s : Sto) (e l i c : Int) (ds : List Dt) : (s.addS e l i c ds).2.ve = s.ve ∧ (s.addS e l i c ds).2.n = s.n := by
  unfold Sto.addS
  repeat' split
  all_goals exact ⟨rfl, rfl⟩
theorem build157 (W : World) (e l i c : Int) (A : Option Addr) (n cA : Nat) : (Instr.build 157 #[(0, .agg #[.int .i64 e, .int .i64 l, .int .i64 i, .int .i64 c]), (1, .slice A n cA)]).run Try.prog W = .ok (.agg (fwc e l i c A n cA)) W := by kernel_rfl
end Go.Proofs.Ytcffhfcjfjfokaa
namespace Go.Proofs.Ytcffhfcjfjfokaa
open Go.RowKit
def eSl (t : Option Addr × Nat × Nat) : List Value := [.slice t.1 t.2.1 t.2.2]
theorem len_eSl (t : Option Addr × Nat × Nat) : (eSl t).length = 1 := rfl
theorem one_eSl (t : Option Addr × Nat × Nat) : ∀ u ∈ eSl t, u.oneCell' = true := by intro u hu; simp [eSl] at hu; subst hu; rfl
theorem info36 : (Try.prog.info? 36).map (fun i => (i.zero, i.size, i.bytes)) = some (some (.slice none 0 0), 1, 24) := by kernel_rfl
theorem info37 : (Try.prog.info? 37).map (fun i => (i.zero, i.size, i.bytes)) = some (some (.slice none 0 0), 1, 24) := by kernel_rfl
theorem bs36 (W : World) (a b : Int) : (Instr.buildSlice 36 1 #[(0, .agg #[.int .i64 a, .int .i64 b])]).run Try.prog W = .ok (.slice (some ⟨W.heap.size, 0, none⟩) 1 1) (W.alloc (.cells #[.int .i64 a, .int .i64 b] 66)) := by kernel_rfl
theorem bs37 (W : World) (a : Int) : (Instr.buildSlice 37 1 #[(0, .int .i64 a)]).run Try.prog W = .ok (.slice (some ⟨W.heap.size, 0, none⟩) 1 1) (W.alloc (.cells #[.int .i64 a] 3)) := by kernel_rfl
theorem bsA100 (W : World) (A : Option Addr) (n c : Nat) : (Instr.buildSlice 100 1 #[(0, .slice A n c)]).run Try.prog W = .ok (.slice (some ⟨W.heap.size, 0, none⟩) 1 1) (W.alloc (.cells #[.slice A n c] 36)) := by kernel_rfl
theorem bsA99 (W : World) (A : Option Addr) (n c : Nat) : (Instr.buildSlice 99 1 #[(0, .slice A n c)]).run Try.prog W = .ok (.slice (some ⟨W.heap.size, 0, none⟩) 1 1) (W.alloc (.cells #[.slice A n c] 37)) := by kernel_rfl
structure Sh {α : Type} (S : List (RowX α)) (R : List (RowX α)) (i : Nat) (m : Nat → α) : Prop where
  len : S.length = R.length
  same : ∀ (k : Nat) (x r : RowX α), S[k]? = some x → R[k]? = some r → x.A = r.A ∧ x.c = r.c ∧ x.l.length = r.l.length
  full : ∀ (k : Nat) (x : RowX α), k < i → S[k]? = some x → ∀ t, t < x.l.length → x.l[t]? = some (m k)
section
variable {α : Type} {S R : List (RowX α)} {i j : Nat} {m : Nat → α} {x : RowX α}
theorem Sh.at (h : Sh S R i m) {k : Nat} {r : RowX α} (hr : R[k]? = some r) : ∃ x, S[k]? = some x ∧ x.A = r.A ∧ x.c = r.c ∧ x.l.length = r.l.length := by
  have hi := (List.getElem?_eq_some_iff.1 hr).1
  have hx : S[k]? = some (S[k]'(by rw [h.len]; exact hi)) := List.getElem?_eq_getElem _
  exact ⟨_, hx, h.same k _ r hx hr⟩
theorem Sh.write (h : Sh S R i m) (hx : S[i]? = some x) (v : α) : Sh (S.set i ⟨x.A, x.c, x.l.set j v⟩) R i m := by
  have hi := (List.getElem?_eq_some_iff.1 hx).1
  refine ⟨by rw [List.length_set]; exact h.len, fun k y r hy hr => ?_, fun k y hk hy => ?_⟩
  · by_cases e : k = i
    · subst e
      rw [List.getElem?_set_self hi] at hy; injection hy with hy; subst hy
      have := h.same k x r hx hr
      exact ⟨this.1, this.2.1, by rw [List.length_set]; exact this.2.2⟩
    · rw [List.getElem?_set_ne (fun e2 => e e2.symm)] at hy; exact h.same k y r hy hr
  · rw [List.getElem?_set_ne (by omega)] at hy; exact h.full k y hk hy
theorem Sh.next (h : Sh S R i m) (hx : S[i]? = some x) (hf : ∀ t, t < x.l.length → x.l[t]? = some (m i)) : Sh S R (i + 1) m :=
  ⟨h.len, h.same, fun k y hk hy => by
    by_cases e : k = i
    · subst e; rw [hx] at hy; injection hy with hy; subst hy; exact hf
    · exact h.full k y (by omega) hy⟩
end
structure Tg {α : Type} (T : List (Option Addr × Nat × Nat)) (Q : List (Option Addr × Nat)) (R : List (RowX α)) : Prop where
  len : T.length = Q.length
  at_ : ∀ (k : Nat) (y : Option Addr × Nat) (r : RowX α), Q[k]? = some y → R[k]? = some r → T[k]? = some (y.1, r.l.length + 1, y.2)
theorem Tg.push {α : Type} {T : List (Option Addr × Nat × Nat)} {Q : List (Option Addr × Nat)} {R : List (RowX α)} (h : Tg T Q R) {r : RowX α} (hr : R[Q.length]? = some r) (A : Option Addr) (c : Nat) : Tg (T ++ [(A, r.l.length + 1, c)]) (Q ++ [(A, c)]) R :=
  ⟨by rw [List.length_append, List.length_append, h.len]; rfl, fun k y x hy hx => by
    have hkl := (List.getElem?_eq_some_iff.1 hy).1
    rw [List.length_append] at hkl
    by_cases e : k < Q.length
    · rw [List.getElem?_append_left e] at hy
      rw [List.getElem?_append_left (by rw [h.len]; exact e)]
      exact h.at_ k y x hy hx
    · have : k = Q.length := by simp at hkl; omega
      subst this
      rw [List.getElem?_append_right (Nat.le_refl _), Nat.sub_self] at hy
      rw [List.getElem?_append_right (by rw [h.len]; exact Nat.le_refl _), h.len, Nat.sub_self]
      rw [hr] at hx; injection hx with hx; subst hx
      injection hy with hy; subst hy; rfl⟩
theorem Owns.beside {α β : Type} {w w' : World} {base base' sz sz' c c' : Nat} {e e' : TypeId} {enc : α → List Value} {enc' : β → List Value} {A A' : Option Addr} {l : List α} {l' : List β} (h : Owns w base e sz enc A c l) (ho : Owns w base' e' sz' enc' A' c' l') (he : e ≠ e') (hg : w.grownBy w' (blk A')) : Owns w' base e sz enc A c l := h.kept hg (h.ne ho he)
end Go.Proofs.Ytcffhfcjfjfokaa
namespace Go.Proofs.Ytcffhfcjfjfokaa
open Go.RowKit
def R6 (rs : List Rw) : List (RowX (Int × Int)) := rs.map fun r => ⟨r.X, r.cX, r.f.slots⟩
def R3 (rs : List Rw) : List (RowX Int) := rs.map fun r => ⟨r.Y, r.cY, r.f.have_⟩
theorem R6_at {rs : List Rw} {i : Nat} {r : Rw} (h : rs[i]? = some r) : (R6 rs)[i]? = some ⟨r.X, r.cX, r.f.slots⟩ := by unfold R6; rw [List.getElem?_map, h]; rfl
theorem R3_at {rs : List Rw} {i : Nat} {r : Rw} (h : rs[i]? = some r) : (R3 rs)[i]? = some ⟨r.Y, r.cY, r.f.have_⟩ := by unfold R3; rw [List.getElem?_map, h]; rfl
structure ASt where
  i : Nat
  A6 : Option Addr
  c6 : Nat
  A3 : Option Addr
  c3 : Nat
  S6 : List (RowX (Int × Int))
  S3 : List (RowX Int)
  Q6 : List (Option Addr × Nat)
  Q3 : List (Option Addr × Nat)
  T6 : List (Option Addr × Nat × Nat)
  T3 : List (Option Addr × Nat × Nat)
def z6 (k : Nat) : List (Int × Int) := [(3, 2000 + k)]
def z3 (k : Nat) : List Int := [2000 + (k : Int)]
def m6 (k : Nat) : Int × Int := (2, 1000 + k)
def m3 (k : Nat) : Int := 1000 + k
structure ApI (w : World) (base : Nat) (B : Option Addr) (c : Nat) (rs : List Rw) (i6 i3 : Nat) (x : ASt) (W : World) : Prop where
  i : x.i ≤ rs.length
  l : Owns W base 39 7 eRw B c rs
  k6 : Kd W base 66 2 eSlot z6 x.S6 x.Q6
  q6 : x.Q6.length = i6
  k3 : Kd W base 3 1 eInt z3 x.S3 x.Q3
  q3 : x.Q3.length = i3
  h6 : Sh x.S6 (R6 rs) i6 m6
  h3 : Sh x.S3 (R3 rs) i3 m3
  o6 : Owns W base 36 1 eSl x.A6 x.c6 x.T6
  t6 : Tg x.T6 x.Q6 (R6 rs)
  o3 : Owns W base 37 1 eSl x.A3 x.c3 x.T3
  t3 : Tg x.T3 x.Q3 (R3 rs)
  b : Below base w W
  z : base ≤ W.heap.size
theorem ApI.below {w : World} {base : Nat} {B : Option Addr} {c : Nat} {rs : List Rw} {i6 i3 : Nat} {x : ASt} {W W' : World} (h : ApI w base B c rs i6 i3 x W) (hb : Below W.heap.size W W') : ApI w base B c rs i6 i3 x W' :=
  ⟨h.i, h.l.keep hb fun k hk => (h.l.lo k hk).2, h.k6.below hb, h.q6, h.k3.below hb, h.q3, h.h6, h.h3, h.o6.keep hb fun k hk => (h.o6.lo k hk).2, h.t6, h.o3.keep hb fun k hk => (h.o3.lo k hk).2, h.t3, h.b.trans (hb.mono h.z), Nat.le_trans h.z hb.size⟩
set_option maxRecDepth 100000 in
theorem apart_any {w : World} {base c : Nat} {B : Option Addr} {rs : List Rw} (h : OwnFs w base B c rs) (hz : base ≤ w.heap.size) (hl : rs.length ≤ 1048576) (hs : ∀ r ∈ rs, r.f.slots.length ≤ 1048576 ∧ r.f.have_.length ≤ 1048576) :
    Calls Try.prog 105 #[.slice B rs.length c] w fun x w' => x = .returned (.bool true) ∧ Below base w w' := by
  have hdis : ∀ (k j : Nat) (x y : Rw), k ≠ j → rs[k]? = some x → rs[j]? = some y → (∀ q, blk x.X = some q → blk y.X ≠ some q) ∧ (∀ q, blk x.Y = some q → blk y.Y ≠ some q) := fun k j x y hne hx hy => by
    obtain ⟨hk, ex⟩ := List.getElem?_eq_some_iff.1 hx
    obtain ⟨hj, ey⟩ := List.getElem?_eq_some_iff.1 hy
    rcases Nat.lt_or_gt_of_ne hne with e | e
    · have := List.pairwise_iff_getElem.1 h.dis k j hk hj e
      rw [ex, ey] at this; exact this
    · have := List.pairwise_iff_getElem.1 h.dis j k hj hk e
      rw [ex, ey] at this
      exact ⟨fun q h1 h2 => this.1 q h2 h1, fun q h1 h2 => this.2 q h2 h1⟩
  have K6 : Kd w base 66 2 eSlot z6 (R6 rs) [] := ⟨fun x hx => by
    obtain ⟨r, hr, e⟩ := List.mem_map.1 hx; subst e; exact (h.each r hr).1, fun k x y _ hy => by simp at hy, fun k j x y _ _ hy => by simp at hy, fun k j x y hne hx hy q hq e => by
    unfold R6 at hx hy
    rw [List.getElem?_map] at hx hy
    obtain ⟨r, hr, e1⟩ := Option.map_eq_some_iff.1 hx
    obtain ⟨r', hr', e2⟩ := Option.map_eq_some_iff.1 hy
    subst e1; subst e2
    exact (hdis k j r r' hne hr hr').1 q hq e, Nat.zero_le _⟩
  have K3 : Kd w base 3 1 eInt z3 (R3 rs) [] := ⟨fun x hx => by
    obtain ⟨r, hr, e⟩ := List.mem_map.1 hx; subst e; exact (h.each r hr).2, fun k x y _ hy => by simp at hy, fun k j x y _ _ hy => by simp at hy, fun k j x y hne hx hy q hq e => by
    unfold R3 at hx hy
    rw [List.getElem?_map] at hx hy
    obtain ⟨r, hr, e1⟩ := Option.map_eq_some_iff.1 hx
    obtain ⟨r', hr', e2⟩ := Option.map_eq_some_iff.1 hy
    subst e1; subst e2
    exact (hdis k j r r' hne hr hr').2 q hq e, Nat.zero_le _⟩
  have I0 : ApI w base B c rs 0 0 ⟨0, none, 0, none, 0, R6 rs, R3 rs, [], [], [], []⟩ w :=
    ⟨Nat.zero_le _, h.own, K6, rfl, K3, rfl, ⟨rfl, fun k x r hx hr => by rw [hx] at hr; injection hr with hr; subst hr; exact ⟨rfl, rfl, rfl⟩, fun k x hk => by omega⟩, ⟨rfl, fun k x r hx hr => by rw [hx] at hr; injection hr with hr; subst hr; exact ⟨rfl, rfl, rfl⟩, fun k x hk => by omega⟩, owns_nil _ _ _ _ _, ⟨rfl, fun k y r hy => by simp at hy⟩, owns_nil _ _ _ _ _, ⟨rfl, fun k y r hy => by simp at hy⟩, Below.refl _ _, hz⟩
  refine calls_vc tab_ok Try.func105 rfl ?_
  repeat ((conv => whnf); first | (refine VCmp.tt (by omega) ?_) | (refine VCmp.ff (by omega) ?_) | (refine VIn.mk (IntWalk.i64_in _ (by omega)) ?_) | (refine VIdx.mk _ rfl (by omega) ?_) | (refine VIdx.mk 0 rfl (by omega) ?_))
  try (conv => whnf)
  refine VLoop.mk ASt (fun x => [(0, .slice B rs.length c), (3, .slice x.A6 x.T6.length x.c6), (4, .slice x.A3 x.T3.length x.c3), (5, .int .i64 x.i)]) (fun x W => ApI w base B c rs x.i x.i x W) (fun x => rs.length - x.i) ⟨0, none, 0, none, 0, R6 rs, R3 rs, [], [], [], []⟩ ⟨rfl, rfl, rfl, rfl, trivial⟩ I0 ?_
  clear I0 K6 K3
  rintro ⟨i, A6, c6, A3, c3, S6, S3, Q6, Q3, T6, T3⟩ wr I
  dsimp only at I ⊢
  by_cases hil : i < rs.length
  case neg =>
    have hie : i = rs.length := by have := I.i; dsimp only at this; omega
    repeat ((conv => whnf); first | (refine VCmp.tt (by omega) ?_) | (refine VCmp.ff (by omega) ?_) | (refine VIn.mk (IntWalk.i64_in _ (by omega)) ?_) | (refine VIdx.mk _ rfl (by omega) ?_) | (refine VIdx.mk 0 rfl (by omega) ?_))
    try (conv => whnf)
    subst hie
    refine VLoop.mk Nat (fun k => [(0, .slice B rs.length c), (3, .slice A6 T6.length c6), (4, .slice A3 T3.length c3), (8, .bool true), (9, .int .i64 k)]) (fun k W => k ≤ rs.length ∧ ApI w base B c rs rs.length rs.length ⟨rs.length, A6, c6, A3, c3, S6, S3, Q6, Q3, T6, T3⟩ W) (fun k => rs.length - k) 0 ⟨rfl, rfl, rfl, rfl, rfl, trivial⟩ ⟨Nat.zero_le _, I⟩ ?_
    clear I
    rintro k wr ⟨hk, I⟩
    by_cases hkl : k < rs.length
    case neg =>
      repeat ((conv => whnf); first | (refine VCmp.tt (by omega) ?_) | (refine VCmp.ff (by omega) ?_) | (refine VIn.mk (IntWalk.i64_in _ (by omega)) ?_) | (refine VIdx.mk _ rfl (by omega) ?_) | (refine VIdx.mk 0 rfl (by omega) ?_))
      try (conv => whnf)
      exact .mk ⟨rfl, I.b⟩
    have hrk : rs[k]? = some rs[k] := List.getElem?_eq_getElem hkl
    have hmem : rs[k] ∈ rs := List.getElem_mem _
    have hsr := hs rs[k] hmem
    generalize rs[k] = r at hrk hmem hsr
    obtain ⟨gB, hBe, _⟩ := I.l.cell len_eRw hrk
    subst hBe
    have ht6 := I.t6.len
    have ht3 := I.t3.len
    have hq6 := I.q6
    have hq3 := I.q3
    dsimp only at ht6 ht3 hq6 hq3
    have hy6 : Q6[k]? = some (Q6[k]'(by omega)) := List.getElem?_eq_getElem _
    have hy3 : Q3[k]? = some (Q3[k]'(by omega)) := List.getElem?_eq_getElem _
    generalize Q6[k]'(by omega) = y6 at hy6
    generalize Q3[k]'(by omega) = y3 at hy3
    have hT6 := I.t6.at_ k y6 _ hy6 (R6_at hrk)
    have hT3 := I.t3.at_ k y3 _ hy3 (R3_at hrk)
    dsimp only at hT6 hT3
    -- what is read, in any such world
    have rd : ∀ W, ApI w base (some ⟨gB, 0, none⟩) c rs rs.length rs.length ⟨rs.length, A6, c6, A3, c3, S6, S3, Q6, Q3, T6, T3⟩ W → ∃ gS gH : Nat, A6 = some ⟨gS, 0, none⟩ ∧ A3 = some ⟨gH, 0, none⟩ ∧
        Ld Try.prog 36 gB (0 + k * 7 + 5) (Eq W) (.slice r.X r.f.slots.length r.cX) ∧ Ld Try.prog 37 gB (0 + k * 7 + 6) (Eq W) (.slice r.Y r.f.have_.length r.cY) ∧
        Ld Try.prog 36 gS (0 + k) (Eq W) (.slice y6.1 (r.f.slots.length + 1) y6.2) ∧ Ld Try.prog 37 gH (0 + k) (Eq W) (.slice y3.1 (r.f.have_.length + 1) y3.2) ∧
        (∀ j, j < r.f.slots.length → ∃ g, r.X = some ⟨g, 0, none⟩ ∧ Ld Try.prog 3 g (0 + j * 2 + 1) (Eq W) (.int .i64 (1000 + k))) ∧
        (∀ j, j < r.f.have_.length → ∃ g, r.Y = some ⟨g, 0, none⟩ ∧ Ld Try.prog 3 g (0 + j) (Eq W) (.int .i64 (1000 + k))) ∧
        (∃ g, y6.1 = some ⟨g, 0, none⟩ ∧ (∀ j, j < r.f.slots.length → Ld Try.prog 3 g (0 + j * 2 + 1) (Eq W) (.int .i64 (1000 + k))) ∧ Ld Try.prog 3 g (0 + r.f.slots.length * 2 + 1) (Eq W) (.int .i64 (2000 + k))) ∧
        (∃ g, y3.1 = some ⟨g, 0, none⟩ ∧ (∀ j, j < r.f.have_.length → Ld Try.prog 3 g (0 + j) (Eq W) (.int .i64 (1000 + k))) ∧ Ld Try.prog 3 g (0 + r.f.have_.length) (Eq W) (.int .i64 (2000 + k))) := fun W J => by
      obtain ⟨g1, e1, h1⟩ := J.l.cell len_eRw hrk
      injection e1 with e1; injection e1 with e1; subst e1
      obtain ⟨gS, e2, h2⟩ := J.o6.cell len_eSl hT6
      obtain ⟨gH, e3, h3⟩ := J.o3.cell len_eSl hT3
      obtain ⟨x, hx, x1, x2, x3⟩ := J.h6.at (R6_at hrk)
      obtain ⟨y, hy, w1, w2, w3⟩ := J.h3.at (R3_at hrk)
      dsimp only at x1 x2 x3 w1 w2 w3
      have hX := J.k6.o x (List.mem_of_getElem? hx)
      have hY := J.k3.o y (List.mem_of_getElem? hy)
      have dX := J.k6.d k x y6 hx hy6
      have dY := J.k3.d k y y3 hy hy3
      have fX := J.h6.full k x hkl hx
      have fY := J.h3.full k y hkl hy
      refine ⟨gS, gH, e2, e3, .of (load36 (by rw [Nat.zero_add]; exact h1 5 _ rfl)), .of (load37 (by rw [Nat.zero_add]; exact h1 6 _ rfl)), .of (load36 (by have := h2 0 _ rfl; rw [Nat.mul_one, Nat.add_zero] at this; rw [Nat.zero_add]; exact this)), .of (load37 (by have := h3 0 _ rfl; rw [Nat.mul_one, Nat.add_zero] at this; rw [Nat.zero_add]; exact this)), fun j hj => ?_, fun j hj => ?_, ?_, ?_⟩
      · obtain ⟨g, eg, hc⟩ := hX.cell len_eSlot (fX j (by omega))
        exact ⟨g, by rw [← x1]; exact eg, .of (load3 (by rw [Nat.zero_add]; exact hc 1 _ rfl))⟩
      · obtain ⟨g, eg, hc⟩ := hY.cell len_eInt (fY j (by omega))
        exact ⟨g, by rw [← w1]; exact eg, .of (load3 (by have := hc 0 _ rfl; rw [Nat.mul_one, Nat.add_zero] at this; rw [Nat.zero_add]; exact this))⟩
      · obtain ⟨g, eg, hc⟩ := dX.cell len_eSlot (k := x.l.length) (x := (3, 2000 + k)) (by rw [List.getElem?_append_right (Nat.le_refl _), Nat.sub_self]; rfl)
        refine ⟨g, eg, fun j hj => ?_, .of (load3 (by rw [Nat.zero_add, ← x3]; exact hc 1 _ rfl))⟩
        obtain ⟨g2, eg2, hc2⟩ := dX.cell len_eSlot (k := j) (x := m6 k) (by rw [List.getElem?_append_left (by omega)]; exact fX j (by omega))
        rw [eg] at eg2; injection eg2 with eg2; injection eg2 with eg2; subst eg2
        exact .of (load3 (by rw [Nat.zero_add]; exact hc2 1 _ rfl))
      · obtain ⟨g, eg, hc⟩ := dY.cell len_eInt (k := y.l.length) (x := 2000 + (k : Int)) (by rw [List.getElem?_append_right (Nat.le_refl _), Nat.sub_self]; rfl)
        refine ⟨g, eg, fun j hj => ?_, .of (load3 (by have := hc 0 _ rfl; rw [Nat.mul_one, Nat.add_zero] at this; rw [Nat.zero_add, ← w3]; exact this))⟩
        obtain ⟨g2, eg2, hc2⟩ := dY.cell len_eInt (k := j) (x := m3 k) (by rw [List.getElem?_append_left (by omega)]; exact fY j (by omega))
        rw [eg] at eg2; injection eg2 with eg2; injection eg2 with eg2; subst eg2
        exact .of (load3 (by have := hc2 0 _ rfl; rw [Nat.mul_one, Nat.add_zero] at this; rw [Nat.zero_add]; exact this))
    repeat ((conv => whnf); first | (refine VCmp.tt (by omega) ?_) | (refine VCmp.ff (by omega) ?_) | (refine VIn.mk (IntWalk.i64_in _ (by omega)) ?_) | (refine VIdx.mk _ rfl (by omega) ?_) | (refine VIdx.mk 0 rfl (by omega) ?_))
    try (conv => whnf)
    refine VLoop.mk Nat (fun j => [(0, .slice (some ⟨gB, 0, none⟩) rs.length c), (3, .slice A6 T6.length c6), (4, .slice A3 T3.length c3), (8, .bool true), (9, .int .i64 k), (10, .int .i64 j)]) (fun j W => j ≤ r.f.slots.length ∧ ApI w base (some ⟨gB, 0, none⟩) c rs rs.length rs.length ⟨rs.length, A6, c6, A3, c3, S6, S3, Q6, Q3, T6, T3⟩ W) (fun j => r.f.slots.length - j) 0 ⟨rfl, rfl, rfl, rfl, rfl, rfl, trivial⟩ ⟨Nat.zero_le _, I⟩ ?_
    clear I
    rintro j wi ⟨hj, I⟩
    obtain ⟨gS, gH, rfl, rfl, L1, L2, L3, L4, L5, L6, ⟨g6, e6, L7, L8⟩, ⟨g3, e3, L9, L10⟩⟩ := rd wi I
    by_cases hjl : j < r.f.slots.length
    case pos =>
      obtain ⟨g5, e5, M5⟩ := L5 j hjl
      have M7 := L7 j hjl
      rw [e5] at L1
      rw [e6] at L3
      repeat ((conv => whnf); first | (refine VLoad.mk _ L1 ?_) | (refine VLoad.mk _ L3 ?_) | (refine VLoad.mk _ M5 ?_) | (refine VLoad.mk _ M7 ?_) | (refine VCmp.tt (by omega) ?_) | (refine VCmp.ff (by omega) ?_) | (refine VIn.mk (IntWalk.i64_in _ (by omega)) ?_) | (refine VIdx.mk _ rfl (by omega) ?_) | (refine VIdx.mk 0 rfl (by omega) ?_))
      try (conv => whnf)
      exact .mk (j + 1) ⟨rfl, rfl, rfl, rfl, rfl, rfl, trivial⟩ ⟨hjl, I⟩ (by omega)
    repeat ((conv => whnf); first | (refine VLoad.mk _ L1 ?_) | (refine VCmp.tt (by omega) ?_) | (refine VCmp.ff (by omega) ?_) | (refine VIn.mk (IntWalk.i64_in _ (by omega)) ?_) | (refine VIdx.mk _ rfl (by omega) ?_) | (refine VIdx.mk 0 rfl (by omega) ?_))
    try (conv => whnf)
    clear L1 L2 L3 L4 L5 L6 L7 L8 L9 L10 e6 e3
    refine VLoop.mk Nat (fun j => [(0, .slice (some ⟨gB, 0, none⟩) rs.length c), (3, .slice (some ⟨gS, 0, none⟩) T6.length c6), (4, .slice (some ⟨gH, 0, none⟩) T3.length c3), (8, .bool true), (9, .int .i64 k), (11, .int .i64 j)]) (fun j W => j ≤ r.f.have_.length ∧ ApI w base (some ⟨gB, 0, none⟩) c rs rs.length rs.length ⟨rs.length, some ⟨gS, 0, none⟩, c6, some ⟨gH, 0, none⟩, c3, S6, S3, Q6, Q3, T6, T3⟩ W) (fun j => r.f.have_.length - j) 0 ⟨rfl, rfl, rfl, rfl, rfl, rfl, trivial⟩ ⟨Nat.zero_le _, I⟩ ?_
    clear I
    rintro j wj ⟨hj, I⟩
    by_cases hjl : j < r.f.have_.length
    case pos =>
      obtain ⟨gS', gH', eS, eH, L1, L2, L3, L4, L5, L6, ⟨g6, e6, L7, L8⟩, ⟨g3, e3, L9, L10⟩⟩ := rd wj I
      injection eS with eS; injection eS with eS; subst eS
      injection eH with eH; injection eH with eH; subst eH
      obtain ⟨g5, e5, M5⟩ := L6 j hjl
      have M7 := L9 j hjl
      rw [e5] at L2
      rw [e3] at L4
      repeat ((conv => whnf); first | (refine VLoad.mk _ L2 ?_) | (refine VLoad.mk _ L4 ?_) | (refine VLoad.mk _ M5 ?_) | (refine VLoad.mk _ M7 ?_) | (refine VCmp.tt (by omega) ?_) | (refine VCmp.ff (by omega) ?_) | (refine VIn.mk (IntWalk.i64_in _ (by omega)) ?_) | (refine VIdx.mk _ rfl (by omega) ?_) | (refine VIdx.mk 0 rfl (by omega) ?_))
      try (conv => whnf)
      exact .mk (j + 1) ⟨rfl, rfl, rfl, rfl, rfl, rfl, trivial⟩ ⟨hjl, I⟩ (by omega)
    have Id := I.below ((Below.refl _ _).drew)
    have L2' := (rd wj I)
    obtain ⟨_, _, _, _, _, L2, -⟩ := rd wj I
    repeat ((conv => whnf); first | (refine VLoad.mk _ L2 ?_) | (refine VCmp.tt (by omega) ?_) | (refine VCmp.ff (by omega) ?_) | (refine VIn.mk (IntWalk.i64_in _ (by omega)) ?_) | (refine VIdx.mk _ rfl (by omega) ?_) | (refine VIdx.mk 0 rfl (by omega) ?_))
    try (conv => whnf)
    clear L2 L2'
    obtain ⟨gS', gH', eS, eH, L1, L2, L3, L4, L5, L6, ⟨g6, e6, L7, L8⟩, ⟨g3, e3, L9, L10⟩⟩ := rd wj.drew Id
    injection eS with eS; injection eS with eS; subst eS
    injection eH with eH; injection eH with eH; subst eH
    rw [e6] at L3
    rw [e3] at L4
    refine VDraw.mk 1000 [] [0, 1, 2, 3, 4, 5, 6, 7, 8, 9, 10, 11, 12, 13, 14, 15, 16, 17, 18, 19, 20, 21, 22, 23, 24, 25, 26, 27, 28, 29, 30, 31, 32, 33, 34, 35, 36] (Eq wj.drew) (by kernel_rfl) (by kernel_rfl) (rfl) ?_
    repeat ((conv => whnf); first | (refine VLoad.mk _ L1 ?_) | (refine VLoad.mk _ L2 ?_) | (refine VLoad.mk _ L3 ?_) | (refine VLoad.mk _ L4 ?_) | (refine VLoad.mk _ L8 ?_) | (refine VLoad.mk _ L10 ?_) | (refine VIdx.mk r.f.slots.length rfl (by omega) ?_) | (refine VIdx.mk r.f.have_.length rfl (by omega) ?_) | (refine VCmp.tt (by omega) ?_) | (refine VCmp.ff (by omega) ?_) | (refine VIn.mk (IntWalk.i64_in _ (by omega)) ?_) | (refine VIdx.mk _ rfl (by omega) ?_) | (refine VIdx.mk 0 rfl (by omega) ?_))
    try (conv => whnf)
    exact .mk (k + 1) ⟨rfl, rfl, rfl, rfl, rfl, trivial⟩ ⟨hkl, Id⟩ (by omega)
  have hrk : rs[i]? = some rs[i] := List.getElem?_eq_getElem hil
  have hmem : rs[i] ∈ rs := List.getElem_mem _
  have hsr := hs rs[i] hmem
  generalize rs[i] = r at hrk hmem hsr
  obtain ⟨gB, hBe, _⟩ := I.l.cell len_eRw hrk
  subst hBe
  have hL : ∀ W, Owns W base 39 7 eRw (some ⟨gB, 0, none⟩) c rs → Ld Try.prog 36 gB (0 + i * 7 + 5) (Eq W) (.slice r.X r.f.slots.length r.cX) ∧ Ld Try.prog 37 gB (0 + i * 7 + 6) (Eq W) (.slice r.Y r.f.have_.length r.cY) := fun W hW => by
    obtain ⟨g2, e2, hc⟩ := hW.cell len_eRw hrk
    injection e2 with e2; injection e2 with e2; subst e2
    exact ⟨.of (load36 (by rw [Nat.zero_add]; exact hc 5 _ rfl)), .of (load37 (by rw [Nat.zero_add]; exact hc 6 _ rfl))⟩
  have hi0 := I.i
  dsimp only at hi0
  -- the slots are written
  repeat ((conv => whnf); first | (refine VCmp.tt (by omega) ?_) | (refine VCmp.ff (by omega) ?_) | (refine VIn.mk (IntWalk.i64_in _ (by omega)) ?_) | (refine VIdx.mk _ rfl (by omega) ?_) | (refine VIdx.mk 0 rfl (by omega) ?_))
  try (conv => whnf)
  refine VLoop.mk (Nat × List (RowX (Int × Int))) (fun y => [(0, .slice (some ⟨gB, 0, none⟩) rs.length c), (3, .slice A6 T6.length c6), (4, .slice A3 T3.length c3), (5, .int .i64 i), (6, .int .i64 y.1)]) (fun y W => y.1 ≤ r.f.slots.length ∧ ApI w base (some ⟨gB, 0, none⟩) c rs i i ⟨i, A6, c6, A3, c3, y.2, S3, Q6, Q3, T6, T3⟩ W ∧ ∀ x, y.2[i]? = some x → ∀ t, t < y.1 → x.l[t]? = some (m6 i)) (fun y => r.f.slots.length - y.1) (0, S6) ⟨rfl, rfl, rfl, rfl, rfl, trivial⟩ ⟨Nat.zero_le _, I, fun x _ t ht => by omega⟩ ?_
  clear I
  rintro ⟨j, S6'⟩ wi ⟨hj, I, hfull⟩
  dsimp only at hj I hfull ⊢
  obtain ⟨x, hx, x1, x2, x3⟩ := I.h6.at (R6_at hrk)
  dsimp only at x1 x2 x3
  have hk6 := I.k6
  have hown := hk6.o x (List.mem_of_getElem? hx)
  by_cases hjl : j < r.f.slots.length
  case pos =>
    obtain ⟨g, hg, _⟩ := hown.cell len_eSlot (show x.l[j]? = some (x.l[j]'(by omega)) from List.getElem?_eq_getElem _)
    have L1 := (hL wi I.l).1
    rw [← x1, hg] at L1
    repeat ((conv => whnf); first | (refine VLoad.mk _ L1 ?_) | (refine VCmp.tt (by omega) ?_) | (refine VCmp.ff (by omega) ?_) | (refine VIn.mk (IntWalk.i64_in _ (by omega)) ?_) | (refine VIdx.mk _ rfl (by omega) ?_) | (refine VIdx.mk 0 rfl (by omega) ?_))
    try (conv => whnf)
    refine VBuild.mk _ (fun W => build66' W 2 (1000 + i)) ?_
    have hth : wi.there g 0 (x.l.length * 2) := by rw [hg] at hown; exact hown.there len_eSlot
    repeat ((conv => whnf); first | (refine VLoad.mk _ L1 ?_) | (refine VCmp.tt (by omega) ?_) | (refine VCmp.ff (by omega) ?_) | (refine VIn.mk (IntWalk.i64_in _ (by omega)) ?_) | (refine VIdx.mk _ rfl (by omega) ?_) | (refine VIdx.mk 0 rfl (by omega) ?_))
    try (conv => whnf)
    refine VStore.mid (c := #[.int .i64 2, .int .i64 (1000 + i)]) (by rw [Nat.zero_add]; exact World.there.at hth (by show j * 2 + 2 ≤ _; omega)) (by kernel_rfl) (one2 2 _) fun w2 hw2 => ?_
    have hw2' : w2 = wi.setCells g (j * 2) (eSlot (m6 i)) := by rw [hw2.out, Nat.zero_add]; rfl
    have hgr : wi.grownBy w2 (blk x.A) := by rw [hw2', hg]; exact grown_sets _ _ _ _
    have I2 : ApI w base (some ⟨gB, 0, none⟩) c rs i i ⟨i, A6, c6, A3, c3, S6'.set i ⟨x.A, x.c, x.l.set j (m6 i)⟩, S3, Q6, Q3, T6, T3⟩ w2 :=
      ⟨I.i, I.l.beside hown (by decide) hgr, by rw [hw2']; exact hk6.write len_eSlot hx (by rw [I.q6]; exact Nat.le_refl _) hg (by omega) _, I.q6, I.k3.other hown (by decide) hgr, I.q3, I.h6.write hx _, I.h3, I.o6.beside hown (by decide) hgr, I.t6, I.o3.beside hown (by decide) hgr, I.t3, I.b.grown hgr I.z (fun q hq => (hown.lo q hq).1), Nat.le_trans I.z hgr.size⟩
    repeat ((conv => whnf); first | (refine VCmp.tt (by omega) ?_) | (refine VCmp.ff (by omega) ?_) | (refine VIn.mk (IntWalk.i64_in _ (by omega)) ?_) | (refine VIdx.mk _ rfl (by omega) ?_) | (refine VIdx.mk 0 rfl (by omega) ?_))
    try (conv => whnf)
    refine .mk (j + 1, S6'.set i ⟨x.A, x.c, x.l.set j (m6 i)⟩) ⟨rfl, rfl, rfl, rfl, rfl, trivial⟩ ⟨hjl, I2, fun y hy t ht => ?_⟩ (by show r.f.slots.length - (j + 1) < r.f.slots.length - j; omega)
    rw [List.getElem?_set_self (List.getElem?_eq_some_iff.1 hx).1] at hy
    injection hy with hy; subst hy
    dsimp only
    by_cases e : t = j
    · subst e; rw [List.getElem?_set_self (by omega)]
    · rw [List.getElem?_set_ne (fun e2 => e e2.symm)]; exact hfull x hx t (by have : t < j + 1 := ht; omega)
  have hje : j = r.f.slots.length := by omega
  subst hje
  have L1 := (hL wi I.l).1
  repeat ((conv => whnf); first | (refine VLoad.mk _ L1 ?_) | (refine VCmp.tt (by omega) ?_) | (refine VCmp.ff (by omega) ?_) | (refine VIn.mk (IntWalk.i64_in _ (by omega)) ?_) | (refine VIdx.mk _ rfl (by omega) ?_) | (refine VIdx.mk 0 rfl (by omega) ?_))
  try (conv => whnf)
  have hf6 := hfull x hx
  clear hk6 hown hfull
  refine VLoop.mk (Nat × List (RowX Int)) (fun y => [(0, .slice (some ⟨gB, 0, none⟩) rs.length c), (3, .slice A6 T6.length c6), (4, .slice A3 T3.length c3), (5, .int .i64 i), (7, .int .i64 y.1)]) (fun y W => y.1 ≤ r.f.have_.length ∧ ApI w base (some ⟨gB, 0, none⟩) c rs i i ⟨i, A6, c6, A3, c3, S6', y.2, Q6, Q3, T6, T3⟩ W ∧ ∀ x, y.2[i]? = some x → ∀ t, t < y.1 → x.l[t]? = some (m3 i)) (fun y => r.f.have_.length - y.1) (0, S3) ⟨rfl, rfl, rfl, rfl, rfl, trivial⟩ ⟨Nat.zero_le _, I, fun x _ t ht => by omega⟩ ?_
  clear I L1
  rintro ⟨j, S3'⟩ wj ⟨hj, I, hfull⟩
  dsimp only at hj I hfull ⊢
  obtain ⟨y, hy, y1, y2, y3⟩ := I.h3.at (R3_at hrk)
  dsimp only at y1 y2 y3
  have hk3 := I.k3
  have hown3 := hk3.o y (List.mem_of_getElem? hy)
  by_cases hjl : j < r.f.have_.length
  case pos =>
    obtain ⟨g, hg, _⟩ := hown3.cell len_eInt (show y.l[j]? = some (y.l[j]'(by omega)) from List.getElem?_eq_getElem _)
    have L2 := (hL wj I.l).2
    rw [← y1, hg] at L2
    have hth : wj.there g 0 (y.l.length * 1) := by rw [hg] at hown3; exact hown3.there len_eInt
    repeat ((conv => whnf); first | (refine VLoad.mk _ L2 ?_) | (refine VCmp.tt (by omega) ?_) | (refine VCmp.ff (by omega) ?_) | (refine VIn.mk (IntWalk.i64_in _ (by omega)) ?_) | (refine VIdx.mk _ rfl (by omega) ?_) | (refine VIdx.mk 0 rfl (by omega) ?_))
    try (conv => whnf)
    refine VStore.cell (by kernel_rfl) (hth j (by omega)).1 (hth j (by omega)).2 rfl rfl fun w2 hw2 => ?_
    have hw2' : w2 = wj.setCells g (j * 1) (eInt (m3 i)) := by rw [hw2.out, Nat.mul_one, show 0 + mulO j 1 = j by rw [mulO_eq]; omega]; rfl
    have hgr : wj.grownBy w2 (blk y.A) := by rw [hw2', hg]; exact grown_sets _ _ _ _
    have I2 : ApI w base (some ⟨gB, 0, none⟩) c rs i i ⟨i, A6, c6, A3, c3, S6', S3'.set i ⟨y.A, y.c, y.l.set j (m3 i)⟩, Q6, Q3, T6, T3⟩ w2 :=
      ⟨I.i, I.l.beside hown3 (by decide) hgr, I.k6.other hown3 (by decide) hgr, I.q6, by rw [hw2']; exact hk3.write len_eInt hy (by rw [I.q3]; exact Nat.le_refl _) hg (by omega) _, I.q3, I.h6, I.h3.write hy _, I.o6.beside hown3 (by decide) hgr, I.t6, I.o3.beside hown3 (by decide) hgr, I.t3, I.b.grown hgr I.z (fun q hq => (hown3.lo q hq).1), Nat.le_trans I.z hgr.size⟩
    repeat ((conv => whnf); first | (refine VCmp.tt (by omega) ?_) | (refine VCmp.ff (by omega) ?_) | (refine VIn.mk (IntWalk.i64_in _ (by omega)) ?_) | (refine VIdx.mk _ rfl (by omega) ?_) | (refine VIdx.mk 0 rfl (by omega) ?_))
    try (conv => whnf)
    refine .mk (j + 1, S3'.set i ⟨y.A, y.c, y.l.set j (m3 i)⟩) ⟨rfl, rfl, rfl, rfl, rfl, trivial⟩ ⟨hjl, I2, fun z hz t ht => ?_⟩ (by show r.f.have_.length - (j + 1) < r.f.have_.length - j; omega)
    rw [List.getElem?_set_self (List.getElem?_eq_some_iff.1 hy).1] at hz
    injection hz with hz; subst hz
    dsimp only
    by_cases e : t = j
    · subst e; rw [List.getElem?_set_self (by omega)]
    · rw [List.getElem?_set_ne (fun e2 => e e2.symm)]; exact hfull y hy t (by have : t < j + 1 := ht; omega)
  have hje : j = r.f.have_.length := by omega
  subst hje
  have L2 := (hL wj I.l).2
  have L1 := (hL wj I.l).1
  have ht6 := I.t6.len
  have ht3 := I.t3.len
  have hq6 := I.q6
  have hq3 := I.q3
  dsimp only at ht6 ht3 hq6 hq3
  have zj := I.z
  -- a slot behind
  repeat ((conv => whnf); first | (refine VLoad.mk _ L2 ?_) | (refine VLoad.mk _ L1 ?_) | (refine VCmp.tt (by omega) ?_) | (refine VCmp.ff (by omega) ?_) | (refine VIn.mk (IntWalk.i64_in _ (by omega)) ?_) | (refine VIdx.mk _ rfl (by omega) ?_) | (refine VIdx.mk 0 rfl (by omega) ?_))
  try (conv => whnf)
  refine VBuild.mk _ (fun W => build66' W 3 (2000 + i)) ?_
  repeat ((conv => whnf); first | (refine VCmp.tt (by omega) ?_) | (refine VCmp.ff (by omega) ?_) | (refine VIn.mk (IntWalk.i64_in _ (by omega)) ?_) | (refine VIdx.mk _ rfl (by omega) ?_) | (refine VIdx.mk 0 rfl (by omega) ?_))
  try (conv => whnf)
  refine VBs.mk _ _ (bs36 wj 3 (2000 + i)) ?_
  have c1 : Below wj.heap.size wj (wj.alloc (.cells #[.int .i64 3, .int .i64 (2000 + i)] 66)) := (Below.refl _ _).alloc (Nat.le_refl _) _
  have zz1 : (wj.alloc (.cells #[.int .i64 3, .int .i64 (2000 + i)] 66)).heap.size = wj.heap.size + 1 := by simp
  have hnc : ∀ t u, (eSlot ((3, 2000 + i) : Int × Int))[t]? = some u → (wj.alloc (.cells #[.int .i64 3, .int .i64 (2000 + i)] 66)).cell? ⟨wj.heap.size, t, none⟩ = some u := fun t u hu => by
    have := range_new wj #[.int .i64 3, .int .i64 (2000 + i)] 66 t u hu
    rwa [Nat.zero_add] at this
  have I1 := I.below c1
  generalize wj.alloc (.cells #[.int .i64 3, .int .i64 (2000 + i)] 66) = u1 at c1 zz1 hnc I1 ⊢
  have ho1 := I1.k6.o x (List.mem_of_getElem? hx)
  rw [x1, x2] at ho1
  repeat ((conv => whnf); first | (refine VCmp.tt (by omega) ?_) | (refine VCmp.ff (by omega) ?_) | (refine VIn.mk (IntWalk.i64_in _ (by omega)) ?_) | (refine VIdx.mk _ rfl (by omega) ?_) | (refine VIdx.mk 0 rfl (by omega) ?_))
  try (conv => whnf)
  refine VApp.keep base 2 16 _ Try.underlying36 info66 rfl (by decide) eSlot len_eSlot one_eSlot x.l ((3, 2000 + i) : Int × Int) x3 ho1 hnc (by omega) (by omega) (by omega) fun A7 c7 u2 hoA hoB hg2 hk2 => ?_
  have K2 : Kd u2 base 66 2 eSlot z6 S6' (Q6 ++ [(A7, c7)]) := I1.k6.push (x := x) (by rw [hq6]; exact hx) (by rw [hq6]; exact hoA) (by rw [x1, x2]; exact hoB) (by rw [x1]; exact hg2) (by rw [x1]; exact hk2)
  have b2 : Below base w u2 := I1.b.grown hg2 I1.z (fun q hq => (ho1.lo q hq).1)
  have l2 := I1.l.beside ho1 (by decide) hg2
  have k32 := I1.k3.other ho1 (by decide) hg2
  have o62 := I1.o6.beside ho1 (by decide) hg2
  have o32 := I1.o3.beside ho1 (by decide) hg2
  have zu2 := hg2.size
  repeat ((conv => whnf); first | (refine VCmp.tt (by omega) ?_) | (refine VCmp.ff (by omega) ?_) | (refine VIn.mk (IntWalk.i64_in _ (by omega)) ?_) | (refine VIdx.mk _ rfl (by omega) ?_) | (refine VIdx.mk 0 rfl (by omega) ?_))
  try (conv => whnf)
  refine VBs.mk _ _ (bsA100 u2 A7 (r.f.slots.length + 1) c7) ?_
  have c3' : Below u2.heap.size u2 (u2.alloc (.cells #[.slice A7 (r.f.slots.length + 1) c7] 36)) := (Below.refl _ _).alloc (Nat.le_refl _) _
  have zz3 : (u2.alloc (.cells #[.slice A7 (r.f.slots.length + 1) c7] 36)).heap.size = u2.heap.size + 1 := by simp
  have hr3 := row_new u2 36 1 eSl (A7, r.f.slots.length + 1, c7) #[.slice A7 (r.f.slots.length + 1) c7] rfl
  have o63 := o62.keep c3' (fun k hk => (o62.lo k hk).2)
  repeat ((conv => whnf); first | (refine VCmp.tt (by omega) ?_) | (refine VCmp.ff (by omega) ?_) | (refine VIn.mk (IntWalk.i64_in _ (by omega)) ?_) | (refine VIdx.mk _ rfl (by omega) ?_) | (refine VIdx.mk 0 rfl (by omega) ?_))
  try (conv => whnf)
  refine VApp.rows base 1 24 _ Try.underlying100 info36 rfl (by decide) eSl len_eSl one_eSl T6 [(A7, r.f.slots.length + 1, c7)] rfl rfl o63 hr3 (by omega) (by omega) (by omega) fun A6' c6' u4 ho4 hg4 hk4 => ?_
  have K4 := (K2.below c3').other o63 (by decide) hg4
  have l4 := (l2.keep c3' (fun k hk => (l2.lo k hk).2)).beside o63 (by decide) hg4
  have k34 := (k32.below c3').other o63 (by decide) hg4
  have o34 := (o32.keep c3' (fun k hk => (o32.lo k hk).2)).beside o63 (by decide) hg4
  have b4 : Below base w u4 := (b2.trans (c3'.mono (by omega))).grown hg4 (by omega) (fun q hq => (o63.lo q hq).1)
  have zu4 := hg4.size
  -- a number behind
  have L4 := (hL u4 l4).2
  repeat ((conv => whnf); first | (refine VLoad.mk _ L4 ?_) | (refine VCmp.tt (by omega) ?_) | (refine VCmp.ff (by omega) ?_) | (refine VIn.mk (IntWalk.i64_in _ (by omega)) ?_) | (refine VIdx.mk _ rfl (by omega) ?_) | (refine VIdx.mk 0 rfl (by omega) ?_))
  try (conv => whnf)
  refine VBs.mk _ _ (bs37 u4 (2000 + i)) ?_
  have c5 : Below u4.heap.size u4 (u4.alloc (.cells #[.int .i64 (2000 + i)] 3)) := (Below.refl _ _).alloc (Nat.le_refl _) _
  have zz5 : (u4.alloc (.cells #[.int .i64 (2000 + i)] 3)).heap.size = u4.heap.size + 1 := by simp
  have hnc5 : ∀ t u, (eInt (2000 + i))[t]? = some u → (u4.alloc (.cells #[.int .i64 (2000 + i)] 3)).cell? ⟨u4.heap.size, t, none⟩ = some u := fun t u hu => by
    have := range_new u4 #[.int .i64 (2000 + i)] 3 t u hu
    rwa [Nat.zero_add] at this
  have K5 := K4.below c5
  have k35 := k34.below c5
  have l5 := l4.keep c5 (fun k hk => (l4.lo k hk).2)
  have o65 := (show Owns u4 base 36 1 eSl A6' c6' (T6 ++ [(A7, r.f.slots.length + 1, c7)]) from ho4).keep c5 (fun k hk => (ho4.lo k hk).2)
  have o35 := o34.keep c5 (fun k hk => (o34.lo k hk).2)
  have b5 : Below base w (u4.alloc (.cells #[.int .i64 (2000 + i)] 3)) := b4.trans (c5.mono (by omega))
  generalize u4.alloc (.cells #[.int .i64 (2000 + i)] 3) = u5 at c5 zz5 hnc5 K5 k35 l5 o65 o35 b5 ⊢
  have ho5 := k35.o y (List.mem_of_getElem? hy)
  rw [y1, y2] at ho5
  repeat ((conv => whnf); first | (refine VCmp.tt (by omega) ?_) | (refine VCmp.ff (by omega) ?_) | (refine VIn.mk (IntWalk.i64_in _ (by omega)) ?_) | (refine VIdx.mk _ rfl (by omega) ?_) | (refine VIdx.mk 0 rfl (by omega) ?_))
  try (conv => whnf)
  refine VApp.keep base 1 8 _ Try.underlying37 info3 rfl (by decide) eInt len_eInt one_eInt y.l (2000 + (i : Int)) y3 ho5 hnc5 (by omega) (by omega) (by omega) fun A8 c8 u6 hoC hoD hg6 hk6' => ?_
  have K36 : Kd u6 base 3 1 eInt z3 S3' (Q3 ++ [(A8, c8)]) := k35.push (x := y) (by rw [hq3]; exact hy) (by rw [hq3]; exact hoC) (by rw [y1, y2]; exact hoD) (by rw [y1]; exact hg6) (by rw [y1]; exact hk6')
  have b6 : Below base w u6 := b5.grown hg6 (by omega) (fun q hq => (ho5.lo q hq).1)
  have l6 := l5.beside ho5 (by decide) hg6
  have k66 := K5.other ho5 (by decide) hg6
  have o66 := o65.beside ho5 (by decide) hg6
  have o36 := o35.beside ho5 (by decide) hg6
  have zu6 := hg6.size
  repeat ((conv => whnf); first | (refine VCmp.tt (by omega) ?_) | (refine VCmp.ff (by omega) ?_) | (refine VIn.mk (IntWalk.i64_in _ (by omega)) ?_) | (refine VIdx.mk _ rfl (by omega) ?_) | (refine VIdx.mk 0 rfl (by omega) ?_))
  try (conv => whnf)
  refine VBs.mk _ _ (bsA99 u6 A8 (r.f.have_.length + 1) c8) ?_
  have c7' : Below u6.heap.size u6 (u6.alloc (.cells #[.slice A8 (r.f.have_.length + 1) c8] 37)) := (Below.refl _ _).alloc (Nat.le_refl _) _
  have zz7 : (u6.alloc (.cells #[.slice A8 (r.f.have_.length + 1) c8] 37)).heap.size = u6.heap.size + 1 := by simp
  have hr7 := row_new u6 37 1 eSl (A8, r.f.have_.length + 1, c8) #[.slice A8 (r.f.have_.length + 1) c8] rfl
  have o37 := o36.keep c7' (fun k hk => (o36.lo k hk).2)
  repeat ((conv => whnf); first | (refine VCmp.tt (by omega) ?_) | (refine VCmp.ff (by omega) ?_) | (refine VIn.mk (IntWalk.i64_in _ (by omega)) ?_) | (refine VIdx.mk _ rfl (by omega) ?_) | (refine VIdx.mk 0 rfl (by omega) ?_))
  try (conv => whnf)
  refine VApp.rows base 1 24 _ Try.underlying99 info37 rfl (by decide) eSl len_eSl one_eSl T3 [(A8, r.f.have_.length + 1, c8)] rfl rfl o37 hr7 (by omega) (by omega) (by omega) fun A3' c3' u8 ho8 hg8 hk8 => ?_
  have I8 : ApI w base (some ⟨gB, 0, none⟩) c rs (i + 1) (i + 1) ⟨i + 1, A6', c6', A3', c3', S6', S3', Q6 ++ [(A7, c7)], Q3 ++ [(A8, c8)], T6 ++ [(A7, r.f.slots.length + 1, c7)], T3 ++ [(A8, r.f.have_.length + 1, c8)]⟩ u8 :=
    ⟨hil, (l6.keep c7' (fun k hk => (l6.lo k hk).2)).beside o37 (by decide) hg8, (k66.below c7').other o37 (by decide) hg8, by rw [List.length_append, hq6]; rfl, (K36.below c7').other o37 (by decide) hg8, by rw [List.length_append, hq3]; rfl, I.h6.next hx (by rw [x3]; exact hf6), I.h3.next hy (by rw [y3]; exact hfull y hy), (o66.keep c7' (fun k hk => (o66.lo k hk).2)).beside o37 (by decide) hg8, I.t6.push (by rw [hq6]; exact R6_at hrk) A7 c7, ho8, I.t3.push (by rw [hq3]; exact R3_at hrk) A8 c8, (b6.trans (c7'.mono (by omega))).grown hg8 (by omega) (fun q hq => (o37.lo q hq).1), by have := hg8.size; omega⟩
  repeat ((conv => whnf); first | (refine VCmp.tt (by omega) ?_) | (refine VCmp.ff (by omega) ?_) | (refine VIn.mk (IntWalk.i64_in _ (by omega)) ?_) | (refine VIdx.mk _ rfl (by omega) ?_) | (refine VIdx.mk 0 rfl (by omega) ?_))
  try (conv => whnf)
  exact .mk ⟨i + 1, A6', c6', A3', c3', S6', S3', Q6 ++ [(A7, c7)], Q3 ++ [(A8, c8)], T6 ++ [(A7, r.f.slots.length + 1, c7)], T3 ++ [(A8, r.f.have_.length + 1, c8)]⟩ ⟨rfl, by show some (Value.slice A6' (T6.length + 1) c6') = _; rw [List.length_append]; rfl, by show some (Value.slice A3' (T3.length + 1) c3') = _; rw [List.length_append]; rfl, rfl, trivial⟩ I8 (by show rs.length - (i + 1) < rs.length - i; omega)
end Go.Proofs.Ytcffhfcjfjfokaa
namespace Go.Proofs.Ytcffhfcjfjfokaa
open Go.RowKit
theorem OwnFs.fls {w : World} {base c : Nat} {B : Option Addr} {rs : List Rw} (h : OwnFs w base B c rs) : Fls w w.heap.size B (rs.map Rw.f) :=
  rows_fls ⟨h.own.row len_eRw, fun r hr => by
    obtain ⟨o1, o2⟩ := h.each r hr
    exact ⟨o1.row len_eSlot, o2.row len_eInt, o1.len.1, o1.len.2, o2.len.1, o2.len.2⟩⟩
theorem OwnFs.keep {w w' : World} {base c : Nat} {B : Option Addr} {rs : List Rw} (h : OwnFs w base B c rs) (hb : Below w.heap.size w w') : OwnFs w' base B c rs :=
  ⟨h.own.keep hb fun k hk => (h.own.lo k hk).2, fun r hr => ⟨(h.each r hr).1.keep hb fun k hk => ((h.each r hr).1.lo k hk).2, (h.each r hr).2.keep hb fun k hk => ((h.each r hr).2.lo k hk).2⟩, h.dis⟩
theorem CtPost.form {w w' : World} {r : Option (List Fl)} {x : Ending} (h : CtPost w r x w') : Below w.heap.size w w' ∧ ∃ B c rs, x = .returned (.tuple #[.slice B rs.length c, .int .i64 (match r with | none => 81 | some _ => 0)]) ∧ rs.map Rw.f = r.getD [] ∧ OwnFs w' w.heap.size B c rs := by
  obtain ⟨hb, h⟩ := h
  refine ⟨hb, ?_⟩
  cases r with
  | none => exact ⟨none, 0, [], h, rfl, ownFs_nil _ _⟩
  | some fs =>
    obtain ⟨B, c, rs, e, hf, ho⟩ := h
    exact ⟨B, c, rs, by rw [e, ← hf, List.length_map], hf, ho⟩
theorem contents_small {s : Sto} (hi : SInv s) {e l i c : Int} {who : List Mm} : ((s.contents e l i c who).getD []).length ≤ who.length ∧ ∀ f ∈ (s.contents e l i c who).getD [], f.slots.length ≤ 1048576 ∧ f.have_.length ≤ 1048576 := by
  unfold Sto.contents
  split
  · refine ⟨by simp, fun f hf => ?_⟩
    rw [Option.getD_some] at hf
    obtain ⟨m, _, rfl⟩ := List.mem_map.1 hf
    have := kp_small hi m.p.toNat
    omega
  · exact ⟨by simp, fun f hf => by simp at hf⟩
set_option maxRecDepth 100000 in
theorem gives_any {w : World} {F : List Nat} {b g b' g' : Nat} {s : Sto} {N : Nat} {o : Opx} (h : Two w F b g b' g' s) (hN : N ≤ w.heap.size) (ho : OpAt w N o) :
    Calls Try.prog 74 #[.pointer (some ⟨b, 0, none⟩), .pointer (some ⟨b', 0, none⟩), .agg (opA o)] w fun x w' => x = .returned (.bool true) ∧ Below w.heap.size w w' := by
  refine calls_vc tab_ok Try.func74 rfl ?_
  conv => whnf
  refine .mk fun wA hwA => ?_
  have hbA : Below w.heap.size w wA := by rw [hwA.out]; exact below_box1 _ _ _
  have zA : wA.heap.size = w.heap.size + 1 := by rw [hwA.out]; simp
  have oA : wA.rangeAt w.heap.size 0 (opA o).toList := by rw [hwA.out]; exact range_new w (opA o) 95
  clear hwA
  have hx : ∀ W, Below wA.heap.size wA W → W.rangeAt w.heap.size 0 (opA o).toList ∧ OpAt W N o ∧ Below w.heap.size w W := fun W hW =>
    ⟨range_same oA (hW.block w.heap.size (by omega)), (ho.below hbA hN).below hW (by omega), hbA.trans (hW.mono (by omega))⟩
  have b0 : Below wA.heap.size wA wA := Below.refl _ _
  have Lp : Ld Try.prog 35 w.heap.size 10 (fun W => Below wA.heap.size wA W) (.agg #[.int .i64 o.e, .int .i64 o.l, .int .i64 o.i, .int .i64 o.c]) := ⟨fun W hW => load35 (range_sub (n := 4) (hx W hW).1 10 rfl)⟩
  have Lw : Ld Try.prog 93 w.heap.size 14 (fun W => Below wA.heap.size wA W) (.slice o.wA o.who.length o.wc) := ⟨fun W hW => load_cell (by kernel_rfl) ((hx W hW).1 14 _ rfl)⟩
  obtain ⟨bg, -, -⟩ := h.pb
  obtain ⟨k1, k2, k3, k4, P⟩ := h.p
  obtain ⟨l1, l2, l3, l4, D⟩ := h.d
  have hb' := h.hi b' h.bF.2.2.1
  repeat ((conv => whnf); first | (refine VLoad.mk _ (Lp.at b0) ?_) | (refine VLoad.mk _ (Lw.at b0) ?_) | (refine VCmp.tt (by omega) ?_) | (refine VCmp.ff (by omega) ?_) | (refine VIn.mk (IntWalk.i64_in _ (by omega)) ?_) | (refine VIdx.mk _ rfl (by omega) ?_) | (refine VIdx.mk 0 rfl (by omega) ?_))
  try (conv => whnf)
  refine VCall.mk _ (contents_any (P.below hbA) o.e o.l o.i o.c o.wA o.wc N o.who (by omega) (hx _ b0).2.1.who ho.s3) ?_
  intro e1 x1 hp1
  obtain ⟨b1, B, c, rs, rfl, hrs, own1⟩ := hp1.form
  refine ⟨_, rfl, ?_⟩
  have z1 := b1.size
  repeat ((conv => whnf); first | (refine VLoad.mk _ (Lp.at b1) ?_) | (refine VLoad.mk _ (Lw.at b1) ?_) | (refine VCmp.tt (by omega) ?_) | (refine VCmp.ff (by omega) ?_) | (refine VIn.mk (IntWalk.i64_in _ (by omega)) ?_) | (refine VIdx.mk _ rfl (by omega) ?_) | (refine VIdx.mk 0 rfl (by omega) ?_))
  try (conv => whnf)
  refine VCall.mk _ (rcontents_any ((D.below hbA).below (b1.mono (Nat.le_refl _))) (by rw [b1.cell (p := ⟨b', 0, none⟩) (by show b' < _; omega), hbA.cell (p := ⟨b', 0, none⟩) hb']; exact h.dn) o.e o.l o.i o.c o.wA o.wc N o.who (by omega) (hx _ b1).2.1.who ho.s3) ?_
  intro e2 x2 hp2
  obtain ⟨b2, B2, c2, rs2, rfl, hrs2, own2⟩ := hp2.form
  refine ⟨_, rfl, ?_⟩
  have b12 : Below wA.heap.size wA x2 := b1.trans (b2.mono z1)
  have own12 := own1.keep b2
  repeat ((conv => whnf); first | (refine VCmp.tt (by omega) ?_) | (refine VCmp.ff (by omega) ?_) | (refine VIn.mk (IntWalk.i64_in _ (by omega)) ?_) | (refine VIdx.mk _ rfl (by omega) ?_) | (refine VIdx.mk 0 rfl (by omega) ?_))
  try (conv => whnf)
  refine VCall.mk _ (num_any _ x2) ?_
  rintro _ _ ⟨rfl, rfl⟩
  refine ⟨_, rfl, ?_⟩
  have hcs := contents_small (e := o.e) (l := o.l) (i := o.i) (c := o.c) (who := o.who) h.inv
  have hlr : rs.length = ((s.contents o.e o.l o.i o.c o.who).getD []).length := by rw [← hrs, List.length_map]
  have hlr2 : rs2.length = rs.length := by rw [hlr, ← hrs2, List.length_map]
  have hs3 := ho.s3
  have hsf := sameFls_yes B B2 c c2 x2.heap.size (rs.map Rw.f) x2 (Nat.le_refl _) own12.fls (by have := own2.fls; rwa [hrs2, ← hrs] at this) (by rw [List.length_map]; omega)
  rw [List.length_map] at hsf
  rw [hlr2]
  repeat ((conv => whnf); first | (refine VCmp.tt rfl ?_) | (refine VCmp.tt (by omega) ?_) | (refine VCmp.ff (by omega) ?_) | (refine VIn.mk (IntWalk.i64_in _ (by omega)) ?_) | (refine VIdx.mk _ rfl (by omega) ?_) | (refine VIdx.mk 0 rfl (by omega) ?_))
  try (conv => whnf)
  refine VCall.mk _ hsf ?_
  rintro _ x3 ⟨rfl, b3⟩
  refine ⟨_, rfl, ?_⟩
  repeat ((conv => whnf); first | (refine VCmp.tt (by omega) ?_) | (refine VCmp.ff (by omega) ?_) | (refine VIn.mk (IntWalk.i64_in _ (by omega)) ?_) | (refine VIdx.mk _ rfl (by omega) ?_) | (refine VIdx.mk 0 rfl (by omega) ?_))
  try (conv => whnf)
  refine VCall.mk _ (apart_any (own12.keep b3) (by have := b12.size; have := b3.size; omega) (by omega) (fun r hr => hcs.2 r.f (by rw [← hrs]; exact List.mem_map.2 ⟨r, hr, rfl⟩))) ?_
  rintro _ x4 ⟨rfl, b4⟩
  refine ⟨_, rfl, ?_⟩
  repeat ((conv => whnf); first | (refine VCmp.tt (by omega) ?_) | (refine VCmp.ff (by omega) ?_) | (refine VIn.mk (IntWalk.i64_in _ (by omega)) ?_) | (refine VIdx.mk _ rfl (by omega) ?_) | (refine VIdx.mk 0 rfl (by omega) ?_))
  try (conv => whnf)
  exact .mk ⟨rfl, hbA.trans ((b12.trans (b3.mono b12.size)).mono (by omega) |>.trans (b4.mono (by omega)))⟩
end Go.Proofs.Ytcffhfcjfjfokaa
namespace Go.Proofs.Ytcffhfcjfjfokaa
open Go.RowKit
noncomputable def Sto.step (s : Sto) (o : Opx) : Sto :=
  if o.kd = 1 then (s.take o.q o.inc o.f).2
  else if o.kd = 4 then s.begin_ o.e o.l o.i o.c
  else if o.kd = 5 then (s.addS o.e o.l o.i o.c (o.ms.map Dr.d)).2
  else s
end Go.Proofs.Ytcffhfcjfjfokaa
