/- TnK, joined. -/
import Derived.Test.YtcffhfcjfjfokaaSu9
import Derived.Test.YtcffhfcjfjfokaaSu10
set_option linter.unusedVariables false
set_option linter.unusedSimpArgs false
namespace Go.Proofs.Ytcffhfcjfjfokaa
open Go Go.RowKit
structure WX where
  WF : Option Addr
  cWF : Nat
  fw : List Tri
  WD : Option Addr
  cWD : Nat
  dw : List Tri
  WI : Option Addr
  cWI : Nat
  pw : List Tri
  PL : Option Addr
  cPL : Nat
  pt : List Tri
def wxO (t : WX) : List Value := [.slice t.WF t.fw.length t.cWF, .slice t.WD t.dw.length t.cWD, .slice t.WI t.pw.length t.cWI, .slice t.PL t.pt.length t.cPL]
def slR (r : Rw) : RowX (Int × Int) := ⟨r.X, r.cX, r.f.slots⟩
def inR (r : Rw) : RowX Int := ⟨r.Y, r.cY, r.f.have_⟩
structure WasF (W : World) (F : List Nat) (A : Option Addr) (ws : List Rw) : Prop where
  row : RowF W F 7 eRw A ws
  each : ∀ r ∈ ws, RowF W F 2 eSlot r.X r.f.slots ∧ RowF W F 1 eInt r.Y r.f.have_ ∧ (r.f.slots.length ≤ r.cX ∧ r.cX ≤ 9223372036854775807) ∧ r.f.have_.length ≤ r.cY ∧ r.cY ≤ 9223372036854775807
structure WasD (W : World) (F : List Nat) (A : Option Addr) (ws : List Dr) : Prop where
  row : RowF W F 4 eDr A ws
  each : ∀ r ∈ ws, RowF W F 1 eByte r.B r.d.body ∧ r.d.body.length ≤ r.c ∧ r.c ≤ 9223372036854775807
section
variable {W W' : World} {F F' S : List Nat} {A : Option Addr}
theorem RowF.fx {α : Type} {sz : Nat} {enc : α → List Value} {l : List α} (h : RowF W F sz enc A l) (hf : Fx S W W') (hS : ∀ q ∈ S, q ∈ F) : RowF W' F sz enc A l := h.keep hf.size fun k hk hn => hf.block k hk fun hm => hn (hS k hm)
theorem WasF.fx {ws : List Rw} (h : WasF W F A ws) (hf : Fx S W W') (hS : ∀ q ∈ S, q ∈ F) : WasF W' F A ws := ⟨h.row.fx hf hS, fun r hr => ⟨(h.each r hr).1.fx hf hS, (h.each r hr).2.1.fx hf hS, (h.each r hr).2.2⟩⟩
theorem WasF.more {ws : List Rw} (h : WasF W F A ws) (hF : ∀ y ∈ F', y ∈ F ∨ W.heap.size ≤ y) : WasF W F' A ws := ⟨h.row.more hF, fun r hr => ⟨(h.each r hr).1.more hF, (h.each r hr).2.1.more hF, (h.each r hr).2.2⟩⟩
theorem WasF.fls {ws : List Rw} (h : WasF W F A ws) : Fls W W.heap.size A (ws.map Rw.f) :=
  rows_fls ⟨h.row.row, fun r hr => ⟨(h.each r hr).1.row, (h.each r hr).2.1.row, (h.each r hr).2.2.1.1, (h.each r hr).2.2.1.2, (h.each r hr).2.2.2.1, (h.each r hr).2.2.2.2⟩⟩
theorem WasD.fx {ws : List Dr} (h : WasD W F A ws) (hf : Fx S W W') (hS : ∀ q ∈ S, q ∈ F) : WasD W' F A ws := ⟨h.row.fx hf hS, fun r hr => ⟨(h.each r hr).1.fx hf hS, (h.each r hr).2⟩⟩
theorem WasD.more {ws : List Dr} (h : WasD W F A ws) (hF : ∀ y ∈ F', y ∈ F ∨ W.heap.size ≤ y) : WasD W F' A ws := ⟨h.row.more hF, fun r hr => ⟨(h.each r hr).1.more hF, (h.each r hr).2⟩⟩
theorem WasD.dts {ws : List Dr} (h : WasD W F A ws) : Dts W W.heap.size A (ws.map Dr.d) := ⟨ws, rfl, h.row.row, fun r hr => ⟨(h.each r hr).1.row, (h.each r hr).2.1, (h.each r hr).2.2⟩⟩
end
structure Ws (W : World) (base hb : Nat) (F : List Nat) (x : BX) (t : WX) : Prop where
  wf : Owns W base 22 1 eTr t.WF t.cWF t.fw
  wd : Owns W base 40 1 eTr t.WD t.cWD t.dw
  wi : Owns W base 37 1 eTr t.WI t.cWI t.pw
  pl : Owns W base 37 1 eTr t.PL t.cPL t.pt
  ap : ∀ q, blk t.WF = some q ∨ blk t.WD = some q ∨ blk t.WI = some q ∨ blk t.PL = some q → q ∉ bkS x hb
  ip : ∀ q, blk t.WI = some q → blk t.PL ≠ some q
  nf : t.fw.length ≤ x.f.P.length
  nd : t.dw.length ≤ x.d.P.length
  np : t.pw.length ≤ t.pt.length
  f : ∀ (i : Nat) (r : RowX Rw) (u : Tri), x.f.P[i]? = some r → t.fw[i]? = some u → ∃ ws, WasF W F u.1 ws ∧ ws.map Rw.f = r.l.map Rw.f ∧ u.2.1 = ws.length
  d : ∀ (i : Nat) (r : RowX Dr) (u : Tri), x.d.P[i]? = some r → t.dw[i]? = some u → ∃ ws, WasD W F u.1 ws ∧ ws.map Dr.d = r.l.map Dr.d ∧ u.2.1 = ws.length
  p : ∀ (i : Nat) (s u : Tri), t.pt[i]? = some s → t.pw[i]? = some u → ∃ r ∈ x.i.P, rowT r = s ∧ RowF W F 1 eInt u.1 r.l ∧ u.2.1 = r.l.length
  fs : ∀ r ∈ x.f.P, ∀ y ∈ r.l, slR y ∈ x.s.P ∧ inR y ∈ x.i.P
  ds : ∀ r ∈ x.d.P, ∀ y ∈ r.l, bodyR y ∈ x.y.P
  ps : ∀ s ∈ t.pt, ∃ r ∈ x.i.P, rowT r = s
theorem Ws.fx {W W' : World} {base hb : Nat} {F S : List Nat} {x : BX} {t : WX} (h : Ws W base hb F x t) (hf : Fx S W W') (hS : ∀ q ∈ S, q ∈ F) (hn : ∀ q ∈ S, ¬ (blk t.WF = some q ∨ blk t.WD = some q ∨ blk t.WI = some q ∨ blk t.PL = some q)) : Ws W' base hb F x t :=
  ⟨h.wf.fx hf fun k hk hm => hn k hm (.inl hk), h.wd.fx hf fun k hk hm => hn k hm (.inr (.inl hk)), h.wi.fx hf fun k hk hm => hn k hm (.inr (.inr (.inl hk))), h.pl.fx hf fun k hk hm => hn k hm (.inr (.inr (.inr hk))), h.ap, h.ip, h.nf, h.nd, h.np,
    fun i r u h1 h2 => (h.f i r u h1 h2).imp fun ws hw => ⟨hw.1.fx hf hS, hw.2⟩, fun i r u h1 h2 => (h.d i r u h1 h2).imp fun ws hw => ⟨hw.1.fx hf hS, hw.2⟩, fun i s u h1 h2 => (h.p i s u h1 h2).imp fun r hr => ⟨hr.1, hr.2.1, hr.2.2.1.fx hf hS, hr.2.2.2⟩, h.fs, h.ds, h.ps⟩
theorem Ws.more {W : World} {base hb : Nat} {F F' : List Nat} {x : BX} {t : WX} (h : Ws W base hb F x t) (hF : ∀ y ∈ F', y ∈ F ∨ W.heap.size ≤ y) : Ws W base hb F' x t :=
  ⟨h.wf, h.wd, h.wi, h.pl, h.ap, h.ip, h.nf, h.nd, h.np, fun i r u h1 h2 => (h.f i r u h1 h2).imp fun ws hw => ⟨hw.1.more hF, hw.2⟩, fun i r u h1 h2 => (h.d i r u h1 h2).imp fun ws hw => ⟨hw.1.more hF, hw.2⟩, fun i s u h1 h2 => (h.p i s u h1 h2).imp fun r hr => ⟨hr.1, hr.2.1, hr.2.2.1.more hF, hr.2.2.2⟩, h.fs, h.ds, h.ps⟩
theorem kbFx {α : Type} {W W' : World} {base sz : Nat} {tl e : TypeId} {enc : α → List Value} {zs : Nat → List α} {x : KX α} {S : List Nat} (h : Kb W base tl e sz enc zs x) (hQ : x.Q = []) (hf : Fx S W W') (hS : ∀ q ∈ S, q ∉ kxS x) : Kb W' base tl e sz enc zs x := by
  have hk := h.k
  refine ⟨⟨fun r hr => (hk.o r hr).fx hf fun k hk' hm => hS k hm (List.mem_append.2 (.inr (List.mem_append.2 (.inr (List.mem_flatMap.2 ⟨r, hr, by rw [hk']; simp⟩))))), fun k r y _ hy => (by rw [hQ] at hy; simp at hy), hk.s, hk.dis, hk.len⟩, h.l.fx hf fun k hk' hm => hS k hm (List.mem_append.2 (.inl (by rw [hk']; simp))), h.m.fx hf fun k hk' hm => hS k hm (List.mem_append.2 (.inr (List.mem_append.2 (.inl (by rw [hk']; simp))))), h.lm⟩
structure NoQ (x : BX) : Prop where
  y : x.y.Q = []
  i : x.i.Q = []
  s : x.s.Q = []
  f : x.f.Q = []
  d : x.d.Q = []
  m : x.m.Q = []
theorem bkS_K {x : BX} {hb q : Nat} : q ∈ bkS x hb ↔ q = hb ∨ q ∈ kxS x.y ∨ q ∈ kxS x.i ∨ q ∈ kxS x.s ∨ q ∈ kxS x.f ∨ q ∈ kxS x.d ∨ q ∈ kxS x.m := by
  simp [bkS]
theorem Bo.fx {W W' : World} {base hb : Nat} {x : BX} {o : List Value} {S : List Nat} (h : Bo W base hb x o) (hQ : NoQ x) (hf : Fx S W W') (hS : ∀ q ∈ S, q ∉ bkS x hb) : Bo W' base hb x o := by
  have hz := h.hz
  have z := h.z
  have hh : W'.heap[hb]? = W.heap[hb]? := hf.block hb (by omega) fun hm => hS hb hm (bkS_K.2 (.inl rfl))
  exact ⟨kbFx h.y hQ.y hf fun q hq hm => hS q hq (bkS_K.2 (.inr (.inl hm))), kbFx h.i hQ.i hf fun q hq hm => hS q hq (bkS_K.2 (.inr (.inr (.inl hm)))), kbFx h.s hQ.s hf fun q hq hm => hS q hq (bkS_K.2 (.inr (.inr (.inr (.inl hm))))), kbFx h.f hQ.f hf fun q hq hm => hS q hq (bkS_K.2 (.inr (.inr (.inr (.inr (.inl hm)))))), kbFx h.d hQ.d hf fun q hq hm => hS q hq (bkS_K.2 (.inr (.inr (.inr (.inr (.inr (.inl hm))))))), kbFx h.m hQ.m hf fun q hq hm => hS q hq (bkS_K.2 (.inr (.inr (.inr (.inr (.inr (.inr hm))))))), range_same h.r hh, there_same h.t hh, hz, Nat.le_trans z hf.size⟩
def Fh (hb : Nat) (F : List Nat) (W W' : World) : Prop := Fx (F.filter fun q => decide (hb ≤ q)) W W'
theorem Fh.refl (hb : Nat) (F : List Nat) (W : World) : Fh hb F W W := Fx.refl _ _
theorem Fh.trans {hb : Nat} {F F' : List Nat} {W W' W'' : World} (h : Fh hb F W W') (h' : Fh hb F' W' W'') (hF : ∀ q ∈ F', q ∈ F ∨ W.heap.size ≤ q) : Fh hb F W W'' :=
  Fx.trans h h' fun q hq => by
    obtain ⟨h1, h2⟩ := List.mem_filter.1 hq
    exact (hF q h1).imp (fun e => List.mem_filter.2 ⟨e, h2⟩) id
theorem Fh.below {hb : Nat} {F : List Nat} {W W' : World} (h : Below W.heap.size W W') : Fh hb F W W' := Fx.below h
theorem Fh.of {hb : Nat} {F S : List Nat} {W W' : World} (h : Fx S W W') (hS : ∀ q ∈ S, q ∈ F ∧ hb ≤ q) : Fh hb F W W' := Fx.more h fun q hq => List.mem_filter.2 ⟨(hS q hq).1, by simpa using (hS q hq).2⟩
structure Tn (w : World) (base hb : Nat) (F K : List Nat) (x : BX) (t : WX) : Prop where
  B : Bo w base hb x (wxO t)
  W : Ws w base hb (F ++ K) x t
  F1 : ∀ q ∈ bkS x hb, q ∈ F
  F2 : ∀ q, blk t.WF = some q ∨ blk t.WD = some q ∨ blk t.WI = some q ∨ blk t.PL = some q → q ∈ F
  hi : ∀ q ∈ F ++ K, q < w.heap.size
  Q : NoQ x
  dk : ∀ q ∈ K, q ∉ F
theorem Ws.lt {W : World} {base hb : Nat} {F : List Nat} {x : BX} {t : WX} (h : Ws W base hb F x t) {q : Nat} (hq : blk t.WF = some q ∨ blk t.WD = some q ∨ blk t.WI = some q ∨ blk t.PL = some q) : base ≤ q ∧ q < W.heap.size := by
  rcases hq with e | e | e | e
  · exact h.wf.lo q e
  · exact h.wd.lo q e
  · exact h.wi.lo q e
  · exact h.pl.lo q e
section
variable {W W' : World} {base hb : Nat} {F F' K K' S : List Nat} {x : BX} {t : WX}
theorem Tn.below (h : Tn W base hb F K x t) (hb' : Below W.heap.size W W') : Tn W' base hb F K x t :=
  ⟨h.B.below hb', h.W.fx (S := []) (.below hb') (by simp) (by simp), h.F1, h.F2, fun q hq => Nat.lt_of_lt_of_le (h.hi q hq) hb'.size, h.Q, h.dk⟩
theorem Tn.more (h : Tn W base hb F K x t) (hb' : Below W.heap.size W W') (hF : ∀ y ∈ F' ++ K', y ∈ F ++ K ∨ W.heap.size ≤ y) (hs : ∀ y ∈ F, y ∈ F') (hi : ∀ y ∈ F' ++ K', y < W'.heap.size) (hd : ∀ q ∈ K', q ∉ F') : Tn W' base hb F' K' x t :=
  ⟨h.B.below hb', (h.W.more hF).fx (S := []) (.below hb') (by simp) (by simp), fun q hq => hs q (h.F1 q hq), fun q hq => hs q (h.F2 q hq), hi, h.Q, hd⟩
theorem Tn.far (h : Tn W base hb F K x t) (hf : Fx S W W') (hS : ∀ q ∈ S, q ∈ F ∧ q < hb) : Tn W' base hb F K x t :=
  have h1 : ∀ q ∈ S, q ∉ bkS x hb := fun q hq hm => by have := (h.B.bks q hm).1; have := (hS q hq).2; omega
  have hz := h.B.hz
  have h2 : ∀ q ∈ S, ¬ (blk t.WF = some q ∨ blk t.WD = some q ∨ blk t.WI = some q ∨ blk t.PL = some q) := fun q hq hm => by
    have := (hS q hq).2
    have := (h.W.lt hm).1
    omega
  ⟨h.B.fx h.Q hf h1, h.W.fx hf (fun q hq => List.mem_append.2 (.inl (hS q hq).1)) h2, h.F1, h.F2, fun q hq => Nat.lt_of_lt_of_le (h.hi q hq) hf.size, h.Q, h.dk⟩
end
theorem kxS_push {α : Type} {x : KX α} {L : Option Addr} {cL : Nat} {r : RowX α} {q : Nat} : q ∈ kxS { x with L := L, cL := cL, P := x.P ++ [r] } → blk L = some q ∨ q ∈ kxS x ∨ blk r.A = some q := fun h => by
  rcases List.mem_append.1 h with h | h
  · exact .inl (by simpa [Option.mem_toList] using h)
  · rcases List.mem_append.1 h with h | h
    · exact .inr (.inl (List.mem_append.2 (.inr (List.mem_append.2 (.inl h)))))
    · dsimp only at h
      rw [List.flatMap_append] at h
      rcases List.mem_append.1 h with h | h
      · exact .inr (.inl (List.mem_append.2 (.inr (List.mem_append.2 (.inr h)))))
      · refine .inr (.inr ?_)
        obtain ⟨s, hs, h⟩ := List.mem_flatMap.1 h
        obtain rfl := List.mem_singleton.1 hs
        simpa [Option.mem_toList] using h
theorem kxS_L {α : Type} {x : KX α} {q : Nat} (h : blk x.L = some q) : q ∈ kxS x := List.mem_append.2 (.inl (by rw [h]; simp))
section
variable {W0 W1 W2 w3 : World} {base hb : Nat} {F K : List Nat} {x : BX} {t : WX}
theorem Tn.push_y (T : Tn W0 base hb F K x t) {r : RowX Int} (hb1 : Below W0.heap.size W0 W1) (ho : Owns W0 base 5 1 eByte r.A r.c r.l) (hrF : ∀ q, blk r.A = some q → q ∈ F) (hn : ∀ y ∈ x.y.P, ∀ q, blk y.A = some q → blk r.A ≠ some q) {L : Option Addr} {cL m : Nat} (hm : x.y.P.length + 1 = m) (hl : Owns W2 base 52 1 eTr L cL (x.y.P.map rowT ++ [rowT r])) (hg : W1.grownBy W2 (blk x.y.L)) (hk : blk L = blk x.y.L ∨ blk L = some W1.heap.size) (h3 : w3 = W2.setCell ⟨hb, 0, none⟩ (.slice L m cL)) :
    ∃ F', Fh hb F W0 w3 ∧ (∀ q ∈ F, q ∈ F') ∧ (∀ q ∈ F', q ∈ F ∨ W0.heap.size ≤ q) ∧ Tn w3 base hb F' K { x with y := { x.y with L := L, cL := cL, P := x.y.P ++ [r] } } t := by
  have hz := T.B.hz
  have z0 := T.B.z
  have z1 := hb1.size
  have z2 := hg.size
  have g3 : W2.grownBy w3 (some hb) := by rw [h3]; exact grown_cell _ _ _ _
  have z3 := g3.size
  have B3 := T.B.push_y rfl T.Q.y (R := [r]) (m := m) hb1 (fun r' hr' => by
    obtain rfl := List.mem_singleton.1 hr'
    exact ho.keep hb1 fun k hk => (ho.lo k hk).2) (fun r' hr' => by
    obtain rfl := List.mem_singleton.1 hr'
    exact hn) (sep_one _) hm hl hg hk
  rw [← h3] at B3
  have hSb : ∀ q ∈ hb :: (blk x.y.L).toList, q ∈ bkS x hb := fun q hq => by
    rcases List.mem_cons.1 hq with rfl | hq
    · exact bkS_K.2 (.inl rfl)
    · have hm := kxS_L (x := x.y) (by simpa [Option.mem_toList] using hq)
      exact bkS_K.2 (.inr (.inl hm))
  have F0 : Fx (hb :: (blk x.y.L).toList) W0 w3 := ((Fx.below (S := hb :: (blk x.y.L).toList) hb1).trans (.grown (S := (blk x.y.L).toList) hg fun q hq => by rw [hq]; simp) fun q hq => .inl (List.mem_cons_of_mem _ hq)).trans (.grown (S := [hb]) g3 fun q hq => by injection hq with hq; subst hq; exact List.mem_singleton.2 rfl) fun q hq => .inl (by obtain rfl := List.mem_singleton.1 hq; exact List.mem_cons_self ..)
  have hnew : ∀ q, blk L = some q → q ∈ F ∨ W0.heap.size ≤ q := fun q hq => hk.elim (fun e => .inl (T.F1 q (hSb q (List.mem_cons_of_mem _ (by rw [← e, hq]; simp))))) fun e => .inr (by rw [hq] at e; injection e with e; omega)
  have hF' : ∀ q ∈ F ++ (blk L).toList, q ∈ F ∨ W0.heap.size ≤ q := fun q hq => (List.mem_append.1 hq).elim .inl fun h => hnew q (by simpa [Option.mem_toList] using h)
  have hFK : ∀ q ∈ F ++ (blk L).toList ++ K, q ∈ F ++ K ∨ W0.heap.size ≤ q := fun q hq => (List.mem_append.1 hq).elim (fun h => (hF' q h).imp (fun e => List.mem_append.2 (.inl e)) id) fun h => .inl (List.mem_append.2 (.inr h))
  have hinc : ∀ q, q ∈ bkS { x with y := { x.y with L := L, cL := cL, P := x.y.P ++ [r] } } hb → q ∈ bkS x hb ∨ blk L = some q ∨ blk r.A = some q := fun q hq => by
    rcases bkS_K.1 hq with rfl | hm | hm | hm | hm | hm | hm
    · exact .inl (bkS_K.2 (.inl rfl))
    · rcases kxS_push hm with e1 | e1 | e1
      · exact .inr (.inl e1)
      · exact .inl (bkS_K.2 (.inr (.inl e1)))
      · exact .inr (.inr e1)
    · exact .inl (bkS_K.2 (.inr (.inr (.inl hm))))
    · exact .inl (bkS_K.2 (.inr (.inr (.inr (.inl hm)))))
    · exact .inl (bkS_K.2 (.inr (.inr (.inr (.inr (.inl hm))))))
    · exact .inl (bkS_K.2 (.inr (.inr (.inr (.inr (.inr (.inl hm)))))))
    · exact .inl (bkS_K.2 (.inr (.inr (.inr (.inr (.inr (.inr hm)))))))
  have V : Ws w3 base hb (F ++ (blk L).toList ++ K) x t := (T.W.more hFK).fx F0 (fun q hq => List.mem_append.2 (.inl (List.mem_append.2 (.inl (T.F1 q (hSb q hq)))))) fun q hq hm => T.W.ap q hm (hSb q hq)
  refine ⟨F ++ (blk L).toList, Fh.of F0 (fun q hq => ⟨T.F1 q (hSb q hq), (T.B.bks q (hSb q hq)).1⟩), fun q hq => List.mem_append.2 (.inl hq), hF', B3, ?_, fun q hq => ?_, fun q hq => List.mem_append.2 (.inl (T.F2 q hq)), fun q hq => ?_, ⟨T.Q.y, T.Q.i, T.Q.s, T.Q.f, T.Q.d, T.Q.m⟩, fun q hq hm => ?_⟩
  rotate_left
  · rcases hinc q hq with e | e | e
    · exact List.mem_append.2 (.inl (T.F1 q e))
    · exact List.mem_append.2 (.inr (by rw [e]; simp))
    · exact List.mem_append.2 (.inl (hrF q e))
  · rcases List.mem_append.1 hq with hq | e
    · rcases List.mem_append.1 hq with e | e
      · have := T.hi q (List.mem_append.2 (.inl e)); omega
      · have := (hl.lo q (by simpa [Option.mem_toList] using e)).2; omega
    · have := T.hi q (List.mem_append.2 (.inr e)); omega
  · have := T.hi q (List.mem_append.2 (.inr hq))
    rcases hF' q hm with e | e
    · exact T.dk q hq e
    · omega
  refine ⟨V.wf, V.wd, V.wi, V.pl, fun q hq hm => ?_, V.ip, V.nf, V.nd, V.np, V.f, V.d, V.p, V.fs, fun r0 hr0 y0 hy0 => List.mem_append.2 (.inl (V.ds r0 hr0 y0 hy0)), V.ps⟩
  · rcases hinc q hm with e | e | e
    · exact V.ap q hq e
    · rcases hk with e1 | e1
      · have hm := kxS_L (x := x.y) (e1.symm.trans e)
        exact V.ap q hq (bkS_K.2 (.inr (.inl hm)))
      · have := (T.W.lt hq).2
        rw [e] at e1; injection e1 with e1; omega
    · rcases hq with e2 | e2 | e2 | e2
      · exact (ho.ne T.W.wf (by decide)).elim (fun e3 => by rw [e] at e3; cases e3) fun e3 => e3 (e.trans e2.symm)
      · exact (ho.ne T.W.wd (by decide)).elim (fun e3 => by rw [e] at e3; cases e3) fun e3 => e3 (e.trans e2.symm)
      · exact (ho.ne T.W.wi (by decide)).elim (fun e3 => by rw [e] at e3; cases e3) fun e3 => e3 (e.trans e2.symm)
      · exact (ho.ne T.W.pl (by decide)).elim (fun e3 => by rw [e] at e3; cases e3) fun e3 => e3 (e.trans e2.symm)
theorem Tn.push_i (T : Tn W0 base hb F K x t) {r : RowX Int} (hb1 : Below W0.heap.size W0 W1) (ho : Owns W0 base 3 1 eInt r.A r.c r.l) (hrF : ∀ q, blk r.A = some q → q ∈ F) (hn : ∀ y ∈ x.i.P, ∀ q, blk y.A = some q → blk r.A ≠ some q) {L : Option Addr} {cL m : Nat} (hm : x.i.P.length + 1 = m) (hl : Owns W2 base 37 1 eTr L cL (x.i.P.map rowT ++ [rowT r])) (hg : W1.grownBy W2 (blk x.i.L)) (hk : blk L = blk x.i.L ∨ blk L = some W1.heap.size) (h3 : w3 = W2.setCell ⟨hb, 2, none⟩ (.slice L m cL)) :
    ∃ F', Fh hb F W0 w3 ∧ (∀ q ∈ F, q ∈ F') ∧ (∀ q ∈ F', q ∈ F ∨ W0.heap.size ≤ q) ∧ Tn w3 base hb F' K { x with i := { x.i with L := L, cL := cL, P := x.i.P ++ [r] } } t := by
  have hz := T.B.hz
  have z0 := T.B.z
  have z1 := hb1.size
  have z2 := hg.size
  have g3 : W2.grownBy w3 (some hb) := by rw [h3]; exact grown_cell _ _ _ _
  have z3 := g3.size
  have B3 := T.B.push_i rfl T.Q.i (R := [r]) (m := m) hb1 (fun r' hr' => by
    obtain rfl := List.mem_singleton.1 hr'
    exact ho.keep hb1 fun k hk => (ho.lo k hk).2) (fun r' hr' => by
    obtain rfl := List.mem_singleton.1 hr'
    exact hn) (sep_one _) hm hl hg hk
  rw [← h3] at B3
  have hSb : ∀ q ∈ hb :: (blk x.i.L).toList, q ∈ bkS x hb := fun q hq => by
    rcases List.mem_cons.1 hq with rfl | hq
    · exact bkS_K.2 (.inl rfl)
    · have hm := kxS_L (x := x.i) (by simpa [Option.mem_toList] using hq)
      exact bkS_K.2 (.inr (.inr (.inl hm)))
  have F0 : Fx (hb :: (blk x.i.L).toList) W0 w3 := ((Fx.below (S := hb :: (blk x.i.L).toList) hb1).trans (.grown (S := (blk x.i.L).toList) hg fun q hq => by rw [hq]; simp) fun q hq => .inl (List.mem_cons_of_mem _ hq)).trans (.grown (S := [hb]) g3 fun q hq => by injection hq with hq; subst hq; exact List.mem_singleton.2 rfl) fun q hq => .inl (by obtain rfl := List.mem_singleton.1 hq; exact List.mem_cons_self ..)
  have hnew : ∀ q, blk L = some q → q ∈ F ∨ W0.heap.size ≤ q := fun q hq => hk.elim (fun e => .inl (T.F1 q (hSb q (List.mem_cons_of_mem _ (by rw [← e, hq]; simp))))) fun e => .inr (by rw [hq] at e; injection e with e; omega)
  have hF' : ∀ q ∈ F ++ (blk L).toList, q ∈ F ∨ W0.heap.size ≤ q := fun q hq => (List.mem_append.1 hq).elim .inl fun h => hnew q (by simpa [Option.mem_toList] using h)
  have hFK : ∀ q ∈ F ++ (blk L).toList ++ K, q ∈ F ++ K ∨ W0.heap.size ≤ q := fun q hq => (List.mem_append.1 hq).elim (fun h => (hF' q h).imp (fun e => List.mem_append.2 (.inl e)) id) fun h => .inl (List.mem_append.2 (.inr h))
  have hinc : ∀ q, q ∈ bkS { x with i := { x.i with L := L, cL := cL, P := x.i.P ++ [r] } } hb → q ∈ bkS x hb ∨ blk L = some q ∨ blk r.A = some q := fun q hq => by
    rcases bkS_K.1 hq with rfl | hm | hm | hm | hm | hm | hm
    · exact .inl (bkS_K.2 (.inl rfl))
    · exact .inl (bkS_K.2 (.inr (.inl hm)))
    · rcases kxS_push hm with e1 | e1 | e1
      · exact .inr (.inl e1)
      · exact .inl (bkS_K.2 (.inr (.inr (.inl e1))))
      · exact .inr (.inr e1)
    · exact .inl (bkS_K.2 (.inr (.inr (.inr (.inl hm)))))
    · exact .inl (bkS_K.2 (.inr (.inr (.inr (.inr (.inl hm))))))
    · exact .inl (bkS_K.2 (.inr (.inr (.inr (.inr (.inr (.inl hm)))))))
    · exact .inl (bkS_K.2 (.inr (.inr (.inr (.inr (.inr (.inr hm)))))))
  have V : Ws w3 base hb (F ++ (blk L).toList ++ K) x t := (T.W.more hFK).fx F0 (fun q hq => List.mem_append.2 (.inl (List.mem_append.2 (.inl (T.F1 q (hSb q hq)))))) fun q hq hm => T.W.ap q hm (hSb q hq)
  refine ⟨F ++ (blk L).toList, Fh.of F0 (fun q hq => ⟨T.F1 q (hSb q hq), (T.B.bks q (hSb q hq)).1⟩), fun q hq => List.mem_append.2 (.inl hq), hF', B3, ?_, fun q hq => ?_, fun q hq => List.mem_append.2 (.inl (T.F2 q hq)), fun q hq => ?_, ⟨T.Q.y, T.Q.i, T.Q.s, T.Q.f, T.Q.d, T.Q.m⟩, fun q hq hm => ?_⟩
  rotate_left
  · rcases hinc q hq with e | e | e
    · exact List.mem_append.2 (.inl (T.F1 q e))
    · exact List.mem_append.2 (.inr (by rw [e]; simp))
    · exact List.mem_append.2 (.inl (hrF q e))
  · rcases List.mem_append.1 hq with hq | e
    · rcases List.mem_append.1 hq with e | e
      · have := T.hi q (List.mem_append.2 (.inl e)); omega
      · have := (hl.lo q (by simpa [Option.mem_toList] using e)).2; omega
    · have := T.hi q (List.mem_append.2 (.inr e)); omega
  · have := T.hi q (List.mem_append.2 (.inr hq))
    rcases hF' q hm with e | e
    · exact T.dk q hq e
    · omega
  refine ⟨V.wf, V.wd, V.wi, V.pl, fun q hq hm => ?_, V.ip, V.nf, V.nd, V.np, V.f, V.d, fun i s u h1 h2 => (V.p i s u h1 h2).imp fun r0 hr0 => ⟨List.mem_append.2 (.inl hr0.1), hr0.2⟩, fun r0 hr0 y0 hy0 => ⟨(V.fs r0 hr0 y0 hy0).1, List.mem_append.2 (.inl (V.fs r0 hr0 y0 hy0).2)⟩, V.ds, fun s hs => (V.ps s hs).imp fun r0 hr0 => ⟨List.mem_append.2 (.inl hr0.1), hr0.2⟩⟩
  · rcases hinc q hm with e | e | e
    · exact V.ap q hq e
    · rcases hk with e1 | e1
      · have hm := kxS_L (x := x.i) (e1.symm.trans e)
        exact V.ap q hq (bkS_K.2 (.inr (.inr (.inl hm))))
      · have := (T.W.lt hq).2
        rw [e] at e1; injection e1 with e1; omega
    · rcases hq with e2 | e2 | e2 | e2
      · exact (ho.ne T.W.wf (by decide)).elim (fun e3 => by rw [e] at e3; cases e3) fun e3 => e3 (e.trans e2.symm)
      · exact (ho.ne T.W.wd (by decide)).elim (fun e3 => by rw [e] at e3; cases e3) fun e3 => e3 (e.trans e2.symm)
      · exact (ho.ne T.W.wi (by decide)).elim (fun e3 => by rw [e] at e3; cases e3) fun e3 => e3 (e.trans e2.symm)
      · exact (ho.ne T.W.pl (by decide)).elim (fun e3 => by rw [e] at e3; cases e3) fun e3 => e3 (e.trans e2.symm)
theorem Tn.push_s (T : Tn W0 base hb F K x t) {r : RowX (Int × Int)} (hb1 : Below W0.heap.size W0 W1) (ho : Owns W0 base 66 2 eSlot r.A r.c r.l) (hrF : ∀ q, blk r.A = some q → q ∈ F) (hn : ∀ y ∈ x.s.P, ∀ q, blk y.A = some q → blk r.A ≠ some q) {L : Option Addr} {cL m : Nat} (hm : x.s.P.length + 1 = m) (hl : Owns W2 base 36 1 eTr L cL (x.s.P.map rowT ++ [rowT r])) (hg : W1.grownBy W2 (blk x.s.L)) (hk : blk L = blk x.s.L ∨ blk L = some W1.heap.size) (h3 : w3 = W2.setCell ⟨hb, 4, none⟩ (.slice L m cL)) :
    ∃ F', Fh hb F W0 w3 ∧ (∀ q ∈ F, q ∈ F') ∧ (∀ q ∈ F', q ∈ F ∨ W0.heap.size ≤ q) ∧ Tn w3 base hb F' K { x with s := { x.s with L := L, cL := cL, P := x.s.P ++ [r] } } t := by
  have hz := T.B.hz
  have z0 := T.B.z
  have z1 := hb1.size
  have z2 := hg.size
  have g3 : W2.grownBy w3 (some hb) := by rw [h3]; exact grown_cell _ _ _ _
  have z3 := g3.size
  have B3 := T.B.push_s rfl T.Q.s (R := [r]) (m := m) hb1 (fun r' hr' => by
    obtain rfl := List.mem_singleton.1 hr'
    exact ho.keep hb1 fun k hk => (ho.lo k hk).2) (fun r' hr' => by
    obtain rfl := List.mem_singleton.1 hr'
    exact hn) (sep_one _) hm hl hg hk
  rw [← h3] at B3
  have hSb : ∀ q ∈ hb :: (blk x.s.L).toList, q ∈ bkS x hb := fun q hq => by
    rcases List.mem_cons.1 hq with rfl | hq
    · exact bkS_K.2 (.inl rfl)
    · have hm := kxS_L (x := x.s) (by simpa [Option.mem_toList] using hq)
      exact bkS_K.2 (.inr (.inr (.inr (.inl hm))))
  have F0 : Fx (hb :: (blk x.s.L).toList) W0 w3 := ((Fx.below (S := hb :: (blk x.s.L).toList) hb1).trans (.grown (S := (blk x.s.L).toList) hg fun q hq => by rw [hq]; simp) fun q hq => .inl (List.mem_cons_of_mem _ hq)).trans (.grown (S := [hb]) g3 fun q hq => by injection hq with hq; subst hq; exact List.mem_singleton.2 rfl) fun q hq => .inl (by obtain rfl := List.mem_singleton.1 hq; exact List.mem_cons_self ..)
  have hnew : ∀ q, blk L = some q → q ∈ F ∨ W0.heap.size ≤ q := fun q hq => hk.elim (fun e => .inl (T.F1 q (hSb q (List.mem_cons_of_mem _ (by rw [← e, hq]; simp))))) fun e => .inr (by rw [hq] at e; injection e with e; omega)
  have hF' : ∀ q ∈ F ++ (blk L).toList, q ∈ F ∨ W0.heap.size ≤ q := fun q hq => (List.mem_append.1 hq).elim .inl fun h => hnew q (by simpa [Option.mem_toList] using h)
  have hFK : ∀ q ∈ F ++ (blk L).toList ++ K, q ∈ F ++ K ∨ W0.heap.size ≤ q := fun q hq => (List.mem_append.1 hq).elim (fun h => (hF' q h).imp (fun e => List.mem_append.2 (.inl e)) id) fun h => .inl (List.mem_append.2 (.inr h))
  have hinc : ∀ q, q ∈ bkS { x with s := { x.s with L := L, cL := cL, P := x.s.P ++ [r] } } hb → q ∈ bkS x hb ∨ blk L = some q ∨ blk r.A = some q := fun q hq => by
    rcases bkS_K.1 hq with rfl | hm | hm | hm | hm | hm | hm
    · exact .inl (bkS_K.2 (.inl rfl))
    · exact .inl (bkS_K.2 (.inr (.inl hm)))
    · exact .inl (bkS_K.2 (.inr (.inr (.inl hm))))
    · rcases kxS_push hm with e1 | e1 | e1
      · exact .inr (.inl e1)
      · exact .inl (bkS_K.2 (.inr (.inr (.inr (.inl e1)))))
      · exact .inr (.inr e1)
    · exact .inl (bkS_K.2 (.inr (.inr (.inr (.inr (.inl hm))))))
    · exact .inl (bkS_K.2 (.inr (.inr (.inr (.inr (.inr (.inl hm)))))))
    · exact .inl (bkS_K.2 (.inr (.inr (.inr (.inr (.inr (.inr hm)))))))
  have V : Ws w3 base hb (F ++ (blk L).toList ++ K) x t := (T.W.more hFK).fx F0 (fun q hq => List.mem_append.2 (.inl (List.mem_append.2 (.inl (T.F1 q (hSb q hq)))))) fun q hq hm => T.W.ap q hm (hSb q hq)
  refine ⟨F ++ (blk L).toList, Fh.of F0 (fun q hq => ⟨T.F1 q (hSb q hq), (T.B.bks q (hSb q hq)).1⟩), fun q hq => List.mem_append.2 (.inl hq), hF', B3, ?_, fun q hq => ?_, fun q hq => List.mem_append.2 (.inl (T.F2 q hq)), fun q hq => ?_, ⟨T.Q.y, T.Q.i, T.Q.s, T.Q.f, T.Q.d, T.Q.m⟩, fun q hq hm => ?_⟩
  rotate_left
  · rcases hinc q hq with e | e | e
    · exact List.mem_append.2 (.inl (T.F1 q e))
    · exact List.mem_append.2 (.inr (by rw [e]; simp))
    · exact List.mem_append.2 (.inl (hrF q e))
  · rcases List.mem_append.1 hq with hq | e
    · rcases List.mem_append.1 hq with e | e
      · have := T.hi q (List.mem_append.2 (.inl e)); omega
      · have := (hl.lo q (by simpa [Option.mem_toList] using e)).2; omega
    · have := T.hi q (List.mem_append.2 (.inr e)); omega
  · have := T.hi q (List.mem_append.2 (.inr hq))
    rcases hF' q hm with e | e
    · exact T.dk q hq e
    · omega
  refine ⟨V.wf, V.wd, V.wi, V.pl, fun q hq hm => ?_, V.ip, V.nf, V.nd, V.np, V.f, V.d, V.p, fun r0 hr0 y0 hy0 => ⟨List.mem_append.2 (.inl (V.fs r0 hr0 y0 hy0).1), (V.fs r0 hr0 y0 hy0).2⟩, V.ds, V.ps⟩
  · rcases hinc q hm with e | e | e
    · exact V.ap q hq e
    · rcases hk with e1 | e1
      · have hm := kxS_L (x := x.s) (e1.symm.trans e)
        exact V.ap q hq (bkS_K.2 (.inr (.inr (.inr (.inl hm)))))
      · have := (T.W.lt hq).2
        rw [e] at e1; injection e1 with e1; omega
    · rcases hq with e2 | e2 | e2 | e2
      · exact (ho.ne T.W.wf (by decide)).elim (fun e3 => by rw [e] at e3; cases e3) fun e3 => e3 (e.trans e2.symm)
      · exact (ho.ne T.W.wd (by decide)).elim (fun e3 => by rw [e] at e3; cases e3) fun e3 => e3 (e.trans e2.symm)
      · exact (ho.ne T.W.wi (by decide)).elim (fun e3 => by rw [e] at e3; cases e3) fun e3 => e3 (e.trans e2.symm)
      · exact (ho.ne T.W.pl (by decide)).elim (fun e3 => by rw [e] at e3; cases e3) fun e3 => e3 (e.trans e2.symm)
theorem Tn.push_f (T : Tn W0 base hb F K x t) {r : RowX Rw} (hfs : ∀ y ∈ r.l, slR y ∈ x.s.P ∧ inR y ∈ x.i.P) (hb1 : Below W0.heap.size W0 W1) (ho : Owns W0 base 39 7 eRw r.A r.c r.l) (hrF : ∀ q, blk r.A = some q → q ∈ F) (hn : ∀ y ∈ x.f.P, ∀ q, blk y.A = some q → blk r.A ≠ some q) {L : Option Addr} {cL m : Nat} (hm : x.f.P.length + 1 = m) (hl : Owns W2 base 22 1 eTr L cL (x.f.P.map rowT ++ [rowT r])) (hg : W1.grownBy W2 (blk x.f.L)) (hk : blk L = blk x.f.L ∨ blk L = some W1.heap.size) (h3 : w3 = W2.setCell ⟨hb, 6, none⟩ (.slice L m cL)) :
    ∃ F', Fh hb F W0 w3 ∧ (∀ q ∈ F, q ∈ F') ∧ (∀ q ∈ F', q ∈ F ∨ W0.heap.size ≤ q) ∧ Tn w3 base hb F' K { x with f := { x.f with L := L, cL := cL, P := x.f.P ++ [r] } } t := by
  have hz := T.B.hz
  have z0 := T.B.z
  have z1 := hb1.size
  have z2 := hg.size
  have g3 : W2.grownBy w3 (some hb) := by rw [h3]; exact grown_cell _ _ _ _
  have z3 := g3.size
  have B3 := T.B.push_f rfl T.Q.f (R := [r]) (m := m) hb1 (fun r' hr' => by
    obtain rfl := List.mem_singleton.1 hr'
    exact ho.keep hb1 fun k hk => (ho.lo k hk).2) (fun r' hr' => by
    obtain rfl := List.mem_singleton.1 hr'
    exact hn) (sep_one _) hm hl hg hk
  rw [← h3] at B3
  have hSb : ∀ q ∈ hb :: (blk x.f.L).toList, q ∈ bkS x hb := fun q hq => by
    rcases List.mem_cons.1 hq with rfl | hq
    · exact bkS_K.2 (.inl rfl)
    · have hm := kxS_L (x := x.f) (by simpa [Option.mem_toList] using hq)
      exact bkS_K.2 (.inr (.inr (.inr (.inr (.inl hm)))))
  have F0 : Fx (hb :: (blk x.f.L).toList) W0 w3 := ((Fx.below (S := hb :: (blk x.f.L).toList) hb1).trans (.grown (S := (blk x.f.L).toList) hg fun q hq => by rw [hq]; simp) fun q hq => .inl (List.mem_cons_of_mem _ hq)).trans (.grown (S := [hb]) g3 fun q hq => by injection hq with hq; subst hq; exact List.mem_singleton.2 rfl) fun q hq => .inl (by obtain rfl := List.mem_singleton.1 hq; exact List.mem_cons_self ..)
  have hnew : ∀ q, blk L = some q → q ∈ F ∨ W0.heap.size ≤ q := fun q hq => hk.elim (fun e => .inl (T.F1 q (hSb q (List.mem_cons_of_mem _ (by rw [← e, hq]; simp))))) fun e => .inr (by rw [hq] at e; injection e with e; omega)
  have hF' : ∀ q ∈ F ++ (blk L).toList, q ∈ F ∨ W0.heap.size ≤ q := fun q hq => (List.mem_append.1 hq).elim .inl fun h => hnew q (by simpa [Option.mem_toList] using h)
  have hFK : ∀ q ∈ F ++ (blk L).toList ++ K, q ∈ F ++ K ∨ W0.heap.size ≤ q := fun q hq => (List.mem_append.1 hq).elim (fun h => (hF' q h).imp (fun e => List.mem_append.2 (.inl e)) id) fun h => .inl (List.mem_append.2 (.inr h))
  have hinc : ∀ q, q ∈ bkS { x with f := { x.f with L := L, cL := cL, P := x.f.P ++ [r] } } hb → q ∈ bkS x hb ∨ blk L = some q ∨ blk r.A = some q := fun q hq => by
    rcases bkS_K.1 hq with rfl | hm | hm | hm | hm | hm | hm
    · exact .inl (bkS_K.2 (.inl rfl))
    · exact .inl (bkS_K.2 (.inr (.inl hm)))
    · exact .inl (bkS_K.2 (.inr (.inr (.inl hm))))
    · exact .inl (bkS_K.2 (.inr (.inr (.inr (.inl hm)))))
    · rcases kxS_push hm with e1 | e1 | e1
      · exact .inr (.inl e1)
      · exact .inl (bkS_K.2 (.inr (.inr (.inr (.inr (.inl e1))))))
      · exact .inr (.inr e1)
    · exact .inl (bkS_K.2 (.inr (.inr (.inr (.inr (.inr (.inl hm)))))))
    · exact .inl (bkS_K.2 (.inr (.inr (.inr (.inr (.inr (.inr hm)))))))
  have V : Ws w3 base hb (F ++ (blk L).toList ++ K) x t := (T.W.more hFK).fx F0 (fun q hq => List.mem_append.2 (.inl (List.mem_append.2 (.inl (T.F1 q (hSb q hq)))))) fun q hq hm => T.W.ap q hm (hSb q hq)
  refine ⟨F ++ (blk L).toList, Fh.of F0 (fun q hq => ⟨T.F1 q (hSb q hq), (T.B.bks q (hSb q hq)).1⟩), fun q hq => List.mem_append.2 (.inl hq), hF', B3, ?_, fun q hq => ?_, fun q hq => List.mem_append.2 (.inl (T.F2 q hq)), fun q hq => ?_, ⟨T.Q.y, T.Q.i, T.Q.s, T.Q.f, T.Q.d, T.Q.m⟩, fun q hq hm => ?_⟩
  rotate_left
  · rcases hinc q hq with e | e | e
    · exact List.mem_append.2 (.inl (T.F1 q e))
    · exact List.mem_append.2 (.inr (by rw [e]; simp))
    · exact List.mem_append.2 (.inl (hrF q e))
  · rcases List.mem_append.1 hq with hq | e
    · rcases List.mem_append.1 hq with e | e
      · have := T.hi q (List.mem_append.2 (.inl e)); omega
      · have := (hl.lo q (by simpa [Option.mem_toList] using e)).2; omega
    · have := T.hi q (List.mem_append.2 (.inr e)); omega
  · have := T.hi q (List.mem_append.2 (.inr hq))
    rcases hF' q hm with e | e
    · exact T.dk q hq e
    · omega
  refine ⟨V.wf, V.wd, V.wi, V.pl, fun q hq hm => ?_, V.ip, (by show _ ≤ (x.f.P ++ [r]).length; rw [List.length_append]; have := V.nf; omega), V.nd, V.np, fun i r0 u h1 h2 => V.f i r0 u (by
      have hl := (List.getElem?_eq_some_iff.1 h2).1
      have h1' : (x.f.P ++ [r])[i]? = some r0 := h1
      rwa [List.getElem?_append_left (by have := V.nf; omega)] at h1') h2, V.d, V.p, fun r0 hr0 y0 hy0 => ?_, V.ds, V.ps⟩
  · rcases hinc q hm with e | e | e
    · exact V.ap q hq e
    · rcases hk with e1 | e1
      · have hm := kxS_L (x := x.f) (e1.symm.trans e)
        exact V.ap q hq (bkS_K.2 (.inr (.inr (.inr (.inr (.inl hm))))))
      · have := (T.W.lt hq).2
        rw [e] at e1; injection e1 with e1; omega
    · rcases hq with e2 | e2 | e2 | e2
      · exact (ho.ne T.W.wf (by decide)).elim (fun e3 => by rw [e] at e3; cases e3) fun e3 => e3 (e.trans e2.symm)
      · exact (ho.ne T.W.wd (by decide)).elim (fun e3 => by rw [e] at e3; cases e3) fun e3 => e3 (e.trans e2.symm)
      · exact (ho.ne T.W.wi (by decide)).elim (fun e3 => by rw [e] at e3; cases e3) fun e3 => e3 (e.trans e2.symm)
      · exact (ho.ne T.W.pl (by decide)).elim (fun e3 => by rw [e] at e3; cases e3) fun e3 => e3 (e.trans e2.symm)
  · rcases List.mem_append.1 hr0 with h1 | h1
    · exact V.fs r0 h1 y0 hy0
    · obtain rfl := List.mem_singleton.1 h1; exact hfs y0 hy0
theorem Tn.push_d (T : Tn W0 base hb F K x t) {r : RowX Dr} (hds : ∀ y ∈ r.l, bodyR y ∈ x.y.P) (hb1 : Below W0.heap.size W0 W1) (ho : Owns W0 base 113 4 eDr r.A r.c r.l) (hrF : ∀ q, blk r.A = some q → q ∈ F) (hn : ∀ y ∈ x.d.P, ∀ q, blk y.A = some q → blk r.A ≠ some q) {L : Option Addr} {cL m : Nat} (hm : x.d.P.length + 1 = m) (hl : Owns W2 base 40 1 eTr L cL (x.d.P.map rowT ++ [rowT r])) (hg : W1.grownBy W2 (blk x.d.L)) (hk : blk L = blk x.d.L ∨ blk L = some W1.heap.size) (h3 : w3 = W2.setCell ⟨hb, 8, none⟩ (.slice L m cL)) :
    ∃ F', Fh hb F W0 w3 ∧ (∀ q ∈ F, q ∈ F') ∧ (∀ q ∈ F', q ∈ F ∨ W0.heap.size ≤ q) ∧ Tn w3 base hb F' K { x with d := { x.d with L := L, cL := cL, P := x.d.P ++ [r] } } t := by
  have hz := T.B.hz
  have z0 := T.B.z
  have z1 := hb1.size
  have z2 := hg.size
  have g3 : W2.grownBy w3 (some hb) := by rw [h3]; exact grown_cell _ _ _ _
  have z3 := g3.size
  have B3 := T.B.push_d rfl T.Q.d (R := [r]) (m := m) hb1 (fun r' hr' => by
    obtain rfl := List.mem_singleton.1 hr'
    exact ho.keep hb1 fun k hk => (ho.lo k hk).2) (fun r' hr' => by
    obtain rfl := List.mem_singleton.1 hr'
    exact hn) (sep_one _) hm hl hg hk
  rw [← h3] at B3
  have hSb : ∀ q ∈ hb :: (blk x.d.L).toList, q ∈ bkS x hb := fun q hq => by
    rcases List.mem_cons.1 hq with rfl | hq
    · exact bkS_K.2 (.inl rfl)
    · have hm := kxS_L (x := x.d) (by simpa [Option.mem_toList] using hq)
      exact bkS_K.2 (.inr (.inr (.inr (.inr (.inr (.inl hm))))))
  have F0 : Fx (hb :: (blk x.d.L).toList) W0 w3 := ((Fx.below (S := hb :: (blk x.d.L).toList) hb1).trans (.grown (S := (blk x.d.L).toList) hg fun q hq => by rw [hq]; simp) fun q hq => .inl (List.mem_cons_of_mem _ hq)).trans (.grown (S := [hb]) g3 fun q hq => by injection hq with hq; subst hq; exact List.mem_singleton.2 rfl) fun q hq => .inl (by obtain rfl := List.mem_singleton.1 hq; exact List.mem_cons_self ..)
  have hnew : ∀ q, blk L = some q → q ∈ F ∨ W0.heap.size ≤ q := fun q hq => hk.elim (fun e => .inl (T.F1 q (hSb q (List.mem_cons_of_mem _ (by rw [← e, hq]; simp))))) fun e => .inr (by rw [hq] at e; injection e with e; omega)
  have hF' : ∀ q ∈ F ++ (blk L).toList, q ∈ F ∨ W0.heap.size ≤ q := fun q hq => (List.mem_append.1 hq).elim .inl fun h => hnew q (by simpa [Option.mem_toList] using h)
  have hFK : ∀ q ∈ F ++ (blk L).toList ++ K, q ∈ F ++ K ∨ W0.heap.size ≤ q := fun q hq => (List.mem_append.1 hq).elim (fun h => (hF' q h).imp (fun e => List.mem_append.2 (.inl e)) id) fun h => .inl (List.mem_append.2 (.inr h))
  have hinc : ∀ q, q ∈ bkS { x with d := { x.d with L := L, cL := cL, P := x.d.P ++ [r] } } hb → q ∈ bkS x hb ∨ blk L = some q ∨ blk r.A = some q := fun q hq => by
    rcases bkS_K.1 hq with rfl | hm | hm | hm | hm | hm | hm
    · exact .inl (bkS_K.2 (.inl rfl))
    · exact .inl (bkS_K.2 (.inr (.inl hm)))
    · exact .inl (bkS_K.2 (.inr (.inr (.inl hm))))
    · exact .inl (bkS_K.2 (.inr (.inr (.inr (.inl hm)))))
    · exact .inl (bkS_K.2 (.inr (.inr (.inr (.inr (.inl hm))))))
    · rcases kxS_push hm with e1 | e1 | e1
      · exact .inr (.inl e1)
      · exact .inl (bkS_K.2 (.inr (.inr (.inr (.inr (.inr (.inl e1)))))))
      · exact .inr (.inr e1)
    · exact .inl (bkS_K.2 (.inr (.inr (.inr (.inr (.inr (.inr hm)))))))
  have V : Ws w3 base hb (F ++ (blk L).toList ++ K) x t := (T.W.more hFK).fx F0 (fun q hq => List.mem_append.2 (.inl (List.mem_append.2 (.inl (T.F1 q (hSb q hq)))))) fun q hq hm => T.W.ap q hm (hSb q hq)
  refine ⟨F ++ (blk L).toList, Fh.of F0 (fun q hq => ⟨T.F1 q (hSb q hq), (T.B.bks q (hSb q hq)).1⟩), fun q hq => List.mem_append.2 (.inl hq), hF', B3, ?_, fun q hq => ?_, fun q hq => List.mem_append.2 (.inl (T.F2 q hq)), fun q hq => ?_, ⟨T.Q.y, T.Q.i, T.Q.s, T.Q.f, T.Q.d, T.Q.m⟩, fun q hq hm => ?_⟩
  rotate_left
  · rcases hinc q hq with e | e | e
    · exact List.mem_append.2 (.inl (T.F1 q e))
    · exact List.mem_append.2 (.inr (by rw [e]; simp))
    · exact List.mem_append.2 (.inl (hrF q e))
  · rcases List.mem_append.1 hq with hq | e
    · rcases List.mem_append.1 hq with e | e
      · have := T.hi q (List.mem_append.2 (.inl e)); omega
      · have := (hl.lo q (by simpa [Option.mem_toList] using e)).2; omega
    · have := T.hi q (List.mem_append.2 (.inr e)); omega
  · have := T.hi q (List.mem_append.2 (.inr hq))
    rcases hF' q hm with e | e
    · exact T.dk q hq e
    · omega
  refine ⟨V.wf, V.wd, V.wi, V.pl, fun q hq hm => ?_, V.ip, V.nf, (by show _ ≤ (x.d.P ++ [r]).length; rw [List.length_append]; have := V.nd; omega), V.np, V.f, fun i r0 u h1 h2 => V.d i r0 u (by
      have hl := (List.getElem?_eq_some_iff.1 h2).1
      have h1' : (x.d.P ++ [r])[i]? = some r0 := h1
      rwa [List.getElem?_append_left (by have := V.nd; omega)] at h1') h2, V.p, V.fs, fun r0 hr0 y0 hy0 => ?_, V.ps⟩
  · rcases hinc q hm with e | e | e
    · exact V.ap q hq e
    · rcases hk with e1 | e1
      · have hm := kxS_L (x := x.d) (e1.symm.trans e)
        exact V.ap q hq (bkS_K.2 (.inr (.inr (.inr (.inr (.inr (.inl hm)))))))
      · have := (T.W.lt hq).2
        rw [e] at e1; injection e1 with e1; omega
    · rcases hq with e2 | e2 | e2 | e2
      · exact (ho.ne T.W.wf (by decide)).elim (fun e3 => by rw [e] at e3; cases e3) fun e3 => e3 (e.trans e2.symm)
      · exact (ho.ne T.W.wd (by decide)).elim (fun e3 => by rw [e] at e3; cases e3) fun e3 => e3 (e.trans e2.symm)
      · exact (ho.ne T.W.wi (by decide)).elim (fun e3 => by rw [e] at e3; cases e3) fun e3 => e3 (e.trans e2.symm)
      · exact (ho.ne T.W.pl (by decide)).elim (fun e3 => by rw [e] at e3; cases e3) fun e3 => e3 (e.trans e2.symm)
  · rcases List.mem_append.1 hr0 with h1 | h1
    · exact V.ds r0 h1 y0 hy0
    · obtain rfl := List.mem_singleton.1 h1; exact hds y0 hy0
theorem Tn.put_WF (T : Tn W0 base hb F K x t) {u : Tri} {r : RowX Rw} {ws : List Rw} (hr : x.f.P[t.fw.length]? = some r) (hw : WasF W0 (F ++ K) u.1 ws) (he : ws.map Rw.f = r.l.map Rw.f) (hu : u.2.1 = ws.length) (hb1 : Below W0.heap.size W0 W1) {L : Option Addr} {cL m : Nat} (hm : t.fw.length + 1 = m) (hl : Owns W2 base 22 1 eTr L cL (t.fw ++ [u])) (hg : W1.grownBy W2 (blk t.WF)) (hk : blk L = blk t.WF ∨ blk L = some W1.heap.size) (h3 : w3 = W2.setCell ⟨hb, 12, none⟩ (.slice L m cL)) :
    ∃ F', Fh hb F W0 w3 ∧ (∀ q ∈ F, q ∈ F') ∧ (∀ q ∈ F', q ∈ F ∨ W0.heap.size ≤ q) ∧ Tn w3 base hb F' K x { t with WF := L, cWF := cL, fw := t.fw ++ [u] } := by
  have hz := T.B.hz
  have z0 := T.B.z
  have z1 := hb1.size
  have z2 := hg.size
  have g3 : W2.grownBy w3 (some hb) := by rw [h3]; exact grown_cell _ _ _ _
  have z3 := g3.size
  have F2 : Fx (blk t.WF).toList W0 W2 := (Fx.below (S := (blk t.WF).toList) hb1).trans (.grown (S := (blk t.WF).toList) hg fun q hq => by rw [hq]; simp) fun q hq => .inl hq
  have F0 : Fx (hb :: (blk t.WF).toList) W0 w3 := (F2.more fun q hq => List.mem_cons_of_mem _ hq).trans (.grown (S := [hb]) g3 fun q hq => by injection hq with hq; subst hq; exact List.mem_singleton.2 rfl) fun q hq => .inl (by obtain rfl := List.mem_singleton.1 hq; exact List.mem_cons_self ..)
  have hS2 : ∀ q ∈ (blk t.WF).toList, q ∉ bkS x hb := fun q hq => T.W.ap q (by have hq : blk t.WF = some q := (by simpa [Option.mem_toList] using hq); exact .inl hq)
  have B2 := T.B.fx T.Q F2 hS2
  have B3 : Bo w3 base hb x (wxO { t with WF := L, cWF := cL, fw := t.fw ++ [u] }) := by
    have hz' : ∀ {α : Type} {tl e sz : Nat} {enc : α → List Value} {zs : Nat → List α} {y : KX α}, Kb W2 base tl e sz enc zs y → Kb w3 base tl e sz enc zs y := fun h => h.cell g3 hz
    refine ⟨hz' B2.y, hz' B2.i, hz' B2.s, hz' B2.f, hz' B2.d, hz' B2.m, ?_, by rw [h3]; exact there_set B2.t _ _, hz, by omega⟩
    have := rng_put (o := 12) (vs := [.slice L m cL]) B2.r B2.t (by simp [kxC, wxO]) (by simp)
    rw [h3]
    unfold kxC wxO at this ⊢
    dsimp only
    rw [List.length_append (bs := [u]), show t.fw.length + [u].length = m from hm]
    exact this
  have hl3 : Owns w3 base 22 1 eTr L cL (t.fw ++ [u]) := hl.same fun q hq => g3.block q (hl.lo q hq).2 fun e => by injection e with e; have := (hl.lo q hq).1; omega
  have hnew : ∀ q, blk L = some q → q ∈ F ∨ W0.heap.size ≤ q := fun q hq => hk.elim (fun e => .inl (T.F2 q (by have hq : blk t.WF = some q := e.symm.trans hq; exact .inl hq))) fun e => .inr (by rw [hq] at e; injection e with e; omega)
  have hF' : ∀ q ∈ F ++ (blk L).toList, q ∈ F ∨ W0.heap.size ≤ q := fun q hq => (List.mem_append.1 hq).elim .inl fun h => hnew q (by simpa [Option.mem_toList] using h)
  have hFK : ∀ q ∈ F ++ (blk L).toList ++ K, q ∈ F ++ K ∨ W0.heap.size ≤ q := fun q hq => (List.mem_append.1 hq).elim (fun h => (hF' q h).imp (fun e => List.mem_append.2 (.inl e)) id) fun h => .inl (List.mem_append.2 (.inr h))
  have HF : ∀ q ∈ hb :: (blk t.WF).toList, q ∈ F ++ (blk L).toList ++ K := fun q hq => List.mem_append.2 (.inl (List.mem_append.2 (.inl ((List.mem_cons.1 hq).elim (fun e => by rw [e]; exact T.F1 hb (bkS_K.2 (.inl rfl))) fun h => T.F2 q (by have hq : blk t.WF = some q := (by simpa [Option.mem_toList] using h); exact .inl hq)))))
  refine ⟨F ++ (blk L).toList, Fh.of F0 (fun q hq => (List.mem_cons.1 hq).elim (fun e => by rw [e]; exact ⟨T.F1 hb (bkS_K.2 (.inl rfl)), Nat.le_refl _⟩) fun h => ?_), fun q hq => List.mem_append.2 (.inl hq), hF', B3, ?_, fun q hq => List.mem_append.2 (.inl (T.F1 q hq)), fun q hq => ?_, fun q hq => ?_, T.Q, fun q hq hm => ?_⟩
  · have hq : blk t.WF = some q := by simpa [Option.mem_toList] using h
    exact ⟨T.F2 q (.inl hq), by have := (T.W.wf.lo q hq).1; omega⟩
  rotate_left
  · rcases hq with e | e | e | e
    · exact List.mem_append.2 (.inr (by rw [show blk L = some q from e]; simp))
    · exact List.mem_append.2 (.inl (T.F2 q (.inr (.inl e))))
    · exact List.mem_append.2 (.inl (T.F2 q (.inr (.inr (.inl e)))))
    · exact List.mem_append.2 (.inl (T.F2 q (.inr (.inr (.inr e)))))
  · rcases List.mem_append.1 hq with hq | e
    · rcases List.mem_append.1 hq with e | e
      · have := T.hi q (List.mem_append.2 (.inl e)); omega
      · have := (hl.lo q (by simpa [Option.mem_toList] using e)).2; omega
    · have := T.hi q (List.mem_append.2 (.inr e)); omega
  · have := T.hi q (List.mem_append.2 (.inr hq))
    rcases hF' q hm with e | e
    · exact T.dk q hq e
    · omega
  refine ⟨hl3, T.W.wd.fx F0 (fun q hq hm => (List.mem_cons.1 hm).elim (fun e1 => by have := (T.W.wd.lo q hq).1; omega) fun hm => (T.W.wd.ne T.W.wf (by decide)).elim (fun e1 => by rw [hq] at e1; cases e1) fun e1 => e1 (hq.trans (by simpa [Option.mem_toList] using hm : blk t.WF = some q).symm)), T.W.wi.fx F0 (fun q hq hm => (List.mem_cons.1 hm).elim (fun e1 => by have := (T.W.wi.lo q hq).1; omega) fun hm => (T.W.wi.ne T.W.wf (by decide)).elim (fun e1 => by rw [hq] at e1; cases e1) fun e1 => e1 (hq.trans (by simpa [Option.mem_toList] using hm : blk t.WF = some q).symm)), T.W.pl.fx F0 (fun q hq hm => (List.mem_cons.1 hm).elim (fun e1 => by have := (T.W.pl.lo q hq).1; omega) fun hm => (T.W.pl.ne T.W.wf (by decide)).elim (fun e1 => by rw [hq] at e1; cases e1) fun e1 => e1 (hq.trans (by simpa [Option.mem_toList] using hm : blk t.WF = some q).symm)), fun q hq hm => ?_, T.W.ip, (by show (t.fw ++ [u]).length ≤ _; rw [List.length_append]; exact (List.getElem?_eq_some_iff.1 hr).1), T.W.nd, T.W.np, fun i r0 u0 h1 h2 => ?_, fun i r0 u0 h1 h2 => (T.W.d i r0 u0 h1 h2).imp fun ws0 hw0 => ⟨(hw0.1.more hFK).fx F0 HF, hw0.2⟩, fun i s0 u0 h1 h2 => (T.W.p i s0 u0 h1 h2).imp fun r0 hr0 => ⟨hr0.1, hr0.2.1, (hr0.2.2.1.more hFK).fx F0 HF, hr0.2.2.2⟩, T.W.fs, T.W.ds, T.W.ps⟩
  · rcases hq with e | e | e | e
    · rcases hk with e1 | e1
      · exact T.W.ap q (.inl (e1.symm.trans e)) hm
      · have := (T.B.bks q hm).2
        rw [show blk L = some q from e] at e1; injection e1 with e1; omega
    · exact T.W.ap q (.inr (.inl e)) hm
    · exact T.W.ap q (.inr (.inr (.inl e))) hm
    · exact T.W.ap q (.inr (.inr (.inr e))) hm
  · have hi := (List.getElem?_eq_some_iff.1 h2).1
    have h2' : (t.fw ++ [u])[i]? = some u0 := h2
    by_cases e : i < t.fw.length
    · rw [List.getElem?_append_left e] at h2'
      exact (T.W.f i r0 u0 h1 h2').imp fun ws0 hw0 => ⟨(hw0.1.more hFK).fx F0 HF, hw0.2⟩
    · have hil : i < (t.fw ++ [u]).length := hi
      rw [List.length_append] at hil
      have hie : i = t.fw.length := by simp at hil; omega
      subst hie
      rw [List.getElem?_append_right (Nat.le_refl _), Nat.sub_self] at h2'
      injection h2' with h2'; subst h2'
      rw [hr] at h1; injection h1 with h1; subst h1
      exact ⟨ws, (hw.more hFK).fx F0 HF, he, hu⟩
theorem Tn.put_WD (T : Tn W0 base hb F K x t) {u : Tri} {r : RowX Dr} {ws : List Dr} (hr : x.d.P[t.dw.length]? = some r) (hw : WasD W0 (F ++ K) u.1 ws) (he : ws.map Dr.d = r.l.map Dr.d) (hu : u.2.1 = ws.length) (hb1 : Below W0.heap.size W0 W1) {L : Option Addr} {cL m : Nat} (hm : t.dw.length + 1 = m) (hl : Owns W2 base 40 1 eTr L cL (t.dw ++ [u])) (hg : W1.grownBy W2 (blk t.WD)) (hk : blk L = blk t.WD ∨ blk L = some W1.heap.size) (h3 : w3 = W2.setCell ⟨hb, 13, none⟩ (.slice L m cL)) :
    ∃ F', Fh hb F W0 w3 ∧ (∀ q ∈ F, q ∈ F') ∧ (∀ q ∈ F', q ∈ F ∨ W0.heap.size ≤ q) ∧ Tn w3 base hb F' K x { t with WD := L, cWD := cL, dw := t.dw ++ [u] } := by
  have hz := T.B.hz
  have z0 := T.B.z
  have z1 := hb1.size
  have z2 := hg.size
  have g3 : W2.grownBy w3 (some hb) := by rw [h3]; exact grown_cell _ _ _ _
  have z3 := g3.size
  have F2 : Fx (blk t.WD).toList W0 W2 := (Fx.below (S := (blk t.WD).toList) hb1).trans (.grown (S := (blk t.WD).toList) hg fun q hq => by rw [hq]; simp) fun q hq => .inl hq
  have F0 : Fx (hb :: (blk t.WD).toList) W0 w3 := (F2.more fun q hq => List.mem_cons_of_mem _ hq).trans (.grown (S := [hb]) g3 fun q hq => by injection hq with hq; subst hq; exact List.mem_singleton.2 rfl) fun q hq => .inl (by obtain rfl := List.mem_singleton.1 hq; exact List.mem_cons_self ..)
  have hS2 : ∀ q ∈ (blk t.WD).toList, q ∉ bkS x hb := fun q hq => T.W.ap q (by have hq : blk t.WD = some q := (by simpa [Option.mem_toList] using hq); exact .inr (.inl hq))
  have B2 := T.B.fx T.Q F2 hS2
  have B3 : Bo w3 base hb x (wxO { t with WD := L, cWD := cL, dw := t.dw ++ [u] }) := by
    have hz' : ∀ {α : Type} {tl e sz : Nat} {enc : α → List Value} {zs : Nat → List α} {y : KX α}, Kb W2 base tl e sz enc zs y → Kb w3 base tl e sz enc zs y := fun h => h.cell g3 hz
    refine ⟨hz' B2.y, hz' B2.i, hz' B2.s, hz' B2.f, hz' B2.d, hz' B2.m, ?_, by rw [h3]; exact there_set B2.t _ _, hz, by omega⟩
    have := rng_put (o := 13) (vs := [.slice L m cL]) B2.r B2.t (by simp [kxC, wxO]) (by simp)
    rw [h3]
    unfold kxC wxO at this ⊢
    dsimp only
    rw [List.length_append (bs := [u]), show t.dw.length + [u].length = m from hm]
    exact this
  have hl3 : Owns w3 base 40 1 eTr L cL (t.dw ++ [u]) := hl.same fun q hq => g3.block q (hl.lo q hq).2 fun e => by injection e with e; have := (hl.lo q hq).1; omega
  have hnew : ∀ q, blk L = some q → q ∈ F ∨ W0.heap.size ≤ q := fun q hq => hk.elim (fun e => .inl (T.F2 q (by have hq : blk t.WD = some q := e.symm.trans hq; exact .inr (.inl hq)))) fun e => .inr (by rw [hq] at e; injection e with e; omega)
  have hF' : ∀ q ∈ F ++ (blk L).toList, q ∈ F ∨ W0.heap.size ≤ q := fun q hq => (List.mem_append.1 hq).elim .inl fun h => hnew q (by simpa [Option.mem_toList] using h)
  have hFK : ∀ q ∈ F ++ (blk L).toList ++ K, q ∈ F ++ K ∨ W0.heap.size ≤ q := fun q hq => (List.mem_append.1 hq).elim (fun h => (hF' q h).imp (fun e => List.mem_append.2 (.inl e)) id) fun h => .inl (List.mem_append.2 (.inr h))
  have HF : ∀ q ∈ hb :: (blk t.WD).toList, q ∈ F ++ (blk L).toList ++ K := fun q hq => List.mem_append.2 (.inl (List.mem_append.2 (.inl ((List.mem_cons.1 hq).elim (fun e => by rw [e]; exact T.F1 hb (bkS_K.2 (.inl rfl))) fun h => T.F2 q (by have hq : blk t.WD = some q := (by simpa [Option.mem_toList] using h); exact .inr (.inl hq))))))
  refine ⟨F ++ (blk L).toList, Fh.of F0 (fun q hq => (List.mem_cons.1 hq).elim (fun e => by rw [e]; exact ⟨T.F1 hb (bkS_K.2 (.inl rfl)), Nat.le_refl _⟩) fun h => ?_), fun q hq => List.mem_append.2 (.inl hq), hF', B3, ?_, fun q hq => List.mem_append.2 (.inl (T.F1 q hq)), fun q hq => ?_, fun q hq => ?_, T.Q, fun q hq hm => ?_⟩
  · have hq : blk t.WD = some q := by simpa [Option.mem_toList] using h
    exact ⟨T.F2 q (.inr (.inl hq)), by have := (T.W.wd.lo q hq).1; omega⟩
  rotate_left
  · rcases hq with e | e | e | e
    · exact List.mem_append.2 (.inl (T.F2 q (.inl e)))
    · exact List.mem_append.2 (.inr (by rw [show blk L = some q from e]; simp))
    · exact List.mem_append.2 (.inl (T.F2 q (.inr (.inr (.inl e)))))
    · exact List.mem_append.2 (.inl (T.F2 q (.inr (.inr (.inr e)))))
  · rcases List.mem_append.1 hq with hq | e
    · rcases List.mem_append.1 hq with e | e
      · have := T.hi q (List.mem_append.2 (.inl e)); omega
      · have := (hl.lo q (by simpa [Option.mem_toList] using e)).2; omega
    · have := T.hi q (List.mem_append.2 (.inr e)); omega
  · have := T.hi q (List.mem_append.2 (.inr hq))
    rcases hF' q hm with e | e
    · exact T.dk q hq e
    · omega
  refine ⟨T.W.wf.fx F0 (fun q hq hm => (List.mem_cons.1 hm).elim (fun e1 => by have := (T.W.wf.lo q hq).1; omega) fun hm => (T.W.wf.ne T.W.wd (by decide)).elim (fun e1 => by rw [hq] at e1; cases e1) fun e1 => e1 (hq.trans (by simpa [Option.mem_toList] using hm : blk t.WD = some q).symm)), hl3, T.W.wi.fx F0 (fun q hq hm => (List.mem_cons.1 hm).elim (fun e1 => by have := (T.W.wi.lo q hq).1; omega) fun hm => (T.W.wi.ne T.W.wd (by decide)).elim (fun e1 => by rw [hq] at e1; cases e1) fun e1 => e1 (hq.trans (by simpa [Option.mem_toList] using hm : blk t.WD = some q).symm)), T.W.pl.fx F0 (fun q hq hm => (List.mem_cons.1 hm).elim (fun e1 => by have := (T.W.pl.lo q hq).1; omega) fun hm => (T.W.pl.ne T.W.wd (by decide)).elim (fun e1 => by rw [hq] at e1; cases e1) fun e1 => e1 (hq.trans (by simpa [Option.mem_toList] using hm : blk t.WD = some q).symm)), fun q hq hm => ?_, T.W.ip, T.W.nf, (by show (t.dw ++ [u]).length ≤ _; rw [List.length_append]; exact (List.getElem?_eq_some_iff.1 hr).1), T.W.np, fun i r0 u0 h1 h2 => (T.W.f i r0 u0 h1 h2).imp fun ws0 hw0 => ⟨(hw0.1.more hFK).fx F0 HF, hw0.2⟩, fun i r0 u0 h1 h2 => ?_, fun i s0 u0 h1 h2 => (T.W.p i s0 u0 h1 h2).imp fun r0 hr0 => ⟨hr0.1, hr0.2.1, (hr0.2.2.1.more hFK).fx F0 HF, hr0.2.2.2⟩, T.W.fs, T.W.ds, T.W.ps⟩
  · rcases hq with e | e | e | e
    · exact T.W.ap q (.inl e) hm
    · rcases hk with e1 | e1
      · exact T.W.ap q (.inr (.inl (e1.symm.trans e))) hm
      · have := (T.B.bks q hm).2
        rw [show blk L = some q from e] at e1; injection e1 with e1; omega
    · exact T.W.ap q (.inr (.inr (.inl e))) hm
    · exact T.W.ap q (.inr (.inr (.inr e))) hm
  · have hi := (List.getElem?_eq_some_iff.1 h2).1
    have h2' : (t.dw ++ [u])[i]? = some u0 := h2
    by_cases e : i < t.dw.length
    · rw [List.getElem?_append_left e] at h2'
      exact (T.W.d i r0 u0 h1 h2').imp fun ws0 hw0 => ⟨(hw0.1.more hFK).fx F0 HF, hw0.2⟩
    · have hil : i < (t.dw ++ [u]).length := hi
      rw [List.length_append] at hil
      have hie : i = t.dw.length := by simp at hil; omega
      subst hie
      rw [List.getElem?_append_right (Nat.le_refl _), Nat.sub_self] at h2'
      injection h2' with h2'; subst h2'
      rw [hr] at h1; injection h1 with h1; subst h1
      exact ⟨ws, (hw.more hFK).fx F0 HF, he, hu⟩
theorem Tn.put_WI (T : Tn W0 base hb F K x t) {u : Tri} {r : RowX Int} (hr : t.pt[t.pw.length]? = some (rowT r)) (hri : r ∈ x.i.P) (hw : RowF W0 (F ++ K) 1 eInt u.1 r.l) (hu : u.2.1 = r.l.length) (hb1 : Below W0.heap.size W0 W1) {L : Option Addr} {cL m : Nat} (hm : t.pw.length + 1 = m) (hl : Owns W2 base 37 1 eTr L cL (t.pw ++ [u])) (hg : W1.grownBy W2 (blk t.WI)) (hk : blk L = blk t.WI ∨ blk L = some W1.heap.size) (h3 : w3 = W2.setCell ⟨hb, 14, none⟩ (.slice L m cL)) :
    ∃ F', Fh hb F W0 w3 ∧ (∀ q ∈ F, q ∈ F') ∧ (∀ q ∈ F', q ∈ F ∨ W0.heap.size ≤ q) ∧ Tn w3 base hb F' K x { t with WI := L, cWI := cL, pw := t.pw ++ [u] } := by
  have hz := T.B.hz
  have z0 := T.B.z
  have z1 := hb1.size
  have z2 := hg.size
  have g3 : W2.grownBy w3 (some hb) := by rw [h3]; exact grown_cell _ _ _ _
  have z3 := g3.size
  have F2 : Fx (blk t.WI).toList W0 W2 := (Fx.below (S := (blk t.WI).toList) hb1).trans (.grown (S := (blk t.WI).toList) hg fun q hq => by rw [hq]; simp) fun q hq => .inl hq
  have F0 : Fx (hb :: (blk t.WI).toList) W0 w3 := (F2.more fun q hq => List.mem_cons_of_mem _ hq).trans (.grown (S := [hb]) g3 fun q hq => by injection hq with hq; subst hq; exact List.mem_singleton.2 rfl) fun q hq => .inl (by obtain rfl := List.mem_singleton.1 hq; exact List.mem_cons_self ..)
  have hS2 : ∀ q ∈ (blk t.WI).toList, q ∉ bkS x hb := fun q hq => T.W.ap q (by have hq : blk t.WI = some q := (by simpa [Option.mem_toList] using hq); exact .inr (.inr (.inl hq)))
  have B2 := T.B.fx T.Q F2 hS2
  have B3 : Bo w3 base hb x (wxO { t with WI := L, cWI := cL, pw := t.pw ++ [u] }) := by
    have hz' : ∀ {α : Type} {tl e sz : Nat} {enc : α → List Value} {zs : Nat → List α} {y : KX α}, Kb W2 base tl e sz enc zs y → Kb w3 base tl e sz enc zs y := fun h => h.cell g3 hz
    refine ⟨hz' B2.y, hz' B2.i, hz' B2.s, hz' B2.f, hz' B2.d, hz' B2.m, ?_, by rw [h3]; exact there_set B2.t _ _, hz, by omega⟩
    have := rng_put (o := 14) (vs := [.slice L m cL]) B2.r B2.t (by simp [kxC, wxO]) (by simp)
    rw [h3]
    unfold kxC wxO at this ⊢
    dsimp only
    rw [List.length_append (bs := [u]), show t.pw.length + [u].length = m from hm]
    exact this
  have hl3 : Owns w3 base 37 1 eTr L cL (t.pw ++ [u]) := hl.same fun q hq => g3.block q (hl.lo q hq).2 fun e => by injection e with e; have := (hl.lo q hq).1; omega
  have hnew : ∀ q, blk L = some q → q ∈ F ∨ W0.heap.size ≤ q := fun q hq => hk.elim (fun e => .inl (T.F2 q (by have hq : blk t.WI = some q := e.symm.trans hq; exact .inr (.inr (.inl hq))))) fun e => .inr (by rw [hq] at e; injection e with e; omega)
  have hF' : ∀ q ∈ F ++ (blk L).toList, q ∈ F ∨ W0.heap.size ≤ q := fun q hq => (List.mem_append.1 hq).elim .inl fun h => hnew q (by simpa [Option.mem_toList] using h)
  have hFK : ∀ q ∈ F ++ (blk L).toList ++ K, q ∈ F ++ K ∨ W0.heap.size ≤ q := fun q hq => (List.mem_append.1 hq).elim (fun h => (hF' q h).imp (fun e => List.mem_append.2 (.inl e)) id) fun h => .inl (List.mem_append.2 (.inr h))
  have HF : ∀ q ∈ hb :: (blk t.WI).toList, q ∈ F ++ (blk L).toList ++ K := fun q hq => List.mem_append.2 (.inl (List.mem_append.2 (.inl ((List.mem_cons.1 hq).elim (fun e => by rw [e]; exact T.F1 hb (bkS_K.2 (.inl rfl))) fun h => T.F2 q (by have hq : blk t.WI = some q := (by simpa [Option.mem_toList] using h); exact .inr (.inr (.inl hq)))))))
  refine ⟨F ++ (blk L).toList, Fh.of F0 (fun q hq => (List.mem_cons.1 hq).elim (fun e => by rw [e]; exact ⟨T.F1 hb (bkS_K.2 (.inl rfl)), Nat.le_refl _⟩) fun h => ?_), fun q hq => List.mem_append.2 (.inl hq), hF', B3, ?_, fun q hq => List.mem_append.2 (.inl (T.F1 q hq)), fun q hq => ?_, fun q hq => ?_, T.Q, fun q hq hm => ?_⟩
  · have hq : blk t.WI = some q := by simpa [Option.mem_toList] using h
    exact ⟨T.F2 q (.inr (.inr (.inl hq))), by have := (T.W.wi.lo q hq).1; omega⟩
  rotate_left
  · rcases hq with e | e | e | e
    · exact List.mem_append.2 (.inl (T.F2 q (.inl e)))
    · exact List.mem_append.2 (.inl (T.F2 q (.inr (.inl e))))
    · exact List.mem_append.2 (.inr (by rw [show blk L = some q from e]; simp))
    · exact List.mem_append.2 (.inl (T.F2 q (.inr (.inr (.inr e)))))
  · rcases List.mem_append.1 hq with hq | e
    · rcases List.mem_append.1 hq with e | e
      · have := T.hi q (List.mem_append.2 (.inl e)); omega
      · have := (hl.lo q (by simpa [Option.mem_toList] using e)).2; omega
    · have := T.hi q (List.mem_append.2 (.inr e)); omega
  · have := T.hi q (List.mem_append.2 (.inr hq))
    rcases hF' q hm with e | e
    · exact T.dk q hq e
    · omega
  refine ⟨T.W.wf.fx F0 (fun q hq hm => (List.mem_cons.1 hm).elim (fun e1 => by have := (T.W.wf.lo q hq).1; omega) fun hm => (T.W.wf.ne T.W.wi (by decide)).elim (fun e1 => by rw [hq] at e1; cases e1) fun e1 => e1 (hq.trans (by simpa [Option.mem_toList] using hm : blk t.WI = some q).symm)), T.W.wd.fx F0 (fun q hq hm => (List.mem_cons.1 hm).elim (fun e1 => by have := (T.W.wd.lo q hq).1; omega) fun hm => (T.W.wd.ne T.W.wi (by decide)).elim (fun e1 => by rw [hq] at e1; cases e1) fun e1 => e1 (hq.trans (by simpa [Option.mem_toList] using hm : blk t.WI = some q).symm)), hl3, T.W.pl.fx F0 (fun q hq hm => (List.mem_cons.1 hm).elim (fun e1 => by have := (T.W.pl.lo q hq).1; omega) fun hm => T.W.ip q (by simpa [Option.mem_toList] using hm) hq), fun q hq hm => ?_, fun q hq e => hk.elim (fun e1 => T.W.ip q (e1.symm.trans hq) e) fun e1 => by
    have := (T.W.pl.lo q e).2
    rw [show blk L = some q from hq] at e1; injection e1 with e1; omega, T.W.nf, T.W.nd, (by show (t.pw ++ [u]).length ≤ _; rw [List.length_append]; exact (List.getElem?_eq_some_iff.1 hr).1), fun i r0 u0 h1 h2 => (T.W.f i r0 u0 h1 h2).imp fun ws0 hw0 => ⟨(hw0.1.more hFK).fx F0 HF, hw0.2⟩, fun i r0 u0 h1 h2 => (T.W.d i r0 u0 h1 h2).imp fun ws0 hw0 => ⟨(hw0.1.more hFK).fx F0 HF, hw0.2⟩, fun i s0 u0 h1 h2 => ?_, T.W.fs, T.W.ds, T.W.ps⟩
  · rcases hq with e | e | e | e
    · exact T.W.ap q (.inl e) hm
    · exact T.W.ap q (.inr (.inl e)) hm
    · rcases hk with e1 | e1
      · exact T.W.ap q (.inr (.inr (.inl (e1.symm.trans e)))) hm
      · have := (T.B.bks q hm).2
        rw [show blk L = some q from e] at e1; injection e1 with e1; omega
    · exact T.W.ap q (.inr (.inr (.inr e))) hm
  · have hi := (List.getElem?_eq_some_iff.1 h2).1
    have h2' : (t.pw ++ [u])[i]? = some u0 := h2
    by_cases e : i < t.pw.length
    · rw [List.getElem?_append_left e] at h2'
      exact (T.W.p i s0 u0 h1 h2').imp fun r0 hr0 => ⟨hr0.1, hr0.2.1, (hr0.2.2.1.more hFK).fx F0 HF, hr0.2.2.2⟩
    · have hil : i < (t.pw ++ [u]).length := hi
      rw [List.length_append] at hil
      have hie : i = t.pw.length := by simp at hil; omega
      subst hie
      rw [List.getElem?_append_right (Nat.le_refl _), Nat.sub_self] at h2'
      injection h2' with h2'; subst h2'
      rw [hr] at h1; injection h1 with h1; subst h1
      exact ⟨r, hri, rfl, (hw.more hFK).fx F0 HF, hu⟩
theorem Tn.put_PL (T : Tn W0 base hb F K x t) {u : Tri} {r : RowX Int} (hri : r ∈ x.i.P) (hu : rowT r = u) (hb1 : Below W0.heap.size W0 W1) {L : Option Addr} {cL m : Nat} (hm : t.pt.length + 1 = m) (hl : Owns W2 base 37 1 eTr L cL (t.pt ++ [u])) (hg : W1.grownBy W2 (blk t.PL)) (hk : blk L = blk t.PL ∨ blk L = some W1.heap.size) (h3 : w3 = W2.setCell ⟨hb, 15, none⟩ (.slice L m cL)) :
    ∃ F', Fh hb F W0 w3 ∧ (∀ q ∈ F, q ∈ F') ∧ (∀ q ∈ F', q ∈ F ∨ W0.heap.size ≤ q) ∧ Tn w3 base hb F' K x { t with PL := L, cPL := cL, pt := t.pt ++ [u] } := by
  have hz := T.B.hz
  have z0 := T.B.z
  have z1 := hb1.size
  have z2 := hg.size
  have g3 : W2.grownBy w3 (some hb) := by rw [h3]; exact grown_cell _ _ _ _
  have z3 := g3.size
  have F2 : Fx (blk t.PL).toList W0 W2 := (Fx.below (S := (blk t.PL).toList) hb1).trans (.grown (S := (blk t.PL).toList) hg fun q hq => by rw [hq]; simp) fun q hq => .inl hq
  have F0 : Fx (hb :: (blk t.PL).toList) W0 w3 := (F2.more fun q hq => List.mem_cons_of_mem _ hq).trans (.grown (S := [hb]) g3 fun q hq => by injection hq with hq; subst hq; exact List.mem_singleton.2 rfl) fun q hq => .inl (by obtain rfl := List.mem_singleton.1 hq; exact List.mem_cons_self ..)
  have hS2 : ∀ q ∈ (blk t.PL).toList, q ∉ bkS x hb := fun q hq => T.W.ap q (by have hq : blk t.PL = some q := (by simpa [Option.mem_toList] using hq); exact .inr (.inr (.inr hq)))
  have B2 := T.B.fx T.Q F2 hS2
  have B3 : Bo w3 base hb x (wxO { t with PL := L, cPL := cL, pt := t.pt ++ [u] }) := by
    have hz' : ∀ {α : Type} {tl e sz : Nat} {enc : α → List Value} {zs : Nat → List α} {y : KX α}, Kb W2 base tl e sz enc zs y → Kb w3 base tl e sz enc zs y := fun h => h.cell g3 hz
    refine ⟨hz' B2.y, hz' B2.i, hz' B2.s, hz' B2.f, hz' B2.d, hz' B2.m, ?_, by rw [h3]; exact there_set B2.t _ _, hz, by omega⟩
    have := rng_put (o := 15) (vs := [.slice L m cL]) B2.r B2.t (by simp [kxC, wxO]) (by simp)
    rw [h3]
    unfold kxC wxO at this ⊢
    dsimp only
    rw [List.length_append (bs := [u]), show t.pt.length + [u].length = m from hm]
    exact this
  have hl3 : Owns w3 base 37 1 eTr L cL (t.pt ++ [u]) := hl.same fun q hq => g3.block q (hl.lo q hq).2 fun e => by injection e with e; have := (hl.lo q hq).1; omega
  have hnew : ∀ q, blk L = some q → q ∈ F ∨ W0.heap.size ≤ q := fun q hq => hk.elim (fun e => .inl (T.F2 q (by have hq : blk t.PL = some q := e.symm.trans hq; exact .inr (.inr (.inr hq))))) fun e => .inr (by rw [hq] at e; injection e with e; omega)
  have hF' : ∀ q ∈ F ++ (blk L).toList, q ∈ F ∨ W0.heap.size ≤ q := fun q hq => (List.mem_append.1 hq).elim .inl fun h => hnew q (by simpa [Option.mem_toList] using h)
  have hFK : ∀ q ∈ F ++ (blk L).toList ++ K, q ∈ F ++ K ∨ W0.heap.size ≤ q := fun q hq => (List.mem_append.1 hq).elim (fun h => (hF' q h).imp (fun e => List.mem_append.2 (.inl e)) id) fun h => .inl (List.mem_append.2 (.inr h))
  have HF : ∀ q ∈ hb :: (blk t.PL).toList, q ∈ F ++ (blk L).toList ++ K := fun q hq => List.mem_append.2 (.inl (List.mem_append.2 (.inl ((List.mem_cons.1 hq).elim (fun e => by rw [e]; exact T.F1 hb (bkS_K.2 (.inl rfl))) fun h => T.F2 q (by have hq : blk t.PL = some q := (by simpa [Option.mem_toList] using h); exact .inr (.inr (.inr hq)))))))
  refine ⟨F ++ (blk L).toList, Fh.of F0 (fun q hq => (List.mem_cons.1 hq).elim (fun e => by rw [e]; exact ⟨T.F1 hb (bkS_K.2 (.inl rfl)), Nat.le_refl _⟩) fun h => ?_), fun q hq => List.mem_append.2 (.inl hq), hF', B3, ?_, fun q hq => List.mem_append.2 (.inl (T.F1 q hq)), fun q hq => ?_, fun q hq => ?_, T.Q, fun q hq hm => ?_⟩
  · have hq : blk t.PL = some q := by simpa [Option.mem_toList] using h
    exact ⟨T.F2 q (.inr (.inr (.inr hq))), by have := (T.W.pl.lo q hq).1; omega⟩
  rotate_left
  · rcases hq with e | e | e | e
    · exact List.mem_append.2 (.inl (T.F2 q (.inl e)))
    · exact List.mem_append.2 (.inl (T.F2 q (.inr (.inl e))))
    · exact List.mem_append.2 (.inl (T.F2 q (.inr (.inr (.inl e)))))
    · exact List.mem_append.2 (.inr (by rw [show blk L = some q from e]; simp))
  · rcases List.mem_append.1 hq with hq | e
    · rcases List.mem_append.1 hq with e | e
      · have := T.hi q (List.mem_append.2 (.inl e)); omega
      · have := (hl.lo q (by simpa [Option.mem_toList] using e)).2; omega
    · have := T.hi q (List.mem_append.2 (.inr e)); omega
  · have := T.hi q (List.mem_append.2 (.inr hq))
    rcases hF' q hm with e | e
    · exact T.dk q hq e
    · omega
  refine ⟨T.W.wf.fx F0 (fun q hq hm => (List.mem_cons.1 hm).elim (fun e1 => by have := (T.W.wf.lo q hq).1; omega) fun hm => (T.W.wf.ne T.W.pl (by decide)).elim (fun e1 => by rw [hq] at e1; cases e1) fun e1 => e1 (hq.trans (by simpa [Option.mem_toList] using hm : blk t.PL = some q).symm)), T.W.wd.fx F0 (fun q hq hm => (List.mem_cons.1 hm).elim (fun e1 => by have := (T.W.wd.lo q hq).1; omega) fun hm => (T.W.wd.ne T.W.pl (by decide)).elim (fun e1 => by rw [hq] at e1; cases e1) fun e1 => e1 (hq.trans (by simpa [Option.mem_toList] using hm : blk t.PL = some q).symm)), T.W.wi.fx F0 (fun q hq hm => (List.mem_cons.1 hm).elim (fun e1 => by have := (T.W.wi.lo q hq).1; omega) fun hm => T.W.ip q hq (by simpa [Option.mem_toList] using hm)), hl3, fun q hq hm => ?_, fun q hq e => hk.elim (fun e1 => T.W.ip q hq (e1.symm.trans e)) fun e1 => by
    have := (T.W.wi.lo q hq).2
    rw [show blk L = some q from e] at e1; injection e1 with e1; omega, T.W.nf, T.W.nd, (by show t.pw.length ≤ (t.pt ++ [u]).length; rw [List.length_append]; have := T.W.np; omega), fun i r0 u0 h1 h2 => (T.W.f i r0 u0 h1 h2).imp fun ws0 hw0 => ⟨(hw0.1.more hFK).fx F0 HF, hw0.2⟩, fun i r0 u0 h1 h2 => (T.W.d i r0 u0 h1 h2).imp fun ws0 hw0 => ⟨(hw0.1.more hFK).fx F0 HF, hw0.2⟩, fun i s0 u0 h1 h2 => (T.W.p i s0 u0 (by
      have hl2 : i < t.pw.length := (List.getElem?_eq_some_iff.1 h2).1
      have h1' : (t.pt ++ [u])[i]? = some s0 := h1
      rwa [List.getElem?_append_left (by have := T.W.np; omega)] at h1') h2).imp fun r0 hr0 => ⟨hr0.1, hr0.2.1, (hr0.2.2.1.more hFK).fx F0 HF, hr0.2.2.2⟩, T.W.fs, T.W.ds, fun s hs => ?_⟩
  · rcases hq with e | e | e | e
    · exact T.W.ap q (.inl e) hm
    · exact T.W.ap q (.inr (.inl e)) hm
    · exact T.W.ap q (.inr (.inr (.inl e))) hm
    · rcases hk with e1 | e1
      · exact T.W.ap q (.inr (.inr (.inr (e1.symm.trans e)))) hm
      · have := (T.B.bks q hm).2
        rw [show blk L = some q from e] at e1; injection e1 with e1; omega
  · rcases List.mem_append.1 hs with h1 | h1
    · exact T.W.ps s h1
    · obtain rfl := List.mem_singleton.1 h1; exact ⟨r, hri, hu⟩
end
end Go.Proofs.Ytcffhfcjfjfokaa
