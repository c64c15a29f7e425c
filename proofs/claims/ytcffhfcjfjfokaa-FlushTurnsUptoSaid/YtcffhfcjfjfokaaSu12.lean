/- TnInts StoLaw StoMem Here, joined. -/
import Derived.Test.YtcffhfcjfjfokaaSu4
import Derived.Test.YtcffhfcjfjfokaaSu11
set_option linter.unusedVariables false
set_option linter.unusedSimpArgs false
namespace Go.Proofs.Ytcffhfcjfjfokaa
open Go Go.RowKit
structure Sz (x : BX) (t : WX) (n : Nat) : Prop where
  by' : ∀ r ∈ x.y.P, r.l.length ≤ 1048576
  bi : ∀ r ∈ x.i.P, r.l.length ≤ 1048576
  bs : ∀ r ∈ x.s.P, r.l.length ≤ 1048576
  bf : ∀ r ∈ x.f.P, r.l.length ≤ 1048576
  bd : ∀ r ∈ x.d.P, r.l.length ≤ 1048576
  ly : x.y.P.length ≤ n
  li : x.i.P.length ≤ n
  ls : x.s.P.length ≤ n
  lf : x.f.P.length ≤ n
  ld : x.d.P.length ≤ n
  lp : t.pt.length ≤ n
  m : x.m.P = []
  nf : t.fw.length = x.f.P.length
  nd : t.dw.length = x.d.P.length
  np : t.pw.length = t.pt.length
theorem Sz.mono {x : BX} {t : WX} {n n' : Nat} (h : Sz x t n) (hn : n ≤ n') : Sz x t n' := ⟨h.by', h.bi, h.bs, h.bf, h.bd, Nat.le_trans h.ly hn, Nat.le_trans h.li hn, Nat.le_trans h.ls hn, Nat.le_trans h.lf hn, Nat.le_trans h.ld hn, Nat.le_trans h.lp hn, h.m, h.nf, h.nd, h.np⟩
structure Mo (w : World) (base hb : Nat) (F K : List Nat) (n : Nat) (w' : World) : Prop where
  ex : ∃ F' x' t', Fh hb F w w' ∧ (∀ q ∈ F, q ∈ F') ∧ (∀ q ∈ F', q ∈ F ∨ w.heap.size ≤ q) ∧ Tn w' base hb F' K x' t' ∧ Sz x' t' n
theorem moreK {F F' K : List Nat} {n : Nat} (h : ∀ q ∈ F', q ∈ F ∨ n ≤ q) : ∀ q ∈ F' ++ K, q ∈ F ++ K ∨ n ≤ q := fun q hq => (List.mem_append.1 hq).elim (fun e => (h q e).imp (fun e => List.mem_append.2 (.inl e)) id) fun e => .inl (List.mem_append.2 (.inr e))
theorem fh2 {hb : Nat} {F F' F'' : List Nat} {w w' w'' : World} (f1 : Fh hb F w w') (f2 : Fh hb F' w' w'') (a1 : ∀ q ∈ F, q ∈ F') (a2 : ∀ q ∈ F', q ∈ F'') (b1 : ∀ q ∈ F', q ∈ F ∨ w.heap.size ≤ q) (b2 : ∀ q ∈ F'', q ∈ F' ∨ w'.heap.size ≤ q) : Fh hb F w w'' ∧ (∀ q ∈ F, q ∈ F'') ∧ ∀ q ∈ F'', q ∈ F ∨ w.heap.size ≤ q :=
  ⟨f1.trans f2 b1, fun q hq => a2 q (a1 q hq), fun q hq => (b2 q hq).elim (b1 q) fun e => .inr (Nat.le_trans (show w.heap.size ≤ w'.heap.size from Fx.size f1) e)⟩
set_option maxRecDepth 100000 in
set_option maxHeartbeats 4000000 in
theorem ints81_any {w : World} {base hb n : Nat} {F K : List Nat} {x : BX} {t : WX} (T : Tn w base hb F K x t) (Z : Sz x t n) (hn : n ≤ 1000000000) {r : RowX Int} (ho : Owns w base 3 1 eInt r.A r.c r.l) (hrF : ∀ q, blk r.A = some q → q ∈ F) (hrn : ∀ y ∈ x.i.P, ∀ q, blk y.A = some q → blk r.A ≠ some q) (hrl : r.l.length ≤ 1048576) {U : Option Addr} {cU : Nat} (hw : RowF w (F ++ K) 1 eInt U r.l) :
    Calls Try.prog 81 #[.pointer (some ⟨hb, 0, none⟩), .slice r.A r.l.length r.c, .slice U r.l.length cU] w fun e w' => e = .returned (.tuple #[]) ∧ Mo w base hb F K (n + 1) w' := by
  have hli := Z.li
  have hlp := Z.lp
  have hnp := Z.np
  refine calls_vc tab_ok Try.func81 rfl ?_
  -- region: rows of kind K get one more
  have L1 : Ld Try.prog 99 hb 2 (Eq w) (.slice x.i.L x.i.P.length x.i.cL) := .of (load_cell (by kernel_rfl) (T.B.r 2 _ rfl))
  repeat ((conv => whnf); first | (refine VLoad.mk _ L1 ?_) | (refine VCmp.tt (by omega) ?_) | (refine VCmp.ff (by omega) ?_) | (refine VIn.mk (IntWalk.i64_in _ (by omega)) ?_) | (refine VIdx.mk _ rfl (by omega) ?_) | (refine VIdx.mk 0 rfl (by omega) ?_))
  try (conv => whnf)
  refine VBs.mk _ _ (bs99 w r.A r.l.length r.c) ?_
  have c1 : Below w.heap.size w (w.alloc (.cells #[.slice r.A r.l.length r.c] 37)) := (Below.refl _ _).alloc (Nat.le_refl _) _
  have hr1 := row_new w 37 1 eTr (rowT r) #[.slice r.A r.l.length r.c] rfl
  generalize w.alloc (.cells #[.slice r.A r.l.length r.c] 37) = w1 at c1 hr1 ⊢
  have z1 := c1.size
  have hz := T.B.hz
  have hbz := T.B.z
  have hl1 := T.B.i.l.keep c1 fun k hk => (T.B.i.l.lo k hk).2
  repeat ((conv => whnf); first | (refine VCmp.tt (by omega) ?_) | (refine VCmp.ff (by omega) ?_) | (refine VIn.mk (IntWalk.i64_in _ (by omega)) ?_) | (refine VIdx.mk _ rfl (by omega) ?_) | (refine VIdx.mk 0 rfl (by omega) ?_))
  try (conv => whnf)
  refine VApp.rows base 1 24 _ Try.underlying99 info37z rfl (by decide) eTr len_eTr one_eTr (x.i.P.map rowT) [rowT r] (by rw [List.length_map]) rfl hl1 hr1 (by omega) (by omega) (by omega) fun L2 cL2 w2 ho2 hg2 hk2 => ?_
  have hs2 : w2.heap[hb]? = w.heap[hb]? := (hg2.block hb (by omega) (fun e => by have := (hl1.lo hb e.symm).1; omega)).trans (c1.block hb (by omega))
  have t2 := there_same T.B.t hs2
  repeat ((conv => whnf); first | (refine VCmp.tt (by omega) ?_) | (refine VCmp.ff (by omega) ?_) | (refine VIn.mk (IntWalk.i64_in _ (by omega)) ?_) | (refine VIdx.mk _ rfl (by omega) ?_) | (refine VIdx.mk 0 rfl (by omega) ?_))
  try (conv => whnf)
  refine VStore.cell (by kernel_rfl) (t2 2 (by omega)).1 (t2 2 (by omega)).2 rfl rfl fun w3 hw3 => ?_
  obtain ⟨F3, f3, i3, j3, T3⟩ := T.push_i (r := r) c1 ho hrF hrn rfl ho2 hg2 hk2 hw3.out
  have hw3' : RowF w3 (F3 ++ K) 1 eInt U r.l := (hw.more (moreK j3)).fx f3 (fun q hq => List.mem_append.2 (.inl (i3 q (List.mem_filter.1 hq).1)))
  clear hw3 t2 hs2 ho2 hg2 hk2 hl1 hr1 c1 L1 z1 hz hbz
  -- region: what the document said gets one more
  have L1 : Ld Try.prog 99 hb 15 (Eq w3) (.slice t.PL t.pt.length t.cPL) := .of (load_cell (by kernel_rfl) (T3.B.r 15 _ rfl))
  repeat ((conv => whnf); first | (refine VLoad.mk _ L1 ?_) | (refine VCmp.tt (by omega) ?_) | (refine VCmp.ff (by omega) ?_) | (refine VIn.mk (IntWalk.i64_in _ (by omega)) ?_) | (refine VIdx.mk _ rfl (by omega) ?_) | (refine VIdx.mk 0 rfl (by omega) ?_))
  try (conv => whnf)
  refine VBs.mk _ _ (bs99 w3 r.A r.l.length r.c) ?_
  have c1 : Below w3.heap.size w3 (w3.alloc (.cells #[.slice r.A r.l.length r.c] 37)) := (Below.refl _ _).alloc (Nat.le_refl _) _
  have hr1 := row_new w3 37 1 eTr (r.A, r.l.length, r.c) #[.slice r.A r.l.length r.c] rfl
  generalize w3.alloc (.cells #[.slice r.A r.l.length r.c] 37) = w1 at c1 hr1 ⊢
  have z1 := c1.size
  have hz := T3.B.hz
  have hbz := T3.B.z
  have hl1 := T3.W.pl.keep c1 fun k hk => (T3.W.pl.lo k hk).2
  repeat ((conv => whnf); first | (refine VCmp.tt (by omega) ?_) | (refine VCmp.ff (by omega) ?_) | (refine VIn.mk (IntWalk.i64_in _ (by omega)) ?_) | (refine VIdx.mk _ rfl (by omega) ?_) | (refine VIdx.mk 0 rfl (by omega) ?_))
  try (conv => whnf)
  refine VApp.rows base 1 24 _ Try.underlying99 info37z rfl (by decide) eTr len_eTr one_eTr t.pt [(r.A, r.l.length, r.c)] rfl rfl hl1 hr1 (by omega) (by omega) (by omega) fun L2 cL2 w2 ho2 hg2 hk2 => ?_
  have hs2 : w2.heap[hb]? = w3.heap[hb]? := (hg2.block hb (by omega) (fun e => by have := (hl1.lo hb e.symm).1; omega)).trans (c1.block hb (by omega))
  have t2 := there_same T3.B.t hs2
  repeat ((conv => whnf); first | (refine VCmp.tt (by omega) ?_) | (refine VCmp.ff (by omega) ?_) | (refine VIn.mk (IntWalk.i64_in _ (by omega)) ?_) | (refine VIdx.mk _ rfl (by omega) ?_) | (refine VIdx.mk 0 rfl (by omega) ?_))
  try (conv => whnf)
  refine VStore.cell (by kernel_rfl) (t2 15 (by omega)).1 (t2 15 (by omega)).2 rfl rfl fun w4 hw3 => ?_
  obtain ⟨F4, f4, i4, j4, T4⟩ := T3.put_PL (u := rowT r) (r := r) (List.mem_append.2 (.inr (List.mem_singleton.2 rfl))) rfl c1 rfl ho2 hg2 hk2 hw3.out
  have hw4' : RowF w4 (F4 ++ K) 1 eInt U r.l := (hw3'.more (moreK j4)).fx f4 (fun q hq => List.mem_append.2 (.inl (i4 q (List.mem_filter.1 hq).1)))
  clear hw3 t2 hs2 ho2 hg2 hk2 hl1 hr1 c1 L1 z1 hz hbz
  -- region: what the document said gets one more
  have L1 : Ld Try.prog 99 hb 14 (Eq w4) (.slice t.WI t.pw.length t.cWI) := .of (load_cell (by kernel_rfl) (T4.B.r 14 _ rfl))
  repeat ((conv => whnf); first | (refine VLoad.mk _ L1 ?_) | (refine VCmp.tt (by omega) ?_) | (refine VCmp.ff (by omega) ?_) | (refine VIn.mk (IntWalk.i64_in _ (by omega)) ?_) | (refine VIdx.mk _ rfl (by omega) ?_) | (refine VIdx.mk 0 rfl (by omega) ?_))
  try (conv => whnf)
  refine VBs.mk _ _ (bs99 w4 U r.l.length cU) ?_
  have c1 : Below w4.heap.size w4 (w4.alloc (.cells #[.slice U r.l.length cU] 37)) := (Below.refl _ _).alloc (Nat.le_refl _) _
  have hr1 := row_new w4 37 1 eTr (U, r.l.length, cU) #[.slice U r.l.length cU] rfl
  generalize w4.alloc (.cells #[.slice U r.l.length cU] 37) = w1 at c1 hr1 ⊢
  have z1 := c1.size
  have hz := T4.B.hz
  have hbz := T4.B.z
  have hl1 := T4.W.wi.keep c1 fun k hk => (T4.W.wi.lo k hk).2
  repeat ((conv => whnf); first | (refine VCmp.tt (by omega) ?_) | (refine VCmp.ff (by omega) ?_) | (refine VIn.mk (IntWalk.i64_in _ (by omega)) ?_) | (refine VIdx.mk _ rfl (by omega) ?_) | (refine VIdx.mk 0 rfl (by omega) ?_))
  try (conv => whnf)
  refine VApp.rows base 1 24 _ Try.underlying99 info37z rfl (by decide) eTr len_eTr one_eTr t.pw [(U, r.l.length, cU)] rfl rfl hl1 hr1 (by omega) (by omega) (by omega) fun L2 cL2 w2 ho2 hg2 hk2 => ?_
  have hs2 : w2.heap[hb]? = w4.heap[hb]? := (hg2.block hb (by omega) (fun e => by have := (hl1.lo hb e.symm).1; omega)).trans (c1.block hb (by omega))
  have t2 := there_same T4.B.t hs2
  repeat ((conv => whnf); first | (refine VCmp.tt (by omega) ?_) | (refine VCmp.ff (by omega) ?_) | (refine VIn.mk (IntWalk.i64_in _ (by omega)) ?_) | (refine VIdx.mk _ rfl (by omega) ?_) | (refine VIdx.mk 0 rfl (by omega) ?_))
  try (conv => whnf)
  refine VStore.cell (by kernel_rfl) (t2 14 (by omega)).1 (t2 14 (by omega)).2 rfl rfl fun w5 hw3 => ?_
  obtain ⟨F5, f5, i5, j5, T5⟩ := T4.put_WI (u := (U, r.l.length, cU)) (r := r) (by show (t.pt ++ [rowT r])[t.pw.length]? = _; rw [hnp, List.getElem?_append_right (Nat.le_refl _), Nat.sub_self]; rfl) (List.mem_append.2 (.inr (List.mem_singleton.2 rfl))) hw4' rfl c1 rfl ho2 hg2 hk2 hw3.out
  repeat ((conv => whnf); first | (refine VCmp.tt (by omega) ?_) | (refine VCmp.ff (by omega) ?_) | (refine VIn.mk (IntWalk.i64_in _ (by omega)) ?_) | (refine VIdx.mk _ rfl (by omega) ?_) | (refine VIdx.mk 0 rfl (by omega) ?_))
  try (conv => whnf)
  obtain ⟨f34, i34, j34⟩ := fh2 f3 f4 i3 i4 j3 j4
  obtain ⟨f35, i35, j35⟩ := fh2 f34 f5 i34 i5 j34 j5
  refine .mk ⟨rfl, ⟨_, _, _, f35, i35, j35, T5, ⟨Z.by', fun s hs => ?_, Z.bs, Z.bf, Z.bd, Nat.le_succ_of_le Z.ly, ?_, Nat.le_succ_of_le Z.ls, Nat.le_succ_of_le Z.lf, Nat.le_succ_of_le Z.ld, ?_, Z.m, Z.nf, Z.nd, ?_⟩⟩⟩
  · rcases List.mem_append.1 hs with h1 | h1
    · exact Z.bi s h1
    · obtain rfl := List.mem_singleton.1 h1; exact hrl
  · show (x.i.P ++ [r]).length ≤ _; rw [List.length_append]; exact Nat.succ_le_succ hli
  · show (t.pt ++ [rowT r]).length ≤ _; rw [List.length_append]; exact Nat.succ_le_succ hlp
  · show (t.pw ++ [_]).length = (t.pt ++ [_]).length; rw [List.length_append, List.length_append, hnp]; rfl
end Go.Proofs.Ytcffhfcjfjfokaa
namespace Go.Proofs.Ytcffhfcjfjfokaa
def Fl.zero : Fl := ⟨0, 0, 0, 0, 0, [], []⟩
structure Kp where
  inc : Int
  f : Fl
def Kp.zero : Kp := ⟨0, Fl.zero⟩
structure Sto where
  n : Nat
  kept : List Kp
  ve : Int
  vl : Int
  vi : Int
  vc : Int
  msgs : List Dt
def stoNew (n : Nat) : Sto := ⟨n, List.replicate n Kp.zero, 0, 0, 0, 0, []⟩
def Sto.kp (s : Sto) (q : Nat) : Kp := s.kept[q]?.getD Kp.zero
open Classical in
noncomputable def Sto.take (s : Sto) (q inc : Int) (f : Fl) : Int × Sto :=
  if q < 0 ∨ (s.n : Int) ≤ q ∨ inc < 1 ∨ 4611686018427387904 < inc ∨ soundB f = false ∨ f.have_.length ≠ s.n then (1, s)
  else if inc < (s.kp q.toNat).inc then (50, s)
  else if (s.kp q.toNat).inc = inc ∧ f.e < (s.kp q.toNat).f.e then (51, s)
  else if (s.kp q.toNat).inc = inc ∧ f.e = (s.kp q.toNat).f.e then (if f = (s.kp q.toNat).f then 0 else 82, s)
  else (0, { s with kept := s.kept.set q.toNat ⟨inc, f⟩ })
structure Mm where
  p : Int
  i : Int
  c : Int
def Sto.hereB (s : Sto) (e l i c : Int) (m : Mm) : Bool :=
  decide (0 ≤ m.p ∧ m.p < s.n) && (decide ((s.kp m.p.toNat).inc ≠ 0) && decide ((s.kp m.p.toNat).inc = m.i) && vidEq (s.kp m.p.toNat).f.e (s.kp m.p.toNat).f.l (s.kp m.p.toNat).f.i (s.kp m.p.toNat).f.c e l i c)
def Sto.missing (s : Sto) (e l i c : Int) (who : List Mm) : List Int := (who.filter fun m => !s.hereB e l i c m).map (·.p)
def Sto.contents (s : Sto) (e l i c : Int) (who : List Mm) : Option (List Fl) :=
  if who.all (s.hereB e l i c) then some (who.map fun m => (s.kp m.p.toNat).f) else none
def Sto.begin_ (s : Sto) (e l i c : Int) : Sto := { s with ve := e, vl := l, vi := i, vc := c, msgs := [] }
def aheadB (a b : Dt) : Bool := decide (a.s < b.s ∨ (a.s = b.s ∧ a.q < b.q))
def Sorted (l : List Dt) : Prop := l.Pairwise fun a b => aheadB a b = true
def dtB (n : Nat) (d : Dt) : Bool := decide (0 ≤ d.s ∧ d.s < n ∧ 1 ≤ d.q ∧ d.q ≤ 4611686018427387904 ∧ 0 ≤ d.b ∧ d.b ≤ 4611686018427387904 ∧ d.body.length ≤ 256)
def riseB (l : List Dt) : Bool := match l with
  | a :: b :: r => aheadB a b && riseB (b :: r)
  | _ => true
def fitsB (n : Nat) (e l i c : Int) (ms : List Dt) : Bool := wholeB e l i c && decide (ms.length ≤ 128) && ms.all (dtB n) && riseB ms
def ins (d : Dt) : List Dt → List Dt
  | [] => [d]
  | x :: l => if aheadB d x then d :: x :: l else x :: ins d l
def keyB (d x : Dt) : Bool := decide (x.s = d.s ∧ x.q = d.q)
open Classical in
noncomputable def addTo (old l : List Dt) : List Dt → Option (List Dt)
  | [] => some l
  | d :: r => match old.find? (keyB d) with
    | some x => if x.b = d.b ∧ x.body = d.body then addTo old l r else none
    | none => addTo old (ins d l) r
noncomputable def Sto.add (s : Sto) (e l i c : Int) (ms : List Dt) : Int × Sto :=
  if fitsB s.n e l i c ms = false then (1, s)
  else if ¬ (e = s.ve ∧ l = s.vl ∧ i = s.vi ∧ c = s.vc) then (80, s)
  else match addTo s.msgs s.msgs ms with
    | none => (82, s)
    | some r => if 128 < r.length then (42, s) else (0, { s with msgs := r })
structure SInv (s : Sto) : Prop where
  n1 : 1 ≤ s.n
  n2 : s.n ≤ 16
  len : s.kept.length = s.n
  kept : ∀ k ∈ s.kept, k = Kp.zero ∨ (1 ≤ k.inc ∧ Sound k.f)
  sort : Sorted s.msgs
  lenM : s.msgs.length ≤ 128
  each : ∀ d ∈ s.msgs, dtB s.n d = true
theorem new_sinv {n : Nat} (h1 : 1 ≤ n) (h2 : n ≤ 16) : SInv (stoNew n) :=
  ⟨h1, h2, by simp [stoNew], fun k hk => .inl (List.eq_of_mem_replicate hk), List.Pairwise.nil, Nat.zero_le _, fun d hd => by cases hd⟩
theorem kp_of {s : Sto} (h : SInv s) (q : Nat) : s.kp q = Kp.zero ∨ (1 ≤ (s.kp q).inc ∧ Sound (s.kp q).f) := by
  unfold Sto.kp
  cases hk : s.kept[q]? with
  | none => exact .inl rfl
  | some k => exact h.kept k (List.mem_of_getElem? hk)
theorem take_sinv {s : Sto} (h : SInv s) (q inc : Int) (f : Fl) : SInv (s.take q inc f).2 := by
  unfold Sto.take
  split
  · exact h
  · rename_i h1
    split
    · exact h
    · split
      · exact h
      · split
        · split <;> exact h
        · have hs : Sound f := by
            cases hb : soundB f with
            | true => exact soundB_iff.1 hb
            | false => exact absurd (.inr (.inr (.inr (.inr (.inl hb))))) h1
          refine ⟨h.n1, h.n2, by show (s.kept.set _ _).length = _; rw [List.length_set]; exact h.len, fun k hk => ?_, h.sort, h.lenM, h.each⟩
          rcases List.mem_or_eq_of_mem_set hk with e | e
          · exact h.kept k e
          · subst e; exact .inr ⟨by show 1 ≤ inc; omega, hs⟩
theorem begin_sinv {s : Sto} (h : SInv s) (e l i c : Int) : SInv (s.begin_ e l i c) := ⟨h.n1, h.n2, h.len, h.kept, List.Pairwise.nil, Nat.zero_le _, fun d hd => by cases hd⟩
theorem ahead_trans {a b c : Dt} (h1 : aheadB a b = true) (h2 : aheadB b c = true) : aheadB a c = true := by
  unfold aheadB at *; simp at *; omega
theorem ins_mem {d x : Dt} : ∀ {l : List Dt}, x ∈ ins d l → x = d ∨ x ∈ l
  | [], h => by simp [ins] at h; exact .inl h
  | y :: l, h => by
    unfold ins at h
    split at h
    · rcases List.mem_cons.1 h with e | e
      · exact .inl e
      · exact .inr e
    · rcases List.mem_cons.1 h with e | e
      · exact .inr (by rw [e]; exact List.mem_cons_self ..)
      · rcases ins_mem e with e2 | e2
        · exact .inl e2
        · exact .inr (List.mem_cons_of_mem _ e2)
theorem ins_sorted {d : Dt} : ∀ {l : List Dt}, Sorted l → (∀ x ∈ l, keyB d x = false) → Sorted (ins d l)
  | [], _, _ => List.pairwise_singleton _ _
  | y :: l, h, hk => by
    obtain ⟨h1, h2⟩ := List.pairwise_cons.1 h
    unfold ins
    split
    · rename_i e
      refine List.pairwise_cons.2 ⟨fun x hx => ?_, h⟩
      rcases List.mem_cons.1 hx with e2 | e2
      · rw [e2]; exact e
      · exact ahead_trans e (h1 x e2)
    · rename_i e
      refine List.pairwise_cons.2 ⟨fun x hx => ?_, ins_sorted h2 (fun x hx => hk x (List.mem_cons_of_mem _ hx))⟩
      rcases ins_mem hx with e2 | e2
      · subst e2
        have := hk y (List.mem_cons_self ..)
        unfold aheadB at e ⊢
        unfold keyB at this
        simp at *
        omega
      · exact h1 x e2
theorem ins_split {d : Dt} : ∀ {l r : List Dt}, (∀ x ∈ l, aheadB x d = true) → (∀ x, r.head? = some x → aheadB d x = true) → ins d (l ++ r) = l ++ d :: r
  | [], [], _, _ => rfl
  | [], x :: r, _, h => by rw [List.nil_append, List.nil_append, ins, if_pos (h x rfl)]
  | y :: l, r, h1, h2 => by
    have hy := h1 y (List.mem_cons_self ..)
    have : aheadB d y = false := by
      unfold aheadB at *; simp at *; omega
    rw [List.cons_append, ins, this, if_neg (by simp), ins_split (fun x hx => h1 x (List.mem_cons_of_mem _ hx)) h2]; rfl
end Go.Proofs.Ytcffhfcjfjfokaa
namespace Go.Proofs.Ytcffhfcjfjfokaa
open Go.RowKit
structure KpX where
  k : Kp
  A : Option Addr
  cA : Nat
  B : Option Addr
  cB : Nat
abbrev kpA (x : KpX) : Array Value := #[.int .i64 x.k.inc, .int .i64 x.k.f.e, .int .i64 x.k.f.l, .int .i64 x.k.f.i, .int .i64 x.k.f.c, .int .i64 x.k.f.base, .slice x.A x.k.f.slots.length x.cA, .slice x.B x.k.f.have_.length x.cB]
def eKp (x : KpX) : List Value := (kpA x).toList
theorem len_eKp (x : KpX) : (eKp x).length = 8 := rfl
theorem one_kpA (x : KpX) : (kpA x).all (·.oneCell') = true := by
  refine all_oneCell_toArray (cs := [.int .i64 x.k.inc, .int .i64 x.k.f.e, .int .i64 x.k.f.l, .int .i64 x.k.f.i, .int .i64 x.k.f.c, .int .i64 x.k.f.base, .slice x.A x.k.f.slots.length x.cA, .slice x.B x.k.f.have_.length x.cB]) fun y hy => ?_
  simp only [List.mem_cons, List.not_mem_nil, or_false] at hy
  rcases hy with rfl | rfl | rfl | rfl | rfl | rfl | rfl | rfl <;> rfl
structure FarK (w : World) (F : List Nat) (x : KpX) : Prop where
  s : RowF w F 2 eSlot x.A x.k.f.slots
  h : RowF w F 1 eInt x.B x.k.f.have_
  lS : x.k.f.slots.length ≤ x.cA
  cS : x.cA ≤ 9223372036854775807
  lH : x.k.f.have_.length ≤ x.cB
  cH : x.cB ≤ 9223372036854775807
structure FarB (w : World) (F : List Nat) (r : Dr) : Prop where
  row : RowF w F 1 eByte r.B r.d.body
  len : r.d.body.length ≤ r.c
  cap : r.c ≤ 9223372036854775807
section
variable {w w' : World} {F F' : List Nat} {x : KpX} {r : Dr}
theorem FarK.keep (h : FarK w F x) (hs : w.heap.size ≤ w'.heap.size) (hk : ∀ k, k < w.heap.size → k ∉ F → w'.heap[k]? = w.heap[k]?) : FarK w' F x := ⟨h.s.keep hs hk, h.h.keep hs hk, h.lS, h.cS, h.lH, h.cH⟩
theorem FarK.below (h : FarK w F x) (hb : Below w.heap.size w w') : FarK w' F x := h.keep hb.size fun k hk _ => hb.block k hk
theorem FarK.more (h : FarK w F x) (hF : ∀ y ∈ F', y ∈ F ∨ w.heap.size ≤ y) : FarK w F' x := ⟨h.s.more hF, h.h.more hF, h.lS, h.cS, h.lH, h.cH⟩
theorem FarK.rows (h : FarK w F x) : FlRows w w.heap.size x.k.f x.A x.cA x.B x.cB := ⟨h.s.row, h.h.row, h.lS, h.cS, h.lH, h.cH⟩
theorem FarB.keep (h : FarB w F r) (hs : w.heap.size ≤ w'.heap.size) (hk : ∀ k, k < w.heap.size → k ∉ F → w'.heap[k]? = w.heap[k]?) : FarB w' F r := ⟨h.row.keep hs hk, h.len, h.cap⟩
theorem FarB.below (h : FarB w F r) (hb : Below w.heap.size w w') : FarB w' F r := h.keep hb.size fun k hk _ => hb.block k hk
theorem FarB.more (h : FarB w F r) (hF : ∀ y ∈ F', y ∈ F ∨ w.heap.size ≤ y) : FarB w F' r := ⟨h.row.more hF, h.len, h.cap⟩
end
structure StV (w : World) (F : List Nat) (b g oK oV : Nat) (s : Sto) (ks : List KpX) (Mp : Option Addr) (cM : Nat) (ms : List Dr) : Prop where
  ck : w.cell? ⟨b, oK, none⟩ = some (.slice (some ⟨g, 0, none⟩) s.n s.n)
  ce : w.cell? ⟨b, oV, none⟩ = some (.int .i64 s.ve)
  cl : w.cell? ⟨b, oV + 1, none⟩ = some (.int .i64 s.vl)
  ci : w.cell? ⟨b, oV + 2, none⟩ = some (.int .i64 s.vi)
  cc : w.cell? ⟨b, oV + 3, none⟩ = some (.int .i64 s.vc)
  cm : w.cell? ⟨b, 6, none⟩ = some (.slice Mp ms.length cM)
  there : w.there b 0 7
  krow : ∀ q x, ks[q]? = some x → w.rangeAt g (q * 8) (eKp x)
  kthere : w.there g 0 (s.n * 8)
  kk : ks.map (·.k) = s.kept
  kS : ∀ x ∈ ks, FarK w F x
  mm : ms.map Dr.d = s.msgs
  mrow : RowF w F 4 eDr Mp ms
  mS : ∀ r ∈ ms, FarB w F r
  mc : ms.length ≤ cM ∧ cM ≤ 9223372036854775807
  bF : b ∈ F
  gF : g ∈ F
  bg : b ≠ g
  hi : ∀ x ∈ F, x < w.heap.size
  inv : SInv s
section
variable {w w' : World} {F F' : List Nat} {b g oK oV : Nat} {s : Sto} {ks : List KpX} {Mp : Option Addr} {cM : Nat} {ms : List Dr}
theorem StV.keep (h : StV w F b g oK oV s ks Mp cM ms) (hs : w.heap.size ≤ w'.heap.size) (hk : ∀ k, k < w.heap.size → k ∉ F ∨ k = b ∨ k = g → w'.heap[k]? = w.heap[k]?) : StV w' F b g oK oV s ks Mp cM ms := by
  have hb := hk b (h.hi b h.bF) (.inr (.inl rfl))
  have hg := hk g (h.hi g h.gF) (.inr (.inr rfl))
  have hc : ∀ o, w'.cell? ⟨b, o, none⟩ = w.cell? ⟨b, o, none⟩ := fun o => World.cell?_of_block hb
  have hk' : ∀ k, k < w.heap.size → k ∉ F → w'.heap[k]? = w.heap[k]? := fun k h1 h2 => hk k h1 (.inl h2)
  exact ⟨(hc _).trans h.ck, (hc _).trans h.ce, (hc _).trans h.cl, (hc _).trans h.ci, (hc _).trans h.cc, (hc _).trans h.cm, there_same h.there hb, fun q x hx => range_same (h.krow q x hx) hg, there_same h.kthere hg, h.kk, fun x hx => (h.kS x hx).keep hs hk', h.mm, h.mrow.keep hs hk', fun r hr => (h.mS r hr).keep hs hk', h.mc, h.bF, h.gF, h.bg, fun x hx => Nat.lt_of_lt_of_le (h.hi x hx) hs, h.inv⟩
theorem StV.below (h : StV w F b g oK oV s ks Mp cM ms) (hb : Below w.heap.size w w') : StV w' F b g oK oV s ks Mp cM ms := h.keep hb.size fun k hk _ => hb.block k hk
theorem StV.spoil (h : StV w F b g oK oV s ks Mp cM ms) {x : Nat} (hx : x ∈ F) (h1 : x ≠ b) (h2 : x ≠ g) (hg : w.grownBy w' (some x)) : StV w' F b g oK oV s ks Mp cM ms :=
  h.keep hg.size fun k hk hc => hg.block k hk (by
    intro e; injection e with e; subst e
    rcases hc with e | e | e
    · exact e hx
    · exact h1 e
    · exact h2 e)
theorem StV.more (h : StV w F b g oK oV s ks Mp cM ms) (hF : ∀ y ∈ F', y ∈ F ∨ w.heap.size ≤ y) (hb : b ∈ F') (hg : g ∈ F') (hi : ∀ y ∈ F', y < w.heap.size) : StV w F' b g oK oV s ks Mp cM ms :=
  ⟨h.ck, h.ce, h.cl, h.ci, h.cc, h.cm, h.there, h.krow, h.kthere, h.kk, fun x hx => (h.kS x hx).more hF, h.mm, h.mrow.more hF, fun r hr => (h.mS r hr).more hF, h.mc, hb, hg, h.bg, hi, h.inv⟩
theorem StV.lenK (h : StV w F b g oK oV s ks Mp cM ms) : ks.length = s.n := by rw [← h.inv.len, ← h.kk, List.length_map]
theorem StV.lenM (h : StV w F b g oK oV s ks Mp cM ms) : ms.length ≤ 128 := by have := h.inv.lenM; rw [← h.mm, List.length_map] at this; exact this
theorem StV.kp (h : StV w F b g oK oV s ks Mp cM ms) {q : Nat} (hq : q < s.n) : ∃ x, ks[q]? = some x ∧ x.k = s.kp q ∧ w.rangeAt g (q * 8) (eKp x) ∧ FarK w F x := by
  have hl := h.lenK
  have hx : ks[q]? = some ks[q] := List.getElem?_eq_getElem (by omega)
  refine ⟨ks[q], hx, ?_, h.krow q _ hx, h.kS _ (List.getElem_mem _)⟩
  unfold Sto.kp
  rw [← h.kk, List.getElem?_map, hx]; rfl
theorem StV.put (h : StV w F b g oK oV s ks Mp cM ms) {q : Nat} {x : KpX} (hq : q < s.n) (hx : FarK w F x) (hi : SInv { s with kept := s.kept.set q x.k }) :
    StV (w.setCells g (q * 8) (eKp x)) F b g oK oV { s with kept := s.kept.set q x.k } (ks.set q x) Mp cM ms := by
  have hg := grown_sets g (eKp x) (q * 8) w
  have hs := hg.size
  have hl := h.lenK
  have hb := hg.block b (h.hi b h.bF) (by intro e; injection e with e; exact h.bg e)
  have hc : ∀ o, (w.setCells g (q * 8) (eKp x)).cell? ⟨b, o, none⟩ = w.cell? ⟨b, o, none⟩ := fun o => World.cell?_of_block hb
  have hk' : ∀ k, k < w.heap.size → k ∉ F → (w.setCells g (q * 8) (eKp x)).heap[k]? = w.heap[k]? := fun k h1 h2 => hg.block k h1 (by intro e; injection e with e; subst e; exact h2 h.gF)
  refine ⟨(hc _).trans h.ck, (hc _).trans h.ce, (hc _).trans h.cl, (hc _).trans h.ci, (hc _).trans h.cc, (hc _).trans h.cm, there_same h.there hb, fun p y hy => ?_, World.there_setCells h.kthere _ _ _, by rw [List.map_set, h.kk], fun y hy => ?_, h.mm, h.mrow.keep hs hk', fun r hr => (h.mS r hr).keep hs hk', h.mc, h.bF, h.gF, h.bg, fun y hy => Nat.lt_of_lt_of_le (h.hi y hy) hs, hi⟩
  · by_cases e : p = q
    · subst e
      rw [List.getElem?_set_self (by omega)] at hy
      injection hy with hy; subst hy
      exact rng_in h.kthere (by rw [len_eKp]; omega)
    · rw [List.getElem?_set_ne (fun e2 => e e2.symm)] at hy
      have := len_eKp x
      exact rng_out (h.krow p y hy) (by rw [len_eKp, len_eKp]; omega)
  · rcases List.mem_or_eq_of_mem_set hy with e | e
    · exact (h.kS y e).keep hs hk'
    · subst e; exact hx.keep hs hk'
end
end Go.Proofs.Ytcffhfcjfjfokaa
namespace Go.Proofs.Ytcffhfcjfjfokaa
open Go.RowKit
theorem size171 : (Try.prog.info? 171).map (·.size) = some 8 := by kernel_rfl
theorem size173 : (Try.prog.info? 173).map (·.size) = some 8 := by kernel_rfl
abbrev kpZ : Array Value := #[.int .i64 0, .int .i64 0, .int .i64 0, .int .i64 0, .int .i64 0, .int .i64 0, .slice none 0 0, .slice none 0 0]
theorem load171 {w : World} {b o : Nat} {x : KpX} (h : w.rangeAt b o (eKp x)) : (loadVar 171 ⟨b, o, none⟩).run Try.prog w = .ok (.agg (kpA x)) w :=
  run_loadVar_mid w b o 171 (kpA x).toList _ h Try.underlying171 rfl (by rw [size171]; rfl)
theorem load173 {w : World} {b o : Nat} {x : KpX} (h : w.rangeAt b o (eKp x)) : (loadVar 173 ⟨b, o, none⟩).run Try.prog w = .ok (.agg (kpA x)) w :=
  run_loadVar_mid w b o 173 (kpA x).toList _ h Try.underlying173 rfl (by rw [size173]; rfl)
theorem wp_store171 {o : Oper} {a : Act} {w : World} {K : Act → World → Prop} {Q : Exit → Act → World → Prop} (x y : Operand) (ho : o.op = .store 171 x y) (hd : o.dst = none) (b off : Nat) (hx : a.eval x = .pointer (some ⟨b, off, none⟩)) (z : KpX) (hy : a.eval y = .agg (kpA z))
    (ht : w.there b off 8) (h : ∀ w', Hid (w' = w.setCells b off (eKp z)) → K a w') : o.wp Try.prog a w K Q :=
  wp_store_mid 171 x y ho b off (kpA z) hx hy ht (by rw [size171]; rfl) (one_kpA z) (by rw [hd]; exact h _ (Lib.hid rfl))
theorem wp_store173 {o : Oper} {a : Act} {w : World} {K : Act → World → Prop} {Q : Exit → Act → World → Prop} (x y : Operand) (ho : o.op = .store 173 x y) (hd : o.dst = none) (b off : Nat) (hx : a.eval x = .pointer (some ⟨b, off, none⟩)) (z : KpX) (hy : a.eval y = .agg (kpA z))
    (ht : w.there b off 8) (h : ∀ w', Hid (w' = w.setCells b off (eKp z)) → K a w') : o.wp Try.prog a w K Q :=
  wp_store_mid 173 x y ho b off (kpA z) hx hy ht (by rw [size173]; rfl) (one_kpA z) (by rw [hd]; exact h _ (Lib.hid rfl))
set_option maxRecDepth 100000 in
set_option maxHeartbeats 600000 in
theorem here_any {w : World} {F : List Nat} {b g : Nat} {s : Sto} {ks : List KpX} {Mp : Option Addr} {cM : Nat} {ms : List Dr} (h : StV w F b g 0 1 s ks Mp cM ms) (e l i c : Int) (m : Mm) :
    Calls Try.prog 103 #[.pointer (some ⟨b, 0, none⟩), .agg #[.int .i64 e, .int .i64 l, .int .i64 i, .int .i64 c], .agg #[.int .i64 m.p, .int .i64 m.i, .int .i64 m.c]] w fun x w' => x = .returned (.bool (s.hereB e l i c m)) ∧ Below w.heap.size w w' := by
  obtain ⟨wA, hwA⟩ : ∃ wA, wA = (w.alloc (.cells #[.int .i64 e, .int .i64 l, .int .i64 i, .int .i64 c] 35)).alloc (.cells #[.int .i64 m.p, .int .i64 m.i, .int .i64 m.c] 168) := ⟨_, rfl⟩
  have hbA : Below w.heap.size w wA := by rw [hwA]; exact below_box2 _ _ _ _ _
  have zA : wA.heap.size = w.heap.size + 2 := by rw [hwA]; simp
  have oA : wA.rangeAt w.heap.size 0 [.int .i64 e, .int .i64 l, .int .i64 i, .int .i64 c] := by rw [hwA]; exact range_same (range_new w #[.int .i64 e, .int .i64 l, .int .i64 i, .int .i64 c] 35) (heap_alloc_old _ _ (by simp))
  have oB : wA.rangeAt (w.heap.size + 1) 0 [.int .i64 m.p, .int .i64 m.i, .int .i64 m.c] := by
    have := range_new (w.alloc (.cells #[.int .i64 e, .int .i64 l, .int .i64 i, .int .i64 c] 35)) #[.int .i64 m.p, .int .i64 m.i, .int .i64 m.c] 168
    rw [hwA]; rw [World.size_alloc] at this; exact this
  have hbz := h.hi b h.bF
  have hgz := h.hi g h.gF
  have hA := h.below hbA
  have L8 : ∀ W, Below wA.heap.size wA W → (loadVar 3 ⟨w.heap.size + 1, 0, none⟩).run Try.prog W = .ok (.int .i64 m.p) W := fun W hW => load3 ((hW.cell (p := ⟨w.heap.size + 1, 0, none⟩) (by show w.heap.size + 1 < _; omega)).trans (oB 0 _ rfl))
  have L23 : ∀ W, Below wA.heap.size wA W → (loadVar 135 ⟨b, 0, none⟩).run Try.prog W = .ok (.slice (some ⟨g, 0, none⟩) s.n s.n) W := fun W hW => load135 (hA.below hW).ck
  have hC : ∀ x' : Prop, (∀ W, Below wA.heap.size wA W → x') ↔ x' := fun x' => ⟨fun f => f _ (Below.refl _ _), fun f _ _ => f⟩
  have bd : Below wA.heap.size wA wA.drew := Below.drew (Below.refl _ _)
  have hve := run_eql_vid
  replace bd := Lib.hid bd
  replace L8 := Lib.hid L8
  replace L23 := Lib.hid L23
  replace oA := Lib.hid oA
  replace oB := Lib.hid oB
  replace hA := Lib.hid hA
  replace hbA := Lib.hid hbA
  replace hwA := Lib.hid hwA
  replace zA := Lib.hid zA
  replace h := Lib.hid h
  by_cases hp0 : m.p < 0
  · have he : s.hereB e l i c m = false := by unfold Sto.hereB; rw [decide_eq_false (by omega)]; rfl
    replace he := Lib.hid he
    go_enter Try.func103, Try.ntmps103
    go_wp2_with fail
    rw [← hwA.out]
    refine wp_region_ord [] [0, 1, 2, 3, 4, 5, 6, 7, 8, 9, 10, 11, 12] (fun W => Below wA.heap.size wA W) rfl (by kernel_rfl) rfl bd.out ?_
    refine WO.end_ ?_
    simp only [picks, pick, List.cons_append, List.nil_append, List.append_nil]
    repeat (first
      | go_big_quiet_skip
      | (refine wpQuiet_loadC (by rfl) 3 (.tmp 8) rfl (w.heap.size + 1) 0 (by rfl) _ L8.out ?_; simp only [Act.put, List.setIfInBounds_toArray, List.set_cons_zero, List.set_cons_succ])
      | (refine wpQuiet_loadC (by rfl) 3 (.tmp 12) rfl (w.heap.size + 1) 0 (by rfl) _ L8.out ?_; simp only [Act.put, List.setIfInBounds_toArray, List.set_cons_zero, List.set_cons_succ])
      | (refine wpQuiet_loadC (by rfl) 135 (.tmp 16) rfl b 0 (by rfl) _ L23.out ?_; simp only [Act.put, List.setIfInBounds_toArray, List.set_cons_zero, List.set_cons_succ])
      | go_big_quiet_step (fail))
    refine wpQuiet_nil ?_
    go_wp2
    go_ret
    exact ⟨ret_bool he.out.symm, hbA.out.trans (bd.out.mono (by have := zA.out; omega))⟩
  · by_cases hp1 : m.p < s.n
    · obtain ⟨q, hq⟩ := Int.eq_ofNat_of_zero_le (show 0 ≤ m.p by omega)
      have hqn : q < s.n := by omega
      obtain ⟨x, hx, hxk, hxr, hxf⟩ := hA.out.kp hqn
      have he : s.hereB e l i c m = (decide (x.k.inc ≠ 0) && decide (x.k.inc = m.i) && vidEq x.k.f.e x.k.f.l x.k.f.i x.k.f.c e l i c) := by
        unfold Sto.hereB
        rw [decide_eq_true (by omega), Bool.true_and, show m.p.toNat = q by omega, ← hxk]
      have L28 : ∀ W, Below wA.heap.size wA W → (loadVar 171 ⟨g, q * 8, none⟩).run Try.prog W = .ok (.agg (kpA x)) W := fun W hW => load171 (range_same hxr (hW.block g (by have := zA.out; omega)))
      have hq0 : (0 : Int) ≤ (q : Int) := by omega
      have hq1 : (q : Int) < (s.n : Int) := by omega
      have hn0 : decide ((q : Int) < 0) = false := decide_eq_false (by omega)
      have hn1 : decide ((s.n : Int) ≤ (q : Int)) = false := decide_eq_false (by omega)
      rw [hq] at L8
      replace he := Lib.hid he
      replace L28 := Lib.hid L28
      replace hq := Lib.hid hq
      replace hx := Lib.hid hx
      replace hxk := Lib.hid hxk
      replace hxr := Lib.hid hxr
      replace hxf := Lib.hid hxf
      clear hp0 hp1
      go_enter Try.func103, Try.ntmps103
      go_wp2_with fail
      rw [← hwA.out]
      refine wp_region_ord [] [0, 1, 2, 3, 4, 5, 6, 7, 8, 9, 10, 11, 12] (fun W => Below wA.heap.size wA W) rfl (by kernel_rfl) rfl bd.out ?_
      refine WO.end_ ?_
      simp only [picks, pick, List.cons_append, List.nil_append, List.append_nil]
      repeat (first
      | go_big_quiet_skip
      | (refine wpQuiet_loadC (by rfl) 3 (.tmp 8) rfl (w.heap.size + 1) 0 (by rfl) _ L8.out ?_; simp only [Act.put, List.setIfInBounds_toArray, List.set_cons_zero, List.set_cons_succ])
      | (refine wpQuiet_loadC (by rfl) 3 (.tmp 12) rfl (w.heap.size + 1) 0 (by rfl) _ L8.out ?_; simp only [Act.put, List.setIfInBounds_toArray, List.set_cons_zero, List.set_cons_succ])
      | (refine wpQuiet_loadC (by rfl) 135 (.tmp 16) rfl b 0 (by rfl) _ L23.out ?_; simp only [Act.put, List.setIfInBounds_toArray, List.set_cons_zero, List.set_cons_succ])
      | go_big_quiet_step (fail))
      refine wpQuiet_nil ?_
      go_wp2_with fail
      have bd2 := Lib.hid (bd.out.drew)
      refine wp_region_ord [([0, 1, 2, 3, 4, 5, 6, 7], 8), ([], 9)] [] (fun W => Below wA.heap.size wA W) rfl (by kernel_rfl) rfl bd2.out ?_
      refine WO.seg rfl ?_ bd2.out
      simp only [picks, pick, List.cons_append, List.nil_append, List.append_nil]
      repeat (first
      | go_big_quiet_skip
      | (refine wpQuiet_loadC (by rfl) 135 (.tmp 23) rfl b 0 (by rfl) _ L23.out ?_; simp only [Act.put, List.setIfInBounds_toArray, List.set_cons_zero, List.set_cons_succ])
      | (refine wpQuiet_loadC (by rfl) 3 (.tmp 25) rfl (w.heap.size + 1) 0 (by rfl) _ L8.out ?_; simp only [Act.put, List.setIfInBounds_toArray, List.set_cons_zero, List.set_cons_succ])
      | (refine wpQuiet_loadC (by rfl) 171 (.tmp 27) rfl g (q * 8) (by rfl) _ L28.out ?_; simp only [Act.put, List.setIfInBounds_toArray, List.set_cons_zero, List.set_cons_succ])
      | go_big_quiet_step (fail))
      refine wpQuiet_nil ?_
      intro K hK
      go_simp
      obtain ⟨w5, hw5⟩ : ∃ w5, w5 = (wA.alloc (.cells kpZ 171)).drew.drew := ⟨_, rfl⟩
      have t5 : w5.there wA.heap.size 0 8 := by rw [hw5]; exact there_same (there_new wA kpZ 171) rfl
      have b5 : Below wA.heap.size wA w5 := by rw [hw5]; exact ((below_box1 wA kpZ 171).drew).drew
      have z5 : w5.heap.size = wA.heap.size + 1 := by rw [hw5]; exact World.size_alloc _ _
      rw [← hw5]
      replace hw5 := Lib.hid hw5
      replace t5 := Lib.hid t5
      replace b5 := Lib.hid b5
      refine hK.out _ _ b5.out ?_
      clear hK K
      refine WO.seg rfl ?_ b5.out
      simp only [picks]
      refine wpQuiet_nil ?_
      intro K hK
      rw [if_pos (by rfl)]
      refine wp_store171 (.tmp 7) (.tmp 28) rfl rfl wA.heap.size 0 (by rfl) x (by rfl) t5.out ?_
      intro w6 hw6
      have r6 : w6.rangeAt wA.heap.size 0 (eKp x) := by rw [hw6.out]; exact rng_in t5.out (by rw [len_eKp]; omega)
      have b6 : Below wA.heap.size wA w6 := by rw [hw6.out]; exact below_sets b5.out (Nat.le_refl _) _ _ (by omega)
      refine hK.out _ _ b6 ?_
      clear hK K
      refine WO.end_ ?_
      simp only [picks]
      refine wpQuiet_nil ?_
      have a0 : w6.cell? ⟨wA.heap.size, 0, none⟩ = some (.int .i64 x.k.inc) := r6 0 _ rfl
      have a1 : w6.cell? ⟨wA.heap.size, 1, none⟩ = some (.int .i64 x.k.f.e) := r6 1 _ rfl
      have a2 : w6.cell? ⟨wA.heap.size, 2, none⟩ = some (.int .i64 x.k.f.l) := r6 2 _ rfl
      have a3 : w6.cell? ⟨wA.heap.size, 3, none⟩ = some (.int .i64 x.k.f.i) := r6 3 _ rfl
      have a4 : w6.cell? ⟨wA.heap.size, 4, none⟩ = some (.int .i64 x.k.f.c) := r6 4 _ rfl
      have q1 : w6.cell? ⟨w.heap.size + 1, 1, none⟩ = some (.int .i64 m.i) := (b6.cell (p := ⟨w.heap.size + 1, 1, none⟩) (by show w.heap.size + 1 < _; have := zA.out; omega)).trans (oB.out 1 _ rfl)
      have oA6 := range_same oA.out (b6.block w.heap.size (by have := zA.out; omega))
      have v0 : w6.cell? ⟨w.heap.size, 0, none⟩ = some (.int .i64 e) := oA6 0 _ rfl
      have v1 : w6.cell? ⟨w.heap.size, 1, none⟩ = some (.int .i64 l) := oA6 1 _ rfl
      have v2 : w6.cell? ⟨w.heap.size, 2, none⟩ = some (.int .i64 i) := oA6 2 _ rfl
      have v3 : w6.cell? ⟨w.heap.size, 3, none⟩ = some (.int .i64 c) := oA6 3 _ rfl
      have hend := hbA.out.trans (b6.mono (by have := zA.out; omega))
      replace hend := Lib.hid hend
      clear r6 b6 oA6 hw6 hC
      by_cases e0 : x.k.inc = 0
      · have n0 : (x.k.inc != 0) = false := by simp [e0]
        have he2 : s.hereB e l i c m = false := by rw [he.out, decide_eq_false (by simp [e0])]; rfl
        replace e0 := Lib.hid e0
        replace he2 := Lib.hid he2
        go_wp2
        go_ret
        exact ⟨ret_bool he2.out.symm, hend.out⟩
      · have n0 : (x.k.inc != 0) = true := by simp [e0]
        by_cases e1 : x.k.inc = m.i
        · have n1 : (x.k.inc == m.i) = true := by simp [e1]
          have he2 : s.hereB e l i c m = vidEq x.k.f.e x.k.f.l x.k.f.i x.k.f.c e l i c := by rw [he.out, decide_eq_true e0, decide_eq_true e1]; rfl
          replace e0 := Lib.hid e0
          replace e1 := Lib.hid e1
          replace he2 := Lib.hid he2
          go_wp2
          go_ret
          exact ⟨ret_bool he2.out.symm, hend.out⟩
        · have n1 : (x.k.inc == m.i) = false := by simp [e1]
          have he2 : s.hereB e l i c m = false := by rw [he.out, decide_eq_false e1]; simp
          replace e0 := Lib.hid e0
          replace e1 := Lib.hid e1
          replace he2 := Lib.hid he2
          go_wp2
          go_ret
          exact ⟨ret_bool he2.out.symm, hend.out⟩
    · have he : s.hereB e l i c m = false := by unfold Sto.hereB; rw [decide_eq_false (by omega)]; rfl
      replace he := Lib.hid he
      have hn0 : decide (m.p < 0) = false := decide_eq_false hp0
      have hn1 : (s.n : Int) ≤ m.p := by omega
      clear hp0 hp1
      go_enter Try.func103, Try.ntmps103
      go_wp2_with fail
      rw [← hwA.out]
      refine wp_region_ord [] [0, 1, 2, 3, 4, 5, 6, 7, 8, 9, 10, 11, 12] (fun W => Below wA.heap.size wA W) rfl (by kernel_rfl) rfl bd.out ?_
      refine WO.end_ ?_
      simp only [picks, pick, List.cons_append, List.nil_append, List.append_nil]
      repeat (first
      | go_big_quiet_skip
      | (refine wpQuiet_loadC (by rfl) 3 (.tmp 8) rfl (w.heap.size + 1) 0 (by rfl) _ L8.out ?_; simp only [Act.put, List.setIfInBounds_toArray, List.set_cons_zero, List.set_cons_succ])
      | (refine wpQuiet_loadC (by rfl) 3 (.tmp 12) rfl (w.heap.size + 1) 0 (by rfl) _ L8.out ?_; simp only [Act.put, List.setIfInBounds_toArray, List.set_cons_zero, List.set_cons_succ])
      | (refine wpQuiet_loadC (by rfl) 135 (.tmp 16) rfl b 0 (by rfl) _ L23.out ?_; simp only [Act.put, List.setIfInBounds_toArray, List.set_cons_zero, List.set_cons_succ])
      | go_big_quiet_step (fail))
      refine wpQuiet_nil ?_
      go_wp2
      go_ret
      exact ⟨ret_bool he.out.symm, hbA.out.trans (bd.out.mono (by have := zA.out; omega))⟩
set_option maxRecDepth 100000 in
set_option maxHeartbeats 600000 in
theorem rhere_any {w : World} {F : List Nat} {b g : Nat} {s : Sto} {ks : List KpX} {Mp : Option Addr} {cM : Nat} {ms : List Dr} (h : StV w F b g 1 2 s ks Mp cM ms) (hn : w.cell? ⟨b, 0, none⟩ = some (.int .i64 s.n)) (e l i c : Int) (m : Mm) :
    Calls Try.prog 104 #[.pointer (some ⟨b, 0, none⟩), .agg #[.int .i64 e, .int .i64 l, .int .i64 i, .int .i64 c], .agg #[.int .i64 m.p, .int .i64 m.i, .int .i64 m.c]] w fun x w' => x = .returned (.bool (s.hereB e l i c m)) ∧ Below w.heap.size w w' := by
  obtain ⟨wA, hwA⟩ : ∃ wA, wA = (w.alloc (.cells #[.int .i64 e, .int .i64 l, .int .i64 i, .int .i64 c] 35)).alloc (.cells #[.int .i64 m.p, .int .i64 m.i, .int .i64 m.c] 168) := ⟨_, rfl⟩
  have hbA : Below w.heap.size w wA := by rw [hwA]; exact below_box2 _ _ _ _ _
  have zA : wA.heap.size = w.heap.size + 2 := by rw [hwA]; simp
  have oA : wA.rangeAt w.heap.size 0 [.int .i64 e, .int .i64 l, .int .i64 i, .int .i64 c] := by rw [hwA]; exact range_same (range_new w #[.int .i64 e, .int .i64 l, .int .i64 i, .int .i64 c] 35) (heap_alloc_old _ _ (by simp))
  have oB : wA.rangeAt (w.heap.size + 1) 0 [.int .i64 m.p, .int .i64 m.i, .int .i64 m.c] := by
    have := range_new (w.alloc (.cells #[.int .i64 e, .int .i64 l, .int .i64 i, .int .i64 c] 35)) #[.int .i64 m.p, .int .i64 m.i, .int .i64 m.c] 168
    rw [hwA]; rw [World.size_alloc] at this; exact this
  have hbz := h.hi b h.bF
  have hgz := h.hi g h.gF
  have hA := h.below hbA
  have L8 : ∀ W, Below wA.heap.size wA W → (loadVar 3 ⟨w.heap.size + 1, 0, none⟩).run Try.prog W = .ok (.int .i64 m.p) W := fun W hW => load3 ((hW.cell (p := ⟨w.heap.size + 1, 0, none⟩) (by show w.heap.size + 1 < _; omega)).trans (oB 0 _ rfl))
  have L23 : ∀ W, Below wA.heap.size wA W → (loadVar 138 ⟨b, 1, none⟩).run Try.prog W = .ok (.slice (some ⟨g, 0, none⟩) s.n s.n) W := fun W hW => load138 (hA.below hW).ck
  have L16 : ∀ W, Below wA.heap.size wA W → (loadVar 3 ⟨b, 0, none⟩).run Try.prog W = .ok (.int .i64 (s.n : Int)) W := fun W hW => load3 ((hW.cell (p := ⟨b, 0, none⟩) (by show b < _; omega)).trans ((hbA.cell (p := ⟨b, 0, none⟩) hbz).trans hn))
  have hC : ∀ x' : Prop, (∀ W, Below wA.heap.size wA W → x') ↔ x' := fun x' => ⟨fun f => f _ (Below.refl _ _), fun f _ _ => f⟩
  have bd : Below wA.heap.size wA wA.drew := Below.drew (Below.refl _ _)
  have hve := run_eql_vid
  replace bd := Lib.hid bd
  replace L8 := Lib.hid L8
  replace L23 := Lib.hid L23
  replace L16 := Lib.hid L16
  replace oA := Lib.hid oA
  replace oB := Lib.hid oB
  replace hA := Lib.hid hA
  replace hbA := Lib.hid hbA
  replace hwA := Lib.hid hwA
  replace zA := Lib.hid zA
  replace h := Lib.hid h
  by_cases hp0 : m.p < 0
  · have he : s.hereB e l i c m = false := by unfold Sto.hereB; rw [decide_eq_false (by omega)]; rfl
    replace he := Lib.hid he
    go_enter Try.func104, Try.ntmps104
    go_wp2_with fail
    rw [← hwA.out]
    refine wp_region_ord [] [0, 1, 2, 3, 4, 5, 6, 7, 8, 9, 10, 11] (fun W => Below wA.heap.size wA W) rfl (by kernel_rfl) rfl bd.out ?_
    refine WO.end_ ?_
    simp only [picks, pick, List.cons_append, List.nil_append, List.append_nil]
    repeat (first
      | go_big_quiet_skip
      | (refine wpQuiet_loadC (by rfl) 3 (.tmp 8) rfl (w.heap.size + 1) 0 (by rfl) _ L8.out ?_; simp only [Act.put, List.setIfInBounds_toArray, List.set_cons_zero, List.set_cons_succ])
      | (refine wpQuiet_loadC (by rfl) 3 (.tmp 12) rfl (w.heap.size + 1) 0 (by rfl) _ L8.out ?_; simp only [Act.put, List.setIfInBounds_toArray, List.set_cons_zero, List.set_cons_succ])
      | (refine wpQuiet_loadC (by rfl) 3 (.tmp 16) rfl b 0 (by rfl) _ L16.out ?_; simp only [Act.put, List.setIfInBounds_toArray, List.set_cons_zero, List.set_cons_succ])
      | go_big_quiet_step (fail))
    refine wpQuiet_nil ?_
    go_wp2
    go_ret
    exact ⟨ret_bool he.out.symm, hbA.out.trans (bd.out.mono (by have := zA.out; omega))⟩
  · by_cases hp1 : m.p < s.n
    · obtain ⟨q, hq⟩ := Int.eq_ofNat_of_zero_le (show 0 ≤ m.p by omega)
      have hqn : q < s.n := by omega
      obtain ⟨x, hx, hxk, hxr, hxf⟩ := hA.out.kp hqn
      have he : s.hereB e l i c m = (decide (x.k.inc ≠ 0) && decide (x.k.inc = m.i) && vidEq x.k.f.e x.k.f.l x.k.f.i x.k.f.c e l i c) := by
        unfold Sto.hereB
        rw [decide_eq_true (by omega), Bool.true_and, show m.p.toNat = q by omega, ← hxk]
      have L28 : ∀ W, Below wA.heap.size wA W → (loadVar 173 ⟨g, q * 8, none⟩).run Try.prog W = .ok (.agg (kpA x)) W := fun W hW => load173 (range_same hxr (hW.block g (by have := zA.out; omega)))
      have hq0 : (0 : Int) ≤ (q : Int) := by omega
      have hq1 : (q : Int) < (s.n : Int) := by omega
      have hn0 : decide ((q : Int) < 0) = false := decide_eq_false (by omega)
      have hn1 : decide ((s.n : Int) ≤ (q : Int)) = false := decide_eq_false (by omega)
      rw [hq] at L8
      replace he := Lib.hid he
      replace L28 := Lib.hid L28
      replace hq := Lib.hid hq
      replace hx := Lib.hid hx
      replace hxk := Lib.hid hxk
      replace hxr := Lib.hid hxr
      replace hxf := Lib.hid hxf
      clear hp0 hp1
      go_enter Try.func104, Try.ntmps104
      go_wp2_with fail
      rw [← hwA.out]
      refine wp_region_ord [] [0, 1, 2, 3, 4, 5, 6, 7, 8, 9, 10, 11] (fun W => Below wA.heap.size wA W) rfl (by kernel_rfl) rfl bd.out ?_
      refine WO.end_ ?_
      simp only [picks, pick, List.cons_append, List.nil_append, List.append_nil]
      repeat (first
      | go_big_quiet_skip
      | (refine wpQuiet_loadC (by rfl) 3 (.tmp 8) rfl (w.heap.size + 1) 0 (by rfl) _ L8.out ?_; simp only [Act.put, List.setIfInBounds_toArray, List.set_cons_zero, List.set_cons_succ])
      | (refine wpQuiet_loadC (by rfl) 3 (.tmp 12) rfl (w.heap.size + 1) 0 (by rfl) _ L8.out ?_; simp only [Act.put, List.setIfInBounds_toArray, List.set_cons_zero, List.set_cons_succ])
      | (refine wpQuiet_loadC (by rfl) 3 (.tmp 16) rfl b 0 (by rfl) _ L16.out ?_; simp only [Act.put, List.setIfInBounds_toArray, List.set_cons_zero, List.set_cons_succ])
      | go_big_quiet_step (fail))
      refine wpQuiet_nil ?_
      go_wp2_with fail
      have bd2 := Lib.hid (bd.out.drew)
      refine wp_region_ord [([0, 1, 2, 3, 4, 5, 6, 7], 8), ([], 9)] [] (fun W => Below wA.heap.size wA W) rfl (by kernel_rfl) rfl bd2.out ?_
      refine WO.seg rfl ?_ bd2.out
      simp only [picks, pick, List.cons_append, List.nil_append, List.append_nil]
      repeat (first
      | go_big_quiet_skip
      | (refine wpQuiet_loadC (by rfl) 138 (.tmp 22) rfl b 1 (by rfl) _ L23.out ?_; simp only [Act.put, List.setIfInBounds_toArray, List.set_cons_zero, List.set_cons_succ])
      | (refine wpQuiet_loadC (by rfl) 3 (.tmp 24) rfl (w.heap.size + 1) 0 (by rfl) _ L8.out ?_; simp only [Act.put, List.setIfInBounds_toArray, List.set_cons_zero, List.set_cons_succ])
      | (refine wpQuiet_loadC (by rfl) 173 (.tmp 26) rfl g (q * 8) (by rfl) _ L28.out ?_; simp only [Act.put, List.setIfInBounds_toArray, List.set_cons_zero, List.set_cons_succ])
      | go_big_quiet_step (fail))
      refine wpQuiet_nil ?_
      intro K hK
      go_simp
      obtain ⟨w5, hw5⟩ : ∃ w5, w5 = (wA.alloc (.cells kpZ 173)).drew.drew := ⟨_, rfl⟩
      have t5 : w5.there wA.heap.size 0 8 := by rw [hw5]; exact there_same (there_new wA kpZ 173) rfl
      have b5 : Below wA.heap.size wA w5 := by rw [hw5]; exact ((below_box1 wA kpZ 173).drew).drew
      have z5 : w5.heap.size = wA.heap.size + 1 := by rw [hw5]; exact World.size_alloc _ _
      rw [← hw5]
      replace hw5 := Lib.hid hw5
      replace t5 := Lib.hid t5
      replace b5 := Lib.hid b5
      refine hK.out _ _ b5.out ?_
      clear hK K
      refine WO.seg rfl ?_ b5.out
      simp only [picks]
      refine wpQuiet_nil ?_
      intro K hK
      rw [if_pos (by rfl)]
      refine wp_store173 (.tmp 7) (.tmp 27) rfl rfl wA.heap.size 0 (by rfl) x (by rfl) t5.out ?_
      intro w6 hw6
      have r6 : w6.rangeAt wA.heap.size 0 (eKp x) := by rw [hw6.out]; exact rng_in t5.out (by rw [len_eKp]; omega)
      have b6 : Below wA.heap.size wA w6 := by rw [hw6.out]; exact below_sets b5.out (Nat.le_refl _) _ _ (by omega)
      refine hK.out _ _ b6 ?_
      clear hK K
      refine WO.end_ ?_
      simp only [picks]
      refine wpQuiet_nil ?_
      have a0 : w6.cell? ⟨wA.heap.size, 0, none⟩ = some (.int .i64 x.k.inc) := r6 0 _ rfl
      have a1 : w6.cell? ⟨wA.heap.size, 1, none⟩ = some (.int .i64 x.k.f.e) := r6 1 _ rfl
      have a2 : w6.cell? ⟨wA.heap.size, 2, none⟩ = some (.int .i64 x.k.f.l) := r6 2 _ rfl
      have a3 : w6.cell? ⟨wA.heap.size, 3, none⟩ = some (.int .i64 x.k.f.i) := r6 3 _ rfl
      have a4 : w6.cell? ⟨wA.heap.size, 4, none⟩ = some (.int .i64 x.k.f.c) := r6 4 _ rfl
      have q1 : w6.cell? ⟨w.heap.size + 1, 1, none⟩ = some (.int .i64 m.i) := (b6.cell (p := ⟨w.heap.size + 1, 1, none⟩) (by show w.heap.size + 1 < _; have := zA.out; omega)).trans (oB.out 1 _ rfl)
      have oA6 := range_same oA.out (b6.block w.heap.size (by have := zA.out; omega))
      have v0 : w6.cell? ⟨w.heap.size, 0, none⟩ = some (.int .i64 e) := oA6 0 _ rfl
      have v1 : w6.cell? ⟨w.heap.size, 1, none⟩ = some (.int .i64 l) := oA6 1 _ rfl
      have v2 : w6.cell? ⟨w.heap.size, 2, none⟩ = some (.int .i64 i) := oA6 2 _ rfl
      have v3 : w6.cell? ⟨w.heap.size, 3, none⟩ = some (.int .i64 c) := oA6 3 _ rfl
      have hend := hbA.out.trans (b6.mono (by have := zA.out; omega))
      replace hend := Lib.hid hend
      clear r6 b6 oA6 hw6 hC
      by_cases e0 : x.k.inc = 0
      · have n0 : (x.k.inc != 0) = false := by simp [e0]
        have he2 : s.hereB e l i c m = false := by rw [he.out, decide_eq_false (by simp [e0])]; rfl
        replace e0 := Lib.hid e0
        replace he2 := Lib.hid he2
        go_wp2
        go_ret
        exact ⟨ret_bool he2.out.symm, hend.out⟩
      · have n0 : (x.k.inc != 0) = true := by simp [e0]
        by_cases e1 : x.k.inc = m.i
        · have n1 : (x.k.inc == m.i) = true := by simp [e1]
          have he2 : s.hereB e l i c m = vidEq x.k.f.e x.k.f.l x.k.f.i x.k.f.c e l i c := by rw [he.out, decide_eq_true e0, decide_eq_true e1]; rfl
          replace e0 := Lib.hid e0
          replace e1 := Lib.hid e1
          replace he2 := Lib.hid he2
          go_wp2
          go_ret
          exact ⟨ret_bool he2.out.symm, hend.out⟩
        · have n1 : (x.k.inc == m.i) = false := by simp [e1]
          have he2 : s.hereB e l i c m = false := by rw [he.out, decide_eq_false e1]; simp
          replace e0 := Lib.hid e0
          replace e1 := Lib.hid e1
          replace he2 := Lib.hid he2
          go_wp2
          go_ret
          exact ⟨ret_bool he2.out.symm, hend.out⟩
    · have he : s.hereB e l i c m = false := by unfold Sto.hereB; rw [decide_eq_false (by omega)]; rfl
      replace he := Lib.hid he
      have hn0 : decide (m.p < 0) = false := decide_eq_false hp0
      have hn1 : (s.n : Int) ≤ m.p := by omega
      clear hp0 hp1
      go_enter Try.func104, Try.ntmps104
      go_wp2_with fail
      rw [← hwA.out]
      refine wp_region_ord [] [0, 1, 2, 3, 4, 5, 6, 7, 8, 9, 10, 11] (fun W => Below wA.heap.size wA W) rfl (by kernel_rfl) rfl bd.out ?_
      refine WO.end_ ?_
      simp only [picks, pick, List.cons_append, List.nil_append, List.append_nil]
      repeat (first
      | go_big_quiet_skip
      | (refine wpQuiet_loadC (by rfl) 3 (.tmp 8) rfl (w.heap.size + 1) 0 (by rfl) _ L8.out ?_; simp only [Act.put, List.setIfInBounds_toArray, List.set_cons_zero, List.set_cons_succ])
      | (refine wpQuiet_loadC (by rfl) 3 (.tmp 12) rfl (w.heap.size + 1) 0 (by rfl) _ L8.out ?_; simp only [Act.put, List.setIfInBounds_toArray, List.set_cons_zero, List.set_cons_succ])
      | (refine wpQuiet_loadC (by rfl) 3 (.tmp 16) rfl b 0 (by rfl) _ L16.out ?_; simp only [Act.put, List.setIfInBounds_toArray, List.set_cons_zero, List.set_cons_succ])
      | go_big_quiet_step (fail))
      refine wpQuiet_nil ?_
      go_wp2
      go_ret
      exact ⟨ret_bool he.out.symm, hbA.out.trans (bd.out.mono (by have := zA.out; omega))⟩
end Go.Proofs.Ytcffhfcjfjfokaa
