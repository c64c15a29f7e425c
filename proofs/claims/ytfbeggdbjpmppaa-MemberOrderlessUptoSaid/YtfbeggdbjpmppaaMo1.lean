/- OrdLaw OrdPre OrdPre2, joined. -/
import Derived.Test.YtfbeggdbjpmppaaMr1
import Derived.Test.YtfbeggdbjpmppaaMr2
set_option linter.unusedVariables false
set_option linter.unusedSimpArgs false
/- MemberOrderless: in a change the order of other nodes' proposals does not matter. No program in sight. -/
namespace Go.Proofs.Ytfbeggdbjpmppaa
/-- In a change Vec is what was heard. -/
def Hrd (s : St) : Prop := s.opn = true → s.own.vec = s.heard
theorem begin_hrd (s : St) (x : List Int) : Hrd (s.begin_ x) := fun _ => rfl
theorem estimate_hrd {s : St} (h : Hrd s) (l : List Int) : Hrd (s.estimate l).2.2 := by
  unfold St.estimate
  split
  · exact h
  · split
    · exact h
    · split
      · exact h
      · exact begin_hrd _ _
theorem take_hrd {s : St} (h : Hrd s) (q inc : Int) (p : Pr) : Hrd (s.take q inc p).2.2 := by
  unfold St.take
  split
  · exact h
  · split
    · exact h
    · split
      · exact h
      · split
        · exact h
        · dsimp only
          split
          · split
            · rename_i h6
              exact fun _ => h6.symm
            · split
              · exact fun _ => rfl
              · exact h
          · rename_i h5
            split
            · exact fun e => absurd e h5
            · split
              · exact h
              · exact begin_hrd _ _
theorem install_hrd {s : St} (h : Hrd s) : Hrd s.install := by
  unfold St.install
  split
  · exact fun e => by cases e
  · exact h
theorem new_hrd {n self : Nat} {inc floor : Int} (h : newB n self inc floor = true) : Hrd (newSt n self inc floor) := fun _ => by
  unfold newB at h
  simp only [decide_eq_true_eq] at h
  show zeros.set self (floor + 1) = (newSt n self inc floor).heard
  unfold St.heard
  apply List.ext_getElem?
  intro j
  by_cases hj : j < 16
  · rw [List.getElem?_map, List.getElem?_range hj]
    have hlt : (newSt n self inc floor).lt j = Lt.zero := by
      show (List.replicate 16 Lt.zero)[j]?.getD Lt.zero = _
      rw [List.getElem?_replicate]; split <;> rfl
    by_cases e : self = j
    · subst e
      rw [List.getElem?_set_self (by rw [len_zeros]; exact hj)]
      show _ = some ((newSt n self inc floor).vecAt self)
      unfold St.vecAt
      rw [if_pos (show self = (newSt n self inc floor).self from rfl)]; rfl
    · rw [List.getElem?_set_ne e]
      show zeros[j]? = some ((newSt n self inc floor).vecAt j)
      unfold St.vecAt
      rw [if_neg (fun e2 => e e2.symm), if_neg (by rintro ⟨_, h2⟩; unfold St.matB at h2; rw [hlt] at h2; simp [Lt.zero] at h2)]
      unfold zeros
      rw [List.getElem?_replicate, if_pos hj]
  · rw [List.getElem?_eq_none (by rw [List.length_set, len_zeros]; omega), List.getElem?_eq_none (by simp; omega)]
/-- The state with other last proposals and another Rev. -/
def St.nf (s : St) (o : List Lt) (r : Int) : St := { s with oth := o, own := { s.own with vec := ({ s with oth := o } : St).heard, rev := r } }
theorem nf_nf (s : St) (o o' : List Lt) (r r' : Int) : (s.nf o r).nf o' r' = s.nf o' r' := rfl
theorem nf_self {s : St} (h : Hrd s) (ho : s.opn = true) : s.nf s.oth s.own.rev = s := by
  have e : ({ s with oth := s.oth } : St).heard = s.own.vec := (h ho).symm
  unfold St.nf
  rw [e]
structure Tell where
  q : Int
  i : Int
  p : Pr
def St.acc (s : St) (x : Tell) : Bool := decide (¬ (x.q < 0 ∨ (s.n : Int) ≤ x.q ∨ x.q = s.self ∨ x.i < 1 ∨ 4611686018427387904 < x.i)) && x.p.goodB x.q.toNat x.i s.n && decide (¬ (x.i < (s.lt x.q.toNat).inc)) && decide (¬ ((s.lt x.q.toNat).inc = x.i ∧ x.p.rev ≤ (s.lt x.q.toNat).w.rev))
def St.dif (s : St) (x : Tell) : Int := if (s.put x.q.toNat x.i x.p.wish).vecAt x.q.toNat = s.vecAt x.q.toNat then 0 else 1
/-- What a take does in a change where Rev is not spent. -/
def St.tell (s : St) (x : Tell) : St := if s.acc x then s.nf (s.oth.set x.q.toNat ⟨x.i, x.p.wish⟩) (s.own.rev + s.dif x) else s
theorem vecAt_lt {s t : St} (hn : t.n = s.n) (hs : t.self = s.self) (hc : t.own.cid = s.own.cid) (hx : t.own.set = s.own.set) {q : Nat} (hl : t.lt q = s.lt q) : t.vecAt q = s.vecAt q := by
  unfold St.vecAt St.matB
  rw [hn, hs, hc, hx, hl]
theorem heard_put {s : St} {q : Nat} {inc : Int} {w : Wish} (hq : q < 16) : (s.put q inc w).heard = s.heard ↔ (s.put q inc w).vecAt q = s.vecAt q := by
  constructor
  · intro h
    have := congrArg (fun l => nth l q) h
    simp only [nth_heard hq] at this
    exact this
  · intro h
    unfold St.heard
    apply List.map_congr_left
    intro j _
    by_cases e : q = j
    · subst e; exact h
    · exact vecAt_lt (s := s) (t := s.put q inc w) rfl rfl rfl rfl (lt_put_ne e)
theorem take_tell {s : St} (hi : Inv s) (h : Hrd s) (ho : s.opn = true) (hr : s.own.rev < 4611686018427387904) (x : Tell) : (s.take x.q x.i x.p).2.2 = s.tell x := by
  unfold St.take St.tell St.acc
  by_cases h1 : x.q < 0 ∨ (s.n : Int) ≤ x.q ∨ x.q = s.self ∨ x.i < 1 ∨ 4611686018427387904 < x.i
  · rw [if_pos h1]; simp [h1]
  · rw [if_neg h1]
    by_cases h2 : x.p.goodB x.q.toNat x.i s.n = false
    · rw [if_pos h2]; simp [h2]
    · rw [if_neg h2]
      by_cases h3 : x.i < (s.lt x.q.toNat).inc
      · rw [if_pos h3]; simp [h3]
      · rw [if_neg h3]
        by_cases h4 : (s.lt x.q.toNat).inc = x.i ∧ x.p.rev ≤ (s.lt x.q.toNat).w.rev
        · rw [if_pos h4]; simp [h4]
        · rw [if_neg h4]
          have h2' : x.p.goodB x.q.toNat x.i s.n = true := by simpa using h2
          have e : (decide (¬ (x.q < 0 ∨ (s.n : Int) ≤ x.q ∨ x.q = s.self ∨ x.i < 1 ∨ 4611686018427387904 < x.i)) && x.p.goodB x.q.toNat x.i s.n && decide (¬ (x.i < (s.lt x.q.toNat).inc)) && decide (¬ ((s.lt x.q.toNat).inc = x.i ∧ x.p.rev ≤ (s.lt x.q.toNat).w.rev))) = true := by
            rw [decide_eq_true h1, h2', decide_eq_true h3, decide_eq_true h4]; rfl
          rw [if_pos e, if_pos ho]
          have hq : x.q.toNat < 16 := by have := hi.n2; omega
          have hv : (s.put x.q.toNat x.i x.p.wish).own.vec = s.heard := h ho
          dsimp only
          rw [hv]
          unfold St.dif
          by_cases h5 : (s.put x.q.toNat x.i x.p.wish).heard = s.heard
          · rw [if_pos h5, if_pos ((heard_put hq).1 h5), Int.add_zero]
            show s.put x.q.toNat x.i x.p.wish = _
            unfold St.nf
            have e2 : ({ s with oth := s.oth.set x.q.toNat ⟨x.i, x.p.wish⟩ } : St).heard = s.own.vec := h5.trans (h ho).symm
            rw [e2]; rfl
          · rw [if_neg h5, if_neg (fun e3 => h5 ((heard_put hq).2 e3)), if_pos (show (s.put x.q.toNat x.i x.p.wish).own.rev < 4611686018427387904 from hr)]
            rfl
theorem tell_n (s : St) (x : Tell) : (s.tell x).n = s.n ∧ (s.tell x).self = s.self ∧ (s.tell x).opn = s.opn ∧ (s.tell x).own.cid = s.own.cid ∧ (s.tell x).own.set = s.own.set := by
  unfold St.tell
  split <;> exact ⟨rfl, rfl, rfl, rfl, rfl⟩
theorem tell_lt (s : St) (x : Tell) {q : Nat} (hq : q ≠ x.q.toNat) : (s.tell x).lt q = s.lt q := by
  unfold St.tell
  split
  · exact lt_put_ne (inc := x.i) (w := x.p.wish) (Ne.symm hq)
  · rfl
theorem tell_acc (s : St) {x y : Tell} (h : y.q.toNat ≠ x.q.toNat) : (s.tell x).acc y = s.acc y := by
  obtain ⟨h1, h2, _⟩ := tell_n s x
  unfold St.acc
  rw [tell_lt s x h, h1, h2]
theorem tell_dif (s : St) (hi : s.oth.length = 16) {x y : Tell} (hy : y.q.toNat < 16) (h : y.q.toNat ≠ x.q.toNat) : (s.tell x).dif y = s.dif y := by
  obtain ⟨h1, h2, h3, h4, h5⟩ := tell_n s x
  have hl : (s.tell x).oth.length = 16 := by
    unfold St.tell; split
    · show (s.oth.set _ _).length = 16; rw [List.length_set]; exact hi
    · exact hi
  unfold St.dif
  rw [vecAt_lt (t := (s.tell x).put y.q.toNat y.i y.p.wish) (s := s.put y.q.toNat y.i y.p.wish) h1 h2 h4 h5 ((lt_put_same (by rw [hl]; exact hy)).trans (lt_put_same (by rw [hi]; exact hy)).symm),
    vecAt_lt h1 h2 h4 h5 (tell_lt s x h)]
theorem tell_comm (s : St) (hi : s.oth.length = 16) {x y : Tell} (hx : x.q.toNat < 16) (hy : y.q.toNat < 16) (h : y.q.toNat ≠ x.q.toNat) : (s.tell x).tell y = (s.tell y).tell x := by
  have a1 := tell_acc s h
  have a2 := tell_acc s (Ne.symm h)
  have d1 := tell_dif s hi hy h
  have d2 := tell_dif s hi hx (Ne.symm h)
  rw [St.tell, a1, d1]
  conv => rhs; rw [St.tell, a2, d2]
  by_cases e1 : s.acc x = true
  · by_cases e2 : s.acc y = true
    · rw [if_pos e1, if_pos e2]
      unfold St.tell
      rw [if_pos e1, if_pos e2, nf_nf, nf_nf]
      show s.nf ((s.oth.set _ _).set _ _) (s.own.rev + s.dif x + s.dif y) = s.nf ((s.oth.set _ _).set _ _) (s.own.rev + s.dif y + s.dif x)
      rw [List.set_comm _ _ h.symm, Int.add_right_comm]
    · rw [if_pos e1, if_neg e2]
      unfold St.tell
      rw [if_pos e1, if_neg e2]
  · by_cases e2 : s.acc y = true
    · rw [if_neg e1, if_pos e2]
      unfold St.tell
      rw [if_neg e1, if_pos e2]
    · rw [if_neg e1, if_neg e2]
      unfold St.tell
      rw [if_neg e1, if_neg e2]
theorem tell_len (s : St) (x : Tell) (hi : s.oth.length = 16) : (s.tell x).oth.length = 16 := by
  unfold St.tell; split
  · show (s.oth.set _ _).length = 16; rw [List.length_set]; exact hi
  · exact hi
theorem tell_last (x : Tell) (hx : x.q.toNat < 16) : ∀ (l : List Tell) (s : St), s.oth.length = 16 → (∀ y ∈ l, y.q.toNat < 16 ∧ y.q.toNat ≠ x.q.toNat) → l.foldl St.tell (s.tell x) = (l.foldl St.tell s).tell x
  | [], _, _, _ => rfl
  | y :: l, s, hs, h => by
    obtain ⟨h1, h2⟩ := h y (List.mem_cons_self ..)
    rw [List.foldl_cons, List.foldl_cons, tell_comm s hs hx h1 h2]
    exact tell_last x hx l (s.tell y) (tell_len s y hs) (fun z hz => h z (List.mem_cons_of_mem _ hz))
/-- In whatever order. -/
theorem tell_reverse : ∀ (l : List Tell) (s : St), s.oth.length = 16 → (∀ y ∈ l, y.q.toNat < 16) → l.Pairwise (fun x y => y.q.toNat ≠ x.q.toNat) → l.reverse.foldl St.tell s = l.foldl St.tell s
  | [], _, _, _, _ => rfl
  | x :: l, s, hs, h, hp => by
    obtain ⟨h1, h2⟩ := List.pairwise_cons.1 hp
    rw [List.reverse_cons, List.foldl_append, tell_reverse l s hs (fun y hy => h y (List.mem_cons_of_mem _ hy)) h2, List.foldl_cons, List.foldl_nil, List.foldl_cons]
    exact (tell_last x (h x (List.mem_cons_self ..)) l s hs (fun y hy => ⟨h y (List.mem_cons_of_mem _ hy), h1 y hy⟩)).symm
/-- What holds while they are taken. -/
structure Telling (s t : St) (k : Nat) : Prop where
  inv : Inv t
  rinv : RInv t
  hrd : Hrd t
  opn : t.opn = true
  rev : t.own.rev ≤ s.own.rev + k
theorem telling_step {s t : St} {k : Nat} (h : Telling s t k) (hr : s.own.rev ≤ 4611686018427387904 - 100) (hk : k < 16) (x : Tell) : (t.take x.q x.i x.p).2.2 = t.tell x ∧ Telling s (t.tell x) (k + 1) := by
  have e := take_tell h.inv h.hrd h.opn (by have := h.rev; omega) x
  have h1 := take_inv h.inv x.q x.i x.p
  have h2 := take_rinv h.rinv h.inv x.q x.i x.p
  have h3 := take_hrd h.hrd x.q x.i x.p
  rw [e] at h1 h2 h3
  refine ⟨e, h1, h2, h3, (tell_n t x).2.2.1.trans h.opn, ?_⟩
  have := h.rev
  unfold St.tell
  split
  · show t.own.rev + t.dif x ≤ _
    unfold St.dif
    split <;> omega
  · omega
end Go.Proofs.Ytfbeggdbjpmppaa
/- MemberOrderless: two agents in one memory; any call; told proposals as they lie. -/
namespace Go.Proofs.Ytfbeggdbjpmppaa
open Go.RowKit
/-- What call does. -/
def callT (o : OpD) (s : St) : Int × St := if o.k = 5 then (agE s.agreed, s.install) else callS o s
theorem callT_inv {s : St} (hi : Inv s) (hr : RInv s) (hh : Hrd s) (o : OpD) : Inv (callT o s).2 ∧ RInv (callT o s).2 ∧ Hrd (callT o s).2 := by
  unfold callT
  split
  · exact ⟨install_inv hi, install_rinv hr hi, install_hrd hh⟩
  · refine ⟨(callS_inv hi hr o).1, (callS_inv hi hr o).2, ?_⟩
    unfold callS
    split
    · exact estimate_hrd hh _
    · split
      · exact take_hrd hh _ _ _
      · exact hh
def CaPost (w0 : World) (a : Nat) (F : List Nat) (o : OpD) (s : St) (w : World) (x : Ending) (w' : World) : Prop :=
  x = .returned (.int .i64 (callT o s).1) ∧ ∃ M cM, Solo w0 a F (callT o s).2 M cM w' ∧ w.grownBy w' (some a)
set_option maxRecDepth 100000 in
set_option maxHeartbeats 4000000 in
theorem call_all (w0 : World) (a : Nat) (F : List Nat) (s : St) (M : Option Addr) (cM : Nat) (o : OpD) (P : OpP) (w : World) (h : Solo w0 a F s M cM w) (ho : OpAt w0 w0.heap.size o P) :
    Calls Try.prog 32 #[.pointer (some ⟨a, 0, none⟩), .agg (opA o P)] w (CaPost w0 a F o s w) := by
  by_cases h5 : o.k = 5
  · obtain ⟨wA, hwA⟩ : ∃ wA, wA = w.alloc (.cells (opA o P) 71) := ⟨_, rfl⟩
    have hbA : Below w.heap.size w wA := by rw [hwA]; exact below_box1 _ _ _
    have oA : wA.rangeAt w.heap.size 0 (opA o P).toList := by rw [hwA]; exact range_new w (opA o P) 71
    obtain ⟨v, hv⟩ : ∃ v, v = w.heap.size := ⟨_, rfl⟩
    have DA := h.below hbA
    rw [← hv] at oA
    have c0 : wA.cell? ⟨v, 0, none⟩ = some (.int .i64 o.k) := oA 0 _ rfl
    have e : callT o s = (agE s.agreed, s.install) := if_pos h5
    have b1 : (o.k == 1) = false := by simp [h5]
    have b2 : (o.k == 2) = false := by simp [h5]
    have b5 : (o.k == 5) = true := by simp [h5]
    have g0 : w.grownBy wA (some a) := World.grownBy.but (grown_below hbA) _
    unfold CaPost
    rw [e]
    replace e := Lib.hid e
    replace h5 := Lib.hid h5
    replace hwA := Lib.hid hwA
    replace hv := Lib.hid hv
    replace DA := Lib.hid DA
    replace oA := Lib.hid oA
    replace h := Lib.hid h
    replace g0 := Lib.hid g0
    clear ho hbA
    go_enter Try.func32, Try.ntmps32
    go_wp2_with fail
    rw [← hwA.out, ← hv.out]
    go_wp2_with (first
      | (go_at_call 27
         refine (install_solo DA.out).mono ?_
         rintro x w2 ⟨A, c, T, cT, M', cM', rfl, -, -, D2, g2⟩
         replace D2 := Lib.hid D2
         replace g2 := Lib.hid g2)
      | fail)
    go_ret
    exact ⟨rfl, M', cM', D2.out, g0.out.trans g2.out⟩
  · have e : callT o s = callS o s := if_neg h5
    have hri := callS_inv h.inv h.rinv o
    refine (call_any w0 a F s M cM o P w h ho h5).mono ?_
    rintro x w' ⟨rfl, hl⟩
    unfold CaPost
    rw [e]
    exact ⟨rfl, M, cM, h.prog hl (callS_mem s o) hri.1 hri.2, hl.grown⟩
/-- Two agents of the program. -/
structure Two (w0 : World) (a b : Nat) (F : List Nat) (s t : St) (M : Option Addr) (cM : Nat) (M' : Option Addr) (cM' : Nat) (w : World) : Prop where
  A : Solo w0 a F s M cM w
  B : Solo w0 b F t M' cM' w
  ne : a ≠ b
section
variable {w0 w w' : World} {a b : Nat} {F : List Nat} {s t s' t' : St} {M : Option Addr} {cM : Nat} {M' : Option Addr} {cM' : Nat} {M2 : Option Addr} {cM2 : Nat}
theorem Two.below (h : Two w0 a b F s t M cM M' cM' w) (hb : Below w.heap.size w w') : Two w0 a b F s t M cM M' cM' w' := ⟨h.A.below hb, h.B.below hb, h.ne⟩
theorem Two.first (h : Two w0 a b F s t M cM M' cM' w) (hA : Solo w0 a F s' M2 cM2 w') (hg : w.grownBy w' (some a)) : Two w0 a b F s' t M2 cM2 M' cM' w' := ⟨hA, h.B.spoil h.A.aF h.ne hg, h.ne⟩
theorem Two.second (h : Two w0 a b F s t M cM M' cM' w) (hB : Solo w0 b F t' M2 cM2 w') (hg : w.grownBy w' (some b)) : Two w0 a b F s t' M cM M2 cM2 w' := ⟨h.A.spoil h.B.aF h.ne.symm hg, hB, h.ne⟩
theorem Two.add (h : Two w0 a b F s t M cM M' cM' w) (hb : Below w.heap.size w w') {g : Nat} (hg1 : w.heap.size ≤ g) (hg2 : g < w'.heap.size) : Two w0 a b (g :: F) s t M cM M' cM' w' := ⟨h.A.add hb hg1 hg2, h.B.add hb hg1 hg2, h.ne⟩
theorem Two.spoil (h : Two w0 a b F s t M cM M' cM' w) {x : Nat} (hx : x ∈ F) (hxa : x ≠ a) (hxb : x ≠ b) (hg : w.grownBy w' (some x)) : Two w0 a b F s t M cM M' cM' w' := ⟨h.A.spoil hx hxa hg, h.B.spoil hx hxb hg, h.ne⟩
end
/-- A told proposal with where its lists lie. -/
structure TellX where
  x : Tell
  S : Option Addr
  cS : Nat
  V : Option Addr
  cV : Nat
abbrev toA (y : TellX) : Array Value := #[.int .i64 y.x.q, .int .i64 y.x.i, .slice y.S y.x.p.set.length y.cS, .int .i64 y.x.p.cid, .int .i64 y.x.p.rev, .int .i64 y.x.p.top, .int .i64 y.x.p.prev.e, .int .i64 y.x.p.prev.l, .int .i64 y.x.p.prev.i, .int .i64 y.x.p.prev.c, .slice y.V y.x.p.vec.length y.cV]
def eTo (y : TellX) : List Value := (toA y).toList
theorem len_eTo (y : TellX) : (eTo y).length = 11 := rfl
theorem one_eTo (y : TellX) : ∀ u ∈ eTo y, u.oneCell' = true := by
  intro u hu
  unfold eTo at hu
  simp only [List.mem_cons, List.not_mem_nil, or_false] at hu
  rcases hu with rfl | rfl | rfl | rfl | rfl | rfl | rfl | rfl | rfl | rfl | rfl <;> rfl
abbrev toZ : Array Value := #[.int .i64 0, .int .i64 0, .slice none 0 0, .int .i64 0, .int .i64 0, .int .i64 0, .int .i64 0, .int .i64 0, .int .i64 0, .int .i64 0, .slice none 0 0]
theorem info85 : (Try.prog.info? 85).map (fun i => (i.zero, i.size, i.bytes)) = some (some (.agg toZ), 11, 120) := by kernel_rfl
theorem size85 : (Try.prog.info? 85).map (·.size) = some 11 := by kernel_rfl
theorem load85r {w : World} {b o : Nat} {y : TellX} (h : w.rangeAt b o (eTo y)) : (loadVar 85 ⟨b, o, none⟩).run Try.prog w = .ok (.agg (toA y)) w :=
  run_loadVar_mid w b o 85 (toA y).toList _ h Try.underlying85 rfl (by rw [size85]; rfl)
section
variable {ops : Array Oper} {rest : List Oper} {op : Oper} {a : Act} {w : World} {Q : Exit → Act → World → Prop}
theorem wpList_store85 (hgd : op.guard = none) (x y : Operand) (ho : op.op = .store 85 x y) (b off : Nat) (hx : a.eval x = .pointer (some ⟨b, off, none⟩)) (z : TellX) (hy : a.eval y = .agg (toA z)) (ht : w.there b off 11)
    (h : ∀ w', Hid (w' = w.setCells b off (toA z).toList) → wpList Try.prog ops Q rest (a.put op.dst undef) w') : wpList Try.prog ops Q (op :: rest) a w :=
  wpList_store_mid hgd 85 x y ho b off (toA z) hx hy ht (by rw [size85]; rfl) (by exact all_oneCell_toArray (one_eTo z)) (h _ (Lib.hid rfl))
end
/-- What is told, as it came in. -/
structure ToldAt (w : World) (N : Nat) (A : Option Addr) (tl : List TellX) : Prop where
  row : RowAt w N 11 eTo A tl
  each : ∀ y ∈ tl, RowAt w N 1 eInt y.S y.x.p.set ∧ RowAt w N 1 eInt y.V y.x.p.vec ∧ y.x.p.set.length ≤ 2000000 ∧ y.x.p.vec.length ≤ 2000000
  len : tl.length < 1000000
theorem ToldAt.up {w w' : World} {N N' : Nat} {A : Option Addr} {tl : List TellX} (h : ToldAt w N A tl) (hb : Below N w w') (hN : N ≤ N') : ToldAt w' N' A tl :=
  ⟨(h.row.below hb (Nat.le_refl _)).more hN, fun y hy => by
    obtain ⟨h1, h2, h3, h4⟩ := h.each y hy
    exact ⟨(h1.below hb (Nat.le_refl _)).more hN, (h2.below hb (Nat.le_refl _)).more hN, h3, h4⟩, h.len⟩
/-- The proposal of a told one. -/
theorem to31 {w : World} {u o : Nat} {y : TellX} (h : w.rangeAt u o (eTo y)) : (loadVar 31 ⟨u, o + 2, none⟩).run Try.prog w = .ok (.agg (prA y.S y.V y.cS y.cV y.x.p)) w := by
  refine load31r (S := y.S) (n := y.x.p.set.length) (cS := y.cS) (V := y.V) (m := y.x.p.vec.length) (cV := y.cV) (p := y.x.p) (fun j v hv => ?_)
  have := h (2 + j) v (by show (.int .i64 y.x.q :: .int .i64 y.x.i :: (prV y.S y.x.p.set.length y.cS y.V y.x.p.vec.length y.cV y.x.p).toList)[2 + j]? = some v; rw [Nat.add_comm 2 j]; exact hv)
  rwa [← Nat.add_assoc] at this
end Go.Proofs.Ytfbeggdbjpmppaa
/- MemberOrderless: the list of the first sixteen that differ. -/
namespace Go.Proofs.Ytfbeggdbjpmppaa
open Go.RowKit
theorem load57 {w : World} {b o n c : Nat} {A : Option Addr} (h : w.cell? ⟨b, o, none⟩ = some (.slice A n c)) : (loadVar 57 ⟨b, o, none⟩).run Try.prog w = .ok (.slice A n c) w := by go_simp
def bools (l : List Bool) : List Value := l.map Value.bool
abbrev bz : Array Value := (bools (List.replicate 16 false)).toArray
theorem zero83 : (Try.prog.info? 83).map (·.zero) = some (some (.agg bz)) := by kernel_rfl
theorem wpList_alloc83 {ops : Array Oper} {rest : List Oper} {op : Oper} {a : Act} {w : World} {Q : Exit → Act → World → Prop} (hgd : op.guard = none) (ho : op.op = .alloc 83) (h : wpList Try.prog ops Q rest (a.put op.dst (.pointer (some ⟨w.heap.size, 0, none⟩))) (w.alloc (.cells bz 83))) : wpList Try.prog ops Q (op :: rest) a w :=
  wpList_alloc_zero hgd 83 ho _ zero83 h
/-- The marks of who has spoken. -/
structure ByAt (w : World) (u : Nat) (bits : List Bool) : Prop where
  r : w.rangeAt u 0 (bools bits)
  t : w.there u 0 16
  l : bits.length = 16
section
variable {w w' : World} {u : Nat} {bits : List Bool}
theorem ByAt.new (w : World) : ByAt (w.alloc (.cells bz 83)) w.heap.size (List.replicate 16 false) :=
  ⟨range_new w bz 83, there_new w bz 83, by simp⟩
theorem ByAt.same (h : ByAt w u bits) (hb : w'.heap[u]? = w.heap[u]?) : ByAt w' u bits := ⟨range_same h.r hb, there_same h.t hb, h.l⟩
theorem ByAt.cell (h : ByAt w u bits) {k : Nat} {x : Bool} (hk : bits[k]? = some x) : w.cell? ⟨u, k, none⟩ = some (.bool x) := by
  have := h.r k (.bool x) (by unfold bools; rw [List.getElem?_map, hk]; rfl)
  rwa [Nat.zero_add] at this
theorem ByAt.set (h : ByAt w u bits) {k : Nat} (hk : k < 16) : ByAt (w.setCell ⟨u, k, none⟩ (.bool true)) u (bits.set k true) := by
  refine ⟨fun j x hx => ?_, there_set h.t _ _, by rw [List.length_set]; exact h.l⟩
  rw [Nat.zero_add]
  unfold bools at hx
  rw [List.getElem?_map] at hx
  by_cases e : j = k
  · subst e
    rw [List.getElem?_set_self (by rw [h.l]; exact hk)] at hx
    injection hx with hx; subst hx
    obtain ⟨y, hy⟩ : ∃ y, bits[j]? = some y := ⟨_, List.getElem?_eq_getElem (by rw [h.l]; exact hk)⟩
    exact World.cell?_setCell_same _ _ _ (h.cell hy)
  · rw [List.getElem?_set_ne (fun e2 => e e2.symm)] at hx
    rw [World.cell?_setCell_other _ _ _ _ (fun e2 => by injection e2 with _ e3; omega)]
    have := h.r j x (by unfold bools; rw [List.getElem?_map]; exact hx)
    rwa [Nat.zero_add] at this
end
/-- Those that were laid into the list differ and have their marks. -/
structure GoodL (tl L : List TellX) (bits : List Bool) : Prop where
  of : ∀ y ∈ L, y ∈ tl ∧ 0 ≤ y.x.q ∧ y.x.q < 16 ∧ bits[y.x.q.toNat]? = some true
  pw : (L.map (·.x)).Pairwise (fun x y => y.q.toNat ≠ x.q.toNat)
theorem goodL_nil (tl : List TellX) (bits : List Bool) : GoodL tl [] bits := ⟨(fun y hy => by cases hy), List.Pairwise.nil⟩
theorem GoodL.push {tl L : List TellX} {bits : List Bool} (h : GoodL tl L bits) {y : TellX} {k : Nat} (hy : y ∈ tl) (hq : y.x.q = k) (hk : k < 16) (hb : bits[k]? = some false) (hl : bits.length = 16) : GoodL tl (L ++ [y]) (bits.set k true) := by
  refine ⟨fun z hz => ?_, ?_⟩
  · rcases List.mem_append.1 hz with e | e
    · obtain ⟨h1, h2, h3, h4⟩ := h.of z e
      refine ⟨h1, h2, h3, ?_⟩
      by_cases e2 : k = z.x.q.toNat
      · rw [← e2, List.getElem?_set_self (by omega)]
      · rw [List.getElem?_set_ne e2]; exact h4
    · obtain rfl := List.mem_singleton.1 e
      refine ⟨hy, by omega, by omega, ?_⟩
      rw [show z.x.q.toNat = k by omega, List.getElem?_set_self (by omega)]
  · rw [List.map_append, List.pairwise_append]
    refine ⟨h.pw, List.pairwise_singleton _ _, fun a ha b hb' => ?_⟩
    obtain rfl : b = y.x := by simpa using hb'
    obtain ⟨z, hz, rfl⟩ := List.mem_map.1 ha
    obtain ⟨_, _, _, h4⟩ := h.of z hz
    intro e
    rw [← e, show y.x.q.toNat = k by omega, hb] at h4
    cases h4
/-- A Take, of one agent by itself; what it is handed lies in the first world. -/
def TsPost (w0 : World) (a : Nat) (F : List Nat) (s : St) (M : Option Addr) (cM : Nat) (y : TellX) (w : World) (x : Ending) (w' : World) : Prop :=
  x = .returned (.tuple #[.bool (s.take y.x.q y.x.i y.x.p).1, .int .i64 (s.take y.x.q y.x.i y.x.p).2.1]) ∧ Solo w0 a F (s.take y.x.q y.x.i y.x.p).2.2 M cM w' ∧ w.grownBy w' (some a)
theorem take_solo {w0 w : World} {a : Nat} {F : List Nat} {s : St} {M : Option Addr} {cM : Nat} (h : Solo w0 a F s M cM w) {A : Option Addr} {tl : List TellX} (ht : ToldAt w0 w0.heap.size A tl) {y : TellX} (hy : y ∈ tl) :
    Calls Try.prog 36 #[.pointer (some ⟨a, 0, none⟩), .int .i64 y.x.q, .int .i64 y.x.i, .agg (prA y.S y.V y.cS y.cV y.x.p)] w (TsPost w0 a F s M cM y w) := by
  obtain ⟨h1, h2, h3, h4⟩ := ht.each y hy
  refine (take_any a s M cM y.S y.V y.cS y.cV w0.heap.size y.x.p y.x.q y.x.i w h.ag (h.hi a h.aF) h.inv h.bel.size (h1.below h.bel (Nat.le_refl _)) (h2.below h.bel (Nat.le_refl _)) (by omega) (by omega) (fun W hW => (h.rM.keep hW.size (fun k hk hn => hW.block k hk (by intro e; injection e with e; subst e; exact hn h.aF))).row) h.rinv.len).mono ?_
  rintro x w' ⟨rfl, hl⟩
  exact ⟨rfl, h.prog hl (take_mem _ _ _ _) (take_inv h.inv _ _ _) (take_rinv h.rinv h.inv _ _ _), hl.grown⟩
/-- One more of a list, from either end. -/
theorem tell_more {l : List Tell} {s : St} {j : Nat} {x : Tell} (hx : l[j]? = some x) : (l.take (j + 1)).foldl St.tell s = ((l.take j).foldl St.tell s).tell x := by
  rw [List.take_add_one, hx]; simp
theorem rev_at {l : List Tell} {j : Nat} {x : Tell} (hj : j < l.length) (hx : l[l.length - 1 - j]? = some x) : l.reverse[j]? = some x := by
  rw [List.getElem?_reverse hj]; exact hx
end Go.Proofs.Ytfbeggdbjpmppaa
