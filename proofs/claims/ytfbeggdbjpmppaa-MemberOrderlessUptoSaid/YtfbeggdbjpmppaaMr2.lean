/- Look RefLaw Begun Begun2 RefPre Ref0, joined. -/
import Derived.Test.YtfbeggdbjpmppaaMw20
import Derived.Test.YtfbeggdbjpmppaaMr1
set_option linter.unusedVariables false
set_option linter.unusedSimpArgs false
/- The law's look: all that can be asked of an agent. Install of one agent by itself. -/
namespace Go.Proofs.Ytfbeggdbjpmppaa
open Go.RowKit
def siOf (s : St) : Si := ⟨s.out, s.own.set.take s.n, s.own.vec.take s.n, s.vid, s.mem, agV s.agreed, agM s.agreed, agT s.agreed, s.agreed.isSome, s.opn⟩
/-- The lists of a sight are new, from block lo on. -/
structure SiN (w : World) (lo : Nat) (x : Si) (P : SiP) : Prop where
  S : RowN w lo 1 eInt P.S x.ls
  V : RowN w lo 1 eInt P.V x.lv
  A : RowN w lo 3 eMb P.A x.ms
  B : RowN w lo 3 eMb P.B x.us
  T : RowN w lo 1 eInt P.T x.ts
  lS : x.ls.length ≤ 2000000
  lV : x.lv.length ≤ 2000000
  lA : x.ms.length ≤ 2000000
  lB : x.us.length ≤ 2000000
  lT : x.ts.length ≤ 2000000
/-- They lie in no block of F. -/
structure SiF (w : World) (F : List Nat) (x : Si) (P : SiP) : Prop where
  S : RowF w F 1 eInt P.S x.ls
  V : RowF w F 1 eInt P.V x.lv
  A : RowF w F 3 eMb P.A x.ms
  B : RowF w F 3 eMb P.B x.us
  T : RowF w F 1 eInt P.T x.ts
  lS : x.ls.length ≤ 2000000
  lV : x.lv.length ≤ 2000000
  lA : x.ms.length ≤ 2000000
  lB : x.us.length ≤ 2000000
  lT : x.ts.length ≤ 2000000
section
variable {w w' : World} {lo : Nat} {F : List Nat} {x : Si} {P : SiP}
theorem SiN.row (h : SiN w lo x P) : SiAt w w.heap.size x P := ⟨h.S.row, h.V.row, h.A.row, h.B.row, h.T.row, h.lS, h.lV, h.lA, h.lB, h.lT⟩
theorem SiN.below (h : SiN w lo x P) (hb : Below w.heap.size w w') : SiN w' lo x P := ⟨h.S.below hb, h.V.below hb, h.A.below hb, h.B.below hb, h.T.below hb, h.lS, h.lV, h.lA, h.lB, h.lT⟩
theorem SiN.low {lo' : Nat} (h : SiN w lo x P) (hl : lo' ≤ lo) : SiN w lo' x P := ⟨h.S.low hl, h.V.low hl, h.A.low hl, h.B.low hl, h.T.low hl, h.lS, h.lV, h.lA, h.lB, h.lT⟩
theorem SiN.grown {b : Nat} (h : SiN w lo x P) (hg : w.grownBy w' (some b)) (hb : b < lo) : SiN w' lo x P := ⟨h.S.grown hg hb, h.V.grown hg hb, h.A.grown hg hb, h.B.grown hg hb, h.T.grown hg hb, h.lS, h.lV, h.lA, h.lB, h.lT⟩
theorem SiN.away (h : SiN w lo x P) (hF : ∀ y ∈ F, y < lo) : SiF w F x P := ⟨h.S.away hF, h.V.away hF, h.A.away hF, h.B.away hF, h.T.away hF, h.lS, h.lV, h.lA, h.lB, h.lT⟩
theorem SiF.row (h : SiF w F x P) : SiAt w w.heap.size x P := ⟨h.S.row, h.V.row, h.A.row, h.B.row, h.T.row, h.lS, h.lV, h.lA, h.lB, h.lT⟩
theorem SiF.below (h : SiF w F x P) (hb : Below w.heap.size w w') : SiF w' F x P := ⟨h.S.below hb, h.V.below hb, h.A.below hb, h.B.below hb, h.T.below hb, h.lS, h.lV, h.lA, h.lB, h.lT⟩
theorem SiF.keep (h : SiF w F x P) (hs : w.heap.size ≤ w'.heap.size) (hk : ∀ k, k < w.heap.size → k ∉ F → w'.heap[k]? = w.heap[k]?) : SiF w' F x P := ⟨h.S.keep hs hk, h.V.keep hs hk, h.A.keep hs hk, h.B.keep hs hk, h.T.keep hs hk, h.lS, h.lV, h.lA, h.lB, h.lT⟩
theorem SiF.grown {b : Nat} (h : SiF w F x P) (hg : w.grownBy w' (some b)) (hb : b ∈ F) : SiF w' F x P := h.keep hg.size (fun k hk hF => hg.block k hk (fun e => by injection e with e; subst e; exact hF hb))
end
section
variable {w0 w w' : World} {a : Nat} {F : List Nat} {s s' : St} {M : Option Addr} {cM : Nat}
/-- Install, of one agent by itself. -/
def IsPost (w0 : World) (a : Nat) (F : List Nat) (s : St) (w : World) (x : Ending) (w' : World) : Prop :=
  ∃ A c T cT M' cM', x = .returned (.tuple #[.agg (viewA (agV s.agreed) A (agM s.agreed).length c), .slice T (agT s.agreed).length cT, .int .i64 (agE s.agreed)]) ∧ RowN w' w.heap.size 3 eMb A (agM s.agreed) ∧ RowN w' w.heap.size 1 eInt T (agT s.agreed) ∧ Solo w0 a F s.install M' cM' w' ∧ w.grownBy w' (some a)
theorem install_solo (h : Solo w0 a F s M cM w) : Calls Try.prog 27 #[.pointer (some ⟨a, 0, none⟩)] w (IsPost w0 a F s w) := by
  cases ha : s.agreed with
  | none =>
    refine (install_none a s M cM w h.ag (h.hi a h.aF) h.inv ha).mono ?_
    rintro x w' ⟨rfl, hl⟩
    have hin : s.install = s := by unfold St.install; rw [ha]
    refine ⟨none, 0, none, 0, M, cM, by rw [ha]; rfl, by rw [ha]; exact rowN_nil _ _ _ _ _, by rw [ha]; exact rowN_nil _ _ _ _ _, ?_, hl.grown⟩
    rw [hin]
    exact h.prog hl rfl h.inv h.rinv
  | some g =>
    refine (install_some a s M cM w h.ag (h.hi a h.aF) h.inv g ha).mono ?_
    rintro x w' ⟨A, c, T, cT, M', cM', rfl, hl, rM, rA, rT⟩
    have hin : s.install.mem = g.mem := by unfold St.install; rw [ha]
    exact ⟨A, c, T, cT, M', cM', by rw [ha]; rfl, by rw [ha]; exact rA, by rw [ha]; exact rT, h.progM hl (by rw [hin]; exact rM) (install_inv h.inv) (install_rinv h.rinv h.inv), hl.grown⟩
theorem Solo.fewer (h : Solo w0 a F s M cM w) {F' : List Nat} (hF : ∀ x ∈ F', x ∈ F) (ha : a ∈ F') : Solo w0 a F' s M cM w :=
  ⟨h.ag, h.rM.more (fun x hx => .inl (hF x hx)), ha, fun x hx => h.lo x (hF x hx), fun x hx => h.hi x (hF x hx), h.inv, h.rinv, h.bel⟩
/-- A block that is nobody's row is written. -/
theorem Solo.spoil (h : Solo w0 a F s M cM w) {x : Nat} (hx : x ∈ F) (hxa : x ≠ a) (hg : w.grownBy w' (some x)) : Solo w0 a F s M cM w' :=
  ⟨h.ag.same (hg.block a (h.hi a h.aF) (by intro e; injection e with e; exact hxa e.symm)), h.rM.keep hg.size (fun k hk hn => hg.block k hk (by intro e; injection e with e; subst e; exact hn hx)), h.aF, h.lo, fun y hy => Nat.lt_of_lt_of_le (h.hi y hy) hg.size, h.inv, h.rinv, grown_bel h.bel hg (h.lo x hx)⟩
end
theorem RowN.past {α : Type} {w w2 w3 : World} {lo sz u : Nat} {enc : α → List Value} {A : Option Addr} {l : List α} (h : RowN w lo sz enc A l) (hb : Below w.heap.size w w2) (hg : w2.grownBy w3 (some u)) (hu : w.heap.size ≤ u) : RowN w3 lo sz enc A l := fun h0 => by
  obtain ⟨g, off, e, h1, h2, h3⟩ := h h0
  have z := hb.size
  have z2 := hg.size
  exact ⟨g, off, e, h1, by omega, fun k x hx j v hv => ((World.cell?_of_block (a := ⟨g, _, none⟩) (hg.block g (by omega) (by intro e; injection e with e; omega))).trans (hb.cell (p := ⟨g, _, none⟩) h2)).trans (h3 k x hx j v hv)⟩
abbrev siZ : Array Value := #[.slice none 0 0, .int .i64 0, .int .i64 0, .int .i64 0, .int .i64 0, .int .i64 0, .int .i64 0, .int .i64 0, .slice none 0 0, .int .i64 0, .int .i64 0, .int .i64 0, .int .i64 0, .slice none 0 0, .int .i64 0, .int .i64 0, .int .i64 0, .int .i64 0, .slice none 0 0, .slice none 0 0, .bool false, .bool false]
/-- A sight's cells, with the lengths named. -/
abbrev sgC (p : Pr) (S : Option Addr) (n cS : Nat) (V : Option Addr) (m cV : Nat) (v : Vid) (A : Option Addr) (k cA : Nat) (u : Vid) (B : Option Addr) (l cB : Nat) (T : Option Addr) (t cT : Nat) (ok opn : Bool) : Array Value := #[.slice S n cS, .int .i64 p.cid, .int .i64 p.rev, .int .i64 p.top, .int .i64 p.prev.e, .int .i64 p.prev.l, .int .i64 p.prev.i, .int .i64 p.prev.c, .slice V m cV,
  .int .i64 v.e, .int .i64 v.l, .int .i64 v.i, .int .i64 v.c, .slice A k cA, .int .i64 u.e, .int .i64 u.l, .int .i64 u.i, .int .i64 u.c, .slice B l cB, .slice T t cT, .bool ok, .bool opn]
theorem size76 : (Try.prog.info? 76).map (·.size) = some 22 := by kernel_rfl
theorem one_sgC (p : Pr) (S : Option Addr) (n cS : Nat) (V : Option Addr) (m cV : Nat) (v : Vid) (A : Option Addr) (k cA : Nat) (u : Vid) (B : Option Addr) (l cB : Nat) (T : Option Addr) (t cT : Nat) (ok opn : Bool) : (sgC p S n cS V m cV v A k cA u B l cB T t cT ok opn).all (·.oneCell') = true := by
  refine all_oneCell_toArray (cs := [.slice S n cS, .int .i64 p.cid, .int .i64 p.rev, .int .i64 p.top, .int .i64 p.prev.e, .int .i64 p.prev.l, .int .i64 p.prev.i, .int .i64 p.prev.c, .slice V m cV,
  .int .i64 v.e, .int .i64 v.l, .int .i64 v.i, .int .i64 v.c, .slice A k cA, .int .i64 u.e, .int .i64 u.l, .int .i64 u.i, .int .i64 u.c, .slice B l cB, .slice T t cT, .bool ok, .bool opn]) fun y hy => ?_
  simp only [List.mem_cons, List.not_mem_nil, or_false] at hy
  rcases hy with rfl | rfl | rfl | rfl | rfl | rfl | rfl | rfl | rfl | rfl | rfl | rfl | rfl | rfl | rfl | rfl | rfl | rfl | rfl | rfl | rfl | rfl <;> rfl
section
variable {ops : Array Oper} {rest : List Oper} {op : Oper} {a : Act} {w : World} {Q : Exit → Act → World → Prop}
theorem wpList_store76 (hgd : op.guard = none) (x y : Operand) (ho : op.op = .store 76 x y) (b off : Nat) (hx : a.eval x = .pointer (some ⟨b, off, none⟩)) (p : Pr) (S : Option Addr) (n cS : Nat) (V : Option Addr) (m cV : Nat) (v : Vid) (A : Option Addr) (k cA : Nat) (u : Vid) (B : Option Addr) (l cB : Nat) (T : Option Addr) (t cT : Nat) (ok opn : Bool) (hy : a.eval y = .agg (sgC p S n cS V m cV v A k cA u B l cB T t cT ok opn)) (ht : w.there b off 22)
    (h : ∀ w', Hid (w' = w.setCells b off (sgC p S n cS V m cV v A k cA u B l cB T t cT ok opn).toList) → wpList Try.prog ops Q rest (a.put op.dst undef) w') : wpList Try.prog ops Q (op :: rest) a w :=
  wpList_store_mid hgd 76 x y ho b off (sgC p S n cS V m cV v A k cA u B l cB T t cT ok opn) hx hy ht (by rw [size76]; rfl) (one_sgC ..) (h _ (Lib.hid rfl))
end
theorem load76 {w : World} {b : Nat} {p : Pr} {S : Option Addr} {n cS : Nat} {V : Option Addr} {m cV : Nat} {v : Vid} {A : Option Addr} {k cA : Nat} {u : Vid} {B : Option Addr} {l cB : Nat} {T : Option Addr} {t cT : Nat} {ok opn : Bool}
    (h : w.rangeAt b 0 (sgC p S n cS V m cV v A k cA u B l cB T t cT ok opn).toList) : (loadVar 76 ⟨b, 0, none⟩).run Try.prog w = .ok (.agg (sgC p S n cS V m cV v A k cA u B l cB T t cT ok opn)) w := 
  run_loadVar_mid w b 0 76 (sgC p S n cS V m cV v A k cA u B l cB T t cT ok opn).toList _ h Try.underlying76 rfl (by rw [size76]; rfl)
theorem rng_put {w : World} {b n o : Nat} {l vs : List Value} (h : w.rangeAt b 0 l) (ht : w.there b 0 n) (hl : l.length = n) (ho : o + vs.length ≤ n) : (w.setCells b o vs).rangeAt b 0 (l.take o ++ vs ++ l.drop (o + vs.length)) := fun j u hu => by
  rw [Nat.zero_add]
  by_cases h1 : j < o
  · rw [List.getElem?_append_left (by rw [List.length_append, List.length_take_of_le (by omega)]; omega), List.getElem?_append_left (by rw [List.length_take_of_le (by omega)]; exact h1), List.getElem?_take_of_lt h1] at hu
    exact cell_out (by have := h j u hu; rwa [Nat.zero_add] at this) (.inl h1)
  · by_cases h2 : j < o + vs.length
    · rw [List.getElem?_append_left (by rw [List.length_append, List.length_take_of_le (by omega)]; omega), List.getElem?_append_right (by rw [List.length_take_of_le (by omega)]; omega), List.length_take_of_le (by omega)] at hu
      have := cell_in (i := j - o) ht ho hu
      rwa [show o + (j - o) = j by omega] at this
    · rw [List.getElem?_append_right (by rw [List.length_append, List.length_take_of_le (by omega)]; omega), List.length_append, List.length_take_of_le (by omega), List.getElem?_drop, show o + vs.length + (j - (o + vs.length)) = j by omega] at hu
      exact cell_out (by have := h j u hu; rwa [Nat.zero_add] at this) (.inr (by omega))
set_option maxRecDepth 100000 in
set_option maxHeartbeats 2000000 in
theorem look_any (w0 : World) (a : Nat) (F : List Nat) (s : St) (M : Option Addr) (cM : Nat) (w : World) (h : Solo w0 a F s M cM w) :
    Calls Try.prog 34 #[.pointer (some ⟨a, 0, none⟩)] w fun r w' => ∃ P, r = .returned (.agg (siA (siOf s) P)) ∧ SiN w' w.heap.size (siOf s) P ∧ Below w.heap.size w w' := by
  obtain ⟨w1, hw1⟩ : ∃ w1, w1 = w.alloc (.cells siZ 76) := ⟨_, rfl⟩
  have hb1 : Below w.heap.size w w1 := by rw [hw1]; exact below_box1 _ _ _
  have z1 : w1.heap.size = w.heap.size + 1 := by rw [hw1]; simp
  have D1 := h.below hb1
  have t1 : w1.there w.heap.size 0 22 := by rw [hw1]; exact there_new w siZ 76
  have l16 := h.inv.n2
  have lmem := h.rinv.len
  have lag := agM_len h.inv
  obtain ⟨g, hg⟩ : ∃ g, g = w.heap.size := ⟨_, rfl⟩
  rw [← hg] at t1
  replace D1 := Lib.hid D1
  replace t1 := Lib.hid t1
  replace hw1 := Lib.hid hw1
  replace h := Lib.hid h
  replace hg := Lib.hid hg
  replace hb1 := Lib.hid hb1
  have tok : True := trivial
  go_enter Try.func34, Try.ntmps34
  go_wp2_with fail
  rw [← hw1.out, ← hg.out]
  go_wp2_with (first
    | (clear tok
       go_at_call 30
       refine (proposal_any a s M cM w1 D1.out.ag (D1.out.hi a D1.out.aF) l16).mono ?_
       rintro e w2 ⟨S, V, rfl, rS, rV, hb2⟩
       have z2 := hb2.size
       have D2 := D1.out.below hb2
       have t2 := there_below t1.out hb2 (by have := hg.out; omega)
       replace rS := Lib.hid rS
       replace rV := Lib.hid rV
       replace D2 := Lib.hid D2
       replace t2 := Lib.hid t2
       replace hb2 := Lib.hid hb2)
    | (go_at_call 22
       refine (view_any a s M cM w2.heap.size w2 D2.out.ag (D2.out.hi a D2.out.aF) (Nat.le_refl _) D2.out.rM.row lmem).mono ?_
       rintro e w3 ⟨A, cA, rfl, rA, hb3⟩
       have z3 := hb3.size
       have D3 := D2.out.below hb3
       have t3 := there_below t2.out hb3 (by have := hg.out; omega)
       have rS3 := rS.out.below hb3
       have rV3 := rV.out.below hb3
       replace rS3 := Lib.hid rS3
       replace rV3 := Lib.hid rV3
       replace rA := Lib.hid rA
       replace D3 := Lib.hid D3
       replace t3 := Lib.hid t3
       replace hb3 := Lib.hid hb3)
    | (go_at_call 31
       refine (changing_any a s M cM w3 D3.out.ag).mono ?_
       rintro e w3' ⟨rfl, rfl⟩
       have b4u : Below w3'.heap.size w3' (w3'.alloc (.cells siZ 76)) := (Below.refl _ _).alloc (Nat.le_refl _) _
       replace b4u := Lib.hid b4u)
    | (refine wpList_store76 rfl (.tmp 3) (.tmp 10) rfl w3'.heap.size 0 (by rfl) s.out S s.n s.n V s.n s.n s.vid A s.mem.length cA Vid.zero none 0 0 none 0 0 false s.opn (by rfl) (there_new w3' siZ 76) ?_
       intro w4 hw4
       obtain ⟨u, hu⟩ : ∃ u, u = w3'.heap.size := ⟨_, rfl⟩
       have r4 : w4.rangeAt u 0 (sgC s.out S s.n s.n V s.n s.n s.vid A s.mem.length cA Vid.zero none 0 0 none 0 0 false s.opn).toList := by rw [hw4.out, hu]; exact World.rangeAt_setCells_same _ _ _ _ (there_new w3' siZ 76)
       have t4' : w4.there u 0 22 := by rw [hw4.out, hu]; exact World.there_setCells (there_new w3' siZ 76) _ _ _
       have b34 : Below w3'.heap.size w3' w4 := by rw [hw4.out]; exact below_sets b4u.out (Nat.le_refl _) _ _ (by simp)
       have z4 : u < w4.heap.size := by rw [hw4.out, size_sets, hu]; simp
       have D4 := D3.out.below b34
       have t4 := there_below t3.out b34 (by have := hg.out; omega)
       have hb4 : Below w.heap.size w w4 := hb1.out.trans ((hb2.out.mono (by omega)).trans ((hb3.out.mono (by omega)).trans (b34.mono (by omega))))
       rw [← hu]
       have huz : w.heap.size < u := by omega
       replace hu := Lib.hid hu
       replace r4 := Lib.hid r4
       replace t4' := Lib.hid t4'
       replace D4 := Lib.hid D4
       replace t4 := Lib.hid t4
       replace hb4 := Lib.hid hb4
       replace b34 := Lib.hid b34
       clear hw4)
    | fail)
  go_wp2_with (first
    | (go_at_call 50
       refine ((agreed_any a s M cM w4 D4.out.ag (D4.out.hi a D4.out.aF) D4.out.inv).mono (fun _ _ h => h.one)).mono ?_
       rintro e w5 ⟨B, cB, T, cT, rfl, rB, rT, hb5⟩
       have r5 := range_same r4.out (hb5.block u z4)
       have t5' := there_below t4'.out hb5 z4
       have t5 := there_below t4.out hb5 (by have := hg.out; omega)
       have b35 := b34.out.trans (hb5.mono (by have := b34.out.size; omega))
       have z5 := hb5.size
       have hb5' : Below w.heap.size w w5 := hb4.out.trans (hb5.mono (by omega))
       replace r5 := Lib.hid r5
       replace t5' := Lib.hid t5'
       replace t5 := Lib.hid t5
       replace b35 := Lib.hid b35
       replace rB := Lib.hid rB
       replace rT := Lib.hid rT
       replace hb5' := Lib.hid hb5'
       clear hb5)
    | (refine wpList_store46 rfl (.tmp 17) (.tmp 14) rfl u 14 (by rfl) (agV s.agreed) B (agM s.agreed).length cB (by rfl) (World.there.at t5'.out (by omega)) ?_
       intro w6 hw6
       have r6 : w6.rangeAt u 0 (sgC s.out S s.n s.n V s.n s.n s.vid A s.mem.length cA (agV s.agreed) B (agM s.agreed).length cB none 0 0 false s.opn).toList := by rw [hw6.out]; exact rng_put r5.out t5'.out rfl (by show 14 + 5 ≤ 22; omega)
       have t6' : w6.there u 0 22 := by rw [hw6.out]; exact World.there_setCells t5'.out _ _ _
       have g6 : w5.grownBy w6 (some u) := by rw [hw6.out]; exact grown_sets _ _ _ _
       obtain ⟨w7, hw7⟩ : ∃ w7, w7 = w6.setCell ⟨u, 19, none⟩ (.slice T (agT s.agreed).length cT) := ⟨_, rfl⟩
       have r7 : w7.rangeAt u 0 (sgC s.out S s.n s.n V s.n s.n s.vid A s.mem.length cA (agV s.agreed) B (agM s.agreed).length cB T (agT s.agreed).length cT false s.opn).toList := by rw [hw7]; exact rng_put (o := 19) (vs := [.slice T (agT s.agreed).length cT]) r6 t6' rfl (by show 19 + 1 ≤ 22; omega)
       have t7' : w7.there u 0 22 := by rw [hw7]; exact there_set t6' _ _
       have g7 : w6.grownBy w7 (some u) := by rw [hw7]; exact grown_cell _ _ _ _
       obtain ⟨w8, hw8⟩ : ∃ w8, w8 = w7.setCell ⟨u, 20, none⟩ (.bool s.agreed.isSome) := ⟨_, rfl⟩
       have r8 : w8.rangeAt u 0 (sgC s.out S s.n s.n V s.n s.n s.vid A s.mem.length cA (agV s.agreed) B (agM s.agreed).length cB T (agT s.agreed).length cT s.agreed.isSome s.opn).toList := by rw [hw8]; exact rng_put (o := 20) (vs := [.bool s.agreed.isSome]) r7 t7' rfl (by show 20 + 1 ≤ 22; omega)
       have t8' : w8.there u 0 22 := by rw [hw8]; exact there_set t7' _ _
       have g8 : w7.grownBy w8 (some u) := by rw [hw8]; exact grown_cell _ _ _ _
       have c6 : w6.cell? ⟨u, 19, none⟩ = some (.slice none 0 0) := r6 19 _ rfl
       have f6 : w6.frozen? ⟨u, 19, none⟩ = false := there_frozen (k := 19) t6' (by omega)
       have c7 : w6.cell? ⟨u, 20, none⟩ = some (.bool false) := r6 20 _ rfl
       have f7 : w6.frozen? ⟨u, 20, none⟩ = false := there_frozen (k := 20) t6' (by omega)
       have g58 : w5.grownBy w8 (some u) := g6.trans (g7.trans g8)
       have hb8 : Below w.heap.size w w8 := hb5'.out.grown g58 (by omega) (by intro k hk; injection hk with hk; omega)
       have z8 := g58.size
       have huw : w3'.heap.size ≤ u := by have := hu.out; omega
       have hgz := hg.out
       have rS8 := (rS3.out.past b35.out g58 huw).low (show g + 1 ≤ _ by omega)
       have rV8 := (rV3.out.past b35.out g58 huw).low (show g + 1 ≤ _ by omega)
       have rA8 := (rA.out.past b35.out g58 huw).low (show g + 1 ≤ _ by omega)
       have rB8 := (rB.out.grown g58 z4).low (show g + 1 ≤ _ by omega)
       have rT8 := (rT.out.grown g58 z4).low (show g + 1 ≤ _ by omega)
       have t8 : w8.there g 0 22 := grown_there g58 ⟨by omega, by omega⟩ t5.out
       replace rS8 := Lib.hid rS8
       replace rV8 := Lib.hid rV8
       replace rA8 := Lib.hid rA8
       replace rB8 := Lib.hid rB8
       replace rT8 := Lib.hid rT8
       replace t8 := Lib.hid t8
       replace hb8 := Lib.hid hb8
       replace hw7 := Lib.hid hw7
       replace hw8 := Lib.hid hw8
       replace r8 := Lib.hid r8
       clear r6 t6' g6 r7 g7 t8' g8 g58 hgz huw)
    | (rw [← hw7.out, ← hw8.out]
       refine wpList_loadR rfl 76 (.tmp 3) rfl u 0 (by rfl) _ (load76 r8.out) ?_)
    | (refine wpList_store76 rfl (.tmp 2) (.tmp 20) rfl g 0 (by rfl) s.out S s.n s.n V s.n s.n s.vid A s.mem.length cA (agV s.agreed) B (agM s.agreed).length cB T (agT s.agreed).length cT s.agreed.isSome s.opn (by rfl) t8.out ?_
       intro w9 hw9)
    | fail)
  have r9 : w9.rangeAt g 0 (sgC s.out S s.n s.n V s.n s.n s.vid A s.mem.length cA (agV s.agreed) B (agM s.agreed).length cB T (agT s.agreed).length cT s.agreed.isSome s.opn).toList := by rw [hw9.out]; exact World.rangeAt_setCells_same _ _ _ _ t8.out
  have g9 : w8.grownBy w9 (some g) := by rw [hw9.out]; exact grown_sets _ _ _ _
  have b9 : Below w.heap.size w w9 := hb8.out.grown g9 hb8.out.size (by intro k hk; injection hk with hk; have := hg.out; omega)
  have i := D4.out.inv
  have l1 : (s.own.set.take s.n).length = s.n := List.length_take_of_le (by rw [i.own.set]; exact l16)
  have l2 : (s.own.vec.take s.n).length = s.n := List.length_take_of_le (by rw [i.own.vec]; exact l16)
  have hgw : w.heap.size ≤ g + 1 := by have := hg.out; omega
  refine bodyPost_ret (res_cell (p := 2) (ty := 76) rfl rfl (load76 r9)) rfl ⟨⟨S, s.n, V, s.n, A, cA, B, cB, T, cT⟩, ?_, ⟨(rS8.out.grown g9 (Nat.lt_succ_self _)).low hgw, (rV8.out.grown g9 (Nat.lt_succ_self _)).low hgw, (rA8.out.grown g9 (Nat.lt_succ_self _)).low hgw, (rB8.out.grown g9 (Nat.lt_succ_self _)).low hgw, (rT8.out.grown g9 (Nat.lt_succ_self _)).low hgw, ?_, ?_, ?_, ?_, ?_⟩, b9⟩
  · show Ending.returned (.agg (sgC s.out S s.n s.n V s.n s.n s.vid A s.mem.length cA (agV s.agreed) B (agM s.agreed).length cB T (agT s.agreed).length cT s.agreed.isSome s.opn)) = .returned (.agg (sgC s.out S (s.own.set.take s.n).length s.n V (s.own.vec.take s.n).length s.n s.vid A s.mem.length cA (agV s.agreed) B (agM s.agreed).length cB T (agT s.agreed).length cT s.agreed.isSome s.opn))
    rw [l1, l2]
  · show (s.own.set.take s.n).length ≤ _; omega
  · show (s.own.vec.take s.n).length ≤ _; omega
  · show s.mem.length ≤ _; omega
  · show (agM s.agreed).length ≤ _; omega
  · show (agT s.agreed).length ≤ _; omega
end Go.Proofs.Ytfbeggdbjpmppaa
/- MemberRefusals, MemberOrderless: what calls leave. No program in sight. -/
namespace Go.Proofs.Ytfbeggdbjpmppaa
theorem estimate_fail {s : St} {l : List Int} (h : (s.estimate l).2.1 ≠ 0) : (s.estimate l).2.2 = s := by
  unfold St.estimate at h ⊢
  split
  · rfl
  · rename_i h1
    rw [if_neg h1] at h
    split
    · rfl
    · rename_i h2
      rw [if_neg h2] at h
      split
      · rfl
      · rename_i h3
        rw [if_neg h3] at h
        exact absurd rfl h
theorem take_fail {s : St} {q inc : Int} {p : Pr} (h : (s.take q inc p).2.1 ≠ 0) : (s.take q inc p).2.2 = s := by
  unfold St.take at h ⊢
  split
  · rfl
  · rename_i h1
    rw [if_neg h1] at h
    split
    · rfl
    · rename_i h2
      rw [if_neg h2] at h
      split
      · rfl
      · rename_i h3
        rw [if_neg h3] at h
        split
        · rfl
        · rename_i h4
          rw [if_neg h4] at h
          dsimp only at h ⊢
          split
          · rename_i h5
            rw [if_pos h5] at h
            split
            · rename_i h6
              rw [if_pos h6] at h; exact absurd rfl h
            · rename_i h6
              rw [if_neg h6] at h
              split
              · rename_i h7
                rw [if_pos h7] at h; exact absurd rfl h
              · rfl
          · rename_i h5
            rw [if_neg h5] at h
            split
            · rename_i h6
              rw [if_pos h6] at h; exact absurd rfl h
            · rename_i h6
              rw [if_neg h6] at h
              split
              · rfl
              · rename_i h7
                rw [if_neg h7] at h; exact absurd rfl h
theorem callS_fail {s : St} {o : OpD} (h : (callS o s).1 ≠ 0) : (callS o s).2 = s := by
  unfold callS at h ⊢
  split
  · rename_i h1
    rw [if_pos h1] at h
    exact estimate_fail h
  · rename_i h1
    rw [if_neg h1] at h
    split
    · rename_i h2
      rw [if_pos h2] at h
      exact take_fail h
    · rfl
/-- A proposal that was taken is stale. -/
theorem taken_stale {s : St} {q inc : Int} {p : Pr} (t : St) (hn : t.n = s.n) (hs : t.self = s.self) (h1 : ¬ (q < 0 ∨ (s.n : Int) ≤ q ∨ q = s.self ∨ inc < 1 ∨ 4611686018427387904 < inc)) (h2 : ¬ p.goodB q.toNat inc s.n = false) (h3 : t.lt q.toNat = ⟨inc, p.wish⟩) :
    t.take q inc p = (false, 51, t) := by
  unfold St.take
  rw [hn, hs, if_neg h1, if_neg h2, h3]
  dsimp only
  rw [if_neg (Int.lt_irrefl _), if_pos ⟨rfl, Int.le_refl _⟩]
theorem take_again {s : St} (hi : Inv s) {q inc : Int} {p : Pr} (h : (s.take q inc p).2.1 = 0) : (s.take q inc p).2.2.take q inc p = (false, 51, (s.take q inc p).2.2) := by
  unfold St.take at h
  split at h
  · simp at h
  · rename_i h1
    split at h
    · simp at h
    · rename_i h2
      split at h
      · simp at h
      · rename_i h3
        split at h
        · simp at h
        · rename_i h4
          have hl : (s.put q.toNat inc p.wish).lt q.toNat = ⟨inc, p.wish⟩ := lt_put_same (by rw [hi.oth]; have := hi.n2; omega)
          have e : (s.take q inc p).2.2 = (let t := s.put q.toNat inc p.wish
            if s.opn then
              if t.heard = t.own.vec then t
              else if t.own.rev < 4611686018427387904 then { t with own := { t.own with vec := t.heard, rev := t.own.rev + 1 } }
              else s
            else if leavesB t.mem q inc p.cid = false then t
            else if t.spent then s
            else t.begin_ t.own.set) := by
            unfold St.take
            rw [if_neg h1, if_neg h2, if_neg h3, if_neg h4]
            dsimp only
            repeat' split
            all_goals rfl
          dsimp only at h e
          rw [e]
          split at h
          · rename_i h5
            rw [if_pos h5]
            split at h
            · rename_i h6
              rw [if_pos h6]
              exact taken_stale _ rfl rfl h1 h2 hl
            · rename_i h6
              rw [if_neg h6]
              split at h
              · rename_i h7
                rw [if_pos h7]
                exact taken_stale _ rfl rfl h1 h2 hl
              · simp at h
          · rename_i h5
            rw [if_neg h5]
            split at h
            · rename_i h6
              rw [if_pos h6]
              exact taken_stale _ rfl rfl h1 h2 hl
            · rename_i h6
              rw [if_neg h6]
              split at h
              · simp at h
              · rename_i h7
                rw [if_neg h7]
                exact taken_stale _ rfl rfl h1 h2 hl
theorem estimate_own {s : St} (hi : Inv s) (hr : RInv s) : s.estimate (s.own.set.take s.n) = (false, 0, s) := by
  have hlen : (s.own.set.take s.n).length = s.n := List.length_take_of_le (by rw [hi.own.set]; exact hi.n2)
  have hp : packB (s.own.set.take s.n) s.n = true := by
    unfold packB
    rw [hlen]
    simp only [decide_true, Bool.true_and, List.all_eq_true]
    intro v hv
    have := hi.own.setv v (List.mem_of_mem_take hv)
    exact decide_eq_true this
  unfold St.estimate
  rw [← hr.set, hp, if_neg (by rintro (h | h); cases h; exact h hi.me), if_pos rfl]
end Go.Proofs.Ytfbeggdbjpmppaa
/- The law's begun. -/
namespace Go.Proofs.Ytfbeggdbjpmppaa
open Go.RowKit
set_option maxRecDepth 100000 in
set_option maxHeartbeats 4000000 in
theorem begun_no (n s i f : Int) (A : Option Addr) (m c : Nat) (w : World) (h : newB n s i f = false) :
    Calls Try.prog 26 #[.agg (caseA n s i f A m c)] w fun x w' => x = .returned (.tuple #[.pointer none, .bool true]) ∧ Below w.heap.size w w' := by
  have hb := Lib.hid (below_box1 w (caseA n s i f A m c) 59)
  have hc : n < 1 ∨ (1 ≤ n ∧ 16 < n) ∨ (1 ≤ n ∧ n ≤ 16 ∧ s < 0) ∨ (1 ≤ n ∧ n ≤ 16 ∧ 0 ≤ s ∧ n ≤ s) ∨ (1 ≤ n ∧ n ≤ 16 ∧ 0 ≤ s ∧ s < n ∧ i < 1) ∨ (1 ≤ n ∧ n ≤ 16 ∧ 0 ≤ s ∧ s < n ∧ 1 ≤ i ∧ 4611686018427387904 < i) ∨
      (1 ≤ n ∧ n ≤ 16 ∧ 0 ≤ s ∧ s < n ∧ 1 ≤ i ∧ i ≤ 4611686018427387904 ∧ f < 0) ∨ (1 ≤ n ∧ n ≤ 16 ∧ 0 ≤ s ∧ s < n ∧ 1 ≤ i ∧ i ≤ 4611686018427387904 ∧ 0 ≤ f ∧ 4611686018427387904 < f) := by
    have := of_decide_eq_false h
    omega
  replace h := Lib.hid h
  rcases hc with n1 | ⟨n1, n2⟩ | ⟨n1, n2, n3⟩ | ⟨n1, n2, n3, n4⟩ | ⟨n1, n2, n3, n4, n5⟩ | ⟨n1, n2, n3, n4, n5, n6⟩ | ⟨n1, n2, n3, n4, n5, n6, n7⟩ | ⟨n1, n2, n3, n4, n5, n6, n7, n8⟩
  all_goals
    go_enter Try.func26, Try.ntmps26
    go_wp2_with (first
      | (go_at_call 46
         refine (new_no n s i f _ h.out).mono ?_
         rintro e w1 ⟨rfl, rfl⟩)
      | fail)
    go_ret2
    exact ⟨rfl, hb.out⟩
end Go.Proofs.Ytfbeggdbjpmppaa
/- The law's begun, where it makes an agent. -/
namespace Go.Proofs.Ytfbeggdbjpmppaa
open Go.RowKit
set_option maxRecDepth 100000 in
set_option maxHeartbeats 4000000 in
theorem begun_spent (n s i f : Int) (A : Option Addr) (m c : Nat) (w : World) (h : newB n s i f = true) (hf : f = 4611686018427387904) :
    Calls Try.prog 26 #[.agg (caseA n s i f A m c)] w fun x w' => x = .returned (.tuple #[.pointer none, .bool true]) ∧ Below w.heap.size w w' := by
  have hb := Lib.hid (below_box1 w (caseA n s i f A m c) 59)
  obtain ⟨n1, n2, n3, n4, n5, n6, n7, n8⟩ := of_decide_eq_true h
  subst hf
  replace h := Lib.hid h
  go_enter Try.func26, Try.ntmps26
  go_wp2_with (first
    | (go_at_call 46
       refine (new_spent n s i _ _ h.out rfl).mono ?_
       rintro e w1 ⟨rfl, rfl⟩)
    | fail)
  go_ret2
  exact ⟨rfl, hb.out⟩
set_option maxRecDepth 100000 in
set_option maxHeartbeats 4000000 in
theorem begun_yes (n s : Nat) (i f : Int) (A : Option Addr) (m c : Nat) (w : World) (h : newB n s i f = true) (hf : f ≠ 4611686018427387904) :
    Calls Try.prog 26 #[.agg (caseA n s i f A m c)] w fun x w' => ∃ b, x = .returned (.tuple #[.pointer (some ⟨b, 0, none⟩), .bool true]) ∧ AgAt w' b (newSt n s i f) none 0 ∧ Below w.heap.size w w' ∧ w.heap.size ≤ b := by
  obtain ⟨wA, hwA⟩ : ∃ wA, wA = w.alloc (.cells (caseA n s i f A m c) 59) := ⟨_, rfl⟩
  have hbA : Below w.heap.size w wA := by rw [hwA]; exact below_box1 _ _ _
  have zA : w.heap.size < wA.heap.size := by rw [hwA]; simp
  have oA : wA.rangeAt w.heap.size 0 (caseA n s i f A m c).toList := by rw [hwA]; exact range_new w (caseA n s i f A m c) 59
  obtain ⟨v, hv⟩ : ∃ v, v = w.heap.size := ⟨_, rfl⟩
  rw [← hv] at oA
  obtain ⟨n1, n2, n3, n4, n5, n6, n7, n8⟩ := of_decide_eq_true h
  have hfl : (f == 4611686018427387904) = false := by simp [hf]
  have c0 : wA.cell? ⟨v, 0, none⟩ = some (.int .i64 n) := oA 0 _ rfl
  have c1 : wA.cell? ⟨v, 1, none⟩ = some (.int .i64 s) := oA 1 _ rfl
  have c2 : wA.cell? ⟨v, 2, none⟩ = some (.int .i64 i) := oA 2 _ rfl
  have c3 : wA.cell? ⟨v, 3, none⟩ = some (.int .i64 f) := oA 3 _ rfl
  have hvz : v < wA.heap.size := by omega
  replace hbA := Lib.hid hbA
  replace oA := Lib.hid oA
  replace hwA := Lib.hid hwA
  replace hv := Lib.hid hv
  replace h := Lib.hid h
  replace hf := Lib.hid hf
  go_enter Try.func26, Try.ntmps26
  go_wp2_with fail
  rw [← hwA.out, ← hv.out]
  go_wp2_with (first
    | (go_at_call 46
       refine (new_yes n s i f wA h.out hf.out).mono ?_
       rintro e w1 ⟨rfl, ag1, hb1⟩
       have o1 := range_same oA.out (hb1.block v hvz)
       clear c0 c1 c2 c3
       have c0 : w1.cell? ⟨v, 0, none⟩ = some (.int .i64 n) := o1 0 _ rfl
       have c1 : w1.cell? ⟨v, 1, none⟩ = some (.int .i64 s) := o1 1 _ rfl
       have c2 : w1.cell? ⟨v, 2, none⟩ = some (.int .i64 i) := o1 2 _ rfl
       have c3 : w1.cell? ⟨v, 3, none⟩ = some (.int .i64 f) := o1 3 _ rfl
       have b1 := hbA.out.trans (hb1.mono (by omega))
       replace ag1 := Lib.hid ag1
       replace o1 := Lib.hid o1
       replace b1 := Lib.hid b1
       clear hb1)
    | fail)
  go_ret2
  exact ⟨wA.heap.size, rfl, ag1.out, b1.out, by omega⟩
end Go.Proofs.Ytfbeggdbjpmppaa
/- MemberRefusals: a variable that holds a sight; a call that is kept in a variable. -/
namespace Go.Proofs.Ytfbeggdbjpmppaa
open Go.RowKit
theorem range_mid {w : World} {b o : Nat} {l1 m l3 : List Value} (h : w.rangeAt b 0 (l1 ++ (m ++ l3))) (ho : l1.length = o) : w.rangeAt b o m := fun j v hv => by
  have hj := (List.getElem?_eq_some_iff.1 hv).1
  have := h (o + j) v (by rw [List.getElem?_append_right (by omega), ho, show o + j - o = j by omega, List.getElem?_append_left hj]; exact hv)
  rwa [Nat.zero_add] at this
theorem load31r {w : World} {b o : Nat} {S : Option Addr} {n cS : Nat} {V : Option Addr} {m cV : Nat} {p : Pr} (h : w.rangeAt b o (prV S n cS V m cV p).toList) : (loadVar 31 ⟨b, o, none⟩).run Try.prog w = .ok (.agg (prV S n cS V m cV p)) w :=
  run_loadVar_mid w b o 31 (prV S n cS V m cV p).toList _ h Try.underlying31 rfl (by rw [size31]; rfl)
theorem load46r {w : World} {b o : Nat} {v : Vid} {A : Option Addr} {n c : Nat} (h : w.rangeAt b o (viewA v A n c).toList) : (loadVar 46 ⟨b, o, none⟩).run Try.prog w = .ok (.agg (viewA v A n c)) w :=
  run_loadVar_mid w b o 46 (viewA v A n c).toList _ h Try.underlying46 rfl (by rw [size46]; rfl)
theorem size71 : (Try.prog.info? 71).map (·.size) = some 13 := by kernel_rfl
theorem one_opA (o : OpD) (P : OpP) : (opA o P).all (·.oneCell') = true := by
  refine all_oneCell_toArray (cs := [.int .i64 o.k, .int .i64 o.q, .int .i64 o.i, .slice P.A o.ls.length P.cA, .slice P.S o.p.set.length P.cS, .int .i64 o.p.cid, .int .i64 o.p.rev, .int .i64 o.p.top, .int .i64 o.p.prev.e, .int .i64 o.p.prev.l, .int .i64 o.p.prev.i, .int .i64 o.p.prev.c, .slice P.V o.p.vec.length P.cV]) fun y hy => ?_
  simp only [List.mem_cons, List.not_mem_nil, or_false] at hy
  rcases hy with rfl | rfl | rfl | rfl | rfl | rfl | rfl | rfl | rfl | rfl | rfl | rfl | rfl <;> rfl
abbrev opZ : Array Value := #[.int .i64 0, .int .i64 0, .int .i64 0, .slice none 0 0, .slice none 0 0, .int .i64 0, .int .i64 0, .int .i64 0, .int .i64 0, .int .i64 0, .int .i64 0, .int .i64 0, .slice none 0 0]
section
variable {ops : Array Oper} {rest : List Oper} {op : Oper} {a : Act} {w : World} {Q : Exit → Act → World → Prop}
theorem wpList_store71 (hgd : op.guard = none) (x y : Operand) (ho : op.op = .store 71 x y) (b off : Nat) (hx : a.eval x = .pointer (some ⟨b, off, none⟩)) (o : OpD) (P : OpP) (hy : a.eval y = .agg (opA o P)) (ht : w.there b off 13)
    (h : ∀ w', Hid (w' = w.setCells b off (opA o P).toList) → wpList Try.prog ops Q rest (a.put op.dst undef) w') : wpList Try.prog ops Q (op :: rest) a w :=
  wpList_store_mid hgd 71 x y ho b off (opA o P) hx hy ht (by rw [size71]; rfl) (one_opA o P) (h _ (Lib.hid rfl))
end
/-- The proposal of a call. -/
theorem op31 {w : World} {u : Nat} {o : OpD} {P : OpP} (h : w.rangeAt u 0 (opA o P).toList) : (loadVar 31 ⟨u, 4, none⟩).run Try.prog w = .ok (.agg (prA P.S P.V P.cS P.cV o.p)) w :=
  load31r (range_mid (l1 := [.int .i64 o.k, .int .i64 o.q, .int .i64 o.i, .slice P.A o.ls.length P.cA]) (m := (prV P.S o.p.set.length P.cS P.V o.p.vec.length P.cV o.p).toList) (l3 := []) h rfl)
/-- A variable that holds a sight; its lists lie in no block of F. -/
structure SgV (w : World) (u : Nat) (F : List Nat) (x : Si) (P : SiP) : Prop where
  cells : w.rangeAt u 0 (siA x P).toList
  there : w.there u 0 22
  rows : SiF w F x P
  lt : u < w.heap.size
  uF : u ∈ F
section
variable {w w' : World} {u a lo : Nat} {F : List Nat} {x : Si} {P : SiP}
theorem SgV.below (h : SgV w u F x P) (hb : Below w.heap.size w w') : SgV w' u F x P :=
  ⟨range_same h.cells (hb.block u h.lt), there_below h.there hb h.lt, h.rows.below hb, Nat.lt_of_lt_of_le h.lt hb.size, h.uF⟩
theorem SgV.grown (h : SgV w u F x P) (hg : w.grownBy w' (some a)) (ha : a ∈ F) (hau : a ≠ u) : SgV w' u F x P :=
  have hk := hg.block u h.lt (by intro e; injection e with e; exact hau e.symm)
  ⟨range_same h.cells hk, there_same h.there hk, h.rows.grown hg ha, Nat.lt_of_lt_of_le h.lt hg.size, h.uF⟩
theorem SgV.load (h : SgV w u F x P) : (loadVar 76 ⟨u, 0, none⟩).run Try.prog w = .ok (.agg (siA x P)) w := load76 (p := x.p) h.cells
theorem SgV.prop (h : SgV w u F x P) : (loadVar 31 ⟨u, 0, none⟩).run Try.prog w = .ok (.agg (prV P.S x.ls.length P.cS P.V x.lv.length P.cV x.p)) w :=
  load31r (range_mid (l1 := []) (m := (prV P.S x.ls.length P.cS P.V x.lv.length P.cV x.p).toList) (l3 := [.int .i64 x.v.e, .int .i64 x.v.l, .int .i64 x.v.i, .int .i64 x.v.c, .slice P.A x.ms.length P.cA,
  .int .i64 x.u.e, .int .i64 x.u.l, .int .i64 x.u.i, .int .i64 x.u.c, .slice P.B x.us.length P.cB, .slice P.T x.ts.length P.cT, .bool x.ok, .bool x.opn]) h.cells rfl)
theorem SgV.view (h : SgV w u F x P) : (loadVar 46 ⟨u, 14, none⟩).run Try.prog w = .ok (.agg (viewA x.u P.B x.us.length P.cB)) w :=
  load46r (range_mid (l1 := [.slice P.S x.ls.length P.cS, .int .i64 x.p.cid, .int .i64 x.p.rev, .int .i64 x.p.top, .int .i64 x.p.prev.e, .int .i64 x.p.prev.l, .int .i64 x.p.prev.i, .int .i64 x.p.prev.c, .slice P.V x.lv.length P.cV,
  .int .i64 x.v.e, .int .i64 x.v.l, .int .i64 x.v.i, .int .i64 x.v.c, .slice P.A x.ms.length P.cA]) (m := (viewA x.u P.B x.us.length P.cB).toList) (l3 := [.slice P.T x.ts.length P.cT, .bool x.ok, .bool x.opn]) h.cells rfl)
theorem SgV.trans_ (h : SgV w u F x P) : w.cell? ⟨u, 19, none⟩ = some (.slice P.T x.ts.length P.cT) := h.cells 19 _ rfl
theorem SgV.agr (h : SgV w u F x P) : w.cell? ⟨u, 20, none⟩ = some (.bool x.ok) := h.cells 20 _ rfl
theorem SgV.new (h : SiN w lo x P) (ha : a < lo) (hl : lo ≤ w.heap.size) : SgV ((w.alloc (.cells siZ 76)).setCells w.heap.size 0 (siA x P).toList) w.heap.size [w.heap.size, a] x P := by
  have t := there_new w siZ 76
  have b1 : Below w.heap.size w ((w.alloc (.cells siZ 76)).setCells w.heap.size 0 (siA x P).toList) := below_sets ((Below.refl _ _).alloc (Nat.le_refl _) _) (Nat.le_refl _) _ _ (by simp)
  have r : SiF w [a] x P := h.away (fun y hy => by have := List.mem_singleton.1 hy; omega)
  have hm : ∀ y ∈ [w.heap.size, a], y ∈ [a] ∨ w.heap.size ≤ y := fun y hy => (List.mem_cons.1 hy).elim (fun e => .inr (by omega)) .inl
  have r2 : SiF w [w.heap.size, a] x P := ⟨r.S.more hm, r.V.more hm, r.A.more hm, r.B.more hm, r.T.more hm, r.lS, r.lV, r.lA, r.lB, r.lT⟩
  exact ⟨World.rangeAt_setCells_same _ _ _ _ t, World.there_setCells t _ _ _, r2.below b1, by rw [size_sets]; simp, List.mem_cons_self ..⟩
theorem SgV.put {x' : Si} {P' : SiP} (h : SgV w u F x P) (hn : SiN w lo x' P') (hF : ∀ y ∈ F, y < lo) : SgV (w.setCells u 0 (siA x' P').toList) u F x' P' :=
  ⟨World.rangeAt_setCells_same _ _ _ _ h.there, World.there_setCells h.there _ _ _, (hn.away hF).grown (grown_sets _ _ _ _) h.uF, by rw [size_sets]; exact h.lt, h.uF⟩
end
theorem run_field46 (v : Vid) (A : Option Addr) (n c : Nat) (W : World) : (Instr.field 46 (.agg (viewA v A n c)) 1).run Try.prog W = .ok (.slice A n c) W := by kernel_rfl
theorem run_field31s (o : Wish) (S : Option Addr) (cS : Nat) (V : Option Addr) (cV n : Nat) (W : World) : (Instr.field 31 (.agg (propA o S cS V cV n)) 0).run Try.prog W = .ok (.slice S n cS) W := by kernel_rfl
theorem run_field31r (o : Wish) (S : Option Addr) (cS : Nat) (V : Option Addr) (cV n : Nat) (W : World) : (Instr.field 31 (.agg (propA o S cS V cV n)) 2).run Try.prog W = .ok (.int .i64 o.rev) W := by kernel_rfl
theorem load71z {w : World} {u : Nat} {o : OpD} {P : OpP} (h : w.rangeAt u 0 (opA o P).toList) : (loadVar 71 ⟨u, 0, none⟩).run Try.prog w = .ok (.agg (opA o P)) w := load71 h
theorem install_out (s : St) : s.install.out = s.out ∧ s.install.own = s.own ∧ s.install.n = s.n := by
  unfold St.install
  split <;> exact ⟨rfl, rfl, rfl⟩
theorem pr_inst (s : St) : prSame s.install.out (s.install.own.set.take s.install.n) (s.install.own.vec.take s.install.n) (siOf s).p (siOf s).ls (siOf s).lv = true := by
  obtain ⟨h1, h2, h3⟩ := install_out s
  rw [h1, h2, h3]
  exact prSame_refl _ _ _
theorem install_yes {s : St} (h : s.agreed.isSome = true) : s.install.vid = agV s.agreed ∧ s.install.mem = agM s.agreed ∧ s.install.opn = false ∧ agE s.agreed = 0 := by
  unfold St.install
  cases ha : s.agreed with
  | none => rw [ha] at h; cases h
  | some g => exact ⟨rfl, rfl, rfl, rfl⟩
theorem install_not {s : St} (h : s.agreed.isSome = false) : agE s.agreed = 61 := by
  cases ha : s.agreed with
  | none => rfl
  | some g => rw [ha] at h; cases h
theorem callS_inv {s : St} (hi : Inv s) (hr : RInv s) (o : OpD) : Inv (callS o s).2 ∧ RInv (callS o s).2 := by
  unfold callS
  split
  · exact ⟨estimate_inv hi _, estimate_rinv hr hi _⟩
  · split
    · exact ⟨take_inv hi _ _ _, take_rinv hr hi _ _ _⟩
    · exact ⟨hi, hr⟩
theorem callS_take {s : St} {o : OpD} (h2 : o.k = 2) (hi : Inv s) (h0 : (callS o s).1 = 0) : (callS o s).2.take o.q o.i o.p = (false, 51, (callS o s).2) := by
  have e : callS o s = ((s.take o.q o.i o.p).2.1, (s.take o.q o.i o.p).2.2) := by unfold callS; rw [if_neg (by omega), if_pos h2]
  rw [e] at h0 ⊢
  exact take_again hi h0
end Go.Proofs.Ytfbeggdbjpmppaa
/- MemberRefusals, where no agent is made. -/
namespace Go.Proofs.Ytfbeggdbjpmppaa
open Go.RowKit
set_option maxRecDepth 100000 in
set_option maxHeartbeats 4000000 in
theorem refuse_none (n s i f : Int) (A : Option Addr) (m c : Nat) (w : World) (h : newB n s i f = false ∨ (newB n s i f = true ∧ f = 4611686018427387904)) :
    Calls Try.prog 11 #[.agg (caseA n s i f A m c)] w fun x w' => x = .returned (.bool true) ∧ Below w.heap.size w w' := by
  obtain ⟨wA, hwA⟩ : ∃ wA, wA = w.alloc (.cells (caseA n s i f A m c) 59) := ⟨_, rfl⟩
  have hbA : Below w.heap.size w wA := by rw [hwA]; exact below_box1 _ _ _
  have zA : w.heap.size < wA.heap.size := by rw [hwA]; simp
  have oA : wA.rangeAt w.heap.size 0 (caseA n s i f A m c).toList := by rw [hwA]; exact range_new w (caseA n s i f A m c) 59
  obtain ⟨v, hv⟩ : ∃ v, v = w.heap.size := ⟨_, rfl⟩
  rw [← hv] at oA
  have key : Calls Try.prog 26 #[.agg (caseA n s i f A m c)] wA fun x w' => x = .returned (.tuple #[.pointer none, .bool true]) ∧ Below wA.heap.size wA w' := by
    rcases h with h | ⟨h, hf⟩
    · exact begun_no n s i f A m c wA h
    · exact begun_spent n s i f A m c wA h hf
  have c0 : wA.cell? ⟨v, 0, none⟩ = some (.int .i64 n) := oA 0 _ rfl
  have c1 : wA.cell? ⟨v, 1, none⟩ = some (.int .i64 s) := oA 1 _ rfl
  have c2 : wA.cell? ⟨v, 2, none⟩ = some (.int .i64 i) := oA 2 _ rfl
  have c3 : wA.cell? ⟨v, 3, none⟩ = some (.int .i64 f) := oA 3 _ rfl
  have c4 : wA.cell? ⟨v, 4, none⟩ = some (.slice A m c) := oA 4 _ rfl
  replace hbA := Lib.hid hbA
  replace oA := Lib.hid oA
  replace hwA := Lib.hid hwA
  replace hv := Lib.hid hv
  replace h := Lib.hid h
  replace key := Lib.hid key
  go_enter Try.func11, Try.ntmps11
  go_wp2_with fail
  rw [← hwA.out, ← hv.out]
  go_wp2_with (first
    | (go_at_call 26
       refine key.out.mono ?_
       rintro e w1 ⟨rfl, hb1⟩
       have b1 := Lib.hid (hbA.out.trans (hb1.mono (by omega)))
       clear hb1)
    | fail)
  go_ret
  exact ⟨rfl, b1.out⟩
end Go.Proofs.Ytfbeggdbjpmppaa
