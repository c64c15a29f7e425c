/- BkF OdMl OdMg, joined. -/
import Derived.Test.YtoilipfgimcoiaaGreatProg
import Derived.Shelf.SlLaysF0
import Derived.Shelf.SlGeneric
import Derived.Maps.RangeRun
import Derived.Shelf.SlSortCmp.WholeK
import Derived.Shelf.SlSortCmp.NoneTotal
import Derived.Test.YtoilipfgimcoiaaGreatOz3
import Derived.Test.YtoilipfgimcoiaaGreatOz11
import Derived.Test.YtoilipfgimcoiaaGreatOz16
set_option linter.unusedVariables false
set_option linter.unusedSimpArgs false
namespace Go.Proofs.YtoilipfgimcoiaaGreat
open Go Go.RowKit
theorem info4' : (Tryz.prog.info? 4).map (fun i => (i.zero, i.size, i.bytes)) = some (some (.bool false), 1, 1) := by kernel_rfl
theorem run_mk55 (W : World) (n : Nat) (hn : n ≤ 96) : (Instr.makeSlice 55 (.int .i64 n) (.int .i64 n)).run Tryz.prog W = .ok (.slice (some ⟨W.heap.size, 0, none⟩) n n) (W.alloc (.cells (madeCells #[.bool false] n) 4)) := by
 obtain ⟨i, hi, hz, hs, hb⟩ := info_parts info4'
 have := run_makeSlice (P := Tryz.prog) W 55 4 i _ Tryz.underlying55 hi hz .i64 .i64 n n (by omega) (by omega) (by rw [hs]; omega) (by rw [hb]; omega) (by omega)
 simpa [hs, Value.cells] using this
def flP (x : PgX) : PgX := if x.done = true then x else { x with l := pats x.id x.l.length, done := true }
theorem flP_t {x : PgX} (h : x.done = true) : flP x = x := if_pos h
theorem flP_f {x : PgX} (h : x.done = false) : flP x = { x with l := pats x.id x.l.length, done := true } := if_neg (by rw [h]; simp)
theorem mix_set {α : Type} {l : List α} {f : α → α} {i : Nat} {x : α} (hx : l[i]? = some x) : ((l.take i).map f ++ l.drop i).set i (f x) = (l.take (i + 1)).map f ++ l.drop (i + 1) := by
 have hi := (List.getElem?_eq_some_iff.1 hx).1
 have hd : l.drop i = x :: l.drop (i + 1) := by
   rw [List.drop_eq_getElem_cons hi]
   congr 1
   exact (List.getElem?_eq_some_iff.1 hx).2
 rw [take_one hx, List.map_append, hd, List.set_append_right _ _ (by rw [List.length_map, List.length_take]; omega), List.length_map, List.length_take, show i - min i l.length = 0 by omega]
 simp
theorem mix_same {α : Type} {l : List α} {f : α → α} {i : Nat} {x : α} (hx : l[i]? = some x) (hf : f x = x) : (l.take (i + 1)).map f ++ l.drop (i + 1) = (l.take i).map f ++ l.drop i := by
 have hi := (List.getElem?_eq_some_iff.1 hx).1
 have hd : l.drop i = x :: l.drop (i + 1) := by
   rw [List.drop_eq_getElem_cons hi]
   congr 1
   exact (List.getElem?_eq_some_iff.1 hx).2
 rw [take_one hx, List.map_append, hd]
 simp [hf]
theorem two_set {α : Type} {fs l : List α} {f : α → α} {i : Nat} {x : α} (y : α) (hl : fs.length = i) (hx : l[i]? = some x) : (fs ++ (l.drop i).map f).set i y = (fs ++ [y]) ++ (l.drop (i + 1)).map f := by
 have hi := (List.getElem?_eq_some_iff.1 hx).1
 have hd : l.drop i = x :: l.drop (i + 1) := by
   rw [List.drop_eq_getElem_cons hi]
   congr 1
   exact (List.getElem?_eq_some_iff.1 hx).2
 rw [hd, List.set_append_right _ _ (by omega), hl, Nat.sub_self]
 simp
def PgH (w : World) (K : Nat → Nat) (ρ : Nat) (x : PgX) : Prop := (x.done = true ∧ PgAt w K ρ x) ∨ (x.done = false ∧ OwnO w K ρ 1 eByte x.B x.c (pats x.id x.l.length) ∧ RowB w K 0 1 eByte x.W x.wl)
section
variable {K K' : Nat → Nat} {w w' : World} {ρ q g off : Nat} {X : BkX} {Q : Nat → Prop}
theorem PgH.ro {x : PgX} (h : PgH w K ρ x) (r : Ro Q K K' w w') (h1 : ¬ Q ρ) (h0 : ¬ Q 0) : PgH w' K' ρ x := by
 rcases h with ⟨e, h⟩ | ⟨e, h2, h3⟩
 · exact .inl ⟨e, h.ro r h1 h0⟩
 · exact .inr ⟨e, h2.ro r h1, h3.ro r h0⟩
theorem there_mid {c n i sz : Nat} (h : w.there g off (c * sz)) (hi : i < n) (hc : n ≤ c) : w.there g (off + i * sz) sz := fun j hj => by
 have : (i + 1) * sz ≤ c * sz := Nat.mul_le_mul_right _ (by omega)
 rw [Nat.add_mul, Nat.one_mul] at this
 have := h (i * sz + j) (by omega)
 rwa [← Nat.add_assoc] at this
structure StI (w1 : World) (K1 : Nat → Nat) (X : BkX) (τ bf i : Nat) (W : World) : Prop where
 row : OwnO W K1 2 5 ePg X.A X.c ((X.ps.take i).map flP ++ X.ps.drop i)
 lo : ∀ (p : Nat) (x : PgX), X.ps[p]? = some x → p < i → PgH W K1 (1000 + p) x
 hi : ∀ (p : Nat) (x : PgX), X.ps[p]? = some x → i ≤ p → PgAt W K1 (1000 + p) x
 fr : OwnO W K1 τ 1 eBo (some ⟨bf, 0, none⟩) X.ps.length ((X.ps.take i).map fun x => !x.done)
 ro : Ro (fun z => z = τ ∨ z = 2 ∨ (1000 ≤ z ∧ z < 1000 + X.ps.length)) K1 K1 w1 W
structure SgI (w1 : World) (K1 : Nat → Nat) (X : BkX) (τ bf i : Nat) (fs : List PgX) (Kk : Nat → Nat) (W : World) : Prop where
 fl : fs.length = i
 row : OwnO W Kk 2 5 ePg X.A X.c (fs ++ (X.ps.drop i).map flP)
 lo : ∀ (p : Nat) (x : PgX), fs[p]? = some x → PgAt W Kk (1000 + p) x ∧ PgOk x
 hi : ∀ (p : Nat) (x : PgX), X.ps[p]? = some x → i ≤ p → PgH W Kk (1000 + p) x
 fr : OwnO W Kk τ 1 eBo (some ⟨bf, 0, none⟩) X.ps.length (X.ps.map fun x => !x.done)
 ro : Ro (fun z => z = τ ∨ z = 2 ∨ (1000 ≤ z ∧ z < 1000 + X.ps.length)) K1 Kk w1 W
 kz : ∀ y, W.heap.size ≤ y → Kk y = 0
set_option maxRecDepth 100000 in
set_option maxHeartbeats 8000000 in
theorem bsettle_any (B : BookAt w K q g off X) (hq : q ≠ 2) (hq0 : q ≠ 0) (hq1 : ∀ p, q ≠ 1000 + p) :
   Calls Tryz.prog 21 #[.pointer (some ⟨g, off, none⟩)] w fun e w' => e = .returned (.bool true) ∧ ∃ X' K', BookAt w' K' q g off X' ∧ Ro (fun z => z = 2 ∨ (1000 ≤ z ∧ z < 1000 + X.ps.length)) K K' w w' ∧ X'.ps.length = X.ps.length ∧ X'.next = X.next := by
 refine calls_vc tab_ok Tryz.func21 rfl ?_
 have hlen := B.len
 conv => whnf
 repeat ((conv => whnf); first | refine Xt ?_ | refine Xq ?_ | refine Xn ?_ | refine Xj ?_ | refine Xo ?_); try (conv => whnf)
 refine VCall.mk _ (bintact_any B) ?_
 rintro _ w0 ⟨rfl, b0⟩
 refine ⟨_, rfl, ?_⟩
 have B0 := B.below b0
 have L0 := B0.l_pages (l := [g]) (by simp)
 have L1 := B0.l_ints (l := [g]) (by simp)
 have s0 := Sm.refl [g] w0
 repeat ((conv => whnf); first | refine Xl (L0.at s0) ?_ | refine Xt ?_ | refine Xq ?_ | refine Xn ?_ | refine Xj ?_ | refine Xo ?_); try (conv => whnf)
 obtain ⟨n, hn⟩ : ∃ n, n = X.ps.length := ⟨_, rfl⟩
 refine VW.run (v := .slice (some ⟨w0.heap.size, 0, none⟩) n n) (w' := w0.alloc (.cells (madeCells #[.bool false] n) 4)) (fun a ha => ?_) ?_
 · have h3 := ha (.tmp 16) _ rfl
   have := run_mk55 w0 n (by omega)
   rw [hn] at this ⊢
   simp only [execOp, h3, Sem.run_bind, Sem.run_pure, Result.andThen_ok]
   exact congrArg (fun z => Result.andThen z fun v w' => Result.ok (Next.value v) w') this
 have b1 : Below w0.heap.size w0 (w0.alloc (.cells (madeCells #[.bool false] n) 4)) := (Below.refl _ _).alloc (Nat.le_refl _) _
 have z1 : (w0.alloc (.cells (madeCells #[.bool false] n) 4)).heap.size = w0.heap.size + 1 := World.size_alloc _ _
 have t1 : (w0.alloc (.cells (madeCells #[.bool false] n) 4)).there w0.heap.size 0 n := by
   have := there_new w0 (madeCells #[.bool false] n) 4
   have e : (madeCells #[Value.bool false] n).size = n := by simp [madeCells]
   rwa [e] at this
 generalize w0.alloc (.cells (madeCells #[.bool false] n) 4) = w1 at b1 z1 t1 ⊢
 obtain ⟨bf, hbf⟩ : ∃ bf, bf = w0.heap.size := ⟨_, rfl⟩
 rw [← hbf] at t1 ⊢
 obtain ⟨p0, hp0⟩ := hiRole K w0.heap.size B0.kz
 obtain ⟨τ, hτ⟩ : ∃ τ, τ = p0 + q + 2000 := ⟨_, rfl⟩
 have hτK : ∀ y, K y ≠ τ := fun y => by have := hp0 y; omega
 obtain ⟨K1, hK1⟩ : ∃ K1 : Nat → Nat, K1 = fun y => if y = bf then τ else K y := ⟨_, rfl⟩
 have k1b : K1 bf = τ := by rw [hK1]; exact if_pos rfl
 have k1o : ∀ y, y ≠ bf → K1 y = K y := fun y hy => by rw [hK1]; exact if_neg hy
 have q1 : Ro (fun _ => False) K K1 w w1 := ((Ro.below b0).trans (Ro.below b1)).role fun y hy => k1o y (by have := b0.size; omega)
 have kz1 : ∀ y, w1.heap.size ≤ y → K1 y = 0 := fun y hy => (k1o y (by omega)).trans (B0.kz y (by omega))
 have B1 := B.ro q1 kz1 id id id fun _ _ => id
 have hqn : ¬ (q = τ ∨ q = 2 ∨ (1000 ≤ q ∧ q < 1000 + X.ps.length)) := fun e => by
   rcases e with e | e | ⟨e1, e2⟩
   · omega
   · exact hq e
   · exact hq1 (q - 1000) (by omega)
 have I0 : StI w1 K1 X τ bf 0 w1 := ⟨by simpa using B1.row, fun p x _ hp => absurd hp (by omega), fun p x hx _ => B1.pg p x hx, .inr ⟨bf, 0, rfl, by omega, k1b, by simp, by rw [Nat.mul_one, ← hn]; exact t1, fun k x hx => by simp at hx⟩, Ro.refl _ _ _⟩
 rw [hn]
 repeat ((conv => whnf); first | refine Xt ?_ | refine Xq ?_ | refine Xn ?_ | refine Xj ?_ | refine Xo ?_); try (conv => whnf)
 refine VLoop.mk Nat (fun i => [(0, .pointer (some ⟨g, off, none⟩)), (3, .slice (some ⟨bf, 0, none⟩) X.ps.length X.ps.length), (4, .int .i64 i)]) (fun i W => i ≤ X.ps.length ∧ StI w1 K1 X τ bf i W) (fun i => X.ps.length - i) 0 ⟨rfl, rfl, rfl, trivial⟩ ⟨Nat.zero_le _, I0⟩ ?_
 clear I0
 rintro i W ⟨hi, I⟩
 have gW : W.heap[g]? = w1.heap[g]? := I.ro.same g B1.hg (by rw [B1.kg]; exact hqn)
 have zW := I.ro.size
 have M0 : Ld Tryz.prog 30 g (addO off 0) (Sm [g] W) (.slice X.A X.ps.length X.c) := ⟨fun W' hW => load30 (B1.c rfl (l := [g]) (by simp) fun y hy => (hW y hy).trans (by rw [List.mem_singleton.1 hy]; exact gW))⟩
 have M1 : Ld Tryz.prog 31 g (addO off 1) (Sm [g] W) (.slice none 0 0) := ⟨fun W' hW => load31 (B1.c rfl (l := [g]) (by simp) fun y hy => (hW y hy).trans (by rw [List.mem_singleton.1 hy]; exact gW))⟩
 have sW := Sm.refl [g] W
 have hlm : ((X.ps.take i).map flP ++ X.ps.drop i).length = X.ps.length := by rw [List.length_append, List.length_map, List.length_take, List.length_drop]; omega
 by_cases hin : i < X.ps.length
 case pos =>
   obtain ⟨x, hx⟩ : ∃ x, X.ps[i]? = some x := ⟨_, List.getElem?_eq_getElem hin⟩
   have hxO := B.ok x (List.mem_of_getElem? hx)
   have hxm : ((X.ps.take i).map flP ++ X.ps.drop i)[i]? = some x := by rw [List.getElem?_append_right (by rw [List.length_map, List.length_take]; omega), List.length_map, List.length_take, List.getElem?_drop, show i + (i - min i X.ps.length) = i by omega]; exact hx
   obtain ⟨gP, oP, eP, gP1, gPk, gPc, gP4, gP5⟩ := I.row.get (by omega)
   rw [hlm] at gPc
   have M0' := M0
   rw [eP] at M0'
   have LD : Ld Tryz.prog 4 gP (addO (oP + mulO i 5) 4) (Eq W) (.bool x.done) := .of (load4 (by rw [addO_eq, mulO_eq]; exact gP5 i x hxm 4 _ rfl))
   obtain ⟨gf, of_, ef, gf1, gfk, gf4⟩ : ∃ gf of_, (some (⟨bf, 0, none⟩ : Addr)) = some ⟨gf, of_, none⟩ ∧ gf < W.heap.size ∧ K1 gf = τ ∧ W.there gf of_ (X.ps.length * 1) := by
     rcases I.fr with ⟨e, -⟩ | ⟨gf, of_, e, h1, h2, -, h4, -⟩
     · cases e
     · exact ⟨gf, of_, e, h1, h2, h4⟩
   injection ef with ef
   injection ef with e1 e2 _
   subst e1 e2
   have tfi := gf4 i (by omega)
   repeat ((conv => whnf); first | refine Xl (M0'.at sW) ?_ | refine Xl LD ?_ | refine Xt ?_ | refine Xq ?_ | refine Xn ?_ | refine Xj ?_ | refine Xo ?_); try (conv => whnf)
   refine VStore.cell (by kernel_rfl) (by rw [show 0 + mulO i 1 = 0 + i from rfl]; exact tfi.1) (by rw [show 0 + mulO i 1 = 0 + i from rfl]; exact tfi.2) rfl rfl fun w2 hw2 => ?_
   have hfl : ((X.ps.take i).map fun x : PgX => !x.done).length = i := by rw [List.length_map, List.length_take]; omega
   obtain ⟨F2, q2⟩ := I.fr.push (w' := w2) (fun _ => rfl) (by rw [hfl]; omega) (!x.done) (by rw [hw2.out, hfl, Nat.mul_one]; rfl)
   clear hw2
   have F2' : OwnO w2 K1 τ 1 eBo (some ⟨bf, 0, none⟩) X.ps.length ((X.ps.take (i + 1)).map fun x => !x.done) := by rw [take_one hx, List.map_append]; exact F2
   have z2 := q2.size
   have n2τ : ¬ (2 = τ) := by omega
   have row2 := I.row.ro q2 n2τ
   have lo2 : ∀ (p : Nat) (y : PgX), X.ps[p]? = some y → p < i → PgH w2 K1 (1000 + p) y := fun p y hy hp => (I.lo p y hy hp).ro q2 (by (have := (List.getElem?_eq_some_iff.1 hy).1); omega) (by omega)
   have hi2 : ∀ (p : Nat) (y : PgX), X.ps[p]? = some y → i ≤ p → PgAt w2 K1 (1000 + p) y := fun p y hy hp => (I.hi p y hy hp).ro q2 (by (have := (List.getElem?_eq_some_iff.1 hy).1); omega) (by omega)
   have ro2 := I.ro.trans (q2.more (R' := fun z => z = τ ∨ z = 2 ∨ (1000 ≤ z ∧ z < 1000 + X.ps.length)) fun z e => .inl e)
   have LF : Ld Tryz.prog 4 bf (0 + mulO i 1) (Eq w2) (.bool (!x.done)) := .of (load4 (by
     obtain ⟨gf', of', ef', -, -, -, -, h5⟩ := F2'.get (by rw [List.length_map, List.length_take]; omega)
     injection ef' with ef'
     injection ef' with e1 e2 _
     subst e1 e2
     have := h5 i (!x.done) (by rw [take_one hx, List.map_append, List.getElem?_append_right (by rw [hfl]; omega), hfl, Nat.sub_self]; rfl) 0 _ rfl
     rw [Nat.mul_one] at this
     exact this))
   cases hd : x.done with
   | true =>
     rw [hd] at LF
     repeat ((conv => whnf); first | refine Xl LF ?_ | refine Xt ?_ | refine Xq ?_ | refine Xn ?_ | refine Xj ?_ | refine Xo ?_); try (conv => whnf)
     refine .mk (i + 1) ⟨rfl, rfl, rfl, trivial⟩ ⟨hin, ⟨by rw [mix_same hx (flP_t hd)]; exact row2, fun p y hy hp => ?_, fun p y hy hp => hi2 p y hy (by omega), F2', ro2⟩⟩ (by show X.ps.length - (i + 1) < X.ps.length - i; omega)
     by_cases e : p = i
     · subst e
       rw [hx] at hy
       injection hy with hy
       subst hy
       exact .inl ⟨hd, hi2 p x hx (Nat.le_refl _)⟩
     · exact lo2 p y hy (by omega)
   | false =>
     rw [hd] at LF
     have g2W : w2.heap[g]? = W.heap[g]? := q2.same g (by have := B1.hg; omega) (by rw [B1.kg]; omega)
     have M2 : Ld Tryz.prog 30 g (addO off 0) (Eq w2) (.slice X.A X.ps.length X.c) := .of (load30 (B1.c rfl (l := [g]) (by simp) fun y hy => by rw [List.mem_singleton.1 hy]; exact g2W.trans gW))
     rw [eP] at M2
     repeat ((conv => whnf); first | refine Xl LF ?_ | refine Xl M2 ?_ | refine Xt ?_ | refine Xq ?_ | refine Xn ?_ | refine Xj ?_ | refine Xo ?_); try (conv => whnf)
     obtain ⟨gP', oP', eP', gP1', gPk', gPc', gP4', gP5'⟩ := row2.get (by omega)
     rw [eP] at eP'
     injection eP' with eP'
     injection eP' with e1 e2 _
     subst e1 e2
     have eo : oP + mulO i 5 = oP + i * 5 := by rw [mulO_eq]
     have PA := hi2 i x hx (Nat.le_refl _)
     refine VCall.mk _ (fill_any (ρ := 1000 + i) (q := 2) (x := x) (off := oP + mulO i 5) (fun j u hu => by rw [eo]; exact gP5' i x hxm j u hu) (by rw [eo]; exact there_mid gP4' hin gPc) gP1' gPk' (by omega) PA.b hxO.il hxO.ll) ?_
     rintro _ w3 ⟨rfl, r3, t3, A3, q3, o3⟩
     refine ⟨_, rfl, ?_⟩
     have z3 := q3.size
     have row3 : OwnO w3 K1 2 5 ePg X.A X.c ((X.ps.take (i + 1)).map flP ++ X.ps.drop (i + 1)) := by
       rw [← mix_set hx, eP]
       rw [eP] at row2
       exact row2.setOth ePg_len (by rw [hlm]; exact hin) (by rw [flP_f hd, ← eo]; exact r3) (by rw [← eo]; exact o3) z3 rfl
     have ro3 := ro2.trans (q3.more (R' := fun z => z = τ ∨ z = 2 ∨ (1000 ≤ z ∧ z < 1000 + X.ps.length)) fun z e => e.elim (fun e => .inr (.inr ⟨by omega, by omega⟩)) fun e => .inr (.inl e))
     repeat ((conv => whnf); first | refine Xt ?_ | refine Xq ?_ | refine Xn ?_ | refine Xj ?_ | refine Xo ?_); try (conv => whnf)
     refine .mk (i + 1) ⟨rfl, rfl, rfl, trivial⟩ ⟨hin, ⟨row3, fun p y hy hp => ?_, fun p y hy hp => (hi2 p y hy (by omega)).ro q3 (by omega) (by omega), F2'.ro q3 (by omega), ro3⟩⟩ (by show X.ps.length - (i + 1) < X.ps.length - i; omega)
     by_cases e : p = i
     · subst e
       rw [hx] at hy
       injection hy with hy
       subst hy
       exact .inr ⟨hd, A3, PA.w.ro q3 (by omega)⟩
     · exact (lo2 p y hy (by omega)).ro q3 (by omega) (by omega)
 obtain rfl : i = X.ps.length := by omega
 repeat ((conv => whnf); first | refine Xl (M0.at sW) ?_ | refine Xl (M1.at sW) ?_ | refine Xt ?_ | refine Xq ?_ | refine Xn ?_ | refine Xj ?_ | refine Xo ?_); try (conv => whnf)
 refine VW.run (v := .slice (some ⟨W.heap.size, 0, none⟩) 0 0) (w' := W.alloc (.cells (madeCells #[.bool false] 0) 4)) (fun a ha => ?_) ?_
 · have h3 := ha (.tmp 54) _ rfl
   have := run_mk55 W 0 (by omega)
   simp only [execOp, h3, Sem.run_bind, Sem.run_pure, Result.andThen_ok]
   exact congrArg (fun z => Result.andThen z fun v w' => Result.ok (Next.value v) w') this
 have b5 : Below W.heap.size W (W.alloc (.cells (madeCells #[.bool false] 0) 4)) := (Below.refl _ _).alloc (Nat.le_refl _) _
 generalize hV0 : W.alloc (.cells (madeCells #[.bool false] 0) 4) = V0 at b5 ⊢
 clear hV0
 have zV := b5.size
 have gV : V0.heap[g]? = w1.heap[g]? := (b5.block g (by have := B1.hg; omega)).trans gW
 have N1 : Ld Tryz.prog 31 g (addO off 1) (Eq V0) (.slice none 0 0) := .of (load31 (B1.c rfl (l := [g]) (by simp) fun y hy => by rw [List.mem_singleton.1 hy]; exact gV))
 repeat ((conv => whnf); first | refine Xt ?_ | refine Xq ?_ | refine Xn ?_ | refine Xj ?_ | refine Xo ?_); try (conv => whnf)
 refine VLoop.mk Unit (fun _ => [(0, .pointer (some ⟨g, off, none⟩)), (3, .slice (some ⟨bf, 0, none⟩) X.ps.length X.ps.length), (6, .int .i64 0)]) (fun _ V => V = V0) (fun _ => 0) () ⟨rfl, rfl, rfl, trivial⟩ rfl ?_
 rintro _ V rfl
 repeat ((conv => whnf); first | refine Xl N1 ?_ | refine Xt ?_ | refine Xq ?_ | refine Xn ?_ | refine Xj ?_ | refine Xo ?_); try (conv => whnf)
 have kzV : ∀ y, V.heap.size ≤ y → K1 y = 0 := fun y hy => kz1 y (by omega)
 have J0 : SgI w1 K1 X τ bf 0 [] K1 V := ⟨rfl, by
   have := I.row.ro (Ro.below (R := fun _ => False) b5) id
   simpa using this, fun p x hx => by simp at hx, fun p x hx _ => (I.lo p x hx (List.getElem?_eq_some_iff.1 hx).1).ro (Ro.below (R := fun _ => False) b5) id id, by
   have := I.fr.ro (Ro.below (R := fun _ => False) b5) id
   simpa using this, I.ro.trans (.below b5), kzV⟩
 refine VLoop.mk Nat (fun i => [(0, .pointer (some ⟨g, off, none⟩)), (3, .slice (some ⟨bf, 0, none⟩) X.ps.length X.ps.length), (7, .int .i64 i)]) (fun i W => i ≤ X.ps.length ∧ ∃ fs Kk, SgI w1 K1 X τ bf i fs Kk W) (fun i => X.ps.length - i) 0 ⟨rfl, rfl, rfl, trivial⟩ ⟨Nat.zero_le _, [], K1, J0⟩ ?_
 clear J0 I
 rintro i U ⟨hi, fs, Kk, J⟩
 have gU : U.heap[g]? = w1.heap[g]? := J.ro.same g B1.hg (by rw [B1.kg]; exact hqn)
 have zU := J.ro.size
 have P0 : Ld Tryz.prog 30 g (addO off 0) (Eq U) (.slice X.A X.ps.length X.c) := .of (load30 (B1.c rfl (l := [g]) (by simp) fun y hy => by rw [List.mem_singleton.1 hy]; exact gU))
 have P1 : Ld Tryz.prog 31 g (addO off 1) (Eq U) (.slice none 0 0) := .of (load31 (B1.c rfl (l := [g]) (by simp) fun y hy => by rw [List.mem_singleton.1 hy]; exact gU))
 have hlm : (fs ++ (X.ps.drop i).map flP).length = X.ps.length := by rw [List.length_append, List.length_map, List.length_drop, J.fl]; omega
 by_cases hin : i < X.ps.length
 case pos =>
   obtain ⟨x, hx⟩ : ∃ x, X.ps[i]? = some x := ⟨_, List.getElem?_eq_getElem hin⟩
   have hxO := B.ok x (List.mem_of_getElem? hx)
   have hxm : (fs ++ (X.ps.drop i).map flP)[i]? = some (flP x) := by rw [List.getElem?_append_right (by rw [J.fl]; omega), J.fl, Nat.sub_self, List.getElem?_map, List.getElem?_drop, Nat.add_zero, hx]; rfl
   obtain ⟨gP, oP, eP, gP1, gPk, gPc, gP4, gP5⟩ := J.row.get (by omega)
   rw [hlm] at gPc
   have LF : Ld Tryz.prog 4 bf (0 + mulO i 1) (Eq U) (.bool (!x.done)) := .of (load4 (by
     obtain ⟨gf', of', ef', -, -, -, -, h5⟩ := J.fr.get (by rw [List.length_map]; omega)
     injection ef' with ef'
     injection ef' with e1 e2 _
     subst e1 e2
     have := h5 i (!x.done) (by rw [List.getElem?_map, hx]; rfl) 0 _ rfl
     rw [Nat.mul_one] at this
     exact this))
   cases hd : x.done with
   | true =>
     rw [hd] at LF
     repeat ((conv => whnf); first | refine Xl P0 ?_ | refine Xl LF ?_ | refine Xt ?_ | refine Xq ?_ | refine Xn ?_ | refine Xj ?_ | refine Xo ?_); try (conv => whnf)
     have hxx : (fs ++ [x]) ++ (X.ps.drop (i + 1)).map flP = fs ++ (X.ps.drop i).map flP := by
       have hdr : X.ps.drop i = x :: X.ps.drop (i + 1) := by
         rw [List.drop_eq_getElem_cons hin]
         congr 1
         exact (List.getElem?_eq_some_iff.1 hx).2
       rw [hdr, List.map_cons, flP_t hd]; simp
     refine .mk (i + 1) ⟨rfl, rfl, rfl, trivial⟩ ⟨hin, fs ++ [x], Kk, ⟨by rw [List.length_append, J.fl]; rfl, by rw [hxx]; exact J.row, fun p y hy => ?_, fun p y hy hp => J.hi p y hy (by omega), J.fr, J.ro, J.kz⟩⟩ (by show X.ps.length - (i + 1) < X.ps.length - i; omega)
     by_cases e : p < i
     · rw [List.getElem?_append_left (by rw [J.fl]; exact e)] at hy
       exact J.lo p y hy
     · have hp2 := (List.getElem?_eq_some_iff.1 hy).1
       rw [List.length_append, List.length_singleton, J.fl] at hp2
       obtain rfl : p = i := by omega
       rw [List.getElem?_append_right (by rw [J.fl]; omega), J.fl, Nat.sub_self] at hy
       injection hy with hy
       subst hy
       rcases J.hi p x hx (Nat.le_refl _) with ⟨-, h2⟩ | ⟨h2, -⟩
       · exact ⟨h2, hxO⟩
       · rw [hd] at h2; cases h2
   | false =>
     rw [hd] at LF
     obtain ⟨hA, hW⟩ : OwnO U Kk (1000 + i) 1 eByte x.B x.c (pats x.id x.l.length) ∧ RowB U Kk 0 1 eByte x.W x.wl := by
       rcases J.hi i x hx (Nat.le_refl _) with ⟨h2, -⟩ | ⟨-, h2⟩
       · rw [hd] at h2; cases h2
       · exact h2
     have P0' := P0
     rw [eP] at P0'
     repeat ((conv => whnf); first | refine Xl P0' ?_ | refine Xl LF ?_ | refine Xt ?_ | refine Xq ?_ | refine Xn ?_ | refine Xj ?_ | refine Xo ?_); try (conv => whnf)
     obtain ⟨x4, hx4⟩ : ∃ x4 : PgX, x4 = flP x := ⟨_, rfl⟩
     have f4 := hx4.trans (flP_f hd)
     have e4B : x4.B = x.B := by rw [f4]
     have e4c : x4.c = x.c := by rw [f4]
     have e4l : x4.l = pats x.id x.l.length := by rw [f4]
     have e4i : x4.id = x.id := by rw [f4]
     have e4W : x4.W = x.W := by rw [f4]
     have e4w : x4.wl = x.wl := by rw [f4]
     have e4d : x4.done = true := by rw [f4]
     rw [← hx4] at hxm
     have eo : oP + mulO i 5 = oP + i * 5 := by rw [mulO_eq]
     refine VCall.mk _ (pgrow_any (ρ := 1000 + i) (q := 2) (x := x4) (off := oP + mulO i 5) (fun j u hu => by rw [eo]; exact gP5 i x4 hxm j u hu) (by rw [eo]; exact there_mid gP4 hin gPc) gP1 gPk (by omega) J.kz (by rw [e4B, e4c, e4l]; exact hA) (by rw [e4i]; exact hxO.il) (by rw [e4l, pats_len]; exact hxO.ll)) ?_
     rintro _ w5 ⟨rfl, G, gc, K5, r5, t5, A5, G5, q5, kz5, o5⟩
     refine ⟨_, rfl, ?_⟩
     have z5 := q5.size
     obtain ⟨x5, hx5⟩ : ∃ x5 : PgX, x5 = { x4 with G := G, gc := gc, gl := x4.l ++ pats (x4.id + 100000) 64 } := ⟨_, rfl⟩
     rw [← hx5] at r5
     have row5 : OwnO w5 K5 2 5 ePg X.A X.c ((fs ++ [x5]) ++ (X.ps.drop (i + 1)).map flP) := by
       rw [← two_set x5 J.fl hx, eP]
       have row2 := J.row
       rw [eP] at row2
       exact row2.setOth ePg_len (by rw [hlm]; exact hin) (by rw [← eo]; exact r5) (by rw [← eo]; exact o5) z5 (q5.kk gP gP1)
     have P6 : PgAt w5 K5 (1000 + i) x5 := by rw [hx5]; exact ⟨A5, G5, by show RowB w5 K5 0 1 eByte x4.W x4.wl; rw [e4W, e4w]; exact hW.ro q5 (by omega)⟩
     have O6 : PgOk x5 := by
       have e3 : x5.l = pats x.id x.l.length := by rw [hx5]; exact e4l
       have e7 : x5.id = x.id := by rw [hx5]; exact e4i
       refine ⟨by rw [e7]; exact hxO.il, by rw [e3, pats_len]; exact hxO.ll, .inr ⟨by rw [hx5]; exact e4d, by rw [e3, e7, pats_len], ?_⟩⟩
       rw [e3, e7, pats_len, hx5]
       show x4.l ++ pats (x4.id + 100000) 64 = _
       rw [e4l, e4i]
     have ro5 := J.ro.trans (q5.more (R' := fun z => z = τ ∨ z = 2 ∨ (1000 ≤ z ∧ z < 1000 + X.ps.length)) fun z e => e.elim (fun e => .inr (.inr ⟨by omega, by omega⟩)) fun e => .inr (.inl e))
     repeat ((conv => whnf); first | refine Xt ?_ | refine Xq ?_ | refine Xn ?_ | refine Xj ?_ | refine Xo ?_); try (conv => whnf)
     refine .mk (i + 1) ⟨rfl, rfl, rfl, trivial⟩ ⟨hin, fs ++ [x5], K5, ⟨by rw [List.length_append, J.fl]; rfl, row5, fun p y hy => ?_, fun p y hy hp => (J.hi p y hy (by omega)).ro q5 (by omega) (by omega), J.fr.ro q5 (by omega), ro5, kz5⟩⟩ (by show X.ps.length - (i + 1) < X.ps.length - i; omega)
     by_cases e : p < i
     · rw [List.getElem?_append_left (by rw [J.fl]; exact e)] at hy
       obtain ⟨h1, h2⟩ := J.lo p y hy
       exact ⟨h1.ro q5 (by omega) (by omega), h2⟩
     · have hp2 := (List.getElem?_eq_some_iff.1 hy).1
       rw [List.length_append, List.length_singleton, J.fl] at hp2
       obtain rfl : p = i := by omega
       rw [List.getElem?_append_right (by rw [J.fl]; omega), J.fl, Nat.sub_self] at hy
       injection hy with hy
       subst hy
       exact ⟨P6, O6⟩
 obtain rfl : i = X.ps.length := by omega
 have hfl : fs.length = X.ps.length := J.fl
 have rowE : OwnO U Kk 2 5 ePg X.A X.c fs := by
   have := J.row
   rw [List.drop_length] at this
   simpa using this
 have q1U : Ro (fun z => z = 2 ∨ (1000 ≤ z ∧ z < 1000 + X.ps.length)) K Kk w U := by
   have q' : Ro (fun z => z = τ ∨ z = 2 ∨ (1000 ≤ z ∧ z < 1000 + X.ps.length)) K Kk w U := (q1.more fun _ e => e.elim).trans J.ro
   exact q'.less fun y _ hn e => e.elim (hτK y) hn
 have BE : BookAt U Kk q g off { X with ps := fs } := ⟨by have := B1.hg; omega, (J.ro.kk g B1.hg).trans B1.kg, by
   have e : eBk { X with ps := fs } = eBk X := by unfold eBk; rw [hfl]
   rw [e]; exact range_same B1.rg gU, there_same B1.th gU, rowE, fun p x hx => (J.lo p x hx).1, fun x hx => by
   obtain ⟨p, hp⟩ := List.mem_iff_getElem?.1 hx
   exact (J.lo p x hp).2, by show fs.length ≤ 96; omega, J.kz⟩
 repeat ((conv => whnf); first | refine Xl P0 ?_ | refine Xt ?_ | refine Xq ?_ | refine Xn ?_ | refine Xj ?_ | refine Xo ?_); try (conv => whnf)
 refine VLoop.mk Unit (fun _ => [(0, .pointer (some ⟨g, off, none⟩)), (8, .int .i64 0)]) (fun _ V => V = U) (fun _ => 0) () ⟨rfl, rfl, trivial⟩ rfl ?_
 rintro _ V2 hV2
 subst hV2
 repeat ((conv => whnf); first | refine Xl P1 ?_ | refine Xt ?_ | refine Xq ?_ | refine Xn ?_ | refine Xj ?_ | refine Xo ?_); try (conv => whnf)
 refine VCall.mk _ (bintact_any BE) ?_
 rintro _ w9 ⟨rfl, b9⟩
 refine ⟨_, rfl, ?_⟩
 repeat ((conv => whnf); first | refine Xt ?_ | refine Xq ?_ | refine Xn ?_ | refine Xj ?_ | refine Xo ?_); try (conv => whnf)
 exact .mk ⟨rfl, _, Kk, BE.below b9, q1U.trans (.below b9), hfl, rfl⟩
end
end Go.Proofs.YtoilipfgimcoiaaGreat
namespace Go.Proofs.YtoilipfgimcoiaaGreat
open Go.Shelf
def sortD_ren : Go.Shelf.Ren := ⟨fun | 6 => 79 | 15 => 120 | 14 => 119 | 28 => 136 | 29 => 137 | 20 => 128 | 21 => 129 | 22 => 130 | 23 => 131 | 24 => 132 | 25 => 133 | 26 => 134 | 27 => 135 | 46 => 139 | 47 => 140 | 48 => 141 | 49 => 142 | 50 => 143 | 57 => 144 | n => n, fun | 22 => 60 | 24 => 44 | 25 => 123 | 3 => 3 | 39 => 145 | 0 => 0 | 53 => 150 | 55 => 165 | 4 => 4 | 46 => 157 | 45 => 156 | 50 => 161 | 5 => 5 | 9 => 9 | 66 => 167 | 70 => 171 | 76 => 173 | 77 => 98 | n => n, fun | n => n⟩
theorem sortD : Go.Proofs.SlLaysF0.n6 Tryz.prog sortD_ren := {
 mixed := by kernel_rfl
 f6 := ⟨Tryz.f79.name, by decide, Tryz.func79.trans (congrArg some (by kernel_rfl))⟩
 f14 := ⟨Tryz.f119.name, by decide, Tryz.func119.trans (congrArg some (by kernel_rfl))⟩
 f15 := Tryz.func120.trans (congrArg some (by kernel_rfl))
 f20 := ⟨Tryz.f128.name, by decide, Tryz.func128.trans (congrArg some (by kernel_rfl))⟩
 f21 := ⟨Tryz.f129.name, by decide, Tryz.func129.trans (congrArg some (by kernel_rfl))⟩
 f22 := ⟨Tryz.f130.name, by decide, Tryz.func130.trans (congrArg some (by kernel_rfl))⟩
 f23 := ⟨Tryz.f131.name, by decide, Tryz.func131.trans (congrArg some (by kernel_rfl))⟩
 f24 := ⟨Tryz.f132.name, by decide, Tryz.func132.trans (congrArg some (by kernel_rfl))⟩
 f25 := ⟨Tryz.f133.name, by decide, Tryz.func133.trans (congrArg some (by kernel_rfl))⟩
 f26 := ⟨Tryz.f134.name, by decide, Tryz.func134.trans (congrArg some (by kernel_rfl))⟩
 f27 := ⟨Tryz.f135.name, by decide, Tryz.func135.trans (congrArg some (by kernel_rfl))⟩
 f28 := Tryz.func136.trans (congrArg some (by kernel_rfl))
 f29 := Tryz.func137.trans (congrArg some (by kernel_rfl))
 f46 := ⟨Tryz.f139.name, by decide, Tryz.func139.trans (congrArg some (by kernel_rfl))⟩
 f47 := Tryz.func140.trans (congrArg some (by kernel_rfl))
 f48 := Tryz.func141.trans (congrArg some (by kernel_rfl))
 f49 := ⟨Tryz.f142.name, by decide, Tryz.func142.trans (congrArg some (by kernel_rfl))⟩
 f50 := ⟨Tryz.f143.name, by decide, Tryz.func143.trans (congrArg some (by kernel_rfl))⟩
 f57 := ⟨Tryz.f144.name, by decide, Tryz.func144.trans (congrArg some (by kernel_rfl))⟩
 t0 := Tryz.underlying0
 a0 := Tryz.isAgg0
 z0 := Tryz.sizeOf0
 v0 := Tryz.zeroValue0
 t3 := Tryz.underlying3
 a3 := Tryz.isAgg3
 z3 := Tryz.sizeOf3
 v3 := Tryz.zeroValue3
 t4 := Tryz.underlying4
 a4 := Tryz.isAgg4
 z4 := Tryz.sizeOf4
 v4 := Tryz.zeroValue4
 t5 := Tryz.underlying5
 a5 := Tryz.isAgg5
 z5 := Tryz.sizeOf5
 v5 := Tryz.zeroValue5
 t9 := Tryz.underlying9
 a9 := Tryz.isAgg9
 z9 := Tryz.sizeOf9
 v9 := Tryz.zeroValue9
 t22 := Tryz.underlying60
 a22 := Tryz.isAgg60
 z22 := Tryz.sizeOf60
 v22 := Tryz.zeroValue60
 t25 := Tryz.underlying123
 a25 := Tryz.isAgg123
 z25 := Tryz.sizeOf123
 v25 := Tryz.zeroValue123
 t39 := Tryz.underlying145
 a39 := Tryz.isAgg145
 z39 := Tryz.sizeOf145
 v39 := Tryz.zeroValue145
 t45 := Tryz.underlying156
 a45 := Tryz.isAgg156
 z45 := Tryz.sizeOf156
 v45 := Tryz.zeroValue156
 t46 := Tryz.underlying157
 a46 := Tryz.isAgg157
 z46 := Tryz.sizeOf157
 v46 := Tryz.zeroValue157
 t50 := Tryz.underlying161
 a50 := Tryz.isAgg161
 z50 := Tryz.sizeOf161
 v50 := Tryz.zeroValue161
 t53 := Tryz.underlying150
 a53 := Tryz.isAgg150
 z53 := Tryz.sizeOf150
 v53 := Tryz.zeroValue150
 t55 := Tryz.underlying165
 a55 := Tryz.isAgg165
 z55 := Tryz.sizeOf165
 v55 := Tryz.zeroValue165
 t66 := Tryz.underlying167
 a66 := Tryz.isAgg167
 z66 := Tryz.sizeOf167
 v66 := Tryz.zeroValue167
 t70 := Tryz.underlying171
 a70 := Tryz.isAgg171
 z70 := Tryz.sizeOf171
 v70 := Tryz.zeroValue171
 t76 := Tryz.underlying173
 a76 := Tryz.isAgg173
 z76 := Tryz.sizeOf173
 v76 := Tryz.zeroValue173
 t77 := Tryz.underlying98
 a77 := Tryz.isAgg98
 z77 := Tryz.sizeOf98
 v77 := Tryz.zeroValue98 }
end Go.Proofs.YtoilipfgimcoiaaGreat
namespace Go.Proofs.YtoilipfgimcoiaaGreat
open Go Go.RowKit
theorem one_eDx (x : DtX) : ∀ u ∈ eDx x, u.oneCell' = true := by
 intro u hu
 simp [eDx] at hu
 rcases hu with rfl | rfl | rfl | rfl <;> rfl
theorem info71 : (Tryz.prog.info? 44).map (fun i => (i.zero, i.size, i.bytes)) = some (some zero71, 4, 48) := by kernel_rfl
theorem bs57 (W : World) (d : Dt) (A : Option Addr) (c n : Nat) : (Instr.buildSlice 60 1 #[(0, .agg (dtA d A c n))]).run Tryz.prog W = .ok (.slice (some ⟨W.heap.size, 0, none⟩) 1 1) (W.alloc (.cells (dtA d A c n) 44)) := by kernel_rfl
theorem nodup_len : ∀ (n : Nat) (l : List Nat), l.Nodup → (∀ j ∈ l, j < n) → l.length ≤ n
 | 0, l, _, h => by
   cases l with
   | nil => exact Nat.le_refl _
   | cons a l => exact absurd (h a List.mem_cons_self) (by omega)
 | n + 1, l, hn, h => by
   by_cases hm : n ∈ l
   · have := nodup_len n (l.erase n) (hn.erase n) fun j hj => by
       obtain ⟨h1, h2⟩ := hn.mem_erase_iff.1 hj
       have := h j h2
       omega
     rw [List.length_erase_of_mem hm] at this
     omega
   · have := nodup_len n l hn fun j hj => by
       have h1 := h j hj
       have h2 : j ≠ n := fun e => hm (e ▸ hj)
       omega
     omega
def bornAt (es : Array MapEntry) (j : Nat) : Nat := ((es.toList[j]?).map (·.born)).getD 0
structure MgI (w : World) (r0 bm : Nat) (es : Array MapEntry) (clock : Nat) (hl : List DtX) (js : List Nat) (A : Option Addr) (c : Nat) (xs : List DtX) (K : Nat → Nat) (W : World) : Prop where
 be : Below w.heap.size w W
 it : W.heap[r0]? = some (.mapIter (some bm) clock (js.map fun j => bornAt es j).toArray clock)
 ki : K r0 = 401
 kz : ∀ y, W.heap.size ≤ y → K y = 0
 own : OwnO W K 400 4 eDx A c xs
 ag : ∀ g, blk A = some g → w.heap.size ≤ g
 bod : ∀ x ∈ xs, OwnO W K 0 1 eByte x.A x.c x.d.b ∧ ∀ g, blk x.A = some g → w.heap.size ≤ g
 ap : Apart (xs.map (·.A))
 ds : xs.map (·.d) = js.map (dAt hl)
 nd : js.Nodup
 lt : ∀ j ∈ js, j < hl.length
 old : ∀ k, k < w.heap.size → K k = 0
instance : Inhabited DtX := ⟨⟨dt0, none, 0⟩⟩
instance (x y : Dt) : Decidable (ltD x y) := by unfold ltD; exact inferInstance
def cfD (x y : DtX) : Int := cmpD x.d y.d
theorem lt_cfD (x y : DtX) : Go.Proofs.ltOf cfD x y = decide (ltD x.d y.d) := by
 unfold Go.Proofs.ltOf cfD
 by_cases h : ltD x.d y.d
 · rw [decide_eq_true h, decide_eq_true ((cmpD_lt _ _).2 h)]
 · rw [decide_eq_false h, decide_eq_false (fun e => h ((cmpD_lt _ _).1 e))]
theorem swoD : Go.Sort.SWO (Go.Proofs.ltOf cfD) where
 irrefl x := by rw [lt_cfD]; exact decide_eq_false (ltD_irrefl _)
 trans x y z h1 h2 := by
   rw [lt_cfD] at *
   exact decide_eq_true (ltD_trans (of_decide_eq_true h1) (of_decide_eq_true h2))
 ntrans x y z h1 h2 := by
   rw [lt_cfD] at *
   have h1 := of_decide_eq_false h1
   have h2 := of_decide_eq_false h2
   refine decide_eq_false ?_
   unfold ltD at *
   omega
theorem sort_block {enc : DtX → List Value} {k : Nat} (V : World) (g off n : Nat) (d : Array DtX) (os : Array Obj) {y : Nat} (hy : y < V.heap.size) (hne : y ≠ g) : (Go.Proofs.sortWorldK enc k V g off n d os).heap[y]? = V.heap[y]? := by
 unfold Go.Proofs.sortWorldK Go.Sort.grow Go.Sort.putRowK Go.Sort.putRow Go.Sort.mapBlock Go.Sort.ahead
 show (Array.modify V.heap g _ ++ os)[y]? = _
 rw [Array.getElem?_append_left (by simpa using hy), Array.getElem?_modify, if_neg (fun e => hne e.symm)]
theorem sort_there {enc : DtX → List Value} {k : Nat} (V : World) (g off n : Nat) (d : Array DtX) (os : Array Obj) {o m : Nat} (hg : g < V.heap.size) (h : V.there g o m) : (Go.Proofs.sortWorldK enc k V g off n d os).there g o m := fun j hj => by
 obtain ⟨h1, h2⟩ := h j hj
 have hh : (Go.Proofs.sortWorldK enc k V g off n d os).heap[g]? = (V.heap[g]?).map (Go.Sort.onCells (Go.Sort.putCells id off (Go.Sort.flatK enc k d))) := by
   unfold Go.Proofs.sortWorldK Go.Sort.grow Go.Sort.putRowK Go.Sort.putRow Go.Sort.mapBlock Go.Sort.ahead
   show (Array.modify V.heap g _ ++ os)[g]? = _
   rw [Array.getElem?_append_left (by simpa using hg), Array.getElem?_modify, if_pos rfl]
 cases hc : V.heap[g]? with
 | none => simp [World.cell?, hc] at h1
 | some ob =>
   rw [hc, Option.map_some] at hh
   cases ob with
   | cells cur e fz =>
     have hcur : (V.cell? ⟨g, o + j, none⟩) = cur[o + j]? := by simp [World.cell?, hc]
     rw [hcur] at h1
     have hlt : o + j < cur.size := by
       rcases Nat.lt_or_ge (o + j) cur.size with hl | hl
       · exact hl
       · rw [Array.getElem?_eq_none hl] at h1; cases h1
     have hfz : V.frozen? ⟨g, o + j, none⟩ = (decide (fz.1 ≤ o + j) && decide (o + j < fz.2)) := by simp [World.frozen?, hc]
     rw [hfz] at h2
     refine ⟨?_, ?_⟩
     · have : ((Go.Proofs.sortWorldK enc k V g off n d os).cell? ⟨g, o + j, none⟩) = (Go.Sort.putCells id off (Go.Sort.flatK enc k d) cur)[o + j]? := by simp [World.cell?, hh, Go.Sort.onCells]
       rw [this, Array.getElem?_eq_getElem (by unfold Go.Sort.putCells; rw [Array.size_mapIdx]; exact hlt)]; rfl
     · have : (Go.Proofs.sortWorldK enc k V g off n d os).frozen? ⟨g, o + j, none⟩ = (decide (fz.1 ≤ o + j) && decide (o + j < fz.2)) := by simp [World.frozen?, hh, Go.Sort.onCells]
       rw [this, h2]
   | _ => simp [World.cell?, hc] at h1
theorem holds_row {A : Option Addr} {c g off : Nat} {V : World} {K : Nat → Nat} {xs : List DtX} (how : OwnO V K 400 4 eDx (some ⟨g, off, none⟩) c xs) : Go.Sort.HoldsK eDx 4 V g off xs.toArray := by
 rcases how with ⟨e, -, -⟩ | ⟨g', off', e, h1, h2, h3, h4, h5⟩
 · cases e
 injection e with e
 injection e with e1 e2 _
 subst e1 e2
 intro j hj
 rw [Go.Sort.size_flatK] at hj
 have hj4 : j < xs.length * 4 := by simpa using hj
 rw [Go.Sort.get_flatK _ _ _ _ hj]
 have hq : j / 4 < xs.length := by omega
 have hx : xs[j / 4]? = some xs[j / 4] := List.getElem?_eq_getElem hq
 have e1 : xs.toArray[j / 4]! = xs[j / 4] := by simp [hq]
 rw [e1]
 have hlen : (eDx xs[j / 4]).length = 4 := rfl
 have hr : j % 4 < (eDx xs[j / 4]).length := by rw [hlen]; omega
 have e2 : (eDx xs[j / 4])[j % 4]! = (eDx xs[j / 4])[j % 4] := by simp [hr]
 rw [e2]
 refine ⟨?_, (h4 j (by omega)).2⟩
 have := h5 (j / 4) _ hx (j % 4) _ (List.getElem?_eq_getElem hr)
 rw [show off + j = off + j / 4 * 4 + j % 4 by omega]
 exact this
section
variable {w w' : World} {K K' : Nat → Nat} {r b : Nat} {o : Os} {X : OsX}
set_option maxRecDepth 100000 in
set_option maxHeartbeats 8000000 in
theorem messages_any (A : OrdAt w K r b o X) (W : WfO o) (hbl : ∀ d ∈ o.held, d.b.length ≤ 1000000) (hhl : o.held.length ≤ 1000000) :
   Calls Tryz.prog 26 #[.pointer (some ⟨b, 0, none⟩)] w fun e w' => ∃ A' c' xs, e = .returned (.slice A' xs.length c') ∧ NewO w' w.heap.size 4 eDx A' c' xs ∧ (∀ x ∈ xs, NewO w' w.heap.size 1 eByte x.A x.c x.d.b) ∧ Apart (A' :: xs.map (·.A)) ∧ MsgOf o.held (xs.map (·.d)) ∧ Below w.heap.size w w' := by
 refine calls_vc tab_ok Tryz.func26 rfl ?_
 have hbz := A.cs.hb
 obtain ⟨es, clock, hm, hes, hborn⟩ := A.rs.map
 have hkey := Keys.of W A.rs.hd
 have hhd := A.rs.hd
 have hbm : X.hb < w.heap.size := (Array.getElem?_eq_some_iff.1 hm).1
 have hsz : es.toList.length = X.hl.length := by have := congrArg List.length hes; simpa using this
 have hhl' : X.hl.length ≤ 1000000 := by rw [← hhd, List.length_map] at hhl; exact hhl
 have LM := A.l_held (l := [b]) (by simp)
 conv => whnf
 repeat ((conv => whnf); first | refine Xl (LM.at (Sm.refl _ _)) ?_ | refine Xt ?_ | refine Xq ?_ | refine Xn ?_ | refine Xj ?_ | refine Xo ?_); try (conv => whnf)
 refine VW.run (v := .pointer (some ⟨w.heap.size, 0, none⟩)) (w' := w.alloc (.mapIter (some X.hb) clock #[] clock)) (fun a ha => ?_) ?_
 · have h3 := ha (.tmp 9) _ rfl
   have := run_range_map (P := Tryz.prog) w 113 46 44 X.hb es clock Tryz.underlying113 hm
   simp only [execOp, h3, Sem.run_bind, Sem.run_pure, Result.andThen_ok]
   exact congrArg (fun z => Result.andThen z fun v w' => Result.ok (Next.value v) w') this
 obtain ⟨r0, hr0⟩ : ∃ r0, r0 = w.heap.size := ⟨_, rfl⟩
 have b0 : Below w.heap.size w (w.alloc (.mapIter (some X.hb) clock #[] clock)) := (Below.refl _ _).alloc (Nat.le_refl _) _
 have z0 : (w.alloc (.mapIter (some X.hb) clock #[] clock)).heap.size = w.heap.size + 1 := World.size_alloc _ _
 have i0 : (w.alloc (.mapIter (some X.hb) clock #[] clock)).heap[r0]? = some (.mapIter (some X.hb) clock #[] clock) := by rw [hr0]; exact World.alloc_heap_new w _
 rw [← hr0]
 generalize w.alloc (.mapIter (some X.hb) clock #[] clock) = w0 at b0 z0 i0 ⊢
 obtain ⟨K0, hK0⟩ : ∃ K0 : Nat → Nat, K0 = fun y => if y = r0 then 401 else 0 := ⟨_, rfl⟩
 have k0r : K0 r0 = 401 := by rw [hK0]; exact if_pos rfl
 have k0o : ∀ y, y ≠ r0 → K0 y = 0 := fun y hy => by rw [hK0]; exact if_neg hy
 have I0 : MgI w r0 X.hb es clock X.hl [] none 0 [] K0 w0 := ⟨b0, i0, k0r, fun y hy => k0o y (by omega), OwnO.nil _ _ _ _ _, (fun g hg => by cases hg), fun x hx => (List.not_mem_nil hx).elim, List.nodup_nil, rfl, List.nodup_nil, fun j hj => (List.not_mem_nil hj).elim, fun k hk => k0o k (by omega)⟩
 repeat ((conv => whnf); first | refine Xt ?_ | refine Xq ?_ | refine Xn ?_ | refine Xj ?_ | refine Xo ?_); try (conv => whnf)
 refine VLoop.mk (Option Addr × Nat × List DtX) (fun u => [(0, .pointer (some ⟨b, 0, none⟩)), (3, .slice u.1 u.2.2.length u.2.1), (10, .pointer (some ⟨r0, 0, none⟩))]) (fun u V => ∃ js Kk, MgI w r0 X.hb es clock X.hl js u.1 u.2.1 u.2.2 Kk V) (fun u => X.hl.length - u.2.2.length) (none, 0, []) ⟨rfl, rfl, rfl, trivial⟩ ⟨[], K0, I0⟩ ?_
 rintro ⟨A1, c1, xs⟩ V ⟨js, Kk, I⟩
 have hmV : V.heap[X.hb]? = some (.map es clock) := (I.be.block X.hb hbm).trans hm
 have hxj : xs.length = js.length := by have := congrArg List.length I.ds; simpa using this
 have hold : ∀ x ∈ es.toList, x.born < clock := hborn.2
 have hzV := I.be.size
 have hr0V : r0 < V.heap.size := (Array.getElem?_eq_some_iff.1 I.it).1
 have hjl : js.length ≤ X.hl.length := nodup_len _ _ I.nd I.lt
 obtain ⟨seen, hseen⟩ : ∃ seen, seen = (js.map fun j => bornAt es j).toArray := ⟨_, rfl⟩
 have hit := I.it
 rw [← hseen] at hit
 have hesj : ∀ j, j < X.hl.length → ∃ e x, es.toList[j]? = some e ∧ X.hl[j]? = some x ∧ e.val = vDt x ∧ e.key = kSl x.d.sl := fun j hj => by
   obtain ⟨e, he⟩ : ∃ e, es.toList[j]? = some e := ⟨_, List.getElem?_eq_getElem (by omega)⟩
   obtain ⟨x, hx, h1, h2⟩ := HMap.ent hes he
   exact ⟨e, x, he, hx, h2, h1⟩
 have hcont : ∀ e ∈ es.toList, (seen.contains e.born = true ↔ ∃ j ∈ js, es.toList[j]? = some e) := fun e he => by
   rw [Array.contains_iff_mem, hseen, List.mem_toArray, List.mem_map]
   constructor
   · rintro ⟨j, hj, h1⟩
     obtain ⟨e', x, h2, -, -, -⟩ := hesj j (I.lt j hj)
     unfold bornAt at h1
     rw [h2] at h1
     have h1 : e'.born = e.born := h1
     obtain ⟨p, hp⟩ := List.mem_iff_getElem?.1 he
     have : j = p := by
       have hn := hborn.1
       have g1 : (es.toList.map (·.born))[j]? = some e'.born := by rw [List.getElem?_map, h2]; rfl
       have g2 : (es.toList.map (·.born))[p]? = some e.born := by rw [List.getElem?_map, hp]; rfl
       rw [h1] at g1
       obtain ⟨k1, k2⟩ := List.getElem?_eq_some_iff.1 g1
       obtain ⟨k3, k4⟩ := List.getElem?_eq_some_iff.1 g2
       exact (List.getElem_inj (h₀ := k1) (h₁ := k3) hn).1 (k2.trans k4.symm)
     subst this
     exact ⟨j, hj, hp⟩
   · rintro ⟨j, hj, h1⟩
     exact ⟨j, hj, by unfold bornAt; rw [h1]; rfl⟩
 rcases run_next_at (P := Tryz.prog) V 0 r0 X.hb clock clock seen es clock hit hmV hold (Nat.le_refl _) with ⟨hnone, hrun⟩ | ⟨e, he, V1, hV1, hrun⟩
 · have hall : ∀ j, j < X.hl.length → j ∈ js := fun j hj => by
     obtain ⟨e, x, h1, -⟩ := hesj j hj
     have hme := List.mem_of_getElem? h1
     have hc : seen.contains e.born = true := Classical.byContradiction fun hc => by
       have : e ∈ (leftOf es seen).toList := by unfold leftOf; simp; exact ⟨by simpa using hme, by simpa using hc⟩
       rw [Array.eq_empty_of_size_eq_zero hnone] at this
       simp at this
     obtain ⟨p, hp, h2⟩ := (hcont e hme).1 hc
     have : j = p := by
       have hn := hborn.1
       have g1 : (es.toList.map (·.born))[j]? = some e.born := by rw [List.getElem?_map, h1]; rfl
       have g2 : (es.toList.map (·.born))[p]? = some e.born := by rw [List.getElem?_map, h2]; rfl
       obtain ⟨k1, k2⟩ := List.getElem?_eq_some_iff.1 g1
       obtain ⟨k3, k4⟩ := List.getElem?_eq_some_iff.1 g2
       exact (List.getElem_inj (h₀ := k1) (h₁ := k3) hn).1 (k2.trans k4.symm)
     rw [this]; exact hp
   repeat ((conv => whnf); first | refine Xt ?_ | refine Xq ?_ | refine Xn ?_ | refine Xj ?_ | refine Xo ?_); try (conv => whnf)
   refine VW.run (v := .tuple #[.bool false]) (w' := V) (fun a ha => ?_) ?_
   · have h3 := ha (.tmp 10) _ rfl
     simp only [execOp, h3, Sem.run_bind, Sem.run_pure, Result.andThen_ok]
     exact congrArg (fun z => Result.andThen z fun v w' => Result.ok (Next.value v) w') hrun
   repeat ((conv => whnf); first | refine Xt ?_ | refine Xq ?_ | refine Xn ?_ | refine Xj ?_ | refine Xo ?_); try (conv => whnf)
   have hperm : (xs.map (·.d)).Perm o.held := by
     rw [I.ds, ← hhd, ← dAt_all]
     exact (perm_nodup js (List.range X.hl.length) I.nd List.nodup_range fun a => ⟨fun ha => List.mem_range.2 (I.lt a ha), fun ha => hall a (List.mem_range.1 ha)⟩).map _
   cases hxs : xs with
   | nil =>
     subst hxs
     refine VCall.mk _ (Go.Proofs.AnyF.slices_SortFunc_none sortD A1 c1 (.func (.func 80) #[] #[]) V) ?_
     rintro _ x5 ⟨rfl, e5⟩
     subst x5
     refine ⟨_, rfl, ?_⟩
     repeat ((conv => whnf); first | refine Xt ?_ | refine Xq ?_ | refine Xn ?_ | refine Xj ?_ | refine Xo ?_); try (conv => whnf)
     subst hr0
     exact .mk ⟨A1, c1, [], rfl, .of I.own I.ag, fun x hx => (List.not_mem_nil hx).elim, (match A1 with | none => List.nodup_nil | some _ => List.pairwise_singleton _ _), ⟨hperm, List.Pairwise.nil⟩, I.be⟩
   | cons x0 xt =>
     rw [← hxs]
     have hown := I.own
     obtain ⟨g, off, rfl, hgV, kg⟩ : ∃ g off, A1 = some ⟨g, off, none⟩ ∧ g < V.heap.size ∧ Kk g = 400 := by
       rcases hown with ⟨-, e, -⟩ | ⟨g, off, e, h1, h2, -⟩
       · have e : xs = [] := e
         rw [hxs] at e; cases e
       · exact ⟨g, off, e, h1, h2⟩
     have hgw : w.heap.size ≤ g := I.ag g rfl
     have hH := holds_row (A := none) hown
     have eg : ∀ args W, (callFunc 80 args).run Tryz.prog W = .ok (.enter 80 args) W := Go.Proofs.enters_of Tryz.func80 (by kernel_rfl) rfl
     have hxl : xs.length ≤ 1000000 := by omega
     have hcmp : Go.Proofs.CmpLays Tryz.prog 80 #[] eDx 4 cfD g off xs.toArray.size V := fun m os dk _ x y => by
       refine (cmpD_any x.d y.d x.A y.A x.c y.c x.d.b.length y.d.b.length _).mono fun e W' ⟨h1, _, h3⟩ => ⟨h1, h3⟩
     have hcon := Go.Proofs.AnyQ.slices_SortFunc sortD 4 Tryz.isAgg44 Tryz.sizeOf44 eDx (fun _ => rfl) (fun x v hv => one_eDx x v hv) cfD swoD 80 #[] g off c1 xs.toArray V eg hcmp hH hgV (by simp; omega)
     refine VCall.mk _ (show Calls Tryz.prog 79 #[.slice (some ⟨g, off, none⟩) xs.length c1, .func (.func 80) #[] #[]] V _ from hcon) ?_
     rintro _ V' ⟨rfl, d', n', os', hp, hso, rfl⟩
     refine ⟨_, rfl, ?_⟩
     have hsz' : d'.size = xs.length := by have := hp.1; simpa using this
     have hpl : d'.toList.Perm xs := by
       have := hp.2.2
       simp at this
       rwa [List.take_of_length_le (by simpa using Nat.le_of_eq hsz')] at this
     have hH' := Go.Proofs.holdsK_sortWorldK_c eDx 4 V g off xs.toArray d' n' os' hH hgV (by simpa using hsz')
     have hblk : ∀ y, y < V.heap.size → y ≠ g → (Go.Proofs.sortWorldK eDx 4 V g off n' d' os').heap[y]? = V.heap[y]? := fun y hy hne => sort_block V g off n' d' os' hy hne
     have hsize := Go.Proofs.size_sortWorldK_c eDx 4 V g off n' d' os'
     have hl' : xs.length = d'.toList.length := hsz'.symm.trans (Array.length_toList (xs := d')).symm
     repeat ((conv => whnf); first | refine Xt ?_ | refine Xq ?_ | refine Xn ?_ | refine Xj ?_ | refine Xo ?_); try (conv => whnf)
     subst hr0
     refine .mk ⟨some ⟨g, off, none⟩, c1, d'.toList, by rw [← hl']; rfl, .inr ⟨g, off, rfl, hgw, by omega, ?_, ?_, fun k x hx j u hu => ?_⟩, fun x hx => ?_, ?_, ⟨(hpl.map _).trans hperm, ?_⟩, ⟨I.be.os, I.be.tape, I.be.output, by omega, fun y hy => (hblk y (by omega) (by omega)).trans (I.be.block y hy)⟩⟩
     · rw [← hl']
       rcases hown with ⟨e, -⟩ | ⟨g', off', e, -, -, h3, -⟩
       · cases e
       · exact h3
     · rcases hown with ⟨e, -⟩ | ⟨g', off', e, -, -, -, h4, -⟩
       · cases e
       · injection e with e
         injection e with e1 e2 _
         subst e1 e2
         exact sort_there V g off n' d' os' hgV h4
     · have hk : k < d'.size := by have := (List.getElem?_eq_some_iff.1 hx).1; simpa using this
       have hj : j < 4 := (List.getElem?_eq_some_iff.1 hu).1
       have := (hH' (k * 4 + j) (by rw [Go.Sort.size_flatK]; omega)).1
       rw [Go.Sort.get_flatK _ _ _ _ (by omega), show (k * 4 + j) / 4 = k by omega, show (k * 4 + j) % 4 = j by omega] at this
       have e1 : d'[k]! = x := by
         rw [Array.getElem?_toList] at hx
         rw [Array.getElem!_eq_getD, Array.getD_eq_getD_getElem?, hx]; rfl
       rw [e1] at this
       have e2 : (eDx x)[j]! = u := by
         rw [List.getElem!_eq_getElem?_getD, hu]; rfl
       rw [e2] at this
       rw [Nat.add_assoc]
       exact this
     · obtain ⟨h1, h2⟩ := I.bod x (hpl.mem_iff.1 hx)
       refine (NewO.of h1 h2).same (by omega) fun g1 hg1 => hblk g1 (h1.rl g1 hg1).1 fun e => ?_
       have := (h1.rl g1 hg1).2
       rw [e, kg] at this; omega
     · have hp1 : (d'.toList.map (·.A)).Perm (xs.map (·.A)) := hpl.map _
       show (g :: (d'.toList.map (·.A)).filterMap blk).Nodup
       rw [List.nodup_cons]
       refine ⟨fun hm => ?_, (hp1.filterMap blk).nodup_iff.2 I.ap⟩
       obtain ⟨a, ha, hb⟩ := List.mem_filterMap.1 ((hp1.filterMap blk).mem_iff.1 hm)
       obtain ⟨x, hx, rfl⟩ := List.mem_map.1 ha
       have := ((I.bod x hx).1.rl g hb).2
       rw [kg] at this; omega
     · have hnd : (d'.toList.map (·.d.sl)).Nodup := by
         have h1 : (d'.toList.map (·.d)).Perm o.held := (hpl.map _).trans hperm
         have h2 := (h1.map Dt.sl).nodup_iff.2 W.nd
         rwa [List.map_map] at h2
       rw [List.pairwise_map, List.pairwise_iff_getElem]
       intro i j hi hj hij
       have hi' : i < d'.size := by simpa using hi
       have hj' : j < d'.size := by simpa using hj
       have := hso i j (Nat.zero_le _) hij (by simpa [hsz'] using hj')
       rw [getElem!_pos d' i hi', getElem!_pos d' j hj', lt_cfD] at this
       have h3 := of_decide_eq_false this
       have h4 : d'[i].d.sl ≠ d'[j].d.sl := fun e => by
         have := (List.getElem_inj (xs := d'.toList.map (·.d.sl)) (h₀ := by simpa using hi) (h₁ := by simpa using hj) hnd).1 (by simpa using e)
         omega
       simpa using ltD_tri h3 h4
 · repeat ((conv => whnf); first | refine Xt ?_ | refine Xq ?_ | refine Xn ?_ | refine Xj ?_ | refine Xo ?_); try (conv => whnf)
   refine VW.run (v := .tuple #[.bool true, e.key, e.val]) (w' := ChangeMaps.setBlock V1 r0 (.mapIter (some X.hb) clock (seen.push e.born) clock)) (fun a ha => ?_) ?_
   · have h3 := ha (.tmp 10) _ rfl
     simp only [execOp, h3, Sem.run_bind, Sem.run_pure, Result.andThen_ok]
     exact congrArg (fun z => Result.andThen z fun v w' => Result.ok (Next.value v) w') hrun
   have heL : e ∈ es.toList ∧ seen.contains e.born = false := by
     unfold leftOf at he
     simp only [Array.toList_filter, List.mem_filter] at he
     exact ⟨he.1, by simpa using he.2⟩
   obtain ⟨j, hj⟩ := List.mem_iff_getElem?.1 heL.1
   have hjn : j < X.hl.length := by rw [← hsz]; exact (List.getElem?_eq_some_iff.1 hj).1
   have hjs : j ∉ js := fun hm => by
     have := (hcont e heL.1).2 ⟨j, hm, hj⟩
     rw [heL.2] at this; cases this
   obtain ⟨e', x, h1, hxj', hval, -⟩ := hesj j hjn
   obtain rfl : e = e' := Option.some.inj (hj.symm.trans h1)
   have hxm := List.mem_of_getElem? hxj'
   have hr0V1 : r0 < V1.heap.size := by rcases hV1 with e1 | e1 <;> rw [e1] <;> exact hr0V
   obtain ⟨g2, i2⟩ := setB (w := V1) (b := r0) (.mapIter (some X.hb) clock (seen.push e.born) clock) hr0V1
   obtain ⟨V2, hV2⟩ : ∃ V2, V2 = ChangeMaps.setBlock V1 r0 (.mapIter (some X.hb) clock (seen.push e.born) clock) := ⟨_, rfl⟩
   rw [← hV2] at g2 i2 ⊢
   have bV1 : Below V.heap.size V V1 := by rcases hV1 with e1 | e1 <;> rw [e1]; exact Below.refl _ _; exact (Below.refl _ _).drew
   have q12 : Ro (· = 401) Kk Kk V V2 := (Ro.below bV1).trans (Ro.grown g2 fun k hk => by injection hk with hk; rw [← hk]; exact I.ki)
   have bV2 : Below w.heap.size w V2 := (I.be.trans (bV1.mono I.be.size)).grown g2 (by have := bV1.size; omega) fun k hk => by injection hk with hk; omega
   have zV2 : V2.heap.size = V.heap.size := by
     have : V1.heap.size = V.heap.size := by rcases hV1 with e1 | e1 <;> rw [e1]; rfl
     rw [hV2]; simp [ChangeMaps.setBlock, this]
   clear hV2
   have hm2 : V2.heap[X.hb]? = some (.map es clock) := (bV2.block X.hb hbm).trans hm
   refine VW.run (v := .tuple #[e.key, e.val]) (w' := V2) (fun a ha => ?_) ?_
   · have h3 := ha (.tmp 10) _ rfl
     have hre := run_entry_at (P := Tryz.prog) V2 r0 X.hb clock seen es clock e i2 hm2 heL.1 hborn.1
     simp only [execOp, h3, Sem.run_bind, Sem.run_pure, Result.andThen_ok]
     exact congrArg (fun z => Result.andThen z fun v w' => Result.ok (Next.value v) w') hre
   have ev : e.val = .agg (dtA x.d x.A x.c x.d.b.length) := hval
   rw [ev]
   repeat ((conv => whnf); first | refine Xt ?_ | refine Xq ?_ | refine Xn ?_ | refine Xj ?_ | refine Xo ?_); try (conv => whnf)
   refine .mk _ run_zero71 ?_
   conv => whnf
   refine .mk fun u3 hu3 => ?_
   repeat ((conv => whnf); first | refine Xt ?_ | refine Xq ?_ | refine Xn ?_ | refine Xj ?_ | refine Xo ?_); try (conv => whnf)
   obtain ⟨bt, hbt⟩ : ∃ bt, bt = V2.heap.size := ⟨_, rfl⟩
   refine VStore.new (c' := dtA x.d x.A x.c x.d.b.length) hu3 (by kernel_rfl) rfl (one_dtA _ _ _ _) fun V3 hV3 => ?_
   have b3 : Below V2.heap.size V2 V3 := by rw [hV3.out]; exact (Below.refl _ _).alloc (Nat.le_refl _) _
   have z3 : V3.heap.size = V2.heap.size + 1 := by rw [hV3.out]; exact World.size_alloc _ _
   have r3 : V3.rangeAt bt 0 (dtA x.d x.A x.c x.d.b.length).toList := by rw [hV3.out, hbt]; exact range_new V2 _ 44
   have t3 : V3.there bt 0 4 := by rw [hV3.out, hbt]; exact there_new V2 _ _
   rw [← hbt]
   clear hu3 hV3
   clear u3
   have LB : Ld Tryz.prog 42 bt 3 (Eq V3) (.slice x.A x.d.b.length x.c) := .of (load27 (r3 3 _ rfl))
   have bV3 : Below w.heap.size w V3 := bV2.trans (b3.mono bV2.size)
   have hxl : x.d.b.length ≤ 1000000 := hbl x.d (by rw [← hhd]; exact List.mem_map.2 ⟨x, hxm, rfl⟩)
   have hxR : RowAt V3 V3.heap.size 1 eByte x.A x.d.b := ((A.rs.bod x hxm).ro (Ro.below (R := fun _ => False) bV3) id).row
   repeat ((conv => whnf); first | refine Xl LB ?_ | refine Xt ?_ | refine Xq ?_ | refine Xn ?_ | refine Xj ?_ | refine Xo ?_); try (conv => whnf)
   refine VApp.copyO V3.heap.size 1 1 _ Tryz.underlying42 info5 rfl (by decide) eByte (fun _ => rfl) one_eByte x.d.b rfl hxR (by omega) (by omega) (Nat.le_refl _) (fun ga hga => by cases hga) fun B4 c4 V4 n4 b4 => ?_
   have t4 := there_same t3 (b4.block bt (by omega))
   have r4 := range_same r3 (b4.block bt (by omega))
   repeat ((conv => whnf); first | refine Xt ?_ | refine Xq ?_ | refine Xn ?_ | refine Xj ?_ | refine Xo ?_); try (conv => whnf)
   refine VStore.cell (by kernel_rfl) (by have := (t4 3 (by omega)).1; rwa [Nat.zero_add] at this) (by have := (t4 3 (by omega)).2; rwa [Nat.zero_add] at this) rfl rfl fun V5 hV5 => ?_
   obtain ⟨r5, -⟩ := rng_cell (l' := (dtA x.d B4 c4 x.d.b.length).toList) (j := 3) r4 t4 rfl (by omega) hV5.out rfl
   have g5 : V4.grownBy V5 (some bt) := by rw [hV5.out]; exact grown_cell _ _ _ _
   have z5 : V5.heap.size = V4.heap.size := by rw [hV5.out, World.size_setCell]
   have z4 := b4.size
   clear hV5
   have LD : Ld Tryz.prog 44 bt 0 (Eq V5) (.agg (dtA x.d B4 c4 x.d.b.length)) := .of (load_agg (by kernel_rfl) (by kernel_rfl) r5)
   repeat ((conv => whnf); first | refine Xl LD ?_ | refine Xt ?_ | refine Xq ?_ | refine Xn ?_ | refine Xj ?_ | refine Xo ?_); try (conv => whnf)
   have b25 : Below V2.heap.size V2 V5 := (b3.trans (b4.mono b3.size)).grown g5 (by omega) fun k hk => by injection hk with hk; omega
   have n5 : NewO V5 V3.heap.size 1 eByte B4 c4 x.d.b := n4.same (by omega) fun g hg => g5.block g (n4.lo' g hg).2 fun e => by injection e with e; have := n4.lo' g hg; omega
   have bV5 : Below w.heap.size w V5 := bV2.trans (b25.mono bV2.size)
   have q25 : Ro (· = 401) Kk Kk V V5 := q12.trans (Ro.below b25)
   have kz5 : ∀ y, V5.heap.size ≤ y → Kk y = 0 := fun y hy => I.kz y (by omega)
   have R5 : OwnO V5 Kk 0 1 eByte B4 c4 x.d.b := n5.own fun g hg => I.kz g (by have := n5.lo' g hg; omega)
   refine VBs.mk _ _ (bs57 V5 x.d B4 c4 x.d.b.length) ?_
   have b6 : Below V5.heap.size V5 (V5.alloc (.cells (dtA x.d B4 c4 x.d.b.length) 44)) := (Below.refl _ _).alloc (Nat.le_refl _) _
   have hnc : ∀ j u, (eDx ⟨x.d, B4, c4⟩)[j]? = some u → (V5.alloc (.cells (dtA x.d B4 c4 x.d.b.length) 44)).cell? ⟨V5.heap.size, j, none⟩ = some u := fun j u hu => by
     have := range_new V5 (dtA x.d B4 c4 x.d.b.length) 44 j u hu
     rwa [Nat.zero_add] at this
   have z6 : (V5.alloc (.cells (dtA x.d B4 c4 x.d.b.length) 44)).heap.size = V5.heap.size + 1 := World.size_alloc _ _
   generalize V5.alloc (.cells (dtA x.d B4 c4 x.d.b.length) 44) = V6 at b6 hnc z6 ⊢
   have q26 : Ro (· = 401) Kk Kk V V6 := q25.trans (Ro.below b6)
   have own6 := I.own.ro q26 (by decide)
   have hxsl : xs.length ≤ 1000000 := by omega
   repeat ((conv => whnf); first | refine Xt ?_ | refine Xq ?_ | refine Xn ?_ | refine Xj ?_ | refine Xo ?_); try (conv => whnf)
   refine VApp.off 4 48 _ Tryz.underlying60 info71 rfl (by decide) eDx (fun _ => rfl) one_eDx xs ⟨x.d, B4, c4⟩ rfl own6 hnc (fun y hy => I.kz y (by omega)) (show xs.length + 1 ≤ 9223372036854775807 by omega) (show (xs.length + 1) * 48 ≤ 140737488355328 by omega) fun A7 c7 K7 V7 o7 q7 kz7 => ?_
   repeat ((conv => whnf); first | refine Xt ?_ | refine Xq ?_ | refine Xn ?_ | refine Xj ?_ | refine Xo ?_); try (conv => whnf)
   have z7 := q7.size
   have hag : ∀ g, blk A7 = some g → w.heap.size ≤ g := fun g hg => by
     rcases Nat.lt_or_ge g w.heap.size with hlt | hge
     · exfalso
       have h1 := (o7.rl g hg).2
       rw [q7.kk g (by omega)] at h1
       have := I.old g hlt
       omega
     · exact hge
   have ebj : bornAt es j = e.born := by unfold bornAt; rw [hj]; rfl
   have seen_ : (seen.push e.born) = ((js ++ [j]).map fun j => bornAt es j).toArray := by
     rw [List.map_append, hseen, List.map_singleton, ebj]
     simp
   have hnd' : (js ++ [j]).Nodup := List.nodup_append.2 ⟨I.nd, by simp, fun a ha c hc => by rw [List.mem_singleton.1 hc]; exact fun e => hjs (e ▸ ha)⟩
   have hlt' : ∀ a ∈ js ++ [j], a < X.hl.length := fun a ha => by
     rcases List.mem_append.1 ha with h | h
     · exact I.lt a h
     · rw [List.mem_singleton.1 h]; exact hjn
   have hlen' := nodup_len _ _ hnd' hlt'
   rw [List.length_append, List.length_singleton] at hlen'
   refine .mk (A7, c7, xs ++ [⟨x.d, B4, c4⟩]) ⟨rfl, by show _ = some (Value.slice A7 (xs ++ [_]).length c7); rw [List.length_append]; rfl, rfl, trivial⟩ ⟨js ++ [j], K7, ?_⟩ (by show X.hl.length - (xs ++ [_]).length < X.hl.length - xs.length; rw [List.length_append, List.length_singleton]; omega)
   have bV7 : Below w.heap.size w V7 := ⟨q7.os.trans (bV5.trans (b6.mono bV5.size)).os, q7.tape.trans (bV5.trans (b6.mono bV5.size)).tape, q7.output.trans (bV5.trans (b6.mono bV5.size)).output, by omega, fun k hk => (q7.same k (by omega) (by rw [I.old k hk]; decide)).trans ((bV5.trans (b6.mono bV5.size)).block k hk)⟩
   refine ⟨bV7, ?_, (q7.kk r0 (by omega)).trans I.ki, kz7, o7, hag, fun y hy => ?_, ?_, ?_, ?_, fun a ha => ?_, fun k hk => (q7.kk k (by omega)).trans (I.old k hk)⟩
   · rw [← seen_]
     refine ((q7.same r0 (by omega) (by rw [I.ki]; decide)).trans ?_)
     exact (b6.block r0 (by omega)).trans ((b25.block r0 (by omega)).trans i2)
   · rcases List.mem_append.1 hy with hy | hy
     · obtain ⟨h1, h2⟩ := I.bod y hy
       exact ⟨(h1.ro q26 (by decide)).ro q7 (by decide), h2⟩
     · rw [List.mem_singleton.1 hy]
       exact ⟨(R5.ro (Ro.below (R := fun _ => False) b6) id).ro q7 (by decide), fun g hg => by have := n5.lo' g hg; omega⟩
   · show (((xs ++ [(⟨x.d, B4, c4⟩ : DtX)]).map (·.A)).filterMap blk).Nodup
     rw [List.map_append, List.filterMap_append, List.nodup_append]
     refine ⟨I.ap, ?_, fun a ha c hc e => ?_⟩
     · cases B4 with
       | none => exact List.nodup_nil
       | some _ => exact List.pairwise_singleton _ _
     · obtain ⟨a1, ha1, ha2⟩ := List.mem_filterMap.1 ha
       obtain ⟨x1, hx1, rfl⟩ := List.mem_map.1 ha1
       obtain ⟨c1', hc1, hc2⟩ := List.mem_filterMap.1 hc
       rw [List.map_singleton, List.mem_singleton] at hc1
       subst hc1
       have h1 := ((I.bod x1 hx1).1.rl a ha2).1
       have h2 := n5.lo' c hc2
       omega
   · rw [List.map_append, List.map_append, I.ds]
     show _ ++ [x.d] = _ ++ [dAt X.hl j]
     unfold dAt
     rw [hxj']; rfl
   · exact hnd'
   · exact hlt' a ha
end
end Go.Proofs.YtoilipfgimcoiaaGreat
